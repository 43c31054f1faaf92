/-
  Written by wip/tools/gen.py: what the walk of each function asks, in plain form, and that it is enough.
-/
import Derived.Test.YtnmaojkkfbajcaaGreatFxf
import Derived.Test.YtnmaojkkfbajcaaGreatProg
import Derived.KernelRfl
namespace Go.Proofs.YtnmaojkkfbajcaaGreat
set_option maxRecDepth 100000

theorem prog_mixed : Tryz.prog.follows .mixedOrders = true := by kernel_rfl
theorem prog_ngB : (Tryz.prog.funcs.toList.all fun fn => !(fn.name == "runtime.NumGoroutine")) = true := by kernel_rfl
theorem prog_ng : NoNG Tryz.prog := by
  intro f fn hf
  have h1 := List.all_eq_true.1 prog_ngB fn (by
    have := Array.getElem?_eq_some_iff.1 hf
    obtain ⟨h, e⟩ := this
    rw [← e]; simp)
  simpa using h1

@[reducible] def ty_ : TypeId := 0
@[reducible] def ty_int : TypeId := 3
@[reducible] def ty_uint8 : TypeId := 5
@[reducible] def ty_string : TypeId := 9
@[reducible] def ty_uint64 : TypeId := 22
@[reducible] def ty_fathomlaw01_Step : TypeId := 24
@[reducible] def ty_sl_fathomlaw01_Step : TypeId := 25
@[reducible] def ty_sl_int : TypeId := 27
@[reducible] def ty_sl_uint8 : TypeId := 36
@[reducible] def ty_sl_string : TypeId := 37
@[reducible] def ty_sl_fathomref01_File : TypeId := 48
@[reducible] def ty_fathomref01_Disk : TypeId := 50
@[reducible] def ty_sl_fathomref01_Write : TypeId := 51
@[reducible] def ty_fathomref01_File : TypeId := 53
@[reducible] def ty_maparr_string_ptr_disk_file : TypeId := 59
@[reducible] def ty_disk_crash : TypeId := 61
@[reducible] def ty_disk_Disk : TypeId := 63
@[reducible] def ty_sl_disk_sheet : TypeId := 68
@[reducible] def ty_sl_disk_mark : TypeId := 69
@[reducible] def ty_disk_file : TypeId := 71
@[reducible] def ty_disk_sheet : TypeId := 86
@[reducible] def ty_disk_mark : TypeId := 88
@[reducible] def ty_fathomref01_Write : TypeId := 95

@[reducible] def fathomlaw01_DiskKnown.no : FuncId := 3
@[reducible] def fathomlaw01_DiskPlays.no : FuncId := 4
@[reducible] def fathomlaw01_DiskKeeps.no : FuncId := 5
@[reducible] def fathomlaw01_DiskQuota.no : FuncId := 6
@[reducible] def fathomlaw01_DiskCrashes.no : FuncId := 7
@[reducible] def disk_New.no : FuncId := 8
@[reducible] def disk_Disk_Create.no : FuncId := 9
@[reducible] def disk_Disk_List.no : FuncId := 10
@[reducible] def fathomlaw01_DiskNone.no : FuncId := 11
@[reducible] def fathomlaw01_works.no : FuncId := 12
@[reducible] def fathomref01_New.no : FuncId := 13
@[reducible] def fathomkit_Pick.no : FuncId := 14
@[reducible] def disk_Disk_Copy.no : FuncId := 15
@[reducible] def fathomref01_Disk_Copy.no : FuncId := 16
@[reducible] def fathomlaw01_plays.no : FuncId := 17
@[reducible] def fathomlaw01_tells.no : FuncId := 18
@[reducible] def disk_Disk_Restart.no : FuncId := 19
@[reducible] def fathomref01_Disk_Restart.no : FuncId := 20
@[reducible] def fathomref01_File_Pages.no : FuncId := 21
@[reducible] def fathomlaw01_run.no : FuncId := 22
@[reducible] def fathomlaw01_files.no : FuncId := 23
@[reducible] def disk_Disk_Crash.no : FuncId := 24
@[reducible] def fathomlaw01_own.no : FuncId := 25
@[reducible] def disk_Disk_Sync.no : FuncId := 26
@[reducible] def fathomlaw01_pages.no : FuncId := 27
@[reducible] def disk_Disk_Used.no : FuncId := 28
@[reducible] def disk_Disk_Most.no : FuncId := 29
@[reducible] def disk_Disk_Quota.no : FuncId := 30
@[reducible] def disk_Disk_Ops.no : FuncId := 31
@[reducible] def disk_Disk_Down.no : FuncId := 32
@[reducible] def disk_Disk_ready.no : FuncId := 33
@[reducible] def disk_named.no : FuncId := 34
@[reducible] def disk_Disk_change.no : FuncId := 35
@[reducible] def slices_Sorted_string.no : FuncId := 36
@[reducible] def maps_Keys_map_string_ptr_disk_file_string_ptr_disk_file.no : FuncId := 37
@[reducible] def disk_Disk_Read.no : FuncId := 38
@[reducible] def disk_Disk_Len.no : FuncId := 39
@[reducible] def disk_Disk_Write.no : FuncId := 40
@[reducible] def fathomlaw01_Step_bytes.no : FuncId := 41
@[reducible] def disk_Disk_Rename.no : FuncId := 42
@[reducible] def disk_Disk_Remove.no : FuncId := 43
@[reducible] def disk_file_clone.no : FuncId := 44
@[reducible] def fathomref01_Disk_Create.no : FuncId := 45
@[reducible] def fathomref01_Disk_Write.no : FuncId := 46
@[reducible] def fathomref01_Disk_Read.no : FuncId := 47
@[reducible] def fathomref01_Disk_Len.no : FuncId := 48
@[reducible] def fathomref01_Disk_Sync.no : FuncId := 49
@[reducible] def fathomref01_Disk_Rename.no : FuncId := 50
@[reducible] def fathomref01_Disk_Remove.no : FuncId := 51
@[reducible] def fathomref01_Disk_Crash.no : FuncId := 52
@[reducible] def fathomkit_SameTexts.no : FuncId := 53
@[reducible] def fathomref01_Disk_List.no : FuncId := 54
@[reducible] def fathomref01_Disk_Used.no : FuncId := 55
@[reducible] def slices_Sort_sl_int_int.no : FuncId := 56
@[reducible] def slices_Clone_sl_disk_sheet_disk_sheet.no : FuncId := 57
@[reducible] def slices_BinarySearch_sl_int_int.no : FuncId := 58
@[reducible] def disk_put.no : FuncId := 59
@[reducible] def fathomref01_Disk_rank.no : FuncId := 60
@[reducible] def fathomref01_put.no : FuncId := 61
@[reducible] def disk_Disk_open.no : FuncId := 62
@[reducible] def slices_Collect_string.no : FuncId := 63
@[reducible] def slices_Sort_sl_string_string.no : FuncId := 64
@[reducible] def maps_Keys_map_string_ptr_disk_file_string_ptr_disk_file_c1.no : FuncId := 65
@[reducible] def slices_Clone_sl_byte_byte.no : FuncId := 66
@[reducible] def disk_Disk_drop.no : FuncId := 67
@[reducible] def slices_Clone_sl_disk_mark_disk_mark.no : FuncId := 68
@[reducible] def fathomref01_named.no : FuncId := 69
@[reducible] def fathomref01_Disk_find.no : FuncId := 70
@[reducible] def fathomref01_Disk_change.no : FuncId := 71
@[reducible] def fathomref01_Disk_drop.no : FuncId := 72
@[reducible] def slices_pdqsortOrdered_int.no : FuncId := 73
@[reducible] def math_bits_Len.no : FuncId := 74
@[reducible] def cmp_Less_int.no : FuncId := 75
@[reducible] def slices_isNaN_int.no : FuncId := 76
@[reducible] def slices_AppendSeq_sl_string_string.no : FuncId := 77
@[reducible] def slices_pdqsortOrdered_string.no : FuncId := 78
@[reducible] def slices_insertionSortOrdered_int.no : FuncId := 79
@[reducible] def slices_heapSortOrdered_int.no : FuncId := 80
@[reducible] def slices_breakPatternsOrdered_int.no : FuncId := 81
@[reducible] def slices_choosePivotOrdered_int.no : FuncId := 82
@[reducible] def slices_reverseRangeOrdered_int.no : FuncId := 83
@[reducible] def slices_partialInsertionSortOrdered_int.no : FuncId := 84
@[reducible] def slices_partitionEqualOrdered_int.no : FuncId := 85
@[reducible] def slices_partitionOrdered_int.no : FuncId := 86
@[reducible] def math_bits_Len32.no : FuncId := 87
@[reducible] def math_bits_Len64.no : FuncId := 88
@[reducible] def cmp_isNaN_int.no : FuncId := 89
@[reducible] def slices_insertionSortOrdered_string.no : FuncId := 90
@[reducible] def slices_heapSortOrdered_string.no : FuncId := 91
@[reducible] def slices_breakPatternsOrdered_string.no : FuncId := 92
@[reducible] def slices_choosePivotOrdered_string.no : FuncId := 93
@[reducible] def slices_reverseRangeOrdered_string.no : FuncId := 94
@[reducible] def slices_partialInsertionSortOrdered_string.no : FuncId := 95
@[reducible] def cmp_Less_string.no : FuncId := 96
@[reducible] def slices_partitionEqualOrdered_string.no : FuncId := 97
@[reducible] def slices_partitionOrdered_string.no : FuncId := 98
@[reducible] def slices_siftDownOrdered_int.no : FuncId := 99
@[reducible] def slices_nextPowerOfTwo.no : FuncId := 100
@[reducible] def slices_xorshift_Next.no : FuncId := 101
@[reducible] def slices_medianAdjacentOrdered_int.no : FuncId := 102
@[reducible] def slices_medianOrdered_int.no : FuncId := 103
@[reducible] def slices_siftDownOrdered_string.no : FuncId := 104
@[reducible] def slices_medianAdjacentOrdered_string.no : FuncId := 105
@[reducible] def slices_medianOrdered_string.no : FuncId := 106
@[reducible] def cmp_isNaN_string.no : FuncId := 107
@[reducible] def slices_order2Ordered_int.no : FuncId := 108
@[reducible] def slices_order2Ordered_string.no : FuncId := 109
/-- fathom/fathomlaw01.DiskKnown -/
@[reducible] def fathomlaw01_DiskKnown.sp  (H : Heap) (R : Bool → Heap → Prop) : Prop := SpecT cBool Tryz.prog fathomlaw01_DiskKnown.no #[] H R
/-- fathom/fathomlaw01.DiskPlays -/
@[reducible] def fathomlaw01_DiskPlays.sp (quota : Int) (script : Sl) (H : Heap) (R : Bool → Heap → Prop) : Prop := SpecT cBool Tryz.prog fathomlaw01_DiskPlays.no #[(.int .i64 quota), script.v] H R
/-- fathom/fathomlaw01.DiskKeeps -/
@[reducible] def fathomlaw01_DiskKeeps.sp (quota : Int) (script : Sl) (keep : Int) (H : Heap) (R : Bool → Heap → Prop) : Prop := SpecT cBool Tryz.prog fathomlaw01_DiskKeeps.no #[(.int .i64 quota), script.v, (.int .u64 keep)] H R
/-- fathom/fathomlaw01.DiskQuota -/
@[reducible] def fathomlaw01_DiskQuota.sp (quota : Int) (script : Sl) (keep : Int) (H : Heap) (R : Bool → Heap → Prop) : Prop := SpecT cBool Tryz.prog fathomlaw01_DiskQuota.no #[(.int .i64 quota), script.v, (.int .u64 keep)] H R
/-- fathom/fathomlaw01.DiskCrashes -/
@[reducible] def fathomlaw01_DiskCrashes.sp (quota : Int) (script : Sl) (p : Int) (keep : Int) (H : Heap) (R : Bool → Heap → Prop) : Prop := SpecT cBool Tryz.prog fathomlaw01_DiskCrashes.no #[(.int .i64 quota), script.v, (.int .i64 p), (.int .u64 keep)] H R
/-- fathom/disk.New -/
@[reducible] def disk_New.sp (quota : Int) (H : Heap) (R : Option Addr → Heap → Prop) : Prop := SpecT cPtr Tryz.prog disk_New.no #[(.int .i64 quota)] H R
/-- (*fathom/disk.Disk).Create -/
@[reducible] def disk_Disk_Create.sp (d : Option Addr) (name : ByteArray) (H : Heap) (R : Int → Heap → Prop) : Prop := SpecT (cInt .i64) Tryz.prog disk_Disk_Create.no #[(.pointer d), (.string name)] H R
/-- (*fathom/disk.Disk).List -/
@[reducible] def disk_Disk_List.sp (d : Option Addr) (H : Heap) (R : Sl → Heap → Prop) : Prop := SpecT cSl Tryz.prog disk_Disk_List.no #[(.pointer d)] H R
/-- fathom/fathomlaw01.DiskNone -/
@[reducible] def fathomlaw01_DiskNone.sp (x_ : Int) (x_1 : ByteArray) (x_2 : ByteArray) (x_3 : Int) (x_4 : Int) (x_5 : Bool) (x_6 : Int) (H : Heap) (R : Bool → Heap → Prop) : Prop := SpecT cBool Tryz.prog fathomlaw01_DiskNone.no #[(.agg #[(.int .i64 x_), (.string x_1), (.string x_2), (.int .i64 x_3), (.int .u8 x_4), (.bool x_5), (.int .u64 x_6)])] H R
/-- fathom/fathomlaw01.works -/
@[reducible] def fathomlaw01_works.sp  (H : Heap) (R : Bool → Heap → Prop) : Prop := SpecT cBool Tryz.prog fathomlaw01_works.no #[] H R
/-- fathom/fathomref01.New -/
@[reducible] def fathomref01_New.sp (quota : Int) (H : Heap) (R : Option Addr → Heap → Prop) : Prop := SpecT cPtr Tryz.prog fathomref01_New.no #[(.int .i64 quota)] H R
/-- fathom/fathomkit.Pick -/
@[reducible] def fathomkit_Pick.sp (i : Int) (n : Int) (H : Heap) (R : Int → Heap → Prop) : Prop := SpecT (cInt .i64) Tryz.prog fathomkit_Pick.no #[(.int .i64 i), (.int .i64 n)] H R
/-- (*fathom/disk.Disk).Copy -/
@[reducible] def disk_Disk_Copy.sp (d : Option Addr) (H : Heap) (R : Option Addr → Heap → Prop) : Prop := SpecT cPtr Tryz.prog disk_Disk_Copy.no #[(.pointer d)] H R
/-- (*fathom/fathomref01.Disk).Copy -/
@[reducible] def fathomref01_Disk_Copy.sp (d : Option Addr) (H : Heap) (R : Option Addr → Heap → Prop) : Prop := SpecT cPtr Tryz.prog fathomref01_Disk_Copy.no #[(.pointer d)] H R
/-- fathom/fathomlaw01.plays -/
@[reducible] def fathomlaw01_plays.sp (d : Option Addr) (m : Option Addr) (x_ : Int) (x_1 : ByteArray) (x_2 : ByteArray) (x_3 : Int) (x_4 : Int) (x_5 : Bool) (x_6 : Int) (H : Heap) (R : Bool → Heap → Prop) : Prop := SpecT cBool Tryz.prog fathomlaw01_plays.no #[(.pointer d), (.pointer m), (.agg #[(.int .i64 x_), (.string x_1), (.string x_2), (.int .i64 x_3), (.int .u8 x_4), (.bool x_5), (.int .u64 x_6)])] H R
/-- fathom/fathomlaw01.tells -/
@[reducible] def fathomlaw01_tells.sp (d : Option Addr) (m : Option Addr) (H : Heap) (R : Bool → Heap → Prop) : Prop := SpecT cBool Tryz.prog fathomlaw01_tells.no #[(.pointer d), (.pointer m)] H R
/-- (*fathom/disk.Disk).Restart -/
@[reducible] def disk_Disk_Restart.sp (d : Option Addr) (H : Heap) (R : Unit → Heap → Prop) : Prop := SpecT (cTup []) Tryz.prog disk_Disk_Restart.no #[(.pointer d)] H R
/-- (*fathom/fathomref01.Disk).Restart -/
@[reducible] def fathomref01_Disk_Restart.sp (d : Option Addr) (H : Heap) (R : Unit → Heap → Prop) : Prop := SpecT (cTup []) Tryz.prog fathomref01_Disk_Restart.no #[(.pointer d)] H R
/-- (fathom/fathomref01.File).Pages -/
@[reducible] def fathomref01_File_Pages.sp (f_ : ByteArray) (f_1 : Sl) (f_2 : Sl) (H : Heap) (R : Sl → Heap → Prop) : Prop := SpecT cSl Tryz.prog fathomref01_File_Pages.no #[(.agg #[(.string f_), f_1.v, f_2.v])] H R
/-- fathom/fathomlaw01.run -/
@[reducible] def fathomlaw01_run.sp (d : Option Addr) (script : Sl) (H : Heap) (R : Unit → Heap → Prop) : Prop := SpecT (cTup []) Tryz.prog fathomlaw01_run.no #[(.pointer d), script.v] H R
/-- fathom/fathomlaw01.files -/
@[reducible] def fathomlaw01_files.sp (d : Option Addr) (H : Heap) (R : ByteArray → Heap → Prop) : Prop := SpecT cStr Tryz.prog fathomlaw01_files.no #[(.pointer d)] H R
/-- (*fathom/disk.Disk).Crash -/
@[reducible] def disk_Disk_Crash.sp (d : Option Addr) (p : Int) (keep : Int) (H : Heap) (R : Unit → Heap → Prop) : Prop := SpecT (cTup []) Tryz.prog disk_Disk_Crash.no #[(.pointer d), (.int .i64 p), (.int .u64 keep)] H R
/-- fathom/fathomlaw01.own -/
@[reducible] def fathomlaw01_own.sp (d : Option Addr) (H : Heap) (R : ByteArray → Heap → Prop) : Prop := SpecT cStr Tryz.prog fathomlaw01_own.no #[(.pointer d)] H R
/-- (*fathom/disk.Disk).Sync -/
@[reducible] def disk_Disk_Sync.sp (d : Option Addr) (name : ByteArray) (H : Heap) (R : Int → Heap → Prop) : Prop := SpecT (cInt .i64) Tryz.prog disk_Disk_Sync.no #[(.pointer d), (.string name)] H R
/-- fathom/fathomlaw01.pages -/
@[reducible] def fathomlaw01_pages.sp (d : Option Addr) (H : Heap) (R : Int → Heap → Prop) : Prop := SpecT (cInt .i64) Tryz.prog fathomlaw01_pages.no #[(.pointer d)] H R
/-- (*fathom/disk.Disk).Used -/
@[reducible] def disk_Disk_Used.sp (d : Option Addr) (H : Heap) (R : Int → Heap → Prop) : Prop := SpecT (cInt .i64) Tryz.prog disk_Disk_Used.no #[(.pointer d)] H R
/-- (*fathom/disk.Disk).Most -/
@[reducible] def disk_Disk_Most.sp (d : Option Addr) (H : Heap) (R : Int → Heap → Prop) : Prop := SpecT (cInt .i64) Tryz.prog disk_Disk_Most.no #[(.pointer d)] H R
/-- (*fathom/disk.Disk).Quota -/
@[reducible] def disk_Disk_Quota.sp (d : Option Addr) (H : Heap) (R : Int → Heap → Prop) : Prop := SpecT (cInt .i64) Tryz.prog disk_Disk_Quota.no #[(.pointer d)] H R
/-- (*fathom/disk.Disk).Ops -/
@[reducible] def disk_Disk_Ops.sp (d : Option Addr) (H : Heap) (R : Int → Heap → Prop) : Prop := SpecT (cInt .i64) Tryz.prog disk_Disk_Ops.no #[(.pointer d)] H R
/-- (*fathom/disk.Disk).Down -/
@[reducible] def disk_Disk_Down.sp (d : Option Addr) (H : Heap) (R : Bool → Heap → Prop) : Prop := SpecT cBool Tryz.prog disk_Disk_Down.no #[(.pointer d)] H R
/-- (*fathom/disk.Disk).ready -/
@[reducible] def disk_Disk_ready.sp (d : Option Addr) (H : Heap) (R : Int → Heap → Prop) : Prop := SpecT (cInt .i64) Tryz.prog disk_Disk_ready.no #[(.pointer d)] H R
/-- fathom/disk.named -/
@[reducible] def disk_named.sp (s : ByteArray) (H : Heap) (R : Bool → Heap → Prop) : Prop := SpecT cBool Tryz.prog disk_named.no #[(.string s)] H R
/-- (*fathom/disk.Disk).change -/
@[reducible] def disk_Disk_change.sp (d : Option Addr) (H : Heap) (R : Int → Heap → Prop) : Prop := SpecT (cInt .i64) Tryz.prog disk_Disk_change.no #[(.pointer d)] H R
/-- slices.Sorted[string] -/
@[reducible] def slices_Sorted_string.sp (seq : Value) (H : Heap) (R : Sl → Heap → Prop) : Prop := SpecT cSl Tryz.prog slices_Sorted_string.no #[seq] H R
/-- maps.Keys[map[string]*fathom/disk.file,string,*fathom/disk.file] -/
@[reducible] def maps_Keys_map_string_ptr_disk_file_string_ptr_disk_file.sp (m : Option Nat) (H : Heap) (R : Value → Heap → Prop) : Prop := SpecT cRaw Tryz.prog maps_Keys_map_string_ptr_disk_file_string_ptr_disk_file.no #[(.map m)] H R
/-- (*fathom/disk.Disk).Read -/
@[reducible] def disk_Disk_Read.sp (d : Option Addr) (name : ByteArray) (page : Int) (H : Heap) (R : (Sl × Int) → Heap → Prop) : Prop := SpecT (cTup [cSl, (cInt .i64)]) Tryz.prog disk_Disk_Read.no #[(.pointer d), (.string name), (.int .i64 page)] H R
/-- (*fathom/disk.Disk).Len -/
@[reducible] def disk_Disk_Len.sp (d : Option Addr) (name : ByteArray) (H : Heap) (R : (Int × Int) → Heap → Prop) : Prop := SpecT (cTup [(cInt .i64), (cInt .i64)]) Tryz.prog disk_Disk_Len.no #[(.pointer d), (.string name)] H R
/-- (*fathom/disk.Disk).Write -/
@[reducible] def disk_Disk_Write.sp (d : Option Addr) (name : ByteArray) (page : Int) (b : Sl) (H : Heap) (R : Int → Heap → Prop) : Prop := SpecT (cInt .i64) Tryz.prog disk_Disk_Write.no #[(.pointer d), (.string name), (.int .i64 page), b.v] H R
/-- (fathom/fathomlaw01.Step).bytes -/
@[reducible] def fathomlaw01_Step_bytes.sp (x_ : Int) (x_1 : ByteArray) (x_2 : ByteArray) (x_3 : Int) (x_4 : Int) (x_5 : Bool) (x_6 : Int) (H : Heap) (R : Sl → Heap → Prop) : Prop := SpecT cSl Tryz.prog fathomlaw01_Step_bytes.no #[(.agg #[(.int .i64 x_), (.string x_1), (.string x_2), (.int .i64 x_3), (.int .u8 x_4), (.bool x_5), (.int .u64 x_6)])] H R
/-- (*fathom/disk.Disk).Rename -/
@[reducible] def disk_Disk_Rename.sp (d : Option Addr) (p : ByteArray) (to : ByteArray) (H : Heap) (R : Int → Heap → Prop) : Prop := SpecT (cInt .i64) Tryz.prog disk_Disk_Rename.no #[(.pointer d), (.string p), (.string to)] H R
/-- (*fathom/disk.Disk).Remove -/
@[reducible] def disk_Disk_Remove.sp (d : Option Addr) (name : ByteArray) (H : Heap) (R : Int → Heap → Prop) : Prop := SpecT (cInt .i64) Tryz.prog disk_Disk_Remove.no #[(.pointer d), (.string name)] H R
/-- (*fathom/disk.file).clone -/
@[reducible] def disk_file_clone.sp (f : Option Addr) (H : Heap) (R : Option Addr → Heap → Prop) : Prop := SpecT cPtr Tryz.prog disk_file_clone.no #[(.pointer f)] H R
/-- (*fathom/fathomref01.Disk).Create -/
@[reducible] def fathomref01_Disk_Create.sp (d : Option Addr) (name : ByteArray) (H : Heap) (R : Int → Heap → Prop) : Prop := SpecT (cInt .i64) Tryz.prog fathomref01_Disk_Create.no #[(.pointer d), (.string name)] H R
/-- (*fathom/fathomref01.Disk).Write -/
@[reducible] def fathomref01_Disk_Write.sp (d : Option Addr) (name : ByteArray) (page : Int) (b : Sl) (H : Heap) (R : Int → Heap → Prop) : Prop := SpecT (cInt .i64) Tryz.prog fathomref01_Disk_Write.no #[(.pointer d), (.string name), (.int .i64 page), b.v] H R
/-- (*fathom/fathomref01.Disk).Read -/
@[reducible] def fathomref01_Disk_Read.sp (d : Option Addr) (name : ByteArray) (page : Int) (H : Heap) (R : (Sl × Int) → Heap → Prop) : Prop := SpecT (cTup [cSl, (cInt .i64)]) Tryz.prog fathomref01_Disk_Read.no #[(.pointer d), (.string name), (.int .i64 page)] H R
/-- (*fathom/fathomref01.Disk).Len -/
@[reducible] def fathomref01_Disk_Len.sp (d : Option Addr) (name : ByteArray) (H : Heap) (R : (Int × Int) → Heap → Prop) : Prop := SpecT (cTup [(cInt .i64), (cInt .i64)]) Tryz.prog fathomref01_Disk_Len.no #[(.pointer d), (.string name)] H R
/-- (*fathom/fathomref01.Disk).Sync -/
@[reducible] def fathomref01_Disk_Sync.sp (d : Option Addr) (name : ByteArray) (H : Heap) (R : Int → Heap → Prop) : Prop := SpecT (cInt .i64) Tryz.prog fathomref01_Disk_Sync.no #[(.pointer d), (.string name)] H R
/-- (*fathom/fathomref01.Disk).Rename -/
@[reducible] def fathomref01_Disk_Rename.sp (d : Option Addr) (p : ByteArray) (to : ByteArray) (H : Heap) (R : Int → Heap → Prop) : Prop := SpecT (cInt .i64) Tryz.prog fathomref01_Disk_Rename.no #[(.pointer d), (.string p), (.string to)] H R
/-- (*fathom/fathomref01.Disk).Remove -/
@[reducible] def fathomref01_Disk_Remove.sp (d : Option Addr) (name : ByteArray) (H : Heap) (R : Int → Heap → Prop) : Prop := SpecT (cInt .i64) Tryz.prog fathomref01_Disk_Remove.no #[(.pointer d), (.string name)] H R
/-- (*fathom/fathomref01.Disk).Crash -/
@[reducible] def fathomref01_Disk_Crash.sp (d : Option Addr) (p : Int) (keep : Int) (H : Heap) (R : Unit → Heap → Prop) : Prop := SpecT (cTup []) Tryz.prog fathomref01_Disk_Crash.no #[(.pointer d), (.int .i64 p), (.int .u64 keep)] H R
/-- fathom/fathomkit.SameTexts -/
@[reducible] def fathomkit_SameTexts.sp (a : Sl) (b : Sl) (H : Heap) (R : Bool → Heap → Prop) : Prop := SpecT cBool Tryz.prog fathomkit_SameTexts.no #[a.v, b.v] H R
/-- (*fathom/fathomref01.Disk).List -/
@[reducible] def fathomref01_Disk_List.sp (d : Option Addr) (H : Heap) (R : Sl → Heap → Prop) : Prop := SpecT cSl Tryz.prog fathomref01_Disk_List.no #[(.pointer d)] H R
/-- (*fathom/fathomref01.Disk).Used -/
@[reducible] def fathomref01_Disk_Used.sp (d : Option Addr) (H : Heap) (R : Int → Heap → Prop) : Prop := SpecT (cInt .i64) Tryz.prog fathomref01_Disk_Used.no #[(.pointer d)] H R
/-- slices.Sort[[]int,int] -/
@[reducible] def slices_Sort_sl_int_int.sp (x : Sl) (H : Heap) (R : Unit → Heap → Prop) : Prop := SpecT (cTup []) Tryz.prog slices_Sort_sl_int_int.no #[x.v] H R
/-- slices.Clone[[]fathom/disk.sheet,fathom/disk.sheet] -/
@[reducible] def slices_Clone_sl_disk_sheet_disk_sheet.sp (s : Sl) (H : Heap) (R : Sl → Heap → Prop) : Prop := SpecT cSl Tryz.prog slices_Clone_sl_disk_sheet_disk_sheet.no #[s.v] H R
/-- slices.BinarySearch[[]int,int] -/
@[reducible] def slices_BinarySearch_sl_int_int.sp (x : Sl) (target : Int) (H : Heap) (R : (Int × Bool) → Heap → Prop) : Prop := SpecT (cTup [(cInt .i64), cBool]) Tryz.prog slices_BinarySearch_sl_int_int.no #[x.v, (.int .i64 target)] H R
/-- fathom/disk.put -/
@[reducible] def disk_put.sp (l : Sl) (page : Int) (b : Array Value) (H : Heap) (R : Sl → Heap → Prop) : Prop := SpecT cSl Tryz.prog disk_put.no #[l.v, (.int .i64 page), (.agg b)] H R
/-- (*fathom/fathomref01.Disk).rank -/
@[reducible] def fathomref01_Disk_rank.sp (d : Option Addr) (no : Int) (H : Heap) (R : Int → Heap → Prop) : Prop := SpecT (cInt .i64) Tryz.prog fathomref01_Disk_rank.no #[(.pointer d), (.int .i64 no)] H R
/-- fathom/fathomref01.put -/
@[reducible] def fathomref01_put.sp (l : Sl) (w_ : Int) (w_1 : Int) (w_2 : ByteArray) (H : Heap) (R : Sl → Heap → Prop) : Prop := SpecT cSl Tryz.prog fathomref01_put.no #[l.v, (.agg #[(.int .i64 w_), (.int .i64 w_1), (.string w_2)])] H R
/-- (*fathom/disk.Disk).open -/
@[reducible] def disk_Disk_open.sp (d : Option Addr) (name : ByteArray) (H : Heap) (R : (Option Addr × Int) → Heap → Prop) : Prop := SpecT (cTup [cPtr, (cInt .i64)]) Tryz.prog disk_Disk_open.no #[(.pointer d), (.string name)] H R
/-- slices.Collect[string] -/
@[reducible] def slices_Collect_string.sp (seq : Value) (H : Heap) (R : Sl → Heap → Prop) : Prop := SpecT cSl Tryz.prog slices_Collect_string.no #[seq] H R
/-- slices.Sort[[]string,string] -/
@[reducible] def slices_Sort_sl_string_string.sp (x : Sl) (H : Heap) (R : Unit → Heap → Prop) : Prop := SpecT (cTup []) Tryz.prog slices_Sort_sl_string_string.no #[x.v] H R
/-- maps.Keys[map[string]*fathom/disk.file,string,*fathom/disk.file]$1 -/
@[reducible] def maps_Keys_map_string_ptr_disk_file_string_ptr_disk_file_c1.sp (l : Nat) (cap : Addr) (H : Heap) (R : Unit → Heap → Prop) : Prop := SpecT (cTup []) Tryz.prog maps_Keys_map_string_ptr_disk_file_string_ptr_disk_file_c1.no #[(.func (.yield l) #[] #[]), (.pointer (some cap))] H R
/-- slices.Clone[[]byte,byte] -/
@[reducible] def slices_Clone_sl_byte_byte.sp (s : Sl) (H : Heap) (R : Sl → Heap → Prop) : Prop := SpecT cSl Tryz.prog slices_Clone_sl_byte_byte.no #[s.v] H R
/-- (*fathom/disk.Disk).drop -/
@[reducible] def disk_Disk_drop.sp (d : Option Addr) (name : ByteArray) (H : Heap) (R : Unit → Heap → Prop) : Prop := SpecT (cTup []) Tryz.prog disk_Disk_drop.no #[(.pointer d), (.string name)] H R
/-- slices.Clone[[]fathom/disk.mark,fathom/disk.mark] -/
@[reducible] def slices_Clone_sl_disk_mark_disk_mark.sp (s : Sl) (H : Heap) (R : Sl → Heap → Prop) : Prop := SpecT cSl Tryz.prog slices_Clone_sl_disk_mark_disk_mark.no #[s.v] H R
/-- fathom/fathomref01.named -/
@[reducible] def fathomref01_named.sp (s : ByteArray) (H : Heap) (R : Bool → Heap → Prop) : Prop := SpecT cBool Tryz.prog fathomref01_named.no #[(.string s)] H R
/-- (*fathom/fathomref01.Disk).find -/
@[reducible] def fathomref01_Disk_find.sp (d : Option Addr) (name : ByteArray) (H : Heap) (R : Int → Heap → Prop) : Prop := SpecT (cInt .i64) Tryz.prog fathomref01_Disk_find.no #[(.pointer d), (.string name)] H R
/-- (*fathom/fathomref01.Disk).change -/
@[reducible] def fathomref01_Disk_change.sp (d : Option Addr) (H : Heap) (R : Int → Heap → Prop) : Prop := SpecT (cInt .i64) Tryz.prog fathomref01_Disk_change.no #[(.pointer d)] H R
/-- (*fathom/fathomref01.Disk).drop -/
@[reducible] def fathomref01_Disk_drop.sp (d : Option Addr) (i : Int) (H : Heap) (R : Unit → Heap → Prop) : Prop := SpecT (cTup []) Tryz.prog fathomref01_Disk_drop.no #[(.pointer d), (.int .i64 i)] H R
/-- slices.pdqsortOrdered[int] -/
@[reducible] def slices_pdqsortOrdered_int.sp (data : Sl) (a : Int) (b : Int) (limit : Int) (H : Heap) (R : Unit → Heap → Prop) : Prop := SpecT (cTup []) Tryz.prog slices_pdqsortOrdered_int.no #[data.v, (.int .i64 a), (.int .i64 b), (.int .i64 limit)] H R
/-- math/bits.Len -/
@[reducible] def math_bits_Len.sp (x : Int) (H : Heap) (R : Int → Heap → Prop) : Prop := SpecT (cInt .i64) Tryz.prog math_bits_Len.no #[(.int .u64 x)] H R
/-- cmp.Less[int] -/
@[reducible] def cmp_Less_int.sp (x : Int) (y : Int) (H : Heap) (R : Bool → Heap → Prop) : Prop := SpecT cBool Tryz.prog cmp_Less_int.no #[(.int .i64 x), (.int .i64 y)] H R
/-- slices.isNaN[int] -/
@[reducible] def slices_isNaN_int.sp (x : Int) (H : Heap) (R : Bool → Heap → Prop) : Prop := SpecT cBool Tryz.prog slices_isNaN_int.no #[(.int .i64 x)] H R
/-- slices.AppendSeq[[]string,string] -/
@[reducible] def slices_AppendSeq_sl_string_string.sp (s : Sl) (seq : Value) (H : Heap) (R : Sl → Heap → Prop) : Prop := SpecT cSl Tryz.prog slices_AppendSeq_sl_string_string.no #[s.v, seq] H R
/-- slices.pdqsortOrdered[string] -/
@[reducible] def slices_pdqsortOrdered_string.sp (data : Sl) (a : Int) (b : Int) (limit : Int) (H : Heap) (R : Unit → Heap → Prop) : Prop := SpecT (cTup []) Tryz.prog slices_pdqsortOrdered_string.no #[data.v, (.int .i64 a), (.int .i64 b), (.int .i64 limit)] H R
/-- slices.insertionSortOrdered[int] -/
@[reducible] def slices_insertionSortOrdered_int.sp (data : Sl) (a : Int) (b : Int) (H : Heap) (R : Unit → Heap → Prop) : Prop := SpecT (cTup []) Tryz.prog slices_insertionSortOrdered_int.no #[data.v, (.int .i64 a), (.int .i64 b)] H R
/-- slices.heapSortOrdered[int] -/
@[reducible] def slices_heapSortOrdered_int.sp (data : Sl) (a : Int) (b : Int) (H : Heap) (R : Unit → Heap → Prop) : Prop := SpecT (cTup []) Tryz.prog slices_heapSortOrdered_int.no #[data.v, (.int .i64 a), (.int .i64 b)] H R
/-- slices.breakPatternsOrdered[int] -/
@[reducible] def slices_breakPatternsOrdered_int.sp (data : Sl) (a : Int) (b : Int) (H : Heap) (R : Unit → Heap → Prop) : Prop := SpecT (cTup []) Tryz.prog slices_breakPatternsOrdered_int.no #[data.v, (.int .i64 a), (.int .i64 b)] H R
/-- slices.choosePivotOrdered[int] -/
@[reducible] def slices_choosePivotOrdered_int.sp (data : Sl) (a : Int) (b : Int) (H : Heap) (R : (Int × Int) → Heap → Prop) : Prop := SpecT (cTup [(cInt .i64), (cInt .i64)]) Tryz.prog slices_choosePivotOrdered_int.no #[data.v, (.int .i64 a), (.int .i64 b)] H R
/-- slices.reverseRangeOrdered[int] -/
@[reducible] def slices_reverseRangeOrdered_int.sp (data : Sl) (a : Int) (b : Int) (H : Heap) (R : Unit → Heap → Prop) : Prop := SpecT (cTup []) Tryz.prog slices_reverseRangeOrdered_int.no #[data.v, (.int .i64 a), (.int .i64 b)] H R
/-- slices.partialInsertionSortOrdered[int] -/
@[reducible] def slices_partialInsertionSortOrdered_int.sp (data : Sl) (a : Int) (b : Int) (H : Heap) (R : Bool → Heap → Prop) : Prop := SpecT cBool Tryz.prog slices_partialInsertionSortOrdered_int.no #[data.v, (.int .i64 a), (.int .i64 b)] H R
/-- slices.partitionEqualOrdered[int] -/
@[reducible] def slices_partitionEqualOrdered_int.sp (data : Sl) (a : Int) (b : Int) (pivot : Int) (H : Heap) (R : Int → Heap → Prop) : Prop := SpecT (cInt .i64) Tryz.prog slices_partitionEqualOrdered_int.no #[data.v, (.int .i64 a), (.int .i64 b), (.int .i64 pivot)] H R
/-- slices.partitionOrdered[int] -/
@[reducible] def slices_partitionOrdered_int.sp (data : Sl) (a : Int) (b : Int) (pivot : Int) (H : Heap) (R : (Int × Bool) → Heap → Prop) : Prop := SpecT (cTup [(cInt .i64), cBool]) Tryz.prog slices_partitionOrdered_int.no #[data.v, (.int .i64 a), (.int .i64 b), (.int .i64 pivot)] H R
/-- math/bits.Len32 -/
@[reducible] def math_bits_Len32.sp (x : Int) (H : Heap) (R : Int → Heap → Prop) : Prop := SpecT (cInt .i64) Tryz.prog math_bits_Len32.no #[(.int .u32 x)] H R
/-- math/bits.Len64 -/
@[reducible] def math_bits_Len64.sp (x : Int) (H : Heap) (R : Int → Heap → Prop) : Prop := SpecT (cInt .i64) Tryz.prog math_bits_Len64.no #[(.int .u64 x)] H R
/-- cmp.isNaN[int] -/
@[reducible] def cmp_isNaN_int.sp (x : Int) (H : Heap) (R : Bool → Heap → Prop) : Prop := SpecT cBool Tryz.prog cmp_isNaN_int.no #[(.int .i64 x)] H R
/-- slices.insertionSortOrdered[string] -/
@[reducible] def slices_insertionSortOrdered_string.sp (data : Sl) (a : Int) (b : Int) (H : Heap) (R : Unit → Heap → Prop) : Prop := SpecT (cTup []) Tryz.prog slices_insertionSortOrdered_string.no #[data.v, (.int .i64 a), (.int .i64 b)] H R
/-- slices.heapSortOrdered[string] -/
@[reducible] def slices_heapSortOrdered_string.sp (data : Sl) (a : Int) (b : Int) (H : Heap) (R : Unit → Heap → Prop) : Prop := SpecT (cTup []) Tryz.prog slices_heapSortOrdered_string.no #[data.v, (.int .i64 a), (.int .i64 b)] H R
/-- slices.breakPatternsOrdered[string] -/
@[reducible] def slices_breakPatternsOrdered_string.sp (data : Sl) (a : Int) (b : Int) (H : Heap) (R : Unit → Heap → Prop) : Prop := SpecT (cTup []) Tryz.prog slices_breakPatternsOrdered_string.no #[data.v, (.int .i64 a), (.int .i64 b)] H R
/-- slices.choosePivotOrdered[string] -/
@[reducible] def slices_choosePivotOrdered_string.sp (data : Sl) (a : Int) (b : Int) (H : Heap) (R : (Int × Int) → Heap → Prop) : Prop := SpecT (cTup [(cInt .i64), (cInt .i64)]) Tryz.prog slices_choosePivotOrdered_string.no #[data.v, (.int .i64 a), (.int .i64 b)] H R
/-- slices.reverseRangeOrdered[string] -/
@[reducible] def slices_reverseRangeOrdered_string.sp (data : Sl) (a : Int) (b : Int) (H : Heap) (R : Unit → Heap → Prop) : Prop := SpecT (cTup []) Tryz.prog slices_reverseRangeOrdered_string.no #[data.v, (.int .i64 a), (.int .i64 b)] H R
/-- slices.partialInsertionSortOrdered[string] -/
@[reducible] def slices_partialInsertionSortOrdered_string.sp (data : Sl) (a : Int) (b : Int) (H : Heap) (R : Bool → Heap → Prop) : Prop := SpecT cBool Tryz.prog slices_partialInsertionSortOrdered_string.no #[data.v, (.int .i64 a), (.int .i64 b)] H R
/-- cmp.Less[string] -/
@[reducible] def cmp_Less_string.sp (x : ByteArray) (y : ByteArray) (H : Heap) (R : Bool → Heap → Prop) : Prop := SpecT cBool Tryz.prog cmp_Less_string.no #[(.string x), (.string y)] H R
/-- slices.partitionEqualOrdered[string] -/
@[reducible] def slices_partitionEqualOrdered_string.sp (data : Sl) (a : Int) (b : Int) (pivot : Int) (H : Heap) (R : Int → Heap → Prop) : Prop := SpecT (cInt .i64) Tryz.prog slices_partitionEqualOrdered_string.no #[data.v, (.int .i64 a), (.int .i64 b), (.int .i64 pivot)] H R
/-- slices.partitionOrdered[string] -/
@[reducible] def slices_partitionOrdered_string.sp (data : Sl) (a : Int) (b : Int) (pivot : Int) (H : Heap) (R : (Int × Bool) → Heap → Prop) : Prop := SpecT (cTup [(cInt .i64), cBool]) Tryz.prog slices_partitionOrdered_string.no #[data.v, (.int .i64 a), (.int .i64 b), (.int .i64 pivot)] H R
/-- slices.siftDownOrdered[int] -/
@[reducible] def slices_siftDownOrdered_int.sp (data : Sl) (lo : Int) (hi : Int) (first : Int) (H : Heap) (R : Unit → Heap → Prop) : Prop := SpecT (cTup []) Tryz.prog slices_siftDownOrdered_int.no #[data.v, (.int .i64 lo), (.int .i64 hi), (.int .i64 first)] H R
/-- slices.nextPowerOfTwo -/
@[reducible] def slices_nextPowerOfTwo.sp (length : Int) (H : Heap) (R : Int → Heap → Prop) : Prop := SpecT (cInt .u64) Tryz.prog slices_nextPowerOfTwo.no #[(.int .i64 length)] H R
/-- (*slices.xorshift).Next -/
@[reducible] def slices_xorshift_Next.sp (r : Option Addr) (H : Heap) (R : Int → Heap → Prop) : Prop := SpecT (cInt .u64) Tryz.prog slices_xorshift_Next.no #[(.pointer r)] H R
/-- slices.medianAdjacentOrdered[int] -/
@[reducible] def slices_medianAdjacentOrdered_int.sp (data : Sl) (a : Int) (swaps : Option Addr) (H : Heap) (R : Int → Heap → Prop) : Prop := SpecT (cInt .i64) Tryz.prog slices_medianAdjacentOrdered_int.no #[data.v, (.int .i64 a), (.pointer swaps)] H R
/-- slices.medianOrdered[int] -/
@[reducible] def slices_medianOrdered_int.sp (data : Sl) (a : Int) (b : Int) (c : Int) (swaps : Option Addr) (H : Heap) (R : Int → Heap → Prop) : Prop := SpecT (cInt .i64) Tryz.prog slices_medianOrdered_int.no #[data.v, (.int .i64 a), (.int .i64 b), (.int .i64 c), (.pointer swaps)] H R
/-- slices.siftDownOrdered[string] -/
@[reducible] def slices_siftDownOrdered_string.sp (data : Sl) (lo : Int) (hi : Int) (first : Int) (H : Heap) (R : Unit → Heap → Prop) : Prop := SpecT (cTup []) Tryz.prog slices_siftDownOrdered_string.no #[data.v, (.int .i64 lo), (.int .i64 hi), (.int .i64 first)] H R
/-- slices.medianAdjacentOrdered[string] -/
@[reducible] def slices_medianAdjacentOrdered_string.sp (data : Sl) (a : Int) (swaps : Option Addr) (H : Heap) (R : Int → Heap → Prop) : Prop := SpecT (cInt .i64) Tryz.prog slices_medianAdjacentOrdered_string.no #[data.v, (.int .i64 a), (.pointer swaps)] H R
/-- slices.medianOrdered[string] -/
@[reducible] def slices_medianOrdered_string.sp (data : Sl) (a : Int) (b : Int) (c : Int) (swaps : Option Addr) (H : Heap) (R : Int → Heap → Prop) : Prop := SpecT (cInt .i64) Tryz.prog slices_medianOrdered_string.no #[data.v, (.int .i64 a), (.int .i64 b), (.int .i64 c), (.pointer swaps)] H R
/-- cmp.isNaN[string] -/
@[reducible] def cmp_isNaN_string.sp (x : ByteArray) (H : Heap) (R : Bool → Heap → Prop) : Prop := SpecT cBool Tryz.prog cmp_isNaN_string.no #[(.string x)] H R
/-- slices.order2Ordered[int] -/
@[reducible] def slices_order2Ordered_int.sp (data : Sl) (a : Int) (b : Int) (swaps : Option Addr) (H : Heap) (R : (Int × Int) → Heap → Prop) : Prop := SpecT (cTup [(cInt .i64), (cInt .i64)]) Tryz.prog slices_order2Ordered_int.no #[data.v, (.int .i64 a), (.int .i64 b), (.pointer swaps)] H R
/-- slices.order2Ordered[string] -/
@[reducible] def slices_order2Ordered_string.sp (data : Sl) (a : Int) (b : Int) (swaps : Option Addr) (H : Heap) (R : (Int × Int) → Heap → Prop) : Prop := SpecT (cTup [(cInt .i64), (cInt .i64)]) Tryz.prog slices_order2Ordered_string.no #[data.v, (.int .i64 a), (.int .i64 b), (.pointer swaps)] H R

/-- fathom/fathomlaw01.DiskKnown -/
def fathomlaw01_DiskKnown.vc  (H : Heap) (R : Bool → Heap → Prop) : Prop :=
  LoopVC ByteArray (ByteArray.mk #[120]) H fun next long H1 => br (decide ((long.size : Int) < (128 : Int))) (((long.size + long.size : Nat) : Int) ≤ 9223372036854775807 ∧ next (long ++ long) H1) (layC H1 [] #[(.int .i64 (0 : Int)), (.string (ByteArray.mk #[102])), (.string ByteArray.empty), (.int .i64 (0 : Int)), (.int .u8 (0 : Int)), (.bool false), (.int .u64 (0 : Int)), (.int .i64 (0 : Int)), (.string (ByteArray.mk #[102])), (.string ByteArray.empty), (.int .i64 (0 : Int)), (.int .u8 (0 : Int)), (.bool false), (.int .u64 (0 : Int)), (.int .i64 (0 : Int)), (.string ByteArray.empty), (.string ByteArray.empty), (.int .i64 (0 : Int)), (.int .u8 (0 : Int)), (.bool false), (.int .u64 (0 : Int)), (.int .i64 (1 : Int)), (.string (ByteArray.mk #[102])), (.string ByteArray.empty), (.int .i64 (0 : Int)), (.int .u8 (1 : Int)), (.bool false), (.int .u64 (0 : Int)), (.int .i64 (1 : Int)), (.string (ByteArray.mk #[102])), (.string ByteArray.empty), (.int .i64 (2 : Int)), (.int .u8 (1 : Int)), (.bool false), (.int .u64 (0 : Int)), (.int .i64 (1 : Int)), (.string (ByteArray.mk #[102])), (.string ByteArray.empty), (.int .i64 (1 : Int)), (.int .u8 (2 : Int)), (.bool false), (.int .u64 (0 : Int)), (.int .i64 (1 : Int)), (.string (ByteArray.mk #[102])), (.string ByteArray.empty), (.int .i64 (2 : Int)), (.int .u8 (1 : Int)), (.bool false), (.int .u64 (0 : Int)), (.int .i64 (3 : Int)), (.string (ByteArray.mk #[102])), (.string ByteArray.empty), (.int .i64 (0 : Int)), (.int .u8 (0 : Int)), (.bool false), (.int .u64 (0 : Int)), (.int .i64 (2 : Int)), (.string (ByteArray.mk #[102])), (.string ByteArray.empty), (.int .i64 (1 : Int)), (.int .u8 (0 : Int)), (.bool false), (.int .u64 (0 : Int)), (.int .i64 (2 : Int)), (.string (ByteArray.mk #[102])), (.string ByteArray.empty), (.int .i64 (2 : Int)), (.int .u8 (0 : Int)), (.bool false), (.int .u64 (0 : Int)), (.int .i64 (2 : Int)), (.string (ByteArray.mk #[103])), (.string ByteArray.empty), (.int .i64 (0 : Int)), (.int .u8 (0 : Int)), (.bool false), (.int .u64 (0 : Int)), (.int .i64 (1 : Int)), (.string (ByteArray.mk #[102])), (.string ByteArray.empty), (.int .i64 (0 : Int)), (.int .u8 (3 : Int)), (.bool true), (.int .u64 (0 : Int)), (.int .i64 (1 : Int)), (.string (ByteArray.mk #[102])), (.string ByteArray.empty), (.int .i64 (-1 : Int)), (.int .u8 (0 : Int)), (.bool false), (.int .u64 (0 : Int)), (.int .i64 (1 : Int)), (.string (ByteArray.mk #[103])), (.string ByteArray.empty), (.int .i64 (0 : Int)), (.int .u8 (0 : Int)), (.bool false), (.int .u64 (0 : Int)), (.int .i64 (3 : Int)), (.string (ByteArray.mk #[103])), (.string ByteArray.empty), (.int .i64 (0 : Int)), (.int .u8 (0 : Int)), (.bool false), (.int .u64 (0 : Int)), (.int .i64 (4 : Int)), (.string (ByteArray.mk #[103])), (.string ByteArray.empty), (.int .i64 (0 : Int)), (.int .u8 (0 : Int)), (.bool false), (.int .u64 (0 : Int)), (.int .i64 (6 : Int)), (.string (ByteArray.mk #[103])), (.string ByteArray.empty), (.int .i64 (0 : Int)), (.int .u8 (0 : Int)), (.bool false), (.int .u64 (0 : Int))] ty_fathomlaw01_Step fun b T => layC H1 T #[(.int .i64 (0 : Int)), (.string (ByteArray.mk #[102])), (.string ByteArray.empty), (.int .i64 (0 : Int)), (.int .u8 (0 : Int)), (.bool false), (.int .u64 (0 : Int)), (.int .i64 (1 : Int)), (.string (ByteArray.mk #[102])), (.string ByteArray.empty), (.int .i64 (0 : Int)), (.int .u8 (1 : Int)), (.bool false), (.int .u64 (0 : Int)), (.int .i64 (4 : Int)), (.string (ByteArray.mk #[102])), (.string ByteArray.empty), (.int .i64 (0 : Int)), (.int .u8 (0 : Int)), (.bool false), (.int .u64 (0 : Int)), (.int .i64 (1 : Int)), (.string (ByteArray.mk #[102])), (.string ByteArray.empty), (.int .i64 (0 : Int)), (.int .u8 (2 : Int)), (.bool false), (.int .u64 (0 : Int)), (.int .i64 (7 : Int)), (.string ByteArray.empty), (.string ByteArray.empty), (.int .i64 (0 : Int)), (.int .u8 (0 : Int)), (.bool false), (.int .u64 (0 : Int)), (.int .i64 (6 : Int)), (.string (ByteArray.mk #[102])), (.string ByteArray.empty), (.int .i64 (0 : Int)), (.int .u8 (0 : Int)), (.bool false), (.int .u64 (0 : Int)), (.int .i64 (2 : Int)), (.string (ByteArray.mk #[102])), (.string ByteArray.empty), (.int .i64 (0 : Int)), (.int .u8 (0 : Int)), (.bool false), (.int .u64 (0 : Int)), (.int .i64 (7 : Int)), (.string ByteArray.empty), (.string ByteArray.empty), (.int .i64 (1 : Int)), (.int .u8 (0 : Int)), (.bool false), (.int .u64 (0 : Int)), (.int .i64 (8 : Int)), (.string ByteArray.empty), (.string ByteArray.empty), (.int .i64 (0 : Int)), (.int .u8 (0 : Int)), (.bool false), (.int .u64 (0 : Int)), (.int .i64 (2 : Int)), (.string (ByteArray.mk #[102])), (.string ByteArray.empty), (.int .i64 (0 : Int)), (.int .u8 (0 : Int)), (.bool false), (.int .u64 (0 : Int)), (.int .i64 (8 : Int)), (.string ByteArray.empty), (.string ByteArray.empty), (.int .i64 (0 : Int)), (.int .u8 (0 : Int)), (.bool false), (.int .u64 (0 : Int)), (.int .i64 (6 : Int)), (.string (ByteArray.mk #[102])), (.string ByteArray.empty), (.int .i64 (0 : Int)), (.int .u8 (0 : Int)), (.bool false), (.int .u64 (0 : Int))] ty_fathomlaw01_Step fun b_1 T_1 => layC H1 T_1 #[(.int .i64 (0 : Int)), (.string (ByteArray.mk #[102])), (.string ByteArray.empty), (.int .i64 (0 : Int)), (.int .u8 (0 : Int)), (.bool false), (.int .u64 (0 : Int)), (.int .i64 (1 : Int)), (.string (ByteArray.mk #[102])), (.string ByteArray.empty), (.int .i64 (0 : Int)), (.int .u8 (1 : Int)), (.bool false), (.int .u64 (0 : Int)), (.int .i64 (1 : Int)), (.string (ByteArray.mk #[102])), (.string ByteArray.empty), (.int .i64 (1 : Int)), (.int .u8 (2 : Int)), (.bool false), (.int .u64 (0 : Int)), (.int .i64 (7 : Int)), (.string ByteArray.empty), (.string ByteArray.empty), (.int .i64 (0 : Int)), (.int .u8 (0 : Int)), (.bool false), (.int .u64 (2 : Int)), (.int .i64 (4 : Int)), (.string (ByteArray.mk #[102])), (.string ByteArray.empty), (.int .i64 (0 : Int)), (.int .u8 (0 : Int)), (.bool false), (.int .u64 (0 : Int)), (.int .i64 (8 : Int)), (.string ByteArray.empty), (.string ByteArray.empty), (.int .i64 (0 : Int)), (.int .u8 (0 : Int)), (.bool false), (.int .u64 (0 : Int)), (.int .i64 (3 : Int)), (.string (ByteArray.mk #[102])), (.string ByteArray.empty), (.int .i64 (0 : Int)), (.int .u8 (0 : Int)), (.bool false), (.int .u64 (0 : Int)), (.int .i64 (2 : Int)), (.string (ByteArray.mk #[102])), (.string ByteArray.empty), (.int .i64 (0 : Int)), (.int .u8 (0 : Int)), (.bool false), (.int .u64 (0 : Int))] ty_fathomlaw01_Step fun b_2 T_2 => layC H1 T_2 #[(.int .i64 (0 : Int)), (.string (ByteArray.mk #[102])), (.string ByteArray.empty), (.int .i64 (0 : Int)), (.int .u8 (0 : Int)), (.bool false), (.int .u64 (0 : Int)), (.int .i64 (0 : Int)), (.string (ByteArray.mk #[103])), (.string ByteArray.empty), (.int .i64 (0 : Int)), (.int .u8 (0 : Int)), (.bool false), (.int .u64 (0 : Int)), (.int .i64 (1 : Int)), (.string (ByteArray.mk #[103])), (.string ByteArray.empty), (.int .i64 (0 : Int)), (.int .u8 (1 : Int)), (.bool false), (.int .u64 (0 : Int)), (.int .i64 (1 : Int)), (.string (ByteArray.mk #[102])), (.string ByteArray.empty), (.int .i64 (0 : Int)), (.int .u8 (2 : Int)), (.bool false), (.int .u64 (0 : Int)), (.int .i64 (1 : Int)), (.string (ByteArray.mk #[103])), (.string ByteArray.empty), (.int .i64 (0 : Int)), (.int .u8 (3 : Int)), (.bool false), (.int .u64 (0 : Int)), (.int .i64 (5 : Int)), (.string (ByteArray.mk #[102])), (.string (ByteArray.mk #[104])), (.int .i64 (0 : Int)), (.int .u8 (0 : Int)), (.bool false), (.int .u64 (0 : Int)), (.int .i64 (5 : Int)), (.string (ByteArray.mk #[104])), (.string (ByteArray.mk #[103])), (.int .i64 (0 : Int)), (.int .u8 (0 : Int)), (.bool false), (.int .u64 (0 : Int)), (.int .i64 (5 : Int)), (.string (ByteArray.mk #[103])), (.string (ByteArray.mk #[103])), (.int .i64 (0 : Int)), (.int .u8 (0 : Int)), (.bool false), (.int .u64 (0 : Int)), (.int .i64 (5 : Int)), (.string (ByteArray.mk #[104])), (.string (ByteArray.mk #[102])), (.int .i64 (0 : Int)), (.int .u8 (0 : Int)), (.bool false), (.int .u64 (0 : Int)), (.int .i64 (5 : Int)), (.string (ByteArray.mk #[103])), (.string ByteArray.empty), (.int .i64 (0 : Int)), (.int .u8 (0 : Int)), (.bool false), (.int .u64 (0 : Int)), (.int .i64 (9 : Int)), (.string ByteArray.empty), (.string ByteArray.empty), (.int .i64 (0 : Int)), (.int .u8 (0 : Int)), (.bool false), (.int .u64 (0 : Int)), (.int .i64 (7 : Int)), (.string ByteArray.empty), (.string ByteArray.empty), (.int .i64 (1 : Int)), (.int .u8 (0 : Int)), (.bool false), (.int .u64 (1 : Int)), (.int .i64 (0 : Int)), (.string (ByteArray.mk #[107])), (.string ByteArray.empty), (.int .i64 (0 : Int)), (.int .u8 (0 : Int)), (.bool false), (.int .u64 (0 : Int)), (.int .i64 (6 : Int)), (.string (ByteArray.mk #[107])), (.string ByteArray.empty), (.int .i64 (0 : Int)), (.int .u8 (0 : Int)), (.bool false), (.int .u64 (0 : Int)), (.int .i64 (8 : Int)), (.string ByteArray.empty), (.string ByteArray.empty), (.int .i64 (0 : Int)), (.int .u8 (0 : Int)), (.bool false), (.int .u64 (0 : Int)), (.int .i64 (10 : Int)), (.string ByteArray.empty), (.string ByteArray.empty), (.int .i64 (0 : Int)), (.int .u8 (0 : Int)), (.bool false), (.int .u64 (0 : Int)), (.int .i64 (2 : Int)), (.string (ByteArray.mk #[103])), (.string ByteArray.empty), (.int .i64 (0 : Int)), (.int .u8 (0 : Int)), (.bool false), (.int .u64 (0 : Int)), (.int .i64 (10 : Int)), (.string ByteArray.empty), (.string ByteArray.empty), (.int .i64 (0 : Int)), (.int .u8 (0 : Int)), (.bool false), (.int .u64 (0 : Int)), (.int .i64 (2 : Int)), (.string (ByteArray.mk #[103])), (.string ByteArray.empty), (.int .i64 (0 : Int)), (.int .u8 (0 : Int)), (.bool false), (.int .u64 (0 : Int))] ty_fathomlaw01_Step fun b_3 T_3 => (0 ≤ (100 : Int) ∧ (100 : Int) ≤ (long.size : Int)) ∧ (0 ≤ (101 : Int) ∧ (101 : Int) ≤ (long.size : Int)) ∧ (0 ≤ (100 : Int) ∧ (100 : Int) ≤ (long.size : Int)) ∧ (0 ≤ (101 : Int) ∧ (101 : Int) ≤ (long.size : Int)) ∧ (0 ≤ (100 : Int) ∧ (100 : Int) ≤ (long.size : Int)) ∧ layC H1 T_3 #[(.int .i64 (0 : Int)), (.string (long.extract 0 ((100 : Int).toNat))), (.string ByteArray.empty), (.int .i64 (0 : Int)), (.int .u8 (0 : Int)), (.bool false), (.int .u64 (0 : Int)), (.int .i64 (0 : Int)), (.string (long.extract 0 ((101 : Int).toNat))), (.string ByteArray.empty), (.int .i64 (0 : Int)), (.int .u8 (0 : Int)), (.bool false), (.int .u64 (0 : Int)), (.int .i64 (5 : Int)), (.string (long.extract 0 ((100 : Int).toNat))), (.string (long.extract 0 ((101 : Int).toNat))), (.int .i64 (0 : Int)), (.int .u8 (0 : Int)), (.bool false), (.int .u64 (0 : Int)), (.int .i64 (7 : Int)), (.string ByteArray.empty), (.string ByteArray.empty), (.int .i64 (-5 : Int)), (.int .u8 (0 : Int)), (.bool false), (.int .u64 (0 : Int)), (.int .i64 (0 : Int)), (.string (long.extract 0 ((100 : Int).toNat))), (.string ByteArray.empty), (.int .i64 (0 : Int)), (.int .u8 (0 : Int)), (.bool false), (.int .u64 (0 : Int)), (.int .i64 (0 : Int)), (.string (ByteArray.mk #[122])), (.string ByteArray.empty), (.int .i64 (0 : Int)), (.int .u8 (0 : Int)), (.bool false), (.int .u64 (0 : Int)), (.int .i64 (8 : Int)), (.string ByteArray.empty), (.string ByteArray.empty), (.int .i64 (0 : Int)), (.int .u8 (0 : Int)), (.bool false), (.int .u64 (0 : Int)), (.int .i64 (0 : Int)), (.string (ByteArray.mk #[122])), (.string ByteArray.empty), (.int .i64 (0 : Int)), (.int .u8 (0 : Int)), (.bool false), (.int .u64 (0 : Int))] ty_fathomlaw01_Step fun b_4 T_4 => layC H1 T_4 #[(.slice (some (Addr.mk b 0 none)) 17 17), (.slice (some (Addr.mk b_1 0 none)) 12 12), (.slice (some (Addr.mk b_2 0 none)) 8 8), (.slice (some (Addr.mk b_3 0 none)) 19 19), (.slice (some (Addr.mk b_4 0 none)) 8 8)] ty_sl_fathomlaw01_Step fun rows_b T_5 => laidC H1 T_5 fun H2 => LoopVC Int (0 : Int) H2 fun next_1 i H3 => br (decide (i < (5 : Int))) (newC H3 #[(.int .i64 (-1 : Int)), (.int .i64 (0 : Int)), (.int .i64 (1 : Int)), (.int .i64 (2 : Int)), (.int .i64 (9 : Int)), (.int .i64 (1073741824 : Int))] ty_int fun p H4 => LoopVC Int (0 : Int) H4 fun next_2 z H5 => br (decide (z < (6 : Int))) ((0 ≤ z ∧ z < (6 : Int)) ∧ ld (cInt .i64) H5 (p.add (z.toNat * 1)) fun (quota : Int) => LoopVC Int (0 : Int) H5 fun next_3 k H6 => (0 ≤ i ∧ i < (5 : Int)) ∧ ld cSl H6 ((Addr.mk rows_b 0 none).add (i.toNat * 1)) fun (x : Sl) => br (decide (k ≤ (x.n : Int))) ((0 ≤ i ∧ i < (5 : Int)) ∧ ld cSl H6 ((Addr.mk rows_b 0 none).add (i.toNat * 1)) fun (x_1 : Sl) => (0 ≤ k ∧ k ≤ (x_1.c : Int)) ∧ fathomlaw01_DiskPlays.sp quota (Sl.mk (slA x_1.a x_1.c 0 7) (k.toNat - 0) (x_1.c - 0)) H6 fun (r : Bool) H7 => br (!r) (R false H7) (next_3 (IntKind.i64.wrap (k + (1 : Int))) H7)) ((0 ≤ i ∧ i < (5 : Int)) ∧ ld cSl H6 ((Addr.mk rows_b 0 none).add (i.toNat * 1)) fun (x_2 : Sl) => fathomlaw01_DiskKeeps.sp quota x_2 (5 : Int) H6 fun (r_1 : Bool) H8 => br (!r_1) (R false H8) ((0 ≤ i ∧ i < (5 : Int)) ∧ ld cSl H8 ((Addr.mk rows_b 0 none).add (i.toNat * 1)) fun (x_3 : Sl) => fathomlaw01_DiskQuota.sp quota x_3 (2 : Int) H8 fun (r_2 : Bool) H9 => br (!r_2) (R false H9) ((0 ≤ i ∧ i < (5 : Int)) ∧ ld cSl H9 ((Addr.mk rows_b 0 none).add (i.toNat * 1)) fun (x_4 : Sl) => fathomlaw01_DiskCrashes.sp quota x_4 (3 : Int) (1 : Int) H9 fun (r_3 : Bool) H10 => br (!r_3) (R false H10) (next_2 (IntKind.i64.wrap (z + (1 : Int))) H10))))) (next_1 (IntKind.i64.wrap (i + (1 : Int))) H5)) (newC H3 #[(.int .i64 (0 : Int)), (.string (ByteArray.mk #[111, 119, 110])), (.string ByteArray.empty), (.int .i64 (0 : Int)), (.int .u8 (0 : Int)), (.bool false), (.int .u64 (0 : Int)), (.int .i64 (0 : Int)), (.string (ByteArray.mk #[111, 119, 110, 120])), (.string ByteArray.empty), (.int .i64 (0 : Int)), (.int .u8 (0 : Int)), (.bool false), (.int .u64 (0 : Int)), (.int .i64 (1 : Int)), (.string (ByteArray.mk #[111, 119, 110])), (.string ByteArray.empty), (.int .i64 (0 : Int)), (.int .u8 (0 : Int)), (.bool false), (.int .u64 (0 : Int)), (.int .i64 (0 : Int)), (.string (ByteArray.mk #[102])), (.string ByteArray.empty), (.int .i64 (0 : Int)), (.int .u8 (0 : Int)), (.bool false), (.int .u64 (0 : Int)), (.int .i64 (1 : Int)), (.string (ByteArray.mk #[102])), (.string ByteArray.empty), (.int .i64 (0 : Int)), (.int .u8 (0 : Int)), (.bool false), (.int .u64 (0 : Int)), (.int .i64 (1 : Int)), (.string (ByteArray.mk #[102])), (.string ByteArray.empty), (.int .i64 (1 : Int)), (.int .u8 (0 : Int)), (.bool false), (.int .u64 (0 : Int)), (.int .i64 (5 : Int)), (.string (ByteArray.mk #[102])), (.string (ByteArray.mk #[111, 119, 110, 120, 120])), (.int .i64 (0 : Int)), (.int .u8 (0 : Int)), (.bool false), (.int .u64 (0 : Int)), (.int .i64 (4 : Int)), (.string (ByteArray.mk #[111, 119, 110])), (.string ByteArray.empty), (.int .i64 (0 : Int)), (.int .u8 (0 : Int)), (.bool false), (.int .u64 (0 : Int)), (.int .i64 (1 : Int)), (.string (ByteArray.mk #[111, 119, 110])), (.string ByteArray.empty), (.int .i64 (0 : Int)), (.int .u8 (7 : Int)), (.bool false), (.int .u64 (0 : Int))] ty_fathomlaw01_Step fun taken_p H11 => fathomlaw01_DiskKeeps.sp (9 : Int) (Sl.mk (some taken_p) 9 9) (1 : Int) H11 fun (r_4 : Bool) H12 => br (!r_4) (R false H12) (fathomlaw01_DiskCrashes.sp (9 : Int) (Sl.mk (some taken_p) 9 9) (4 : Int) (3 : Int) H12 fun (r_5 : Bool) H13 => br (!r_5) (R false H13) (fathomlaw01_DiskQuota.sp (9 : Int) (Sl.mk (some taken_p) 9 9) (0 : Int) H13 fun (r_6 : Bool) H14 => br (!r_6) (R false H14) (newC H14 #[(.int .i64 (0 : Int)), (.string (ByteArray.mk #[102])), (.string ByteArray.empty), (.int .i64 (0 : Int)), (.int .u8 (0 : Int)), (.bool false), (.int .u64 (0 : Int))] ty_fathomlaw01_Step fun many_p H15 => LoopVC (Sl × Int) ((Sl.mk (some many_p) 1 1), (0 : Int)) H15 fun next_4 z_1 H16 => br (decide (z_1.2 < (70 : Int))) (newC H16 #[(.int .i64 (1 : Int)), (.string (ByteArray.mk #[102])), (.string ByteArray.empty), (.int .i64 z_1.2), (.int .u8 (IntKind.u8.wrap z_1.2)), (.bool false), (.int .u64 (0 : Int))] ty_fathomlaw01_Step fun p_1 H17 => doT cSl Tryz.prog (Builtin.append_ #[ty_sl_fathomlaw01_Step, ty_sl_fathomlaw01_Step] ty_sl_fathomlaw01_Step #[z_1.1.v, (.slice (some p_1) 1 1)]) H17 fun (many : Sl) H18 => next_4 (many, IntKind.i64.wrap (z_1.2 + (1 : Int))) H18) (newC H16 #[(.int .u64 (9223372036854775808 : Int)), (.int .u64 (9223372036854775809 : Int)), (.int .u64 (2 : Int)), (.int .u64 (18446744073709551614 : Int))] ty_uint64 fun p_2 H19 => LoopVC Int (0 : Int) H19 fun next_5 z_2 H20 => br (decide (z_2 < (4 : Int))) ((0 ≤ z_2 ∧ z_2 < (4 : Int)) ∧ ld (cInt .u64) H20 (p_2.add (z_2.toNat * 1)) fun (keep : Int) => doT cSl Tryz.prog (Builtin.append_ #[ty_sl_fathomlaw01_Step, ty_sl_fathomlaw01_Step] ty_sl_fathomlaw01_Step #[(.slice none 0 0), z_1.1.v]) H20 fun (l : Sl) H21 => newC H21 #[(.int .i64 (7 : Int)), (.string ByteArray.empty), (.string ByteArray.empty), (.int .i64 (0 : Int)), (.int .u8 (0 : Int)), (.bool false), (.int .u64 keep), (.int .i64 (4 : Int)), (.string (ByteArray.mk #[102])), (.string ByteArray.empty), (.int .i64 (0 : Int)), (.int .u8 (0 : Int)), (.bool false), (.int .u64 (0 : Int)), (.int .i64 (8 : Int)), (.string ByteArray.empty), (.string ByteArray.empty), (.int .i64 (0 : Int)), (.int .u8 (0 : Int)), (.bool false), (.int .u64 (0 : Int)), (.int .i64 (3 : Int)), (.string (ByteArray.mk #[102])), (.string ByteArray.empty), (.int .i64 (0 : Int)), (.int .u8 (0 : Int)), (.bool false), (.int .u64 (0 : Int))] ty_fathomlaw01_Step fun p_3 H22 => doT cSl Tryz.prog (Builtin.append_ #[ty_sl_fathomlaw01_Step, ty_sl_fathomlaw01_Step] ty_sl_fathomlaw01_Step #[l.v, (.slice (some p_3) 4 4)]) H22 fun (l_1 : Sl) H23 => fathomlaw01_DiskPlays.sp (100 : Int) l_1 H23 fun (r_7 : Bool) H24 => br (!r_7) (R false H24) (next_5 (IntKind.i64.wrap (z_2 + (1 : Int))) H24)) (disk_New.sp (1 : Int) H20 fun (d : Option Addr) H25 => LoopVC Int (0 : Int) H25 fun next_6 i_1 H26 => br (decide (i_1 < (4096 : Int))) (newC H26 #[(.int .u8 (IntKind.u8.wrap (IntKind.i64.wrap ((97 : Int) + (IntKind.i64.wrap (Int.tdiv i_1 (256 : Int))))))), (.int .u8 (IntKind.u8.wrap (Int.tmod i_1 (256 : Int))))] ty_uint8 fun p_4 H27 => b2s H27 (some p_4) 2 fun (str : ByteArray) => disk_Disk_Create.sp d str H27 fun (r_8 : Int) H28 => br (r_8 != (0 : Int)) (R false H28) (next_6 (IntKind.i64.wrap (i_1 + (1 : Int))) H28)) (disk_Disk_Create.sp d (ByteArray.mk #[109, 111, 114, 101]) H26 fun (r_9 : Int) H29 => br (r_9 == (3 : Int)) (disk_Disk_List.sp d H29 fun (r_10 : Sl) H30 => br ((r_10.n : Int) == (4096 : Int)) (fathomlaw01_DiskNone.sp (0 : Int) (ByteArray.mk #[102]) ByteArray.empty (0 : Int) (0 : Int) false (0 : Int) H30 fun (r_11 : Bool) H31 => br r_11 (fathomlaw01_works.sp H31 fun (r_12 : Bool) H32 => R r_12 H32) (R false H31)) (R false H30)) (R false H29)))))))))

theorem fathomlaw01_DiskKnown.of {H : Heap} {R : Bool → Heap → Prop} (h : fathomlaw01_DiskKnown.vc H R) : fathomlaw01_DiskKnown.sp H R :=
  specT_of_vc prog_ng prog_mixed (c := cBool) (A := [(2, [(1, cStr)]), (6, [(3, (cInt .i64))]), (9, [(109, (cInt .i64))]), (12, [(6, (cInt .i64))]), (24, [(8, cSl), (9, (cInt .i64))]), (28, [(195, (cInt .i64))]), (38, [(14, (cInt .i64))])]) (args := []) (Eq.mpr (by kernel_rfl : vcFT cBool Tryz.prog fathomlaw01_DiskKnown.no [(2, [(1, cStr)]), (6, [(3, (cInt .i64))]), (9, [(109, (cInt .i64))]), (12, [(6, (cInt .i64))]), (24, [(8, cSl), (9, (cInt .i64))]), (28, [(195, (cInt .i64))]), (38, [(14, (cInt .i64))])] [] H R = fathomlaw01_DiskKnown.vc H R) h)

/-- fathom/fathomlaw01.DiskPlays -/
def fathomlaw01_DiskPlays.vc (quota : Int) (script : Sl) (H : Heap) (R : Bool → Heap → Prop) : Prop :=
  br (decide ((script.n : Int) > (120 : Int))) (R true H) (disk_New.sp quota H fun (r : Option Addr) H1 => fathomref01_New.sp quota H1 fun (m : Option Addr) H2 => LoopVC (Option Addr × Option Addr × Option Addr × Option Addr × Int) (r, m, none, none, (0 : Int)) H2 fun next z H3 => br (decide (z.2.2.2.2 < (script.n : Int))) (br z.1.isNone (R false H3) (optK script.a fun a => (0 ≤ z.2.2.2.2 ∧ z.2.2.2.2 < (script.n : Int)) ∧ ld (cInt .i64) H3 ((a.add (z.2.2.2.2.toNat * 7)).add 0) fun (x : Int) => fathomkit_Pick.sp x (11 : Int) H3 fun (k : Int) H4 => br (k == (9 : Int)) (disk_Disk_Copy.sp z.1 H4 fun (r_1 : Option Addr) H5 => fathomref01_Disk_Copy.sp z.2.1 H5 fun (m_1 : Option Addr) H6 => fathomlaw01_tells.sp r_1 m_1 H6 fun (r_2 : Bool) H7 => br (!r_2) (R false H7) (br (!z.1.isNone) (fathomlaw01_tells.sp z.1 z.2.1 H7 fun (r_3 : Bool) H8 => br (!r_3) (R false H8) (next (r_1, m_1, z.1, z.2.1, IntKind.i64.wrap (z.2.2.2.2 + (1 : Int))) H8)) (next (r_1, m_1, z.1, z.2.1, IntKind.i64.wrap (z.2.2.2.2 + (1 : Int))) H7))) (br (k == (10 : Int)) (br (!z.2.2.1.isNone) (fathomlaw01_tells.sp z.2.2.1 z.2.2.2.1 H4 fun (r_4 : Bool) H9 => br (!r_4) (R false H9) (br (!z.1.isNone) (fathomlaw01_tells.sp z.1 z.2.1 H9 fun (r_5 : Bool) H10 => br (!r_5) (R false H10) (next (z.2.2.1, z.2.2.2.1, z.1, z.2.1, IntKind.i64.wrap (z.2.2.2.2 + (1 : Int))) H10)) (next (z.2.2.1, z.2.2.2.1, z.1, z.2.1, IntKind.i64.wrap (z.2.2.2.2 + (1 : Int))) H9))) (br (decide (k < (9 : Int))) (optK script.a fun a_1 => (0 ≤ z.2.2.2.2 ∧ z.2.2.2.2 < (script.n : Int)) ∧ ldA (cAgg [(cInt .i64), cStr, cStr, (cInt .i64), (cInt .u8), cBool, (cInt .u64)]) 7 H4 (a_1.add (z.2.2.2.2.toNat * 7)) fun (x_1 : (Int × ByteArray × ByteArray × Int × Int × Bool × Int)) => fathomlaw01_plays.sp z.1 z.2.1 x_1.1 x_1.2.1 x_1.2.2.1 x_1.2.2.2.1 x_1.2.2.2.2.1 x_1.2.2.2.2.2.1 x_1.2.2.2.2.2.2 H4 fun (r_6 : Bool) H11 => br (!r_6) (R false H11) (fathomlaw01_tells.sp z.1 z.2.1 H11 fun (r_7 : Bool) H12 => br (!r_7) (R false H12) (br (!z.2.2.1.isNone) (fathomlaw01_tells.sp z.2.2.1 z.2.2.2.1 H12 fun (r_8 : Bool) H13 => br (!r_8) (R false H13) (next (z.1, z.2.1, z.2.2.1, z.2.2.2.1, IntKind.i64.wrap (z.2.2.2.2 + (1 : Int))) H13)) (next (z.1, z.2.1, z.2.2.1, z.2.2.2.1, IntKind.i64.wrap (z.2.2.2.2 + (1 : Int))) H12)))) (fathomlaw01_tells.sp z.1 z.2.1 H4 fun (r_9 : Bool) H14 => br (!r_9) (R false H14) (br (!z.2.2.1.isNone) (fathomlaw01_tells.sp z.2.2.1 z.2.2.2.1 H14 fun (r_10 : Bool) H15 => br (!r_10) (R false H15) (next (z.1, z.2.1, z.2.2.1, z.2.2.2.1, IntKind.i64.wrap (z.2.2.2.2 + (1 : Int))) H15)) (next (z.1, z.2.1, z.2.2.1, z.2.2.2.1, IntKind.i64.wrap (z.2.2.2.2 + (1 : Int))) H14))))) (br (decide (k < (9 : Int))) (optK script.a fun a_2 => (0 ≤ z.2.2.2.2 ∧ z.2.2.2.2 < (script.n : Int)) ∧ ldA (cAgg [(cInt .i64), cStr, cStr, (cInt .i64), (cInt .u8), cBool, (cInt .u64)]) 7 H4 (a_2.add (z.2.2.2.2.toNat * 7)) fun (x_2 : (Int × ByteArray × ByteArray × Int × Int × Bool × Int)) => fathomlaw01_plays.sp z.1 z.2.1 x_2.1 x_2.2.1 x_2.2.2.1 x_2.2.2.2.1 x_2.2.2.2.2.1 x_2.2.2.2.2.2.1 x_2.2.2.2.2.2.2 H4 fun (r_11 : Bool) H16 => br (!r_11) (R false H16) (fathomlaw01_tells.sp z.1 z.2.1 H16 fun (r_12 : Bool) H17 => br (!r_12) (R false H17) (br (!z.2.2.1.isNone) (fathomlaw01_tells.sp z.2.2.1 z.2.2.2.1 H17 fun (r_13 : Bool) H18 => br (!r_13) (R false H18) (next (z.1, z.2.1, z.2.2.1, z.2.2.2.1, IntKind.i64.wrap (z.2.2.2.2 + (1 : Int))) H18)) (next (z.1, z.2.1, z.2.2.1, z.2.2.2.1, IntKind.i64.wrap (z.2.2.2.2 + (1 : Int))) H17)))) (fathomlaw01_tells.sp z.1 z.2.1 H4 fun (r_14 : Bool) H19 => br (!r_14) (R false H19) (br (!z.2.2.1.isNone) (fathomlaw01_tells.sp z.2.2.1 z.2.2.2.1 H19 fun (r_15 : Bool) H20 => br (!r_15) (R false H20) (next (z.1, z.2.1, z.2.2.1, z.2.2.2.1, IntKind.i64.wrap (z.2.2.2.2 + (1 : Int))) H20)) (next (z.1, z.2.1, z.2.2.1, z.2.2.2.1, IntKind.i64.wrap (z.2.2.2.2 + (1 : Int))) H19))))))) (br z.1.isNone (R false H3) (disk_Disk_Restart.sp z.1 H3 fun (_ : Unit) H21 => fathomref01_Disk_Restart.sp z.2.1 H21 fun (_ : Unit) H22 => LoopVC Int (0 : Int) H22 fun next_1 i H23 => optK z.2.1 fun a_3 => ld cSl H23 (a_3.add 0) fun (x_3 : Sl) => br (decide (i < (x_3.n : Int))) (optK z.2.1 fun a_4 => ld cSl H23 (a_4.add 0) fun (x_4 : Sl) => optK x_4.a fun a_5 => (0 ≤ i ∧ i < (x_4.n : Int)) ∧ ldA (cAgg [cStr, cSl, cSl]) 3 H23 (a_5.add (i.toNat * 3)) fun (x_5 : (ByteArray × Sl × Sl)) => fathomref01_File_Pages.sp x_5.1 x_5.2.1 x_5.2.2 H23 fun (l : Sl) H24 => LoopVC Int (0 : Int) H24 fun next_2 k_1 H25 => br (decide (k_1 ≤ (l.n : Int))) (optK z.2.1 fun a_6 => ld cSl H25 (a_6.add 0) fun (x_6 : Sl) => optK x_6.a fun a_7 => (0 ≤ i ∧ i < (x_6.n : Int)) ∧ ld cStr H25 ((a_7.add (i.toNat * 3)).add 0) fun (x_7 : ByteArray) => fathomlaw01_plays.sp z.1 z.2.1 (2 : Int) x_7 ByteArray.empty k_1 (0 : Int) false (0 : Int) H25 fun (r_18 : Bool) H26 => br (!r_18) (R false H26) (next_2 (IntKind.i64.wrap (k_1 + (1 : Int))) H26)) (next_1 (IntKind.i64.wrap (i + (1 : Int))) H25)) (fathomlaw01_tells.sp z.1 z.2.1 H23 fun (r_19 : Bool) H27 => br r_19 (fathomlaw01_works.sp H27 fun (r_20 : Bool) H28 => R r_20 H28) (R false H27)))))

theorem fathomlaw01_DiskPlays.of {quota : Int} {script : Sl} {H : Heap} {R : Bool → Heap → Prop} (h : fathomlaw01_DiskPlays.vc quota script H R) : fathomlaw01_DiskPlays.sp quota script H R :=
  specT_of_vc prog_ng prog_mixed (c := cBool) (A := [(7, [(5, cPtr), (6, cPtr), (7, cPtr), (8, cPtr), (9, (cInt .i64))]), (27, [(11, (cInt .i64))]), (31, [(13, (cInt .i64))])]) (args := [(.int .i64 quota), script.v]) (Eq.mpr (by kernel_rfl : vcFT cBool Tryz.prog fathomlaw01_DiskPlays.no [(7, [(5, cPtr), (6, cPtr), (7, cPtr), (8, cPtr), (9, (cInt .i64))]), (27, [(11, (cInt .i64))]), (31, [(13, (cInt .i64))])] [(.int .i64 quota), script.v] H R = fathomlaw01_DiskPlays.vc quota script H R) h)

/-- fathom/fathomlaw01.DiskKeeps -/
def fathomlaw01_DiskKeeps.vc (quota : Int) (script : Sl) (keep : Int) (H : Heap) (R : Bool → Heap → Prop) : Prop :=
  br (decide ((script.n : Int) > (60 : Int))) (R true H) (disk_New.sp quota H fun (d : Option Addr) H1 => fathomlaw01_run.sp d script H1 fun (_ : Unit) H2 => disk_Disk_Copy.sp d H2 fun (whole : Option Addr) H3 => fathomlaw01_files.sp whole H3 fun (all : ByteArray) H4 => disk_Disk_Crash.sp whole (0 : Int) (18446744073709551615 : Int) H4 fun (_ : Unit) H5 => fathomlaw01_own.sp whole H5 fun (r_2 : ByteArray) H6 => disk_Disk_Create.sp whole r_2 H6 fun (r_3 : Int) H7 => br (r_3 != (4 : Int)) (R false H7) (disk_Disk_Restart.sp whole H7 fun (_ : Unit) H8 => fathomlaw01_files.sp whole H8 fun (r_5 : ByteArray) H9 => br (!(r_5.toList == all.toList)) (R false H9) (disk_Disk_List.sp d H9 fun (l : Sl) H10 => LoopVC Int (0 : Int) H10 fun next i H11 => br (decide (i < (l.n : Int))) (optK l.a fun a => (0 ≤ i ∧ i < (l.n : Int)) ∧ ld cStr H11 (a.add (i.toNat * 1)) fun (x : ByteArray) => disk_Disk_Sync.sp d x H11 fun (r_6 : Int) H12 => br (r_6 != (0 : Int)) (R false H12) (next (IntKind.i64.wrap (i + (1 : Int))) H12)) (disk_Disk_Crash.sp d (0 : Int) keep H11 fun (_ : Unit) H13 => fathomlaw01_own.sp d H13 fun (r_8 : ByteArray) H14 => disk_Disk_Create.sp d r_8 H14 fun (r_9 : Int) H15 => br (r_9 != (4 : Int)) (R false H15) (disk_Disk_List.sp d H15 fun (r_10 : Sl) H16 => br (decide ((r_10.n : Int) > (0 : Int))) (R false H16) (disk_Disk_Restart.sp d H16 fun (_ : Unit) H17 => fathomlaw01_files.sp d H17 fun (r_12 : ByteArray) H18 => br (r_12.toList == all.toList) (fathomlaw01_works.sp H18 fun (r_13 : Bool) H19 => R r_13 H19) (R false H18)))))))

theorem fathomlaw01_DiskKeeps.of {quota : Int} {script : Sl} {keep : Int} {H : Heap} {R : Bool → Heap → Prop} (h : fathomlaw01_DiskKeeps.vc quota script keep H R) : fathomlaw01_DiskKeeps.sp quota script keep H R :=
  specT_of_vc prog_ng prog_mixed (c := cBool) (A := [(15, [(11, (cInt .i64))])]) (args := [(.int .i64 quota), script.v, (.int .u64 keep)]) (Eq.mpr (by kernel_rfl : vcFT cBool Tryz.prog fathomlaw01_DiskKeeps.no [(15, [(11, (cInt .i64))])] [(.int .i64 quota), script.v, (.int .u64 keep)] H R = fathomlaw01_DiskKeeps.vc quota script keep H R) h)

/-- fathom/fathomlaw01.DiskQuota -/
def fathomlaw01_DiskQuota.vc (quota : Int) (script : Sl) (keep : Int) (H : Heap) (R : Bool → Heap → Prop) : Prop :=
  br (decide ((script.n : Int) > (60 : Int))) (R true H) (disk_New.sp quota H fun (d : Option Addr) H1 => LoopVC (Int × Int) ((0 : Int), (0 : Int)) H1 fun next z H2 => br (decide (z.2 < (script.n : Int))) ((0 ≤ (IntKind.i64.wrap (z.2 + (1 : Int))) ∧ (IntKind.i64.wrap (z.2 + (1 : Int))) ≤ (script.c : Int)) ∧ (0 ≤ z.2 ∧ z.2 ≤ (IntKind.i64.wrap (z.2 + (1 : Int)))) ∧ fathomlaw01_run.sp d (Sl.mk (slA script.a script.c z.2.toNat 7) (((IntKind.i64.wrap (z.2 + (1 : Int))).toNat) - z.2.toNat) (script.c - z.2.toNat)) H2 fun (_ : Unit) H3 => fathomlaw01_pages.sp d H3 fun (sum : Int) H4 => disk_Disk_Used.sp d H4 fun (r_1 : Int) H5 => br (r_1 != sum) (R false H5) (disk_Disk_Most.sp d H5 fun (r_2 : Int) H6 => br (r_2 != (if sum > z.1 then sum else z.1)) (R false H6) (disk_Disk_Quota.sp d H6 fun (r_3 : Int) H7 => br (decide (sum > r_3)) (R false H7) (br ((Int.tmod z.2 (9 : Int)) == (8 : Int)) (disk_Disk_Crash.sp d (0 : Int) keep H7 fun (_ : Unit) H8 => fathomlaw01_own.sp d H8 fun (r_5 : ByteArray) H9 => disk_Disk_Create.sp d r_5 H9 fun (_ : Int) H10 => disk_Disk_Restart.sp d H10 fun (_ : Unit) H11 => disk_Disk_Used.sp d H11 fun (r_8 : Int) H12 => fathomlaw01_pages.sp d H12 fun (r_9 : Int) H13 => br (r_8 != r_9) (R false H13) (disk_Disk_Used.sp d H13 fun (r_10 : Int) H14 => br (decide (r_10 > sum)) (R false H14) (disk_Disk_Most.sp d H14 fun (r_11 : Int) H15 => br (r_11 != (if sum > z.1 then sum else z.1)) (R false H15) (next (if sum > z.1 then sum else z.1, IntKind.i64.wrap (z.2 + (1 : Int))) H15)))) (next (if sum > z.1 then sum else z.1, IntKind.i64.wrap (z.2 + (1 : Int))) H7))))) (fathomlaw01_works.sp H2 fun (r_12 : Bool) H16 => R r_12 H16))

theorem fathomlaw01_DiskQuota.of {quota : Int} {script : Sl} {keep : Int} {H : Heap} {R : Bool → Heap → Prop} (h : fathomlaw01_DiskQuota.vc quota script keep H R) : fathomlaw01_DiskQuota.sp quota script keep H R :=
  specT_of_vc prog_ng prog_mixed (c := cBool) (A := [(6, [(8, (cInt .i64)), (9, (cInt .i64))])]) (args := [(.int .i64 quota), script.v, (.int .u64 keep)]) (Eq.mpr (by kernel_rfl : vcFT cBool Tryz.prog fathomlaw01_DiskQuota.no [(6, [(8, (cInt .i64)), (9, (cInt .i64))])] [(.int .i64 quota), script.v, (.int .u64 keep)] H R = fathomlaw01_DiskQuota.vc quota script keep H R) h)

/-- fathom/fathomlaw01.DiskCrashes -/
def fathomlaw01_DiskCrashes.vc (quota : Int) (script : Sl) (p : Int) (keep : Int) (H : Heap) (R : Bool → Heap → Prop) : Prop :=
  br (decide ((script.n : Int) > (60 : Int))) (R true H) (fathomkit_Pick.sp p (60 : Int) H fun (r : Int) H1 => disk_New.sp quota H1 fun (r_1 : Option Addr) H2 => disk_New.sp quota H2 fun (b : Option Addr) H3 => disk_Disk_Crash.sp b r keep H3 fun (_ : Unit) H4 => LoopVC Int (0 : Int) H4 fun next i H5 => br (decide (i < (script.n : Int))) (disk_Disk_Copy.sp r_1 H5 fun (kept : Option Addr) H6 => (0 ≤ (IntKind.i64.wrap (i + (1 : Int))) ∧ (IntKind.i64.wrap (i + (1 : Int))) ≤ (script.c : Int)) ∧ (0 ≤ i ∧ i ≤ (IntKind.i64.wrap (i + (1 : Int)))) ∧ fathomlaw01_run.sp r_1 (Sl.mk (slA script.a script.c i.toNat 7) (((IntKind.i64.wrap (i + (1 : Int))).toNat) - i.toNat) (script.c - i.toNat)) H6 fun (_ : Unit) H7 => (0 ≤ (IntKind.i64.wrap (i + (1 : Int))) ∧ (IntKind.i64.wrap (i + (1 : Int))) ≤ (script.c : Int)) ∧ (0 ≤ i ∧ i ≤ (IntKind.i64.wrap (i + (1 : Int)))) ∧ fathomlaw01_run.sp b (Sl.mk (slA script.a script.c i.toNat 7) (((IntKind.i64.wrap (i + (1 : Int))).toNat) - i.toNat) (script.c - i.toNat)) H7 fun (_ : Unit) H8 => disk_Disk_Ops.sp r_1 H8 fun (r_5 : Int) H9 => br (decide (r_5 > r)) (disk_Disk_Down.sp b H9 fun (r_6 : Bool) H10 => br (!r_6) (R false H10) (disk_Disk_Ops.sp b H10 fun (r_7 : Int) H11 => br (r_7 != r) (R false H11) (disk_Disk_Ops.sp kept H11 fun (r_8 : Int) H12 => br (r_8 != r) (R false H12) (disk_Disk_Crash.sp kept (0 : Int) keep H12 fun (_ : Unit) H13 => fathomlaw01_own.sp kept H13 fun (r_10 : ByteArray) H14 => disk_Disk_Create.sp kept r_10 H14 fun (_ : Int) H15 => disk_Disk_Restart.sp kept H15 fun (_ : Unit) H16 => disk_Disk_Restart.sp b H16 fun (_ : Unit) H17 => fathomlaw01_files.sp kept H17 fun (r_14 : ByteArray) H18 => fathomlaw01_files.sp b H18 fun (r_15 : ByteArray) H19 => br (r_14.toList == r_15.toList) (disk_Disk_Used.sp b H19 fun (r_16 : Int) H20 => disk_Disk_Used.sp kept H20 fun (r_17 : Int) H21 => br (r_16 == r_17) (fathomlaw01_works.sp H21 fun (r_18 : Bool) H22 => R r_18 H22) (R false H21)) (R false H19))))) (disk_Disk_Down.sp b H9 fun (r_19 : Bool) H23 => br r_19 (R false H23) (disk_Disk_Ops.sp r_1 H23 fun (r_20 : Int) H24 => disk_Disk_Ops.sp b H24 fun (r_21 : Int) H25 => br (r_20 != r_21) (R false H25) (fathomlaw01_files.sp r_1 H25 fun (r_22 : ByteArray) H26 => fathomlaw01_files.sp b H26 fun (r_23 : ByteArray) H27 => br (!(r_22.toList == r_23.toList)) (R false H27) (next (IntKind.i64.wrap (i + (1 : Int))) H27))))) (fathomlaw01_works.sp H5 fun (r_24 : Bool) H28 => R r_24 H28))

theorem fathomlaw01_DiskCrashes.of {quota : Int} {script : Sl} {p : Int} {keep : Int} {H : Heap} {R : Bool → Heap → Prop} (h : fathomlaw01_DiskCrashes.vc quota script p keep H R) : fathomlaw01_DiskCrashes.sp quota script p keep H R :=
  specT_of_vc prog_ng prog_mixed (c := cBool) (A := [(7, [(11, (cInt .i64))])]) (args := [(.int .i64 quota), script.v, (.int .i64 p), (.int .u64 keep)]) (Eq.mpr (by kernel_rfl : vcFT cBool Tryz.prog fathomlaw01_DiskCrashes.no [(7, [(11, (cInt .i64))])] [(.int .i64 quota), script.v, (.int .i64 p), (.int .u64 keep)] H R = fathomlaw01_DiskCrashes.vc quota script p keep H R) h)

/-- fathom/disk.New -/
def disk_New.vc (quota : Int) (H : Heap) (R : Option Addr → Heap → Prop) : Prop :=
  newM H fun m H1 => newC H1 #[(.map (some m)), (.int .i64 (0 : Int)), (.int .i64 (0 : Int)), (.int .i64 (if (1048576 : Int) < (if (0 : Int) > quota then (0 : Int) else quota) then (1048576 : Int) else (if (0 : Int) > quota then (0 : Int) else quota))), (.int .i64 (0 : Int)), (.int .i64 (0 : Int)), (.bool false), (.int .i64 (0 : Int)), (.int .u64 (0 : Int)), (.bool false)] ty_disk_Disk fun p H2 => R (some p) H2

theorem disk_New.of {quota : Int} {H : Heap} {R : Option Addr → Heap → Prop} (h : disk_New.vc quota H R) : disk_New.sp quota H R :=
  specT_of_vc prog_ng prog_mixed (c := cPtr) (A := []) (args := [(.int .i64 quota)]) (Eq.mpr (by kernel_rfl : vcFT cPtr Tryz.prog disk_New.no [] [(.int .i64 quota)] H R = disk_New.vc quota H R) h)

/-- (*fathom/disk.Disk).Create -/
def disk_Disk_Create.vc (d : Option Addr) (name : ByteArray) (H : Heap) (R : Int → Heap → Prop) : Prop :=
  disk_Disk_ready.sp d H fun (e : Int) H1 => br (e != (0 : Int)) (R e H1) (optK d fun a => ld cMap H1 (a.add 0) fun (x : Option Nat) => rdV (cTup [cPtr, cBool]) Tryz.prog (Instr.lookup ty_maparr_string_ptr_disk_file (.map x) (.string name) true) H1 fun (x_1 : (Option Addr × Bool)) => disk_named.sp name H1 fun (r : Bool) H2 => br (!r) (R (2 : Int) H2) (br x_1.2 (R (10 : Int) H2) (optK d fun a_1 => ld cMap H2 (a_1.add 0) fun (x_2 : Option Nat) => lenM H2 x_2 fun (n : Nat) => br ((n : Int) == (4096 : Int)) (R (3 : Int) H2) (disk_Disk_change.sp d H2 fun (e_1 : Int) H3 => br (e_1 == (0 : Int)) (optK d fun a_2 => ld cMap H3 (a_2.add 0) fun (x_3 : Option Nat) => newC H3 #[(.slice none 0 0), (.slice none 0 0), (.slice none 0 0)] ty_disk_file fun p H4 => doU Tryz.prog (Instr.mapUpdate ty_maparr_string_ptr_disk_file (.map x_3) (.string name) (.pointer (some p))) H4 fun H5 => R e_1 H5) (R e_1 H3)))))

theorem disk_Disk_Create.of {d : Option Addr} {name : ByteArray} {H : Heap} {R : Int → Heap → Prop} (h : disk_Disk_Create.vc d name H R) : disk_Disk_Create.sp d name H R :=
  specT_of_vc prog_ng prog_mixed (c := (cInt .i64)) (A := []) (args := [(.pointer d), (.string name)]) (Eq.mpr (by kernel_rfl : vcFT (cInt .i64) Tryz.prog disk_Disk_Create.no [] [(.pointer d), (.string name)] H R = disk_Disk_Create.vc d name H R) h)

/-- (*fathom/disk.Disk).List -/
def disk_Disk_List.vc (d : Option Addr) (H : Heap) (R : Sl → Heap → Prop) : Prop :=
  disk_Disk_ready.sp d H fun (r : Int) H1 => br (r != (0 : Int)) (R (Sl.mk none 0 0) H1) (optK d fun a => ld cMap H1 (a.add 0) fun (x : Option Nat) => maps_Keys_map_string_ptr_disk_file_string_ptr_disk_file.sp x H1 fun (r_1 : Value) H2 => slices_Sorted_string.sp r_1 H2 fun (r_2 : Sl) H3 => R r_2 H3)

theorem disk_Disk_List.of {d : Option Addr} {H : Heap} {R : Sl → Heap → Prop} (h : disk_Disk_List.vc d H R) : disk_Disk_List.sp d H R :=
  specT_of_vc prog_ng prog_mixed (c := cSl) (A := []) (args := [(.pointer d)]) (Eq.mpr (by kernel_rfl : vcFT cSl Tryz.prog disk_Disk_List.no [] [(.pointer d)] H R = disk_Disk_List.vc d H R) h)

/-- fathom/fathomlaw01.DiskNone -/
def fathomlaw01_DiskNone.vc (x_ : Int) (x_1 : ByteArray) (x_2 : ByteArray) (x_3 : Int) (x_4 : Int) (x_5 : Bool) (x_6 : Int) (H : Heap) (R : Bool → Heap → Prop) : Prop :=
  newC H #[(.int .i64 x_), (.string x_1), (.string x_2), (.int .i64 x_3), (.int .u8 x_4), (.bool x_5), (.int .u64 x_6)] ty_fathomlaw01_Step fun p H1 => ld cStr H1 (p.add 1) fun (x : ByteArray) => ld (cInt .i64) H1 (p.add 3) fun (x_7 : Int) => disk_Disk_Read.sp none x x_7 H1 fun (r : (Sl × Int)) H2 => ld cStr H2 (p.add 1) fun (x_8 : ByteArray) => disk_Disk_Len.sp none x_8 H2 fun (r_1 : (Int × Int)) H3 => ld (cInt .i64) H3 (p.add 3) fun (x_9 : Int) => ld (cInt .u64) H3 (p.add 6) fun (x_10 : Int) => disk_Disk_Crash.sp none x_9 x_10 H3 fun (_ : Unit) H4 => disk_Disk_Restart.sp none H4 fun (_ : Unit) H5 => br (((r.1.n : Int) == (0 : Int)) && (r_1.1 == (0 : Int))) (disk_Disk_List.sp none H5 fun (r_4 : Sl) H6 => br ((r_4.n : Int) == (0 : Int)) (disk_Disk_Used.sp none H6 fun (r_5 : Int) H7 => br (r_5 == (0 : Int)) (disk_Disk_Most.sp none H7 fun (r_6 : Int) H8 => br (r_6 == (0 : Int)) (disk_Disk_Quota.sp none H8 fun (r_7 : Int) H9 => br (r_7 == (0 : Int)) (disk_Disk_Ops.sp none H9 fun (r_8 : Int) H10 => br (r_8 == (0 : Int)) (disk_Disk_Down.sp none H10 fun (r_9 : Bool) H11 => br (!r_9) (disk_Disk_Copy.sp none H11 fun (r_10 : Option Addr) H12 => ∃ G : Heap → Prop, G H12 ∧ br ((r_10.isNone && (r.2 == (1 : Int))) && (r_1.2 == (1 : Int))) (ld cStr H12 (p.add 1) fun (x_11 : ByteArray) => disk_Disk_Create.sp none x_11 H12 fun (r_11 : Int) H13 => G H13 ∧ br (r_11 == (1 : Int)) (ldC cStr G (p.add 1) fun (x_12 : ByteArray) => ldC (cInt .i64) G (p.add 3) fun (x_13 : Int) => ldA (cAgg [(cInt .i64), cStr, cStr, (cInt .i64), (cInt .u8), cBool, (cInt .u64)]) 7 H13 p fun (x_14 : (Int × ByteArray × ByteArray × Int × Int × Bool × Int)) => fathomlaw01_Step_bytes.sp x_14.1 x_14.2.1 x_14.2.2.1 x_14.2.2.2.1 x_14.2.2.2.2.1 x_14.2.2.2.2.2.1 x_14.2.2.2.2.2.2 H13 fun (r_12 : Sl) H14 => G H14 ∧ disk_Disk_Write.sp none x_12 x_13 r_12 H14 fun (r_13 : Int) H15 => G H15 ∧ br (r_13 == (1 : Int)) (ld cStr H15 (p.add 1) fun (x_15 : ByteArray) => disk_Disk_Sync.sp none x_15 H15 fun (r_14 : Int) H16 => G H16 ∧ br (r_14 == (1 : Int)) (ld cStr H16 (p.add 1) fun (x_16 : ByteArray) => ldC cStr G (p.add 2) fun (x_17 : ByteArray) => disk_Disk_Rename.sp none x_16 x_17 H16 fun (r_15 : Int) H17 => br (r_15 == (1 : Int)) (ld cStr H17 (p.add 1) fun (x_18 : ByteArray) => disk_Disk_Remove.sp none x_18 H17 fun (r_16 : Int) H18 => br (r_16 == (1 : Int)) (fathomlaw01_works.sp H18 fun (r_17 : Bool) H19 => R r_17 H19) (R false H18)) (R false H17)) (R false H16)) (R false H15)) (R false H13)) (R false H12)) (∃ G_1 : Heap → Prop, G_1 H11 ∧ R false H11)) (∃ G_2 : Heap → Prop, G_2 H10 ∧ R false H10)) (∃ G_3 : Heap → Prop, G_3 H9 ∧ R false H9)) (∃ G_4 : Heap → Prop, G_4 H8 ∧ R false H8)) (∃ G_5 : Heap → Prop, G_5 H7 ∧ R false H7)) (∃ G_6 : Heap → Prop, G_6 H6 ∧ R false H6)) (∃ G_7 : Heap → Prop, G_7 H5 ∧ R false H5)

theorem fathomlaw01_DiskNone.of {x_ : Int} {x_1 : ByteArray} {x_2 : ByteArray} {x_3 : Int} {x_4 : Int} {x_5 : Bool} {x_6 : Int} {H : Heap} {R : Bool → Heap → Prop} (h : fathomlaw01_DiskNone.vc x_ x_1 x_2 x_3 x_4 x_5 x_6 H R) : fathomlaw01_DiskNone.sp x_ x_1 x_2 x_3 x_4 x_5 x_6 H R :=
  specT_of_vc prog_ng prog_mixed (c := cBool) (A := []) (args := [(.agg #[(.int .i64 x_), (.string x_1), (.string x_2), (.int .i64 x_3), (.int .u8 x_4), (.bool x_5), (.int .u64 x_6)])]) (Eq.mpr (by kernel_rfl : vcFT cBool Tryz.prog fathomlaw01_DiskNone.no [] [(.agg #[(.int .i64 x_), (.string x_1), (.string x_2), (.int .i64 x_3), (.int .u8 x_4), (.bool x_5), (.int .u64 x_6)])] H R = fathomlaw01_DiskNone.vc x_ x_1 x_2 x_3 x_4 x_5 x_6 H R) h)

/-- fathom/fathomlaw01.works -/
def fathomlaw01_works.vc  (H : Heap) (R : Bool → Heap → Prop) : Prop :=
  disk_New.sp (2 : Int) H fun (d : Option Addr) H1 => fathomlaw01_Step_bytes.sp (0 : Int) ByteArray.empty ByteArray.empty (0 : Int) (1 : Int) false (0 : Int) H1 fun (r : Sl) H2 => fathomlaw01_Step_bytes.sp (0 : Int) ByteArray.empty ByteArray.empty (0 : Int) (2 : Int) false (0 : Int) H2 fun (b : Sl) H3 => br d.isNone (R false H3) (disk_Disk_Create.sp d (ByteArray.mk #[102]) H3 fun (r_1 : Int) H4 => br (r_1 != (0 : Int)) (R false H4) (disk_Disk_Write.sp d (ByteArray.mk #[102]) (0 : Int) r H4 fun (r_2 : Int) H5 => br (r_2 != (0 : Int)) (R false H5) (disk_Disk_Sync.sp d (ByteArray.mk #[102]) H5 fun (r_3 : Int) H6 => br (r_3 != (0 : Int)) (R false H6) (disk_Disk_Write.sp d (ByteArray.mk #[102]) (0 : Int) b H6 fun (r_4 : Int) H7 => br (r_4 != (0 : Int)) (R false H7) (disk_Disk_Crash.sp d (0 : Int) (0 : Int) H7 fun (_ : Unit) H8 => disk_Disk_Remove.sp d (ByteArray.mk #[102]) H8 fun (r_6 : Int) H9 => br (r_6 != (4 : Int)) (R false H9) (disk_Disk_Down.sp d H9 fun (r_7 : Bool) H10 => br (!r_7) (R false H10) (disk_Disk_Restart.sp d H10 fun (_ : Unit) H11 => disk_Disk_Read.sp d (ByteArray.mk #[102]) (0 : Int) H11 fun (r_9 : (Sl × Int)) H12 => br (r_9.2 == (0 : Int)) (b2s H12 r_9.1.a r_9.1.n fun (str : ByteArray) => b2s H12 r.a r.n fun (str_1 : ByteArray) => br (str.toList == str_1.toList) (disk_Disk_Used.sp d H12 fun (r_10 : Int) H13 => br (r_10 == (1 : Int)) (disk_Disk_Ops.sp d H13 fun (r_11 : Int) H14 => R (r_11 == (4 : Int)) H14) (R false H13)) (R false H12)) (R false H12))))))))

theorem fathomlaw01_works.of {H : Heap} {R : Bool → Heap → Prop} (h : fathomlaw01_works.vc H R) : fathomlaw01_works.sp H R :=
  specT_of_vc prog_ng prog_mixed (c := cBool) (A := []) (args := []) (Eq.mpr (by kernel_rfl : vcFT cBool Tryz.prog fathomlaw01_works.no [] [] H R = fathomlaw01_works.vc H R) h)

/-- fathom/fathomref01.New -/
def fathomref01_New.vc (quota : Int) (H : Heap) (R : Option Addr → Heap → Prop) : Prop :=
  newC H #[(.slice none 0 0), (.int .i64 (0 : Int)), (.int .i64 (if (1048576 : Int) < (if (0 : Int) > quota then (0 : Int) else quota) then (1048576 : Int) else (if (0 : Int) > quota then (0 : Int) else quota))), (.int .i64 (0 : Int)), (.int .i64 (0 : Int)), (.bool false), (.int .i64 (0 : Int)), (.int .u64 (0 : Int)), (.bool false)] ty_fathomref01_Disk fun p H1 => R (some p) H1

theorem fathomref01_New.of {quota : Int} {H : Heap} {R : Option Addr → Heap → Prop} (h : fathomref01_New.vc quota H R) : fathomref01_New.sp quota H R :=
  specT_of_vc prog_ng prog_mixed (c := cPtr) (A := []) (args := [(.int .i64 quota)]) (Eq.mpr (by kernel_rfl : vcFT cPtr Tryz.prog fathomref01_New.no [] [(.int .i64 quota)] H R = fathomref01_New.vc quota H R) h)

/-- fathom/fathomkit.Pick -/
def fathomkit_Pick.vc (i : Int) (n : Int) (H : Heap) (R : Int → Heap → Prop) : Prop :=
  br (decide (n < (1 : Int))) (R (0 : Int) H) (n ≠ 0 ∧ br (decide ((Int.tmod i n) < (0 : Int))) (R (IntKind.i64.wrap ((Int.tmod i n) + n)) H) (R (Int.tmod i n) H))

theorem fathomkit_Pick.of {i : Int} {n : Int} {H : Heap} {R : Int → Heap → Prop} (h : fathomkit_Pick.vc i n H R) : fathomkit_Pick.sp i n H R :=
  specT_of_vc prog_ng prog_mixed (c := (cInt .i64)) (A := []) (args := [(.int .i64 i), (.int .i64 n)]) (Eq.mpr (by kernel_rfl : vcFT (cInt .i64) Tryz.prog fathomkit_Pick.no [] [(.int .i64 i), (.int .i64 n)] H R = fathomkit_Pick.vc i n H R) h)

/-- (*fathom/disk.Disk).Copy -/
def disk_Disk_Copy.vc (d : Option Addr) (H : Heap) (R : Option Addr → Heap → Prop) : Prop :=
  br d.isNone (R none H) (optK d fun a => ldA (cAgg [cMap, (cInt .i64), (cInt .i64), (cInt .i64), (cInt .i64), (cInt .i64), cBool, (cInt .i64), (cInt .u64), cBool]) 10 H a fun (x : (Option Nat × Int × Int × Int × Int × Int × Bool × Int × Int × Bool)) => newC H (zc Tryz.prog ty_disk_Disk) ty_disk_Disk fun p H1 => doU Tryz.prog (Instr.storeAt ty_disk_Disk (.pointer (some p)) (.agg #[(.map x.1), (.int .i64 x.2.1), (.int .i64 x.2.2.1), (.int .i64 x.2.2.2.1), (.int .i64 x.2.2.2.2.1), (.int .i64 x.2.2.2.2.2.1), (.bool x.2.2.2.2.2.2.1), (.int .i64 x.2.2.2.2.2.2.2.1), (.int .u64 x.2.2.2.2.2.2.2.2.1), (.bool x.2.2.2.2.2.2.2.2.2)])) H1 fun H2 => newM H2 fun m H3 => st H3 (p.add 0) (.map (some m)) fun H4 => optK d fun a_1 => ld cMap H4 (a_1.add 0) fun (x_1 : Option Nat) => doT cPtr Tryz.prog (Instr.range ty_maparr_string_ptr_disk_file (.map x_1)) H4 fun (it : Option Addr) H5 => LoopVC Unit () H5 fun next _ H6 => doT cNext Tryz.prog (Instr.next (.pointer it) false ty_) H6 fun (nx : Bool × List Value) H7 => br nx.1 (doT cTwo Tryz.prog (Instr.entry (.pointer it)) H7 fun (en : Value × Value) H8 => asT cStr en.1 fun (name : ByteArray) => asT cPtr en.2 fun (f : Option Addr) => ∃ G : Heap → Prop, G H8 ∧ ldC cMap G (p.add 0) fun (x_2 : Option Nat) => disk_file_clone.sp f H8 fun (r : Option Addr) H9 => G H9 ∧ doU Tryz.prog (Instr.mapUpdate ty_maparr_string_ptr_disk_file (.map x_2) (.string name) (.pointer r)) H9 fun H10 => next () H10) (R (some p) H7))

theorem disk_Disk_Copy.of {d : Option Addr} {H : Heap} {R : Option Addr → Heap → Prop} (h : disk_Disk_Copy.vc d H R) : disk_Disk_Copy.sp d H R :=
  specT_of_vc prog_ng prog_mixed (c := cPtr) (A := [(6, [])]) (args := [(.pointer d)]) (Eq.mpr (by kernel_rfl : vcFT cPtr Tryz.prog disk_Disk_Copy.no [(6, [])] [(.pointer d)] H R = disk_Disk_Copy.vc d H R) h)

/-- (*fathom/fathomref01.Disk).Copy -/
def fathomref01_Disk_Copy.vc (d : Option Addr) (H : Heap) (R : Option Addr → Heap → Prop) : Prop :=
  optK d fun a => ldA (cAgg [cSl, (cInt .i64), (cInt .i64), (cInt .i64), (cInt .i64), cBool, (cInt .i64), (cInt .u64), cBool]) 9 H a fun (x : (Sl × Int × Int × Int × Int × Bool × Int × Int × Bool)) => newC H (zc Tryz.prog ty_fathomref01_Disk) ty_fathomref01_Disk fun p H1 => doU Tryz.prog (Instr.storeAt ty_fathomref01_Disk (.pointer (some p)) (.agg #[x.1.v, (.int .i64 x.2.1), (.int .i64 x.2.2.1), (.int .i64 x.2.2.2.1), (.int .i64 x.2.2.2.2.1), (.bool x.2.2.2.2.2.1), (.int .i64 x.2.2.2.2.2.2.1), (.int .u64 x.2.2.2.2.2.2.2.1), (.bool x.2.2.2.2.2.2.2.2)])) H1 fun H2 => st H2 (p.add 0) (.slice none 0 0) fun H3 => LoopVC Int (0 : Int) H3 fun next i H4 => optK d fun a_1 => ld cSl H4 (a_1.add 0) fun (x_1 : Sl) => br (decide (i < (x_1.n : Int))) (optK d fun a_2 => ld cSl H4 (a_2.add 0) fun (x_2 : Sl) => optK x_2.a fun a_3 => (0 ≤ i ∧ i < (x_2.n : Int)) ∧ ld cStr H4 ((a_3.add (i.toNat * 3)).add 0) fun (x_3 : ByteArray) => newC H4 (zc Tryz.prog ty_fathomref01_File) ty_fathomref01_File fun p_1 H5 => doU Tryz.prog (Instr.storeAt ty_fathomref01_File (.pointer (some p_1)) (.agg #[(.string x_3), (.slice none 0 0), (.slice none 0 0)])) H5 fun H6 => ld cSl H6 (p_1.add 1) fun (x_4 : Sl) => optK d fun a_4 => ld cSl H6 (a_4.add 0) fun (x_5 : Sl) => optK x_5.a fun a_5 => (0 ≤ i ∧ i < (x_5.n : Int)) ∧ ld cSl H6 ((a_5.add (i.toNat * 3)).add 1) fun (x_6 : Sl) => doT cSl Tryz.prog (Builtin.append_ #[ty_sl_string, ty_sl_string] ty_sl_string #[x_4.v, x_6.v]) H6 fun (s : Sl) H7 => st H7 (p_1.add 1) s.v fun H8 => ld cSl H8 (p_1.add 2) fun (x_7 : Sl) => optK d fun a_6 => ld cSl H8 (a_6.add 0) fun (x_8 : Sl) => optK x_8.a fun a_7 => (0 ≤ i ∧ i < (x_8.n : Int)) ∧ ld cSl H8 ((a_7.add (i.toNat * 3)).add 2) fun (x_9 : Sl) => doT cSl Tryz.prog (Builtin.append_ #[ty_sl_fathomref01_Write, ty_sl_fathomref01_Write] ty_sl_fathomref01_Write #[x_7.v, x_9.v]) H8 fun (s_1 : Sl) H9 => st H9 (p_1.add 2) s_1.v fun H10 => ld cSl H10 (p.add 0) fun (x_10 : Sl) => ldA (cAgg [cStr, cSl, cSl]) 3 H10 p_1 fun (x_11 : (ByteArray × Sl × Sl)) => newC H10 #[(.string x_11.1), x_11.2.1.v, x_11.2.2.v] ty_fathomref01_File fun p_2 H11 => doT cSl Tryz.prog (Builtin.append_ #[ty_sl_fathomref01_File, ty_sl_fathomref01_File] ty_sl_fathomref01_File #[x_10.v, (.slice (some p_2) 1 1)]) H11 fun (s_2 : Sl) H12 => st H12 (p.add 0) s_2.v fun H13 => next (IntKind.i64.wrap (i + (1 : Int))) H13) (R (some p) H4)

theorem fathomref01_Disk_Copy.of {d : Option Addr} {H : Heap} {R : Option Addr → Heap → Prop} (h : fathomref01_Disk_Copy.vc d H R) : fathomref01_Disk_Copy.sp d H R :=
  specT_of_vc prog_ng prog_mixed (c := cPtr) (A := [(4, [(4, (cInt .i64))])]) (args := [(.pointer d)]) (Eq.mpr (by kernel_rfl : vcFT cPtr Tryz.prog fathomref01_Disk_Copy.no [(4, [(4, (cInt .i64))])] [(.pointer d)] H R = fathomref01_Disk_Copy.vc d H R) h)

/-- fathom/fathomlaw01.plays -/
def fathomlaw01_plays.vc (d : Option Addr) (m : Option Addr) (x_ : Int) (x_1 : ByteArray) (x_2 : ByteArray) (x_3 : Int) (x_4 : Int) (x_5 : Bool) (x_6 : Int) (H : Heap) (R : Bool → Heap → Prop) : Prop :=
  newC H #[(.int .i64 x_), (.string x_1), (.string x_2), (.int .i64 x_3), (.int .u8 x_4), (.bool x_5), (.int .u64 x_6)] ty_fathomlaw01_Step fun p H1 => ld (cInt .i64) H1 (p.add 0) fun (x : Int) => fathomkit_Pick.sp x (11 : Int) H1 fun (r : Int) H2 => br (r == (0 : Int)) (∃ G : Heap → Prop, G H2 ∧ ld cStr H2 (p.add 1) fun (x_7 : ByteArray) => disk_Disk_Create.sp d x_7 H2 fun (r_1 : Int) H3 => G H3 ∧ ldC cStr G (p.add 1) fun (x_8 : ByteArray) => fathomref01_Disk_Create.sp m x_8 H3 fun (r_2 : Int) H4 => R (r_1 == r_2) H4) (br (r == (1 : Int)) (ldA (cAgg [(cInt .i64), cStr, cStr, (cInt .i64), (cInt .u8), cBool, (cInt .u64)]) 7 H2 p fun (x_9 : (Int × ByteArray × ByteArray × Int × Int × Bool × Int)) => fathomlaw01_Step_bytes.sp x_9.1 x_9.2.1 x_9.2.2.1 x_9.2.2.2.1 x_9.2.2.2.2.1 x_9.2.2.2.2.2.1 x_9.2.2.2.2.2.2 H2 fun (b : Sl) H5 => ld cStr H5 (p.add 1) fun (x_10 : ByteArray) => ld (cInt .i64) H5 (p.add 3) fun (x_11 : Int) => disk_Disk_Write.sp d x_10 x_11 b H5 fun (e : Int) H6 => ld cStr H6 (p.add 1) fun (x_12 : ByteArray) => ld (cInt .i64) H6 (p.add 3) fun (x_13 : Int) => fathomref01_Disk_Write.sp m x_12 x_13 b H6 fun (f : Int) H7 => ∃ G_1 : Heap → Prop, G_1 H7 ∧ b2sC G_1 b.a b.n fun (str : ByteArray) => ldA (cAgg [(cInt .i64), cStr, cStr, (cInt .i64), (cInt .u8), cBool, (cInt .u64)]) 7 H7 p fun (x_14 : (Int × ByteArray × ByteArray × Int × Int × Bool × Int)) => fathomlaw01_Step_bytes.sp x_14.1 x_14.2.1 x_14.2.2.1 x_14.2.2.2.1 x_14.2.2.2.2.1 x_14.2.2.2.2.2.1 x_14.2.2.2.2.2.2 H7 fun (r_3 : Sl) H8 => G_1 H8 ∧ b2s H8 r_3.a r_3.n fun (str_1 : ByteArray) => LoopVC Int (0 : Int) H8 fun next i H9 => br (decide (i < (b.n : Int))) (optK b.a fun a => (0 ≤ i ∧ i < (b.n : Int)) ∧ st H9 (a.add (i.toNat * 1)) (.int .u8 (238 : Int)) fun H10 => next (IntKind.i64.wrap (i + (1 : Int))) H10) (R ((e == f) && (str.toList == str_1.toList)) H9)) (br (r == (2 : Int)) (ld cStr H2 (p.add 1) fun (x_15 : ByteArray) => ld (cInt .i64) H2 (p.add 3) fun (x_16 : Int) => disk_Disk_Read.sp d x_15 x_16 H2 fun (r_4 : (Sl × Int)) H11 => ld cStr H11 (p.add 1) fun (x_17 : ByteArray) => ld (cInt .i64) H11 (p.add 3) fun (x_18 : Int) => fathomref01_Disk_Read.sp m x_17 x_18 H11 fun (r_5 : (Sl × Int)) H12 => br (r_4.2 == r_5.2) (b2s H12 r_4.1.a r_4.1.n fun (str_2 : ByteArray) => b2s H12 r_5.1.a r_5.1.n fun (str_3 : ByteArray) => LoopVC Int (0 : Int) H12 fun next_1 i_1 H13 => br (decide (i_1 < (r_4.1.n : Int))) (optK r_4.1.a fun a_1 => (0 ≤ i_1 ∧ i_1 < (r_4.1.n : Int)) ∧ st H13 (a_1.add (i_1.toNat * 1)) (.int .u8 (238 : Int)) fun H14 => next_1 (IntKind.i64.wrap (i_1 + (1 : Int))) H14) (R (str_2.toList == str_3.toList) H13)) (LoopVC Int (0 : Int) H12 fun next_2 i_2 H15 => br (decide (i_2 < (r_4.1.n : Int))) (optK r_4.1.a fun a_2 => (0 ≤ i_2 ∧ i_2 < (r_4.1.n : Int)) ∧ st H15 (a_2.add (i_2.toNat * 1)) (.int .u8 (238 : Int)) fun H16 => next_2 (IntKind.i64.wrap (i_2 + (1 : Int))) H16) (R false H15))) (br (r == (3 : Int)) (ld cStr H2 (p.add 1) fun (x_19 : ByteArray) => disk_Disk_Len.sp d x_19 H2 fun (r_6 : (Int × Int)) H17 => ld cStr H17 (p.add 1) fun (x_20 : ByteArray) => fathomref01_Disk_Len.sp m x_20 H17 fun (r_7 : (Int × Int)) H18 => R ((r_6.1 == r_7.1) && (r_6.2 == r_7.2)) H18) (br (r == (4 : Int)) (∃ G_2 : Heap → Prop, G_2 H2 ∧ ld cStr H2 (p.add 1) fun (x_21 : ByteArray) => disk_Disk_Sync.sp d x_21 H2 fun (r_8 : Int) H19 => G_2 H19 ∧ ldC cStr G_2 (p.add 1) fun (x_22 : ByteArray) => fathomref01_Disk_Sync.sp m x_22 H19 fun (r_9 : Int) H20 => R (r_8 == r_9) H20) (br (r == (5 : Int)) (∃ G_3 : Heap → Prop, G_3 H2 ∧ ld cStr H2 (p.add 1) fun (x_23 : ByteArray) => ldC cStr G_3 (p.add 2) fun (x_24 : ByteArray) => disk_Disk_Rename.sp d x_23 x_24 H2 fun (r_10 : Int) H21 => G_3 H21 ∧ ldC cStr G_3 (p.add 1) fun (x_25 : ByteArray) => ldC cStr G_3 (p.add 2) fun (x_26 : ByteArray) => fathomref01_Disk_Rename.sp m x_25 x_26 H21 fun (r_11 : Int) H22 => R (r_10 == r_11) H22) (br (r == (6 : Int)) (∃ G_4 : Heap → Prop, G_4 H2 ∧ ld cStr H2 (p.add 1) fun (x_27 : ByteArray) => disk_Disk_Remove.sp d x_27 H2 fun (r_12 : Int) H23 => G_4 H23 ∧ ldC cStr G_4 (p.add 1) fun (x_28 : ByteArray) => fathomref01_Disk_Remove.sp m x_28 H23 fun (r_13 : Int) H24 => R (r_12 == r_13) H24) (br (r == (7 : Int)) (ld (cInt .i64) H2 (p.add 3) fun (x_29 : Int) => ld (cInt .u64) H2 (p.add 6) fun (x_30 : Int) => disk_Disk_Crash.sp d x_29 x_30 H2 fun (_ : Unit) H25 => ld (cInt .i64) H25 (p.add 3) fun (x_31 : Int) => ld (cInt .u64) H25 (p.add 6) fun (x_32 : Int) => fathomref01_Disk_Crash.sp m x_31 x_32 H25 fun (_ : Unit) H26 => R true H26) (disk_Disk_Restart.sp d H2 fun (_ : Unit) H27 => fathomref01_Disk_Restart.sp m H27 fun (_ : Unit) H28 => R true H28))))))))

theorem fathomlaw01_plays.of {d : Option Addr} {m : Option Addr} {x_ : Int} {x_1 : ByteArray} {x_2 : ByteArray} {x_3 : Int} {x_4 : Int} {x_5 : Bool} {x_6 : Int} {H : Heap} {R : Bool → Heap → Prop} (h : fathomlaw01_plays.vc d m x_ x_1 x_2 x_3 x_4 x_5 x_6 H R) : fathomlaw01_plays.sp d m x_ x_1 x_2 x_3 x_4 x_5 x_6 H R :=
  specT_of_vc prog_ng prog_mixed (c := cBool) (A := [(10, [(11, (cInt .i64))]), (19, [(17, (cInt .i64))])]) (args := [(.pointer d), (.pointer m), (.agg #[(.int .i64 x_), (.string x_1), (.string x_2), (.int .i64 x_3), (.int .u8 x_4), (.bool x_5), (.int .u64 x_6)])]) (Eq.mpr (by kernel_rfl : vcFT cBool Tryz.prog fathomlaw01_plays.no [(10, [(11, (cInt .i64))]), (19, [(17, (cInt .i64))])] [(.pointer d), (.pointer m), (.agg #[(.int .i64 x_), (.string x_1), (.string x_2), (.int .i64 x_3), (.int .u8 x_4), (.bool x_5), (.int .u64 x_6)])] H R = fathomlaw01_plays.vc d m x_ x_1 x_2 x_3 x_4 x_5 x_6 H R) h)

/-- fathom/fathomlaw01.tells -/
def fathomlaw01_tells.vc (d : Option Addr) (m : Option Addr) (H : Heap) (R : Bool → Heap → Prop) : Prop :=
  disk_Disk_List.sp d H fun (l : Sl) H1 => ∃ G : Heap → Prop, G H1 ∧ fathomref01_Disk_List.sp m H1 fun (r : Sl) H2 => G H2 ∧ fathomkit_SameTexts.sp l r H2 fun (r_1 : Bool) H3 => G H3 ∧ br r_1 (disk_Disk_Used.sp d H3 fun (r_2 : Int) H4 => G H4 ∧ fathomref01_Disk_Used.sp m H4 fun (r_3 : Int) H5 => G H5 ∧ br (r_2 == r_3) (disk_Disk_Most.sp d H5 fun (r_4 : Int) H6 => G H6 ∧ optK m fun a => ldC (cInt .i64) G (a.add 1) fun (x : Int) => br (r_4 == x) (disk_Disk_Quota.sp d H6 fun (r_5 : Int) H7 => G H7 ∧ optK m fun a_1 => ldC (cInt .i64) G (a_1.add 2) fun (x_1 : Int) => br (r_5 == x_1) (disk_Disk_Ops.sp d H7 fun (r_6 : Int) H8 => G H8 ∧ optK m fun a_2 => ldC (cInt .i64) G (a_2.add 3) fun (x_2 : Int) => br (r_6 == x_2) (disk_Disk_Down.sp d H8 fun (r_7 : Bool) H9 => G H9 ∧ optK m fun a_3 => ldC cBool G (a_3.add 8) fun (x_3 : Bool) => LoopVC Int (0 : Int) H9 fun next i H10 => br (decide (i < (l.n : Int))) (optK l.a fun a_4 => (0 ≤ i ∧ i < (l.n : Int)) ∧ st H10 (a_4.add (i.toNat * 1)) (.string (ByteArray.mk #[119, 114, 105, 116, 116, 101, 110, 32, 111, 118, 101, 114])) fun H11 => next (IntKind.i64.wrap (i + (1 : Int))) H11) (R (r_7 == x_3) H10)) (LoopVC Int (0 : Int) H8 fun next_1 i_1 H12 => br (decide (i_1 < (l.n : Int))) (optK l.a fun a_5 => (0 ≤ i_1 ∧ i_1 < (l.n : Int)) ∧ st H12 (a_5.add (i_1.toNat * 1)) (.string (ByteArray.mk #[119, 114, 105, 116, 116, 101, 110, 32, 111, 118, 101, 114])) fun H13 => next_1 (IntKind.i64.wrap (i_1 + (1 : Int))) H13) (R false H12))) (LoopVC Int (0 : Int) H7 fun next_2 i_2 H14 => br (decide (i_2 < (l.n : Int))) (optK l.a fun a_6 => (0 ≤ i_2 ∧ i_2 < (l.n : Int)) ∧ st H14 (a_6.add (i_2.toNat * 1)) (.string (ByteArray.mk #[119, 114, 105, 116, 116, 101, 110, 32, 111, 118, 101, 114])) fun H15 => next_2 (IntKind.i64.wrap (i_2 + (1 : Int))) H15) (R false H14))) (LoopVC Int (0 : Int) H6 fun next_3 i_3 H16 => br (decide (i_3 < (l.n : Int))) (optK l.a fun a_7 => (0 ≤ i_3 ∧ i_3 < (l.n : Int)) ∧ st H16 (a_7.add (i_3.toNat * 1)) (.string (ByteArray.mk #[119, 114, 105, 116, 116, 101, 110, 32, 111, 118, 101, 114])) fun H17 => next_3 (IntKind.i64.wrap (i_3 + (1 : Int))) H17) (R false H16))) (LoopVC Int (0 : Int) H5 fun next_4 i_4 H18 => br (decide (i_4 < (l.n : Int))) (optK l.a fun a_8 => (0 ≤ i_4 ∧ i_4 < (l.n : Int)) ∧ st H18 (a_8.add (i_4.toNat * 1)) (.string (ByteArray.mk #[119, 114, 105, 116, 116, 101, 110, 32, 111, 118, 101, 114])) fun H19 => next_4 (IntKind.i64.wrap (i_4 + (1 : Int))) H19) (R false H18))) (LoopVC Int (0 : Int) H3 fun next_5 i_5 H20 => br (decide (i_5 < (l.n : Int))) (optK l.a fun a_9 => (0 ≤ i_5 ∧ i_5 < (l.n : Int)) ∧ st H20 (a_9.add (i_5.toNat * 1)) (.string (ByteArray.mk #[119, 114, 105, 116, 116, 101, 110, 32, 111, 118, 101, 114])) fun H21 => next_5 (IntKind.i64.wrap (i_5 + (1 : Int))) H21) (R false H20))

theorem fathomlaw01_tells.of {d : Option Addr} {m : Option Addr} {H : Heap} {R : Bool → Heap → Prop} (h : fathomlaw01_tells.vc d m H R) : fathomlaw01_tells.sp d m H R :=
  specT_of_vc prog_ng prog_mixed (c := cBool) (A := [(4, [(7, (cInt .i64))])]) (args := [(.pointer d), (.pointer m)]) (Eq.mpr (by kernel_rfl : vcFT cBool Tryz.prog fathomlaw01_tells.no [(4, [(7, (cInt .i64))])] [(.pointer d), (.pointer m)] H R = fathomlaw01_tells.vc d m H R) h)

/-- (*fathom/disk.Disk).Restart -/
def disk_Disk_Restart.vc (d : Option Addr) (H : Heap) (R : Unit → Heap → Prop) : Prop :=
  br d.isNone (R () H) (optK d fun a => ld cBool H (a.add 9) fun (x : Bool) => br (!x) (R () H) (optK d fun a_1 => ld cMap H (a_1.add 0) fun (x_1 : Option Nat) => doT cPtr Tryz.prog (Instr.range ty_maparr_string_ptr_disk_file (.map x_1)) H fun (it : Option Addr) H1 => LoopVC Sl (Sl.mk none 0 0) H1 fun next order H2 => doT cNext Tryz.prog (Instr.next (.pointer it) false ty_) H2 fun (nx : Bool × List Value) H3 => br nx.1 (doT cTwo Tryz.prog (Instr.entry (.pointer it)) H3 fun (en : Value × Value) H4 => asT cPtr en.2 fun (f : Option Addr) => optK f fun a_2 => ld cSl H4 (a_2.add 2) fun (x_2 : Sl) => LoopVC (Sl × Int) (order, (0 : Int)) H4 fun next_1 z H5 => br (decide (z.2 < (x_2.n : Int))) (optK x_2.a fun a_3 => (0 ≤ z.2 ∧ z.2 < (x_2.n : Int)) ∧ ldA cArr 514 H5 (a_3.add (z.2.toNat * 514)) fun (x_3 : Array Value) => newC H5 (zc Tryz.prog ty_disk_mark) ty_disk_mark fun p H6 => doU Tryz.prog (Instr.storeAt ty_disk_mark (.pointer (some p)) (.agg x_3)) H6 fun H7 => ld (cInt .i64) H7 (p.add 0) fun (x_4 : Int) => newC H7 #[(.int .i64 x_4)] ty_int fun p_1 H8 => doT cSl Tryz.prog (Builtin.append_ #[ty_sl_int, ty_sl_int] ty_sl_int #[z.1.v, (.slice (some p_1) 1 1)]) H8 fun (order_1 : Sl) H9 => next_1 (order_1, IntKind.i64.wrap (z.2 + (1 : Int))) H9) (next z.1 H5)) (slices_Sort_sl_int_int.sp order H3 fun (_ : Unit) H10 => optK d fun a_4 => st H10 (a_4.add 1) (.int .i64 (0 : Int)) fun H11 => optK d fun a_5 => ld cMap H11 (a_5.add 0) fun (x_5 : Option Nat) => doT cPtr Tryz.prog (Instr.range ty_maparr_string_ptr_disk_file (.map x_5)) H11 fun (it_1 : Option Addr) H12 => LoopVC Unit () H12 fun next_2 _ H13 => doT cNext Tryz.prog (Instr.next (.pointer it_1) false ty_) H13 fun (nx_1 : Bool × List Value) H14 => br nx_1.1 (doT cTwo Tryz.prog (Instr.entry (.pointer it_1)) H14 fun (en_1 : Value × Value) H15 => asT cPtr en_1.2 fun (f_1 : Option Addr) => optK f_1 fun a_6 => ld cSl H15 (a_6.add 1) fun (x_6 : Sl) => slices_Clone_sl_disk_sheet_disk_sheet.sp x_6 H15 fun (r_1 : Sl) H16 => optK f_1 fun a_7 => st H16 (a_7.add 0) r_1.v fun H17 => optK f_1 fun a_8 => ld cSl H17 (a_8.add 2) fun (x_7 : Sl) => LoopVC Int (0 : Int) H17 fun next_3 z_2 H18 => br (decide (z_2 < (x_7.n : Int))) (optK x_7.a fun a_9 => (0 ≤ z_2 ∧ z_2 < (x_7.n : Int)) ∧ ldA cArr 514 H18 (a_9.add (z_2.toNat * 514)) fun (x_8 : Array Value) => newC H18 (zc Tryz.prog ty_disk_mark) ty_disk_mark fun p_2 H19 => doU Tryz.prog (Instr.storeAt ty_disk_mark (.pointer (some p_2)) (.agg x_8)) H19 fun H20 => ld (cInt .i64) H20 (p_2.add 0) fun (x_9 : Int) => slices_BinarySearch_sl_int_int.sp order x_9 H20 fun (r_2 : (Int × Bool)) H21 => optK d fun a_10 => ld (cInt .u64) H21 ((a_10.add 6).add 2) fun (x_10 : Int) => 0 ≤ (Int.tmod r_2.1 (64 : Int)) ∧ br ((iand .u64 (ishr .u64 x_10 (Int.tmod r_2.1 (64 : Int))) (1 : Int)) == (1 : Int)) (optK f_1 fun a_11 => ld cSl H21 (a_11.add 0) fun (x_11 : Sl) => ld (cInt .i64) H21 (p_2.add 1) fun (x_12 : Int) => ldA cArr 512 H21 (p_2.add 2) fun (x_13 : Array Value) => disk_put.sp x_11 x_12 x_13 H21 fun (r_3 : Sl) H22 => optK f_1 fun a_12 => st H22 (a_12.add 0) r_3.v fun H23 => next_3 (IntKind.i64.wrap (z_2 + (1 : Int))) H23) (next_3 (IntKind.i64.wrap (z_2 + (1 : Int))) H21)) (optK f_1 fun a_13 => ld cSl H18 (a_13.add 0) fun (x_14 : Sl) => slices_Clone_sl_disk_sheet_disk_sheet.sp x_14 H18 fun (r_4 : Sl) H24 => optK f_1 fun a_14 => st H24 (a_14.add 1) r_4.v fun H25 => optK f_1 fun a_15 => st H25 (a_15.add 2) (.slice none 0 0) fun H26 => optK d fun a_16 => ld (cInt .i64) H26 (a_16.add 1) fun (x_15 : Int) => optK f_1 fun a_17 => ld cSl H26 (a_17.add 0) fun (x_16 : Sl) => optK d fun a_18 => st H26 (a_18.add 1) (.int .i64 (IntKind.i64.wrap (x_15 + (x_16.n : Int)))) fun H27 => next_2 () H27)) (optK d fun a_19 => st H14 (a_19.add 9) (.bool false) fun H28 => optK d fun a_20 => doU Tryz.prog (Instr.storeAt ty_disk_crash (.pointer (some (a_20.add 6))) (.agg #[(.bool false), (.int .i64 (0 : Int)), (.int .u64 (0 : Int))])) H28 fun H29 => R () H29))))

theorem disk_Disk_Restart.of {d : Option Addr} {H : Heap} {R : Unit → Heap → Prop} (h : disk_Disk_Restart.vc d H R) : disk_Disk_Restart.sp d H R :=
  specT_of_vc prog_ng prog_mixed (c := (cTup [])) (A := [(3, [(2, cSl)]), (6, [(2, cSl), (36, (cInt .i64))]), (13, []), (17, [(73, (cInt .i64))])]) (args := [(.pointer d)]) (Eq.mpr (by kernel_rfl : vcFT (cTup []) Tryz.prog disk_Disk_Restart.no [(3, [(2, cSl)]), (6, [(2, cSl), (36, (cInt .i64))]), (13, []), (17, [(73, (cInt .i64))])] [(.pointer d)] H R = disk_Disk_Restart.vc d H R) h)

/-- (*fathom/fathomref01.Disk).Restart -/
def fathomref01_Disk_Restart.vc (d : Option Addr) (H : Heap) (R : Unit → Heap → Prop) : Prop :=
  optK d fun a => ld cBool H (a.add 8) fun (x : Bool) => br (!x) (R () H) (LoopVC (Sl × Int) ((Sl.mk none 0 0), (0 : Int)) H fun next z H1 => optK d fun a_1 => ld cSl H1 (a_1.add 0) fun (x_1 : Sl) => br (decide (z.2 < (x_1.n : Int))) (∃ G : Heap → Prop, G H1 ∧ optK d fun a_2 => ldC cSl G (a_2.add 0) fun (x_2 : Sl) => optK x_2.a fun a_3 => (0 ≤ z.2 ∧ z.2 < (x_2.n : Int)) ∧ ldC cStr G ((a_3.add (z.2.toNat * 3)).add 0) fun (x_3 : ByteArray) => optK d fun a_4 => ldC cSl G (a_4.add 0) fun (x_4 : Sl) => optK x_4.a fun a_5 => (0 ≤ z.2 ∧ z.2 < (x_4.n : Int)) ∧ ldC cSl G ((a_5.add (z.2.toNat * 3)).add 1) fun (x_5 : Sl) => newC H1 (zc Tryz.prog ty_fathomref01_File) ty_fathomref01_File fun p H2 => G H2 ∧ doU Tryz.prog (Instr.storeAt ty_fathomref01_File (.pointer (some p)) (.agg #[(.string x_3), x_5.v, (.slice none 0 0)])) H2 fun H3 => LoopVC Int (0 : Int) H3 fun next_1 k H4 => optK d fun a_6 => ld cSl H4 (a_6.add 0) fun (x_6 : Sl) => optK x_6.a fun a_7 => (0 ≤ z.2 ∧ z.2 < (x_6.n : Int)) ∧ ld cSl H4 ((a_7.add (z.2.toNat * 3)).add 2) fun (x_7 : Sl) => br (decide (k < (x_7.n : Int))) (optK d fun a_8 => ld cSl H4 (a_8.add 0) fun (x_8 : Sl) => optK x_8.a fun a_9 => (0 ≤ z.2 ∧ z.2 < (x_8.n : Int)) ∧ ld cSl H4 ((a_9.add (z.2.toNat * 3)).add 2) fun (x_9 : Sl) => optK x_9.a fun a_10 => (0 ≤ k ∧ k < (x_9.n : Int)) ∧ ldA (cAgg [(cInt .i64), (cInt .i64), cStr]) 3 H4 (a_10.add (k.toNat * 3)) fun (x_10 : (Int × Int × ByteArray)) => newC H4 (zc Tryz.prog ty_fathomref01_Write) ty_fathomref01_Write fun p_1 H5 => doU Tryz.prog (Instr.storeAt ty_fathomref01_Write (.pointer (some p_1)) (.agg #[(.int .i64 x_10.1), (.int .i64 x_10.2.1), (.string x_10.2.2)])) H5 fun H6 => ∃ G_1 : Heap → Prop, G_1 H6 ∧ optK d fun a_11 => ldC (cInt .u64) G_1 (a_11.add 7) fun (x_11 : Int) => ld (cInt .i64) H6 (p_1.add 0) fun (x_12 : Int) => fathomref01_Disk_rank.sp d x_12 H6 fun (r : Int) H7 => G_1 H7 ∧ 0 ≤ (Int.tmod r (64 : Int)) ∧ br ((iand .u64 (ishr .u64 x_11 (Int.tmod r (64 : Int))) (1 : Int)) == (1 : Int)) (ld cSl H7 (p.add 1) fun (x_13 : Sl) => ldA (cAgg [(cInt .i64), (cInt .i64), cStr]) 3 H7 p_1 fun (x_14 : (Int × Int × ByteArray)) => fathomref01_put.sp x_13 x_14.1 x_14.2.1 x_14.2.2 H7 fun (r_1 : Sl) H8 => st H8 (p.add 1) r_1.v fun H9 => next_1 (IntKind.i64.wrap (k + (1 : Int))) H9) (next_1 (IntKind.i64.wrap (k + (1 : Int))) H7)) (ldA (cAgg [cStr, cSl, cSl]) 3 H4 p fun (x_15 : (ByteArray × Sl × Sl)) => newC H4 #[(.string x_15.1), x_15.2.1.v, x_15.2.2.v] ty_fathomref01_File fun p_2 H10 => doT cSl Tryz.prog (Builtin.append_ #[ty_sl_fathomref01_File, ty_sl_fathomref01_File] ty_sl_fathomref01_File #[z.1.v, (.slice (some p_2) 1 1)]) H10 fun (files : Sl) H11 => next (files, IntKind.i64.wrap (z.2 + (1 : Int))) H11)) (optK d fun a_12 => st H1 (a_12.add 0) z.1.v fun H12 => optK d fun a_13 => st H12 (a_13.add 8) (.bool false) fun H13 => optK d fun a_14 => st H13 (a_14.add 5) (.bool false) fun H14 => R () H14))

theorem fathomref01_Disk_Restart.of {d : Option Addr} {H : Heap} {R : Unit → Heap → Prop} (h : fathomref01_Disk_Restart.vc d H R) : fathomref01_Disk_Restart.sp d H R :=
  specT_of_vc prog_ng prog_mixed (c := (cTup [])) (A := [(3, [(2, cSl), (3, (cInt .i64))]), (7, [(5, (cInt .i64))])]) (args := [(.pointer d)]) (Eq.mpr (by kernel_rfl : vcFT (cTup []) Tryz.prog fathomref01_Disk_Restart.no [(3, [(2, cSl), (3, (cInt .i64))]), (7, [(5, (cInt .i64))])] [(.pointer d)] H R = fathomref01_Disk_Restart.vc d H R) h)

/-- (fathom/fathomref01.File).Pages -/
def fathomref01_File_Pages.vc (f_ : ByteArray) (f_1 : Sl) (f_2 : Sl) (H : Heap) (R : Sl → Heap → Prop) : Prop :=
  newC H #[(.string f_), f_1.v, f_2.v] ty_fathomref01_File fun p H1 => ld cSl H1 (p.add 1) fun (x : Sl) => doT cSl Tryz.prog (Builtin.append_ #[ty_sl_string, ty_sl_string] ty_sl_string #[(.slice none 0 0), x.v]) H1 fun (l : Sl) H2 => LoopVC (Sl × Int) (l, (0 : Int)) H2 fun next z H3 => ld cSl H3 (p.add 2) fun (x_1 : Sl) => br (decide (z.2 < (x_1.n : Int))) (ld cSl H3 (p.add 2) fun (x_2 : Sl) => optK x_2.a fun a => (0 ≤ z.2 ∧ z.2 < (x_2.n : Int)) ∧ ldA (cAgg [(cInt .i64), (cInt .i64), cStr]) 3 H3 (a.add (z.2.toNat * 3)) fun (x_3 : (Int × Int × ByteArray)) => fathomref01_put.sp z.1 x_3.1 x_3.2.1 x_3.2.2 H3 fun (l_1 : Sl) H4 => next (l_1, IntKind.i64.wrap (z.2 + (1 : Int))) H4) (R z.1 H3)

theorem fathomref01_File_Pages.of {f_ : ByteArray} {f_1 : Sl} {f_2 : Sl} {H : Heap} {R : Sl → Heap → Prop} (h : fathomref01_File_Pages.vc f_ f_1 f_2 H R) : fathomref01_File_Pages.sp f_ f_1 f_2 H R :=
  specT_of_vc prog_ng prog_mixed (c := cSl) (A := [(4, [(3, cSl), (4, (cInt .i64))])]) (args := [(.agg #[(.string f_), f_1.v, f_2.v])]) (Eq.mpr (by kernel_rfl : vcFT cSl Tryz.prog fathomref01_File_Pages.no [(4, [(3, cSl), (4, (cInt .i64))])] [(.agg #[(.string f_), f_1.v, f_2.v])] H R = fathomref01_File_Pages.vc f_ f_1 f_2 H R) h)

/-- fathom/fathomlaw01.run -/
def fathomlaw01_run.vc (d : Option Addr) (script : Sl) (H : Heap) (R : Unit → Heap → Prop) : Prop :=
  LoopVC Int (0 : Int) H fun next i H1 => br (decide (i < (script.n : Int))) (optK script.a fun a => (0 ≤ i ∧ i < (script.n : Int)) ∧ ldA (cAgg [(cInt .i64), cStr, cStr, (cInt .i64), (cInt .u8), cBool, (cInt .u64)]) 7 H1 (a.add (i.toNat * 7)) fun (x : (Int × ByteArray × ByteArray × Int × Int × Bool × Int)) => newC H1 (zc Tryz.prog ty_fathomlaw01_Step) ty_fathomlaw01_Step fun p H2 => doU Tryz.prog (Instr.storeAt ty_fathomlaw01_Step (.pointer (some p)) (.agg #[(.int .i64 x.1), (.string x.2.1), (.string x.2.2.1), (.int .i64 x.2.2.2.1), (.int .u8 x.2.2.2.2.1), (.bool x.2.2.2.2.2.1), (.int .u64 x.2.2.2.2.2.2)])) H2 fun H3 => ld (cInt .i64) H3 (p.add 0) fun (x_1 : Int) => fathomkit_Pick.sp x_1 (7 : Int) H3 fun (r : Int) H4 => br (r == (0 : Int)) (ld cStr H4 (p.add 1) fun (x_2 : ByteArray) => disk_Disk_Create.sp d x_2 H4 fun (_ : Int) H5 => next (IntKind.i64.wrap (i + (1 : Int))) H5) (br (r == (1 : Int)) (∃ G : Heap → Prop, G H4 ∧ ldC cStr G (p.add 1) fun (x_3 : ByteArray) => ldC (cInt .i64) G (p.add 3) fun (x_4 : Int) => ldA (cAgg [(cInt .i64), cStr, cStr, (cInt .i64), (cInt .u8), cBool, (cInt .u64)]) 7 H4 p fun (x_5 : (Int × ByteArray × ByteArray × Int × Int × Bool × Int)) => fathomlaw01_Step_bytes.sp x_5.1 x_5.2.1 x_5.2.2.1 x_5.2.2.2.1 x_5.2.2.2.2.1 x_5.2.2.2.2.2.1 x_5.2.2.2.2.2.2 H4 fun (r_2 : Sl) H6 => G H6 ∧ disk_Disk_Write.sp d x_3 x_4 r_2 H6 fun (_ : Int) H7 => next (IntKind.i64.wrap (i + (1 : Int))) H7) (br (r == (4 : Int)) (ld cStr H4 (p.add 1) fun (x_6 : ByteArray) => disk_Disk_Sync.sp d x_6 H4 fun (_ : Int) H8 => next (IntKind.i64.wrap (i + (1 : Int))) H8) (br (r == (5 : Int)) (ld cStr H4 (p.add 1) fun (x_7 : ByteArray) => ld cStr H4 (p.add 2) fun (x_8 : ByteArray) => disk_Disk_Rename.sp d x_7 x_8 H4 fun (_ : Int) H9 => next (IntKind.i64.wrap (i + (1 : Int))) H9) (br (r == (6 : Int)) (ld cStr H4 (p.add 1) fun (x_9 : ByteArray) => disk_Disk_Remove.sp d x_9 H4 fun (_ : Int) H10 => next (IntKind.i64.wrap (i + (1 : Int))) H10) (next (IntKind.i64.wrap (i + (1 : Int))) H4)))))) (R () H1)

theorem fathomlaw01_run.of {d : Option Addr} {script : Sl} {H : Heap} {R : Unit → Heap → Prop} (h : fathomlaw01_run.vc d script H R) : fathomlaw01_run.sp d script H R :=
  specT_of_vc prog_ng prog_mixed (c := (cTup [])) (A := [(1, [(4, (cInt .i64))])]) (args := [(.pointer d), script.v]) (Eq.mpr (by kernel_rfl : vcFT (cTup []) Tryz.prog fathomlaw01_run.no [(1, [(4, (cInt .i64))])] [(.pointer d), script.v] H R = fathomlaw01_run.vc d script H R) h)

/-- fathom/fathomlaw01.files -/
def fathomlaw01_files.vc (d : Option Addr) (H : Heap) (R : ByteArray → Heap → Prop) : Prop :=
  disk_Disk_List.sp d H fun (l : Sl) H1 => LoopVC (ByteArray × Int) (ByteArray.empty, (0 : Int)) H1 fun next z H2 => br (decide (z.2 < (l.n : Int))) (optK l.a fun a => (0 ≤ z.2 ∧ z.2 < (l.n : Int)) ∧ ld cStr H2 (a.add (z.2.toNat * 1)) fun (x : ByteArray) => disk_Disk_Len.sp d x H2 fun (r : (Int × Int)) H3 => optK l.a fun a_1 => (0 ≤ z.2 ∧ z.2 < (l.n : Int)) ∧ ld cStr H3 (a_1.add (z.2.toNat * 1)) fun (x_1 : ByteArray) => ((z.1.size + x_1.size : Nat) : Int) ≤ 9223372036854775807 ∧ (((z.1 ++ x_1).size + (ByteArray.mk #[0]).size : Nat) : Int) ≤ 9223372036854775807 ∧ LoopVC (ByteArray × Int) ((z.1 ++ x_1) ++ (ByteArray.mk #[0]), (0 : Int)) H3 fun next_1 z_1 H4 => br (decide (z_1.2 < r.1)) (optK l.a fun a_2 => (0 ≤ z.2 ∧ z.2 < (l.n : Int)) ∧ ld cStr H4 (a_2.add (z.2.toNat * 1)) fun (x_2 : ByteArray) => disk_Disk_Read.sp d x_2 z_1.2 H4 fun (r_1 : (Sl × Int)) H5 => b2s H5 r_1.1.a r_1.1.n fun (str : ByteArray) => ((z_1.1.size + str.size : Nat) : Int) ≤ 9223372036854775807 ∧ next_1 (z_1.1 ++ str, IntKind.i64.wrap (z_1.2 + (1 : Int))) H5) (next (z_1.1, IntKind.i64.wrap (z.2 + (1 : Int))) H4)) (R z.1 H2)

theorem fathomlaw01_files.of {d : Option Addr} {H : Heap} {R : ByteArray → Heap → Prop} (h : fathomlaw01_files.vc d H R) : fathomlaw01_files.sp d H R :=
  specT_of_vc prog_ng prog_mixed (c := cStr) (A := [(4, [(3, cStr), (5, (cInt .i64))]), (9, [(3, cStr), (8, (cInt .i64))])]) (args := [(.pointer d)]) (Eq.mpr (by kernel_rfl : vcFT cStr Tryz.prog fathomlaw01_files.no [(4, [(3, cStr), (5, (cInt .i64))]), (9, [(3, cStr), (8, (cInt .i64))])] [(.pointer d)] H R = fathomlaw01_files.vc d H R) h)

/-- (*fathom/disk.Disk).Crash -/
def disk_Disk_Crash.vc (d : Option Addr) (p : Int) (keep : Int) (H : Heap) (R : Unit → Heap → Prop) : Prop :=
  disk_Disk_ready.sp d H fun (r : Int) H1 => br (r == (0 : Int)) (optK d fun a => doU Tryz.prog (Instr.storeAt ty_disk_crash (.pointer (some (a.add 6))) (.agg #[(.bool true), (.int .i64 (if (0 : Int) > p then (0 : Int) else p)), (.int .u64 keep)])) H1 fun H2 => R () H2) (R () H1)

theorem disk_Disk_Crash.of {d : Option Addr} {p : Int} {keep : Int} {H : Heap} {R : Unit → Heap → Prop} (h : disk_Disk_Crash.vc d p keep H R) : disk_Disk_Crash.sp d p keep H R :=
  specT_of_vc prog_ng prog_mixed (c := (cTup [])) (A := []) (args := [(.pointer d), (.int .i64 p), (.int .u64 keep)]) (Eq.mpr (by kernel_rfl : vcFT (cTup []) Tryz.prog disk_Disk_Crash.no [] [(.pointer d), (.int .i64 p), (.int .u64 keep)] H R = disk_Disk_Crash.vc d p keep H R) h)

/-- fathom/fathomlaw01.own -/
def fathomlaw01_own.vc (d : Option Addr) (H : Heap) (R : ByteArray → Heap → Prop) : Prop :=
  disk_Disk_List.sp d H fun (l : Sl) H1 => LoopVC (ByteArray × Int) ((ByteArray.mk #[111, 119, 110]), (0 : Int)) H1 fun next z H2 => br (decide (z.2 < (l.n : Int))) (LoopVC (ByteArray × Int) (z.1, (0 : Int)) H2 fun next_1 z_1 H3 => br (decide (z_1.2 < (l.n : Int))) (optK l.a fun a => (0 ≤ z_1.2 ∧ z_1.2 < (l.n : Int)) ∧ ld cStr H3 (a.add (z_1.2.toNat * 1)) fun (x : ByteArray) => br (x.toList == z_1.1.toList) (((z_1.1.size + (ByteArray.mk #[120]).size : Nat) : Int) ≤ 9223372036854775807 ∧ next_1 (z_1.1 ++ (ByteArray.mk #[120]), IntKind.i64.wrap (z_1.2 + (1 : Int))) H3) (next_1 (z_1.1, IntKind.i64.wrap (z_1.2 + (1 : Int))) H3)) (next (z_1.1, IntKind.i64.wrap (z.2 + (1 : Int))) H3)) (R z.1 H2)

theorem fathomlaw01_own.of {d : Option Addr} {H : Heap} {R : ByteArray → Heap → Prop} (h : fathomlaw01_own.vc d H R) : fathomlaw01_own.sp d H R :=
  specT_of_vc prog_ng prog_mixed (c := cStr) (A := [(4, [(3, cStr), (5, (cInt .i64))]), (7, [(3, cStr), (6, (cInt .i64))])]) (args := [(.pointer d)]) (Eq.mpr (by kernel_rfl : vcFT cStr Tryz.prog fathomlaw01_own.no [(4, [(3, cStr), (5, (cInt .i64))]), (7, [(3, cStr), (6, (cInt .i64))])] [(.pointer d)] H R = fathomlaw01_own.vc d H R) h)

/-- (*fathom/disk.Disk).Sync -/
def disk_Disk_Sync.vc (d : Option Addr) (name : ByteArray) (H : Heap) (R : Int → Heap → Prop) : Prop :=
  disk_Disk_open.sp d name H fun (r : (Option Addr × Int)) H1 => br (r.2 != (0 : Int)) (R r.2 H1) (disk_Disk_change.sp d H1 fun (e : Int) H2 => br (e == (0 : Int)) (optK r.1 fun a => ld cSl H2 (a.add 0) fun (x : Sl) => slices_Clone_sl_disk_sheet_disk_sheet.sp x H2 fun (r_1 : Sl) H3 => optK r.1 fun a_1 => st H3 (a_1.add 1) r_1.v fun H4 => optK r.1 fun a_2 => st H4 (a_2.add 2) (.slice none 0 0) fun H5 => R e H5) (R e H2))

theorem disk_Disk_Sync.of {d : Option Addr} {name : ByteArray} {H : Heap} {R : Int → Heap → Prop} (h : disk_Disk_Sync.vc d name H R) : disk_Disk_Sync.sp d name H R :=
  specT_of_vc prog_ng prog_mixed (c := (cInt .i64)) (A := []) (args := [(.pointer d), (.string name)]) (Eq.mpr (by kernel_rfl : vcFT (cInt .i64) Tryz.prog disk_Disk_Sync.no [] [(.pointer d), (.string name)] H R = disk_Disk_Sync.vc d name H R) h)

/-- fathom/fathomlaw01.pages -/
def fathomlaw01_pages.vc (d : Option Addr) (H : Heap) (R : Int → Heap → Prop) : Prop :=
  disk_Disk_List.sp d H fun (l : Sl) H1 => LoopVC (Int × Int) ((0 : Int), (0 : Int)) H1 fun next z H2 => br (decide (z.2 < (l.n : Int))) (optK l.a fun a => (0 ≤ z.2 ∧ z.2 < (l.n : Int)) ∧ ld cStr H2 (a.add (z.2.toNat * 1)) fun (x : ByteArray) => disk_Disk_Len.sp d x H2 fun (r : (Int × Int)) H3 => br ((r.2 != (0 : Int)) == false) (br (decide (z.2 > (0 : Int))) (optK l.a fun a_1 => (0 ≤ (IntKind.i64.wrap (z.2 - (1 : Int))) ∧ (IntKind.i64.wrap (z.2 - (1 : Int))) < (l.n : Int)) ∧ ld cStr H3 (a_1.add ((IntKind.i64.wrap (z.2 - (1 : Int))).toNat * 1)) fun (x_1 : ByteArray) => optK l.a fun a_2 => (0 ≤ z.2 ∧ z.2 < (l.n : Int)) ∧ ld cStr H3 (a_2.add (z.2.toNat * 1)) fun (x_2 : ByteArray) => br (!(Op.bytesLess x_1.toList x_2.toList)) (R (-1 : Int) H3) (next (IntKind.i64.wrap (z.1 + r.1), IntKind.i64.wrap (z.2 + (1 : Int))) H3)) (next (IntKind.i64.wrap (z.1 + r.1), IntKind.i64.wrap (z.2 + (1 : Int))) H3)) False) (R z.1 H2)

theorem fathomlaw01_pages.of {d : Option Addr} {H : Heap} {R : Int → Heap → Prop} (h : fathomlaw01_pages.vc d H R) : fathomlaw01_pages.sp d H R :=
  specT_of_vc prog_ng prog_mixed (c := (cInt .i64)) (A := [(4, [(3, (cInt .i64)), (5, (cInt .i64))])]) (args := [(.pointer d)]) (Eq.mpr (by kernel_rfl : vcFT (cInt .i64) Tryz.prog fathomlaw01_pages.no [(4, [(3, (cInt .i64)), (5, (cInt .i64))])] [(.pointer d)] H R = fathomlaw01_pages.vc d H R) h)

/-- (*fathom/disk.Disk).Used -/
def disk_Disk_Used.vc (d : Option Addr) (H : Heap) (R : Int → Heap → Prop) : Prop :=
  br d.isNone (R (0 : Int) H) (optK d fun a => ld (cInt .i64) H (a.add 1) fun (x : Int) => R x H)

theorem disk_Disk_Used.of {d : Option Addr} {H : Heap} {R : Int → Heap → Prop} (h : disk_Disk_Used.vc d H R) : disk_Disk_Used.sp d H R :=
  specT_of_vc prog_ng prog_mixed (c := (cInt .i64)) (A := []) (args := [(.pointer d)]) (Eq.mpr (by kernel_rfl : vcFT (cInt .i64) Tryz.prog disk_Disk_Used.no [] [(.pointer d)] H R = disk_Disk_Used.vc d H R) h)

/-- (*fathom/disk.Disk).Most -/
def disk_Disk_Most.vc (d : Option Addr) (H : Heap) (R : Int → Heap → Prop) : Prop :=
  br d.isNone (R (0 : Int) H) (optK d fun a => ld (cInt .i64) H (a.add 2) fun (x : Int) => R x H)

theorem disk_Disk_Most.of {d : Option Addr} {H : Heap} {R : Int → Heap → Prop} (h : disk_Disk_Most.vc d H R) : disk_Disk_Most.sp d H R :=
  specT_of_vc prog_ng prog_mixed (c := (cInt .i64)) (A := []) (args := [(.pointer d)]) (Eq.mpr (by kernel_rfl : vcFT (cInt .i64) Tryz.prog disk_Disk_Most.no [] [(.pointer d)] H R = disk_Disk_Most.vc d H R) h)

/-- (*fathom/disk.Disk).Quota -/
def disk_Disk_Quota.vc (d : Option Addr) (H : Heap) (R : Int → Heap → Prop) : Prop :=
  br d.isNone (R (0 : Int) H) (optK d fun a => ld (cInt .i64) H (a.add 3) fun (x : Int) => R x H)

theorem disk_Disk_Quota.of {d : Option Addr} {H : Heap} {R : Int → Heap → Prop} (h : disk_Disk_Quota.vc d H R) : disk_Disk_Quota.sp d H R :=
  specT_of_vc prog_ng prog_mixed (c := (cInt .i64)) (A := []) (args := [(.pointer d)]) (Eq.mpr (by kernel_rfl : vcFT (cInt .i64) Tryz.prog disk_Disk_Quota.no [] [(.pointer d)] H R = disk_Disk_Quota.vc d H R) h)

/-- (*fathom/disk.Disk).Ops -/
def disk_Disk_Ops.vc (d : Option Addr) (H : Heap) (R : Int → Heap → Prop) : Prop :=
  br d.isNone (R (0 : Int) H) (optK d fun a => ld (cInt .i64) H (a.add 4) fun (x : Int) => R x H)

theorem disk_Disk_Ops.of {d : Option Addr} {H : Heap} {R : Int → Heap → Prop} (h : disk_Disk_Ops.vc d H R) : disk_Disk_Ops.sp d H R :=
  specT_of_vc prog_ng prog_mixed (c := (cInt .i64)) (A := []) (args := [(.pointer d)]) (Eq.mpr (by kernel_rfl : vcFT (cInt .i64) Tryz.prog disk_Disk_Ops.no [] [(.pointer d)] H R = disk_Disk_Ops.vc d H R) h)

/-- (*fathom/disk.Disk).Down -/
def disk_Disk_Down.vc (d : Option Addr) (H : Heap) (R : Bool → Heap → Prop) : Prop :=
  br (!d.isNone) (optK d fun a => ld cBool H (a.add 9) fun (x : Bool) => R x H) (R false H)

theorem disk_Disk_Down.of {d : Option Addr} {H : Heap} {R : Bool → Heap → Prop} (h : disk_Disk_Down.vc d H R) : disk_Disk_Down.sp d H R :=
  specT_of_vc prog_ng prog_mixed (c := cBool) (A := []) (args := [(.pointer d)]) (Eq.mpr (by kernel_rfl : vcFT cBool Tryz.prog disk_Disk_Down.no [] [(.pointer d)] H R = disk_Disk_Down.vc d H R) h)

/-- (*fathom/disk.Disk).ready -/
def disk_Disk_ready.vc (d : Option Addr) (H : Heap) (R : Int → Heap → Prop) : Prop :=
  br d.isNone (R (1 : Int) H) (optK d fun a => ld cBool H (a.add 9) fun (x : Bool) => br x (R (4 : Int) H) (R (0 : Int) H))

theorem disk_Disk_ready.of {d : Option Addr} {H : Heap} {R : Int → Heap → Prop} (h : disk_Disk_ready.vc d H R) : disk_Disk_ready.sp d H R :=
  specT_of_vc prog_ng prog_mixed (c := (cInt .i64)) (A := []) (args := [(.pointer d)]) (Eq.mpr (by kernel_rfl : vcFT (cInt .i64) Tryz.prog disk_Disk_ready.no [] [(.pointer d)] H R = disk_Disk_ready.vc d H R) h)

/-- fathom/disk.named -/
def disk_named.vc (s : ByteArray) (H : Heap) (R : Bool → Heap → Prop) : Prop :=
  R ((!(s.toList == ByteArray.empty.toList)) && (decide ((s.size : Int) ≤ (100 : Int)))) H

theorem disk_named.of {s : ByteArray} {H : Heap} {R : Bool → Heap → Prop} (h : disk_named.vc s H R) : disk_named.sp s H R :=
  specT_of_vc prog_ng prog_mixed (c := cBool) (A := []) (args := [(.string s)]) (Eq.mpr (by kernel_rfl : vcFT cBool Tryz.prog disk_named.no [] [(.string s)] H R = disk_named.vc s H R) h)

/-- (*fathom/disk.Disk).change -/
def disk_Disk_change.vc (d : Option Addr) (H : Heap) (R : Int → Heap → Prop) : Prop :=
  optK d fun a => ld cBool H ((a.add 6).add 0) fun (x : Bool) => br x (optK d fun a_1 => ld (cInt .i64) H ((a_1.add 6).add 1) fun (x_1 : Int) => br (x_1 == (0 : Int)) (optK d fun a_2 => st H (a_2.add 9) (.bool true) fun H1 => R (4 : Int) H1) (optK d fun a_3 => ld (cInt .i64) H ((a_3.add 6).add 1) fun (x_2 : Int) => optK d fun a_4 => st H ((a_4.add 6).add 1) (.int .i64 (IntKind.i64.wrap (x_2 - (1 : Int)))) fun H2 => optK d fun a_5 => ld (cInt .i64) H2 (a_5.add 4) fun (x_3 : Int) => optK d fun a_6 => st H2 (a_6.add 4) (.int .i64 (IntKind.i64.wrap (x_3 + (1 : Int)))) fun H3 => R (0 : Int) H3)) (optK d fun a_7 => ld (cInt .i64) H (a_7.add 4) fun (x_4 : Int) => optK d fun a_8 => st H (a_8.add 4) (.int .i64 (IntKind.i64.wrap (x_4 + (1 : Int)))) fun H4 => R (0 : Int) H4)

theorem disk_Disk_change.of {d : Option Addr} {H : Heap} {R : Int → Heap → Prop} (h : disk_Disk_change.vc d H R) : disk_Disk_change.sp d H R :=
  specT_of_vc prog_ng prog_mixed (c := (cInt .i64)) (A := []) (args := [(.pointer d)]) (Eq.mpr (by kernel_rfl : vcFT (cInt .i64) Tryz.prog disk_Disk_change.no [] [(.pointer d)] H R = disk_Disk_change.vc d H R) h)

/-- slices.Sorted[string] -/
def slices_Sorted_string.vc (seq : Value) (H : Heap) (R : Sl → Heap → Prop) : Prop :=
  slices_Collect_string.sp seq H fun (s : Sl) H1 => slices_Sort_sl_string_string.sp s H1 fun (_ : Unit) H2 => R s H2

theorem slices_Sorted_string.of {seq : Value} {H : Heap} {R : Sl → Heap → Prop} (h : slices_Sorted_string.vc seq H R) : slices_Sorted_string.sp seq H R :=
  specT_of_vc prog_ng prog_mixed (c := cSl) (A := []) (args := [seq]) (Eq.mpr (by kernel_rfl : vcFT cSl Tryz.prog slices_Sorted_string.no [] [seq] H R = slices_Sorted_string.vc seq H R) h)

/-- maps.Keys[map[string]*fathom/disk.file,string,*fathom/disk.file] -/
def maps_Keys_map_string_ptr_disk_file_string_ptr_disk_file.vc (m : Option Nat) (H : Heap) (R : Value → Heap → Prop) : Prop :=
  newC H #[(.map m)] ty_maparr_string_ptr_disk_file fun p H1 => R (.func (.func maps_Keys_map_string_ptr_disk_file_string_ptr_disk_file_c1.no) #[] #[(.pointer (some p))]) H1

theorem maps_Keys_map_string_ptr_disk_file_string_ptr_disk_file.of {m : Option Nat} {H : Heap} {R : Value → Heap → Prop} (h : maps_Keys_map_string_ptr_disk_file_string_ptr_disk_file.vc m H R) : maps_Keys_map_string_ptr_disk_file_string_ptr_disk_file.sp m H R :=
  specT_of_vc prog_ng prog_mixed (c := cRaw) (A := []) (args := [(.map m)]) (Eq.mpr (by kernel_rfl : vcFT cRaw Tryz.prog maps_Keys_map_string_ptr_disk_file_string_ptr_disk_file.no [] [(.map m)] H R = maps_Keys_map_string_ptr_disk_file_string_ptr_disk_file.vc m H R) h)

/-- (*fathom/disk.Disk).Read -/
def disk_Disk_Read.vc (d : Option Addr) (name : ByteArray) (page : Int) (H : Heap) (R : (Sl × Int) → Heap → Prop) : Prop :=
  disk_Disk_open.sp d name H fun (r : (Option Addr × Int)) H1 => cut Unit (fun J => br (r.2 != (0 : Int)) (R ((Sl.mk none 0 0), r.2) H1) (br (decide (page < (0 : Int))) (br (decide (page < (0 : Int))) (R ((Sl.mk none 0 0), (12 : Int)) H1) (J () H1)) (optK r.1 fun a => ld cSl H1 (a.add 0) fun (x : Sl) => br (decide (page ≥ (x.n : Int))) (R ((Sl.mk none 0 0), (12 : Int)) H1) (J () H1)))) fun (_ : Unit) H2 => optK r.1 fun a_1 => ld cSl H2 (a_1.add 0) fun (x_1 : Sl) => optK x_1.a fun a_2 => (0 ≤ page ∧ page < (x_1.n : Int)) ∧ slices_Clone_sl_byte_byte.sp (Sl.mk (slA (some (a_2.add (page.toNat * 512))) 512 0 1) (512 - 0) (512 - 0)) H2 fun (r_1 : Sl) H3 => R (r_1, (0 : Int)) H3

theorem disk_Disk_Read.of {d : Option Addr} {name : ByteArray} {page : Int} {H : Heap} {R : (Sl × Int) → Heap → Prop} (h : disk_Disk_Read.vc d name page H R) : disk_Disk_Read.sp d name page H R :=
  specT_of_vc prog_ng prog_mixed (c := (cTup [cSl, (cInt .i64)])) (A := [(100007, [])]) (args := [(.pointer d), (.string name), (.int .i64 page)]) (Eq.mpr (by kernel_rfl : vcFT (cTup [cSl, (cInt .i64)]) Tryz.prog disk_Disk_Read.no [(100007, [])] [(.pointer d), (.string name), (.int .i64 page)] H R = disk_Disk_Read.vc d name page H R) h)

/-- (*fathom/disk.Disk).Len -/
def disk_Disk_Len.vc (d : Option Addr) (name : ByteArray) (H : Heap) (R : (Int × Int) → Heap → Prop) : Prop :=
  disk_Disk_open.sp d name H fun (r : (Option Addr × Int)) H1 => br (r.2 != (0 : Int)) (R ((0 : Int), r.2) H1) (optK r.1 fun a => ld cSl H1 (a.add 0) fun (x : Sl) => R ((x.n : Int), (0 : Int)) H1)

theorem disk_Disk_Len.of {d : Option Addr} {name : ByteArray} {H : Heap} {R : (Int × Int) → Heap → Prop} (h : disk_Disk_Len.vc d name H R) : disk_Disk_Len.sp d name H R :=
  specT_of_vc prog_ng prog_mixed (c := (cTup [(cInt .i64), (cInt .i64)])) (A := []) (args := [(.pointer d), (.string name)]) (Eq.mpr (by kernel_rfl : vcFT (cTup [(cInt .i64), (cInt .i64)]) Tryz.prog disk_Disk_Len.no [] [(.pointer d), (.string name)] H R = disk_Disk_Len.vc d name H R) h)

/-- (*fathom/disk.Disk).Write -/
def disk_Disk_Write.vc (d : Option Addr) (name : ByteArray) (page : Int) (b : Sl) (H : Heap) (R : Int → Heap → Prop) : Prop :=
  disk_Disk_ready.sp d H fun (e : Int) H1 => br (e != (0 : Int)) (R e H1) (br ((b.n : Int) != (512 : Int)) (R (2 : Int) H1) (disk_Disk_open.sp d name H1 fun (r : (Option Addr × Int)) H2 => cut Unit (fun J => br (r.2 != (0 : Int)) (R r.2 H2) (br (decide (page < (0 : Int))) (br (decide (page < (0 : Int))) (R (12 : Int) H2) (optK r.1 fun a => ld cSl H2 (a.add 0) fun (x : Sl) => br (page == (x.n : Int)) (optK d fun a_1 => ld (cInt .i64) H2 (a_1.add 1) fun (x_1 : Int) => optK d fun a_2 => ld (cInt .i64) H2 (a_2.add 3) fun (x_2 : Int) => br (x_1 == x_2) (R (5 : Int) H2) (J () H2)) (J () H2))) (optK r.1 fun a_3 => ld cSl H2 (a_3.add 0) fun (x_3 : Sl) => br (decide (page > (x_3.n : Int))) (R (12 : Int) H2) (optK r.1 fun a_4 => ld cSl H2 (a_4.add 0) fun (x_4 : Sl) => br (page == (x_4.n : Int)) (optK d fun a_5 => ld (cInt .i64) H2 (a_5.add 1) fun (x_5 : Int) => optK d fun a_6 => ld (cInt .i64) H2 (a_6.add 3) fun (x_6 : Int) => br (x_5 == x_6) (R (5 : Int) H2) (J () H2)) (J () H2))))) fun (_ : Unit) H3 => disk_Disk_change.sp d H3 fun (e_1 : Int) H4 => br (e_1 != (0 : Int)) (R e_1 H4) (cut Unit (fun J_1 => optK r.1 fun a_7 => ld cSl H4 (a_7.add 0) fun (x_7 : Sl) => br (page == (x_7.n : Int)) (optK d fun a_8 => ld (cInt .i64) H4 (a_8.add 1) fun (x_8 : Int) => optK d fun a_9 => st H4 (a_9.add 1) (.int .i64 (IntKind.i64.wrap (x_8 + (1 : Int)))) fun H6 => optK d fun a_10 => ld (cInt .i64) H6 (a_10.add 2) fun (x_9 : Int) => optK d fun a_11 => ld (cInt .i64) H6 (a_11.add 1) fun (x_10 : Int) => optK d fun a_12 => st H6 (a_12.add 2) (.int .i64 (if x_10 > x_9 then x_10 else x_9)) fun H7 => J_1 () H7) (J_1 () H4)) fun (_ : Unit) H5 => ∃ G : Heap → Prop, G H5 ∧ optK r.1 fun a_13 => ldC cSl G (a_13.add 2) fun (x_11 : Sl) => optK d fun a_14 => ld (cInt .i64) H5 (a_14.add 5) fun (x_12 : Int) => 512 ≤ b.n ∧ optK b.a fun a_15 => ldAC cArr 512 G a_15 fun (x_13 : Array Value) => pureV cArr Tryz.prog (Instr.build ty_disk_mark #[(0, (.int .i64 x_12)), (1, (.int .i64 page)), (2, (.agg x_13))]) fun (y : Array Value) => doT cSl Tryz.prog (Instr.buildSlice ty_sl_disk_mark 1 #[(0, (.agg y))]) H5 fun (sl : Sl) H8 => G H8 ∧ doT cSl Tryz.prog (Builtin.append_ #[ty_sl_disk_mark, ty_sl_disk_mark] ty_sl_disk_mark #[x_11.v, sl.v]) H8 fun (s : Sl) H9 => optK r.1 fun a_16 => st H9 (a_16.add 2) s.v fun H10 => optK r.1 fun a_17 => ld cSl H10 (a_17.add 0) fun (x_14 : Sl) => 512 ≤ b.n ∧ optK b.a fun a_18 => ldA cArr 512 H10 a_18 fun (x_15 : Array Value) => disk_put.sp x_14 page x_15 H10 fun (r_1 : Sl) H11 => optK r.1 fun a_19 => st H11 (a_19.add 0) r_1.v fun H12 => optK d fun a_20 => ld (cInt .i64) H12 (a_20.add 5) fun (x_16 : Int) => optK d fun a_21 => st H12 (a_21.add 5) (.int .i64 (IntKind.i64.wrap (x_16 + (1 : Int)))) fun H13 => R (0 : Int) H13)))

theorem disk_Disk_Write.of {d : Option Addr} {name : ByteArray} {page : Int} {b : Sl} {H : Heap} {R : Int → Heap → Prop} (h : disk_Disk_Write.vc d name page b H R) : disk_Disk_Write.sp d name page b H R :=
  specT_of_vc prog_ng prog_mixed (c := (cInt .i64)) (A := [(100014, []), (100020, [])]) (args := [(.pointer d), (.string name), (.int .i64 page), b.v]) (Eq.mpr (by kernel_rfl : vcFT (cInt .i64) Tryz.prog disk_Disk_Write.no [(100014, []), (100020, [])] [(.pointer d), (.string name), (.int .i64 page), b.v] H R = disk_Disk_Write.vc d name page b H R) h)

/-- (fathom/fathomlaw01.Step).bytes -/
def fathomlaw01_Step_bytes.vc (x_ : Int) (x_1 : ByteArray) (x_2 : ByteArray) (x_3 : Int) (x_4 : Int) (x_5 : Bool) (x_6 : Int) (H : Heap) (R : Sl → Heap → Prop) : Prop :=
  newC H #[(.int .i64 x_), (.string x_1), (.string x_2), (.int .i64 x_3), (.int .u8 x_4), (.bool x_5), (.int .u64 x_6)] ty_fathomlaw01_Step fun p H1 => ld cBool H1 (p.add 5) fun (x : Bool) => br x (ld (cInt .u8) H1 (p.add 4) fun (x_7 : Int) => doT cSl Tryz.prog (Instr.makeSlice ty_sl_uint8 (.int .i64 (IntKind.i64.wrap x_7)) (.int .i64 (IntKind.i64.wrap x_7))) H1 fun (b : Sl) H2 => LoopVC Int (0 : Int) H2 fun next i H3 => br (decide (i < (IntKind.i64.wrap x_7))) (ld (cInt .u8) H3 (p.add 4) fun (x_8 : Int) => optK b.a fun a => (0 ≤ i ∧ i < (b.n : Int)) ∧ st H3 (a.add (i.toNat * 1)) (.int .u8 x_8) fun H4 => next (IntKind.i64.wrap (i + (1 : Int))) H4) (R b H3)) (doT cSl Tryz.prog (Instr.makeSlice ty_sl_uint8 (.int .i64 (512 : Int)) (.int .i64 (512 : Int))) H1 fun (b_1 : Sl) H5 => LoopVC Int (0 : Int) H5 fun next_1 i_1 H6 => br (decide (i_1 < (512 : Int))) (ld (cInt .u8) H6 (p.add 4) fun (x_9 : Int) => optK b_1.a fun a_1 => (0 ≤ i_1 ∧ i_1 < (b_1.n : Int)) ∧ st H6 (a_1.add (i_1.toNat * 1)) (.int .u8 x_9) fun H7 => next_1 (IntKind.i64.wrap (i_1 + (1 : Int))) H7) (R b_1 H6))

theorem fathomlaw01_Step_bytes.of {x_ : Int} {x_1 : ByteArray} {x_2 : ByteArray} {x_3 : Int} {x_4 : Int} {x_5 : Bool} {x_6 : Int} {H : Heap} {R : Sl → Heap → Prop} (h : fathomlaw01_Step_bytes.vc x_ x_1 x_2 x_3 x_4 x_5 x_6 H R) : fathomlaw01_Step_bytes.sp x_ x_1 x_2 x_3 x_4 x_5 x_6 H R :=
  specT_of_vc prog_ng prog_mixed (c := cSl) (A := [(6, [(5, (cInt .i64))])]) (args := [(.agg #[(.int .i64 x_), (.string x_1), (.string x_2), (.int .i64 x_3), (.int .u8 x_4), (.bool x_5), (.int .u64 x_6)])]) (Eq.mpr (by kernel_rfl : vcFT cSl Tryz.prog fathomlaw01_Step_bytes.no [(6, [(5, (cInt .i64))])] [(.agg #[(.int .i64 x_), (.string x_1), (.string x_2), (.int .i64 x_3), (.int .u8 x_4), (.bool x_5), (.int .u64 x_6)])] H R = fathomlaw01_Step_bytes.vc x_ x_1 x_2 x_3 x_4 x_5 x_6 H R) h)

/-- (*fathom/disk.Disk).Rename -/
def disk_Disk_Rename.vc (d : Option Addr) (p : ByteArray) (to : ByteArray) (H : Heap) (R : Int → Heap → Prop) : Prop :=
  disk_Disk_ready.sp d H fun (e : Int) H1 => br (e != (0 : Int)) (R e H1) (disk_named.sp to H1 fun (r : Bool) H2 => br (!r) (R (2 : Int) H2) (disk_Disk_open.sp d p H2 fun (r_1 : (Option Addr × Int)) H3 => br (r_1.2 != (0 : Int)) (R r_1.2 H3) (disk_Disk_change.sp d H3 fun (e_1 : Int) H4 => br ((e_1 != (0 : Int)) || (p.toList == to.toList)) (R e_1 H4) (disk_Disk_drop.sp d to H4 fun (_ : Unit) H5 => optK d fun a => ld cMap H5 (a.add 0) fun (x : Option Nat) => doT cRaw Tryz.prog (Builtin.delete_ #[ty_maparr_string_ptr_disk_file, ty_string] ty_ #[(.map x), (.string p)]) H5 fun (_ : Value) H6 => optK d fun a_1 => ld cMap H6 (a_1.add 0) fun (x_1 : Option Nat) => doU Tryz.prog (Instr.mapUpdate ty_maparr_string_ptr_disk_file (.map x_1) (.string to) (.pointer r_1.1)) H6 fun H7 => R (0 : Int) H7))))

theorem disk_Disk_Rename.of {d : Option Addr} {p : ByteArray} {to : ByteArray} {H : Heap} {R : Int → Heap → Prop} (h : disk_Disk_Rename.vc d p to H R) : disk_Disk_Rename.sp d p to H R :=
  specT_of_vc prog_ng prog_mixed (c := (cInt .i64)) (A := []) (args := [(.pointer d), (.string p), (.string to)]) (Eq.mpr (by kernel_rfl : vcFT (cInt .i64) Tryz.prog disk_Disk_Rename.no [] [(.pointer d), (.string p), (.string to)] H R = disk_Disk_Rename.vc d p to H R) h)

/-- (*fathom/disk.Disk).Remove -/
def disk_Disk_Remove.vc (d : Option Addr) (name : ByteArray) (H : Heap) (R : Int → Heap → Prop) : Prop :=
  disk_Disk_open.sp d name H fun (r : (Option Addr × Int)) H1 => br (r.2 != (0 : Int)) (R r.2 H1) (disk_Disk_change.sp d H1 fun (e : Int) H2 => br (e == (0 : Int)) (disk_Disk_drop.sp d name H2 fun (_ : Unit) H3 => R e H3) (R e H2))

theorem disk_Disk_Remove.of {d : Option Addr} {name : ByteArray} {H : Heap} {R : Int → Heap → Prop} (h : disk_Disk_Remove.vc d name H R) : disk_Disk_Remove.sp d name H R :=
  specT_of_vc prog_ng prog_mixed (c := (cInt .i64)) (A := []) (args := [(.pointer d), (.string name)]) (Eq.mpr (by kernel_rfl : vcFT (cInt .i64) Tryz.prog disk_Disk_Remove.no [] [(.pointer d), (.string name)] H R = disk_Disk_Remove.vc d name H R) h)

/-- (*fathom/disk.file).clone -/
def disk_file_clone.vc (f : Option Addr) (H : Heap) (R : Option Addr → Heap → Prop) : Prop :=
  ∃ G : Heap → Prop, G H ∧ optK f fun a => ld cSl H (a.add 0) fun (x : Sl) => slices_Clone_sl_disk_sheet_disk_sheet.sp x H fun (r : Sl) H1 => G H1 ∧ optK f fun a_1 => ldC cSl G (a_1.add 1) fun (x_1 : Sl) => slices_Clone_sl_disk_sheet_disk_sheet.sp x_1 H1 fun (r_1 : Sl) H2 => G H2 ∧ optK f fun a_2 => ldC cSl G (a_2.add 2) fun (x_2 : Sl) => slices_Clone_sl_disk_mark_disk_mark.sp x_2 H2 fun (r_2 : Sl) H3 => newC H3 #[r.v, r_1.v, r_2.v] ty_disk_file fun p H4 => R (some p) H4

theorem disk_file_clone.of {f : Option Addr} {H : Heap} {R : Option Addr → Heap → Prop} (h : disk_file_clone.vc f H R) : disk_file_clone.sp f H R :=
  specT_of_vc prog_ng prog_mixed (c := cPtr) (A := []) (args := [(.pointer f)]) (Eq.mpr (by kernel_rfl : vcFT cPtr Tryz.prog disk_file_clone.no [] [(.pointer f)] H R = disk_file_clone.vc f H R) h)

/-- (*fathom/fathomref01.Disk).Create -/
def fathomref01_Disk_Create.vc (d : Option Addr) (name : ByteArray) (H : Heap) (R : Int → Heap → Prop) : Prop :=
  optK d fun a => ld cBool H (a.add 8) fun (x : Bool) => br x (R (4 : Int) H) (fathomref01_named.sp name H fun (r : Bool) H1 => br (!r) (R (2 : Int) H1) (fathomref01_Disk_find.sp d name H1 fun (r_1 : Int) H2 => br (decide (r_1 ≥ (0 : Int))) (R (10 : Int) H2) (optK d fun a_1 => ld cSl H2 (a_1.add 0) fun (x_1 : Sl) => br ((x_1.n : Int) == (4096 : Int)) (R (3 : Int) H2) (fathomref01_Disk_change.sp d H2 fun (e : Int) H3 => br (e == (0 : Int)) (optK d fun a_2 => ld cSl H3 (a_2.add 0) fun (x_2 : Sl) => newC H3 #[(.string name), (.slice none 0 0), (.slice none 0 0)] ty_fathomref01_File fun p H4 => doT cSl Tryz.prog (Builtin.append_ #[ty_sl_fathomref01_File, ty_sl_fathomref01_File] ty_sl_fathomref01_File #[x_2.v, (.slice (some p) 1 1)]) H4 fun (s : Sl) H5 => optK d fun a_3 => st H5 (a_3.add 0) s.v fun H6 => R e H6) (R e H3)))))

theorem fathomref01_Disk_Create.of {d : Option Addr} {name : ByteArray} {H : Heap} {R : Int → Heap → Prop} (h : fathomref01_Disk_Create.vc d name H R) : fathomref01_Disk_Create.sp d name H R :=
  specT_of_vc prog_ng prog_mixed (c := (cInt .i64)) (A := []) (args := [(.pointer d), (.string name)]) (Eq.mpr (by kernel_rfl : vcFT (cInt .i64) Tryz.prog fathomref01_Disk_Create.no [] [(.pointer d), (.string name)] H R = fathomref01_Disk_Create.vc d name H R) h)

/-- (*fathom/fathomref01.Disk).Write -/
def fathomref01_Disk_Write.vc (d : Option Addr) (name : ByteArray) (page : Int) (b : Sl) (H : Heap) (R : Int → Heap → Prop) : Prop :=
  fathomref01_Disk_find.sp d name H fun (i : Int) H1 => optK d fun a => ld cBool H1 (a.add 8) fun (x : Bool) => br x (R (4 : Int) H1) (br ((b.n : Int) != (512 : Int)) (R (2 : Int) H1) (br (decide (i < (0 : Int))) (R (11 : Int) H1) (optK d fun a_1 => ld cSl H1 (a_1.add 0) fun (x_1 : Sl) => optK x_1.a fun a_2 => (0 ≤ i ∧ i < (x_1.n : Int)) ∧ ldA (cAgg [cStr, cSl, cSl]) 3 H1 (a_2.add (i.toNat * 3)) fun (x_2 : (ByteArray × Sl × Sl)) => fathomref01_File_Pages.sp x_2.1 x_2.2.1 x_2.2.2 H1 fun (r : Sl) H2 => cut Unit (fun J => br ((decide (page < (0 : Int))) || (decide (page > (r.n : Int)))) (R (12 : Int) H2) (∃ G : Heap → Prop, G H2 ∧ br (page == (r.n : Int)) (fathomref01_Disk_Used.sp d H2 fun (r_1 : Int) H4 => G H4 ∧ optK d fun a_3 => ldC (cInt .i64) G (a_3.add 2) fun (x_3 : Int) => br (decide (r_1 ≥ x_3)) (R (5 : Int) H4) (J () H4)) (J () H2))) fun (_ : Unit) H3 => fathomref01_Disk_change.sp d H3 fun (e : Int) H5 => br (e != (0 : Int)) (R e H5) (∃ G_1 : Heap → Prop, G_1 H5 ∧ optK d fun a_4 => ldC cSl G_1 (a_4.add 0) fun (x_4 : Sl) => optK d fun a_5 => ldC cSl G_1 (a_5.add 0) fun (x_5 : Sl) => optK x_5.a fun a_6 => (0 ≤ i ∧ i < (x_5.n : Int)) ∧ ldC cSl G_1 ((a_6.add (i.toNat * 3)).add 2) fun (x_6 : Sl) => optK d fun a_7 => ld (cInt .i64) H5 (a_7.add 4) fun (x_7 : Int) => b2sC G_1 b.a b.n fun (str : ByteArray) => newC H5 #[(.int .i64 x_7), (.int .i64 page), (.string str)] ty_fathomref01_Write fun p H6 => G_1 H6 ∧ doT cSl Tryz.prog (Builtin.append_ #[ty_sl_fathomref01_Write, ty_sl_fathomref01_Write] ty_sl_fathomref01_Write #[x_6.v, (.slice (some p) 1 1)]) H6 fun (s : Sl) H7 => G_1 H7 ∧ optK x_4.a fun a_8 => (0 ≤ i ∧ i < (x_4.n : Int)) ∧ st H7 ((a_8.add (i.toNat * 3)).add 2) s.v fun H8 => optK d fun a_9 => ld (cInt .i64) H8 (a_9.add 4) fun (x_8 : Int) => optK d fun a_10 => st H8 (a_10.add 4) (.int .i64 (IntKind.i64.wrap (x_8 + (1 : Int)))) fun H9 => ∃ G_2 : Heap → Prop, G_2 H9 ∧ optK d fun a_11 => ldC (cInt .i64) G_2 (a_11.add 1) fun (x_9 : Int) => fathomref01_Disk_Used.sp d H9 fun (r_2 : Int) H10 => G_2 H10 ∧ optK d fun a_12 => st H10 (a_12.add 1) (.int .i64 (if r_2 > x_9 then r_2 else x_9)) fun H11 => R (0 : Int) H11))))

theorem fathomref01_Disk_Write.of {d : Option Addr} {name : ByteArray} {page : Int} {b : Sl} {H : Heap} {R : Int → Heap → Prop} (h : fathomref01_Disk_Write.vc d name page b H R) : fathomref01_Disk_Write.sp d name page b H R :=
  specT_of_vc prog_ng prog_mixed (c := (cInt .i64)) (A := [(100013, [])]) (args := [(.pointer d), (.string name), (.int .i64 page), b.v]) (Eq.mpr (by kernel_rfl : vcFT (cInt .i64) Tryz.prog fathomref01_Disk_Write.no [(100013, [])] [(.pointer d), (.string name), (.int .i64 page), b.v] H R = fathomref01_Disk_Write.vc d name page b H R) h)

/-- (*fathom/fathomref01.Disk).Read -/
def fathomref01_Disk_Read.vc (d : Option Addr) (name : ByteArray) (page : Int) (H : Heap) (R : (Sl × Int) → Heap → Prop) : Prop :=
  fathomref01_Disk_find.sp d name H fun (i : Int) H1 => optK d fun a => ld cBool H1 (a.add 8) fun (x : Bool) => br x (R ((Sl.mk none 0 0), (4 : Int)) H1) (br (decide (i < (0 : Int))) (R ((Sl.mk none 0 0), (11 : Int)) H1) (optK d fun a_1 => ld cSl H1 (a_1.add 0) fun (x_1 : Sl) => optK x_1.a fun a_2 => (0 ≤ i ∧ i < (x_1.n : Int)) ∧ ldA (cAgg [cStr, cSl, cSl]) 3 H1 (a_2.add (i.toNat * 3)) fun (x_2 : (ByteArray × Sl × Sl)) => fathomref01_File_Pages.sp x_2.1 x_2.2.1 x_2.2.2 H1 fun (l : Sl) H2 => br ((decide (page < (0 : Int))) || (decide (page ≥ (l.n : Int)))) (R ((Sl.mk none 0 0), (12 : Int)) H2) (optK l.a fun a_3 => (0 ≤ page ∧ page < (l.n : Int)) ∧ ld cStr H2 (a_3.add (page.toNat * 1)) fun (x_3 : ByteArray) => doT cSl Tryz.prog (convert ty_string ty_sl_uint8 (.string x_3)) H2 fun (x_4 : Sl) H3 => R (x_4, (0 : Int)) H3)))

theorem fathomref01_Disk_Read.of {d : Option Addr} {name : ByteArray} {page : Int} {H : Heap} {R : (Sl × Int) → Heap → Prop} (h : fathomref01_Disk_Read.vc d name page H R) : fathomref01_Disk_Read.sp d name page H R :=
  specT_of_vc prog_ng prog_mixed (c := (cTup [cSl, (cInt .i64)])) (A := []) (args := [(.pointer d), (.string name), (.int .i64 page)]) (Eq.mpr (by kernel_rfl : vcFT (cTup [cSl, (cInt .i64)]) Tryz.prog fathomref01_Disk_Read.no [] [(.pointer d), (.string name), (.int .i64 page)] H R = fathomref01_Disk_Read.vc d name page H R) h)

/-- (*fathom/fathomref01.Disk).Len -/
def fathomref01_Disk_Len.vc (d : Option Addr) (name : ByteArray) (H : Heap) (R : (Int × Int) → Heap → Prop) : Prop :=
  fathomref01_Disk_find.sp d name H fun (i : Int) H1 => optK d fun a => ld cBool H1 (a.add 8) fun (x : Bool) => br x (R ((0 : Int), (4 : Int)) H1) (br (decide (i < (0 : Int))) (R ((0 : Int), (11 : Int)) H1) (optK d fun a_1 => ld cSl H1 (a_1.add 0) fun (x_1 : Sl) => optK x_1.a fun a_2 => (0 ≤ i ∧ i < (x_1.n : Int)) ∧ ldA (cAgg [cStr, cSl, cSl]) 3 H1 (a_2.add (i.toNat * 3)) fun (x_2 : (ByteArray × Sl × Sl)) => fathomref01_File_Pages.sp x_2.1 x_2.2.1 x_2.2.2 H1 fun (r : Sl) H2 => R ((r.n : Int), (0 : Int)) H2))

theorem fathomref01_Disk_Len.of {d : Option Addr} {name : ByteArray} {H : Heap} {R : (Int × Int) → Heap → Prop} (h : fathomref01_Disk_Len.vc d name H R) : fathomref01_Disk_Len.sp d name H R :=
  specT_of_vc prog_ng prog_mixed (c := (cTup [(cInt .i64), (cInt .i64)])) (A := []) (args := [(.pointer d), (.string name)]) (Eq.mpr (by kernel_rfl : vcFT (cTup [(cInt .i64), (cInt .i64)]) Tryz.prog fathomref01_Disk_Len.no [] [(.pointer d), (.string name)] H R = fathomref01_Disk_Len.vc d name H R) h)

/-- (*fathom/fathomref01.Disk).Sync -/
def fathomref01_Disk_Sync.vc (d : Option Addr) (name : ByteArray) (H : Heap) (R : Int → Heap → Prop) : Prop :=
  fathomref01_Disk_find.sp d name H fun (i : Int) H1 => optK d fun a => ld cBool H1 (a.add 8) fun (x : Bool) => br x (R (4 : Int) H1) (br (decide (i < (0 : Int))) (R (11 : Int) H1) (fathomref01_Disk_change.sp d H1 fun (e : Int) H2 => br (e == (0 : Int)) (∃ G : Heap → Prop, G H2 ∧ optK d fun a_1 => ldC cSl G (a_1.add 0) fun (x_1 : Sl) => optK d fun a_2 => ld cSl H2 (a_2.add 0) fun (x_2 : Sl) => optK x_2.a fun a_3 => (0 ≤ i ∧ i < (x_2.n : Int)) ∧ ldA (cAgg [cStr, cSl, cSl]) 3 H2 (a_3.add (i.toNat * 3)) fun (x_3 : (ByteArray × Sl × Sl)) => fathomref01_File_Pages.sp x_3.1 x_3.2.1 x_3.2.2 H2 fun (r : Sl) H3 => G H3 ∧ optK x_1.a fun a_4 => (0 ≤ i ∧ i < (x_1.n : Int)) ∧ st H3 ((a_4.add (i.toNat * 3)).add 1) r.v fun H4 => optK d fun a_5 => ld cSl H4 (a_5.add 0) fun (x_4 : Sl) => optK x_4.a fun a_6 => (0 ≤ i ∧ i < (x_4.n : Int)) ∧ st H4 ((a_6.add (i.toNat * 3)).add 2) (.slice none 0 0) fun H5 => R e H5) (R e H2)))

theorem fathomref01_Disk_Sync.of {d : Option Addr} {name : ByteArray} {H : Heap} {R : Int → Heap → Prop} (h : fathomref01_Disk_Sync.vc d name H R) : fathomref01_Disk_Sync.sp d name H R :=
  specT_of_vc prog_ng prog_mixed (c := (cInt .i64)) (A := []) (args := [(.pointer d), (.string name)]) (Eq.mpr (by kernel_rfl : vcFT (cInt .i64) Tryz.prog fathomref01_Disk_Sync.no [] [(.pointer d), (.string name)] H R = fathomref01_Disk_Sync.vc d name H R) h)

/-- (*fathom/fathomref01.Disk).Rename -/
def fathomref01_Disk_Rename.vc (d : Option Addr) (p : ByteArray) (to : ByteArray) (H : Heap) (R : Int → Heap → Prop) : Prop :=
  optK d fun a => ld cBool H (a.add 8) fun (x : Bool) => br x (R (4 : Int) H) (fathomref01_named.sp to H fun (r : Bool) H1 => br (!r) (R (2 : Int) H1) (fathomref01_Disk_find.sp d p H1 fun (r_1 : Int) H2 => br (decide (r_1 < (0 : Int))) (R (11 : Int) H2) (fathomref01_Disk_change.sp d H2 fun (e : Int) H3 => br ((e != (0 : Int)) || (p.toList == to.toList)) (R e H3) (fathomref01_Disk_find.sp d to H3 fun (i : Int) H4 => br (decide (i ≥ (0 : Int))) (fathomref01_Disk_drop.sp d i H4 fun (_ : Unit) H5 => ∃ G : Heap → Prop, G H5 ∧ optK d fun a_1 => ldC cSl G (a_1.add 0) fun (x_1 : Sl) => fathomref01_Disk_find.sp d p H5 fun (r_3 : Int) H6 => G H6 ∧ optK x_1.a fun a_2 => (0 ≤ r_3 ∧ r_3 < (x_1.n : Int)) ∧ st H6 ((a_2.add (r_3.toNat * 3)).add 0) (.string to) fun H7 => R (0 : Int) H7) (∃ G_1 : Heap → Prop, G_1 H4 ∧ optK d fun a_3 => ldC cSl G_1 (a_3.add 0) fun (x_2 : Sl) => fathomref01_Disk_find.sp d p H4 fun (r_4 : Int) H8 => G_1 H8 ∧ optK x_2.a fun a_4 => (0 ≤ r_4 ∧ r_4 < (x_2.n : Int)) ∧ st H8 ((a_4.add (r_4.toNat * 3)).add 0) (.string to) fun H9 => R (0 : Int) H9)))))

theorem fathomref01_Disk_Rename.of {d : Option Addr} {p : ByteArray} {to : ByteArray} {H : Heap} {R : Int → Heap → Prop} (h : fathomref01_Disk_Rename.vc d p to H R) : fathomref01_Disk_Rename.sp d p to H R :=
  specT_of_vc prog_ng prog_mixed (c := (cInt .i64)) (A := []) (args := [(.pointer d), (.string p), (.string to)]) (Eq.mpr (by kernel_rfl : vcFT (cInt .i64) Tryz.prog fathomref01_Disk_Rename.no [] [(.pointer d), (.string p), (.string to)] H R = fathomref01_Disk_Rename.vc d p to H R) h)

/-- (*fathom/fathomref01.Disk).Remove -/
def fathomref01_Disk_Remove.vc (d : Option Addr) (name : ByteArray) (H : Heap) (R : Int → Heap → Prop) : Prop :=
  optK d fun a => ld cBool H (a.add 8) fun (x : Bool) => br x (R (4 : Int) H) (fathomref01_Disk_find.sp d name H fun (r : Int) H1 => br (decide (r < (0 : Int))) (R (11 : Int) H1) (fathomref01_Disk_change.sp d H1 fun (e : Int) H2 => br (e == (0 : Int)) (fathomref01_Disk_find.sp d name H2 fun (r_1 : Int) H3 => fathomref01_Disk_drop.sp d r_1 H3 fun (_ : Unit) H4 => R e H4) (R e H2)))

theorem fathomref01_Disk_Remove.of {d : Option Addr} {name : ByteArray} {H : Heap} {R : Int → Heap → Prop} (h : fathomref01_Disk_Remove.vc d name H R) : fathomref01_Disk_Remove.sp d name H R :=
  specT_of_vc prog_ng prog_mixed (c := (cInt .i64)) (A := []) (args := [(.pointer d), (.string name)]) (Eq.mpr (by kernel_rfl : vcFT (cInt .i64) Tryz.prog fathomref01_Disk_Remove.no [] [(.pointer d), (.string name)] H R = fathomref01_Disk_Remove.vc d name H R) h)

/-- (*fathom/fathomref01.Disk).Crash -/
def fathomref01_Disk_Crash.vc (d : Option Addr) (p : Int) (keep : Int) (H : Heap) (R : Unit → Heap → Prop) : Prop :=
  optK d fun a => ld cBool H (a.add 8) fun (x : Bool) => br x (R () H) (optK d fun a_1 => st H (a_1.add 5) (.bool true) fun H1 => optK d fun a_2 => st H1 (a_2.add 6) (.int .i64 (if (0 : Int) > p then (0 : Int) else p)) fun H2 => optK d fun a_3 => st H2 (a_3.add 7) (.int .u64 keep) fun H3 => R () H3)

theorem fathomref01_Disk_Crash.of {d : Option Addr} {p : Int} {keep : Int} {H : Heap} {R : Unit → Heap → Prop} (h : fathomref01_Disk_Crash.vc d p keep H R) : fathomref01_Disk_Crash.sp d p keep H R :=
  specT_of_vc prog_ng prog_mixed (c := (cTup [])) (A := []) (args := [(.pointer d), (.int .i64 p), (.int .u64 keep)]) (Eq.mpr (by kernel_rfl : vcFT (cTup []) Tryz.prog fathomref01_Disk_Crash.no [] [(.pointer d), (.int .i64 p), (.int .u64 keep)] H R = fathomref01_Disk_Crash.vc d p keep H R) h)

/-- fathom/fathomkit.SameTexts -/
def fathomkit_SameTexts.vc (a : Sl) (b : Sl) (H : Heap) (R : Bool → Heap → Prop) : Prop :=
  br ((a.n : Int) != (b.n : Int)) (R false H) (LoopVC Int (0 : Int) H fun next i H1 => br (decide (i < (a.n : Int))) (optK a.a fun a_1 => (0 ≤ i ∧ i < (a.n : Int)) ∧ ld cStr H1 (a_1.add (i.toNat * 1)) fun (x : ByteArray) => optK b.a fun a_2 => (0 ≤ i ∧ i < (b.n : Int)) ∧ ld cStr H1 (a_2.add (i.toNat * 1)) fun (x_1 : ByteArray) => br (!(x.toList == x_1.toList)) (R false H1) (next (IntKind.i64.wrap (i + (1 : Int))) H1)) (R true H1))

theorem fathomkit_SameTexts.of {a : Sl} {b : Sl} {H : Heap} {R : Bool → Heap → Prop} (h : fathomkit_SameTexts.vc a b H R) : fathomkit_SameTexts.sp a b H R :=
  specT_of_vc prog_ng prog_mixed (c := cBool) (A := [(4, [(5, (cInt .i64))])]) (args := [a.v, b.v]) (Eq.mpr (by kernel_rfl : vcFT cBool Tryz.prog fathomkit_SameTexts.no [(4, [(5, (cInt .i64))])] [a.v, b.v] H R = fathomkit_SameTexts.vc a b H R) h)

/-- (*fathom/fathomref01.Disk).List -/
def fathomref01_Disk_List.vc (d : Option Addr) (H : Heap) (R : Sl → Heap → Prop) : Prop :=
  LoopVC (Sl × Int) ((Sl.mk none 0 0), (0 : Int)) H fun next z H1 => optK d fun a => ld cSl H1 (a.add 0) fun (x : Sl) => br (decide (z.2 < (x.n : Int))) (optK d fun a_1 => ld cBool H1 (a_1.add 8) fun (x_1 : Bool) => br (!x_1) (LoopVC Int (0 : Int) H1 fun next_1 z_1 H2 => br (decide (z_1 < (z.1.n : Int))) (optK z.1.a fun a_2 => (0 ≤ z_1 ∧ z_1 < (z.1.n : Int)) ∧ ld cStr H2 (a_2.add (z_1.toNat * 1)) fun (x_2 : ByteArray) => optK d fun a_3 => ld cSl H2 (a_3.add 0) fun (x_3 : Sl) => optK x_3.a fun a_4 => (0 ≤ z.2 ∧ z.2 < (x_3.n : Int)) ∧ ld cStr H2 ((a_4.add (z.2.toNat * 3)).add 0) fun (x_4 : ByteArray) => br (Op.bytesLess x_2.toList x_4.toList) (next_1 (IntKind.i64.wrap (z_1 + (1 : Int))) H2) ((0 ≤ z_1 ∧ z_1 ≤ (z.1.c : Int)) ∧ doT cSl Tryz.prog (Builtin.append_ #[ty_sl_string, ty_sl_string] ty_sl_string #[(.slice none 0 0), (.slice (slA z.1.a z.1.c 0 1) (z_1.toNat - 0) (z.1.c - 0))]) H2 fun (out : Sl) H3 => optK d fun a_5 => ld cSl H3 (a_5.add 0) fun (x_5 : Sl) => optK x_5.a fun a_6 => (0 ≤ z.2 ∧ z.2 < (x_5.n : Int)) ∧ ld cStr H3 ((a_6.add (z.2.toNat * 3)).add 0) fun (x_6 : ByteArray) => newC H3 #[(.string x_6)] ty_string fun p H4 => doT cSl Tryz.prog (Builtin.append_ #[ty_sl_string, ty_sl_string] ty_sl_string #[out.v, (.slice (some p) 1 1)]) H4 fun (out_1 : Sl) H5 => (0 ≤ z_1 ∧ z_1 ≤ (z.1.n : Int)) ∧ doT cSl Tryz.prog (Builtin.append_ #[ty_sl_string, ty_sl_string] ty_sl_string #[out_1.v, (.slice (slA z.1.a z.1.c z_1.toNat 1) (z.1.n - z_1.toNat) (z.1.c - z_1.toNat))]) H5 fun (out_2 : Sl) H6 => next (out_2, IntKind.i64.wrap (z.2 + (1 : Int))) H6)) ((0 ≤ z_1 ∧ z_1 ≤ (z.1.c : Int)) ∧ doT cSl Tryz.prog (Builtin.append_ #[ty_sl_string, ty_sl_string] ty_sl_string #[(.slice none 0 0), (.slice (slA z.1.a z.1.c 0 1) (z_1.toNat - 0) (z.1.c - 0))]) H2 fun (out_3 : Sl) H7 => optK d fun a_7 => ld cSl H7 (a_7.add 0) fun (x_7 : Sl) => optK x_7.a fun a_8 => (0 ≤ z.2 ∧ z.2 < (x_7.n : Int)) ∧ ld cStr H7 ((a_8.add (z.2.toNat * 3)).add 0) fun (x_8 : ByteArray) => newC H7 #[(.string x_8)] ty_string fun p_1 H8 => doT cSl Tryz.prog (Builtin.append_ #[ty_sl_string, ty_sl_string] ty_sl_string #[out_3.v, (.slice (some p_1) 1 1)]) H8 fun (out_4 : Sl) H9 => (0 ≤ z_1 ∧ z_1 ≤ (z.1.n : Int)) ∧ doT cSl Tryz.prog (Builtin.append_ #[ty_sl_string, ty_sl_string] ty_sl_string #[out_4.v, (.slice (slA z.1.a z.1.c z_1.toNat 1) (z.1.n - z_1.toNat) (z.1.c - z_1.toNat))]) H9 fun (out_5 : Sl) H10 => next (out_5, IntKind.i64.wrap (z.2 + (1 : Int))) H10)) (R z.1 H1)) (R z.1 H1)

theorem fathomref01_Disk_List.of {d : Option Addr} {H : Heap} {R : Sl → Heap → Prop} (h : fathomref01_Disk_List.vc d H R) : fathomref01_Disk_List.sp d H R :=
  specT_of_vc prog_ng prog_mixed (c := cSl) (A := [(3, [(3, cSl), (4, (cInt .i64))]), (6, [(5, (cInt .i64))])]) (args := [(.pointer d)]) (Eq.mpr (by kernel_rfl : vcFT cSl Tryz.prog fathomref01_Disk_List.no [(3, [(3, cSl), (4, (cInt .i64))]), (6, [(5, (cInt .i64))])] [(.pointer d)] H R = fathomref01_Disk_List.vc d H R) h)

/-- (*fathom/fathomref01.Disk).Used -/
def fathomref01_Disk_Used.vc (d : Option Addr) (H : Heap) (R : Int → Heap → Prop) : Prop :=
  LoopVC (Int × Int) ((0 : Int), (0 : Int)) H fun next z H1 => optK d fun a => ld cSl H1 (a.add 0) fun (x : Sl) => br (decide (z.2 < (x.n : Int))) (optK d fun a_1 => ld cSl H1 (a_1.add 0) fun (x_1 : Sl) => optK x_1.a fun a_2 => (0 ≤ z.2 ∧ z.2 < (x_1.n : Int)) ∧ ldA (cAgg [cStr, cSl, cSl]) 3 H1 (a_2.add (z.2.toNat * 3)) fun (x_2 : (ByteArray × Sl × Sl)) => fathomref01_File_Pages.sp x_2.1 x_2.2.1 x_2.2.2 H1 fun (r : Sl) H2 => next (IntKind.i64.wrap (z.1 + (r.n : Int)), IntKind.i64.wrap (z.2 + (1 : Int))) H2) (R z.1 H1)

theorem fathomref01_Disk_Used.of {d : Option Addr} {H : Heap} {R : Int → Heap → Prop} (h : fathomref01_Disk_Used.vc d H R) : fathomref01_Disk_Used.sp d H R :=
  specT_of_vc prog_ng prog_mixed (c := (cInt .i64)) (A := [(3, [(3, (cInt .i64)), (4, (cInt .i64))])]) (args := [(.pointer d)]) (Eq.mpr (by kernel_rfl : vcFT (cInt .i64) Tryz.prog fathomref01_Disk_Used.no [(3, [(3, (cInt .i64)), (4, (cInt .i64))])] [(.pointer d)] H R = fathomref01_Disk_Used.vc d H R) h)

/-- slices.Clone[[]fathom/disk.sheet,fathom/disk.sheet] -/
def slices_Clone_sl_disk_sheet_disk_sheet.vc (s : Sl) (H : Heap) (R : Sl → Heap → Prop) : Prop :=
  br s.a.isNone (R (Sl.mk none 0 0) H) (doT cSl Tryz.prog (Instr.buildSlice ty_sl_disk_sheet 0 #[]) H fun (sl : Sl) H1 => doT cSl Tryz.prog (Builtin.append_ #[ty_sl_disk_sheet, ty_sl_disk_sheet] ty_sl_disk_sheet #[sl.v, s.v]) H1 fun (s_1 : Sl) H2 => R s_1 H2)

theorem slices_Clone_sl_disk_sheet_disk_sheet.of {s : Sl} {H : Heap} {R : Sl → Heap → Prop} (h : slices_Clone_sl_disk_sheet_disk_sheet.vc s H R) : slices_Clone_sl_disk_sheet_disk_sheet.sp s H R :=
  specT_of_vc prog_ng prog_mixed (c := cSl) (A := []) (args := [s.v]) (Eq.mpr (by kernel_rfl : vcFT cSl Tryz.prog slices_Clone_sl_disk_sheet_disk_sheet.no [] [s.v] H R = slices_Clone_sl_disk_sheet_disk_sheet.vc s H R) h)

/-- slices.BinarySearch[[]int,int] -/
def slices_BinarySearch_sl_int_int.vc (x : Sl) (target : Int) (H : Heap) (R : (Int × Bool) → Heap → Prop) : Prop :=
  LoopVC (Int × Int) ((0 : Int), (x.n : Int)) H fun next z H1 => br (decide (z.1 < z.2)) (optK x.a fun a => (0 ≤ (IntKind.i64.wrap (ishr .u64 (IntKind.u64.wrap (IntKind.i64.wrap (z.1 + z.2))) (1 : Int))) ∧ (IntKind.i64.wrap (ishr .u64 (IntKind.u64.wrap (IntKind.i64.wrap (z.1 + z.2))) (1 : Int))) < (x.n : Int)) ∧ ld (cInt .i64) H1 (a.add ((IntKind.i64.wrap (ishr .u64 (IntKind.u64.wrap (IntKind.i64.wrap (z.1 + z.2))) (1 : Int))).toNat * 1)) fun (x_1 : Int) => cmp_Less_int.sp x_1 target H1 fun (r : Bool) H2 => br r (next (IntKind.i64.wrap ((IntKind.i64.wrap (ishr .u64 (IntKind.u64.wrap (IntKind.i64.wrap (z.1 + z.2))) (1 : Int))) + (1 : Int)), z.2) H2) (next (z.1, IntKind.i64.wrap (ishr .u64 (IntKind.u64.wrap (IntKind.i64.wrap (z.1 + z.2))) (1 : Int))) H2)) (br (decide (z.1 < (x.n : Int))) (optK x.a fun a_1 => (0 ≤ z.1 ∧ z.1 < (x.n : Int)) ∧ ld (cInt .i64) H1 (a_1.add (z.1.toNat * 1)) fun (x_2 : Int) => br (x_2 == target) (R (z.1, true) H1) (optK x.a fun a_2 => (0 ≤ z.1 ∧ z.1 < (x.n : Int)) ∧ ld (cInt .i64) H1 (a_2.add (z.1.toNat * 1)) fun (x_3 : Int) => slices_isNaN_int.sp x_3 H1 fun (r_1 : Bool) H3 => br r_1 (slices_isNaN_int.sp target H3 fun (r_2 : Bool) H4 => R (z.1, r_2) H4) (R (z.1, false) H3))) (R (z.1, false) H1))

theorem slices_BinarySearch_sl_int_int.of {x : Sl} {target : Int} {H : Heap} {R : (Int × Bool) → Heap → Prop} (h : slices_BinarySearch_sl_int_int.vc x target H R) : slices_BinarySearch_sl_int_int.sp x target H R :=
  specT_of_vc prog_ng prog_mixed (c := (cTup [(cInt .i64), cBool])) (A := [(3, [(7, (cInt .i64)), (8, (cInt .i64))])]) (args := [x.v, (.int .i64 target)]) (Eq.mpr (by kernel_rfl : vcFT (cTup [(cInt .i64), cBool]) Tryz.prog slices_BinarySearch_sl_int_int.no [(3, [(7, (cInt .i64)), (8, (cInt .i64))])] [x.v, (.int .i64 target)] H R = slices_BinarySearch_sl_int_int.vc x target H R) h)

/-- fathom/disk.put -/
def disk_put.vc (l : Sl) (page : Int) (b : Array Value) (H : Heap) (R : Sl → Heap → Prop) : Prop :=
  newC H b ty_disk_sheet fun p H1 => LoopVC Sl l H1 fun next l_1 H2 => br (decide ((l_1.n : Int) ≤ page)) (doT cSl Tryz.prog (Instr.buildSlice ty_sl_disk_sheet 1 #[(0, (.agg (zc Tryz.prog ty_disk_sheet)))]) H2 fun (sl : Sl) H3 => doT cSl Tryz.prog (Builtin.append_ #[ty_sl_disk_sheet, ty_sl_disk_sheet] ty_sl_disk_sheet #[l_1.v, sl.v]) H3 fun (l_2 : Sl) H4 => next l_2 H4) (ldA cArr 512 H2 p fun (x : Array Value) => optK l_1.a fun a => (0 ≤ page ∧ page < (l_1.n : Int)) ∧ doU Tryz.prog (Instr.storeAt ty_disk_sheet (.pointer (some (a.add (page.toNat * 512)))) (.agg x)) H2 fun H5 => R l_1 H5)

theorem disk_put.of {l : Sl} {page : Int} {b : Array Value} {H : Heap} {R : Sl → Heap → Prop} (h : disk_put.vc l page b H R) : disk_put.sp l page b H R :=
  specT_of_vc prog_ng prog_mixed (c := cSl) (A := [(1, [(0, cSl)])]) (args := [l.v, (.int .i64 page), (.agg b)]) (Eq.mpr (by kernel_rfl : vcFT cSl Tryz.prog disk_put.no [(1, [(0, cSl)])] [l.v, (.int .i64 page), (.agg b)] H R = disk_put.vc l page b H R) h)

/-- (*fathom/fathomref01.Disk).rank -/
def fathomref01_Disk_rank.vc (d : Option Addr) (no : Int) (H : Heap) (R : Int → Heap → Prop) : Prop :=
  LoopVC (Int × Int) ((0 : Int), (0 : Int)) H fun next z H1 => optK d fun a => ld cSl H1 (a.add 0) fun (x : Sl) => br (decide (z.2 < (x.n : Int))) (LoopVC (Int × Int) (z.1, (0 : Int)) H1 fun next_1 z_1 H2 => optK d fun a_1 => ld cSl H2 (a_1.add 0) fun (x_1 : Sl) => optK x_1.a fun a_2 => (0 ≤ z.2 ∧ z.2 < (x_1.n : Int)) ∧ ld cSl H2 ((a_2.add (z.2.toNat * 3)).add 2) fun (x_2 : Sl) => br (decide (z_1.2 < (x_2.n : Int))) (optK d fun a_3 => ld cSl H2 (a_3.add 0) fun (x_3 : Sl) => optK x_3.a fun a_4 => (0 ≤ z.2 ∧ z.2 < (x_3.n : Int)) ∧ ld cSl H2 ((a_4.add (z.2.toNat * 3)).add 2) fun (x_4 : Sl) => optK x_4.a fun a_5 => (0 ≤ z_1.2 ∧ z_1.2 < (x_4.n : Int)) ∧ ld (cInt .i64) H2 ((a_5.add (z_1.2.toNat * 3)).add 0) fun (x_5 : Int) => br (decide (x_5 < no)) (next_1 (IntKind.i64.wrap (z_1.1 + (1 : Int)), IntKind.i64.wrap (z_1.2 + (1 : Int))) H2) (next_1 (z_1.1, IntKind.i64.wrap (z_1.2 + (1 : Int))) H2)) (next (z_1.1, IntKind.i64.wrap (z.2 + (1 : Int))) H2)) (R z.1 H1)

theorem fathomref01_Disk_rank.of {d : Option Addr} {no : Int} {H : Heap} {R : Int → Heap → Prop} (h : fathomref01_Disk_rank.vc d no H R) : fathomref01_Disk_rank.sp d no H R :=
  specT_of_vc prog_ng prog_mixed (c := (cInt .i64)) (A := [(3, [(5, (cInt .i64)), (6, (cInt .i64))]), (6, [(5, (cInt .i64)), (7, (cInt .i64))])]) (args := [(.pointer d), (.int .i64 no)]) (Eq.mpr (by kernel_rfl : vcFT (cInt .i64) Tryz.prog fathomref01_Disk_rank.no [(3, [(5, (cInt .i64)), (6, (cInt .i64))]), (6, [(5, (cInt .i64)), (7, (cInt .i64))])] [(.pointer d), (.int .i64 no)] H R = fathomref01_Disk_rank.vc d no H R) h)

/-- fathom/fathomref01.put -/
def fathomref01_put.vc (l : Sl) (w_ : Int) (w_1 : Int) (w_2 : ByteArray) (H : Heap) (R : Sl → Heap → Prop) : Prop :=
  newC H #[(.int .i64 w_), (.int .i64 w_1), (.string w_2)] ty_fathomref01_Write fun p H1 => doT cSl Tryz.prog (Builtin.append_ #[ty_sl_string, ty_sl_string] ty_sl_string #[(.slice none 0 0), l.v]) H1 fun (out : Sl) H2 => LoopVC Sl out H2 fun next out_1 H3 => ld (cInt .i64) H3 (p.add 1) fun (x : Int) => br (decide ((out_1.n : Int) ≤ x)) (doT cSl Tryz.prog (Instr.makeSlice ty_sl_uint8 (.int .i64 (512 : Int)) (.int .i64 (512 : Int))) H3 fun (sl : Sl) H4 => b2s H4 sl.a sl.n fun (str : ByteArray) => newC H4 #[(.string str)] ty_string fun p_1 H5 => doT cSl Tryz.prog (Builtin.append_ #[ty_sl_string, ty_sl_string] ty_sl_string #[out_1.v, (.slice (some p_1) 1 1)]) H5 fun (out_2 : Sl) H6 => next out_2 H6) (ld (cInt .i64) H3 (p.add 1) fun (x_1 : Int) => ld cStr H3 (p.add 2) fun (x_2 : ByteArray) => optK out_1.a fun a => (0 ≤ x_1 ∧ x_1 < (out_1.n : Int)) ∧ st H3 (a.add (x_1.toNat * 1)) (.string x_2) fun H7 => R out_1 H7)

theorem fathomref01_put.of {l : Sl} {w_ : Int} {w_1 : Int} {w_2 : ByteArray} {H : Heap} {R : Sl → Heap → Prop} (h : fathomref01_put.vc l w_ w_1 w_2 H R) : fathomref01_put.sp l w_ w_1 w_2 H R :=
  specT_of_vc prog_ng prog_mixed (c := cSl) (A := [(3, [(5, cSl)])]) (args := [l.v, (.agg #[(.int .i64 w_), (.int .i64 w_1), (.string w_2)])]) (Eq.mpr (by kernel_rfl : vcFT cSl Tryz.prog fathomref01_put.no [(3, [(5, cSl)])] [l.v, (.agg #[(.int .i64 w_), (.int .i64 w_1), (.string w_2)])] H R = fathomref01_put.vc l w_ w_1 w_2 H R) h)

/-- (*fathom/disk.Disk).open -/
def disk_Disk_open.vc (d : Option Addr) (name : ByteArray) (H : Heap) (R : (Option Addr × Int) → Heap → Prop) : Prop :=
  disk_Disk_ready.sp d H fun (e : Int) H1 => br (e != (0 : Int)) (R (none, e) H1) (optK d fun a => ld cMap H1 (a.add 0) fun (x : Option Nat) => rdV (cTup [cPtr, cBool]) Tryz.prog (Instr.lookup ty_maparr_string_ptr_disk_file (.map x) (.string name) true) H1 fun (x_1 : (Option Addr × Bool)) => br x_1.2 (R (x_1.1, (0 : Int)) H1) (R (none, (11 : Int)) H1))

theorem disk_Disk_open.of {d : Option Addr} {name : ByteArray} {H : Heap} {R : (Option Addr × Int) → Heap → Prop} (h : disk_Disk_open.vc d name H R) : disk_Disk_open.sp d name H R :=
  specT_of_vc prog_ng prog_mixed (c := (cTup [cPtr, (cInt .i64)])) (A := []) (args := [(.pointer d), (.string name)]) (Eq.mpr (by kernel_rfl : vcFT (cTup [cPtr, (cInt .i64)]) Tryz.prog disk_Disk_open.no [] [(.pointer d), (.string name)] H R = disk_Disk_open.vc d name H R) h)

/-- slices.Collect[string] -/
def slices_Collect_string.vc (seq : Value) (H : Heap) (R : Sl → Heap → Prop) : Prop :=
  slices_AppendSeq_sl_string_string.sp (Sl.mk none 0 0) seq H fun (r : Sl) H1 => R r H1

theorem slices_Collect_string.of {seq : Value} {H : Heap} {R : Sl → Heap → Prop} (h : slices_Collect_string.vc seq H R) : slices_Collect_string.sp seq H R :=
  specT_of_vc prog_ng prog_mixed (c := cSl) (A := []) (args := [seq]) (Eq.mpr (by kernel_rfl : vcFT cSl Tryz.prog slices_Collect_string.no [] [seq] H R = slices_Collect_string.vc seq H R) h)

/-- maps.Keys[map[string]*fathom/disk.file,string,*fathom/disk.file]$1 -/
def maps_Keys_map_string_ptr_disk_file_string_ptr_disk_file_c1.vc (l : Nat) (cap : Addr) (H : Heap) (R : Unit → Heap → Prop) : Prop :=
  ld cMap H cap fun (x : Option Nat) => doT cPtr Tryz.prog (Instr.range ty_maparr_string_ptr_disk_file (.map x)) H fun (it : Option Addr) H1 => LoopVC Unit () H1 fun next _ H2 => doT cNext Tryz.prog (Instr.next (.pointer it) false ty_) H2 fun (nx : Bool × List Value) H3 => br nx.1 (doT cTwo Tryz.prog (Instr.entry (.pointer it)) H3 fun (en : Value × Value) H4 => asT cStr en.1 fun (k : ByteArray) => YieldSpec Tryz.prog l #[(.string k)] H4 fun (b : Bool) H5 => br (!b) (R () H5) (next () H5)) (R () H3)

theorem maps_Keys_map_string_ptr_disk_file_string_ptr_disk_file_c1.of {l : Nat} {cap : Addr} {H : Heap} {R : Unit → Heap → Prop} (h : maps_Keys_map_string_ptr_disk_file_string_ptr_disk_file_c1.vc l cap H R) : maps_Keys_map_string_ptr_disk_file_string_ptr_disk_file_c1.sp l cap H R :=
  specT_of_vc prog_ng prog_mixed (c := (cTup [])) (A := [(1, [])]) (args := [(.func (.yield l) #[] #[]), (.pointer (some cap))]) (Eq.mpr (by kernel_rfl : vcFT (cTup []) Tryz.prog maps_Keys_map_string_ptr_disk_file_string_ptr_disk_file_c1.no [(1, [])] [(.func (.yield l) #[] #[]), (.pointer (some cap))] H R = maps_Keys_map_string_ptr_disk_file_string_ptr_disk_file_c1.vc l cap H R) h)

/-- slices.Clone[[]byte,byte] -/
def slices_Clone_sl_byte_byte.vc (s : Sl) (H : Heap) (R : Sl → Heap → Prop) : Prop :=
  br s.a.isNone (R (Sl.mk none 0 0) H) (newC H #[] ty_uint8 fun p H1 => doT cSl Tryz.prog (Builtin.append_ #[ty_sl_uint8, ty_sl_uint8] ty_sl_uint8 #[(.slice (some p) 0 0), s.v]) H1 fun (s_1 : Sl) H2 => R s_1 H2)

theorem slices_Clone_sl_byte_byte.of {s : Sl} {H : Heap} {R : Sl → Heap → Prop} (h : slices_Clone_sl_byte_byte.vc s H R) : slices_Clone_sl_byte_byte.sp s H R :=
  specT_of_vc prog_ng prog_mixed (c := cSl) (A := []) (args := [s.v]) (Eq.mpr (by kernel_rfl : vcFT cSl Tryz.prog slices_Clone_sl_byte_byte.no [] [s.v] H R = slices_Clone_sl_byte_byte.vc s H R) h)

/-- (*fathom/disk.Disk).drop -/
def disk_Disk_drop.vc (d : Option Addr) (name : ByteArray) (H : Heap) (R : Unit → Heap → Prop) : Prop :=
  optK d fun a => ld cMap H (a.add 0) fun (x : Option Nat) => rdV (cTup [cPtr, cBool]) Tryz.prog (Instr.lookup ty_maparr_string_ptr_disk_file (.map x) (.string name) true) H fun (x_1 : (Option Addr × Bool)) => br x_1.2 (optK d fun a_1 => ld (cInt .i64) H (a_1.add 1) fun (x_2 : Int) => optK x_1.1 fun a_2 => ld cSl H (a_2.add 0) fun (x_3 : Sl) => optK d fun a_3 => st H (a_3.add 1) (.int .i64 (IntKind.i64.wrap (x_2 - (x_3.n : Int)))) fun H1 => optK d fun a_4 => ld cMap H1 (a_4.add 0) fun (x_4 : Option Nat) => doT cRaw Tryz.prog (Builtin.delete_ #[ty_maparr_string_ptr_disk_file, ty_string] ty_ #[(.map x_4), (.string name)]) H1 fun (_ : Value) H2 => R () H2) (R () H)

theorem disk_Disk_drop.of {d : Option Addr} {name : ByteArray} {H : Heap} {R : Unit → Heap → Prop} (h : disk_Disk_drop.vc d name H R) : disk_Disk_drop.sp d name H R :=
  specT_of_vc prog_ng prog_mixed (c := (cTup [])) (A := []) (args := [(.pointer d), (.string name)]) (Eq.mpr (by kernel_rfl : vcFT (cTup []) Tryz.prog disk_Disk_drop.no [] [(.pointer d), (.string name)] H R = disk_Disk_drop.vc d name H R) h)

/-- slices.Clone[[]fathom/disk.mark,fathom/disk.mark] -/
def slices_Clone_sl_disk_mark_disk_mark.vc (s : Sl) (H : Heap) (R : Sl → Heap → Prop) : Prop :=
  br s.a.isNone (R (Sl.mk none 0 0) H) (doT cSl Tryz.prog (Instr.buildSlice ty_sl_disk_mark 0 #[]) H fun (sl : Sl) H1 => doT cSl Tryz.prog (Builtin.append_ #[ty_sl_disk_mark, ty_sl_disk_mark] ty_sl_disk_mark #[sl.v, s.v]) H1 fun (s_1 : Sl) H2 => R s_1 H2)

theorem slices_Clone_sl_disk_mark_disk_mark.of {s : Sl} {H : Heap} {R : Sl → Heap → Prop} (h : slices_Clone_sl_disk_mark_disk_mark.vc s H R) : slices_Clone_sl_disk_mark_disk_mark.sp s H R :=
  specT_of_vc prog_ng prog_mixed (c := cSl) (A := []) (args := [s.v]) (Eq.mpr (by kernel_rfl : vcFT cSl Tryz.prog slices_Clone_sl_disk_mark_disk_mark.no [] [s.v] H R = slices_Clone_sl_disk_mark_disk_mark.vc s H R) h)

/-- fathom/fathomref01.named -/
def fathomref01_named.vc (s : ByteArray) (H : Heap) (R : Bool → Heap → Prop) : Prop :=
  R ((decide ((s.size : Int) ≥ (1 : Int))) && (decide ((s.size : Int) ≤ (100 : Int)))) H

theorem fathomref01_named.of {s : ByteArray} {H : Heap} {R : Bool → Heap → Prop} (h : fathomref01_named.vc s H R) : fathomref01_named.sp s H R :=
  specT_of_vc prog_ng prog_mixed (c := cBool) (A := []) (args := [(.string s)]) (Eq.mpr (by kernel_rfl : vcFT cBool Tryz.prog fathomref01_named.no [] [(.string s)] H R = fathomref01_named.vc s H R) h)

/-- (*fathom/fathomref01.Disk).find -/
def fathomref01_Disk_find.vc (d : Option Addr) (name : ByteArray) (H : Heap) (R : Int → Heap → Prop) : Prop :=
  LoopVC Int (0 : Int) H fun next i H1 => optK d fun a => ld cSl H1 (a.add 0) fun (x : Sl) => br (decide (i < (x.n : Int))) (optK d fun a_1 => ld cSl H1 (a_1.add 0) fun (x_1 : Sl) => optK x_1.a fun a_2 => (0 ≤ i ∧ i < (x_1.n : Int)) ∧ ld cStr H1 ((a_2.add (i.toNat * 3)).add 0) fun (x_2 : ByteArray) => br (x_2.toList == name.toList) (R i H1) (next (IntKind.i64.wrap (i + (1 : Int))) H1)) (R (-1 : Int) H1)

theorem fathomref01_Disk_find.of {d : Option Addr} {name : ByteArray} {H : Heap} {R : Int → Heap → Prop} (h : fathomref01_Disk_find.vc d name H R) : fathomref01_Disk_find.sp d name H R :=
  specT_of_vc prog_ng prog_mixed (c := (cInt .i64)) (A := [(2, [(5, (cInt .i64))])]) (args := [(.pointer d), (.string name)]) (Eq.mpr (by kernel_rfl : vcFT (cInt .i64) Tryz.prog fathomref01_Disk_find.no [(2, [(5, (cInt .i64))])] [(.pointer d), (.string name)] H R = fathomref01_Disk_find.vc d name H R) h)

/-- (*fathom/fathomref01.Disk).change -/
def fathomref01_Disk_change.vc (d : Option Addr) (H : Heap) (R : Int → Heap → Prop) : Prop :=
  optK d fun a => ld cBool H (a.add 5) fun (x : Bool) => br x (optK d fun a_1 => ld (cInt .i64) H (a_1.add 6) fun (x_1 : Int) => br (x_1 == (0 : Int)) (optK d fun a_2 => st H (a_2.add 8) (.bool true) fun H1 => R (4 : Int) H1) (optK d fun a_3 => ld cBool H (a_3.add 5) fun (x_2 : Bool) => br x_2 (optK d fun a_4 => ld (cInt .i64) H (a_4.add 6) fun (x_3 : Int) => optK d fun a_5 => st H (a_5.add 6) (.int .i64 (IntKind.i64.wrap (x_3 - (1 : Int)))) fun H2 => optK d fun a_6 => ld (cInt .i64) H2 (a_6.add 3) fun (x_4 : Int) => optK d fun a_7 => st H2 (a_7.add 3) (.int .i64 (IntKind.i64.wrap (x_4 + (1 : Int)))) fun H3 => R (0 : Int) H3) (optK d fun a_8 => ld (cInt .i64) H (a_8.add 3) fun (x_5 : Int) => optK d fun a_9 => st H (a_9.add 3) (.int .i64 (IntKind.i64.wrap (x_5 + (1 : Int)))) fun H4 => R (0 : Int) H4))) (optK d fun a_10 => ld cBool H (a_10.add 5) fun (x_6 : Bool) => br x_6 (optK d fun a_11 => ld (cInt .i64) H (a_11.add 6) fun (x_7 : Int) => optK d fun a_12 => st H (a_12.add 6) (.int .i64 (IntKind.i64.wrap (x_7 - (1 : Int)))) fun H5 => optK d fun a_13 => ld (cInt .i64) H5 (a_13.add 3) fun (x_8 : Int) => optK d fun a_14 => st H5 (a_14.add 3) (.int .i64 (IntKind.i64.wrap (x_8 + (1 : Int)))) fun H6 => R (0 : Int) H6) (optK d fun a_15 => ld (cInt .i64) H (a_15.add 3) fun (x_9 : Int) => optK d fun a_16 => st H (a_16.add 3) (.int .i64 (IntKind.i64.wrap (x_9 + (1 : Int)))) fun H7 => R (0 : Int) H7))

theorem fathomref01_Disk_change.of {d : Option Addr} {H : Heap} {R : Int → Heap → Prop} (h : fathomref01_Disk_change.vc d H R) : fathomref01_Disk_change.sp d H R :=
  specT_of_vc prog_ng prog_mixed (c := (cInt .i64)) (A := []) (args := [(.pointer d)]) (Eq.mpr (by kernel_rfl : vcFT (cInt .i64) Tryz.prog fathomref01_Disk_change.no [] [(.pointer d)] H R = fathomref01_Disk_change.vc d H R) h)

/-- (*fathom/fathomref01.Disk).drop -/
def fathomref01_Disk_drop.vc (d : Option Addr) (i : Int) (H : Heap) (R : Unit → Heap → Prop) : Prop :=
  optK d fun a => ld cSl H (a.add 0) fun (x : Sl) => (0 ≤ i ∧ i ≤ (x.c : Int)) ∧ doT cSl Tryz.prog (Builtin.append_ #[ty_sl_fathomref01_File, ty_sl_fathomref01_File] ty_sl_fathomref01_File #[(.slice none 0 0), (.slice (slA x.a x.c 0 3) (i.toNat - 0) (x.c - 0))]) H fun (l : Sl) H1 => optK d fun a_1 => ld cSl H1 (a_1.add 0) fun (x_1 : Sl) => (0 ≤ (IntKind.i64.wrap (i + (1 : Int))) ∧ (IntKind.i64.wrap (i + (1 : Int))) ≤ (x_1.n : Int)) ∧ doT cSl Tryz.prog (Builtin.append_ #[ty_sl_fathomref01_File, ty_sl_fathomref01_File] ty_sl_fathomref01_File #[l.v, (.slice (slA x_1.a x_1.c ((IntKind.i64.wrap (i + (1 : Int))).toNat) 3) (x_1.n - ((IntKind.i64.wrap (i + (1 : Int))).toNat)) (x_1.c - ((IntKind.i64.wrap (i + (1 : Int))).toNat)))]) H1 fun (l_1 : Sl) H2 => optK d fun a_2 => st H2 (a_2.add 0) l_1.v fun H3 => R () H3

theorem fathomref01_Disk_drop.of {d : Option Addr} {i : Int} {H : Heap} {R : Unit → Heap → Prop} (h : fathomref01_Disk_drop.vc d i H R) : fathomref01_Disk_drop.sp d i H R :=
  specT_of_vc prog_ng prog_mixed (c := (cTup [])) (A := []) (args := [(.pointer d), (.int .i64 i)]) (Eq.mpr (by kernel_rfl : vcFT (cTup []) Tryz.prog fathomref01_Disk_drop.no [] [(.pointer d), (.int .i64 i)] H R = fathomref01_Disk_drop.vc d i H R) h)

/-- cmp.Less[int] -/
def cmp_Less_int.vc (x : Int) (y : Int) (H : Heap) (R : Bool → Heap → Prop) : Prop :=
  cmp_isNaN_int.sp x H fun (r : Bool) H1 => br r (cmp_isNaN_int.sp y H1 fun (r_1 : Bool) H2 => R ((!r_1) || (decide (x < y))) H2) (R (decide (x < y)) H1)

theorem cmp_Less_int.of {x : Int} {y : Int} {H : Heap} {R : Bool → Heap → Prop} (h : cmp_Less_int.vc x y H R) : cmp_Less_int.sp x y H R :=
  specT_of_vc prog_ng prog_mixed (c := cBool) (A := []) (args := [(.int .i64 x), (.int .i64 y)]) (Eq.mpr (by kernel_rfl : vcFT cBool Tryz.prog cmp_Less_int.no [] [(.int .i64 x), (.int .i64 y)] H R = cmp_Less_int.vc x y H R) h)

/-- slices.isNaN[int] -/
def slices_isNaN_int.vc (x : Int) (H : Heap) (R : Bool → Heap → Prop) : Prop :=
  R (x != x) H

theorem slices_isNaN_int.of {x : Int} {H : Heap} {R : Bool → Heap → Prop} (h : slices_isNaN_int.vc x H R) : slices_isNaN_int.sp x H R :=
  specT_of_vc prog_ng prog_mixed (c := cBool) (A := []) (args := [(.int .i64 x)]) (Eq.mpr (by kernel_rfl : vcFT cBool Tryz.prog slices_isNaN_int.no [] [(.int .i64 x)] H R = slices_isNaN_int.vc x H R) h)

/-- slices.AppendSeq[[]string,string] -/
def slices_AppendSeq_sl_string_string.vc (s : Sl) (seq : Value) (H : Heap) (R : Sl → Heap → Prop) : Prop :=
  newC H #[s.v] ty_sl_string fun p H1 => RangeVC Tryz.prog seq H1 (fun l rec vs H2 KK => onSome (Cods.dec [cStr] vs) fun (z : ByteArray) => H2[l]? = some (.loop (rec .ready none)) ∧ ld cSl (H2.setIfInBounds l (.loop (rec .busy none))) p fun (x : Sl) => newC (H2.setIfInBounds l (.loop (rec .busy none))) #[(.string z)] ty_string fun p_1 H3 => doT cSl Tryz.prog (Builtin.append_ #[ty_sl_string, ty_sl_string] ty_sl_string #[x.v, (.slice (some p_1) 1 1)]) H3 fun (s_1 : Sl) H4 => st H4 p s_1.v fun H5 => H5[l]? = some (.loop (rec .busy none)) ∧ KK true (H5.setIfInBounds l (.loop (rec .ready none)))) (fun r H6 => ld cSl H6 p fun (x_1 : Sl) => H6[r]? = some (.deferred (some [])) ∧ R x_1 (H6.setIfInBounds r (.deferred none))) (fun i r H6 => bif Nat.beq i 0 then ld cSl H6 p fun (x_2 : Sl) => H6[r]? = some (.deferred (some [])) ∧ R x_2 (H6.setIfInBounds r (.deferred none)) else False) (fun r H6 => H6[r]? = some (.deferred (some [])) ∧ R (Sl.mk none 0 0) (H6.setIfInBounds r (.deferred none)))

theorem slices_AppendSeq_sl_string_string.of {s : Sl} {seq : Value} {H : Heap} {R : Sl → Heap → Prop} (h : slices_AppendSeq_sl_string_string.vc s seq H R) : slices_AppendSeq_sl_string_string.sp s seq H R :=
  specT_of_vc prog_ng prog_mixed (c := cSl) (A := [(200003, [(7, cStr)])]) (args := [s.v, seq]) (Eq.mpr (by kernel_rfl : vcFT cSl Tryz.prog slices_AppendSeq_sl_string_string.no [(200003, [(7, cStr)])] [s.v, seq] H R = slices_AppendSeq_sl_string_string.vc s seq H R) h)

/-- cmp.isNaN[int] -/
def cmp_isNaN_int.vc (x : Int) (H : Heap) (R : Bool → Heap → Prop) : Prop :=
  R (x != x) H

theorem cmp_isNaN_int.of {x : Int} {H : Heap} {R : Bool → Heap → Prop} (h : cmp_isNaN_int.vc x H R) : cmp_isNaN_int.sp x H R :=
  specT_of_vc prog_ng prog_mixed (c := cBool) (A := []) (args := [(.int .i64 x)]) (Eq.mpr (by kernel_rfl : vcFT cBool Tryz.prog cmp_isNaN_int.no [] [(.int .i64 x)] H R = cmp_isNaN_int.vc x H R) h)

end Go.Proofs.YtnmaojkkfbajcaaGreat
