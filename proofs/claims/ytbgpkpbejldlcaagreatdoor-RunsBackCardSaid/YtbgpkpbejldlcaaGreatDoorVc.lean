/-
  Written by wip/tools/gen.py: what the walk of each function asks, in plain form, and that it is enough.
-/
import Derived.Test.YtbgpkpbejldlcaaGreatDoorFxf
import Derived.Test.YtbgpkpbejldlcaaGreatDoorProg
import Derived.KernelRfl
namespace Go.Proofs.YtbgpkpbejldlcaaGreatDoor
set_option maxRecDepth 100000

theorem prog_mixed : Tryz.prog.follows .mixedOrders = true := by kernel_rfl
theorem prog_ngB : (Tryz.prog.funcs.toList.all fun fn => !(fn.name == "runtime.NumGoroutine")) = true := by kernel_rfl
theorem prog_ng : NoNG Tryz.prog := by
  intro f fn hf
  have h1 := List.all_eq_true.1 prog_ngB fn (by
    have := Array.getElem?_eq_some_iff.1 hf
    obtain ⟨h, e⟩ := this
    rw [← e]; simp)
  simpa using h1

@[reducible] def ty_ : TypeId := 0
@[reducible] def ty_int : TypeId := 3
@[reducible] def ty_uint8 : TypeId := 5
@[reducible] def ty_string : TypeId := 9
@[reducible] def ty_sl_uint64 : TypeId := 22
@[reducible] def ty_sl_sl_uint64 : TypeId := 24
@[reducible] def ty_sl_int : TypeId := 27
@[reducible] def ty_api_Errno : TypeId := 31
@[reducible] def ty_ptr_runs_Reader : TypeId := 43
@[reducible] def ty_uint64 : TypeId := 49
@[reducible] def ty_maparr_string_ptr_disk_file : TypeId := 64
@[reducible] def ty_disk_crash : TypeId := 66
@[reducible] def ty_disk_Disk : TypeId := 68
@[reducible] def ty_maparr_pool_spot_ptr_pool_frame : TypeId := 69
@[reducible] def ty_maparr_int_ptr_pool_frame : TypeId := 70
@[reducible] def ty_pool_Pool : TypeId := 72
@[reducible] def ty_runs_base : TypeId := 74
@[reducible] def ty_sl_uint8 : TypeId := 79
@[reducible] def ty_runs_Writer : TypeId := 81
@[reducible] def ty_runs_Reader : TypeId := 90
@[reducible] def ty_sl_disk_sheet : TypeId := 102
@[reducible] def ty_sl_disk_mark : TypeId := 103
@[reducible] def ty_disk_file : TypeId := 105
@[reducible] def ty_arr_512_uint8 : TypeId := 106
@[reducible] def ty_disk_sheet : TypeId := 107
@[reducible] def ty_disk_mark : TypeId := 109
@[reducible] def ty_pool_spot : TypeId := 118
@[reducible] def ty_ptr_pool_frame : TypeId := 119
@[reducible] def ty_pool_frame : TypeId := 121
@[reducible] def ty_row_word : TypeId := 153
@[reducible] def ty_sl_ptr_pool_frame : TypeId := 161

@[reducible] def fathomlaw07_RunsPages.no : FuncId := 3
@[reducible] def fathomlaw07_RunsNone.no : FuncId := 4
@[reducible] def fathomlaw07_RunsBack.no : FuncId := 5
@[reducible] def fathomkit_Pick.no : FuncId := 8
@[reducible] def fathomlaw07_rising.no : FuncId := 9
@[reducible] def row_Room.no : FuncId := 10
@[reducible] def disk_New.no : FuncId := 11
@[reducible] def pool_New.no : FuncId := 12
@[reducible] def runs_Make.no : FuncId := 13
@[reducible] def runs_Writer_Add.no : FuncId := 14
@[reducible] def runs_Writer_Close.no : FuncId := 15
@[reducible] def disk_Disk_Used.no : FuncId := 16
@[reducible] def fathomlaw07_works.no : FuncId := 17
@[reducible] def runs_Reader_Next.no : FuncId := 18
@[reducible] def runs_Open.no : FuncId := 19
@[reducible] def runs_Reader_Close.no : FuncId := 20
@[reducible] def runs_Reader_Rows.no : FuncId := 21
@[reducible] def runs_Reader_Seek.no : FuncId := 22
@[reducible] def disk_Disk_Crash.no : FuncId := 23
@[reducible] def disk_Disk_Create.no : FuncId := 24
@[reducible] def disk_Disk_Restart.no : FuncId := 25
@[reducible] def fathomlaw07_reads.no : FuncId := 26
@[reducible] def row_Cmp.no : FuncId := 27
@[reducible] def pool_Pool_Pinned.no : FuncId := 28
@[reducible] def row_size.no : FuncId := 34
@[reducible] def runs_based.no : FuncId := 35
@[reducible] def pool_Pool_Disk.no : FuncId := 36
@[reducible] def runs_base_put.no : FuncId := 37
@[reducible] def runs_base_ready.no : FuncId := 38
@[reducible] def row_Put.no : FuncId := 39
@[reducible] def slices_Clone_sl_uint64_uint64.no : FuncId := 40
@[reducible] def runs_Writer_out.no : FuncId := 41
@[reducible] def pool_Pool_Pin.no : FuncId := 42
@[reducible] def pool_Pool_Put.no : FuncId := 43
@[reducible] def pool_Pool_Unpin.no : FuncId := 44
@[reducible] def pool_Pool_Flush.no : FuncId := 45
@[reducible] def runs_base_broke.no : FuncId := 46
@[reducible] def fathomref06_Cmp.no : FuncId := 47
@[reducible] def runs_Reader_load.no : FuncId := 48
@[reducible] def runs_base_look.no : FuncId := 49
@[reducible] def disk_Disk_Len.no : FuncId := 50
@[reducible] def row_Get.no : FuncId := 51
@[reducible] def runs_base_pages.no : FuncId := 52
@[reducible] def sort_Search.no : FuncId := 53
@[reducible] def runs_Reader_Seek_c1.no : FuncId := 54
@[reducible] def slices_BinarySearchFunc_sl_sl_uint64_sl_uint64_sl_uint64.no : FuncId := 55
@[reducible] def disk_Disk_ready.no : FuncId := 56
@[reducible] def disk_named.no : FuncId := 57
@[reducible] def disk_Disk_change.no : FuncId := 58
@[reducible] def slices_Sort_sl_int_int.no : FuncId := 59
@[reducible] def slices_Clone_sl_disk_sheet_disk_sheet.no : FuncId := 60
@[reducible] def slices_BinarySearch_sl_int_int.no : FuncId := 61
@[reducible] def disk_put.no : FuncId := 62
@[reducible] def fathomkit_SameRow.no : FuncId := 63
@[reducible] def slices_CompareFunc_sl_uint64_sl_uint64_uint64_uint64.no : FuncId := 64
@[reducible] def cmp_Compare_uint64.no : FuncId := 65
@[reducible] def disk_Disk_Read.no : FuncId := 87
@[reducible] def pool_Pool_Fresh.no : FuncId := 89
@[reducible] def row_word_of.no : FuncId := 90
@[reducible] def pool_Pool_ready.no : FuncId := 91
@[reducible] def pool_Pool_pin.no : FuncId := 92
@[reducible] def pool_Pool_load.no : FuncId := 93
@[reducible] def pool_Pool_met.no : FuncId := 94
@[reducible] def pool_Pool_take.no : FuncId := 95
@[reducible] def pool_Pool_held.no : FuncId := 96
@[reducible] def slices_Clone_sl_byte_byte.no : FuncId := 97
@[reducible] def pool_Pool_of.no : FuncId := 98
@[reducible] def pool_Pool_write.no : FuncId := 99
@[reducible] def disk_Disk_Sync.no : FuncId := 100
@[reducible] def pool_Pool_Get.no : FuncId := 101
@[reducible] def disk_Disk_open.no : FuncId := 102
@[reducible] def slices_Chunk_sl_byte_byte.no : FuncId := 103
@[reducible] def slices_pdqsortOrdered_int.no : FuncId := 104
@[reducible] def math_bits_Len.no : FuncId := 105
@[reducible] def cmp_Less_int.no : FuncId := 106
@[reducible] def slices_isNaN_int.no : FuncId := 107
@[reducible] def cmp_isNaN_uint64.no : FuncId := 108
@[reducible] def pool_Pool_room.no : FuncId := 130
@[reducible] def page_Open.no : FuncId := 131
@[reducible] def slices_DeleteFunc_sl_ptr_pool_frame_ptr_pool_frame.no : FuncId := 132
@[reducible] def slices_Collect_ptr_pool_frame.no : FuncId := 133
@[reducible] def maps_Values_map_pool_spot_ptr_pool_frame_pool_spot_ptr_pool_frame.no : FuncId := 134
@[reducible] def pool_Pool_of_c1.no : FuncId := 135
@[reducible] def slices_SortFunc_sl_ptr_pool_frame_ptr_pool_frame.no : FuncId := 136
@[reducible] def pool_Pool_of_c2.no : FuncId := 137
@[reducible] def page_Seal.no : FuncId := 138
@[reducible] def disk_Disk_Write.no : FuncId := 139
@[reducible] def slices_Chunk_sl_byte_byte_c1.no : FuncId := 140
@[reducible] def slices_insertionSortOrdered_int.no : FuncId := 141
@[reducible] def slices_heapSortOrdered_int.no : FuncId := 142
@[reducible] def slices_breakPatternsOrdered_int.no : FuncId := 143
@[reducible] def slices_choosePivotOrdered_int.no : FuncId := 144
@[reducible] def slices_reverseRangeOrdered_int.no : FuncId := 145
@[reducible] def slices_partialInsertionSortOrdered_int.no : FuncId := 146
@[reducible] def slices_partitionEqualOrdered_int.no : FuncId := 147
@[reducible] def slices_partitionOrdered_int.no : FuncId := 148
@[reducible] def math_bits_Len32.no : FuncId := 149
@[reducible] def math_bits_Len64.no : FuncId := 150
@[reducible] def cmp_isNaN_int.no : FuncId := 151
@[reducible] def pool_Pool_first.no : FuncId := 170
@[reducible] def pool_Pool_room_c1.no : FuncId := 171
@[reducible] def pool_Pool_room_c2.no : FuncId := 172
@[reducible] def page_Sum.no : FuncId := 173
@[reducible] def slices_ContainsFunc_sl_byte_byte.no : FuncId := 174
@[reducible] def page_Open_c1.no : FuncId := 175
@[reducible] def slices_IndexFunc_sl_ptr_pool_frame_ptr_pool_frame.no : FuncId := 176
@[reducible] def slices_AppendSeq_sl_ptr_pool_frame_ptr_pool_frame.no : FuncId := 177
@[reducible] def maps_Values_map_pool_spot_ptr_pool_frame_pool_spot_ptr_pool_frame_c1.no : FuncId := 178
@[reducible] def slices_pdqsortCmpFunc_ptr_pool_frame.no : FuncId := 179
@[reducible] def slices_siftDownOrdered_int.no : FuncId := 180
@[reducible] def slices_nextPowerOfTwo.no : FuncId := 181
@[reducible] def slices_xorshift_Next.no : FuncId := 182
@[reducible] def slices_medianAdjacentOrdered_int.no : FuncId := 183
@[reducible] def slices_medianOrdered_int.no : FuncId := 184
@[reducible] def slices_IndexFunc_sl_byte_byte.no : FuncId := 191
@[reducible] def slices_insertionSortCmpFunc_ptr_pool_frame.no : FuncId := 192
@[reducible] def slices_heapSortCmpFunc_ptr_pool_frame.no : FuncId := 193
@[reducible] def slices_breakPatternsCmpFunc_ptr_pool_frame.no : FuncId := 194
@[reducible] def slices_choosePivotCmpFunc_ptr_pool_frame.no : FuncId := 195
@[reducible] def slices_reverseRangeCmpFunc_ptr_pool_frame.no : FuncId := 196
@[reducible] def slices_partialInsertionSortCmpFunc_ptr_pool_frame.no : FuncId := 197
@[reducible] def slices_partitionEqualCmpFunc_ptr_pool_frame.no : FuncId := 198
@[reducible] def slices_partitionCmpFunc_ptr_pool_frame.no : FuncId := 199
@[reducible] def slices_order2Ordered_int.no : FuncId := 200
@[reducible] def slices_siftDownCmpFunc_ptr_pool_frame.no : FuncId := 212
@[reducible] def slices_medianAdjacentCmpFunc_ptr_pool_frame.no : FuncId := 213
@[reducible] def slices_medianCmpFunc_ptr_pool_frame.no : FuncId := 214
@[reducible] def slices_order2CmpFunc_ptr_pool_frame.no : FuncId := 219
/-- fathom/fathomlaw07.RunsPages -/
@[reducible] def fathomlaw07_RunsPages.sp (steps : Sl) (width : Int) (H : Heap) (R : Bool → Heap → Prop) : Prop := SpecT cBool Tryz.prog fathomlaw07_RunsPages.no #[steps.v, (.int .i64 width)] H R
/-- fathom/fathomlaw07.RunsNone -/
@[reducible] def fathomlaw07_RunsNone.sp (name : ByteArray) (width : Int) (l : Sl) (H : Heap) (R : Bool → Heap → Prop) : Prop := SpecT cBool Tryz.prog fathomlaw07_RunsNone.no #[(.string name), (.int .i64 width), l.v] H R
/-- fathom/fathomlaw07.RunsBack -/
@[reducible] def fathomlaw07_RunsBack.sp (steps : Sl) (width : Int) (frames : Int) (low : Sl) (keep : Int) (H : Heap) (R : Bool → Heap → Prop) : Prop := SpecT cBool Tryz.prog fathomlaw07_RunsBack.no #[steps.v, (.int .i64 width), (.int .i64 frames), low.v, (.int .u64 keep)] H R
/-- fathom/fathomkit.Pick -/
@[reducible] def fathomkit_Pick.sp (i : Int) (n : Int) (H : Heap) (R : Int → Heap → Prop) : Prop := SpecT (cInt .i64) Tryz.prog fathomkit_Pick.no #[(.int .i64 i), (.int .i64 n)] H R
/-- fathom/fathomlaw07.rising -/
@[reducible] def fathomlaw07_rising.sp (steps : Sl) (width : Int) (H : Heap) (R : Sl → Heap → Prop) : Prop := SpecT cSl Tryz.prog fathomlaw07_rising.no #[steps.v, (.int .i64 width)] H R
/-- fathom/row.Room -/
@[reducible] def row_Room.sp (width : Int) (H : Heap) (R : Int → Heap → Prop) : Prop := SpecT (cInt .i64) Tryz.prog row_Room.no #[(.int .i64 width)] H R
/-- fathom/disk.New -/
@[reducible] def disk_New.sp (quota : Int) (H : Heap) (R : Option Addr → Heap → Prop) : Prop := SpecT cPtr Tryz.prog disk_New.no #[(.int .i64 quota)] H R
/-- fathom/pool.New -/
@[reducible] def pool_New.sp (d : Option Addr) (frames : Int) (H : Heap) (R : (Option Addr × Int) → Heap → Prop) : Prop := SpecT (cTup [cPtr, (cInt .i64)]) Tryz.prog pool_New.no #[(.pointer d), (.int .i64 frames)] H R
/-- fathom/runs.Make -/
@[reducible] def runs_Make.sp (p : Option Addr) (name : ByteArray) (width : Int) (H : Heap) (R : (Option Addr × Int) → Heap → Prop) : Prop := SpecT (cTup [cPtr, (cInt .i64)]) Tryz.prog runs_Make.no #[(.pointer p), (.string name), (.int .i64 width)] H R
/-- (*fathom/runs.Writer).Add -/
@[reducible] def runs_Writer_Add.sp (w : Option Addr) (l : Sl) (H : Heap) (R : Int → Heap → Prop) : Prop := SpecT (cInt .i64) Tryz.prog runs_Writer_Add.no #[(.pointer w), l.v] H R
/-- (*fathom/runs.Writer).Close -/
@[reducible] def runs_Writer_Close.sp (w : Option Addr) (H : Heap) (R : (Int × Int) → Heap → Prop) : Prop := SpecT (cTup [(cInt .i64), (cInt .i64)]) Tryz.prog runs_Writer_Close.no #[(.pointer w)] H R
/-- (*fathom/disk.Disk).Used -/
@[reducible] def disk_Disk_Used.sp (d : Option Addr) (H : Heap) (R : Int → Heap → Prop) : Prop := SpecT (cInt .i64) Tryz.prog disk_Disk_Used.no #[(.pointer d)] H R
/-- fathom/fathomlaw07.works -/
@[reducible] def fathomlaw07_works.sp  (H : Heap) (R : Bool → Heap → Prop) : Prop := SpecT cBool Tryz.prog fathomlaw07_works.no #[] H R
/-- (*fathom/runs.Reader).Next -/
@[reducible] def runs_Reader_Next.sp (r : Option Addr) (H : Heap) (R : (Sl × Bool × Int) → Heap → Prop) : Prop := SpecT (cTup [cSl, cBool, (cInt .i64)]) Tryz.prog runs_Reader_Next.no #[(.pointer r)] H R
/-- fathom/runs.Open -/
@[reducible] def runs_Open.sp (p : Option Addr) (name : ByteArray) (width : Int) (H : Heap) (R : (Option Addr × Int) → Heap → Prop) : Prop := SpecT (cTup [cPtr, (cInt .i64)]) Tryz.prog runs_Open.no #[(.pointer p), (.string name), (.int .i64 width)] H R
/-- (*fathom/runs.Reader).Close -/
@[reducible] def runs_Reader_Close.sp (r : Option Addr) (H : Heap) (R : Unit → Heap → Prop) : Prop := SpecT (cTup []) Tryz.prog runs_Reader_Close.no #[(.pointer r)] H R
/-- (*fathom/runs.Reader).Rows -/
@[reducible] def runs_Reader_Rows.sp (r : Option Addr) (H : Heap) (R : Int → Heap → Prop) : Prop := SpecT (cInt .i64) Tryz.prog runs_Reader_Rows.no #[(.pointer r)] H R
/-- (*fathom/runs.Reader).Seek -/
@[reducible] def runs_Reader_Seek.sp (r : Option Addr) (low : Sl) (H : Heap) (R : Int → Heap → Prop) : Prop := SpecT (cInt .i64) Tryz.prog runs_Reader_Seek.no #[(.pointer r), low.v] H R
/-- (*fathom/disk.Disk).Crash -/
@[reducible] def disk_Disk_Crash.sp (d : Option Addr) (p : Int) (keep : Int) (H : Heap) (R : Unit → Heap → Prop) : Prop := SpecT (cTup []) Tryz.prog disk_Disk_Crash.no #[(.pointer d), (.int .i64 p), (.int .u64 keep)] H R
/-- (*fathom/disk.Disk).Create -/
@[reducible] def disk_Disk_Create.sp (d : Option Addr) (name : ByteArray) (H : Heap) (R : Int → Heap → Prop) : Prop := SpecT (cInt .i64) Tryz.prog disk_Disk_Create.no #[(.pointer d), (.string name)] H R
/-- (*fathom/disk.Disk).Restart -/
@[reducible] def disk_Disk_Restart.sp (d : Option Addr) (H : Heap) (R : Unit → Heap → Prop) : Prop := SpecT (cTup []) Tryz.prog disk_Disk_Restart.no #[(.pointer d)] H R
/-- fathom/fathomlaw07.reads -/
@[reducible] def fathomlaw07_reads.sp (r : Option Addr) (rows : Sl) (H : Heap) (R : Bool → Heap → Prop) : Prop := SpecT cBool Tryz.prog fathomlaw07_reads.no #[(.pointer r), rows.v] H R
/-- fathom/row.Cmp -/
@[reducible] def row_Cmp.sp (a : Sl) (b : Sl) (H : Heap) (R : Int → Heap → Prop) : Prop := SpecT (cInt .i64) Tryz.prog row_Cmp.no #[a.v, b.v] H R
/-- (*fathom/pool.Pool).Pinned -/
@[reducible] def pool_Pool_Pinned.sp (p : Option Addr) (H : Heap) (R : Int → Heap → Prop) : Prop := SpecT (cInt .i64) Tryz.prog pool_Pool_Pinned.no #[(.pointer p)] H R
/-- fathom/row.size -/
@[reducible] def row_size.sp (width : Int) (H : Heap) (R : Int → Heap → Prop) : Prop := SpecT (cInt .i64) Tryz.prog row_size.no #[(.int .i64 width)] H R
/-- fathom/runs.based -/
@[reducible] def runs_based.sp (p : Option Addr) (name : ByteArray) (width : Int) (H : Heap) (R : ((Option Addr × ByteArray × Int × Int × Int × Bool) × Int) → Heap → Prop) : Prop := SpecT (cTup [(cAgg [cPtr, cStr, (cInt .i64), (cInt .i64), (cInt .i64), cBool]), (cInt .i64)]) Tryz.prog runs_based.no #[(.pointer p), (.string name), (.int .i64 width)] H R
/-- (*fathom/pool.Pool).Disk -/
@[reducible] def pool_Pool_Disk.sp (p : Option Addr) (H : Heap) (R : Option Addr → Heap → Prop) : Prop := SpecT cPtr Tryz.prog pool_Pool_Disk.no #[(.pointer p)] H R
/-- (*fathom/runs.base).put -/
@[reducible] def runs_base_put.sp (b : Option Addr) (kind : Int) (p : Sl) (H : Heap) (R : Int → Heap → Prop) : Prop := SpecT (cInt .i64) Tryz.prog runs_base_put.no #[(.pointer b), (.int .u8 kind), p.v] H R
/-- (*fathom/runs.base).ready -/
@[reducible] def runs_base_ready.sp (b : Option Addr) (H : Heap) (R : Int → Heap → Prop) : Prop := SpecT (cInt .i64) Tryz.prog runs_base_ready.no #[(.pointer b)] H R
/-- fathom/row.Put -/
@[reducible] def row_Put.sp (l : Sl) (H : Heap) (R : Sl → Heap → Prop) : Prop := SpecT cSl Tryz.prog row_Put.no #[l.v] H R
/-- slices.Clone[[]uint64,uint64] -/
@[reducible] def slices_Clone_sl_uint64_uint64.sp (s : Sl) (H : Heap) (R : Sl → Heap → Prop) : Prop := SpecT cSl Tryz.prog slices_Clone_sl_uint64_uint64.no #[s.v] H R
/-- (*fathom/runs.Writer).out -/
@[reducible] def runs_Writer_out.sp (w : Option Addr) (H : Heap) (R : Int → Heap → Prop) : Prop := SpecT (cInt .i64) Tryz.prog runs_Writer_out.no #[(.pointer w)] H R
/-- (*fathom/pool.Pool).Pin -/
@[reducible] def pool_Pool_Pin.sp (p : Option Addr) (name : ByteArray) (page : Int) (H : Heap) (R : (Int × Int) → Heap → Prop) : Prop := SpecT (cTup [(cInt .i64), (cInt .i64)]) Tryz.prog pool_Pool_Pin.no #[(.pointer p), (.string name), (.int .i64 page)] H R
/-- (*fathom/pool.Pool).Put -/
@[reducible] def pool_Pool_Put.sp (p : Option Addr) (h : Int) (kind : Int) (b : Sl) (H : Heap) (R : Int → Heap → Prop) : Prop := SpecT (cInt .i64) Tryz.prog pool_Pool_Put.no #[(.pointer p), (.int .i64 h), (.int .u8 kind), b.v] H R
/-- (*fathom/pool.Pool).Unpin -/
@[reducible] def pool_Pool_Unpin.sp (p : Option Addr) (h : Int) (H : Heap) (R : Int → Heap → Prop) : Prop := SpecT (cInt .i64) Tryz.prog pool_Pool_Unpin.no #[(.pointer p), (.int .i64 h)] H R
/-- (*fathom/pool.Pool).Flush -/
@[reducible] def pool_Pool_Flush.sp (p : Option Addr) (name : ByteArray) (H : Heap) (R : Int → Heap → Prop) : Prop := SpecT (cInt .i64) Tryz.prog pool_Pool_Flush.no #[(.pointer p), (.string name)] H R
/-- (*fathom/runs.base).broke -/
@[reducible] def runs_base_broke.sp (b : Option Addr) (e : Int) (H : Heap) (R : Int → Heap → Prop) : Prop := SpecT (cInt .i64) Tryz.prog runs_base_broke.no #[(.pointer b), (.int .i64 e)] H R
/-- fathom/fathomref06.Cmp -/
@[reducible] def fathomref06_Cmp.sp (a : Sl) (b : Sl) (H : Heap) (R : Int → Heap → Prop) : Prop := SpecT (cInt .i64) Tryz.prog fathomref06_Cmp.no #[a.v, b.v] H R
/-- (*fathom/runs.Reader).load -/
@[reducible] def runs_Reader_load.sp (r : Option Addr) (k : Int) (H : Heap) (R : Int → Heap → Prop) : Prop := SpecT (cInt .i64) Tryz.prog runs_Reader_load.no #[(.pointer r), (.int .i64 k)] H R
/-- (*fathom/runs.base).look -/
@[reducible] def runs_base_look.sp (b : Option Addr) (page : Int) (H : Heap) (R : (Int × Sl × Int) → Heap → Prop) : Prop := SpecT (cTup [(cInt .u8), cSl, (cInt .i64)]) Tryz.prog runs_base_look.no #[(.pointer b), (.int .i64 page)] H R
/-- (*fathom/disk.Disk).Len -/
@[reducible] def disk_Disk_Len.sp (d : Option Addr) (name : ByteArray) (H : Heap) (R : (Int × Int) → Heap → Prop) : Prop := SpecT (cTup [(cInt .i64), (cInt .i64)]) Tryz.prog disk_Disk_Len.no #[(.pointer d), (.string name)] H R
/-- fathom/row.Get -/
@[reducible] def row_Get.sp (b : Sl) (width : Int) (H : Heap) (R : (Sl × Int) → Heap → Prop) : Prop := SpecT (cTup [cSl, (cInt .i64)]) Tryz.prog row_Get.no #[b.v, (.int .i64 width)] H R
/-- (*fathom/runs.base).pages -/
@[reducible] def runs_base_pages.sp (b : Option Addr) (n : Int) (H : Heap) (R : Int → Heap → Prop) : Prop := SpecT (cInt .i64) Tryz.prog runs_base_pages.no #[(.pointer b), (.int .i64 n)] H R
/-- sort.Search -/
@[reducible] def sort_Search.sp (n : Int) (cap : Addr) (cap1 : Addr) (H : Heap) (R : Int → Heap → Prop) : Prop := SpecT (cInt .i64) Tryz.prog sort_Search.no #[(.int .i64 n), (.func (.func runs_Reader_Seek_c1.no) #[] #[(.pointer (some cap)), (.pointer (some cap1))])] H R
/-- (*fathom/runs.Reader).Seek$1 -/
@[reducible] def runs_Reader_Seek_c1.sp (i : Int) (cap : Addr) (cap1 : Addr) (H : Heap) (R : Bool → Heap → Prop) : Prop := SpecT cBool Tryz.prog runs_Reader_Seek_c1.no #[(.int .i64 i), (.pointer (some cap)), (.pointer (some cap1))] H R
/-- slices.BinarySearchFunc[[][]uint64,[]uint64,[]uint64] -/
@[reducible] def slices_BinarySearchFunc_sl_sl_uint64_sl_uint64_sl_uint64.sp (x : Sl) (target : Sl) (H : Heap) (R : (Int × Bool) → Heap → Prop) : Prop := SpecT (cTup [(cInt .i64), cBool]) Tryz.prog slices_BinarySearchFunc_sl_sl_uint64_sl_uint64_sl_uint64.no #[x.v, target.v, (.func (.func row_Cmp.no) #[] #[])] H R
/-- (*fathom/disk.Disk).ready -/
@[reducible] def disk_Disk_ready.sp (d : Option Addr) (H : Heap) (R : Int → Heap → Prop) : Prop := SpecT (cInt .i64) Tryz.prog disk_Disk_ready.no #[(.pointer d)] H R
/-- fathom/disk.named -/
@[reducible] def disk_named.sp (s : ByteArray) (H : Heap) (R : Bool → Heap → Prop) : Prop := SpecT cBool Tryz.prog disk_named.no #[(.string s)] H R
/-- (*fathom/disk.Disk).change -/
@[reducible] def disk_Disk_change.sp (d : Option Addr) (H : Heap) (R : Int → Heap → Prop) : Prop := SpecT (cInt .i64) Tryz.prog disk_Disk_change.no #[(.pointer d)] H R
/-- slices.Sort[[]int,int] -/
@[reducible] def slices_Sort_sl_int_int.sp (x : Sl) (H : Heap) (R : Unit → Heap → Prop) : Prop := SpecT (cTup []) Tryz.prog slices_Sort_sl_int_int.no #[x.v] H R
/-- slices.Clone[[]fathom/disk.sheet,fathom/disk.sheet] -/
@[reducible] def slices_Clone_sl_disk_sheet_disk_sheet.sp (s : Sl) (H : Heap) (R : Sl → Heap → Prop) : Prop := SpecT cSl Tryz.prog slices_Clone_sl_disk_sheet_disk_sheet.no #[s.v] H R
/-- slices.BinarySearch[[]int,int] -/
@[reducible] def slices_BinarySearch_sl_int_int.sp (x : Sl) (target : Int) (H : Heap) (R : (Int × Bool) → Heap → Prop) : Prop := SpecT (cTup [(cInt .i64), cBool]) Tryz.prog slices_BinarySearch_sl_int_int.no #[x.v, (.int .i64 target)] H R
/-- fathom/disk.put -/
@[reducible] def disk_put.sp (l : Sl) (page : Int) (b : Array Value) (H : Heap) (R : Sl → Heap → Prop) : Prop := SpecT cSl Tryz.prog disk_put.no #[l.v, (.int .i64 page), (.agg b)] H R
/-- fathom/fathomkit.SameRow -/
@[reducible] def fathomkit_SameRow.sp (a : Sl) (b : Sl) (H : Heap) (R : Bool → Heap → Prop) : Prop := SpecT cBool Tryz.prog fathomkit_SameRow.no #[a.v, b.v] H R
/-- slices.CompareFunc[[]uint64,[]uint64,uint64,uint64] -/
@[reducible] def slices_CompareFunc_sl_uint64_sl_uint64_uint64_uint64.sp (s1 : Sl) (s2 : Sl) (H : Heap) (R : Int → Heap → Prop) : Prop := SpecT (cInt .i64) Tryz.prog slices_CompareFunc_sl_uint64_sl_uint64_uint64_uint64.no #[s1.v, s2.v, (.func (.func cmp_Compare_uint64.no) #[] #[])] H R
/-- cmp.Compare[uint64] -/
@[reducible] def cmp_Compare_uint64.sp (x : Int) (y : Int) (H : Heap) (R : Int → Heap → Prop) : Prop := SpecT (cInt .i64) Tryz.prog cmp_Compare_uint64.no #[(.int .u64 x), (.int .u64 y)] H R
/-- (*fathom/disk.Disk).Read -/
@[reducible] def disk_Disk_Read.sp (d : Option Addr) (name : ByteArray) (page : Int) (H : Heap) (R : (Sl × Int) → Heap → Prop) : Prop := SpecT (cTup [cSl, (cInt .i64)]) Tryz.prog disk_Disk_Read.no #[(.pointer d), (.string name), (.int .i64 page)] H R
/-- (*fathom/pool.Pool).Fresh -/
@[reducible] def pool_Pool_Fresh.sp (p : Option Addr) (name : ByteArray) (H : Heap) (R : (Int × Int × Int) → Heap → Prop) : Prop := SpecT (cTup [(cInt .i64), (cInt .i64), (cInt .i64)]) Tryz.prog pool_Pool_Fresh.no #[(.pointer p), (.string name)] H R
/-- (fathom/row.word).of -/
@[reducible] def row_word_of.sp (b : Array Value) (n : Int) (H : Heap) (R : Array Value → Heap → Prop) : Prop := SpecT cArr Tryz.prog row_word_of.no #[(.agg b), (.int .u64 n)] H R
/-- (*fathom/pool.Pool).ready -/
@[reducible] def pool_Pool_ready.sp (p : Option Addr) (H : Heap) (R : Int → Heap → Prop) : Prop := SpecT (cInt .i64) Tryz.prog pool_Pool_ready.no #[(.pointer p)] H R
/-- (*fathom/pool.Pool).pin -/
@[reducible] def pool_Pool_pin.sp (p : Option Addr) (f : Option Addr) (H : Heap) (R : Int → Heap → Prop) : Prop := SpecT (cInt .i64) Tryz.prog pool_Pool_pin.no #[(.pointer p), (.pointer f)] H R
/-- (*fathom/pool.Pool).load -/
@[reducible] def pool_Pool_load.sp (p : Option Addr) (at_ : ByteArray) (at_1 : Int) (H : Heap) (R : (Option Addr × Int) → Heap → Prop) : Prop := SpecT (cTup [cPtr, (cInt .i64)]) Tryz.prog pool_Pool_load.no #[(.pointer p), (.agg #[(.string at_), (.int .i64 at_1)])] H R
/-- (*fathom/pool.Pool).met -/
@[reducible] def pool_Pool_met.sp (p : Option Addr) (e : Int) (H : Heap) (R : Int → Heap → Prop) : Prop := SpecT (cInt .i64) Tryz.prog pool_Pool_met.no #[(.pointer p), (.int .i64 e)] H R
/-- (*fathom/pool.Pool).take -/
@[reducible] def pool_Pool_take.sp (p : Option Addr) (f : Option Addr) (H : Heap) (R : Int → Heap → Prop) : Prop := SpecT (cInt .i64) Tryz.prog pool_Pool_take.no #[(.pointer p), (.pointer f)] H R
/-- (*fathom/pool.Pool).held -/
@[reducible] def pool_Pool_held.sp (p : Option Addr) (h : Int) (H : Heap) (R : (Option Addr × Int) → Heap → Prop) : Prop := SpecT (cTup [cPtr, (cInt .i64)]) Tryz.prog pool_Pool_held.no #[(.pointer p), (.int .i64 h)] H R
/-- slices.Clone[[]byte,byte] -/
@[reducible] def slices_Clone_sl_byte_byte.sp (s : Sl) (H : Heap) (R : Sl → Heap → Prop) : Prop := SpecT cSl Tryz.prog slices_Clone_sl_byte_byte.no #[s.v] H R
/-- (*fathom/pool.Pool).of -/
@[reducible] def pool_Pool_of.sp (p : Option Addr) (name : ByteArray) (H : Heap) (R : Sl → Heap → Prop) : Prop := SpecT cSl Tryz.prog pool_Pool_of.no #[(.pointer p), (.string name)] H R
/-- (*fathom/pool.Pool).write -/
@[reducible] def pool_Pool_write.sp (p : Option Addr) (f : Option Addr) (H : Heap) (R : Int → Heap → Prop) : Prop := SpecT (cInt .i64) Tryz.prog pool_Pool_write.no #[(.pointer p), (.pointer f)] H R
/-- (*fathom/disk.Disk).Sync -/
@[reducible] def disk_Disk_Sync.sp (d : Option Addr) (name : ByteArray) (H : Heap) (R : Int → Heap → Prop) : Prop := SpecT (cInt .i64) Tryz.prog disk_Disk_Sync.no #[(.pointer d), (.string name)] H R
/-- (*fathom/pool.Pool).Get -/
@[reducible] def pool_Pool_Get.sp (p : Option Addr) (h : Int) (H : Heap) (R : (Int × Sl × Int) → Heap → Prop) : Prop := SpecT (cTup [(cInt .u8), cSl, (cInt .i64)]) Tryz.prog pool_Pool_Get.no #[(.pointer p), (.int .i64 h)] H R
/-- (*fathom/disk.Disk).open -/
@[reducible] def disk_Disk_open.sp (d : Option Addr) (name : ByteArray) (H : Heap) (R : (Option Addr × Int) → Heap → Prop) : Prop := SpecT (cTup [cPtr, (cInt .i64)]) Tryz.prog disk_Disk_open.no #[(.pointer d), (.string name)] H R
/-- slices.Chunk[[]byte,byte] -/
@[reducible] def slices_Chunk_sl_byte_byte.sp (s : Sl) (n : Int) (H : Heap) (R : Value → Heap → Prop) : Prop := SpecT cRaw Tryz.prog slices_Chunk_sl_byte_byte.no #[s.v, (.int .i64 n)] H R
/-- slices.pdqsortOrdered[int] -/
@[reducible] def slices_pdqsortOrdered_int.sp (data : Sl) (a : Int) (b : Int) (limit : Int) (H : Heap) (R : Unit → Heap → Prop) : Prop := SpecT (cTup []) Tryz.prog slices_pdqsortOrdered_int.no #[data.v, (.int .i64 a), (.int .i64 b), (.int .i64 limit)] H R
/-- math/bits.Len -/
@[reducible] def math_bits_Len.sp (x : Int) (H : Heap) (R : Int → Heap → Prop) : Prop := SpecT (cInt .i64) Tryz.prog math_bits_Len.no #[(.int .u64 x)] H R
/-- cmp.Less[int] -/
@[reducible] def cmp_Less_int.sp (x : Int) (y : Int) (H : Heap) (R : Bool → Heap → Prop) : Prop := SpecT cBool Tryz.prog cmp_Less_int.no #[(.int .i64 x), (.int .i64 y)] H R
/-- slices.isNaN[int] -/
@[reducible] def slices_isNaN_int.sp (x : Int) (H : Heap) (R : Bool → Heap → Prop) : Prop := SpecT cBool Tryz.prog slices_isNaN_int.no #[(.int .i64 x)] H R
/-- cmp.isNaN[uint64] -/
@[reducible] def cmp_isNaN_uint64.sp (x : Int) (H : Heap) (R : Bool → Heap → Prop) : Prop := SpecT cBool Tryz.prog cmp_isNaN_uint64.no #[(.int .u64 x)] H R
/-- (*fathom/pool.Pool).room -/
@[reducible] def pool_Pool_room.sp (p : Option Addr) (H : Heap) (R : Int → Heap → Prop) : Prop := SpecT (cInt .i64) Tryz.prog pool_Pool_room.no #[(.pointer p)] H R
/-- fathom/page.Open -/
@[reducible] def page_Open.sp (b : Sl) (H : Heap) (R : (Int × Sl × Int) → Heap → Prop) : Prop := SpecT (cTup [(cInt .u8), cSl, (cInt .i64)]) Tryz.prog page_Open.no #[b.v] H R
/-- slices.DeleteFunc[[]*fathom/pool.frame,*fathom/pool.frame] -/
@[reducible] def slices_DeleteFunc_sl_ptr_pool_frame_ptr_pool_frame.sp (s : Sl) (cap : Addr) (H : Heap) (R : Sl → Heap → Prop) : Prop := SpecT cSl Tryz.prog slices_DeleteFunc_sl_ptr_pool_frame_ptr_pool_frame.no #[s.v, (.func (.func pool_Pool_of_c1.no) #[] #[(.pointer (some cap))])] H R
/-- slices.Collect[*fathom/pool.frame] -/
@[reducible] def slices_Collect_ptr_pool_frame.sp (seq : Value) (H : Heap) (R : Sl → Heap → Prop) : Prop := SpecT cSl Tryz.prog slices_Collect_ptr_pool_frame.no #[seq] H R
/-- maps.Values[map[fathom/pool.spot]*fathom/pool.frame,fathom/pool.spot,*fathom/pool.frame] -/
@[reducible] def maps_Values_map_pool_spot_ptr_pool_frame_pool_spot_ptr_pool_frame.sp (m : Option Nat) (H : Heap) (R : Value → Heap → Prop) : Prop := SpecT cRaw Tryz.prog maps_Values_map_pool_spot_ptr_pool_frame_pool_spot_ptr_pool_frame.no #[(.map m)] H R
/-- (*fathom/pool.Pool).of$1 -/
@[reducible] def pool_Pool_of_c1.sp (f : Option Addr) (cap : Addr) (H : Heap) (R : Bool → Heap → Prop) : Prop := SpecT cBool Tryz.prog pool_Pool_of_c1.no #[(.pointer f), (.pointer (some cap))] H R
/-- slices.SortFunc[[]*fathom/pool.frame,*fathom/pool.frame] -/
@[reducible] def slices_SortFunc_sl_ptr_pool_frame_ptr_pool_frame.sp (x : Sl) (cmp : Value) (H : Heap) (R : Unit → Heap → Prop) : Prop := SpecT (cTup []) Tryz.prog slices_SortFunc_sl_ptr_pool_frame_ptr_pool_frame.no #[x.v, cmp] H R
/-- (*fathom/pool.Pool).of$2 -/
@[reducible] def pool_Pool_of_c2.sp (a : Option Addr) (b : Option Addr) (H : Heap) (R : Int → Heap → Prop) : Prop := SpecT (cInt .i64) Tryz.prog pool_Pool_of_c2.no #[(.pointer a), (.pointer b)] H R
/-- fathom/page.Seal -/
@[reducible] def page_Seal.sp (kind : Int) (b : Sl) (H : Heap) (R : (Sl × Int) → Heap → Prop) : Prop := SpecT (cTup [cSl, (cInt .i64)]) Tryz.prog page_Seal.no #[(.int .u8 kind), b.v] H R
/-- (*fathom/disk.Disk).Write -/
@[reducible] def disk_Disk_Write.sp (d : Option Addr) (name : ByteArray) (page : Int) (b : Sl) (H : Heap) (R : Int → Heap → Prop) : Prop := SpecT (cInt .i64) Tryz.prog disk_Disk_Write.no #[(.pointer d), (.string name), (.int .i64 page), b.v] H R
/-- slices.Chunk[[]byte,byte]$1 -/
@[reducible] def slices_Chunk_sl_byte_byte_c1.sp (l : Nat) (cap : Addr) (cap1 : Addr) (H : Heap) (R : Unit → Heap → Prop) : Prop := SpecT (cTup []) Tryz.prog slices_Chunk_sl_byte_byte_c1.no #[(.func (.yield l) #[] #[]), (.pointer (some cap)), (.pointer (some cap1))] H R
/-- slices.insertionSortOrdered[int] -/
@[reducible] def slices_insertionSortOrdered_int.sp (data : Sl) (a : Int) (b : Int) (H : Heap) (R : Unit → Heap → Prop) : Prop := SpecT (cTup []) Tryz.prog slices_insertionSortOrdered_int.no #[data.v, (.int .i64 a), (.int .i64 b)] H R
/-- slices.heapSortOrdered[int] -/
@[reducible] def slices_heapSortOrdered_int.sp (data : Sl) (a : Int) (b : Int) (H : Heap) (R : Unit → Heap → Prop) : Prop := SpecT (cTup []) Tryz.prog slices_heapSortOrdered_int.no #[data.v, (.int .i64 a), (.int .i64 b)] H R
/-- slices.breakPatternsOrdered[int] -/
@[reducible] def slices_breakPatternsOrdered_int.sp (data : Sl) (a : Int) (b : Int) (H : Heap) (R : Unit → Heap → Prop) : Prop := SpecT (cTup []) Tryz.prog slices_breakPatternsOrdered_int.no #[data.v, (.int .i64 a), (.int .i64 b)] H R
/-- slices.choosePivotOrdered[int] -/
@[reducible] def slices_choosePivotOrdered_int.sp (data : Sl) (a : Int) (b : Int) (H : Heap) (R : (Int × Int) → Heap → Prop) : Prop := SpecT (cTup [(cInt .i64), (cInt .i64)]) Tryz.prog slices_choosePivotOrdered_int.no #[data.v, (.int .i64 a), (.int .i64 b)] H R
/-- slices.reverseRangeOrdered[int] -/
@[reducible] def slices_reverseRangeOrdered_int.sp (data : Sl) (a : Int) (b : Int) (H : Heap) (R : Unit → Heap → Prop) : Prop := SpecT (cTup []) Tryz.prog slices_reverseRangeOrdered_int.no #[data.v, (.int .i64 a), (.int .i64 b)] H R
/-- slices.partialInsertionSortOrdered[int] -/
@[reducible] def slices_partialInsertionSortOrdered_int.sp (data : Sl) (a : Int) (b : Int) (H : Heap) (R : Bool → Heap → Prop) : Prop := SpecT cBool Tryz.prog slices_partialInsertionSortOrdered_int.no #[data.v, (.int .i64 a), (.int .i64 b)] H R
/-- slices.partitionEqualOrdered[int] -/
@[reducible] def slices_partitionEqualOrdered_int.sp (data : Sl) (a : Int) (b : Int) (pivot : Int) (H : Heap) (R : Int → Heap → Prop) : Prop := SpecT (cInt .i64) Tryz.prog slices_partitionEqualOrdered_int.no #[data.v, (.int .i64 a), (.int .i64 b), (.int .i64 pivot)] H R
/-- slices.partitionOrdered[int] -/
@[reducible] def slices_partitionOrdered_int.sp (data : Sl) (a : Int) (b : Int) (pivot : Int) (H : Heap) (R : (Int × Bool) → Heap → Prop) : Prop := SpecT (cTup [(cInt .i64), cBool]) Tryz.prog slices_partitionOrdered_int.no #[data.v, (.int .i64 a), (.int .i64 b), (.int .i64 pivot)] H R
/-- math/bits.Len32 -/
@[reducible] def math_bits_Len32.sp (x : Int) (H : Heap) (R : Int → Heap → Prop) : Prop := SpecT (cInt .i64) Tryz.prog math_bits_Len32.no #[(.int .u32 x)] H R
/-- math/bits.Len64 -/
@[reducible] def math_bits_Len64.sp (x : Int) (H : Heap) (R : Int → Heap → Prop) : Prop := SpecT (cInt .i64) Tryz.prog math_bits_Len64.no #[(.int .u64 x)] H R
/-- cmp.isNaN[int] -/
@[reducible] def cmp_isNaN_int.sp (x : Int) (H : Heap) (R : Bool → Heap → Prop) : Prop := SpecT cBool Tryz.prog cmp_isNaN_int.no #[(.int .i64 x)] H R
/-- (*fathom/pool.Pool).first -/
@[reducible] def pool_Pool_first.sp (p : Option Addr) (H : Heap) (R : Option Addr → Heap → Prop) : Prop := SpecT cPtr Tryz.prog pool_Pool_first.no #[(.pointer p), (.func (.func pool_Pool_room_c1.no) #[] #[]), (.func (.func pool_Pool_room_c2.no) #[] #[])] H R
/-- (*fathom/pool.Pool).room$1 -/
@[reducible] def pool_Pool_room_c1.sp (f : Option Addr) (H : Heap) (R : Bool → Heap → Prop) : Prop := SpecT cBool Tryz.prog pool_Pool_room_c1.no #[(.pointer f)] H R
/-- (*fathom/pool.Pool).room$2 -/
@[reducible] def pool_Pool_room_c2.sp (a : Option Addr) (b : Option Addr) (H : Heap) (R : Bool → Heap → Prop) : Prop := SpecT cBool Tryz.prog pool_Pool_room_c2.no #[(.pointer a), (.pointer b)] H R
/-- fathom/page.Sum -/
@[reducible] def page_Sum.sp (b : Sl) (H : Heap) (R : Int → Heap → Prop) : Prop := SpecT (cInt .u32) Tryz.prog page_Sum.no #[b.v] H R
/-- slices.ContainsFunc[[]byte,byte] -/
@[reducible] def slices_ContainsFunc_sl_byte_byte.sp (s : Sl) (H : Heap) (R : Bool → Heap → Prop) : Prop := SpecT cBool Tryz.prog slices_ContainsFunc_sl_byte_byte.no #[s.v, (.func (.func page_Open_c1.no) #[] #[])] H R
/-- fathom/page.Open$1 -/
@[reducible] def page_Open_c1.sp (c : Int) (H : Heap) (R : Bool → Heap → Prop) : Prop := SpecT cBool Tryz.prog page_Open_c1.no #[(.int .u8 c)] H R
/-- slices.IndexFunc[[]*fathom/pool.frame,*fathom/pool.frame] -/
@[reducible] def slices_IndexFunc_sl_ptr_pool_frame_ptr_pool_frame_v2.sp (s : Sl) (cap : Addr) (H : Heap) (R : Int → Heap → Prop) : Prop := SpecT (cInt .i64) Tryz.prog slices_IndexFunc_sl_ptr_pool_frame_ptr_pool_frame.no #[s.v, (.func (.func pool_Pool_of_c1.no) #[] #[(.pointer (some cap))])] H R
/-- slices.AppendSeq[[]*fathom/pool.frame,*fathom/pool.frame] -/
@[reducible] def slices_AppendSeq_sl_ptr_pool_frame_ptr_pool_frame.sp (s : Sl) (seq : Value) (H : Heap) (R : Sl → Heap → Prop) : Prop := SpecT cSl Tryz.prog slices_AppendSeq_sl_ptr_pool_frame_ptr_pool_frame.no #[s.v, seq] H R
/-- maps.Values[map[fathom/pool.spot]*fathom/pool.frame,fathom/pool.spot,*fathom/pool.frame]$1 -/
@[reducible] def maps_Values_map_pool_spot_ptr_pool_frame_pool_spot_ptr_pool_frame_c1.sp (l : Nat) (cap : Addr) (H : Heap) (R : Unit → Heap → Prop) : Prop := SpecT (cTup []) Tryz.prog maps_Values_map_pool_spot_ptr_pool_frame_pool_spot_ptr_pool_frame_c1.no #[(.func (.yield l) #[] #[]), (.pointer (some cap))] H R
/-- slices.pdqsortCmpFunc[*fathom/pool.frame] -/
@[reducible] def slices_pdqsortCmpFunc_ptr_pool_frame.sp (data : Sl) (a : Int) (b : Int) (limit : Int) (cmp : Value) (H : Heap) (R : Unit → Heap → Prop) : Prop := SpecT (cTup []) Tryz.prog slices_pdqsortCmpFunc_ptr_pool_frame.no #[data.v, (.int .i64 a), (.int .i64 b), (.int .i64 limit), cmp] H R
/-- slices.siftDownOrdered[int] -/
@[reducible] def slices_siftDownOrdered_int.sp (data : Sl) (lo : Int) (hi : Int) (first : Int) (H : Heap) (R : Unit → Heap → Prop) : Prop := SpecT (cTup []) Tryz.prog slices_siftDownOrdered_int.no #[data.v, (.int .i64 lo), (.int .i64 hi), (.int .i64 first)] H R
/-- slices.nextPowerOfTwo -/
@[reducible] def slices_nextPowerOfTwo.sp (length : Int) (H : Heap) (R : Int → Heap → Prop) : Prop := SpecT (cInt .u64) Tryz.prog slices_nextPowerOfTwo.no #[(.int .i64 length)] H R
/-- (*slices.xorshift).Next -/
@[reducible] def slices_xorshift_Next.sp (r : Option Addr) (H : Heap) (R : Int → Heap → Prop) : Prop := SpecT (cInt .u64) Tryz.prog slices_xorshift_Next.no #[(.pointer r)] H R
/-- slices.medianAdjacentOrdered[int] -/
@[reducible] def slices_medianAdjacentOrdered_int.sp (data : Sl) (a : Int) (swaps : Option Addr) (H : Heap) (R : Int → Heap → Prop) : Prop := SpecT (cInt .i64) Tryz.prog slices_medianAdjacentOrdered_int.no #[data.v, (.int .i64 a), (.pointer swaps)] H R
/-- slices.medianOrdered[int] -/
@[reducible] def slices_medianOrdered_int.sp (data : Sl) (a : Int) (b : Int) (c : Int) (swaps : Option Addr) (H : Heap) (R : Int → Heap → Prop) : Prop := SpecT (cInt .i64) Tryz.prog slices_medianOrdered_int.no #[data.v, (.int .i64 a), (.int .i64 b), (.int .i64 c), (.pointer swaps)] H R
/-- slices.IndexFunc[[]byte,byte] -/
@[reducible] def slices_IndexFunc_sl_byte_byte.sp (s : Sl) (H : Heap) (R : Int → Heap → Prop) : Prop := SpecT (cInt .i64) Tryz.prog slices_IndexFunc_sl_byte_byte.no #[s.v, (.func (.func page_Open_c1.no) #[] #[])] H R
/-- slices.insertionSortCmpFunc[*fathom/pool.frame] -/
@[reducible] def slices_insertionSortCmpFunc_ptr_pool_frame.sp (data : Sl) (a : Int) (b : Int) (cmp : Value) (H : Heap) (R : Unit → Heap → Prop) : Prop := SpecT (cTup []) Tryz.prog slices_insertionSortCmpFunc_ptr_pool_frame.no #[data.v, (.int .i64 a), (.int .i64 b), cmp] H R
/-- slices.heapSortCmpFunc[*fathom/pool.frame] -/
@[reducible] def slices_heapSortCmpFunc_ptr_pool_frame.sp (data : Sl) (a : Int) (b : Int) (cmp : Value) (H : Heap) (R : Unit → Heap → Prop) : Prop := SpecT (cTup []) Tryz.prog slices_heapSortCmpFunc_ptr_pool_frame.no #[data.v, (.int .i64 a), (.int .i64 b), cmp] H R
/-- slices.breakPatternsCmpFunc[*fathom/pool.frame] -/
@[reducible] def slices_breakPatternsCmpFunc_ptr_pool_frame.sp (data : Sl) (a : Int) (b : Int) (cmp : Value) (H : Heap) (R : Unit → Heap → Prop) : Prop := SpecT (cTup []) Tryz.prog slices_breakPatternsCmpFunc_ptr_pool_frame.no #[data.v, (.int .i64 a), (.int .i64 b), cmp] H R
/-- slices.choosePivotCmpFunc[*fathom/pool.frame] -/
@[reducible] def slices_choosePivotCmpFunc_ptr_pool_frame.sp (data : Sl) (a : Int) (b : Int) (cmp : Value) (H : Heap) (R : (Int × Int) → Heap → Prop) : Prop := SpecT (cTup [(cInt .i64), (cInt .i64)]) Tryz.prog slices_choosePivotCmpFunc_ptr_pool_frame.no #[data.v, (.int .i64 a), (.int .i64 b), cmp] H R
/-- slices.reverseRangeCmpFunc[*fathom/pool.frame] -/
@[reducible] def slices_reverseRangeCmpFunc_ptr_pool_frame.sp (data : Sl) (a : Int) (b : Int) (cmp : Value) (H : Heap) (R : Unit → Heap → Prop) : Prop := SpecT (cTup []) Tryz.prog slices_reverseRangeCmpFunc_ptr_pool_frame.no #[data.v, (.int .i64 a), (.int .i64 b), cmp] H R
/-- slices.partialInsertionSortCmpFunc[*fathom/pool.frame] -/
@[reducible] def slices_partialInsertionSortCmpFunc_ptr_pool_frame.sp (data : Sl) (a : Int) (b : Int) (cmp : Value) (H : Heap) (R : Bool → Heap → Prop) : Prop := SpecT cBool Tryz.prog slices_partialInsertionSortCmpFunc_ptr_pool_frame.no #[data.v, (.int .i64 a), (.int .i64 b), cmp] H R
/-- slices.partitionEqualCmpFunc[*fathom/pool.frame] -/
@[reducible] def slices_partitionEqualCmpFunc_ptr_pool_frame.sp (data : Sl) (a : Int) (b : Int) (pivot : Int) (cmp : Value) (H : Heap) (R : Int → Heap → Prop) : Prop := SpecT (cInt .i64) Tryz.prog slices_partitionEqualCmpFunc_ptr_pool_frame.no #[data.v, (.int .i64 a), (.int .i64 b), (.int .i64 pivot), cmp] H R
/-- slices.partitionCmpFunc[*fathom/pool.frame] -/
@[reducible] def slices_partitionCmpFunc_ptr_pool_frame.sp (data : Sl) (a : Int) (b : Int) (pivot : Int) (cmp : Value) (H : Heap) (R : (Int × Bool) → Heap → Prop) : Prop := SpecT (cTup [(cInt .i64), cBool]) Tryz.prog slices_partitionCmpFunc_ptr_pool_frame.no #[data.v, (.int .i64 a), (.int .i64 b), (.int .i64 pivot), cmp] H R
/-- slices.order2Ordered[int] -/
@[reducible] def slices_order2Ordered_int.sp (data : Sl) (a : Int) (b : Int) (swaps : Option Addr) (H : Heap) (R : (Int × Int) → Heap → Prop) : Prop := SpecT (cTup [(cInt .i64), (cInt .i64)]) Tryz.prog slices_order2Ordered_int.no #[data.v, (.int .i64 a), (.int .i64 b), (.pointer swaps)] H R
/-- slices.siftDownCmpFunc[*fathom/pool.frame] -/
@[reducible] def slices_siftDownCmpFunc_ptr_pool_frame.sp (data : Sl) (lo : Int) (hi : Int) (first : Int) (cmp : Value) (H : Heap) (R : Unit → Heap → Prop) : Prop := SpecT (cTup []) Tryz.prog slices_siftDownCmpFunc_ptr_pool_frame.no #[data.v, (.int .i64 lo), (.int .i64 hi), (.int .i64 first), cmp] H R
/-- slices.medianAdjacentCmpFunc[*fathom/pool.frame] -/
@[reducible] def slices_medianAdjacentCmpFunc_ptr_pool_frame.sp (data : Sl) (a : Int) (swaps : Option Addr) (cmp : Value) (H : Heap) (R : Int → Heap → Prop) : Prop := SpecT (cInt .i64) Tryz.prog slices_medianAdjacentCmpFunc_ptr_pool_frame.no #[data.v, (.int .i64 a), (.pointer swaps), cmp] H R
/-- slices.medianCmpFunc[*fathom/pool.frame] -/
@[reducible] def slices_medianCmpFunc_ptr_pool_frame.sp (data : Sl) (a : Int) (b : Int) (c : Int) (swaps : Option Addr) (cmp : Value) (H : Heap) (R : Int → Heap → Prop) : Prop := SpecT (cInt .i64) Tryz.prog slices_medianCmpFunc_ptr_pool_frame.no #[data.v, (.int .i64 a), (.int .i64 b), (.int .i64 c), (.pointer swaps), cmp] H R
/-- slices.order2CmpFunc[*fathom/pool.frame] -/
@[reducible] def slices_order2CmpFunc_ptr_pool_frame.sp (data : Sl) (a : Int) (b : Int) (swaps : Option Addr) (cmp : Value) (H : Heap) (R : (Int × Int) → Heap → Prop) : Prop := SpecT (cTup [(cInt .i64), (cInt .i64)]) Tryz.prog slices_order2CmpFunc_ptr_pool_frame.no #[data.v, (.int .i64 a), (.int .i64 b), (.pointer swaps), cmp] H R

/-- fathom/fathomlaw07.RunsPages -/
def fathomlaw07_RunsPages.vc (steps : Sl) (width : Int) (H : Heap) (R : Bool → Heap → Prop) : Prop :=
  fathomkit_Pick.sp width (16 : Int) H fun (r : Int) H1 => br (decide ((steps.n : Int) > (300 : Int))) (R true H1) (fathomlaw07_rising.sp steps (IntKind.i64.wrap ((1 : Int) + r)) H1 fun (rows : Sl) H2 => row_Room.sp (IntKind.i64.wrap ((1 : Int) + r)) H2 fun (room : Int) H3 => br (room == (0 : Int)) (R false H3) (room ≠ 0 ∧ newC H3 #[(.int .i64 (IntKind.i64.wrap ((1 : Int) + (IntKind.i64.wrap (Int.tdiv (IntKind.i64.wrap ((IntKind.i64.wrap ((rows.n : Int) + room)) - (1 : Int))) room))))), (.int .i64 (IntKind.i64.wrap ((IntKind.i64.wrap ((1 : Int) + (IntKind.i64.wrap (Int.tdiv (IntKind.i64.wrap ((IntKind.i64.wrap ((rows.n : Int) + room)) - (1 : Int))) room)))) - (1 : Int))))] ty_int fun p H4 => LoopVC Int (0 : Int) H4 fun next z H5 => br (decide (z < (2 : Int))) ((0 ≤ z ∧ z < (2 : Int)) ∧ ld (cInt .i64) H5 (p.add (z.toNat * 1)) fun (quota : Int) => disk_New.sp quota H5 fun (d : Option Addr) H6 => pool_New.sp d (8 : Int) H6 fun (r_1 : (Option Addr × Int)) H7 => runs_Make.sp r_1.1 (ByteArray.mk #[102]) (IntKind.i64.wrap ((1 : Int) + r)) H7 fun (r_2 : (Option Addr × Int)) H8 => LoopVC (Int × Int) (r_2.2, (0 : Int)) H8 fun next_1 z_1 H9 => cut Unit (fun J => br ((decide (z_1.2 < (rows.n : Int))) && (z_1.1 == (0 : Int))) (J () H9) (cut Int (fun J_1 => br (z_1.1 == (0 : Int)) (runs_Writer_Close.sp r_2.1 H9 fun (r_3 : (Int × Int)) H12 => J_1 r_3.2 H12) (J_1 z_1.1 H9)) fun (z_3 : Int) H11 => br ((quota == (IntKind.i64.wrap ((1 : Int) + (IntKind.i64.wrap (Int.tdiv (IntKind.i64.wrap ((IntKind.i64.wrap ((rows.n : Int) + room)) - (1 : Int))) room))))) == true) (br (z_3 != (0 : Int)) (R false H11) (disk_Disk_Used.sp d H11 fun (r_4 : Int) H13 => br ((r_4 != (IntKind.i64.wrap ((1 : Int) + (IntKind.i64.wrap (Int.tdiv (IntKind.i64.wrap ((IntKind.i64.wrap ((rows.n : Int) + room)) - (1 : Int))) room))))) || ((decide (quota < (IntKind.i64.wrap ((1 : Int) + (IntKind.i64.wrap (Int.tdiv (IntKind.i64.wrap ((IntKind.i64.wrap ((rows.n : Int) + room)) - (1 : Int))) room)))))) && (z_3 != (5 : Int)))) (R false H13) (next (IntKind.i64.wrap (z + (1 : Int))) H13))) (br ((decide (quota < (IntKind.i64.wrap ((1 : Int) + (IntKind.i64.wrap (Int.tdiv (IntKind.i64.wrap ((IntKind.i64.wrap ((rows.n : Int) + room)) - (1 : Int))) room)))))) && (z_3 != (5 : Int))) (R false H11) (next (IntKind.i64.wrap (z + (1 : Int))) H11)))) fun (_ : Unit) H10 => optK rows.a fun a => (0 ≤ z_1.2 ∧ z_1.2 < (rows.n : Int)) ∧ ld cSl H10 (a.add (z_1.2.toNat * 1)) fun (x : Sl) => runs_Writer_Add.sp r_2.1 x H10 fun (e : Int) H14 => next_1 (e, IntKind.i64.wrap (z_1.2 + (1 : Int))) H14) (fathomlaw07_works.sp H5 fun (r_5 : Bool) H15 => R r_5 H15)))

theorem fathomlaw07_RunsPages.of {steps : Sl} {width : Int} {H : Heap} {R : Bool → Heap → Prop} (hvc : fathomlaw07_RunsPages.vc steps width H R) : fathomlaw07_RunsPages.sp steps width H R :=
  specT_of_vc prog_ng prog_mixed (c := cBool) (A := [(10, [(42, (cInt .i64))]), (16, [(14, (cInt .i64)), (15, (cInt .i64))]), (100018, []), (100021, [(14, (cInt .i64))])]) (args := [steps.v, (.int .i64 width)]) (Eq.mpr (by kernel_rfl : vcFT cBool Tryz.prog fathomlaw07_RunsPages.no [(10, [(42, (cInt .i64))]), (16, [(14, (cInt .i64)), (15, (cInt .i64))]), (100018, []), (100021, [(14, (cInt .i64))])] [steps.v, (.int .i64 width)] H R = fathomlaw07_RunsPages.vc steps width H R) hvc)

/-- fathom/fathomlaw07.RunsNone -/
def fathomlaw07_RunsNone.vc (name : ByteArray) (width : Int) (l : Sl) (H : Heap) (R : Bool → Heap → Prop) : Prop :=
  runs_Writer_Close.sp none H fun (r : (Int × Int)) H1 => runs_Reader_Next.sp none H1 fun (r_1 : (Sl × Bool × Int)) H2 => runs_Make.sp none name width H2 fun (r_2 : (Option Addr × Int)) H3 => runs_Open.sp none name width H3 fun (r_3 : (Option Addr × Int)) H4 => runs_Reader_Close.sp none H4 fun (_ : Unit) H5 => br (((r.1 == (0 : Int)) && ((r_1.1.n : Int) == (0 : Int))) && (!r_1.2.1)) (br r_2.1.isNone (br r_3.1.isNone (runs_Reader_Rows.sp none H5 fun (r_5 : Int) H6 => br (r_5 == (0 : Int)) (runs_Writer_Add.sp none l H6 fun (r_6 : Int) H7 => br (r_6 == (1 : Int)) (runs_Reader_Seek.sp none l H7 fun (r_7 : Int) H8 => br (((((r_7 == (1 : Int)) && (r.2 == (1 : Int))) && (r_1.2.2 == r.2)) && (r_2.2 == r.2)) && (r_3.2 == r.2)) (fathomlaw07_works.sp H8 fun (r_8 : Bool) H9 => R r_8 H9) (R false H8)) (R false H7)) (R false H6)) (R false H5)) (R false H5)) (R false H5)

theorem fathomlaw07_RunsNone.of {name : ByteArray} {width : Int} {l : Sl} {H : Heap} {R : Bool → Heap → Prop} (hvc : fathomlaw07_RunsNone.vc name width l H R) : fathomlaw07_RunsNone.sp name width l H R :=
  specT_of_vc prog_ng prog_mixed (c := cBool) (A := []) (args := [(.string name), (.int .i64 width), l.v]) (Eq.mpr (by kernel_rfl : vcFT cBool Tryz.prog fathomlaw07_RunsNone.no [] [(.string name), (.int .i64 width), l.v] H R = fathomlaw07_RunsNone.vc name width l H R) hvc)

/-- fathom/fathomlaw07.RunsBack -/
def fathomlaw07_RunsBack.vc (steps : Sl) (width : Int) (frames : Int) (low : Sl) (keep : Int) (H : Heap) (R : Bool → Heap → Prop) : Prop :=
  fathomkit_Pick.sp width (16 : Int) H fun (r : Int) H1 => br ((decide ((steps.n : Int) > (300 : Int))) || (decide ((low.n : Int) > (IntKind.i64.wrap ((1 : Int) + r))))) (R true H1) (fathomlaw07_rising.sp steps (IntKind.i64.wrap ((1 : Int) + r)) H1 fun (rows : Sl) H2 => disk_New.sp (1000 : Int) H2 fun (d : Option Addr) H3 => fathomkit_Pick.sp frames (12 : Int) H3 fun (r_1 : Int) H4 => pool_New.sp d (IntKind.i64.wrap ((8 : Int) + r_1)) H4 fun (r_2 : (Option Addr × Int)) H5 => runs_Make.sp r_2.1 (ByteArray.mk #[102]) (IntKind.i64.wrap ((1 : Int) + r)) H5 fun (r_3 : (Option Addr × Int)) H6 => br ((r_2.2 != (0 : Int)) || (r_3.2 != (0 : Int))) (R false H6) (LoopVC Int (0 : Int) H6 fun next i H7 => br (decide (i < (rows.n : Int))) (optK rows.a fun a => (0 ≤ i ∧ i < (rows.n : Int)) ∧ ld cSl H7 (a.add (i.toNat * 1)) fun (x : Sl) => runs_Writer_Add.sp r_3.1 x H7 fun (r_4 : Int) H8 => br (r_4 != (0 : Int)) (R false H8) (next (IntKind.i64.wrap (i + (1 : Int))) H8)) (runs_Writer_Close.sp r_3.1 H7 fun (r_5 : (Int × Int)) H9 => br ((r_5.2 != (0 : Int)) || (r_5.1 != (rows.n : Int))) (R false H9) (disk_Disk_Crash.sp d (0 : Int) keep H9 fun (_ : Unit) H10 => disk_Disk_Create.sp d (ByteArray.mk #[103]) H10 fun (_ : Int) H11 => disk_Disk_Restart.sp d H11 fun (_ : Unit) H12 => pool_New.sp d (8 : Int) H12 fun (r_9 : (Option Addr × Int)) H13 => runs_Open.sp r_9.1 (ByteArray.mk #[102]) (IntKind.i64.wrap ((1 : Int) + r)) H13 fun (r_10 : (Option Addr × Int)) H14 => br ((r_9.2 != (0 : Int)) || (r_10.2 != (0 : Int))) (R false H14) (runs_Reader_Rows.sp r_10.1 H14 fun (r_11 : Int) H15 => br (r_11 != (rows.n : Int)) (R false H15) (fathomlaw07_reads.sp r_10.1 rows H15 fun (r_12 : Bool) H16 => br (!r_12) (R false H16) (LoopVC (Sl × Int) ((Sl.mk none 0 0), (0 : Int)) H16 fun next_1 z H17 => br (decide (z.2 < (rows.n : Int))) (optK rows.a fun a_1 => (0 ≤ z.2 ∧ z.2 < (rows.n : Int)) ∧ ld cSl H17 (a_1.add (z.2.toNat * 1)) fun (x_1 : Sl) => row_Cmp.sp x_1 low H17 fun (r_13 : Int) H18 => br (decide (r_13 ≥ (0 : Int))) (optK rows.a fun a_2 => (0 ≤ z.2 ∧ z.2 < (rows.n : Int)) ∧ ld cSl H18 (a_2.add (z.2.toNat * 1)) fun (x_2 : Sl) => newC H18 #[x_2.v] ty_sl_uint64 fun p H19 => doT cSl Tryz.prog (Builtin.append_ #[ty_sl_sl_uint64, ty_sl_sl_uint64] ty_sl_sl_uint64 #[z.1.v, (.slice (some p) 1 1)]) H19 fun (rest : Sl) H20 => next_1 (rest, IntKind.i64.wrap (z.2 + (1 : Int))) H20) (next_1 (z.1, IntKind.i64.wrap (z.2 + (1 : Int))) H18)) (runs_Reader_Seek.sp r_10.1 low H17 fun (r_14 : Int) H21 => br (r_14 == (0 : Int)) (fathomlaw07_reads.sp r_10.1 z.1 H21 fun (r_15 : Bool) H22 => br r_15 (runs_Reader_Seek.sp r_10.1 (Sl.mk none 0 0) H22 fun (r_16 : Int) H23 => br (r_16 == (0 : Int)) (fathomlaw07_reads.sp r_10.1 rows H23 fun (r_17 : Bool) H24 => br r_17 (pool_Pool_Pinned.sp r_9.1 H24 fun (r_18 : Int) H25 => br (r_18 == (0 : Int)) (fathomlaw07_works.sp H25 fun (r_19 : Bool) H26 => R r_19 H26) (R false H25)) (R false H24)) (R false H23)) (R false H22)) (R false H21)))))))))

theorem fathomlaw07_RunsBack.of {steps : Sl} {width : Int} {frames : Int} {low : Sl} {keep : Int} {H : Heap} {R : Bool → Heap → Prop} (hvc : fathomlaw07_RunsBack.vc steps width frames low keep H R) : fathomlaw07_RunsBack.sp steps width frames low keep H R :=
  specT_of_vc prog_ng prog_mixed (c := cBool) (A := [(11, [(17, (cInt .i64))]), (27, [(21, cSl), (22, (cInt .i64))])]) (args := [steps.v, (.int .i64 width), (.int .i64 frames), low.v, (.int .u64 keep)]) (Eq.mpr (by kernel_rfl : vcFT cBool Tryz.prog fathomlaw07_RunsBack.no [(11, [(17, (cInt .i64))]), (27, [(21, cSl), (22, (cInt .i64))])] [steps.v, (.int .i64 width), (.int .i64 frames), low.v, (.int .u64 keep)] H R = fathomlaw07_RunsBack.vc steps width frames low keep H R) hvc)

/-- fathom/fathomkit.Pick -/
def fathomkit_Pick.vc (i : Int) (n : Int) (H : Heap) (R : Int → Heap → Prop) : Prop :=
  br (decide (n < (1 : Int))) (R (0 : Int) H) (n ≠ 0 ∧ br (decide ((Int.tmod i n) < (0 : Int))) (R (IntKind.i64.wrap ((Int.tmod i n) + n)) H) (R (Int.tmod i n) H))

theorem fathomkit_Pick.of {i : Int} {n : Int} {H : Heap} {R : Int → Heap → Prop} (hvc : fathomkit_Pick.vc i n H R) : fathomkit_Pick.sp i n H R :=
  specT_of_vc prog_ng prog_mixed (c := (cInt .i64)) (A := []) (args := [(.int .i64 i), (.int .i64 n)]) (Eq.mpr (by kernel_rfl : vcFT (cInt .i64) Tryz.prog fathomkit_Pick.no [] [(.int .i64 i), (.int .i64 n)] H R = fathomkit_Pick.vc i n H R) hvc)

/-- fathom/fathomlaw07.rising -/
def fathomlaw07_rising.vc (steps : Sl) (width : Int) (H : Heap) (R : Sl → Heap → Prop) : Prop :=
  LoopVC (Sl × Int × Int) ((Sl.mk none 0 0), (0 : Int), (0 : Int)) H fun next z H1 => br (decide (z.2.2 < (steps.n : Int))) (optK steps.a fun a => (0 ≤ z.2.2 ∧ z.2.2 < (steps.n : Int)) ∧ ld (cInt .u64) H1 (a.add (z.2.2.toNat * 1)) fun (x : Int) => doT cSl Tryz.prog (Instr.makeSlice ty_sl_uint64 (.int .i64 width) (.int .i64 width)) H1 fun (l : Sl) H2 => optK l.a fun a_1 => (0 ≤ (0 : Int) ∧ (0 : Int) < (l.n : Int)) ∧ st H2 (a_1.add ((0 : Int).toNat * 1)) (.int .u64 (IntKind.u64.wrap (Int.tdiv (IntKind.u64.wrap ((IntKind.u64.wrap (z.2.1 + (1 : Int))) + (Int.tmod x (50 : Int)))) (9 : Int)))) fun H3 => optK l.a fun a_2 => (0 ≤ (IntKind.i64.wrap (width - (1 : Int))) ∧ (IntKind.i64.wrap (width - (1 : Int))) < (l.n : Int)) ∧ ld (cInt .u64) H3 (a_2.add ((IntKind.i64.wrap (width - (1 : Int))).toNat * 1)) fun (x_1 : Int) => optK l.a fun a_3 => (0 ≤ (IntKind.i64.wrap (width - (1 : Int))) ∧ (IntKind.i64.wrap (width - (1 : Int))) < (l.n : Int)) ∧ st H3 (a_3.add ((IntKind.i64.wrap (width - (1 : Int))).toNat * 1)) (.int .u64 (IntKind.u64.wrap ((IntKind.u64.wrap (x_1 * (IntKind.u64.wrap (if (IntKind.i64.wrap (width - (1 : Int))) < (1 : Int) then (IntKind.i64.wrap (width - (1 : Int))) else (1 : Int))))) + (IntKind.u64.wrap ((Int.tmod (IntKind.u64.wrap ((IntKind.u64.wrap (z.2.1 + (1 : Int))) + (Int.tmod x (50 : Int)))) (9 : Int)) * (IntKind.u64.wrap (if (IntKind.i64.wrap (width - (1 : Int))) < (1 : Int) then (IntKind.i64.wrap (width - (1 : Int))) else (1 : Int)))))))) fun H4 => br (width == (1 : Int)) (optK l.a fun a_4 => (0 ≤ (0 : Int) ∧ (0 : Int) < (l.n : Int)) ∧ st H4 (a_4.add ((0 : Int).toNat * 1)) (.int .u64 (IntKind.u64.wrap ((IntKind.u64.wrap (z.2.1 + (1 : Int))) + (Int.tmod x (50 : Int))))) fun H5 => newC H5 #[l.v] ty_sl_uint64 fun p H6 => doT cSl Tryz.prog (Builtin.append_ #[ty_sl_sl_uint64, ty_sl_sl_uint64] ty_sl_sl_uint64 #[z.1.v, (.slice (some p) 1 1)]) H6 fun (out : Sl) H7 => next (out, IntKind.u64.wrap ((IntKind.u64.wrap (z.2.1 + (1 : Int))) + (Int.tmod x (50 : Int))), IntKind.i64.wrap (z.2.2 + (1 : Int))) H7) (newC H4 #[l.v] ty_sl_uint64 fun p_1 H8 => doT cSl Tryz.prog (Builtin.append_ #[ty_sl_sl_uint64, ty_sl_sl_uint64] ty_sl_sl_uint64 #[z.1.v, (.slice (some p_1) 1 1)]) H8 fun (out_1 : Sl) H9 => next (out_1, IntKind.u64.wrap ((IntKind.u64.wrap (z.2.1 + (1 : Int))) + (Int.tmod x (50 : Int))), IntKind.i64.wrap (z.2.2 + (1 : Int))) H9)) (R z.1 H1)

theorem fathomlaw07_rising.of {steps : Sl} {width : Int} {H : Heap} {R : Sl → Heap → Prop} (hvc : fathomlaw07_rising.vc steps width H R) : fathomlaw07_rising.sp steps width H R :=
  specT_of_vc prog_ng prog_mixed (c := cSl) (A := [(4, [(5, cSl), (6, (cInt .u64)), (7, (cInt .i64))])]) (args := [steps.v, (.int .i64 width)]) (Eq.mpr (by kernel_rfl : vcFT cSl Tryz.prog fathomlaw07_rising.no [(4, [(5, cSl), (6, (cInt .u64)), (7, (cInt .i64))])] [steps.v, (.int .i64 width)] H R = fathomlaw07_rising.vc steps width H R) hvc)

/-- fathom/row.Room -/
def row_Room.vc (width : Int) (H : Heap) (R : Int → Heap → Prop) : Prop :=
  row_size.sp width H fun (n : Int) H1 => br (decide (n > (0 : Int))) (n ≠ 0 ∧ R (IntKind.i64.wrap (Int.tdiv (504 : Int) n)) H1) (R (0 : Int) H1)

theorem row_Room.of {width : Int} {H : Heap} {R : Int → Heap → Prop} (hvc : row_Room.vc width H R) : row_Room.sp width H R :=
  specT_of_vc prog_ng prog_mixed (c := (cInt .i64)) (A := []) (args := [(.int .i64 width)]) (Eq.mpr (by kernel_rfl : vcFT (cInt .i64) Tryz.prog row_Room.no [] [(.int .i64 width)] H R = row_Room.vc width H R) hvc)

/-- fathom/disk.New -/
def disk_New.vc (quota : Int) (H : Heap) (R : Option Addr → Heap → Prop) : Prop :=
  newM H fun m H1 => newC H1 #[(.map (some m)), (.int .i64 (0 : Int)), (.int .i64 (0 : Int)), (.int .i64 (if (1048576 : Int) < (if (0 : Int) > quota then (0 : Int) else quota) then (1048576 : Int) else (if (0 : Int) > quota then (0 : Int) else quota))), (.int .i64 (0 : Int)), (.int .i64 (0 : Int)), (.bool false), (.int .i64 (0 : Int)), (.int .u64 (0 : Int)), (.bool false)] ty_disk_Disk fun p H2 => R (some p) H2

theorem disk_New.of {quota : Int} {H : Heap} {R : Option Addr → Heap → Prop} (hvc : disk_New.vc quota H R) : disk_New.sp quota H R :=
  specT_of_vc prog_ng prog_mixed (c := cPtr) (A := []) (args := [(.int .i64 quota)]) (Eq.mpr (by kernel_rfl : vcFT cPtr Tryz.prog disk_New.no [] [(.int .i64 quota)] H R = disk_New.vc quota H R) hvc)

/-- fathom/pool.New -/
def pool_New.vc (d : Option Addr) (frames : Int) (H : Heap) (R : (Option Addr × Int) → Heap → Prop) : Prop :=
  br d.isNone (R (none, (1 : Int)) H) (br (decide (frames < (8 : Int))) (R (none, (30 : Int)) H) (br (decide (frames > (4096 : Int))) (R (none, (3 : Int)) H) (newM H fun m H1 => newM H1 fun m_1 H2 => newC H2 #[(.pointer d), (.int .i64 frames), (.map (some m)), (.map (some m_1)), (.int .i64 (1 : Int)), (.int .i64 (0 : Int)), (.int .i64 (0 : Int)), (.int .i64 (0 : Int))] ty_pool_Pool fun p H3 => R (some p, (0 : Int)) H3)))

theorem pool_New.of {d : Option Addr} {frames : Int} {H : Heap} {R : (Option Addr × Int) → Heap → Prop} (hvc : pool_New.vc d frames H R) : pool_New.sp d frames H R :=
  specT_of_vc prog_ng prog_mixed (c := (cTup [cPtr, (cInt .i64)])) (A := []) (args := [(.pointer d), (.int .i64 frames)]) (Eq.mpr (by kernel_rfl : vcFT (cTup [cPtr, (cInt .i64)]) Tryz.prog pool_New.no [] [(.pointer d), (.int .i64 frames)] H R = pool_New.vc d frames H R) hvc)

/-- fathom/runs.Make -/
def runs_Make.vc (p : Option Addr) (name : ByteArray) (width : Int) (H : Heap) (R : (Option Addr × Int) → Heap → Prop) : Prop :=
  runs_based.sp p name width H fun (r : ((Option Addr × ByteArray × Int × Int × Int × Bool) × Int)) H1 => newC H1 (zc Tryz.prog ty_runs_base) ty_runs_base fun p_1 H2 => doU Tryz.prog (Instr.storeAt ty_runs_base (.pointer (some p_1)) (.agg #[(.pointer r.1.1), (.string r.1.2.1), (.int .i64 r.1.2.2.1), (.int .i64 r.1.2.2.2.1), (.int .i64 r.1.2.2.2.2.1), (.bool r.1.2.2.2.2.2)])) H2 fun H3 => br (r.2 == (0 : Int)) (pool_Pool_Disk.sp p H3 fun (r_1 : Option Addr) H4 => disk_Disk_Create.sp r_1 name H4 fun (e : Int) H5 => cut Int (fun J => br (e == (0 : Int)) (runs_base_put.sp (some p_1) (0 : Int) (Sl.mk none 0 0) H5 fun (e_1 : Int) H7 => J e_1 H7) (J e H5)) fun (z : Int) H6 => br (z != (0 : Int)) (R (none, z) H6) (ldA (cAgg [cPtr, cStr, (cInt .i64), (cInt .i64), (cInt .i64), cBool]) 6 H6 p_1 fun (x : (Option Addr × ByteArray × Int × Int × Int × Bool)) => newC H6 #[(.pointer x.1), (.string x.2.1), (.int .i64 x.2.2.1), (.int .i64 x.2.2.2.1), (.int .i64 x.2.2.2.2.1), (.bool x.2.2.2.2.2), (.slice none 0 0), (.int .i64 (0 : Int)), (.slice none 0 0), (.int .i64 (0 : Int))] ty_runs_Writer fun p_2 H8 => R (some p_2, (0 : Int)) H8)) (cut Int (fun J_1 => br (r.2 == (0 : Int)) (runs_base_put.sp (some p_1) (0 : Int) (Sl.mk none 0 0) H3 fun (e_2 : Int) H10 => J_1 e_2 H10) (J_1 r.2 H3)) fun (z_1 : Int) H9 => br (z_1 != (0 : Int)) (R (none, z_1) H9) (ldA (cAgg [cPtr, cStr, (cInt .i64), (cInt .i64), (cInt .i64), cBool]) 6 H9 p_1 fun (x_1 : (Option Addr × ByteArray × Int × Int × Int × Bool)) => newC H9 #[(.pointer x_1.1), (.string x_1.2.1), (.int .i64 x_1.2.2.1), (.int .i64 x_1.2.2.2.1), (.int .i64 x_1.2.2.2.2.1), (.bool x_1.2.2.2.2.2), (.slice none 0 0), (.int .i64 (0 : Int)), (.slice none 0 0), (.int .i64 (0 : Int))] ty_runs_Writer fun p_3 H11 => R (some p_3, (0 : Int)) H11))

theorem runs_Make.of {p : Option Addr} {name : ByteArray} {width : Int} {H : Heap} {R : (Option Addr × Int) → Heap → Prop} (hvc : runs_Make.vc p name width H R) : runs_Make.sp p name width H R :=
  specT_of_vc prog_ng prog_mixed (c := (cTup [cPtr, (cInt .i64)])) (A := [(100006, [(9, (cInt .i64))]), (100006, [(9, (cInt .i64))])]) (args := [(.pointer p), (.string name), (.int .i64 width)]) (Eq.mpr (by kernel_rfl : vcFT (cTup [cPtr, (cInt .i64)]) Tryz.prog runs_Make.no [(100006, [(9, (cInt .i64))]), (100006, [(9, (cInt .i64))])] [(.pointer p), (.string name), (.int .i64 width)] H R = runs_Make.vc p name width H R) hvc)

/-- (*fathom/runs.Writer).Add -/
def runs_Writer_Add.vc (w : Option Addr) (l : Sl) (H : Heap) (R : Int → Heap → Prop) : Prop :=
  br w.isNone (R (1 : Int) H) (optK w fun a => runs_base_ready.sp (some (a.add 0)) H fun (e : Int) H1 => br (e != (0 : Int)) (R e H1) (cut Unit (fun J => optK w fun a_1 => ld (cInt .i64) H1 ((a_1.add 0).add 2) fun (x : Int) => br ((l.n : Int) != x) (R (60 : Int) H1) (optK w fun a_2 => ld (cInt .i64) H1 (a_2.add 9) fun (x_1 : Int) => br (decide (x_1 > (0 : Int))) (optK w fun a_3 => ld cSl H1 (a_3.add 8) fun (x_2 : Sl) => row_Cmp.sp l x_2 H1 fun (r : Int) H3 => br (decide (r ≤ (0 : Int))) (R (70 : Int) H3) (J () H3)) (J () H1))) fun (_ : Unit) H2 => ∃ G : Heap → Prop, G H2 ∧ optK w fun a_4 => ldC cSl G (a_4.add 6) fun (x_3 : Sl) => row_Put.sp l H2 fun (r_1 : Sl) H4 => G H4 ∧ doT cSl Tryz.prog (Builtin.append_ #[ty_sl_uint8, ty_sl_uint8] ty_sl_uint8 #[x_3.v, r_1.v]) H4 fun (s : Sl) H5 => optK w fun a_5 => st H5 (a_5.add 6) s.v fun H6 => slices_Clone_sl_uint64_uint64.sp l H6 fun (r_2 : Sl) H7 => optK w fun a_6 => st H7 (a_6.add 8) r_2.v fun H8 => optK w fun a_7 => ld (cInt .i64) H8 (a_7.add 9) fun (x_4 : Int) => optK w fun a_8 => st H8 (a_8.add 9) (.int .i64 (IntKind.i64.wrap (x_4 + (1 : Int)))) fun H9 => optK w fun a_9 => ld (cInt .i64) H9 (a_9.add 7) fun (x_5 : Int) => optK w fun a_10 => st H9 (a_10.add 7) (.int .i64 (IntKind.i64.wrap (x_5 + (1 : Int)))) fun H10 => optK w fun a_11 => ld (cInt .i64) H10 (a_11.add 7) fun (x_6 : Int) => optK w fun a_12 => ld (cInt .i64) H10 ((a_12.add 0).add 3) fun (x_7 : Int) => br (decide (x_6 < x_7)) (R (0 : Int) H10) (runs_Writer_out.sp w H10 fun (r_3 : Int) H11 => R r_3 H11)))

theorem runs_Writer_Add.of {w : Option Addr} {l : Sl} {H : Heap} {R : Int → Heap → Prop} (hvc : runs_Writer_Add.vc w l H R) : runs_Writer_Add.sp w l H R :=
  specT_of_vc prog_ng prog_mixed (c := (cInt .i64)) (A := [(100010, [])]) (args := [(.pointer w), l.v]) (Eq.mpr (by kernel_rfl : vcFT (cInt .i64) Tryz.prog runs_Writer_Add.no [(100010, [])] [(.pointer w), l.v] H R = runs_Writer_Add.vc w l H R) hvc)

/-- (*fathom/runs.Writer).Close -/
def runs_Writer_Close.vc (w : Option Addr) (H : Heap) (R : (Int × Int) → Heap → Prop) : Prop :=
  br w.isNone (R ((0 : Int), (1 : Int)) H) (optK w fun a => runs_base_ready.sp (some (a.add 0)) H fun (e : Int) H1 => br (e == (0 : Int)) (runs_Writer_out.sp w H1 fun (e_1 : Int) H2 => br (e_1 != (0 : Int)) (R ((0 : Int), e_1) H2) (optK w fun a_1 => ld cPtr H2 ((a_1.add 0).add 0) fun (x : Option Addr) => optK w fun a_2 => ld cStr H2 ((a_2.add 0).add 1) fun (x_1 : ByteArray) => pool_Pool_Pin.sp x x_1 (0 : Int) H2 fun (r : (Int × Int)) H3 => cut Int (fun J => br (r.2 == (0 : Int)) (∃ G : Heap → Prop, G H3 ∧ optK w fun a_3 => ldC cPtr G ((a_3.add 0).add 0) fun (x_2 : Option Addr) => optK w fun a_4 => ldC (cInt .i64) G ((a_4.add 0).add 2) fun (x_3 : Int) => optK w fun a_5 => ldC (cInt .i64) G (a_5.add 9) fun (x_4 : Int) => (newC H3 #[(.int .u8 (IntKind.u8.wrap x_3))] ty_uint8 fun p H5 => G H5 ∧ newC H5 #[(.int .u64 (IntKind.u64.wrap x_4))] ty_uint64 fun p_1 H6 => G H6 ∧ row_Put.sp (Sl.mk (some p_1) 1 1) H6 fun (r_1 : Sl) H7 => G H7 ∧ doT cSl Tryz.prog (Builtin.append_ #[ty_sl_uint8, ty_sl_uint8] ty_sl_uint8 #[(.slice (some p) 1 1), r_1.v]) H7 fun (s : Sl) H8 => G H8 ∧ pool_Pool_Put.sp x_2 r.1 (2 : Int) s H8 fun (e_2 : Int) H9 => G H9 ∧ J e_2 H9) ∧ (newC H3 #[(.int .u64 (IntKind.u64.wrap x_4))] ty_uint64 fun p_2 H10 => G H10 ∧ (newC H10 #[(.int .u8 (IntKind.u8.wrap x_3))] ty_uint8 fun p_3 H11 => G H11 ∧ row_Put.sp (Sl.mk (some p_2) 1 1) H11 fun (r_2 : Sl) H12 => G H12 ∧ doT cSl Tryz.prog (Builtin.append_ #[ty_sl_uint8, ty_sl_uint8] ty_sl_uint8 #[(.slice (some p_3) 1 1), r_2.v]) H12 fun (s_1 : Sl) H13 => G H13 ∧ pool_Pool_Put.sp x_2 r.1 (2 : Int) s_1 H13 fun (e_3 : Int) H14 => G H14 ∧ J e_3 H14) ∧ (row_Put.sp (Sl.mk (some p_2) 1 1) H10 fun (r_3 : Sl) H15 => G H15 ∧ newC H15 #[(.int .u8 (IntKind.u8.wrap x_3))] ty_uint8 fun p_4 H16 => G H16 ∧ doT cSl Tryz.prog (Builtin.append_ #[ty_sl_uint8, ty_sl_uint8] ty_sl_uint8 #[(.slice (some p_4) 1 1), r_3.v]) H16 fun (s_2 : Sl) H17 => G H17 ∧ pool_Pool_Put.sp x_2 r.1 (2 : Int) s_2 H17 fun (e_4 : Int) H18 => G H18 ∧ J e_4 H18))) (J r.2 H3)) fun (z : Int) H4 => cut Int (fun J_1 => br (z == (0 : Int)) (optK w fun a_6 => ld cPtr H4 ((a_6.add 0).add 0) fun (x_5 : Option Addr) => pool_Pool_Unpin.sp x_5 r.1 H4 fun (e_5 : Int) H20 => J_1 e_5 H20) (J_1 z H4)) fun (z_1 : Int) H19 => cut Int (fun J_2 => br (z_1 == (0 : Int)) (optK w fun a_7 => ld cPtr H19 ((a_7.add 0).add 0) fun (x_6 : Option Addr) => optK w fun a_8 => ld cStr H19 ((a_8.add 0).add 1) fun (x_7 : ByteArray) => pool_Pool_Flush.sp x_6 x_7 H19 fun (e_6 : Int) H22 => J_2 e_6 H22) (J_2 z_1 H19)) fun (z_2 : Int) H21 => optK w fun a_9 => runs_base_broke.sp (some (a_9.add 0)) z_2 H21 fun (r_4 : Int) H23 => br (r_4 != (0 : Int)) (R ((0 : Int), z_2) H23) (optK w fun a_10 => st H23 ((a_10.add 0).add 5) (.bool true) fun H24 => optK w fun a_11 => ld (cInt .i64) H24 (a_11.add 9) fun (x_8 : Int) => R (x_8, (0 : Int)) H24))) (br (e != (0 : Int)) (R ((0 : Int), e) H1) (optK w fun a_12 => ld cPtr H1 ((a_12.add 0).add 0) fun (x_9 : Option Addr) => optK w fun a_13 => ld cStr H1 ((a_13.add 0).add 1) fun (x_10 : ByteArray) => pool_Pool_Pin.sp x_9 x_10 (0 : Int) H1 fun (r_5 : (Int × Int)) H25 => cut Int (fun J_3 => br (r_5.2 == (0 : Int)) (∃ G_1 : Heap → Prop, G_1 H25 ∧ optK w fun a_14 => ldC cPtr G_1 ((a_14.add 0).add 0) fun (x_11 : Option Addr) => optK w fun a_15 => ldC (cInt .i64) G_1 ((a_15.add 0).add 2) fun (x_12 : Int) => optK w fun a_16 => ldC (cInt .i64) G_1 (a_16.add 9) fun (x_13 : Int) => (newC H25 #[(.int .u8 (IntKind.u8.wrap x_12))] ty_uint8 fun p_5 H27 => G_1 H27 ∧ newC H27 #[(.int .u64 (IntKind.u64.wrap x_13))] ty_uint64 fun p_6 H28 => G_1 H28 ∧ row_Put.sp (Sl.mk (some p_6) 1 1) H28 fun (r_6 : Sl) H29 => G_1 H29 ∧ doT cSl Tryz.prog (Builtin.append_ #[ty_sl_uint8, ty_sl_uint8] ty_sl_uint8 #[(.slice (some p_5) 1 1), r_6.v]) H29 fun (s_3 : Sl) H30 => G_1 H30 ∧ pool_Pool_Put.sp x_11 r_5.1 (2 : Int) s_3 H30 fun (e_7 : Int) H31 => G_1 H31 ∧ J_3 e_7 H31) ∧ (newC H25 #[(.int .u64 (IntKind.u64.wrap x_13))] ty_uint64 fun p_7 H32 => G_1 H32 ∧ (newC H32 #[(.int .u8 (IntKind.u8.wrap x_12))] ty_uint8 fun p_8 H33 => G_1 H33 ∧ row_Put.sp (Sl.mk (some p_7) 1 1) H33 fun (r_7 : Sl) H34 => G_1 H34 ∧ doT cSl Tryz.prog (Builtin.append_ #[ty_sl_uint8, ty_sl_uint8] ty_sl_uint8 #[(.slice (some p_8) 1 1), r_7.v]) H34 fun (s_4 : Sl) H35 => G_1 H35 ∧ pool_Pool_Put.sp x_11 r_5.1 (2 : Int) s_4 H35 fun (e_8 : Int) H36 => G_1 H36 ∧ J_3 e_8 H36) ∧ (row_Put.sp (Sl.mk (some p_7) 1 1) H32 fun (r_8 : Sl) H37 => G_1 H37 ∧ newC H37 #[(.int .u8 (IntKind.u8.wrap x_12))] ty_uint8 fun p_9 H38 => G_1 H38 ∧ doT cSl Tryz.prog (Builtin.append_ #[ty_sl_uint8, ty_sl_uint8] ty_sl_uint8 #[(.slice (some p_9) 1 1), r_8.v]) H38 fun (s_5 : Sl) H39 => G_1 H39 ∧ pool_Pool_Put.sp x_11 r_5.1 (2 : Int) s_5 H39 fun (e_9 : Int) H40 => G_1 H40 ∧ J_3 e_9 H40))) (J_3 r_5.2 H25)) fun (z_3 : Int) H26 => cut Int (fun J_4 => br (z_3 == (0 : Int)) (optK w fun a_17 => ld cPtr H26 ((a_17.add 0).add 0) fun (x_14 : Option Addr) => pool_Pool_Unpin.sp x_14 r_5.1 H26 fun (e_10 : Int) H42 => J_4 e_10 H42) (J_4 z_3 H26)) fun (z_4 : Int) H41 => cut Int (fun J_5 => br (z_4 == (0 : Int)) (optK w fun a_18 => ld cPtr H41 ((a_18.add 0).add 0) fun (x_15 : Option Addr) => optK w fun a_19 => ld cStr H41 ((a_19.add 0).add 1) fun (x_16 : ByteArray) => pool_Pool_Flush.sp x_15 x_16 H41 fun (e_11 : Int) H44 => J_5 e_11 H44) (J_5 z_4 H41)) fun (z_5 : Int) H43 => optK w fun a_20 => runs_base_broke.sp (some (a_20.add 0)) z_5 H43 fun (r_9 : Int) H45 => br (r_9 != (0 : Int)) (R ((0 : Int), z_5) H45) (optK w fun a_21 => st H45 ((a_21.add 0).add 5) (.bool true) fun H46 => optK w fun a_22 => ld (cInt .i64) H46 (a_22.add 9) fun (x_17 : Int) => R (x_17, (0 : Int)) H46))))

theorem runs_Writer_Close.of {w : Option Addr} {H : Heap} {R : (Int × Int) → Heap → Prop} (hvc : runs_Writer_Close.vc w H R) : runs_Writer_Close.sp w H R :=
  specT_of_vc prog_ng prog_mixed (c := (cTup [(cInt .i64), (cInt .i64)])) (A := [(100011, [(4, (cInt .i64))]), (300010, [(12, cBool), (20, cBool)]), (100013, [(4, (cInt .i64))]), (100015, [(4, (cInt .i64))]), (100011, [(4, (cInt .i64))]), (100013, [(4, (cInt .i64))]), (100015, [(4, (cInt .i64))])]) (args := [(.pointer w)]) (Eq.mpr (by kernel_rfl : vcFT (cTup [(cInt .i64), (cInt .i64)]) Tryz.prog runs_Writer_Close.no [(100011, [(4, (cInt .i64))]), (300010, [(12, cBool), (20, cBool)]), (100013, [(4, (cInt .i64))]), (100015, [(4, (cInt .i64))]), (100011, [(4, (cInt .i64))]), (100013, [(4, (cInt .i64))]), (100015, [(4, (cInt .i64))])] [(.pointer w)] H R = runs_Writer_Close.vc w H R) hvc)

/-- (*fathom/disk.Disk).Used -/
def disk_Disk_Used.vc (d : Option Addr) (H : Heap) (R : Int → Heap → Prop) : Prop :=
  br d.isNone (R (0 : Int) H) (optK d fun a => ld (cInt .i64) H (a.add 1) fun (x : Int) => R x H)

theorem disk_Disk_Used.of {d : Option Addr} {H : Heap} {R : Int → Heap → Prop} (hvc : disk_Disk_Used.vc d H R) : disk_Disk_Used.sp d H R :=
  specT_of_vc prog_ng prog_mixed (c := (cInt .i64)) (A := []) (args := [(.pointer d)]) (Eq.mpr (by kernel_rfl : vcFT (cInt .i64) Tryz.prog disk_Disk_Used.no [] [(.pointer d)] H R = disk_Disk_Used.vc d H R) hvc)

/-- fathom/fathomlaw07.works -/
def fathomlaw07_works.vc  (H : Heap) (R : Bool → Heap → Prop) : Prop :=
  disk_New.sp (9 : Int) H fun (d : Option Addr) H1 => pool_New.sp d (8 : Int) H1 fun (r : (Option Addr × Int)) H2 => runs_Make.sp r.1 (ByteArray.mk #[102]) (1 : Int) H2 fun (r_1 : (Option Addr × Int)) H3 => br ((r.2 != (0 : Int)) || (r_1.2 != (0 : Int))) (R false H3) (br r_1.1.isNone (R false H3) (newC H3 #[(.int .u64 (5 : Int))] ty_uint64 fun p H4 => runs_Writer_Add.sp r_1.1 (Sl.mk (some p) 1 1) H4 fun (r_2 : Int) H5 => br (r_2 != (0 : Int)) (R false H5) (newC H5 #[(.int .u64 (5 : Int))] ty_uint64 fun p_1 H6 => runs_Writer_Add.sp r_1.1 (Sl.mk (some p_1) 1 1) H6 fun (r_3 : Int) H7 => br (r_3 != (70 : Int)) (R false H7) (newC H7 #[(.int .u64 (7 : Int))] ty_uint64 fun p_2 H8 => runs_Writer_Add.sp r_1.1 (Sl.mk (some p_2) 1 1) H8 fun (r_4 : Int) H9 => br (r_4 != (0 : Int)) (R false H9) (runs_Writer_Close.sp r_1.1 H9 fun (r_5 : (Int × Int)) H10 => runs_Open.sp r.1 (ByteArray.mk #[102]) (1 : Int) H10 fun (r_6 : (Option Addr × Int)) H11 => br (((r_5.2 != (0 : Int)) || (r_6.2 != (0 : Int))) || (r_5.1 != (2 : Int))) (R false H11) (br r_6.1.isNone (R false H11) (newC H11 #[(.int .u64 (6 : Int))] ty_uint64 fun p_3 H12 => runs_Reader_Seek.sp r_6.1 (Sl.mk (some p_3) 1 1) H12 fun (r_7 : Int) H13 => br (r_7 != (0 : Int)) (R false H13) (runs_Reader_Next.sp r_6.1 H13 fun (r_8 : (Sl × Bool × Int)) H14 => runs_Reader_Next.sp r_6.1 H14 fun (r_9 : (Sl × Bool × Int)) H15 => br (((((r_8.2.2 == (0 : Int)) && (r_9.2.2 == (0 : Int))) && r_8.2.1) && (!r_9.2.1)) && ((r_8.1.n : Int) == (1 : Int))) (optK r_8.1.a fun a => (0 ≤ (0 : Int) ∧ (0 : Int) < (r_8.1.n : Int)) ∧ ld (cInt .u64) H15 (a.add ((0 : Int).toNat * 1)) fun (x : Int) => br (x == (7 : Int)) (disk_Disk_Used.sp d H15 fun (r_10 : Int) H16 => br (r_10 == (2 : Int)) (newC H16 #[(.int .u64 (7 : Int))] ty_uint64 fun p_4 H17 => fathomref06_Cmp.sp r_8.1 (Sl.mk (some p_4) 1 1) H17 fun (r_11 : Int) H18 => R (r_11 == (0 : Int)) H18) (R false H16)) (R false H15)) (R false H15)))))))))

theorem fathomlaw07_works.of {H : Heap} {R : Bool → Heap → Prop} (hvc : fathomlaw07_works.vc H R) : fathomlaw07_works.sp H R :=
  specT_of_vc prog_ng prog_mixed (c := cBool) (A := []) (args := []) (Eq.mpr (by kernel_rfl : vcFT cBool Tryz.prog fathomlaw07_works.no [] [] H R = fathomlaw07_works.vc H R) hvc)

/-- (*fathom/runs.Reader).Next -/
def runs_Reader_Next.vc (r : Option Addr) (H : Heap) (R : (Sl × Bool × Int) → Heap → Prop) : Prop :=
  br r.isNone (R ((Sl.mk none 0 0), false, (1 : Int)) H) (optK r fun a => runs_base_ready.sp (some (a.add 0)) H fun (e : Int) H1 => br (e != (0 : Int)) (R ((Sl.mk none 0 0), false, e) H1) (optK r fun a_1 => ld (cInt .i64) H1 (a_1.add 7) fun (x : Int) => optK r fun a_2 => ld (cInt .i64) H1 (a_2.add 6) fun (x_1 : Int) => br (x == x_1) (R ((Sl.mk none 0 0), false, e) H1) (optK r fun a_3 => ld (cInt .i64) H1 (a_3.add 7) fun (x_2 : Int) => optK r fun a_4 => ld (cInt .i64) H1 ((a_4.add 0).add 3) fun (x_3 : Int) => x_3 ≠ 0 ∧ runs_Reader_load.sp r (IntKind.i64.wrap (Int.tdiv x_2 x_3)) H1 fun (e_1 : Int) H2 => br (e_1 != (0 : Int)) (R ((Sl.mk none 0 0), false, e_1) H2) (optK r fun a_5 => ld cSl H2 (a_5.add 9) fun (x_4 : Sl) => optK r fun a_6 => ld (cInt .i64) H2 (a_6.add 7) fun (x_5 : Int) => optK r fun a_7 => ld (cInt .i64) H2 ((a_7.add 0).add 3) fun (x_6 : Int) => x_6 ≠ 0 ∧ optK x_4.a fun a_8 => (0 ≤ (Int.tmod x_5 x_6) ∧ (Int.tmod x_5 x_6) < (x_4.n : Int)) ∧ ld cSl H2 (a_8.add ((Int.tmod x_5 x_6).toNat * 1)) fun (x_7 : Sl) => slices_Clone_sl_uint64_uint64.sp x_7 H2 fun (l : Sl) H3 => optK r fun a_9 => ld (cInt .i64) H3 (a_9.add 7) fun (x_8 : Int) => optK r fun a_10 => st H3 (a_10.add 7) (.int .i64 (IntKind.i64.wrap (x_8 + (1 : Int)))) fun H4 => R (l, true, (0 : Int)) H4))))

theorem runs_Reader_Next.of {r : Option Addr} {H : Heap} {R : (Sl × Bool × Int) → Heap → Prop} (hvc : runs_Reader_Next.vc r H R) : runs_Reader_Next.sp r H R :=
  specT_of_vc prog_ng prog_mixed (c := (cTup [cSl, cBool, (cInt .i64)])) (A := []) (args := [(.pointer r)]) (Eq.mpr (by kernel_rfl : vcFT (cTup [cSl, cBool, (cInt .i64)]) Tryz.prog runs_Reader_Next.no [] [(.pointer r)] H R = runs_Reader_Next.vc r H R) hvc)

/-- fathom/runs.Open -/
def runs_Open.vc (p : Option Addr) (name : ByteArray) (width : Int) (H : Heap) (R : (Option Addr × Int) → Heap → Prop) : Prop :=
  runs_based.sp p name width H fun (r : ((Option Addr × ByteArray × Int × Int × Int × Bool) × Int)) H1 => newC H1 (zc Tryz.prog ty_runs_base) ty_runs_base fun p_1 H2 => doU Tryz.prog (Instr.storeAt ty_runs_base (.pointer (some p_1)) (.agg #[(.pointer r.1.1), (.string r.1.2.1), (.int .i64 r.1.2.2.1), (.int .i64 r.1.2.2.2.1), (.int .i64 r.1.2.2.2.2.1), (.bool r.1.2.2.2.2.2)])) H2 fun H3 => br (r.2 != (0 : Int)) (R (none, r.2) H3) (runs_base_look.sp (some p_1) (0 : Int) H3 fun (r_1 : (Int × Sl × Int)) H4 => br (r_1.2.2 != (0 : Int)) (R (none, r_1.2.2) H4) (br ((r_1.1 != (2 : Int)) || ((r_1.2.1.n : Int) != (9 : Int))) (R (none, (280 : Int)) H4) (optK r_1.2.1.a fun a => (0 ≤ (0 : Int) ∧ (0 : Int) < (r_1.2.1.n : Int)) ∧ ld (cInt .u8) H4 (a.add ((0 : Int).toNat * 1)) fun (x : Int) => br ((IntKind.i64.wrap x) != width) (R (none, (280 : Int)) H4) (pool_Pool_Disk.sp p H4 fun (r_2 : Option Addr) H5 => disk_Disk_Len.sp r_2 name H5 fun (r_3 : (Int × Int)) H6 => br (r_3.2 != (0 : Int)) (R (none, r_3.2) H6) ((0 ≤ (1 : Int) ∧ (1 : Int) ≤ (r_1.2.1.n : Int)) ∧ row_Get.sp (Sl.mk (slA r_1.2.1.a r_1.2.1.c ((1 : Int).toNat) 1) (r_1.2.1.n - ((1 : Int).toNat)) (r_1.2.1.c - ((1 : Int).toNat))) (1 : Int) H6 fun (r_4 : (Sl × Int)) H7 => optK r_4.1.a fun a_1 => (0 ≤ (0 : Int) ∧ (0 : Int) < (r_4.1.n : Int)) ∧ ld cSl H7 (a_1.add ((0 : Int).toNat * 1)) fun (x_1 : Sl) => optK x_1.a fun a_2 => (0 ≤ (0 : Int) ∧ (0 : Int) < (x_1.n : Int)) ∧ ld (cInt .u64) H7 (a_2.add ((0 : Int).toNat * 1)) fun (rows : Int) => br (decide (rows ≤ (528482304 : Int))) (runs_base_pages.sp (some p_1) (IntKind.i64.wrap rows) H7 fun (r_5 : Int) H8 => br (r_3.1 == (IntKind.i64.wrap ((1 : Int) + r_5))) (ldA (cAgg [cPtr, cStr, (cInt .i64), (cInt .i64), (cInt .i64), cBool]) 6 H8 p_1 fun (x_2 : (Option Addr × ByteArray × Int × Int × Int × Bool)) => newC H8 #[(.pointer x_2.1), (.string x_2.2.1), (.int .i64 x_2.2.2.1), (.int .i64 x_2.2.2.2.1), (.int .i64 x_2.2.2.2.2.1), (.bool x_2.2.2.2.2.2), (.int .i64 (IntKind.i64.wrap rows)), (.int .i64 (0 : Int)), (.int .i64 (-1 : Int)), (.slice none 0 0)] ty_runs_Reader fun p_2 H9 => R (some p_2, (0 : Int)) H9) (R (none, (280 : Int)) H8)) (R (none, (280 : Int)) H7))))))

theorem runs_Open.of {p : Option Addr} {name : ByteArray} {width : Int} {H : Heap} {R : (Option Addr × Int) → Heap → Prop} (hvc : runs_Open.vc p name width H R) : runs_Open.sp p name width H R :=
  specT_of_vc prog_ng prog_mixed (c := (cTup [cPtr, (cInt .i64)])) (A := []) (args := [(.pointer p), (.string name), (.int .i64 width)]) (Eq.mpr (by kernel_rfl : vcFT (cTup [cPtr, (cInt .i64)]) Tryz.prog runs_Open.no [] [(.pointer p), (.string name), (.int .i64 width)] H R = runs_Open.vc p name width H R) hvc)

/-- (*fathom/runs.Reader).Close -/
def runs_Reader_Close.vc (r : Option Addr) (H : Heap) (R : Unit → Heap → Prop) : Prop :=
  br (!r.isNone) (optK r fun a => st H ((a.add 0).add 5) (.bool true) fun H1 => R () H1) (R () H)

theorem runs_Reader_Close.of {r : Option Addr} {H : Heap} {R : Unit → Heap → Prop} (hvc : runs_Reader_Close.vc r H R) : runs_Reader_Close.sp r H R :=
  specT_of_vc prog_ng prog_mixed (c := (cTup [])) (A := []) (args := [(.pointer r)]) (Eq.mpr (by kernel_rfl : vcFT (cTup []) Tryz.prog runs_Reader_Close.no [] [(.pointer r)] H R = runs_Reader_Close.vc r H R) hvc)

/-- (*fathom/runs.Reader).Rows -/
def runs_Reader_Rows.vc (r : Option Addr) (H : Heap) (R : Int → Heap → Prop) : Prop :=
  br r.isNone (R (0 : Int) H) (optK r fun a => ld (cInt .i64) H (a.add 6) fun (x : Int) => R x H)

theorem runs_Reader_Rows.of {r : Option Addr} {H : Heap} {R : Int → Heap → Prop} (hvc : runs_Reader_Rows.vc r H R) : runs_Reader_Rows.sp r H R :=
  specT_of_vc prog_ng prog_mixed (c := (cInt .i64)) (A := []) (args := [(.pointer r)]) (Eq.mpr (by kernel_rfl : vcFT (cInt .i64) Tryz.prog runs_Reader_Rows.no [] [(.pointer r)] H R = runs_Reader_Rows.vc r H R) hvc)

/-- (*fathom/runs.Reader).Seek -/
def runs_Reader_Seek.vc (r : Option Addr) (low : Sl) (H : Heap) (R : Int → Heap → Prop) : Prop :=
  newC H #[(.pointer r)] ty_ptr_runs_Reader fun p H1 => newC H1 #[low.v] ty_sl_uint64 fun p_1 H2 => ld cPtr H2 p fun (x : Option Addr) => br x.isNone (R (1 : Int) H2) (ld cPtr H2 p fun (x_1 : Option Addr) => optK x_1 fun a => runs_base_ready.sp (some (a.add 0)) H2 fun (e : Int) H3 => br (e != (0 : Int)) (R e H3) (ld cSl H3 p_1 fun (x_2 : Sl) => ld cPtr H3 p fun (x_3 : Option Addr) => optK x_3 fun a_1 => ld (cInt .i64) H3 ((a_1.add 0).add 2) fun (x_4 : Int) => br (decide ((x_2.n : Int) > x_4)) (R (60 : Int) H3) (ld cPtr H3 p fun (x_5 : Option Addr) => optK x_5 fun a_2 => ld cPtr H3 p fun (x_6 : Option Addr) => optK x_6 fun a_3 => ld (cInt .i64) H3 (a_3.add 6) fun (x_7 : Int) => runs_base_pages.sp (some (a_2.add 0)) x_7 H3 fun (n : Int) H4 => sort_Search.sp n p p_1 H4 fun (k : Int) H5 => ld cPtr H5 p fun (x_8 : Option Addr) => optK x_8 fun a_4 => ld (cInt .i64) H5 ((a_4.add 0).add 4) fun (x_9 : Int) => br (x_9 != (0 : Int)) (ld cPtr H5 p fun (x_10 : Option Addr) => optK x_10 fun a_5 => ld (cInt .i64) H5 ((a_5.add 0).add 4) fun (x_11 : Int) => R x_11 H5) (br (k == n) (ld cPtr H5 p fun (x_12 : Option Addr) => ld cPtr H5 p fun (x_13 : Option Addr) => optK x_13 fun a_6 => ld (cInt .i64) H5 (a_6.add 6) fun (x_14 : Int) => optK x_12 fun a_7 => st H5 (a_7.add 7) (.int .i64 x_14) fun H6 => R (0 : Int) H6) (ld cPtr H5 p fun (x_15 : Option Addr) => runs_Reader_load.sp x_15 k H5 fun (e_1 : Int) H7 => br (e_1 != (0 : Int)) (R e_1 H7) (ld cPtr H7 p fun (x_16 : Option Addr) => optK x_16 fun a_8 => ld cSl H7 (a_8.add 9) fun (x_17 : Sl) => ld cSl H7 p_1 fun (x_18 : Sl) => slices_BinarySearchFunc_sl_sl_uint64_sl_uint64_sl_uint64.sp x_17 x_18 H7 fun (r_1 : (Int × Bool)) H8 => ld cPtr H8 p fun (x_19 : Option Addr) => ld cPtr H8 p fun (x_20 : Option Addr) => optK x_20 fun a_9 => ld (cInt .i64) H8 ((a_9.add 0).add 3) fun (x_21 : Int) => optK x_19 fun a_10 => st H8 (a_10.add 7) (.int .i64 (IntKind.i64.wrap ((IntKind.i64.wrap (k * x_21)) + r_1.1))) fun H9 => R (0 : Int) H9))))))

theorem runs_Reader_Seek.of {r : Option Addr} {low : Sl} {H : Heap} {R : Int → Heap → Prop} (hvc : runs_Reader_Seek.vc r low H R) : runs_Reader_Seek.sp r low H R :=
  specT_of_vc prog_ng prog_mixed (c := (cInt .i64)) (A := []) (args := [(.pointer r), low.v]) (Eq.mpr (by kernel_rfl : vcFT (cInt .i64) Tryz.prog runs_Reader_Seek.no [] [(.pointer r), low.v] H R = runs_Reader_Seek.vc r low H R) hvc)

/-- (*fathom/disk.Disk).Crash -/
def disk_Disk_Crash.vc (d : Option Addr) (p : Int) (keep : Int) (H : Heap) (R : Unit → Heap → Prop) : Prop :=
  disk_Disk_ready.sp d H fun (r : Int) H1 => br (r == (0 : Int)) (optK d fun a => doU Tryz.prog (Instr.storeAt ty_disk_crash (.pointer (some (a.add 6))) (.agg #[(.bool true), (.int .i64 (if (0 : Int) > p then (0 : Int) else p)), (.int .u64 keep)])) H1 fun H2 => R () H2) (R () H1)

theorem disk_Disk_Crash.of {d : Option Addr} {p : Int} {keep : Int} {H : Heap} {R : Unit → Heap → Prop} (hvc : disk_Disk_Crash.vc d p keep H R) : disk_Disk_Crash.sp d p keep H R :=
  specT_of_vc prog_ng prog_mixed (c := (cTup [])) (A := []) (args := [(.pointer d), (.int .i64 p), (.int .u64 keep)]) (Eq.mpr (by kernel_rfl : vcFT (cTup []) Tryz.prog disk_Disk_Crash.no [] [(.pointer d), (.int .i64 p), (.int .u64 keep)] H R = disk_Disk_Crash.vc d p keep H R) hvc)

/-- (*fathom/disk.Disk).Create -/
def disk_Disk_Create.vc (d : Option Addr) (name : ByteArray) (H : Heap) (R : Int → Heap → Prop) : Prop :=
  disk_Disk_ready.sp d H fun (e : Int) H1 => br (e != (0 : Int)) (R e H1) (optK d fun a => ld cMap H1 (a.add 0) fun (x : Option Nat) => rdV (cTup [cPtr, cBool]) Tryz.prog (Instr.lookup ty_maparr_string_ptr_disk_file (.map x) (.string name) true) H1 fun (x_1 : (Option Addr × Bool)) => disk_named.sp name H1 fun (r : Bool) H2 => br (!r) (R (2 : Int) H2) (br x_1.2 (R (10 : Int) H2) (optK d fun a_1 => ld cMap H2 (a_1.add 0) fun (x_2 : Option Nat) => lenM H2 x_2 fun (n : Nat) => br ((n : Int) == (4096 : Int)) (R (3 : Int) H2) (disk_Disk_change.sp d H2 fun (e_1 : Int) H3 => br (e_1 == (0 : Int)) (optK d fun a_2 => ld cMap H3 (a_2.add 0) fun (x_3 : Option Nat) => newC H3 #[(.slice none 0 0), (.slice none 0 0), (.slice none 0 0)] ty_disk_file fun p H4 => doU Tryz.prog (Instr.mapUpdate ty_maparr_string_ptr_disk_file (.map x_3) (.string name) (.pointer (some p))) H4 fun H5 => R e_1 H5) (R e_1 H3)))))

theorem disk_Disk_Create.of {d : Option Addr} {name : ByteArray} {H : Heap} {R : Int → Heap → Prop} (hvc : disk_Disk_Create.vc d name H R) : disk_Disk_Create.sp d name H R :=
  specT_of_vc prog_ng prog_mixed (c := (cInt .i64)) (A := []) (args := [(.pointer d), (.string name)]) (Eq.mpr (by kernel_rfl : vcFT (cInt .i64) Tryz.prog disk_Disk_Create.no [] [(.pointer d), (.string name)] H R = disk_Disk_Create.vc d name H R) hvc)

/-- (*fathom/disk.Disk).Restart -/
def disk_Disk_Restart.vc (d : Option Addr) (H : Heap) (R : Unit → Heap → Prop) : Prop :=
  br d.isNone (R () H) (optK d fun a => ld cBool H (a.add 9) fun (x : Bool) => br (!x) (R () H) (optK d fun a_1 => ld cMap H (a_1.add 0) fun (x_1 : Option Nat) => doT cPtr Tryz.prog (Instr.range ty_maparr_string_ptr_disk_file (.map x_1)) H fun (it : Option Addr) H1 => LoopVC Sl (Sl.mk none 0 0) H1 fun next order H2 => doT cNext Tryz.prog (Instr.next (.pointer it) false ty_) H2 fun (nx : Bool × List Value) H3 => br nx.1 (doT cTwo Tryz.prog (Instr.entry (.pointer it)) H3 fun (en : Value × Value) H4 => asT cPtr en.2 fun (f : Option Addr) => optK f fun a_2 => ld cSl H4 (a_2.add 2) fun (x_2 : Sl) => LoopVC (Sl × Int) (order, (0 : Int)) H4 fun next_1 z H5 => br (decide (z.2 < (x_2.n : Int))) (optK x_2.a fun a_3 => (0 ≤ z.2 ∧ z.2 < (x_2.n : Int)) ∧ ldA cArr 514 H5 (a_3.add (z.2.toNat * 514)) fun (x_3 : Array Value) => newC H5 (zc Tryz.prog ty_disk_mark) ty_disk_mark fun p H6 => doU Tryz.prog (Instr.storeAt ty_disk_mark (.pointer (some p)) (.agg x_3)) H6 fun H7 => ld (cInt .i64) H7 (p.add 0) fun (x_4 : Int) => newC H7 #[(.int .i64 x_4)] ty_int fun p_1 H8 => doT cSl Tryz.prog (Builtin.append_ #[ty_sl_int, ty_sl_int] ty_sl_int #[z.1.v, (.slice (some p_1) 1 1)]) H8 fun (order_1 : Sl) H9 => next_1 (order_1, IntKind.i64.wrap (z.2 + (1 : Int))) H9) (next z.1 H5)) (slices_Sort_sl_int_int.sp order H3 fun (_ : Unit) H10 => optK d fun a_4 => st H10 (a_4.add 1) (.int .i64 (0 : Int)) fun H11 => optK d fun a_5 => ld cMap H11 (a_5.add 0) fun (x_5 : Option Nat) => doT cPtr Tryz.prog (Instr.range ty_maparr_string_ptr_disk_file (.map x_5)) H11 fun (it_1 : Option Addr) H12 => LoopVC Unit () H12 fun next_2 _ H13 => doT cNext Tryz.prog (Instr.next (.pointer it_1) false ty_) H13 fun (nx_1 : Bool × List Value) H14 => br nx_1.1 (doT cTwo Tryz.prog (Instr.entry (.pointer it_1)) H14 fun (en_1 : Value × Value) H15 => asT cPtr en_1.2 fun (f_1 : Option Addr) => optK f_1 fun a_6 => ld cSl H15 (a_6.add 1) fun (x_6 : Sl) => slices_Clone_sl_disk_sheet_disk_sheet.sp x_6 H15 fun (r_1 : Sl) H16 => optK f_1 fun a_7 => st H16 (a_7.add 0) r_1.v fun H17 => optK f_1 fun a_8 => ld cSl H17 (a_8.add 2) fun (x_7 : Sl) => LoopVC Int (0 : Int) H17 fun next_3 z_2 H18 => br (decide (z_2 < (x_7.n : Int))) (optK x_7.a fun a_9 => (0 ≤ z_2 ∧ z_2 < (x_7.n : Int)) ∧ ldA cArr 514 H18 (a_9.add (z_2.toNat * 514)) fun (x_8 : Array Value) => newC H18 (zc Tryz.prog ty_disk_mark) ty_disk_mark fun p_2 H19 => doU Tryz.prog (Instr.storeAt ty_disk_mark (.pointer (some p_2)) (.agg x_8)) H19 fun H20 => ld (cInt .i64) H20 (p_2.add 0) fun (x_9 : Int) => slices_BinarySearch_sl_int_int.sp order x_9 H20 fun (r_2 : (Int × Bool)) H21 => optK d fun a_10 => ld (cInt .u64) H21 ((a_10.add 6).add 2) fun (x_10 : Int) => 0 ≤ (Int.tmod r_2.1 (64 : Int)) ∧ br ((iand .u64 (ishr .u64 x_10 (Int.tmod r_2.1 (64 : Int))) (1 : Int)) == (1 : Int)) (optK f_1 fun a_11 => ld cSl H21 (a_11.add 0) fun (x_11 : Sl) => ld (cInt .i64) H21 (p_2.add 1) fun (x_12 : Int) => ldA cArr 512 H21 (p_2.add 2) fun (x_13 : Array Value) => disk_put.sp x_11 x_12 x_13 H21 fun (r_3 : Sl) H22 => optK f_1 fun a_12 => st H22 (a_12.add 0) r_3.v fun H23 => next_3 (IntKind.i64.wrap (z_2 + (1 : Int))) H23) (next_3 (IntKind.i64.wrap (z_2 + (1 : Int))) H21)) (optK f_1 fun a_13 => ld cSl H18 (a_13.add 0) fun (x_14 : Sl) => slices_Clone_sl_disk_sheet_disk_sheet.sp x_14 H18 fun (r_4 : Sl) H24 => optK f_1 fun a_14 => st H24 (a_14.add 1) r_4.v fun H25 => optK f_1 fun a_15 => st H25 (a_15.add 2) (.slice none 0 0) fun H26 => optK d fun a_16 => ld (cInt .i64) H26 (a_16.add 1) fun (x_15 : Int) => optK f_1 fun a_17 => ld cSl H26 (a_17.add 0) fun (x_16 : Sl) => optK d fun a_18 => st H26 (a_18.add 1) (.int .i64 (IntKind.i64.wrap (x_15 + (x_16.n : Int)))) fun H27 => next_2 () H27)) (optK d fun a_19 => st H14 (a_19.add 9) (.bool false) fun H28 => optK d fun a_20 => doU Tryz.prog (Instr.storeAt ty_disk_crash (.pointer (some (a_20.add 6))) (.agg #[(.bool false), (.int .i64 (0 : Int)), (.int .u64 (0 : Int))])) H28 fun H29 => R () H29))))

theorem disk_Disk_Restart.of {d : Option Addr} {H : Heap} {R : Unit → Heap → Prop} (hvc : disk_Disk_Restart.vc d H R) : disk_Disk_Restart.sp d H R :=
  specT_of_vc prog_ng prog_mixed (c := (cTup [])) (A := [(3, [(2, cSl)]), (6, [(2, cSl), (36, (cInt .i64))]), (13, []), (17, [(73, (cInt .i64))])]) (args := [(.pointer d)]) (Eq.mpr (by kernel_rfl : vcFT (cTup []) Tryz.prog disk_Disk_Restart.no [(3, [(2, cSl)]), (6, [(2, cSl), (36, (cInt .i64))]), (13, []), (17, [(73, (cInt .i64))])] [(.pointer d)] H R = disk_Disk_Restart.vc d H R) hvc)

/-- fathom/fathomlaw07.reads -/
def fathomlaw07_reads.vc (r : Option Addr) (rows : Sl) (H : Heap) (R : Bool → Heap → Prop) : Prop :=
  LoopVC Int (0 : Int) H fun next i H1 => br (decide (i < (rows.n : Int))) (runs_Reader_Next.sp r H1 fun (r_1 : (Sl × Bool × Int)) H2 => br ((r_1.2.2 != (0 : Int)) || (!r_1.2.1)) (R false H2) (optK rows.a fun a => (0 ≤ i ∧ i < (rows.n : Int)) ∧ ld cSl H2 (a.add (i.toNat * 1)) fun (x : Sl) => fathomkit_SameRow.sp r_1.1 x H2 fun (r_2 : Bool) H3 => br (!r_2) (R false H3) (next (IntKind.i64.wrap (i + (1 : Int))) H3))) (runs_Reader_Next.sp r H1 fun (r_3 : (Sl × Bool × Int)) H4 => R ((((r_3.1.n : Int) == (0 : Int)) && (!r_3.2.1)) && (r_3.2.2 == (0 : Int))) H4)

theorem fathomlaw07_reads.of {r : Option Addr} {rows : Sl} {H : Heap} {R : Bool → Heap → Prop} (hvc : fathomlaw07_reads.vc r rows H R) : fathomlaw07_reads.sp r rows H R :=
  specT_of_vc prog_ng prog_mixed (c := cBool) (A := [(2, [(5, (cInt .i64))])]) (args := [(.pointer r), rows.v]) (Eq.mpr (by kernel_rfl : vcFT cBool Tryz.prog fathomlaw07_reads.no [(2, [(5, (cInt .i64))])] [(.pointer r), rows.v] H R = fathomlaw07_reads.vc r rows H R) hvc)

/-- fathom/row.Cmp -/
def row_Cmp.vc (a : Sl) (b : Sl) (H : Heap) (R : Int → Heap → Prop) : Prop :=
  slices_CompareFunc_sl_uint64_sl_uint64_uint64_uint64.sp a b H fun (r : Int) H1 => R r H1

theorem row_Cmp.of {a : Sl} {b : Sl} {H : Heap} {R : Int → Heap → Prop} (hvc : row_Cmp.vc a b H R) : row_Cmp.sp a b H R :=
  specT_of_vc prog_ng prog_mixed (c := (cInt .i64)) (A := []) (args := [a.v, b.v]) (Eq.mpr (by kernel_rfl : vcFT (cInt .i64) Tryz.prog row_Cmp.no [] [a.v, b.v] H R = row_Cmp.vc a b H R) hvc)

/-- (*fathom/pool.Pool).Pinned -/
def pool_Pool_Pinned.vc (p : Option Addr) (H : Heap) (R : Int → Heap → Prop) : Prop :=
  br (!p.isNone) (optK p fun a => ld cMap H (a.add 2) fun (x : Option Nat) => doT cPtr Tryz.prog (Instr.range ty_maparr_pool_spot_ptr_pool_frame (.map x)) H fun (it : Option Addr) H1 => LoopVC Int (0 : Int) H1 fun next n H2 => doT cNext Tryz.prog (Instr.next (.pointer it) false ty_) H2 fun (nx : Bool × List Value) H3 => br nx.1 (doT cTwo Tryz.prog (Instr.entry (.pointer it)) H3 fun (en : Value × Value) H4 => asT cPtr en.2 fun (f : Option Addr) => optK f fun a_1 => ld (cInt .i64) H4 (a_1.add 5) fun (x_1 : Int) => next (IntKind.i64.wrap (n + (if (1 : Int) < x_1 then (1 : Int) else x_1))) H4) (R n H3)) (R (0 : Int) H)

theorem pool_Pool_Pinned.of {p : Option Addr} {H : Heap} {R : Int → Heap → Prop} (hvc : pool_Pool_Pinned.vc p H R) : pool_Pool_Pinned.sp p H R :=
  specT_of_vc prog_ng prog_mixed (c := (cInt .i64)) (A := [(4, [(3, (cInt .i64))])]) (args := [(.pointer p)]) (Eq.mpr (by kernel_rfl : vcFT (cInt .i64) Tryz.prog pool_Pool_Pinned.no [(4, [(3, (cInt .i64))])] [(.pointer p)] H R = pool_Pool_Pinned.vc p H R) hvc)

/-- fathom/row.size -/
def row_size.vc (width : Int) (H : Heap) (R : Int → Heap → Prop) : Prop :=
  br (decide (width < (0 : Int))) (br (decide (width < (0 : Int))) (R (0 : Int) H) (br (width == (0 : Int)) (R (1 : Int) H) (R (IntKind.i64.wrap ((8 : Int) * width)) H))) (br (decide (width > (16 : Int))) (R (0 : Int) H) (br (width == (0 : Int)) (R (1 : Int) H) (R (IntKind.i64.wrap ((8 : Int) * width)) H)))

theorem row_size.of {width : Int} {H : Heap} {R : Int → Heap → Prop} (hvc : row_size.vc width H R) : row_size.sp width H R :=
  specT_of_vc prog_ng prog_mixed (c := (cInt .i64)) (A := []) (args := [(.int .i64 width)]) (Eq.mpr (by kernel_rfl : vcFT (cInt .i64) Tryz.prog row_size.no [] [(.int .i64 width)] H R = row_size.vc width H R) hvc)

/-- fathom/runs.based -/
def runs_based.vc (p : Option Addr) (name : ByteArray) (width : Int) (H : Heap) (R : ((Option Addr × ByteArray × Int × Int × Int × Bool) × Int) → Heap → Prop) : Prop :=
  newC H (zc Tryz.prog ty_runs_base) ty_runs_base fun p_1 H1 => row_Room.sp width H1 fun (r : Int) H2 => newC H2 (zc Tryz.prog ty_runs_base) ty_runs_base fun p_2 H3 => doU Tryz.prog (Instr.storeAt ty_runs_base (.pointer (some p_2)) (.agg #[(.pointer p), (.string name), (.int .i64 width), (.int .i64 r), (.int .i64 (0 : Int)), (.bool false)])) H3 fun H4 => cut Unit (fun J => br p.isNone (ldA (cAgg [cPtr, cStr, (cInt .i64), (cInt .i64), (cInt .i64), cBool]) 6 H4 p_2 fun (x : (Option Addr × ByteArray × Int × Int × Int × Bool)) => doU Tryz.prog (Instr.storeAt ty_runs_base (.pointer (some p_1)) (.agg #[(.pointer x.1), (.string x.2.1), (.int .i64 x.2.2.1), (.int .i64 x.2.2.2.1), (.int .i64 x.2.2.2.2.1), (.bool x.2.2.2.2.2)])) H4 fun H6 => ldA (cAgg [cPtr, cStr, (cInt .i64), (cInt .i64), (cInt .i64), cBool]) 6 H6 p_1 fun (res : (Option Addr × ByteArray × Int × Int × Int × Bool)) => R ((res.1, res.2.1, res.2.2.1, res.2.2.2.1, res.2.2.2.2.1, res.2.2.2.2.2), (1 : Int)) H6) (ld (cInt .i64) H4 (p_2.add 3) fun (x_1 : Int) => br (x_1 == (0 : Int)) (ldA (cAgg [cPtr, cStr, (cInt .i64), (cInt .i64), (cInt .i64), cBool]) 6 H4 p_2 fun (x_2 : (Option Addr × ByteArray × Int × Int × Int × Bool)) => doU Tryz.prog (Instr.storeAt ty_runs_base (.pointer (some p_1)) (.agg #[(.pointer x_2.1), (.string x_2.2.1), (.int .i64 x_2.2.2.1), (.int .i64 x_2.2.2.2.1), (.int .i64 x_2.2.2.2.2.1), (.bool x_2.2.2.2.2.2)])) H4 fun H7 => ldA (cAgg [cPtr, cStr, (cInt .i64), (cInt .i64), (cInt .i64), cBool]) 6 H7 p_1 fun (res_1 : (Option Addr × ByteArray × Int × Int × Int × Bool)) => R ((res_1.1, res_1.2.1, res_1.2.2.1, res_1.2.2.2.1, res_1.2.2.2.2.1, res_1.2.2.2.2.2), (60 : Int)) H7) (J () H4))) fun (_ : Unit) H5 => ldA (cAgg [cPtr, cStr, (cInt .i64), (cInt .i64), (cInt .i64), cBool]) 6 H5 p_2 fun (x_3 : (Option Addr × ByteArray × Int × Int × Int × Bool)) => doU Tryz.prog (Instr.storeAt ty_runs_base (.pointer (some p_1)) (.agg #[(.pointer x_3.1), (.string x_3.2.1), (.int .i64 x_3.2.2.1), (.int .i64 x_3.2.2.2.1), (.int .i64 x_3.2.2.2.2.1), (.bool x_3.2.2.2.2.2)])) H5 fun H8 => ldA (cAgg [cPtr, cStr, (cInt .i64), (cInt .i64), (cInt .i64), cBool]) 6 H8 p_1 fun (res_2 : (Option Addr × ByteArray × Int × Int × Int × Bool)) => R ((res_2.1, res_2.2.1, res_2.2.2.1, res_2.2.2.2.1, res_2.2.2.2.2.1, res_2.2.2.2.2.2), (0 : Int)) H8

theorem runs_based.of {p : Option Addr} {name : ByteArray} {width : Int} {H : Heap} {R : ((Option Addr × ByteArray × Int × Int × Int × Bool) × Int) → Heap → Prop} (hvc : runs_based.vc p name width H R) : runs_based.sp p name width H R :=
  specT_of_vc prog_ng prog_mixed (c := (cTup [(cAgg [cPtr, cStr, (cInt .i64), (cInt .i64), (cInt .i64), cBool]), (cInt .i64)])) (A := [(100006, [])]) (args := [(.pointer p), (.string name), (.int .i64 width)]) (Eq.mpr (by kernel_rfl : vcFT (cTup [(cAgg [cPtr, cStr, (cInt .i64), (cInt .i64), (cInt .i64), cBool]), (cInt .i64)]) Tryz.prog runs_based.no [(100006, [])] [(.pointer p), (.string name), (.int .i64 width)] H R = runs_based.vc p name width H R) hvc)

/-- (*fathom/pool.Pool).Disk -/
def pool_Pool_Disk.vc (p : Option Addr) (H : Heap) (R : Option Addr → Heap → Prop) : Prop :=
  br p.isNone (R none H) (optK p fun a => ld cPtr H (a.add 0) fun (x : Option Addr) => R x H)

theorem pool_Pool_Disk.of {p : Option Addr} {H : Heap} {R : Option Addr → Heap → Prop} (hvc : pool_Pool_Disk.vc p H R) : pool_Pool_Disk.sp p H R :=
  specT_of_vc prog_ng prog_mixed (c := cPtr) (A := []) (args := [(.pointer p)]) (Eq.mpr (by kernel_rfl : vcFT cPtr Tryz.prog pool_Pool_Disk.no [] [(.pointer p)] H R = pool_Pool_Disk.vc p H R) hvc)

/-- (*fathom/runs.base).put -/
def runs_base_put.vc (b : Option Addr) (kind : Int) (p : Sl) (H : Heap) (R : Int → Heap → Prop) : Prop :=
  optK b fun a => ld cPtr H (a.add 0) fun (x : Option Addr) => optK b fun a_1 => ld cStr H (a_1.add 1) fun (x_1 : ByteArray) => pool_Pool_Fresh.sp x x_1 H fun (r : (Int × Int × Int)) H1 => br ((r.2.2 == (0 : Int)) && (kind != (0 : Int))) (optK b fun a_2 => ld cPtr H1 (a_2.add 0) fun (x_2 : Option Addr) => pool_Pool_Put.sp x_2 r.1 kind p H1 fun (e : Int) H2 => br (e == (0 : Int)) (optK b fun a_3 => ld cPtr H2 (a_3.add 0) fun (x_3 : Option Addr) => pool_Pool_Unpin.sp x_3 r.1 H2 fun (e_1 : Int) H3 => R e_1 H3) (R e H2)) (br (r.2.2 == (0 : Int)) (optK b fun a_4 => ld cPtr H1 (a_4.add 0) fun (x_4 : Option Addr) => pool_Pool_Unpin.sp x_4 r.1 H1 fun (e_2 : Int) H4 => R e_2 H4) (R r.2.2 H1))

theorem runs_base_put.of {b : Option Addr} {kind : Int} {p : Sl} {H : Heap} {R : Int → Heap → Prop} (hvc : runs_base_put.vc b kind p H R) : runs_base_put.sp b kind p H R :=
  specT_of_vc prog_ng prog_mixed (c := (cInt .i64)) (A := []) (args := [(.pointer b), (.int .u8 kind), p.v]) (Eq.mpr (by kernel_rfl : vcFT (cInt .i64) Tryz.prog runs_base_put.no [] [(.pointer b), (.int .u8 kind), p.v] H R = runs_base_put.vc b kind p H R) hvc)

/-- (*fathom/runs.base).ready -/
def runs_base_ready.vc (b : Option Addr) (H : Heap) (R : Int → Heap → Prop) : Prop :=
  optK b fun a => ld (cInt .i64) H (a.add 4) fun (x : Int) => br (x != (0 : Int)) (optK b fun a_1 => ld (cInt .i64) H (a_1.add 4) fun (x_1 : Int) => R x_1 H) (optK b fun a_2 => ld cBool H (a_2.add 5) fun (x_2 : Bool) => br x_2 (R (2 : Int) H) (R (0 : Int) H))

theorem runs_base_ready.of {b : Option Addr} {H : Heap} {R : Int → Heap → Prop} (hvc : runs_base_ready.vc b H R) : runs_base_ready.sp b H R :=
  specT_of_vc prog_ng prog_mixed (c := (cInt .i64)) (A := []) (args := [(.pointer b)]) (Eq.mpr (by kernel_rfl : vcFT (cInt .i64) Tryz.prog runs_base_ready.no [] [(.pointer b)] H R = runs_base_ready.vc b H R) hvc)

/-- fathom/row.Put -/
def row_Put.vc (l : Sl) (H : Heap) (R : Sl → Heap → Prop) : Prop :=
  br ((l.n : Int) == (0 : Int)) (newC H #[(.int .u8 (0 : Int))] ty_uint8 fun p H1 => R (Sl.mk (some p) 1 1) H1) (doT cSl Tryz.prog (Instr.makeSlice ty_sl_uint8 (.int .i64 (0 : Int)) (.int .i64 (IntKind.i64.wrap ((8 : Int) * (l.n : Int))))) H fun (out : Sl) H2 => LoopVC (Sl × Int) (out, (0 : Int)) H2 fun next z H3 => br (decide (z.2 < (l.n : Int))) (optK l.a fun a => (0 ≤ z.2 ∧ z.2 < (l.n : Int)) ∧ ld (cInt .u64) H3 (a.add (z.2.toNat * 1)) fun (n : Int) => row_word_of.sp (zc Tryz.prog ty_row_word) n H3 fun (r : Array Value) H4 => newC H4 (zc Tryz.prog ty_row_word) ty_row_word fun p_1 H5 => doU Tryz.prog (Instr.storeAt ty_row_word (.pointer (some p_1)) (.agg r)) H5 fun H6 => doT cSl Tryz.prog (Builtin.append_ #[ty_sl_uint8, ty_sl_uint8] ty_sl_uint8 #[z.1.v, (.slice (slA (some p_1) 8 0 1) (8 - 0) (8 - 0))]) H6 fun (out_1 : Sl) H7 => next (out_1, IntKind.i64.wrap (z.2 + (1 : Int))) H7) (R z.1 H3))

theorem row_Put.of {l : Sl} {H : Heap} {R : Sl → Heap → Prop} (hvc : row_Put.vc l H R) : row_Put.sp l H R :=
  specT_of_vc prog_ng prog_mixed (c := cSl) (A := [(5, [(3, cSl), (17, (cInt .i64))])]) (args := [l.v]) (Eq.mpr (by kernel_rfl : vcFT cSl Tryz.prog row_Put.no [(5, [(3, cSl), (17, (cInt .i64))])] [l.v] H R = row_Put.vc l H R) hvc)

/-- slices.Clone[[]uint64,uint64] -/
def slices_Clone_sl_uint64_uint64.vc (s : Sl) (H : Heap) (R : Sl → Heap → Prop) : Prop :=
  br s.a.isNone (R (Sl.mk none 0 0) H) (newC H #[] ty_uint64 fun p H1 => doT cSl Tryz.prog (Builtin.append_ #[ty_sl_uint64, ty_sl_uint64] ty_sl_uint64 #[(.slice (some p) 0 0), s.v]) H1 fun (s_1 : Sl) H2 => R s_1 H2)

theorem slices_Clone_sl_uint64_uint64.of {s : Sl} {H : Heap} {R : Sl → Heap → Prop} (hvc : slices_Clone_sl_uint64_uint64.vc s H R) : slices_Clone_sl_uint64_uint64.sp s H R :=
  specT_of_vc prog_ng prog_mixed (c := cSl) (A := []) (args := [s.v]) (Eq.mpr (by kernel_rfl : vcFT cSl Tryz.prog slices_Clone_sl_uint64_uint64.no [] [s.v] H R = slices_Clone_sl_uint64_uint64.vc s H R) hvc)

/-- (*fathom/runs.Writer).out -/
def runs_Writer_out.vc (w : Option Addr) (H : Heap) (R : Int → Heap → Prop) : Prop :=
  optK w fun a => ld (cInt .i64) H (a.add 7) fun (x : Int) => br (x == (0 : Int)) (R (0 : Int) H) (optK w fun a_1 => optK w fun a_2 => ld cSl H (a_2.add 6) fun (x_1 : Sl) => runs_base_put.sp (some (a_1.add 0)) (1 : Int) x_1 H fun (e : Int) H1 => optK w fun a_3 => st H1 (a_3.add 6) (.slice none 0 0) fun H2 => optK w fun a_4 => st H2 (a_4.add 7) (.int .i64 (0 : Int)) fun H3 => optK w fun a_5 => runs_base_broke.sp (some (a_5.add 0)) e H3 fun (r : Int) H4 => R r H4)

theorem runs_Writer_out.of {w : Option Addr} {H : Heap} {R : Int → Heap → Prop} (hvc : runs_Writer_out.vc w H R) : runs_Writer_out.sp w H R :=
  specT_of_vc prog_ng prog_mixed (c := (cInt .i64)) (A := []) (args := [(.pointer w)]) (Eq.mpr (by kernel_rfl : vcFT (cInt .i64) Tryz.prog runs_Writer_out.no [] [(.pointer w)] H R = runs_Writer_out.vc w H R) hvc)

/-- (*fathom/pool.Pool).Pin -/
def pool_Pool_Pin.vc (p : Option Addr) (name : ByteArray) (page : Int) (H : Heap) (R : (Int × Int) → Heap → Prop) : Prop :=
  pool_Pool_ready.sp p H fun (e : Int) H1 => br (e != (0 : Int)) (R ((0 : Int), e) H1) (newC H1 (zc Tryz.prog ty_pool_spot) ty_pool_spot fun p_1 H2 => doU Tryz.prog (Instr.storeAt ty_pool_spot (.pointer (some p_1)) (.agg #[(.string name), (.int .i64 page)])) H2 fun H3 => optK p fun a => ld cMap H3 (a.add 2) fun (x : Option Nat) => ldA (cAgg [cStr, (cInt .i64)]) 2 H3 p_1 fun (x_1 : (ByteArray × Int)) => rdV (cTup [cPtr, cBool]) Tryz.prog (Instr.lookup ty_maparr_pool_spot_ptr_pool_frame (.map x) (.agg #[(.string x_1.1), (.int .i64 x_1.2)]) true) H3 fun (x_2 : (Option Addr × Bool)) => br x_2.2 (pool_Pool_pin.sp p x_2.1 H3 fun (r : Int) H4 => R (r, (0 : Int)) H4) (ldA (cAgg [cStr, (cInt .i64)]) 2 H3 p_1 fun (x_3 : (ByteArray × Int)) => pool_Pool_load.sp p x_3.1 x_3.2 H3 fun (r_1 : (Option Addr × Int)) H5 => br (r_1.2 != (0 : Int)) (pool_Pool_met.sp p r_1.2 H5 fun (r_2 : Int) H6 => R ((0 : Int), r_2) H6) (pool_Pool_take.sp p r_1.1 H5 fun (r_3 : Int) H7 => R (r_3, (0 : Int)) H7)))

theorem pool_Pool_Pin.of {p : Option Addr} {name : ByteArray} {page : Int} {H : Heap} {R : (Int × Int) → Heap → Prop} (hvc : pool_Pool_Pin.vc p name page H R) : pool_Pool_Pin.sp p name page H R :=
  specT_of_vc prog_ng prog_mixed (c := (cTup [(cInt .i64), (cInt .i64)])) (A := []) (args := [(.pointer p), (.string name), (.int .i64 page)]) (Eq.mpr (by kernel_rfl : vcFT (cTup [(cInt .i64), (cInt .i64)]) Tryz.prog pool_Pool_Pin.no [] [(.pointer p), (.string name), (.int .i64 page)] H R = pool_Pool_Pin.vc p name page H R) hvc)

/-- (*fathom/pool.Pool).Put -/
def pool_Pool_Put.vc (p : Option Addr) (h : Int) (kind : Int) (b : Sl) (H : Heap) (R : Int → Heap → Prop) : Prop :=
  pool_Pool_held.sp p h H fun (r : (Option Addr × Int)) H1 => br (r.2 != (0 : Int)) (R r.2 H1) (br (decide ((b.n : Int) > (504 : Int))) (R (2 : Int) H1) (slices_Clone_sl_byte_byte.sp b H1 fun (r_1 : Sl) H2 => optK r.1 fun a => st H2 (a.add 2) (.int .u8 kind) fun H3 => optK r.1 fun a_1 => st H3 (a_1.add 3) r_1.v fun H4 => optK r.1 fun a_2 => st H4 (a_2.add 4) (.bool true) fun H5 => R (0 : Int) H5))

theorem pool_Pool_Put.of {p : Option Addr} {h : Int} {kind : Int} {b : Sl} {H : Heap} {R : Int → Heap → Prop} (hvc : pool_Pool_Put.vc p h kind b H R) : pool_Pool_Put.sp p h kind b H R :=
  specT_of_vc prog_ng prog_mixed (c := (cInt .i64)) (A := []) (args := [(.pointer p), (.int .i64 h), (.int .u8 kind), b.v]) (Eq.mpr (by kernel_rfl : vcFT (cInt .i64) Tryz.prog pool_Pool_Put.no [] [(.pointer p), (.int .i64 h), (.int .u8 kind), b.v] H R = pool_Pool_Put.vc p h kind b H R) hvc)

/-- (*fathom/pool.Pool).Unpin -/
def pool_Pool_Unpin.vc (p : Option Addr) (h : Int) (H : Heap) (R : Int → Heap → Prop) : Prop :=
  pool_Pool_held.sp p h H fun (r : (Option Addr × Int)) H1 => br (r.2 != (0 : Int)) (R r.2 H1) (optK p fun a => ld cMap H1 (a.add 3) fun (x : Option Nat) => doT cRaw Tryz.prog (Builtin.delete_ #[ty_maparr_int_ptr_pool_frame, ty_int] ty_ #[(.map x), (.int .i64 h)]) H1 fun (_ : Value) H2 => optK p fun a_1 => ld (cInt .i64) H2 (a_1.add 5) fun (x_1 : Int) => optK p fun a_2 => st H2 (a_2.add 5) (.int .i64 (IntKind.i64.wrap (x_1 + (1 : Int)))) fun H3 => optK r.1 fun a_3 => ld (cInt .i64) H3 (a_3.add 5) fun (x_2 : Int) => optK p fun a_4 => ld (cInt .i64) H3 (a_4.add 5) fun (x_3 : Int) => optK r.1 fun a_5 => st H3 (a_5.add 5) (.int .i64 (IntKind.i64.wrap (x_2 - (1 : Int)))) fun H4 => optK r.1 fun a_6 => st H4 (a_6.add 6) (.int .i64 x_3) fun H5 => R (0 : Int) H5)

theorem pool_Pool_Unpin.of {p : Option Addr} {h : Int} {H : Heap} {R : Int → Heap → Prop} (hvc : pool_Pool_Unpin.vc p h H R) : pool_Pool_Unpin.sp p h H R :=
  specT_of_vc prog_ng prog_mixed (c := (cInt .i64)) (A := []) (args := [(.pointer p), (.int .i64 h)]) (Eq.mpr (by kernel_rfl : vcFT (cInt .i64) Tryz.prog pool_Pool_Unpin.no [] [(.pointer p), (.int .i64 h)] H R = pool_Pool_Unpin.vc p h H R) hvc)

/-- (*fathom/pool.Pool).Flush -/
def pool_Pool_Flush.vc (p : Option Addr) (name : ByteArray) (H : Heap) (R : Int → Heap → Prop) : Prop :=
  pool_Pool_ready.sp p H fun (e : Int) H1 => br (e != (0 : Int)) (R e H1) (optK p fun a => ld cPtr H1 (a.add 0) fun (x : Option Addr) => disk_Disk_Len.sp x name H1 fun (r : (Int × Int)) H2 => br (r.2 != (0 : Int)) (pool_Pool_met.sp p r.2 H2 fun (r_1 : Int) H3 => R r_1 H3) (pool_Pool_of.sp p name H2 fun (r_2 : Sl) H4 => LoopVC Int (0 : Int) H4 fun next z H5 => br (decide (z < (r_2.n : Int))) (optK r_2.a fun a_1 => (0 ≤ z ∧ z < (r_2.n : Int)) ∧ ld cPtr H5 (a_1.add (z.toNat * 1)) fun (f : Option Addr) => optK f fun a_2 => ld cBool H5 (a_2.add 4) fun (x_1 : Bool) => br (!x_1) (next (IntKind.i64.wrap (z + (1 : Int))) H5) (pool_Pool_write.sp p f H5 fun (e_1 : Int) H6 => br (e_1 != (0 : Int)) (pool_Pool_met.sp p e_1 H6 fun (r_3 : Int) H7 => R r_3 H7) (next (IntKind.i64.wrap (z + (1 : Int))) H6))) (optK p fun a_3 => ld cPtr H5 (a_3.add 0) fun (x_2 : Option Addr) => disk_Disk_Sync.sp x_2 name H5 fun (r_4 : Int) H8 => pool_Pool_met.sp p r_4 H8 fun (r_5 : Int) H9 => R r_5 H9)))

theorem pool_Pool_Flush.of {p : Option Addr} {name : ByteArray} {H : Heap} {R : Int → Heap → Prop} (hvc : pool_Pool_Flush.vc p name H R) : pool_Pool_Flush.sp p name H R :=
  specT_of_vc prog_ng prog_mixed (c := (cInt .i64)) (A := [(8, [(34, (cInt .i64))])]) (args := [(.pointer p), (.string name)]) (Eq.mpr (by kernel_rfl : vcFT (cInt .i64) Tryz.prog pool_Pool_Flush.no [(8, [(34, (cInt .i64))])] [(.pointer p), (.string name)] H R = pool_Pool_Flush.vc p name H R) hvc)

/-- (*fathom/runs.base).broke -/
def runs_base_broke.vc (b : Option Addr) (e : Int) (H : Heap) (R : Int → Heap → Prop) : Prop :=
  br (e != (0 : Int)) (optK b fun a => st H (a.add 4) (.int .i64 e) fun H1 => R e H1) (R e H)

theorem runs_base_broke.of {b : Option Addr} {e : Int} {H : Heap} {R : Int → Heap → Prop} (hvc : runs_base_broke.vc b e H R) : runs_base_broke.sp b e H R :=
  specT_of_vc prog_ng prog_mixed (c := (cInt .i64)) (A := []) (args := [(.pointer b), (.int .i64 e)]) (Eq.mpr (by kernel_rfl : vcFT (cInt .i64) Tryz.prog runs_base_broke.no [] [(.pointer b), (.int .i64 e)] H R = runs_base_broke.vc b e H R) hvc)

/-- fathom/fathomref06.Cmp -/
def fathomref06_Cmp.vc (a : Sl) (b : Sl) (H : Heap) (R : Int → Heap → Prop) : Prop :=
  LoopVC Int (0 : Int) H fun next i H1 => br ((decide (i < (a.n : Int))) && (decide (i < (b.n : Int)))) (optK a.a fun a_1 => (0 ≤ i ∧ i < (a.n : Int)) ∧ ld (cInt .u64) H1 (a_1.add (i.toNat * 1)) fun (x : Int) => optK b.a fun a_2 => (0 ≤ i ∧ i < (b.n : Int)) ∧ ld (cInt .u64) H1 (a_2.add (i.toNat * 1)) fun (x_1 : Int) => br (decide (x < x_1)) (R (-1 : Int) H1) (optK a.a fun a_3 => (0 ≤ i ∧ i < (a.n : Int)) ∧ ld (cInt .u64) H1 (a_3.add (i.toNat * 1)) fun (x_2 : Int) => optK b.a fun a_4 => (0 ≤ i ∧ i < (b.n : Int)) ∧ ld (cInt .u64) H1 (a_4.add (i.toNat * 1)) fun (x_3 : Int) => br (decide (x_2 > x_3)) (R (1 : Int) H1) (next (IntKind.i64.wrap (i + (1 : Int))) H1))) (br (decide ((a.n : Int) < (b.n : Int))) (R (-1 : Int) H1) (br (decide ((a.n : Int) > (b.n : Int))) (R (1 : Int) H1) (R (0 : Int) H1)))

theorem fathomref06_Cmp.of {a : Sl} {b : Sl} {H : Heap} {R : Int → Heap → Prop} (hvc : fathomref06_Cmp.vc a b H R) : fathomref06_Cmp.sp a b H R :=
  specT_of_vc prog_ng prog_mixed (c := (cInt .i64)) (A := [(2, [(5, (cInt .i64))])]) (args := [a.v, b.v]) (Eq.mpr (by kernel_rfl : vcFT (cInt .i64) Tryz.prog fathomref06_Cmp.no [(2, [(5, (cInt .i64))])] [a.v, b.v] H R = fathomref06_Cmp.vc a b H R) hvc)

/-- (*fathom/runs.Reader).load -/
def runs_Reader_load.vc (r : Option Addr) (k : Int) (H : Heap) (R : Int → Heap → Prop) : Prop :=
  optK r fun a => ld (cInt .i64) H (a.add 8) fun (x : Int) => br (x == k) (R (0 : Int) H) (optK r fun a_1 => runs_base_look.sp (some (a_1.add 0)) (IntKind.i64.wrap (k + (1 : Int))) H fun (r_1 : (Int × Sl × Int)) H1 => br (r_1.2.2 != (0 : Int)) (optK r fun a_2 => runs_base_broke.sp (some (a_2.add 0)) r_1.2.2 H1 fun (r_2 : Int) H2 => R r_2 H2) (optK r fun a_3 => ld (cInt .i64) H1 ((a_3.add 0).add 2) fun (x_1 : Int) => row_Get.sp r_1.2.1 x_1 H1 fun (r_3 : (Sl × Int)) H3 => br ((r_1.1 != (1 : Int)) || (r_3.2 != (0 : Int))) (optK r fun a_4 => runs_base_broke.sp (some (a_4.add 0)) (280 : Int) H3 fun (r_4 : Int) H4 => R r_4 H4) (optK r fun a_5 => ld (cInt .i64) H3 ((a_5.add 0).add 3) fun (x_2 : Int) => optK r fun a_6 => ld (cInt .i64) H3 (a_6.add 6) fun (x_3 : Int) => optK r fun a_7 => ld (cInt .i64) H3 ((a_7.add 0).add 3) fun (x_4 : Int) => br ((r_3.1.n : Int) != (if (IntKind.i64.wrap (x_3 - (IntKind.i64.wrap (k * x_4)))) < x_2 then (IntKind.i64.wrap (x_3 - (IntKind.i64.wrap (k * x_4)))) else x_2)) (optK r fun a_8 => runs_base_broke.sp (some (a_8.add 0)) (280 : Int) H3 fun (r_5 : Int) H5 => R r_5 H5) (optK r fun a_9 => st H3 (a_9.add 8) (.int .i64 k) fun H6 => optK r fun a_10 => st H6 (a_10.add 9) r_3.1.v fun H7 => R (0 : Int) H7))))

theorem runs_Reader_load.of {r : Option Addr} {k : Int} {H : Heap} {R : Int → Heap → Prop} (hvc : runs_Reader_load.vc r k H R) : runs_Reader_load.sp r k H R :=
  specT_of_vc prog_ng prog_mixed (c := (cInt .i64)) (A := []) (args := [(.pointer r), (.int .i64 k)]) (Eq.mpr (by kernel_rfl : vcFT (cInt .i64) Tryz.prog runs_Reader_load.no [] [(.pointer r), (.int .i64 k)] H R = runs_Reader_load.vc r k H R) hvc)

/-- (*fathom/runs.base).look -/
def runs_base_look.vc (b : Option Addr) (page : Int) (H : Heap) (R : (Int × Sl × Int) → Heap → Prop) : Prop :=
  optK b fun a => ld cPtr H (a.add 0) fun (x : Option Addr) => optK b fun a_1 => ld cStr H (a_1.add 1) fun (x_1 : ByteArray) => pool_Pool_Pin.sp x x_1 page H fun (r : (Int × Int)) H1 => br (r.2 != (0 : Int)) (R ((0 : Int), (Sl.mk none 0 0), r.2) H1) (optK b fun a_2 => ld cPtr H1 (a_2.add 0) fun (x_2 : Option Addr) => pool_Pool_Get.sp x_2 r.1 H1 fun (r_1 : (Int × Sl × Int)) H2 => br (r_1.2.2 == (0 : Int)) (optK b fun a_3 => ld cPtr H2 (a_3.add 0) fun (x_3 : Option Addr) => pool_Pool_Unpin.sp x_3 r.1 H2 fun (e : Int) H3 => R (r_1.1, r_1.2.1, e) H3) (R (r_1.1, r_1.2.1, r_1.2.2) H2))

theorem runs_base_look.of {b : Option Addr} {page : Int} {H : Heap} {R : (Int × Sl × Int) → Heap → Prop} (hvc : runs_base_look.vc b page H R) : runs_base_look.sp b page H R :=
  specT_of_vc prog_ng prog_mixed (c := (cTup [(cInt .u8), cSl, (cInt .i64)])) (A := []) (args := [(.pointer b), (.int .i64 page)]) (Eq.mpr (by kernel_rfl : vcFT (cTup [(cInt .u8), cSl, (cInt .i64)]) Tryz.prog runs_base_look.no [] [(.pointer b), (.int .i64 page)] H R = runs_base_look.vc b page H R) hvc)

/-- (*fathom/disk.Disk).Len -/
def disk_Disk_Len.vc (d : Option Addr) (name : ByteArray) (H : Heap) (R : (Int × Int) → Heap → Prop) : Prop :=
  disk_Disk_open.sp d name H fun (r : (Option Addr × Int)) H1 => br (r.2 != (0 : Int)) (R ((0 : Int), r.2) H1) (optK r.1 fun a => ld cSl H1 (a.add 0) fun (x : Sl) => R ((x.n : Int), (0 : Int)) H1)

theorem disk_Disk_Len.of {d : Option Addr} {name : ByteArray} {H : Heap} {R : (Int × Int) → Heap → Prop} (hvc : disk_Disk_Len.vc d name H R) : disk_Disk_Len.sp d name H R :=
  specT_of_vc prog_ng prog_mixed (c := (cTup [(cInt .i64), (cInt .i64)])) (A := []) (args := [(.pointer d), (.string name)]) (Eq.mpr (by kernel_rfl : vcFT (cTup [(cInt .i64), (cInt .i64)]) Tryz.prog disk_Disk_Len.no [] [(.pointer d), (.string name)] H R = disk_Disk_Len.vc d name H R) hvc)

/-- fathom/row.Get -/
def row_Get.vc (b : Sl) (width : Int) (H : Heap) (R : (Sl × Int) → Heap → Prop) : Prop :=
  newC H #[(.int .i64 width)] ty_int fun p H1 => newC H1 (zc Tryz.prog ty_sl_sl_uint64) ty_sl_sl_uint64 fun p_1 H2 => newC H2 (zc Tryz.prog ty_api_Errno) ty_api_Errno fun p_2 H3 => ld (cInt .i64) H3 p fun (x : Int) => row_size.sp x H3 fun (n : Int) H4 => br (n == (0 : Int)) (st H4 p_1 (.slice none 0 0) fun H5 => st H5 p_2 (.int .i64 (60 : Int)) fun H6 => ld cSl H6 p_1 fun (res : Sl) => ld (cInt .i64) H6 p_2 fun (res_1 : Int) => R (res, res_1) H6) (n ≠ 0 ∧ br ((Int.tmod (b.n : Int) n) != (0 : Int)) (st H4 p_1 (.slice none 0 0) fun H7 => st H7 p_2 (.int .i64 (60 : Int)) fun H8 => ld cSl H8 p_1 fun (res_2 : Sl) => ld (cInt .i64) H8 p_2 fun (res_3 : Int) => R (res_2, res_3) H8) (n ≠ 0 ∧ doT cSl Tryz.prog (Instr.makeSlice ty_sl_sl_uint64 (.int .i64 (0 : Int)) (.int .i64 (IntKind.i64.wrap (Int.tdiv (b.n : Int) n)))) H4 fun (sl : Sl) H9 => newC H9 (zc Tryz.prog ty_sl_sl_uint64) ty_sl_sl_uint64 fun p_3 H10 => st H10 p_3 sl.v fun H11 => slices_Chunk_sl_byte_byte.sp b n H11 fun (r : Value) H12 => RangeVC Tryz.prog r H12 (fun l rec vs H13 KK => onSome (Cods.dec [cSl] vs) fun (z : Sl) => H13[l]? = some (.loop (rec .ready none)) ∧ cut Unit (fun J => ld (cInt .i64) (H13.setIfInBounds l (.loop (rec .busy none))) p fun (x_1 : Int) => br (x_1 == (0 : Int)) (optK z.a fun a => (0 ≤ (0 : Int) ∧ (0 : Int) < (z.n : Int)) ∧ ld (cInt .u8) (H13.setIfInBounds l (.loop (rec .busy none))) (a.add ((0 : Int).toNat * 1)) fun (x_2 : Int) => br (x_2 != (0 : Int)) (st (H13.setIfInBounds l (.loop (rec .busy none))) p_1 (.slice none 0 0) fun H15 => st H15 p_2 (.int .i64 (60 : Int)) fun H16 => H16[l]? = some (.loop (rec .busy none)) ∧ KK false (H16.setIfInBounds l (.loop (rec .done (some .ret))))) (J () (H13.setIfInBounds l (.loop (rec .busy none))))) (J () (H13.setIfInBounds l (.loop (rec .busy none))))) fun (_ : Unit) H14 => ld (cInt .i64) H14 p fun (x_3 : Int) => doT cSl Tryz.prog (Instr.makeSlice ty_sl_uint64 (.int .i64 x_3) (.int .i64 x_3)) H14 fun (l_1 : Sl) H17 => ld (cInt .i64) H17 p fun (x_4 : Int) => LoopVC Int (0 : Int) H17 fun next z_2 H18 => br (decide (z_2 < (IntKind.i64.wrap ((8 : Int) * x_4)))) (optK l_1.a fun a_1 => (0 ≤ (IntKind.i64.wrap (Int.tdiv z_2 (8 : Int))) ∧ (IntKind.i64.wrap (Int.tdiv z_2 (8 : Int))) < (l_1.n : Int)) ∧ ld (cInt .u64) H18 (a_1.add ((IntKind.i64.wrap (Int.tdiv z_2 (8 : Int))).toNat * 1)) fun (x_5 : Int) => optK z.a fun a_2 => (0 ≤ z_2 ∧ z_2 < (z.n : Int)) ∧ ld (cInt .u8) H18 (a_2.add (z_2.toNat * 1)) fun (x_6 : Int) => optK l_1.a fun a_3 => (0 ≤ (IntKind.i64.wrap (Int.tdiv z_2 (8 : Int))) ∧ (IntKind.i64.wrap (Int.tdiv z_2 (8 : Int))) < (l_1.n : Int)) ∧ st H18 (a_3.add ((IntKind.i64.wrap (Int.tdiv z_2 (8 : Int))).toNat * 1)) (.int .u64 (ior .u64 (ishl .u64 x_5 (8 : Int)) (IntKind.u64.wrap x_6))) fun H19 => next (IntKind.i64.wrap (z_2 + (1 : Int))) H19) (ld cSl H18 p_3 fun (x_7 : Sl) => newC H18 #[l_1.v] ty_sl_uint64 fun p_4 H20 => doT cSl Tryz.prog (Builtin.append_ #[ty_sl_sl_uint64, ty_sl_sl_uint64] ty_sl_sl_uint64 #[x_7.v, (.slice (some p_4) 1 1)]) H20 fun (s : Sl) H21 => st H21 p_3 s.v fun H22 => H22[l]? = some (.loop (rec .busy none)) ∧ KK true (H22.setIfInBounds l (.loop (rec .ready none))))) (fun r_1 H23 => ld cSl H23 p_3 fun (x_8 : Sl) => st H23 p_1 x_8.v fun H24 => st H24 p_2 (.int .i64 (0 : Int)) fun H25 => H25[r_1]? = some (.deferred (some [])) ∧ ld cSl (H25.setIfInBounds r_1 (.deferred none)) p_1 fun (res_4 : Sl) => ld (cInt .i64) (H25.setIfInBounds r_1 (.deferred none)) p_2 fun (res_5 : Int) => R (res_4, res_5) (H25.setIfInBounds r_1 (.deferred none))) (fun i r_1 H23 => bif Nat.beq i 0 then ld cSl H23 p_3 fun (x_9 : Sl) => st H23 p_1 x_9.v fun H26 => st H26 p_2 (.int .i64 (0 : Int)) fun H27 => H27[r_1]? = some (.deferred (some [])) ∧ ld cSl (H27.setIfInBounds r_1 (.deferred none)) p_1 fun (res_6 : Sl) => ld (cInt .i64) (H27.setIfInBounds r_1 (.deferred none)) p_2 fun (res_7 : Int) => R (res_6, res_7) (H27.setIfInBounds r_1 (.deferred none)) else False) (fun r_1 H23 => H23[r_1]? = some (.deferred (some [])) ∧ ld cSl (H23.setIfInBounds r_1 (.deferred none)) p_1 fun (res_8 : Sl) => ld (cInt .i64) (H23.setIfInBounds r_1 (.deferred none)) p_2 fun (res_9 : Int) => R (res_8, res_9) (H23.setIfInBounds r_1 (.deferred none)))))

theorem row_Get.of {b : Sl} {width : Int} {H : Heap} {R : (Sl × Int) → Heap → Prop} (hvc : row_Get.vc b width H R) : row_Get.sp b width H R :=
  specT_of_vc prog_ng prog_mixed (c := (cTup [cSl, (cInt .i64)])) (A := [(200007, [(30, cSl)]), (100009, []), (11, [(43, (cInt .i64))])]) (args := [b.v, (.int .i64 width)]) (Eq.mpr (by kernel_rfl : vcFT (cTup [cSl, (cInt .i64)]) Tryz.prog row_Get.no [(200007, [(30, cSl)]), (100009, []), (11, [(43, (cInt .i64))])] [b.v, (.int .i64 width)] H R = row_Get.vc b width H R) hvc)

/-- (*fathom/runs.base).pages -/
def runs_base_pages.vc (b : Option Addr) (n : Int) (H : Heap) (R : Int → Heap → Prop) : Prop :=
  optK b fun a => ld (cInt .i64) H (a.add 3) fun (x : Int) => optK b fun a_1 => ld (cInt .i64) H (a_1.add 3) fun (x_1 : Int) => x_1 ≠ 0 ∧ R (IntKind.i64.wrap (Int.tdiv (IntKind.i64.wrap ((IntKind.i64.wrap (n + x)) - (1 : Int))) x_1)) H

theorem runs_base_pages.of {b : Option Addr} {n : Int} {H : Heap} {R : Int → Heap → Prop} (hvc : runs_base_pages.vc b n H R) : runs_base_pages.sp b n H R :=
  specT_of_vc prog_ng prog_mixed (c := (cInt .i64)) (A := []) (args := [(.pointer b), (.int .i64 n)]) (Eq.mpr (by kernel_rfl : vcFT (cInt .i64) Tryz.prog runs_base_pages.no [] [(.pointer b), (.int .i64 n)] H R = runs_base_pages.vc b n H R) hvc)

/-- sort.Search -/
def sort_Search.vc (n : Int) (cap : Addr) (cap1 : Addr) (H : Heap) (R : Int → Heap → Prop) : Prop :=
  LoopVC (Int × Int) ((0 : Int), n) H fun next z H1 => br (decide (z.1 < z.2)) (runs_Reader_Seek_c1.sp (IntKind.i64.wrap (ishr .u64 (IntKind.u64.wrap (IntKind.i64.wrap (z.1 + z.2))) (1 : Int))) cap cap1 H1 fun (r : Bool) H2 => br (!r) (next (IntKind.i64.wrap ((IntKind.i64.wrap (ishr .u64 (IntKind.u64.wrap (IntKind.i64.wrap (z.1 + z.2))) (1 : Int))) + (1 : Int)), z.2) H2) (next (z.1, IntKind.i64.wrap (ishr .u64 (IntKind.u64.wrap (IntKind.i64.wrap (z.1 + z.2))) (1 : Int))) H2)) (R z.1 H1)

theorem sort_Search.of {n : Int} {cap : Addr} {cap1 : Addr} {H : Heap} {R : Int → Heap → Prop} (hvc : sort_Search.vc n cap cap1 H R) : sort_Search.sp n cap cap1 H R :=
  specT_of_vc prog_ng prog_mixed (c := (cInt .i64)) (A := [(2, [(5, (cInt .i64)), (6, (cInt .i64))])]) (args := [(.int .i64 n), (.func (.func runs_Reader_Seek_c1.no) #[] #[(.pointer (some cap)), (.pointer (some cap1))])]) (Eq.mpr (by kernel_rfl : vcFT (cInt .i64) Tryz.prog sort_Search.no [(2, [(5, (cInt .i64)), (6, (cInt .i64))])] [(.int .i64 n), (.func (.func runs_Reader_Seek_c1.no) #[] #[(.pointer (some cap)), (.pointer (some cap1))])] H R = sort_Search.vc n cap cap1 H R) hvc)

/-- (*fathom/runs.Reader).Seek$1 -/
def runs_Reader_Seek_c1.vc (i : Int) (cap : Addr) (cap1 : Addr) (H : Heap) (R : Bool → Heap → Prop) : Prop :=
  ld cPtr H cap fun (x : Option Addr) => optK x fun a => ld (cInt .i64) H ((a.add 0).add 4) fun (x_1 : Int) => br (x_1 != (0 : Int)) (R true H) (ld cPtr H cap fun (x_2 : Option Addr) => runs_Reader_load.sp x_2 i H fun (r : Int) H1 => br (r != (0 : Int)) (R true H1) (ld cPtr H1 cap fun (x_3 : Option Addr) => optK x_3 fun a_1 => ld cSl H1 (a_1.add 9) fun (x_4 : Sl) => ld cPtr H1 cap fun (x_5 : Option Addr) => optK x_5 fun a_2 => ld cSl H1 (a_2.add 9) fun (x_6 : Sl) => optK x_4.a fun a_3 => (0 ≤ (IntKind.i64.wrap ((x_6.n : Int) - (1 : Int))) ∧ (IntKind.i64.wrap ((x_6.n : Int) - (1 : Int))) < (x_4.n : Int)) ∧ ld cSl H1 (a_3.add ((IntKind.i64.wrap ((x_6.n : Int) - (1 : Int))).toNat * 1)) fun (x_7 : Sl) => ld cSl H1 cap1 fun (x_8 : Sl) => row_Cmp.sp x_7 x_8 H1 fun (r_1 : Int) H2 => R (decide (r_1 ≥ (0 : Int))) H2))

theorem runs_Reader_Seek_c1.of {i : Int} {cap : Addr} {cap1 : Addr} {H : Heap} {R : Bool → Heap → Prop} (hvc : runs_Reader_Seek_c1.vc i cap cap1 H R) : runs_Reader_Seek_c1.sp i cap cap1 H R :=
  specT_of_vc prog_ng prog_mixed (c := cBool) (A := []) (args := [(.int .i64 i), (.pointer (some cap)), (.pointer (some cap1))]) (Eq.mpr (by kernel_rfl : vcFT cBool Tryz.prog runs_Reader_Seek_c1.no [] [(.int .i64 i), (.pointer (some cap)), (.pointer (some cap1))] H R = runs_Reader_Seek_c1.vc i cap cap1 H R) hvc)

/-- slices.BinarySearchFunc[[][]uint64,[]uint64,[]uint64] -/
def slices_BinarySearchFunc_sl_sl_uint64_sl_uint64_sl_uint64.vc (x : Sl) (target : Sl) (H : Heap) (R : (Int × Bool) → Heap → Prop) : Prop :=
  LoopVC (Int × Int) ((0 : Int), (x.n : Int)) H fun next z H1 => br (decide (z.1 < z.2)) (optK x.a fun a => (0 ≤ (IntKind.i64.wrap (ishr .u64 (IntKind.u64.wrap (IntKind.i64.wrap (z.1 + z.2))) (1 : Int))) ∧ (IntKind.i64.wrap (ishr .u64 (IntKind.u64.wrap (IntKind.i64.wrap (z.1 + z.2))) (1 : Int))) < (x.n : Int)) ∧ ld cSl H1 (a.add ((IntKind.i64.wrap (ishr .u64 (IntKind.u64.wrap (IntKind.i64.wrap (z.1 + z.2))) (1 : Int))).toNat * 1)) fun (x_1 : Sl) => row_Cmp.sp x_1 target H1 fun (r : Int) H2 => br (decide (r < (0 : Int))) (next (IntKind.i64.wrap ((IntKind.i64.wrap (ishr .u64 (IntKind.u64.wrap (IntKind.i64.wrap (z.1 + z.2))) (1 : Int))) + (1 : Int)), z.2) H2) (next (z.1, IntKind.i64.wrap (ishr .u64 (IntKind.u64.wrap (IntKind.i64.wrap (z.1 + z.2))) (1 : Int))) H2)) (br (decide (z.1 < (x.n : Int))) (optK x.a fun a_1 => (0 ≤ z.1 ∧ z.1 < (x.n : Int)) ∧ ld cSl H1 (a_1.add (z.1.toNat * 1)) fun (x_2 : Sl) => row_Cmp.sp x_2 target H1 fun (r_1 : Int) H3 => R (z.1, r_1 == (0 : Int)) H3) (R (z.1, false) H1))

theorem slices_BinarySearchFunc_sl_sl_uint64_sl_uint64_sl_uint64.of {x : Sl} {target : Sl} {H : Heap} {R : (Int × Bool) → Heap → Prop} (hvc : slices_BinarySearchFunc_sl_sl_uint64_sl_uint64_sl_uint64.vc x target H R) : slices_BinarySearchFunc_sl_sl_uint64_sl_uint64_sl_uint64.sp x target H R :=
  specT_of_vc prog_ng prog_mixed (c := (cTup [(cInt .i64), cBool])) (A := [(3, [(9, (cInt .i64)), (10, (cInt .i64))])]) (args := [x.v, target.v, (.func (.func row_Cmp.no) #[] #[])]) (Eq.mpr (by kernel_rfl : vcFT (cTup [(cInt .i64), cBool]) Tryz.prog slices_BinarySearchFunc_sl_sl_uint64_sl_uint64_sl_uint64.no [(3, [(9, (cInt .i64)), (10, (cInt .i64))])] [x.v, target.v, (.func (.func row_Cmp.no) #[] #[])] H R = slices_BinarySearchFunc_sl_sl_uint64_sl_uint64_sl_uint64.vc x target H R) hvc)

/-- (*fathom/disk.Disk).ready -/
def disk_Disk_ready.vc (d : Option Addr) (H : Heap) (R : Int → Heap → Prop) : Prop :=
  br d.isNone (R (1 : Int) H) (optK d fun a => ld cBool H (a.add 9) fun (x : Bool) => br x (R (4 : Int) H) (R (0 : Int) H))

theorem disk_Disk_ready.of {d : Option Addr} {H : Heap} {R : Int → Heap → Prop} (hvc : disk_Disk_ready.vc d H R) : disk_Disk_ready.sp d H R :=
  specT_of_vc prog_ng prog_mixed (c := (cInt .i64)) (A := []) (args := [(.pointer d)]) (Eq.mpr (by kernel_rfl : vcFT (cInt .i64) Tryz.prog disk_Disk_ready.no [] [(.pointer d)] H R = disk_Disk_ready.vc d H R) hvc)

/-- fathom/disk.named -/
def disk_named.vc (s : ByteArray) (H : Heap) (R : Bool → Heap → Prop) : Prop :=
  R ((!(s.toList == ByteArray.empty.toList)) && (decide ((s.size : Int) ≤ (100 : Int)))) H

theorem disk_named.of {s : ByteArray} {H : Heap} {R : Bool → Heap → Prop} (hvc : disk_named.vc s H R) : disk_named.sp s H R :=
  specT_of_vc prog_ng prog_mixed (c := cBool) (A := []) (args := [(.string s)]) (Eq.mpr (by kernel_rfl : vcFT cBool Tryz.prog disk_named.no [] [(.string s)] H R = disk_named.vc s H R) hvc)

/-- (*fathom/disk.Disk).change -/
def disk_Disk_change.vc (d : Option Addr) (H : Heap) (R : Int → Heap → Prop) : Prop :=
  optK d fun a => ld cBool H ((a.add 6).add 0) fun (x : Bool) => br x (optK d fun a_1 => ld (cInt .i64) H ((a_1.add 6).add 1) fun (x_1 : Int) => br (x_1 == (0 : Int)) (optK d fun a_2 => st H (a_2.add 9) (.bool true) fun H1 => R (4 : Int) H1) (optK d fun a_3 => ld (cInt .i64) H ((a_3.add 6).add 1) fun (x_2 : Int) => optK d fun a_4 => st H ((a_4.add 6).add 1) (.int .i64 (IntKind.i64.wrap (x_2 - (1 : Int)))) fun H2 => optK d fun a_5 => ld (cInt .i64) H2 (a_5.add 4) fun (x_3 : Int) => optK d fun a_6 => st H2 (a_6.add 4) (.int .i64 (IntKind.i64.wrap (x_3 + (1 : Int)))) fun H3 => R (0 : Int) H3)) (optK d fun a_7 => ld (cInt .i64) H (a_7.add 4) fun (x_4 : Int) => optK d fun a_8 => st H (a_8.add 4) (.int .i64 (IntKind.i64.wrap (x_4 + (1 : Int)))) fun H4 => R (0 : Int) H4)

theorem disk_Disk_change.of {d : Option Addr} {H : Heap} {R : Int → Heap → Prop} (hvc : disk_Disk_change.vc d H R) : disk_Disk_change.sp d H R :=
  specT_of_vc prog_ng prog_mixed (c := (cInt .i64)) (A := []) (args := [(.pointer d)]) (Eq.mpr (by kernel_rfl : vcFT (cInt .i64) Tryz.prog disk_Disk_change.no [] [(.pointer d)] H R = disk_Disk_change.vc d H R) hvc)

/-- slices.Clone[[]fathom/disk.sheet,fathom/disk.sheet] -/
def slices_Clone_sl_disk_sheet_disk_sheet.vc (s : Sl) (H : Heap) (R : Sl → Heap → Prop) : Prop :=
  br s.a.isNone (R (Sl.mk none 0 0) H) (doT cSl Tryz.prog (Instr.buildSlice ty_sl_disk_sheet 0 #[]) H fun (sl : Sl) H1 => doT cSl Tryz.prog (Builtin.append_ #[ty_sl_disk_sheet, ty_sl_disk_sheet] ty_sl_disk_sheet #[sl.v, s.v]) H1 fun (s_1 : Sl) H2 => R s_1 H2)

theorem slices_Clone_sl_disk_sheet_disk_sheet.of {s : Sl} {H : Heap} {R : Sl → Heap → Prop} (hvc : slices_Clone_sl_disk_sheet_disk_sheet.vc s H R) : slices_Clone_sl_disk_sheet_disk_sheet.sp s H R :=
  specT_of_vc prog_ng prog_mixed (c := cSl) (A := []) (args := [s.v]) (Eq.mpr (by kernel_rfl : vcFT cSl Tryz.prog slices_Clone_sl_disk_sheet_disk_sheet.no [] [s.v] H R = slices_Clone_sl_disk_sheet_disk_sheet.vc s H R) hvc)

/-- slices.BinarySearch[[]int,int] -/
def slices_BinarySearch_sl_int_int.vc (x : Sl) (target : Int) (H : Heap) (R : (Int × Bool) → Heap → Prop) : Prop :=
  LoopVC (Int × Int) ((0 : Int), (x.n : Int)) H fun next z H1 => br (decide (z.1 < z.2)) (optK x.a fun a => (0 ≤ (IntKind.i64.wrap (ishr .u64 (IntKind.u64.wrap (IntKind.i64.wrap (z.1 + z.2))) (1 : Int))) ∧ (IntKind.i64.wrap (ishr .u64 (IntKind.u64.wrap (IntKind.i64.wrap (z.1 + z.2))) (1 : Int))) < (x.n : Int)) ∧ ld (cInt .i64) H1 (a.add ((IntKind.i64.wrap (ishr .u64 (IntKind.u64.wrap (IntKind.i64.wrap (z.1 + z.2))) (1 : Int))).toNat * 1)) fun (x_1 : Int) => cmp_Less_int.sp x_1 target H1 fun (r : Bool) H2 => br r (next (IntKind.i64.wrap ((IntKind.i64.wrap (ishr .u64 (IntKind.u64.wrap (IntKind.i64.wrap (z.1 + z.2))) (1 : Int))) + (1 : Int)), z.2) H2) (next (z.1, IntKind.i64.wrap (ishr .u64 (IntKind.u64.wrap (IntKind.i64.wrap (z.1 + z.2))) (1 : Int))) H2)) (br (decide (z.1 < (x.n : Int))) (optK x.a fun a_1 => (0 ≤ z.1 ∧ z.1 < (x.n : Int)) ∧ ld (cInt .i64) H1 (a_1.add (z.1.toNat * 1)) fun (x_2 : Int) => br (x_2 == target) (R (z.1, true) H1) (optK x.a fun a_2 => (0 ≤ z.1 ∧ z.1 < (x.n : Int)) ∧ ld (cInt .i64) H1 (a_2.add (z.1.toNat * 1)) fun (x_3 : Int) => slices_isNaN_int.sp x_3 H1 fun (r_1 : Bool) H3 => br r_1 (slices_isNaN_int.sp target H3 fun (r_2 : Bool) H4 => R (z.1, r_2) H4) (R (z.1, false) H3))) (R (z.1, false) H1))

theorem slices_BinarySearch_sl_int_int.of {x : Sl} {target : Int} {H : Heap} {R : (Int × Bool) → Heap → Prop} (hvc : slices_BinarySearch_sl_int_int.vc x target H R) : slices_BinarySearch_sl_int_int.sp x target H R :=
  specT_of_vc prog_ng prog_mixed (c := (cTup [(cInt .i64), cBool])) (A := [(3, [(7, (cInt .i64)), (8, (cInt .i64))])]) (args := [x.v, (.int .i64 target)]) (Eq.mpr (by kernel_rfl : vcFT (cTup [(cInt .i64), cBool]) Tryz.prog slices_BinarySearch_sl_int_int.no [(3, [(7, (cInt .i64)), (8, (cInt .i64))])] [x.v, (.int .i64 target)] H R = slices_BinarySearch_sl_int_int.vc x target H R) hvc)

/-- fathom/disk.put -/
def disk_put.vc (l : Sl) (page : Int) (b : Array Value) (H : Heap) (R : Sl → Heap → Prop) : Prop :=
  newC H b ty_disk_sheet fun p H1 => LoopVC Sl l H1 fun next l_1 H2 => br (decide ((l_1.n : Int) ≤ page)) (doT cSl Tryz.prog (Instr.buildSlice ty_sl_disk_sheet 1 #[(0, (.agg (zc Tryz.prog ty_disk_sheet)))]) H2 fun (sl : Sl) H3 => doT cSl Tryz.prog (Builtin.append_ #[ty_sl_disk_sheet, ty_sl_disk_sheet] ty_sl_disk_sheet #[l_1.v, sl.v]) H3 fun (l_2 : Sl) H4 => next l_2 H4) (ldA cArr 512 H2 p fun (x : Array Value) => optK l_1.a fun a => (0 ≤ page ∧ page < (l_1.n : Int)) ∧ doU Tryz.prog (Instr.storeAt ty_disk_sheet (.pointer (some (a.add (page.toNat * 512)))) (.agg x)) H2 fun H5 => R l_1 H5)

theorem disk_put.of {l : Sl} {page : Int} {b : Array Value} {H : Heap} {R : Sl → Heap → Prop} (hvc : disk_put.vc l page b H R) : disk_put.sp l page b H R :=
  specT_of_vc prog_ng prog_mixed (c := cSl) (A := [(1, [(0, cSl)])]) (args := [l.v, (.int .i64 page), (.agg b)]) (Eq.mpr (by kernel_rfl : vcFT cSl Tryz.prog disk_put.no [(1, [(0, cSl)])] [l.v, (.int .i64 page), (.agg b)] H R = disk_put.vc l page b H R) hvc)

/-- fathom/fathomkit.SameRow -/
def fathomkit_SameRow.vc (a : Sl) (b : Sl) (H : Heap) (R : Bool → Heap → Prop) : Prop :=
  br ((a.n : Int) != (b.n : Int)) (R false H) (LoopVC Int (0 : Int) H fun next i H1 => br (decide (i < (a.n : Int))) (optK a.a fun a_1 => (0 ≤ i ∧ i < (a.n : Int)) ∧ ld (cInt .u64) H1 (a_1.add (i.toNat * 1)) fun (x : Int) => optK b.a fun a_2 => (0 ≤ i ∧ i < (b.n : Int)) ∧ ld (cInt .u64) H1 (a_2.add (i.toNat * 1)) fun (x_1 : Int) => br (x != x_1) (R false H1) (next (IntKind.i64.wrap (i + (1 : Int))) H1)) (R true H1))

theorem fathomkit_SameRow.of {a : Sl} {b : Sl} {H : Heap} {R : Bool → Heap → Prop} (hvc : fathomkit_SameRow.vc a b H R) : fathomkit_SameRow.sp a b H R :=
  specT_of_vc prog_ng prog_mixed (c := cBool) (A := [(4, [(5, (cInt .i64))])]) (args := [a.v, b.v]) (Eq.mpr (by kernel_rfl : vcFT cBool Tryz.prog fathomkit_SameRow.no [(4, [(5, (cInt .i64))])] [a.v, b.v] H R = fathomkit_SameRow.vc a b H R) hvc)

/-- slices.CompareFunc[[]uint64,[]uint64,uint64,uint64] -/
def slices_CompareFunc_sl_uint64_sl_uint64_uint64_uint64.vc (s1 : Sl) (s2 : Sl) (H : Heap) (R : Int → Heap → Prop) : Prop :=
  LoopVC Int (0 : Int) H fun next z H1 => br (decide (z < (s1.n : Int))) (optK s1.a fun a => (0 ≤ z ∧ z < (s1.n : Int)) ∧ ld (cInt .u64) H1 (a.add (z.toNat * 1)) fun (v1 : Int) => br (decide (z ≥ (s2.n : Int))) (R (1 : Int) H1) (optK s2.a fun a_1 => (0 ≤ z ∧ z < (s2.n : Int)) ∧ ld (cInt .u64) H1 (a_1.add (z.toNat * 1)) fun (v2 : Int) => cmp_Compare_uint64.sp v1 v2 H1 fun (c : Int) H2 => br (c != (0 : Int)) (R c H2) (next (IntKind.i64.wrap (z + (1 : Int))) H2))) (br (decide ((s1.n : Int) < (s2.n : Int))) (R (-1 : Int) H1) (R (0 : Int) H1))

theorem slices_CompareFunc_sl_uint64_sl_uint64_uint64_uint64.of {s1 : Sl} {s2 : Sl} {H : Heap} {R : Int → Heap → Prop} (hvc : slices_CompareFunc_sl_uint64_sl_uint64_uint64_uint64.vc s1 s2 H R) : slices_CompareFunc_sl_uint64_sl_uint64_uint64_uint64.sp s1 s2 H R :=
  specT_of_vc prog_ng prog_mixed (c := (cInt .i64)) (A := [(2, [(13, (cInt .i64))])]) (args := [s1.v, s2.v, (.func (.func cmp_Compare_uint64.no) #[] #[])]) (Eq.mpr (by kernel_rfl : vcFT (cInt .i64) Tryz.prog slices_CompareFunc_sl_uint64_sl_uint64_uint64_uint64.no [(2, [(13, (cInt .i64))])] [s1.v, s2.v, (.func (.func cmp_Compare_uint64.no) #[] #[])] H R = slices_CompareFunc_sl_uint64_sl_uint64_uint64_uint64.vc s1 s2 H R) hvc)

/-- cmp.Compare[uint64] -/
def cmp_Compare_uint64.vc (x : Int) (y : Int) (H : Heap) (R : Int → Heap → Prop) : Prop :=
  cmp_isNaN_uint64.sp x H fun (xNaN : Bool) H1 => cmp_isNaN_uint64.sp y H1 fun (yNaN : Bool) H2 => br xNaN (br yNaN (R (0 : Int) H2) (R (-1 : Int) H2)) (br yNaN (R (1 : Int) H2) (br (decide (x < y)) (R (-1 : Int) H2) (br (decide (x > y)) (R (1 : Int) H2) (R (0 : Int) H2))))

theorem cmp_Compare_uint64.of {x : Int} {y : Int} {H : Heap} {R : Int → Heap → Prop} (hvc : cmp_Compare_uint64.vc x y H R) : cmp_Compare_uint64.sp x y H R :=
  specT_of_vc prog_ng prog_mixed (c := (cInt .i64)) (A := []) (args := [(.int .u64 x), (.int .u64 y)]) (Eq.mpr (by kernel_rfl : vcFT (cInt .i64) Tryz.prog cmp_Compare_uint64.no [] [(.int .u64 x), (.int .u64 y)] H R = cmp_Compare_uint64.vc x y H R) hvc)

/-- (*fathom/disk.Disk).Read -/
def disk_Disk_Read.vc (d : Option Addr) (name : ByteArray) (page : Int) (H : Heap) (R : (Sl × Int) → Heap → Prop) : Prop :=
  disk_Disk_open.sp d name H fun (r : (Option Addr × Int)) H1 => cut Unit (fun J => br (r.2 != (0 : Int)) (R ((Sl.mk none 0 0), r.2) H1) (br (decide (page < (0 : Int))) (br (decide (page < (0 : Int))) (R ((Sl.mk none 0 0), (12 : Int)) H1) (J () H1)) (optK r.1 fun a => ld cSl H1 (a.add 0) fun (x : Sl) => br (decide (page ≥ (x.n : Int))) (R ((Sl.mk none 0 0), (12 : Int)) H1) (J () H1)))) fun (_ : Unit) H2 => optK r.1 fun a_1 => ld cSl H2 (a_1.add 0) fun (x_1 : Sl) => optK x_1.a fun a_2 => (0 ≤ page ∧ page < (x_1.n : Int)) ∧ slices_Clone_sl_byte_byte.sp (Sl.mk (slA (some (a_2.add (page.toNat * 512))) 512 0 1) (512 - 0) (512 - 0)) H2 fun (r_1 : Sl) H3 => R (r_1, (0 : Int)) H3

theorem disk_Disk_Read.of {d : Option Addr} {name : ByteArray} {page : Int} {H : Heap} {R : (Sl × Int) → Heap → Prop} (hvc : disk_Disk_Read.vc d name page H R) : disk_Disk_Read.sp d name page H R :=
  specT_of_vc prog_ng prog_mixed (c := (cTup [cSl, (cInt .i64)])) (A := [(100007, [])]) (args := [(.pointer d), (.string name), (.int .i64 page)]) (Eq.mpr (by kernel_rfl : vcFT (cTup [cSl, (cInt .i64)]) Tryz.prog disk_Disk_Read.no [(100007, [])] [(.pointer d), (.string name), (.int .i64 page)] H R = disk_Disk_Read.vc d name page H R) hvc)

/-- (*fathom/pool.Pool).Fresh -/
def pool_Pool_Fresh.vc (p : Option Addr) (name : ByteArray) (H : Heap) (R : (Int × Int × Int) → Heap → Prop) : Prop :=
  pool_Pool_ready.sp p H fun (e : Int) H1 => br (e != (0 : Int)) (R ((0 : Int), (0 : Int), e) H1) (optK p fun a => ld cPtr H1 (a.add 0) fun (x : Option Addr) => disk_Disk_Len.sp x name H1 fun (r : (Int × Int)) H2 => br (r.2 == (0 : Int)) (pool_Pool_room.sp p H2 fun (e_1 : Int) H3 => newC H3 #[(.string name), (.int .i64 r.1), (.int .u8 (0 : Int)), (.slice none 0 0), (.bool false), (.int .i64 (0 : Int)), (.int .i64 (0 : Int))] ty_pool_frame fun f_p H4 => br (e_1 == (0 : Int)) (pool_Pool_write.sp p (some f_p) H4 fun (e_2 : Int) H5 => br (e_2 != (0 : Int)) (pool_Pool_met.sp p e_2 H5 fun (r_1 : Int) H6 => R ((0 : Int), (0 : Int), r_1) H6) (pool_Pool_take.sp p (some f_p) H5 fun (r_2 : Int) H7 => R (r_2, r.1, (0 : Int)) H7)) (br (e_1 != (0 : Int)) (pool_Pool_met.sp p e_1 H4 fun (r_3 : Int) H8 => R ((0 : Int), (0 : Int), r_3) H8) (pool_Pool_take.sp p (some f_p) H4 fun (r_4 : Int) H9 => R (r_4, r.1, (0 : Int)) H9))) (newC H2 #[(.string name), (.int .i64 r.1), (.int .u8 (0 : Int)), (.slice none 0 0), (.bool false), (.int .i64 (0 : Int)), (.int .i64 (0 : Int))] ty_pool_frame fun f_p_1 H10 => br (r.2 == (0 : Int)) (pool_Pool_write.sp p (some f_p_1) H10 fun (e_3 : Int) H11 => br (e_3 != (0 : Int)) (pool_Pool_met.sp p e_3 H11 fun (r_5 : Int) H12 => R ((0 : Int), (0 : Int), r_5) H12) (pool_Pool_take.sp p (some f_p_1) H11 fun (r_6 : Int) H13 => R (r_6, r.1, (0 : Int)) H13)) (br (r.2 != (0 : Int)) (pool_Pool_met.sp p r.2 H10 fun (r_7 : Int) H14 => R ((0 : Int), (0 : Int), r_7) H14) (pool_Pool_take.sp p (some f_p_1) H10 fun (r_8 : Int) H15 => R (r_8, r.1, (0 : Int)) H15))))

theorem pool_Pool_Fresh.of {p : Option Addr} {name : ByteArray} {H : Heap} {R : (Int × Int × Int) → Heap → Prop} (hvc : pool_Pool_Fresh.vc p name H R) : pool_Pool_Fresh.sp p name H R :=
  specT_of_vc prog_ng prog_mixed (c := (cTup [(cInt .i64), (cInt .i64), (cInt .i64)])) (A := []) (args := [(.pointer p), (.string name)]) (Eq.mpr (by kernel_rfl : vcFT (cTup [(cInt .i64), (cInt .i64), (cInt .i64)]) Tryz.prog pool_Pool_Fresh.no [] [(.pointer p), (.string name)] H R = pool_Pool_Fresh.vc p name H R) hvc)

/-- (fathom/row.word).of -/
def row_word_of.vc (b : Array Value) (n : Int) (H : Heap) (R : Array Value → Heap → Prop) : Prop :=
  newC H b ty_row_word fun p H1 => newC H1 (zc Tryz.prog ty_row_word) ty_row_word fun p_1 H2 => LoopVC Int (0 : Int) H2 fun next z H3 => br (decide (z < (8 : Int))) (0 ≤ (IntKind.i64.wrap ((56 : Int) - (IntKind.i64.wrap ((8 : Int) * z)))) ∧ (0 ≤ z ∧ z < ((8 : Nat) : Int)) ∧ st H3 (p.add (z.toNat * 1)) (.int .u8 (IntKind.u8.wrap (ishr .u64 n (IntKind.i64.wrap ((56 : Int) - (IntKind.i64.wrap ((8 : Int) * z))))))) fun H4 => next (IntKind.i64.wrap (z + (1 : Int))) H4) (ldA cArr 8 H3 p fun (x : Array Value) => doU Tryz.prog (Instr.storeAt ty_row_word (.pointer (some p_1)) (.agg x)) H3 fun H5 => ldA cArr 8 H5 p_1 fun (res : Array Value) => R res H5)

theorem row_word_of.of {b : Array Value} {n : Int} {H : Heap} {R : Array Value → Heap → Prop} (hvc : row_word_of.vc b n H R) : row_word_of.sp b n H R :=
  specT_of_vc prog_ng prog_mixed (c := cArr) (A := [(2, [(6, (cInt .i64))])]) (args := [(.agg b), (.int .u64 n)]) (Eq.mpr (by kernel_rfl : vcFT cArr Tryz.prog row_word_of.no [(2, [(6, (cInt .i64))])] [(.agg b), (.int .u64 n)] H R = row_word_of.vc b n H R) hvc)

/-- (*fathom/pool.Pool).ready -/
def pool_Pool_ready.vc (p : Option Addr) (H : Heap) (R : Int → Heap → Prop) : Prop :=
  br p.isNone (R (1 : Int) H) (optK p fun a => ld (cInt .i64) H (a.add 7) fun (x : Int) => R x H)

theorem pool_Pool_ready.of {p : Option Addr} {H : Heap} {R : Int → Heap → Prop} (hvc : pool_Pool_ready.vc p H R) : pool_Pool_ready.sp p H R :=
  specT_of_vc prog_ng prog_mixed (c := (cInt .i64)) (A := []) (args := [(.pointer p)]) (Eq.mpr (by kernel_rfl : vcFT (cInt .i64) Tryz.prog pool_Pool_ready.no [] [(.pointer p)] H R = pool_Pool_ready.vc p H R) hvc)

/-- (*fathom/pool.Pool).pin -/
def pool_Pool_pin.vc (p : Option Addr) (f : Option Addr) (H : Heap) (R : Int → Heap → Prop) : Prop :=
  optK f fun a => ld (cInt .i64) H (a.add 5) fun (x : Int) => optK f fun a_1 => st H (a_1.add 5) (.int .i64 (IntKind.i64.wrap (x + (1 : Int)))) fun H1 => optK p fun a_2 => ld cMap H1 (a_2.add 3) fun (x_1 : Option Nat) => optK p fun a_3 => ld (cInt .i64) H1 (a_3.add 4) fun (x_2 : Int) => doU Tryz.prog (Instr.mapUpdate ty_maparr_int_ptr_pool_frame (.map x_1) (.int .i64 x_2) (.pointer f)) H1 fun H2 => optK p fun a_4 => ld (cInt .i64) H2 (a_4.add 4) fun (x_3 : Int) => optK p fun a_5 => st H2 (a_5.add 4) (.int .i64 (IntKind.i64.wrap (x_3 + (1 : Int)))) fun H3 => optK p fun a_6 => ld (cInt .i64) H3 (a_6.add 4) fun (x_4 : Int) => R (IntKind.i64.wrap (x_4 - (1 : Int))) H3

theorem pool_Pool_pin.of {p : Option Addr} {f : Option Addr} {H : Heap} {R : Int → Heap → Prop} (hvc : pool_Pool_pin.vc p f H R) : pool_Pool_pin.sp p f H R :=
  specT_of_vc prog_ng prog_mixed (c := (cInt .i64)) (A := []) (args := [(.pointer p), (.pointer f)]) (Eq.mpr (by kernel_rfl : vcFT (cInt .i64) Tryz.prog pool_Pool_pin.no [] [(.pointer p), (.pointer f)] H R = pool_Pool_pin.vc p f H R) hvc)

/-- (*fathom/pool.Pool).load -/
def pool_Pool_load.vc (p : Option Addr) (at_ : ByteArray) (at_1 : Int) (H : Heap) (R : (Option Addr × Int) → Heap → Prop) : Prop :=
  newC H #[(.string at_), (.int .i64 at_1)] ty_pool_spot fun p_1 H1 => optK p fun a => ld cPtr H1 (a.add 0) fun (x : Option Addr) => ld cStr H1 (p_1.add 0) fun (x_1 : ByteArray) => disk_Disk_Len.sp x x_1 H1 fun (r : (Int × Int)) H2 => br (r.2 != (0 : Int)) (R (none, r.2) H2) (ld (cInt .i64) H2 (p_1.add 1) fun (x_2 : Int) => br (decide (x_2 < (0 : Int))) (R (none, (12 : Int)) H2) (ld (cInt .i64) H2 (p_1.add 1) fun (x_3 : Int) => br (decide (x_3 ≥ r.1)) (R (none, (12 : Int)) H2) (pool_Pool_room.sp p H2 fun (e : Int) H3 => br (e != (0 : Int)) (R (none, e) H3) (optK p fun a_1 => ld cPtr H3 (a_1.add 0) fun (x_4 : Option Addr) => ld cStr H3 (p_1.add 0) fun (x_5 : ByteArray) => ld (cInt .i64) H3 (p_1.add 1) fun (x_6 : Int) => disk_Disk_Read.sp x_4 x_5 x_6 H3 fun (r_1 : (Sl × Int)) H4 => br (r_1.2 != (0 : Int)) (R (none, r_1.2) H4) (ldA (cAgg [cStr, (cInt .i64)]) 2 H4 p_1 fun (x_7 : (ByteArray × Int)) => newC H4 #[(.string x_7.1), (.int .i64 x_7.2), (.int .u8 (0 : Int)), (.slice none 0 0), (.bool false), (.int .i64 (0 : Int)), (.int .i64 (0 : Int))] ty_pool_frame fun f_p H5 => page_Open.sp r_1.1 H5 fun (r_2 : (Int × Sl × Int)) H6 => st H6 (f_p.add 2) (.int .u8 r_2.1) fun H7 => st H7 (f_p.add 3) r_2.2.1.v fun H8 => R (some f_p, r_2.2.2) H8)))))

theorem pool_Pool_load.of {p : Option Addr} {at_ : ByteArray} {at_1 : Int} {H : Heap} {R : (Option Addr × Int) → Heap → Prop} (hvc : pool_Pool_load.vc p at_ at_1 H R) : pool_Pool_load.sp p at_ at_1 H R :=
  specT_of_vc prog_ng prog_mixed (c := (cTup [cPtr, (cInt .i64)])) (A := []) (args := [(.pointer p), (.agg #[(.string at_), (.int .i64 at_1)])]) (Eq.mpr (by kernel_rfl : vcFT (cTup [cPtr, (cInt .i64)]) Tryz.prog pool_Pool_load.no [] [(.pointer p), (.agg #[(.string at_), (.int .i64 at_1)])] H R = pool_Pool_load.vc p at_ at_1 H R) hvc)

/-- (*fathom/pool.Pool).met -/
def pool_Pool_met.vc (p : Option Addr) (e : Int) (H : Heap) (R : Int → Heap → Prop) : Prop :=
  br (e == (4 : Int)) (br (e == (4 : Int)) (optK p fun a => st H (a.add 7) (.int .i64 e) fun H1 => R e H1) (R e H)) (br (e == (5 : Int)) (br (e == (5 : Int)) (optK p fun a_1 => st H (a_1.add 7) (.int .i64 e) fun H2 => R e H2) (R e H)) (br (e == (20 : Int)) (optK p fun a_2 => st H (a_2.add 7) (.int .i64 e) fun H3 => R e H3) (R e H)))

theorem pool_Pool_met.of {p : Option Addr} {e : Int} {H : Heap} {R : Int → Heap → Prop} (hvc : pool_Pool_met.vc p e H R) : pool_Pool_met.sp p e H R :=
  specT_of_vc prog_ng prog_mixed (c := (cInt .i64)) (A := []) (args := [(.pointer p), (.int .i64 e)]) (Eq.mpr (by kernel_rfl : vcFT (cInt .i64) Tryz.prog pool_Pool_met.no [] [(.pointer p), (.int .i64 e)] H R = pool_Pool_met.vc p e H R) hvc)

/-- (*fathom/pool.Pool).take -/
def pool_Pool_take.vc (p : Option Addr) (f : Option Addr) (H : Heap) (R : Int → Heap → Prop) : Prop :=
  optK p fun a => ld cMap H (a.add 2) fun (x : Option Nat) => optK f fun a_1 => ldA (cAgg [cStr, (cInt .i64)]) 2 H (a_1.add 0) fun (x_1 : (ByteArray × Int)) => doU Tryz.prog (Instr.mapUpdate ty_maparr_pool_spot_ptr_pool_frame (.map x) (.agg #[(.string x_1.1), (.int .i64 x_1.2)]) (.pointer f)) H fun H1 => optK p fun a_2 => ld (cInt .i64) H1 (a_2.add 6) fun (x_2 : Int) => optK p fun a_3 => ld cMap H1 (a_3.add 2) fun (x_3 : Option Nat) => lenM H1 x_3 fun (n : Nat) => optK p fun a_4 => st H1 (a_4.add 6) (.int .i64 (if (n : Int) > x_2 then (n : Int) else x_2)) fun H2 => pool_Pool_pin.sp p f H2 fun (r : Int) H3 => R r H3

theorem pool_Pool_take.of {p : Option Addr} {f : Option Addr} {H : Heap} {R : Int → Heap → Prop} (hvc : pool_Pool_take.vc p f H R) : pool_Pool_take.sp p f H R :=
  specT_of_vc prog_ng prog_mixed (c := (cInt .i64)) (A := []) (args := [(.pointer p), (.pointer f)]) (Eq.mpr (by kernel_rfl : vcFT (cInt .i64) Tryz.prog pool_Pool_take.no [] [(.pointer p), (.pointer f)] H R = pool_Pool_take.vc p f H R) hvc)

/-- (*fathom/pool.Pool).held -/
def pool_Pool_held.vc (p : Option Addr) (h : Int) (H : Heap) (R : (Option Addr × Int) → Heap → Prop) : Prop :=
  pool_Pool_ready.sp p H fun (e : Int) H1 => br (e != (0 : Int)) (R (none, e) H1) (optK p fun a => ld cMap H1 (a.add 3) fun (x : Option Nat) => rdV (cTup [cPtr, cBool]) Tryz.prog (Instr.lookup ty_maparr_int_ptr_pool_frame (.map x) (.int .i64 h) true) H1 fun (x_1 : (Option Addr × Bool)) => br x_1.2 (R (x_1.1, (0 : Int)) H1) (R (none, (32 : Int)) H1))

theorem pool_Pool_held.of {p : Option Addr} {h : Int} {H : Heap} {R : (Option Addr × Int) → Heap → Prop} (hvc : pool_Pool_held.vc p h H R) : pool_Pool_held.sp p h H R :=
  specT_of_vc prog_ng prog_mixed (c := (cTup [cPtr, (cInt .i64)])) (A := []) (args := [(.pointer p), (.int .i64 h)]) (Eq.mpr (by kernel_rfl : vcFT (cTup [cPtr, (cInt .i64)]) Tryz.prog pool_Pool_held.no [] [(.pointer p), (.int .i64 h)] H R = pool_Pool_held.vc p h H R) hvc)

/-- slices.Clone[[]byte,byte] -/
def slices_Clone_sl_byte_byte.vc (s : Sl) (H : Heap) (R : Sl → Heap → Prop) : Prop :=
  br s.a.isNone (R (Sl.mk none 0 0) H) (newC H #[] ty_uint8 fun p H1 => doT cSl Tryz.prog (Builtin.append_ #[ty_sl_uint8, ty_sl_uint8] ty_sl_uint8 #[(.slice (some p) 0 0), s.v]) H1 fun (s_1 : Sl) H2 => R s_1 H2)

theorem slices_Clone_sl_byte_byte.of {s : Sl} {H : Heap} {R : Sl → Heap → Prop} (hvc : slices_Clone_sl_byte_byte.vc s H R) : slices_Clone_sl_byte_byte.sp s H R :=
  specT_of_vc prog_ng prog_mixed (c := cSl) (A := []) (args := [s.v]) (Eq.mpr (by kernel_rfl : vcFT cSl Tryz.prog slices_Clone_sl_byte_byte.no [] [s.v] H R = slices_Clone_sl_byte_byte.vc s H R) hvc)

/-- (*fathom/pool.Pool).of -/
def pool_Pool_of.vc (p : Option Addr) (name : ByteArray) (H : Heap) (R : Sl → Heap → Prop) : Prop :=
  newC H #[(.string name)] ty_string fun p_1 H1 => optK p fun a => ld cMap H1 (a.add 2) fun (x : Option Nat) => maps_Values_map_pool_spot_ptr_pool_frame_pool_spot_ptr_pool_frame.sp x H1 fun (r : Value) H2 => slices_Collect_ptr_pool_frame.sp r H2 fun (r_1 : Sl) H3 => slices_DeleteFunc_sl_ptr_pool_frame_ptr_pool_frame.sp r_1 p_1 H3 fun (l : Sl) H4 => slices_SortFunc_sl_ptr_pool_frame_ptr_pool_frame.sp l (.func (.func pool_Pool_of_c2.no) #[] #[]) H4 fun (_ : Unit) H5 => R l H5

theorem pool_Pool_of.of {p : Option Addr} {name : ByteArray} {H : Heap} {R : Sl → Heap → Prop} (hvc : pool_Pool_of.vc p name H R) : pool_Pool_of.sp p name H R :=
  specT_of_vc prog_ng prog_mixed (c := cSl) (A := []) (args := [(.pointer p), (.string name)]) (Eq.mpr (by kernel_rfl : vcFT cSl Tryz.prog pool_Pool_of.no [] [(.pointer p), (.string name)] H R = pool_Pool_of.vc p name H R) hvc)

/-- (*fathom/pool.Pool).write -/
def pool_Pool_write.vc (p : Option Addr) (f : Option Addr) (H : Heap) (R : Int → Heap → Prop) : Prop :=
  optK f fun a => ld (cInt .u8) H (a.add 2) fun (x : Int) => optK f fun a_1 => ld cSl H (a_1.add 3) fun (x_1 : Sl) => page_Seal.sp x x_1 H fun (r : (Sl × Int)) H1 => br (r.2 != (0 : Int)) (R r.2 H1) (optK p fun a_2 => ld cPtr H1 (a_2.add 0) fun (x_2 : Option Addr) => optK f fun a_3 => ld cStr H1 ((a_3.add 0).add 0) fun (x_3 : ByteArray) => optK f fun a_4 => ld (cInt .i64) H1 ((a_4.add 0).add 1) fun (x_4 : Int) => disk_Disk_Write.sp x_2 x_3 x_4 r.1 H1 fun (e : Int) H2 => br (e == (0 : Int)) (optK f fun a_5 => st H2 (a_5.add 4) (.bool false) fun H3 => R e H3) (R e H2))

theorem pool_Pool_write.of {p : Option Addr} {f : Option Addr} {H : Heap} {R : Int → Heap → Prop} (hvc : pool_Pool_write.vc p f H R) : pool_Pool_write.sp p f H R :=
  specT_of_vc prog_ng prog_mixed (c := (cInt .i64)) (A := []) (args := [(.pointer p), (.pointer f)]) (Eq.mpr (by kernel_rfl : vcFT (cInt .i64) Tryz.prog pool_Pool_write.no [] [(.pointer p), (.pointer f)] H R = pool_Pool_write.vc p f H R) hvc)

/-- (*fathom/disk.Disk).Sync -/
def disk_Disk_Sync.vc (d : Option Addr) (name : ByteArray) (H : Heap) (R : Int → Heap → Prop) : Prop :=
  disk_Disk_open.sp d name H fun (r : (Option Addr × Int)) H1 => br (r.2 != (0 : Int)) (R r.2 H1) (disk_Disk_change.sp d H1 fun (e : Int) H2 => br (e == (0 : Int)) (optK r.1 fun a => ld cSl H2 (a.add 0) fun (x : Sl) => slices_Clone_sl_disk_sheet_disk_sheet.sp x H2 fun (r_1 : Sl) H3 => optK r.1 fun a_1 => st H3 (a_1.add 1) r_1.v fun H4 => optK r.1 fun a_2 => st H4 (a_2.add 2) (.slice none 0 0) fun H5 => R e H5) (R e H2))

theorem disk_Disk_Sync.of {d : Option Addr} {name : ByteArray} {H : Heap} {R : Int → Heap → Prop} (hvc : disk_Disk_Sync.vc d name H R) : disk_Disk_Sync.sp d name H R :=
  specT_of_vc prog_ng prog_mixed (c := (cInt .i64)) (A := []) (args := [(.pointer d), (.string name)]) (Eq.mpr (by kernel_rfl : vcFT (cInt .i64) Tryz.prog disk_Disk_Sync.no [] [(.pointer d), (.string name)] H R = disk_Disk_Sync.vc d name H R) hvc)

/-- (*fathom/pool.Pool).Get -/
def pool_Pool_Get.vc (p : Option Addr) (h : Int) (H : Heap) (R : (Int × Sl × Int) → Heap → Prop) : Prop :=
  pool_Pool_held.sp p h H fun (r : (Option Addr × Int)) H1 => br (r.2 != (0 : Int)) (R ((0 : Int), (Sl.mk none 0 0), r.2) H1) (∃ G : Heap → Prop, G H1 ∧ optK r.1 fun a => ldC (cInt .u8) G (a.add 2) fun (x : Int) => optK r.1 fun a_1 => ld cSl H1 (a_1.add 3) fun (x_1 : Sl) => slices_Clone_sl_byte_byte.sp x_1 H1 fun (r_1 : Sl) H2 => G H2 ∧ R (x, r_1, (0 : Int)) H2)

theorem pool_Pool_Get.of {p : Option Addr} {h : Int} {H : Heap} {R : (Int × Sl × Int) → Heap → Prop} (hvc : pool_Pool_Get.vc p h H R) : pool_Pool_Get.sp p h H R :=
  specT_of_vc prog_ng prog_mixed (c := (cTup [(cInt .u8), cSl, (cInt .i64)])) (A := []) (args := [(.pointer p), (.int .i64 h)]) (Eq.mpr (by kernel_rfl : vcFT (cTup [(cInt .u8), cSl, (cInt .i64)]) Tryz.prog pool_Pool_Get.no [] [(.pointer p), (.int .i64 h)] H R = pool_Pool_Get.vc p h H R) hvc)

/-- (*fathom/disk.Disk).open -/
def disk_Disk_open.vc (d : Option Addr) (name : ByteArray) (H : Heap) (R : (Option Addr × Int) → Heap → Prop) : Prop :=
  disk_Disk_ready.sp d H fun (e : Int) H1 => br (e != (0 : Int)) (R (none, e) H1) (optK d fun a => ld cMap H1 (a.add 0) fun (x : Option Nat) => rdV (cTup [cPtr, cBool]) Tryz.prog (Instr.lookup ty_maparr_string_ptr_disk_file (.map x) (.string name) true) H1 fun (x_1 : (Option Addr × Bool)) => br x_1.2 (R (x_1.1, (0 : Int)) H1) (R (none, (11 : Int)) H1))

theorem disk_Disk_open.of {d : Option Addr} {name : ByteArray} {H : Heap} {R : (Option Addr × Int) → Heap → Prop} (hvc : disk_Disk_open.vc d name H R) : disk_Disk_open.sp d name H R :=
  specT_of_vc prog_ng prog_mixed (c := (cTup [cPtr, (cInt .i64)])) (A := []) (args := [(.pointer d), (.string name)]) (Eq.mpr (by kernel_rfl : vcFT (cTup [cPtr, (cInt .i64)]) Tryz.prog disk_Disk_open.no [] [(.pointer d), (.string name)] H R = disk_Disk_open.vc d name H R) hvc)

/-- slices.Chunk[[]byte,byte] -/
def slices_Chunk_sl_byte_byte.vc (s : Sl) (n : Int) (H : Heap) (R : Value → Heap → Prop) : Prop :=
  newC H #[s.v] ty_sl_uint8 fun p H1 => newC H1 #[(.int .i64 n)] ty_int fun p_1 H2 => ld (cInt .i64) H2 p_1 fun (x : Int) => br (decide (x < (1 : Int))) (False) (R (.func (.func slices_Chunk_sl_byte_byte_c1.no) #[] #[(.pointer (some p)), (.pointer (some p_1))]) H2)

theorem slices_Chunk_sl_byte_byte.of {s : Sl} {n : Int} {H : Heap} {R : Value → Heap → Prop} (hvc : slices_Chunk_sl_byte_byte.vc s n H R) : slices_Chunk_sl_byte_byte.sp s n H R :=
  specT_of_vc prog_ng prog_mixed (c := cRaw) (A := []) (args := [s.v, (.int .i64 n)]) (Eq.mpr (by kernel_rfl : vcFT cRaw Tryz.prog slices_Chunk_sl_byte_byte.no [] [s.v, (.int .i64 n)] H R = slices_Chunk_sl_byte_byte.vc s n H R) hvc)

/-- cmp.Less[int] -/
def cmp_Less_int.vc (x : Int) (y : Int) (H : Heap) (R : Bool → Heap → Prop) : Prop :=
  cmp_isNaN_int.sp x H fun (r : Bool) H1 => br r (cmp_isNaN_int.sp y H1 fun (r_1 : Bool) H2 => R ((!r_1) || (decide (x < y))) H2) (R (decide (x < y)) H1)

theorem cmp_Less_int.of {x : Int} {y : Int} {H : Heap} {R : Bool → Heap → Prop} (hvc : cmp_Less_int.vc x y H R) : cmp_Less_int.sp x y H R :=
  specT_of_vc prog_ng prog_mixed (c := cBool) (A := []) (args := [(.int .i64 x), (.int .i64 y)]) (Eq.mpr (by kernel_rfl : vcFT cBool Tryz.prog cmp_Less_int.no [] [(.int .i64 x), (.int .i64 y)] H R = cmp_Less_int.vc x y H R) hvc)

/-- slices.isNaN[int] -/
def slices_isNaN_int.vc (x : Int) (H : Heap) (R : Bool → Heap → Prop) : Prop :=
  R (x != x) H

theorem slices_isNaN_int.of {x : Int} {H : Heap} {R : Bool → Heap → Prop} (hvc : slices_isNaN_int.vc x H R) : slices_isNaN_int.sp x H R :=
  specT_of_vc prog_ng prog_mixed (c := cBool) (A := []) (args := [(.int .i64 x)]) (Eq.mpr (by kernel_rfl : vcFT cBool Tryz.prog slices_isNaN_int.no [] [(.int .i64 x)] H R = slices_isNaN_int.vc x H R) hvc)

/-- cmp.isNaN[uint64] -/
def cmp_isNaN_uint64.vc (x : Int) (H : Heap) (R : Bool → Heap → Prop) : Prop :=
  R (x != x) H

theorem cmp_isNaN_uint64.of {x : Int} {H : Heap} {R : Bool → Heap → Prop} (hvc : cmp_isNaN_uint64.vc x H R) : cmp_isNaN_uint64.sp x H R :=
  specT_of_vc prog_ng prog_mixed (c := cBool) (A := []) (args := [(.int .u64 x)]) (Eq.mpr (by kernel_rfl : vcFT cBool Tryz.prog cmp_isNaN_uint64.no [] [(.int .u64 x)] H R = cmp_isNaN_uint64.vc x H R) hvc)

/-- (*fathom/pool.Pool).room -/
def pool_Pool_room.vc (p : Option Addr) (H : Heap) (R : Int → Heap → Prop) : Prop :=
  optK p fun a => ld cMap H (a.add 2) fun (x : Option Nat) => lenM H x fun (n : Nat) => optK p fun a_1 => ld (cInt .i64) H (a_1.add 1) fun (x_1 : Int) => br (decide ((n : Int) < x_1)) (R (0 : Int) H) (pool_Pool_first.sp p H fun (f : Option Addr) H1 => br f.isNone (R (31 : Int) H1) (optK f fun a_2 => ld cBool H1 (a_2.add 4) fun (x_2 : Bool) => br x_2 (pool_Pool_write.sp p f H1 fun (e : Int) H2 => br (e != (0 : Int)) (R e H2) (optK p fun a_3 => ld cMap H2 (a_3.add 2) fun (x_3 : Option Nat) => optK f fun a_4 => ldA (cAgg [cStr, (cInt .i64)]) 2 H2 (a_4.add 0) fun (x_4 : (ByteArray × Int)) => doT cRaw Tryz.prog (Builtin.delete_ #[ty_maparr_pool_spot_ptr_pool_frame, ty_pool_spot] ty_ #[(.map x_3), (.agg #[(.string x_4.1), (.int .i64 x_4.2)])]) H2 fun (_ : Value) H3 => R (0 : Int) H3)) (optK p fun a_5 => ld cMap H1 (a_5.add 2) fun (x_5 : Option Nat) => optK f fun a_6 => ldA (cAgg [cStr, (cInt .i64)]) 2 H1 (a_6.add 0) fun (x_6 : (ByteArray × Int)) => doT cRaw Tryz.prog (Builtin.delete_ #[ty_maparr_pool_spot_ptr_pool_frame, ty_pool_spot] ty_ #[(.map x_5), (.agg #[(.string x_6.1), (.int .i64 x_6.2)])]) H1 fun (_ : Value) H4 => R (0 : Int) H4)))

theorem pool_Pool_room.of {p : Option Addr} {H : Heap} {R : Int → Heap → Prop} (hvc : pool_Pool_room.vc p H R) : pool_Pool_room.sp p H R :=
  specT_of_vc prog_ng prog_mixed (c := (cInt .i64)) (A := []) (args := [(.pointer p)]) (Eq.mpr (by kernel_rfl : vcFT (cInt .i64) Tryz.prog pool_Pool_room.no [] [(.pointer p)] H R = pool_Pool_room.vc p H R) hvc)

/-- fathom/page.Open -/
def page_Open.vc (b : Sl) (H : Heap) (R : (Int × Sl × Int) → Heap → Prop) : Prop :=
  br ((b.n : Int) != (512 : Int)) (R ((0 : Int), (Sl.mk none 0 0), (2 : Int)) H) ((0 ≤ (4 : Int) ∧ (4 : Int) ≤ (b.n : Int)) ∧ page_Sum.sp (Sl.mk (slA b.a b.c ((4 : Int).toNat) 1) (b.n - ((4 : Int).toNat)) (b.c - ((4 : Int).toNat))) H fun (n : Int) H1 => LoopVC Int (0 : Int) H1 fun next z H2 => br (decide (z < (4 : Int))) (optK b.a fun a => (0 ≤ z ∧ z < (b.n : Int)) ∧ ld (cInt .u8) H2 (a.add (z.toNat * 1)) fun (x : Int) => 0 ≤ (IntKind.i64.wrap ((8 : Int) * z)) ∧ br (x != (IntKind.u8.wrap (ishr .u32 n (IntKind.i64.wrap ((8 : Int) * z))))) (R ((0 : Int), (Sl.mk none 0 0), (20 : Int)) H2) (next (IntKind.i64.wrap (z + (1 : Int))) H2)) (optK b.a fun a_1 => (0 ≤ (4 : Int) ∧ (4 : Int) < (b.n : Int)) ∧ ld (cInt .u8) H2 (a_1.add ((4 : Int).toNat * 1)) fun (x_1 : Int) => optK b.a fun a_2 => (0 ≤ (5 : Int) ∧ (5 : Int) < (b.n : Int)) ∧ ld (cInt .u8) H2 (a_2.add ((5 : Int).toNat * 1)) fun (x_2 : Int) => br (decide ((ior .i64 (IntKind.i64.wrap x_1) (ishl .i64 (IntKind.i64.wrap x_2) (8 : Int))) > (504 : Int))) (R ((0 : Int), (Sl.mk none 0 0), (20 : Int)) H2) (optK b.a fun a_3 => (0 ≤ (7 : Int) ∧ (7 : Int) < (b.n : Int)) ∧ ld (cInt .u8) H2 (a_3.add ((7 : Int).toNat * 1)) fun (x_3 : Int) => br (x_3 != (157 : Int)) (R ((0 : Int), (Sl.mk none 0 0), (20 : Int)) H2) ((0 ≤ (IntKind.i64.wrap ((8 : Int) + (ior .i64 (IntKind.i64.wrap x_1) (ishl .i64 (IntKind.i64.wrap x_2) (8 : Int))))) ∧ (IntKind.i64.wrap ((8 : Int) + (ior .i64 (IntKind.i64.wrap x_1) (ishl .i64 (IntKind.i64.wrap x_2) (8 : Int))))) ≤ (b.n : Int)) ∧ slices_ContainsFunc_sl_byte_byte.sp (Sl.mk (slA b.a b.c ((IntKind.i64.wrap ((8 : Int) + (ior .i64 (IntKind.i64.wrap x_1) (ishl .i64 (IntKind.i64.wrap x_2) (8 : Int))))).toNat) 1) (b.n - ((IntKind.i64.wrap ((8 : Int) + (ior .i64 (IntKind.i64.wrap x_1) (ishl .i64 (IntKind.i64.wrap x_2) (8 : Int))))).toNat)) (b.c - ((IntKind.i64.wrap ((8 : Int) + (ior .i64 (IntKind.i64.wrap x_1) (ishl .i64 (IntKind.i64.wrap x_2) (8 : Int))))).toNat))) H2 fun (r : Bool) H3 => br r (R ((0 : Int), (Sl.mk none 0 0), (20 : Int)) H3) (∃ G : Heap → Prop, G H3 ∧ optK b.a fun a_4 => (0 ≤ (6 : Int) ∧ (6 : Int) < (b.n : Int)) ∧ ldC (cInt .u8) G (a_4.add ((6 : Int).toNat * 1)) fun (x_4 : Int) => (0 ≤ (IntKind.i64.wrap ((8 : Int) + (ior .i64 (IntKind.i64.wrap x_1) (ishl .i64 (IntKind.i64.wrap x_2) (8 : Int))))) ∧ (IntKind.i64.wrap ((8 : Int) + (ior .i64 (IntKind.i64.wrap x_1) (ishl .i64 (IntKind.i64.wrap x_2) (8 : Int))))) ≤ (b.c : Int)) ∧ (0 ≤ (8 : Int) ∧ (8 : Int) ≤ (IntKind.i64.wrap ((8 : Int) + (ior .i64 (IntKind.i64.wrap x_1) (ishl .i64 (IntKind.i64.wrap x_2) (8 : Int)))))) ∧ slices_Clone_sl_byte_byte.sp (Sl.mk (slA b.a b.c ((8 : Int).toNat) 1) (((IntKind.i64.wrap ((8 : Int) + (ior .i64 (IntKind.i64.wrap x_1) (ishl .i64 (IntKind.i64.wrap x_2) (8 : Int))))).toNat) - ((8 : Int).toNat)) (b.c - ((8 : Int).toNat))) H3 fun (r_1 : Sl) H4 => G H4 ∧ R (x_4, r_1, (0 : Int)) H4)))))

theorem page_Open.of {b : Sl} {H : Heap} {R : (Int × Sl × Int) → Heap → Prop} (hvc : page_Open.vc b H R) : page_Open.sp b H R :=
  specT_of_vc prog_ng prog_mixed (c := (cTup [(cInt .u8), cSl, (cInt .i64)])) (A := [(5, [(14, (cInt .i64))])]) (args := [b.v]) (Eq.mpr (by kernel_rfl : vcFT (cTup [(cInt .u8), cSl, (cInt .i64)]) Tryz.prog page_Open.no [(5, [(14, (cInt .i64))])] [b.v] H R = page_Open.vc b H R) hvc)

/-- slices.DeleteFunc[[]*fathom/pool.frame,*fathom/pool.frame] -/
def slices_DeleteFunc_sl_ptr_pool_frame_ptr_pool_frame.vc (s : Sl) (cap : Addr) (H : Heap) (R : Sl → Heap → Prop) : Prop :=
  slices_IndexFunc_sl_ptr_pool_frame_ptr_pool_frame_v2.sp s cap H fun (i : Int) H1 => br (i == (-1 : Int)) (R s H1) (LoopVC (Int × Int) (i, IntKind.i64.wrap (i + (1 : Int))) H1 fun next z H2 => br (decide (z.2 < (s.n : Int))) (optK s.a fun a => (0 ≤ z.2 ∧ z.2 < (s.n : Int)) ∧ ld cPtr H2 (a.add (z.2.toNat * 1)) fun (v : Option Addr) => pool_Pool_of_c1.sp v cap H2 fun (r : Bool) H3 => br (!r) (optK s.a fun a_1 => (0 ≤ z.1 ∧ z.1 < (s.n : Int)) ∧ st H3 (a_1.add (z.1.toNat * 1)) (.pointer v) fun H4 => next (IntKind.i64.wrap (z.1 + (1 : Int)), IntKind.i64.wrap (z.2 + (1 : Int))) H4) (next (z.1, IntKind.i64.wrap (z.2 + (1 : Int))) H3)) ((0 ≤ z.1 ∧ z.1 ≤ (s.n : Int)) ∧ doT cRaw Tryz.prog (Builtin.clear_ #[ty_sl_ptr_pool_frame] ty_ #[(.slice (slA s.a s.c z.1.toNat 1) (s.n - z.1.toNat) (s.c - z.1.toNat))]) H2 fun (_ : Value) H5 => (0 ≤ z.1 ∧ z.1 ≤ (s.c : Int)) ∧ R (Sl.mk (slA s.a s.c 0 1) (z.1.toNat - 0) (s.c - 0)) H5))

theorem slices_DeleteFunc_sl_ptr_pool_frame_ptr_pool_frame.of {s : Sl} {cap : Addr} {H : Heap} {R : Sl → Heap → Prop} (hvc : slices_DeleteFunc_sl_ptr_pool_frame_ptr_pool_frame.vc s cap H R) : slices_DeleteFunc_sl_ptr_pool_frame_ptr_pool_frame.sp s cap H R :=
  specT_of_vc prog_ng prog_mixed (c := cSl) (A := [(5, [(5, (cInt .i64)), (6, (cInt .i64))])]) (args := [s.v, (.func (.func pool_Pool_of_c1.no) #[] #[(.pointer (some cap))])]) (Eq.mpr (by kernel_rfl : vcFT cSl Tryz.prog slices_DeleteFunc_sl_ptr_pool_frame_ptr_pool_frame.no [(5, [(5, (cInt .i64)), (6, (cInt .i64))])] [s.v, (.func (.func pool_Pool_of_c1.no) #[] #[(.pointer (some cap))])] H R = slices_DeleteFunc_sl_ptr_pool_frame_ptr_pool_frame.vc s cap H R) hvc)

/-- slices.Collect[*fathom/pool.frame] -/
def slices_Collect_ptr_pool_frame.vc (seq : Value) (H : Heap) (R : Sl → Heap → Prop) : Prop :=
  slices_AppendSeq_sl_ptr_pool_frame_ptr_pool_frame.sp (Sl.mk none 0 0) seq H fun (r : Sl) H1 => R r H1

theorem slices_Collect_ptr_pool_frame.of {seq : Value} {H : Heap} {R : Sl → Heap → Prop} (hvc : slices_Collect_ptr_pool_frame.vc seq H R) : slices_Collect_ptr_pool_frame.sp seq H R :=
  specT_of_vc prog_ng prog_mixed (c := cSl) (A := []) (args := [seq]) (Eq.mpr (by kernel_rfl : vcFT cSl Tryz.prog slices_Collect_ptr_pool_frame.no [] [seq] H R = slices_Collect_ptr_pool_frame.vc seq H R) hvc)

/-- maps.Values[map[fathom/pool.spot]*fathom/pool.frame,fathom/pool.spot,*fathom/pool.frame] -/
def maps_Values_map_pool_spot_ptr_pool_frame_pool_spot_ptr_pool_frame.vc (m : Option Nat) (H : Heap) (R : Value → Heap → Prop) : Prop :=
  newC H #[(.map m)] ty_maparr_pool_spot_ptr_pool_frame fun p H1 => R (.func (.func maps_Values_map_pool_spot_ptr_pool_frame_pool_spot_ptr_pool_frame_c1.no) #[] #[(.pointer (some p))]) H1

theorem maps_Values_map_pool_spot_ptr_pool_frame_pool_spot_ptr_pool_frame.of {m : Option Nat} {H : Heap} {R : Value → Heap → Prop} (hvc : maps_Values_map_pool_spot_ptr_pool_frame_pool_spot_ptr_pool_frame.vc m H R) : maps_Values_map_pool_spot_ptr_pool_frame_pool_spot_ptr_pool_frame.sp m H R :=
  specT_of_vc prog_ng prog_mixed (c := cRaw) (A := []) (args := [(.map m)]) (Eq.mpr (by kernel_rfl : vcFT cRaw Tryz.prog maps_Values_map_pool_spot_ptr_pool_frame_pool_spot_ptr_pool_frame.no [] [(.map m)] H R = maps_Values_map_pool_spot_ptr_pool_frame_pool_spot_ptr_pool_frame.vc m H R) hvc)

/-- (*fathom/pool.Pool).of$1 -/
def pool_Pool_of_c1.vc (f : Option Addr) (cap : Addr) (H : Heap) (R : Bool → Heap → Prop) : Prop :=
  optK f fun a => ld cStr H ((a.add 0).add 0) fun (x : ByteArray) => ld cStr H cap fun (x_1 : ByteArray) => R (!(x.toList == x_1.toList)) H

theorem pool_Pool_of_c1.of {f : Option Addr} {cap : Addr} {H : Heap} {R : Bool → Heap → Prop} (hvc : pool_Pool_of_c1.vc f cap H R) : pool_Pool_of_c1.sp f cap H R :=
  specT_of_vc prog_ng prog_mixed (c := cBool) (A := []) (args := [(.pointer f), (.pointer (some cap))]) (Eq.mpr (by kernel_rfl : vcFT cBool Tryz.prog pool_Pool_of_c1.no [] [(.pointer f), (.pointer (some cap))] H R = pool_Pool_of_c1.vc f cap H R) hvc)

/-- (*fathom/pool.Pool).of$2 -/
def pool_Pool_of_c2.vc (a : Option Addr) (b : Option Addr) (H : Heap) (R : Int → Heap → Prop) : Prop :=
  optK a fun a_1 => ld (cInt .i64) H ((a_1.add 0).add 1) fun (x : Int) => optK b fun a_2 => ld (cInt .i64) H ((a_2.add 0).add 1) fun (x_1 : Int) => R (IntKind.i64.wrap (x - x_1)) H

theorem pool_Pool_of_c2.of {a : Option Addr} {b : Option Addr} {H : Heap} {R : Int → Heap → Prop} (hvc : pool_Pool_of_c2.vc a b H R) : pool_Pool_of_c2.sp a b H R :=
  specT_of_vc prog_ng prog_mixed (c := (cInt .i64)) (A := []) (args := [(.pointer a), (.pointer b)]) (Eq.mpr (by kernel_rfl : vcFT (cInt .i64) Tryz.prog pool_Pool_of_c2.no [] [(.pointer a), (.pointer b)] H R = pool_Pool_of_c2.vc a b H R) hvc)

/-- fathom/page.Seal -/
def page_Seal.vc (kind : Int) (b : Sl) (H : Heap) (R : (Sl × Int) → Heap → Prop) : Prop :=
  br (decide ((b.n : Int) > (504 : Int))) (R ((Sl.mk none 0 0), (2 : Int)) H) (newC H (zc Tryz.prog ty_arr_512_uint8) ty_arr_512_uint8 fun p H1 => (0 ≤ (4 : Int) ∧ (4 : Int) < ((512 : Nat) : Int)) ∧ st H1 (p.add ((4 : Int).toNat * 1)) (.int .u8 (IntKind.u8.wrap (b.n : Int))) fun H2 => (0 ≤ (5 : Int) ∧ (5 : Int) < ((512 : Nat) : Int)) ∧ st H2 (p.add ((5 : Int).toNat * 1)) (.int .u8 (IntKind.u8.wrap (ishr .i64 (b.n : Int) (8 : Int)))) fun H3 => (0 ≤ (6 : Int) ∧ (6 : Int) < ((512 : Nat) : Int)) ∧ st H3 (p.add ((6 : Int).toNat * 1)) (.int .u8 kind) fun H4 => (0 ≤ (7 : Int) ∧ (7 : Int) < ((512 : Nat) : Int)) ∧ st H4 (p.add ((7 : Int).toNat * 1)) (.int .u8 (157 : Int)) fun H5 => (0 ≤ (8 : Int) ∧ (8 : Int) ≤ (512 : Int)) ∧ doT (cInt .i64) Tryz.prog (Builtin.copy_ #[ty_sl_uint8, ty_sl_uint8] ty_int #[(.slice (slA (some p) 512 ((8 : Int).toNat) 1) (512 - ((8 : Int).toNat)) (512 - ((8 : Int).toNat))), b.v]) H5 fun (_ : Int) H6 => (0 ≤ (4 : Int) ∧ (4 : Int) ≤ (512 : Int)) ∧ page_Sum.sp (Sl.mk (slA (some p) 512 ((4 : Int).toNat) 1) (512 - ((4 : Int).toNat)) (512 - ((4 : Int).toNat))) H6 fun (n : Int) H7 => LoopVC Int (0 : Int) H7 fun next z H8 => br (decide (z < (4 : Int))) (0 ≤ (IntKind.i64.wrap ((8 : Int) * z)) ∧ (0 ≤ z ∧ z < ((512 : Nat) : Int)) ∧ st H8 (p.add (z.toNat * 1)) (.int .u8 (IntKind.u8.wrap (ishr .u32 n (IntKind.i64.wrap ((8 : Int) * z))))) fun H9 => next (IntKind.i64.wrap (z + (1 : Int))) H9) (slices_Clone_sl_byte_byte.sp (Sl.mk (slA (some p) 512 0 1) (512 - 0) (512 - 0)) H8 fun (r : Sl) H10 => R (r, (0 : Int)) H10))

theorem page_Seal.of {kind : Int} {b : Sl} {H : Heap} {R : (Sl × Int) → Heap → Prop} (hvc : page_Seal.vc kind b H R) : page_Seal.sp kind b H R :=
  specT_of_vc prog_ng prog_mixed (c := (cTup [cSl, (cInt .i64)])) (A := [(9, [(29, (cInt .i64))])]) (args := [(.int .u8 kind), b.v]) (Eq.mpr (by kernel_rfl : vcFT (cTup [cSl, (cInt .i64)]) Tryz.prog page_Seal.no [(9, [(29, (cInt .i64))])] [(.int .u8 kind), b.v] H R = page_Seal.vc kind b H R) hvc)

/-- (*fathom/disk.Disk).Write -/
def disk_Disk_Write.vc (d : Option Addr) (name : ByteArray) (page : Int) (b : Sl) (H : Heap) (R : Int → Heap → Prop) : Prop :=
  disk_Disk_ready.sp d H fun (e : Int) H1 => br (e != (0 : Int)) (R e H1) (br ((b.n : Int) != (512 : Int)) (R (2 : Int) H1) (disk_Disk_open.sp d name H1 fun (r : (Option Addr × Int)) H2 => cut Unit (fun J => br (r.2 != (0 : Int)) (R r.2 H2) (br (decide (page < (0 : Int))) (br (decide (page < (0 : Int))) (R (12 : Int) H2) (optK r.1 fun a => ld cSl H2 (a.add 0) fun (x : Sl) => br (page == (x.n : Int)) (optK d fun a_1 => ld (cInt .i64) H2 (a_1.add 1) fun (x_1 : Int) => optK d fun a_2 => ld (cInt .i64) H2 (a_2.add 3) fun (x_2 : Int) => br (x_1 == x_2) (R (5 : Int) H2) (J () H2)) (J () H2))) (optK r.1 fun a_3 => ld cSl H2 (a_3.add 0) fun (x_3 : Sl) => br (decide (page > (x_3.n : Int))) (R (12 : Int) H2) (optK r.1 fun a_4 => ld cSl H2 (a_4.add 0) fun (x_4 : Sl) => br (page == (x_4.n : Int)) (optK d fun a_5 => ld (cInt .i64) H2 (a_5.add 1) fun (x_5 : Int) => optK d fun a_6 => ld (cInt .i64) H2 (a_6.add 3) fun (x_6 : Int) => br (x_5 == x_6) (R (5 : Int) H2) (J () H2)) (J () H2))))) fun (_ : Unit) H3 => disk_Disk_change.sp d H3 fun (e_1 : Int) H4 => br (e_1 != (0 : Int)) (R e_1 H4) (cut Unit (fun J_1 => optK r.1 fun a_7 => ld cSl H4 (a_7.add 0) fun (x_7 : Sl) => br (page == (x_7.n : Int)) (optK d fun a_8 => ld (cInt .i64) H4 (a_8.add 1) fun (x_8 : Int) => optK d fun a_9 => st H4 (a_9.add 1) (.int .i64 (IntKind.i64.wrap (x_8 + (1 : Int)))) fun H6 => optK d fun a_10 => ld (cInt .i64) H6 (a_10.add 2) fun (x_9 : Int) => optK d fun a_11 => ld (cInt .i64) H6 (a_11.add 1) fun (x_10 : Int) => optK d fun a_12 => st H6 (a_12.add 2) (.int .i64 (if x_10 > x_9 then x_10 else x_9)) fun H7 => J_1 () H7) (J_1 () H4)) fun (_ : Unit) H5 => ∃ G : Heap → Prop, G H5 ∧ optK r.1 fun a_13 => ldC cSl G (a_13.add 2) fun (x_11 : Sl) => optK d fun a_14 => ld (cInt .i64) H5 (a_14.add 5) fun (x_12 : Int) => 512 ≤ b.n ∧ optK b.a fun a_15 => ldAC cArr 512 G a_15 fun (x_13 : Array Value) => pureV cArr Tryz.prog (Instr.build ty_disk_mark #[(0, (.int .i64 x_12)), (1, (.int .i64 page)), (2, (.agg x_13))]) fun (y : Array Value) => doT cSl Tryz.prog (Instr.buildSlice ty_sl_disk_mark 1 #[(0, (.agg y))]) H5 fun (sl : Sl) H8 => G H8 ∧ doT cSl Tryz.prog (Builtin.append_ #[ty_sl_disk_mark, ty_sl_disk_mark] ty_sl_disk_mark #[x_11.v, sl.v]) H8 fun (s : Sl) H9 => optK r.1 fun a_16 => st H9 (a_16.add 2) s.v fun H10 => optK r.1 fun a_17 => ld cSl H10 (a_17.add 0) fun (x_14 : Sl) => 512 ≤ b.n ∧ optK b.a fun a_18 => ldA cArr 512 H10 a_18 fun (x_15 : Array Value) => disk_put.sp x_14 page x_15 H10 fun (r_1 : Sl) H11 => optK r.1 fun a_19 => st H11 (a_19.add 0) r_1.v fun H12 => optK d fun a_20 => ld (cInt .i64) H12 (a_20.add 5) fun (x_16 : Int) => optK d fun a_21 => st H12 (a_21.add 5) (.int .i64 (IntKind.i64.wrap (x_16 + (1 : Int)))) fun H13 => R (0 : Int) H13)))

theorem disk_Disk_Write.of {d : Option Addr} {name : ByteArray} {page : Int} {b : Sl} {H : Heap} {R : Int → Heap → Prop} (hvc : disk_Disk_Write.vc d name page b H R) : disk_Disk_Write.sp d name page b H R :=
  specT_of_vc prog_ng prog_mixed (c := (cInt .i64)) (A := [(100014, []), (100020, [])]) (args := [(.pointer d), (.string name), (.int .i64 page), b.v]) (Eq.mpr (by kernel_rfl : vcFT (cInt .i64) Tryz.prog disk_Disk_Write.no [(100014, []), (100020, [])] [(.pointer d), (.string name), (.int .i64 page), b.v] H R = disk_Disk_Write.vc d name page b H R) hvc)

/-- slices.Chunk[[]byte,byte]$1 -/
def slices_Chunk_sl_byte_byte_c1.vc (l : Nat) (cap : Addr) (cap1 : Addr) (H : Heap) (R : Unit → Heap → Prop) : Prop :=
  LoopVC Int (0 : Int) H fun next i H1 => ld cSl H1 cap fun (x : Sl) => br (decide (i < (x.n : Int))) (ld (cInt .i64) H1 cap1 fun (x_1 : Int) => ld cSl H1 cap fun (x_2 : Sl) => (0 ≤ i ∧ i ≤ (x_2.n : Int)) ∧ ld cSl H1 cap fun (x_3 : Sl) => (0 ≤ (IntKind.i64.wrap (i + (if ((x_2.n - i.toNat : Nat) : Int) < x_1 then ((x_2.n - i.toNat : Nat) : Int) else x_1))) ∧ (IntKind.i64.wrap (i + (if ((x_2.n - i.toNat : Nat) : Int) < x_1 then ((x_2.n - i.toNat : Nat) : Int) else x_1))) ≤ (x_3.c : Int)) ∧ (0 ≤ (IntKind.i64.wrap (i + (if ((x_2.n - i.toNat : Nat) : Int) < x_1 then ((x_2.n - i.toNat : Nat) : Int) else x_1))) ∧ (IntKind.i64.wrap (i + (if ((x_2.n - i.toNat : Nat) : Int) < x_1 then ((x_2.n - i.toNat : Nat) : Int) else x_1))) ≤ (IntKind.i64.wrap (i + (if ((x_2.n - i.toNat : Nat) : Int) < x_1 then ((x_2.n - i.toNat : Nat) : Int) else x_1)))) ∧ (0 ≤ i ∧ i ≤ (IntKind.i64.wrap (i + (if ((x_2.n - i.toNat : Nat) : Int) < x_1 then ((x_2.n - i.toNat : Nat) : Int) else x_1)))) ∧ YieldSpec Tryz.prog l #[(.slice (slA x_3.a ((IntKind.i64.wrap (i + (if ((x_2.n - i.toNat : Nat) : Int) < x_1 then ((x_2.n - i.toNat : Nat) : Int) else x_1))).toNat) i.toNat 1) ((IntKind.i64.wrap (i + (if ((x_2.n - i.toNat : Nat) : Int) < x_1 then ((x_2.n - i.toNat : Nat) : Int) else x_1))).toNat - i.toNat) ((IntKind.i64.wrap (i + (if ((x_2.n - i.toNat : Nat) : Int) < x_1 then ((x_2.n - i.toNat : Nat) : Int) else x_1))).toNat - i.toNat))] H1 fun (b : Bool) H2 => br (!b) (R () H2) (ld (cInt .i64) H2 cap1 fun (x_4 : Int) => next (IntKind.i64.wrap (i + x_4)) H2)) (R () H1)

theorem slices_Chunk_sl_byte_byte_c1.of {l : Nat} {cap : Addr} {cap1 : Addr} {H : Heap} {R : Unit → Heap → Prop} (hvc : slices_Chunk_sl_byte_byte_c1.vc l cap cap1 H R) : slices_Chunk_sl_byte_byte_c1.sp l cap cap1 H R :=
  specT_of_vc prog_ng prog_mixed (c := (cTup [])) (A := [(1, [(4, (cInt .i64))])]) (args := [(.func (.yield l) #[] #[]), (.pointer (some cap)), (.pointer (some cap1))]) (Eq.mpr (by kernel_rfl : vcFT (cTup []) Tryz.prog slices_Chunk_sl_byte_byte_c1.no [(1, [(4, (cInt .i64))])] [(.func (.yield l) #[] #[]), (.pointer (some cap)), (.pointer (some cap1))] H R = slices_Chunk_sl_byte_byte_c1.vc l cap cap1 H R) hvc)

/-- cmp.isNaN[int] -/
def cmp_isNaN_int.vc (x : Int) (H : Heap) (R : Bool → Heap → Prop) : Prop :=
  R (x != x) H

theorem cmp_isNaN_int.of {x : Int} {H : Heap} {R : Bool → Heap → Prop} (hvc : cmp_isNaN_int.vc x H R) : cmp_isNaN_int.sp x H R :=
  specT_of_vc prog_ng prog_mixed (c := cBool) (A := []) (args := [(.int .i64 x)]) (Eq.mpr (by kernel_rfl : vcFT cBool Tryz.prog cmp_isNaN_int.no [] [(.int .i64 x)] H R = cmp_isNaN_int.vc x H R) hvc)

/-- (*fathom/pool.Pool).first -/
def pool_Pool_first.vc (p : Option Addr) (H : Heap) (R : Option Addr → Heap → Prop) : Prop :=
  optK p fun a => ld cMap H (a.add 2) fun (x : Option Nat) => doT cPtr Tryz.prog (Instr.range ty_maparr_pool_spot_ptr_pool_frame (.map x)) H fun (it : Option Addr) H1 => LoopVC (Option Addr) none H1 fun next best H2 => doT cNext Tryz.prog (Instr.next (.pointer it) false ty_) H2 fun (nx : Bool × List Value) H3 => br nx.1 (doT cTwo Tryz.prog (Instr.entry (.pointer it)) H3 fun (en : Value × Value) H4 => asT cPtr en.2 fun (f : Option Addr) => pool_Pool_room_c1.sp f H4 fun (r : Bool) H5 => br r (br best.isNone (next f H5) (pool_Pool_room_c2.sp f best H5 fun (r_1 : Bool) H6 => br r_1 (next f H6) (next best H6))) (next best H5)) (R best H3)

theorem pool_Pool_first.of {p : Option Addr} {H : Heap} {R : Option Addr → Heap → Prop} (hvc : pool_Pool_first.vc p H R) : pool_Pool_first.sp p H R :=
  specT_of_vc prog_ng prog_mixed (c := cPtr) (A := [(3, [(7, cPtr)])]) (args := [(.pointer p), (.func (.func pool_Pool_room_c1.no) #[] #[]), (.func (.func pool_Pool_room_c2.no) #[] #[])]) (Eq.mpr (by kernel_rfl : vcFT cPtr Tryz.prog pool_Pool_first.no [(3, [(7, cPtr)])] [(.pointer p), (.func (.func pool_Pool_room_c1.no) #[] #[]), (.func (.func pool_Pool_room_c2.no) #[] #[])] H R = pool_Pool_first.vc p H R) hvc)

/-- (*fathom/pool.Pool).room$1 -/
def pool_Pool_room_c1.vc (f : Option Addr) (H : Heap) (R : Bool → Heap → Prop) : Prop :=
  optK f fun a => ld (cInt .i64) H (a.add 5) fun (x : Int) => R (x == (0 : Int)) H

theorem pool_Pool_room_c1.of {f : Option Addr} {H : Heap} {R : Bool → Heap → Prop} (hvc : pool_Pool_room_c1.vc f H R) : pool_Pool_room_c1.sp f H R :=
  specT_of_vc prog_ng prog_mixed (c := cBool) (A := []) (args := [(.pointer f)]) (Eq.mpr (by kernel_rfl : vcFT cBool Tryz.prog pool_Pool_room_c1.no [] [(.pointer f)] H R = pool_Pool_room_c1.vc f H R) hvc)

/-- (*fathom/pool.Pool).room$2 -/
def pool_Pool_room_c2.vc (a : Option Addr) (b : Option Addr) (H : Heap) (R : Bool → Heap → Prop) : Prop :=
  optK a fun a_1 => ld (cInt .i64) H (a_1.add 6) fun (x : Int) => optK b fun a_2 => ld (cInt .i64) H (a_2.add 6) fun (x_1 : Int) => R (decide (x < x_1)) H

theorem pool_Pool_room_c2.of {a : Option Addr} {b : Option Addr} {H : Heap} {R : Bool → Heap → Prop} (hvc : pool_Pool_room_c2.vc a b H R) : pool_Pool_room_c2.sp a b H R :=
  specT_of_vc prog_ng prog_mixed (c := cBool) (A := []) (args := [(.pointer a), (.pointer b)]) (Eq.mpr (by kernel_rfl : vcFT cBool Tryz.prog pool_Pool_room_c2.no [] [(.pointer a), (.pointer b)] H R = pool_Pool_room_c2.vc a b H R) hvc)

/-- fathom/page.Sum -/
def page_Sum.vc (b : Sl) (H : Heap) (R : Int → Heap → Prop) : Prop :=
  LoopVC (Int × Int) ((4294967295 : Int), (0 : Int)) H fun next z H1 => br (decide (z.2 < (b.n : Int))) (optK b.a fun a => (0 ≤ z.2 ∧ z.2 < (b.n : Int)) ∧ ld (cInt .u8) H1 (a.add (z.2.toNat * 1)) fun (c : Int) => (0 ≤ (iand .u32 (ixor .u32 z.1 (IntKind.u32.wrap c)) (15 : Int)) ∧ (iand .u32 (ixor .u32 z.1 (IntKind.u32.wrap c)) (15 : Int)) < ((16 : Nat) : Int)) ∧ ld (cInt .u32) H1 ((Addr.mk 0 0 none).add ((iand .u32 (ixor .u32 z.1 (IntKind.u32.wrap c)) (15 : Int)).toNat * 1)) fun (x : Int) => (0 ≤ (iand .u32 (ixor .u32 (ishr .u32 (ixor .u32 z.1 (IntKind.u32.wrap c)) (4 : Int)) x) (15 : Int)) ∧ (iand .u32 (ixor .u32 (ishr .u32 (ixor .u32 z.1 (IntKind.u32.wrap c)) (4 : Int)) x) (15 : Int)) < ((16 : Nat) : Int)) ∧ ld (cInt .u32) H1 ((Addr.mk 0 0 none).add ((iand .u32 (ixor .u32 (ishr .u32 (ixor .u32 z.1 (IntKind.u32.wrap c)) (4 : Int)) x) (15 : Int)).toNat * 1)) fun (x_1 : Int) => next (ixor .u32 (ishr .u32 (ixor .u32 (ishr .u32 (ixor .u32 z.1 (IntKind.u32.wrap c)) (4 : Int)) x) (4 : Int)) x_1, IntKind.i64.wrap (z.2 + (1 : Int))) H1) (R (ixor .u32 (4294967295 : Int) z.1) H1)

theorem page_Sum.of {b : Sl} {H : Heap} {R : Int → Heap → Prop} (hvc : page_Sum.vc b H R) : page_Sum.sp b H R :=
  specT_of_vc prog_ng prog_mixed (c := (cInt .u32)) (A := [(3, [(3, (cInt .u32)), (8, (cInt .i64))])]) (args := [b.v]) (Eq.mpr (by kernel_rfl : vcFT (cInt .u32) Tryz.prog page_Sum.no [(3, [(3, (cInt .u32)), (8, (cInt .i64))])] [b.v] H R = page_Sum.vc b H R) hvc)

/-- slices.ContainsFunc[[]byte,byte] -/
def slices_ContainsFunc_sl_byte_byte.vc (s : Sl) (H : Heap) (R : Bool → Heap → Prop) : Prop :=
  slices_IndexFunc_sl_byte_byte.sp s H fun (r : Int) H1 => R (decide (r ≥ (0 : Int))) H1

theorem slices_ContainsFunc_sl_byte_byte.of {s : Sl} {H : Heap} {R : Bool → Heap → Prop} (hvc : slices_ContainsFunc_sl_byte_byte.vc s H R) : slices_ContainsFunc_sl_byte_byte.sp s H R :=
  specT_of_vc prog_ng prog_mixed (c := cBool) (A := []) (args := [s.v, (.func (.func page_Open_c1.no) #[] #[])]) (Eq.mpr (by kernel_rfl : vcFT cBool Tryz.prog slices_ContainsFunc_sl_byte_byte.no [] [s.v, (.func (.func page_Open_c1.no) #[] #[])] H R = slices_ContainsFunc_sl_byte_byte.vc s H R) hvc)

/-- fathom/page.Open$1 -/
def page_Open_c1.vc (c : Int) (H : Heap) (R : Bool → Heap → Prop) : Prop :=
  R (c != (0 : Int)) H

theorem page_Open_c1.of {c : Int} {H : Heap} {R : Bool → Heap → Prop} (hvc : page_Open_c1.vc c H R) : page_Open_c1.sp c H R :=
  specT_of_vc prog_ng prog_mixed (c := cBool) (A := []) (args := [(.int .u8 c)]) (Eq.mpr (by kernel_rfl : vcFT cBool Tryz.prog page_Open_c1.no [] [(.int .u8 c)] H R = page_Open_c1.vc c H R) hvc)

/-- slices.IndexFunc[[]*fathom/pool.frame,*fathom/pool.frame] -/
def slices_IndexFunc_sl_ptr_pool_frame_ptr_pool_frame_v2.vc (s : Sl) (cap : Addr) (H : Heap) (R : Int → Heap → Prop) : Prop :=
  LoopVC Int (0 : Int) H fun next z H1 => br (decide (z < (s.n : Int))) (optK s.a fun a => (0 ≤ z ∧ z < (s.n : Int)) ∧ ld cPtr H1 (a.add (z.toNat * 1)) fun (x : Option Addr) => pool_Pool_of_c1.sp x cap H1 fun (r : Bool) H2 => br r (R z H2) (next (IntKind.i64.wrap (z + (1 : Int))) H2)) (R (-1 : Int) H1)

theorem slices_IndexFunc_sl_ptr_pool_frame_ptr_pool_frame_v2.of {s : Sl} {cap : Addr} {H : Heap} {R : Int → Heap → Prop} (hvc : slices_IndexFunc_sl_ptr_pool_frame_ptr_pool_frame_v2.vc s cap H R) : slices_IndexFunc_sl_ptr_pool_frame_ptr_pool_frame_v2.sp s cap H R :=
  specT_of_vc prog_ng prog_mixed (c := (cInt .i64)) (A := [(2, [(8, (cInt .i64))])]) (args := [s.v, (.func (.func pool_Pool_of_c1.no) #[] #[(.pointer (some cap))])]) (Eq.mpr (by kernel_rfl : vcFT (cInt .i64) Tryz.prog slices_IndexFunc_sl_ptr_pool_frame_ptr_pool_frame.no [(2, [(8, (cInt .i64))])] [s.v, (.func (.func pool_Pool_of_c1.no) #[] #[(.pointer (some cap))])] H R = slices_IndexFunc_sl_ptr_pool_frame_ptr_pool_frame_v2.vc s cap H R) hvc)

/-- slices.AppendSeq[[]*fathom/pool.frame,*fathom/pool.frame] -/
def slices_AppendSeq_sl_ptr_pool_frame_ptr_pool_frame.vc (s : Sl) (seq : Value) (H : Heap) (R : Sl → Heap → Prop) : Prop :=
  newC H #[s.v] ty_sl_ptr_pool_frame fun p H1 => RangeVC Tryz.prog seq H1 (fun l rec vs H2 KK => onSome (Cods.dec [cPtr] vs) fun (z : Option Addr) => H2[l]? = some (.loop (rec .ready none)) ∧ ld cSl (H2.setIfInBounds l (.loop (rec .busy none))) p fun (x : Sl) => newC (H2.setIfInBounds l (.loop (rec .busy none))) #[(.pointer z)] ty_ptr_pool_frame fun p_1 H3 => doT cSl Tryz.prog (Builtin.append_ #[ty_sl_ptr_pool_frame, ty_sl_ptr_pool_frame] ty_sl_ptr_pool_frame #[x.v, (.slice (some p_1) 1 1)]) H3 fun (s_1 : Sl) H4 => st H4 p s_1.v fun H5 => H5[l]? = some (.loop (rec .busy none)) ∧ KK true (H5.setIfInBounds l (.loop (rec .ready none)))) (fun r H6 => ld cSl H6 p fun (x_1 : Sl) => H6[r]? = some (.deferred (some [])) ∧ R x_1 (H6.setIfInBounds r (.deferred none))) (fun i r H6 => bif Nat.beq i 0 then ld cSl H6 p fun (x_2 : Sl) => H6[r]? = some (.deferred (some [])) ∧ R x_2 (H6.setIfInBounds r (.deferred none)) else False) (fun r H6 => H6[r]? = some (.deferred (some [])) ∧ R (Sl.mk none 0 0) (H6.setIfInBounds r (.deferred none)))

theorem slices_AppendSeq_sl_ptr_pool_frame_ptr_pool_frame.of {s : Sl} {seq : Value} {H : Heap} {R : Sl → Heap → Prop} (hvc : slices_AppendSeq_sl_ptr_pool_frame_ptr_pool_frame.vc s seq H R) : slices_AppendSeq_sl_ptr_pool_frame_ptr_pool_frame.sp s seq H R :=
  specT_of_vc prog_ng prog_mixed (c := cSl) (A := [(200003, [(7, cPtr)])]) (args := [s.v, seq]) (Eq.mpr (by kernel_rfl : vcFT cSl Tryz.prog slices_AppendSeq_sl_ptr_pool_frame_ptr_pool_frame.no [(200003, [(7, cPtr)])] [s.v, seq] H R = slices_AppendSeq_sl_ptr_pool_frame_ptr_pool_frame.vc s seq H R) hvc)

/-- maps.Values[map[fathom/pool.spot]*fathom/pool.frame,fathom/pool.spot,*fathom/pool.frame]$1 -/
def maps_Values_map_pool_spot_ptr_pool_frame_pool_spot_ptr_pool_frame_c1.vc (l : Nat) (cap : Addr) (H : Heap) (R : Unit → Heap → Prop) : Prop :=
  ld cMap H cap fun (x : Option Nat) => doT cPtr Tryz.prog (Instr.range ty_maparr_pool_spot_ptr_pool_frame (.map x)) H fun (it : Option Addr) H1 => LoopVC Unit () H1 fun next _ H2 => doT cNext Tryz.prog (Instr.next (.pointer it) false ty_) H2 fun (nx : Bool × List Value) H3 => br nx.1 (doT cTwo Tryz.prog (Instr.entry (.pointer it)) H3 fun (en : Value × Value) H4 => asT cPtr en.2 fun (v : Option Addr) => YieldSpec Tryz.prog l #[(.pointer v)] H4 fun (b : Bool) H5 => br (!b) (R () H5) (next () H5)) (R () H3)

theorem maps_Values_map_pool_spot_ptr_pool_frame_pool_spot_ptr_pool_frame_c1.of {l : Nat} {cap : Addr} {H : Heap} {R : Unit → Heap → Prop} (hvc : maps_Values_map_pool_spot_ptr_pool_frame_pool_spot_ptr_pool_frame_c1.vc l cap H R) : maps_Values_map_pool_spot_ptr_pool_frame_pool_spot_ptr_pool_frame_c1.sp l cap H R :=
  specT_of_vc prog_ng prog_mixed (c := (cTup [])) (A := [(1, [])]) (args := [(.func (.yield l) #[] #[]), (.pointer (some cap))]) (Eq.mpr (by kernel_rfl : vcFT (cTup []) Tryz.prog maps_Values_map_pool_spot_ptr_pool_frame_pool_spot_ptr_pool_frame_c1.no [(1, [])] [(.func (.yield l) #[] #[]), (.pointer (some cap))] H R = maps_Values_map_pool_spot_ptr_pool_frame_pool_spot_ptr_pool_frame_c1.vc l cap H R) hvc)

/-- slices.IndexFunc[[]byte,byte] -/
def slices_IndexFunc_sl_byte_byte.vc (s : Sl) (H : Heap) (R : Int → Heap → Prop) : Prop :=
  LoopVC Int (0 : Int) H fun next z H1 => br (decide (z < (s.n : Int))) (optK s.a fun a => (0 ≤ z ∧ z < (s.n : Int)) ∧ ld (cInt .u8) H1 (a.add (z.toNat * 1)) fun (x : Int) => page_Open_c1.sp x H1 fun (r : Bool) H2 => br r (R z H2) (next (IntKind.i64.wrap (z + (1 : Int))) H2)) (R (-1 : Int) H1)

theorem slices_IndexFunc_sl_byte_byte.of {s : Sl} {H : Heap} {R : Int → Heap → Prop} (hvc : slices_IndexFunc_sl_byte_byte.vc s H R) : slices_IndexFunc_sl_byte_byte.sp s H R :=
  specT_of_vc prog_ng prog_mixed (c := (cInt .i64)) (A := [(2, [(8, (cInt .i64))])]) (args := [s.v, (.func (.func page_Open_c1.no) #[] #[])]) (Eq.mpr (by kernel_rfl : vcFT (cInt .i64) Tryz.prog slices_IndexFunc_sl_byte_byte.no [(2, [(8, (cInt .i64))])] [s.v, (.func (.func page_Open_c1.no) #[] #[])] H R = slices_IndexFunc_sl_byte_byte.vc s H R) hvc)

end Go.Proofs.YtbgpkpbejldlcaaGreatDoor
