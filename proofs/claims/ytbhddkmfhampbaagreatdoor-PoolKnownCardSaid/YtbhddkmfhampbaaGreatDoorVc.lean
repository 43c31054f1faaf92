/-
  Written by wip/tools/gen.py: what the walk of each function asks, in plain form, and that it is enough.
-/
import Derived.Test.YtbhddkmfhampbaaGreatDoorFxf
import Derived.Test.YtbhddkmfhampbaaGreatDoorProg
import Derived.KernelRfl
namespace Go.Proofs.YtbhddkmfhampbaaGreatDoor
set_option maxRecDepth 100000

theorem prog_mixed : Tryz.prog.follows .mixedOrders = true := by kernel_rfl
theorem prog_ngB : (Tryz.prog.funcs.toList.all fun fn => !(fn.name == "runtime.NumGoroutine")) = true := by kernel_rfl
theorem prog_ng : NoNG Tryz.prog := by
  intro f fn hf
  have h1 := List.all_eq_true.1 prog_ngB fn (by
    have := Array.getElem?_eq_some_iff.1 hf
    obtain ⟨h, e⟩ := this
    rw [← e]; simp)
  simpa using h1

@[reducible] def ty_ : TypeId := 0
@[reducible] def ty_int : TypeId := 3
@[reducible] def ty_uint8 : TypeId := 5
@[reducible] def ty_string : TypeId := 9
@[reducible] def ty_sl_fathomlaw03_Step : TypeId := 22
@[reducible] def ty_fathomlaw03_Step : TypeId := 39
@[reducible] def ty_sl_fathomref03_Frame : TypeId := 41
@[reducible] def ty_fathomref03_Pool : TypeId := 43
@[reducible] def ty_sl_int : TypeId := 47
@[reducible] def ty_maparr_string_ptr_disk_file : TypeId := 51
@[reducible] def ty_disk_crash : TypeId := 53
@[reducible] def ty_disk_Disk : TypeId := 55
@[reducible] def ty_sl_fathomref01_File : TypeId := 56
@[reducible] def ty_fathomref01_Disk : TypeId := 58
@[reducible] def ty_maparr_pool_spot_ptr_pool_frame : TypeId := 60
@[reducible] def ty_maparr_int_ptr_pool_frame : TypeId := 61
@[reducible] def ty_pool_Pool : TypeId := 63
@[reducible] def ty_sl_uint8 : TypeId := 68
@[reducible] def ty_pool_spot : TypeId := 77
@[reducible] def ty_ptr_pool_frame : TypeId := 78
@[reducible] def ty_pool_frame : TypeId := 80
@[reducible] def ty_fathomref03_Frame : TypeId := 82
@[reducible] def ty_sl_string : TypeId := 83
@[reducible] def ty_sl_disk_sheet : TypeId := 94
@[reducible] def ty_sl_disk_mark : TypeId := 95
@[reducible] def ty_disk_file : TypeId := 97
@[reducible] def ty_sl_ptr_pool_frame : TypeId := 104
@[reducible] def ty_sl_fathomref01_Write : TypeId := 115
@[reducible] def ty_fathomref01_File : TypeId := 117
@[reducible] def ty_arr_512_uint8 : TypeId := 118
@[reducible] def ty_disk_sheet : TypeId := 119
@[reducible] def ty_disk_mark : TypeId := 121
@[reducible] def ty_fathomref01_Write : TypeId := 128

@[reducible] def fathomlaw03_PoolPlays.no : FuncId := 3
@[reducible] def fathomlaw03_PoolKnown.no : FuncId := 4
@[reducible] def disk_New.no : FuncId := 5
@[reducible] def fathomref01_New.no : FuncId := 6
@[reducible] def disk_Disk_Crash.no : FuncId := 7
@[reducible] def fathomref01_Disk_Crash.no : FuncId := 8
@[reducible] def pool_New.no : FuncId := 9
@[reducible] def fathomref03_New.no : FuncId := 10
@[reducible] def fathomlaw03_works.no : FuncId := 11
@[reducible] def fathomlaw03_plays.no : FuncId := 12
@[reducible] def pool_Pool_Resident.no : FuncId := 13
@[reducible] def pool_Pool_Pinned.no : FuncId := 14
@[reducible] def fathomref03_Pool_Pinned.no : FuncId := 15
@[reducible] def pool_Pool_Peak.no : FuncId := 16
@[reducible] def pool_Pool_Frames.no : FuncId := 17
@[reducible] def pool_Pool_Disk.no : FuncId := 18
@[reducible] def disk_Disk_Ops.no : FuncId := 19
@[reducible] def fathomlaw03_disks.no : FuncId := 20
@[reducible] def fathomlaw03_PoolPins.no : FuncId := 21
@[reducible] def fathomlaw03_PoolNone.no : FuncId := 22
@[reducible] def fathomlaw03_torn.no : FuncId := 23
@[reducible] def disk_Disk_ready.no : FuncId := 24
@[reducible] def disk_Disk_Create.no : FuncId := 25
@[reducible] def pool_Pool_Fresh.no : FuncId := 26
@[reducible] def pool_Pool_Put.no : FuncId := 27
@[reducible] def pool_Pool_Unpin.no : FuncId := 28
@[reducible] def pool_Pool_Flush.no : FuncId := 29
@[reducible] def pool_Pool_Pin.no : FuncId := 30
@[reducible] def pool_Pool_Get.no : FuncId := 31
@[reducible] def fathomkit_Pick.no : FuncId := 32
@[reducible] def fathomref03_Pool_Pin.no : FuncId := 33
@[reducible] def fathomref03_Pool_Fresh.no : FuncId := 34
@[reducible] def fathomref03_Pool_Get.no : FuncId := 35
@[reducible] def fathomlaw03_Step_bytes.no : FuncId := 36
@[reducible] def fathomref03_Pool_Put.no : FuncId := 37
@[reducible] def fathomref03_Pool_Unpin.no : FuncId := 38
@[reducible] def fathomref03_Pool_Flush.no : FuncId := 39
@[reducible] def pool_Pool_Drop.no : FuncId := 40
@[reducible] def fathomref03_Pool_Drop.no : FuncId := 41
@[reducible] def fathomref01_Disk_Create.no : FuncId := 42
@[reducible] def disk_Disk_Down.no : FuncId := 43
@[reducible] def disk_Disk_Restart.no : FuncId := 44
@[reducible] def fathomref01_Disk_Restart.no : FuncId := 45
@[reducible] def disk_Disk_List.no : FuncId := 46
@[reducible] def fathomkit_SameTexts.no : FuncId := 47
@[reducible] def fathomref01_Disk_List.no : FuncId := 48
@[reducible] def disk_Disk_Used.no : FuncId := 49
@[reducible] def fathomref01_Disk_Used.no : FuncId := 50
@[reducible] def fathomref01_Disk_Len.no : FuncId := 51
@[reducible] def disk_Disk_Read.no : FuncId := 52
@[reducible] def fathomref01_Disk_Read.no : FuncId := 53
@[reducible] def disk_Disk_Len.no : FuncId := 54
@[reducible] def disk_Disk_Write.no : FuncId := 55
@[reducible] def page_Seal.no : FuncId := 56
@[reducible] def disk_named.no : FuncId := 57
@[reducible] def disk_Disk_change.no : FuncId := 58
@[reducible] def pool_Pool_ready.no : FuncId := 59
@[reducible] def pool_Pool_room.no : FuncId := 60
@[reducible] def pool_Pool_write.no : FuncId := 61
@[reducible] def pool_Pool_met.no : FuncId := 62
@[reducible] def pool_Pool_take.no : FuncId := 63
@[reducible] def pool_Pool_held.no : FuncId := 64
@[reducible] def slices_Clone_sl_byte_byte.no : FuncId := 65
@[reducible] def pool_Pool_of.no : FuncId := 66
@[reducible] def disk_Disk_Sync.no : FuncId := 67
@[reducible] def pool_Pool_pin.no : FuncId := 68
@[reducible] def pool_Pool_load.no : FuncId := 69
@[reducible] def fathomref03_Pool_find.no : FuncId := 70
@[reducible] def fathomref03_Pool_pin.no : FuncId := 71
@[reducible] def fathomref03_Pool_room.no : FuncId := 72
@[reducible] def fathomref03_Pool_met.no : FuncId := 73
@[reducible] def fathomref02_Open.no : FuncId := 74
@[reducible] def fathomref03_Pool_take.no : FuncId := 75
@[reducible] def fathomref02_Seal.no : FuncId := 76
@[reducible] def fathomref01_Disk_Write.no : FuncId := 77
@[reducible] def fathomref03_Pool_held.no : FuncId := 78
@[reducible] def fathomref03_Pool_write.no : FuncId := 79
@[reducible] def fathomref01_Disk_Sync.no : FuncId := 80
@[reducible] def slices_ContainsFunc_sl_ptr_pool_frame_ptr_pool_frame.no : FuncId := 81
@[reducible] def pool_Pool_Drop_c1.no : FuncId := 82
@[reducible] def disk_Disk_Remove.no : FuncId := 83
@[reducible] def fathomref01_Disk_Remove.no : FuncId := 84
@[reducible] def fathomref01_named.no : FuncId := 85
@[reducible] def fathomref01_Disk_find.no : FuncId := 86
@[reducible] def fathomref01_Disk_change.no : FuncId := 87
@[reducible] def slices_Sort_sl_int_int.no : FuncId := 88
@[reducible] def slices_Clone_sl_disk_sheet_disk_sheet.no : FuncId := 89
@[reducible] def slices_BinarySearch_sl_int_int.no : FuncId := 90
@[reducible] def disk_put.no : FuncId := 91
@[reducible] def fathomref01_Disk_rank.no : FuncId := 92
@[reducible] def fathomref01_put.no : FuncId := 93
@[reducible] def slices_Sorted_string.no : FuncId := 94
@[reducible] def maps_Keys_map_string_ptr_disk_file_string_ptr_disk_file.no : FuncId := 95
@[reducible] def fathomref01_File_Pages.no : FuncId := 96
@[reducible] def disk_Disk_open.no : FuncId := 97
@[reducible] def page_Sum.no : FuncId := 98
@[reducible] def pool_Pool_first.no : FuncId := 99
@[reducible] def pool_Pool_room_c1.no : FuncId := 100
@[reducible] def pool_Pool_room_c2.no : FuncId := 101
@[reducible] def slices_DeleteFunc_sl_ptr_pool_frame_ptr_pool_frame.no : FuncId := 102
@[reducible] def slices_Collect_ptr_pool_frame.no : FuncId := 103
@[reducible] def maps_Values_map_pool_spot_ptr_pool_frame_pool_spot_ptr_pool_frame.no : FuncId := 104
@[reducible] def pool_Pool_of_c1.no : FuncId := 105
@[reducible] def slices_SortFunc_sl_ptr_pool_frame_ptr_pool_frame.no : FuncId := 106
@[reducible] def pool_Pool_of_c2.no : FuncId := 107
@[reducible] def page_Open.no : FuncId := 108
@[reducible] def fathomref03_Pool_drop.no : FuncId := 109
@[reducible] def fathomref02_Sum.no : FuncId := 110
@[reducible] def slices_IndexFunc_sl_ptr_pool_frame_ptr_pool_frame.no : FuncId := 111
@[reducible] def disk_Disk_drop.no : FuncId := 112
@[reducible] def fathomref01_Disk_drop.no : FuncId := 113
@[reducible] def slices_pdqsortOrdered_int.no : FuncId := 114
@[reducible] def math_bits_Len.no : FuncId := 115
@[reducible] def cmp_Less_int.no : FuncId := 116
@[reducible] def slices_isNaN_int.no : FuncId := 117
@[reducible] def slices_Collect_string.no : FuncId := 118
@[reducible] def slices_Sort_sl_string_string.no : FuncId := 119
@[reducible] def maps_Keys_map_string_ptr_disk_file_string_ptr_disk_file_c1.no : FuncId := 120
@[reducible] def slices_AppendSeq_sl_ptr_pool_frame_ptr_pool_frame.no : FuncId := 121
@[reducible] def maps_Values_map_pool_spot_ptr_pool_frame_pool_spot_ptr_pool_frame_c1.no : FuncId := 122
@[reducible] def slices_pdqsortCmpFunc_ptr_pool_frame.no : FuncId := 123
@[reducible] def slices_ContainsFunc_sl_byte_byte.no : FuncId := 124
@[reducible] def page_Open_c1.no : FuncId := 125
@[reducible] def slices_insertionSortOrdered_int.no : FuncId := 126
@[reducible] def slices_heapSortOrdered_int.no : FuncId := 127
@[reducible] def slices_breakPatternsOrdered_int.no : FuncId := 128
@[reducible] def slices_choosePivotOrdered_int.no : FuncId := 129
@[reducible] def slices_reverseRangeOrdered_int.no : FuncId := 130
@[reducible] def slices_partialInsertionSortOrdered_int.no : FuncId := 131
@[reducible] def slices_partitionEqualOrdered_int.no : FuncId := 132
@[reducible] def slices_partitionOrdered_int.no : FuncId := 133
@[reducible] def math_bits_Len32.no : FuncId := 134
@[reducible] def math_bits_Len64.no : FuncId := 135
@[reducible] def cmp_isNaN_int.no : FuncId := 136
@[reducible] def slices_AppendSeq_sl_string_string.no : FuncId := 137
@[reducible] def slices_pdqsortOrdered_string.no : FuncId := 138
@[reducible] def slices_insertionSortCmpFunc_ptr_pool_frame.no : FuncId := 139
@[reducible] def slices_heapSortCmpFunc_ptr_pool_frame.no : FuncId := 140
@[reducible] def slices_breakPatternsCmpFunc_ptr_pool_frame.no : FuncId := 141
@[reducible] def slices_choosePivotCmpFunc_ptr_pool_frame.no : FuncId := 142
@[reducible] def slices_reverseRangeCmpFunc_ptr_pool_frame.no : FuncId := 143
@[reducible] def slices_partialInsertionSortCmpFunc_ptr_pool_frame.no : FuncId := 144
@[reducible] def slices_partitionEqualCmpFunc_ptr_pool_frame.no : FuncId := 145
@[reducible] def slices_partitionCmpFunc_ptr_pool_frame.no : FuncId := 146
@[reducible] def slices_IndexFunc_sl_byte_byte.no : FuncId := 147
@[reducible] def slices_siftDownOrdered_int.no : FuncId := 148
@[reducible] def slices_nextPowerOfTwo.no : FuncId := 149
@[reducible] def slices_xorshift_Next.no : FuncId := 150
@[reducible] def slices_medianAdjacentOrdered_int.no : FuncId := 151
@[reducible] def slices_medianOrdered_int.no : FuncId := 152
@[reducible] def slices_insertionSortOrdered_string.no : FuncId := 153
@[reducible] def slices_heapSortOrdered_string.no : FuncId := 154
@[reducible] def slices_breakPatternsOrdered_string.no : FuncId := 155
@[reducible] def slices_choosePivotOrdered_string.no : FuncId := 156
@[reducible] def slices_reverseRangeOrdered_string.no : FuncId := 157
@[reducible] def slices_partialInsertionSortOrdered_string.no : FuncId := 158
@[reducible] def cmp_Less_string.no : FuncId := 159
@[reducible] def slices_partitionEqualOrdered_string.no : FuncId := 160
@[reducible] def slices_partitionOrdered_string.no : FuncId := 161
@[reducible] def slices_siftDownCmpFunc_ptr_pool_frame.no : FuncId := 162
@[reducible] def slices_medianAdjacentCmpFunc_ptr_pool_frame.no : FuncId := 163
@[reducible] def slices_medianCmpFunc_ptr_pool_frame.no : FuncId := 164
@[reducible] def slices_order2Ordered_int.no : FuncId := 165
@[reducible] def slices_siftDownOrdered_string.no : FuncId := 166
@[reducible] def slices_medianAdjacentOrdered_string.no : FuncId := 167
@[reducible] def slices_medianOrdered_string.no : FuncId := 168
@[reducible] def cmp_isNaN_string.no : FuncId := 169
@[reducible] def slices_order2CmpFunc_ptr_pool_frame.no : FuncId := 170
@[reducible] def slices_order2Ordered_string.no : FuncId := 171
/-- fathom/fathomlaw03.PoolPlays -/
@[reducible] def fathomlaw03_PoolPlays.sp (quota : Int) (frames : Int) (script : Sl) (p : Int) (keep : Int) (H : Heap) (R : Bool → Heap → Prop) : Prop := SpecT cBool Tryz.prog fathomlaw03_PoolPlays.no #[(.int .i64 quota), (.int .i64 frames), script.v, (.int .i64 p), (.int .u64 keep)] H R
/-- fathom/fathomlaw03.PoolKnown -/
@[reducible] def fathomlaw03_PoolKnown.sp  (H : Heap) (R : Bool → Heap → Prop) : Prop := SpecT cBool Tryz.prog fathomlaw03_PoolKnown.no #[] H R
/-- fathom/disk.New -/
@[reducible] def disk_New.sp (quota : Int) (H : Heap) (R : Option Addr → Heap → Prop) : Prop := SpecT cPtr Tryz.prog disk_New.no #[(.int .i64 quota)] H R
/-- fathom/fathomref01.New -/
@[reducible] def fathomref01_New.sp (quota : Int) (H : Heap) (R : Option Addr → Heap → Prop) : Prop := SpecT cPtr Tryz.prog fathomref01_New.no #[(.int .i64 quota)] H R
/-- (*fathom/disk.Disk).Crash -/
@[reducible] def disk_Disk_Crash.sp (d : Option Addr) (p : Int) (keep : Int) (H : Heap) (R : Unit → Heap → Prop) : Prop := SpecT (cTup []) Tryz.prog disk_Disk_Crash.no #[(.pointer d), (.int .i64 p), (.int .u64 keep)] H R
/-- (*fathom/fathomref01.Disk).Crash -/
@[reducible] def fathomref01_Disk_Crash.sp (d : Option Addr) (p : Int) (keep : Int) (H : Heap) (R : Unit → Heap → Prop) : Prop := SpecT (cTup []) Tryz.prog fathomref01_Disk_Crash.no #[(.pointer d), (.int .i64 p), (.int .u64 keep)] H R
/-- fathom/pool.New -/
@[reducible] def pool_New.sp (d : Option Addr) (frames : Int) (H : Heap) (R : (Option Addr × Int) → Heap → Prop) : Prop := SpecT (cTup [cPtr, (cInt .i64)]) Tryz.prog pool_New.no #[(.pointer d), (.int .i64 frames)] H R
/-- fathom/fathomref03.New -/
@[reducible] def fathomref03_New.sp (d : Option Addr) (frames : Int) (H : Heap) (R : (Option Addr × Int) → Heap → Prop) : Prop := SpecT (cTup [cPtr, (cInt .i64)]) Tryz.prog fathomref03_New.no #[(.pointer d), (.int .i64 frames)] H R
/-- fathom/fathomlaw03.works -/
@[reducible] def fathomlaw03_works.sp  (H : Heap) (R : Bool → Heap → Prop) : Prop := SpecT cBool Tryz.prog fathomlaw03_works.no #[] H R
/-- fathom/fathomlaw03.plays -/
@[reducible] def fathomlaw03_plays.sp (p : Option Addr) (m : Option Addr) (x_ : Int) (x_1 : ByteArray) (x_2 : Int) (x_3 : Int) (x_4 : Int) (H : Heap) (R : Bool → Heap → Prop) : Prop := SpecT cBool Tryz.prog fathomlaw03_plays.no #[(.pointer p), (.pointer m), (.agg #[(.int .i64 x_), (.string x_1), (.int .i64 x_2), (.int .i64 x_3), (.int .u8 x_4)])] H R
/-- (*fathom/pool.Pool).Resident -/
@[reducible] def pool_Pool_Resident.sp (p : Option Addr) (H : Heap) (R : Int → Heap → Prop) : Prop := SpecT (cInt .i64) Tryz.prog pool_Pool_Resident.no #[(.pointer p)] H R
/-- (*fathom/pool.Pool).Pinned -/
@[reducible] def pool_Pool_Pinned.sp (p : Option Addr) (H : Heap) (R : Int → Heap → Prop) : Prop := SpecT (cInt .i64) Tryz.prog pool_Pool_Pinned.no #[(.pointer p)] H R
/-- (*fathom/fathomref03.Pool).Pinned -/
@[reducible] def fathomref03_Pool_Pinned.sp (p : Option Addr) (H : Heap) (R : Int → Heap → Prop) : Prop := SpecT (cInt .i64) Tryz.prog fathomref03_Pool_Pinned.no #[(.pointer p)] H R
/-- (*fathom/pool.Pool).Peak -/
@[reducible] def pool_Pool_Peak.sp (p : Option Addr) (H : Heap) (R : Int → Heap → Prop) : Prop := SpecT (cInt .i64) Tryz.prog pool_Pool_Peak.no #[(.pointer p)] H R
/-- (*fathom/pool.Pool).Frames -/
@[reducible] def pool_Pool_Frames.sp (p : Option Addr) (H : Heap) (R : Int → Heap → Prop) : Prop := SpecT (cInt .i64) Tryz.prog pool_Pool_Frames.no #[(.pointer p)] H R
/-- (*fathom/pool.Pool).Disk -/
@[reducible] def pool_Pool_Disk.sp (p : Option Addr) (H : Heap) (R : Option Addr → Heap → Prop) : Prop := SpecT cPtr Tryz.prog pool_Pool_Disk.no #[(.pointer p)] H R
/-- (*fathom/disk.Disk).Ops -/
@[reducible] def disk_Disk_Ops.sp (d : Option Addr) (H : Heap) (R : Int → Heap → Prop) : Prop := SpecT (cInt .i64) Tryz.prog disk_Disk_Ops.no #[(.pointer d)] H R
/-- fathom/fathomlaw03.disks -/
@[reducible] def fathomlaw03_disks.sp (d : Option Addr) (m : Option Addr) (H : Heap) (R : Bool → Heap → Prop) : Prop := SpecT cBool Tryz.prog fathomlaw03_disks.no #[(.pointer d), (.pointer m)] H R
/-- fathom/fathomlaw03.PoolPins -/
@[reducible] def fathomlaw03_PoolPins.sp (frames : Int) (H : Heap) (R : Bool → Heap → Prop) : Prop := SpecT cBool Tryz.prog fathomlaw03_PoolPins.no #[(.int .i64 frames)] H R
/-- fathom/fathomlaw03.PoolNone -/
@[reducible] def fathomlaw03_PoolNone.sp (x_ : Int) (x_1 : ByteArray) (x_2 : Int) (x_3 : Int) (x_4 : Int) (frames : Int) (H : Heap) (R : Bool → Heap → Prop) : Prop := SpecT cBool Tryz.prog fathomlaw03_PoolNone.no #[(.agg #[(.int .i64 x_), (.string x_1), (.int .i64 x_2), (.int .i64 x_3), (.int .u8 x_4)]), (.int .i64 frames)] H R
/-- fathom/fathomlaw03.torn -/
@[reducible] def fathomlaw03_torn.sp  (H : Heap) (R : Bool → Heap → Prop) : Prop := SpecT cBool Tryz.prog fathomlaw03_torn.no #[] H R
/-- (*fathom/disk.Disk).ready -/
@[reducible] def disk_Disk_ready.sp (d : Option Addr) (H : Heap) (R : Int → Heap → Prop) : Prop := SpecT (cInt .i64) Tryz.prog disk_Disk_ready.no #[(.pointer d)] H R
/-- (*fathom/disk.Disk).Create -/
@[reducible] def disk_Disk_Create.sp (d : Option Addr) (name : ByteArray) (H : Heap) (R : Int → Heap → Prop) : Prop := SpecT (cInt .i64) Tryz.prog disk_Disk_Create.no #[(.pointer d), (.string name)] H R
/-- (*fathom/pool.Pool).Fresh -/
@[reducible] def pool_Pool_Fresh.sp (p : Option Addr) (name : ByteArray) (H : Heap) (R : (Int × Int × Int) → Heap → Prop) : Prop := SpecT (cTup [(cInt .i64), (cInt .i64), (cInt .i64)]) Tryz.prog pool_Pool_Fresh.no #[(.pointer p), (.string name)] H R
/-- (*fathom/pool.Pool).Put -/
@[reducible] def pool_Pool_Put.sp (p : Option Addr) (h : Int) (kind : Int) (b : Sl) (H : Heap) (R : Int → Heap → Prop) : Prop := SpecT (cInt .i64) Tryz.prog pool_Pool_Put.no #[(.pointer p), (.int .i64 h), (.int .u8 kind), b.v] H R
/-- (*fathom/pool.Pool).Unpin -/
@[reducible] def pool_Pool_Unpin.sp (p : Option Addr) (h : Int) (H : Heap) (R : Int → Heap → Prop) : Prop := SpecT (cInt .i64) Tryz.prog pool_Pool_Unpin.no #[(.pointer p), (.int .i64 h)] H R
/-- (*fathom/pool.Pool).Flush -/
@[reducible] def pool_Pool_Flush.sp (p : Option Addr) (name : ByteArray) (H : Heap) (R : Int → Heap → Prop) : Prop := SpecT (cInt .i64) Tryz.prog pool_Pool_Flush.no #[(.pointer p), (.string name)] H R
/-- (*fathom/pool.Pool).Pin -/
@[reducible] def pool_Pool_Pin.sp (p : Option Addr) (name : ByteArray) (page : Int) (H : Heap) (R : (Int × Int) → Heap → Prop) : Prop := SpecT (cTup [(cInt .i64), (cInt .i64)]) Tryz.prog pool_Pool_Pin.no #[(.pointer p), (.string name), (.int .i64 page)] H R
/-- (*fathom/pool.Pool).Get -/
@[reducible] def pool_Pool_Get.sp (p : Option Addr) (h : Int) (H : Heap) (R : (Int × Sl × Int) → Heap → Prop) : Prop := SpecT (cTup [(cInt .u8), cSl, (cInt .i64)]) Tryz.prog pool_Pool_Get.no #[(.pointer p), (.int .i64 h)] H R
/-- fathom/fathomkit.Pick -/
@[reducible] def fathomkit_Pick.sp (i : Int) (n : Int) (H : Heap) (R : Int → Heap → Prop) : Prop := SpecT (cInt .i64) Tryz.prog fathomkit_Pick.no #[(.int .i64 i), (.int .i64 n)] H R
/-- (*fathom/fathomref03.Pool).Pin -/
@[reducible] def fathomref03_Pool_Pin.sp (p : Option Addr) (name : ByteArray) (page : Int) (H : Heap) (R : (Int × Int) → Heap → Prop) : Prop := SpecT (cTup [(cInt .i64), (cInt .i64)]) Tryz.prog fathomref03_Pool_Pin.no #[(.pointer p), (.string name), (.int .i64 page)] H R
/-- (*fathom/fathomref03.Pool).Fresh -/
@[reducible] def fathomref03_Pool_Fresh.sp (p : Option Addr) (name : ByteArray) (H : Heap) (R : (Int × Int × Int) → Heap → Prop) : Prop := SpecT (cTup [(cInt .i64), (cInt .i64), (cInt .i64)]) Tryz.prog fathomref03_Pool_Fresh.no #[(.pointer p), (.string name)] H R
/-- (*fathom/fathomref03.Pool).Get -/
@[reducible] def fathomref03_Pool_Get.sp (p : Option Addr) (h : Int) (H : Heap) (R : (Int × Sl × Int) → Heap → Prop) : Prop := SpecT (cTup [(cInt .u8), cSl, (cInt .i64)]) Tryz.prog fathomref03_Pool_Get.no #[(.pointer p), (.int .i64 h)] H R
/-- (fathom/fathomlaw03.Step).bytes -/
@[reducible] def fathomlaw03_Step_bytes.sp (x_ : Int) (x_1 : ByteArray) (x_2 : Int) (x_3 : Int) (x_4 : Int) (H : Heap) (R : Sl → Heap → Prop) : Prop := SpecT cSl Tryz.prog fathomlaw03_Step_bytes.no #[(.agg #[(.int .i64 x_), (.string x_1), (.int .i64 x_2), (.int .i64 x_3), (.int .u8 x_4)])] H R
/-- (*fathom/fathomref03.Pool).Put -/
@[reducible] def fathomref03_Pool_Put.sp (p : Option Addr) (h : Int) (kind : Int) (b : Sl) (H : Heap) (R : Int → Heap → Prop) : Prop := SpecT (cInt .i64) Tryz.prog fathomref03_Pool_Put.no #[(.pointer p), (.int .i64 h), (.int .u8 kind), b.v] H R
/-- (*fathom/fathomref03.Pool).Unpin -/
@[reducible] def fathomref03_Pool_Unpin.sp (p : Option Addr) (h : Int) (H : Heap) (R : Int → Heap → Prop) : Prop := SpecT (cInt .i64) Tryz.prog fathomref03_Pool_Unpin.no #[(.pointer p), (.int .i64 h)] H R
/-- (*fathom/fathomref03.Pool).Flush -/
@[reducible] def fathomref03_Pool_Flush.sp (p : Option Addr) (name : ByteArray) (H : Heap) (R : Int → Heap → Prop) : Prop := SpecT (cInt .i64) Tryz.prog fathomref03_Pool_Flush.no #[(.pointer p), (.string name)] H R
/-- (*fathom/pool.Pool).Drop -/
@[reducible] def pool_Pool_Drop.sp (p : Option Addr) (name : ByteArray) (H : Heap) (R : Int → Heap → Prop) : Prop := SpecT (cInt .i64) Tryz.prog pool_Pool_Drop.no #[(.pointer p), (.string name)] H R
/-- (*fathom/fathomref03.Pool).Drop -/
@[reducible] def fathomref03_Pool_Drop.sp (p : Option Addr) (name : ByteArray) (H : Heap) (R : Int → Heap → Prop) : Prop := SpecT (cInt .i64) Tryz.prog fathomref03_Pool_Drop.no #[(.pointer p), (.string name)] H R
/-- (*fathom/fathomref01.Disk).Create -/
@[reducible] def fathomref01_Disk_Create.sp (d : Option Addr) (name : ByteArray) (H : Heap) (R : Int → Heap → Prop) : Prop := SpecT (cInt .i64) Tryz.prog fathomref01_Disk_Create.no #[(.pointer d), (.string name)] H R
/-- (*fathom/disk.Disk).Down -/
@[reducible] def disk_Disk_Down.sp (d : Option Addr) (H : Heap) (R : Bool → Heap → Prop) : Prop := SpecT cBool Tryz.prog disk_Disk_Down.no #[(.pointer d)] H R
/-- (*fathom/disk.Disk).Restart -/
@[reducible] def disk_Disk_Restart.sp (d : Option Addr) (H : Heap) (R : Unit → Heap → Prop) : Prop := SpecT (cTup []) Tryz.prog disk_Disk_Restart.no #[(.pointer d)] H R
/-- (*fathom/fathomref01.Disk).Restart -/
@[reducible] def fathomref01_Disk_Restart.sp (d : Option Addr) (H : Heap) (R : Unit → Heap → Prop) : Prop := SpecT (cTup []) Tryz.prog fathomref01_Disk_Restart.no #[(.pointer d)] H R
/-- (*fathom/disk.Disk).List -/
@[reducible] def disk_Disk_List.sp (d : Option Addr) (H : Heap) (R : Sl → Heap → Prop) : Prop := SpecT cSl Tryz.prog disk_Disk_List.no #[(.pointer d)] H R
/-- fathom/fathomkit.SameTexts -/
@[reducible] def fathomkit_SameTexts.sp (a : Sl) (b : Sl) (H : Heap) (R : Bool → Heap → Prop) : Prop := SpecT cBool Tryz.prog fathomkit_SameTexts.no #[a.v, b.v] H R
/-- (*fathom/fathomref01.Disk).List -/
@[reducible] def fathomref01_Disk_List.sp (d : Option Addr) (H : Heap) (R : Sl → Heap → Prop) : Prop := SpecT cSl Tryz.prog fathomref01_Disk_List.no #[(.pointer d)] H R
/-- (*fathom/disk.Disk).Used -/
@[reducible] def disk_Disk_Used.sp (d : Option Addr) (H : Heap) (R : Int → Heap → Prop) : Prop := SpecT (cInt .i64) Tryz.prog disk_Disk_Used.no #[(.pointer d)] H R
/-- (*fathom/fathomref01.Disk).Used -/
@[reducible] def fathomref01_Disk_Used.sp (d : Option Addr) (H : Heap) (R : Int → Heap → Prop) : Prop := SpecT (cInt .i64) Tryz.prog fathomref01_Disk_Used.no #[(.pointer d)] H R
/-- (*fathom/fathomref01.Disk).Len -/
@[reducible] def fathomref01_Disk_Len.sp (d : Option Addr) (name : ByteArray) (H : Heap) (R : (Int × Int) → Heap → Prop) : Prop := SpecT (cTup [(cInt .i64), (cInt .i64)]) Tryz.prog fathomref01_Disk_Len.no #[(.pointer d), (.string name)] H R
/-- (*fathom/disk.Disk).Read -/
@[reducible] def disk_Disk_Read.sp (d : Option Addr) (name : ByteArray) (page : Int) (H : Heap) (R : (Sl × Int) → Heap → Prop) : Prop := SpecT (cTup [cSl, (cInt .i64)]) Tryz.prog disk_Disk_Read.no #[(.pointer d), (.string name), (.int .i64 page)] H R
/-- (*fathom/fathomref01.Disk).Read -/
@[reducible] def fathomref01_Disk_Read.sp (d : Option Addr) (name : ByteArray) (page : Int) (H : Heap) (R : (Sl × Int) → Heap → Prop) : Prop := SpecT (cTup [cSl, (cInt .i64)]) Tryz.prog fathomref01_Disk_Read.no #[(.pointer d), (.string name), (.int .i64 page)] H R
/-- (*fathom/disk.Disk).Len -/
@[reducible] def disk_Disk_Len.sp (d : Option Addr) (name : ByteArray) (H : Heap) (R : (Int × Int) → Heap → Prop) : Prop := SpecT (cTup [(cInt .i64), (cInt .i64)]) Tryz.prog disk_Disk_Len.no #[(.pointer d), (.string name)] H R
/-- (*fathom/disk.Disk).Write -/
@[reducible] def disk_Disk_Write.sp (d : Option Addr) (name : ByteArray) (page : Int) (b : Sl) (H : Heap) (R : Int → Heap → Prop) : Prop := SpecT (cInt .i64) Tryz.prog disk_Disk_Write.no #[(.pointer d), (.string name), (.int .i64 page), b.v] H R
/-- fathom/page.Seal -/
@[reducible] def page_Seal.sp (kind : Int) (b : Sl) (H : Heap) (R : (Sl × Int) → Heap → Prop) : Prop := SpecT (cTup [cSl, (cInt .i64)]) Tryz.prog page_Seal.no #[(.int .u8 kind), b.v] H R
/-- fathom/disk.named -/
@[reducible] def disk_named.sp (s : ByteArray) (H : Heap) (R : Bool → Heap → Prop) : Prop := SpecT cBool Tryz.prog disk_named.no #[(.string s)] H R
/-- (*fathom/disk.Disk).change -/
@[reducible] def disk_Disk_change.sp (d : Option Addr) (H : Heap) (R : Int → Heap → Prop) : Prop := SpecT (cInt .i64) Tryz.prog disk_Disk_change.no #[(.pointer d)] H R
/-- (*fathom/pool.Pool).ready -/
@[reducible] def pool_Pool_ready.sp (p : Option Addr) (H : Heap) (R : Int → Heap → Prop) : Prop := SpecT (cInt .i64) Tryz.prog pool_Pool_ready.no #[(.pointer p)] H R
/-- (*fathom/pool.Pool).room -/
@[reducible] def pool_Pool_room.sp (p : Option Addr) (H : Heap) (R : Int → Heap → Prop) : Prop := SpecT (cInt .i64) Tryz.prog pool_Pool_room.no #[(.pointer p)] H R
/-- (*fathom/pool.Pool).write -/
@[reducible] def pool_Pool_write.sp (p : Option Addr) (f : Option Addr) (H : Heap) (R : Int → Heap → Prop) : Prop := SpecT (cInt .i64) Tryz.prog pool_Pool_write.no #[(.pointer p), (.pointer f)] H R
/-- (*fathom/pool.Pool).met -/
@[reducible] def pool_Pool_met.sp (p : Option Addr) (e : Int) (H : Heap) (R : Int → Heap → Prop) : Prop := SpecT (cInt .i64) Tryz.prog pool_Pool_met.no #[(.pointer p), (.int .i64 e)] H R
/-- (*fathom/pool.Pool).take -/
@[reducible] def pool_Pool_take.sp (p : Option Addr) (f : Option Addr) (H : Heap) (R : Int → Heap → Prop) : Prop := SpecT (cInt .i64) Tryz.prog pool_Pool_take.no #[(.pointer p), (.pointer f)] H R
/-- (*fathom/pool.Pool).held -/
@[reducible] def pool_Pool_held.sp (p : Option Addr) (h : Int) (H : Heap) (R : (Option Addr × Int) → Heap → Prop) : Prop := SpecT (cTup [cPtr, (cInt .i64)]) Tryz.prog pool_Pool_held.no #[(.pointer p), (.int .i64 h)] H R
/-- slices.Clone[[]byte,byte] -/
@[reducible] def slices_Clone_sl_byte_byte.sp (s : Sl) (H : Heap) (R : Sl → Heap → Prop) : Prop := SpecT cSl Tryz.prog slices_Clone_sl_byte_byte.no #[s.v] H R
/-- (*fathom/pool.Pool).of -/
@[reducible] def pool_Pool_of.sp (p : Option Addr) (name : ByteArray) (H : Heap) (R : Sl → Heap → Prop) : Prop := SpecT cSl Tryz.prog pool_Pool_of.no #[(.pointer p), (.string name)] H R
/-- (*fathom/disk.Disk).Sync -/
@[reducible] def disk_Disk_Sync.sp (d : Option Addr) (name : ByteArray) (H : Heap) (R : Int → Heap → Prop) : Prop := SpecT (cInt .i64) Tryz.prog disk_Disk_Sync.no #[(.pointer d), (.string name)] H R
/-- (*fathom/pool.Pool).pin -/
@[reducible] def pool_Pool_pin.sp (p : Option Addr) (f : Option Addr) (H : Heap) (R : Int → Heap → Prop) : Prop := SpecT (cInt .i64) Tryz.prog pool_Pool_pin.no #[(.pointer p), (.pointer f)] H R
/-- (*fathom/pool.Pool).load -/
@[reducible] def pool_Pool_load.sp (p : Option Addr) (at_ : ByteArray) (at_1 : Int) (H : Heap) (R : (Option Addr × Int) → Heap → Prop) : Prop := SpecT (cTup [cPtr, (cInt .i64)]) Tryz.prog pool_Pool_load.no #[(.pointer p), (.agg #[(.string at_), (.int .i64 at_1)])] H R
/-- (*fathom/fathomref03.Pool).find -/
@[reducible] def fathomref03_Pool_find.sp (p : Option Addr) (name : ByteArray) (page : Int) (H : Heap) (R : Int → Heap → Prop) : Prop := SpecT (cInt .i64) Tryz.prog fathomref03_Pool_find.no #[(.pointer p), (.string name), (.int .i64 page)] H R
/-- (*fathom/fathomref03.Pool).pin -/
@[reducible] def fathomref03_Pool_pin.sp (p : Option Addr) (i : Int) (H : Heap) (R : Int → Heap → Prop) : Prop := SpecT (cInt .i64) Tryz.prog fathomref03_Pool_pin.no #[(.pointer p), (.int .i64 i)] H R
/-- (*fathom/fathomref03.Pool).room -/
@[reducible] def fathomref03_Pool_room.sp (p : Option Addr) (H : Heap) (R : Int → Heap → Prop) : Prop := SpecT (cInt .i64) Tryz.prog fathomref03_Pool_room.no #[(.pointer p)] H R
/-- (*fathom/fathomref03.Pool).met -/
@[reducible] def fathomref03_Pool_met.sp (p : Option Addr) (e : Int) (H : Heap) (R : Int → Heap → Prop) : Prop := SpecT (cInt .i64) Tryz.prog fathomref03_Pool_met.no #[(.pointer p), (.int .i64 e)] H R
/-- fathom/fathomref02.Open -/
@[reducible] def fathomref02_Open.sp (b : Sl) (H : Heap) (R : (Int × Sl × Int) → Heap → Prop) : Prop := SpecT (cTup [(cInt .u8), cSl, (cInt .i64)]) Tryz.prog fathomref02_Open.no #[b.v] H R
/-- (*fathom/fathomref03.Pool).take -/
@[reducible] def fathomref03_Pool_take.sp (p : Option Addr) (f_ : ByteArray) (f_1 : Int) (f_2 : Int) (f_3 : ByteArray) (f_4 : Bool) (f_5 : Sl) (f_6 : Int) (H : Heap) (R : Int → Heap → Prop) : Prop := SpecT (cInt .i64) Tryz.prog fathomref03_Pool_take.no #[(.pointer p), (.agg #[(.string f_), (.int .i64 f_1), (.int .u8 f_2), (.string f_3), (.bool f_4), f_5.v, (.int .i64 f_6)])] H R
/-- fathom/fathomref02.Seal -/
@[reducible] def fathomref02_Seal.sp (kind : Int) (b : Sl) (H : Heap) (R : (Sl × Int) → Heap → Prop) : Prop := SpecT (cTup [cSl, (cInt .i64)]) Tryz.prog fathomref02_Seal.no #[(.int .u8 kind), b.v] H R
/-- (*fathom/fathomref01.Disk).Write -/
@[reducible] def fathomref01_Disk_Write.sp (d : Option Addr) (name : ByteArray) (page : Int) (b : Sl) (H : Heap) (R : Int → Heap → Prop) : Prop := SpecT (cInt .i64) Tryz.prog fathomref01_Disk_Write.no #[(.pointer d), (.string name), (.int .i64 page), b.v] H R
/-- (*fathom/fathomref03.Pool).held -/
@[reducible] def fathomref03_Pool_held.sp (p : Option Addr) (h : Int) (H : Heap) (R : Int → Heap → Prop) : Prop := SpecT (cInt .i64) Tryz.prog fathomref03_Pool_held.no #[(.pointer p), (.int .i64 h)] H R
/-- (*fathom/fathomref03.Pool).write -/
@[reducible] def fathomref03_Pool_write.sp (p : Option Addr) (i : Int) (H : Heap) (R : Int → Heap → Prop) : Prop := SpecT (cInt .i64) Tryz.prog fathomref03_Pool_write.no #[(.pointer p), (.int .i64 i)] H R
/-- (*fathom/fathomref01.Disk).Sync -/
@[reducible] def fathomref01_Disk_Sync.sp (d : Option Addr) (name : ByteArray) (H : Heap) (R : Int → Heap → Prop) : Prop := SpecT (cInt .i64) Tryz.prog fathomref01_Disk_Sync.no #[(.pointer d), (.string name)] H R
/-- slices.ContainsFunc[[]*fathom/pool.frame,*fathom/pool.frame] -/
@[reducible] def slices_ContainsFunc_sl_ptr_pool_frame_ptr_pool_frame.sp (s : Sl) (H : Heap) (R : Bool → Heap → Prop) : Prop := SpecT cBool Tryz.prog slices_ContainsFunc_sl_ptr_pool_frame_ptr_pool_frame.no #[s.v, (.func (.func pool_Pool_Drop_c1.no) #[] #[])] H R
/-- (*fathom/pool.Pool).Drop$1 -/
@[reducible] def pool_Pool_Drop_c1.sp (f : Option Addr) (H : Heap) (R : Bool → Heap → Prop) : Prop := SpecT cBool Tryz.prog pool_Pool_Drop_c1.no #[(.pointer f)] H R
/-- (*fathom/disk.Disk).Remove -/
@[reducible] def disk_Disk_Remove.sp (d : Option Addr) (name : ByteArray) (H : Heap) (R : Int → Heap → Prop) : Prop := SpecT (cInt .i64) Tryz.prog disk_Disk_Remove.no #[(.pointer d), (.string name)] H R
/-- (*fathom/fathomref01.Disk).Remove -/
@[reducible] def fathomref01_Disk_Remove.sp (d : Option Addr) (name : ByteArray) (H : Heap) (R : Int → Heap → Prop) : Prop := SpecT (cInt .i64) Tryz.prog fathomref01_Disk_Remove.no #[(.pointer d), (.string name)] H R
/-- fathom/fathomref01.named -/
@[reducible] def fathomref01_named.sp (s : ByteArray) (H : Heap) (R : Bool → Heap → Prop) : Prop := SpecT cBool Tryz.prog fathomref01_named.no #[(.string s)] H R
/-- (*fathom/fathomref01.Disk).find -/
@[reducible] def fathomref01_Disk_find.sp (d : Option Addr) (name : ByteArray) (H : Heap) (R : Int → Heap → Prop) : Prop := SpecT (cInt .i64) Tryz.prog fathomref01_Disk_find.no #[(.pointer d), (.string name)] H R
/-- (*fathom/fathomref01.Disk).change -/
@[reducible] def fathomref01_Disk_change.sp (d : Option Addr) (H : Heap) (R : Int → Heap → Prop) : Prop := SpecT (cInt .i64) Tryz.prog fathomref01_Disk_change.no #[(.pointer d)] H R
/-- slices.Sort[[]int,int] -/
@[reducible] def slices_Sort_sl_int_int.sp (x : Sl) (H : Heap) (R : Unit → Heap → Prop) : Prop := SpecT (cTup []) Tryz.prog slices_Sort_sl_int_int.no #[x.v] H R
/-- slices.Clone[[]fathom/disk.sheet,fathom/disk.sheet] -/
@[reducible] def slices_Clone_sl_disk_sheet_disk_sheet.sp (s : Sl) (H : Heap) (R : Sl → Heap → Prop) : Prop := SpecT cSl Tryz.prog slices_Clone_sl_disk_sheet_disk_sheet.no #[s.v] H R
/-- slices.BinarySearch[[]int,int] -/
@[reducible] def slices_BinarySearch_sl_int_int.sp (x : Sl) (target : Int) (H : Heap) (R : (Int × Bool) → Heap → Prop) : Prop := SpecT (cTup [(cInt .i64), cBool]) Tryz.prog slices_BinarySearch_sl_int_int.no #[x.v, (.int .i64 target)] H R
/-- fathom/disk.put -/
@[reducible] def disk_put.sp (l : Sl) (page : Int) (b : Array Value) (H : Heap) (R : Sl → Heap → Prop) : Prop := SpecT cSl Tryz.prog disk_put.no #[l.v, (.int .i64 page), (.agg b)] H R
/-- (*fathom/fathomref01.Disk).rank -/
@[reducible] def fathomref01_Disk_rank.sp (d : Option Addr) (no : Int) (H : Heap) (R : Int → Heap → Prop) : Prop := SpecT (cInt .i64) Tryz.prog fathomref01_Disk_rank.no #[(.pointer d), (.int .i64 no)] H R
/-- fathom/fathomref01.put -/
@[reducible] def fathomref01_put.sp (l : Sl) (w_ : Int) (w_1 : Int) (w_2 : ByteArray) (H : Heap) (R : Sl → Heap → Prop) : Prop := SpecT cSl Tryz.prog fathomref01_put.no #[l.v, (.agg #[(.int .i64 w_), (.int .i64 w_1), (.string w_2)])] H R
/-- slices.Sorted[string] -/
@[reducible] def slices_Sorted_string.sp (seq : Value) (H : Heap) (R : Sl → Heap → Prop) : Prop := SpecT cSl Tryz.prog slices_Sorted_string.no #[seq] H R
/-- maps.Keys[map[string]*fathom/disk.file,string,*fathom/disk.file] -/
@[reducible] def maps_Keys_map_string_ptr_disk_file_string_ptr_disk_file.sp (m : Option Nat) (H : Heap) (R : Value → Heap → Prop) : Prop := SpecT cRaw Tryz.prog maps_Keys_map_string_ptr_disk_file_string_ptr_disk_file.no #[(.map m)] H R
/-- (fathom/fathomref01.File).Pages -/
@[reducible] def fathomref01_File_Pages.sp (f_ : ByteArray) (f_1 : Sl) (f_2 : Sl) (H : Heap) (R : Sl → Heap → Prop) : Prop := SpecT cSl Tryz.prog fathomref01_File_Pages.no #[(.agg #[(.string f_), f_1.v, f_2.v])] H R
/-- (*fathom/disk.Disk).open -/
@[reducible] def disk_Disk_open.sp (d : Option Addr) (name : ByteArray) (H : Heap) (R : (Option Addr × Int) → Heap → Prop) : Prop := SpecT (cTup [cPtr, (cInt .i64)]) Tryz.prog disk_Disk_open.no #[(.pointer d), (.string name)] H R
/-- fathom/page.Sum -/
@[reducible] def page_Sum.sp (b : Sl) (H : Heap) (R : Int → Heap → Prop) : Prop := SpecT (cInt .u32) Tryz.prog page_Sum.no #[b.v] H R
/-- (*fathom/pool.Pool).first -/
@[reducible] def pool_Pool_first.sp (p : Option Addr) (H : Heap) (R : Option Addr → Heap → Prop) : Prop := SpecT cPtr Tryz.prog pool_Pool_first.no #[(.pointer p), (.func (.func pool_Pool_room_c1.no) #[] #[]), (.func (.func pool_Pool_room_c2.no) #[] #[])] H R
/-- (*fathom/pool.Pool).room$1 -/
@[reducible] def pool_Pool_room_c1.sp (f : Option Addr) (H : Heap) (R : Bool → Heap → Prop) : Prop := SpecT cBool Tryz.prog pool_Pool_room_c1.no #[(.pointer f)] H R
/-- (*fathom/pool.Pool).room$2 -/
@[reducible] def pool_Pool_room_c2.sp (a : Option Addr) (b : Option Addr) (H : Heap) (R : Bool → Heap → Prop) : Prop := SpecT cBool Tryz.prog pool_Pool_room_c2.no #[(.pointer a), (.pointer b)] H R
/-- slices.DeleteFunc[[]*fathom/pool.frame,*fathom/pool.frame] -/
@[reducible] def slices_DeleteFunc_sl_ptr_pool_frame_ptr_pool_frame.sp (s : Sl) (cap : Addr) (H : Heap) (R : Sl → Heap → Prop) : Prop := SpecT cSl Tryz.prog slices_DeleteFunc_sl_ptr_pool_frame_ptr_pool_frame.no #[s.v, (.func (.func pool_Pool_of_c1.no) #[] #[(.pointer (some cap))])] H R
/-- slices.Collect[*fathom/pool.frame] -/
@[reducible] def slices_Collect_ptr_pool_frame.sp (seq : Value) (H : Heap) (R : Sl → Heap → Prop) : Prop := SpecT cSl Tryz.prog slices_Collect_ptr_pool_frame.no #[seq] H R
/-- maps.Values[map[fathom/pool.spot]*fathom/pool.frame,fathom/pool.spot,*fathom/pool.frame] -/
@[reducible] def maps_Values_map_pool_spot_ptr_pool_frame_pool_spot_ptr_pool_frame.sp (m : Option Nat) (H : Heap) (R : Value → Heap → Prop) : Prop := SpecT cRaw Tryz.prog maps_Values_map_pool_spot_ptr_pool_frame_pool_spot_ptr_pool_frame.no #[(.map m)] H R
/-- (*fathom/pool.Pool).of$1 -/
@[reducible] def pool_Pool_of_c1.sp (f : Option Addr) (cap : Addr) (H : Heap) (R : Bool → Heap → Prop) : Prop := SpecT cBool Tryz.prog pool_Pool_of_c1.no #[(.pointer f), (.pointer (some cap))] H R
/-- slices.SortFunc[[]*fathom/pool.frame,*fathom/pool.frame] -/
@[reducible] def slices_SortFunc_sl_ptr_pool_frame_ptr_pool_frame.sp (x : Sl) (cmp : Value) (H : Heap) (R : Unit → Heap → Prop) : Prop := SpecT (cTup []) Tryz.prog slices_SortFunc_sl_ptr_pool_frame_ptr_pool_frame.no #[x.v, cmp] H R
/-- (*fathom/pool.Pool).of$2 -/
@[reducible] def pool_Pool_of_c2.sp (a : Option Addr) (b : Option Addr) (H : Heap) (R : Int → Heap → Prop) : Prop := SpecT (cInt .i64) Tryz.prog pool_Pool_of_c2.no #[(.pointer a), (.pointer b)] H R
/-- fathom/page.Open -/
@[reducible] def page_Open.sp (b : Sl) (H : Heap) (R : (Int × Sl × Int) → Heap → Prop) : Prop := SpecT (cTup [(cInt .u8), cSl, (cInt .i64)]) Tryz.prog page_Open.no #[b.v] H R
/-- (*fathom/fathomref03.Pool).drop -/
@[reducible] def fathomref03_Pool_drop.sp (p : Option Addr) (i : Int) (H : Heap) (R : Unit → Heap → Prop) : Prop := SpecT (cTup []) Tryz.prog fathomref03_Pool_drop.no #[(.pointer p), (.int .i64 i)] H R
/-- fathom/fathomref02.Sum -/
@[reducible] def fathomref02_Sum.sp (b : Sl) (H : Heap) (R : Int → Heap → Prop) : Prop := SpecT (cInt .u32) Tryz.prog fathomref02_Sum.no #[b.v] H R
/-- slices.IndexFunc[[]*fathom/pool.frame,*fathom/pool.frame] -/
@[reducible] def slices_IndexFunc_sl_ptr_pool_frame_ptr_pool_frame.sp (s : Sl) (H : Heap) (R : Int → Heap → Prop) : Prop := SpecT (cInt .i64) Tryz.prog slices_IndexFunc_sl_ptr_pool_frame_ptr_pool_frame.no #[s.v, (.func (.func pool_Pool_Drop_c1.no) #[] #[])] H R
/-- slices.IndexFunc[[]*fathom/pool.frame,*fathom/pool.frame] -/
@[reducible] def slices_IndexFunc_sl_ptr_pool_frame_ptr_pool_frame_v2.sp (s : Sl) (cap : Addr) (H : Heap) (R : Int → Heap → Prop) : Prop := SpecT (cInt .i64) Tryz.prog slices_IndexFunc_sl_ptr_pool_frame_ptr_pool_frame.no #[s.v, (.func (.func pool_Pool_of_c1.no) #[] #[(.pointer (some cap))])] H R
/-- (*fathom/disk.Disk).drop -/
@[reducible] def disk_Disk_drop.sp (d : Option Addr) (name : ByteArray) (H : Heap) (R : Unit → Heap → Prop) : Prop := SpecT (cTup []) Tryz.prog disk_Disk_drop.no #[(.pointer d), (.string name)] H R
/-- (*fathom/fathomref01.Disk).drop -/
@[reducible] def fathomref01_Disk_drop.sp (d : Option Addr) (i : Int) (H : Heap) (R : Unit → Heap → Prop) : Prop := SpecT (cTup []) Tryz.prog fathomref01_Disk_drop.no #[(.pointer d), (.int .i64 i)] H R
/-- slices.pdqsortOrdered[int] -/
@[reducible] def slices_pdqsortOrdered_int.sp (data : Sl) (a : Int) (b : Int) (limit : Int) (H : Heap) (R : Unit → Heap → Prop) : Prop := SpecT (cTup []) Tryz.prog slices_pdqsortOrdered_int.no #[data.v, (.int .i64 a), (.int .i64 b), (.int .i64 limit)] H R
/-- math/bits.Len -/
@[reducible] def math_bits_Len.sp (x : Int) (H : Heap) (R : Int → Heap → Prop) : Prop := SpecT (cInt .i64) Tryz.prog math_bits_Len.no #[(.int .u64 x)] H R
/-- cmp.Less[int] -/
@[reducible] def cmp_Less_int.sp (x : Int) (y : Int) (H : Heap) (R : Bool → Heap → Prop) : Prop := SpecT cBool Tryz.prog cmp_Less_int.no #[(.int .i64 x), (.int .i64 y)] H R
/-- slices.isNaN[int] -/
@[reducible] def slices_isNaN_int.sp (x : Int) (H : Heap) (R : Bool → Heap → Prop) : Prop := SpecT cBool Tryz.prog slices_isNaN_int.no #[(.int .i64 x)] H R
/-- slices.Collect[string] -/
@[reducible] def slices_Collect_string.sp (seq : Value) (H : Heap) (R : Sl → Heap → Prop) : Prop := SpecT cSl Tryz.prog slices_Collect_string.no #[seq] H R
/-- slices.Sort[[]string,string] -/
@[reducible] def slices_Sort_sl_string_string.sp (x : Sl) (H : Heap) (R : Unit → Heap → Prop) : Prop := SpecT (cTup []) Tryz.prog slices_Sort_sl_string_string.no #[x.v] H R
/-- maps.Keys[map[string]*fathom/disk.file,string,*fathom/disk.file]$1 -/
@[reducible] def maps_Keys_map_string_ptr_disk_file_string_ptr_disk_file_c1.sp (l : Nat) (cap : Addr) (H : Heap) (R : Unit → Heap → Prop) : Prop := SpecT (cTup []) Tryz.prog maps_Keys_map_string_ptr_disk_file_string_ptr_disk_file_c1.no #[(.func (.yield l) #[] #[]), (.pointer (some cap))] H R
/-- slices.AppendSeq[[]*fathom/pool.frame,*fathom/pool.frame] -/
@[reducible] def slices_AppendSeq_sl_ptr_pool_frame_ptr_pool_frame.sp (s : Sl) (seq : Value) (H : Heap) (R : Sl → Heap → Prop) : Prop := SpecT cSl Tryz.prog slices_AppendSeq_sl_ptr_pool_frame_ptr_pool_frame.no #[s.v, seq] H R
/-- maps.Values[map[fathom/pool.spot]*fathom/pool.frame,fathom/pool.spot,*fathom/pool.frame]$1 -/
@[reducible] def maps_Values_map_pool_spot_ptr_pool_frame_pool_spot_ptr_pool_frame_c1.sp (l : Nat) (cap : Addr) (H : Heap) (R : Unit → Heap → Prop) : Prop := SpecT (cTup []) Tryz.prog maps_Values_map_pool_spot_ptr_pool_frame_pool_spot_ptr_pool_frame_c1.no #[(.func (.yield l) #[] #[]), (.pointer (some cap))] H R
/-- slices.pdqsortCmpFunc[*fathom/pool.frame] -/
@[reducible] def slices_pdqsortCmpFunc_ptr_pool_frame.sp (data : Sl) (a : Int) (b : Int) (limit : Int) (cmp : Value) (H : Heap) (R : Unit → Heap → Prop) : Prop := SpecT (cTup []) Tryz.prog slices_pdqsortCmpFunc_ptr_pool_frame.no #[data.v, (.int .i64 a), (.int .i64 b), (.int .i64 limit), cmp] H R
/-- slices.ContainsFunc[[]byte,byte] -/
@[reducible] def slices_ContainsFunc_sl_byte_byte.sp (s : Sl) (H : Heap) (R : Bool → Heap → Prop) : Prop := SpecT cBool Tryz.prog slices_ContainsFunc_sl_byte_byte.no #[s.v, (.func (.func page_Open_c1.no) #[] #[])] H R
/-- fathom/page.Open$1 -/
@[reducible] def page_Open_c1.sp (c : Int) (H : Heap) (R : Bool → Heap → Prop) : Prop := SpecT cBool Tryz.prog page_Open_c1.no #[(.int .u8 c)] H R
/-- slices.insertionSortOrdered[int] -/
@[reducible] def slices_insertionSortOrdered_int.sp (data : Sl) (a : Int) (b : Int) (H : Heap) (R : Unit → Heap → Prop) : Prop := SpecT (cTup []) Tryz.prog slices_insertionSortOrdered_int.no #[data.v, (.int .i64 a), (.int .i64 b)] H R
/-- slices.heapSortOrdered[int] -/
@[reducible] def slices_heapSortOrdered_int.sp (data : Sl) (a : Int) (b : Int) (H : Heap) (R : Unit → Heap → Prop) : Prop := SpecT (cTup []) Tryz.prog slices_heapSortOrdered_int.no #[data.v, (.int .i64 a), (.int .i64 b)] H R
/-- slices.breakPatternsOrdered[int] -/
@[reducible] def slices_breakPatternsOrdered_int.sp (data : Sl) (a : Int) (b : Int) (H : Heap) (R : Unit → Heap → Prop) : Prop := SpecT (cTup []) Tryz.prog slices_breakPatternsOrdered_int.no #[data.v, (.int .i64 a), (.int .i64 b)] H R
/-- slices.choosePivotOrdered[int] -/
@[reducible] def slices_choosePivotOrdered_int.sp (data : Sl) (a : Int) (b : Int) (H : Heap) (R : (Int × Int) → Heap → Prop) : Prop := SpecT (cTup [(cInt .i64), (cInt .i64)]) Tryz.prog slices_choosePivotOrdered_int.no #[data.v, (.int .i64 a), (.int .i64 b)] H R
/-- slices.reverseRangeOrdered[int] -/
@[reducible] def slices_reverseRangeOrdered_int.sp (data : Sl) (a : Int) (b : Int) (H : Heap) (R : Unit → Heap → Prop) : Prop := SpecT (cTup []) Tryz.prog slices_reverseRangeOrdered_int.no #[data.v, (.int .i64 a), (.int .i64 b)] H R
/-- slices.partialInsertionSortOrdered[int] -/
@[reducible] def slices_partialInsertionSortOrdered_int.sp (data : Sl) (a : Int) (b : Int) (H : Heap) (R : Bool → Heap → Prop) : Prop := SpecT cBool Tryz.prog slices_partialInsertionSortOrdered_int.no #[data.v, (.int .i64 a), (.int .i64 b)] H R
/-- slices.partitionEqualOrdered[int] -/
@[reducible] def slices_partitionEqualOrdered_int.sp (data : Sl) (a : Int) (b : Int) (pivot : Int) (H : Heap) (R : Int → Heap → Prop) : Prop := SpecT (cInt .i64) Tryz.prog slices_partitionEqualOrdered_int.no #[data.v, (.int .i64 a), (.int .i64 b), (.int .i64 pivot)] H R
/-- slices.partitionOrdered[int] -/
@[reducible] def slices_partitionOrdered_int.sp (data : Sl) (a : Int) (b : Int) (pivot : Int) (H : Heap) (R : (Int × Bool) → Heap → Prop) : Prop := SpecT (cTup [(cInt .i64), cBool]) Tryz.prog slices_partitionOrdered_int.no #[data.v, (.int .i64 a), (.int .i64 b), (.int .i64 pivot)] H R
/-- math/bits.Len32 -/
@[reducible] def math_bits_Len32.sp (x : Int) (H : Heap) (R : Int → Heap → Prop) : Prop := SpecT (cInt .i64) Tryz.prog math_bits_Len32.no #[(.int .u32 x)] H R
/-- math/bits.Len64 -/
@[reducible] def math_bits_Len64.sp (x : Int) (H : Heap) (R : Int → Heap → Prop) : Prop := SpecT (cInt .i64) Tryz.prog math_bits_Len64.no #[(.int .u64 x)] H R
/-- cmp.isNaN[int] -/
@[reducible] def cmp_isNaN_int.sp (x : Int) (H : Heap) (R : Bool → Heap → Prop) : Prop := SpecT cBool Tryz.prog cmp_isNaN_int.no #[(.int .i64 x)] H R
/-- slices.AppendSeq[[]string,string] -/
@[reducible] def slices_AppendSeq_sl_string_string.sp (s : Sl) (seq : Value) (H : Heap) (R : Sl → Heap → Prop) : Prop := SpecT cSl Tryz.prog slices_AppendSeq_sl_string_string.no #[s.v, seq] H R
/-- slices.pdqsortOrdered[string] -/
@[reducible] def slices_pdqsortOrdered_string.sp (data : Sl) (a : Int) (b : Int) (limit : Int) (H : Heap) (R : Unit → Heap → Prop) : Prop := SpecT (cTup []) Tryz.prog slices_pdqsortOrdered_string.no #[data.v, (.int .i64 a), (.int .i64 b), (.int .i64 limit)] H R
/-- slices.insertionSortCmpFunc[*fathom/pool.frame] -/
@[reducible] def slices_insertionSortCmpFunc_ptr_pool_frame.sp (data : Sl) (a : Int) (b : Int) (cmp : Value) (H : Heap) (R : Unit → Heap → Prop) : Prop := SpecT (cTup []) Tryz.prog slices_insertionSortCmpFunc_ptr_pool_frame.no #[data.v, (.int .i64 a), (.int .i64 b), cmp] H R
/-- slices.heapSortCmpFunc[*fathom/pool.frame] -/
@[reducible] def slices_heapSortCmpFunc_ptr_pool_frame.sp (data : Sl) (a : Int) (b : Int) (cmp : Value) (H : Heap) (R : Unit → Heap → Prop) : Prop := SpecT (cTup []) Tryz.prog slices_heapSortCmpFunc_ptr_pool_frame.no #[data.v, (.int .i64 a), (.int .i64 b), cmp] H R
/-- slices.breakPatternsCmpFunc[*fathom/pool.frame] -/
@[reducible] def slices_breakPatternsCmpFunc_ptr_pool_frame.sp (data : Sl) (a : Int) (b : Int) (cmp : Value) (H : Heap) (R : Unit → Heap → Prop) : Prop := SpecT (cTup []) Tryz.prog slices_breakPatternsCmpFunc_ptr_pool_frame.no #[data.v, (.int .i64 a), (.int .i64 b), cmp] H R
/-- slices.choosePivotCmpFunc[*fathom/pool.frame] -/
@[reducible] def slices_choosePivotCmpFunc_ptr_pool_frame.sp (data : Sl) (a : Int) (b : Int) (cmp : Value) (H : Heap) (R : (Int × Int) → Heap → Prop) : Prop := SpecT (cTup [(cInt .i64), (cInt .i64)]) Tryz.prog slices_choosePivotCmpFunc_ptr_pool_frame.no #[data.v, (.int .i64 a), (.int .i64 b), cmp] H R
/-- slices.reverseRangeCmpFunc[*fathom/pool.frame] -/
@[reducible] def slices_reverseRangeCmpFunc_ptr_pool_frame.sp (data : Sl) (a : Int) (b : Int) (cmp : Value) (H : Heap) (R : Unit → Heap → Prop) : Prop := SpecT (cTup []) Tryz.prog slices_reverseRangeCmpFunc_ptr_pool_frame.no #[data.v, (.int .i64 a), (.int .i64 b), cmp] H R
/-- slices.partialInsertionSortCmpFunc[*fathom/pool.frame] -/
@[reducible] def slices_partialInsertionSortCmpFunc_ptr_pool_frame.sp (data : Sl) (a : Int) (b : Int) (cmp : Value) (H : Heap) (R : Bool → Heap → Prop) : Prop := SpecT cBool Tryz.prog slices_partialInsertionSortCmpFunc_ptr_pool_frame.no #[data.v, (.int .i64 a), (.int .i64 b), cmp] H R
/-- slices.partitionEqualCmpFunc[*fathom/pool.frame] -/
@[reducible] def slices_partitionEqualCmpFunc_ptr_pool_frame.sp (data : Sl) (a : Int) (b : Int) (pivot : Int) (cmp : Value) (H : Heap) (R : Int → Heap → Prop) : Prop := SpecT (cInt .i64) Tryz.prog slices_partitionEqualCmpFunc_ptr_pool_frame.no #[data.v, (.int .i64 a), (.int .i64 b), (.int .i64 pivot), cmp] H R
/-- slices.partitionCmpFunc[*fathom/pool.frame] -/
@[reducible] def slices_partitionCmpFunc_ptr_pool_frame.sp (data : Sl) (a : Int) (b : Int) (pivot : Int) (cmp : Value) (H : Heap) (R : (Int × Bool) → Heap → Prop) : Prop := SpecT (cTup [(cInt .i64), cBool]) Tryz.prog slices_partitionCmpFunc_ptr_pool_frame.no #[data.v, (.int .i64 a), (.int .i64 b), (.int .i64 pivot), cmp] H R
/-- slices.IndexFunc[[]byte,byte] -/
@[reducible] def slices_IndexFunc_sl_byte_byte.sp (s : Sl) (H : Heap) (R : Int → Heap → Prop) : Prop := SpecT (cInt .i64) Tryz.prog slices_IndexFunc_sl_byte_byte.no #[s.v, (.func (.func page_Open_c1.no) #[] #[])] H R
/-- slices.siftDownOrdered[int] -/
@[reducible] def slices_siftDownOrdered_int.sp (data : Sl) (lo : Int) (hi : Int) (first : Int) (H : Heap) (R : Unit → Heap → Prop) : Prop := SpecT (cTup []) Tryz.prog slices_siftDownOrdered_int.no #[data.v, (.int .i64 lo), (.int .i64 hi), (.int .i64 first)] H R
/-- slices.nextPowerOfTwo -/
@[reducible] def slices_nextPowerOfTwo.sp (length : Int) (H : Heap) (R : Int → Heap → Prop) : Prop := SpecT (cInt .u64) Tryz.prog slices_nextPowerOfTwo.no #[(.int .i64 length)] H R
/-- (*slices.xorshift).Next -/
@[reducible] def slices_xorshift_Next.sp (r : Option Addr) (H : Heap) (R : Int → Heap → Prop) : Prop := SpecT (cInt .u64) Tryz.prog slices_xorshift_Next.no #[(.pointer r)] H R
/-- slices.medianAdjacentOrdered[int] -/
@[reducible] def slices_medianAdjacentOrdered_int.sp (data : Sl) (a : Int) (swaps : Option Addr) (H : Heap) (R : Int → Heap → Prop) : Prop := SpecT (cInt .i64) Tryz.prog slices_medianAdjacentOrdered_int.no #[data.v, (.int .i64 a), (.pointer swaps)] H R
/-- slices.medianOrdered[int] -/
@[reducible] def slices_medianOrdered_int.sp (data : Sl) (a : Int) (b : Int) (c : Int) (swaps : Option Addr) (H : Heap) (R : Int → Heap → Prop) : Prop := SpecT (cInt .i64) Tryz.prog slices_medianOrdered_int.no #[data.v, (.int .i64 a), (.int .i64 b), (.int .i64 c), (.pointer swaps)] H R
/-- slices.insertionSortOrdered[string] -/
@[reducible] def slices_insertionSortOrdered_string.sp (data : Sl) (a : Int) (b : Int) (H : Heap) (R : Unit → Heap → Prop) : Prop := SpecT (cTup []) Tryz.prog slices_insertionSortOrdered_string.no #[data.v, (.int .i64 a), (.int .i64 b)] H R
/-- slices.heapSortOrdered[string] -/
@[reducible] def slices_heapSortOrdered_string.sp (data : Sl) (a : Int) (b : Int) (H : Heap) (R : Unit → Heap → Prop) : Prop := SpecT (cTup []) Tryz.prog slices_heapSortOrdered_string.no #[data.v, (.int .i64 a), (.int .i64 b)] H R
/-- slices.breakPatternsOrdered[string] -/
@[reducible] def slices_breakPatternsOrdered_string.sp (data : Sl) (a : Int) (b : Int) (H : Heap) (R : Unit → Heap → Prop) : Prop := SpecT (cTup []) Tryz.prog slices_breakPatternsOrdered_string.no #[data.v, (.int .i64 a), (.int .i64 b)] H R
/-- slices.choosePivotOrdered[string] -/
@[reducible] def slices_choosePivotOrdered_string.sp (data : Sl) (a : Int) (b : Int) (H : Heap) (R : (Int × Int) → Heap → Prop) : Prop := SpecT (cTup [(cInt .i64), (cInt .i64)]) Tryz.prog slices_choosePivotOrdered_string.no #[data.v, (.int .i64 a), (.int .i64 b)] H R
/-- slices.reverseRangeOrdered[string] -/
@[reducible] def slices_reverseRangeOrdered_string.sp (data : Sl) (a : Int) (b : Int) (H : Heap) (R : Unit → Heap → Prop) : Prop := SpecT (cTup []) Tryz.prog slices_reverseRangeOrdered_string.no #[data.v, (.int .i64 a), (.int .i64 b)] H R
/-- slices.partialInsertionSortOrdered[string] -/
@[reducible] def slices_partialInsertionSortOrdered_string.sp (data : Sl) (a : Int) (b : Int) (H : Heap) (R : Bool → Heap → Prop) : Prop := SpecT cBool Tryz.prog slices_partialInsertionSortOrdered_string.no #[data.v, (.int .i64 a), (.int .i64 b)] H R
/-- cmp.Less[string] -/
@[reducible] def cmp_Less_string.sp (x : ByteArray) (y : ByteArray) (H : Heap) (R : Bool → Heap → Prop) : Prop := SpecT cBool Tryz.prog cmp_Less_string.no #[(.string x), (.string y)] H R
/-- slices.partitionEqualOrdered[string] -/
@[reducible] def slices_partitionEqualOrdered_string.sp (data : Sl) (a : Int) (b : Int) (pivot : Int) (H : Heap) (R : Int → Heap → Prop) : Prop := SpecT (cInt .i64) Tryz.prog slices_partitionEqualOrdered_string.no #[data.v, (.int .i64 a), (.int .i64 b), (.int .i64 pivot)] H R
/-- slices.partitionOrdered[string] -/
@[reducible] def slices_partitionOrdered_string.sp (data : Sl) (a : Int) (b : Int) (pivot : Int) (H : Heap) (R : (Int × Bool) → Heap → Prop) : Prop := SpecT (cTup [(cInt .i64), cBool]) Tryz.prog slices_partitionOrdered_string.no #[data.v, (.int .i64 a), (.int .i64 b), (.int .i64 pivot)] H R
/-- slices.siftDownCmpFunc[*fathom/pool.frame] -/
@[reducible] def slices_siftDownCmpFunc_ptr_pool_frame.sp (data : Sl) (lo : Int) (hi : Int) (first : Int) (cmp : Value) (H : Heap) (R : Unit → Heap → Prop) : Prop := SpecT (cTup []) Tryz.prog slices_siftDownCmpFunc_ptr_pool_frame.no #[data.v, (.int .i64 lo), (.int .i64 hi), (.int .i64 first), cmp] H R
/-- slices.medianAdjacentCmpFunc[*fathom/pool.frame] -/
@[reducible] def slices_medianAdjacentCmpFunc_ptr_pool_frame.sp (data : Sl) (a : Int) (swaps : Option Addr) (cmp : Value) (H : Heap) (R : Int → Heap → Prop) : Prop := SpecT (cInt .i64) Tryz.prog slices_medianAdjacentCmpFunc_ptr_pool_frame.no #[data.v, (.int .i64 a), (.pointer swaps), cmp] H R
/-- slices.medianCmpFunc[*fathom/pool.frame] -/
@[reducible] def slices_medianCmpFunc_ptr_pool_frame.sp (data : Sl) (a : Int) (b : Int) (c : Int) (swaps : Option Addr) (cmp : Value) (H : Heap) (R : Int → Heap → Prop) : Prop := SpecT (cInt .i64) Tryz.prog slices_medianCmpFunc_ptr_pool_frame.no #[data.v, (.int .i64 a), (.int .i64 b), (.int .i64 c), (.pointer swaps), cmp] H R
/-- slices.order2Ordered[int] -/
@[reducible] def slices_order2Ordered_int.sp (data : Sl) (a : Int) (b : Int) (swaps : Option Addr) (H : Heap) (R : (Int × Int) → Heap → Prop) : Prop := SpecT (cTup [(cInt .i64), (cInt .i64)]) Tryz.prog slices_order2Ordered_int.no #[data.v, (.int .i64 a), (.int .i64 b), (.pointer swaps)] H R
/-- slices.siftDownOrdered[string] -/
@[reducible] def slices_siftDownOrdered_string.sp (data : Sl) (lo : Int) (hi : Int) (first : Int) (H : Heap) (R : Unit → Heap → Prop) : Prop := SpecT (cTup []) Tryz.prog slices_siftDownOrdered_string.no #[data.v, (.int .i64 lo), (.int .i64 hi), (.int .i64 first)] H R
/-- slices.medianAdjacentOrdered[string] -/
@[reducible] def slices_medianAdjacentOrdered_string.sp (data : Sl) (a : Int) (swaps : Option Addr) (H : Heap) (R : Int → Heap → Prop) : Prop := SpecT (cInt .i64) Tryz.prog slices_medianAdjacentOrdered_string.no #[data.v, (.int .i64 a), (.pointer swaps)] H R
/-- slices.medianOrdered[string] -/
@[reducible] def slices_medianOrdered_string.sp (data : Sl) (a : Int) (b : Int) (c : Int) (swaps : Option Addr) (H : Heap) (R : Int → Heap → Prop) : Prop := SpecT (cInt .i64) Tryz.prog slices_medianOrdered_string.no #[data.v, (.int .i64 a), (.int .i64 b), (.int .i64 c), (.pointer swaps)] H R
/-- cmp.isNaN[string] -/
@[reducible] def cmp_isNaN_string.sp (x : ByteArray) (H : Heap) (R : Bool → Heap → Prop) : Prop := SpecT cBool Tryz.prog cmp_isNaN_string.no #[(.string x)] H R
/-- slices.order2CmpFunc[*fathom/pool.frame] -/
@[reducible] def slices_order2CmpFunc_ptr_pool_frame.sp (data : Sl) (a : Int) (b : Int) (swaps : Option Addr) (cmp : Value) (H : Heap) (R : (Int × Int) → Heap → Prop) : Prop := SpecT (cTup [(cInt .i64), (cInt .i64)]) Tryz.prog slices_order2CmpFunc_ptr_pool_frame.no #[data.v, (.int .i64 a), (.int .i64 b), (.pointer swaps), cmp] H R
/-- slices.order2Ordered[string] -/
@[reducible] def slices_order2Ordered_string.sp (data : Sl) (a : Int) (b : Int) (swaps : Option Addr) (H : Heap) (R : (Int × Int) → Heap → Prop) : Prop := SpecT (cTup [(cInt .i64), (cInt .i64)]) Tryz.prog slices_order2Ordered_string.no #[data.v, (.int .i64 a), (.int .i64 b), (.pointer swaps)] H R

/-- fathom/fathomlaw03.PoolPlays -/
def fathomlaw03_PoolPlays.vc (quota : Int) (frames : Int) (script : Sl) (p : Int) (keep : Int) (H : Heap) (R : Bool → Heap → Prop) : Prop :=
  br (decide ((script.n : Int) > (150 : Int))) (R true H) (disk_New.sp quota H fun (r : Option Addr) H1 => fathomref01_New.sp quota H1 fun (n : Option Addr) H2 => br (decide (p ≥ (0 : Int))) (disk_Disk_Crash.sp r p keep H2 fun (_ : Unit) H3 => fathomref01_Disk_Crash.sp n p keep H3 fun (_ : Unit) H4 => pool_New.sp r frames H4 fun (r_3 : (Option Addr × Int)) H5 => fathomref03_New.sp n frames H5 fun (r_4 : (Option Addr × Int)) H6 => br (r_3.2 != r_4.2) (R false H6) (br (r_3.2 != (0 : Int)) (br r_3.1.isNone (fathomlaw03_works.sp H6 fun (r_5 : Bool) H7 => R r_5 H7) (R false H6)) (br r_3.1.isNone (R false H6) (LoopVC Int (0 : Int) H6 fun next i H8 => br (decide (i < (script.n : Int))) (optK script.a fun a => (0 ≤ i ∧ i < (script.n : Int)) ∧ ldA (cAgg [(cInt .i64), cStr, (cInt .i64), (cInt .i64), (cInt .u8)]) 5 H8 (a.add (i.toNat * 5)) fun (x : (Int × ByteArray × Int × Int × Int)) => fathomlaw03_plays.sp r_3.1 r_4.1 x.1 x.2.1 x.2.2.1 x.2.2.2.1 x.2.2.2.2 H8 fun (r_6 : Bool) H9 => ∃ G : Heap → Prop, G H9 ∧ br (!r_6) (R false H9) (pool_Pool_Resident.sp r_3.1 H9 fun (r_7 : Int) H10 => G H10 ∧ optK r_4.1 fun a_1 => ldC cSl G (a_1.add 2) fun (x_1 : Sl) => br (r_7 != (x_1.n : Int)) (R false H10) (pool_Pool_Pinned.sp r_3.1 H10 fun (r_8 : Int) H11 => G H11 ∧ fathomref03_Pool_Pinned.sp r_4.1 H11 fun (r_9 : Int) H12 => G H12 ∧ br (r_8 != r_9) (R false H12) (pool_Pool_Peak.sp r_3.1 H12 fun (r_10 : Int) H13 => G H13 ∧ optK r_4.1 fun a_2 => ldC (cInt .i64) G (a_2.add 5) fun (x_2 : Int) => br (r_10 != x_2) (R false H13) (pool_Pool_Frames.sp r_3.1 H13 fun (r_11 : Int) H14 => G H14 ∧ optK r_4.1 fun a_3 => ldC (cInt .i64) G (a_3.add 1) fun (x_3 : Int) => br (r_11 != x_3) (R false H14) (pool_Pool_Disk.sp r_3.1 H14 fun (r_12 : Option Addr) H15 => disk_Disk_Ops.sp r_12 H15 fun (r_13 : Int) H16 => disk_Disk_Ops.sp r H16 fun (r_14 : Int) H17 => br (r_13 != r_14) (R false H17) (next (IntKind.i64.wrap (i + (1 : Int))) H17))))))) (fathomlaw03_disks.sp r n H8 fun (r_15 : Bool) H18 => br r_15 (fathomlaw03_works.sp H18 fun (r_16 : Bool) H19 => R r_16 H19) (R false H18)))))) (pool_New.sp r frames H2 fun (r_17 : (Option Addr × Int)) H20 => fathomref03_New.sp n frames H20 fun (r_18 : (Option Addr × Int)) H21 => br (r_17.2 != r_18.2) (R false H21) (br (r_17.2 != (0 : Int)) (br r_17.1.isNone (fathomlaw03_works.sp H21 fun (r_19 : Bool) H22 => R r_19 H22) (R false H21)) (br r_17.1.isNone (R false H21) (LoopVC Int (0 : Int) H21 fun next_1 i_1 H23 => br (decide (i_1 < (script.n : Int))) (optK script.a fun a_4 => (0 ≤ i_1 ∧ i_1 < (script.n : Int)) ∧ ldA (cAgg [(cInt .i64), cStr, (cInt .i64), (cInt .i64), (cInt .u8)]) 5 H23 (a_4.add (i_1.toNat * 5)) fun (x_4 : (Int × ByteArray × Int × Int × Int)) => fathomlaw03_plays.sp r_17.1 r_18.1 x_4.1 x_4.2.1 x_4.2.2.1 x_4.2.2.2.1 x_4.2.2.2.2 H23 fun (r_20 : Bool) H24 => ∃ G_1 : Heap → Prop, G_1 H24 ∧ br (!r_20) (R false H24) (pool_Pool_Resident.sp r_17.1 H24 fun (r_21 : Int) H25 => G_1 H25 ∧ optK r_18.1 fun a_5 => ldC cSl G_1 (a_5.add 2) fun (x_5 : Sl) => br (r_21 != (x_5.n : Int)) (R false H25) (pool_Pool_Pinned.sp r_17.1 H25 fun (r_22 : Int) H26 => G_1 H26 ∧ fathomref03_Pool_Pinned.sp r_18.1 H26 fun (r_23 : Int) H27 => G_1 H27 ∧ br (r_22 != r_23) (R false H27) (pool_Pool_Peak.sp r_17.1 H27 fun (r_24 : Int) H28 => G_1 H28 ∧ optK r_18.1 fun a_6 => ldC (cInt .i64) G_1 (a_6.add 5) fun (x_6 : Int) => br (r_24 != x_6) (R false H28) (pool_Pool_Frames.sp r_17.1 H28 fun (r_25 : Int) H29 => G_1 H29 ∧ optK r_18.1 fun a_7 => ldC (cInt .i64) G_1 (a_7.add 1) fun (x_7 : Int) => br (r_25 != x_7) (R false H29) (pool_Pool_Disk.sp r_17.1 H29 fun (r_26 : Option Addr) H30 => disk_Disk_Ops.sp r_26 H30 fun (r_27 : Int) H31 => disk_Disk_Ops.sp r H31 fun (r_28 : Int) H32 => br (r_27 != r_28) (R false H32) (next_1 (IntKind.i64.wrap (i_1 + (1 : Int))) H32))))))) (fathomlaw03_disks.sp r n H23 fun (r_29 : Bool) H33 => br r_29 (fathomlaw03_works.sp H33 fun (r_30 : Bool) H34 => R r_30 H34) (R false H33)))))))

theorem fathomlaw03_PoolPlays.of {quota : Int} {frames : Int} {script : Sl} {p : Int} {keep : Int} {H : Heap} {R : Bool → Heap → Prop} (hvc : fathomlaw03_PoolPlays.vc quota frames script p keep H R) : fathomlaw03_PoolPlays.sp quota frames script p keep H R :=
  specT_of_vc prog_ng prog_mixed (c := cBool) (A := [(16, [(17, (cInt .i64))]), (300018, [(7, cBool)])]) (args := [(.int .i64 quota), (.int .i64 frames), script.v, (.int .i64 p), (.int .u64 keep)]) (Eq.mpr (by kernel_rfl : vcFT cBool Tryz.prog fathomlaw03_PoolPlays.no [(16, [(17, (cInt .i64))]), (300018, [(7, cBool)])] [(.int .i64 quota), (.int .i64 frames), script.v, (.int .i64 p), (.int .u64 keep)] H R = fathomlaw03_PoolPlays.vc quota frames script p keep H R) hvc)

/-- fathom/fathomlaw03.PoolKnown -/
def fathomlaw03_PoolKnown.vc  (H : Heap) (R : Bool → Heap → Prop) : Prop :=
  newC H (zc Tryz.prog ty_fathomlaw03_Step) ty_fathomlaw03_Step fun p H1 => doU Tryz.prog (Instr.storeAt ty_fathomlaw03_Step (.pointer (some p)) (.agg #[(.int .i64 (7 : Int)), (.string (ByteArray.mk #[102])), (.int .i64 (0 : Int)), (.int .i64 (0 : Int)), (.int .u8 (0 : Int))])) H1 fun H2 => newC H2 (zc Tryz.prog ty_fathomlaw03_Step) ty_fathomlaw03_Step fun p_1 H3 => doU Tryz.prog (Instr.storeAt ty_fathomlaw03_Step (.pointer (some p_1)) (.agg #[(.int .i64 (1 : Int)), (.string (ByteArray.mk #[102])), (.int .i64 (0 : Int)), (.int .i64 (0 : Int)), (.int .u8 (0 : Int))])) H3 fun H4 => ldA (cAgg [(cInt .i64), cStr, (cInt .i64), (cInt .i64), (cInt .u8)]) 5 H4 p fun (x : (Int × ByteArray × Int × Int × Int)) => ldA (cAgg [(cInt .i64), cStr, (cInt .i64), (cInt .i64), (cInt .u8)]) 5 H4 p_1 fun (x_1 : (Int × ByteArray × Int × Int × Int)) => ldA (cAgg [(cInt .i64), cStr, (cInt .i64), (cInt .i64), (cInt .u8)]) 5 H4 p fun (x_2 : (Int × ByteArray × Int × Int × Int)) => ldA (cAgg [(cInt .i64), cStr, (cInt .i64), (cInt .i64), (cInt .u8)]) 5 H4 p_1 fun (x_3 : (Int × ByteArray × Int × Int × Int)) => newC H4 #[(.int .i64 x.1), (.string x.2.1), (.int .i64 x.2.2.1), (.int .i64 x.2.2.2.1), (.int .u8 x.2.2.2.2), (.int .i64 x_1.1), (.string x_1.2.1), (.int .i64 x_1.2.2.1), (.int .i64 x_1.2.2.2.1), (.int .u8 x_1.2.2.2.2), (.int .i64 (3 : Int)), (.string ByteArray.empty), (.int .i64 (3 : Int)), (.int .i64 (1 : Int)), (.int .u8 (5 : Int)), (.int .i64 (2 : Int)), (.string ByteArray.empty), (.int .i64 (0 : Int)), (.int .i64 (1 : Int)), (.int .u8 (0 : Int)), (.int .i64 (4 : Int)), (.string ByteArray.empty), (.int .i64 (0 : Int)), (.int .i64 (1 : Int)), (.int .u8 (0 : Int)), (.int .i64 (4 : Int)), (.string ByteArray.empty), (.int .i64 (0 : Int)), (.int .i64 (1 : Int)), (.int .u8 (0 : Int)), (.int .i64 (0 : Int)), (.string (ByteArray.mk #[102])), (.int .i64 (0 : Int)), (.int .i64 (0 : Int)), (.int .u8 (0 : Int)), (.int .i64 (2 : Int)), (.string ByteArray.empty), (.int .i64 (0 : Int)), (.int .i64 (2 : Int)), (.int .u8 (0 : Int)), (.int .i64 (0 : Int)), (.string (ByteArray.mk #[102])), (.int .i64 (1 : Int)), (.int .i64 (0 : Int)), (.int .u8 (0 : Int)), (.int .i64 (0 : Int)), (.string (ByteArray.mk #[102])), (.int .i64 (-1 : Int)), (.int .i64 (0 : Int)), (.int .u8 (0 : Int)), (.int .i64 (0 : Int)), (.string (ByteArray.mk #[103])), (.int .i64 (0 : Int)), (.int .i64 (0 : Int)), (.int .u8 (0 : Int)), (.int .i64 (1 : Int)), (.string (ByteArray.mk #[103])), (.int .i64 (0 : Int)), (.int .i64 (0 : Int)), (.int .u8 (0 : Int)), (.int .i64 (5 : Int)), (.string (ByteArray.mk #[103])), (.int .i64 (0 : Int)), (.int .i64 (0 : Int)), (.int .u8 (0 : Int)), (.int .i64 (6 : Int)), (.string (ByteArray.mk #[103])), (.int .i64 (0 : Int)), (.int .i64 (0 : Int)), (.int .u8 (0 : Int)), (.int .i64 (6 : Int)), (.string (ByteArray.mk #[102])), (.int .i64 (0 : Int)), (.int .i64 (0 : Int)), (.int .u8 (0 : Int)), (.int .i64 (0 : Int)), (.string (ByteArray.mk #[102])), (.int .i64 (0 : Int)), (.int .i64 (0 : Int)), (.int .u8 (0 : Int)), (.int .i64 (4 : Int)), (.string ByteArray.empty), (.int .i64 (0 : Int)), (.int .i64 (2 : Int)), (.int .u8 (0 : Int)), (.int .i64 (6 : Int)), (.string (ByteArray.mk #[102])), (.int .i64 (0 : Int)), (.int .i64 (0 : Int)), (.int .u8 (0 : Int)), (.int .i64 (4 : Int)), (.string ByteArray.empty), (.int .i64 (0 : Int)), (.int .i64 (3 : Int)), (.int .u8 (0 : Int)), (.int .i64 (5 : Int)), (.string (ByteArray.mk #[102])), (.int .i64 (0 : Int)), (.int .i64 (0 : Int)), (.int .u8 (0 : Int)), (.int .i64 (3 : Int)), (.string ByteArray.empty), (.int .i64 (1 : Int)), (.int .i64 (3 : Int)), (.int .u8 (0 : Int)), (.int .i64 (3 : Int)), (.string ByteArray.empty), (.int .i64 (1 : Int)), (.int .i64 (9 : Int)), (.int .u8 (0 : Int)), (.int .i64 (6 : Int)), (.string (ByteArray.mk #[102])), (.int .i64 (0 : Int)), (.int .i64 (0 : Int)), (.int .u8 (0 : Int)), (.int .i64 (0 : Int)), (.string (ByteArray.mk #[102])), (.int .i64 (0 : Int)), (.int .i64 (0 : Int)), (.int .u8 (0 : Int)), (.int .i64 x_2.1), (.string x_2.2.1), (.int .i64 x_2.2.2.1), (.int .i64 x_2.2.2.2.1), (.int .u8 x_2.2.2.2.2), (.int .i64 x_3.1), (.string x_3.2.1), (.int .i64 x_3.2.2.1), (.int .i64 x_3.2.2.2.1), (.int .u8 x_3.2.2.2.2), (.int .i64 (3 : Int)), (.string ByteArray.empty), (.int .i64 (504 : Int)), (.int .i64 (4 : Int)), (.int .u8 (0 : Int)), (.int .i64 (3 : Int)), (.string ByteArray.empty), (.int .i64 (505 : Int)), (.int .i64 (4 : Int)), (.int .u8 (0 : Int)), (.int .i64 (2 : Int)), (.string ByteArray.empty), (.int .i64 (0 : Int)), (.int .i64 (4 : Int)), (.int .u8 (0 : Int))] ty_fathomlaw03_Step fun row_p H5 => ldA (cAgg [(cInt .i64), cStr, (cInt .i64), (cInt .i64), (cInt .u8)]) 5 H5 p fun (x_4 : (Int × ByteArray × Int × Int × Int)) => newC H5 #[(.int .i64 x_4.1), (.string x_4.2.1), (.int .i64 x_4.2.2.1), (.int .i64 x_4.2.2.2.1), (.int .u8 x_4.2.2.2.2)] ty_fathomlaw03_Step fun many_p H6 => LoopVC (Sl × Int) ((Sl.mk (some many_p) 1 1), (0 : Int)) H6 fun next z H7 => br (decide (z.2 < (10 : Int))) (ldA (cAgg [(cInt .i64), cStr, (cInt .i64), (cInt .i64), (cInt .u8)]) 5 H7 p_1 fun (x_5 : (Int × ByteArray × Int × Int × Int)) => newC H7 #[(.int .i64 x_5.1), (.string x_5.2.1), (.int .i64 x_5.2.2.1), (.int .i64 x_5.2.2.2.1), (.int .u8 x_5.2.2.2.2)] ty_fathomlaw03_Step fun p_2 H8 => doT cSl Tryz.prog (Builtin.append_ #[ty_sl_fathomlaw03_Step, ty_sl_fathomlaw03_Step] ty_sl_fathomlaw03_Step #[z.1.v, (.slice (some p_2) 1 1)]) H8 fun (many : Sl) H9 => next (many, IntKind.i64.wrap (z.2 + (1 : Int))) H9) (LoopVC (Sl × Int) (z.1, (1 : Int)) H7 fun next_1 z_1 H10 => br (decide (z_1.2 < (9 : Int))) (ldA (cAgg [(cInt .i64), cStr, (cInt .i64), (cInt .i64), (cInt .u8)]) 5 H10 p_1 fun (x_6 : (Int × ByteArray × Int × Int × Int)) => newC H10 #[(.int .i64 (3 : Int)), (.string ByteArray.empty), (.int .i64 (2 : Int)), (.int .i64 z_1.2), (.int .u8 (IntKind.u8.wrap z_1.2)), (.int .i64 (4 : Int)), (.string ByteArray.empty), (.int .i64 (0 : Int)), (.int .i64 (IntKind.i64.wrap ((9 : Int) - z_1.2))), (.int .u8 (0 : Int)), (.int .i64 x_6.1), (.string x_6.2.1), (.int .i64 x_6.2.2.1), (.int .i64 x_6.2.2.2.1), (.int .u8 x_6.2.2.2.2), (.int .i64 (0 : Int)), (.string (ByteArray.mk #[102])), (.int .i64 (IntKind.i64.wrap (z_1.2 - (1 : Int)))), (.int .i64 (0 : Int)), (.int .u8 (0 : Int))] ty_fathomlaw03_Step fun p_3 H11 => doT cSl Tryz.prog (Builtin.append_ #[ty_sl_fathomlaw03_Step, ty_sl_fathomlaw03_Step] ty_sl_fathomlaw03_Step #[z_1.1.v, (.slice (some p_3) 4 4)]) H11 fun (many_1 : Sl) H12 => next_1 (many_1, IntKind.i64.wrap (z_1.2 + (1 : Int))) H12) (newC H10 #[(.int .i64 (5 : Int)), (.string (ByteArray.mk #[102])), (.int .i64 (0 : Int)), (.int .i64 (0 : Int)), (.int .u8 (0 : Int))] ty_fathomlaw03_Step fun p_4 H13 => doT cSl Tryz.prog (Builtin.append_ #[ty_sl_fathomlaw03_Step, ty_sl_fathomlaw03_Step] ty_sl_fathomlaw03_Step #[z_1.1.v, (.slice (some p_4) 1 1)]) H13 fun (many_2 : Sl) H14 => newC H14 #[(.int .i64 (0 : Int)), (.int .i64 (1 : Int)), (.int .i64 (8 : Int)), (.int .i64 (9 : Int)), (.int .i64 (100 : Int))] ty_int fun p_5 H15 => LoopVC Int (0 : Int) H15 fun next_2 z_2 H16 => br (decide (z_2 < (5 : Int))) ((0 ≤ z_2 ∧ z_2 < (5 : Int)) ∧ ld (cInt .i64) H16 (p_5.add (z_2.toNat * 1)) fun (quota : Int) => LoopVC Int (-1 : Int) H16 fun next_3 z_3 H17 => br (decide (z_3 < (24 : Int))) (fathomlaw03_PoolPlays.sp quota (8 : Int) (Sl.mk (some row_p) 29 29) z_3 (5 : Int) H17 fun (r : Bool) H18 => br (!r) (R false H18) (fathomlaw03_PoolPlays.sp quota (8 : Int) many_2 z_3 (18446744073709551615 : Int) H18 fun (r_1 : Bool) H19 => br (!r_1) (R false H19) (next_3 (IntKind.i64.wrap ((IntKind.i64.wrap (z_3 + (1 : Int))) + (Int.tmod quota (2 : Int)))) H19))) (LoopVC Int (0 : Int) H17 fun next_4 k H20 => br (decide (k < (29 : Int))) ((0 ≤ k ∧ k ≤ (29 : Int)) ∧ fathomlaw03_PoolPlays.sp quota (9 : Int) (Sl.mk (slA (some row_p) 29 0 5) (k.toNat - 0) (29 - 0)) (-1 : Int) (0 : Int) H20 fun (r_2 : Bool) H21 => br (!r_2) (R false H21) (next_4 (IntKind.i64.wrap (k + (2 : Int))) H21)) (next_2 (IntKind.i64.wrap (z_2 + (1 : Int))) H20))) (ldA (cAgg [(cInt .i64), cStr, (cInt .i64), (cInt .i64), (cInt .u8)]) 5 H16 p fun (x_7 : (Int × ByteArray × Int × Int × Int)) => newC H16 #[(.int .i64 x_7.1), (.string x_7.2.1), (.int .i64 x_7.2.2.1), (.int .i64 x_7.2.2.2.1), (.int .u8 x_7.2.2.2.2)] ty_fathomlaw03_Step fun full_p H22 => LoopVC (Sl × Int) ((Sl.mk (some full_p) 1 1), (0 : Int)) H22 fun next_5 z_4 H23 => br (decide (z_4.2 < (8 : Int))) (ldA (cAgg [(cInt .i64), cStr, (cInt .i64), (cInt .i64), (cInt .u8)]) 5 H23 p_1 fun (x_8 : (Int × ByteArray × Int × Int × Int)) => newC H23 #[(.int .i64 x_8.1), (.string x_8.2.1), (.int .i64 x_8.2.2.1), (.int .i64 x_8.2.2.2.1), (.int .u8 x_8.2.2.2.2)] ty_fathomlaw03_Step fun p_6 H24 => doT cSl Tryz.prog (Builtin.append_ #[ty_sl_fathomlaw03_Step, ty_sl_fathomlaw03_Step] ty_sl_fathomlaw03_Step #[z_4.1.v, (.slice (some p_6) 1 1)]) H24 fun (full : Sl) H25 => next_5 (full, IntKind.i64.wrap (z_4.2 + (1 : Int))) H25) (LoopVC (Sl × Int) (z_4.1, (1 : Int)) H23 fun next_6 z_5 H26 => br (decide (z_5.2 < (9 : Int))) (newC H26 #[(.int .i64 (3 : Int)), (.string ByteArray.empty), (.int .i64 z_5.2), (.int .i64 z_5.2), (.int .u8 (IntKind.u8.wrap z_5.2))] ty_fathomlaw03_Step fun p_7 H27 => doT cSl Tryz.prog (Builtin.append_ #[ty_sl_fathomlaw03_Step, ty_sl_fathomlaw03_Step] ty_sl_fathomlaw03_Step #[z_5.1.v, (.slice (some p_7) 1 1)]) H27 fun (full_1 : Sl) H28 => next_6 (full_1, IntKind.i64.wrap (z_5.2 + (1 : Int))) H28) (newC H26 #[(.int .i64 (3 : Int)), (.int .i64 (1 : Int)), (.int .i64 (2 : Int)), (.int .i64 (5 : Int)), (.int .i64 (4 : Int))] ty_int fun p_8 H29 => newC H29 #[(.int .i64 (8 : Int)), (.int .i64 (7 : Int))] ty_int fun p_9 H30 => newC H30 #[(.int .i64 (1 : Int)), (.int .i64 (2 : Int)), (.int .i64 (3 : Int))] ty_int fun p_10 H31 => newC H31 #[(.slice (some p_8) 5 5), (.slice (some p_9) 2 2), (.slice (some p_10) 3 3)] ty_sl_int fun p_11 H32 => LoopVC Int (0 : Int) H32 fun next_7 z_6 H33 => br (decide (z_6 < (3 : Int))) ((0 ≤ z_6 ∧ z_6 < (3 : Int)) ∧ ld cSl H33 (p_11.add (z_6.toNat * 1)) fun (gone : Sl) => doT cSl Tryz.prog (Builtin.append_ #[ty_sl_fathomlaw03_Step, ty_sl_fathomlaw03_Step] ty_sl_fathomlaw03_Step #[(.slice none 0 0), z_5.1.v]) H33 fun (l : Sl) H34 => LoopVC (Sl × Int) (l, (0 : Int)) H34 fun next_8 z_7 H35 => br (decide (z_7.2 < (gone.n : Int))) (optK gone.a fun a => (0 ≤ z_7.2 ∧ z_7.2 < (gone.n : Int)) ∧ ld (cInt .i64) H35 (a.add (z_7.2.toNat * 1)) fun (x_9 : Int) => newC H35 #[(.int .i64 (4 : Int)), (.string ByteArray.empty), (.int .i64 (0 : Int)), (.int .i64 x_9), (.int .u8 (0 : Int))] ty_fathomlaw03_Step fun p_12 H36 => doT cSl Tryz.prog (Builtin.append_ #[ty_sl_fathomlaw03_Step, ty_sl_fathomlaw03_Step] ty_sl_fathomlaw03_Step #[z_7.1.v, (.slice (some p_12) 1 1)]) H36 fun (l_1 : Sl) H37 => next_8 (l_1, IntKind.i64.wrap (z_7.2 + (1 : Int))) H37) (doT cSl Tryz.prog (Builtin.append_ #[ty_sl_fathomlaw03_Step, ty_sl_fathomlaw03_Step] ty_sl_fathomlaw03_Step #[(.slice none 0 0), z_7.1.v]) H35 fun (again : Sl) H38 => optK gone.a fun a_1 => (0 ≤ (0 : Int) ∧ (0 : Int) < (gone.n : Int)) ∧ ld (cInt .i64) H38 (a_1.add ((0 : Int).toNat * 1)) fun (x_10 : Int) => ldA (cAgg [(cInt .i64), cStr, (cInt .i64), (cInt .i64), (cInt .u8)]) 5 H38 p_1 fun (x_11 : (Int × ByteArray × Int × Int × Int)) => ldA (cAgg [(cInt .i64), cStr, (cInt .i64), (cInt .i64), (cInt .u8)]) 5 H38 p_1 fun (x_12 : (Int × ByteArray × Int × Int × Int)) => newC H38 #[(.int .i64 (0 : Int)), (.string (ByteArray.mk #[102])), (.int .i64 (IntKind.i64.wrap (x_10 - (1 : Int)))), (.int .i64 (0 : Int)), (.int .u8 (0 : Int)), (.int .i64 (4 : Int)), (.string ByteArray.empty), (.int .i64 (0 : Int)), (.int .i64 (9 : Int)), (.int .u8 (0 : Int)), (.int .i64 x_11.1), (.string x_11.2.1), (.int .i64 x_11.2.2.1), (.int .i64 x_11.2.2.2.1), (.int .u8 x_11.2.2.2.2), (.int .i64 x_12.1), (.string x_12.2.1), (.int .i64 x_12.2.2.1), (.int .i64 x_12.2.2.2.1), (.int .u8 x_12.2.2.2.2), (.int .i64 (2 : Int)), (.string ByteArray.empty), (.int .i64 (0 : Int)), (.int .i64 (10 : Int)), (.int .u8 (0 : Int))] ty_fathomlaw03_Step fun p_13 H39 => doT cSl Tryz.prog (Builtin.append_ #[ty_sl_fathomlaw03_Step, ty_sl_fathomlaw03_Step] ty_sl_fathomlaw03_Step #[again.v, (.slice (some p_13) 5 5)]) H39 fun (again_1 : Sl) H40 => ldA (cAgg [(cInt .i64), cStr, (cInt .i64), (cInt .i64), (cInt .u8)]) 5 H40 p_1 fun (x_13 : (Int × ByteArray × Int × Int × Int)) => ldA (cAgg [(cInt .i64), cStr, (cInt .i64), (cInt .i64), (cInt .u8)]) 5 H40 p_1 fun (x_14 : (Int × ByteArray × Int × Int × Int)) => optK gone.a fun a_2 => (0 ≤ (1 : Int) ∧ (1 : Int) < (gone.n : Int)) ∧ ld (cInt .i64) H40 (a_2.add ((1 : Int).toNat * 1)) fun (x_15 : Int) => newC H40 #[(.int .i64 x_13.1), (.string x_13.2.1), (.int .i64 x_13.2.2.1), (.int .i64 x_13.2.2.2.1), (.int .u8 x_13.2.2.2.2), (.int .i64 x_14.1), (.string x_14.2.1), (.int .i64 x_14.2.2.1), (.int .i64 x_14.2.2.2.1), (.int .u8 x_14.2.2.2.2), (.int .i64 (0 : Int)), (.string (ByteArray.mk #[102])), (.int .i64 (IntKind.i64.wrap (x_15 - (1 : Int)))), (.int .i64 (0 : Int)), (.int .u8 (0 : Int))] ty_fathomlaw03_Step fun p_14 H41 => doT cSl Tryz.prog (Builtin.append_ #[ty_sl_fathomlaw03_Step, ty_sl_fathomlaw03_Step] ty_sl_fathomlaw03_Step #[z_7.1.v, (.slice (some p_14) 3 3)]) H41 fun (l_2 : Sl) H42 => LoopVC Int (z_5.1.n : Int) H42 fun next_9 k_1 H43 => br (decide (k_1 ≤ (l_2.n : Int))) ((0 ≤ k_1 ∧ k_1 ≤ (l_2.c : Int)) ∧ fathomlaw03_PoolPlays.sp (50 : Int) (8 : Int) (Sl.mk (slA l_2.a l_2.c 0 5) (k_1.toNat - 0) (l_2.c - 0)) (-1 : Int) (0 : Int) H43 fun (r_3 : Bool) H44 => br (!r_3) (R false H44) (next_9 (IntKind.i64.wrap (k_1 + (1 : Int))) H44)) (fathomlaw03_PoolPlays.sp (50 : Int) (8 : Int) again_1 (-1 : Int) (0 : Int) H43 fun (r_4 : Bool) H45 => br (!r_4) (R false H45) (next_7 (IntKind.i64.wrap (z_6 + (1 : Int))) H45)))) (newC H33 #[(.int .i64 (-1 : Int)), (.int .i64 (0 : Int)), (.int .i64 (7 : Int)), (.int .i64 (8 : Int)), (.int .i64 (9 : Int)), (.int .i64 (4096 : Int)), (.int .i64 (4097 : Int))] ty_int fun p_15 H46 => LoopVC Int (0 : Int) H46 fun next_10 z_8 H47 => br (decide (z_8 < (7 : Int))) ((0 ≤ z_8 ∧ z_8 < (7 : Int)) ∧ ld (cInt .i64) H47 (p_15.add (z_8.toNat * 1)) fun (frames : Int) => fathomlaw03_PoolPlays.sp (20 : Int) frames (Sl.mk (some row_p) 29 29) (-1 : Int) (0 : Int) H47 fun (r_5 : Bool) H48 => br (!r_5) (R false H48) (fathomlaw03_PoolPins.sp frames H48 fun (r_6 : Bool) H49 => br (!r_6) (R false H49) (ldA (cAgg [(cInt .i64), cStr, (cInt .i64), (cInt .i64), (cInt .u8)]) 5 H49 p_1 fun (x_16 : (Int × ByteArray × Int × Int × Int)) => fathomlaw03_PoolNone.sp x_16.1 x_16.2.1 x_16.2.2.1 x_16.2.2.2.1 x_16.2.2.2.2 frames H49 fun (r_7 : Bool) H50 => br (!r_7) (R false H50) (next_10 (IntKind.i64.wrap (z_8 + (1 : Int))) H50)))) (fathomlaw03_torn.sp H47 fun (r_8 : Bool) H51 => br r_8 (fathomlaw03_works.sp H51 fun (r_9 : Bool) H52 => R r_9 H52) (R false H51))))))))

theorem fathomlaw03_PoolKnown.of {H : Heap} {R : Bool → Heap → Prop} (hvc : fathomlaw03_PoolKnown.vc H R) : fathomlaw03_PoolKnown.sp H R :=
  specT_of_vc prog_ng prog_mixed (c := cBool) (A := [(6, [(4, cSl), (5, (cInt .i64))]), (10, [(4, cSl), (6, (cInt .i64))]), (15, [(88, (cInt .i64))]), (18, [(9, (cInt .i64))]), (23, [(10, (cInt .i64))]), (30, [(11, cSl), (12, (cInt .i64))]), (34, [(11, cSl), (13, (cInt .i64))]), (38, [(151, (cInt .i64))]), (43, [(16, cSl), (17, (cInt .i64))]), (51, [(19, (cInt .i64))]), (59, [(216, (cInt .i64))])]) (args := []) (Eq.mpr (by kernel_rfl : vcFT cBool Tryz.prog fathomlaw03_PoolKnown.no [(6, [(4, cSl), (5, (cInt .i64))]), (10, [(4, cSl), (6, (cInt .i64))]), (15, [(88, (cInt .i64))]), (18, [(9, (cInt .i64))]), (23, [(10, (cInt .i64))]), (30, [(11, cSl), (12, (cInt .i64))]), (34, [(11, cSl), (13, (cInt .i64))]), (38, [(151, (cInt .i64))]), (43, [(16, cSl), (17, (cInt .i64))]), (51, [(19, (cInt .i64))]), (59, [(216, (cInt .i64))])] [] H R = fathomlaw03_PoolKnown.vc H R) hvc)

/-- fathom/disk.New -/
def disk_New.vc (quota : Int) (H : Heap) (R : Option Addr → Heap → Prop) : Prop :=
  newM H fun m H1 => newC H1 #[(.map (some m)), (.int .i64 (0 : Int)), (.int .i64 (0 : Int)), (.int .i64 (if (1048576 : Int) < (if (0 : Int) > quota then (0 : Int) else quota) then (1048576 : Int) else (if (0 : Int) > quota then (0 : Int) else quota))), (.int .i64 (0 : Int)), (.int .i64 (0 : Int)), (.bool false), (.int .i64 (0 : Int)), (.int .u64 (0 : Int)), (.bool false)] ty_disk_Disk fun p H2 => R (some p) H2

theorem disk_New.of {quota : Int} {H : Heap} {R : Option Addr → Heap → Prop} (hvc : disk_New.vc quota H R) : disk_New.sp quota H R :=
  specT_of_vc prog_ng prog_mixed (c := cPtr) (A := []) (args := [(.int .i64 quota)]) (Eq.mpr (by kernel_rfl : vcFT cPtr Tryz.prog disk_New.no [] [(.int .i64 quota)] H R = disk_New.vc quota H R) hvc)

/-- fathom/fathomref01.New -/
def fathomref01_New.vc (quota : Int) (H : Heap) (R : Option Addr → Heap → Prop) : Prop :=
  newC H #[(.slice none 0 0), (.int .i64 (0 : Int)), (.int .i64 (if (1048576 : Int) < (if (0 : Int) > quota then (0 : Int) else quota) then (1048576 : Int) else (if (0 : Int) > quota then (0 : Int) else quota))), (.int .i64 (0 : Int)), (.int .i64 (0 : Int)), (.bool false), (.int .i64 (0 : Int)), (.int .u64 (0 : Int)), (.bool false)] ty_fathomref01_Disk fun p H1 => R (some p) H1

theorem fathomref01_New.of {quota : Int} {H : Heap} {R : Option Addr → Heap → Prop} (hvc : fathomref01_New.vc quota H R) : fathomref01_New.sp quota H R :=
  specT_of_vc prog_ng prog_mixed (c := cPtr) (A := []) (args := [(.int .i64 quota)]) (Eq.mpr (by kernel_rfl : vcFT cPtr Tryz.prog fathomref01_New.no [] [(.int .i64 quota)] H R = fathomref01_New.vc quota H R) hvc)

/-- (*fathom/disk.Disk).Crash -/
def disk_Disk_Crash.vc (d : Option Addr) (p : Int) (keep : Int) (H : Heap) (R : Unit → Heap → Prop) : Prop :=
  disk_Disk_ready.sp d H fun (r : Int) H1 => br (r == (0 : Int)) (optK d fun a => doU Tryz.prog (Instr.storeAt ty_disk_crash (.pointer (some (a.add 6))) (.agg #[(.bool true), (.int .i64 (if (0 : Int) > p then (0 : Int) else p)), (.int .u64 keep)])) H1 fun H2 => R () H2) (R () H1)

theorem disk_Disk_Crash.of {d : Option Addr} {p : Int} {keep : Int} {H : Heap} {R : Unit → Heap → Prop} (hvc : disk_Disk_Crash.vc d p keep H R) : disk_Disk_Crash.sp d p keep H R :=
  specT_of_vc prog_ng prog_mixed (c := (cTup [])) (A := []) (args := [(.pointer d), (.int .i64 p), (.int .u64 keep)]) (Eq.mpr (by kernel_rfl : vcFT (cTup []) Tryz.prog disk_Disk_Crash.no [] [(.pointer d), (.int .i64 p), (.int .u64 keep)] H R = disk_Disk_Crash.vc d p keep H R) hvc)

/-- (*fathom/fathomref01.Disk).Crash -/
def fathomref01_Disk_Crash.vc (d : Option Addr) (p : Int) (keep : Int) (H : Heap) (R : Unit → Heap → Prop) : Prop :=
  optK d fun a => ld cBool H (a.add 8) fun (x : Bool) => br x (R () H) (optK d fun a_1 => st H (a_1.add 5) (.bool true) fun H1 => optK d fun a_2 => st H1 (a_2.add 6) (.int .i64 (if (0 : Int) > p then (0 : Int) else p)) fun H2 => optK d fun a_3 => st H2 (a_3.add 7) (.int .u64 keep) fun H3 => R () H3)

theorem fathomref01_Disk_Crash.of {d : Option Addr} {p : Int} {keep : Int} {H : Heap} {R : Unit → Heap → Prop} (hvc : fathomref01_Disk_Crash.vc d p keep H R) : fathomref01_Disk_Crash.sp d p keep H R :=
  specT_of_vc prog_ng prog_mixed (c := (cTup [])) (A := []) (args := [(.pointer d), (.int .i64 p), (.int .u64 keep)]) (Eq.mpr (by kernel_rfl : vcFT (cTup []) Tryz.prog fathomref01_Disk_Crash.no [] [(.pointer d), (.int .i64 p), (.int .u64 keep)] H R = fathomref01_Disk_Crash.vc d p keep H R) hvc)

/-- fathom/pool.New -/
def pool_New.vc (d : Option Addr) (frames : Int) (H : Heap) (R : (Option Addr × Int) → Heap → Prop) : Prop :=
  br d.isNone (R (none, (1 : Int)) H) (br (decide (frames < (8 : Int))) (R (none, (30 : Int)) H) (br (decide (frames > (4096 : Int))) (R (none, (3 : Int)) H) (newM H fun m H1 => newM H1 fun m_1 H2 => newC H2 #[(.pointer d), (.int .i64 frames), (.map (some m)), (.map (some m_1)), (.int .i64 (1 : Int)), (.int .i64 (0 : Int)), (.int .i64 (0 : Int)), (.int .i64 (0 : Int))] ty_pool_Pool fun p H3 => R (some p, (0 : Int)) H3)))

theorem pool_New.of {d : Option Addr} {frames : Int} {H : Heap} {R : (Option Addr × Int) → Heap → Prop} (hvc : pool_New.vc d frames H R) : pool_New.sp d frames H R :=
  specT_of_vc prog_ng prog_mixed (c := (cTup [cPtr, (cInt .i64)])) (A := []) (args := [(.pointer d), (.int .i64 frames)]) (Eq.mpr (by kernel_rfl : vcFT (cTup [cPtr, (cInt .i64)]) Tryz.prog pool_New.no [] [(.pointer d), (.int .i64 frames)] H R = pool_New.vc d frames H R) hvc)

/-- fathom/fathomref03.New -/
def fathomref03_New.vc (d : Option Addr) (frames : Int) (H : Heap) (R : (Option Addr × Int) → Heap → Prop) : Prop :=
  br d.isNone (R (none, (1 : Int)) H) (br (decide (frames < (8 : Int))) (R (none, (30 : Int)) H) (br (decide (frames > (4096 : Int))) (R (none, (3 : Int)) H) (newC H #[(.pointer d), (.int .i64 frames), (.slice none 0 0), (.int .i64 (1 : Int)), (.int .i64 (0 : Int)), (.int .i64 (0 : Int)), (.int .i64 (0 : Int))] ty_fathomref03_Pool fun p H1 => R (some p, (0 : Int)) H1)))

theorem fathomref03_New.of {d : Option Addr} {frames : Int} {H : Heap} {R : (Option Addr × Int) → Heap → Prop} (hvc : fathomref03_New.vc d frames H R) : fathomref03_New.sp d frames H R :=
  specT_of_vc prog_ng prog_mixed (c := (cTup [cPtr, (cInt .i64)])) (A := []) (args := [(.pointer d), (.int .i64 frames)]) (Eq.mpr (by kernel_rfl : vcFT (cTup [cPtr, (cInt .i64)]) Tryz.prog fathomref03_New.no [] [(.pointer d), (.int .i64 frames)] H R = fathomref03_New.vc d frames H R) hvc)

/-- fathom/fathomlaw03.works -/
def fathomlaw03_works.vc  (H : Heap) (R : Bool → Heap → Prop) : Prop :=
  disk_New.sp (20 : Int) H fun (d : Option Addr) H1 => disk_Disk_Create.sp d (ByteArray.mk #[102]) H1 fun (_ : Int) H2 => pool_New.sp d (8 : Int) H2 fun (r_1 : (Option Addr × Int)) H3 => br (r_1.2 != (0 : Int)) (R false H3) (br r_1.1.isNone (R false H3) (pool_Pool_Fresh.sp r_1.1 (ByteArray.mk #[102]) H3 fun (r_2 : (Int × Int × Int)) H4 => newC H4 #[(.int .u8 (1 : Int)), (.int .u8 (2 : Int)), (.int .u8 (3 : Int))] ty_uint8 fun p H5 => pool_Pool_Put.sp r_1.1 r_2.1 (5 : Int) (Sl.mk (some p) 3 3) H5 fun (g : Int) H6 => pool_Pool_Unpin.sp r_1.1 r_2.1 H6 fun (i : Int) H7 => pool_Pool_Flush.sp r_1.1 (ByteArray.mk #[102]) H7 fun (j : Int) H8 => pool_Pool_Pin.sp r_1.1 (ByteArray.mk #[102]) (0 : Int) H8 fun (r_3 : (Int × Int)) H9 => pool_Pool_Get.sp r_1.1 r_3.1 H9 fun (r_4 : (Int × Sl × Int)) H10 => br ((((((((((r_2.2.2 == (0 : Int)) && (g == (0 : Int))) && (i == (0 : Int))) && (j == (0 : Int))) && (r_3.2 == (0 : Int))) && (r_4.2.2 == (0 : Int))) && (r_2.1 == (1 : Int))) && (r_2.2.1 == (0 : Int))) && (r_3.1 == (2 : Int))) && (r_4.1 == (5 : Int))) (b2s H10 r_4.2.1.a r_4.2.1.n fun (str : ByteArray) => br (str.toList == (ByteArray.mk #[1, 2, 3]).toList) (disk_Disk_Ops.sp d H10 fun (r_5 : Int) H11 => br (r_5 == (4 : Int)) (pool_Pool_Resident.sp r_1.1 H11 fun (r_6 : Int) H12 => R (r_6 == (1 : Int)) H12) (R false H11)) (R false H10)) (R false H10)))

theorem fathomlaw03_works.of {H : Heap} {R : Bool → Heap → Prop} (hvc : fathomlaw03_works.vc H R) : fathomlaw03_works.sp H R :=
  specT_of_vc prog_ng prog_mixed (c := cBool) (A := []) (args := []) (Eq.mpr (by kernel_rfl : vcFT cBool Tryz.prog fathomlaw03_works.no [] [] H R = fathomlaw03_works.vc H R) hvc)

/-- fathom/fathomlaw03.plays -/
def fathomlaw03_plays.vc (p : Option Addr) (m : Option Addr) (x_ : Int) (x_1 : ByteArray) (x_2 : Int) (x_3 : Int) (x_4 : Int) (H : Heap) (R : Bool → Heap → Prop) : Prop :=
  newC H #[(.int .i64 x_), (.string x_1), (.int .i64 x_2), (.int .i64 x_3), (.int .u8 x_4)] ty_fathomlaw03_Step fun p_1 H1 => ld (cInt .i64) H1 (p_1.add 0) fun (x : Int) => fathomkit_Pick.sp x (8 : Int) H1 fun (r : Int) H2 => br (r == (0 : Int)) (ld cStr H2 (p_1.add 1) fun (x_5 : ByteArray) => ld (cInt .i64) H2 (p_1.add 2) fun (x_6 : Int) => pool_Pool_Pin.sp p x_5 x_6 H2 fun (r_1 : (Int × Int)) H3 => ld cStr H3 (p_1.add 1) fun (x_7 : ByteArray) => ld (cInt .i64) H3 (p_1.add 2) fun (x_8 : Int) => fathomref03_Pool_Pin.sp m x_7 x_8 H3 fun (r_2 : (Int × Int)) H4 => R ((r_1.1 == r_2.1) && (r_1.2 == r_2.2)) H4) (br (r == (1 : Int)) (ld cStr H2 (p_1.add 1) fun (x_9 : ByteArray) => pool_Pool_Fresh.sp p x_9 H2 fun (r_3 : (Int × Int × Int)) H5 => ld cStr H5 (p_1.add 1) fun (x_10 : ByteArray) => fathomref03_Pool_Fresh.sp m x_10 H5 fun (r_4 : (Int × Int × Int)) H6 => R (((r_3.1 == r_4.1) && (r_3.2.1 == r_4.2.1)) && (r_3.2.2 == r_4.2.2)) H6) (br (r == (2 : Int)) (ld (cInt .i64) H2 (p_1.add 3) fun (x_11 : Int) => pool_Pool_Get.sp p x_11 H2 fun (r_5 : (Int × Sl × Int)) H7 => ld (cInt .i64) H7 (p_1.add 3) fun (x_12 : Int) => fathomref03_Pool_Get.sp m x_12 H7 fun (r_6 : (Int × Sl × Int)) H8 => br ((r_5.1 == r_6.1) && (r_5.2.2 == r_6.2.2)) (b2s H8 r_5.2.1.a r_5.2.1.n fun (str : ByteArray) => b2s H8 r_6.2.1.a r_6.2.1.n fun (str_1 : ByteArray) => LoopVC Int (0 : Int) H8 fun next i H9 => br (decide (i < (r_5.2.1.n : Int))) (optK r_5.2.1.a fun a => (0 ≤ i ∧ i < (r_5.2.1.n : Int)) ∧ st H9 (a.add (i.toNat * 1)) (.int .u8 (238 : Int)) fun H10 => next (IntKind.i64.wrap (i + (1 : Int))) H10) (R (str.toList == str_1.toList) H9)) (LoopVC Int (0 : Int) H8 fun next_1 i_1 H11 => br (decide (i_1 < (r_5.2.1.n : Int))) (optK r_5.2.1.a fun a_1 => (0 ≤ i_1 ∧ i_1 < (r_5.2.1.n : Int)) ∧ st H11 (a_1.add (i_1.toNat * 1)) (.int .u8 (238 : Int)) fun H12 => next_1 (IntKind.i64.wrap (i_1 + (1 : Int))) H12) (R false H11))) (br (r == (3 : Int)) (ldA (cAgg [(cInt .i64), cStr, (cInt .i64), (cInt .i64), (cInt .u8)]) 5 H2 p_1 fun (x_13 : (Int × ByteArray × Int × Int × Int)) => fathomlaw03_Step_bytes.sp x_13.1 x_13.2.1 x_13.2.2.1 x_13.2.2.2.1 x_13.2.2.2.2 H2 fun (b : Sl) H13 => ld (cInt .i64) H13 (p_1.add 3) fun (x_14 : Int) => ld (cInt .u8) H13 (p_1.add 4) fun (x_15 : Int) => pool_Pool_Put.sp p x_14 x_15 b H13 fun (e : Int) H14 => ∃ G : Heap → Prop, G H14 ∧ ldC (cInt .i64) G (p_1.add 3) fun (x_16 : Int) => ldC (cInt .u8) G (p_1.add 4) fun (x_17 : Int) => ldA (cAgg [(cInt .i64), cStr, (cInt .i64), (cInt .i64), (cInt .u8)]) 5 H14 p_1 fun (x_18 : (Int × ByteArray × Int × Int × Int)) => fathomlaw03_Step_bytes.sp x_18.1 x_18.2.1 x_18.2.2.1 x_18.2.2.2.1 x_18.2.2.2.2 H14 fun (r_7 : Sl) H15 => G H15 ∧ fathomref03_Pool_Put.sp m x_16 x_17 r_7 H15 fun (f : Int) H16 => LoopVC Int (0 : Int) H16 fun next_2 i_2 H17 => br (decide (i_2 < (b.n : Int))) (optK b.a fun a_2 => (0 ≤ i_2 ∧ i_2 < (b.n : Int)) ∧ st H17 (a_2.add (i_2.toNat * 1)) (.int .u8 (238 : Int)) fun H18 => next_2 (IntKind.i64.wrap (i_2 + (1 : Int))) H18) (R (e == f) H17)) (br (r == (4 : Int)) (∃ G_1 : Heap → Prop, G_1 H2 ∧ ld (cInt .i64) H2 (p_1.add 3) fun (x_19 : Int) => pool_Pool_Unpin.sp p x_19 H2 fun (r_8 : Int) H19 => G_1 H19 ∧ ldC (cInt .i64) G_1 (p_1.add 3) fun (x_20 : Int) => fathomref03_Pool_Unpin.sp m x_20 H19 fun (r_9 : Int) H20 => R (r_8 == r_9) H20) (br (r == (5 : Int)) (∃ G_2 : Heap → Prop, G_2 H2 ∧ ld cStr H2 (p_1.add 1) fun (x_21 : ByteArray) => pool_Pool_Flush.sp p x_21 H2 fun (r_10 : Int) H21 => G_2 H21 ∧ ldC cStr G_2 (p_1.add 1) fun (x_22 : ByteArray) => fathomref03_Pool_Flush.sp m x_22 H21 fun (r_11 : Int) H22 => R (r_10 == r_11) H22) (br (r == (6 : Int)) (∃ G_3 : Heap → Prop, G_3 H2 ∧ ld cStr H2 (p_1.add 1) fun (x_23 : ByteArray) => pool_Pool_Drop.sp p x_23 H2 fun (r_12 : Int) H23 => G_3 H23 ∧ ldC cStr G_3 (p_1.add 1) fun (x_24 : ByteArray) => fathomref03_Pool_Drop.sp m x_24 H23 fun (r_13 : Int) H24 => R (r_12 == r_13) H24) (∃ G_4 : Heap → Prop, G_4 H2 ∧ pool_Pool_Disk.sp p H2 fun (r_14 : Option Addr) H25 => G_4 H25 ∧ ldC cStr G_4 (p_1.add 1) fun (x_25 : ByteArray) => disk_Disk_Create.sp r_14 x_25 H25 fun (r_15 : Int) H26 => G_4 H26 ∧ optK m fun a_3 => ldC cPtr G_4 (a_3.add 0) fun (x_26 : Option Addr) => ldC cStr G_4 (p_1.add 1) fun (x_27 : ByteArray) => fathomref01_Disk_Create.sp x_26 x_27 H26 fun (r_16 : Int) H27 => R (r_15 == r_16) H27)))))))

theorem fathomlaw03_plays.of {p : Option Addr} {m : Option Addr} {x_ : Int} {x_1 : ByteArray} {x_2 : Int} {x_3 : Int} {x_4 : Int} {H : Heap} {R : Bool → Heap → Prop} (hvc : fathomlaw03_plays.vc p m x_ x_1 x_2 x_3 x_4 H R) : fathomlaw03_plays.sp p m x_ x_1 x_2 x_3 x_4 H R :=
  specT_of_vc prog_ng prog_mixed (c := cBool) (A := [(15, [(24, (cInt .i64))]), (24, [(28, (cInt .i64))])]) (args := [(.pointer p), (.pointer m), (.agg #[(.int .i64 x_), (.string x_1), (.int .i64 x_2), (.int .i64 x_3), (.int .u8 x_4)])]) (Eq.mpr (by kernel_rfl : vcFT cBool Tryz.prog fathomlaw03_plays.no [(15, [(24, (cInt .i64))]), (24, [(28, (cInt .i64))])] [(.pointer p), (.pointer m), (.agg #[(.int .i64 x_), (.string x_1), (.int .i64 x_2), (.int .i64 x_3), (.int .u8 x_4)])] H R = fathomlaw03_plays.vc p m x_ x_1 x_2 x_3 x_4 H R) hvc)

/-- (*fathom/pool.Pool).Resident -/
def pool_Pool_Resident.vc (p : Option Addr) (H : Heap) (R : Int → Heap → Prop) : Prop :=
  br p.isNone (R (0 : Int) H) (optK p fun a => ld cMap H (a.add 2) fun (x : Option Nat) => lenM H x fun (n : Nat) => R (n : Int) H)

theorem pool_Pool_Resident.of {p : Option Addr} {H : Heap} {R : Int → Heap → Prop} (hvc : pool_Pool_Resident.vc p H R) : pool_Pool_Resident.sp p H R :=
  specT_of_vc prog_ng prog_mixed (c := (cInt .i64)) (A := []) (args := [(.pointer p)]) (Eq.mpr (by kernel_rfl : vcFT (cInt .i64) Tryz.prog pool_Pool_Resident.no [] [(.pointer p)] H R = pool_Pool_Resident.vc p H R) hvc)

/-- (*fathom/pool.Pool).Pinned -/
def pool_Pool_Pinned.vc (p : Option Addr) (H : Heap) (R : Int → Heap → Prop) : Prop :=
  br (!p.isNone) (optK p fun a => ld cMap H (a.add 2) fun (x : Option Nat) => doT cPtr Tryz.prog (Instr.range ty_maparr_pool_spot_ptr_pool_frame (.map x)) H fun (it : Option Addr) H1 => LoopVC Int (0 : Int) H1 fun next n H2 => doT cNext Tryz.prog (Instr.next (.pointer it) false ty_) H2 fun (nx : Bool × List Value) H3 => br nx.1 (doT cTwo Tryz.prog (Instr.entry (.pointer it)) H3 fun (en : Value × Value) H4 => asT cPtr en.2 fun (f : Option Addr) => optK f fun a_1 => ld (cInt .i64) H4 (a_1.add 5) fun (x_1 : Int) => next (IntKind.i64.wrap (n + (if (1 : Int) < x_1 then (1 : Int) else x_1))) H4) (R n H3)) (R (0 : Int) H)

theorem pool_Pool_Pinned.of {p : Option Addr} {H : Heap} {R : Int → Heap → Prop} (hvc : pool_Pool_Pinned.vc p H R) : pool_Pool_Pinned.sp p H R :=
  specT_of_vc prog_ng prog_mixed (c := (cInt .i64)) (A := [(4, [(3, (cInt .i64))])]) (args := [(.pointer p)]) (Eq.mpr (by kernel_rfl : vcFT (cInt .i64) Tryz.prog pool_Pool_Pinned.no [(4, [(3, (cInt .i64))])] [(.pointer p)] H R = pool_Pool_Pinned.vc p H R) hvc)

/-- (*fathom/fathomref03.Pool).Pinned -/
def fathomref03_Pool_Pinned.vc (p : Option Addr) (H : Heap) (R : Int → Heap → Prop) : Prop :=
  LoopVC (Int × Int) ((0 : Int), (0 : Int)) H fun next z H1 => optK p fun a => ld cSl H1 (a.add 2) fun (x : Sl) => br (decide (z.2 < (x.n : Int))) (optK p fun a_1 => ld cSl H1 (a_1.add 2) fun (x_1 : Sl) => optK x_1.a fun a_2 => (0 ≤ z.2 ∧ z.2 < (x_1.n : Int)) ∧ ld cSl H1 ((a_2.add (z.2.toNat * 7)).add 5) fun (x_2 : Sl) => br (decide ((x_2.n : Int) > (0 : Int))) (next (IntKind.i64.wrap (z.1 + (1 : Int)), IntKind.i64.wrap (z.2 + (1 : Int))) H1) (next (z.1, IntKind.i64.wrap (z.2 + (1 : Int))) H1)) (R z.1 H1)

theorem fathomref03_Pool_Pinned.of {p : Option Addr} {H : Heap} {R : Int → Heap → Prop} (hvc : fathomref03_Pool_Pinned.vc p H R) : fathomref03_Pool_Pinned.sp p H R :=
  specT_of_vc prog_ng prog_mixed (c := (cInt .i64)) (A := [(3, [(3, (cInt .i64)), (4, (cInt .i64))])]) (args := [(.pointer p)]) (Eq.mpr (by kernel_rfl : vcFT (cInt .i64) Tryz.prog fathomref03_Pool_Pinned.no [(3, [(3, (cInt .i64)), (4, (cInt .i64))])] [(.pointer p)] H R = fathomref03_Pool_Pinned.vc p H R) hvc)

/-- (*fathom/pool.Pool).Peak -/
def pool_Pool_Peak.vc (p : Option Addr) (H : Heap) (R : Int → Heap → Prop) : Prop :=
  br p.isNone (R (0 : Int) H) (optK p fun a => ld (cInt .i64) H (a.add 6) fun (x : Int) => R x H)

theorem pool_Pool_Peak.of {p : Option Addr} {H : Heap} {R : Int → Heap → Prop} (hvc : pool_Pool_Peak.vc p H R) : pool_Pool_Peak.sp p H R :=
  specT_of_vc prog_ng prog_mixed (c := (cInt .i64)) (A := []) (args := [(.pointer p)]) (Eq.mpr (by kernel_rfl : vcFT (cInt .i64) Tryz.prog pool_Pool_Peak.no [] [(.pointer p)] H R = pool_Pool_Peak.vc p H R) hvc)

/-- (*fathom/pool.Pool).Frames -/
def pool_Pool_Frames.vc (p : Option Addr) (H : Heap) (R : Int → Heap → Prop) : Prop :=
  br p.isNone (R (0 : Int) H) (optK p fun a => ld (cInt .i64) H (a.add 1) fun (x : Int) => R x H)

theorem pool_Pool_Frames.of {p : Option Addr} {H : Heap} {R : Int → Heap → Prop} (hvc : pool_Pool_Frames.vc p H R) : pool_Pool_Frames.sp p H R :=
  specT_of_vc prog_ng prog_mixed (c := (cInt .i64)) (A := []) (args := [(.pointer p)]) (Eq.mpr (by kernel_rfl : vcFT (cInt .i64) Tryz.prog pool_Pool_Frames.no [] [(.pointer p)] H R = pool_Pool_Frames.vc p H R) hvc)

/-- (*fathom/pool.Pool).Disk -/
def pool_Pool_Disk.vc (p : Option Addr) (H : Heap) (R : Option Addr → Heap → Prop) : Prop :=
  br p.isNone (R none H) (optK p fun a => ld cPtr H (a.add 0) fun (x : Option Addr) => R x H)

theorem pool_Pool_Disk.of {p : Option Addr} {H : Heap} {R : Option Addr → Heap → Prop} (hvc : pool_Pool_Disk.vc p H R) : pool_Pool_Disk.sp p H R :=
  specT_of_vc prog_ng prog_mixed (c := cPtr) (A := []) (args := [(.pointer p)]) (Eq.mpr (by kernel_rfl : vcFT cPtr Tryz.prog pool_Pool_Disk.no [] [(.pointer p)] H R = pool_Pool_Disk.vc p H R) hvc)

/-- (*fathom/disk.Disk).Ops -/
def disk_Disk_Ops.vc (d : Option Addr) (H : Heap) (R : Int → Heap → Prop) : Prop :=
  br d.isNone (R (0 : Int) H) (optK d fun a => ld (cInt .i64) H (a.add 4) fun (x : Int) => R x H)

theorem disk_Disk_Ops.of {d : Option Addr} {H : Heap} {R : Int → Heap → Prop} (hvc : disk_Disk_Ops.vc d H R) : disk_Disk_Ops.sp d H R :=
  specT_of_vc prog_ng prog_mixed (c := (cInt .i64)) (A := []) (args := [(.pointer d)]) (Eq.mpr (by kernel_rfl : vcFT (cInt .i64) Tryz.prog disk_Disk_Ops.no [] [(.pointer d)] H R = disk_Disk_Ops.vc d H R) hvc)

/-- fathom/fathomlaw03.disks -/
def fathomlaw03_disks.vc (d : Option Addr) (m : Option Addr) (H : Heap) (R : Bool → Heap → Prop) : Prop :=
  ∃ G : Heap → Prop, G H ∧ disk_Disk_Ops.sp d H fun (r : Int) H1 => G H1 ∧ optK m fun a => ldC (cInt .i64) G (a.add 3) fun (x : Int) => br (r != x) (R false H1) (disk_Disk_Down.sp d H1 fun (r_1 : Bool) H2 => G H2 ∧ optK m fun a_1 => ldC cBool G (a_1.add 8) fun (x_1 : Bool) => br (!(r_1 == x_1)) (R false H2) (disk_Disk_Restart.sp d H2 fun (_ : Unit) H3 => fathomref01_Disk_Restart.sp m H3 fun (_ : Unit) H4 => disk_Disk_List.sp d H4 fun (l : Sl) H5 => fathomref01_Disk_List.sp m H5 fun (r_4 : Sl) H6 => fathomkit_SameTexts.sp l r_4 H6 fun (r_5 : Bool) H7 => br (!r_5) (R false H7) (disk_Disk_Used.sp d H7 fun (r_6 : Int) H8 => fathomref01_Disk_Used.sp m H8 fun (r_7 : Int) H9 => br (r_6 != r_7) (R false H9) (LoopVC Int (0 : Int) H9 fun next i H10 => br (decide (i < (l.n : Int))) (optK l.a fun a_2 => (0 ≤ i ∧ i < (l.n : Int)) ∧ ld cStr H10 (a_2.add (i.toNat * 1)) fun (x_2 : ByteArray) => fathomref01_Disk_Len.sp m x_2 H10 fun (r_8 : (Int × Int)) H11 => LoopVC Int (0 : Int) H11 fun next_1 k H12 => br (decide (k ≤ r_8.1)) (optK l.a fun a_3 => (0 ≤ i ∧ i < (l.n : Int)) ∧ ld cStr H12 (a_3.add (i.toNat * 1)) fun (x_3 : ByteArray) => disk_Disk_Read.sp d x_3 k H12 fun (r_9 : (Sl × Int)) H13 => optK l.a fun a_4 => (0 ≤ i ∧ i < (l.n : Int)) ∧ ld cStr H13 (a_4.add (i.toNat * 1)) fun (x_4 : ByteArray) => fathomref01_Disk_Read.sp m x_4 k H13 fun (r_10 : (Sl × Int)) H14 => br (r_9.2 != r_10.2) (R false H14) (b2s H14 r_9.1.a r_9.1.n fun (str : ByteArray) => b2s H14 r_10.1.a r_10.1.n fun (str_1 : ByteArray) => br (!(str.toList == str_1.toList)) (R false H14) (next_1 (IntKind.i64.wrap (k + (1 : Int))) H14))) (next (IntKind.i64.wrap (i + (1 : Int))) H12)) (R true H10)))))

theorem fathomlaw03_disks.of {d : Option Addr} {m : Option Addr} {H : Heap} {R : Bool → Heap → Prop} (hvc : fathomlaw03_disks.vc d m H R) : fathomlaw03_disks.sp d m H R :=
  specT_of_vc prog_ng prog_mixed (c := cBool) (A := [(9, [(6, (cInt .i64))]), (13, [(9, (cInt .i64))])]) (args := [(.pointer d), (.pointer m)]) (Eq.mpr (by kernel_rfl : vcFT cBool Tryz.prog fathomlaw03_disks.no [(9, [(6, (cInt .i64))]), (13, [(9, (cInt .i64))])] [(.pointer d), (.pointer m)] H R = fathomlaw03_disks.vc d m H R) hvc)

/-- fathom/fathomlaw03.PoolPins -/
def fathomlaw03_PoolPins.vc (frames : Int) (H : Heap) (R : Bool → Heap → Prop) : Prop :=
  fathomkit_Pick.sp frames (20 : Int) H fun (r : Int) H1 => disk_New.sp (100 : Int) H1 fun (d : Option Addr) H2 => disk_Disk_Create.sp d (ByteArray.mk #[102]) H2 fun (_ : Int) H3 => pool_New.sp d (IntKind.i64.wrap ((8 : Int) + r)) H3 fun (r_2 : (Option Addr × Int)) H4 => br (r_2.2 != (0 : Int)) (R false H4) (LoopVC Int (0 : Int) H4 fun next i H5 => br (decide (i < (IntKind.i64.wrap ((8 : Int) + r)))) (pool_Pool_Fresh.sp r_2.1 (ByteArray.mk #[102]) H5 fun (r_3 : (Int × Int × Int)) H6 => br ((r_3.2.2 != (0 : Int)) || (r_3.2.1 != i)) (R false H6) (newC H6 #[(.int .u8 (IntKind.u8.wrap i))] ty_uint8 fun p H7 => pool_Pool_Put.sp r_2.1 r_3.1 (IntKind.u8.wrap i) (Sl.mk (some p) 1 1) H7 fun (r_4 : Int) H8 => br (r_4 != (0 : Int)) (R false H8) (next (IntKind.i64.wrap (i + (1 : Int))) H8))) (disk_Disk_Ops.sp d H5 fun (ops : Int) H9 => pool_Pool_Fresh.sp r_2.1 (ByteArray.mk #[102]) H9 fun (r_5 : (Int × Int × Int)) H10 => disk_Disk_Len.sp d (ByteArray.mk #[102]) H10 fun (r_6 : (Int × Int)) H11 => br ((r_5.2.2 != (31 : Int)) || (r_6.1 != (IntKind.i64.wrap ((8 : Int) + r)))) (R false H11) (disk_Disk_Ops.sp d H11 fun (r_7 : Int) H12 => br (r_7 != ops) (R false H12) (pool_Pool_Resident.sp r_2.1 H12 fun (r_8 : Int) H13 => br (r_8 != (IntKind.i64.wrap ((8 : Int) + r))) (R false H13) (pool_Pool_Pinned.sp r_2.1 H13 fun (r_9 : Int) H14 => br (r_9 != (IntKind.i64.wrap ((8 : Int) + r))) (R false H14) (pool_Pool_Unpin.sp r_2.1 (3 : Int) H14 fun (r_10 : Int) H15 => br (r_10 != (0 : Int)) (R false H15) (pool_Pool_Fresh.sp r_2.1 (ByteArray.mk #[102]) H15 fun (r_11 : (Int × Int × Int)) H16 => pool_Pool_Pin.sp r_2.1 (ByteArray.mk #[102]) (2 : Int) H16 fun (r_12 : (Int × Int)) H17 => br (((r_11.2.2 != (0 : Int)) || (r_11.2.1 != (IntKind.i64.wrap ((8 : Int) + r)))) || (r_12.2 != (31 : Int))) (R false H17) (pool_Pool_Unpin.sp r_2.1 r_11.1 H17 fun (r_13 : Int) H18 => br (r_13 != (0 : Int)) (R false H18) (pool_Pool_Pin.sp r_2.1 (ByteArray.mk #[102]) (2 : Int) H18 fun (r_14 : (Int × Int)) H19 => pool_Pool_Get.sp r_2.1 r_14.1 H19 fun (r_15 : (Int × Sl × Int)) H20 => LoopVC Int (1 : Int) H20 fun next_1 x H21 => br (decide (x ≤ (IntKind.i64.wrap ((8 : Int) + r)))) (pool_Pool_Get.sp r_2.1 x H21 fun (r_16 : (Int × Sl × Int)) H22 => br ((x != (3 : Int)) && (((r_16.2.2 != (0 : Int)) || (r_16.1 != (IntKind.u8.wrap (IntKind.i64.wrap (x - (1 : Int)))))) || ((r_16.2.1.n : Int) != (1 : Int)))) (R false H22) (next_1 (IntKind.i64.wrap (x + (1 : Int))) H22)) (br ((((r_14.2 == (0 : Int)) && (r_15.2.2 == (0 : Int))) && (r_15.1 == (2 : Int))) && ((r_15.2.1.n : Int) == (1 : Int))) (optK r_15.2.1.a fun a => (0 ≤ (0 : Int) ∧ (0 : Int) < (r_15.2.1.n : Int)) ∧ ld (cInt .u8) H21 (a.add ((0 : Int).toNat * 1)) fun (x_1 : Int) => br (x_1 == (2 : Int)) (pool_Pool_Drop.sp r_2.1 (ByteArray.mk #[102]) H21 fun (r_17 : Int) H23 => br (r_17 == (31 : Int)) (fathomlaw03_works.sp H23 fun (r_18 : Bool) H24 => R r_18 H24) (R false H23)) (R false H21)) (R false H21)))))))))))

theorem fathomlaw03_PoolPins.of {frames : Int} {H : Heap} {R : Bool → Heap → Prop} (hvc : fathomlaw03_PoolPins.vc frames H R) : fathomlaw03_PoolPins.sp frames H R :=
  specT_of_vc prog_ng prog_mixed (c := cBool) (A := [(8, [(6, (cInt .i64))]), (27, [(26, (cInt .i64))])]) (args := [(.int .i64 frames)]) (Eq.mpr (by kernel_rfl : vcFT cBool Tryz.prog fathomlaw03_PoolPins.no [(8, [(6, (cInt .i64))]), (27, [(26, (cInt .i64))])] [(.int .i64 frames)] H R = fathomlaw03_PoolPins.vc frames H R) hvc)

/-- fathom/fathomlaw03.PoolNone -/
def fathomlaw03_PoolNone.vc (x_ : Int) (x_1 : ByteArray) (x_2 : Int) (x_3 : Int) (x_4 : Int) (frames : Int) (H : Heap) (R : Bool → Heap → Prop) : Prop :=
  newC H #[(.int .i64 x_), (.string x_1), (.int .i64 x_2), (.int .i64 x_3), (.int .u8 x_4)] ty_fathomlaw03_Step fun p H1 => ld cStr H1 (p.add 1) fun (x : ByteArray) => ld (cInt .i64) H1 (p.add 2) fun (x_5 : Int) => pool_Pool_Pin.sp none x x_5 H1 fun (r : (Int × Int)) H2 => ld cStr H2 (p.add 1) fun (x_6 : ByteArray) => pool_Pool_Fresh.sp none x_6 H2 fun (r_1 : (Int × Int × Int)) H3 => ld (cInt .i64) H3 (p.add 3) fun (x_7 : Int) => pool_Pool_Get.sp none x_7 H3 fun (r_2 : (Int × Sl × Int)) H4 => pool_New.sp none frames H4 fun (r_3 : (Option Addr × Int)) H5 => br (((((r.1 == (0 : Int)) && (r_1.1 == (0 : Int))) && (r_1.2.1 == (0 : Int))) && (r_2.1 == (0 : Int))) && ((r_2.2.1.n : Int) == (0 : Int))) (br r_3.1.isNone (pool_Pool_Resident.sp none H5 fun (r_4 : Int) H6 => br (r_4 == (0 : Int)) (pool_Pool_Pinned.sp none H6 fun (r_5 : Int) H7 => br (r_5 == (0 : Int)) (pool_Pool_Peak.sp none H7 fun (r_6 : Int) H8 => br (r_6 == (0 : Int)) (pool_Pool_Frames.sp none H8 fun (r_7 : Int) H9 => br (r_7 == (0 : Int)) (pool_Pool_Disk.sp none H9 fun (r_8 : Option Addr) H10 => ∃ G : Heap → Prop, G H10 ∧ br ((((r_8.isNone && (r.2 == (1 : Int))) && (r_1.2.2 == r.2)) && (r_2.2.2 == r.2)) && (r_3.2 == r.2)) (ldC (cInt .i64) G (p.add 3) fun (x_8 : Int) => ldC (cInt .u8) G (p.add 4) fun (x_9 : Int) => ldA (cAgg [(cInt .i64), cStr, (cInt .i64), (cInt .i64), (cInt .u8)]) 5 H10 p fun (x_10 : (Int × ByteArray × Int × Int × Int)) => fathomlaw03_Step_bytes.sp x_10.1 x_10.2.1 x_10.2.2.1 x_10.2.2.2.1 x_10.2.2.2.2 H10 fun (r_9 : Sl) H11 => G H11 ∧ pool_Pool_Put.sp none x_8 x_9 r_9 H11 fun (r_10 : Int) H12 => br (r_10 == r.2) (ld (cInt .i64) H12 (p.add 3) fun (x_11 : Int) => pool_Pool_Unpin.sp none x_11 H12 fun (r_11 : Int) H13 => br (r_11 == r.2) (ld cStr H13 (p.add 1) fun (x_12 : ByteArray) => pool_Pool_Flush.sp none x_12 H13 fun (r_12 : Int) H14 => br (r_12 == r.2) (ld cStr H14 (p.add 1) fun (x_13 : ByteArray) => pool_Pool_Drop.sp none x_13 H14 fun (r_13 : Int) H15 => br (r_13 == r.2) (fathomlaw03_works.sp H15 fun (r_14 : Bool) H16 => R r_14 H16) (R false H15)) (R false H14)) (R false H13)) (R false H12)) (R false H10)) (∃ G_1 : Heap → Prop, G_1 H9 ∧ R false H9)) (∃ G_2 : Heap → Prop, G_2 H8 ∧ R false H8)) (∃ G_3 : Heap → Prop, G_3 H7 ∧ R false H7)) (∃ G_4 : Heap → Prop, G_4 H6 ∧ R false H6)) (∃ G_5 : Heap → Prop, G_5 H5 ∧ R false H5)) (∃ G_6 : Heap → Prop, G_6 H5 ∧ R false H5)

theorem fathomlaw03_PoolNone.of {x_ : Int} {x_1 : ByteArray} {x_2 : Int} {x_3 : Int} {x_4 : Int} {frames : Int} {H : Heap} {R : Bool → Heap → Prop} (hvc : fathomlaw03_PoolNone.vc x_ x_1 x_2 x_3 x_4 frames H R) : fathomlaw03_PoolNone.sp x_ x_1 x_2 x_3 x_4 frames H R :=
  specT_of_vc prog_ng prog_mixed (c := cBool) (A := []) (args := [(.agg #[(.int .i64 x_), (.string x_1), (.int .i64 x_2), (.int .i64 x_3), (.int .u8 x_4)]), (.int .i64 frames)]) (Eq.mpr (by kernel_rfl : vcFT cBool Tryz.prog fathomlaw03_PoolNone.no [] [(.agg #[(.int .i64 x_), (.string x_1), (.int .i64 x_2), (.int .i64 x_3), (.int .u8 x_4)]), (.int .i64 frames)] H R = fathomlaw03_PoolNone.vc x_ x_1 x_2 x_3 x_4 frames H R) hvc)

/-- fathom/fathomlaw03.torn -/
def fathomlaw03_torn.vc  (H : Heap) (R : Bool → Heap → Prop) : Prop :=
  disk_New.sp (9 : Int) H fun (d : Option Addr) H1 => disk_Disk_Create.sp d (ByteArray.mk #[102]) H1 fun (_ : Int) H2 => doT cSl Tryz.prog (Instr.makeSlice ty_sl_uint8 (.int .i64 (512 : Int)) (.int .i64 (512 : Int))) H2 fun (sl : Sl) H3 => disk_Disk_Write.sp d (ByteArray.mk #[102]) (0 : Int) sl H3 fun (_ : Int) H4 => newC H4 #[(.int .u8 (1 : Int))] ty_uint8 fun p H5 => page_Seal.sp (1 : Int) (Sl.mk (some p) 1 1) H5 fun (r_2 : (Sl × Int)) H6 => disk_Disk_Write.sp d (ByteArray.mk #[102]) (1 : Int) r_2.1 H6 fun (_ : Int) H7 => pool_New.sp d (8 : Int) H7 fun (r_4 : (Option Addr × Int)) H8 => pool_Pool_Pin.sp r_4.1 (ByteArray.mk #[102]) (1 : Int) H8 fun (r_5 : (Int × Int)) H9 => pool_Pool_Pin.sp r_4.1 (ByteArray.mk #[102]) (0 : Int) H9 fun (r_6 : (Int × Int)) H10 => pool_Pool_Get.sp r_4.1 r_5.1 H10 fun (r_7 : (Int × Sl × Int)) H11 => br ((((r_5.1 == (1 : Int)) && (r_5.2 == (0 : Int))) && (r_6.2 == (20 : Int))) && (r_7.2.2 == (20 : Int))) (pool_Pool_Flush.sp r_4.1 (ByteArray.mk #[102]) H11 fun (r_8 : Int) H12 => br (r_8 == (20 : Int)) (pool_Pool_Unpin.sp r_4.1 (1 : Int) H12 fun (r_9 : Int) H13 => br (r_9 == (20 : Int)) (pool_Pool_Resident.sp r_4.1 H13 fun (r_10 : Int) H14 => R (r_10 == (1 : Int)) H14) (R false H13)) (R false H12)) (R false H11)

theorem fathomlaw03_torn.of {H : Heap} {R : Bool → Heap → Prop} (hvc : fathomlaw03_torn.vc H R) : fathomlaw03_torn.sp H R :=
  specT_of_vc prog_ng prog_mixed (c := cBool) (A := []) (args := []) (Eq.mpr (by kernel_rfl : vcFT cBool Tryz.prog fathomlaw03_torn.no [] [] H R = fathomlaw03_torn.vc H R) hvc)

/-- (*fathom/disk.Disk).ready -/
def disk_Disk_ready.vc (d : Option Addr) (H : Heap) (R : Int → Heap → Prop) : Prop :=
  br d.isNone (R (1 : Int) H) (optK d fun a => ld cBool H (a.add 9) fun (x : Bool) => br x (R (4 : Int) H) (R (0 : Int) H))

theorem disk_Disk_ready.of {d : Option Addr} {H : Heap} {R : Int → Heap → Prop} (hvc : disk_Disk_ready.vc d H R) : disk_Disk_ready.sp d H R :=
  specT_of_vc prog_ng prog_mixed (c := (cInt .i64)) (A := []) (args := [(.pointer d)]) (Eq.mpr (by kernel_rfl : vcFT (cInt .i64) Tryz.prog disk_Disk_ready.no [] [(.pointer d)] H R = disk_Disk_ready.vc d H R) hvc)

/-- (*fathom/disk.Disk).Create -/
def disk_Disk_Create.vc (d : Option Addr) (name : ByteArray) (H : Heap) (R : Int → Heap → Prop) : Prop :=
  disk_Disk_ready.sp d H fun (e : Int) H1 => br (e != (0 : Int)) (R e H1) (optK d fun a => ld cMap H1 (a.add 0) fun (x : Option Nat) => rdV (cTup [cPtr, cBool]) Tryz.prog (Instr.lookup ty_maparr_string_ptr_disk_file (.map x) (.string name) true) H1 fun (x_1 : (Option Addr × Bool)) => disk_named.sp name H1 fun (r : Bool) H2 => br (!r) (R (2 : Int) H2) (br x_1.2 (R (10 : Int) H2) (optK d fun a_1 => ld cMap H2 (a_1.add 0) fun (x_2 : Option Nat) => lenM H2 x_2 fun (n : Nat) => br ((n : Int) == (4096 : Int)) (R (3 : Int) H2) (disk_Disk_change.sp d H2 fun (e_1 : Int) H3 => br (e_1 == (0 : Int)) (optK d fun a_2 => ld cMap H3 (a_2.add 0) fun (x_3 : Option Nat) => newC H3 #[(.slice none 0 0), (.slice none 0 0), (.slice none 0 0)] ty_disk_file fun p H4 => doU Tryz.prog (Instr.mapUpdate ty_maparr_string_ptr_disk_file (.map x_3) (.string name) (.pointer (some p))) H4 fun H5 => R e_1 H5) (R e_1 H3)))))

theorem disk_Disk_Create.of {d : Option Addr} {name : ByteArray} {H : Heap} {R : Int → Heap → Prop} (hvc : disk_Disk_Create.vc d name H R) : disk_Disk_Create.sp d name H R :=
  specT_of_vc prog_ng prog_mixed (c := (cInt .i64)) (A := []) (args := [(.pointer d), (.string name)]) (Eq.mpr (by kernel_rfl : vcFT (cInt .i64) Tryz.prog disk_Disk_Create.no [] [(.pointer d), (.string name)] H R = disk_Disk_Create.vc d name H R) hvc)

/-- (*fathom/pool.Pool).Fresh -/
def pool_Pool_Fresh.vc (p : Option Addr) (name : ByteArray) (H : Heap) (R : (Int × Int × Int) → Heap → Prop) : Prop :=
  pool_Pool_ready.sp p H fun (e : Int) H1 => br (e != (0 : Int)) (R ((0 : Int), (0 : Int), e) H1) (optK p fun a => ld cPtr H1 (a.add 0) fun (x : Option Addr) => disk_Disk_Len.sp x name H1 fun (r : (Int × Int)) H2 => br (r.2 == (0 : Int)) (pool_Pool_room.sp p H2 fun (e_1 : Int) H3 => newC H3 #[(.string name), (.int .i64 r.1), (.int .u8 (0 : Int)), (.slice none 0 0), (.bool false), (.int .i64 (0 : Int)), (.int .i64 (0 : Int))] ty_pool_frame fun f_p H4 => br (e_1 == (0 : Int)) (pool_Pool_write.sp p (some f_p) H4 fun (e_2 : Int) H5 => br (e_2 != (0 : Int)) (pool_Pool_met.sp p e_2 H5 fun (r_1 : Int) H6 => R ((0 : Int), (0 : Int), r_1) H6) (pool_Pool_take.sp p (some f_p) H5 fun (r_2 : Int) H7 => R (r_2, r.1, (0 : Int)) H7)) (br (e_1 != (0 : Int)) (pool_Pool_met.sp p e_1 H4 fun (r_3 : Int) H8 => R ((0 : Int), (0 : Int), r_3) H8) (pool_Pool_take.sp p (some f_p) H4 fun (r_4 : Int) H9 => R (r_4, r.1, (0 : Int)) H9))) (newC H2 #[(.string name), (.int .i64 r.1), (.int .u8 (0 : Int)), (.slice none 0 0), (.bool false), (.int .i64 (0 : Int)), (.int .i64 (0 : Int))] ty_pool_frame fun f_p_1 H10 => br (r.2 == (0 : Int)) (pool_Pool_write.sp p (some f_p_1) H10 fun (e_3 : Int) H11 => br (e_3 != (0 : Int)) (pool_Pool_met.sp p e_3 H11 fun (r_5 : Int) H12 => R ((0 : Int), (0 : Int), r_5) H12) (pool_Pool_take.sp p (some f_p_1) H11 fun (r_6 : Int) H13 => R (r_6, r.1, (0 : Int)) H13)) (br (r.2 != (0 : Int)) (pool_Pool_met.sp p r.2 H10 fun (r_7 : Int) H14 => R ((0 : Int), (0 : Int), r_7) H14) (pool_Pool_take.sp p (some f_p_1) H10 fun (r_8 : Int) H15 => R (r_8, r.1, (0 : Int)) H15))))

theorem pool_Pool_Fresh.of {p : Option Addr} {name : ByteArray} {H : Heap} {R : (Int × Int × Int) → Heap → Prop} (hvc : pool_Pool_Fresh.vc p name H R) : pool_Pool_Fresh.sp p name H R :=
  specT_of_vc prog_ng prog_mixed (c := (cTup [(cInt .i64), (cInt .i64), (cInt .i64)])) (A := []) (args := [(.pointer p), (.string name)]) (Eq.mpr (by kernel_rfl : vcFT (cTup [(cInt .i64), (cInt .i64), (cInt .i64)]) Tryz.prog pool_Pool_Fresh.no [] [(.pointer p), (.string name)] H R = pool_Pool_Fresh.vc p name H R) hvc)

/-- (*fathom/pool.Pool).Put -/
def pool_Pool_Put.vc (p : Option Addr) (h : Int) (kind : Int) (b : Sl) (H : Heap) (R : Int → Heap → Prop) : Prop :=
  pool_Pool_held.sp p h H fun (r : (Option Addr × Int)) H1 => br (r.2 != (0 : Int)) (R r.2 H1) (br (decide ((b.n : Int) > (504 : Int))) (R (2 : Int) H1) (slices_Clone_sl_byte_byte.sp b H1 fun (r_1 : Sl) H2 => optK r.1 fun a => st H2 (a.add 2) (.int .u8 kind) fun H3 => optK r.1 fun a_1 => st H3 (a_1.add 3) r_1.v fun H4 => optK r.1 fun a_2 => st H4 (a_2.add 4) (.bool true) fun H5 => R (0 : Int) H5))

theorem pool_Pool_Put.of {p : Option Addr} {h : Int} {kind : Int} {b : Sl} {H : Heap} {R : Int → Heap → Prop} (hvc : pool_Pool_Put.vc p h kind b H R) : pool_Pool_Put.sp p h kind b H R :=
  specT_of_vc prog_ng prog_mixed (c := (cInt .i64)) (A := []) (args := [(.pointer p), (.int .i64 h), (.int .u8 kind), b.v]) (Eq.mpr (by kernel_rfl : vcFT (cInt .i64) Tryz.prog pool_Pool_Put.no [] [(.pointer p), (.int .i64 h), (.int .u8 kind), b.v] H R = pool_Pool_Put.vc p h kind b H R) hvc)

/-- (*fathom/pool.Pool).Unpin -/
def pool_Pool_Unpin.vc (p : Option Addr) (h : Int) (H : Heap) (R : Int → Heap → Prop) : Prop :=
  pool_Pool_held.sp p h H fun (r : (Option Addr × Int)) H1 => br (r.2 != (0 : Int)) (R r.2 H1) (optK p fun a => ld cMap H1 (a.add 3) fun (x : Option Nat) => doT cRaw Tryz.prog (Builtin.delete_ #[ty_maparr_int_ptr_pool_frame, ty_int] ty_ #[(.map x), (.int .i64 h)]) H1 fun (_ : Value) H2 => optK p fun a_1 => ld (cInt .i64) H2 (a_1.add 5) fun (x_1 : Int) => optK p fun a_2 => st H2 (a_2.add 5) (.int .i64 (IntKind.i64.wrap (x_1 + (1 : Int)))) fun H3 => optK r.1 fun a_3 => ld (cInt .i64) H3 (a_3.add 5) fun (x_2 : Int) => optK p fun a_4 => ld (cInt .i64) H3 (a_4.add 5) fun (x_3 : Int) => optK r.1 fun a_5 => st H3 (a_5.add 5) (.int .i64 (IntKind.i64.wrap (x_2 - (1 : Int)))) fun H4 => optK r.1 fun a_6 => st H4 (a_6.add 6) (.int .i64 x_3) fun H5 => R (0 : Int) H5)

theorem pool_Pool_Unpin.of {p : Option Addr} {h : Int} {H : Heap} {R : Int → Heap → Prop} (hvc : pool_Pool_Unpin.vc p h H R) : pool_Pool_Unpin.sp p h H R :=
  specT_of_vc prog_ng prog_mixed (c := (cInt .i64)) (A := []) (args := [(.pointer p), (.int .i64 h)]) (Eq.mpr (by kernel_rfl : vcFT (cInt .i64) Tryz.prog pool_Pool_Unpin.no [] [(.pointer p), (.int .i64 h)] H R = pool_Pool_Unpin.vc p h H R) hvc)

/-- (*fathom/pool.Pool).Flush -/
def pool_Pool_Flush.vc (p : Option Addr) (name : ByteArray) (H : Heap) (R : Int → Heap → Prop) : Prop :=
  pool_Pool_ready.sp p H fun (e : Int) H1 => br (e != (0 : Int)) (R e H1) (optK p fun a => ld cPtr H1 (a.add 0) fun (x : Option Addr) => disk_Disk_Len.sp x name H1 fun (r : (Int × Int)) H2 => br (r.2 != (0 : Int)) (pool_Pool_met.sp p r.2 H2 fun (r_1 : Int) H3 => R r_1 H3) (pool_Pool_of.sp p name H2 fun (r_2 : Sl) H4 => LoopVC Int (0 : Int) H4 fun next z H5 => br (decide (z < (r_2.n : Int))) (optK r_2.a fun a_1 => (0 ≤ z ∧ z < (r_2.n : Int)) ∧ ld cPtr H5 (a_1.add (z.toNat * 1)) fun (f : Option Addr) => optK f fun a_2 => ld cBool H5 (a_2.add 4) fun (x_1 : Bool) => br (!x_1) (next (IntKind.i64.wrap (z + (1 : Int))) H5) (pool_Pool_write.sp p f H5 fun (e_1 : Int) H6 => br (e_1 != (0 : Int)) (pool_Pool_met.sp p e_1 H6 fun (r_3 : Int) H7 => R r_3 H7) (next (IntKind.i64.wrap (z + (1 : Int))) H6))) (optK p fun a_3 => ld cPtr H5 (a_3.add 0) fun (x_2 : Option Addr) => disk_Disk_Sync.sp x_2 name H5 fun (r_4 : Int) H8 => pool_Pool_met.sp p r_4 H8 fun (r_5 : Int) H9 => R r_5 H9)))

theorem pool_Pool_Flush.of {p : Option Addr} {name : ByteArray} {H : Heap} {R : Int → Heap → Prop} (hvc : pool_Pool_Flush.vc p name H R) : pool_Pool_Flush.sp p name H R :=
  specT_of_vc prog_ng prog_mixed (c := (cInt .i64)) (A := [(8, [(34, (cInt .i64))])]) (args := [(.pointer p), (.string name)]) (Eq.mpr (by kernel_rfl : vcFT (cInt .i64) Tryz.prog pool_Pool_Flush.no [(8, [(34, (cInt .i64))])] [(.pointer p), (.string name)] H R = pool_Pool_Flush.vc p name H R) hvc)

/-- (*fathom/pool.Pool).Pin -/
def pool_Pool_Pin.vc (p : Option Addr) (name : ByteArray) (page : Int) (H : Heap) (R : (Int × Int) → Heap → Prop) : Prop :=
  pool_Pool_ready.sp p H fun (e : Int) H1 => br (e != (0 : Int)) (R ((0 : Int), e) H1) (newC H1 (zc Tryz.prog ty_pool_spot) ty_pool_spot fun p_1 H2 => doU Tryz.prog (Instr.storeAt ty_pool_spot (.pointer (some p_1)) (.agg #[(.string name), (.int .i64 page)])) H2 fun H3 => optK p fun a => ld cMap H3 (a.add 2) fun (x : Option Nat) => ldA (cAgg [cStr, (cInt .i64)]) 2 H3 p_1 fun (x_1 : (ByteArray × Int)) => rdV (cTup [cPtr, cBool]) Tryz.prog (Instr.lookup ty_maparr_pool_spot_ptr_pool_frame (.map x) (.agg #[(.string x_1.1), (.int .i64 x_1.2)]) true) H3 fun (x_2 : (Option Addr × Bool)) => br x_2.2 (pool_Pool_pin.sp p x_2.1 H3 fun (r : Int) H4 => R (r, (0 : Int)) H4) (ldA (cAgg [cStr, (cInt .i64)]) 2 H3 p_1 fun (x_3 : (ByteArray × Int)) => pool_Pool_load.sp p x_3.1 x_3.2 H3 fun (r_1 : (Option Addr × Int)) H5 => br (r_1.2 != (0 : Int)) (pool_Pool_met.sp p r_1.2 H5 fun (r_2 : Int) H6 => R ((0 : Int), r_2) H6) (pool_Pool_take.sp p r_1.1 H5 fun (r_3 : Int) H7 => R (r_3, (0 : Int)) H7)))

theorem pool_Pool_Pin.of {p : Option Addr} {name : ByteArray} {page : Int} {H : Heap} {R : (Int × Int) → Heap → Prop} (hvc : pool_Pool_Pin.vc p name page H R) : pool_Pool_Pin.sp p name page H R :=
  specT_of_vc prog_ng prog_mixed (c := (cTup [(cInt .i64), (cInt .i64)])) (A := []) (args := [(.pointer p), (.string name), (.int .i64 page)]) (Eq.mpr (by kernel_rfl : vcFT (cTup [(cInt .i64), (cInt .i64)]) Tryz.prog pool_Pool_Pin.no [] [(.pointer p), (.string name), (.int .i64 page)] H R = pool_Pool_Pin.vc p name page H R) hvc)

/-- (*fathom/pool.Pool).Get -/
def pool_Pool_Get.vc (p : Option Addr) (h : Int) (H : Heap) (R : (Int × Sl × Int) → Heap → Prop) : Prop :=
  pool_Pool_held.sp p h H fun (r : (Option Addr × Int)) H1 => br (r.2 != (0 : Int)) (R ((0 : Int), (Sl.mk none 0 0), r.2) H1) (∃ G : Heap → Prop, G H1 ∧ optK r.1 fun a => ldC (cInt .u8) G (a.add 2) fun (x : Int) => optK r.1 fun a_1 => ld cSl H1 (a_1.add 3) fun (x_1 : Sl) => slices_Clone_sl_byte_byte.sp x_1 H1 fun (r_1 : Sl) H2 => G H2 ∧ R (x, r_1, (0 : Int)) H2)

theorem pool_Pool_Get.of {p : Option Addr} {h : Int} {H : Heap} {R : (Int × Sl × Int) → Heap → Prop} (hvc : pool_Pool_Get.vc p h H R) : pool_Pool_Get.sp p h H R :=
  specT_of_vc prog_ng prog_mixed (c := (cTup [(cInt .u8), cSl, (cInt .i64)])) (A := []) (args := [(.pointer p), (.int .i64 h)]) (Eq.mpr (by kernel_rfl : vcFT (cTup [(cInt .u8), cSl, (cInt .i64)]) Tryz.prog pool_Pool_Get.no [] [(.pointer p), (.int .i64 h)] H R = pool_Pool_Get.vc p h H R) hvc)

/-- fathom/fathomkit.Pick -/
def fathomkit_Pick.vc (i : Int) (n : Int) (H : Heap) (R : Int → Heap → Prop) : Prop :=
  br (decide (n < (1 : Int))) (R (0 : Int) H) (n ≠ 0 ∧ br (decide ((Int.tmod i n) < (0 : Int))) (R (IntKind.i64.wrap ((Int.tmod i n) + n)) H) (R (Int.tmod i n) H))

theorem fathomkit_Pick.of {i : Int} {n : Int} {H : Heap} {R : Int → Heap → Prop} (hvc : fathomkit_Pick.vc i n H R) : fathomkit_Pick.sp i n H R :=
  specT_of_vc prog_ng prog_mixed (c := (cInt .i64)) (A := []) (args := [(.int .i64 i), (.int .i64 n)]) (Eq.mpr (by kernel_rfl : vcFT (cInt .i64) Tryz.prog fathomkit_Pick.no [] [(.int .i64 i), (.int .i64 n)] H R = fathomkit_Pick.vc i n H R) hvc)

/-- (*fathom/fathomref03.Pool).Pin -/
def fathomref03_Pool_Pin.vc (p : Option Addr) (name : ByteArray) (page : Int) (H : Heap) (R : (Int × Int) → Heap → Prop) : Prop :=
  optK p fun a => ld (cInt .i64) H (a.add 6) fun (x : Int) => br (x != (0 : Int)) (optK p fun a_1 => ld (cInt .i64) H (a_1.add 6) fun (x_1 : Int) => R ((0 : Int), x_1) H) (fathomref03_Pool_find.sp p name page H fun (i : Int) H1 => br (decide (i ≥ (0 : Int))) (fathomref03_Pool_pin.sp p i H1 fun (r : Int) H2 => R (r, (0 : Int)) H2) (optK p fun a_2 => ld cPtr H1 (a_2.add 0) fun (x_2 : Option Addr) => fathomref01_Disk_Len.sp x_2 name H1 fun (r_1 : (Int × Int)) H3 => br ((r_1.2 == (0 : Int)) && ((decide (page < (0 : Int))) || (decide (page ≥ r_1.1)))) (br ((12 : Int) == (0 : Int)) (fathomref03_Pool_room.sp p H3 fun (e : Int) H4 => br (e != (0 : Int)) (fathomref03_Pool_met.sp p e H4 fun (r_2 : Int) H5 => R ((0 : Int), r_2) H5) (optK p fun a_3 => ld cPtr H4 (a_3.add 0) fun (x_3 : Option Addr) => fathomref01_Disk_Read.sp x_3 name page H4 fun (r_3 : (Sl × Int)) H6 => br (r_3.2 != (0 : Int)) (fathomref03_Pool_met.sp p r_3.2 H6 fun (r_4 : Int) H7 => R ((0 : Int), r_4) H7) (fathomref02_Open.sp r_3.1 H6 fun (r_5 : (Int × Sl × Int)) H8 => br (r_5.2.2 != (0 : Int)) (fathomref03_Pool_met.sp p r_5.2.2 H8 fun (r_6 : Int) H9 => R ((0 : Int), r_6) H9) (b2s H8 r_5.2.1.a r_5.2.1.n fun (str : ByteArray) => fathomref03_Pool_take.sp p name page r_5.1 str false (Sl.mk none 0 0) (0 : Int) H8 fun (r_7 : Int) H10 => R (r_7, (0 : Int)) H10)))) (br ((12 : Int) != (0 : Int)) (fathomref03_Pool_met.sp p (12 : Int) H3 fun (r_8 : Int) H11 => R ((0 : Int), r_8) H11) (optK p fun a_4 => ld cPtr H3 (a_4.add 0) fun (x_4 : Option Addr) => fathomref01_Disk_Read.sp x_4 name page H3 fun (r_9 : (Sl × Int)) H12 => br (r_9.2 != (0 : Int)) (fathomref03_Pool_met.sp p r_9.2 H12 fun (r_10 : Int) H13 => R ((0 : Int), r_10) H13) (fathomref02_Open.sp r_9.1 H12 fun (r_11 : (Int × Sl × Int)) H14 => br (r_11.2.2 != (0 : Int)) (fathomref03_Pool_met.sp p r_11.2.2 H14 fun (r_12 : Int) H15 => R ((0 : Int), r_12) H15) (b2s H14 r_11.2.1.a r_11.2.1.n fun (str_1 : ByteArray) => fathomref03_Pool_take.sp p name page r_11.1 str_1 false (Sl.mk none 0 0) (0 : Int) H14 fun (r_13 : Int) H16 => R (r_13, (0 : Int)) H16))))) (br (r_1.2 == (0 : Int)) (fathomref03_Pool_room.sp p H3 fun (e_1 : Int) H17 => br (e_1 != (0 : Int)) (fathomref03_Pool_met.sp p e_1 H17 fun (r_14 : Int) H18 => R ((0 : Int), r_14) H18) (optK p fun a_5 => ld cPtr H17 (a_5.add 0) fun (x_5 : Option Addr) => fathomref01_Disk_Read.sp x_5 name page H17 fun (r_15 : (Sl × Int)) H19 => br (r_15.2 != (0 : Int)) (fathomref03_Pool_met.sp p r_15.2 H19 fun (r_16 : Int) H20 => R ((0 : Int), r_16) H20) (fathomref02_Open.sp r_15.1 H19 fun (r_17 : (Int × Sl × Int)) H21 => br (r_17.2.2 != (0 : Int)) (fathomref03_Pool_met.sp p r_17.2.2 H21 fun (r_18 : Int) H22 => R ((0 : Int), r_18) H22) (b2s H21 r_17.2.1.a r_17.2.1.n fun (str_2 : ByteArray) => fathomref03_Pool_take.sp p name page r_17.1 str_2 false (Sl.mk none 0 0) (0 : Int) H21 fun (r_19 : Int) H23 => R (r_19, (0 : Int)) H23)))) (br (r_1.2 != (0 : Int)) (fathomref03_Pool_met.sp p r_1.2 H3 fun (r_20 : Int) H24 => R ((0 : Int), r_20) H24) (optK p fun a_6 => ld cPtr H3 (a_6.add 0) fun (x_6 : Option Addr) => fathomref01_Disk_Read.sp x_6 name page H3 fun (r_21 : (Sl × Int)) H25 => br (r_21.2 != (0 : Int)) (fathomref03_Pool_met.sp p r_21.2 H25 fun (r_22 : Int) H26 => R ((0 : Int), r_22) H26) (fathomref02_Open.sp r_21.1 H25 fun (r_23 : (Int × Sl × Int)) H27 => br (r_23.2.2 != (0 : Int)) (fathomref03_Pool_met.sp p r_23.2.2 H27 fun (r_24 : Int) H28 => R ((0 : Int), r_24) H28) (b2s H27 r_23.2.1.a r_23.2.1.n fun (str_3 : ByteArray) => fathomref03_Pool_take.sp p name page r_23.1 str_3 false (Sl.mk none 0 0) (0 : Int) H27 fun (r_25 : Int) H29 => R (r_25, (0 : Int)) H29)))))))

theorem fathomref03_Pool_Pin.of {p : Option Addr} {name : ByteArray} {page : Int} {H : Heap} {R : (Int × Int) → Heap → Prop} (hvc : fathomref03_Pool_Pin.vc p name page H R) : fathomref03_Pool_Pin.sp p name page H R :=
  specT_of_vc prog_ng prog_mixed (c := (cTup [(cInt .i64), (cInt .i64)])) (A := []) (args := [(.pointer p), (.string name), (.int .i64 page)]) (Eq.mpr (by kernel_rfl : vcFT (cTup [(cInt .i64), (cInt .i64)]) Tryz.prog fathomref03_Pool_Pin.no [] [(.pointer p), (.string name), (.int .i64 page)] H R = fathomref03_Pool_Pin.vc p name page H R) hvc)

/-- (*fathom/fathomref03.Pool).Fresh -/
def fathomref03_Pool_Fresh.vc (p : Option Addr) (name : ByteArray) (H : Heap) (R : (Int × Int × Int) → Heap → Prop) : Prop :=
  optK p fun a => ld (cInt .i64) H (a.add 6) fun (x : Int) => br (x != (0 : Int)) (optK p fun a_1 => ld (cInt .i64) H (a_1.add 6) fun (x_1 : Int) => R ((0 : Int), (0 : Int), x_1) H) (optK p fun a_2 => ld cPtr H (a_2.add 0) fun (x_2 : Option Addr) => fathomref01_Disk_Len.sp x_2 name H fun (r : (Int × Int)) H1 => br (r.2 == (0 : Int)) (fathomref03_Pool_room.sp p H1 fun (e : Int) H2 => br (e != (0 : Int)) (fathomref03_Pool_met.sp p e H2 fun (r_1 : Int) H3 => R ((0 : Int), (0 : Int), r_1) H3) (fathomref02_Seal.sp (0 : Int) (Sl.mk none 0 0) H2 fun (r_2 : (Sl × Int)) H4 => optK p fun a_3 => ld cPtr H4 (a_3.add 0) fun (x_3 : Option Addr) => fathomref01_Disk_Write.sp x_3 name r.1 r_2.1 H4 fun (e_1 : Int) H5 => br (e_1 != (0 : Int)) (fathomref03_Pool_met.sp p e_1 H5 fun (r_3 : Int) H6 => R ((0 : Int), (0 : Int), r_3) H6) (fathomref03_Pool_take.sp p name r.1 (0 : Int) ByteArray.empty false (Sl.mk none 0 0) (0 : Int) H5 fun (r_4 : Int) H7 => R (r_4, r.1, (0 : Int)) H7))) (br (r.2 != (0 : Int)) (fathomref03_Pool_met.sp p r.2 H1 fun (r_5 : Int) H8 => R ((0 : Int), (0 : Int), r_5) H8) (fathomref02_Seal.sp (0 : Int) (Sl.mk none 0 0) H1 fun (r_6 : (Sl × Int)) H9 => optK p fun a_4 => ld cPtr H9 (a_4.add 0) fun (x_4 : Option Addr) => fathomref01_Disk_Write.sp x_4 name r.1 r_6.1 H9 fun (e_2 : Int) H10 => br (e_2 != (0 : Int)) (fathomref03_Pool_met.sp p e_2 H10 fun (r_7 : Int) H11 => R ((0 : Int), (0 : Int), r_7) H11) (fathomref03_Pool_take.sp p name r.1 (0 : Int) ByteArray.empty false (Sl.mk none 0 0) (0 : Int) H10 fun (r_8 : Int) H12 => R (r_8, r.1, (0 : Int)) H12))))

theorem fathomref03_Pool_Fresh.of {p : Option Addr} {name : ByteArray} {H : Heap} {R : (Int × Int × Int) → Heap → Prop} (hvc : fathomref03_Pool_Fresh.vc p name H R) : fathomref03_Pool_Fresh.sp p name H R :=
  specT_of_vc prog_ng prog_mixed (c := (cTup [(cInt .i64), (cInt .i64), (cInt .i64)])) (A := []) (args := [(.pointer p), (.string name)]) (Eq.mpr (by kernel_rfl : vcFT (cTup [(cInt .i64), (cInt .i64), (cInt .i64)]) Tryz.prog fathomref03_Pool_Fresh.no [] [(.pointer p), (.string name)] H R = fathomref03_Pool_Fresh.vc p name H R) hvc)

/-- (*fathom/fathomref03.Pool).Get -/
def fathomref03_Pool_Get.vc (p : Option Addr) (h : Int) (H : Heap) (R : (Int × Sl × Int) → Heap → Prop) : Prop :=
  fathomref03_Pool_held.sp p h H fun (i : Int) H1 => optK p fun a => ld (cInt .i64) H1 (a.add 6) fun (x : Int) => br (x != (0 : Int)) (optK p fun a_1 => ld (cInt .i64) H1 (a_1.add 6) fun (x_1 : Int) => R ((0 : Int), (Sl.mk none 0 0), x_1) H1) (br (decide (i < (0 : Int))) (R ((0 : Int), (Sl.mk none 0 0), (32 : Int)) H1) (∃ G : Heap → Prop, G H1 ∧ optK p fun a_2 => ldC cSl G (a_2.add 2) fun (x_2 : Sl) => optK x_2.a fun a_3 => (0 ≤ i ∧ i < (x_2.n : Int)) ∧ ldC (cInt .u8) G ((a_3.add (i.toNat * 7)).add 2) fun (x_3 : Int) => optK p fun a_4 => ld cSl H1 (a_4.add 2) fun (x_4 : Sl) => optK x_4.a fun a_5 => (0 ≤ i ∧ i < (x_4.n : Int)) ∧ ld cStr H1 ((a_5.add (i.toNat * 7)).add 3) fun (x_5 : ByteArray) => doT cSl Tryz.prog (convert ty_string ty_sl_uint8 (.string x_5)) H1 fun (x_6 : Sl) H2 => G H2 ∧ R (x_3, x_6, (0 : Int)) H2))

theorem fathomref03_Pool_Get.of {p : Option Addr} {h : Int} {H : Heap} {R : (Int × Sl × Int) → Heap → Prop} (hvc : fathomref03_Pool_Get.vc p h H R) : fathomref03_Pool_Get.sp p h H R :=
  specT_of_vc prog_ng prog_mixed (c := (cTup [(cInt .u8), cSl, (cInt .i64)])) (A := []) (args := [(.pointer p), (.int .i64 h)]) (Eq.mpr (by kernel_rfl : vcFT (cTup [(cInt .u8), cSl, (cInt .i64)]) Tryz.prog fathomref03_Pool_Get.no [] [(.pointer p), (.int .i64 h)] H R = fathomref03_Pool_Get.vc p h H R) hvc)

/-- (fathom/fathomlaw03.Step).bytes -/
def fathomlaw03_Step_bytes.vc (x_ : Int) (x_1 : ByteArray) (x_2 : Int) (x_3 : Int) (x_4 : Int) (H : Heap) (R : Sl → Heap → Prop) : Prop :=
  newC H #[(.int .i64 x_), (.string x_1), (.int .i64 x_2), (.int .i64 x_3), (.int .u8 x_4)] ty_fathomlaw03_Step fun p H1 => ld (cInt .i64) H1 (p.add 2) fun (x : Int) => fathomkit_Pick.sp x (600 : Int) H1 fun (r : Int) H2 => doT cSl Tryz.prog (Instr.makeSlice ty_sl_uint8 (.int .i64 r) (.int .i64 r)) H2 fun (b : Sl) H3 => LoopVC Int (0 : Int) H3 fun next i H4 => br (decide (i < (b.n : Int))) (ld (cInt .u8) H4 (p.add 4) fun (x_5 : Int) => optK b.a fun a => (0 ≤ i ∧ i < (b.n : Int)) ∧ st H4 (a.add (i.toNat * 1)) (.int .u8 x_5) fun H5 => next (IntKind.i64.wrap (i + (1 : Int))) H5) (R b H4)

theorem fathomlaw03_Step_bytes.of {x_ : Int} {x_1 : ByteArray} {x_2 : Int} {x_3 : Int} {x_4 : Int} {H : Heap} {R : Sl → Heap → Prop} (hvc : fathomlaw03_Step_bytes.vc x_ x_1 x_2 x_3 x_4 H R) : fathomlaw03_Step_bytes.sp x_ x_1 x_2 x_3 x_4 H R :=
  specT_of_vc prog_ng prog_mixed (c := cSl) (A := [(3, [(4, (cInt .i64))])]) (args := [(.agg #[(.int .i64 x_), (.string x_1), (.int .i64 x_2), (.int .i64 x_3), (.int .u8 x_4)])]) (Eq.mpr (by kernel_rfl : vcFT cSl Tryz.prog fathomlaw03_Step_bytes.no [(3, [(4, (cInt .i64))])] [(.agg #[(.int .i64 x_), (.string x_1), (.int .i64 x_2), (.int .i64 x_3), (.int .u8 x_4)])] H R = fathomlaw03_Step_bytes.vc x_ x_1 x_2 x_3 x_4 H R) hvc)

/-- (*fathom/fathomref03.Pool).Put -/
def fathomref03_Pool_Put.vc (p : Option Addr) (h : Int) (kind : Int) (b : Sl) (H : Heap) (R : Int → Heap → Prop) : Prop :=
  fathomref03_Pool_held.sp p h H fun (i : Int) H1 => optK p fun a => ld (cInt .i64) H1 (a.add 6) fun (x : Int) => br (x != (0 : Int)) (optK p fun a_1 => ld (cInt .i64) H1 (a_1.add 6) fun (x_1 : Int) => R x_1 H1) (br (decide (i < (0 : Int))) (R (32 : Int) H1) (br (decide ((b.n : Int) > (504 : Int))) (R (2 : Int) H1) (optK p fun a_2 => ld cSl H1 (a_2.add 2) fun (x_2 : Sl) => optK x_2.a fun a_3 => (0 ≤ i ∧ i < (x_2.n : Int)) ∧ st H1 ((a_3.add (i.toNat * 7)).add 2) (.int .u8 kind) fun H2 => optK p fun a_4 => ld cSl H2 (a_4.add 2) fun (x_3 : Sl) => b2s H2 b.a b.n fun (str : ByteArray) => optK x_3.a fun a_5 => (0 ≤ i ∧ i < (x_3.n : Int)) ∧ st H2 ((a_5.add (i.toNat * 7)).add 3) (.string str) fun H3 => optK p fun a_6 => ld cSl H3 (a_6.add 2) fun (x_4 : Sl) => optK x_4.a fun a_7 => (0 ≤ i ∧ i < (x_4.n : Int)) ∧ st H3 ((a_7.add (i.toNat * 7)).add 4) (.bool true) fun H4 => R (0 : Int) H4)))

theorem fathomref03_Pool_Put.of {p : Option Addr} {h : Int} {kind : Int} {b : Sl} {H : Heap} {R : Int → Heap → Prop} (hvc : fathomref03_Pool_Put.vc p h kind b H R) : fathomref03_Pool_Put.sp p h kind b H R :=
  specT_of_vc prog_ng prog_mixed (c := (cInt .i64)) (A := []) (args := [(.pointer p), (.int .i64 h), (.int .u8 kind), b.v]) (Eq.mpr (by kernel_rfl : vcFT (cInt .i64) Tryz.prog fathomref03_Pool_Put.no [] [(.pointer p), (.int .i64 h), (.int .u8 kind), b.v] H R = fathomref03_Pool_Put.vc p h kind b H R) hvc)

/-- (*fathom/fathomref03.Pool).Unpin -/
def fathomref03_Pool_Unpin.vc (p : Option Addr) (h : Int) (H : Heap) (R : Int → Heap → Prop) : Prop :=
  fathomref03_Pool_held.sp p h H fun (i : Int) H1 => optK p fun a => ld (cInt .i64) H1 (a.add 6) fun (x : Int) => br (x != (0 : Int)) (optK p fun a_1 => ld (cInt .i64) H1 (a_1.add 6) fun (x_1 : Int) => R x_1 H1) (br (decide (i < (0 : Int))) (R (32 : Int) H1) (LoopVC (Sl × Int) ((Sl.mk none 0 0), (0 : Int)) H1 fun next z H2 => optK p fun a_2 => ld cSl H2 (a_2.add 2) fun (x_2 : Sl) => optK x_2.a fun a_3 => (0 ≤ i ∧ i < (x_2.n : Int)) ∧ ld cSl H2 ((a_3.add (i.toNat * 7)).add 5) fun (x_3 : Sl) => br (decide (z.2 < (x_3.n : Int))) (optK p fun a_4 => ld cSl H2 (a_4.add 2) fun (x_4 : Sl) => optK x_4.a fun a_5 => (0 ≤ i ∧ i < (x_4.n : Int)) ∧ ld cSl H2 ((a_5.add (i.toNat * 7)).add 5) fun (x_5 : Sl) => optK x_5.a fun a_6 => (0 ≤ z.2 ∧ z.2 < (x_5.n : Int)) ∧ ld (cInt .i64) H2 (a_6.add (z.2.toNat * 1)) fun (x_6 : Int) => br (x_6 != h) (optK p fun a_7 => ld cSl H2 (a_7.add 2) fun (x_7 : Sl) => optK x_7.a fun a_8 => (0 ≤ i ∧ i < (x_7.n : Int)) ∧ ld cSl H2 ((a_8.add (i.toNat * 7)).add 5) fun (x_8 : Sl) => optK x_8.a fun a_9 => (0 ≤ z.2 ∧ z.2 < (x_8.n : Int)) ∧ ld (cInt .i64) H2 (a_9.add (z.2.toNat * 1)) fun (x_9 : Int) => newC H2 #[(.int .i64 x_9)] ty_int fun p_1 H3 => doT cSl Tryz.prog (Builtin.append_ #[ty_sl_int, ty_sl_int] ty_sl_int #[z.1.v, (.slice (some p_1) 1 1)]) H3 fun (l : Sl) H4 => next (l, IntKind.i64.wrap (z.2 + (1 : Int))) H4) (next (z.1, IntKind.i64.wrap (z.2 + (1 : Int))) H2)) (optK p fun a_10 => ld cSl H2 (a_10.add 2) fun (x_10 : Sl) => optK x_10.a fun a_11 => (0 ≤ i ∧ i < (x_10.n : Int)) ∧ st H2 ((a_11.add (i.toNat * 7)).add 5) z.1.v fun H5 => optK p fun a_12 => ld (cInt .i64) H5 (a_12.add 4) fun (x_11 : Int) => optK p fun a_13 => st H5 (a_13.add 4) (.int .i64 (IntKind.i64.wrap (x_11 + (1 : Int)))) fun H6 => optK p fun a_14 => ld cSl H6 (a_14.add 2) fun (x_12 : Sl) => optK p fun a_15 => ld (cInt .i64) H6 (a_15.add 4) fun (x_13 : Int) => optK x_12.a fun a_16 => (0 ≤ i ∧ i < (x_12.n : Int)) ∧ st H6 ((a_16.add (i.toNat * 7)).add 6) (.int .i64 x_13) fun H7 => R (0 : Int) H7)))

theorem fathomref03_Pool_Unpin.of {p : Option Addr} {h : Int} {H : Heap} {R : Int → Heap → Prop} (hvc : fathomref03_Pool_Unpin.vc p h H R) : fathomref03_Pool_Unpin.sp p h H R :=
  specT_of_vc prog_ng prog_mixed (c := (cInt .i64)) (A := [(8, [(6, cSl), (7, (cInt .i64))])]) (args := [(.pointer p), (.int .i64 h)]) (Eq.mpr (by kernel_rfl : vcFT (cInt .i64) Tryz.prog fathomref03_Pool_Unpin.no [(8, [(6, cSl), (7, (cInt .i64))])] [(.pointer p), (.int .i64 h)] H R = fathomref03_Pool_Unpin.vc p h H R) hvc)

/-- (*fathom/fathomref03.Pool).Flush -/
def fathomref03_Pool_Flush.vc (p : Option Addr) (name : ByteArray) (H : Heap) (R : Int → Heap → Prop) : Prop :=
  optK p fun a => ld (cInt .i64) H (a.add 6) fun (x : Int) => br (x != (0 : Int)) (optK p fun a_1 => ld (cInt .i64) H (a_1.add 6) fun (x_1 : Int) => R x_1 H) (optK p fun a_2 => ld cPtr H (a_2.add 0) fun (x_2 : Option Addr) => fathomref01_Disk_Len.sp x_2 name H fun (r : (Int × Int)) H1 => br (r.2 != (0 : Int)) (fathomref03_Pool_met.sp p r.2 H1 fun (r_1 : Int) H2 => R r_1 H2) (LoopVC Int (0 : Int) H1 fun next k H3 => br (decide (k < r.1)) (fathomref03_Pool_find.sp p name k H3 fun (i : Int) H4 => br (decide (i ≥ (0 : Int))) (optK p fun a_3 => ld cSl H4 (a_3.add 2) fun (x_3 : Sl) => optK x_3.a fun a_4 => (0 ≤ i ∧ i < (x_3.n : Int)) ∧ ld cBool H4 ((a_4.add (i.toNat * 7)).add 4) fun (x_4 : Bool) => br x_4 (fathomref03_Pool_write.sp p i H4 fun (e : Int) H5 => br (e != (0 : Int)) (fathomref03_Pool_met.sp p e H5 fun (r_2 : Int) H6 => R r_2 H6) (next (IntKind.i64.wrap (k + (1 : Int))) H5)) (next (IntKind.i64.wrap (k + (1 : Int))) H4)) (next (IntKind.i64.wrap (k + (1 : Int))) H4)) (optK p fun a_5 => ld cPtr H3 (a_5.add 0) fun (x_5 : Option Addr) => fathomref01_Disk_Sync.sp x_5 name H3 fun (r_3 : Int) H7 => fathomref03_Pool_met.sp p r_3 H7 fun (r_4 : Int) H8 => R r_4 H8)))

theorem fathomref03_Pool_Flush.of {p : Option Addr} {name : ByteArray} {H : Heap} {R : Int → Heap → Prop} (hvc : fathomref03_Pool_Flush.vc p name H R) : fathomref03_Pool_Flush.sp p name H R :=
  specT_of_vc prog_ng prog_mixed (c := (cInt .i64)) (A := [(7, [(7, (cInt .i64))])]) (args := [(.pointer p), (.string name)]) (Eq.mpr (by kernel_rfl : vcFT (cInt .i64) Tryz.prog fathomref03_Pool_Flush.no [(7, [(7, (cInt .i64))])] [(.pointer p), (.string name)] H R = fathomref03_Pool_Flush.vc p name H R) hvc)

/-- (*fathom/pool.Pool).Drop -/
def pool_Pool_Drop.vc (p : Option Addr) (name : ByteArray) (H : Heap) (R : Int → Heap → Prop) : Prop :=
  pool_Pool_ready.sp p H fun (e : Int) H1 => br (e != (0 : Int)) (R e H1) (optK p fun a => ld cPtr H1 (a.add 0) fun (x : Option Addr) => disk_Disk_Len.sp x name H1 fun (r : (Int × Int)) H2 => br (r.2 != (0 : Int)) (pool_Pool_met.sp p r.2 H2 fun (r_1 : Int) H3 => R r_1 H3) (pool_Pool_of.sp p name H2 fun (l : Sl) H4 => slices_ContainsFunc_sl_ptr_pool_frame_ptr_pool_frame.sp l H4 fun (r_2 : Bool) H5 => br r_2 (R (31 : Int) H5) (LoopVC Int (0 : Int) H5 fun next z H6 => br (decide (z < (l.n : Int))) (optK l.a fun a_1 => (0 ≤ z ∧ z < (l.n : Int)) ∧ ld cPtr H6 (a_1.add (z.toNat * 1)) fun (f : Option Addr) => optK p fun a_2 => ld cMap H6 (a_2.add 2) fun (x_1 : Option Nat) => optK f fun a_3 => ldA (cAgg [cStr, (cInt .i64)]) 2 H6 (a_3.add 0) fun (x_2 : (ByteArray × Int)) => doT cRaw Tryz.prog (Builtin.delete_ #[ty_maparr_pool_spot_ptr_pool_frame, ty_pool_spot] ty_ #[(.map x_1), (.agg #[(.string x_2.1), (.int .i64 x_2.2)])]) H6 fun (_ : Value) H7 => next (IntKind.i64.wrap (z + (1 : Int))) H7) (optK p fun a_4 => ld cPtr H6 (a_4.add 0) fun (x_3 : Option Addr) => disk_Disk_Remove.sp x_3 name H6 fun (r_3 : Int) H8 => pool_Pool_met.sp p r_3 H8 fun (r_4 : Int) H9 => R r_4 H9))))

theorem pool_Pool_Drop.of {p : Option Addr} {name : ByteArray} {H : Heap} {R : Int → Heap → Prop} (hvc : pool_Pool_Drop.vc p name H R) : pool_Pool_Drop.sp p name H R :=
  specT_of_vc prog_ng prog_mixed (c := (cInt .i64)) (A := [(11, [(37, (cInt .i64))])]) (args := [(.pointer p), (.string name)]) (Eq.mpr (by kernel_rfl : vcFT (cInt .i64) Tryz.prog pool_Pool_Drop.no [(11, [(37, (cInt .i64))])] [(.pointer p), (.string name)] H R = pool_Pool_Drop.vc p name H R) hvc)

/-- (*fathom/fathomref03.Pool).Drop -/
def fathomref03_Pool_Drop.vc (p : Option Addr) (name : ByteArray) (H : Heap) (R : Int → Heap → Prop) : Prop :=
  optK p fun a => ld (cInt .i64) H (a.add 6) fun (x : Int) => br (x != (0 : Int)) (optK p fun a_1 => ld (cInt .i64) H (a_1.add 6) fun (x_1 : Int) => R x_1 H) (optK p fun a_2 => ld cPtr H (a_2.add 0) fun (x_2 : Option Addr) => fathomref01_Disk_Len.sp x_2 name H fun (r : (Int × Int)) H1 => br (r.2 != (0 : Int)) (fathomref03_Pool_met.sp p r.2 H1 fun (r_1 : Int) H2 => R r_1 H2) (LoopVC (Sl × Int) ((Sl.mk none 0 0), (0 : Int)) H1 fun next z H3 => optK p fun a_3 => ld cSl H3 (a_3.add 2) fun (x_3 : Sl) => br (decide (z.2 < (x_3.n : Int))) (optK p fun a_4 => ld cSl H3 (a_4.add 2) fun (x_4 : Sl) => optK x_4.a fun a_5 => (0 ≤ z.2 ∧ z.2 < (x_4.n : Int)) ∧ ld cStr H3 ((a_5.add (z.2.toNat * 7)).add 0) fun (x_5 : ByteArray) => br (!(x_5.toList == name.toList)) (optK p fun a_6 => ld cSl H3 (a_6.add 2) fun (x_6 : Sl) => optK x_6.a fun a_7 => (0 ≤ z.2 ∧ z.2 < (x_6.n : Int)) ∧ ldA (cAgg [cStr, (cInt .i64), (cInt .u8), cStr, cBool, cSl, (cInt .i64)]) 7 H3 (a_7.add (z.2.toNat * 7)) fun (x_7 : (ByteArray × Int × Int × ByteArray × Bool × Sl × Int)) => newC H3 #[(.string x_7.1), (.int .i64 x_7.2.1), (.int .u8 x_7.2.2.1), (.string x_7.2.2.2.1), (.bool x_7.2.2.2.2.1), x_7.2.2.2.2.2.1.v, (.int .i64 x_7.2.2.2.2.2.2)] ty_fathomref03_Frame fun p_1 H4 => doT cSl Tryz.prog (Builtin.append_ #[ty_sl_fathomref03_Frame, ty_sl_fathomref03_Frame] ty_sl_fathomref03_Frame #[z.1.v, (.slice (some p_1) 1 1)]) H4 fun (l : Sl) H5 => next (l, IntKind.i64.wrap (z.2 + (1 : Int))) H5) (optK p fun a_8 => ld cSl H3 (a_8.add 2) fun (x_8 : Sl) => optK x_8.a fun a_9 => (0 ≤ z.2 ∧ z.2 < (x_8.n : Int)) ∧ ld cSl H3 ((a_9.add (z.2.toNat * 7)).add 5) fun (x_9 : Sl) => br (decide ((x_9.n : Int) > (0 : Int))) (R (31 : Int) H3) (next (z.1, IntKind.i64.wrap (z.2 + (1 : Int))) H3))) (optK p fun a_10 => st H3 (a_10.add 2) z.1.v fun H6 => optK p fun a_11 => ld cPtr H6 (a_11.add 0) fun (x_10 : Option Addr) => fathomref01_Disk_Remove.sp x_10 name H6 fun (r_2 : Int) H7 => fathomref03_Pool_met.sp p r_2 H7 fun (r_3 : Int) H8 => R r_3 H8)))

theorem fathomref03_Pool_Drop.of {p : Option Addr} {name : ByteArray} {H : Heap} {R : Int → Heap → Prop} (hvc : fathomref03_Pool_Drop.vc p name H R) : fathomref03_Pool_Drop.sp p name H R :=
  specT_of_vc prog_ng prog_mixed (c := (cInt .i64)) (A := [(8, [(7, cSl), (8, (cInt .i64))])]) (args := [(.pointer p), (.string name)]) (Eq.mpr (by kernel_rfl : vcFT (cInt .i64) Tryz.prog fathomref03_Pool_Drop.no [(8, [(7, cSl), (8, (cInt .i64))])] [(.pointer p), (.string name)] H R = fathomref03_Pool_Drop.vc p name H R) hvc)

/-- (*fathom/fathomref01.Disk).Create -/
def fathomref01_Disk_Create.vc (d : Option Addr) (name : ByteArray) (H : Heap) (R : Int → Heap → Prop) : Prop :=
  optK d fun a => ld cBool H (a.add 8) fun (x : Bool) => br x (R (4 : Int) H) (fathomref01_named.sp name H fun (r : Bool) H1 => br (!r) (R (2 : Int) H1) (fathomref01_Disk_find.sp d name H1 fun (r_1 : Int) H2 => br (decide (r_1 ≥ (0 : Int))) (R (10 : Int) H2) (optK d fun a_1 => ld cSl H2 (a_1.add 0) fun (x_1 : Sl) => br ((x_1.n : Int) == (4096 : Int)) (R (3 : Int) H2) (fathomref01_Disk_change.sp d H2 fun (e : Int) H3 => br (e == (0 : Int)) (optK d fun a_2 => ld cSl H3 (a_2.add 0) fun (x_2 : Sl) => newC H3 #[(.string name), (.slice none 0 0), (.slice none 0 0)] ty_fathomref01_File fun p H4 => doT cSl Tryz.prog (Builtin.append_ #[ty_sl_fathomref01_File, ty_sl_fathomref01_File] ty_sl_fathomref01_File #[x_2.v, (.slice (some p) 1 1)]) H4 fun (s : Sl) H5 => optK d fun a_3 => st H5 (a_3.add 0) s.v fun H6 => R e H6) (R e H3)))))

theorem fathomref01_Disk_Create.of {d : Option Addr} {name : ByteArray} {H : Heap} {R : Int → Heap → Prop} (hvc : fathomref01_Disk_Create.vc d name H R) : fathomref01_Disk_Create.sp d name H R :=
  specT_of_vc prog_ng prog_mixed (c := (cInt .i64)) (A := []) (args := [(.pointer d), (.string name)]) (Eq.mpr (by kernel_rfl : vcFT (cInt .i64) Tryz.prog fathomref01_Disk_Create.no [] [(.pointer d), (.string name)] H R = fathomref01_Disk_Create.vc d name H R) hvc)

/-- (*fathom/disk.Disk).Down -/
def disk_Disk_Down.vc (d : Option Addr) (H : Heap) (R : Bool → Heap → Prop) : Prop :=
  br (!d.isNone) (optK d fun a => ld cBool H (a.add 9) fun (x : Bool) => R x H) (R false H)

theorem disk_Disk_Down.of {d : Option Addr} {H : Heap} {R : Bool → Heap → Prop} (hvc : disk_Disk_Down.vc d H R) : disk_Disk_Down.sp d H R :=
  specT_of_vc prog_ng prog_mixed (c := cBool) (A := []) (args := [(.pointer d)]) (Eq.mpr (by kernel_rfl : vcFT cBool Tryz.prog disk_Disk_Down.no [] [(.pointer d)] H R = disk_Disk_Down.vc d H R) hvc)

/-- (*fathom/disk.Disk).Restart -/
def disk_Disk_Restart.vc (d : Option Addr) (H : Heap) (R : Unit → Heap → Prop) : Prop :=
  br d.isNone (R () H) (optK d fun a => ld cBool H (a.add 9) fun (x : Bool) => br (!x) (R () H) (optK d fun a_1 => ld cMap H (a_1.add 0) fun (x_1 : Option Nat) => doT cPtr Tryz.prog (Instr.range ty_maparr_string_ptr_disk_file (.map x_1)) H fun (it : Option Addr) H1 => LoopVC Sl (Sl.mk none 0 0) H1 fun next order H2 => doT cNext Tryz.prog (Instr.next (.pointer it) false ty_) H2 fun (nx : Bool × List Value) H3 => br nx.1 (doT cTwo Tryz.prog (Instr.entry (.pointer it)) H3 fun (en : Value × Value) H4 => asT cPtr en.2 fun (f : Option Addr) => optK f fun a_2 => ld cSl H4 (a_2.add 2) fun (x_2 : Sl) => LoopVC (Sl × Int) (order, (0 : Int)) H4 fun next_1 z H5 => br (decide (z.2 < (x_2.n : Int))) (optK x_2.a fun a_3 => (0 ≤ z.2 ∧ z.2 < (x_2.n : Int)) ∧ ldA cArr 514 H5 (a_3.add (z.2.toNat * 514)) fun (x_3 : Array Value) => newC H5 (zc Tryz.prog ty_disk_mark) ty_disk_mark fun p H6 => doU Tryz.prog (Instr.storeAt ty_disk_mark (.pointer (some p)) (.agg x_3)) H6 fun H7 => ld (cInt .i64) H7 (p.add 0) fun (x_4 : Int) => newC H7 #[(.int .i64 x_4)] ty_int fun p_1 H8 => doT cSl Tryz.prog (Builtin.append_ #[ty_sl_int, ty_sl_int] ty_sl_int #[z.1.v, (.slice (some p_1) 1 1)]) H8 fun (order_1 : Sl) H9 => next_1 (order_1, IntKind.i64.wrap (z.2 + (1 : Int))) H9) (next z.1 H5)) (slices_Sort_sl_int_int.sp order H3 fun (_ : Unit) H10 => optK d fun a_4 => st H10 (a_4.add 1) (.int .i64 (0 : Int)) fun H11 => optK d fun a_5 => ld cMap H11 (a_5.add 0) fun (x_5 : Option Nat) => doT cPtr Tryz.prog (Instr.range ty_maparr_string_ptr_disk_file (.map x_5)) H11 fun (it_1 : Option Addr) H12 => LoopVC Unit () H12 fun next_2 _ H13 => doT cNext Tryz.prog (Instr.next (.pointer it_1) false ty_) H13 fun (nx_1 : Bool × List Value) H14 => br nx_1.1 (doT cTwo Tryz.prog (Instr.entry (.pointer it_1)) H14 fun (en_1 : Value × Value) H15 => asT cPtr en_1.2 fun (f_1 : Option Addr) => optK f_1 fun a_6 => ld cSl H15 (a_6.add 1) fun (x_6 : Sl) => slices_Clone_sl_disk_sheet_disk_sheet.sp x_6 H15 fun (r_1 : Sl) H16 => optK f_1 fun a_7 => st H16 (a_7.add 0) r_1.v fun H17 => optK f_1 fun a_8 => ld cSl H17 (a_8.add 2) fun (x_7 : Sl) => LoopVC Int (0 : Int) H17 fun next_3 z_2 H18 => br (decide (z_2 < (x_7.n : Int))) (optK x_7.a fun a_9 => (0 ≤ z_2 ∧ z_2 < (x_7.n : Int)) ∧ ldA cArr 514 H18 (a_9.add (z_2.toNat * 514)) fun (x_8 : Array Value) => newC H18 (zc Tryz.prog ty_disk_mark) ty_disk_mark fun p_2 H19 => doU Tryz.prog (Instr.storeAt ty_disk_mark (.pointer (some p_2)) (.agg x_8)) H19 fun H20 => ld (cInt .i64) H20 (p_2.add 0) fun (x_9 : Int) => slices_BinarySearch_sl_int_int.sp order x_9 H20 fun (r_2 : (Int × Bool)) H21 => optK d fun a_10 => ld (cInt .u64) H21 ((a_10.add 6).add 2) fun (x_10 : Int) => 0 ≤ (Int.tmod r_2.1 (64 : Int)) ∧ br ((iand .u64 (ishr .u64 x_10 (Int.tmod r_2.1 (64 : Int))) (1 : Int)) == (1 : Int)) (optK f_1 fun a_11 => ld cSl H21 (a_11.add 0) fun (x_11 : Sl) => ld (cInt .i64) H21 (p_2.add 1) fun (x_12 : Int) => ldA cArr 512 H21 (p_2.add 2) fun (x_13 : Array Value) => disk_put.sp x_11 x_12 x_13 H21 fun (r_3 : Sl) H22 => optK f_1 fun a_12 => st H22 (a_12.add 0) r_3.v fun H23 => next_3 (IntKind.i64.wrap (z_2 + (1 : Int))) H23) (next_3 (IntKind.i64.wrap (z_2 + (1 : Int))) H21)) (optK f_1 fun a_13 => ld cSl H18 (a_13.add 0) fun (x_14 : Sl) => slices_Clone_sl_disk_sheet_disk_sheet.sp x_14 H18 fun (r_4 : Sl) H24 => optK f_1 fun a_14 => st H24 (a_14.add 1) r_4.v fun H25 => optK f_1 fun a_15 => st H25 (a_15.add 2) (.slice none 0 0) fun H26 => optK d fun a_16 => ld (cInt .i64) H26 (a_16.add 1) fun (x_15 : Int) => optK f_1 fun a_17 => ld cSl H26 (a_17.add 0) fun (x_16 : Sl) => optK d fun a_18 => st H26 (a_18.add 1) (.int .i64 (IntKind.i64.wrap (x_15 + (x_16.n : Int)))) fun H27 => next_2 () H27)) (optK d fun a_19 => st H14 (a_19.add 9) (.bool false) fun H28 => optK d fun a_20 => doU Tryz.prog (Instr.storeAt ty_disk_crash (.pointer (some (a_20.add 6))) (.agg #[(.bool false), (.int .i64 (0 : Int)), (.int .u64 (0 : Int))])) H28 fun H29 => R () H29))))

theorem disk_Disk_Restart.of {d : Option Addr} {H : Heap} {R : Unit → Heap → Prop} (hvc : disk_Disk_Restart.vc d H R) : disk_Disk_Restart.sp d H R :=
  specT_of_vc prog_ng prog_mixed (c := (cTup [])) (A := [(3, [(2, cSl)]), (6, [(2, cSl), (36, (cInt .i64))]), (13, []), (17, [(73, (cInt .i64))])]) (args := [(.pointer d)]) (Eq.mpr (by kernel_rfl : vcFT (cTup []) Tryz.prog disk_Disk_Restart.no [(3, [(2, cSl)]), (6, [(2, cSl), (36, (cInt .i64))]), (13, []), (17, [(73, (cInt .i64))])] [(.pointer d)] H R = disk_Disk_Restart.vc d H R) hvc)

/-- (*fathom/fathomref01.Disk).Restart -/
def fathomref01_Disk_Restart.vc (d : Option Addr) (H : Heap) (R : Unit → Heap → Prop) : Prop :=
  optK d fun a => ld cBool H (a.add 8) fun (x : Bool) => br (!x) (R () H) (LoopVC (Sl × Int) ((Sl.mk none 0 0), (0 : Int)) H fun next z H1 => optK d fun a_1 => ld cSl H1 (a_1.add 0) fun (x_1 : Sl) => br (decide (z.2 < (x_1.n : Int))) (∃ G : Heap → Prop, G H1 ∧ optK d fun a_2 => ldC cSl G (a_2.add 0) fun (x_2 : Sl) => optK x_2.a fun a_3 => (0 ≤ z.2 ∧ z.2 < (x_2.n : Int)) ∧ ldC cStr G ((a_3.add (z.2.toNat * 3)).add 0) fun (x_3 : ByteArray) => optK d fun a_4 => ldC cSl G (a_4.add 0) fun (x_4 : Sl) => optK x_4.a fun a_5 => (0 ≤ z.2 ∧ z.2 < (x_4.n : Int)) ∧ ldC cSl G ((a_5.add (z.2.toNat * 3)).add 1) fun (x_5 : Sl) => newC H1 (zc Tryz.prog ty_fathomref01_File) ty_fathomref01_File fun p H2 => G H2 ∧ doU Tryz.prog (Instr.storeAt ty_fathomref01_File (.pointer (some p)) (.agg #[(.string x_3), x_5.v, (.slice none 0 0)])) H2 fun H3 => LoopVC Int (0 : Int) H3 fun next_1 k H4 => optK d fun a_6 => ld cSl H4 (a_6.add 0) fun (x_6 : Sl) => optK x_6.a fun a_7 => (0 ≤ z.2 ∧ z.2 < (x_6.n : Int)) ∧ ld cSl H4 ((a_7.add (z.2.toNat * 3)).add 2) fun (x_7 : Sl) => br (decide (k < (x_7.n : Int))) (optK d fun a_8 => ld cSl H4 (a_8.add 0) fun (x_8 : Sl) => optK x_8.a fun a_9 => (0 ≤ z.2 ∧ z.2 < (x_8.n : Int)) ∧ ld cSl H4 ((a_9.add (z.2.toNat * 3)).add 2) fun (x_9 : Sl) => optK x_9.a fun a_10 => (0 ≤ k ∧ k < (x_9.n : Int)) ∧ ldA (cAgg [(cInt .i64), (cInt .i64), cStr]) 3 H4 (a_10.add (k.toNat * 3)) fun (x_10 : (Int × Int × ByteArray)) => newC H4 (zc Tryz.prog ty_fathomref01_Write) ty_fathomref01_Write fun p_1 H5 => doU Tryz.prog (Instr.storeAt ty_fathomref01_Write (.pointer (some p_1)) (.agg #[(.int .i64 x_10.1), (.int .i64 x_10.2.1), (.string x_10.2.2)])) H5 fun H6 => ∃ G_1 : Heap → Prop, G_1 H6 ∧ optK d fun a_11 => ldC (cInt .u64) G_1 (a_11.add 7) fun (x_11 : Int) => ld (cInt .i64) H6 (p_1.add 0) fun (x_12 : Int) => fathomref01_Disk_rank.sp d x_12 H6 fun (r : Int) H7 => G_1 H7 ∧ 0 ≤ (Int.tmod r (64 : Int)) ∧ br ((iand .u64 (ishr .u64 x_11 (Int.tmod r (64 : Int))) (1 : Int)) == (1 : Int)) (ld cSl H7 (p.add 1) fun (x_13 : Sl) => ldA (cAgg [(cInt .i64), (cInt .i64), cStr]) 3 H7 p_1 fun (x_14 : (Int × Int × ByteArray)) => fathomref01_put.sp x_13 x_14.1 x_14.2.1 x_14.2.2 H7 fun (r_1 : Sl) H8 => st H8 (p.add 1) r_1.v fun H9 => next_1 (IntKind.i64.wrap (k + (1 : Int))) H9) (next_1 (IntKind.i64.wrap (k + (1 : Int))) H7)) (ldA (cAgg [cStr, cSl, cSl]) 3 H4 p fun (x_15 : (ByteArray × Sl × Sl)) => newC H4 #[(.string x_15.1), x_15.2.1.v, x_15.2.2.v] ty_fathomref01_File fun p_2 H10 => doT cSl Tryz.prog (Builtin.append_ #[ty_sl_fathomref01_File, ty_sl_fathomref01_File] ty_sl_fathomref01_File #[z.1.v, (.slice (some p_2) 1 1)]) H10 fun (files : Sl) H11 => next (files, IntKind.i64.wrap (z.2 + (1 : Int))) H11)) (optK d fun a_12 => st H1 (a_12.add 0) z.1.v fun H12 => optK d fun a_13 => st H12 (a_13.add 8) (.bool false) fun H13 => optK d fun a_14 => st H13 (a_14.add 5) (.bool false) fun H14 => R () H14))

theorem fathomref01_Disk_Restart.of {d : Option Addr} {H : Heap} {R : Unit → Heap → Prop} (hvc : fathomref01_Disk_Restart.vc d H R) : fathomref01_Disk_Restart.sp d H R :=
  specT_of_vc prog_ng prog_mixed (c := (cTup [])) (A := [(3, [(2, cSl), (3, (cInt .i64))]), (7, [(5, (cInt .i64))])]) (args := [(.pointer d)]) (Eq.mpr (by kernel_rfl : vcFT (cTup []) Tryz.prog fathomref01_Disk_Restart.no [(3, [(2, cSl), (3, (cInt .i64))]), (7, [(5, (cInt .i64))])] [(.pointer d)] H R = fathomref01_Disk_Restart.vc d H R) hvc)

/-- (*fathom/disk.Disk).List -/
def disk_Disk_List.vc (d : Option Addr) (H : Heap) (R : Sl → Heap → Prop) : Prop :=
  disk_Disk_ready.sp d H fun (r : Int) H1 => br (r != (0 : Int)) (R (Sl.mk none 0 0) H1) (optK d fun a => ld cMap H1 (a.add 0) fun (x : Option Nat) => maps_Keys_map_string_ptr_disk_file_string_ptr_disk_file.sp x H1 fun (r_1 : Value) H2 => slices_Sorted_string.sp r_1 H2 fun (r_2 : Sl) H3 => R r_2 H3)

theorem disk_Disk_List.of {d : Option Addr} {H : Heap} {R : Sl → Heap → Prop} (hvc : disk_Disk_List.vc d H R) : disk_Disk_List.sp d H R :=
  specT_of_vc prog_ng prog_mixed (c := cSl) (A := []) (args := [(.pointer d)]) (Eq.mpr (by kernel_rfl : vcFT cSl Tryz.prog disk_Disk_List.no [] [(.pointer d)] H R = disk_Disk_List.vc d H R) hvc)

/-- fathom/fathomkit.SameTexts -/
def fathomkit_SameTexts.vc (a : Sl) (b : Sl) (H : Heap) (R : Bool → Heap → Prop) : Prop :=
  br ((a.n : Int) != (b.n : Int)) (R false H) (LoopVC Int (0 : Int) H fun next i H1 => br (decide (i < (a.n : Int))) (optK a.a fun a_1 => (0 ≤ i ∧ i < (a.n : Int)) ∧ ld cStr H1 (a_1.add (i.toNat * 1)) fun (x : ByteArray) => optK b.a fun a_2 => (0 ≤ i ∧ i < (b.n : Int)) ∧ ld cStr H1 (a_2.add (i.toNat * 1)) fun (x_1 : ByteArray) => br (!(x.toList == x_1.toList)) (R false H1) (next (IntKind.i64.wrap (i + (1 : Int))) H1)) (R true H1))

theorem fathomkit_SameTexts.of {a : Sl} {b : Sl} {H : Heap} {R : Bool → Heap → Prop} (hvc : fathomkit_SameTexts.vc a b H R) : fathomkit_SameTexts.sp a b H R :=
  specT_of_vc prog_ng prog_mixed (c := cBool) (A := [(4, [(5, (cInt .i64))])]) (args := [a.v, b.v]) (Eq.mpr (by kernel_rfl : vcFT cBool Tryz.prog fathomkit_SameTexts.no [(4, [(5, (cInt .i64))])] [a.v, b.v] H R = fathomkit_SameTexts.vc a b H R) hvc)

/-- (*fathom/fathomref01.Disk).List -/
def fathomref01_Disk_List.vc (d : Option Addr) (H : Heap) (R : Sl → Heap → Prop) : Prop :=
  LoopVC (Sl × Int) ((Sl.mk none 0 0), (0 : Int)) H fun next z H1 => optK d fun a => ld cSl H1 (a.add 0) fun (x : Sl) => br (decide (z.2 < (x.n : Int))) (optK d fun a_1 => ld cBool H1 (a_1.add 8) fun (x_1 : Bool) => br (!x_1) (LoopVC Int (0 : Int) H1 fun next_1 z_1 H2 => br (decide (z_1 < (z.1.n : Int))) (optK z.1.a fun a_2 => (0 ≤ z_1 ∧ z_1 < (z.1.n : Int)) ∧ ld cStr H2 (a_2.add (z_1.toNat * 1)) fun (x_2 : ByteArray) => optK d fun a_3 => ld cSl H2 (a_3.add 0) fun (x_3 : Sl) => optK x_3.a fun a_4 => (0 ≤ z.2 ∧ z.2 < (x_3.n : Int)) ∧ ld cStr H2 ((a_4.add (z.2.toNat * 3)).add 0) fun (x_4 : ByteArray) => br (Op.bytesLess x_2.toList x_4.toList) (next_1 (IntKind.i64.wrap (z_1 + (1 : Int))) H2) ((0 ≤ z_1 ∧ z_1 ≤ (z.1.c : Int)) ∧ doT cSl Tryz.prog (Builtin.append_ #[ty_sl_string, ty_sl_string] ty_sl_string #[(.slice none 0 0), (.slice (slA z.1.a z.1.c 0 1) (z_1.toNat - 0) (z.1.c - 0))]) H2 fun (out : Sl) H3 => optK d fun a_5 => ld cSl H3 (a_5.add 0) fun (x_5 : Sl) => optK x_5.a fun a_6 => (0 ≤ z.2 ∧ z.2 < (x_5.n : Int)) ∧ ld cStr H3 ((a_6.add (z.2.toNat * 3)).add 0) fun (x_6 : ByteArray) => newC H3 #[(.string x_6)] ty_string fun p H4 => doT cSl Tryz.prog (Builtin.append_ #[ty_sl_string, ty_sl_string] ty_sl_string #[out.v, (.slice (some p) 1 1)]) H4 fun (out_1 : Sl) H5 => (0 ≤ z_1 ∧ z_1 ≤ (z.1.n : Int)) ∧ doT cSl Tryz.prog (Builtin.append_ #[ty_sl_string, ty_sl_string] ty_sl_string #[out_1.v, (.slice (slA z.1.a z.1.c z_1.toNat 1) (z.1.n - z_1.toNat) (z.1.c - z_1.toNat))]) H5 fun (out_2 : Sl) H6 => next (out_2, IntKind.i64.wrap (z.2 + (1 : Int))) H6)) ((0 ≤ z_1 ∧ z_1 ≤ (z.1.c : Int)) ∧ doT cSl Tryz.prog (Builtin.append_ #[ty_sl_string, ty_sl_string] ty_sl_string #[(.slice none 0 0), (.slice (slA z.1.a z.1.c 0 1) (z_1.toNat - 0) (z.1.c - 0))]) H2 fun (out_3 : Sl) H7 => optK d fun a_7 => ld cSl H7 (a_7.add 0) fun (x_7 : Sl) => optK x_7.a fun a_8 => (0 ≤ z.2 ∧ z.2 < (x_7.n : Int)) ∧ ld cStr H7 ((a_8.add (z.2.toNat * 3)).add 0) fun (x_8 : ByteArray) => newC H7 #[(.string x_8)] ty_string fun p_1 H8 => doT cSl Tryz.prog (Builtin.append_ #[ty_sl_string, ty_sl_string] ty_sl_string #[out_3.v, (.slice (some p_1) 1 1)]) H8 fun (out_4 : Sl) H9 => (0 ≤ z_1 ∧ z_1 ≤ (z.1.n : Int)) ∧ doT cSl Tryz.prog (Builtin.append_ #[ty_sl_string, ty_sl_string] ty_sl_string #[out_4.v, (.slice (slA z.1.a z.1.c z_1.toNat 1) (z.1.n - z_1.toNat) (z.1.c - z_1.toNat))]) H9 fun (out_5 : Sl) H10 => next (out_5, IntKind.i64.wrap (z.2 + (1 : Int))) H10)) (R z.1 H1)) (R z.1 H1)

theorem fathomref01_Disk_List.of {d : Option Addr} {H : Heap} {R : Sl → Heap → Prop} (hvc : fathomref01_Disk_List.vc d H R) : fathomref01_Disk_List.sp d H R :=
  specT_of_vc prog_ng prog_mixed (c := cSl) (A := [(3, [(3, cSl), (4, (cInt .i64))]), (6, [(5, (cInt .i64))])]) (args := [(.pointer d)]) (Eq.mpr (by kernel_rfl : vcFT cSl Tryz.prog fathomref01_Disk_List.no [(3, [(3, cSl), (4, (cInt .i64))]), (6, [(5, (cInt .i64))])] [(.pointer d)] H R = fathomref01_Disk_List.vc d H R) hvc)

/-- (*fathom/disk.Disk).Used -/
def disk_Disk_Used.vc (d : Option Addr) (H : Heap) (R : Int → Heap → Prop) : Prop :=
  br d.isNone (R (0 : Int) H) (optK d fun a => ld (cInt .i64) H (a.add 1) fun (x : Int) => R x H)

theorem disk_Disk_Used.of {d : Option Addr} {H : Heap} {R : Int → Heap → Prop} (hvc : disk_Disk_Used.vc d H R) : disk_Disk_Used.sp d H R :=
  specT_of_vc prog_ng prog_mixed (c := (cInt .i64)) (A := []) (args := [(.pointer d)]) (Eq.mpr (by kernel_rfl : vcFT (cInt .i64) Tryz.prog disk_Disk_Used.no [] [(.pointer d)] H R = disk_Disk_Used.vc d H R) hvc)

/-- (*fathom/fathomref01.Disk).Used -/
def fathomref01_Disk_Used.vc (d : Option Addr) (H : Heap) (R : Int → Heap → Prop) : Prop :=
  LoopVC (Int × Int) ((0 : Int), (0 : Int)) H fun next z H1 => optK d fun a => ld cSl H1 (a.add 0) fun (x : Sl) => br (decide (z.2 < (x.n : Int))) (optK d fun a_1 => ld cSl H1 (a_1.add 0) fun (x_1 : Sl) => optK x_1.a fun a_2 => (0 ≤ z.2 ∧ z.2 < (x_1.n : Int)) ∧ ldA (cAgg [cStr, cSl, cSl]) 3 H1 (a_2.add (z.2.toNat * 3)) fun (x_2 : (ByteArray × Sl × Sl)) => fathomref01_File_Pages.sp x_2.1 x_2.2.1 x_2.2.2 H1 fun (r : Sl) H2 => next (IntKind.i64.wrap (z.1 + (r.n : Int)), IntKind.i64.wrap (z.2 + (1 : Int))) H2) (R z.1 H1)

theorem fathomref01_Disk_Used.of {d : Option Addr} {H : Heap} {R : Int → Heap → Prop} (hvc : fathomref01_Disk_Used.vc d H R) : fathomref01_Disk_Used.sp d H R :=
  specT_of_vc prog_ng prog_mixed (c := (cInt .i64)) (A := [(3, [(3, (cInt .i64)), (4, (cInt .i64))])]) (args := [(.pointer d)]) (Eq.mpr (by kernel_rfl : vcFT (cInt .i64) Tryz.prog fathomref01_Disk_Used.no [(3, [(3, (cInt .i64)), (4, (cInt .i64))])] [(.pointer d)] H R = fathomref01_Disk_Used.vc d H R) hvc)

/-- (*fathom/fathomref01.Disk).Len -/
def fathomref01_Disk_Len.vc (d : Option Addr) (name : ByteArray) (H : Heap) (R : (Int × Int) → Heap → Prop) : Prop :=
  fathomref01_Disk_find.sp d name H fun (i : Int) H1 => optK d fun a => ld cBool H1 (a.add 8) fun (x : Bool) => br x (R ((0 : Int), (4 : Int)) H1) (br (decide (i < (0 : Int))) (R ((0 : Int), (11 : Int)) H1) (optK d fun a_1 => ld cSl H1 (a_1.add 0) fun (x_1 : Sl) => optK x_1.a fun a_2 => (0 ≤ i ∧ i < (x_1.n : Int)) ∧ ldA (cAgg [cStr, cSl, cSl]) 3 H1 (a_2.add (i.toNat * 3)) fun (x_2 : (ByteArray × Sl × Sl)) => fathomref01_File_Pages.sp x_2.1 x_2.2.1 x_2.2.2 H1 fun (r : Sl) H2 => R ((r.n : Int), (0 : Int)) H2))

theorem fathomref01_Disk_Len.of {d : Option Addr} {name : ByteArray} {H : Heap} {R : (Int × Int) → Heap → Prop} (hvc : fathomref01_Disk_Len.vc d name H R) : fathomref01_Disk_Len.sp d name H R :=
  specT_of_vc prog_ng prog_mixed (c := (cTup [(cInt .i64), (cInt .i64)])) (A := []) (args := [(.pointer d), (.string name)]) (Eq.mpr (by kernel_rfl : vcFT (cTup [(cInt .i64), (cInt .i64)]) Tryz.prog fathomref01_Disk_Len.no [] [(.pointer d), (.string name)] H R = fathomref01_Disk_Len.vc d name H R) hvc)

/-- (*fathom/disk.Disk).Read -/
def disk_Disk_Read.vc (d : Option Addr) (name : ByteArray) (page : Int) (H : Heap) (R : (Sl × Int) → Heap → Prop) : Prop :=
  disk_Disk_open.sp d name H fun (r : (Option Addr × Int)) H1 => cut Unit (fun J => br (r.2 != (0 : Int)) (R ((Sl.mk none 0 0), r.2) H1) (br (decide (page < (0 : Int))) (br (decide (page < (0 : Int))) (R ((Sl.mk none 0 0), (12 : Int)) H1) (J () H1)) (optK r.1 fun a => ld cSl H1 (a.add 0) fun (x : Sl) => br (decide (page ≥ (x.n : Int))) (R ((Sl.mk none 0 0), (12 : Int)) H1) (J () H1)))) fun (_ : Unit) H2 => optK r.1 fun a_1 => ld cSl H2 (a_1.add 0) fun (x_1 : Sl) => optK x_1.a fun a_2 => (0 ≤ page ∧ page < (x_1.n : Int)) ∧ slices_Clone_sl_byte_byte.sp (Sl.mk (slA (some (a_2.add (page.toNat * 512))) 512 0 1) (512 - 0) (512 - 0)) H2 fun (r_1 : Sl) H3 => R (r_1, (0 : Int)) H3

theorem disk_Disk_Read.of {d : Option Addr} {name : ByteArray} {page : Int} {H : Heap} {R : (Sl × Int) → Heap → Prop} (hvc : disk_Disk_Read.vc d name page H R) : disk_Disk_Read.sp d name page H R :=
  specT_of_vc prog_ng prog_mixed (c := (cTup [cSl, (cInt .i64)])) (A := [(100007, [])]) (args := [(.pointer d), (.string name), (.int .i64 page)]) (Eq.mpr (by kernel_rfl : vcFT (cTup [cSl, (cInt .i64)]) Tryz.prog disk_Disk_Read.no [(100007, [])] [(.pointer d), (.string name), (.int .i64 page)] H R = disk_Disk_Read.vc d name page H R) hvc)

/-- (*fathom/fathomref01.Disk).Read -/
def fathomref01_Disk_Read.vc (d : Option Addr) (name : ByteArray) (page : Int) (H : Heap) (R : (Sl × Int) → Heap → Prop) : Prop :=
  fathomref01_Disk_find.sp d name H fun (i : Int) H1 => optK d fun a => ld cBool H1 (a.add 8) fun (x : Bool) => br x (R ((Sl.mk none 0 0), (4 : Int)) H1) (br (decide (i < (0 : Int))) (R ((Sl.mk none 0 0), (11 : Int)) H1) (optK d fun a_1 => ld cSl H1 (a_1.add 0) fun (x_1 : Sl) => optK x_1.a fun a_2 => (0 ≤ i ∧ i < (x_1.n : Int)) ∧ ldA (cAgg [cStr, cSl, cSl]) 3 H1 (a_2.add (i.toNat * 3)) fun (x_2 : (ByteArray × Sl × Sl)) => fathomref01_File_Pages.sp x_2.1 x_2.2.1 x_2.2.2 H1 fun (l : Sl) H2 => br ((decide (page < (0 : Int))) || (decide (page ≥ (l.n : Int)))) (R ((Sl.mk none 0 0), (12 : Int)) H2) (optK l.a fun a_3 => (0 ≤ page ∧ page < (l.n : Int)) ∧ ld cStr H2 (a_3.add (page.toNat * 1)) fun (x_3 : ByteArray) => doT cSl Tryz.prog (convert ty_string ty_sl_uint8 (.string x_3)) H2 fun (x_4 : Sl) H3 => R (x_4, (0 : Int)) H3)))

theorem fathomref01_Disk_Read.of {d : Option Addr} {name : ByteArray} {page : Int} {H : Heap} {R : (Sl × Int) → Heap → Prop} (hvc : fathomref01_Disk_Read.vc d name page H R) : fathomref01_Disk_Read.sp d name page H R :=
  specT_of_vc prog_ng prog_mixed (c := (cTup [cSl, (cInt .i64)])) (A := []) (args := [(.pointer d), (.string name), (.int .i64 page)]) (Eq.mpr (by kernel_rfl : vcFT (cTup [cSl, (cInt .i64)]) Tryz.prog fathomref01_Disk_Read.no [] [(.pointer d), (.string name), (.int .i64 page)] H R = fathomref01_Disk_Read.vc d name page H R) hvc)

/-- (*fathom/disk.Disk).Len -/
def disk_Disk_Len.vc (d : Option Addr) (name : ByteArray) (H : Heap) (R : (Int × Int) → Heap → Prop) : Prop :=
  disk_Disk_open.sp d name H fun (r : (Option Addr × Int)) H1 => br (r.2 != (0 : Int)) (R ((0 : Int), r.2) H1) (optK r.1 fun a => ld cSl H1 (a.add 0) fun (x : Sl) => R ((x.n : Int), (0 : Int)) H1)

theorem disk_Disk_Len.of {d : Option Addr} {name : ByteArray} {H : Heap} {R : (Int × Int) → Heap → Prop} (hvc : disk_Disk_Len.vc d name H R) : disk_Disk_Len.sp d name H R :=
  specT_of_vc prog_ng prog_mixed (c := (cTup [(cInt .i64), (cInt .i64)])) (A := []) (args := [(.pointer d), (.string name)]) (Eq.mpr (by kernel_rfl : vcFT (cTup [(cInt .i64), (cInt .i64)]) Tryz.prog disk_Disk_Len.no [] [(.pointer d), (.string name)] H R = disk_Disk_Len.vc d name H R) hvc)

/-- (*fathom/disk.Disk).Write -/
def disk_Disk_Write.vc (d : Option Addr) (name : ByteArray) (page : Int) (b : Sl) (H : Heap) (R : Int → Heap → Prop) : Prop :=
  disk_Disk_ready.sp d H fun (e : Int) H1 => br (e != (0 : Int)) (R e H1) (br ((b.n : Int) != (512 : Int)) (R (2 : Int) H1) (disk_Disk_open.sp d name H1 fun (r : (Option Addr × Int)) H2 => cut Unit (fun J => br (r.2 != (0 : Int)) (R r.2 H2) (br (decide (page < (0 : Int))) (br (decide (page < (0 : Int))) (R (12 : Int) H2) (optK r.1 fun a => ld cSl H2 (a.add 0) fun (x : Sl) => br (page == (x.n : Int)) (optK d fun a_1 => ld (cInt .i64) H2 (a_1.add 1) fun (x_1 : Int) => optK d fun a_2 => ld (cInt .i64) H2 (a_2.add 3) fun (x_2 : Int) => br (x_1 == x_2) (R (5 : Int) H2) (J () H2)) (J () H2))) (optK r.1 fun a_3 => ld cSl H2 (a_3.add 0) fun (x_3 : Sl) => br (decide (page > (x_3.n : Int))) (R (12 : Int) H2) (optK r.1 fun a_4 => ld cSl H2 (a_4.add 0) fun (x_4 : Sl) => br (page == (x_4.n : Int)) (optK d fun a_5 => ld (cInt .i64) H2 (a_5.add 1) fun (x_5 : Int) => optK d fun a_6 => ld (cInt .i64) H2 (a_6.add 3) fun (x_6 : Int) => br (x_5 == x_6) (R (5 : Int) H2) (J () H2)) (J () H2))))) fun (_ : Unit) H3 => disk_Disk_change.sp d H3 fun (e_1 : Int) H4 => br (e_1 != (0 : Int)) (R e_1 H4) (cut Unit (fun J_1 => optK r.1 fun a_7 => ld cSl H4 (a_7.add 0) fun (x_7 : Sl) => br (page == (x_7.n : Int)) (optK d fun a_8 => ld (cInt .i64) H4 (a_8.add 1) fun (x_8 : Int) => optK d fun a_9 => st H4 (a_9.add 1) (.int .i64 (IntKind.i64.wrap (x_8 + (1 : Int)))) fun H6 => optK d fun a_10 => ld (cInt .i64) H6 (a_10.add 2) fun (x_9 : Int) => optK d fun a_11 => ld (cInt .i64) H6 (a_11.add 1) fun (x_10 : Int) => optK d fun a_12 => st H6 (a_12.add 2) (.int .i64 (if x_10 > x_9 then x_10 else x_9)) fun H7 => J_1 () H7) (J_1 () H4)) fun (_ : Unit) H5 => ∃ G : Heap → Prop, G H5 ∧ optK r.1 fun a_13 => ldC cSl G (a_13.add 2) fun (x_11 : Sl) => optK d fun a_14 => ld (cInt .i64) H5 (a_14.add 5) fun (x_12 : Int) => 512 ≤ b.n ∧ optK b.a fun a_15 => ldAC cArr 512 G a_15 fun (x_13 : Array Value) => pureV cArr Tryz.prog (Instr.build ty_disk_mark #[(0, (.int .i64 x_12)), (1, (.int .i64 page)), (2, (.agg x_13))]) fun (y : Array Value) => doT cSl Tryz.prog (Instr.buildSlice ty_sl_disk_mark 1 #[(0, (.agg y))]) H5 fun (sl : Sl) H8 => G H8 ∧ doT cSl Tryz.prog (Builtin.append_ #[ty_sl_disk_mark, ty_sl_disk_mark] ty_sl_disk_mark #[x_11.v, sl.v]) H8 fun (s : Sl) H9 => optK r.1 fun a_16 => st H9 (a_16.add 2) s.v fun H10 => optK r.1 fun a_17 => ld cSl H10 (a_17.add 0) fun (x_14 : Sl) => 512 ≤ b.n ∧ optK b.a fun a_18 => ldA cArr 512 H10 a_18 fun (x_15 : Array Value) => disk_put.sp x_14 page x_15 H10 fun (r_1 : Sl) H11 => optK r.1 fun a_19 => st H11 (a_19.add 0) r_1.v fun H12 => optK d fun a_20 => ld (cInt .i64) H12 (a_20.add 5) fun (x_16 : Int) => optK d fun a_21 => st H12 (a_21.add 5) (.int .i64 (IntKind.i64.wrap (x_16 + (1 : Int)))) fun H13 => R (0 : Int) H13)))

theorem disk_Disk_Write.of {d : Option Addr} {name : ByteArray} {page : Int} {b : Sl} {H : Heap} {R : Int → Heap → Prop} (hvc : disk_Disk_Write.vc d name page b H R) : disk_Disk_Write.sp d name page b H R :=
  specT_of_vc prog_ng prog_mixed (c := (cInt .i64)) (A := [(100014, []), (100020, [])]) (args := [(.pointer d), (.string name), (.int .i64 page), b.v]) (Eq.mpr (by kernel_rfl : vcFT (cInt .i64) Tryz.prog disk_Disk_Write.no [(100014, []), (100020, [])] [(.pointer d), (.string name), (.int .i64 page), b.v] H R = disk_Disk_Write.vc d name page b H R) hvc)

/-- fathom/page.Seal -/
def page_Seal.vc (kind : Int) (b : Sl) (H : Heap) (R : (Sl × Int) → Heap → Prop) : Prop :=
  br (decide ((b.n : Int) > (504 : Int))) (R ((Sl.mk none 0 0), (2 : Int)) H) (newC H (zc Tryz.prog ty_arr_512_uint8) ty_arr_512_uint8 fun p H1 => (0 ≤ (4 : Int) ∧ (4 : Int) < ((512 : Nat) : Int)) ∧ st H1 (p.add ((4 : Int).toNat * 1)) (.int .u8 (IntKind.u8.wrap (b.n : Int))) fun H2 => (0 ≤ (5 : Int) ∧ (5 : Int) < ((512 : Nat) : Int)) ∧ st H2 (p.add ((5 : Int).toNat * 1)) (.int .u8 (IntKind.u8.wrap (ishr .i64 (b.n : Int) (8 : Int)))) fun H3 => (0 ≤ (6 : Int) ∧ (6 : Int) < ((512 : Nat) : Int)) ∧ st H3 (p.add ((6 : Int).toNat * 1)) (.int .u8 kind) fun H4 => (0 ≤ (7 : Int) ∧ (7 : Int) < ((512 : Nat) : Int)) ∧ st H4 (p.add ((7 : Int).toNat * 1)) (.int .u8 (157 : Int)) fun H5 => (0 ≤ (8 : Int) ∧ (8 : Int) ≤ (512 : Int)) ∧ doT (cInt .i64) Tryz.prog (Builtin.copy_ #[ty_sl_uint8, ty_sl_uint8] ty_int #[(.slice (slA (some p) 512 ((8 : Int).toNat) 1) (512 - ((8 : Int).toNat)) (512 - ((8 : Int).toNat))), b.v]) H5 fun (_ : Int) H6 => (0 ≤ (4 : Int) ∧ (4 : Int) ≤ (512 : Int)) ∧ page_Sum.sp (Sl.mk (slA (some p) 512 ((4 : Int).toNat) 1) (512 - ((4 : Int).toNat)) (512 - ((4 : Int).toNat))) H6 fun (n : Int) H7 => LoopVC Int (0 : Int) H7 fun next z H8 => br (decide (z < (4 : Int))) (0 ≤ (IntKind.i64.wrap ((8 : Int) * z)) ∧ (0 ≤ z ∧ z < ((512 : Nat) : Int)) ∧ st H8 (p.add (z.toNat * 1)) (.int .u8 (IntKind.u8.wrap (ishr .u32 n (IntKind.i64.wrap ((8 : Int) * z))))) fun H9 => next (IntKind.i64.wrap (z + (1 : Int))) H9) (slices_Clone_sl_byte_byte.sp (Sl.mk (slA (some p) 512 0 1) (512 - 0) (512 - 0)) H8 fun (r : Sl) H10 => R (r, (0 : Int)) H10))

theorem page_Seal.of {kind : Int} {b : Sl} {H : Heap} {R : (Sl × Int) → Heap → Prop} (hvc : page_Seal.vc kind b H R) : page_Seal.sp kind b H R :=
  specT_of_vc prog_ng prog_mixed (c := (cTup [cSl, (cInt .i64)])) (A := [(9, [(29, (cInt .i64))])]) (args := [(.int .u8 kind), b.v]) (Eq.mpr (by kernel_rfl : vcFT (cTup [cSl, (cInt .i64)]) Tryz.prog page_Seal.no [(9, [(29, (cInt .i64))])] [(.int .u8 kind), b.v] H R = page_Seal.vc kind b H R) hvc)

/-- fathom/disk.named -/
def disk_named.vc (s : ByteArray) (H : Heap) (R : Bool → Heap → Prop) : Prop :=
  R ((!(s.toList == ByteArray.empty.toList)) && (decide ((s.size : Int) ≤ (100 : Int)))) H

theorem disk_named.of {s : ByteArray} {H : Heap} {R : Bool → Heap → Prop} (hvc : disk_named.vc s H R) : disk_named.sp s H R :=
  specT_of_vc prog_ng prog_mixed (c := cBool) (A := []) (args := [(.string s)]) (Eq.mpr (by kernel_rfl : vcFT cBool Tryz.prog disk_named.no [] [(.string s)] H R = disk_named.vc s H R) hvc)

/-- (*fathom/disk.Disk).change -/
def disk_Disk_change.vc (d : Option Addr) (H : Heap) (R : Int → Heap → Prop) : Prop :=
  optK d fun a => ld cBool H ((a.add 6).add 0) fun (x : Bool) => br x (optK d fun a_1 => ld (cInt .i64) H ((a_1.add 6).add 1) fun (x_1 : Int) => br (x_1 == (0 : Int)) (optK d fun a_2 => st H (a_2.add 9) (.bool true) fun H1 => R (4 : Int) H1) (optK d fun a_3 => ld (cInt .i64) H ((a_3.add 6).add 1) fun (x_2 : Int) => optK d fun a_4 => st H ((a_4.add 6).add 1) (.int .i64 (IntKind.i64.wrap (x_2 - (1 : Int)))) fun H2 => optK d fun a_5 => ld (cInt .i64) H2 (a_5.add 4) fun (x_3 : Int) => optK d fun a_6 => st H2 (a_6.add 4) (.int .i64 (IntKind.i64.wrap (x_3 + (1 : Int)))) fun H3 => R (0 : Int) H3)) (optK d fun a_7 => ld (cInt .i64) H (a_7.add 4) fun (x_4 : Int) => optK d fun a_8 => st H (a_8.add 4) (.int .i64 (IntKind.i64.wrap (x_4 + (1 : Int)))) fun H4 => R (0 : Int) H4)

theorem disk_Disk_change.of {d : Option Addr} {H : Heap} {R : Int → Heap → Prop} (hvc : disk_Disk_change.vc d H R) : disk_Disk_change.sp d H R :=
  specT_of_vc prog_ng prog_mixed (c := (cInt .i64)) (A := []) (args := [(.pointer d)]) (Eq.mpr (by kernel_rfl : vcFT (cInt .i64) Tryz.prog disk_Disk_change.no [] [(.pointer d)] H R = disk_Disk_change.vc d H R) hvc)

/-- (*fathom/pool.Pool).ready -/
def pool_Pool_ready.vc (p : Option Addr) (H : Heap) (R : Int → Heap → Prop) : Prop :=
  br p.isNone (R (1 : Int) H) (optK p fun a => ld (cInt .i64) H (a.add 7) fun (x : Int) => R x H)

theorem pool_Pool_ready.of {p : Option Addr} {H : Heap} {R : Int → Heap → Prop} (hvc : pool_Pool_ready.vc p H R) : pool_Pool_ready.sp p H R :=
  specT_of_vc prog_ng prog_mixed (c := (cInt .i64)) (A := []) (args := [(.pointer p)]) (Eq.mpr (by kernel_rfl : vcFT (cInt .i64) Tryz.prog pool_Pool_ready.no [] [(.pointer p)] H R = pool_Pool_ready.vc p H R) hvc)

/-- (*fathom/pool.Pool).room -/
def pool_Pool_room.vc (p : Option Addr) (H : Heap) (R : Int → Heap → Prop) : Prop :=
  optK p fun a => ld cMap H (a.add 2) fun (x : Option Nat) => lenM H x fun (n : Nat) => optK p fun a_1 => ld (cInt .i64) H (a_1.add 1) fun (x_1 : Int) => br (decide ((n : Int) < x_1)) (R (0 : Int) H) (pool_Pool_first.sp p H fun (f : Option Addr) H1 => br f.isNone (R (31 : Int) H1) (optK f fun a_2 => ld cBool H1 (a_2.add 4) fun (x_2 : Bool) => br x_2 (pool_Pool_write.sp p f H1 fun (e : Int) H2 => br (e != (0 : Int)) (R e H2) (optK p fun a_3 => ld cMap H2 (a_3.add 2) fun (x_3 : Option Nat) => optK f fun a_4 => ldA (cAgg [cStr, (cInt .i64)]) 2 H2 (a_4.add 0) fun (x_4 : (ByteArray × Int)) => doT cRaw Tryz.prog (Builtin.delete_ #[ty_maparr_pool_spot_ptr_pool_frame, ty_pool_spot] ty_ #[(.map x_3), (.agg #[(.string x_4.1), (.int .i64 x_4.2)])]) H2 fun (_ : Value) H3 => R (0 : Int) H3)) (optK p fun a_5 => ld cMap H1 (a_5.add 2) fun (x_5 : Option Nat) => optK f fun a_6 => ldA (cAgg [cStr, (cInt .i64)]) 2 H1 (a_6.add 0) fun (x_6 : (ByteArray × Int)) => doT cRaw Tryz.prog (Builtin.delete_ #[ty_maparr_pool_spot_ptr_pool_frame, ty_pool_spot] ty_ #[(.map x_5), (.agg #[(.string x_6.1), (.int .i64 x_6.2)])]) H1 fun (_ : Value) H4 => R (0 : Int) H4)))

theorem pool_Pool_room.of {p : Option Addr} {H : Heap} {R : Int → Heap → Prop} (hvc : pool_Pool_room.vc p H R) : pool_Pool_room.sp p H R :=
  specT_of_vc prog_ng prog_mixed (c := (cInt .i64)) (A := []) (args := [(.pointer p)]) (Eq.mpr (by kernel_rfl : vcFT (cInt .i64) Tryz.prog pool_Pool_room.no [] [(.pointer p)] H R = pool_Pool_room.vc p H R) hvc)

/-- (*fathom/pool.Pool).write -/
def pool_Pool_write.vc (p : Option Addr) (f : Option Addr) (H : Heap) (R : Int → Heap → Prop) : Prop :=
  optK f fun a => ld (cInt .u8) H (a.add 2) fun (x : Int) => optK f fun a_1 => ld cSl H (a_1.add 3) fun (x_1 : Sl) => page_Seal.sp x x_1 H fun (r : (Sl × Int)) H1 => br (r.2 != (0 : Int)) (R r.2 H1) (optK p fun a_2 => ld cPtr H1 (a_2.add 0) fun (x_2 : Option Addr) => optK f fun a_3 => ld cStr H1 ((a_3.add 0).add 0) fun (x_3 : ByteArray) => optK f fun a_4 => ld (cInt .i64) H1 ((a_4.add 0).add 1) fun (x_4 : Int) => disk_Disk_Write.sp x_2 x_3 x_4 r.1 H1 fun (e : Int) H2 => br (e == (0 : Int)) (optK f fun a_5 => st H2 (a_5.add 4) (.bool false) fun H3 => R e H3) (R e H2))

theorem pool_Pool_write.of {p : Option Addr} {f : Option Addr} {H : Heap} {R : Int → Heap → Prop} (hvc : pool_Pool_write.vc p f H R) : pool_Pool_write.sp p f H R :=
  specT_of_vc prog_ng prog_mixed (c := (cInt .i64)) (A := []) (args := [(.pointer p), (.pointer f)]) (Eq.mpr (by kernel_rfl : vcFT (cInt .i64) Tryz.prog pool_Pool_write.no [] [(.pointer p), (.pointer f)] H R = pool_Pool_write.vc p f H R) hvc)

/-- (*fathom/pool.Pool).met -/
def pool_Pool_met.vc (p : Option Addr) (e : Int) (H : Heap) (R : Int → Heap → Prop) : Prop :=
  br (e == (4 : Int)) (br (e == (4 : Int)) (optK p fun a => st H (a.add 7) (.int .i64 e) fun H1 => R e H1) (R e H)) (br (e == (5 : Int)) (br (e == (5 : Int)) (optK p fun a_1 => st H (a_1.add 7) (.int .i64 e) fun H2 => R e H2) (R e H)) (br (e == (20 : Int)) (optK p fun a_2 => st H (a_2.add 7) (.int .i64 e) fun H3 => R e H3) (R e H)))

theorem pool_Pool_met.of {p : Option Addr} {e : Int} {H : Heap} {R : Int → Heap → Prop} (hvc : pool_Pool_met.vc p e H R) : pool_Pool_met.sp p e H R :=
  specT_of_vc prog_ng prog_mixed (c := (cInt .i64)) (A := []) (args := [(.pointer p), (.int .i64 e)]) (Eq.mpr (by kernel_rfl : vcFT (cInt .i64) Tryz.prog pool_Pool_met.no [] [(.pointer p), (.int .i64 e)] H R = pool_Pool_met.vc p e H R) hvc)

/-- (*fathom/pool.Pool).take -/
def pool_Pool_take.vc (p : Option Addr) (f : Option Addr) (H : Heap) (R : Int → Heap → Prop) : Prop :=
  optK p fun a => ld cMap H (a.add 2) fun (x : Option Nat) => optK f fun a_1 => ldA (cAgg [cStr, (cInt .i64)]) 2 H (a_1.add 0) fun (x_1 : (ByteArray × Int)) => doU Tryz.prog (Instr.mapUpdate ty_maparr_pool_spot_ptr_pool_frame (.map x) (.agg #[(.string x_1.1), (.int .i64 x_1.2)]) (.pointer f)) H fun H1 => optK p fun a_2 => ld (cInt .i64) H1 (a_2.add 6) fun (x_2 : Int) => optK p fun a_3 => ld cMap H1 (a_3.add 2) fun (x_3 : Option Nat) => lenM H1 x_3 fun (n : Nat) => optK p fun a_4 => st H1 (a_4.add 6) (.int .i64 (if (n : Int) > x_2 then (n : Int) else x_2)) fun H2 => pool_Pool_pin.sp p f H2 fun (r : Int) H3 => R r H3

theorem pool_Pool_take.of {p : Option Addr} {f : Option Addr} {H : Heap} {R : Int → Heap → Prop} (hvc : pool_Pool_take.vc p f H R) : pool_Pool_take.sp p f H R :=
  specT_of_vc prog_ng prog_mixed (c := (cInt .i64)) (A := []) (args := [(.pointer p), (.pointer f)]) (Eq.mpr (by kernel_rfl : vcFT (cInt .i64) Tryz.prog pool_Pool_take.no [] [(.pointer p), (.pointer f)] H R = pool_Pool_take.vc p f H R) hvc)

/-- (*fathom/pool.Pool).held -/
def pool_Pool_held.vc (p : Option Addr) (h : Int) (H : Heap) (R : (Option Addr × Int) → Heap → Prop) : Prop :=
  pool_Pool_ready.sp p H fun (e : Int) H1 => br (e != (0 : Int)) (R (none, e) H1) (optK p fun a => ld cMap H1 (a.add 3) fun (x : Option Nat) => rdV (cTup [cPtr, cBool]) Tryz.prog (Instr.lookup ty_maparr_int_ptr_pool_frame (.map x) (.int .i64 h) true) H1 fun (x_1 : (Option Addr × Bool)) => br x_1.2 (R (x_1.1, (0 : Int)) H1) (R (none, (32 : Int)) H1))

theorem pool_Pool_held.of {p : Option Addr} {h : Int} {H : Heap} {R : (Option Addr × Int) → Heap → Prop} (hvc : pool_Pool_held.vc p h H R) : pool_Pool_held.sp p h H R :=
  specT_of_vc prog_ng prog_mixed (c := (cTup [cPtr, (cInt .i64)])) (A := []) (args := [(.pointer p), (.int .i64 h)]) (Eq.mpr (by kernel_rfl : vcFT (cTup [cPtr, (cInt .i64)]) Tryz.prog pool_Pool_held.no [] [(.pointer p), (.int .i64 h)] H R = pool_Pool_held.vc p h H R) hvc)

/-- slices.Clone[[]byte,byte] -/
def slices_Clone_sl_byte_byte.vc (s : Sl) (H : Heap) (R : Sl → Heap → Prop) : Prop :=
  br s.a.isNone (R (Sl.mk none 0 0) H) (newC H #[] ty_uint8 fun p H1 => doT cSl Tryz.prog (Builtin.append_ #[ty_sl_uint8, ty_sl_uint8] ty_sl_uint8 #[(.slice (some p) 0 0), s.v]) H1 fun (s_1 : Sl) H2 => R s_1 H2)

theorem slices_Clone_sl_byte_byte.of {s : Sl} {H : Heap} {R : Sl → Heap → Prop} (hvc : slices_Clone_sl_byte_byte.vc s H R) : slices_Clone_sl_byte_byte.sp s H R :=
  specT_of_vc prog_ng prog_mixed (c := cSl) (A := []) (args := [s.v]) (Eq.mpr (by kernel_rfl : vcFT cSl Tryz.prog slices_Clone_sl_byte_byte.no [] [s.v] H R = slices_Clone_sl_byte_byte.vc s H R) hvc)

/-- (*fathom/pool.Pool).of -/
def pool_Pool_of.vc (p : Option Addr) (name : ByteArray) (H : Heap) (R : Sl → Heap → Prop) : Prop :=
  newC H #[(.string name)] ty_string fun p_1 H1 => optK p fun a => ld cMap H1 (a.add 2) fun (x : Option Nat) => maps_Values_map_pool_spot_ptr_pool_frame_pool_spot_ptr_pool_frame.sp x H1 fun (r : Value) H2 => slices_Collect_ptr_pool_frame.sp r H2 fun (r_1 : Sl) H3 => slices_DeleteFunc_sl_ptr_pool_frame_ptr_pool_frame.sp r_1 p_1 H3 fun (l : Sl) H4 => slices_SortFunc_sl_ptr_pool_frame_ptr_pool_frame.sp l (.func (.func pool_Pool_of_c2.no) #[] #[]) H4 fun (_ : Unit) H5 => R l H5

theorem pool_Pool_of.of {p : Option Addr} {name : ByteArray} {H : Heap} {R : Sl → Heap → Prop} (hvc : pool_Pool_of.vc p name H R) : pool_Pool_of.sp p name H R :=
  specT_of_vc prog_ng prog_mixed (c := cSl) (A := []) (args := [(.pointer p), (.string name)]) (Eq.mpr (by kernel_rfl : vcFT cSl Tryz.prog pool_Pool_of.no [] [(.pointer p), (.string name)] H R = pool_Pool_of.vc p name H R) hvc)

/-- (*fathom/disk.Disk).Sync -/
def disk_Disk_Sync.vc (d : Option Addr) (name : ByteArray) (H : Heap) (R : Int → Heap → Prop) : Prop :=
  disk_Disk_open.sp d name H fun (r : (Option Addr × Int)) H1 => br (r.2 != (0 : Int)) (R r.2 H1) (disk_Disk_change.sp d H1 fun (e : Int) H2 => br (e == (0 : Int)) (optK r.1 fun a => ld cSl H2 (a.add 0) fun (x : Sl) => slices_Clone_sl_disk_sheet_disk_sheet.sp x H2 fun (r_1 : Sl) H3 => optK r.1 fun a_1 => st H3 (a_1.add 1) r_1.v fun H4 => optK r.1 fun a_2 => st H4 (a_2.add 2) (.slice none 0 0) fun H5 => R e H5) (R e H2))

theorem disk_Disk_Sync.of {d : Option Addr} {name : ByteArray} {H : Heap} {R : Int → Heap → Prop} (hvc : disk_Disk_Sync.vc d name H R) : disk_Disk_Sync.sp d name H R :=
  specT_of_vc prog_ng prog_mixed (c := (cInt .i64)) (A := []) (args := [(.pointer d), (.string name)]) (Eq.mpr (by kernel_rfl : vcFT (cInt .i64) Tryz.prog disk_Disk_Sync.no [] [(.pointer d), (.string name)] H R = disk_Disk_Sync.vc d name H R) hvc)

/-- (*fathom/pool.Pool).pin -/
def pool_Pool_pin.vc (p : Option Addr) (f : Option Addr) (H : Heap) (R : Int → Heap → Prop) : Prop :=
  optK f fun a => ld (cInt .i64) H (a.add 5) fun (x : Int) => optK f fun a_1 => st H (a_1.add 5) (.int .i64 (IntKind.i64.wrap (x + (1 : Int)))) fun H1 => optK p fun a_2 => ld cMap H1 (a_2.add 3) fun (x_1 : Option Nat) => optK p fun a_3 => ld (cInt .i64) H1 (a_3.add 4) fun (x_2 : Int) => doU Tryz.prog (Instr.mapUpdate ty_maparr_int_ptr_pool_frame (.map x_1) (.int .i64 x_2) (.pointer f)) H1 fun H2 => optK p fun a_4 => ld (cInt .i64) H2 (a_4.add 4) fun (x_3 : Int) => optK p fun a_5 => st H2 (a_5.add 4) (.int .i64 (IntKind.i64.wrap (x_3 + (1 : Int)))) fun H3 => optK p fun a_6 => ld (cInt .i64) H3 (a_6.add 4) fun (x_4 : Int) => R (IntKind.i64.wrap (x_4 - (1 : Int))) H3

theorem pool_Pool_pin.of {p : Option Addr} {f : Option Addr} {H : Heap} {R : Int → Heap → Prop} (hvc : pool_Pool_pin.vc p f H R) : pool_Pool_pin.sp p f H R :=
  specT_of_vc prog_ng prog_mixed (c := (cInt .i64)) (A := []) (args := [(.pointer p), (.pointer f)]) (Eq.mpr (by kernel_rfl : vcFT (cInt .i64) Tryz.prog pool_Pool_pin.no [] [(.pointer p), (.pointer f)] H R = pool_Pool_pin.vc p f H R) hvc)

/-- (*fathom/pool.Pool).load -/
def pool_Pool_load.vc (p : Option Addr) (at_ : ByteArray) (at_1 : Int) (H : Heap) (R : (Option Addr × Int) → Heap → Prop) : Prop :=
  newC H #[(.string at_), (.int .i64 at_1)] ty_pool_spot fun p_1 H1 => optK p fun a => ld cPtr H1 (a.add 0) fun (x : Option Addr) => ld cStr H1 (p_1.add 0) fun (x_1 : ByteArray) => disk_Disk_Len.sp x x_1 H1 fun (r : (Int × Int)) H2 => br (r.2 != (0 : Int)) (R (none, r.2) H2) (ld (cInt .i64) H2 (p_1.add 1) fun (x_2 : Int) => br (decide (x_2 < (0 : Int))) (R (none, (12 : Int)) H2) (ld (cInt .i64) H2 (p_1.add 1) fun (x_3 : Int) => br (decide (x_3 ≥ r.1)) (R (none, (12 : Int)) H2) (pool_Pool_room.sp p H2 fun (e : Int) H3 => br (e != (0 : Int)) (R (none, e) H3) (optK p fun a_1 => ld cPtr H3 (a_1.add 0) fun (x_4 : Option Addr) => ld cStr H3 (p_1.add 0) fun (x_5 : ByteArray) => ld (cInt .i64) H3 (p_1.add 1) fun (x_6 : Int) => disk_Disk_Read.sp x_4 x_5 x_6 H3 fun (r_1 : (Sl × Int)) H4 => br (r_1.2 != (0 : Int)) (R (none, r_1.2) H4) (ldA (cAgg [cStr, (cInt .i64)]) 2 H4 p_1 fun (x_7 : (ByteArray × Int)) => newC H4 #[(.string x_7.1), (.int .i64 x_7.2), (.int .u8 (0 : Int)), (.slice none 0 0), (.bool false), (.int .i64 (0 : Int)), (.int .i64 (0 : Int))] ty_pool_frame fun f_p H5 => page_Open.sp r_1.1 H5 fun (r_2 : (Int × Sl × Int)) H6 => st H6 (f_p.add 2) (.int .u8 r_2.1) fun H7 => st H7 (f_p.add 3) r_2.2.1.v fun H8 => R (some f_p, r_2.2.2) H8)))))

theorem pool_Pool_load.of {p : Option Addr} {at_ : ByteArray} {at_1 : Int} {H : Heap} {R : (Option Addr × Int) → Heap → Prop} (hvc : pool_Pool_load.vc p at_ at_1 H R) : pool_Pool_load.sp p at_ at_1 H R :=
  specT_of_vc prog_ng prog_mixed (c := (cTup [cPtr, (cInt .i64)])) (A := []) (args := [(.pointer p), (.agg #[(.string at_), (.int .i64 at_1)])]) (Eq.mpr (by kernel_rfl : vcFT (cTup [cPtr, (cInt .i64)]) Tryz.prog pool_Pool_load.no [] [(.pointer p), (.agg #[(.string at_), (.int .i64 at_1)])] H R = pool_Pool_load.vc p at_ at_1 H R) hvc)

/-- (*fathom/fathomref03.Pool).find -/
def fathomref03_Pool_find.vc (p : Option Addr) (name : ByteArray) (page : Int) (H : Heap) (R : Int → Heap → Prop) : Prop :=
  LoopVC Int (0 : Int) H fun next i H1 => optK p fun a => ld cSl H1 (a.add 2) fun (x : Sl) => br (decide (i < (x.n : Int))) (optK p fun a_1 => ld cSl H1 (a_1.add 2) fun (x_1 : Sl) => optK x_1.a fun a_2 => (0 ≤ i ∧ i < (x_1.n : Int)) ∧ ld cStr H1 ((a_2.add (i.toNat * 7)).add 0) fun (x_2 : ByteArray) => br (x_2.toList == name.toList) (optK p fun a_3 => ld cSl H1 (a_3.add 2) fun (x_3 : Sl) => optK x_3.a fun a_4 => (0 ≤ i ∧ i < (x_3.n : Int)) ∧ ld (cInt .i64) H1 ((a_4.add (i.toNat * 7)).add 1) fun (x_4 : Int) => br (x_4 == page) (R i H1) (next (IntKind.i64.wrap (i + (1 : Int))) H1)) (next (IntKind.i64.wrap (i + (1 : Int))) H1)) (R (-1 : Int) H1)

theorem fathomref03_Pool_find.of {p : Option Addr} {name : ByteArray} {page : Int} {H : Heap} {R : Int → Heap → Prop} (hvc : fathomref03_Pool_find.vc p name page H R) : fathomref03_Pool_find.sp p name page H R :=
  specT_of_vc prog_ng prog_mixed (c := (cInt .i64)) (A := [(2, [(7, (cInt .i64))])]) (args := [(.pointer p), (.string name), (.int .i64 page)]) (Eq.mpr (by kernel_rfl : vcFT (cInt .i64) Tryz.prog fathomref03_Pool_find.no [(2, [(7, (cInt .i64))])] [(.pointer p), (.string name), (.int .i64 page)] H R = fathomref03_Pool_find.vc p name page H R) hvc)

/-- (*fathom/fathomref03.Pool).pin -/
def fathomref03_Pool_pin.vc (p : Option Addr) (i : Int) (H : Heap) (R : Int → Heap → Prop) : Prop :=
  ∃ G : Heap → Prop, G H ∧ optK p fun a => ldC cSl G (a.add 2) fun (x : Sl) => optK p fun a_1 => ldC cSl G (a_1.add 2) fun (x_1 : Sl) => optK x_1.a fun a_2 => (0 ≤ i ∧ i < (x_1.n : Int)) ∧ ldC cSl G ((a_2.add (i.toNat * 7)).add 5) fun (x_2 : Sl) => optK p fun a_3 => ld (cInt .i64) H (a_3.add 3) fun (x_3 : Int) => newC H #[(.int .i64 x_3)] ty_int fun p_1 H1 => G H1 ∧ doT cSl Tryz.prog (Builtin.append_ #[ty_sl_int, ty_sl_int] ty_sl_int #[x_2.v, (.slice (some p_1) 1 1)]) H1 fun (s : Sl) H2 => G H2 ∧ optK x.a fun a_4 => (0 ≤ i ∧ i < (x.n : Int)) ∧ st H2 ((a_4.add (i.toNat * 7)).add 5) s.v fun H3 => optK p fun a_5 => ld (cInt .i64) H3 (a_5.add 3) fun (x_4 : Int) => optK p fun a_6 => st H3 (a_6.add 3) (.int .i64 (IntKind.i64.wrap (x_4 + (1 : Int)))) fun H4 => optK p fun a_7 => ld (cInt .i64) H4 (a_7.add 3) fun (x_5 : Int) => R (IntKind.i64.wrap (x_5 - (1 : Int))) H4

theorem fathomref03_Pool_pin.of {p : Option Addr} {i : Int} {H : Heap} {R : Int → Heap → Prop} (hvc : fathomref03_Pool_pin.vc p i H R) : fathomref03_Pool_pin.sp p i H R :=
  specT_of_vc prog_ng prog_mixed (c := (cInt .i64)) (A := []) (args := [(.pointer p), (.int .i64 i)]) (Eq.mpr (by kernel_rfl : vcFT (cInt .i64) Tryz.prog fathomref03_Pool_pin.no [] [(.pointer p), (.int .i64 i)] H R = fathomref03_Pool_pin.vc p i H R) hvc)

/-- (*fathom/fathomref03.Pool).room -/
def fathomref03_Pool_room.vc (p : Option Addr) (H : Heap) (R : Int → Heap → Prop) : Prop :=
  optK p fun a => ld cSl H (a.add 2) fun (x : Sl) => optK p fun a_1 => ld (cInt .i64) H (a_1.add 1) fun (x_1 : Int) => br (decide ((x.n : Int) < x_1)) (R (0 : Int) H) (LoopVC (Int × Int) ((-1 : Int), (0 : Int)) H fun next z H1 => optK p fun a_2 => ld cSl H1 (a_2.add 2) fun (x_2 : Sl) => br (decide (z.2 < (x_2.n : Int))) (optK p fun a_3 => ld cSl H1 (a_3.add 2) fun (x_3 : Sl) => optK x_3.a fun a_4 => (0 ≤ z.2 ∧ z.2 < (x_3.n : Int)) ∧ ld cSl H1 ((a_4.add (z.2.toNat * 7)).add 5) fun (x_4 : Sl) => br (((x_4.n : Int) == (0 : Int)) == true) (br (decide (z.1 < (0 : Int))) (next (z.2, IntKind.i64.wrap (z.2 + (1 : Int))) H1) (optK p fun a_5 => ld cSl H1 (a_5.add 2) fun (x_5 : Sl) => optK x_5.a fun a_6 => (0 ≤ z.2 ∧ z.2 < (x_5.n : Int)) ∧ ld (cInt .i64) H1 ((a_6.add (z.2.toNat * 7)).add 6) fun (x_6 : Int) => optK p fun a_7 => ld cSl H1 (a_7.add 2) fun (x_7 : Sl) => optK x_7.a fun a_8 => (0 ≤ z.1 ∧ z.1 < (x_7.n : Int)) ∧ ld (cInt .i64) H1 ((a_8.add (z.1.toNat * 7)).add 6) fun (x_8 : Int) => br (decide (x_6 < x_8)) (next (z.2, IntKind.i64.wrap (z.2 + (1 : Int))) H1) (next (z.1, IntKind.i64.wrap (z.2 + (1 : Int))) H1))) (next (z.1, IntKind.i64.wrap (z.2 + (1 : Int))) H1)) (br (decide (z.1 < (0 : Int))) (R (31 : Int) H1) (optK p fun a_9 => ld cSl H1 (a_9.add 2) fun (x_9 : Sl) => optK x_9.a fun a_10 => (0 ≤ z.1 ∧ z.1 < (x_9.n : Int)) ∧ ld cBool H1 ((a_10.add (z.1.toNat * 7)).add 4) fun (x_10 : Bool) => br x_10 (fathomref03_Pool_write.sp p z.1 H1 fun (e : Int) H2 => br (e != (0 : Int)) (R e H2) (fathomref03_Pool_drop.sp p z.1 H2 fun (_ : Unit) H3 => R (0 : Int) H3)) (fathomref03_Pool_drop.sp p z.1 H1 fun (_ : Unit) H4 => R (0 : Int) H4))))

theorem fathomref03_Pool_room.of {p : Option Addr} {H : Heap} {R : Int → Heap → Prop} (hvc : fathomref03_Pool_room.vc p H R) : fathomref03_Pool_room.sp p H R :=
  specT_of_vc prog_ng prog_mixed (c := (cInt .i64)) (A := [(5, [(3, (cInt .i64)), (4, (cInt .i64))])]) (args := [(.pointer p)]) (Eq.mpr (by kernel_rfl : vcFT (cInt .i64) Tryz.prog fathomref03_Pool_room.no [(5, [(3, (cInt .i64)), (4, (cInt .i64))])] [(.pointer p)] H R = fathomref03_Pool_room.vc p H R) hvc)

/-- (*fathom/fathomref03.Pool).met -/
def fathomref03_Pool_met.vc (p : Option Addr) (e : Int) (H : Heap) (R : Int → Heap → Prop) : Prop :=
  br (((e == (4 : Int)) || (e == (5 : Int))) || (e == (20 : Int))) (optK p fun a => st H (a.add 6) (.int .i64 e) fun H1 => R e H1) (R e H)

theorem fathomref03_Pool_met.of {p : Option Addr} {e : Int} {H : Heap} {R : Int → Heap → Prop} (hvc : fathomref03_Pool_met.vc p e H R) : fathomref03_Pool_met.sp p e H R :=
  specT_of_vc prog_ng prog_mixed (c := (cInt .i64)) (A := []) (args := [(.pointer p), (.int .i64 e)]) (Eq.mpr (by kernel_rfl : vcFT (cInt .i64) Tryz.prog fathomref03_Pool_met.no [] [(.pointer p), (.int .i64 e)] H R = fathomref03_Pool_met.vc p e H R) hvc)

/-- fathom/fathomref02.Open -/
def fathomref02_Open.vc (b : Sl) (H : Heap) (R : (Int × Sl × Int) → Heap → Prop) : Prop :=
  br ((b.n : Int) != (512 : Int)) (R ((0 : Int), (Sl.mk none 0 0), (2 : Int)) H) (optK b.a fun a => (0 ≤ (4 : Int) ∧ (4 : Int) < (b.n : Int)) ∧ ld (cInt .u8) H (a.add ((4 : Int).toNat * 1)) fun (x : Int) => optK b.a fun a_1 => (0 ≤ (5 : Int) ∧ (5 : Int) < (b.n : Int)) ∧ ld (cInt .u8) H (a_1.add ((5 : Int).toNat * 1)) fun (x_1 : Int) => br (decide ((IntKind.i64.wrap ((IntKind.i64.wrap x) + (IntKind.i64.wrap ((256 : Int) * (IntKind.i64.wrap x_1))))) > (504 : Int))) (R ((0 : Int), (Sl.mk none 0 0), (20 : Int)) H) ((0 ≤ (IntKind.i64.wrap ((8 : Int) + (IntKind.i64.wrap ((IntKind.i64.wrap x) + (IntKind.i64.wrap ((256 : Int) * (IntKind.i64.wrap x_1))))))) ∧ (IntKind.i64.wrap ((8 : Int) + (IntKind.i64.wrap ((IntKind.i64.wrap x) + (IntKind.i64.wrap ((256 : Int) * (IntKind.i64.wrap x_1))))))) ≤ (b.c : Int)) ∧ (0 ≤ (8 : Int) ∧ (8 : Int) ≤ (IntKind.i64.wrap ((8 : Int) + (IntKind.i64.wrap ((IntKind.i64.wrap x) + (IntKind.i64.wrap ((256 : Int) * (IntKind.i64.wrap x_1)))))))) ∧ doT cSl Tryz.prog (Builtin.append_ #[ty_sl_uint8, ty_sl_uint8] ty_sl_uint8 #[(.slice none 0 0), (.slice (slA b.a b.c ((8 : Int).toNat) 1) (((IntKind.i64.wrap ((8 : Int) + (IntKind.i64.wrap ((IntKind.i64.wrap x) + (IntKind.i64.wrap ((256 : Int) * (IntKind.i64.wrap x_1))))))).toNat) - ((8 : Int).toNat)) (b.c - ((8 : Int).toNat)))]) H fun (s : Sl) H1 => optK b.a fun a_2 => (0 ≤ (6 : Int) ∧ (6 : Int) < (b.n : Int)) ∧ ld (cInt .u8) H1 (a_2.add ((6 : Int).toNat * 1)) fun (x_2 : Int) => fathomref02_Seal.sp x_2 s H1 fun (r : (Sl × Int)) H2 => b2s H2 r.1.a r.1.n fun (str : ByteArray) => b2s H2 b.a b.n fun (str_1 : ByteArray) => br (!(str.toList == str_1.toList)) (R ((0 : Int), (Sl.mk none 0 0), (20 : Int)) H2) (optK b.a fun a_3 => (0 ≤ (6 : Int) ∧ (6 : Int) < (b.n : Int)) ∧ ld (cInt .u8) H2 (a_3.add ((6 : Int).toNat * 1)) fun (x_3 : Int) => R (x_3, s, (0 : Int)) H2)))

theorem fathomref02_Open.of {b : Sl} {H : Heap} {R : (Int × Sl × Int) → Heap → Prop} (hvc : fathomref02_Open.vc b H R) : fathomref02_Open.sp b H R :=
  specT_of_vc prog_ng prog_mixed (c := (cTup [(cInt .u8), cSl, (cInt .i64)])) (A := []) (args := [b.v]) (Eq.mpr (by kernel_rfl : vcFT (cTup [(cInt .u8), cSl, (cInt .i64)]) Tryz.prog fathomref02_Open.no [] [b.v] H R = fathomref02_Open.vc b H R) hvc)

/-- (*fathom/fathomref03.Pool).take -/
def fathomref03_Pool_take.vc (p : Option Addr) (f_ : ByteArray) (f_1 : Int) (f_2 : Int) (f_3 : ByteArray) (f_4 : Bool) (f_5 : Sl) (f_6 : Int) (H : Heap) (R : Int → Heap → Prop) : Prop :=
  newC H #[(.string f_), (.int .i64 f_1), (.int .u8 f_2), (.string f_3), (.bool f_4), f_5.v, (.int .i64 f_6)] ty_fathomref03_Frame fun p_1 H1 => ∃ G : Heap → Prop, G H1 ∧ optK p fun a => ldC cSl G (a.add 2) fun (x : Sl) => ldA (cAgg [cStr, (cInt .i64), (cInt .u8), cStr, cBool, cSl, (cInt .i64)]) 7 H1 p_1 fun (x_1 : (ByteArray × Int × Int × ByteArray × Bool × Sl × Int)) => newC H1 #[(.string x_1.1), (.int .i64 x_1.2.1), (.int .u8 x_1.2.2.1), (.string x_1.2.2.2.1), (.bool x_1.2.2.2.2.1), x_1.2.2.2.2.2.1.v, (.int .i64 x_1.2.2.2.2.2.2)] ty_fathomref03_Frame fun p_2 H2 => G H2 ∧ doT cSl Tryz.prog (Builtin.append_ #[ty_sl_fathomref03_Frame, ty_sl_fathomref03_Frame] ty_sl_fathomref03_Frame #[x.v, (.slice (some p_2) 1 1)]) H2 fun (s : Sl) H3 => optK p fun a_1 => st H3 (a_1.add 2) s.v fun H4 => optK p fun a_2 => ld (cInt .i64) H4 (a_2.add 5) fun (x_2 : Int) => optK p fun a_3 => ld cSl H4 (a_3.add 2) fun (x_3 : Sl) => optK p fun a_4 => st H4 (a_4.add 5) (.int .i64 (if (x_3.n : Int) > x_2 then (x_3.n : Int) else x_2)) fun H5 => optK p fun a_5 => ld cSl H5 (a_5.add 2) fun (x_4 : Sl) => fathomref03_Pool_pin.sp p (IntKind.i64.wrap ((x_4.n : Int) - (1 : Int))) H5 fun (r : Int) H6 => R r H6

theorem fathomref03_Pool_take.of {p : Option Addr} {f_ : ByteArray} {f_1 : Int} {f_2 : Int} {f_3 : ByteArray} {f_4 : Bool} {f_5 : Sl} {f_6 : Int} {H : Heap} {R : Int → Heap → Prop} (hvc : fathomref03_Pool_take.vc p f_ f_1 f_2 f_3 f_4 f_5 f_6 H R) : fathomref03_Pool_take.sp p f_ f_1 f_2 f_3 f_4 f_5 f_6 H R :=
  specT_of_vc prog_ng prog_mixed (c := (cInt .i64)) (A := []) (args := [(.pointer p), (.agg #[(.string f_), (.int .i64 f_1), (.int .u8 f_2), (.string f_3), (.bool f_4), f_5.v, (.int .i64 f_6)])]) (Eq.mpr (by kernel_rfl : vcFT (cInt .i64) Tryz.prog fathomref03_Pool_take.no [] [(.pointer p), (.agg #[(.string f_), (.int .i64 f_1), (.int .u8 f_2), (.string f_3), (.bool f_4), f_5.v, (.int .i64 f_6)])] H R = fathomref03_Pool_take.vc p f_ f_1 f_2 f_3 f_4 f_5 f_6 H R) hvc)

/-- fathom/fathomref02.Seal -/
def fathomref02_Seal.vc (kind : Int) (b : Sl) (H : Heap) (R : (Sl × Int) → Heap → Prop) : Prop :=
  br (decide ((b.n : Int) > (504 : Int))) (R ((Sl.mk none 0 0), (2 : Int)) H) (newC H #[(.int .u8 (IntKind.u8.wrap (Int.tmod (b.n : Int) (256 : Int)))), (.int .u8 (IntKind.u8.wrap (IntKind.i64.wrap (Int.tdiv (b.n : Int) (256 : Int))))), (.int .u8 kind), (.int .u8 (157 : Int))] ty_uint8 fun rest_p H1 => doT cSl Tryz.prog (Builtin.append_ #[ty_sl_uint8, ty_sl_uint8] ty_sl_uint8 #[(.slice (some rest_p) 4 4), b.v]) H1 fun (rest : Sl) H2 => doT cSl Tryz.prog (Builtin.append_ #[ty_sl_uint8, ty_int] ty_sl_uint8 #[rest.v, (.int .i64 (IntKind.i64.wrap ((508 : Int) - (rest.n : Int))))]) H2 fun (rest_1 : Sl) H3 => fathomref02_Sum.sp rest_1 H3 fun (n : Int) H4 => LoopVC (Sl × Int) ((Sl.mk none 0 0), (0 : Int)) H4 fun next z H5 => br (decide (z.2 < (4 : Int))) (0 ≤ (IntKind.i64.wrap ((8 : Int) * z.2)) ∧ newC H5 #[(.int .u8 (IntKind.u8.wrap (ishr .u32 n (IntKind.i64.wrap ((8 : Int) * z.2)))))] ty_uint8 fun p H6 => doT cSl Tryz.prog (Builtin.append_ #[ty_sl_uint8, ty_sl_uint8] ty_sl_uint8 #[z.1.v, (.slice (some p) 1 1)]) H6 fun (out : Sl) H7 => next (out, IntKind.i64.wrap (z.2 + (1 : Int))) H7) (doT cSl Tryz.prog (Builtin.append_ #[ty_sl_uint8, ty_sl_uint8] ty_sl_uint8 #[z.1.v, rest_1.v]) H5 fun (out_1 : Sl) H8 => R (out_1, (0 : Int)) H8))

theorem fathomref02_Seal.of {kind : Int} {b : Sl} {H : Heap} {R : (Sl × Int) → Heap → Prop} (hvc : fathomref02_Seal.vc kind b H R) : fathomref02_Seal.sp kind b H R :=
  specT_of_vc prog_ng prog_mixed (c := (cTup [cSl, (cInt .i64)])) (A := [(9, [(8, cSl), (9, (cInt .i64))])]) (args := [(.int .u8 kind), b.v]) (Eq.mpr (by kernel_rfl : vcFT (cTup [cSl, (cInt .i64)]) Tryz.prog fathomref02_Seal.no [(9, [(8, cSl), (9, (cInt .i64))])] [(.int .u8 kind), b.v] H R = fathomref02_Seal.vc kind b H R) hvc)

/-- (*fathom/fathomref01.Disk).Write -/
def fathomref01_Disk_Write.vc (d : Option Addr) (name : ByteArray) (page : Int) (b : Sl) (H : Heap) (R : Int → Heap → Prop) : Prop :=
  fathomref01_Disk_find.sp d name H fun (i : Int) H1 => optK d fun a => ld cBool H1 (a.add 8) fun (x : Bool) => br x (R (4 : Int) H1) (br ((b.n : Int) != (512 : Int)) (R (2 : Int) H1) (br (decide (i < (0 : Int))) (R (11 : Int) H1) (optK d fun a_1 => ld cSl H1 (a_1.add 0) fun (x_1 : Sl) => optK x_1.a fun a_2 => (0 ≤ i ∧ i < (x_1.n : Int)) ∧ ldA (cAgg [cStr, cSl, cSl]) 3 H1 (a_2.add (i.toNat * 3)) fun (x_2 : (ByteArray × Sl × Sl)) => fathomref01_File_Pages.sp x_2.1 x_2.2.1 x_2.2.2 H1 fun (r : Sl) H2 => cut Unit (fun J => br ((decide (page < (0 : Int))) || (decide (page > (r.n : Int)))) (R (12 : Int) H2) (∃ G : Heap → Prop, G H2 ∧ br (page == (r.n : Int)) (fathomref01_Disk_Used.sp d H2 fun (r_1 : Int) H4 => G H4 ∧ optK d fun a_3 => ldC (cInt .i64) G (a_3.add 2) fun (x_3 : Int) => br (decide (r_1 ≥ x_3)) (R (5 : Int) H4) (J () H4)) (J () H2))) fun (_ : Unit) H3 => fathomref01_Disk_change.sp d H3 fun (e : Int) H5 => br (e != (0 : Int)) (R e H5) (∃ G_1 : Heap → Prop, G_1 H5 ∧ optK d fun a_4 => ldC cSl G_1 (a_4.add 0) fun (x_4 : Sl) => optK d fun a_5 => ldC cSl G_1 (a_5.add 0) fun (x_5 : Sl) => optK x_5.a fun a_6 => (0 ≤ i ∧ i < (x_5.n : Int)) ∧ ldC cSl G_1 ((a_6.add (i.toNat * 3)).add 2) fun (x_6 : Sl) => optK d fun a_7 => ld (cInt .i64) H5 (a_7.add 4) fun (x_7 : Int) => b2sC G_1 b.a b.n fun (str : ByteArray) => newC H5 #[(.int .i64 x_7), (.int .i64 page), (.string str)] ty_fathomref01_Write fun p H6 => G_1 H6 ∧ doT cSl Tryz.prog (Builtin.append_ #[ty_sl_fathomref01_Write, ty_sl_fathomref01_Write] ty_sl_fathomref01_Write #[x_6.v, (.slice (some p) 1 1)]) H6 fun (s : Sl) H7 => G_1 H7 ∧ optK x_4.a fun a_8 => (0 ≤ i ∧ i < (x_4.n : Int)) ∧ st H7 ((a_8.add (i.toNat * 3)).add 2) s.v fun H8 => optK d fun a_9 => ld (cInt .i64) H8 (a_9.add 4) fun (x_8 : Int) => optK d fun a_10 => st H8 (a_10.add 4) (.int .i64 (IntKind.i64.wrap (x_8 + (1 : Int)))) fun H9 => ∃ G_2 : Heap → Prop, G_2 H9 ∧ optK d fun a_11 => ldC (cInt .i64) G_2 (a_11.add 1) fun (x_9 : Int) => fathomref01_Disk_Used.sp d H9 fun (r_2 : Int) H10 => G_2 H10 ∧ optK d fun a_12 => st H10 (a_12.add 1) (.int .i64 (if r_2 > x_9 then r_2 else x_9)) fun H11 => R (0 : Int) H11))))

theorem fathomref01_Disk_Write.of {d : Option Addr} {name : ByteArray} {page : Int} {b : Sl} {H : Heap} {R : Int → Heap → Prop} (hvc : fathomref01_Disk_Write.vc d name page b H R) : fathomref01_Disk_Write.sp d name page b H R :=
  specT_of_vc prog_ng prog_mixed (c := (cInt .i64)) (A := [(100013, [])]) (args := [(.pointer d), (.string name), (.int .i64 page), b.v]) (Eq.mpr (by kernel_rfl : vcFT (cInt .i64) Tryz.prog fathomref01_Disk_Write.no [(100013, [])] [(.pointer d), (.string name), (.int .i64 page), b.v] H R = fathomref01_Disk_Write.vc d name page b H R) hvc)

/-- (*fathom/fathomref03.Pool).held -/
def fathomref03_Pool_held.vc (p : Option Addr) (h : Int) (H : Heap) (R : Int → Heap → Prop) : Prop :=
  LoopVC Int (0 : Int) H fun next i H1 => optK p fun a => ld cSl H1 (a.add 2) fun (x : Sl) => br (decide (i < (x.n : Int))) (LoopVC Int (0 : Int) H1 fun next_1 k H2 => optK p fun a_1 => ld cSl H2 (a_1.add 2) fun (x_1 : Sl) => optK x_1.a fun a_2 => (0 ≤ i ∧ i < (x_1.n : Int)) ∧ ld cSl H2 ((a_2.add (i.toNat * 7)).add 5) fun (x_2 : Sl) => br (decide (k < (x_2.n : Int))) (optK p fun a_3 => ld cSl H2 (a_3.add 2) fun (x_3 : Sl) => optK x_3.a fun a_4 => (0 ≤ i ∧ i < (x_3.n : Int)) ∧ ld cSl H2 ((a_4.add (i.toNat * 7)).add 5) fun (x_4 : Sl) => optK x_4.a fun a_5 => (0 ≤ k ∧ k < (x_4.n : Int)) ∧ ld (cInt .i64) H2 (a_5.add (k.toNat * 1)) fun (x_5 : Int) => br (x_5 == h) (R i H2) (next_1 (IntKind.i64.wrap (k + (1 : Int))) H2)) (next (IntKind.i64.wrap (i + (1 : Int))) H2)) (R (-1 : Int) H1)

theorem fathomref03_Pool_held.of {p : Option Addr} {h : Int} {H : Heap} {R : Int → Heap → Prop} (hvc : fathomref03_Pool_held.vc p h H R) : fathomref03_Pool_held.sp p h H R :=
  specT_of_vc prog_ng prog_mixed (c := (cInt .i64)) (A := [(2, [(5, (cInt .i64))]), (5, [(6, (cInt .i64))])]) (args := [(.pointer p), (.int .i64 h)]) (Eq.mpr (by kernel_rfl : vcFT (cInt .i64) Tryz.prog fathomref03_Pool_held.no [(2, [(5, (cInt .i64))]), (5, [(6, (cInt .i64))])] [(.pointer p), (.int .i64 h)] H R = fathomref03_Pool_held.vc p h H R) hvc)

/-- (*fathom/fathomref03.Pool).write -/
def fathomref03_Pool_write.vc (p : Option Addr) (i : Int) (H : Heap) (R : Int → Heap → Prop) : Prop :=
  ∃ G : Heap → Prop, G H ∧ optK p fun a => ldC cSl G (a.add 2) fun (x : Sl) => optK x.a fun a_1 => (0 ≤ i ∧ i < (x.n : Int)) ∧ ldC (cInt .u8) G ((a_1.add (i.toNat * 7)).add 2) fun (x_1 : Int) => optK p fun a_2 => ld cSl H (a_2.add 2) fun (x_2 : Sl) => optK x_2.a fun a_3 => (0 ≤ i ∧ i < (x_2.n : Int)) ∧ ld cStr H ((a_3.add (i.toNat * 7)).add 3) fun (x_3 : ByteArray) => doT cSl Tryz.prog (convert ty_string ty_sl_uint8 (.string x_3)) H fun (x_4 : Sl) H1 => G H1 ∧ fathomref02_Seal.sp x_1 x_4 H1 fun (r : (Sl × Int)) H2 => optK p fun a_4 => ld cPtr H2 (a_4.add 0) fun (x_5 : Option Addr) => optK p fun a_5 => ld cSl H2 (a_5.add 2) fun (x_6 : Sl) => optK x_6.a fun a_6 => (0 ≤ i ∧ i < (x_6.n : Int)) ∧ ld cStr H2 ((a_6.add (i.toNat * 7)).add 0) fun (x_7 : ByteArray) => optK p fun a_7 => ld cSl H2 (a_7.add 2) fun (x_8 : Sl) => optK x_8.a fun a_8 => (0 ≤ i ∧ i < (x_8.n : Int)) ∧ ld (cInt .i64) H2 ((a_8.add (i.toNat * 7)).add 1) fun (x_9 : Int) => fathomref01_Disk_Write.sp x_5 x_7 x_9 r.1 H2 fun (e : Int) H3 => br (e == (0 : Int)) (optK p fun a_9 => ld cSl H3 (a_9.add 2) fun (x_10 : Sl) => optK x_10.a fun a_10 => (0 ≤ i ∧ i < (x_10.n : Int)) ∧ st H3 ((a_10.add (i.toNat * 7)).add 4) (.bool false) fun H4 => R e H4) (R e H3)

theorem fathomref03_Pool_write.of {p : Option Addr} {i : Int} {H : Heap} {R : Int → Heap → Prop} (hvc : fathomref03_Pool_write.vc p i H R) : fathomref03_Pool_write.sp p i H R :=
  specT_of_vc prog_ng prog_mixed (c := (cInt .i64)) (A := []) (args := [(.pointer p), (.int .i64 i)]) (Eq.mpr (by kernel_rfl : vcFT (cInt .i64) Tryz.prog fathomref03_Pool_write.no [] [(.pointer p), (.int .i64 i)] H R = fathomref03_Pool_write.vc p i H R) hvc)

/-- (*fathom/fathomref01.Disk).Sync -/
def fathomref01_Disk_Sync.vc (d : Option Addr) (name : ByteArray) (H : Heap) (R : Int → Heap → Prop) : Prop :=
  fathomref01_Disk_find.sp d name H fun (i : Int) H1 => optK d fun a => ld cBool H1 (a.add 8) fun (x : Bool) => br x (R (4 : Int) H1) (br (decide (i < (0 : Int))) (R (11 : Int) H1) (fathomref01_Disk_change.sp d H1 fun (e : Int) H2 => br (e == (0 : Int)) (∃ G : Heap → Prop, G H2 ∧ optK d fun a_1 => ldC cSl G (a_1.add 0) fun (x_1 : Sl) => optK d fun a_2 => ld cSl H2 (a_2.add 0) fun (x_2 : Sl) => optK x_2.a fun a_3 => (0 ≤ i ∧ i < (x_2.n : Int)) ∧ ldA (cAgg [cStr, cSl, cSl]) 3 H2 (a_3.add (i.toNat * 3)) fun (x_3 : (ByteArray × Sl × Sl)) => fathomref01_File_Pages.sp x_3.1 x_3.2.1 x_3.2.2 H2 fun (r : Sl) H3 => G H3 ∧ optK x_1.a fun a_4 => (0 ≤ i ∧ i < (x_1.n : Int)) ∧ st H3 ((a_4.add (i.toNat * 3)).add 1) r.v fun H4 => optK d fun a_5 => ld cSl H4 (a_5.add 0) fun (x_4 : Sl) => optK x_4.a fun a_6 => (0 ≤ i ∧ i < (x_4.n : Int)) ∧ st H4 ((a_6.add (i.toNat * 3)).add 2) (.slice none 0 0) fun H5 => R e H5) (R e H2)))

theorem fathomref01_Disk_Sync.of {d : Option Addr} {name : ByteArray} {H : Heap} {R : Int → Heap → Prop} (hvc : fathomref01_Disk_Sync.vc d name H R) : fathomref01_Disk_Sync.sp d name H R :=
  specT_of_vc prog_ng prog_mixed (c := (cInt .i64)) (A := []) (args := [(.pointer d), (.string name)]) (Eq.mpr (by kernel_rfl : vcFT (cInt .i64) Tryz.prog fathomref01_Disk_Sync.no [] [(.pointer d), (.string name)] H R = fathomref01_Disk_Sync.vc d name H R) hvc)

/-- slices.ContainsFunc[[]*fathom/pool.frame,*fathom/pool.frame] -/
def slices_ContainsFunc_sl_ptr_pool_frame_ptr_pool_frame.vc (s : Sl) (H : Heap) (R : Bool → Heap → Prop) : Prop :=
  slices_IndexFunc_sl_ptr_pool_frame_ptr_pool_frame.sp s H fun (r : Int) H1 => R (decide (r ≥ (0 : Int))) H1

theorem slices_ContainsFunc_sl_ptr_pool_frame_ptr_pool_frame.of {s : Sl} {H : Heap} {R : Bool → Heap → Prop} (hvc : slices_ContainsFunc_sl_ptr_pool_frame_ptr_pool_frame.vc s H R) : slices_ContainsFunc_sl_ptr_pool_frame_ptr_pool_frame.sp s H R :=
  specT_of_vc prog_ng prog_mixed (c := cBool) (A := []) (args := [s.v, (.func (.func pool_Pool_Drop_c1.no) #[] #[])]) (Eq.mpr (by kernel_rfl : vcFT cBool Tryz.prog slices_ContainsFunc_sl_ptr_pool_frame_ptr_pool_frame.no [] [s.v, (.func (.func pool_Pool_Drop_c1.no) #[] #[])] H R = slices_ContainsFunc_sl_ptr_pool_frame_ptr_pool_frame.vc s H R) hvc)

/-- (*fathom/pool.Pool).Drop$1 -/
def pool_Pool_Drop_c1.vc (f : Option Addr) (H : Heap) (R : Bool → Heap → Prop) : Prop :=
  optK f fun a => ld (cInt .i64) H (a.add 5) fun (x : Int) => R (decide (x > (0 : Int))) H

theorem pool_Pool_Drop_c1.of {f : Option Addr} {H : Heap} {R : Bool → Heap → Prop} (hvc : pool_Pool_Drop_c1.vc f H R) : pool_Pool_Drop_c1.sp f H R :=
  specT_of_vc prog_ng prog_mixed (c := cBool) (A := []) (args := [(.pointer f)]) (Eq.mpr (by kernel_rfl : vcFT cBool Tryz.prog pool_Pool_Drop_c1.no [] [(.pointer f)] H R = pool_Pool_Drop_c1.vc f H R) hvc)

/-- (*fathom/disk.Disk).Remove -/
def disk_Disk_Remove.vc (d : Option Addr) (name : ByteArray) (H : Heap) (R : Int → Heap → Prop) : Prop :=
  disk_Disk_open.sp d name H fun (r : (Option Addr × Int)) H1 => br (r.2 != (0 : Int)) (R r.2 H1) (disk_Disk_change.sp d H1 fun (e : Int) H2 => br (e == (0 : Int)) (disk_Disk_drop.sp d name H2 fun (_ : Unit) H3 => R e H3) (R e H2))

theorem disk_Disk_Remove.of {d : Option Addr} {name : ByteArray} {H : Heap} {R : Int → Heap → Prop} (hvc : disk_Disk_Remove.vc d name H R) : disk_Disk_Remove.sp d name H R :=
  specT_of_vc prog_ng prog_mixed (c := (cInt .i64)) (A := []) (args := [(.pointer d), (.string name)]) (Eq.mpr (by kernel_rfl : vcFT (cInt .i64) Tryz.prog disk_Disk_Remove.no [] [(.pointer d), (.string name)] H R = disk_Disk_Remove.vc d name H R) hvc)

/-- (*fathom/fathomref01.Disk).Remove -/
def fathomref01_Disk_Remove.vc (d : Option Addr) (name : ByteArray) (H : Heap) (R : Int → Heap → Prop) : Prop :=
  optK d fun a => ld cBool H (a.add 8) fun (x : Bool) => br x (R (4 : Int) H) (fathomref01_Disk_find.sp d name H fun (r : Int) H1 => br (decide (r < (0 : Int))) (R (11 : Int) H1) (fathomref01_Disk_change.sp d H1 fun (e : Int) H2 => br (e == (0 : Int)) (fathomref01_Disk_find.sp d name H2 fun (r_1 : Int) H3 => fathomref01_Disk_drop.sp d r_1 H3 fun (_ : Unit) H4 => R e H4) (R e H2)))

theorem fathomref01_Disk_Remove.of {d : Option Addr} {name : ByteArray} {H : Heap} {R : Int → Heap → Prop} (hvc : fathomref01_Disk_Remove.vc d name H R) : fathomref01_Disk_Remove.sp d name H R :=
  specT_of_vc prog_ng prog_mixed (c := (cInt .i64)) (A := []) (args := [(.pointer d), (.string name)]) (Eq.mpr (by kernel_rfl : vcFT (cInt .i64) Tryz.prog fathomref01_Disk_Remove.no [] [(.pointer d), (.string name)] H R = fathomref01_Disk_Remove.vc d name H R) hvc)

/-- fathom/fathomref01.named -/
def fathomref01_named.vc (s : ByteArray) (H : Heap) (R : Bool → Heap → Prop) : Prop :=
  R ((decide ((s.size : Int) ≥ (1 : Int))) && (decide ((s.size : Int) ≤ (100 : Int)))) H

theorem fathomref01_named.of {s : ByteArray} {H : Heap} {R : Bool → Heap → Prop} (hvc : fathomref01_named.vc s H R) : fathomref01_named.sp s H R :=
  specT_of_vc prog_ng prog_mixed (c := cBool) (A := []) (args := [(.string s)]) (Eq.mpr (by kernel_rfl : vcFT cBool Tryz.prog fathomref01_named.no [] [(.string s)] H R = fathomref01_named.vc s H R) hvc)

/-- (*fathom/fathomref01.Disk).find -/
def fathomref01_Disk_find.vc (d : Option Addr) (name : ByteArray) (H : Heap) (R : Int → Heap → Prop) : Prop :=
  LoopVC Int (0 : Int) H fun next i H1 => optK d fun a => ld cSl H1 (a.add 0) fun (x : Sl) => br (decide (i < (x.n : Int))) (optK d fun a_1 => ld cSl H1 (a_1.add 0) fun (x_1 : Sl) => optK x_1.a fun a_2 => (0 ≤ i ∧ i < (x_1.n : Int)) ∧ ld cStr H1 ((a_2.add (i.toNat * 3)).add 0) fun (x_2 : ByteArray) => br (x_2.toList == name.toList) (R i H1) (next (IntKind.i64.wrap (i + (1 : Int))) H1)) (R (-1 : Int) H1)

theorem fathomref01_Disk_find.of {d : Option Addr} {name : ByteArray} {H : Heap} {R : Int → Heap → Prop} (hvc : fathomref01_Disk_find.vc d name H R) : fathomref01_Disk_find.sp d name H R :=
  specT_of_vc prog_ng prog_mixed (c := (cInt .i64)) (A := [(2, [(5, (cInt .i64))])]) (args := [(.pointer d), (.string name)]) (Eq.mpr (by kernel_rfl : vcFT (cInt .i64) Tryz.prog fathomref01_Disk_find.no [(2, [(5, (cInt .i64))])] [(.pointer d), (.string name)] H R = fathomref01_Disk_find.vc d name H R) hvc)

/-- (*fathom/fathomref01.Disk).change -/
def fathomref01_Disk_change.vc (d : Option Addr) (H : Heap) (R : Int → Heap → Prop) : Prop :=
  optK d fun a => ld cBool H (a.add 5) fun (x : Bool) => br x (optK d fun a_1 => ld (cInt .i64) H (a_1.add 6) fun (x_1 : Int) => br (x_1 == (0 : Int)) (optK d fun a_2 => st H (a_2.add 8) (.bool true) fun H1 => R (4 : Int) H1) (optK d fun a_3 => ld cBool H (a_3.add 5) fun (x_2 : Bool) => br x_2 (optK d fun a_4 => ld (cInt .i64) H (a_4.add 6) fun (x_3 : Int) => optK d fun a_5 => st H (a_5.add 6) (.int .i64 (IntKind.i64.wrap (x_3 - (1 : Int)))) fun H2 => optK d fun a_6 => ld (cInt .i64) H2 (a_6.add 3) fun (x_4 : Int) => optK d fun a_7 => st H2 (a_7.add 3) (.int .i64 (IntKind.i64.wrap (x_4 + (1 : Int)))) fun H3 => R (0 : Int) H3) (optK d fun a_8 => ld (cInt .i64) H (a_8.add 3) fun (x_5 : Int) => optK d fun a_9 => st H (a_9.add 3) (.int .i64 (IntKind.i64.wrap (x_5 + (1 : Int)))) fun H4 => R (0 : Int) H4))) (optK d fun a_10 => ld cBool H (a_10.add 5) fun (x_6 : Bool) => br x_6 (optK d fun a_11 => ld (cInt .i64) H (a_11.add 6) fun (x_7 : Int) => optK d fun a_12 => st H (a_12.add 6) (.int .i64 (IntKind.i64.wrap (x_7 - (1 : Int)))) fun H5 => optK d fun a_13 => ld (cInt .i64) H5 (a_13.add 3) fun (x_8 : Int) => optK d fun a_14 => st H5 (a_14.add 3) (.int .i64 (IntKind.i64.wrap (x_8 + (1 : Int)))) fun H6 => R (0 : Int) H6) (optK d fun a_15 => ld (cInt .i64) H (a_15.add 3) fun (x_9 : Int) => optK d fun a_16 => st H (a_16.add 3) (.int .i64 (IntKind.i64.wrap (x_9 + (1 : Int)))) fun H7 => R (0 : Int) H7))

theorem fathomref01_Disk_change.of {d : Option Addr} {H : Heap} {R : Int → Heap → Prop} (hvc : fathomref01_Disk_change.vc d H R) : fathomref01_Disk_change.sp d H R :=
  specT_of_vc prog_ng prog_mixed (c := (cInt .i64)) (A := []) (args := [(.pointer d)]) (Eq.mpr (by kernel_rfl : vcFT (cInt .i64) Tryz.prog fathomref01_Disk_change.no [] [(.pointer d)] H R = fathomref01_Disk_change.vc d H R) hvc)

/-- slices.Clone[[]fathom/disk.sheet,fathom/disk.sheet] -/
def slices_Clone_sl_disk_sheet_disk_sheet.vc (s : Sl) (H : Heap) (R : Sl → Heap → Prop) : Prop :=
  br s.a.isNone (R (Sl.mk none 0 0) H) (doT cSl Tryz.prog (Instr.buildSlice ty_sl_disk_sheet 0 #[]) H fun (sl : Sl) H1 => doT cSl Tryz.prog (Builtin.append_ #[ty_sl_disk_sheet, ty_sl_disk_sheet] ty_sl_disk_sheet #[sl.v, s.v]) H1 fun (s_1 : Sl) H2 => R s_1 H2)

theorem slices_Clone_sl_disk_sheet_disk_sheet.of {s : Sl} {H : Heap} {R : Sl → Heap → Prop} (hvc : slices_Clone_sl_disk_sheet_disk_sheet.vc s H R) : slices_Clone_sl_disk_sheet_disk_sheet.sp s H R :=
  specT_of_vc prog_ng prog_mixed (c := cSl) (A := []) (args := [s.v]) (Eq.mpr (by kernel_rfl : vcFT cSl Tryz.prog slices_Clone_sl_disk_sheet_disk_sheet.no [] [s.v] H R = slices_Clone_sl_disk_sheet_disk_sheet.vc s H R) hvc)

/-- slices.BinarySearch[[]int,int] -/
def slices_BinarySearch_sl_int_int.vc (x : Sl) (target : Int) (H : Heap) (R : (Int × Bool) → Heap → Prop) : Prop :=
  LoopVC (Int × Int) ((0 : Int), (x.n : Int)) H fun next z H1 => br (decide (z.1 < z.2)) (optK x.a fun a => (0 ≤ (IntKind.i64.wrap (ishr .u64 (IntKind.u64.wrap (IntKind.i64.wrap (z.1 + z.2))) (1 : Int))) ∧ (IntKind.i64.wrap (ishr .u64 (IntKind.u64.wrap (IntKind.i64.wrap (z.1 + z.2))) (1 : Int))) < (x.n : Int)) ∧ ld (cInt .i64) H1 (a.add ((IntKind.i64.wrap (ishr .u64 (IntKind.u64.wrap (IntKind.i64.wrap (z.1 + z.2))) (1 : Int))).toNat * 1)) fun (x_1 : Int) => cmp_Less_int.sp x_1 target H1 fun (r : Bool) H2 => br r (next (IntKind.i64.wrap ((IntKind.i64.wrap (ishr .u64 (IntKind.u64.wrap (IntKind.i64.wrap (z.1 + z.2))) (1 : Int))) + (1 : Int)), z.2) H2) (next (z.1, IntKind.i64.wrap (ishr .u64 (IntKind.u64.wrap (IntKind.i64.wrap (z.1 + z.2))) (1 : Int))) H2)) (br (decide (z.1 < (x.n : Int))) (optK x.a fun a_1 => (0 ≤ z.1 ∧ z.1 < (x.n : Int)) ∧ ld (cInt .i64) H1 (a_1.add (z.1.toNat * 1)) fun (x_2 : Int) => br (x_2 == target) (R (z.1, true) H1) (optK x.a fun a_2 => (0 ≤ z.1 ∧ z.1 < (x.n : Int)) ∧ ld (cInt .i64) H1 (a_2.add (z.1.toNat * 1)) fun (x_3 : Int) => slices_isNaN_int.sp x_3 H1 fun (r_1 : Bool) H3 => br r_1 (slices_isNaN_int.sp target H3 fun (r_2 : Bool) H4 => R (z.1, r_2) H4) (R (z.1, false) H3))) (R (z.1, false) H1))

theorem slices_BinarySearch_sl_int_int.of {x : Sl} {target : Int} {H : Heap} {R : (Int × Bool) → Heap → Prop} (hvc : slices_BinarySearch_sl_int_int.vc x target H R) : slices_BinarySearch_sl_int_int.sp x target H R :=
  specT_of_vc prog_ng prog_mixed (c := (cTup [(cInt .i64), cBool])) (A := [(3, [(7, (cInt .i64)), (8, (cInt .i64))])]) (args := [x.v, (.int .i64 target)]) (Eq.mpr (by kernel_rfl : vcFT (cTup [(cInt .i64), cBool]) Tryz.prog slices_BinarySearch_sl_int_int.no [(3, [(7, (cInt .i64)), (8, (cInt .i64))])] [x.v, (.int .i64 target)] H R = slices_BinarySearch_sl_int_int.vc x target H R) hvc)

/-- fathom/disk.put -/
def disk_put.vc (l : Sl) (page : Int) (b : Array Value) (H : Heap) (R : Sl → Heap → Prop) : Prop :=
  newC H b ty_disk_sheet fun p H1 => LoopVC Sl l H1 fun next l_1 H2 => br (decide ((l_1.n : Int) ≤ page)) (doT cSl Tryz.prog (Instr.buildSlice ty_sl_disk_sheet 1 #[(0, (.agg (zc Tryz.prog ty_disk_sheet)))]) H2 fun (sl : Sl) H3 => doT cSl Tryz.prog (Builtin.append_ #[ty_sl_disk_sheet, ty_sl_disk_sheet] ty_sl_disk_sheet #[l_1.v, sl.v]) H3 fun (l_2 : Sl) H4 => next l_2 H4) (ldA cArr 512 H2 p fun (x : Array Value) => optK l_1.a fun a => (0 ≤ page ∧ page < (l_1.n : Int)) ∧ doU Tryz.prog (Instr.storeAt ty_disk_sheet (.pointer (some (a.add (page.toNat * 512)))) (.agg x)) H2 fun H5 => R l_1 H5)

theorem disk_put.of {l : Sl} {page : Int} {b : Array Value} {H : Heap} {R : Sl → Heap → Prop} (hvc : disk_put.vc l page b H R) : disk_put.sp l page b H R :=
  specT_of_vc prog_ng prog_mixed (c := cSl) (A := [(1, [(0, cSl)])]) (args := [l.v, (.int .i64 page), (.agg b)]) (Eq.mpr (by kernel_rfl : vcFT cSl Tryz.prog disk_put.no [(1, [(0, cSl)])] [l.v, (.int .i64 page), (.agg b)] H R = disk_put.vc l page b H R) hvc)

/-- (*fathom/fathomref01.Disk).rank -/
def fathomref01_Disk_rank.vc (d : Option Addr) (no : Int) (H : Heap) (R : Int → Heap → Prop) : Prop :=
  LoopVC (Int × Int) ((0 : Int), (0 : Int)) H fun next z H1 => optK d fun a => ld cSl H1 (a.add 0) fun (x : Sl) => br (decide (z.2 < (x.n : Int))) (LoopVC (Int × Int) (z.1, (0 : Int)) H1 fun next_1 z_1 H2 => optK d fun a_1 => ld cSl H2 (a_1.add 0) fun (x_1 : Sl) => optK x_1.a fun a_2 => (0 ≤ z.2 ∧ z.2 < (x_1.n : Int)) ∧ ld cSl H2 ((a_2.add (z.2.toNat * 3)).add 2) fun (x_2 : Sl) => br (decide (z_1.2 < (x_2.n : Int))) (optK d fun a_3 => ld cSl H2 (a_3.add 0) fun (x_3 : Sl) => optK x_3.a fun a_4 => (0 ≤ z.2 ∧ z.2 < (x_3.n : Int)) ∧ ld cSl H2 ((a_4.add (z.2.toNat * 3)).add 2) fun (x_4 : Sl) => optK x_4.a fun a_5 => (0 ≤ z_1.2 ∧ z_1.2 < (x_4.n : Int)) ∧ ld (cInt .i64) H2 ((a_5.add (z_1.2.toNat * 3)).add 0) fun (x_5 : Int) => br (decide (x_5 < no)) (next_1 (IntKind.i64.wrap (z_1.1 + (1 : Int)), IntKind.i64.wrap (z_1.2 + (1 : Int))) H2) (next_1 (z_1.1, IntKind.i64.wrap (z_1.2 + (1 : Int))) H2)) (next (z_1.1, IntKind.i64.wrap (z.2 + (1 : Int))) H2)) (R z.1 H1)

theorem fathomref01_Disk_rank.of {d : Option Addr} {no : Int} {H : Heap} {R : Int → Heap → Prop} (hvc : fathomref01_Disk_rank.vc d no H R) : fathomref01_Disk_rank.sp d no H R :=
  specT_of_vc prog_ng prog_mixed (c := (cInt .i64)) (A := [(3, [(5, (cInt .i64)), (6, (cInt .i64))]), (6, [(5, (cInt .i64)), (7, (cInt .i64))])]) (args := [(.pointer d), (.int .i64 no)]) (Eq.mpr (by kernel_rfl : vcFT (cInt .i64) Tryz.prog fathomref01_Disk_rank.no [(3, [(5, (cInt .i64)), (6, (cInt .i64))]), (6, [(5, (cInt .i64)), (7, (cInt .i64))])] [(.pointer d), (.int .i64 no)] H R = fathomref01_Disk_rank.vc d no H R) hvc)

/-- fathom/fathomref01.put -/
def fathomref01_put.vc (l : Sl) (w_ : Int) (w_1 : Int) (w_2 : ByteArray) (H : Heap) (R : Sl → Heap → Prop) : Prop :=
  newC H #[(.int .i64 w_), (.int .i64 w_1), (.string w_2)] ty_fathomref01_Write fun p H1 => doT cSl Tryz.prog (Builtin.append_ #[ty_sl_string, ty_sl_string] ty_sl_string #[(.slice none 0 0), l.v]) H1 fun (out : Sl) H2 => LoopVC Sl out H2 fun next out_1 H3 => ld (cInt .i64) H3 (p.add 1) fun (x : Int) => br (decide ((out_1.n : Int) ≤ x)) (doT cSl Tryz.prog (Instr.makeSlice ty_sl_uint8 (.int .i64 (512 : Int)) (.int .i64 (512 : Int))) H3 fun (sl : Sl) H4 => b2s H4 sl.a sl.n fun (str : ByteArray) => newC H4 #[(.string str)] ty_string fun p_1 H5 => doT cSl Tryz.prog (Builtin.append_ #[ty_sl_string, ty_sl_string] ty_sl_string #[out_1.v, (.slice (some p_1) 1 1)]) H5 fun (out_2 : Sl) H6 => next out_2 H6) (ld (cInt .i64) H3 (p.add 1) fun (x_1 : Int) => ld cStr H3 (p.add 2) fun (x_2 : ByteArray) => optK out_1.a fun a => (0 ≤ x_1 ∧ x_1 < (out_1.n : Int)) ∧ st H3 (a.add (x_1.toNat * 1)) (.string x_2) fun H7 => R out_1 H7)

theorem fathomref01_put.of {l : Sl} {w_ : Int} {w_1 : Int} {w_2 : ByteArray} {H : Heap} {R : Sl → Heap → Prop} (hvc : fathomref01_put.vc l w_ w_1 w_2 H R) : fathomref01_put.sp l w_ w_1 w_2 H R :=
  specT_of_vc prog_ng prog_mixed (c := cSl) (A := [(3, [(5, cSl)])]) (args := [l.v, (.agg #[(.int .i64 w_), (.int .i64 w_1), (.string w_2)])]) (Eq.mpr (by kernel_rfl : vcFT cSl Tryz.prog fathomref01_put.no [(3, [(5, cSl)])] [l.v, (.agg #[(.int .i64 w_), (.int .i64 w_1), (.string w_2)])] H R = fathomref01_put.vc l w_ w_1 w_2 H R) hvc)

/-- slices.Sorted[string] -/
def slices_Sorted_string.vc (seq : Value) (H : Heap) (R : Sl → Heap → Prop) : Prop :=
  slices_Collect_string.sp seq H fun (s : Sl) H1 => slices_Sort_sl_string_string.sp s H1 fun (_ : Unit) H2 => R s H2

theorem slices_Sorted_string.of {seq : Value} {H : Heap} {R : Sl → Heap → Prop} (hvc : slices_Sorted_string.vc seq H R) : slices_Sorted_string.sp seq H R :=
  specT_of_vc prog_ng prog_mixed (c := cSl) (A := []) (args := [seq]) (Eq.mpr (by kernel_rfl : vcFT cSl Tryz.prog slices_Sorted_string.no [] [seq] H R = slices_Sorted_string.vc seq H R) hvc)

/-- maps.Keys[map[string]*fathom/disk.file,string,*fathom/disk.file] -/
def maps_Keys_map_string_ptr_disk_file_string_ptr_disk_file.vc (m : Option Nat) (H : Heap) (R : Value → Heap → Prop) : Prop :=
  newC H #[(.map m)] ty_maparr_string_ptr_disk_file fun p H1 => R (.func (.func maps_Keys_map_string_ptr_disk_file_string_ptr_disk_file_c1.no) #[] #[(.pointer (some p))]) H1

theorem maps_Keys_map_string_ptr_disk_file_string_ptr_disk_file.of {m : Option Nat} {H : Heap} {R : Value → Heap → Prop} (hvc : maps_Keys_map_string_ptr_disk_file_string_ptr_disk_file.vc m H R) : maps_Keys_map_string_ptr_disk_file_string_ptr_disk_file.sp m H R :=
  specT_of_vc prog_ng prog_mixed (c := cRaw) (A := []) (args := [(.map m)]) (Eq.mpr (by kernel_rfl : vcFT cRaw Tryz.prog maps_Keys_map_string_ptr_disk_file_string_ptr_disk_file.no [] [(.map m)] H R = maps_Keys_map_string_ptr_disk_file_string_ptr_disk_file.vc m H R) hvc)

/-- (fathom/fathomref01.File).Pages -/
def fathomref01_File_Pages.vc (f_ : ByteArray) (f_1 : Sl) (f_2 : Sl) (H : Heap) (R : Sl → Heap → Prop) : Prop :=
  newC H #[(.string f_), f_1.v, f_2.v] ty_fathomref01_File fun p H1 => ld cSl H1 (p.add 1) fun (x : Sl) => doT cSl Tryz.prog (Builtin.append_ #[ty_sl_string, ty_sl_string] ty_sl_string #[(.slice none 0 0), x.v]) H1 fun (l : Sl) H2 => LoopVC (Sl × Int) (l, (0 : Int)) H2 fun next z H3 => ld cSl H3 (p.add 2) fun (x_1 : Sl) => br (decide (z.2 < (x_1.n : Int))) (ld cSl H3 (p.add 2) fun (x_2 : Sl) => optK x_2.a fun a => (0 ≤ z.2 ∧ z.2 < (x_2.n : Int)) ∧ ldA (cAgg [(cInt .i64), (cInt .i64), cStr]) 3 H3 (a.add (z.2.toNat * 3)) fun (x_3 : (Int × Int × ByteArray)) => fathomref01_put.sp z.1 x_3.1 x_3.2.1 x_3.2.2 H3 fun (l_1 : Sl) H4 => next (l_1, IntKind.i64.wrap (z.2 + (1 : Int))) H4) (R z.1 H3)

theorem fathomref01_File_Pages.of {f_ : ByteArray} {f_1 : Sl} {f_2 : Sl} {H : Heap} {R : Sl → Heap → Prop} (hvc : fathomref01_File_Pages.vc f_ f_1 f_2 H R) : fathomref01_File_Pages.sp f_ f_1 f_2 H R :=
  specT_of_vc prog_ng prog_mixed (c := cSl) (A := [(4, [(3, cSl), (4, (cInt .i64))])]) (args := [(.agg #[(.string f_), f_1.v, f_2.v])]) (Eq.mpr (by kernel_rfl : vcFT cSl Tryz.prog fathomref01_File_Pages.no [(4, [(3, cSl), (4, (cInt .i64))])] [(.agg #[(.string f_), f_1.v, f_2.v])] H R = fathomref01_File_Pages.vc f_ f_1 f_2 H R) hvc)

/-- (*fathom/disk.Disk).open -/
def disk_Disk_open.vc (d : Option Addr) (name : ByteArray) (H : Heap) (R : (Option Addr × Int) → Heap → Prop) : Prop :=
  disk_Disk_ready.sp d H fun (e : Int) H1 => br (e != (0 : Int)) (R (none, e) H1) (optK d fun a => ld cMap H1 (a.add 0) fun (x : Option Nat) => rdV (cTup [cPtr, cBool]) Tryz.prog (Instr.lookup ty_maparr_string_ptr_disk_file (.map x) (.string name) true) H1 fun (x_1 : (Option Addr × Bool)) => br x_1.2 (R (x_1.1, (0 : Int)) H1) (R (none, (11 : Int)) H1))

theorem disk_Disk_open.of {d : Option Addr} {name : ByteArray} {H : Heap} {R : (Option Addr × Int) → Heap → Prop} (hvc : disk_Disk_open.vc d name H R) : disk_Disk_open.sp d name H R :=
  specT_of_vc prog_ng prog_mixed (c := (cTup [cPtr, (cInt .i64)])) (A := []) (args := [(.pointer d), (.string name)]) (Eq.mpr (by kernel_rfl : vcFT (cTup [cPtr, (cInt .i64)]) Tryz.prog disk_Disk_open.no [] [(.pointer d), (.string name)] H R = disk_Disk_open.vc d name H R) hvc)

/-- fathom/page.Sum -/
def page_Sum.vc (b : Sl) (H : Heap) (R : Int → Heap → Prop) : Prop :=
  LoopVC (Int × Int) ((4294967295 : Int), (0 : Int)) H fun next z H1 => br (decide (z.2 < (b.n : Int))) (optK b.a fun a => (0 ≤ z.2 ∧ z.2 < (b.n : Int)) ∧ ld (cInt .u8) H1 (a.add (z.2.toNat * 1)) fun (c : Int) => (0 ≤ (iand .u32 (ixor .u32 z.1 (IntKind.u32.wrap c)) (15 : Int)) ∧ (iand .u32 (ixor .u32 z.1 (IntKind.u32.wrap c)) (15 : Int)) < ((16 : Nat) : Int)) ∧ ld (cInt .u32) H1 ((Addr.mk 0 0 none).add ((iand .u32 (ixor .u32 z.1 (IntKind.u32.wrap c)) (15 : Int)).toNat * 1)) fun (x : Int) => (0 ≤ (iand .u32 (ixor .u32 (ishr .u32 (ixor .u32 z.1 (IntKind.u32.wrap c)) (4 : Int)) x) (15 : Int)) ∧ (iand .u32 (ixor .u32 (ishr .u32 (ixor .u32 z.1 (IntKind.u32.wrap c)) (4 : Int)) x) (15 : Int)) < ((16 : Nat) : Int)) ∧ ld (cInt .u32) H1 ((Addr.mk 0 0 none).add ((iand .u32 (ixor .u32 (ishr .u32 (ixor .u32 z.1 (IntKind.u32.wrap c)) (4 : Int)) x) (15 : Int)).toNat * 1)) fun (x_1 : Int) => next (ixor .u32 (ishr .u32 (ixor .u32 (ishr .u32 (ixor .u32 z.1 (IntKind.u32.wrap c)) (4 : Int)) x) (4 : Int)) x_1, IntKind.i64.wrap (z.2 + (1 : Int))) H1) (R (ixor .u32 (4294967295 : Int) z.1) H1)

theorem page_Sum.of {b : Sl} {H : Heap} {R : Int → Heap → Prop} (hvc : page_Sum.vc b H R) : page_Sum.sp b H R :=
  specT_of_vc prog_ng prog_mixed (c := (cInt .u32)) (A := [(3, [(3, (cInt .u32)), (8, (cInt .i64))])]) (args := [b.v]) (Eq.mpr (by kernel_rfl : vcFT (cInt .u32) Tryz.prog page_Sum.no [(3, [(3, (cInt .u32)), (8, (cInt .i64))])] [b.v] H R = page_Sum.vc b H R) hvc)

/-- (*fathom/pool.Pool).first -/
def pool_Pool_first.vc (p : Option Addr) (H : Heap) (R : Option Addr → Heap → Prop) : Prop :=
  optK p fun a => ld cMap H (a.add 2) fun (x : Option Nat) => doT cPtr Tryz.prog (Instr.range ty_maparr_pool_spot_ptr_pool_frame (.map x)) H fun (it : Option Addr) H1 => LoopVC (Option Addr) none H1 fun next best H2 => doT cNext Tryz.prog (Instr.next (.pointer it) false ty_) H2 fun (nx : Bool × List Value) H3 => br nx.1 (doT cTwo Tryz.prog (Instr.entry (.pointer it)) H3 fun (en : Value × Value) H4 => asT cPtr en.2 fun (f : Option Addr) => pool_Pool_room_c1.sp f H4 fun (r : Bool) H5 => br r (br best.isNone (next f H5) (pool_Pool_room_c2.sp f best H5 fun (r_1 : Bool) H6 => br r_1 (next f H6) (next best H6))) (next best H5)) (R best H3)

theorem pool_Pool_first.of {p : Option Addr} {H : Heap} {R : Option Addr → Heap → Prop} (hvc : pool_Pool_first.vc p H R) : pool_Pool_first.sp p H R :=
  specT_of_vc prog_ng prog_mixed (c := cPtr) (A := [(3, [(7, cPtr)])]) (args := [(.pointer p), (.func (.func pool_Pool_room_c1.no) #[] #[]), (.func (.func pool_Pool_room_c2.no) #[] #[])]) (Eq.mpr (by kernel_rfl : vcFT cPtr Tryz.prog pool_Pool_first.no [(3, [(7, cPtr)])] [(.pointer p), (.func (.func pool_Pool_room_c1.no) #[] #[]), (.func (.func pool_Pool_room_c2.no) #[] #[])] H R = pool_Pool_first.vc p H R) hvc)

/-- (*fathom/pool.Pool).room$1 -/
def pool_Pool_room_c1.vc (f : Option Addr) (H : Heap) (R : Bool → Heap → Prop) : Prop :=
  optK f fun a => ld (cInt .i64) H (a.add 5) fun (x : Int) => R (x == (0 : Int)) H

theorem pool_Pool_room_c1.of {f : Option Addr} {H : Heap} {R : Bool → Heap → Prop} (hvc : pool_Pool_room_c1.vc f H R) : pool_Pool_room_c1.sp f H R :=
  specT_of_vc prog_ng prog_mixed (c := cBool) (A := []) (args := [(.pointer f)]) (Eq.mpr (by kernel_rfl : vcFT cBool Tryz.prog pool_Pool_room_c1.no [] [(.pointer f)] H R = pool_Pool_room_c1.vc f H R) hvc)

/-- (*fathom/pool.Pool).room$2 -/
def pool_Pool_room_c2.vc (a : Option Addr) (b : Option Addr) (H : Heap) (R : Bool → Heap → Prop) : Prop :=
  optK a fun a_1 => ld (cInt .i64) H (a_1.add 6) fun (x : Int) => optK b fun a_2 => ld (cInt .i64) H (a_2.add 6) fun (x_1 : Int) => R (decide (x < x_1)) H

theorem pool_Pool_room_c2.of {a : Option Addr} {b : Option Addr} {H : Heap} {R : Bool → Heap → Prop} (hvc : pool_Pool_room_c2.vc a b H R) : pool_Pool_room_c2.sp a b H R :=
  specT_of_vc prog_ng prog_mixed (c := cBool) (A := []) (args := [(.pointer a), (.pointer b)]) (Eq.mpr (by kernel_rfl : vcFT cBool Tryz.prog pool_Pool_room_c2.no [] [(.pointer a), (.pointer b)] H R = pool_Pool_room_c2.vc a b H R) hvc)

/-- slices.DeleteFunc[[]*fathom/pool.frame,*fathom/pool.frame] -/
def slices_DeleteFunc_sl_ptr_pool_frame_ptr_pool_frame.vc (s : Sl) (cap : Addr) (H : Heap) (R : Sl → Heap → Prop) : Prop :=
  slices_IndexFunc_sl_ptr_pool_frame_ptr_pool_frame_v2.sp s cap H fun (i : Int) H1 => br (i == (-1 : Int)) (R s H1) (LoopVC (Int × Int) (i, IntKind.i64.wrap (i + (1 : Int))) H1 fun next z H2 => br (decide (z.2 < (s.n : Int))) (optK s.a fun a => (0 ≤ z.2 ∧ z.2 < (s.n : Int)) ∧ ld cPtr H2 (a.add (z.2.toNat * 1)) fun (v : Option Addr) => pool_Pool_of_c1.sp v cap H2 fun (r : Bool) H3 => br (!r) (optK s.a fun a_1 => (0 ≤ z.1 ∧ z.1 < (s.n : Int)) ∧ st H3 (a_1.add (z.1.toNat * 1)) (.pointer v) fun H4 => next (IntKind.i64.wrap (z.1 + (1 : Int)), IntKind.i64.wrap (z.2 + (1 : Int))) H4) (next (z.1, IntKind.i64.wrap (z.2 + (1 : Int))) H3)) ((0 ≤ z.1 ∧ z.1 ≤ (s.n : Int)) ∧ doT cRaw Tryz.prog (Builtin.clear_ #[ty_sl_ptr_pool_frame] ty_ #[(.slice (slA s.a s.c z.1.toNat 1) (s.n - z.1.toNat) (s.c - z.1.toNat))]) H2 fun (_ : Value) H5 => (0 ≤ z.1 ∧ z.1 ≤ (s.c : Int)) ∧ R (Sl.mk (slA s.a s.c 0 1) (z.1.toNat - 0) (s.c - 0)) H5))

theorem slices_DeleteFunc_sl_ptr_pool_frame_ptr_pool_frame.of {s : Sl} {cap : Addr} {H : Heap} {R : Sl → Heap → Prop} (hvc : slices_DeleteFunc_sl_ptr_pool_frame_ptr_pool_frame.vc s cap H R) : slices_DeleteFunc_sl_ptr_pool_frame_ptr_pool_frame.sp s cap H R :=
  specT_of_vc prog_ng prog_mixed (c := cSl) (A := [(5, [(5, (cInt .i64)), (6, (cInt .i64))])]) (args := [s.v, (.func (.func pool_Pool_of_c1.no) #[] #[(.pointer (some cap))])]) (Eq.mpr (by kernel_rfl : vcFT cSl Tryz.prog slices_DeleteFunc_sl_ptr_pool_frame_ptr_pool_frame.no [(5, [(5, (cInt .i64)), (6, (cInt .i64))])] [s.v, (.func (.func pool_Pool_of_c1.no) #[] #[(.pointer (some cap))])] H R = slices_DeleteFunc_sl_ptr_pool_frame_ptr_pool_frame.vc s cap H R) hvc)

/-- slices.Collect[*fathom/pool.frame] -/
def slices_Collect_ptr_pool_frame.vc (seq : Value) (H : Heap) (R : Sl → Heap → Prop) : Prop :=
  slices_AppendSeq_sl_ptr_pool_frame_ptr_pool_frame.sp (Sl.mk none 0 0) seq H fun (r : Sl) H1 => R r H1

theorem slices_Collect_ptr_pool_frame.of {seq : Value} {H : Heap} {R : Sl → Heap → Prop} (hvc : slices_Collect_ptr_pool_frame.vc seq H R) : slices_Collect_ptr_pool_frame.sp seq H R :=
  specT_of_vc prog_ng prog_mixed (c := cSl) (A := []) (args := [seq]) (Eq.mpr (by kernel_rfl : vcFT cSl Tryz.prog slices_Collect_ptr_pool_frame.no [] [seq] H R = slices_Collect_ptr_pool_frame.vc seq H R) hvc)

/-- maps.Values[map[fathom/pool.spot]*fathom/pool.frame,fathom/pool.spot,*fathom/pool.frame] -/
def maps_Values_map_pool_spot_ptr_pool_frame_pool_spot_ptr_pool_frame.vc (m : Option Nat) (H : Heap) (R : Value → Heap → Prop) : Prop :=
  newC H #[(.map m)] ty_maparr_pool_spot_ptr_pool_frame fun p H1 => R (.func (.func maps_Values_map_pool_spot_ptr_pool_frame_pool_spot_ptr_pool_frame_c1.no) #[] #[(.pointer (some p))]) H1

theorem maps_Values_map_pool_spot_ptr_pool_frame_pool_spot_ptr_pool_frame.of {m : Option Nat} {H : Heap} {R : Value → Heap → Prop} (hvc : maps_Values_map_pool_spot_ptr_pool_frame_pool_spot_ptr_pool_frame.vc m H R) : maps_Values_map_pool_spot_ptr_pool_frame_pool_spot_ptr_pool_frame.sp m H R :=
  specT_of_vc prog_ng prog_mixed (c := cRaw) (A := []) (args := [(.map m)]) (Eq.mpr (by kernel_rfl : vcFT cRaw Tryz.prog maps_Values_map_pool_spot_ptr_pool_frame_pool_spot_ptr_pool_frame.no [] [(.map m)] H R = maps_Values_map_pool_spot_ptr_pool_frame_pool_spot_ptr_pool_frame.vc m H R) hvc)

/-- (*fathom/pool.Pool).of$1 -/
def pool_Pool_of_c1.vc (f : Option Addr) (cap : Addr) (H : Heap) (R : Bool → Heap → Prop) : Prop :=
  optK f fun a => ld cStr H ((a.add 0).add 0) fun (x : ByteArray) => ld cStr H cap fun (x_1 : ByteArray) => R (!(x.toList == x_1.toList)) H

theorem pool_Pool_of_c1.of {f : Option Addr} {cap : Addr} {H : Heap} {R : Bool → Heap → Prop} (hvc : pool_Pool_of_c1.vc f cap H R) : pool_Pool_of_c1.sp f cap H R :=
  specT_of_vc prog_ng prog_mixed (c := cBool) (A := []) (args := [(.pointer f), (.pointer (some cap))]) (Eq.mpr (by kernel_rfl : vcFT cBool Tryz.prog pool_Pool_of_c1.no [] [(.pointer f), (.pointer (some cap))] H R = pool_Pool_of_c1.vc f cap H R) hvc)

/-- (*fathom/pool.Pool).of$2 -/
def pool_Pool_of_c2.vc (a : Option Addr) (b : Option Addr) (H : Heap) (R : Int → Heap → Prop) : Prop :=
  optK a fun a_1 => ld (cInt .i64) H ((a_1.add 0).add 1) fun (x : Int) => optK b fun a_2 => ld (cInt .i64) H ((a_2.add 0).add 1) fun (x_1 : Int) => R (IntKind.i64.wrap (x - x_1)) H

theorem pool_Pool_of_c2.of {a : Option Addr} {b : Option Addr} {H : Heap} {R : Int → Heap → Prop} (hvc : pool_Pool_of_c2.vc a b H R) : pool_Pool_of_c2.sp a b H R :=
  specT_of_vc prog_ng prog_mixed (c := (cInt .i64)) (A := []) (args := [(.pointer a), (.pointer b)]) (Eq.mpr (by kernel_rfl : vcFT (cInt .i64) Tryz.prog pool_Pool_of_c2.no [] [(.pointer a), (.pointer b)] H R = pool_Pool_of_c2.vc a b H R) hvc)

/-- fathom/page.Open -/
def page_Open.vc (b : Sl) (H : Heap) (R : (Int × Sl × Int) → Heap → Prop) : Prop :=
  br ((b.n : Int) != (512 : Int)) (R ((0 : Int), (Sl.mk none 0 0), (2 : Int)) H) ((0 ≤ (4 : Int) ∧ (4 : Int) ≤ (b.n : Int)) ∧ page_Sum.sp (Sl.mk (slA b.a b.c ((4 : Int).toNat) 1) (b.n - ((4 : Int).toNat)) (b.c - ((4 : Int).toNat))) H fun (n : Int) H1 => LoopVC Int (0 : Int) H1 fun next z H2 => br (decide (z < (4 : Int))) (optK b.a fun a => (0 ≤ z ∧ z < (b.n : Int)) ∧ ld (cInt .u8) H2 (a.add (z.toNat * 1)) fun (x : Int) => 0 ≤ (IntKind.i64.wrap ((8 : Int) * z)) ∧ br (x != (IntKind.u8.wrap (ishr .u32 n (IntKind.i64.wrap ((8 : Int) * z))))) (R ((0 : Int), (Sl.mk none 0 0), (20 : Int)) H2) (next (IntKind.i64.wrap (z + (1 : Int))) H2)) (optK b.a fun a_1 => (0 ≤ (4 : Int) ∧ (4 : Int) < (b.n : Int)) ∧ ld (cInt .u8) H2 (a_1.add ((4 : Int).toNat * 1)) fun (x_1 : Int) => optK b.a fun a_2 => (0 ≤ (5 : Int) ∧ (5 : Int) < (b.n : Int)) ∧ ld (cInt .u8) H2 (a_2.add ((5 : Int).toNat * 1)) fun (x_2 : Int) => br (decide ((ior .i64 (IntKind.i64.wrap x_1) (ishl .i64 (IntKind.i64.wrap x_2) (8 : Int))) > (504 : Int))) (R ((0 : Int), (Sl.mk none 0 0), (20 : Int)) H2) (optK b.a fun a_3 => (0 ≤ (7 : Int) ∧ (7 : Int) < (b.n : Int)) ∧ ld (cInt .u8) H2 (a_3.add ((7 : Int).toNat * 1)) fun (x_3 : Int) => br (x_3 != (157 : Int)) (R ((0 : Int), (Sl.mk none 0 0), (20 : Int)) H2) ((0 ≤ (IntKind.i64.wrap ((8 : Int) + (ior .i64 (IntKind.i64.wrap x_1) (ishl .i64 (IntKind.i64.wrap x_2) (8 : Int))))) ∧ (IntKind.i64.wrap ((8 : Int) + (ior .i64 (IntKind.i64.wrap x_1) (ishl .i64 (IntKind.i64.wrap x_2) (8 : Int))))) ≤ (b.n : Int)) ∧ slices_ContainsFunc_sl_byte_byte.sp (Sl.mk (slA b.a b.c ((IntKind.i64.wrap ((8 : Int) + (ior .i64 (IntKind.i64.wrap x_1) (ishl .i64 (IntKind.i64.wrap x_2) (8 : Int))))).toNat) 1) (b.n - ((IntKind.i64.wrap ((8 : Int) + (ior .i64 (IntKind.i64.wrap x_1) (ishl .i64 (IntKind.i64.wrap x_2) (8 : Int))))).toNat)) (b.c - ((IntKind.i64.wrap ((8 : Int) + (ior .i64 (IntKind.i64.wrap x_1) (ishl .i64 (IntKind.i64.wrap x_2) (8 : Int))))).toNat))) H2 fun (r : Bool) H3 => br r (R ((0 : Int), (Sl.mk none 0 0), (20 : Int)) H3) (∃ G : Heap → Prop, G H3 ∧ optK b.a fun a_4 => (0 ≤ (6 : Int) ∧ (6 : Int) < (b.n : Int)) ∧ ldC (cInt .u8) G (a_4.add ((6 : Int).toNat * 1)) fun (x_4 : Int) => (0 ≤ (IntKind.i64.wrap ((8 : Int) + (ior .i64 (IntKind.i64.wrap x_1) (ishl .i64 (IntKind.i64.wrap x_2) (8 : Int))))) ∧ (IntKind.i64.wrap ((8 : Int) + (ior .i64 (IntKind.i64.wrap x_1) (ishl .i64 (IntKind.i64.wrap x_2) (8 : Int))))) ≤ (b.c : Int)) ∧ (0 ≤ (8 : Int) ∧ (8 : Int) ≤ (IntKind.i64.wrap ((8 : Int) + (ior .i64 (IntKind.i64.wrap x_1) (ishl .i64 (IntKind.i64.wrap x_2) (8 : Int)))))) ∧ slices_Clone_sl_byte_byte.sp (Sl.mk (slA b.a b.c ((8 : Int).toNat) 1) (((IntKind.i64.wrap ((8 : Int) + (ior .i64 (IntKind.i64.wrap x_1) (ishl .i64 (IntKind.i64.wrap x_2) (8 : Int))))).toNat) - ((8 : Int).toNat)) (b.c - ((8 : Int).toNat))) H3 fun (r_1 : Sl) H4 => G H4 ∧ R (x_4, r_1, (0 : Int)) H4)))))

theorem page_Open.of {b : Sl} {H : Heap} {R : (Int × Sl × Int) → Heap → Prop} (hvc : page_Open.vc b H R) : page_Open.sp b H R :=
  specT_of_vc prog_ng prog_mixed (c := (cTup [(cInt .u8), cSl, (cInt .i64)])) (A := [(5, [(14, (cInt .i64))])]) (args := [b.v]) (Eq.mpr (by kernel_rfl : vcFT (cTup [(cInt .u8), cSl, (cInt .i64)]) Tryz.prog page_Open.no [(5, [(14, (cInt .i64))])] [b.v] H R = page_Open.vc b H R) hvc)

/-- (*fathom/fathomref03.Pool).drop -/
def fathomref03_Pool_drop.vc (p : Option Addr) (i : Int) (H : Heap) (R : Unit → Heap → Prop) : Prop :=
  optK p fun a => ld cSl H (a.add 2) fun (x : Sl) => (0 ≤ i ∧ i ≤ (x.c : Int)) ∧ doT cSl Tryz.prog (Builtin.append_ #[ty_sl_fathomref03_Frame, ty_sl_fathomref03_Frame] ty_sl_fathomref03_Frame #[(.slice none 0 0), (.slice (slA x.a x.c 0 7) (i.toNat - 0) (x.c - 0))]) H fun (l : Sl) H1 => optK p fun a_1 => ld cSl H1 (a_1.add 2) fun (x_1 : Sl) => (0 ≤ (IntKind.i64.wrap (i + (1 : Int))) ∧ (IntKind.i64.wrap (i + (1 : Int))) ≤ (x_1.n : Int)) ∧ doT cSl Tryz.prog (Builtin.append_ #[ty_sl_fathomref03_Frame, ty_sl_fathomref03_Frame] ty_sl_fathomref03_Frame #[l.v, (.slice (slA x_1.a x_1.c ((IntKind.i64.wrap (i + (1 : Int))).toNat) 7) (x_1.n - ((IntKind.i64.wrap (i + (1 : Int))).toNat)) (x_1.c - ((IntKind.i64.wrap (i + (1 : Int))).toNat)))]) H1 fun (l_1 : Sl) H2 => optK p fun a_2 => st H2 (a_2.add 2) l_1.v fun H3 => R () H3

theorem fathomref03_Pool_drop.of {p : Option Addr} {i : Int} {H : Heap} {R : Unit → Heap → Prop} (hvc : fathomref03_Pool_drop.vc p i H R) : fathomref03_Pool_drop.sp p i H R :=
  specT_of_vc prog_ng prog_mixed (c := (cTup [])) (A := []) (args := [(.pointer p), (.int .i64 i)]) (Eq.mpr (by kernel_rfl : vcFT (cTup []) Tryz.prog fathomref03_Pool_drop.no [] [(.pointer p), (.int .i64 i)] H R = fathomref03_Pool_drop.vc p i H R) hvc)

/-- fathom/fathomref02.Sum -/
def fathomref02_Sum.vc (b : Sl) (H : Heap) (R : Int → Heap → Prop) : Prop :=
  LoopVC (Int × Int) ((4294967295 : Int), (0 : Int)) H fun next z H1 => br (decide (z.2 < (b.n : Int))) (optK b.a fun a => (0 ≤ z.2 ∧ z.2 < (b.n : Int)) ∧ ld (cInt .u8) H1 (a.add (z.2.toNat * 1)) fun (x : Int) => LoopVC (Int × Int) (ixor .u32 z.1 (IntKind.u32.wrap x), (0 : Int)) H1 fun next_1 z_1 H2 => br (decide (z_1.2 < (8 : Int))) (br ((iand .u32 z_1.1 (1 : Int)) == (1 : Int)) (next_1 (ixor .u32 (ishr .u32 z_1.1 (1 : Int)) (3988292384 : Int), IntKind.i64.wrap (z_1.2 + (1 : Int))) H2) (next_1 (ishr .u32 z_1.1 (1 : Int), IntKind.i64.wrap (z_1.2 + (1 : Int))) H2)) (next (z_1.1, IntKind.i64.wrap (z.2 + (1 : Int))) H2)) (R (ixor .u32 z.1 (4294967295 : Int)) H1)

theorem fathomref02_Sum.of {b : Sl} {H : Heap} {R : Int → Heap → Prop} (hvc : fathomref02_Sum.vc b H R) : fathomref02_Sum.sp b H R :=
  specT_of_vc prog_ng prog_mixed (c := (cInt .u32)) (A := [(3, [(3, (cInt .u32)), (4, (cInt .i64))]), (7, [(3, (cInt .u32)), (5, (cInt .i64))])]) (args := [b.v]) (Eq.mpr (by kernel_rfl : vcFT (cInt .u32) Tryz.prog fathomref02_Sum.no [(3, [(3, (cInt .u32)), (4, (cInt .i64))]), (7, [(3, (cInt .u32)), (5, (cInt .i64))])] [b.v] H R = fathomref02_Sum.vc b H R) hvc)

/-- slices.IndexFunc[[]*fathom/pool.frame,*fathom/pool.frame] -/
def slices_IndexFunc_sl_ptr_pool_frame_ptr_pool_frame.vc (s : Sl) (H : Heap) (R : Int → Heap → Prop) : Prop :=
  LoopVC Int (0 : Int) H fun next z H1 => br (decide (z < (s.n : Int))) (optK s.a fun a => (0 ≤ z ∧ z < (s.n : Int)) ∧ ld cPtr H1 (a.add (z.toNat * 1)) fun (x : Option Addr) => pool_Pool_Drop_c1.sp x H1 fun (r : Bool) H2 => br r (R z H2) (next (IntKind.i64.wrap (z + (1 : Int))) H2)) (R (-1 : Int) H1)

theorem slices_IndexFunc_sl_ptr_pool_frame_ptr_pool_frame.of {s : Sl} {H : Heap} {R : Int → Heap → Prop} (hvc : slices_IndexFunc_sl_ptr_pool_frame_ptr_pool_frame.vc s H R) : slices_IndexFunc_sl_ptr_pool_frame_ptr_pool_frame.sp s H R :=
  specT_of_vc prog_ng prog_mixed (c := (cInt .i64)) (A := [(2, [(8, (cInt .i64))])]) (args := [s.v, (.func (.func pool_Pool_Drop_c1.no) #[] #[])]) (Eq.mpr (by kernel_rfl : vcFT (cInt .i64) Tryz.prog slices_IndexFunc_sl_ptr_pool_frame_ptr_pool_frame.no [(2, [(8, (cInt .i64))])] [s.v, (.func (.func pool_Pool_Drop_c1.no) #[] #[])] H R = slices_IndexFunc_sl_ptr_pool_frame_ptr_pool_frame.vc s H R) hvc)

/-- slices.IndexFunc[[]*fathom/pool.frame,*fathom/pool.frame] -/
def slices_IndexFunc_sl_ptr_pool_frame_ptr_pool_frame_v2.vc (s : Sl) (cap : Addr) (H : Heap) (R : Int → Heap → Prop) : Prop :=
  LoopVC Int (0 : Int) H fun next z H1 => br (decide (z < (s.n : Int))) (optK s.a fun a => (0 ≤ z ∧ z < (s.n : Int)) ∧ ld cPtr H1 (a.add (z.toNat * 1)) fun (x : Option Addr) => pool_Pool_of_c1.sp x cap H1 fun (r : Bool) H2 => br r (R z H2) (next (IntKind.i64.wrap (z + (1 : Int))) H2)) (R (-1 : Int) H1)

theorem slices_IndexFunc_sl_ptr_pool_frame_ptr_pool_frame_v2.of {s : Sl} {cap : Addr} {H : Heap} {R : Int → Heap → Prop} (hvc : slices_IndexFunc_sl_ptr_pool_frame_ptr_pool_frame_v2.vc s cap H R) : slices_IndexFunc_sl_ptr_pool_frame_ptr_pool_frame_v2.sp s cap H R :=
  specT_of_vc prog_ng prog_mixed (c := (cInt .i64)) (A := [(2, [(8, (cInt .i64))])]) (args := [s.v, (.func (.func pool_Pool_of_c1.no) #[] #[(.pointer (some cap))])]) (Eq.mpr (by kernel_rfl : vcFT (cInt .i64) Tryz.prog slices_IndexFunc_sl_ptr_pool_frame_ptr_pool_frame.no [(2, [(8, (cInt .i64))])] [s.v, (.func (.func pool_Pool_of_c1.no) #[] #[(.pointer (some cap))])] H R = slices_IndexFunc_sl_ptr_pool_frame_ptr_pool_frame_v2.vc s cap H R) hvc)

/-- (*fathom/disk.Disk).drop -/
def disk_Disk_drop.vc (d : Option Addr) (name : ByteArray) (H : Heap) (R : Unit → Heap → Prop) : Prop :=
  optK d fun a => ld cMap H (a.add 0) fun (x : Option Nat) => rdV (cTup [cPtr, cBool]) Tryz.prog (Instr.lookup ty_maparr_string_ptr_disk_file (.map x) (.string name) true) H fun (x_1 : (Option Addr × Bool)) => br x_1.2 (optK d fun a_1 => ld (cInt .i64) H (a_1.add 1) fun (x_2 : Int) => optK x_1.1 fun a_2 => ld cSl H (a_2.add 0) fun (x_3 : Sl) => optK d fun a_3 => st H (a_3.add 1) (.int .i64 (IntKind.i64.wrap (x_2 - (x_3.n : Int)))) fun H1 => optK d fun a_4 => ld cMap H1 (a_4.add 0) fun (x_4 : Option Nat) => doT cRaw Tryz.prog (Builtin.delete_ #[ty_maparr_string_ptr_disk_file, ty_string] ty_ #[(.map x_4), (.string name)]) H1 fun (_ : Value) H2 => R () H2) (R () H)

theorem disk_Disk_drop.of {d : Option Addr} {name : ByteArray} {H : Heap} {R : Unit → Heap → Prop} (hvc : disk_Disk_drop.vc d name H R) : disk_Disk_drop.sp d name H R :=
  specT_of_vc prog_ng prog_mixed (c := (cTup [])) (A := []) (args := [(.pointer d), (.string name)]) (Eq.mpr (by kernel_rfl : vcFT (cTup []) Tryz.prog disk_Disk_drop.no [] [(.pointer d), (.string name)] H R = disk_Disk_drop.vc d name H R) hvc)

/-- (*fathom/fathomref01.Disk).drop -/
def fathomref01_Disk_drop.vc (d : Option Addr) (i : Int) (H : Heap) (R : Unit → Heap → Prop) : Prop :=
  optK d fun a => ld cSl H (a.add 0) fun (x : Sl) => (0 ≤ i ∧ i ≤ (x.c : Int)) ∧ doT cSl Tryz.prog (Builtin.append_ #[ty_sl_fathomref01_File, ty_sl_fathomref01_File] ty_sl_fathomref01_File #[(.slice none 0 0), (.slice (slA x.a x.c 0 3) (i.toNat - 0) (x.c - 0))]) H fun (l : Sl) H1 => optK d fun a_1 => ld cSl H1 (a_1.add 0) fun (x_1 : Sl) => (0 ≤ (IntKind.i64.wrap (i + (1 : Int))) ∧ (IntKind.i64.wrap (i + (1 : Int))) ≤ (x_1.n : Int)) ∧ doT cSl Tryz.prog (Builtin.append_ #[ty_sl_fathomref01_File, ty_sl_fathomref01_File] ty_sl_fathomref01_File #[l.v, (.slice (slA x_1.a x_1.c ((IntKind.i64.wrap (i + (1 : Int))).toNat) 3) (x_1.n - ((IntKind.i64.wrap (i + (1 : Int))).toNat)) (x_1.c - ((IntKind.i64.wrap (i + (1 : Int))).toNat)))]) H1 fun (l_1 : Sl) H2 => optK d fun a_2 => st H2 (a_2.add 0) l_1.v fun H3 => R () H3

theorem fathomref01_Disk_drop.of {d : Option Addr} {i : Int} {H : Heap} {R : Unit → Heap → Prop} (hvc : fathomref01_Disk_drop.vc d i H R) : fathomref01_Disk_drop.sp d i H R :=
  specT_of_vc prog_ng prog_mixed (c := (cTup [])) (A := []) (args := [(.pointer d), (.int .i64 i)]) (Eq.mpr (by kernel_rfl : vcFT (cTup []) Tryz.prog fathomref01_Disk_drop.no [] [(.pointer d), (.int .i64 i)] H R = fathomref01_Disk_drop.vc d i H R) hvc)

/-- cmp.Less[int] -/
def cmp_Less_int.vc (x : Int) (y : Int) (H : Heap) (R : Bool → Heap → Prop) : Prop :=
  cmp_isNaN_int.sp x H fun (r : Bool) H1 => br r (cmp_isNaN_int.sp y H1 fun (r_1 : Bool) H2 => R ((!r_1) || (decide (x < y))) H2) (R (decide (x < y)) H1)

theorem cmp_Less_int.of {x : Int} {y : Int} {H : Heap} {R : Bool → Heap → Prop} (hvc : cmp_Less_int.vc x y H R) : cmp_Less_int.sp x y H R :=
  specT_of_vc prog_ng prog_mixed (c := cBool) (A := []) (args := [(.int .i64 x), (.int .i64 y)]) (Eq.mpr (by kernel_rfl : vcFT cBool Tryz.prog cmp_Less_int.no [] [(.int .i64 x), (.int .i64 y)] H R = cmp_Less_int.vc x y H R) hvc)

/-- slices.isNaN[int] -/
def slices_isNaN_int.vc (x : Int) (H : Heap) (R : Bool → Heap → Prop) : Prop :=
  R (x != x) H

theorem slices_isNaN_int.of {x : Int} {H : Heap} {R : Bool → Heap → Prop} (hvc : slices_isNaN_int.vc x H R) : slices_isNaN_int.sp x H R :=
  specT_of_vc prog_ng prog_mixed (c := cBool) (A := []) (args := [(.int .i64 x)]) (Eq.mpr (by kernel_rfl : vcFT cBool Tryz.prog slices_isNaN_int.no [] [(.int .i64 x)] H R = slices_isNaN_int.vc x H R) hvc)

/-- slices.Collect[string] -/
def slices_Collect_string.vc (seq : Value) (H : Heap) (R : Sl → Heap → Prop) : Prop :=
  slices_AppendSeq_sl_string_string.sp (Sl.mk none 0 0) seq H fun (r : Sl) H1 => R r H1

theorem slices_Collect_string.of {seq : Value} {H : Heap} {R : Sl → Heap → Prop} (hvc : slices_Collect_string.vc seq H R) : slices_Collect_string.sp seq H R :=
  specT_of_vc prog_ng prog_mixed (c := cSl) (A := []) (args := [seq]) (Eq.mpr (by kernel_rfl : vcFT cSl Tryz.prog slices_Collect_string.no [] [seq] H R = slices_Collect_string.vc seq H R) hvc)

/-- maps.Keys[map[string]*fathom/disk.file,string,*fathom/disk.file]$1 -/
def maps_Keys_map_string_ptr_disk_file_string_ptr_disk_file_c1.vc (l : Nat) (cap : Addr) (H : Heap) (R : Unit → Heap → Prop) : Prop :=
  ld cMap H cap fun (x : Option Nat) => doT cPtr Tryz.prog (Instr.range ty_maparr_string_ptr_disk_file (.map x)) H fun (it : Option Addr) H1 => LoopVC Unit () H1 fun next _ H2 => doT cNext Tryz.prog (Instr.next (.pointer it) false ty_) H2 fun (nx : Bool × List Value) H3 => br nx.1 (doT cTwo Tryz.prog (Instr.entry (.pointer it)) H3 fun (en : Value × Value) H4 => asT cStr en.1 fun (k : ByteArray) => YieldSpec Tryz.prog l #[(.string k)] H4 fun (b : Bool) H5 => br (!b) (R () H5) (next () H5)) (R () H3)

theorem maps_Keys_map_string_ptr_disk_file_string_ptr_disk_file_c1.of {l : Nat} {cap : Addr} {H : Heap} {R : Unit → Heap → Prop} (hvc : maps_Keys_map_string_ptr_disk_file_string_ptr_disk_file_c1.vc l cap H R) : maps_Keys_map_string_ptr_disk_file_string_ptr_disk_file_c1.sp l cap H R :=
  specT_of_vc prog_ng prog_mixed (c := (cTup [])) (A := [(1, [])]) (args := [(.func (.yield l) #[] #[]), (.pointer (some cap))]) (Eq.mpr (by kernel_rfl : vcFT (cTup []) Tryz.prog maps_Keys_map_string_ptr_disk_file_string_ptr_disk_file_c1.no [(1, [])] [(.func (.yield l) #[] #[]), (.pointer (some cap))] H R = maps_Keys_map_string_ptr_disk_file_string_ptr_disk_file_c1.vc l cap H R) hvc)

/-- slices.AppendSeq[[]*fathom/pool.frame,*fathom/pool.frame] -/
def slices_AppendSeq_sl_ptr_pool_frame_ptr_pool_frame.vc (s : Sl) (seq : Value) (H : Heap) (R : Sl → Heap → Prop) : Prop :=
  newC H #[s.v] ty_sl_ptr_pool_frame fun p H1 => RangeVC Tryz.prog seq H1 (fun l rec vs H2 KK => onSome (Cods.dec [cPtr] vs) fun (z : Option Addr) => H2[l]? = some (.loop (rec .ready none)) ∧ ld cSl (H2.setIfInBounds l (.loop (rec .busy none))) p fun (x : Sl) => newC (H2.setIfInBounds l (.loop (rec .busy none))) #[(.pointer z)] ty_ptr_pool_frame fun p_1 H3 => doT cSl Tryz.prog (Builtin.append_ #[ty_sl_ptr_pool_frame, ty_sl_ptr_pool_frame] ty_sl_ptr_pool_frame #[x.v, (.slice (some p_1) 1 1)]) H3 fun (s_1 : Sl) H4 => st H4 p s_1.v fun H5 => H5[l]? = some (.loop (rec .busy none)) ∧ KK true (H5.setIfInBounds l (.loop (rec .ready none)))) (fun r H6 => ld cSl H6 p fun (x_1 : Sl) => H6[r]? = some (.deferred (some [])) ∧ R x_1 (H6.setIfInBounds r (.deferred none))) (fun i r H6 => bif Nat.beq i 0 then ld cSl H6 p fun (x_2 : Sl) => H6[r]? = some (.deferred (some [])) ∧ R x_2 (H6.setIfInBounds r (.deferred none)) else False) (fun r H6 => H6[r]? = some (.deferred (some [])) ∧ R (Sl.mk none 0 0) (H6.setIfInBounds r (.deferred none)))

theorem slices_AppendSeq_sl_ptr_pool_frame_ptr_pool_frame.of {s : Sl} {seq : Value} {H : Heap} {R : Sl → Heap → Prop} (hvc : slices_AppendSeq_sl_ptr_pool_frame_ptr_pool_frame.vc s seq H R) : slices_AppendSeq_sl_ptr_pool_frame_ptr_pool_frame.sp s seq H R :=
  specT_of_vc prog_ng prog_mixed (c := cSl) (A := [(200003, [(7, cPtr)])]) (args := [s.v, seq]) (Eq.mpr (by kernel_rfl : vcFT cSl Tryz.prog slices_AppendSeq_sl_ptr_pool_frame_ptr_pool_frame.no [(200003, [(7, cPtr)])] [s.v, seq] H R = slices_AppendSeq_sl_ptr_pool_frame_ptr_pool_frame.vc s seq H R) hvc)

/-- maps.Values[map[fathom/pool.spot]*fathom/pool.frame,fathom/pool.spot,*fathom/pool.frame]$1 -/
def maps_Values_map_pool_spot_ptr_pool_frame_pool_spot_ptr_pool_frame_c1.vc (l : Nat) (cap : Addr) (H : Heap) (R : Unit → Heap → Prop) : Prop :=
  ld cMap H cap fun (x : Option Nat) => doT cPtr Tryz.prog (Instr.range ty_maparr_pool_spot_ptr_pool_frame (.map x)) H fun (it : Option Addr) H1 => LoopVC Unit () H1 fun next _ H2 => doT cNext Tryz.prog (Instr.next (.pointer it) false ty_) H2 fun (nx : Bool × List Value) H3 => br nx.1 (doT cTwo Tryz.prog (Instr.entry (.pointer it)) H3 fun (en : Value × Value) H4 => asT cPtr en.2 fun (v : Option Addr) => YieldSpec Tryz.prog l #[(.pointer v)] H4 fun (b : Bool) H5 => br (!b) (R () H5) (next () H5)) (R () H3)

theorem maps_Values_map_pool_spot_ptr_pool_frame_pool_spot_ptr_pool_frame_c1.of {l : Nat} {cap : Addr} {H : Heap} {R : Unit → Heap → Prop} (hvc : maps_Values_map_pool_spot_ptr_pool_frame_pool_spot_ptr_pool_frame_c1.vc l cap H R) : maps_Values_map_pool_spot_ptr_pool_frame_pool_spot_ptr_pool_frame_c1.sp l cap H R :=
  specT_of_vc prog_ng prog_mixed (c := (cTup [])) (A := [(1, [])]) (args := [(.func (.yield l) #[] #[]), (.pointer (some cap))]) (Eq.mpr (by kernel_rfl : vcFT (cTup []) Tryz.prog maps_Values_map_pool_spot_ptr_pool_frame_pool_spot_ptr_pool_frame_c1.no [(1, [])] [(.func (.yield l) #[] #[]), (.pointer (some cap))] H R = maps_Values_map_pool_spot_ptr_pool_frame_pool_spot_ptr_pool_frame_c1.vc l cap H R) hvc)

/-- slices.ContainsFunc[[]byte,byte] -/
def slices_ContainsFunc_sl_byte_byte.vc (s : Sl) (H : Heap) (R : Bool → Heap → Prop) : Prop :=
  slices_IndexFunc_sl_byte_byte.sp s H fun (r : Int) H1 => R (decide (r ≥ (0 : Int))) H1

theorem slices_ContainsFunc_sl_byte_byte.of {s : Sl} {H : Heap} {R : Bool → Heap → Prop} (hvc : slices_ContainsFunc_sl_byte_byte.vc s H R) : slices_ContainsFunc_sl_byte_byte.sp s H R :=
  specT_of_vc prog_ng prog_mixed (c := cBool) (A := []) (args := [s.v, (.func (.func page_Open_c1.no) #[] #[])]) (Eq.mpr (by kernel_rfl : vcFT cBool Tryz.prog slices_ContainsFunc_sl_byte_byte.no [] [s.v, (.func (.func page_Open_c1.no) #[] #[])] H R = slices_ContainsFunc_sl_byte_byte.vc s H R) hvc)

/-- fathom/page.Open$1 -/
def page_Open_c1.vc (c : Int) (H : Heap) (R : Bool → Heap → Prop) : Prop :=
  R (c != (0 : Int)) H

theorem page_Open_c1.of {c : Int} {H : Heap} {R : Bool → Heap → Prop} (hvc : page_Open_c1.vc c H R) : page_Open_c1.sp c H R :=
  specT_of_vc prog_ng prog_mixed (c := cBool) (A := []) (args := [(.int .u8 c)]) (Eq.mpr (by kernel_rfl : vcFT cBool Tryz.prog page_Open_c1.no [] [(.int .u8 c)] H R = page_Open_c1.vc c H R) hvc)

/-- cmp.isNaN[int] -/
def cmp_isNaN_int.vc (x : Int) (H : Heap) (R : Bool → Heap → Prop) : Prop :=
  R (x != x) H

theorem cmp_isNaN_int.of {x : Int} {H : Heap} {R : Bool → Heap → Prop} (hvc : cmp_isNaN_int.vc x H R) : cmp_isNaN_int.sp x H R :=
  specT_of_vc prog_ng prog_mixed (c := cBool) (A := []) (args := [(.int .i64 x)]) (Eq.mpr (by kernel_rfl : vcFT cBool Tryz.prog cmp_isNaN_int.no [] [(.int .i64 x)] H R = cmp_isNaN_int.vc x H R) hvc)

/-- slices.AppendSeq[[]string,string] -/
def slices_AppendSeq_sl_string_string.vc (s : Sl) (seq : Value) (H : Heap) (R : Sl → Heap → Prop) : Prop :=
  newC H #[s.v] ty_sl_string fun p H1 => RangeVC Tryz.prog seq H1 (fun l rec vs H2 KK => onSome (Cods.dec [cStr] vs) fun (z : ByteArray) => H2[l]? = some (.loop (rec .ready none)) ∧ ld cSl (H2.setIfInBounds l (.loop (rec .busy none))) p fun (x : Sl) => newC (H2.setIfInBounds l (.loop (rec .busy none))) #[(.string z)] ty_string fun p_1 H3 => doT cSl Tryz.prog (Builtin.append_ #[ty_sl_string, ty_sl_string] ty_sl_string #[x.v, (.slice (some p_1) 1 1)]) H3 fun (s_1 : Sl) H4 => st H4 p s_1.v fun H5 => H5[l]? = some (.loop (rec .busy none)) ∧ KK true (H5.setIfInBounds l (.loop (rec .ready none)))) (fun r H6 => ld cSl H6 p fun (x_1 : Sl) => H6[r]? = some (.deferred (some [])) ∧ R x_1 (H6.setIfInBounds r (.deferred none))) (fun i r H6 => bif Nat.beq i 0 then ld cSl H6 p fun (x_2 : Sl) => H6[r]? = some (.deferred (some [])) ∧ R x_2 (H6.setIfInBounds r (.deferred none)) else False) (fun r H6 => H6[r]? = some (.deferred (some [])) ∧ R (Sl.mk none 0 0) (H6.setIfInBounds r (.deferred none)))

theorem slices_AppendSeq_sl_string_string.of {s : Sl} {seq : Value} {H : Heap} {R : Sl → Heap → Prop} (hvc : slices_AppendSeq_sl_string_string.vc s seq H R) : slices_AppendSeq_sl_string_string.sp s seq H R :=
  specT_of_vc prog_ng prog_mixed (c := cSl) (A := [(200003, [(7, cStr)])]) (args := [s.v, seq]) (Eq.mpr (by kernel_rfl : vcFT cSl Tryz.prog slices_AppendSeq_sl_string_string.no [(200003, [(7, cStr)])] [s.v, seq] H R = slices_AppendSeq_sl_string_string.vc s seq H R) hvc)

/-- slices.IndexFunc[[]byte,byte] -/
def slices_IndexFunc_sl_byte_byte.vc (s : Sl) (H : Heap) (R : Int → Heap → Prop) : Prop :=
  LoopVC Int (0 : Int) H fun next z H1 => br (decide (z < (s.n : Int))) (optK s.a fun a => (0 ≤ z ∧ z < (s.n : Int)) ∧ ld (cInt .u8) H1 (a.add (z.toNat * 1)) fun (x : Int) => page_Open_c1.sp x H1 fun (r : Bool) H2 => br r (R z H2) (next (IntKind.i64.wrap (z + (1 : Int))) H2)) (R (-1 : Int) H1)

theorem slices_IndexFunc_sl_byte_byte.of {s : Sl} {H : Heap} {R : Int → Heap → Prop} (hvc : slices_IndexFunc_sl_byte_byte.vc s H R) : slices_IndexFunc_sl_byte_byte.sp s H R :=
  specT_of_vc prog_ng prog_mixed (c := (cInt .i64)) (A := [(2, [(8, (cInt .i64))])]) (args := [s.v, (.func (.func page_Open_c1.no) #[] #[])]) (Eq.mpr (by kernel_rfl : vcFT (cInt .i64) Tryz.prog slices_IndexFunc_sl_byte_byte.no [(2, [(8, (cInt .i64))])] [s.v, (.func (.func page_Open_c1.no) #[] #[])] H R = slices_IndexFunc_sl_byte_byte.vc s H R) hvc)

end Go.Proofs.YtbhddkmfhampbaaGreatDoor
