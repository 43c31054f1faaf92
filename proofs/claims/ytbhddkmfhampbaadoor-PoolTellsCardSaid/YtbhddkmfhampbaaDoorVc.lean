/-
  Written by wip/tools/gen.py: what the walk of each function asks, in plain form, and that it is enough.
-/
import Derived.Test.YtbhddkmfhampbaaDoorFxf
import Derived.Test.YtbhddkmfhampbaaDoorProg
import Derived.KernelRfl
namespace Go.Proofs.YtbhddkmfhampbaaDoor
set_option maxRecDepth 100000

theorem prog_mixed : Tryd.prog.follows .mixedOrders = true := by kernel_rfl
theorem prog_ngB : (Tryd.prog.funcs.toList.all fun fn => !(fn.name == "runtime.NumGoroutine")) = true := by kernel_rfl
theorem prog_ng : NoNG Tryd.prog := by
  intro f fn hf
  have h1 := List.all_eq_true.1 prog_ngB fn (by
    have := Array.getElem?_eq_some_iff.1 hf
    obtain ⟨h, e⟩ := this
    rw [← e]; simp)
  simpa using h1

@[reducible] def ty_ : TypeId := 0
@[reducible] def ty_int : TypeId := 3
@[reducible] def ty_uint8 : TypeId := 5
@[reducible] def ty_string : TypeId := 9
@[reducible] def ty_sl_uint8 : TypeId := 33
@[reducible] def ty_fathomlaw03_Step : TypeId := 44
@[reducible] def ty_sl_int : TypeId := 48
@[reducible] def ty_maparr_string_ptr_disk_file : TypeId := 55
@[reducible] def ty_disk_crash : TypeId := 57
@[reducible] def ty_disk_Disk : TypeId := 59
@[reducible] def ty_sl_disk_sheet : TypeId := 64
@[reducible] def ty_sl_disk_mark : TypeId := 65
@[reducible] def ty_disk_file : TypeId := 67
@[reducible] def ty_maparr_pool_spot_ptr_pool_frame : TypeId := 68
@[reducible] def ty_maparr_int_ptr_pool_frame : TypeId := 69
@[reducible] def ty_pool_Pool : TypeId := 71
@[reducible] def ty_ptr_pool_frame : TypeId := 72
@[reducible] def ty_pool_spot : TypeId := 74
@[reducible] def ty_pool_frame : TypeId := 76
@[reducible] def ty_sl_ptr_pool_frame : TypeId := 87
@[reducible] def ty_arr_512_uint8 : TypeId := 92
@[reducible] def ty_disk_sheet : TypeId := 93
@[reducible] def ty_disk_mark : TypeId := 95

@[reducible] def fathomlaw03_PoolPins.no : FuncId := 3
@[reducible] def fathomlaw03_PoolNone.no : FuncId := 4
@[reducible] def fathomlaw03_PoolTells.no : FuncId := 5
@[reducible] def fathomkit_Pick.no : FuncId := 6
@[reducible] def disk_New.no : FuncId := 7
@[reducible] def disk_Disk_Create.no : FuncId := 8
@[reducible] def pool_New.no : FuncId := 9
@[reducible] def pool_Pool_Fresh.no : FuncId := 10
@[reducible] def pool_Pool_Put.no : FuncId := 11
@[reducible] def disk_Disk_Ops.no : FuncId := 12
@[reducible] def disk_Disk_Len.no : FuncId := 13
@[reducible] def pool_Pool_Resident.no : FuncId := 14
@[reducible] def pool_Pool_Pinned.no : FuncId := 15
@[reducible] def pool_Pool_Unpin.no : FuncId := 16
@[reducible] def pool_Pool_Pin.no : FuncId := 17
@[reducible] def pool_Pool_Get.no : FuncId := 18
@[reducible] def pool_Pool_Drop.no : FuncId := 19
@[reducible] def fathomlaw03_works.no : FuncId := 20
@[reducible] def pool_Pool_Peak.no : FuncId := 21
@[reducible] def pool_Pool_Frames.no : FuncId := 22
@[reducible] def pool_Pool_Disk.no : FuncId := 23
@[reducible] def fathomlaw03_Step_bytes.no : FuncId := 24
@[reducible] def pool_Pool_Flush.no : FuncId := 25
@[reducible] def disk_Disk_Crash.no : FuncId := 26
@[reducible] def disk_Disk_Remove.no : FuncId := 27
@[reducible] def disk_Disk_Restart.no : FuncId := 28
@[reducible] def disk_Disk_Read.no : FuncId := 29
@[reducible] def page_Open.no : FuncId := 30
@[reducible] def disk_Disk_ready.no : FuncId := 31
@[reducible] def disk_named.no : FuncId := 32
@[reducible] def disk_Disk_change.no : FuncId := 33
@[reducible] def pool_Pool_ready.no : FuncId := 34
@[reducible] def pool_Pool_room.no : FuncId := 35
@[reducible] def pool_Pool_write.no : FuncId := 36
@[reducible] def pool_Pool_met.no : FuncId := 37
@[reducible] def pool_Pool_take.no : FuncId := 38
@[reducible] def pool_Pool_held.no : FuncId := 39
@[reducible] def slices_Clone_sl_byte_byte.no : FuncId := 40
@[reducible] def disk_Disk_open.no : FuncId := 41
@[reducible] def pool_Pool_pin.no : FuncId := 42
@[reducible] def pool_Pool_load.no : FuncId := 43
@[reducible] def pool_Pool_of.no : FuncId := 44
@[reducible] def slices_ContainsFunc_sl_ptr_pool_frame_ptr_pool_frame.no : FuncId := 45
@[reducible] def pool_Pool_Drop_c1.no : FuncId := 46
@[reducible] def disk_Disk_Sync.no : FuncId := 47
@[reducible] def disk_Disk_drop.no : FuncId := 48
@[reducible] def slices_Sort_sl_int_int.no : FuncId := 49
@[reducible] def slices_Clone_sl_disk_sheet_disk_sheet.no : FuncId := 50
@[reducible] def slices_BinarySearch_sl_int_int.no : FuncId := 51
@[reducible] def disk_put.no : FuncId := 52
@[reducible] def page_Sum.no : FuncId := 53
@[reducible] def slices_ContainsFunc_sl_byte_byte.no : FuncId := 54
@[reducible] def page_Open_c1.no : FuncId := 55
@[reducible] def pool_Pool_first.no : FuncId := 56
@[reducible] def pool_Pool_room_c1.no : FuncId := 57
@[reducible] def pool_Pool_room_c2.no : FuncId := 58
@[reducible] def page_Seal.no : FuncId := 59
@[reducible] def disk_Disk_Write.no : FuncId := 60
@[reducible] def slices_DeleteFunc_sl_ptr_pool_frame_ptr_pool_frame.no : FuncId := 61
@[reducible] def slices_Collect_ptr_pool_frame.no : FuncId := 62
@[reducible] def maps_Values_map_pool_spot_ptr_pool_frame_pool_spot_ptr_pool_frame.no : FuncId := 63
@[reducible] def pool_Pool_of_c1.no : FuncId := 64
@[reducible] def slices_SortFunc_sl_ptr_pool_frame_ptr_pool_frame.no : FuncId := 65
@[reducible] def pool_Pool_of_c2.no : FuncId := 66
@[reducible] def slices_IndexFunc_sl_ptr_pool_frame_ptr_pool_frame.no : FuncId := 67
@[reducible] def slices_pdqsortOrdered_int.no : FuncId := 68
@[reducible] def math_bits_Len.no : FuncId := 69
@[reducible] def cmp_Less_int.no : FuncId := 70
@[reducible] def slices_isNaN_int.no : FuncId := 71
@[reducible] def slices_IndexFunc_sl_byte_byte.no : FuncId := 72
@[reducible] def slices_AppendSeq_sl_ptr_pool_frame_ptr_pool_frame.no : FuncId := 73
@[reducible] def maps_Values_map_pool_spot_ptr_pool_frame_pool_spot_ptr_pool_frame_c1.no : FuncId := 74
@[reducible] def slices_pdqsortCmpFunc_ptr_pool_frame.no : FuncId := 75
@[reducible] def slices_insertionSortOrdered_int.no : FuncId := 76
@[reducible] def slices_heapSortOrdered_int.no : FuncId := 77
@[reducible] def slices_breakPatternsOrdered_int.no : FuncId := 78
@[reducible] def slices_choosePivotOrdered_int.no : FuncId := 79
@[reducible] def slices_reverseRangeOrdered_int.no : FuncId := 80
@[reducible] def slices_partialInsertionSortOrdered_int.no : FuncId := 81
@[reducible] def slices_partitionEqualOrdered_int.no : FuncId := 82
@[reducible] def slices_partitionOrdered_int.no : FuncId := 83
@[reducible] def math_bits_Len32.no : FuncId := 84
@[reducible] def math_bits_Len64.no : FuncId := 85
@[reducible] def cmp_isNaN_int.no : FuncId := 86
@[reducible] def slices_insertionSortCmpFunc_ptr_pool_frame.no : FuncId := 87
@[reducible] def slices_heapSortCmpFunc_ptr_pool_frame.no : FuncId := 88
@[reducible] def slices_breakPatternsCmpFunc_ptr_pool_frame.no : FuncId := 89
@[reducible] def slices_choosePivotCmpFunc_ptr_pool_frame.no : FuncId := 90
@[reducible] def slices_reverseRangeCmpFunc_ptr_pool_frame.no : FuncId := 91
@[reducible] def slices_partialInsertionSortCmpFunc_ptr_pool_frame.no : FuncId := 92
@[reducible] def slices_partitionEqualCmpFunc_ptr_pool_frame.no : FuncId := 93
@[reducible] def slices_partitionCmpFunc_ptr_pool_frame.no : FuncId := 94
@[reducible] def slices_siftDownOrdered_int.no : FuncId := 95
@[reducible] def slices_nextPowerOfTwo.no : FuncId := 96
@[reducible] def slices_xorshift_Next.no : FuncId := 97
@[reducible] def slices_medianAdjacentOrdered_int.no : FuncId := 98
@[reducible] def slices_medianOrdered_int.no : FuncId := 99
@[reducible] def slices_siftDownCmpFunc_ptr_pool_frame.no : FuncId := 100
@[reducible] def slices_medianAdjacentCmpFunc_ptr_pool_frame.no : FuncId := 101
@[reducible] def slices_medianCmpFunc_ptr_pool_frame.no : FuncId := 102
@[reducible] def slices_order2Ordered_int.no : FuncId := 103
@[reducible] def slices_order2CmpFunc_ptr_pool_frame.no : FuncId := 104
/-- fathom/fathomlaw03.PoolPins -/
@[reducible] def fathomlaw03_PoolPins.sp (frames : Int) (H : Heap) (R : Bool → Heap → Prop) : Prop := SpecT cBool Tryd.prog fathomlaw03_PoolPins.no #[(.int .i64 frames)] H R
/-- fathom/fathomlaw03.PoolNone -/
@[reducible] def fathomlaw03_PoolNone.sp (x_ : Int) (x_1 : ByteArray) (x_2 : Int) (x_3 : Int) (x_4 : Int) (frames : Int) (H : Heap) (R : Bool → Heap → Prop) : Prop := SpecT cBool Tryd.prog fathomlaw03_PoolNone.no #[(.agg #[(.int .i64 x_), (.string x_1), (.int .i64 x_2), (.int .i64 x_3), (.int .u8 x_4)]), (.int .i64 frames)] H R
/-- fathom/fathomlaw03.PoolTells -/
@[reducible] def fathomlaw03_PoolTells.sp (frames : Int) (pages : Int) (order : Sl) (H : Heap) (R : Bool → Heap → Prop) : Prop := SpecT cBool Tryd.prog fathomlaw03_PoolTells.no #[(.int .i64 frames), (.int .i64 pages), order.v] H R
/-- fathom/fathomkit.Pick -/
@[reducible] def fathomkit_Pick.sp (i : Int) (n : Int) (H : Heap) (R : Int → Heap → Prop) : Prop := SpecT (cInt .i64) Tryd.prog fathomkit_Pick.no #[(.int .i64 i), (.int .i64 n)] H R
/-- fathom/disk.New -/
@[reducible] def disk_New.sp (quota : Int) (H : Heap) (R : Option Addr → Heap → Prop) : Prop := SpecT cPtr Tryd.prog disk_New.no #[(.int .i64 quota)] H R
/-- (*fathom/disk.Disk).Create -/
@[reducible] def disk_Disk_Create.sp (d : Option Addr) (name : ByteArray) (H : Heap) (R : Int → Heap → Prop) : Prop := SpecT (cInt .i64) Tryd.prog disk_Disk_Create.no #[(.pointer d), (.string name)] H R
/-- fathom/pool.New -/
@[reducible] def pool_New.sp (d : Option Addr) (frames : Int) (H : Heap) (R : (Option Addr × Int) → Heap → Prop) : Prop := SpecT (cTup [cPtr, (cInt .i64)]) Tryd.prog pool_New.no #[(.pointer d), (.int .i64 frames)] H R
/-- (*fathom/pool.Pool).Fresh -/
@[reducible] def pool_Pool_Fresh.sp (p : Option Addr) (name : ByteArray) (H : Heap) (R : (Int × Int × Int) → Heap → Prop) : Prop := SpecT (cTup [(cInt .i64), (cInt .i64), (cInt .i64)]) Tryd.prog pool_Pool_Fresh.no #[(.pointer p), (.string name)] H R
/-- (*fathom/pool.Pool).Put -/
@[reducible] def pool_Pool_Put.sp (p : Option Addr) (h : Int) (kind : Int) (b : Sl) (H : Heap) (R : Int → Heap → Prop) : Prop := SpecT (cInt .i64) Tryd.prog pool_Pool_Put.no #[(.pointer p), (.int .i64 h), (.int .u8 kind), b.v] H R
/-- (*fathom/disk.Disk).Ops -/
@[reducible] def disk_Disk_Ops.sp (d : Option Addr) (H : Heap) (R : Int → Heap → Prop) : Prop := SpecT (cInt .i64) Tryd.prog disk_Disk_Ops.no #[(.pointer d)] H R
/-- (*fathom/disk.Disk).Len -/
@[reducible] def disk_Disk_Len.sp (d : Option Addr) (name : ByteArray) (H : Heap) (R : (Int × Int) → Heap → Prop) : Prop := SpecT (cTup [(cInt .i64), (cInt .i64)]) Tryd.prog disk_Disk_Len.no #[(.pointer d), (.string name)] H R
/-- (*fathom/pool.Pool).Resident -/
@[reducible] def pool_Pool_Resident.sp (p : Option Addr) (H : Heap) (R : Int → Heap → Prop) : Prop := SpecT (cInt .i64) Tryd.prog pool_Pool_Resident.no #[(.pointer p)] H R
/-- (*fathom/pool.Pool).Pinned -/
@[reducible] def pool_Pool_Pinned.sp (p : Option Addr) (H : Heap) (R : Int → Heap → Prop) : Prop := SpecT (cInt .i64) Tryd.prog pool_Pool_Pinned.no #[(.pointer p)] H R
/-- (*fathom/pool.Pool).Unpin -/
@[reducible] def pool_Pool_Unpin.sp (p : Option Addr) (h : Int) (H : Heap) (R : Int → Heap → Prop) : Prop := SpecT (cInt .i64) Tryd.prog pool_Pool_Unpin.no #[(.pointer p), (.int .i64 h)] H R
/-- (*fathom/pool.Pool).Pin -/
@[reducible] def pool_Pool_Pin.sp (p : Option Addr) (name : ByteArray) (page : Int) (H : Heap) (R : (Int × Int) → Heap → Prop) : Prop := SpecT (cTup [(cInt .i64), (cInt .i64)]) Tryd.prog pool_Pool_Pin.no #[(.pointer p), (.string name), (.int .i64 page)] H R
/-- (*fathom/pool.Pool).Get -/
@[reducible] def pool_Pool_Get.sp (p : Option Addr) (h : Int) (H : Heap) (R : (Int × Sl × Int) → Heap → Prop) : Prop := SpecT (cTup [(cInt .u8), cSl, (cInt .i64)]) Tryd.prog pool_Pool_Get.no #[(.pointer p), (.int .i64 h)] H R
/-- (*fathom/pool.Pool).Drop -/
@[reducible] def pool_Pool_Drop.sp (p : Option Addr) (name : ByteArray) (H : Heap) (R : Int → Heap → Prop) : Prop := SpecT (cInt .i64) Tryd.prog pool_Pool_Drop.no #[(.pointer p), (.string name)] H R
/-- fathom/fathomlaw03.works -/
@[reducible] def fathomlaw03_works.sp  (H : Heap) (R : Bool → Heap → Prop) : Prop := SpecT cBool Tryd.prog fathomlaw03_works.no #[] H R
/-- (*fathom/pool.Pool).Peak -/
@[reducible] def pool_Pool_Peak.sp (p : Option Addr) (H : Heap) (R : Int → Heap → Prop) : Prop := SpecT (cInt .i64) Tryd.prog pool_Pool_Peak.no #[(.pointer p)] H R
/-- (*fathom/pool.Pool).Frames -/
@[reducible] def pool_Pool_Frames.sp (p : Option Addr) (H : Heap) (R : Int → Heap → Prop) : Prop := SpecT (cInt .i64) Tryd.prog pool_Pool_Frames.no #[(.pointer p)] H R
/-- (*fathom/pool.Pool).Disk -/
@[reducible] def pool_Pool_Disk.sp (p : Option Addr) (H : Heap) (R : Option Addr → Heap → Prop) : Prop := SpecT cPtr Tryd.prog pool_Pool_Disk.no #[(.pointer p)] H R
/-- (fathom/fathomlaw03.Step).bytes -/
@[reducible] def fathomlaw03_Step_bytes.sp (x_ : Int) (x_1 : ByteArray) (x_2 : Int) (x_3 : Int) (x_4 : Int) (H : Heap) (R : Sl → Heap → Prop) : Prop := SpecT cSl Tryd.prog fathomlaw03_Step_bytes.no #[(.agg #[(.int .i64 x_), (.string x_1), (.int .i64 x_2), (.int .i64 x_3), (.int .u8 x_4)])] H R
/-- (*fathom/pool.Pool).Flush -/
@[reducible] def pool_Pool_Flush.sp (p : Option Addr) (name : ByteArray) (H : Heap) (R : Int → Heap → Prop) : Prop := SpecT (cInt .i64) Tryd.prog pool_Pool_Flush.no #[(.pointer p), (.string name)] H R
/-- (*fathom/disk.Disk).Crash -/
@[reducible] def disk_Disk_Crash.sp (d : Option Addr) (p : Int) (keep : Int) (H : Heap) (R : Unit → Heap → Prop) : Prop := SpecT (cTup []) Tryd.prog disk_Disk_Crash.no #[(.pointer d), (.int .i64 p), (.int .u64 keep)] H R
/-- (*fathom/disk.Disk).Remove -/
@[reducible] def disk_Disk_Remove.sp (d : Option Addr) (name : ByteArray) (H : Heap) (R : Int → Heap → Prop) : Prop := SpecT (cInt .i64) Tryd.prog disk_Disk_Remove.no #[(.pointer d), (.string name)] H R
/-- (*fathom/disk.Disk).Restart -/
@[reducible] def disk_Disk_Restart.sp (d : Option Addr) (H : Heap) (R : Unit → Heap → Prop) : Prop := SpecT (cTup []) Tryd.prog disk_Disk_Restart.no #[(.pointer d)] H R
/-- (*fathom/disk.Disk).Read -/
@[reducible] def disk_Disk_Read.sp (d : Option Addr) (name : ByteArray) (page : Int) (H : Heap) (R : (Sl × Int) → Heap → Prop) : Prop := SpecT (cTup [cSl, (cInt .i64)]) Tryd.prog disk_Disk_Read.no #[(.pointer d), (.string name), (.int .i64 page)] H R
/-- fathom/page.Open -/
@[reducible] def page_Open.sp (b : Sl) (H : Heap) (R : (Int × Sl × Int) → Heap → Prop) : Prop := SpecT (cTup [(cInt .u8), cSl, (cInt .i64)]) Tryd.prog page_Open.no #[b.v] H R
/-- (*fathom/disk.Disk).ready -/
@[reducible] def disk_Disk_ready.sp (d : Option Addr) (H : Heap) (R : Int → Heap → Prop) : Prop := SpecT (cInt .i64) Tryd.prog disk_Disk_ready.no #[(.pointer d)] H R
/-- fathom/disk.named -/
@[reducible] def disk_named.sp (s : ByteArray) (H : Heap) (R : Bool → Heap → Prop) : Prop := SpecT cBool Tryd.prog disk_named.no #[(.string s)] H R
/-- (*fathom/disk.Disk).change -/
@[reducible] def disk_Disk_change.sp (d : Option Addr) (H : Heap) (R : Int → Heap → Prop) : Prop := SpecT (cInt .i64) Tryd.prog disk_Disk_change.no #[(.pointer d)] H R
/-- (*fathom/pool.Pool).ready -/
@[reducible] def pool_Pool_ready.sp (p : Option Addr) (H : Heap) (R : Int → Heap → Prop) : Prop := SpecT (cInt .i64) Tryd.prog pool_Pool_ready.no #[(.pointer p)] H R
/-- (*fathom/pool.Pool).room -/
@[reducible] def pool_Pool_room.sp (p : Option Addr) (H : Heap) (R : Int → Heap → Prop) : Prop := SpecT (cInt .i64) Tryd.prog pool_Pool_room.no #[(.pointer p)] H R
/-- (*fathom/pool.Pool).write -/
@[reducible] def pool_Pool_write.sp (p : Option Addr) (f : Option Addr) (H : Heap) (R : Int → Heap → Prop) : Prop := SpecT (cInt .i64) Tryd.prog pool_Pool_write.no #[(.pointer p), (.pointer f)] H R
/-- (*fathom/pool.Pool).met -/
@[reducible] def pool_Pool_met.sp (p : Option Addr) (e : Int) (H : Heap) (R : Int → Heap → Prop) : Prop := SpecT (cInt .i64) Tryd.prog pool_Pool_met.no #[(.pointer p), (.int .i64 e)] H R
/-- (*fathom/pool.Pool).take -/
@[reducible] def pool_Pool_take.sp (p : Option Addr) (f : Option Addr) (H : Heap) (R : Int → Heap → Prop) : Prop := SpecT (cInt .i64) Tryd.prog pool_Pool_take.no #[(.pointer p), (.pointer f)] H R
/-- (*fathom/pool.Pool).held -/
@[reducible] def pool_Pool_held.sp (p : Option Addr) (h : Int) (H : Heap) (R : (Option Addr × Int) → Heap → Prop) : Prop := SpecT (cTup [cPtr, (cInt .i64)]) Tryd.prog pool_Pool_held.no #[(.pointer p), (.int .i64 h)] H R
/-- slices.Clone[[]byte,byte] -/
@[reducible] def slices_Clone_sl_byte_byte.sp (s : Sl) (H : Heap) (R : Sl → Heap → Prop) : Prop := SpecT cSl Tryd.prog slices_Clone_sl_byte_byte.no #[s.v] H R
/-- (*fathom/disk.Disk).open -/
@[reducible] def disk_Disk_open.sp (d : Option Addr) (name : ByteArray) (H : Heap) (R : (Option Addr × Int) → Heap → Prop) : Prop := SpecT (cTup [cPtr, (cInt .i64)]) Tryd.prog disk_Disk_open.no #[(.pointer d), (.string name)] H R
/-- (*fathom/pool.Pool).pin -/
@[reducible] def pool_Pool_pin.sp (p : Option Addr) (f : Option Addr) (H : Heap) (R : Int → Heap → Prop) : Prop := SpecT (cInt .i64) Tryd.prog pool_Pool_pin.no #[(.pointer p), (.pointer f)] H R
/-- (*fathom/pool.Pool).load -/
@[reducible] def pool_Pool_load.sp (p : Option Addr) (at_ : ByteArray) (at_1 : Int) (H : Heap) (R : (Option Addr × Int) → Heap → Prop) : Prop := SpecT (cTup [cPtr, (cInt .i64)]) Tryd.prog pool_Pool_load.no #[(.pointer p), (.agg #[(.string at_), (.int .i64 at_1)])] H R
/-- (*fathom/pool.Pool).of -/
@[reducible] def pool_Pool_of.sp (p : Option Addr) (name : ByteArray) (H : Heap) (R : Sl → Heap → Prop) : Prop := SpecT cSl Tryd.prog pool_Pool_of.no #[(.pointer p), (.string name)] H R
/-- slices.ContainsFunc[[]*fathom/pool.frame,*fathom/pool.frame] -/
@[reducible] def slices_ContainsFunc_sl_ptr_pool_frame_ptr_pool_frame.sp (s : Sl) (H : Heap) (R : Bool → Heap → Prop) : Prop := SpecT cBool Tryd.prog slices_ContainsFunc_sl_ptr_pool_frame_ptr_pool_frame.no #[s.v, (.func (.func pool_Pool_Drop_c1.no) #[] #[])] H R
/-- (*fathom/pool.Pool).Drop$1 -/
@[reducible] def pool_Pool_Drop_c1.sp (f : Option Addr) (H : Heap) (R : Bool → Heap → Prop) : Prop := SpecT cBool Tryd.prog pool_Pool_Drop_c1.no #[(.pointer f)] H R
/-- (*fathom/disk.Disk).Sync -/
@[reducible] def disk_Disk_Sync.sp (d : Option Addr) (name : ByteArray) (H : Heap) (R : Int → Heap → Prop) : Prop := SpecT (cInt .i64) Tryd.prog disk_Disk_Sync.no #[(.pointer d), (.string name)] H R
/-- (*fathom/disk.Disk).drop -/
@[reducible] def disk_Disk_drop.sp (d : Option Addr) (name : ByteArray) (H : Heap) (R : Unit → Heap → Prop) : Prop := SpecT (cTup []) Tryd.prog disk_Disk_drop.no #[(.pointer d), (.string name)] H R
/-- slices.Sort[[]int,int] -/
@[reducible] def slices_Sort_sl_int_int.sp (x : Sl) (H : Heap) (R : Unit → Heap → Prop) : Prop := SpecT (cTup []) Tryd.prog slices_Sort_sl_int_int.no #[x.v] H R
/-- slices.Clone[[]fathom/disk.sheet,fathom/disk.sheet] -/
@[reducible] def slices_Clone_sl_disk_sheet_disk_sheet.sp (s : Sl) (H : Heap) (R : Sl → Heap → Prop) : Prop := SpecT cSl Tryd.prog slices_Clone_sl_disk_sheet_disk_sheet.no #[s.v] H R
/-- slices.BinarySearch[[]int,int] -/
@[reducible] def slices_BinarySearch_sl_int_int.sp (x : Sl) (target : Int) (H : Heap) (R : (Int × Bool) → Heap → Prop) : Prop := SpecT (cTup [(cInt .i64), cBool]) Tryd.prog slices_BinarySearch_sl_int_int.no #[x.v, (.int .i64 target)] H R
/-- fathom/disk.put -/
@[reducible] def disk_put.sp (l : Sl) (page : Int) (b : Array Value) (H : Heap) (R : Sl → Heap → Prop) : Prop := SpecT cSl Tryd.prog disk_put.no #[l.v, (.int .i64 page), (.agg b)] H R
/-- fathom/page.Sum -/
@[reducible] def page_Sum.sp (b : Sl) (H : Heap) (R : Int → Heap → Prop) : Prop := SpecT (cInt .u32) Tryd.prog page_Sum.no #[b.v] H R
/-- slices.ContainsFunc[[]byte,byte] -/
@[reducible] def slices_ContainsFunc_sl_byte_byte.sp (s : Sl) (H : Heap) (R : Bool → Heap → Prop) : Prop := SpecT cBool Tryd.prog slices_ContainsFunc_sl_byte_byte.no #[s.v, (.func (.func page_Open_c1.no) #[] #[])] H R
/-- fathom/page.Open$1 -/
@[reducible] def page_Open_c1.sp (c : Int) (H : Heap) (R : Bool → Heap → Prop) : Prop := SpecT cBool Tryd.prog page_Open_c1.no #[(.int .u8 c)] H R
/-- (*fathom/pool.Pool).first -/
@[reducible] def pool_Pool_first.sp (p : Option Addr) (H : Heap) (R : Option Addr → Heap → Prop) : Prop := SpecT cPtr Tryd.prog pool_Pool_first.no #[(.pointer p), (.func (.func pool_Pool_room_c1.no) #[] #[]), (.func (.func pool_Pool_room_c2.no) #[] #[])] H R
/-- (*fathom/pool.Pool).room$1 -/
@[reducible] def pool_Pool_room_c1.sp (f : Option Addr) (H : Heap) (R : Bool → Heap → Prop) : Prop := SpecT cBool Tryd.prog pool_Pool_room_c1.no #[(.pointer f)] H R
/-- (*fathom/pool.Pool).room$2 -/
@[reducible] def pool_Pool_room_c2.sp (a : Option Addr) (b : Option Addr) (H : Heap) (R : Bool → Heap → Prop) : Prop := SpecT cBool Tryd.prog pool_Pool_room_c2.no #[(.pointer a), (.pointer b)] H R
/-- fathom/page.Seal -/
@[reducible] def page_Seal.sp (kind : Int) (b : Sl) (H : Heap) (R : (Sl × Int) → Heap → Prop) : Prop := SpecT (cTup [cSl, (cInt .i64)]) Tryd.prog page_Seal.no #[(.int .u8 kind), b.v] H R
/-- (*fathom/disk.Disk).Write -/
@[reducible] def disk_Disk_Write.sp (d : Option Addr) (name : ByteArray) (page : Int) (b : Sl) (H : Heap) (R : Int → Heap → Prop) : Prop := SpecT (cInt .i64) Tryd.prog disk_Disk_Write.no #[(.pointer d), (.string name), (.int .i64 page), b.v] H R
/-- slices.DeleteFunc[[]*fathom/pool.frame,*fathom/pool.frame] -/
@[reducible] def slices_DeleteFunc_sl_ptr_pool_frame_ptr_pool_frame.sp (s : Sl) (cap : Addr) (H : Heap) (R : Sl → Heap → Prop) : Prop := SpecT cSl Tryd.prog slices_DeleteFunc_sl_ptr_pool_frame_ptr_pool_frame.no #[s.v, (.func (.func pool_Pool_of_c1.no) #[] #[(.pointer (some cap))])] H R
/-- slices.Collect[*fathom/pool.frame] -/
@[reducible] def slices_Collect_ptr_pool_frame.sp (seq : Value) (H : Heap) (R : Sl → Heap → Prop) : Prop := SpecT cSl Tryd.prog slices_Collect_ptr_pool_frame.no #[seq] H R
/-- maps.Values[map[fathom/pool.spot]*fathom/pool.frame,fathom/pool.spot,*fathom/pool.frame] -/
@[reducible] def maps_Values_map_pool_spot_ptr_pool_frame_pool_spot_ptr_pool_frame.sp (m : Option Nat) (H : Heap) (R : Value → Heap → Prop) : Prop := SpecT cRaw Tryd.prog maps_Values_map_pool_spot_ptr_pool_frame_pool_spot_ptr_pool_frame.no #[(.map m)] H R
/-- (*fathom/pool.Pool).of$1 -/
@[reducible] def pool_Pool_of_c1.sp (f : Option Addr) (cap : Addr) (H : Heap) (R : Bool → Heap → Prop) : Prop := SpecT cBool Tryd.prog pool_Pool_of_c1.no #[(.pointer f), (.pointer (some cap))] H R
/-- slices.SortFunc[[]*fathom/pool.frame,*fathom/pool.frame] -/
@[reducible] def slices_SortFunc_sl_ptr_pool_frame_ptr_pool_frame.sp (x : Sl) (cmp : Value) (H : Heap) (R : Unit → Heap → Prop) : Prop := SpecT (cTup []) Tryd.prog slices_SortFunc_sl_ptr_pool_frame_ptr_pool_frame.no #[x.v, cmp] H R
/-- (*fathom/pool.Pool).of$2 -/
@[reducible] def pool_Pool_of_c2.sp (a : Option Addr) (b : Option Addr) (H : Heap) (R : Int → Heap → Prop) : Prop := SpecT (cInt .i64) Tryd.prog pool_Pool_of_c2.no #[(.pointer a), (.pointer b)] H R
/-- slices.IndexFunc[[]*fathom/pool.frame,*fathom/pool.frame] -/
@[reducible] def slices_IndexFunc_sl_ptr_pool_frame_ptr_pool_frame.sp (s : Sl) (H : Heap) (R : Int → Heap → Prop) : Prop := SpecT (cInt .i64) Tryd.prog slices_IndexFunc_sl_ptr_pool_frame_ptr_pool_frame.no #[s.v, (.func (.func pool_Pool_Drop_c1.no) #[] #[])] H R
/-- slices.IndexFunc[[]*fathom/pool.frame,*fathom/pool.frame] -/
@[reducible] def slices_IndexFunc_sl_ptr_pool_frame_ptr_pool_frame_v2.sp (s : Sl) (cap : Addr) (H : Heap) (R : Int → Heap → Prop) : Prop := SpecT (cInt .i64) Tryd.prog slices_IndexFunc_sl_ptr_pool_frame_ptr_pool_frame.no #[s.v, (.func (.func pool_Pool_of_c1.no) #[] #[(.pointer (some cap))])] H R
/-- slices.pdqsortOrdered[int] -/
@[reducible] def slices_pdqsortOrdered_int.sp (data : Sl) (a : Int) (b : Int) (limit : Int) (H : Heap) (R : Unit → Heap → Prop) : Prop := SpecT (cTup []) Tryd.prog slices_pdqsortOrdered_int.no #[data.v, (.int .i64 a), (.int .i64 b), (.int .i64 limit)] H R
/-- math/bits.Len -/
@[reducible] def math_bits_Len.sp (x : Int) (H : Heap) (R : Int → Heap → Prop) : Prop := SpecT (cInt .i64) Tryd.prog math_bits_Len.no #[(.int .u64 x)] H R
/-- cmp.Less[int] -/
@[reducible] def cmp_Less_int.sp (x : Int) (y : Int) (H : Heap) (R : Bool → Heap → Prop) : Prop := SpecT cBool Tryd.prog cmp_Less_int.no #[(.int .i64 x), (.int .i64 y)] H R
/-- slices.isNaN[int] -/
@[reducible] def slices_isNaN_int.sp (x : Int) (H : Heap) (R : Bool → Heap → Prop) : Prop := SpecT cBool Tryd.prog slices_isNaN_int.no #[(.int .i64 x)] H R
/-- slices.IndexFunc[[]byte,byte] -/
@[reducible] def slices_IndexFunc_sl_byte_byte.sp (s : Sl) (H : Heap) (R : Int → Heap → Prop) : Prop := SpecT (cInt .i64) Tryd.prog slices_IndexFunc_sl_byte_byte.no #[s.v, (.func (.func page_Open_c1.no) #[] #[])] H R
/-- slices.AppendSeq[[]*fathom/pool.frame,*fathom/pool.frame] -/
@[reducible] def slices_AppendSeq_sl_ptr_pool_frame_ptr_pool_frame.sp (s : Sl) (seq : Value) (H : Heap) (R : Sl → Heap → Prop) : Prop := SpecT cSl Tryd.prog slices_AppendSeq_sl_ptr_pool_frame_ptr_pool_frame.no #[s.v, seq] H R
/-- maps.Values[map[fathom/pool.spot]*fathom/pool.frame,fathom/pool.spot,*fathom/pool.frame]$1 -/
@[reducible] def maps_Values_map_pool_spot_ptr_pool_frame_pool_spot_ptr_pool_frame_c1.sp (l : Nat) (cap : Addr) (H : Heap) (R : Unit → Heap → Prop) : Prop := SpecT (cTup []) Tryd.prog maps_Values_map_pool_spot_ptr_pool_frame_pool_spot_ptr_pool_frame_c1.no #[(.func (.yield l) #[] #[]), (.pointer (some cap))] H R
/-- slices.pdqsortCmpFunc[*fathom/pool.frame] -/
@[reducible] def slices_pdqsortCmpFunc_ptr_pool_frame.sp (data : Sl) (a : Int) (b : Int) (limit : Int) (cmp : Value) (H : Heap) (R : Unit → Heap → Prop) : Prop := SpecT (cTup []) Tryd.prog slices_pdqsortCmpFunc_ptr_pool_frame.no #[data.v, (.int .i64 a), (.int .i64 b), (.int .i64 limit), cmp] H R
/-- slices.insertionSortOrdered[int] -/
@[reducible] def slices_insertionSortOrdered_int.sp (data : Sl) (a : Int) (b : Int) (H : Heap) (R : Unit → Heap → Prop) : Prop := SpecT (cTup []) Tryd.prog slices_insertionSortOrdered_int.no #[data.v, (.int .i64 a), (.int .i64 b)] H R
/-- slices.heapSortOrdered[int] -/
@[reducible] def slices_heapSortOrdered_int.sp (data : Sl) (a : Int) (b : Int) (H : Heap) (R : Unit → Heap → Prop) : Prop := SpecT (cTup []) Tryd.prog slices_heapSortOrdered_int.no #[data.v, (.int .i64 a), (.int .i64 b)] H R
/-- slices.breakPatternsOrdered[int] -/
@[reducible] def slices_breakPatternsOrdered_int.sp (data : Sl) (a : Int) (b : Int) (H : Heap) (R : Unit → Heap → Prop) : Prop := SpecT (cTup []) Tryd.prog slices_breakPatternsOrdered_int.no #[data.v, (.int .i64 a), (.int .i64 b)] H R
/-- slices.choosePivotOrdered[int] -/
@[reducible] def slices_choosePivotOrdered_int.sp (data : Sl) (a : Int) (b : Int) (H : Heap) (R : (Int × Int) → Heap → Prop) : Prop := SpecT (cTup [(cInt .i64), (cInt .i64)]) Tryd.prog slices_choosePivotOrdered_int.no #[data.v, (.int .i64 a), (.int .i64 b)] H R
/-- slices.reverseRangeOrdered[int] -/
@[reducible] def slices_reverseRangeOrdered_int.sp (data : Sl) (a : Int) (b : Int) (H : Heap) (R : Unit → Heap → Prop) : Prop := SpecT (cTup []) Tryd.prog slices_reverseRangeOrdered_int.no #[data.v, (.int .i64 a), (.int .i64 b)] H R
/-- slices.partialInsertionSortOrdered[int] -/
@[reducible] def slices_partialInsertionSortOrdered_int.sp (data : Sl) (a : Int) (b : Int) (H : Heap) (R : Bool → Heap → Prop) : Prop := SpecT cBool Tryd.prog slices_partialInsertionSortOrdered_int.no #[data.v, (.int .i64 a), (.int .i64 b)] H R
/-- slices.partitionEqualOrdered[int] -/
@[reducible] def slices_partitionEqualOrdered_int.sp (data : Sl) (a : Int) (b : Int) (pivot : Int) (H : Heap) (R : Int → Heap → Prop) : Prop := SpecT (cInt .i64) Tryd.prog slices_partitionEqualOrdered_int.no #[data.v, (.int .i64 a), (.int .i64 b), (.int .i64 pivot)] H R
/-- slices.partitionOrdered[int] -/
@[reducible] def slices_partitionOrdered_int.sp (data : Sl) (a : Int) (b : Int) (pivot : Int) (H : Heap) (R : (Int × Bool) → Heap → Prop) : Prop := SpecT (cTup [(cInt .i64), cBool]) Tryd.prog slices_partitionOrdered_int.no #[data.v, (.int .i64 a), (.int .i64 b), (.int .i64 pivot)] H R
/-- math/bits.Len32 -/
@[reducible] def math_bits_Len32.sp (x : Int) (H : Heap) (R : Int → Heap → Prop) : Prop := SpecT (cInt .i64) Tryd.prog math_bits_Len32.no #[(.int .u32 x)] H R
/-- math/bits.Len64 -/
@[reducible] def math_bits_Len64.sp (x : Int) (H : Heap) (R : Int → Heap → Prop) : Prop := SpecT (cInt .i64) Tryd.prog math_bits_Len64.no #[(.int .u64 x)] H R
/-- cmp.isNaN[int] -/
@[reducible] def cmp_isNaN_int.sp (x : Int) (H : Heap) (R : Bool → Heap → Prop) : Prop := SpecT cBool Tryd.prog cmp_isNaN_int.no #[(.int .i64 x)] H R
/-- slices.insertionSortCmpFunc[*fathom/pool.frame] -/
@[reducible] def slices_insertionSortCmpFunc_ptr_pool_frame.sp (data : Sl) (a : Int) (b : Int) (cmp : Value) (H : Heap) (R : Unit → Heap → Prop) : Prop := SpecT (cTup []) Tryd.prog slices_insertionSortCmpFunc_ptr_pool_frame.no #[data.v, (.int .i64 a), (.int .i64 b), cmp] H R
/-- slices.heapSortCmpFunc[*fathom/pool.frame] -/
@[reducible] def slices_heapSortCmpFunc_ptr_pool_frame.sp (data : Sl) (a : Int) (b : Int) (cmp : Value) (H : Heap) (R : Unit → Heap → Prop) : Prop := SpecT (cTup []) Tryd.prog slices_heapSortCmpFunc_ptr_pool_frame.no #[data.v, (.int .i64 a), (.int .i64 b), cmp] H R
/-- slices.breakPatternsCmpFunc[*fathom/pool.frame] -/
@[reducible] def slices_breakPatternsCmpFunc_ptr_pool_frame.sp (data : Sl) (a : Int) (b : Int) (cmp : Value) (H : Heap) (R : Unit → Heap → Prop) : Prop := SpecT (cTup []) Tryd.prog slices_breakPatternsCmpFunc_ptr_pool_frame.no #[data.v, (.int .i64 a), (.int .i64 b), cmp] H R
/-- slices.choosePivotCmpFunc[*fathom/pool.frame] -/
@[reducible] def slices_choosePivotCmpFunc_ptr_pool_frame.sp (data : Sl) (a : Int) (b : Int) (cmp : Value) (H : Heap) (R : (Int × Int) → Heap → Prop) : Prop := SpecT (cTup [(cInt .i64), (cInt .i64)]) Tryd.prog slices_choosePivotCmpFunc_ptr_pool_frame.no #[data.v, (.int .i64 a), (.int .i64 b), cmp] H R
/-- slices.reverseRangeCmpFunc[*fathom/pool.frame] -/
@[reducible] def slices_reverseRangeCmpFunc_ptr_pool_frame.sp (data : Sl) (a : Int) (b : Int) (cmp : Value) (H : Heap) (R : Unit → Heap → Prop) : Prop := SpecT (cTup []) Tryd.prog slices_reverseRangeCmpFunc_ptr_pool_frame.no #[data.v, (.int .i64 a), (.int .i64 b), cmp] H R
/-- slices.partialInsertionSortCmpFunc[*fathom/pool.frame] -/
@[reducible] def slices_partialInsertionSortCmpFunc_ptr_pool_frame.sp (data : Sl) (a : Int) (b : Int) (cmp : Value) (H : Heap) (R : Bool → Heap → Prop) : Prop := SpecT cBool Tryd.prog slices_partialInsertionSortCmpFunc_ptr_pool_frame.no #[data.v, (.int .i64 a), (.int .i64 b), cmp] H R
/-- slices.partitionEqualCmpFunc[*fathom/pool.frame] -/
@[reducible] def slices_partitionEqualCmpFunc_ptr_pool_frame.sp (data : Sl) (a : Int) (b : Int) (pivot : Int) (cmp : Value) (H : Heap) (R : Int → Heap → Prop) : Prop := SpecT (cInt .i64) Tryd.prog slices_partitionEqualCmpFunc_ptr_pool_frame.no #[data.v, (.int .i64 a), (.int .i64 b), (.int .i64 pivot), cmp] H R
/-- slices.partitionCmpFunc[*fathom/pool.frame] -/
@[reducible] def slices_partitionCmpFunc_ptr_pool_frame.sp (data : Sl) (a : Int) (b : Int) (pivot : Int) (cmp : Value) (H : Heap) (R : (Int × Bool) → Heap → Prop) : Prop := SpecT (cTup [(cInt .i64), cBool]) Tryd.prog slices_partitionCmpFunc_ptr_pool_frame.no #[data.v, (.int .i64 a), (.int .i64 b), (.int .i64 pivot), cmp] H R
/-- slices.siftDownOrdered[int] -/
@[reducible] def slices_siftDownOrdered_int.sp (data : Sl) (lo : Int) (hi : Int) (first : Int) (H : Heap) (R : Unit → Heap → Prop) : Prop := SpecT (cTup []) Tryd.prog slices_siftDownOrdered_int.no #[data.v, (.int .i64 lo), (.int .i64 hi), (.int .i64 first)] H R
/-- slices.nextPowerOfTwo -/
@[reducible] def slices_nextPowerOfTwo.sp (length : Int) (H : Heap) (R : Int → Heap → Prop) : Prop := SpecT (cInt .u64) Tryd.prog slices_nextPowerOfTwo.no #[(.int .i64 length)] H R
/-- (*slices.xorshift).Next -/
@[reducible] def slices_xorshift_Next.sp (r : Option Addr) (H : Heap) (R : Int → Heap → Prop) : Prop := SpecT (cInt .u64) Tryd.prog slices_xorshift_Next.no #[(.pointer r)] H R
/-- slices.medianAdjacentOrdered[int] -/
@[reducible] def slices_medianAdjacentOrdered_int.sp (data : Sl) (a : Int) (swaps : Option Addr) (H : Heap) (R : Int → Heap → Prop) : Prop := SpecT (cInt .i64) Tryd.prog slices_medianAdjacentOrdered_int.no #[data.v, (.int .i64 a), (.pointer swaps)] H R
/-- slices.medianOrdered[int] -/
@[reducible] def slices_medianOrdered_int.sp (data : Sl) (a : Int) (b : Int) (c : Int) (swaps : Option Addr) (H : Heap) (R : Int → Heap → Prop) : Prop := SpecT (cInt .i64) Tryd.prog slices_medianOrdered_int.no #[data.v, (.int .i64 a), (.int .i64 b), (.int .i64 c), (.pointer swaps)] H R
/-- slices.siftDownCmpFunc[*fathom/pool.frame] -/
@[reducible] def slices_siftDownCmpFunc_ptr_pool_frame.sp (data : Sl) (lo : Int) (hi : Int) (first : Int) (cmp : Value) (H : Heap) (R : Unit → Heap → Prop) : Prop := SpecT (cTup []) Tryd.prog slices_siftDownCmpFunc_ptr_pool_frame.no #[data.v, (.int .i64 lo), (.int .i64 hi), (.int .i64 first), cmp] H R
/-- slices.medianAdjacentCmpFunc[*fathom/pool.frame] -/
@[reducible] def slices_medianAdjacentCmpFunc_ptr_pool_frame.sp (data : Sl) (a : Int) (swaps : Option Addr) (cmp : Value) (H : Heap) (R : Int → Heap → Prop) : Prop := SpecT (cInt .i64) Tryd.prog slices_medianAdjacentCmpFunc_ptr_pool_frame.no #[data.v, (.int .i64 a), (.pointer swaps), cmp] H R
/-- slices.medianCmpFunc[*fathom/pool.frame] -/
@[reducible] def slices_medianCmpFunc_ptr_pool_frame.sp (data : Sl) (a : Int) (b : Int) (c : Int) (swaps : Option Addr) (cmp : Value) (H : Heap) (R : Int → Heap → Prop) : Prop := SpecT (cInt .i64) Tryd.prog slices_medianCmpFunc_ptr_pool_frame.no #[data.v, (.int .i64 a), (.int .i64 b), (.int .i64 c), (.pointer swaps), cmp] H R
/-- slices.order2Ordered[int] -/
@[reducible] def slices_order2Ordered_int.sp (data : Sl) (a : Int) (b : Int) (swaps : Option Addr) (H : Heap) (R : (Int × Int) → Heap → Prop) : Prop := SpecT (cTup [(cInt .i64), (cInt .i64)]) Tryd.prog slices_order2Ordered_int.no #[data.v, (.int .i64 a), (.int .i64 b), (.pointer swaps)] H R
/-- slices.order2CmpFunc[*fathom/pool.frame] -/
@[reducible] def slices_order2CmpFunc_ptr_pool_frame.sp (data : Sl) (a : Int) (b : Int) (swaps : Option Addr) (cmp : Value) (H : Heap) (R : (Int × Int) → Heap → Prop) : Prop := SpecT (cTup [(cInt .i64), (cInt .i64)]) Tryd.prog slices_order2CmpFunc_ptr_pool_frame.no #[data.v, (.int .i64 a), (.int .i64 b), (.pointer swaps), cmp] H R

/-- fathom/fathomlaw03.PoolPins -/
def fathomlaw03_PoolPins.vc (frames : Int) (H : Heap) (R : Bool → Heap → Prop) : Prop :=
  fathomkit_Pick.sp frames (20 : Int) H fun (r : Int) H1 => disk_New.sp (100 : Int) H1 fun (d : Option Addr) H2 => disk_Disk_Create.sp d (ByteArray.mk #[102]) H2 fun (_ : Int) H3 => pool_New.sp d (IntKind.i64.wrap ((8 : Int) + r)) H3 fun (r_2 : (Option Addr × Int)) H4 => br (r_2.2 != (0 : Int)) (R false H4) (LoopVC Int (0 : Int) H4 fun next i H5 => br (decide (i < (IntKind.i64.wrap ((8 : Int) + r)))) (pool_Pool_Fresh.sp r_2.1 (ByteArray.mk #[102]) H5 fun (r_3 : (Int × Int × Int)) H6 => br ((r_3.2.2 != (0 : Int)) || (r_3.2.1 != i)) (R false H6) (newC H6 #[(.int .u8 (IntKind.u8.wrap i))] ty_uint8 fun p H7 => pool_Pool_Put.sp r_2.1 r_3.1 (IntKind.u8.wrap i) (Sl.mk (some p) 1 1) H7 fun (r_4 : Int) H8 => br (r_4 != (0 : Int)) (R false H8) (next (IntKind.i64.wrap (i + (1 : Int))) H8))) (disk_Disk_Ops.sp d H5 fun (ops : Int) H9 => pool_Pool_Fresh.sp r_2.1 (ByteArray.mk #[102]) H9 fun (r_5 : (Int × Int × Int)) H10 => disk_Disk_Len.sp d (ByteArray.mk #[102]) H10 fun (r_6 : (Int × Int)) H11 => br ((r_5.2.2 != (31 : Int)) || (r_6.1 != (IntKind.i64.wrap ((8 : Int) + r)))) (R false H11) (disk_Disk_Ops.sp d H11 fun (r_7 : Int) H12 => br (r_7 != ops) (R false H12) (pool_Pool_Resident.sp r_2.1 H12 fun (r_8 : Int) H13 => br (r_8 != (IntKind.i64.wrap ((8 : Int) + r))) (R false H13) (pool_Pool_Pinned.sp r_2.1 H13 fun (r_9 : Int) H14 => br (r_9 != (IntKind.i64.wrap ((8 : Int) + r))) (R false H14) (pool_Pool_Unpin.sp r_2.1 (3 : Int) H14 fun (r_10 : Int) H15 => br (r_10 != (0 : Int)) (R false H15) (pool_Pool_Fresh.sp r_2.1 (ByteArray.mk #[102]) H15 fun (r_11 : (Int × Int × Int)) H16 => pool_Pool_Pin.sp r_2.1 (ByteArray.mk #[102]) (2 : Int) H16 fun (r_12 : (Int × Int)) H17 => br (((r_11.2.2 != (0 : Int)) || (r_11.2.1 != (IntKind.i64.wrap ((8 : Int) + r)))) || (r_12.2 != (31 : Int))) (R false H17) (pool_Pool_Unpin.sp r_2.1 r_11.1 H17 fun (r_13 : Int) H18 => br (r_13 != (0 : Int)) (R false H18) (pool_Pool_Pin.sp r_2.1 (ByteArray.mk #[102]) (2 : Int) H18 fun (r_14 : (Int × Int)) H19 => pool_Pool_Get.sp r_2.1 r_14.1 H19 fun (r_15 : (Int × Sl × Int)) H20 => LoopVC Int (1 : Int) H20 fun next_1 x H21 => br (decide (x ≤ (IntKind.i64.wrap ((8 : Int) + r)))) (pool_Pool_Get.sp r_2.1 x H21 fun (r_16 : (Int × Sl × Int)) H22 => br ((x != (3 : Int)) && (((r_16.2.2 != (0 : Int)) || (r_16.1 != (IntKind.u8.wrap (IntKind.i64.wrap (x - (1 : Int)))))) || ((r_16.2.1.n : Int) != (1 : Int)))) (R false H22) (next_1 (IntKind.i64.wrap (x + (1 : Int))) H22)) (br ((((r_14.2 == (0 : Int)) && (r_15.2.2 == (0 : Int))) && (r_15.1 == (2 : Int))) && ((r_15.2.1.n : Int) == (1 : Int))) (optK r_15.2.1.a fun a => (0 ≤ (0 : Int) ∧ (0 : Int) < (r_15.2.1.n : Int)) ∧ ld (cInt .u8) H21 (a.add ((0 : Int).toNat * 1)) fun (x_1 : Int) => br (x_1 == (2 : Int)) (pool_Pool_Drop.sp r_2.1 (ByteArray.mk #[102]) H21 fun (r_17 : Int) H23 => br (r_17 == (31 : Int)) (fathomlaw03_works.sp H23 fun (r_18 : Bool) H24 => R r_18 H24) (R false H23)) (R false H21)) (R false H21)))))))))))

theorem fathomlaw03_PoolPins.of {frames : Int} {H : Heap} {R : Bool → Heap → Prop} (hvc : fathomlaw03_PoolPins.vc frames H R) : fathomlaw03_PoolPins.sp frames H R :=
  specT_of_vc prog_ng prog_mixed (c := cBool) (A := [(8, [(6, (cInt .i64))]), (27, [(26, (cInt .i64))])]) (args := [(.int .i64 frames)]) (Eq.mpr (by kernel_rfl : vcFT cBool Tryd.prog fathomlaw03_PoolPins.no [(8, [(6, (cInt .i64))]), (27, [(26, (cInt .i64))])] [(.int .i64 frames)] H R = fathomlaw03_PoolPins.vc frames H R) hvc)

/-- fathom/fathomlaw03.PoolNone -/
def fathomlaw03_PoolNone.vc (x_ : Int) (x_1 : ByteArray) (x_2 : Int) (x_3 : Int) (x_4 : Int) (frames : Int) (H : Heap) (R : Bool → Heap → Prop) : Prop :=
  newC H #[(.int .i64 x_), (.string x_1), (.int .i64 x_2), (.int .i64 x_3), (.int .u8 x_4)] ty_fathomlaw03_Step fun p H1 => ld cStr H1 (p.add 1) fun (x : ByteArray) => ld (cInt .i64) H1 (p.add 2) fun (x_5 : Int) => pool_Pool_Pin.sp none x x_5 H1 fun (r : (Int × Int)) H2 => ld cStr H2 (p.add 1) fun (x_6 : ByteArray) => pool_Pool_Fresh.sp none x_6 H2 fun (r_1 : (Int × Int × Int)) H3 => ld (cInt .i64) H3 (p.add 3) fun (x_7 : Int) => pool_Pool_Get.sp none x_7 H3 fun (r_2 : (Int × Sl × Int)) H4 => pool_New.sp none frames H4 fun (r_3 : (Option Addr × Int)) H5 => br (((((r.1 == (0 : Int)) && (r_1.1 == (0 : Int))) && (r_1.2.1 == (0 : Int))) && (r_2.1 == (0 : Int))) && ((r_2.2.1.n : Int) == (0 : Int))) (br r_3.1.isNone (pool_Pool_Resident.sp none H5 fun (r_4 : Int) H6 => br (r_4 == (0 : Int)) (pool_Pool_Pinned.sp none H6 fun (r_5 : Int) H7 => br (r_5 == (0 : Int)) (pool_Pool_Peak.sp none H7 fun (r_6 : Int) H8 => br (r_6 == (0 : Int)) (pool_Pool_Frames.sp none H8 fun (r_7 : Int) H9 => br (r_7 == (0 : Int)) (pool_Pool_Disk.sp none H9 fun (r_8 : Option Addr) H10 => ∃ G : Heap → Prop, G H10 ∧ br ((((r_8.isNone && (r.2 == (1 : Int))) && (r_1.2.2 == r.2)) && (r_2.2.2 == r.2)) && (r_3.2 == r.2)) (ldC (cInt .i64) G (p.add 3) fun (x_8 : Int) => ldC (cInt .u8) G (p.add 4) fun (x_9 : Int) => ldA (cAgg [(cInt .i64), cStr, (cInt .i64), (cInt .i64), (cInt .u8)]) 5 H10 p fun (x_10 : (Int × ByteArray × Int × Int × Int)) => fathomlaw03_Step_bytes.sp x_10.1 x_10.2.1 x_10.2.2.1 x_10.2.2.2.1 x_10.2.2.2.2 H10 fun (r_9 : Sl) H11 => G H11 ∧ pool_Pool_Put.sp none x_8 x_9 r_9 H11 fun (r_10 : Int) H12 => br (r_10 == r.2) (ld (cInt .i64) H12 (p.add 3) fun (x_11 : Int) => pool_Pool_Unpin.sp none x_11 H12 fun (r_11 : Int) H13 => br (r_11 == r.2) (ld cStr H13 (p.add 1) fun (x_12 : ByteArray) => pool_Pool_Flush.sp none x_12 H13 fun (r_12 : Int) H14 => br (r_12 == r.2) (ld cStr H14 (p.add 1) fun (x_13 : ByteArray) => pool_Pool_Drop.sp none x_13 H14 fun (r_13 : Int) H15 => br (r_13 == r.2) (fathomlaw03_works.sp H15 fun (r_14 : Bool) H16 => R r_14 H16) (R false H15)) (R false H14)) (R false H13)) (R false H12)) (R false H10)) (∃ G_1 : Heap → Prop, G_1 H9 ∧ R false H9)) (∃ G_2 : Heap → Prop, G_2 H8 ∧ R false H8)) (∃ G_3 : Heap → Prop, G_3 H7 ∧ R false H7)) (∃ G_4 : Heap → Prop, G_4 H6 ∧ R false H6)) (∃ G_5 : Heap → Prop, G_5 H5 ∧ R false H5)) (∃ G_6 : Heap → Prop, G_6 H5 ∧ R false H5)

theorem fathomlaw03_PoolNone.of {x_ : Int} {x_1 : ByteArray} {x_2 : Int} {x_3 : Int} {x_4 : Int} {frames : Int} {H : Heap} {R : Bool → Heap → Prop} (hvc : fathomlaw03_PoolNone.vc x_ x_1 x_2 x_3 x_4 frames H R) : fathomlaw03_PoolNone.sp x_ x_1 x_2 x_3 x_4 frames H R :=
  specT_of_vc prog_ng prog_mixed (c := cBool) (A := []) (args := [(.agg #[(.int .i64 x_), (.string x_1), (.int .i64 x_2), (.int .i64 x_3), (.int .u8 x_4)]), (.int .i64 frames)]) (Eq.mpr (by kernel_rfl : vcFT cBool Tryd.prog fathomlaw03_PoolNone.no [] [(.agg #[(.int .i64 x_), (.string x_1), (.int .i64 x_2), (.int .i64 x_3), (.int .u8 x_4)]), (.int .i64 frames)] H R = fathomlaw03_PoolNone.vc x_ x_1 x_2 x_3 x_4 frames H R) hvc)

/-- fathom/fathomlaw03.PoolTells -/
def fathomlaw03_PoolTells.vc (frames : Int) (pages : Int) (order : Sl) (H : Heap) (R : Bool → Heap → Prop) : Prop :=
  fathomkit_Pick.sp pages (60 : Int) H fun (r : Int) H1 => fathomkit_Pick.sp frames (20 : Int) H1 fun (r_1 : Int) H2 => br (decide ((order.n : Int) > (400 : Int))) (R true H2) (disk_New.sp (IntKind.i64.wrap ((1 : Int) + r)) H2 fun (d : Option Addr) H3 => disk_Disk_Create.sp d (ByteArray.mk #[102]) H3 fun (_ : Int) H4 => pool_New.sp d (IntKind.i64.wrap ((8 : Int) + r_1)) H4 fun (r_3 : (Option Addr × Int)) H5 => br (r_3.2 != (0 : Int)) (R false H5) (LoopVC (Sl × Int) ((Sl.mk none 0 0), (0 : Int)) H5 fun next z H6 => br (decide (z.2 < (IntKind.i64.wrap ((1 : Int) + r)))) (pool_Pool_Fresh.sp r_3.1 (ByteArray.mk #[102]) H6 fun (r_4 : (Int × Int × Int)) H7 => br ((r_4.2.2 != (0 : Int)) || (r_4.2.1 != z.2)) (R false H7) (pool_Pool_Unpin.sp r_3.1 r_4.1 H7 fun (r_5 : Int) H8 => br (r_5 != (0 : Int)) (R false H8) (newC H8 #[(.int .u8 (0 : Int))] ty_uint8 fun p H9 => doT cSl Tryd.prog (Builtin.append_ #[ty_sl_uint8, ty_sl_uint8] ty_sl_uint8 #[z.1.v, (.slice (some p) 1 1)]) H9 fun (last : Sl) H10 => next (last, IntKind.i64.wrap (z.2 + (1 : Int))) H10))) (LoopVC Int (0 : Int) H6 fun next_1 i H11 => br (decide (i < (order.n : Int))) (optK order.a fun a => (0 ≤ i ∧ i < (order.n : Int)) ∧ ld (cInt .i64) H11 (a.add (i.toNat * 1)) fun (x : Int) => fathomkit_Pick.sp x (IntKind.i64.wrap ((1 : Int) + r)) H11 fun (k : Int) H12 => pool_Pool_Pin.sp r_3.1 (ByteArray.mk #[102]) k H12 fun (r_6 : (Int × Int)) H13 => pool_Pool_Get.sp r_3.1 r_6.1 H13 fun (r_7 : (Int × Sl × Int)) H14 => br ((r_6.2 != (0 : Int)) || (r_7.2.2 != (0 : Int))) (R false H14) (optK z.1.a fun a_1 => (0 ≤ k ∧ k < (z.1.n : Int)) ∧ ld (cInt .u8) H14 (a_1.add (k.toNat * 1)) fun (x_1 : Int) => br (r_7.1 != x_1) (R false H14) (optK z.1.a fun a_2 => (0 ≤ k ∧ k < (z.1.n : Int)) ∧ ld (cInt .u8) H14 (a_2.add (k.toNat * 1)) fun (x_2 : Int) => br ((r_7.2.1.n : Int) != (IntKind.i64.wrap x_2)) (R false H14) (pool_Pool_Resident.sp r_3.1 H14 fun (r_8 : Int) H15 => br (decide (r_8 > (IntKind.i64.wrap ((8 : Int) + r_1)))) (R false H15) (br ((Int.tmod i (3 : Int)) != (0 : Int)) (optK z.1.a fun a_3 => (0 ≤ k ∧ k < (z.1.n : Int)) ∧ st H15 (a_3.add (k.toNat * 1)) (.int .u8 (IntKind.u8.wrap (IntKind.i64.wrap ((Int.tmod i (250 : Int)) + (1 : Int))))) fun H16 => ∃ G : Heap → Prop, G H16 ∧ optK z.1.a fun a_4 => (0 ≤ k ∧ k < (z.1.n : Int)) ∧ ldC (cInt .u8) G (a_4.add (k.toNat * 1)) fun (x_3 : Int) => optK z.1.a fun a_5 => (0 ≤ k ∧ k < (z.1.n : Int)) ∧ ld (cInt .u8) H16 (a_5.add (k.toNat * 1)) fun (x_4 : Int) => doT cSl Tryd.prog (Instr.makeSlice ty_sl_uint8 (.int .u8 x_4) (.int .u8 x_4)) H16 fun (sl : Sl) H17 => G H17 ∧ pool_Pool_Put.sp r_3.1 r_6.1 x_3 sl H17 fun (r_9 : Int) H18 => br (r_9 != (0 : Int)) (R false H18) (pool_Pool_Unpin.sp r_3.1 r_6.1 H18 fun (r_10 : Int) H19 => br (r_10 != (0 : Int)) (R false H19) (next_1 (IntKind.i64.wrap (i + (1 : Int))) H19))) (pool_Pool_Unpin.sp r_3.1 r_6.1 H15 fun (r_11 : Int) H20 => br (r_11 != (0 : Int)) (R false H20) (next_1 (IntKind.i64.wrap (i + (1 : Int))) H20))))))) (pool_Pool_Flush.sp r_3.1 (ByteArray.mk #[102]) H11 fun (r_12 : Int) H21 => br (r_12 != (0 : Int)) (R false H21) (pool_Pool_Pinned.sp r_3.1 H21 fun (r_13 : Int) H22 => br (r_13 != (0 : Int)) (R false H22) (pool_Pool_Peak.sp r_3.1 H22 fun (r_14 : Int) H23 => br (decide (r_14 > (IntKind.i64.wrap ((8 : Int) + r_1)))) (R false H23) (disk_Disk_Crash.sp d (0 : Int) (0 : Int) H23 fun (_ : Unit) H24 => disk_Disk_Remove.sp d (ByteArray.mk #[102]) H24 fun (_ : Int) H25 => disk_Disk_Restart.sp d H25 fun (_ : Unit) H26 => LoopVC Int (0 : Int) H26 fun next_2 k_1 H27 => br (decide (k_1 < (IntKind.i64.wrap ((1 : Int) + r)))) (disk_Disk_Read.sp d (ByteArray.mk #[102]) k_1 H27 fun (r_18 : (Sl × Int)) H28 => page_Open.sp r_18.1 H28 fun (r_19 : (Int × Sl × Int)) H29 => br ((r_18.2 != (0 : Int)) || (r_19.2.2 != (0 : Int))) (R false H29) (optK z.1.a fun a_6 => (0 ≤ k_1 ∧ k_1 < (z.1.n : Int)) ∧ ld (cInt .u8) H29 (a_6.add (k_1.toNat * 1)) fun (x_5 : Int) => br (r_19.1 != x_5) (R false H29) (optK z.1.a fun a_7 => (0 ≤ k_1 ∧ k_1 < (z.1.n : Int)) ∧ ld (cInt .u8) H29 (a_7.add (k_1.toNat * 1)) fun (x_6 : Int) => br ((r_19.2.1.n : Int) != (IntKind.i64.wrap x_6)) (R false H29) (next_2 (IntKind.i64.wrap (k_1 + (1 : Int))) H29)))) (fathomlaw03_works.sp H27 fun (r_20 : Bool) H30 => R r_20 H30))))))))

theorem fathomlaw03_PoolTells.of {frames : Int} {pages : Int} {order : Sl} {H : Heap} {R : Bool → Heap → Prop} (hvc : fathomlaw03_PoolTells.vc frames pages order H R) : fathomlaw03_PoolTells.sp frames pages order H R :=
  specT_of_vc prog_ng prog_mixed (c := cBool) (A := [(12, [(10, cSl), (11, (cInt .i64))]), (19, [(15, (cInt .i64))]), (38, [(22, (cInt .i64))])]) (args := [(.int .i64 frames), (.int .i64 pages), order.v]) (Eq.mpr (by kernel_rfl : vcFT cBool Tryd.prog fathomlaw03_PoolTells.no [(12, [(10, cSl), (11, (cInt .i64))]), (19, [(15, (cInt .i64))]), (38, [(22, (cInt .i64))])] [(.int .i64 frames), (.int .i64 pages), order.v] H R = fathomlaw03_PoolTells.vc frames pages order H R) hvc)

/-- fathom/fathomkit.Pick -/
def fathomkit_Pick.vc (i : Int) (n : Int) (H : Heap) (R : Int → Heap → Prop) : Prop :=
  br (decide (n < (1 : Int))) (R (0 : Int) H) (n ≠ 0 ∧ br (decide ((Int.tmod i n) < (0 : Int))) (R (IntKind.i64.wrap ((Int.tmod i n) + n)) H) (R (Int.tmod i n) H))

theorem fathomkit_Pick.of {i : Int} {n : Int} {H : Heap} {R : Int → Heap → Prop} (hvc : fathomkit_Pick.vc i n H R) : fathomkit_Pick.sp i n H R :=
  specT_of_vc prog_ng prog_mixed (c := (cInt .i64)) (A := []) (args := [(.int .i64 i), (.int .i64 n)]) (Eq.mpr (by kernel_rfl : vcFT (cInt .i64) Tryd.prog fathomkit_Pick.no [] [(.int .i64 i), (.int .i64 n)] H R = fathomkit_Pick.vc i n H R) hvc)

/-- fathom/disk.New -/
def disk_New.vc (quota : Int) (H : Heap) (R : Option Addr → Heap → Prop) : Prop :=
  newM H fun m H1 => newC H1 #[(.map (some m)), (.int .i64 (0 : Int)), (.int .i64 (0 : Int)), (.int .i64 (if (1048576 : Int) < (if (0 : Int) > quota then (0 : Int) else quota) then (1048576 : Int) else (if (0 : Int) > quota then (0 : Int) else quota))), (.int .i64 (0 : Int)), (.int .i64 (0 : Int)), (.bool false), (.int .i64 (0 : Int)), (.int .u64 (0 : Int)), (.bool false)] ty_disk_Disk fun p H2 => R (some p) H2

theorem disk_New.of {quota : Int} {H : Heap} {R : Option Addr → Heap → Prop} (hvc : disk_New.vc quota H R) : disk_New.sp quota H R :=
  specT_of_vc prog_ng prog_mixed (c := cPtr) (A := []) (args := [(.int .i64 quota)]) (Eq.mpr (by kernel_rfl : vcFT cPtr Tryd.prog disk_New.no [] [(.int .i64 quota)] H R = disk_New.vc quota H R) hvc)

/-- (*fathom/disk.Disk).Create -/
def disk_Disk_Create.vc (d : Option Addr) (name : ByteArray) (H : Heap) (R : Int → Heap → Prop) : Prop :=
  disk_Disk_ready.sp d H fun (e : Int) H1 => br (e != (0 : Int)) (R e H1) (optK d fun a => ld cMap H1 (a.add 0) fun (x : Option Nat) => rdV (cTup [cPtr, cBool]) Tryd.prog (Instr.lookup ty_maparr_string_ptr_disk_file (.map x) (.string name) true) H1 fun (x_1 : (Option Addr × Bool)) => disk_named.sp name H1 fun (r : Bool) H2 => br (!r) (R (2 : Int) H2) (br x_1.2 (R (10 : Int) H2) (optK d fun a_1 => ld cMap H2 (a_1.add 0) fun (x_2 : Option Nat) => lenM H2 x_2 fun (n : Nat) => br ((n : Int) == (4096 : Int)) (R (3 : Int) H2) (disk_Disk_change.sp d H2 fun (e_1 : Int) H3 => br (e_1 == (0 : Int)) (optK d fun a_2 => ld cMap H3 (a_2.add 0) fun (x_3 : Option Nat) => newC H3 #[(.slice none 0 0), (.slice none 0 0), (.slice none 0 0)] ty_disk_file fun p H4 => doU Tryd.prog (Instr.mapUpdate ty_maparr_string_ptr_disk_file (.map x_3) (.string name) (.pointer (some p))) H4 fun H5 => R e_1 H5) (R e_1 H3)))))

theorem disk_Disk_Create.of {d : Option Addr} {name : ByteArray} {H : Heap} {R : Int → Heap → Prop} (hvc : disk_Disk_Create.vc d name H R) : disk_Disk_Create.sp d name H R :=
  specT_of_vc prog_ng prog_mixed (c := (cInt .i64)) (A := []) (args := [(.pointer d), (.string name)]) (Eq.mpr (by kernel_rfl : vcFT (cInt .i64) Tryd.prog disk_Disk_Create.no [] [(.pointer d), (.string name)] H R = disk_Disk_Create.vc d name H R) hvc)

/-- fathom/pool.New -/
def pool_New.vc (d : Option Addr) (frames : Int) (H : Heap) (R : (Option Addr × Int) → Heap → Prop) : Prop :=
  br d.isNone (R (none, (1 : Int)) H) (br (decide (frames < (8 : Int))) (R (none, (30 : Int)) H) (br (decide (frames > (4096 : Int))) (R (none, (3 : Int)) H) (newM H fun m H1 => newM H1 fun m_1 H2 => newC H2 #[(.pointer d), (.int .i64 frames), (.map (some m)), (.map (some m_1)), (.int .i64 (1 : Int)), (.int .i64 (0 : Int)), (.int .i64 (0 : Int)), (.int .i64 (0 : Int))] ty_pool_Pool fun p H3 => R (some p, (0 : Int)) H3)))

theorem pool_New.of {d : Option Addr} {frames : Int} {H : Heap} {R : (Option Addr × Int) → Heap → Prop} (hvc : pool_New.vc d frames H R) : pool_New.sp d frames H R :=
  specT_of_vc prog_ng prog_mixed (c := (cTup [cPtr, (cInt .i64)])) (A := []) (args := [(.pointer d), (.int .i64 frames)]) (Eq.mpr (by kernel_rfl : vcFT (cTup [cPtr, (cInt .i64)]) Tryd.prog pool_New.no [] [(.pointer d), (.int .i64 frames)] H R = pool_New.vc d frames H R) hvc)

/-- (*fathom/pool.Pool).Fresh -/
def pool_Pool_Fresh.vc (p : Option Addr) (name : ByteArray) (H : Heap) (R : (Int × Int × Int) → Heap → Prop) : Prop :=
  pool_Pool_ready.sp p H fun (e : Int) H1 => br (e != (0 : Int)) (R ((0 : Int), (0 : Int), e) H1) (optK p fun a => ld cPtr H1 (a.add 0) fun (x : Option Addr) => disk_Disk_Len.sp x name H1 fun (r : (Int × Int)) H2 => br (r.2 == (0 : Int)) (pool_Pool_room.sp p H2 fun (e_1 : Int) H3 => newC H3 #[(.string name), (.int .i64 r.1), (.int .u8 (0 : Int)), (.slice none 0 0), (.bool false), (.int .i64 (0 : Int)), (.int .i64 (0 : Int))] ty_pool_frame fun f_p H4 => br (e_1 == (0 : Int)) (pool_Pool_write.sp p (some f_p) H4 fun (e_2 : Int) H5 => br (e_2 != (0 : Int)) (pool_Pool_met.sp p e_2 H5 fun (r_1 : Int) H6 => R ((0 : Int), (0 : Int), r_1) H6) (pool_Pool_take.sp p (some f_p) H5 fun (r_2 : Int) H7 => R (r_2, r.1, (0 : Int)) H7)) (br (e_1 != (0 : Int)) (pool_Pool_met.sp p e_1 H4 fun (r_3 : Int) H8 => R ((0 : Int), (0 : Int), r_3) H8) (pool_Pool_take.sp p (some f_p) H4 fun (r_4 : Int) H9 => R (r_4, r.1, (0 : Int)) H9))) (newC H2 #[(.string name), (.int .i64 r.1), (.int .u8 (0 : Int)), (.slice none 0 0), (.bool false), (.int .i64 (0 : Int)), (.int .i64 (0 : Int))] ty_pool_frame fun f_p_1 H10 => br (r.2 == (0 : Int)) (pool_Pool_write.sp p (some f_p_1) H10 fun (e_3 : Int) H11 => br (e_3 != (0 : Int)) (pool_Pool_met.sp p e_3 H11 fun (r_5 : Int) H12 => R ((0 : Int), (0 : Int), r_5) H12) (pool_Pool_take.sp p (some f_p_1) H11 fun (r_6 : Int) H13 => R (r_6, r.1, (0 : Int)) H13)) (br (r.2 != (0 : Int)) (pool_Pool_met.sp p r.2 H10 fun (r_7 : Int) H14 => R ((0 : Int), (0 : Int), r_7) H14) (pool_Pool_take.sp p (some f_p_1) H10 fun (r_8 : Int) H15 => R (r_8, r.1, (0 : Int)) H15))))

theorem pool_Pool_Fresh.of {p : Option Addr} {name : ByteArray} {H : Heap} {R : (Int × Int × Int) → Heap → Prop} (hvc : pool_Pool_Fresh.vc p name H R) : pool_Pool_Fresh.sp p name H R :=
  specT_of_vc prog_ng prog_mixed (c := (cTup [(cInt .i64), (cInt .i64), (cInt .i64)])) (A := []) (args := [(.pointer p), (.string name)]) (Eq.mpr (by kernel_rfl : vcFT (cTup [(cInt .i64), (cInt .i64), (cInt .i64)]) Tryd.prog pool_Pool_Fresh.no [] [(.pointer p), (.string name)] H R = pool_Pool_Fresh.vc p name H R) hvc)

/-- (*fathom/pool.Pool).Put -/
def pool_Pool_Put.vc (p : Option Addr) (h : Int) (kind : Int) (b : Sl) (H : Heap) (R : Int → Heap → Prop) : Prop :=
  pool_Pool_held.sp p h H fun (r : (Option Addr × Int)) H1 => br (r.2 != (0 : Int)) (R r.2 H1) (br (decide ((b.n : Int) > (504 : Int))) (R (2 : Int) H1) (slices_Clone_sl_byte_byte.sp b H1 fun (r_1 : Sl) H2 => optK r.1 fun a => st H2 (a.add 2) (.int .u8 kind) fun H3 => optK r.1 fun a_1 => st H3 (a_1.add 3) r_1.v fun H4 => optK r.1 fun a_2 => st H4 (a_2.add 4) (.bool true) fun H5 => R (0 : Int) H5))

theorem pool_Pool_Put.of {p : Option Addr} {h : Int} {kind : Int} {b : Sl} {H : Heap} {R : Int → Heap → Prop} (hvc : pool_Pool_Put.vc p h kind b H R) : pool_Pool_Put.sp p h kind b H R :=
  specT_of_vc prog_ng prog_mixed (c := (cInt .i64)) (A := []) (args := [(.pointer p), (.int .i64 h), (.int .u8 kind), b.v]) (Eq.mpr (by kernel_rfl : vcFT (cInt .i64) Tryd.prog pool_Pool_Put.no [] [(.pointer p), (.int .i64 h), (.int .u8 kind), b.v] H R = pool_Pool_Put.vc p h kind b H R) hvc)

/-- (*fathom/disk.Disk).Ops -/
def disk_Disk_Ops.vc (d : Option Addr) (H : Heap) (R : Int → Heap → Prop) : Prop :=
  br d.isNone (R (0 : Int) H) (optK d fun a => ld (cInt .i64) H (a.add 4) fun (x : Int) => R x H)

theorem disk_Disk_Ops.of {d : Option Addr} {H : Heap} {R : Int → Heap → Prop} (hvc : disk_Disk_Ops.vc d H R) : disk_Disk_Ops.sp d H R :=
  specT_of_vc prog_ng prog_mixed (c := (cInt .i64)) (A := []) (args := [(.pointer d)]) (Eq.mpr (by kernel_rfl : vcFT (cInt .i64) Tryd.prog disk_Disk_Ops.no [] [(.pointer d)] H R = disk_Disk_Ops.vc d H R) hvc)

/-- (*fathom/disk.Disk).Len -/
def disk_Disk_Len.vc (d : Option Addr) (name : ByteArray) (H : Heap) (R : (Int × Int) → Heap → Prop) : Prop :=
  disk_Disk_open.sp d name H fun (r : (Option Addr × Int)) H1 => br (r.2 != (0 : Int)) (R ((0 : Int), r.2) H1) (optK r.1 fun a => ld cSl H1 (a.add 0) fun (x : Sl) => R ((x.n : Int), (0 : Int)) H1)

theorem disk_Disk_Len.of {d : Option Addr} {name : ByteArray} {H : Heap} {R : (Int × Int) → Heap → Prop} (hvc : disk_Disk_Len.vc d name H R) : disk_Disk_Len.sp d name H R :=
  specT_of_vc prog_ng prog_mixed (c := (cTup [(cInt .i64), (cInt .i64)])) (A := []) (args := [(.pointer d), (.string name)]) (Eq.mpr (by kernel_rfl : vcFT (cTup [(cInt .i64), (cInt .i64)]) Tryd.prog disk_Disk_Len.no [] [(.pointer d), (.string name)] H R = disk_Disk_Len.vc d name H R) hvc)

/-- (*fathom/pool.Pool).Resident -/
def pool_Pool_Resident.vc (p : Option Addr) (H : Heap) (R : Int → Heap → Prop) : Prop :=
  br p.isNone (R (0 : Int) H) (optK p fun a => ld cMap H (a.add 2) fun (x : Option Nat) => lenM H x fun (n : Nat) => R (n : Int) H)

theorem pool_Pool_Resident.of {p : Option Addr} {H : Heap} {R : Int → Heap → Prop} (hvc : pool_Pool_Resident.vc p H R) : pool_Pool_Resident.sp p H R :=
  specT_of_vc prog_ng prog_mixed (c := (cInt .i64)) (A := []) (args := [(.pointer p)]) (Eq.mpr (by kernel_rfl : vcFT (cInt .i64) Tryd.prog pool_Pool_Resident.no [] [(.pointer p)] H R = pool_Pool_Resident.vc p H R) hvc)

/-- (*fathom/pool.Pool).Pinned -/
def pool_Pool_Pinned.vc (p : Option Addr) (H : Heap) (R : Int → Heap → Prop) : Prop :=
  br (!p.isNone) (optK p fun a => ld cMap H (a.add 2) fun (x : Option Nat) => doT cPtr Tryd.prog (Instr.range ty_maparr_pool_spot_ptr_pool_frame (.map x)) H fun (it : Option Addr) H1 => LoopVC Int (0 : Int) H1 fun next n H2 => doT cNext Tryd.prog (Instr.next (.pointer it) false ty_) H2 fun (nx : Bool × List Value) H3 => br nx.1 (doT cTwo Tryd.prog (Instr.entry (.pointer it)) H3 fun (en : Value × Value) H4 => asT cPtr en.2 fun (f : Option Addr) => optK f fun a_1 => ld (cInt .i64) H4 (a_1.add 5) fun (x_1 : Int) => next (IntKind.i64.wrap (n + (if (1 : Int) < x_1 then (1 : Int) else x_1))) H4) (R n H3)) (R (0 : Int) H)

theorem pool_Pool_Pinned.of {p : Option Addr} {H : Heap} {R : Int → Heap → Prop} (hvc : pool_Pool_Pinned.vc p H R) : pool_Pool_Pinned.sp p H R :=
  specT_of_vc prog_ng prog_mixed (c := (cInt .i64)) (A := [(4, [(3, (cInt .i64))])]) (args := [(.pointer p)]) (Eq.mpr (by kernel_rfl : vcFT (cInt .i64) Tryd.prog pool_Pool_Pinned.no [(4, [(3, (cInt .i64))])] [(.pointer p)] H R = pool_Pool_Pinned.vc p H R) hvc)

/-- (*fathom/pool.Pool).Unpin -/
def pool_Pool_Unpin.vc (p : Option Addr) (h : Int) (H : Heap) (R : Int → Heap → Prop) : Prop :=
  pool_Pool_held.sp p h H fun (r : (Option Addr × Int)) H1 => br (r.2 != (0 : Int)) (R r.2 H1) (optK p fun a => ld cMap H1 (a.add 3) fun (x : Option Nat) => doT cRaw Tryd.prog (Builtin.delete_ #[ty_maparr_int_ptr_pool_frame, ty_int] ty_ #[(.map x), (.int .i64 h)]) H1 fun (_ : Value) H2 => optK p fun a_1 => ld (cInt .i64) H2 (a_1.add 5) fun (x_1 : Int) => optK p fun a_2 => st H2 (a_2.add 5) (.int .i64 (IntKind.i64.wrap (x_1 + (1 : Int)))) fun H3 => optK r.1 fun a_3 => ld (cInt .i64) H3 (a_3.add 5) fun (x_2 : Int) => optK p fun a_4 => ld (cInt .i64) H3 (a_4.add 5) fun (x_3 : Int) => optK r.1 fun a_5 => st H3 (a_5.add 5) (.int .i64 (IntKind.i64.wrap (x_2 - (1 : Int)))) fun H4 => optK r.1 fun a_6 => st H4 (a_6.add 6) (.int .i64 x_3) fun H5 => R (0 : Int) H5)

theorem pool_Pool_Unpin.of {p : Option Addr} {h : Int} {H : Heap} {R : Int → Heap → Prop} (hvc : pool_Pool_Unpin.vc p h H R) : pool_Pool_Unpin.sp p h H R :=
  specT_of_vc prog_ng prog_mixed (c := (cInt .i64)) (A := []) (args := [(.pointer p), (.int .i64 h)]) (Eq.mpr (by kernel_rfl : vcFT (cInt .i64) Tryd.prog pool_Pool_Unpin.no [] [(.pointer p), (.int .i64 h)] H R = pool_Pool_Unpin.vc p h H R) hvc)

/-- (*fathom/pool.Pool).Pin -/
def pool_Pool_Pin.vc (p : Option Addr) (name : ByteArray) (page : Int) (H : Heap) (R : (Int × Int) → Heap → Prop) : Prop :=
  pool_Pool_ready.sp p H fun (e : Int) H1 => br (e != (0 : Int)) (R ((0 : Int), e) H1) (newC H1 (zc Tryd.prog ty_pool_spot) ty_pool_spot fun p_1 H2 => doU Tryd.prog (Instr.storeAt ty_pool_spot (.pointer (some p_1)) (.agg #[(.string name), (.int .i64 page)])) H2 fun H3 => optK p fun a => ld cMap H3 (a.add 2) fun (x : Option Nat) => ldA (cAgg [cStr, (cInt .i64)]) 2 H3 p_1 fun (x_1 : (ByteArray × Int)) => rdV (cTup [cPtr, cBool]) Tryd.prog (Instr.lookup ty_maparr_pool_spot_ptr_pool_frame (.map x) (.agg #[(.string x_1.1), (.int .i64 x_1.2)]) true) H3 fun (x_2 : (Option Addr × Bool)) => br x_2.2 (pool_Pool_pin.sp p x_2.1 H3 fun (r : Int) H4 => R (r, (0 : Int)) H4) (ldA (cAgg [cStr, (cInt .i64)]) 2 H3 p_1 fun (x_3 : (ByteArray × Int)) => pool_Pool_load.sp p x_3.1 x_3.2 H3 fun (r_1 : (Option Addr × Int)) H5 => br (r_1.2 != (0 : Int)) (pool_Pool_met.sp p r_1.2 H5 fun (r_2 : Int) H6 => R ((0 : Int), r_2) H6) (pool_Pool_take.sp p r_1.1 H5 fun (r_3 : Int) H7 => R (r_3, (0 : Int)) H7)))

theorem pool_Pool_Pin.of {p : Option Addr} {name : ByteArray} {page : Int} {H : Heap} {R : (Int × Int) → Heap → Prop} (hvc : pool_Pool_Pin.vc p name page H R) : pool_Pool_Pin.sp p name page H R :=
  specT_of_vc prog_ng prog_mixed (c := (cTup [(cInt .i64), (cInt .i64)])) (A := []) (args := [(.pointer p), (.string name), (.int .i64 page)]) (Eq.mpr (by kernel_rfl : vcFT (cTup [(cInt .i64), (cInt .i64)]) Tryd.prog pool_Pool_Pin.no [] [(.pointer p), (.string name), (.int .i64 page)] H R = pool_Pool_Pin.vc p name page H R) hvc)

/-- (*fathom/pool.Pool).Get -/
def pool_Pool_Get.vc (p : Option Addr) (h : Int) (H : Heap) (R : (Int × Sl × Int) → Heap → Prop) : Prop :=
  pool_Pool_held.sp p h H fun (r : (Option Addr × Int)) H1 => br (r.2 != (0 : Int)) (R ((0 : Int), (Sl.mk none 0 0), r.2) H1) (∃ G : Heap → Prop, G H1 ∧ optK r.1 fun a => ldC (cInt .u8) G (a.add 2) fun (x : Int) => optK r.1 fun a_1 => ld cSl H1 (a_1.add 3) fun (x_1 : Sl) => slices_Clone_sl_byte_byte.sp x_1 H1 fun (r_1 : Sl) H2 => G H2 ∧ R (x, r_1, (0 : Int)) H2)

theorem pool_Pool_Get.of {p : Option Addr} {h : Int} {H : Heap} {R : (Int × Sl × Int) → Heap → Prop} (hvc : pool_Pool_Get.vc p h H R) : pool_Pool_Get.sp p h H R :=
  specT_of_vc prog_ng prog_mixed (c := (cTup [(cInt .u8), cSl, (cInt .i64)])) (A := []) (args := [(.pointer p), (.int .i64 h)]) (Eq.mpr (by kernel_rfl : vcFT (cTup [(cInt .u8), cSl, (cInt .i64)]) Tryd.prog pool_Pool_Get.no [] [(.pointer p), (.int .i64 h)] H R = pool_Pool_Get.vc p h H R) hvc)

/-- (*fathom/pool.Pool).Drop -/
def pool_Pool_Drop.vc (p : Option Addr) (name : ByteArray) (H : Heap) (R : Int → Heap → Prop) : Prop :=
  pool_Pool_ready.sp p H fun (e : Int) H1 => br (e != (0 : Int)) (R e H1) (optK p fun a => ld cPtr H1 (a.add 0) fun (x : Option Addr) => disk_Disk_Len.sp x name H1 fun (r : (Int × Int)) H2 => br (r.2 != (0 : Int)) (pool_Pool_met.sp p r.2 H2 fun (r_1 : Int) H3 => R r_1 H3) (pool_Pool_of.sp p name H2 fun (l : Sl) H4 => slices_ContainsFunc_sl_ptr_pool_frame_ptr_pool_frame.sp l H4 fun (r_2 : Bool) H5 => br r_2 (R (31 : Int) H5) (LoopVC Int (0 : Int) H5 fun next z H6 => br (decide (z < (l.n : Int))) (optK l.a fun a_1 => (0 ≤ z ∧ z < (l.n : Int)) ∧ ld cPtr H6 (a_1.add (z.toNat * 1)) fun (f : Option Addr) => optK p fun a_2 => ld cMap H6 (a_2.add 2) fun (x_1 : Option Nat) => optK f fun a_3 => ldA (cAgg [cStr, (cInt .i64)]) 2 H6 (a_3.add 0) fun (x_2 : (ByteArray × Int)) => doT cRaw Tryd.prog (Builtin.delete_ #[ty_maparr_pool_spot_ptr_pool_frame, ty_pool_spot] ty_ #[(.map x_1), (.agg #[(.string x_2.1), (.int .i64 x_2.2)])]) H6 fun (_ : Value) H7 => next (IntKind.i64.wrap (z + (1 : Int))) H7) (optK p fun a_4 => ld cPtr H6 (a_4.add 0) fun (x_3 : Option Addr) => disk_Disk_Remove.sp x_3 name H6 fun (r_3 : Int) H8 => pool_Pool_met.sp p r_3 H8 fun (r_4 : Int) H9 => R r_4 H9))))

theorem pool_Pool_Drop.of {p : Option Addr} {name : ByteArray} {H : Heap} {R : Int → Heap → Prop} (hvc : pool_Pool_Drop.vc p name H R) : pool_Pool_Drop.sp p name H R :=
  specT_of_vc prog_ng prog_mixed (c := (cInt .i64)) (A := [(11, [(37, (cInt .i64))])]) (args := [(.pointer p), (.string name)]) (Eq.mpr (by kernel_rfl : vcFT (cInt .i64) Tryd.prog pool_Pool_Drop.no [(11, [(37, (cInt .i64))])] [(.pointer p), (.string name)] H R = pool_Pool_Drop.vc p name H R) hvc)

/-- fathom/fathomlaw03.works -/
def fathomlaw03_works.vc  (H : Heap) (R : Bool → Heap → Prop) : Prop :=
  disk_New.sp (20 : Int) H fun (d : Option Addr) H1 => disk_Disk_Create.sp d (ByteArray.mk #[102]) H1 fun (_ : Int) H2 => pool_New.sp d (8 : Int) H2 fun (r_1 : (Option Addr × Int)) H3 => br (r_1.2 != (0 : Int)) (R false H3) (br r_1.1.isNone (R false H3) (pool_Pool_Fresh.sp r_1.1 (ByteArray.mk #[102]) H3 fun (r_2 : (Int × Int × Int)) H4 => newC H4 #[(.int .u8 (1 : Int)), (.int .u8 (2 : Int)), (.int .u8 (3 : Int))] ty_uint8 fun p H5 => pool_Pool_Put.sp r_1.1 r_2.1 (5 : Int) (Sl.mk (some p) 3 3) H5 fun (g : Int) H6 => pool_Pool_Unpin.sp r_1.1 r_2.1 H6 fun (i : Int) H7 => pool_Pool_Flush.sp r_1.1 (ByteArray.mk #[102]) H7 fun (j : Int) H8 => pool_Pool_Pin.sp r_1.1 (ByteArray.mk #[102]) (0 : Int) H8 fun (r_3 : (Int × Int)) H9 => pool_Pool_Get.sp r_1.1 r_3.1 H9 fun (r_4 : (Int × Sl × Int)) H10 => br ((((((((((r_2.2.2 == (0 : Int)) && (g == (0 : Int))) && (i == (0 : Int))) && (j == (0 : Int))) && (r_3.2 == (0 : Int))) && (r_4.2.2 == (0 : Int))) && (r_2.1 == (1 : Int))) && (r_2.2.1 == (0 : Int))) && (r_3.1 == (2 : Int))) && (r_4.1 == (5 : Int))) (b2s H10 r_4.2.1.a r_4.2.1.n fun (str : ByteArray) => br (str.toList == (ByteArray.mk #[1, 2, 3]).toList) (disk_Disk_Ops.sp d H10 fun (r_5 : Int) H11 => br (r_5 == (4 : Int)) (pool_Pool_Resident.sp r_1.1 H11 fun (r_6 : Int) H12 => R (r_6 == (1 : Int)) H12) (R false H11)) (R false H10)) (R false H10)))

theorem fathomlaw03_works.of {H : Heap} {R : Bool → Heap → Prop} (hvc : fathomlaw03_works.vc H R) : fathomlaw03_works.sp H R :=
  specT_of_vc prog_ng prog_mixed (c := cBool) (A := []) (args := []) (Eq.mpr (by kernel_rfl : vcFT cBool Tryd.prog fathomlaw03_works.no [] [] H R = fathomlaw03_works.vc H R) hvc)

/-- (*fathom/pool.Pool).Peak -/
def pool_Pool_Peak.vc (p : Option Addr) (H : Heap) (R : Int → Heap → Prop) : Prop :=
  br p.isNone (R (0 : Int) H) (optK p fun a => ld (cInt .i64) H (a.add 6) fun (x : Int) => R x H)

theorem pool_Pool_Peak.of {p : Option Addr} {H : Heap} {R : Int → Heap → Prop} (hvc : pool_Pool_Peak.vc p H R) : pool_Pool_Peak.sp p H R :=
  specT_of_vc prog_ng prog_mixed (c := (cInt .i64)) (A := []) (args := [(.pointer p)]) (Eq.mpr (by kernel_rfl : vcFT (cInt .i64) Tryd.prog pool_Pool_Peak.no [] [(.pointer p)] H R = pool_Pool_Peak.vc p H R) hvc)

/-- (*fathom/pool.Pool).Frames -/
def pool_Pool_Frames.vc (p : Option Addr) (H : Heap) (R : Int → Heap → Prop) : Prop :=
  br p.isNone (R (0 : Int) H) (optK p fun a => ld (cInt .i64) H (a.add 1) fun (x : Int) => R x H)

theorem pool_Pool_Frames.of {p : Option Addr} {H : Heap} {R : Int → Heap → Prop} (hvc : pool_Pool_Frames.vc p H R) : pool_Pool_Frames.sp p H R :=
  specT_of_vc prog_ng prog_mixed (c := (cInt .i64)) (A := []) (args := [(.pointer p)]) (Eq.mpr (by kernel_rfl : vcFT (cInt .i64) Tryd.prog pool_Pool_Frames.no [] [(.pointer p)] H R = pool_Pool_Frames.vc p H R) hvc)

/-- (*fathom/pool.Pool).Disk -/
def pool_Pool_Disk.vc (p : Option Addr) (H : Heap) (R : Option Addr → Heap → Prop) : Prop :=
  br p.isNone (R none H) (optK p fun a => ld cPtr H (a.add 0) fun (x : Option Addr) => R x H)

theorem pool_Pool_Disk.of {p : Option Addr} {H : Heap} {R : Option Addr → Heap → Prop} (hvc : pool_Pool_Disk.vc p H R) : pool_Pool_Disk.sp p H R :=
  specT_of_vc prog_ng prog_mixed (c := cPtr) (A := []) (args := [(.pointer p)]) (Eq.mpr (by kernel_rfl : vcFT cPtr Tryd.prog pool_Pool_Disk.no [] [(.pointer p)] H R = pool_Pool_Disk.vc p H R) hvc)

/-- (fathom/fathomlaw03.Step).bytes -/
def fathomlaw03_Step_bytes.vc (x_ : Int) (x_1 : ByteArray) (x_2 : Int) (x_3 : Int) (x_4 : Int) (H : Heap) (R : Sl → Heap → Prop) : Prop :=
  newC H #[(.int .i64 x_), (.string x_1), (.int .i64 x_2), (.int .i64 x_3), (.int .u8 x_4)] ty_fathomlaw03_Step fun p H1 => ld (cInt .i64) H1 (p.add 2) fun (x : Int) => fathomkit_Pick.sp x (600 : Int) H1 fun (r : Int) H2 => doT cSl Tryd.prog (Instr.makeSlice ty_sl_uint8 (.int .i64 r) (.int .i64 r)) H2 fun (b : Sl) H3 => LoopVC Int (0 : Int) H3 fun next i H4 => br (decide (i < (b.n : Int))) (ld (cInt .u8) H4 (p.add 4) fun (x_5 : Int) => optK b.a fun a => (0 ≤ i ∧ i < (b.n : Int)) ∧ st H4 (a.add (i.toNat * 1)) (.int .u8 x_5) fun H5 => next (IntKind.i64.wrap (i + (1 : Int))) H5) (R b H4)

theorem fathomlaw03_Step_bytes.of {x_ : Int} {x_1 : ByteArray} {x_2 : Int} {x_3 : Int} {x_4 : Int} {H : Heap} {R : Sl → Heap → Prop} (hvc : fathomlaw03_Step_bytes.vc x_ x_1 x_2 x_3 x_4 H R) : fathomlaw03_Step_bytes.sp x_ x_1 x_2 x_3 x_4 H R :=
  specT_of_vc prog_ng prog_mixed (c := cSl) (A := [(3, [(4, (cInt .i64))])]) (args := [(.agg #[(.int .i64 x_), (.string x_1), (.int .i64 x_2), (.int .i64 x_3), (.int .u8 x_4)])]) (Eq.mpr (by kernel_rfl : vcFT cSl Tryd.prog fathomlaw03_Step_bytes.no [(3, [(4, (cInt .i64))])] [(.agg #[(.int .i64 x_), (.string x_1), (.int .i64 x_2), (.int .i64 x_3), (.int .u8 x_4)])] H R = fathomlaw03_Step_bytes.vc x_ x_1 x_2 x_3 x_4 H R) hvc)

/-- (*fathom/pool.Pool).Flush -/
def pool_Pool_Flush.vc (p : Option Addr) (name : ByteArray) (H : Heap) (R : Int → Heap → Prop) : Prop :=
  pool_Pool_ready.sp p H fun (e : Int) H1 => br (e != (0 : Int)) (R e H1) (optK p fun a => ld cPtr H1 (a.add 0) fun (x : Option Addr) => disk_Disk_Len.sp x name H1 fun (r : (Int × Int)) H2 => br (r.2 != (0 : Int)) (pool_Pool_met.sp p r.2 H2 fun (r_1 : Int) H3 => R r_1 H3) (pool_Pool_of.sp p name H2 fun (r_2 : Sl) H4 => LoopVC Int (0 : Int) H4 fun next z H5 => br (decide (z < (r_2.n : Int))) (optK r_2.a fun a_1 => (0 ≤ z ∧ z < (r_2.n : Int)) ∧ ld cPtr H5 (a_1.add (z.toNat * 1)) fun (f : Option Addr) => optK f fun a_2 => ld cBool H5 (a_2.add 4) fun (x_1 : Bool) => br (!x_1) (next (IntKind.i64.wrap (z + (1 : Int))) H5) (pool_Pool_write.sp p f H5 fun (e_1 : Int) H6 => br (e_1 != (0 : Int)) (pool_Pool_met.sp p e_1 H6 fun (r_3 : Int) H7 => R r_3 H7) (next (IntKind.i64.wrap (z + (1 : Int))) H6))) (optK p fun a_3 => ld cPtr H5 (a_3.add 0) fun (x_2 : Option Addr) => disk_Disk_Sync.sp x_2 name H5 fun (r_4 : Int) H8 => pool_Pool_met.sp p r_4 H8 fun (r_5 : Int) H9 => R r_5 H9)))

theorem pool_Pool_Flush.of {p : Option Addr} {name : ByteArray} {H : Heap} {R : Int → Heap → Prop} (hvc : pool_Pool_Flush.vc p name H R) : pool_Pool_Flush.sp p name H R :=
  specT_of_vc prog_ng prog_mixed (c := (cInt .i64)) (A := [(8, [(34, (cInt .i64))])]) (args := [(.pointer p), (.string name)]) (Eq.mpr (by kernel_rfl : vcFT (cInt .i64) Tryd.prog pool_Pool_Flush.no [(8, [(34, (cInt .i64))])] [(.pointer p), (.string name)] H R = pool_Pool_Flush.vc p name H R) hvc)

/-- (*fathom/disk.Disk).Crash -/
def disk_Disk_Crash.vc (d : Option Addr) (p : Int) (keep : Int) (H : Heap) (R : Unit → Heap → Prop) : Prop :=
  disk_Disk_ready.sp d H fun (r : Int) H1 => br (r == (0 : Int)) (optK d fun a => doU Tryd.prog (Instr.storeAt ty_disk_crash (.pointer (some (a.add 6))) (.agg #[(.bool true), (.int .i64 (if (0 : Int) > p then (0 : Int) else p)), (.int .u64 keep)])) H1 fun H2 => R () H2) (R () H1)

theorem disk_Disk_Crash.of {d : Option Addr} {p : Int} {keep : Int} {H : Heap} {R : Unit → Heap → Prop} (hvc : disk_Disk_Crash.vc d p keep H R) : disk_Disk_Crash.sp d p keep H R :=
  specT_of_vc prog_ng prog_mixed (c := (cTup [])) (A := []) (args := [(.pointer d), (.int .i64 p), (.int .u64 keep)]) (Eq.mpr (by kernel_rfl : vcFT (cTup []) Tryd.prog disk_Disk_Crash.no [] [(.pointer d), (.int .i64 p), (.int .u64 keep)] H R = disk_Disk_Crash.vc d p keep H R) hvc)

/-- (*fathom/disk.Disk).Remove -/
def disk_Disk_Remove.vc (d : Option Addr) (name : ByteArray) (H : Heap) (R : Int → Heap → Prop) : Prop :=
  disk_Disk_open.sp d name H fun (r : (Option Addr × Int)) H1 => br (r.2 != (0 : Int)) (R r.2 H1) (disk_Disk_change.sp d H1 fun (e : Int) H2 => br (e == (0 : Int)) (disk_Disk_drop.sp d name H2 fun (_ : Unit) H3 => R e H3) (R e H2))

theorem disk_Disk_Remove.of {d : Option Addr} {name : ByteArray} {H : Heap} {R : Int → Heap → Prop} (hvc : disk_Disk_Remove.vc d name H R) : disk_Disk_Remove.sp d name H R :=
  specT_of_vc prog_ng prog_mixed (c := (cInt .i64)) (A := []) (args := [(.pointer d), (.string name)]) (Eq.mpr (by kernel_rfl : vcFT (cInt .i64) Tryd.prog disk_Disk_Remove.no [] [(.pointer d), (.string name)] H R = disk_Disk_Remove.vc d name H R) hvc)

/-- (*fathom/disk.Disk).Restart -/
def disk_Disk_Restart.vc (d : Option Addr) (H : Heap) (R : Unit → Heap → Prop) : Prop :=
  br d.isNone (R () H) (optK d fun a => ld cBool H (a.add 9) fun (x : Bool) => br (!x) (R () H) (optK d fun a_1 => ld cMap H (a_1.add 0) fun (x_1 : Option Nat) => doT cPtr Tryd.prog (Instr.range ty_maparr_string_ptr_disk_file (.map x_1)) H fun (it : Option Addr) H1 => LoopVC Sl (Sl.mk none 0 0) H1 fun next order H2 => doT cNext Tryd.prog (Instr.next (.pointer it) false ty_) H2 fun (nx : Bool × List Value) H3 => br nx.1 (doT cTwo Tryd.prog (Instr.entry (.pointer it)) H3 fun (en : Value × Value) H4 => asT cPtr en.2 fun (f : Option Addr) => optK f fun a_2 => ld cSl H4 (a_2.add 2) fun (x_2 : Sl) => LoopVC (Sl × Int) (order, (0 : Int)) H4 fun next_1 z H5 => br (decide (z.2 < (x_2.n : Int))) (optK x_2.a fun a_3 => (0 ≤ z.2 ∧ z.2 < (x_2.n : Int)) ∧ ldA cArr 514 H5 (a_3.add (z.2.toNat * 514)) fun (x_3 : Array Value) => newC H5 (zc Tryd.prog ty_disk_mark) ty_disk_mark fun p H6 => doU Tryd.prog (Instr.storeAt ty_disk_mark (.pointer (some p)) (.agg x_3)) H6 fun H7 => ld (cInt .i64) H7 (p.add 0) fun (x_4 : Int) => newC H7 #[(.int .i64 x_4)] ty_int fun p_1 H8 => doT cSl Tryd.prog (Builtin.append_ #[ty_sl_int, ty_sl_int] ty_sl_int #[z.1.v, (.slice (some p_1) 1 1)]) H8 fun (order_1 : Sl) H9 => next_1 (order_1, IntKind.i64.wrap (z.2 + (1 : Int))) H9) (next z.1 H5)) (slices_Sort_sl_int_int.sp order H3 fun (_ : Unit) H10 => optK d fun a_4 => st H10 (a_4.add 1) (.int .i64 (0 : Int)) fun H11 => optK d fun a_5 => ld cMap H11 (a_5.add 0) fun (x_5 : Option Nat) => doT cPtr Tryd.prog (Instr.range ty_maparr_string_ptr_disk_file (.map x_5)) H11 fun (it_1 : Option Addr) H12 => LoopVC Unit () H12 fun next_2 _ H13 => doT cNext Tryd.prog (Instr.next (.pointer it_1) false ty_) H13 fun (nx_1 : Bool × List Value) H14 => br nx_1.1 (doT cTwo Tryd.prog (Instr.entry (.pointer it_1)) H14 fun (en_1 : Value × Value) H15 => asT cPtr en_1.2 fun (f_1 : Option Addr) => optK f_1 fun a_6 => ld cSl H15 (a_6.add 1) fun (x_6 : Sl) => slices_Clone_sl_disk_sheet_disk_sheet.sp x_6 H15 fun (r_1 : Sl) H16 => optK f_1 fun a_7 => st H16 (a_7.add 0) r_1.v fun H17 => optK f_1 fun a_8 => ld cSl H17 (a_8.add 2) fun (x_7 : Sl) => LoopVC Int (0 : Int) H17 fun next_3 z_2 H18 => br (decide (z_2 < (x_7.n : Int))) (optK x_7.a fun a_9 => (0 ≤ z_2 ∧ z_2 < (x_7.n : Int)) ∧ ldA cArr 514 H18 (a_9.add (z_2.toNat * 514)) fun (x_8 : Array Value) => newC H18 (zc Tryd.prog ty_disk_mark) ty_disk_mark fun p_2 H19 => doU Tryd.prog (Instr.storeAt ty_disk_mark (.pointer (some p_2)) (.agg x_8)) H19 fun H20 => ld (cInt .i64) H20 (p_2.add 0) fun (x_9 : Int) => slices_BinarySearch_sl_int_int.sp order x_9 H20 fun (r_2 : (Int × Bool)) H21 => optK d fun a_10 => ld (cInt .u64) H21 ((a_10.add 6).add 2) fun (x_10 : Int) => 0 ≤ (Int.tmod r_2.1 (64 : Int)) ∧ br ((iand .u64 (ishr .u64 x_10 (Int.tmod r_2.1 (64 : Int))) (1 : Int)) == (1 : Int)) (optK f_1 fun a_11 => ld cSl H21 (a_11.add 0) fun (x_11 : Sl) => ld (cInt .i64) H21 (p_2.add 1) fun (x_12 : Int) => ldA cArr 512 H21 (p_2.add 2) fun (x_13 : Array Value) => disk_put.sp x_11 x_12 x_13 H21 fun (r_3 : Sl) H22 => optK f_1 fun a_12 => st H22 (a_12.add 0) r_3.v fun H23 => next_3 (IntKind.i64.wrap (z_2 + (1 : Int))) H23) (next_3 (IntKind.i64.wrap (z_2 + (1 : Int))) H21)) (optK f_1 fun a_13 => ld cSl H18 (a_13.add 0) fun (x_14 : Sl) => slices_Clone_sl_disk_sheet_disk_sheet.sp x_14 H18 fun (r_4 : Sl) H24 => optK f_1 fun a_14 => st H24 (a_14.add 1) r_4.v fun H25 => optK f_1 fun a_15 => st H25 (a_15.add 2) (.slice none 0 0) fun H26 => optK d fun a_16 => ld (cInt .i64) H26 (a_16.add 1) fun (x_15 : Int) => optK f_1 fun a_17 => ld cSl H26 (a_17.add 0) fun (x_16 : Sl) => optK d fun a_18 => st H26 (a_18.add 1) (.int .i64 (IntKind.i64.wrap (x_15 + (x_16.n : Int)))) fun H27 => next_2 () H27)) (optK d fun a_19 => st H14 (a_19.add 9) (.bool false) fun H28 => optK d fun a_20 => doU Tryd.prog (Instr.storeAt ty_disk_crash (.pointer (some (a_20.add 6))) (.agg #[(.bool false), (.int .i64 (0 : Int)), (.int .u64 (0 : Int))])) H28 fun H29 => R () H29))))

theorem disk_Disk_Restart.of {d : Option Addr} {H : Heap} {R : Unit → Heap → Prop} (hvc : disk_Disk_Restart.vc d H R) : disk_Disk_Restart.sp d H R :=
  specT_of_vc prog_ng prog_mixed (c := (cTup [])) (A := [(3, [(2, cSl)]), (6, [(2, cSl), (36, (cInt .i64))]), (13, []), (17, [(73, (cInt .i64))])]) (args := [(.pointer d)]) (Eq.mpr (by kernel_rfl : vcFT (cTup []) Tryd.prog disk_Disk_Restart.no [(3, [(2, cSl)]), (6, [(2, cSl), (36, (cInt .i64))]), (13, []), (17, [(73, (cInt .i64))])] [(.pointer d)] H R = disk_Disk_Restart.vc d H R) hvc)

/-- (*fathom/disk.Disk).Read -/
def disk_Disk_Read.vc (d : Option Addr) (name : ByteArray) (page : Int) (H : Heap) (R : (Sl × Int) → Heap → Prop) : Prop :=
  disk_Disk_open.sp d name H fun (r : (Option Addr × Int)) H1 => cut Unit (fun J => br (r.2 != (0 : Int)) (R ((Sl.mk none 0 0), r.2) H1) (br (decide (page < (0 : Int))) (br (decide (page < (0 : Int))) (R ((Sl.mk none 0 0), (12 : Int)) H1) (J () H1)) (optK r.1 fun a => ld cSl H1 (a.add 0) fun (x : Sl) => br (decide (page ≥ (x.n : Int))) (R ((Sl.mk none 0 0), (12 : Int)) H1) (J () H1)))) fun (_ : Unit) H2 => optK r.1 fun a_1 => ld cSl H2 (a_1.add 0) fun (x_1 : Sl) => optK x_1.a fun a_2 => (0 ≤ page ∧ page < (x_1.n : Int)) ∧ slices_Clone_sl_byte_byte.sp (Sl.mk (slA (some (a_2.add (page.toNat * 512))) 512 0 1) (512 - 0) (512 - 0)) H2 fun (r_1 : Sl) H3 => R (r_1, (0 : Int)) H3

theorem disk_Disk_Read.of {d : Option Addr} {name : ByteArray} {page : Int} {H : Heap} {R : (Sl × Int) → Heap → Prop} (hvc : disk_Disk_Read.vc d name page H R) : disk_Disk_Read.sp d name page H R :=
  specT_of_vc prog_ng prog_mixed (c := (cTup [cSl, (cInt .i64)])) (A := [(100007, [])]) (args := [(.pointer d), (.string name), (.int .i64 page)]) (Eq.mpr (by kernel_rfl : vcFT (cTup [cSl, (cInt .i64)]) Tryd.prog disk_Disk_Read.no [(100007, [])] [(.pointer d), (.string name), (.int .i64 page)] H R = disk_Disk_Read.vc d name page H R) hvc)

/-- fathom/page.Open -/
def page_Open.vc (b : Sl) (H : Heap) (R : (Int × Sl × Int) → Heap → Prop) : Prop :=
  br ((b.n : Int) != (512 : Int)) (R ((0 : Int), (Sl.mk none 0 0), (2 : Int)) H) ((0 ≤ (4 : Int) ∧ (4 : Int) ≤ (b.n : Int)) ∧ page_Sum.sp (Sl.mk (slA b.a b.c ((4 : Int).toNat) 1) (b.n - ((4 : Int).toNat)) (b.c - ((4 : Int).toNat))) H fun (n : Int) H1 => LoopVC Int (0 : Int) H1 fun next z H2 => br (decide (z < (4 : Int))) (optK b.a fun a => (0 ≤ z ∧ z < (b.n : Int)) ∧ ld (cInt .u8) H2 (a.add (z.toNat * 1)) fun (x : Int) => 0 ≤ (IntKind.i64.wrap ((8 : Int) * z)) ∧ br (x != (IntKind.u8.wrap (ishr .u32 n (IntKind.i64.wrap ((8 : Int) * z))))) (R ((0 : Int), (Sl.mk none 0 0), (20 : Int)) H2) (next (IntKind.i64.wrap (z + (1 : Int))) H2)) (optK b.a fun a_1 => (0 ≤ (4 : Int) ∧ (4 : Int) < (b.n : Int)) ∧ ld (cInt .u8) H2 (a_1.add ((4 : Int).toNat * 1)) fun (x_1 : Int) => optK b.a fun a_2 => (0 ≤ (5 : Int) ∧ (5 : Int) < (b.n : Int)) ∧ ld (cInt .u8) H2 (a_2.add ((5 : Int).toNat * 1)) fun (x_2 : Int) => br (decide ((ior .i64 (IntKind.i64.wrap x_1) (ishl .i64 (IntKind.i64.wrap x_2) (8 : Int))) > (504 : Int))) (R ((0 : Int), (Sl.mk none 0 0), (20 : Int)) H2) (optK b.a fun a_3 => (0 ≤ (7 : Int) ∧ (7 : Int) < (b.n : Int)) ∧ ld (cInt .u8) H2 (a_3.add ((7 : Int).toNat * 1)) fun (x_3 : Int) => br (x_3 != (157 : Int)) (R ((0 : Int), (Sl.mk none 0 0), (20 : Int)) H2) ((0 ≤ (IntKind.i64.wrap ((8 : Int) + (ior .i64 (IntKind.i64.wrap x_1) (ishl .i64 (IntKind.i64.wrap x_2) (8 : Int))))) ∧ (IntKind.i64.wrap ((8 : Int) + (ior .i64 (IntKind.i64.wrap x_1) (ishl .i64 (IntKind.i64.wrap x_2) (8 : Int))))) ≤ (b.n : Int)) ∧ slices_ContainsFunc_sl_byte_byte.sp (Sl.mk (slA b.a b.c ((IntKind.i64.wrap ((8 : Int) + (ior .i64 (IntKind.i64.wrap x_1) (ishl .i64 (IntKind.i64.wrap x_2) (8 : Int))))).toNat) 1) (b.n - ((IntKind.i64.wrap ((8 : Int) + (ior .i64 (IntKind.i64.wrap x_1) (ishl .i64 (IntKind.i64.wrap x_2) (8 : Int))))).toNat)) (b.c - ((IntKind.i64.wrap ((8 : Int) + (ior .i64 (IntKind.i64.wrap x_1) (ishl .i64 (IntKind.i64.wrap x_2) (8 : Int))))).toNat))) H2 fun (r : Bool) H3 => br r (R ((0 : Int), (Sl.mk none 0 0), (20 : Int)) H3) (∃ G : Heap → Prop, G H3 ∧ optK b.a fun a_4 => (0 ≤ (6 : Int) ∧ (6 : Int) < (b.n : Int)) ∧ ldC (cInt .u8) G (a_4.add ((6 : Int).toNat * 1)) fun (x_4 : Int) => (0 ≤ (IntKind.i64.wrap ((8 : Int) + (ior .i64 (IntKind.i64.wrap x_1) (ishl .i64 (IntKind.i64.wrap x_2) (8 : Int))))) ∧ (IntKind.i64.wrap ((8 : Int) + (ior .i64 (IntKind.i64.wrap x_1) (ishl .i64 (IntKind.i64.wrap x_2) (8 : Int))))) ≤ (b.c : Int)) ∧ (0 ≤ (8 : Int) ∧ (8 : Int) ≤ (IntKind.i64.wrap ((8 : Int) + (ior .i64 (IntKind.i64.wrap x_1) (ishl .i64 (IntKind.i64.wrap x_2) (8 : Int)))))) ∧ slices_Clone_sl_byte_byte.sp (Sl.mk (slA b.a b.c ((8 : Int).toNat) 1) (((IntKind.i64.wrap ((8 : Int) + (ior .i64 (IntKind.i64.wrap x_1) (ishl .i64 (IntKind.i64.wrap x_2) (8 : Int))))).toNat) - ((8 : Int).toNat)) (b.c - ((8 : Int).toNat))) H3 fun (r_1 : Sl) H4 => G H4 ∧ R (x_4, r_1, (0 : Int)) H4)))))

theorem page_Open.of {b : Sl} {H : Heap} {R : (Int × Sl × Int) → Heap → Prop} (hvc : page_Open.vc b H R) : page_Open.sp b H R :=
  specT_of_vc prog_ng prog_mixed (c := (cTup [(cInt .u8), cSl, (cInt .i64)])) (A := [(5, [(14, (cInt .i64))])]) (args := [b.v]) (Eq.mpr (by kernel_rfl : vcFT (cTup [(cInt .u8), cSl, (cInt .i64)]) Tryd.prog page_Open.no [(5, [(14, (cInt .i64))])] [b.v] H R = page_Open.vc b H R) hvc)

/-- (*fathom/disk.Disk).ready -/
def disk_Disk_ready.vc (d : Option Addr) (H : Heap) (R : Int → Heap → Prop) : Prop :=
  br d.isNone (R (1 : Int) H) (optK d fun a => ld cBool H (a.add 9) fun (x : Bool) => br x (R (4 : Int) H) (R (0 : Int) H))

theorem disk_Disk_ready.of {d : Option Addr} {H : Heap} {R : Int → Heap → Prop} (hvc : disk_Disk_ready.vc d H R) : disk_Disk_ready.sp d H R :=
  specT_of_vc prog_ng prog_mixed (c := (cInt .i64)) (A := []) (args := [(.pointer d)]) (Eq.mpr (by kernel_rfl : vcFT (cInt .i64) Tryd.prog disk_Disk_ready.no [] [(.pointer d)] H R = disk_Disk_ready.vc d H R) hvc)

/-- fathom/disk.named -/
def disk_named.vc (s : ByteArray) (H : Heap) (R : Bool → Heap → Prop) : Prop :=
  R ((!(s.toList == ByteArray.empty.toList)) && (decide ((s.size : Int) ≤ (100 : Int)))) H

theorem disk_named.of {s : ByteArray} {H : Heap} {R : Bool → Heap → Prop} (hvc : disk_named.vc s H R) : disk_named.sp s H R :=
  specT_of_vc prog_ng prog_mixed (c := cBool) (A := []) (args := [(.string s)]) (Eq.mpr (by kernel_rfl : vcFT cBool Tryd.prog disk_named.no [] [(.string s)] H R = disk_named.vc s H R) hvc)

/-- (*fathom/disk.Disk).change -/
def disk_Disk_change.vc (d : Option Addr) (H : Heap) (R : Int → Heap → Prop) : Prop :=
  optK d fun a => ld cBool H ((a.add 6).add 0) fun (x : Bool) => br x (optK d fun a_1 => ld (cInt .i64) H ((a_1.add 6).add 1) fun (x_1 : Int) => br (x_1 == (0 : Int)) (optK d fun a_2 => st H (a_2.add 9) (.bool true) fun H1 => R (4 : Int) H1) (optK d fun a_3 => ld (cInt .i64) H ((a_3.add 6).add 1) fun (x_2 : Int) => optK d fun a_4 => st H ((a_4.add 6).add 1) (.int .i64 (IntKind.i64.wrap (x_2 - (1 : Int)))) fun H2 => optK d fun a_5 => ld (cInt .i64) H2 (a_5.add 4) fun (x_3 : Int) => optK d fun a_6 => st H2 (a_6.add 4) (.int .i64 (IntKind.i64.wrap (x_3 + (1 : Int)))) fun H3 => R (0 : Int) H3)) (optK d fun a_7 => ld (cInt .i64) H (a_7.add 4) fun (x_4 : Int) => optK d fun a_8 => st H (a_8.add 4) (.int .i64 (IntKind.i64.wrap (x_4 + (1 : Int)))) fun H4 => R (0 : Int) H4)

theorem disk_Disk_change.of {d : Option Addr} {H : Heap} {R : Int → Heap → Prop} (hvc : disk_Disk_change.vc d H R) : disk_Disk_change.sp d H R :=
  specT_of_vc prog_ng prog_mixed (c := (cInt .i64)) (A := []) (args := [(.pointer d)]) (Eq.mpr (by kernel_rfl : vcFT (cInt .i64) Tryd.prog disk_Disk_change.no [] [(.pointer d)] H R = disk_Disk_change.vc d H R) hvc)

/-- (*fathom/pool.Pool).ready -/
def pool_Pool_ready.vc (p : Option Addr) (H : Heap) (R : Int → Heap → Prop) : Prop :=
  br p.isNone (R (1 : Int) H) (optK p fun a => ld (cInt .i64) H (a.add 7) fun (x : Int) => R x H)

theorem pool_Pool_ready.of {p : Option Addr} {H : Heap} {R : Int → Heap → Prop} (hvc : pool_Pool_ready.vc p H R) : pool_Pool_ready.sp p H R :=
  specT_of_vc prog_ng prog_mixed (c := (cInt .i64)) (A := []) (args := [(.pointer p)]) (Eq.mpr (by kernel_rfl : vcFT (cInt .i64) Tryd.prog pool_Pool_ready.no [] [(.pointer p)] H R = pool_Pool_ready.vc p H R) hvc)

/-- (*fathom/pool.Pool).room -/
def pool_Pool_room.vc (p : Option Addr) (H : Heap) (R : Int → Heap → Prop) : Prop :=
  optK p fun a => ld cMap H (a.add 2) fun (x : Option Nat) => lenM H x fun (n : Nat) => optK p fun a_1 => ld (cInt .i64) H (a_1.add 1) fun (x_1 : Int) => br (decide ((n : Int) < x_1)) (R (0 : Int) H) (pool_Pool_first.sp p H fun (f : Option Addr) H1 => br f.isNone (R (31 : Int) H1) (optK f fun a_2 => ld cBool H1 (a_2.add 4) fun (x_2 : Bool) => br x_2 (pool_Pool_write.sp p f H1 fun (e : Int) H2 => br (e != (0 : Int)) (R e H2) (optK p fun a_3 => ld cMap H2 (a_3.add 2) fun (x_3 : Option Nat) => optK f fun a_4 => ldA (cAgg [cStr, (cInt .i64)]) 2 H2 (a_4.add 0) fun (x_4 : (ByteArray × Int)) => doT cRaw Tryd.prog (Builtin.delete_ #[ty_maparr_pool_spot_ptr_pool_frame, ty_pool_spot] ty_ #[(.map x_3), (.agg #[(.string x_4.1), (.int .i64 x_4.2)])]) H2 fun (_ : Value) H3 => R (0 : Int) H3)) (optK p fun a_5 => ld cMap H1 (a_5.add 2) fun (x_5 : Option Nat) => optK f fun a_6 => ldA (cAgg [cStr, (cInt .i64)]) 2 H1 (a_6.add 0) fun (x_6 : (ByteArray × Int)) => doT cRaw Tryd.prog (Builtin.delete_ #[ty_maparr_pool_spot_ptr_pool_frame, ty_pool_spot] ty_ #[(.map x_5), (.agg #[(.string x_6.1), (.int .i64 x_6.2)])]) H1 fun (_ : Value) H4 => R (0 : Int) H4)))

theorem pool_Pool_room.of {p : Option Addr} {H : Heap} {R : Int → Heap → Prop} (hvc : pool_Pool_room.vc p H R) : pool_Pool_room.sp p H R :=
  specT_of_vc prog_ng prog_mixed (c := (cInt .i64)) (A := []) (args := [(.pointer p)]) (Eq.mpr (by kernel_rfl : vcFT (cInt .i64) Tryd.prog pool_Pool_room.no [] [(.pointer p)] H R = pool_Pool_room.vc p H R) hvc)

/-- (*fathom/pool.Pool).write -/
def pool_Pool_write.vc (p : Option Addr) (f : Option Addr) (H : Heap) (R : Int → Heap → Prop) : Prop :=
  optK f fun a => ld (cInt .u8) H (a.add 2) fun (x : Int) => optK f fun a_1 => ld cSl H (a_1.add 3) fun (x_1 : Sl) => page_Seal.sp x x_1 H fun (r : (Sl × Int)) H1 => br (r.2 != (0 : Int)) (R r.2 H1) (optK p fun a_2 => ld cPtr H1 (a_2.add 0) fun (x_2 : Option Addr) => optK f fun a_3 => ld cStr H1 ((a_3.add 0).add 0) fun (x_3 : ByteArray) => optK f fun a_4 => ld (cInt .i64) H1 ((a_4.add 0).add 1) fun (x_4 : Int) => disk_Disk_Write.sp x_2 x_3 x_4 r.1 H1 fun (e : Int) H2 => br (e == (0 : Int)) (optK f fun a_5 => st H2 (a_5.add 4) (.bool false) fun H3 => R e H3) (R e H2))

theorem pool_Pool_write.of {p : Option Addr} {f : Option Addr} {H : Heap} {R : Int → Heap → Prop} (hvc : pool_Pool_write.vc p f H R) : pool_Pool_write.sp p f H R :=
  specT_of_vc prog_ng prog_mixed (c := (cInt .i64)) (A := []) (args := [(.pointer p), (.pointer f)]) (Eq.mpr (by kernel_rfl : vcFT (cInt .i64) Tryd.prog pool_Pool_write.no [] [(.pointer p), (.pointer f)] H R = pool_Pool_write.vc p f H R) hvc)

/-- (*fathom/pool.Pool).met -/
def pool_Pool_met.vc (p : Option Addr) (e : Int) (H : Heap) (R : Int → Heap → Prop) : Prop :=
  br (e == (4 : Int)) (br (e == (4 : Int)) (optK p fun a => st H (a.add 7) (.int .i64 e) fun H1 => R e H1) (R e H)) (br (e == (5 : Int)) (br (e == (5 : Int)) (optK p fun a_1 => st H (a_1.add 7) (.int .i64 e) fun H2 => R e H2) (R e H)) (br (e == (20 : Int)) (optK p fun a_2 => st H (a_2.add 7) (.int .i64 e) fun H3 => R e H3) (R e H)))

theorem pool_Pool_met.of {p : Option Addr} {e : Int} {H : Heap} {R : Int → Heap → Prop} (hvc : pool_Pool_met.vc p e H R) : pool_Pool_met.sp p e H R :=
  specT_of_vc prog_ng prog_mixed (c := (cInt .i64)) (A := []) (args := [(.pointer p), (.int .i64 e)]) (Eq.mpr (by kernel_rfl : vcFT (cInt .i64) Tryd.prog pool_Pool_met.no [] [(.pointer p), (.int .i64 e)] H R = pool_Pool_met.vc p e H R) hvc)

/-- (*fathom/pool.Pool).take -/
def pool_Pool_take.vc (p : Option Addr) (f : Option Addr) (H : Heap) (R : Int → Heap → Prop) : Prop :=
  optK p fun a => ld cMap H (a.add 2) fun (x : Option Nat) => optK f fun a_1 => ldA (cAgg [cStr, (cInt .i64)]) 2 H (a_1.add 0) fun (x_1 : (ByteArray × Int)) => doU Tryd.prog (Instr.mapUpdate ty_maparr_pool_spot_ptr_pool_frame (.map x) (.agg #[(.string x_1.1), (.int .i64 x_1.2)]) (.pointer f)) H fun H1 => optK p fun a_2 => ld (cInt .i64) H1 (a_2.add 6) fun (x_2 : Int) => optK p fun a_3 => ld cMap H1 (a_3.add 2) fun (x_3 : Option Nat) => lenM H1 x_3 fun (n : Nat) => optK p fun a_4 => st H1 (a_4.add 6) (.int .i64 (if (n : Int) > x_2 then (n : Int) else x_2)) fun H2 => pool_Pool_pin.sp p f H2 fun (r : Int) H3 => R r H3

theorem pool_Pool_take.of {p : Option Addr} {f : Option Addr} {H : Heap} {R : Int → Heap → Prop} (hvc : pool_Pool_take.vc p f H R) : pool_Pool_take.sp p f H R :=
  specT_of_vc prog_ng prog_mixed (c := (cInt .i64)) (A := []) (args := [(.pointer p), (.pointer f)]) (Eq.mpr (by kernel_rfl : vcFT (cInt .i64) Tryd.prog pool_Pool_take.no [] [(.pointer p), (.pointer f)] H R = pool_Pool_take.vc p f H R) hvc)

/-- (*fathom/pool.Pool).held -/
def pool_Pool_held.vc (p : Option Addr) (h : Int) (H : Heap) (R : (Option Addr × Int) → Heap → Prop) : Prop :=
  pool_Pool_ready.sp p H fun (e : Int) H1 => br (e != (0 : Int)) (R (none, e) H1) (optK p fun a => ld cMap H1 (a.add 3) fun (x : Option Nat) => rdV (cTup [cPtr, cBool]) Tryd.prog (Instr.lookup ty_maparr_int_ptr_pool_frame (.map x) (.int .i64 h) true) H1 fun (x_1 : (Option Addr × Bool)) => br x_1.2 (R (x_1.1, (0 : Int)) H1) (R (none, (32 : Int)) H1))

theorem pool_Pool_held.of {p : Option Addr} {h : Int} {H : Heap} {R : (Option Addr × Int) → Heap → Prop} (hvc : pool_Pool_held.vc p h H R) : pool_Pool_held.sp p h H R :=
  specT_of_vc prog_ng prog_mixed (c := (cTup [cPtr, (cInt .i64)])) (A := []) (args := [(.pointer p), (.int .i64 h)]) (Eq.mpr (by kernel_rfl : vcFT (cTup [cPtr, (cInt .i64)]) Tryd.prog pool_Pool_held.no [] [(.pointer p), (.int .i64 h)] H R = pool_Pool_held.vc p h H R) hvc)

/-- slices.Clone[[]byte,byte] -/
def slices_Clone_sl_byte_byte.vc (s : Sl) (H : Heap) (R : Sl → Heap → Prop) : Prop :=
  br s.a.isNone (R (Sl.mk none 0 0) H) (newC H #[] ty_uint8 fun p H1 => doT cSl Tryd.prog (Builtin.append_ #[ty_sl_uint8, ty_sl_uint8] ty_sl_uint8 #[(.slice (some p) 0 0), s.v]) H1 fun (s_1 : Sl) H2 => R s_1 H2)

theorem slices_Clone_sl_byte_byte.of {s : Sl} {H : Heap} {R : Sl → Heap → Prop} (hvc : slices_Clone_sl_byte_byte.vc s H R) : slices_Clone_sl_byte_byte.sp s H R :=
  specT_of_vc prog_ng prog_mixed (c := cSl) (A := []) (args := [s.v]) (Eq.mpr (by kernel_rfl : vcFT cSl Tryd.prog slices_Clone_sl_byte_byte.no [] [s.v] H R = slices_Clone_sl_byte_byte.vc s H R) hvc)

/-- (*fathom/disk.Disk).open -/
def disk_Disk_open.vc (d : Option Addr) (name : ByteArray) (H : Heap) (R : (Option Addr × Int) → Heap → Prop) : Prop :=
  disk_Disk_ready.sp d H fun (e : Int) H1 => br (e != (0 : Int)) (R (none, e) H1) (optK d fun a => ld cMap H1 (a.add 0) fun (x : Option Nat) => rdV (cTup [cPtr, cBool]) Tryd.prog (Instr.lookup ty_maparr_string_ptr_disk_file (.map x) (.string name) true) H1 fun (x_1 : (Option Addr × Bool)) => br x_1.2 (R (x_1.1, (0 : Int)) H1) (R (none, (11 : Int)) H1))

theorem disk_Disk_open.of {d : Option Addr} {name : ByteArray} {H : Heap} {R : (Option Addr × Int) → Heap → Prop} (hvc : disk_Disk_open.vc d name H R) : disk_Disk_open.sp d name H R :=
  specT_of_vc prog_ng prog_mixed (c := (cTup [cPtr, (cInt .i64)])) (A := []) (args := [(.pointer d), (.string name)]) (Eq.mpr (by kernel_rfl : vcFT (cTup [cPtr, (cInt .i64)]) Tryd.prog disk_Disk_open.no [] [(.pointer d), (.string name)] H R = disk_Disk_open.vc d name H R) hvc)

/-- (*fathom/pool.Pool).pin -/
def pool_Pool_pin.vc (p : Option Addr) (f : Option Addr) (H : Heap) (R : Int → Heap → Prop) : Prop :=
  optK f fun a => ld (cInt .i64) H (a.add 5) fun (x : Int) => optK f fun a_1 => st H (a_1.add 5) (.int .i64 (IntKind.i64.wrap (x + (1 : Int)))) fun H1 => optK p fun a_2 => ld cMap H1 (a_2.add 3) fun (x_1 : Option Nat) => optK p fun a_3 => ld (cInt .i64) H1 (a_3.add 4) fun (x_2 : Int) => doU Tryd.prog (Instr.mapUpdate ty_maparr_int_ptr_pool_frame (.map x_1) (.int .i64 x_2) (.pointer f)) H1 fun H2 => optK p fun a_4 => ld (cInt .i64) H2 (a_4.add 4) fun (x_3 : Int) => optK p fun a_5 => st H2 (a_5.add 4) (.int .i64 (IntKind.i64.wrap (x_3 + (1 : Int)))) fun H3 => optK p fun a_6 => ld (cInt .i64) H3 (a_6.add 4) fun (x_4 : Int) => R (IntKind.i64.wrap (x_4 - (1 : Int))) H3

theorem pool_Pool_pin.of {p : Option Addr} {f : Option Addr} {H : Heap} {R : Int → Heap → Prop} (hvc : pool_Pool_pin.vc p f H R) : pool_Pool_pin.sp p f H R :=
  specT_of_vc prog_ng prog_mixed (c := (cInt .i64)) (A := []) (args := [(.pointer p), (.pointer f)]) (Eq.mpr (by kernel_rfl : vcFT (cInt .i64) Tryd.prog pool_Pool_pin.no [] [(.pointer p), (.pointer f)] H R = pool_Pool_pin.vc p f H R) hvc)

/-- (*fathom/pool.Pool).load -/
def pool_Pool_load.vc (p : Option Addr) (at_ : ByteArray) (at_1 : Int) (H : Heap) (R : (Option Addr × Int) → Heap → Prop) : Prop :=
  newC H #[(.string at_), (.int .i64 at_1)] ty_pool_spot fun p_1 H1 => optK p fun a => ld cPtr H1 (a.add 0) fun (x : Option Addr) => ld cStr H1 (p_1.add 0) fun (x_1 : ByteArray) => disk_Disk_Len.sp x x_1 H1 fun (r : (Int × Int)) H2 => br (r.2 != (0 : Int)) (R (none, r.2) H2) (ld (cInt .i64) H2 (p_1.add 1) fun (x_2 : Int) => br (decide (x_2 < (0 : Int))) (R (none, (12 : Int)) H2) (ld (cInt .i64) H2 (p_1.add 1) fun (x_3 : Int) => br (decide (x_3 ≥ r.1)) (R (none, (12 : Int)) H2) (pool_Pool_room.sp p H2 fun (e : Int) H3 => br (e != (0 : Int)) (R (none, e) H3) (optK p fun a_1 => ld cPtr H3 (a_1.add 0) fun (x_4 : Option Addr) => ld cStr H3 (p_1.add 0) fun (x_5 : ByteArray) => ld (cInt .i64) H3 (p_1.add 1) fun (x_6 : Int) => disk_Disk_Read.sp x_4 x_5 x_6 H3 fun (r_1 : (Sl × Int)) H4 => br (r_1.2 != (0 : Int)) (R (none, r_1.2) H4) (ldA (cAgg [cStr, (cInt .i64)]) 2 H4 p_1 fun (x_7 : (ByteArray × Int)) => newC H4 #[(.string x_7.1), (.int .i64 x_7.2), (.int .u8 (0 : Int)), (.slice none 0 0), (.bool false), (.int .i64 (0 : Int)), (.int .i64 (0 : Int))] ty_pool_frame fun f_p H5 => page_Open.sp r_1.1 H5 fun (r_2 : (Int × Sl × Int)) H6 => st H6 (f_p.add 2) (.int .u8 r_2.1) fun H7 => st H7 (f_p.add 3) r_2.2.1.v fun H8 => R (some f_p, r_2.2.2) H8)))))

theorem pool_Pool_load.of {p : Option Addr} {at_ : ByteArray} {at_1 : Int} {H : Heap} {R : (Option Addr × Int) → Heap → Prop} (hvc : pool_Pool_load.vc p at_ at_1 H R) : pool_Pool_load.sp p at_ at_1 H R :=
  specT_of_vc prog_ng prog_mixed (c := (cTup [cPtr, (cInt .i64)])) (A := []) (args := [(.pointer p), (.agg #[(.string at_), (.int .i64 at_1)])]) (Eq.mpr (by kernel_rfl : vcFT (cTup [cPtr, (cInt .i64)]) Tryd.prog pool_Pool_load.no [] [(.pointer p), (.agg #[(.string at_), (.int .i64 at_1)])] H R = pool_Pool_load.vc p at_ at_1 H R) hvc)

/-- (*fathom/pool.Pool).of -/
def pool_Pool_of.vc (p : Option Addr) (name : ByteArray) (H : Heap) (R : Sl → Heap → Prop) : Prop :=
  newC H #[(.string name)] ty_string fun p_1 H1 => optK p fun a => ld cMap H1 (a.add 2) fun (x : Option Nat) => maps_Values_map_pool_spot_ptr_pool_frame_pool_spot_ptr_pool_frame.sp x H1 fun (r : Value) H2 => slices_Collect_ptr_pool_frame.sp r H2 fun (r_1 : Sl) H3 => slices_DeleteFunc_sl_ptr_pool_frame_ptr_pool_frame.sp r_1 p_1 H3 fun (l : Sl) H4 => slices_SortFunc_sl_ptr_pool_frame_ptr_pool_frame.sp l (.func (.func pool_Pool_of_c2.no) #[] #[]) H4 fun (_ : Unit) H5 => R l H5

theorem pool_Pool_of.of {p : Option Addr} {name : ByteArray} {H : Heap} {R : Sl → Heap → Prop} (hvc : pool_Pool_of.vc p name H R) : pool_Pool_of.sp p name H R :=
  specT_of_vc prog_ng prog_mixed (c := cSl) (A := []) (args := [(.pointer p), (.string name)]) (Eq.mpr (by kernel_rfl : vcFT cSl Tryd.prog pool_Pool_of.no [] [(.pointer p), (.string name)] H R = pool_Pool_of.vc p name H R) hvc)

/-- slices.ContainsFunc[[]*fathom/pool.frame,*fathom/pool.frame] -/
def slices_ContainsFunc_sl_ptr_pool_frame_ptr_pool_frame.vc (s : Sl) (H : Heap) (R : Bool → Heap → Prop) : Prop :=
  slices_IndexFunc_sl_ptr_pool_frame_ptr_pool_frame.sp s H fun (r : Int) H1 => R (decide (r ≥ (0 : Int))) H1

theorem slices_ContainsFunc_sl_ptr_pool_frame_ptr_pool_frame.of {s : Sl} {H : Heap} {R : Bool → Heap → Prop} (hvc : slices_ContainsFunc_sl_ptr_pool_frame_ptr_pool_frame.vc s H R) : slices_ContainsFunc_sl_ptr_pool_frame_ptr_pool_frame.sp s H R :=
  specT_of_vc prog_ng prog_mixed (c := cBool) (A := []) (args := [s.v, (.func (.func pool_Pool_Drop_c1.no) #[] #[])]) (Eq.mpr (by kernel_rfl : vcFT cBool Tryd.prog slices_ContainsFunc_sl_ptr_pool_frame_ptr_pool_frame.no [] [s.v, (.func (.func pool_Pool_Drop_c1.no) #[] #[])] H R = slices_ContainsFunc_sl_ptr_pool_frame_ptr_pool_frame.vc s H R) hvc)

/-- (*fathom/pool.Pool).Drop$1 -/
def pool_Pool_Drop_c1.vc (f : Option Addr) (H : Heap) (R : Bool → Heap → Prop) : Prop :=
  optK f fun a => ld (cInt .i64) H (a.add 5) fun (x : Int) => R (decide (x > (0 : Int))) H

theorem pool_Pool_Drop_c1.of {f : Option Addr} {H : Heap} {R : Bool → Heap → Prop} (hvc : pool_Pool_Drop_c1.vc f H R) : pool_Pool_Drop_c1.sp f H R :=
  specT_of_vc prog_ng prog_mixed (c := cBool) (A := []) (args := [(.pointer f)]) (Eq.mpr (by kernel_rfl : vcFT cBool Tryd.prog pool_Pool_Drop_c1.no [] [(.pointer f)] H R = pool_Pool_Drop_c1.vc f H R) hvc)

/-- (*fathom/disk.Disk).Sync -/
def disk_Disk_Sync.vc (d : Option Addr) (name : ByteArray) (H : Heap) (R : Int → Heap → Prop) : Prop :=
  disk_Disk_open.sp d name H fun (r : (Option Addr × Int)) H1 => br (r.2 != (0 : Int)) (R r.2 H1) (disk_Disk_change.sp d H1 fun (e : Int) H2 => br (e == (0 : Int)) (optK r.1 fun a => ld cSl H2 (a.add 0) fun (x : Sl) => slices_Clone_sl_disk_sheet_disk_sheet.sp x H2 fun (r_1 : Sl) H3 => optK r.1 fun a_1 => st H3 (a_1.add 1) r_1.v fun H4 => optK r.1 fun a_2 => st H4 (a_2.add 2) (.slice none 0 0) fun H5 => R e H5) (R e H2))

theorem disk_Disk_Sync.of {d : Option Addr} {name : ByteArray} {H : Heap} {R : Int → Heap → Prop} (hvc : disk_Disk_Sync.vc d name H R) : disk_Disk_Sync.sp d name H R :=
  specT_of_vc prog_ng prog_mixed (c := (cInt .i64)) (A := []) (args := [(.pointer d), (.string name)]) (Eq.mpr (by kernel_rfl : vcFT (cInt .i64) Tryd.prog disk_Disk_Sync.no [] [(.pointer d), (.string name)] H R = disk_Disk_Sync.vc d name H R) hvc)

/-- (*fathom/disk.Disk).drop -/
def disk_Disk_drop.vc (d : Option Addr) (name : ByteArray) (H : Heap) (R : Unit → Heap → Prop) : Prop :=
  optK d fun a => ld cMap H (a.add 0) fun (x : Option Nat) => rdV (cTup [cPtr, cBool]) Tryd.prog (Instr.lookup ty_maparr_string_ptr_disk_file (.map x) (.string name) true) H fun (x_1 : (Option Addr × Bool)) => br x_1.2 (optK d fun a_1 => ld (cInt .i64) H (a_1.add 1) fun (x_2 : Int) => optK x_1.1 fun a_2 => ld cSl H (a_2.add 0) fun (x_3 : Sl) => optK d fun a_3 => st H (a_3.add 1) (.int .i64 (IntKind.i64.wrap (x_2 - (x_3.n : Int)))) fun H1 => optK d fun a_4 => ld cMap H1 (a_4.add 0) fun (x_4 : Option Nat) => doT cRaw Tryd.prog (Builtin.delete_ #[ty_maparr_string_ptr_disk_file, ty_string] ty_ #[(.map x_4), (.string name)]) H1 fun (_ : Value) H2 => R () H2) (R () H)

theorem disk_Disk_drop.of {d : Option Addr} {name : ByteArray} {H : Heap} {R : Unit → Heap → Prop} (hvc : disk_Disk_drop.vc d name H R) : disk_Disk_drop.sp d name H R :=
  specT_of_vc prog_ng prog_mixed (c := (cTup [])) (A := []) (args := [(.pointer d), (.string name)]) (Eq.mpr (by kernel_rfl : vcFT (cTup []) Tryd.prog disk_Disk_drop.no [] [(.pointer d), (.string name)] H R = disk_Disk_drop.vc d name H R) hvc)

/-- slices.Clone[[]fathom/disk.sheet,fathom/disk.sheet] -/
def slices_Clone_sl_disk_sheet_disk_sheet.vc (s : Sl) (H : Heap) (R : Sl → Heap → Prop) : Prop :=
  br s.a.isNone (R (Sl.mk none 0 0) H) (doT cSl Tryd.prog (Instr.buildSlice ty_sl_disk_sheet 0 #[]) H fun (sl : Sl) H1 => doT cSl Tryd.prog (Builtin.append_ #[ty_sl_disk_sheet, ty_sl_disk_sheet] ty_sl_disk_sheet #[sl.v, s.v]) H1 fun (s_1 : Sl) H2 => R s_1 H2)

theorem slices_Clone_sl_disk_sheet_disk_sheet.of {s : Sl} {H : Heap} {R : Sl → Heap → Prop} (hvc : slices_Clone_sl_disk_sheet_disk_sheet.vc s H R) : slices_Clone_sl_disk_sheet_disk_sheet.sp s H R :=
  specT_of_vc prog_ng prog_mixed (c := cSl) (A := []) (args := [s.v]) (Eq.mpr (by kernel_rfl : vcFT cSl Tryd.prog slices_Clone_sl_disk_sheet_disk_sheet.no [] [s.v] H R = slices_Clone_sl_disk_sheet_disk_sheet.vc s H R) hvc)

/-- slices.BinarySearch[[]int,int] -/
def slices_BinarySearch_sl_int_int.vc (x : Sl) (target : Int) (H : Heap) (R : (Int × Bool) → Heap → Prop) : Prop :=
  LoopVC (Int × Int) ((0 : Int), (x.n : Int)) H fun next z H1 => br (decide (z.1 < z.2)) (optK x.a fun a => (0 ≤ (IntKind.i64.wrap (ishr .u64 (IntKind.u64.wrap (IntKind.i64.wrap (z.1 + z.2))) (1 : Int))) ∧ (IntKind.i64.wrap (ishr .u64 (IntKind.u64.wrap (IntKind.i64.wrap (z.1 + z.2))) (1 : Int))) < (x.n : Int)) ∧ ld (cInt .i64) H1 (a.add ((IntKind.i64.wrap (ishr .u64 (IntKind.u64.wrap (IntKind.i64.wrap (z.1 + z.2))) (1 : Int))).toNat * 1)) fun (x_1 : Int) => cmp_Less_int.sp x_1 target H1 fun (r : Bool) H2 => br r (next (IntKind.i64.wrap ((IntKind.i64.wrap (ishr .u64 (IntKind.u64.wrap (IntKind.i64.wrap (z.1 + z.2))) (1 : Int))) + (1 : Int)), z.2) H2) (next (z.1, IntKind.i64.wrap (ishr .u64 (IntKind.u64.wrap (IntKind.i64.wrap (z.1 + z.2))) (1 : Int))) H2)) (br (decide (z.1 < (x.n : Int))) (optK x.a fun a_1 => (0 ≤ z.1 ∧ z.1 < (x.n : Int)) ∧ ld (cInt .i64) H1 (a_1.add (z.1.toNat * 1)) fun (x_2 : Int) => br (x_2 == target) (R (z.1, true) H1) (optK x.a fun a_2 => (0 ≤ z.1 ∧ z.1 < (x.n : Int)) ∧ ld (cInt .i64) H1 (a_2.add (z.1.toNat * 1)) fun (x_3 : Int) => slices_isNaN_int.sp x_3 H1 fun (r_1 : Bool) H3 => br r_1 (slices_isNaN_int.sp target H3 fun (r_2 : Bool) H4 => R (z.1, r_2) H4) (R (z.1, false) H3))) (R (z.1, false) H1))

theorem slices_BinarySearch_sl_int_int.of {x : Sl} {target : Int} {H : Heap} {R : (Int × Bool) → Heap → Prop} (hvc : slices_BinarySearch_sl_int_int.vc x target H R) : slices_BinarySearch_sl_int_int.sp x target H R :=
  specT_of_vc prog_ng prog_mixed (c := (cTup [(cInt .i64), cBool])) (A := [(3, [(7, (cInt .i64)), (8, (cInt .i64))])]) (args := [x.v, (.int .i64 target)]) (Eq.mpr (by kernel_rfl : vcFT (cTup [(cInt .i64), cBool]) Tryd.prog slices_BinarySearch_sl_int_int.no [(3, [(7, (cInt .i64)), (8, (cInt .i64))])] [x.v, (.int .i64 target)] H R = slices_BinarySearch_sl_int_int.vc x target H R) hvc)

/-- fathom/disk.put -/
def disk_put.vc (l : Sl) (page : Int) (b : Array Value) (H : Heap) (R : Sl → Heap → Prop) : Prop :=
  newC H b ty_disk_sheet fun p H1 => LoopVC Sl l H1 fun next l_1 H2 => br (decide ((l_1.n : Int) ≤ page)) (doT cSl Tryd.prog (Instr.buildSlice ty_sl_disk_sheet 1 #[(0, (.agg (zc Tryd.prog ty_disk_sheet)))]) H2 fun (sl : Sl) H3 => doT cSl Tryd.prog (Builtin.append_ #[ty_sl_disk_sheet, ty_sl_disk_sheet] ty_sl_disk_sheet #[l_1.v, sl.v]) H3 fun (l_2 : Sl) H4 => next l_2 H4) (ldA cArr 512 H2 p fun (x : Array Value) => optK l_1.a fun a => (0 ≤ page ∧ page < (l_1.n : Int)) ∧ doU Tryd.prog (Instr.storeAt ty_disk_sheet (.pointer (some (a.add (page.toNat * 512)))) (.agg x)) H2 fun H5 => R l_1 H5)

theorem disk_put.of {l : Sl} {page : Int} {b : Array Value} {H : Heap} {R : Sl → Heap → Prop} (hvc : disk_put.vc l page b H R) : disk_put.sp l page b H R :=
  specT_of_vc prog_ng prog_mixed (c := cSl) (A := [(1, [(0, cSl)])]) (args := [l.v, (.int .i64 page), (.agg b)]) (Eq.mpr (by kernel_rfl : vcFT cSl Tryd.prog disk_put.no [(1, [(0, cSl)])] [l.v, (.int .i64 page), (.agg b)] H R = disk_put.vc l page b H R) hvc)

/-- fathom/page.Sum -/
def page_Sum.vc (b : Sl) (H : Heap) (R : Int → Heap → Prop) : Prop :=
  LoopVC (Int × Int) ((4294967295 : Int), (0 : Int)) H fun next z H1 => br (decide (z.2 < (b.n : Int))) (optK b.a fun a => (0 ≤ z.2 ∧ z.2 < (b.n : Int)) ∧ ld (cInt .u8) H1 (a.add (z.2.toNat * 1)) fun (c : Int) => (0 ≤ (iand .u32 (ixor .u32 z.1 (IntKind.u32.wrap c)) (15 : Int)) ∧ (iand .u32 (ixor .u32 z.1 (IntKind.u32.wrap c)) (15 : Int)) < ((16 : Nat) : Int)) ∧ ld (cInt .u32) H1 ((Addr.mk 0 0 none).add ((iand .u32 (ixor .u32 z.1 (IntKind.u32.wrap c)) (15 : Int)).toNat * 1)) fun (x : Int) => (0 ≤ (iand .u32 (ixor .u32 (ishr .u32 (ixor .u32 z.1 (IntKind.u32.wrap c)) (4 : Int)) x) (15 : Int)) ∧ (iand .u32 (ixor .u32 (ishr .u32 (ixor .u32 z.1 (IntKind.u32.wrap c)) (4 : Int)) x) (15 : Int)) < ((16 : Nat) : Int)) ∧ ld (cInt .u32) H1 ((Addr.mk 0 0 none).add ((iand .u32 (ixor .u32 (ishr .u32 (ixor .u32 z.1 (IntKind.u32.wrap c)) (4 : Int)) x) (15 : Int)).toNat * 1)) fun (x_1 : Int) => next (ixor .u32 (ishr .u32 (ixor .u32 (ishr .u32 (ixor .u32 z.1 (IntKind.u32.wrap c)) (4 : Int)) x) (4 : Int)) x_1, IntKind.i64.wrap (z.2 + (1 : Int))) H1) (R (ixor .u32 (4294967295 : Int) z.1) H1)

theorem page_Sum.of {b : Sl} {H : Heap} {R : Int → Heap → Prop} (hvc : page_Sum.vc b H R) : page_Sum.sp b H R :=
  specT_of_vc prog_ng prog_mixed (c := (cInt .u32)) (A := [(3, [(3, (cInt .u32)), (8, (cInt .i64))])]) (args := [b.v]) (Eq.mpr (by kernel_rfl : vcFT (cInt .u32) Tryd.prog page_Sum.no [(3, [(3, (cInt .u32)), (8, (cInt .i64))])] [b.v] H R = page_Sum.vc b H R) hvc)

/-- slices.ContainsFunc[[]byte,byte] -/
def slices_ContainsFunc_sl_byte_byte.vc (s : Sl) (H : Heap) (R : Bool → Heap → Prop) : Prop :=
  slices_IndexFunc_sl_byte_byte.sp s H fun (r : Int) H1 => R (decide (r ≥ (0 : Int))) H1

theorem slices_ContainsFunc_sl_byte_byte.of {s : Sl} {H : Heap} {R : Bool → Heap → Prop} (hvc : slices_ContainsFunc_sl_byte_byte.vc s H R) : slices_ContainsFunc_sl_byte_byte.sp s H R :=
  specT_of_vc prog_ng prog_mixed (c := cBool) (A := []) (args := [s.v, (.func (.func page_Open_c1.no) #[] #[])]) (Eq.mpr (by kernel_rfl : vcFT cBool Tryd.prog slices_ContainsFunc_sl_byte_byte.no [] [s.v, (.func (.func page_Open_c1.no) #[] #[])] H R = slices_ContainsFunc_sl_byte_byte.vc s H R) hvc)

/-- fathom/page.Open$1 -/
def page_Open_c1.vc (c : Int) (H : Heap) (R : Bool → Heap → Prop) : Prop :=
  R (c != (0 : Int)) H

theorem page_Open_c1.of {c : Int} {H : Heap} {R : Bool → Heap → Prop} (hvc : page_Open_c1.vc c H R) : page_Open_c1.sp c H R :=
  specT_of_vc prog_ng prog_mixed (c := cBool) (A := []) (args := [(.int .u8 c)]) (Eq.mpr (by kernel_rfl : vcFT cBool Tryd.prog page_Open_c1.no [] [(.int .u8 c)] H R = page_Open_c1.vc c H R) hvc)

/-- (*fathom/pool.Pool).first -/
def pool_Pool_first.vc (p : Option Addr) (H : Heap) (R : Option Addr → Heap → Prop) : Prop :=
  optK p fun a => ld cMap H (a.add 2) fun (x : Option Nat) => doT cPtr Tryd.prog (Instr.range ty_maparr_pool_spot_ptr_pool_frame (.map x)) H fun (it : Option Addr) H1 => LoopVC (Option Addr) none H1 fun next best H2 => doT cNext Tryd.prog (Instr.next (.pointer it) false ty_) H2 fun (nx : Bool × List Value) H3 => br nx.1 (doT cTwo Tryd.prog (Instr.entry (.pointer it)) H3 fun (en : Value × Value) H4 => asT cPtr en.2 fun (f : Option Addr) => pool_Pool_room_c1.sp f H4 fun (r : Bool) H5 => br r (br best.isNone (next f H5) (pool_Pool_room_c2.sp f best H5 fun (r_1 : Bool) H6 => br r_1 (next f H6) (next best H6))) (next best H5)) (R best H3)

theorem pool_Pool_first.of {p : Option Addr} {H : Heap} {R : Option Addr → Heap → Prop} (hvc : pool_Pool_first.vc p H R) : pool_Pool_first.sp p H R :=
  specT_of_vc prog_ng prog_mixed (c := cPtr) (A := [(3, [(7, cPtr)])]) (args := [(.pointer p), (.func (.func pool_Pool_room_c1.no) #[] #[]), (.func (.func pool_Pool_room_c2.no) #[] #[])]) (Eq.mpr (by kernel_rfl : vcFT cPtr Tryd.prog pool_Pool_first.no [(3, [(7, cPtr)])] [(.pointer p), (.func (.func pool_Pool_room_c1.no) #[] #[]), (.func (.func pool_Pool_room_c2.no) #[] #[])] H R = pool_Pool_first.vc p H R) hvc)

/-- (*fathom/pool.Pool).room$1 -/
def pool_Pool_room_c1.vc (f : Option Addr) (H : Heap) (R : Bool → Heap → Prop) : Prop :=
  optK f fun a => ld (cInt .i64) H (a.add 5) fun (x : Int) => R (x == (0 : Int)) H

theorem pool_Pool_room_c1.of {f : Option Addr} {H : Heap} {R : Bool → Heap → Prop} (hvc : pool_Pool_room_c1.vc f H R) : pool_Pool_room_c1.sp f H R :=
  specT_of_vc prog_ng prog_mixed (c := cBool) (A := []) (args := [(.pointer f)]) (Eq.mpr (by kernel_rfl : vcFT cBool Tryd.prog pool_Pool_room_c1.no [] [(.pointer f)] H R = pool_Pool_room_c1.vc f H R) hvc)

/-- (*fathom/pool.Pool).room$2 -/
def pool_Pool_room_c2.vc (a : Option Addr) (b : Option Addr) (H : Heap) (R : Bool → Heap → Prop) : Prop :=
  optK a fun a_1 => ld (cInt .i64) H (a_1.add 6) fun (x : Int) => optK b fun a_2 => ld (cInt .i64) H (a_2.add 6) fun (x_1 : Int) => R (decide (x < x_1)) H

theorem pool_Pool_room_c2.of {a : Option Addr} {b : Option Addr} {H : Heap} {R : Bool → Heap → Prop} (hvc : pool_Pool_room_c2.vc a b H R) : pool_Pool_room_c2.sp a b H R :=
  specT_of_vc prog_ng prog_mixed (c := cBool) (A := []) (args := [(.pointer a), (.pointer b)]) (Eq.mpr (by kernel_rfl : vcFT cBool Tryd.prog pool_Pool_room_c2.no [] [(.pointer a), (.pointer b)] H R = pool_Pool_room_c2.vc a b H R) hvc)

/-- fathom/page.Seal -/
def page_Seal.vc (kind : Int) (b : Sl) (H : Heap) (R : (Sl × Int) → Heap → Prop) : Prop :=
  br (decide ((b.n : Int) > (504 : Int))) (R ((Sl.mk none 0 0), (2 : Int)) H) (newC H (zc Tryd.prog ty_arr_512_uint8) ty_arr_512_uint8 fun p H1 => (0 ≤ (4 : Int) ∧ (4 : Int) < ((512 : Nat) : Int)) ∧ st H1 (p.add ((4 : Int).toNat * 1)) (.int .u8 (IntKind.u8.wrap (b.n : Int))) fun H2 => (0 ≤ (5 : Int) ∧ (5 : Int) < ((512 : Nat) : Int)) ∧ st H2 (p.add ((5 : Int).toNat * 1)) (.int .u8 (IntKind.u8.wrap (ishr .i64 (b.n : Int) (8 : Int)))) fun H3 => (0 ≤ (6 : Int) ∧ (6 : Int) < ((512 : Nat) : Int)) ∧ st H3 (p.add ((6 : Int).toNat * 1)) (.int .u8 kind) fun H4 => (0 ≤ (7 : Int) ∧ (7 : Int) < ((512 : Nat) : Int)) ∧ st H4 (p.add ((7 : Int).toNat * 1)) (.int .u8 (157 : Int)) fun H5 => (0 ≤ (8 : Int) ∧ (8 : Int) ≤ (512 : Int)) ∧ doT (cInt .i64) Tryd.prog (Builtin.copy_ #[ty_sl_uint8, ty_sl_uint8] ty_int #[(.slice (slA (some p) 512 ((8 : Int).toNat) 1) (512 - ((8 : Int).toNat)) (512 - ((8 : Int).toNat))), b.v]) H5 fun (_ : Int) H6 => (0 ≤ (4 : Int) ∧ (4 : Int) ≤ (512 : Int)) ∧ page_Sum.sp (Sl.mk (slA (some p) 512 ((4 : Int).toNat) 1) (512 - ((4 : Int).toNat)) (512 - ((4 : Int).toNat))) H6 fun (n : Int) H7 => LoopVC Int (0 : Int) H7 fun next z H8 => br (decide (z < (4 : Int))) (0 ≤ (IntKind.i64.wrap ((8 : Int) * z)) ∧ (0 ≤ z ∧ z < ((512 : Nat) : Int)) ∧ st H8 (p.add (z.toNat * 1)) (.int .u8 (IntKind.u8.wrap (ishr .u32 n (IntKind.i64.wrap ((8 : Int) * z))))) fun H9 => next (IntKind.i64.wrap (z + (1 : Int))) H9) (slices_Clone_sl_byte_byte.sp (Sl.mk (slA (some p) 512 0 1) (512 - 0) (512 - 0)) H8 fun (r : Sl) H10 => R (r, (0 : Int)) H10))

theorem page_Seal.of {kind : Int} {b : Sl} {H : Heap} {R : (Sl × Int) → Heap → Prop} (hvc : page_Seal.vc kind b H R) : page_Seal.sp kind b H R :=
  specT_of_vc prog_ng prog_mixed (c := (cTup [cSl, (cInt .i64)])) (A := [(9, [(29, (cInt .i64))])]) (args := [(.int .u8 kind), b.v]) (Eq.mpr (by kernel_rfl : vcFT (cTup [cSl, (cInt .i64)]) Tryd.prog page_Seal.no [(9, [(29, (cInt .i64))])] [(.int .u8 kind), b.v] H R = page_Seal.vc kind b H R) hvc)

/-- (*fathom/disk.Disk).Write -/
def disk_Disk_Write.vc (d : Option Addr) (name : ByteArray) (page : Int) (b : Sl) (H : Heap) (R : Int → Heap → Prop) : Prop :=
  disk_Disk_ready.sp d H fun (e : Int) H1 => br (e != (0 : Int)) (R e H1) (br ((b.n : Int) != (512 : Int)) (R (2 : Int) H1) (disk_Disk_open.sp d name H1 fun (r : (Option Addr × Int)) H2 => cut Unit (fun J => br (r.2 != (0 : Int)) (R r.2 H2) (br (decide (page < (0 : Int))) (br (decide (page < (0 : Int))) (R (12 : Int) H2) (optK r.1 fun a => ld cSl H2 (a.add 0) fun (x : Sl) => br (page == (x.n : Int)) (optK d fun a_1 => ld (cInt .i64) H2 (a_1.add 1) fun (x_1 : Int) => optK d fun a_2 => ld (cInt .i64) H2 (a_2.add 3) fun (x_2 : Int) => br (x_1 == x_2) (R (5 : Int) H2) (J () H2)) (J () H2))) (optK r.1 fun a_3 => ld cSl H2 (a_3.add 0) fun (x_3 : Sl) => br (decide (page > (x_3.n : Int))) (R (12 : Int) H2) (optK r.1 fun a_4 => ld cSl H2 (a_4.add 0) fun (x_4 : Sl) => br (page == (x_4.n : Int)) (optK d fun a_5 => ld (cInt .i64) H2 (a_5.add 1) fun (x_5 : Int) => optK d fun a_6 => ld (cInt .i64) H2 (a_6.add 3) fun (x_6 : Int) => br (x_5 == x_6) (R (5 : Int) H2) (J () H2)) (J () H2))))) fun (_ : Unit) H3 => disk_Disk_change.sp d H3 fun (e_1 : Int) H4 => br (e_1 != (0 : Int)) (R e_1 H4) (cut Unit (fun J_1 => optK r.1 fun a_7 => ld cSl H4 (a_7.add 0) fun (x_7 : Sl) => br (page == (x_7.n : Int)) (optK d fun a_8 => ld (cInt .i64) H4 (a_8.add 1) fun (x_8 : Int) => optK d fun a_9 => st H4 (a_9.add 1) (.int .i64 (IntKind.i64.wrap (x_8 + (1 : Int)))) fun H6 => optK d fun a_10 => ld (cInt .i64) H6 (a_10.add 2) fun (x_9 : Int) => optK d fun a_11 => ld (cInt .i64) H6 (a_11.add 1) fun (x_10 : Int) => optK d fun a_12 => st H6 (a_12.add 2) (.int .i64 (if x_10 > x_9 then x_10 else x_9)) fun H7 => J_1 () H7) (J_1 () H4)) fun (_ : Unit) H5 => ∃ G : Heap → Prop, G H5 ∧ optK r.1 fun a_13 => ldC cSl G (a_13.add 2) fun (x_11 : Sl) => optK d fun a_14 => ld (cInt .i64) H5 (a_14.add 5) fun (x_12 : Int) => 512 ≤ b.n ∧ optK b.a fun a_15 => ldAC cArr 512 G a_15 fun (x_13 : Array Value) => pureV cArr Tryd.prog (Instr.build ty_disk_mark #[(0, (.int .i64 x_12)), (1, (.int .i64 page)), (2, (.agg x_13))]) fun (y : Array Value) => doT cSl Tryd.prog (Instr.buildSlice ty_sl_disk_mark 1 #[(0, (.agg y))]) H5 fun (sl : Sl) H8 => G H8 ∧ doT cSl Tryd.prog (Builtin.append_ #[ty_sl_disk_mark, ty_sl_disk_mark] ty_sl_disk_mark #[x_11.v, sl.v]) H8 fun (s : Sl) H9 => optK r.1 fun a_16 => st H9 (a_16.add 2) s.v fun H10 => optK r.1 fun a_17 => ld cSl H10 (a_17.add 0) fun (x_14 : Sl) => 512 ≤ b.n ∧ optK b.a fun a_18 => ldA cArr 512 H10 a_18 fun (x_15 : Array Value) => disk_put.sp x_14 page x_15 H10 fun (r_1 : Sl) H11 => optK r.1 fun a_19 => st H11 (a_19.add 0) r_1.v fun H12 => optK d fun a_20 => ld (cInt .i64) H12 (a_20.add 5) fun (x_16 : Int) => optK d fun a_21 => st H12 (a_21.add 5) (.int .i64 (IntKind.i64.wrap (x_16 + (1 : Int)))) fun H13 => R (0 : Int) H13)))

theorem disk_Disk_Write.of {d : Option Addr} {name : ByteArray} {page : Int} {b : Sl} {H : Heap} {R : Int → Heap → Prop} (hvc : disk_Disk_Write.vc d name page b H R) : disk_Disk_Write.sp d name page b H R :=
  specT_of_vc prog_ng prog_mixed (c := (cInt .i64)) (A := [(100014, []), (100020, [])]) (args := [(.pointer d), (.string name), (.int .i64 page), b.v]) (Eq.mpr (by kernel_rfl : vcFT (cInt .i64) Tryd.prog disk_Disk_Write.no [(100014, []), (100020, [])] [(.pointer d), (.string name), (.int .i64 page), b.v] H R = disk_Disk_Write.vc d name page b H R) hvc)

/-- slices.DeleteFunc[[]*fathom/pool.frame,*fathom/pool.frame] -/
def slices_DeleteFunc_sl_ptr_pool_frame_ptr_pool_frame.vc (s : Sl) (cap : Addr) (H : Heap) (R : Sl → Heap → Prop) : Prop :=
  slices_IndexFunc_sl_ptr_pool_frame_ptr_pool_frame_v2.sp s cap H fun (i : Int) H1 => br (i == (-1 : Int)) (R s H1) (LoopVC (Int × Int) (i, IntKind.i64.wrap (i + (1 : Int))) H1 fun next z H2 => br (decide (z.2 < (s.n : Int))) (optK s.a fun a => (0 ≤ z.2 ∧ z.2 < (s.n : Int)) ∧ ld cPtr H2 (a.add (z.2.toNat * 1)) fun (v : Option Addr) => pool_Pool_of_c1.sp v cap H2 fun (r : Bool) H3 => br (!r) (optK s.a fun a_1 => (0 ≤ z.1 ∧ z.1 < (s.n : Int)) ∧ st H3 (a_1.add (z.1.toNat * 1)) (.pointer v) fun H4 => next (IntKind.i64.wrap (z.1 + (1 : Int)), IntKind.i64.wrap (z.2 + (1 : Int))) H4) (next (z.1, IntKind.i64.wrap (z.2 + (1 : Int))) H3)) ((0 ≤ z.1 ∧ z.1 ≤ (s.n : Int)) ∧ doT cRaw Tryd.prog (Builtin.clear_ #[ty_sl_ptr_pool_frame] ty_ #[(.slice (slA s.a s.c z.1.toNat 1) (s.n - z.1.toNat) (s.c - z.1.toNat))]) H2 fun (_ : Value) H5 => (0 ≤ z.1 ∧ z.1 ≤ (s.c : Int)) ∧ R (Sl.mk (slA s.a s.c 0 1) (z.1.toNat - 0) (s.c - 0)) H5))

theorem slices_DeleteFunc_sl_ptr_pool_frame_ptr_pool_frame.of {s : Sl} {cap : Addr} {H : Heap} {R : Sl → Heap → Prop} (hvc : slices_DeleteFunc_sl_ptr_pool_frame_ptr_pool_frame.vc s cap H R) : slices_DeleteFunc_sl_ptr_pool_frame_ptr_pool_frame.sp s cap H R :=
  specT_of_vc prog_ng prog_mixed (c := cSl) (A := [(5, [(5, (cInt .i64)), (6, (cInt .i64))])]) (args := [s.v, (.func (.func pool_Pool_of_c1.no) #[] #[(.pointer (some cap))])]) (Eq.mpr (by kernel_rfl : vcFT cSl Tryd.prog slices_DeleteFunc_sl_ptr_pool_frame_ptr_pool_frame.no [(5, [(5, (cInt .i64)), (6, (cInt .i64))])] [s.v, (.func (.func pool_Pool_of_c1.no) #[] #[(.pointer (some cap))])] H R = slices_DeleteFunc_sl_ptr_pool_frame_ptr_pool_frame.vc s cap H R) hvc)

/-- slices.Collect[*fathom/pool.frame] -/
def slices_Collect_ptr_pool_frame.vc (seq : Value) (H : Heap) (R : Sl → Heap → Prop) : Prop :=
  slices_AppendSeq_sl_ptr_pool_frame_ptr_pool_frame.sp (Sl.mk none 0 0) seq H fun (r : Sl) H1 => R r H1

theorem slices_Collect_ptr_pool_frame.of {seq : Value} {H : Heap} {R : Sl → Heap → Prop} (hvc : slices_Collect_ptr_pool_frame.vc seq H R) : slices_Collect_ptr_pool_frame.sp seq H R :=
  specT_of_vc prog_ng prog_mixed (c := cSl) (A := []) (args := [seq]) (Eq.mpr (by kernel_rfl : vcFT cSl Tryd.prog slices_Collect_ptr_pool_frame.no [] [seq] H R = slices_Collect_ptr_pool_frame.vc seq H R) hvc)

/-- maps.Values[map[fathom/pool.spot]*fathom/pool.frame,fathom/pool.spot,*fathom/pool.frame] -/
def maps_Values_map_pool_spot_ptr_pool_frame_pool_spot_ptr_pool_frame.vc (m : Option Nat) (H : Heap) (R : Value → Heap → Prop) : Prop :=
  newC H #[(.map m)] ty_maparr_pool_spot_ptr_pool_frame fun p H1 => R (.func (.func maps_Values_map_pool_spot_ptr_pool_frame_pool_spot_ptr_pool_frame_c1.no) #[] #[(.pointer (some p))]) H1

theorem maps_Values_map_pool_spot_ptr_pool_frame_pool_spot_ptr_pool_frame.of {m : Option Nat} {H : Heap} {R : Value → Heap → Prop} (hvc : maps_Values_map_pool_spot_ptr_pool_frame_pool_spot_ptr_pool_frame.vc m H R) : maps_Values_map_pool_spot_ptr_pool_frame_pool_spot_ptr_pool_frame.sp m H R :=
  specT_of_vc prog_ng prog_mixed (c := cRaw) (A := []) (args := [(.map m)]) (Eq.mpr (by kernel_rfl : vcFT cRaw Tryd.prog maps_Values_map_pool_spot_ptr_pool_frame_pool_spot_ptr_pool_frame.no [] [(.map m)] H R = maps_Values_map_pool_spot_ptr_pool_frame_pool_spot_ptr_pool_frame.vc m H R) hvc)

/-- (*fathom/pool.Pool).of$1 -/
def pool_Pool_of_c1.vc (f : Option Addr) (cap : Addr) (H : Heap) (R : Bool → Heap → Prop) : Prop :=
  optK f fun a => ld cStr H ((a.add 0).add 0) fun (x : ByteArray) => ld cStr H cap fun (x_1 : ByteArray) => R (!(x.toList == x_1.toList)) H

theorem pool_Pool_of_c1.of {f : Option Addr} {cap : Addr} {H : Heap} {R : Bool → Heap → Prop} (hvc : pool_Pool_of_c1.vc f cap H R) : pool_Pool_of_c1.sp f cap H R :=
  specT_of_vc prog_ng prog_mixed (c := cBool) (A := []) (args := [(.pointer f), (.pointer (some cap))]) (Eq.mpr (by kernel_rfl : vcFT cBool Tryd.prog pool_Pool_of_c1.no [] [(.pointer f), (.pointer (some cap))] H R = pool_Pool_of_c1.vc f cap H R) hvc)

/-- (*fathom/pool.Pool).of$2 -/
def pool_Pool_of_c2.vc (a : Option Addr) (b : Option Addr) (H : Heap) (R : Int → Heap → Prop) : Prop :=
  optK a fun a_1 => ld (cInt .i64) H ((a_1.add 0).add 1) fun (x : Int) => optK b fun a_2 => ld (cInt .i64) H ((a_2.add 0).add 1) fun (x_1 : Int) => R (IntKind.i64.wrap (x - x_1)) H

theorem pool_Pool_of_c2.of {a : Option Addr} {b : Option Addr} {H : Heap} {R : Int → Heap → Prop} (hvc : pool_Pool_of_c2.vc a b H R) : pool_Pool_of_c2.sp a b H R :=
  specT_of_vc prog_ng prog_mixed (c := (cInt .i64)) (A := []) (args := [(.pointer a), (.pointer b)]) (Eq.mpr (by kernel_rfl : vcFT (cInt .i64) Tryd.prog pool_Pool_of_c2.no [] [(.pointer a), (.pointer b)] H R = pool_Pool_of_c2.vc a b H R) hvc)

/-- slices.IndexFunc[[]*fathom/pool.frame,*fathom/pool.frame] -/
def slices_IndexFunc_sl_ptr_pool_frame_ptr_pool_frame.vc (s : Sl) (H : Heap) (R : Int → Heap → Prop) : Prop :=
  LoopVC Int (0 : Int) H fun next z H1 => br (decide (z < (s.n : Int))) (optK s.a fun a => (0 ≤ z ∧ z < (s.n : Int)) ∧ ld cPtr H1 (a.add (z.toNat * 1)) fun (x : Option Addr) => pool_Pool_Drop_c1.sp x H1 fun (r : Bool) H2 => br r (R z H2) (next (IntKind.i64.wrap (z + (1 : Int))) H2)) (R (-1 : Int) H1)

theorem slices_IndexFunc_sl_ptr_pool_frame_ptr_pool_frame.of {s : Sl} {H : Heap} {R : Int → Heap → Prop} (hvc : slices_IndexFunc_sl_ptr_pool_frame_ptr_pool_frame.vc s H R) : slices_IndexFunc_sl_ptr_pool_frame_ptr_pool_frame.sp s H R :=
  specT_of_vc prog_ng prog_mixed (c := (cInt .i64)) (A := [(2, [(8, (cInt .i64))])]) (args := [s.v, (.func (.func pool_Pool_Drop_c1.no) #[] #[])]) (Eq.mpr (by kernel_rfl : vcFT (cInt .i64) Tryd.prog slices_IndexFunc_sl_ptr_pool_frame_ptr_pool_frame.no [(2, [(8, (cInt .i64))])] [s.v, (.func (.func pool_Pool_Drop_c1.no) #[] #[])] H R = slices_IndexFunc_sl_ptr_pool_frame_ptr_pool_frame.vc s H R) hvc)

/-- slices.IndexFunc[[]*fathom/pool.frame,*fathom/pool.frame] -/
def slices_IndexFunc_sl_ptr_pool_frame_ptr_pool_frame_v2.vc (s : Sl) (cap : Addr) (H : Heap) (R : Int → Heap → Prop) : Prop :=
  LoopVC Int (0 : Int) H fun next z H1 => br (decide (z < (s.n : Int))) (optK s.a fun a => (0 ≤ z ∧ z < (s.n : Int)) ∧ ld cPtr H1 (a.add (z.toNat * 1)) fun (x : Option Addr) => pool_Pool_of_c1.sp x cap H1 fun (r : Bool) H2 => br r (R z H2) (next (IntKind.i64.wrap (z + (1 : Int))) H2)) (R (-1 : Int) H1)

theorem slices_IndexFunc_sl_ptr_pool_frame_ptr_pool_frame_v2.of {s : Sl} {cap : Addr} {H : Heap} {R : Int → Heap → Prop} (hvc : slices_IndexFunc_sl_ptr_pool_frame_ptr_pool_frame_v2.vc s cap H R) : slices_IndexFunc_sl_ptr_pool_frame_ptr_pool_frame_v2.sp s cap H R :=
  specT_of_vc prog_ng prog_mixed (c := (cInt .i64)) (A := [(2, [(8, (cInt .i64))])]) (args := [s.v, (.func (.func pool_Pool_of_c1.no) #[] #[(.pointer (some cap))])]) (Eq.mpr (by kernel_rfl : vcFT (cInt .i64) Tryd.prog slices_IndexFunc_sl_ptr_pool_frame_ptr_pool_frame.no [(2, [(8, (cInt .i64))])] [s.v, (.func (.func pool_Pool_of_c1.no) #[] #[(.pointer (some cap))])] H R = slices_IndexFunc_sl_ptr_pool_frame_ptr_pool_frame_v2.vc s cap H R) hvc)

/-- cmp.Less[int] -/
def cmp_Less_int.vc (x : Int) (y : Int) (H : Heap) (R : Bool → Heap → Prop) : Prop :=
  cmp_isNaN_int.sp x H fun (r : Bool) H1 => br r (cmp_isNaN_int.sp y H1 fun (r_1 : Bool) H2 => R ((!r_1) || (decide (x < y))) H2) (R (decide (x < y)) H1)

theorem cmp_Less_int.of {x : Int} {y : Int} {H : Heap} {R : Bool → Heap → Prop} (hvc : cmp_Less_int.vc x y H R) : cmp_Less_int.sp x y H R :=
  specT_of_vc prog_ng prog_mixed (c := cBool) (A := []) (args := [(.int .i64 x), (.int .i64 y)]) (Eq.mpr (by kernel_rfl : vcFT cBool Tryd.prog cmp_Less_int.no [] [(.int .i64 x), (.int .i64 y)] H R = cmp_Less_int.vc x y H R) hvc)

/-- slices.isNaN[int] -/
def slices_isNaN_int.vc (x : Int) (H : Heap) (R : Bool → Heap → Prop) : Prop :=
  R (x != x) H

theorem slices_isNaN_int.of {x : Int} {H : Heap} {R : Bool → Heap → Prop} (hvc : slices_isNaN_int.vc x H R) : slices_isNaN_int.sp x H R :=
  specT_of_vc prog_ng prog_mixed (c := cBool) (A := []) (args := [(.int .i64 x)]) (Eq.mpr (by kernel_rfl : vcFT cBool Tryd.prog slices_isNaN_int.no [] [(.int .i64 x)] H R = slices_isNaN_int.vc x H R) hvc)

/-- slices.IndexFunc[[]byte,byte] -/
def slices_IndexFunc_sl_byte_byte.vc (s : Sl) (H : Heap) (R : Int → Heap → Prop) : Prop :=
  LoopVC Int (0 : Int) H fun next z H1 => br (decide (z < (s.n : Int))) (optK s.a fun a => (0 ≤ z ∧ z < (s.n : Int)) ∧ ld (cInt .u8) H1 (a.add (z.toNat * 1)) fun (x : Int) => page_Open_c1.sp x H1 fun (r : Bool) H2 => br r (R z H2) (next (IntKind.i64.wrap (z + (1 : Int))) H2)) (R (-1 : Int) H1)

theorem slices_IndexFunc_sl_byte_byte.of {s : Sl} {H : Heap} {R : Int → Heap → Prop} (hvc : slices_IndexFunc_sl_byte_byte.vc s H R) : slices_IndexFunc_sl_byte_byte.sp s H R :=
  specT_of_vc prog_ng prog_mixed (c := (cInt .i64)) (A := [(2, [(8, (cInt .i64))])]) (args := [s.v, (.func (.func page_Open_c1.no) #[] #[])]) (Eq.mpr (by kernel_rfl : vcFT (cInt .i64) Tryd.prog slices_IndexFunc_sl_byte_byte.no [(2, [(8, (cInt .i64))])] [s.v, (.func (.func page_Open_c1.no) #[] #[])] H R = slices_IndexFunc_sl_byte_byte.vc s H R) hvc)

/-- slices.AppendSeq[[]*fathom/pool.frame,*fathom/pool.frame] -/
def slices_AppendSeq_sl_ptr_pool_frame_ptr_pool_frame.vc (s : Sl) (seq : Value) (H : Heap) (R : Sl → Heap → Prop) : Prop :=
  newC H #[s.v] ty_sl_ptr_pool_frame fun p H1 => RangeVC Tryd.prog seq H1 (fun l rec vs H2 KK => onSome (Cods.dec [cPtr] vs) fun (z : Option Addr) => H2[l]? = some (.loop (rec .ready none)) ∧ ld cSl (H2.setIfInBounds l (.loop (rec .busy none))) p fun (x : Sl) => newC (H2.setIfInBounds l (.loop (rec .busy none))) #[(.pointer z)] ty_ptr_pool_frame fun p_1 H3 => doT cSl Tryd.prog (Builtin.append_ #[ty_sl_ptr_pool_frame, ty_sl_ptr_pool_frame] ty_sl_ptr_pool_frame #[x.v, (.slice (some p_1) 1 1)]) H3 fun (s_1 : Sl) H4 => st H4 p s_1.v fun H5 => H5[l]? = some (.loop (rec .busy none)) ∧ KK true (H5.setIfInBounds l (.loop (rec .ready none)))) (fun r H6 => ld cSl H6 p fun (x_1 : Sl) => H6[r]? = some (.deferred (some [])) ∧ R x_1 (H6.setIfInBounds r (.deferred none))) (fun i r H6 => bif Nat.beq i 0 then ld cSl H6 p fun (x_2 : Sl) => H6[r]? = some (.deferred (some [])) ∧ R x_2 (H6.setIfInBounds r (.deferred none)) else False) (fun r H6 => H6[r]? = some (.deferred (some [])) ∧ R (Sl.mk none 0 0) (H6.setIfInBounds r (.deferred none)))

theorem slices_AppendSeq_sl_ptr_pool_frame_ptr_pool_frame.of {s : Sl} {seq : Value} {H : Heap} {R : Sl → Heap → Prop} (hvc : slices_AppendSeq_sl_ptr_pool_frame_ptr_pool_frame.vc s seq H R) : slices_AppendSeq_sl_ptr_pool_frame_ptr_pool_frame.sp s seq H R :=
  specT_of_vc prog_ng prog_mixed (c := cSl) (A := [(200003, [(7, cPtr)])]) (args := [s.v, seq]) (Eq.mpr (by kernel_rfl : vcFT cSl Tryd.prog slices_AppendSeq_sl_ptr_pool_frame_ptr_pool_frame.no [(200003, [(7, cPtr)])] [s.v, seq] H R = slices_AppendSeq_sl_ptr_pool_frame_ptr_pool_frame.vc s seq H R) hvc)

/-- maps.Values[map[fathom/pool.spot]*fathom/pool.frame,fathom/pool.spot,*fathom/pool.frame]$1 -/
def maps_Values_map_pool_spot_ptr_pool_frame_pool_spot_ptr_pool_frame_c1.vc (l : Nat) (cap : Addr) (H : Heap) (R : Unit → Heap → Prop) : Prop :=
  ld cMap H cap fun (x : Option Nat) => doT cPtr Tryd.prog (Instr.range ty_maparr_pool_spot_ptr_pool_frame (.map x)) H fun (it : Option Addr) H1 => LoopVC Unit () H1 fun next _ H2 => doT cNext Tryd.prog (Instr.next (.pointer it) false ty_) H2 fun (nx : Bool × List Value) H3 => br nx.1 (doT cTwo Tryd.prog (Instr.entry (.pointer it)) H3 fun (en : Value × Value) H4 => asT cPtr en.2 fun (v : Option Addr) => YieldSpec Tryd.prog l #[(.pointer v)] H4 fun (b : Bool) H5 => br (!b) (R () H5) (next () H5)) (R () H3)

theorem maps_Values_map_pool_spot_ptr_pool_frame_pool_spot_ptr_pool_frame_c1.of {l : Nat} {cap : Addr} {H : Heap} {R : Unit → Heap → Prop} (hvc : maps_Values_map_pool_spot_ptr_pool_frame_pool_spot_ptr_pool_frame_c1.vc l cap H R) : maps_Values_map_pool_spot_ptr_pool_frame_pool_spot_ptr_pool_frame_c1.sp l cap H R :=
  specT_of_vc prog_ng prog_mixed (c := (cTup [])) (A := [(1, [])]) (args := [(.func (.yield l) #[] #[]), (.pointer (some cap))]) (Eq.mpr (by kernel_rfl : vcFT (cTup []) Tryd.prog maps_Values_map_pool_spot_ptr_pool_frame_pool_spot_ptr_pool_frame_c1.no [(1, [])] [(.func (.yield l) #[] #[]), (.pointer (some cap))] H R = maps_Values_map_pool_spot_ptr_pool_frame_pool_spot_ptr_pool_frame_c1.vc l cap H R) hvc)

/-- cmp.isNaN[int] -/
def cmp_isNaN_int.vc (x : Int) (H : Heap) (R : Bool → Heap → Prop) : Prop :=
  R (x != x) H

theorem cmp_isNaN_int.of {x : Int} {H : Heap} {R : Bool → Heap → Prop} (hvc : cmp_isNaN_int.vc x H R) : cmp_isNaN_int.sp x H R :=
  specT_of_vc prog_ng prog_mixed (c := cBool) (A := []) (args := [(.int .i64 x)]) (Eq.mpr (by kernel_rfl : vcFT cBool Tryd.prog cmp_isNaN_int.no [] [(.int .i64 x)] H R = cmp_isNaN_int.vc x H R) hvc)

end Go.Proofs.YtbhddkmfhampbaaDoor
