/-
  Written by wip/tools/gen.py: what the walk of each function asks, in plain form, and that it is enough.
-/
import Derived.Test.YtmdiinakfpgdjaaDoorFxf
import Derived.Test.YtmdiinakfpgdjaaDoorProg
import Derived.KernelRfl
namespace Go.Proofs.YtmdiinakfpgdjaaDoor
set_option maxRecDepth 100000

theorem prog_mixed : Tryd.prog.follows .mixedOrders = true := by kernel_rfl
theorem prog_ngB : (Tryd.prog.funcs.toList.all fun fn => !(fn.name == "runtime.NumGoroutine")) = true := by kernel_rfl
theorem prog_ng : NoNG Tryd.prog := by
  intro f fn hf
  have h1 := List.all_eq_true.1 prog_ngB fn (by
    have := Array.getElem?_eq_some_iff.1 hf
    obtain ⟨h, e⟩ := this
    rw [← e]; simp)
  simpa using h1

@[reducible] def ty_ : TypeId := 0
@[reducible] def ty_int : TypeId := 3
@[reducible] def ty_uint8 : TypeId := 5
@[reducible] def ty_string : TypeId := 9
@[reducible] def ty_sl_uint8 : TypeId := 23
@[reducible] def ty_sl_sl_uint64 : TypeId := 24
@[reducible] def ty_api_Errno : TypeId := 28
@[reducible] def ty_sl_uint64 : TypeId := 42
@[reducible] def ty_maparr_string_ptr_disk_file : TypeId := 49
@[reducible] def ty_uint64 : TypeId := 50
@[reducible] def ty_disk_Disk : TypeId := 54
@[reducible] def ty_maparr_pool_spot_ptr_pool_frame : TypeId := 55
@[reducible] def ty_maparr_int_ptr_pool_frame : TypeId := 56
@[reducible] def ty_pool_Pool : TypeId := 58
@[reducible] def ty_sl_disk_sheet : TypeId := 63
@[reducible] def ty_sl_disk_mark : TypeId := 64
@[reducible] def ty_disk_file : TypeId := 66
@[reducible] def ty_pool_spot : TypeId := 71
@[reducible] def ty_pool_frame : TypeId := 73
@[reducible] def ty_tree_Tree : TypeId := 82
@[reducible] def ty_tree_span : TypeId := 91
@[reducible] def ty_sl_int : TypeId := 97
@[reducible] def ty_tree_node : TypeId := 99
@[reducible] def ty_tree_Cursor : TypeId := 102
@[reducible] def ty_arr_512_uint8 : TypeId := 133
@[reducible] def ty_disk_sheet : TypeId := 136
@[reducible] def ty_disk_mark : TypeId := 138
@[reducible] def ty_row_word : TypeId := 149

@[reducible] def fathomlaw09_TreeSpoilt.no : FuncId := 3
@[reducible] def disk_New.no : FuncId := 4
@[reducible] def pool_New.no : FuncId := 5
@[reducible] def disk_Disk_Create.no : FuncId := 6
@[reducible] def pool_Pool_Fresh.no : FuncId := 7
@[reducible] def pool_Pool_Put.no : FuncId := 8
@[reducible] def pool_Pool_Unpin.no : FuncId := 9
@[reducible] def tree_Open.no : FuncId := 10
@[reducible] def fathomlaw09_works.no : FuncId := 11
@[reducible] def tree_Tree_Has.no : FuncId := 12
@[reducible] def tree_Tree_Insert.no : FuncId := 13
@[reducible] def tree_Tree_From.no : FuncId := 14
@[reducible] def tree_Cursor_Next.no : FuncId := 15
@[reducible] def disk_Disk_Used.no : FuncId := 16
@[reducible] def disk_Disk_Quota.no : FuncId := 17
@[reducible] def tree_Tree_Depth.no : FuncId := 18
@[reducible] def pool_Pool_Pinned.no : FuncId := 19
@[reducible] def disk_Disk_ready.no : FuncId := 20
@[reducible] def disk_named.no : FuncId := 21
@[reducible] def disk_Disk_change.no : FuncId := 22
@[reducible] def pool_Pool_ready.no : FuncId := 23
@[reducible] def disk_Disk_Len.no : FuncId := 24
@[reducible] def pool_Pool_room.no : FuncId := 25
@[reducible] def pool_Pool_write.no : FuncId := 26
@[reducible] def pool_Pool_met.no : FuncId := 27
@[reducible] def pool_Pool_take.no : FuncId := 28
@[reducible] def pool_Pool_held.no : FuncId := 29
@[reducible] def slices_Clone_sl_byte_byte.no : FuncId := 30
@[reducible] def row_Room.no : FuncId := 31
@[reducible] def tree_Tree_look.no : FuncId := 32
@[reducible] def row_Get.no : FuncId := 33
@[reducible] def tree_number.no : FuncId := 34
@[reducible] def tree_New.no : FuncId := 35
@[reducible] def tree_Tree_Count.no : FuncId := 36
@[reducible] def tree_Tree_ready.no : FuncId := 37
@[reducible] def tree_Tree_find.no : FuncId := 38
@[reducible] def tree_Tree_met.no : FuncId := 39
@[reducible] def row_Cmp.no : FuncId := 40
@[reducible] def tree_Tree_add.no : FuncId := 41
@[reducible] def slices_Clone_sl_uint64_uint64.no : FuncId := 42
@[reducible] def tree_Tree_write.no : FuncId := 43
@[reducible] def disk_Disk_open.no : FuncId := 44
@[reducible] def pool_Pool_first.no : FuncId := 45
@[reducible] def pool_Pool_room_c1.no : FuncId := 46
@[reducible] def pool_Pool_room_c2.no : FuncId := 47
@[reducible] def page_Seal.no : FuncId := 48
@[reducible] def disk_Disk_Write.no : FuncId := 49
@[reducible] def pool_Pool_pin.no : FuncId := 50
@[reducible] def row_size.no : FuncId := 51
@[reducible] def pool_Pool_Pin.no : FuncId := 52
@[reducible] def pool_Pool_Get.no : FuncId := 53
@[reducible] def slices_Chunk_sl_byte_byte.no : FuncId := 54
@[reducible] def pool_Pool_Disk.no : FuncId := 55
@[reducible] def tree_Tree_head.no : FuncId := 56
@[reducible] def tree_Tree_node.no : FuncId := 57
@[reducible] def slices_BinarySearchFunc_sl_sl_uint64_sl_uint64_sl_uint64.no : FuncId := 58
@[reducible] def tree_node_child.no : FuncId := 59
@[reducible] def tree_span_of.no : FuncId := 60
@[reducible] def slices_CompareFunc_sl_uint64_sl_uint64_uint64_uint64.no : FuncId := 61
@[reducible] def cmp_Compare_uint64.no : FuncId := 62
@[reducible] def slices_Insert_sl_sl_uint64_sl_uint64.no : FuncId := 63
@[reducible] def slices_Insert_sl_int_int.no : FuncId := 64
@[reducible] def tree_Tree_fan.no : FuncId := 65
@[reducible] def tree_Tree_split.no : FuncId := 66
@[reducible] def tree_bytes.no : FuncId := 67
@[reducible] def row_Put.no : FuncId := 68
@[reducible] def page_Sum.no : FuncId := 69
@[reducible] def disk_put.no : FuncId := 70
@[reducible] def pool_Pool_load.no : FuncId := 71
@[reducible] def slices_Chunk_sl_byte_byte_c1.no : FuncId := 72
@[reducible] def tree_span_holds.no : FuncId := 73
@[reducible] def cmp_isNaN_uint64.no : FuncId := 74
@[reducible] def slices_rotateRight_sl_uint64.no : FuncId := 76
@[reducible] def slices_rotateRight_int.no : FuncId := 78
@[reducible] def row_word_of.no : FuncId := 79
@[reducible] def disk_Disk_Read.no : FuncId := 80
@[reducible] def page_Open.no : FuncId := 81
@[reducible] def slices_rotateLeft_sl_uint64.no : FuncId := 82
@[reducible] def slices_rotateLeft_int.no : FuncId := 83
@[reducible] def slices_ContainsFunc_sl_byte_byte.no : FuncId := 84
@[reducible] def page_Open_c1.no : FuncId := 85
@[reducible] def slices_Reverse_sl_sl_uint64_sl_uint64.no : FuncId := 86
@[reducible] def slices_Reverse_sl_int_int.no : FuncId := 87
@[reducible] def slices_IndexFunc_sl_byte_byte.no : FuncId := 88
/-- fathom/fathomlaw09.TreeSpoilt -/
@[reducible] def fathomlaw09_TreeSpoilt.sp (pages : Sl) (kinds : Sl) (width : Int) (rows : Sl) (H : Heap) (R : Bool → Heap → Prop) : Prop := SpecT cBool Tryd.prog fathomlaw09_TreeSpoilt.no #[pages.v, kinds.v, (.int .i64 width), rows.v] H R
/-- fathom/disk.New -/
@[reducible] def disk_New.sp (quota : Int) (H : Heap) (R : Option Addr → Heap → Prop) : Prop := SpecT cPtr Tryd.prog disk_New.no #[(.int .i64 quota)] H R
/-- fathom/pool.New -/
@[reducible] def pool_New.sp (d : Option Addr) (frames : Int) (H : Heap) (R : (Option Addr × Int) → Heap → Prop) : Prop := SpecT (cTup [cPtr, (cInt .i64)]) Tryd.prog pool_New.no #[(.pointer d), (.int .i64 frames)] H R
/-- (*fathom/disk.Disk).Create -/
@[reducible] def disk_Disk_Create.sp (d : Option Addr) (name : ByteArray) (H : Heap) (R : Int → Heap → Prop) : Prop := SpecT (cInt .i64) Tryd.prog disk_Disk_Create.no #[(.pointer d), (.string name)] H R
/-- (*fathom/pool.Pool).Fresh -/
@[reducible] def pool_Pool_Fresh.sp (p : Option Addr) (name : ByteArray) (H : Heap) (R : (Int × Int × Int) → Heap → Prop) : Prop := SpecT (cTup [(cInt .i64), (cInt .i64), (cInt .i64)]) Tryd.prog pool_Pool_Fresh.no #[(.pointer p), (.string name)] H R
/-- (*fathom/pool.Pool).Put -/
@[reducible] def pool_Pool_Put.sp (p : Option Addr) (h : Int) (kind : Int) (b : Sl) (H : Heap) (R : Int → Heap → Prop) : Prop := SpecT (cInt .i64) Tryd.prog pool_Pool_Put.no #[(.pointer p), (.int .i64 h), (.int .u8 kind), b.v] H R
/-- (*fathom/pool.Pool).Unpin -/
@[reducible] def pool_Pool_Unpin.sp (p : Option Addr) (h : Int) (H : Heap) (R : Int → Heap → Prop) : Prop := SpecT (cInt .i64) Tryd.prog pool_Pool_Unpin.no #[(.pointer p), (.int .i64 h)] H R
/-- fathom/tree.Open -/
@[reducible] def tree_Open.sp (p : Option Addr) (name : ByteArray) (width : Int) (H : Heap) (R : (Option Addr × Int) → Heap → Prop) : Prop := SpecT (cTup [cPtr, (cInt .i64)]) Tryd.prog tree_Open.no #[(.pointer p), (.string name), (.int .i64 width)] H R
/-- fathom/fathomlaw09.works -/
@[reducible] def fathomlaw09_works.sp  (H : Heap) (R : Bool → Heap → Prop) : Prop := SpecT cBool Tryd.prog fathomlaw09_works.no #[] H R
/-- (*fathom/tree.Tree).Has -/
@[reducible] def tree_Tree_Has.sp (t : Option Addr) (l : Sl) (H : Heap) (R : (Bool × Int) → Heap → Prop) : Prop := SpecT (cTup [cBool, (cInt .i64)]) Tryd.prog tree_Tree_Has.no #[(.pointer t), l.v] H R
/-- (*fathom/tree.Tree).Insert -/
@[reducible] def tree_Tree_Insert.sp (t : Option Addr) (l : Sl) (H : Heap) (R : (Bool × Int) → Heap → Prop) : Prop := SpecT (cTup [cBool, (cInt .i64)]) Tryd.prog tree_Tree_Insert.no #[(.pointer t), l.v] H R
/-- (*fathom/tree.Tree).From -/
@[reducible] def tree_Tree_From.sp (t : Option Addr) (low : Sl) (H : Heap) (R : Option Addr → Heap → Prop) : Prop := SpecT cPtr Tryd.prog tree_Tree_From.no #[(.pointer t), low.v] H R
/-- (*fathom/tree.Cursor).Next -/
@[reducible] def tree_Cursor_Next.sp (c : Option Addr) (H : Heap) (R : (Sl × Bool × Int) → Heap → Prop) : Prop := SpecT (cTup [cSl, cBool, (cInt .i64)]) Tryd.prog tree_Cursor_Next.no #[(.pointer c)] H R
/-- (*fathom/disk.Disk).Used -/
@[reducible] def disk_Disk_Used.sp (d : Option Addr) (H : Heap) (R : Int → Heap → Prop) : Prop := SpecT (cInt .i64) Tryd.prog disk_Disk_Used.no #[(.pointer d)] H R
/-- (*fathom/disk.Disk).Quota -/
@[reducible] def disk_Disk_Quota.sp (d : Option Addr) (H : Heap) (R : Int → Heap → Prop) : Prop := SpecT (cInt .i64) Tryd.prog disk_Disk_Quota.no #[(.pointer d)] H R
/-- (*fathom/tree.Tree).Depth -/
@[reducible] def tree_Tree_Depth.sp (t : Option Addr) (H : Heap) (R : Int → Heap → Prop) : Prop := SpecT (cInt .i64) Tryd.prog tree_Tree_Depth.no #[(.pointer t)] H R
/-- (*fathom/pool.Pool).Pinned -/
@[reducible] def pool_Pool_Pinned.sp (p : Option Addr) (H : Heap) (R : Int → Heap → Prop) : Prop := SpecT (cInt .i64) Tryd.prog pool_Pool_Pinned.no #[(.pointer p)] H R
/-- (*fathom/disk.Disk).ready -/
@[reducible] def disk_Disk_ready.sp (d : Option Addr) (H : Heap) (R : Int → Heap → Prop) : Prop := SpecT (cInt .i64) Tryd.prog disk_Disk_ready.no #[(.pointer d)] H R
/-- fathom/disk.named -/
@[reducible] def disk_named.sp (s : ByteArray) (H : Heap) (R : Bool → Heap → Prop) : Prop := SpecT cBool Tryd.prog disk_named.no #[(.string s)] H R
/-- (*fathom/disk.Disk).change -/
@[reducible] def disk_Disk_change.sp (d : Option Addr) (H : Heap) (R : Int → Heap → Prop) : Prop := SpecT (cInt .i64) Tryd.prog disk_Disk_change.no #[(.pointer d)] H R
/-- (*fathom/pool.Pool).ready -/
@[reducible] def pool_Pool_ready.sp (p : Option Addr) (H : Heap) (R : Int → Heap → Prop) : Prop := SpecT (cInt .i64) Tryd.prog pool_Pool_ready.no #[(.pointer p)] H R
/-- (*fathom/disk.Disk).Len -/
@[reducible] def disk_Disk_Len.sp (d : Option Addr) (name : ByteArray) (H : Heap) (R : (Int × Int) → Heap → Prop) : Prop := SpecT (cTup [(cInt .i64), (cInt .i64)]) Tryd.prog disk_Disk_Len.no #[(.pointer d), (.string name)] H R
/-- (*fathom/pool.Pool).room -/
@[reducible] def pool_Pool_room.sp (p : Option Addr) (H : Heap) (R : Int → Heap → Prop) : Prop := SpecT (cInt .i64) Tryd.prog pool_Pool_room.no #[(.pointer p)] H R
/-- (*fathom/pool.Pool).write -/
@[reducible] def pool_Pool_write.sp (p : Option Addr) (f : Option Addr) (H : Heap) (R : Int → Heap → Prop) : Prop := SpecT (cInt .i64) Tryd.prog pool_Pool_write.no #[(.pointer p), (.pointer f)] H R
/-- (*fathom/pool.Pool).met -/
@[reducible] def pool_Pool_met.sp (p : Option Addr) (e : Int) (H : Heap) (R : Int → Heap → Prop) : Prop := SpecT (cInt .i64) Tryd.prog pool_Pool_met.no #[(.pointer p), (.int .i64 e)] H R
/-- (*fathom/pool.Pool).take -/
@[reducible] def pool_Pool_take.sp (p : Option Addr) (f : Option Addr) (H : Heap) (R : Int → Heap → Prop) : Prop := SpecT (cInt .i64) Tryd.prog pool_Pool_take.no #[(.pointer p), (.pointer f)] H R
/-- (*fathom/pool.Pool).held -/
@[reducible] def pool_Pool_held.sp (p : Option Addr) (h : Int) (H : Heap) (R : (Option Addr × Int) → Heap → Prop) : Prop := SpecT (cTup [cPtr, (cInt .i64)]) Tryd.prog pool_Pool_held.no #[(.pointer p), (.int .i64 h)] H R
/-- slices.Clone[[]byte,byte] -/
@[reducible] def slices_Clone_sl_byte_byte.sp (s : Sl) (H : Heap) (R : Sl → Heap → Prop) : Prop := SpecT cSl Tryd.prog slices_Clone_sl_byte_byte.no #[s.v] H R
/-- fathom/row.Room -/
@[reducible] def row_Room.sp (width : Int) (H : Heap) (R : Int → Heap → Prop) : Prop := SpecT (cInt .i64) Tryd.prog row_Room.no #[(.int .i64 width)] H R
/-- (*fathom/tree.Tree).look -/
@[reducible] def tree_Tree_look.sp (t : Option Addr) (page : Int) (H : Heap) (R : (Int × Sl × Int) → Heap → Prop) : Prop := SpecT (cTup [(cInt .u8), cSl, (cInt .i64)]) Tryd.prog tree_Tree_look.no #[(.pointer t), (.int .i64 page)] H R
/-- fathom/row.Get -/
@[reducible] def row_Get.sp (b : Sl) (width : Int) (H : Heap) (R : (Sl × Int) → Heap → Prop) : Prop := SpecT (cTup [cSl, (cInt .i64)]) Tryd.prog row_Get.no #[b.v, (.int .i64 width)] H R
/-- fathom/tree.number -/
@[reducible] def tree_number.sp (b : Sl) (H : Heap) (R : Int → Heap → Prop) : Prop := SpecT (cInt .i64) Tryd.prog tree_number.no #[b.v] H R
/-- fathom/tree.New -/
@[reducible] def tree_New.sp (p : Option Addr) (name : ByteArray) (width : Int) (H : Heap) (R : (Option Addr × Int) → Heap → Prop) : Prop := SpecT (cTup [cPtr, (cInt .i64)]) Tryd.prog tree_New.no #[(.pointer p), (.string name), (.int .i64 width)] H R
/-- (*fathom/tree.Tree).Count -/
@[reducible] def tree_Tree_Count.sp (t : Option Addr) (H : Heap) (R : Int → Heap → Prop) : Prop := SpecT (cInt .i64) Tryd.prog tree_Tree_Count.no #[(.pointer t)] H R
/-- (*fathom/tree.Tree).ready -/
@[reducible] def tree_Tree_ready.sp (t : Option Addr) (H : Heap) (R : Int → Heap → Prop) : Prop := SpecT (cInt .i64) Tryd.prog tree_Tree_ready.no #[(.pointer t)] H R
/-- (*fathom/tree.Tree).find -/
@[reducible] def tree_Tree_find.sp (t : Option Addr) (page : Int) (above : Int) (s_ : Sl) (s_1 : Sl) (low : Sl) (strict : Bool) (H : Heap) (R : (Sl × Int) → Heap → Prop) : Prop := SpecT (cTup [cSl, (cInt .i64)]) Tryd.prog tree_Tree_find.no #[(.pointer t), (.int .i64 page), (.int .i64 above), (.agg #[s_.v, s_1.v]), low.v, (.bool strict)] H R
/-- (*fathom/tree.Tree).met -/
@[reducible] def tree_Tree_met.sp (t : Option Addr) (e : Int) (H : Heap) (R : Int → Heap → Prop) : Prop := SpecT (cInt .i64) Tryd.prog tree_Tree_met.no #[(.pointer t), (.int .i64 e)] H R
/-- fathom/row.Cmp -/
@[reducible] def row_Cmp.sp (a : Sl) (b : Sl) (H : Heap) (R : Int → Heap → Prop) : Prop := SpecT (cInt .i64) Tryd.prog row_Cmp.no #[a.v, b.v] H R
/-- (*fathom/tree.Tree).add -/
@[reducible] def tree_Tree_add.sp (t : Option Addr) (page : Int) (above : Int) (s_ : Sl) (s_1 : Sl) (l : Sl) (H : Heap) (R : (Bool × Option Addr × Sl × Int) → Heap → Prop) : Prop := SpecT (cTup [cBool, cPtr, cSl, (cInt .i64)]) Tryd.prog tree_Tree_add.no #[(.pointer t), (.int .i64 page), (.int .i64 above), (.agg #[s_.v, s_1.v]), l.v] H R
/-- slices.Clone[[]uint64,uint64] -/
@[reducible] def slices_Clone_sl_uint64_uint64.sp (s : Sl) (H : Heap) (R : Sl → Heap → Prop) : Prop := SpecT cSl Tryd.prog slices_Clone_sl_uint64_uint64.no #[s.v] H R
/-- (*fathom/tree.Tree).write -/
@[reducible] def tree_Tree_write.sp (t : Option Addr) (n : Option Addr) (H : Heap) (R : Int → Heap → Prop) : Prop := SpecT (cInt .i64) Tryd.prog tree_Tree_write.no #[(.pointer t), (.pointer n)] H R
/-- (*fathom/disk.Disk).open -/
@[reducible] def disk_Disk_open.sp (d : Option Addr) (name : ByteArray) (H : Heap) (R : (Option Addr × Int) → Heap → Prop) : Prop := SpecT (cTup [cPtr, (cInt .i64)]) Tryd.prog disk_Disk_open.no #[(.pointer d), (.string name)] H R
/-- (*fathom/pool.Pool).first -/
@[reducible] def pool_Pool_first.sp (p : Option Addr) (H : Heap) (R : Option Addr → Heap → Prop) : Prop := SpecT cPtr Tryd.prog pool_Pool_first.no #[(.pointer p), (.func (.func pool_Pool_room_c1.no) #[] #[]), (.func (.func pool_Pool_room_c2.no) #[] #[])] H R
/-- (*fathom/pool.Pool).room$1 -/
@[reducible] def pool_Pool_room_c1.sp (f : Option Addr) (H : Heap) (R : Bool → Heap → Prop) : Prop := SpecT cBool Tryd.prog pool_Pool_room_c1.no #[(.pointer f)] H R
/-- (*fathom/pool.Pool).room$2 -/
@[reducible] def pool_Pool_room_c2.sp (a : Option Addr) (b : Option Addr) (H : Heap) (R : Bool → Heap → Prop) : Prop := SpecT cBool Tryd.prog pool_Pool_room_c2.no #[(.pointer a), (.pointer b)] H R
/-- fathom/page.Seal -/
@[reducible] def page_Seal.sp (kind : Int) (b : Sl) (H : Heap) (R : (Sl × Int) → Heap → Prop) : Prop := SpecT (cTup [cSl, (cInt .i64)]) Tryd.prog page_Seal.no #[(.int .u8 kind), b.v] H R
/-- (*fathom/disk.Disk).Write -/
@[reducible] def disk_Disk_Write.sp (d : Option Addr) (name : ByteArray) (page : Int) (b : Sl) (H : Heap) (R : Int → Heap → Prop) : Prop := SpecT (cInt .i64) Tryd.prog disk_Disk_Write.no #[(.pointer d), (.string name), (.int .i64 page), b.v] H R
/-- (*fathom/pool.Pool).pin -/
@[reducible] def pool_Pool_pin.sp (p : Option Addr) (f : Option Addr) (H : Heap) (R : Int → Heap → Prop) : Prop := SpecT (cInt .i64) Tryd.prog pool_Pool_pin.no #[(.pointer p), (.pointer f)] H R
/-- fathom/row.size -/
@[reducible] def row_size.sp (width : Int) (H : Heap) (R : Int → Heap → Prop) : Prop := SpecT (cInt .i64) Tryd.prog row_size.no #[(.int .i64 width)] H R
/-- (*fathom/pool.Pool).Pin -/
@[reducible] def pool_Pool_Pin.sp (p : Option Addr) (name : ByteArray) (page : Int) (H : Heap) (R : (Int × Int) → Heap → Prop) : Prop := SpecT (cTup [(cInt .i64), (cInt .i64)]) Tryd.prog pool_Pool_Pin.no #[(.pointer p), (.string name), (.int .i64 page)] H R
/-- (*fathom/pool.Pool).Get -/
@[reducible] def pool_Pool_Get.sp (p : Option Addr) (h : Int) (H : Heap) (R : (Int × Sl × Int) → Heap → Prop) : Prop := SpecT (cTup [(cInt .u8), cSl, (cInt .i64)]) Tryd.prog pool_Pool_Get.no #[(.pointer p), (.int .i64 h)] H R
/-- slices.Chunk[[]byte,byte] -/
@[reducible] def slices_Chunk_sl_byte_byte.sp (s : Sl) (n : Int) (H : Heap) (R : Value → Heap → Prop) : Prop := SpecT cRaw Tryd.prog slices_Chunk_sl_byte_byte.no #[s.v, (.int .i64 n)] H R
/-- (*fathom/pool.Pool).Disk -/
@[reducible] def pool_Pool_Disk.sp (p : Option Addr) (H : Heap) (R : Option Addr → Heap → Prop) : Prop := SpecT cPtr Tryd.prog pool_Pool_Disk.no #[(.pointer p)] H R
/-- (*fathom/tree.Tree).head -/
@[reducible] def tree_Tree_head.sp (t : Option Addr) (fresh : Bool) (H : Heap) (R : Int → Heap → Prop) : Prop := SpecT (cInt .i64) Tryd.prog tree_Tree_head.no #[(.pointer t), (.bool fresh)] H R
/-- (*fathom/tree.Tree).node -/
@[reducible] def tree_Tree_node.sp (t : Option Addr) (page : Int) (above : Int) (s_ : Sl) (s_1 : Sl) (H : Heap) (R : (Option Addr × Int) → Heap → Prop) : Prop := SpecT (cTup [cPtr, (cInt .i64)]) Tryd.prog tree_Tree_node.no #[(.pointer t), (.int .i64 page), (.int .i64 above), (.agg #[s_.v, s_1.v])] H R
/-- slices.BinarySearchFunc[[][]uint64,[]uint64,[]uint64] -/
@[reducible] def slices_BinarySearchFunc_sl_sl_uint64_sl_uint64_sl_uint64.sp (x : Sl) (target : Sl) (H : Heap) (R : (Int × Bool) → Heap → Prop) : Prop := SpecT (cTup [(cInt .i64), cBool]) Tryd.prog slices_BinarySearchFunc_sl_sl_uint64_sl_uint64_sl_uint64.no #[x.v, target.v, (.func (.func row_Cmp.no) #[] #[])] H R
/-- (*fathom/tree.node).child -/
@[reducible] def tree_node_child.sp (n : Option Addr) (l : Sl) (H : Heap) (R : Int → Heap → Prop) : Prop := SpecT (cInt .i64) Tryd.prog tree_node_child.no #[(.pointer n), l.v] H R
/-- (fathom/tree.span).of -/
@[reducible] def tree_span_of.sp (s_ : Sl) (s_1 : Sl) (n : Option Addr) (i : Int) (H : Heap) (R : (Sl × Sl) → Heap → Prop) : Prop := SpecT (cAgg [cSl, cSl]) Tryd.prog tree_span_of.no #[(.agg #[s_.v, s_1.v]), (.pointer n), (.int .i64 i)] H R
/-- slices.CompareFunc[[]uint64,[]uint64,uint64,uint64] -/
@[reducible] def slices_CompareFunc_sl_uint64_sl_uint64_uint64_uint64.sp (s1 : Sl) (s2 : Sl) (H : Heap) (R : Int → Heap → Prop) : Prop := SpecT (cInt .i64) Tryd.prog slices_CompareFunc_sl_uint64_sl_uint64_uint64_uint64.no #[s1.v, s2.v, (.func (.func cmp_Compare_uint64.no) #[] #[])] H R
/-- cmp.Compare[uint64] -/
@[reducible] def cmp_Compare_uint64.sp (x : Int) (y : Int) (H : Heap) (R : Int → Heap → Prop) : Prop := SpecT (cInt .i64) Tryd.prog cmp_Compare_uint64.no #[(.int .u64 x), (.int .u64 y)] H R
/-- slices.Insert[[][]uint64,[]uint64] -/
@[reducible] def slices_Insert_sl_sl_uint64_sl_uint64.sp (s : Sl) (i : Int) (v : Sl) (H : Heap) (R : Sl → Heap → Prop) : Prop := SpecT cSl Tryd.prog slices_Insert_sl_sl_uint64_sl_uint64.no #[s.v, (.int .i64 i), v.v] H R
/-- slices.Insert[[]int,int] -/
@[reducible] def slices_Insert_sl_int_int.sp (s : Sl) (i : Int) (v : Sl) (H : Heap) (R : Sl → Heap → Prop) : Prop := SpecT cSl Tryd.prog slices_Insert_sl_int_int.no #[s.v, (.int .i64 i), v.v] H R
/-- (*fathom/tree.Tree).fan -/
@[reducible] def tree_Tree_fan.sp (t : Option Addr) (H : Heap) (R : Int → Heap → Prop) : Prop := SpecT (cInt .i64) Tryd.prog tree_Tree_fan.no #[(.pointer t)] H R
/-- (*fathom/tree.Tree).split -/
@[reducible] def tree_Tree_split.sp (t : Option Addr) (n : Option Addr) (H : Heap) (R : (Option Addr × Sl × Int) → Heap → Prop) : Prop := SpecT (cTup [cPtr, cSl, (cInt .i64)]) Tryd.prog tree_Tree_split.no #[(.pointer t), (.pointer n)] H R
/-- fathom/tree.bytes -/
@[reducible] def tree_bytes.sp (n : Int) (H : Heap) (R : Sl → Heap → Prop) : Prop := SpecT cSl Tryd.prog tree_bytes.no #[(.int .i64 n)] H R
/-- fathom/row.Put -/
@[reducible] def row_Put.sp (l : Sl) (H : Heap) (R : Sl → Heap → Prop) : Prop := SpecT cSl Tryd.prog row_Put.no #[l.v] H R
/-- fathom/page.Sum -/
@[reducible] def page_Sum.sp (b : Sl) (H : Heap) (R : Int → Heap → Prop) : Prop := SpecT (cInt .u32) Tryd.prog page_Sum.no #[b.v] H R
/-- fathom/disk.put -/
@[reducible] def disk_put.sp (l : Sl) (page : Int) (b : Array Value) (H : Heap) (R : Sl → Heap → Prop) : Prop := SpecT cSl Tryd.prog disk_put.no #[l.v, (.int .i64 page), (.agg b)] H R
/-- (*fathom/pool.Pool).load -/
@[reducible] def pool_Pool_load.sp (p : Option Addr) (at_ : ByteArray) (at_1 : Int) (H : Heap) (R : (Option Addr × Int) → Heap → Prop) : Prop := SpecT (cTup [cPtr, (cInt .i64)]) Tryd.prog pool_Pool_load.no #[(.pointer p), (.agg #[(.string at_), (.int .i64 at_1)])] H R
/-- slices.Chunk[[]byte,byte]$1 -/
@[reducible] def slices_Chunk_sl_byte_byte_c1.sp (l : Nat) (cap : Addr) (cap1 : Addr) (H : Heap) (R : Unit → Heap → Prop) : Prop := SpecT (cTup []) Tryd.prog slices_Chunk_sl_byte_byte_c1.no #[(.func (.yield l) #[] #[]), (.pointer (some cap)), (.pointer (some cap1))] H R
/-- (fathom/tree.span).holds -/
@[reducible] def tree_span_holds.sp (s_ : Sl) (s_1 : Sl) (l : Sl) (H : Heap) (R : Bool → Heap → Prop) : Prop := SpecT cBool Tryd.prog tree_span_holds.no #[(.agg #[s_.v, s_1.v]), l.v] H R
/-- cmp.isNaN[uint64] -/
@[reducible] def cmp_isNaN_uint64.sp (x : Int) (H : Heap) (R : Bool → Heap → Prop) : Prop := SpecT cBool Tryd.prog cmp_isNaN_uint64.no #[(.int .u64 x)] H R
/-- slices.rotateRight[[]uint64] -/
@[reducible] def slices_rotateRight_sl_uint64.sp (s : Sl) (r : Int) (H : Heap) (R : Unit → Heap → Prop) : Prop := SpecT (cTup []) Tryd.prog slices_rotateRight_sl_uint64.no #[s.v, (.int .i64 r)] H R
/-- slices.rotateRight[int] -/
@[reducible] def slices_rotateRight_int.sp (s : Sl) (r : Int) (H : Heap) (R : Unit → Heap → Prop) : Prop := SpecT (cTup []) Tryd.prog slices_rotateRight_int.no #[s.v, (.int .i64 r)] H R
/-- (fathom/row.word).of -/
@[reducible] def row_word_of.sp (b : Array Value) (n : Int) (H : Heap) (R : Array Value → Heap → Prop) : Prop := SpecT cArr Tryd.prog row_word_of.no #[(.agg b), (.int .u64 n)] H R
/-- (*fathom/disk.Disk).Read -/
@[reducible] def disk_Disk_Read.sp (d : Option Addr) (name : ByteArray) (page : Int) (H : Heap) (R : (Sl × Int) → Heap → Prop) : Prop := SpecT (cTup [cSl, (cInt .i64)]) Tryd.prog disk_Disk_Read.no #[(.pointer d), (.string name), (.int .i64 page)] H R
/-- fathom/page.Open -/
@[reducible] def page_Open.sp (b : Sl) (H : Heap) (R : (Int × Sl × Int) → Heap → Prop) : Prop := SpecT (cTup [(cInt .u8), cSl, (cInt .i64)]) Tryd.prog page_Open.no #[b.v] H R
/-- slices.rotateLeft[[]uint64] -/
@[reducible] def slices_rotateLeft_sl_uint64.sp (s : Sl) (r : Int) (H : Heap) (R : Unit → Heap → Prop) : Prop := SpecT (cTup []) Tryd.prog slices_rotateLeft_sl_uint64.no #[s.v, (.int .i64 r)] H R
/-- slices.rotateLeft[int] -/
@[reducible] def slices_rotateLeft_int.sp (s : Sl) (r : Int) (H : Heap) (R : Unit → Heap → Prop) : Prop := SpecT (cTup []) Tryd.prog slices_rotateLeft_int.no #[s.v, (.int .i64 r)] H R
/-- slices.ContainsFunc[[]byte,byte] -/
@[reducible] def slices_ContainsFunc_sl_byte_byte.sp (s : Sl) (H : Heap) (R : Bool → Heap → Prop) : Prop := SpecT cBool Tryd.prog slices_ContainsFunc_sl_byte_byte.no #[s.v, (.func (.func page_Open_c1.no) #[] #[])] H R
/-- fathom/page.Open$1 -/
@[reducible] def page_Open_c1.sp (c : Int) (H : Heap) (R : Bool → Heap → Prop) : Prop := SpecT cBool Tryd.prog page_Open_c1.no #[(.int .u8 c)] H R
/-- slices.Reverse[[][]uint64,[]uint64] -/
@[reducible] def slices_Reverse_sl_sl_uint64_sl_uint64.sp (s : Sl) (H : Heap) (R : Unit → Heap → Prop) : Prop := SpecT (cTup []) Tryd.prog slices_Reverse_sl_sl_uint64_sl_uint64.no #[s.v] H R
/-- slices.Reverse[[]int,int] -/
@[reducible] def slices_Reverse_sl_int_int.sp (s : Sl) (H : Heap) (R : Unit → Heap → Prop) : Prop := SpecT (cTup []) Tryd.prog slices_Reverse_sl_int_int.no #[s.v] H R
/-- slices.IndexFunc[[]byte,byte] -/
@[reducible] def slices_IndexFunc_sl_byte_byte.sp (s : Sl) (H : Heap) (R : Int → Heap → Prop) : Prop := SpecT (cInt .i64) Tryd.prog slices_IndexFunc_sl_byte_byte.no #[s.v, (.func (.func page_Open_c1.no) #[] #[])] H R

/-- fathom/fathomlaw09.TreeSpoilt -/
def fathomlaw09_TreeSpoilt.vc (pages : Sl) (kinds : Sl) (width : Int) (rows : Sl) (H : Heap) (R : Bool → Heap → Prop) : Prop :=
  br ((decide ((pages.n : Int) > (20 : Int))) || (decide ((rows.n : Int) > (40 : Int)))) (R true H) (disk_New.sp (100 : Int) H fun (d : Option Addr) H1 => pool_New.sp d (8 : Int) H1 fun (r : (Option Addr × Int)) H2 => disk_Disk_Create.sp d (ByteArray.mk #[102]) H2 fun (_ : Int) H3 => LoopVC Int (0 : Int) H3 fun next i H4 => br (decide (i < (pages.n : Int))) (pool_Pool_Fresh.sp r.1 (ByteArray.mk #[102]) H4 fun (r_2 : (Int × Int × Int)) H5 => cut Int (fun J => br (decide (i < (kinds.n : Int))) (optK kinds.a fun a => (0 ≤ i ∧ i < (kinds.n : Int)) ∧ ld (cInt .u8) H5 (a.add (i.toNat * 1)) fun (kind : Int) => J kind H5) (J (3 : Int) H5)) fun (z : Int) H6 => optK pages.a fun a_1 => (0 ≤ i ∧ i < (pages.n : Int)) ∧ ld cSl H6 (a_1.add (i.toNat * 1)) fun (x : Sl) => pool_Pool_Put.sp r.1 r_2.1 z x H6 fun (f : Int) H7 => br ((r_2.2.2 != (0 : Int)) == false) (br (f != (0 : Int)) (optK pages.a fun a_2 => (0 ≤ i ∧ i < (pages.n : Int)) ∧ ld cSl H7 (a_2.add (i.toNat * 1)) fun (x_1 : Sl) => br (decide ((x_1.n : Int) ≤ (504 : Int))) (R false H7) (pool_Pool_Unpin.sp r.1 r_2.1 H7 fun (r_3 : Int) H8 => br (r_3 != (0 : Int)) (R false H8) (next (IntKind.i64.wrap (i + (1 : Int))) H8))) (pool_Pool_Unpin.sp r.1 r_2.1 H7 fun (r_4 : Int) H9 => br (r_4 != (0 : Int)) (R false H9) (next (IntKind.i64.wrap (i + (1 : Int))) H9))) (R false H7)) (tree_Open.sp r.1 (ByteArray.mk #[102]) width H4 fun (r_5 : (Option Addr × Int)) H10 => br (r_5.2 != (0 : Int)) (br r_5.1.isNone (fathomlaw09_works.sp H10 fun (r_6 : Bool) H11 => R r_6 H11) (R false H10)) (LoopVC Int (0 : Int) H10 fun next_1 i_1 H12 => br (decide (i_1 < (rows.n : Int))) (optK rows.a fun a_3 => (0 ≤ i_1 ∧ i_1 < (rows.n : Int)) ∧ ld cSl H12 (a_3.add (i_1.toNat * 1)) fun (x_2 : Sl) => tree_Tree_Has.sp r_5.1 x_2 H12 fun (r_7 : (Bool × Int)) H13 => optK rows.a fun a_4 => (0 ≤ i_1 ∧ i_1 < (rows.n : Int)) ∧ ld cSl H13 (a_4.add (i_1.toNat * 1)) fun (x_3 : Sl) => tree_Tree_Insert.sp r_5.1 x_3 H13 fun (r_8 : (Bool × Int)) H14 => optK rows.a fun a_5 => (0 ≤ i_1 ∧ i_1 < (rows.n : Int)) ∧ ld cSl H14 (a_5.add (i_1.toNat * 1)) fun (x_4 : Sl) => tree_Tree_From.sp r_5.1 x_4 H14 fun (r_9 : Option Addr) H15 => tree_Cursor_Next.sp r_9 H15 fun (r_10 : (Sl × Bool × Int)) H16 => br (((r_7.1 && (r_7.2 != (0 : Int))) || ((r_8.2 == (280 : Int)) && (r_10.2.2 != (280 : Int)))) == false) (br (r_8.2 == (5 : Int)) (disk_Disk_Used.sp d H16 fun (r_11 : Int) H17 => disk_Disk_Quota.sp d H17 fun (r_12 : Int) H18 => br (r_11 != r_12) (R false H18) (next_1 (IntKind.i64.wrap (i_1 + (1 : Int))) H18)) (next_1 (IntKind.i64.wrap (i_1 + (1 : Int))) H16)) (R false H16)) (tree_Tree_Depth.sp r_5.1 H12 fun (r_13 : Int) H19 => br (decide (r_13 ≥ (1 : Int))) (pool_Pool_Pinned.sp r.1 H19 fun (r_14 : Int) H20 => br (r_14 == (0 : Int)) (fathomlaw09_works.sp H20 fun (r_15 : Bool) H21 => R r_15 H21) (R false H20)) (R false H19)))))

theorem fathomlaw09_TreeSpoilt.of {pages : Sl} {kinds : Sl} {width : Int} {rows : Sl} {H : Heap} {R : Bool → Heap → Prop} (hvc : fathomlaw09_TreeSpoilt.vc pages kinds width rows H R) : fathomlaw09_TreeSpoilt.sp pages kinds width rows H R :=
  specT_of_vc prog_ng prog_mixed (c := cBool) (A := [(7, [(12, (cInt .i64))]), (100013, [(16, (cInt .u8))]), (20, [(20, (cInt .i64))])]) (args := [pages.v, kinds.v, (.int .i64 width), rows.v]) (Eq.mpr (by kernel_rfl : vcFT cBool Tryd.prog fathomlaw09_TreeSpoilt.no [(7, [(12, (cInt .i64))]), (100013, [(16, (cInt .u8))]), (20, [(20, (cInt .i64))])] [pages.v, kinds.v, (.int .i64 width), rows.v] H R = fathomlaw09_TreeSpoilt.vc pages kinds width rows H R) hvc)

/-- fathom/disk.New -/
def disk_New.vc (quota : Int) (H : Heap) (R : Option Addr → Heap → Prop) : Prop :=
  newM H fun m H1 => newC H1 #[(.map (some m)), (.int .i64 (0 : Int)), (.int .i64 (0 : Int)), (.int .i64 (if (1048576 : Int) < (if (0 : Int) > quota then (0 : Int) else quota) then (1048576 : Int) else (if (0 : Int) > quota then (0 : Int) else quota))), (.int .i64 (0 : Int)), (.int .i64 (0 : Int)), (.bool false), (.int .i64 (0 : Int)), (.int .u64 (0 : Int)), (.bool false)] ty_disk_Disk fun p H2 => R (some p) H2

theorem disk_New.of {quota : Int} {H : Heap} {R : Option Addr → Heap → Prop} (hvc : disk_New.vc quota H R) : disk_New.sp quota H R :=
  specT_of_vc prog_ng prog_mixed (c := cPtr) (A := []) (args := [(.int .i64 quota)]) (Eq.mpr (by kernel_rfl : vcFT cPtr Tryd.prog disk_New.no [] [(.int .i64 quota)] H R = disk_New.vc quota H R) hvc)

/-- fathom/pool.New -/
def pool_New.vc (d : Option Addr) (frames : Int) (H : Heap) (R : (Option Addr × Int) → Heap → Prop) : Prop :=
  br d.isNone (R (none, (1 : Int)) H) (br (decide (frames < (8 : Int))) (R (none, (30 : Int)) H) (br (decide (frames > (4096 : Int))) (R (none, (3 : Int)) H) (newM H fun m H1 => newM H1 fun m_1 H2 => newC H2 #[(.pointer d), (.int .i64 frames), (.map (some m)), (.map (some m_1)), (.int .i64 (1 : Int)), (.int .i64 (0 : Int)), (.int .i64 (0 : Int)), (.int .i64 (0 : Int))] ty_pool_Pool fun p H3 => R (some p, (0 : Int)) H3)))

theorem pool_New.of {d : Option Addr} {frames : Int} {H : Heap} {R : (Option Addr × Int) → Heap → Prop} (hvc : pool_New.vc d frames H R) : pool_New.sp d frames H R :=
  specT_of_vc prog_ng prog_mixed (c := (cTup [cPtr, (cInt .i64)])) (A := []) (args := [(.pointer d), (.int .i64 frames)]) (Eq.mpr (by kernel_rfl : vcFT (cTup [cPtr, (cInt .i64)]) Tryd.prog pool_New.no [] [(.pointer d), (.int .i64 frames)] H R = pool_New.vc d frames H R) hvc)

/-- (*fathom/disk.Disk).Create -/
def disk_Disk_Create.vc (d : Option Addr) (name : ByteArray) (H : Heap) (R : Int → Heap → Prop) : Prop :=
  disk_Disk_ready.sp d H fun (e : Int) H1 => br (e != (0 : Int)) (R e H1) (optK d fun a => ld cMap H1 (a.add 0) fun (x : Option Nat) => rdV (cTup [cPtr, cBool]) Tryd.prog (Instr.lookup ty_maparr_string_ptr_disk_file (.map x) (.string name) true) H1 fun (x_1 : (Option Addr × Bool)) => disk_named.sp name H1 fun (r : Bool) H2 => br (!r) (R (2 : Int) H2) (br x_1.2 (R (10 : Int) H2) (optK d fun a_1 => ld cMap H2 (a_1.add 0) fun (x_2 : Option Nat) => lenM H2 x_2 fun (n : Nat) => br ((n : Int) == (4096 : Int)) (R (3 : Int) H2) (disk_Disk_change.sp d H2 fun (e_1 : Int) H3 => br (e_1 == (0 : Int)) (optK d fun a_2 => ld cMap H3 (a_2.add 0) fun (x_3 : Option Nat) => newC H3 #[(.slice none 0 0), (.slice none 0 0), (.slice none 0 0)] ty_disk_file fun p H4 => doU Tryd.prog (Instr.mapUpdate ty_maparr_string_ptr_disk_file (.map x_3) (.string name) (.pointer (some p))) H4 fun H5 => R e_1 H5) (R e_1 H3)))))

theorem disk_Disk_Create.of {d : Option Addr} {name : ByteArray} {H : Heap} {R : Int → Heap → Prop} (hvc : disk_Disk_Create.vc d name H R) : disk_Disk_Create.sp d name H R :=
  specT_of_vc prog_ng prog_mixed (c := (cInt .i64)) (A := []) (args := [(.pointer d), (.string name)]) (Eq.mpr (by kernel_rfl : vcFT (cInt .i64) Tryd.prog disk_Disk_Create.no [] [(.pointer d), (.string name)] H R = disk_Disk_Create.vc d name H R) hvc)

/-- (*fathom/pool.Pool).Fresh -/
def pool_Pool_Fresh.vc (p : Option Addr) (name : ByteArray) (H : Heap) (R : (Int × Int × Int) → Heap → Prop) : Prop :=
  pool_Pool_ready.sp p H fun (e : Int) H1 => br (e != (0 : Int)) (R ((0 : Int), (0 : Int), e) H1) (optK p fun a => ld cPtr H1 (a.add 0) fun (x : Option Addr) => disk_Disk_Len.sp x name H1 fun (r : (Int × Int)) H2 => br (r.2 == (0 : Int)) (pool_Pool_room.sp p H2 fun (e_1 : Int) H3 => newC H3 #[(.string name), (.int .i64 r.1), (.int .u8 (0 : Int)), (.slice none 0 0), (.bool false), (.int .i64 (0 : Int)), (.int .i64 (0 : Int))] ty_pool_frame fun f_p H4 => br (e_1 == (0 : Int)) (pool_Pool_write.sp p (some f_p) H4 fun (e_2 : Int) H5 => br (e_2 != (0 : Int)) (pool_Pool_met.sp p e_2 H5 fun (r_1 : Int) H6 => R ((0 : Int), (0 : Int), r_1) H6) (pool_Pool_take.sp p (some f_p) H5 fun (r_2 : Int) H7 => R (r_2, r.1, (0 : Int)) H7)) (br (e_1 != (0 : Int)) (pool_Pool_met.sp p e_1 H4 fun (r_3 : Int) H8 => R ((0 : Int), (0 : Int), r_3) H8) (pool_Pool_take.sp p (some f_p) H4 fun (r_4 : Int) H9 => R (r_4, r.1, (0 : Int)) H9))) (newC H2 #[(.string name), (.int .i64 r.1), (.int .u8 (0 : Int)), (.slice none 0 0), (.bool false), (.int .i64 (0 : Int)), (.int .i64 (0 : Int))] ty_pool_frame fun f_p_1 H10 => br (r.2 == (0 : Int)) (pool_Pool_write.sp p (some f_p_1) H10 fun (e_3 : Int) H11 => br (e_3 != (0 : Int)) (pool_Pool_met.sp p e_3 H11 fun (r_5 : Int) H12 => R ((0 : Int), (0 : Int), r_5) H12) (pool_Pool_take.sp p (some f_p_1) H11 fun (r_6 : Int) H13 => R (r_6, r.1, (0 : Int)) H13)) (br (r.2 != (0 : Int)) (pool_Pool_met.sp p r.2 H10 fun (r_7 : Int) H14 => R ((0 : Int), (0 : Int), r_7) H14) (pool_Pool_take.sp p (some f_p_1) H10 fun (r_8 : Int) H15 => R (r_8, r.1, (0 : Int)) H15))))

theorem pool_Pool_Fresh.of {p : Option Addr} {name : ByteArray} {H : Heap} {R : (Int × Int × Int) → Heap → Prop} (hvc : pool_Pool_Fresh.vc p name H R) : pool_Pool_Fresh.sp p name H R :=
  specT_of_vc prog_ng prog_mixed (c := (cTup [(cInt .i64), (cInt .i64), (cInt .i64)])) (A := []) (args := [(.pointer p), (.string name)]) (Eq.mpr (by kernel_rfl : vcFT (cTup [(cInt .i64), (cInt .i64), (cInt .i64)]) Tryd.prog pool_Pool_Fresh.no [] [(.pointer p), (.string name)] H R = pool_Pool_Fresh.vc p name H R) hvc)

/-- (*fathom/pool.Pool).Put -/
def pool_Pool_Put.vc (p : Option Addr) (h : Int) (kind : Int) (b : Sl) (H : Heap) (R : Int → Heap → Prop) : Prop :=
  pool_Pool_held.sp p h H fun (r : (Option Addr × Int)) H1 => br (r.2 != (0 : Int)) (R r.2 H1) (br (decide ((b.n : Int) > (504 : Int))) (R (2 : Int) H1) (slices_Clone_sl_byte_byte.sp b H1 fun (r_1 : Sl) H2 => optK r.1 fun a => st H2 (a.add 2) (.int .u8 kind) fun H3 => optK r.1 fun a_1 => st H3 (a_1.add 3) r_1.v fun H4 => optK r.1 fun a_2 => st H4 (a_2.add 4) (.bool true) fun H5 => R (0 : Int) H5))

theorem pool_Pool_Put.of {p : Option Addr} {h : Int} {kind : Int} {b : Sl} {H : Heap} {R : Int → Heap → Prop} (hvc : pool_Pool_Put.vc p h kind b H R) : pool_Pool_Put.sp p h kind b H R :=
  specT_of_vc prog_ng prog_mixed (c := (cInt .i64)) (A := []) (args := [(.pointer p), (.int .i64 h), (.int .u8 kind), b.v]) (Eq.mpr (by kernel_rfl : vcFT (cInt .i64) Tryd.prog pool_Pool_Put.no [] [(.pointer p), (.int .i64 h), (.int .u8 kind), b.v] H R = pool_Pool_Put.vc p h kind b H R) hvc)

/-- (*fathom/pool.Pool).Unpin -/
def pool_Pool_Unpin.vc (p : Option Addr) (h : Int) (H : Heap) (R : Int → Heap → Prop) : Prop :=
  pool_Pool_held.sp p h H fun (r : (Option Addr × Int)) H1 => br (r.2 != (0 : Int)) (R r.2 H1) (optK p fun a => ld cMap H1 (a.add 3) fun (x : Option Nat) => doT cRaw Tryd.prog (Builtin.delete_ #[ty_maparr_int_ptr_pool_frame, ty_int] ty_ #[(.map x), (.int .i64 h)]) H1 fun (_ : Value) H2 => optK p fun a_1 => ld (cInt .i64) H2 (a_1.add 5) fun (x_1 : Int) => optK p fun a_2 => st H2 (a_2.add 5) (.int .i64 (IntKind.i64.wrap (x_1 + (1 : Int)))) fun H3 => optK r.1 fun a_3 => ld (cInt .i64) H3 (a_3.add 5) fun (x_2 : Int) => optK p fun a_4 => ld (cInt .i64) H3 (a_4.add 5) fun (x_3 : Int) => optK r.1 fun a_5 => st H3 (a_5.add 5) (.int .i64 (IntKind.i64.wrap (x_2 - (1 : Int)))) fun H4 => optK r.1 fun a_6 => st H4 (a_6.add 6) (.int .i64 x_3) fun H5 => R (0 : Int) H5)

theorem pool_Pool_Unpin.of {p : Option Addr} {h : Int} {H : Heap} {R : Int → Heap → Prop} (hvc : pool_Pool_Unpin.vc p h H R) : pool_Pool_Unpin.sp p h H R :=
  specT_of_vc prog_ng prog_mixed (c := (cInt .i64)) (A := []) (args := [(.pointer p), (.int .i64 h)]) (Eq.mpr (by kernel_rfl : vcFT (cInt .i64) Tryd.prog pool_Pool_Unpin.no [] [(.pointer p), (.int .i64 h)] H R = pool_Pool_Unpin.vc p h H R) hvc)

/-- fathom/tree.Open -/
def tree_Open.vc (p : Option Addr) (name : ByteArray) (width : Int) (H : Heap) (R : (Option Addr × Int) → Heap → Prop) : Prop :=
  br p.isNone (R (none, (1 : Int)) H) (row_Room.sp width H fun (r : Int) H1 => br (r == (0 : Int)) (R (none, (60 : Int)) H1) (newC H1 #[(.pointer p), (.string name), (.int .i64 width), (.int .i64 (0 : Int)), (.int .i64 (0 : Int)), (.int .i64 (0 : Int)), (.int .i64 (0 : Int)), (.bool false)] ty_tree_Tree fun t_p H2 => tree_Tree_look.sp (some t_p) (0 : Int) H2 fun (r_1 : (Int × Sl × Int)) H3 => br (r_1.2.2 != (0 : Int)) (R (none, r_1.2.2) H3) (br ((r_1.1 != (5 : Int)) || ((r_1.2.1.n : Int) != (14 : Int))) (R (none, (280 : Int)) H3) (optK r_1.2.1.a fun a => (0 ≤ (0 : Int) ∧ (0 : Int) < (r_1.2.1.n : Int)) ∧ ld (cInt .u8) H3 (a.add ((0 : Int).toNat * 1)) fun (x : Int) => br ((IntKind.i64.wrap x) != width) (R (none, (280 : Int)) H3) (optK r_1.2.1.a fun a_1 => (0 ≤ (1 : Int) ∧ (1 : Int) < (r_1.2.1.n : Int)) ∧ ld (cInt .u8) H3 (a_1.add ((1 : Int).toNat * 1)) fun (x_1 : Int) => br (x_1 == (0 : Int)) (R (none, (280 : Int)) H3) ((0 ≤ (6 : Int) ∧ (6 : Int) ≤ (r_1.2.1.n : Int)) ∧ row_Get.sp (Sl.mk (slA r_1.2.1.a r_1.2.1.c ((6 : Int).toNat) 1) (r_1.2.1.n - ((6 : Int).toNat)) (r_1.2.1.c - ((6 : Int).toNat))) (1 : Int) H3 fun (r_2 : (Sl × Int)) H4 => optK r_2.1.a fun a_2 => (0 ≤ (0 : Int) ∧ (0 : Int) < (r_2.1.n : Int)) ∧ ld cSl H4 (a_2.add ((0 : Int).toNat * 1)) fun (x_2 : Sl) => optK x_2.a fun a_3 => (0 ≤ (0 : Int) ∧ (0 : Int) < (x_2.n : Int)) ∧ ld (cInt .u64) H4 (a_3.add ((0 : Int).toNat * 1)) fun (x_3 : Int) => br (decide (x_3 > (528482304 : Int))) (R (none, (280 : Int)) H4) (∃ G : Heap → Prop, G H4 ∧ optK r_1.2.1.a fun a_4 => (0 ≤ (1 : Int) ∧ (1 : Int) < (r_1.2.1.n : Int)) ∧ ldC (cInt .u8) G (a_4.add ((1 : Int).toNat * 1)) fun (x_4 : Int) => (0 ≤ (2 : Int) ∧ (2 : Int) ≤ (r_1.2.1.n : Int)) ∧ tree_number.sp (Sl.mk (slA r_1.2.1.a r_1.2.1.c ((2 : Int).toNat) 1) (r_1.2.1.n - ((2 : Int).toNat)) (r_1.2.1.c - ((2 : Int).toNat))) H4 fun (r_3 : Int) H5 => G H5 ∧ optK r_2.1.a fun a_5 => (0 ≤ (0 : Int) ∧ (0 : Int) < (r_2.1.n : Int)) ∧ ldC cSl G (a_5.add ((0 : Int).toNat * 1)) fun (x_5 : Sl) => optK x_5.a fun a_6 => (0 ≤ (0 : Int) ∧ (0 : Int) < (x_5.n : Int)) ∧ ldC (cInt .u64) G (a_6.add ((0 : Int).toNat * 1)) fun (x_6 : Int) => st H5 (t_p.add 4) (.int .i64 (IntKind.i64.wrap x_4)) fun H6 => st H6 (t_p.add 3) (.int .i64 r_3) fun H7 => st H7 (t_p.add 5) (.int .i64 (IntKind.i64.wrap x_6)) fun H8 => R (some t_p, (0 : Int)) H8)))))))

theorem tree_Open.of {p : Option Addr} {name : ByteArray} {width : Int} {H : Heap} {R : (Option Addr × Int) → Heap → Prop} (hvc : tree_Open.vc p name width H R) : tree_Open.sp p name width H R :=
  specT_of_vc prog_ng prog_mixed (c := (cTup [cPtr, (cInt .i64)])) (A := []) (args := [(.pointer p), (.string name), (.int .i64 width)]) (Eq.mpr (by kernel_rfl : vcFT (cTup [cPtr, (cInt .i64)]) Tryd.prog tree_Open.no [] [(.pointer p), (.string name), (.int .i64 width)] H R = tree_Open.vc p name width H R) hvc)

/-- fathom/fathomlaw09.works -/
def fathomlaw09_works.vc  (H : Heap) (R : Bool → Heap → Prop) : Prop :=
  disk_New.sp (20 : Int) H fun (d : Option Addr) H1 => pool_New.sp d (8 : Int) H1 fun (r : (Option Addr × Int)) H2 => tree_New.sp r.1 (ByteArray.mk #[102]) (1 : Int) H2 fun (r_1 : (Option Addr × Int)) H3 => br (r_1.2 != (0 : Int)) (R false H3) (br r_1.1.isNone (R false H3) (newC H3 #[(.int .u64 (9 : Int))] ty_uint64 fun p H4 => tree_Tree_Insert.sp r_1.1 (Sl.mk (some p) 1 1) H4 fun (r_2 : (Bool × Int)) H5 => newC H5 #[(.int .u64 (5 : Int))] ty_uint64 fun p_1 H6 => tree_Tree_Insert.sp r_1.1 (Sl.mk (some p_1) 1 1) H6 fun (r_3 : (Bool × Int)) H7 => newC H7 #[(.int .u64 (5 : Int))] ty_uint64 fun p_2 H8 => tree_Tree_Insert.sp r_1.1 (Sl.mk (some p_2) 1 1) H8 fun (r_4 : (Bool × Int)) H9 => newC H9 #[(.int .u64 (6 : Int))] ty_uint64 fun p_3 H10 => tree_Tree_From.sp r_1.1 (Sl.mk (some p_3) 1 1) H10 fun (c : Option Addr) H11 => br c.isNone (R false H11) (tree_Cursor_Next.sp c H11 fun (r_5 : (Sl × Bool × Int)) H12 => tree_Cursor_Next.sp c H12 fun (r_6 : (Sl × Bool × Int)) H13 => br (((((((((((r_2.2 == (0 : Int)) && (r_3.2 == (0 : Int))) && (r_4.2 == (0 : Int))) && (r_5.2.2 == (0 : Int))) && (r_6.2.2 == (0 : Int))) && r_2.1) && r_3.1) && (!r_4.1)) && r_5.2.1) && (!r_6.2.1)) && ((r_5.1.n : Int) == (1 : Int))) (optK r_5.1.a fun a => (0 ≤ (0 : Int) ∧ (0 : Int) < (r_5.1.n : Int)) ∧ ld (cInt .u64) H13 (a.add ((0 : Int).toNat * 1)) fun (x : Int) => br (x == (9 : Int)) (tree_Tree_Count.sp r_1.1 H13 fun (r_7 : Int) H14 => R (r_7 == (2 : Int)) H14) (R false H13)) (R false H13))))

theorem fathomlaw09_works.of {H : Heap} {R : Bool → Heap → Prop} (hvc : fathomlaw09_works.vc H R) : fathomlaw09_works.sp H R :=
  specT_of_vc prog_ng prog_mixed (c := cBool) (A := []) (args := []) (Eq.mpr (by kernel_rfl : vcFT cBool Tryd.prog fathomlaw09_works.no [] [] H R = fathomlaw09_works.vc H R) hvc)

/-- (*fathom/tree.Tree).Has -/
def tree_Tree_Has.vc (t : Option Addr) (l : Sl) (H : Heap) (R : (Bool × Int) → Heap → Prop) : Prop :=
  tree_Tree_ready.sp t H fun (e : Int) H1 => br (e != (0 : Int)) (R (false, e) H1) (optK t fun a => ld (cInt .i64) H1 (a.add 2) fun (x : Int) => br ((l.n : Int) != x) (R (false, (60 : Int)) H1) (optK t fun a_1 => ld (cInt .i64) H1 (a_1.add 3) fun (x_1 : Int) => optK t fun a_2 => ld (cInt .i64) H1 (a_2.add 4) fun (x_2 : Int) => tree_Tree_find.sp t x_1 (IntKind.i64.wrap (x_2 - (1 : Int))) (Sl.mk none 0 0) (Sl.mk none 0 0) l false H1 fun (r : (Sl × Int)) H2 => br (r.2 != (0 : Int)) (tree_Tree_met.sp t r.2 H2 fun (r_1 : Int) H3 => R (false, r_1) H3) (br (!r.1.a.isNone) (row_Cmp.sp r.1 l H2 fun (r_2 : Int) H4 => R (r_2 == (0 : Int), (0 : Int)) H4) (R (false, (0 : Int)) H2))))

theorem tree_Tree_Has.of {t : Option Addr} {l : Sl} {H : Heap} {R : (Bool × Int) → Heap → Prop} (hvc : tree_Tree_Has.vc t l H R) : tree_Tree_Has.sp t l H R :=
  specT_of_vc prog_ng prog_mixed (c := (cTup [cBool, (cInt .i64)])) (A := []) (args := [(.pointer t), l.v]) (Eq.mpr (by kernel_rfl : vcFT (cTup [cBool, (cInt .i64)]) Tryd.prog tree_Tree_Has.no [] [(.pointer t), l.v] H R = tree_Tree_Has.vc t l H R) hvc)

/-- (*fathom/tree.Tree).Insert -/
def tree_Tree_Insert.vc (t : Option Addr) (l : Sl) (H : Heap) (R : (Bool × Int) → Heap → Prop) : Prop :=
  tree_Tree_ready.sp t H fun (e : Int) H1 => br (e != (0 : Int)) (R (false, e) H1) (optK t fun a => ld (cInt .i64) H1 (a.add 2) fun (x : Int) => br ((l.n : Int) != x) (R (false, (60 : Int)) H1) (∃ G : Heap → Prop, G H1 ∧ optK t fun a_1 => ldC (cInt .i64) G (a_1.add 3) fun (x_1 : Int) => optK t fun a_2 => ldC (cInt .i64) G (a_2.add 4) fun (x_2 : Int) => slices_Clone_sl_uint64_uint64.sp l H1 fun (r : Sl) H2 => G H2 ∧ tree_Tree_add.sp t x_1 (IntKind.i64.wrap (x_2 - (1 : Int))) (Sl.mk none 0 0) (Sl.mk none 0 0) r H2 fun (r_1 : (Bool × Option Addr × Sl × Int)) H3 => cut Int (fun J => br (r_1.2.2.2 == (0 : Int)) (br (!r_1.2.1.isNone) (∃ G_1 : Heap → Prop, G_1 H3 ∧ optK t fun a_3 => ldC (cInt .i64) G_1 (a_3.add 3) fun (x_3 : Int) => optK r_1.2.1 fun a_4 => ldC (cInt .i64) G_1 (a_4.add 0) fun (x_4 : Int) => (newC H3 #[(.int .i64 x_3), (.int .i64 x_4)] ty_int fun p H5 => G_1 H5 ∧ newC H5 #[r_1.2.2.1.v] ty_sl_uint64 fun p_1 H6 => G_1 H6 ∧ newC H6 #[(.int .i64 (-1 : Int)), (.slice (some p) 2 2), (.slice (some p_1) 1 1)] ty_tree_node fun top_p H7 => G_1 H7 ∧ tree_Tree_write.sp t (some top_p) H7 fun (e_1 : Int) H8 => br (e_1 == (0 : Int)) (ld (cInt .i64) H8 (top_p.add 0) fun (x_5 : Int) => optK t fun a_5 => st H8 (a_5.add 3) (.int .i64 x_5) fun H9 => optK t fun a_6 => ld (cInt .i64) H9 (a_6.add 4) fun (x_6 : Int) => optK t fun a_7 => st H9 (a_7.add 4) (.int .i64 (IntKind.i64.wrap (x_6 + (1 : Int)))) fun H10 => J e_1 H10) (J e_1 H8)) ∧ (newC H3 #[r_1.2.2.1.v] ty_sl_uint64 fun p_2 H11 => G_1 H11 ∧ newC H11 #[(.int .i64 x_3), (.int .i64 x_4)] ty_int fun p_3 H12 => G_1 H12 ∧ newC H12 #[(.int .i64 (-1 : Int)), (.slice (some p_3) 2 2), (.slice (some p_2) 1 1)] ty_tree_node fun top_p_1 H13 => G_1 H13 ∧ tree_Tree_write.sp t (some top_p_1) H13 fun (e_2 : Int) H14 => br (e_2 == (0 : Int)) (ld (cInt .i64) H14 (top_p_1.add 0) fun (x_7 : Int) => optK t fun a_8 => st H14 (a_8.add 3) (.int .i64 x_7) fun H15 => optK t fun a_9 => ld (cInt .i64) H15 (a_9.add 4) fun (x_8 : Int) => optK t fun a_10 => st H15 (a_10.add 4) (.int .i64 (IntKind.i64.wrap (x_8 + (1 : Int)))) fun H16 => J e_2 H16) (J e_2 H14))) (J r_1.2.2.2 H3)) (J r_1.2.2.2 H3)) fun (z : Int) H4 => br (z != (0 : Int)) (tree_Tree_met.sp t z H4 fun (r_2 : Int) H17 => R (false, r_2) H17) (br r_1.1 (optK t fun a_11 => ld (cInt .i64) H4 (a_11.add 5) fun (x_9 : Int) => optK t fun a_12 => st H4 (a_12.add 5) (.int .i64 (IntKind.i64.wrap (x_9 + (1 : Int)))) fun H18 => R (r_1.1, (0 : Int)) H18) (R (r_1.1, (0 : Int)) H4))))

theorem tree_Tree_Insert.of {t : Option Addr} {l : Sl} {H : Heap} {R : (Bool × Int) → Heap → Prop} (hvc : tree_Tree_Insert.vc t l H R) : tree_Tree_Insert.sp t l H R :=
  specT_of_vc prog_ng prog_mixed (c := (cTup [cBool, (cInt .i64)])) (A := [(100013, [(10, (cInt .i64))]), (300008, [(8, cBool), (11, cBool)])]) (args := [(.pointer t), l.v]) (Eq.mpr (by kernel_rfl : vcFT (cTup [cBool, (cInt .i64)]) Tryd.prog tree_Tree_Insert.no [(100013, [(10, (cInt .i64))]), (300008, [(8, cBool), (11, cBool)])] [(.pointer t), l.v] H R = tree_Tree_Insert.vc t l H R) hvc)

/-- (*fathom/tree.Tree).From -/
def tree_Tree_From.vc (t : Option Addr) (low : Sl) (H : Heap) (R : Option Addr → Heap → Prop) : Prop :=
  br t.isNone (R none H) (slices_Clone_sl_uint64_uint64.sp low H fun (r : Sl) H1 => newC H1 #[(.pointer t), r.v, (.bool false)] ty_tree_Cursor fun p H2 => R (some p) H2)

theorem tree_Tree_From.of {t : Option Addr} {low : Sl} {H : Heap} {R : Option Addr → Heap → Prop} (hvc : tree_Tree_From.vc t low H R) : tree_Tree_From.sp t low H R :=
  specT_of_vc prog_ng prog_mixed (c := cPtr) (A := []) (args := [(.pointer t), low.v]) (Eq.mpr (by kernel_rfl : vcFT cPtr Tryd.prog tree_Tree_From.no [] [(.pointer t), low.v] H R = tree_Tree_From.vc t low H R) hvc)

/-- (*fathom/tree.Cursor).Next -/
def tree_Cursor_Next.vc (c : Option Addr) (H : Heap) (R : (Sl × Bool × Int) → Heap → Prop) : Prop :=
  br c.isNone (R ((Sl.mk none 0 0), false, (1 : Int)) H) (optK c fun a => ld cPtr H (a.add 0) fun (t : Option Addr) => tree_Tree_ready.sp t H fun (e : Int) H1 => br (e != (0 : Int)) (R ((Sl.mk none 0 0), false, e) H1) (optK t fun a_1 => ld (cInt .i64) H1 (a_1.add 3) fun (x : Int) => optK t fun a_2 => ld (cInt .i64) H1 (a_2.add 4) fun (x_1 : Int) => optK c fun a_3 => ld cSl H1 (a_3.add 1) fun (x_2 : Sl) => optK c fun a_4 => ld cBool H1 (a_4.add 2) fun (x_3 : Bool) => tree_Tree_find.sp t x (IntKind.i64.wrap (x_1 - (1 : Int))) (Sl.mk none 0 0) (Sl.mk none 0 0) x_2 x_3 H1 fun (r : (Sl × Int)) H2 => br (r.2 != (0 : Int)) (tree_Tree_met.sp t r.2 H2 fun (r_1 : Int) H3 => R ((Sl.mk none 0 0), false, r_1) H3) (br r.1.a.isNone (tree_Tree_met.sp t r.2 H2 fun (r_2 : Int) H4 => R ((Sl.mk none 0 0), false, r_2) H4) (slices_Clone_sl_uint64_uint64.sp r.1 H2 fun (r_3 : Sl) H5 => optK c fun a_5 => st H5 (a_5.add 1) r_3.v fun H6 => optK c fun a_6 => st H6 (a_6.add 2) (.bool true) fun H7 => R (r.1, true, (0 : Int)) H7))))

theorem tree_Cursor_Next.of {c : Option Addr} {H : Heap} {R : (Sl × Bool × Int) → Heap → Prop} (hvc : tree_Cursor_Next.vc c H R) : tree_Cursor_Next.sp c H R :=
  specT_of_vc prog_ng prog_mixed (c := (cTup [cSl, cBool, (cInt .i64)])) (A := []) (args := [(.pointer c)]) (Eq.mpr (by kernel_rfl : vcFT (cTup [cSl, cBool, (cInt .i64)]) Tryd.prog tree_Cursor_Next.no [] [(.pointer c)] H R = tree_Cursor_Next.vc c H R) hvc)

/-- (*fathom/disk.Disk).Used -/
def disk_Disk_Used.vc (d : Option Addr) (H : Heap) (R : Int → Heap → Prop) : Prop :=
  br d.isNone (R (0 : Int) H) (optK d fun a => ld (cInt .i64) H (a.add 1) fun (x : Int) => R x H)

theorem disk_Disk_Used.of {d : Option Addr} {H : Heap} {R : Int → Heap → Prop} (hvc : disk_Disk_Used.vc d H R) : disk_Disk_Used.sp d H R :=
  specT_of_vc prog_ng prog_mixed (c := (cInt .i64)) (A := []) (args := [(.pointer d)]) (Eq.mpr (by kernel_rfl : vcFT (cInt .i64) Tryd.prog disk_Disk_Used.no [] [(.pointer d)] H R = disk_Disk_Used.vc d H R) hvc)

/-- (*fathom/disk.Disk).Quota -/
def disk_Disk_Quota.vc (d : Option Addr) (H : Heap) (R : Int → Heap → Prop) : Prop :=
  br d.isNone (R (0 : Int) H) (optK d fun a => ld (cInt .i64) H (a.add 3) fun (x : Int) => R x H)

theorem disk_Disk_Quota.of {d : Option Addr} {H : Heap} {R : Int → Heap → Prop} (hvc : disk_Disk_Quota.vc d H R) : disk_Disk_Quota.sp d H R :=
  specT_of_vc prog_ng prog_mixed (c := (cInt .i64)) (A := []) (args := [(.pointer d)]) (Eq.mpr (by kernel_rfl : vcFT (cInt .i64) Tryd.prog disk_Disk_Quota.no [] [(.pointer d)] H R = disk_Disk_Quota.vc d H R) hvc)

/-- (*fathom/tree.Tree).Depth -/
def tree_Tree_Depth.vc (t : Option Addr) (H : Heap) (R : Int → Heap → Prop) : Prop :=
  br t.isNone (R (0 : Int) H) (optK t fun a => ld cBool H (a.add 7) fun (x : Bool) => br x (R (0 : Int) H) (optK t fun a_1 => ld (cInt .i64) H (a_1.add 4) fun (x_1 : Int) => R x_1 H))

theorem tree_Tree_Depth.of {t : Option Addr} {H : Heap} {R : Int → Heap → Prop} (hvc : tree_Tree_Depth.vc t H R) : tree_Tree_Depth.sp t H R :=
  specT_of_vc prog_ng prog_mixed (c := (cInt .i64)) (A := []) (args := [(.pointer t)]) (Eq.mpr (by kernel_rfl : vcFT (cInt .i64) Tryd.prog tree_Tree_Depth.no [] [(.pointer t)] H R = tree_Tree_Depth.vc t H R) hvc)

/-- (*fathom/pool.Pool).Pinned -/
def pool_Pool_Pinned.vc (p : Option Addr) (H : Heap) (R : Int → Heap → Prop) : Prop :=
  br (!p.isNone) (optK p fun a => ld cMap H (a.add 2) fun (x : Option Nat) => doT cPtr Tryd.prog (Instr.range ty_maparr_pool_spot_ptr_pool_frame (.map x)) H fun (it : Option Addr) H1 => LoopVC Int (0 : Int) H1 fun next n H2 => doT cNext Tryd.prog (Instr.next (.pointer it) false ty_) H2 fun (nx : Bool × List Value) H3 => br nx.1 (doT cTwo Tryd.prog (Instr.entry (.pointer it)) H3 fun (en : Value × Value) H4 => asT cPtr en.2 fun (f : Option Addr) => optK f fun a_1 => ld (cInt .i64) H4 (a_1.add 5) fun (x_1 : Int) => next (IntKind.i64.wrap (n + (if (1 : Int) < x_1 then (1 : Int) else x_1))) H4) (R n H3)) (R (0 : Int) H)

theorem pool_Pool_Pinned.of {p : Option Addr} {H : Heap} {R : Int → Heap → Prop} (hvc : pool_Pool_Pinned.vc p H R) : pool_Pool_Pinned.sp p H R :=
  specT_of_vc prog_ng prog_mixed (c := (cInt .i64)) (A := [(4, [(3, (cInt .i64))])]) (args := [(.pointer p)]) (Eq.mpr (by kernel_rfl : vcFT (cInt .i64) Tryd.prog pool_Pool_Pinned.no [(4, [(3, (cInt .i64))])] [(.pointer p)] H R = pool_Pool_Pinned.vc p H R) hvc)

/-- (*fathom/disk.Disk).ready -/
def disk_Disk_ready.vc (d : Option Addr) (H : Heap) (R : Int → Heap → Prop) : Prop :=
  br d.isNone (R (1 : Int) H) (optK d fun a => ld cBool H (a.add 9) fun (x : Bool) => br x (R (4 : Int) H) (R (0 : Int) H))

theorem disk_Disk_ready.of {d : Option Addr} {H : Heap} {R : Int → Heap → Prop} (hvc : disk_Disk_ready.vc d H R) : disk_Disk_ready.sp d H R :=
  specT_of_vc prog_ng prog_mixed (c := (cInt .i64)) (A := []) (args := [(.pointer d)]) (Eq.mpr (by kernel_rfl : vcFT (cInt .i64) Tryd.prog disk_Disk_ready.no [] [(.pointer d)] H R = disk_Disk_ready.vc d H R) hvc)

/-- fathom/disk.named -/
def disk_named.vc (s : ByteArray) (H : Heap) (R : Bool → Heap → Prop) : Prop :=
  R ((!(s.toList == ByteArray.empty.toList)) && (decide ((s.size : Int) ≤ (100 : Int)))) H

theorem disk_named.of {s : ByteArray} {H : Heap} {R : Bool → Heap → Prop} (hvc : disk_named.vc s H R) : disk_named.sp s H R :=
  specT_of_vc prog_ng prog_mixed (c := cBool) (A := []) (args := [(.string s)]) (Eq.mpr (by kernel_rfl : vcFT cBool Tryd.prog disk_named.no [] [(.string s)] H R = disk_named.vc s H R) hvc)

/-- (*fathom/disk.Disk).change -/
def disk_Disk_change.vc (d : Option Addr) (H : Heap) (R : Int → Heap → Prop) : Prop :=
  optK d fun a => ld cBool H ((a.add 6).add 0) fun (x : Bool) => br x (optK d fun a_1 => ld (cInt .i64) H ((a_1.add 6).add 1) fun (x_1 : Int) => br (x_1 == (0 : Int)) (optK d fun a_2 => st H (a_2.add 9) (.bool true) fun H1 => R (4 : Int) H1) (optK d fun a_3 => ld (cInt .i64) H ((a_3.add 6).add 1) fun (x_2 : Int) => optK d fun a_4 => st H ((a_4.add 6).add 1) (.int .i64 (IntKind.i64.wrap (x_2 - (1 : Int)))) fun H2 => optK d fun a_5 => ld (cInt .i64) H2 (a_5.add 4) fun (x_3 : Int) => optK d fun a_6 => st H2 (a_6.add 4) (.int .i64 (IntKind.i64.wrap (x_3 + (1 : Int)))) fun H3 => R (0 : Int) H3)) (optK d fun a_7 => ld (cInt .i64) H (a_7.add 4) fun (x_4 : Int) => optK d fun a_8 => st H (a_8.add 4) (.int .i64 (IntKind.i64.wrap (x_4 + (1 : Int)))) fun H4 => R (0 : Int) H4)

theorem disk_Disk_change.of {d : Option Addr} {H : Heap} {R : Int → Heap → Prop} (hvc : disk_Disk_change.vc d H R) : disk_Disk_change.sp d H R :=
  specT_of_vc prog_ng prog_mixed (c := (cInt .i64)) (A := []) (args := [(.pointer d)]) (Eq.mpr (by kernel_rfl : vcFT (cInt .i64) Tryd.prog disk_Disk_change.no [] [(.pointer d)] H R = disk_Disk_change.vc d H R) hvc)

/-- (*fathom/pool.Pool).ready -/
def pool_Pool_ready.vc (p : Option Addr) (H : Heap) (R : Int → Heap → Prop) : Prop :=
  br p.isNone (R (1 : Int) H) (optK p fun a => ld (cInt .i64) H (a.add 7) fun (x : Int) => R x H)

theorem pool_Pool_ready.of {p : Option Addr} {H : Heap} {R : Int → Heap → Prop} (hvc : pool_Pool_ready.vc p H R) : pool_Pool_ready.sp p H R :=
  specT_of_vc prog_ng prog_mixed (c := (cInt .i64)) (A := []) (args := [(.pointer p)]) (Eq.mpr (by kernel_rfl : vcFT (cInt .i64) Tryd.prog pool_Pool_ready.no [] [(.pointer p)] H R = pool_Pool_ready.vc p H R) hvc)

/-- (*fathom/disk.Disk).Len -/
def disk_Disk_Len.vc (d : Option Addr) (name : ByteArray) (H : Heap) (R : (Int × Int) → Heap → Prop) : Prop :=
  disk_Disk_open.sp d name H fun (r : (Option Addr × Int)) H1 => br (r.2 != (0 : Int)) (R ((0 : Int), r.2) H1) (optK r.1 fun a => ld cSl H1 (a.add 0) fun (x : Sl) => R ((x.n : Int), (0 : Int)) H1)

theorem disk_Disk_Len.of {d : Option Addr} {name : ByteArray} {H : Heap} {R : (Int × Int) → Heap → Prop} (hvc : disk_Disk_Len.vc d name H R) : disk_Disk_Len.sp d name H R :=
  specT_of_vc prog_ng prog_mixed (c := (cTup [(cInt .i64), (cInt .i64)])) (A := []) (args := [(.pointer d), (.string name)]) (Eq.mpr (by kernel_rfl : vcFT (cTup [(cInt .i64), (cInt .i64)]) Tryd.prog disk_Disk_Len.no [] [(.pointer d), (.string name)] H R = disk_Disk_Len.vc d name H R) hvc)

/-- (*fathom/pool.Pool).room -/
def pool_Pool_room.vc (p : Option Addr) (H : Heap) (R : Int → Heap → Prop) : Prop :=
  optK p fun a => ld cMap H (a.add 2) fun (x : Option Nat) => lenM H x fun (n : Nat) => optK p fun a_1 => ld (cInt .i64) H (a_1.add 1) fun (x_1 : Int) => br (decide ((n : Int) < x_1)) (R (0 : Int) H) (pool_Pool_first.sp p H fun (f : Option Addr) H1 => br f.isNone (R (31 : Int) H1) (optK f fun a_2 => ld cBool H1 (a_2.add 4) fun (x_2 : Bool) => br x_2 (pool_Pool_write.sp p f H1 fun (e : Int) H2 => br (e != (0 : Int)) (R e H2) (optK p fun a_3 => ld cMap H2 (a_3.add 2) fun (x_3 : Option Nat) => optK f fun a_4 => ldA (cAgg [cStr, (cInt .i64)]) 2 H2 (a_4.add 0) fun (x_4 : (ByteArray × Int)) => doT cRaw Tryd.prog (Builtin.delete_ #[ty_maparr_pool_spot_ptr_pool_frame, ty_pool_spot] ty_ #[(.map x_3), (.agg #[(.string x_4.1), (.int .i64 x_4.2)])]) H2 fun (_ : Value) H3 => R (0 : Int) H3)) (optK p fun a_5 => ld cMap H1 (a_5.add 2) fun (x_5 : Option Nat) => optK f fun a_6 => ldA (cAgg [cStr, (cInt .i64)]) 2 H1 (a_6.add 0) fun (x_6 : (ByteArray × Int)) => doT cRaw Tryd.prog (Builtin.delete_ #[ty_maparr_pool_spot_ptr_pool_frame, ty_pool_spot] ty_ #[(.map x_5), (.agg #[(.string x_6.1), (.int .i64 x_6.2)])]) H1 fun (_ : Value) H4 => R (0 : Int) H4)))

theorem pool_Pool_room.of {p : Option Addr} {H : Heap} {R : Int → Heap → Prop} (hvc : pool_Pool_room.vc p H R) : pool_Pool_room.sp p H R :=
  specT_of_vc prog_ng prog_mixed (c := (cInt .i64)) (A := []) (args := [(.pointer p)]) (Eq.mpr (by kernel_rfl : vcFT (cInt .i64) Tryd.prog pool_Pool_room.no [] [(.pointer p)] H R = pool_Pool_room.vc p H R) hvc)

/-- (*fathom/pool.Pool).write -/
def pool_Pool_write.vc (p : Option Addr) (f : Option Addr) (H : Heap) (R : Int → Heap → Prop) : Prop :=
  optK f fun a => ld (cInt .u8) H (a.add 2) fun (x : Int) => optK f fun a_1 => ld cSl H (a_1.add 3) fun (x_1 : Sl) => page_Seal.sp x x_1 H fun (r : (Sl × Int)) H1 => br (r.2 != (0 : Int)) (R r.2 H1) (optK p fun a_2 => ld cPtr H1 (a_2.add 0) fun (x_2 : Option Addr) => optK f fun a_3 => ld cStr H1 ((a_3.add 0).add 0) fun (x_3 : ByteArray) => optK f fun a_4 => ld (cInt .i64) H1 ((a_4.add 0).add 1) fun (x_4 : Int) => disk_Disk_Write.sp x_2 x_3 x_4 r.1 H1 fun (e : Int) H2 => br (e == (0 : Int)) (optK f fun a_5 => st H2 (a_5.add 4) (.bool false) fun H3 => R e H3) (R e H2))

theorem pool_Pool_write.of {p : Option Addr} {f : Option Addr} {H : Heap} {R : Int → Heap → Prop} (hvc : pool_Pool_write.vc p f H R) : pool_Pool_write.sp p f H R :=
  specT_of_vc prog_ng prog_mixed (c := (cInt .i64)) (A := []) (args := [(.pointer p), (.pointer f)]) (Eq.mpr (by kernel_rfl : vcFT (cInt .i64) Tryd.prog pool_Pool_write.no [] [(.pointer p), (.pointer f)] H R = pool_Pool_write.vc p f H R) hvc)

/-- (*fathom/pool.Pool).met -/
def pool_Pool_met.vc (p : Option Addr) (e : Int) (H : Heap) (R : Int → Heap → Prop) : Prop :=
  br (e == (4 : Int)) (br (e == (4 : Int)) (optK p fun a => st H (a.add 7) (.int .i64 e) fun H1 => R e H1) (R e H)) (br (e == (5 : Int)) (br (e == (5 : Int)) (optK p fun a_1 => st H (a_1.add 7) (.int .i64 e) fun H2 => R e H2) (R e H)) (br (e == (20 : Int)) (optK p fun a_2 => st H (a_2.add 7) (.int .i64 e) fun H3 => R e H3) (R e H)))

theorem pool_Pool_met.of {p : Option Addr} {e : Int} {H : Heap} {R : Int → Heap → Prop} (hvc : pool_Pool_met.vc p e H R) : pool_Pool_met.sp p e H R :=
  specT_of_vc prog_ng prog_mixed (c := (cInt .i64)) (A := []) (args := [(.pointer p), (.int .i64 e)]) (Eq.mpr (by kernel_rfl : vcFT (cInt .i64) Tryd.prog pool_Pool_met.no [] [(.pointer p), (.int .i64 e)] H R = pool_Pool_met.vc p e H R) hvc)

/-- (*fathom/pool.Pool).take -/
def pool_Pool_take.vc (p : Option Addr) (f : Option Addr) (H : Heap) (R : Int → Heap → Prop) : Prop :=
  optK p fun a => ld cMap H (a.add 2) fun (x : Option Nat) => optK f fun a_1 => ldA (cAgg [cStr, (cInt .i64)]) 2 H (a_1.add 0) fun (x_1 : (ByteArray × Int)) => doU Tryd.prog (Instr.mapUpdate ty_maparr_pool_spot_ptr_pool_frame (.map x) (.agg #[(.string x_1.1), (.int .i64 x_1.2)]) (.pointer f)) H fun H1 => optK p fun a_2 => ld (cInt .i64) H1 (a_2.add 6) fun (x_2 : Int) => optK p fun a_3 => ld cMap H1 (a_3.add 2) fun (x_3 : Option Nat) => lenM H1 x_3 fun (n : Nat) => optK p fun a_4 => st H1 (a_4.add 6) (.int .i64 (if (n : Int) > x_2 then (n : Int) else x_2)) fun H2 => pool_Pool_pin.sp p f H2 fun (r : Int) H3 => R r H3

theorem pool_Pool_take.of {p : Option Addr} {f : Option Addr} {H : Heap} {R : Int → Heap → Prop} (hvc : pool_Pool_take.vc p f H R) : pool_Pool_take.sp p f H R :=
  specT_of_vc prog_ng prog_mixed (c := (cInt .i64)) (A := []) (args := [(.pointer p), (.pointer f)]) (Eq.mpr (by kernel_rfl : vcFT (cInt .i64) Tryd.prog pool_Pool_take.no [] [(.pointer p), (.pointer f)] H R = pool_Pool_take.vc p f H R) hvc)

/-- (*fathom/pool.Pool).held -/
def pool_Pool_held.vc (p : Option Addr) (h : Int) (H : Heap) (R : (Option Addr × Int) → Heap → Prop) : Prop :=
  pool_Pool_ready.sp p H fun (e : Int) H1 => br (e != (0 : Int)) (R (none, e) H1) (optK p fun a => ld cMap H1 (a.add 3) fun (x : Option Nat) => rdV (cTup [cPtr, cBool]) Tryd.prog (Instr.lookup ty_maparr_int_ptr_pool_frame (.map x) (.int .i64 h) true) H1 fun (x_1 : (Option Addr × Bool)) => br x_1.2 (R (x_1.1, (0 : Int)) H1) (R (none, (32 : Int)) H1))

theorem pool_Pool_held.of {p : Option Addr} {h : Int} {H : Heap} {R : (Option Addr × Int) → Heap → Prop} (hvc : pool_Pool_held.vc p h H R) : pool_Pool_held.sp p h H R :=
  specT_of_vc prog_ng prog_mixed (c := (cTup [cPtr, (cInt .i64)])) (A := []) (args := [(.pointer p), (.int .i64 h)]) (Eq.mpr (by kernel_rfl : vcFT (cTup [cPtr, (cInt .i64)]) Tryd.prog pool_Pool_held.no [] [(.pointer p), (.int .i64 h)] H R = pool_Pool_held.vc p h H R) hvc)

/-- slices.Clone[[]byte,byte] -/
def slices_Clone_sl_byte_byte.vc (s : Sl) (H : Heap) (R : Sl → Heap → Prop) : Prop :=
  br s.a.isNone (R (Sl.mk none 0 0) H) (newC H #[] ty_uint8 fun p H1 => doT cSl Tryd.prog (Builtin.append_ #[ty_sl_uint8, ty_sl_uint8] ty_sl_uint8 #[(.slice (some p) 0 0), s.v]) H1 fun (s_1 : Sl) H2 => R s_1 H2)

theorem slices_Clone_sl_byte_byte.of {s : Sl} {H : Heap} {R : Sl → Heap → Prop} (hvc : slices_Clone_sl_byte_byte.vc s H R) : slices_Clone_sl_byte_byte.sp s H R :=
  specT_of_vc prog_ng prog_mixed (c := cSl) (A := []) (args := [s.v]) (Eq.mpr (by kernel_rfl : vcFT cSl Tryd.prog slices_Clone_sl_byte_byte.no [] [s.v] H R = slices_Clone_sl_byte_byte.vc s H R) hvc)

/-- fathom/row.Room -/
def row_Room.vc (width : Int) (H : Heap) (R : Int → Heap → Prop) : Prop :=
  row_size.sp width H fun (n : Int) H1 => br (decide (n > (0 : Int))) (n ≠ 0 ∧ R (IntKind.i64.wrap (Int.tdiv (504 : Int) n)) H1) (R (0 : Int) H1)

theorem row_Room.of {width : Int} {H : Heap} {R : Int → Heap → Prop} (hvc : row_Room.vc width H R) : row_Room.sp width H R :=
  specT_of_vc prog_ng prog_mixed (c := (cInt .i64)) (A := []) (args := [(.int .i64 width)]) (Eq.mpr (by kernel_rfl : vcFT (cInt .i64) Tryd.prog row_Room.no [] [(.int .i64 width)] H R = row_Room.vc width H R) hvc)

/-- (*fathom/tree.Tree).look -/
def tree_Tree_look.vc (t : Option Addr) (page : Int) (H : Heap) (R : (Int × Sl × Int) → Heap → Prop) : Prop :=
  optK t fun a => ld cPtr H (a.add 0) fun (x : Option Addr) => optK t fun a_1 => ld cStr H (a_1.add 1) fun (x_1 : ByteArray) => pool_Pool_Pin.sp x x_1 page H fun (r : (Int × Int)) H1 => br (r.2 != (0 : Int)) (R ((0 : Int), (Sl.mk none 0 0), r.2) H1) (optK t fun a_2 => ld cPtr H1 (a_2.add 0) fun (x_2 : Option Addr) => pool_Pool_Get.sp x_2 r.1 H1 fun (r_1 : (Int × Sl × Int)) H2 => br (r_1.2.2 == (0 : Int)) (optK t fun a_3 => ld cPtr H2 (a_3.add 0) fun (x_3 : Option Addr) => pool_Pool_Unpin.sp x_3 r.1 H2 fun (e : Int) H3 => R (r_1.1, r_1.2.1, e) H3) (R (r_1.1, r_1.2.1, r_1.2.2) H2))

theorem tree_Tree_look.of {t : Option Addr} {page : Int} {H : Heap} {R : (Int × Sl × Int) → Heap → Prop} (hvc : tree_Tree_look.vc t page H R) : tree_Tree_look.sp t page H R :=
  specT_of_vc prog_ng prog_mixed (c := (cTup [(cInt .u8), cSl, (cInt .i64)])) (A := []) (args := [(.pointer t), (.int .i64 page)]) (Eq.mpr (by kernel_rfl : vcFT (cTup [(cInt .u8), cSl, (cInt .i64)]) Tryd.prog tree_Tree_look.no [] [(.pointer t), (.int .i64 page)] H R = tree_Tree_look.vc t page H R) hvc)

/-- fathom/row.Get -/
def row_Get.vc (b : Sl) (width : Int) (H : Heap) (R : (Sl × Int) → Heap → Prop) : Prop :=
  newC H #[(.int .i64 width)] ty_int fun p H1 => newC H1 (zc Tryd.prog ty_sl_sl_uint64) ty_sl_sl_uint64 fun p_1 H2 => newC H2 (zc Tryd.prog ty_api_Errno) ty_api_Errno fun p_2 H3 => ld (cInt .i64) H3 p fun (x : Int) => row_size.sp x H3 fun (n : Int) H4 => br (n == (0 : Int)) (st H4 p_1 (.slice none 0 0) fun H5 => st H5 p_2 (.int .i64 (60 : Int)) fun H6 => ld cSl H6 p_1 fun (res : Sl) => ld (cInt .i64) H6 p_2 fun (res_1 : Int) => R (res, res_1) H6) (n ≠ 0 ∧ br ((Int.tmod (b.n : Int) n) != (0 : Int)) (st H4 p_1 (.slice none 0 0) fun H7 => st H7 p_2 (.int .i64 (60 : Int)) fun H8 => ld cSl H8 p_1 fun (res_2 : Sl) => ld (cInt .i64) H8 p_2 fun (res_3 : Int) => R (res_2, res_3) H8) (n ≠ 0 ∧ doT cSl Tryd.prog (Instr.makeSlice ty_sl_sl_uint64 (.int .i64 (0 : Int)) (.int .i64 (IntKind.i64.wrap (Int.tdiv (b.n : Int) n)))) H4 fun (sl : Sl) H9 => newC H9 (zc Tryd.prog ty_sl_sl_uint64) ty_sl_sl_uint64 fun p_3 H10 => st H10 p_3 sl.v fun H11 => slices_Chunk_sl_byte_byte.sp b n H11 fun (r : Value) H12 => RangeVC Tryd.prog r H12 (fun l rec vs H13 KK => onSome (Cods.dec [cSl] vs) fun (z : Sl) => H13[l]? = some (.loop (rec .ready none)) ∧ cut Unit (fun J => ld (cInt .i64) (H13.setIfInBounds l (.loop (rec .busy none))) p fun (x_1 : Int) => br (x_1 == (0 : Int)) (optK z.a fun a => (0 ≤ (0 : Int) ∧ (0 : Int) < (z.n : Int)) ∧ ld (cInt .u8) (H13.setIfInBounds l (.loop (rec .busy none))) (a.add ((0 : Int).toNat * 1)) fun (x_2 : Int) => br (x_2 != (0 : Int)) (st (H13.setIfInBounds l (.loop (rec .busy none))) p_1 (.slice none 0 0) fun H15 => st H15 p_2 (.int .i64 (60 : Int)) fun H16 => H16[l]? = some (.loop (rec .busy none)) ∧ KK false (H16.setIfInBounds l (.loop (rec .done (some .ret))))) (J () (H13.setIfInBounds l (.loop (rec .busy none))))) (J () (H13.setIfInBounds l (.loop (rec .busy none))))) fun (_ : Unit) H14 => ld (cInt .i64) H14 p fun (x_3 : Int) => doT cSl Tryd.prog (Instr.makeSlice ty_sl_uint64 (.int .i64 x_3) (.int .i64 x_3)) H14 fun (l_1 : Sl) H17 => ld (cInt .i64) H17 p fun (x_4 : Int) => LoopVC Int (0 : Int) H17 fun next z_2 H18 => br (decide (z_2 < (IntKind.i64.wrap ((8 : Int) * x_4)))) (optK l_1.a fun a_1 => (0 ≤ (IntKind.i64.wrap (Int.tdiv z_2 (8 : Int))) ∧ (IntKind.i64.wrap (Int.tdiv z_2 (8 : Int))) < (l_1.n : Int)) ∧ ld (cInt .u64) H18 (a_1.add ((IntKind.i64.wrap (Int.tdiv z_2 (8 : Int))).toNat * 1)) fun (x_5 : Int) => optK z.a fun a_2 => (0 ≤ z_2 ∧ z_2 < (z.n : Int)) ∧ ld (cInt .u8) H18 (a_2.add (z_2.toNat * 1)) fun (x_6 : Int) => optK l_1.a fun a_3 => (0 ≤ (IntKind.i64.wrap (Int.tdiv z_2 (8 : Int))) ∧ (IntKind.i64.wrap (Int.tdiv z_2 (8 : Int))) < (l_1.n : Int)) ∧ st H18 (a_3.add ((IntKind.i64.wrap (Int.tdiv z_2 (8 : Int))).toNat * 1)) (.int .u64 (ior .u64 (ishl .u64 x_5 (8 : Int)) (IntKind.u64.wrap x_6))) fun H19 => next (IntKind.i64.wrap (z_2 + (1 : Int))) H19) (ld cSl H18 p_3 fun (x_7 : Sl) => newC H18 #[l_1.v] ty_sl_uint64 fun p_4 H20 => doT cSl Tryd.prog (Builtin.append_ #[ty_sl_sl_uint64, ty_sl_sl_uint64] ty_sl_sl_uint64 #[x_7.v, (.slice (some p_4) 1 1)]) H20 fun (s : Sl) H21 => st H21 p_3 s.v fun H22 => H22[l]? = some (.loop (rec .busy none)) ∧ KK true (H22.setIfInBounds l (.loop (rec .ready none))))) (fun r_1 H23 => ld cSl H23 p_3 fun (x_8 : Sl) => st H23 p_1 x_8.v fun H24 => st H24 p_2 (.int .i64 (0 : Int)) fun H25 => H25[r_1]? = some (.deferred (some [])) ∧ ld cSl (H25.setIfInBounds r_1 (.deferred none)) p_1 fun (res_4 : Sl) => ld (cInt .i64) (H25.setIfInBounds r_1 (.deferred none)) p_2 fun (res_5 : Int) => R (res_4, res_5) (H25.setIfInBounds r_1 (.deferred none))) (fun i r_1 H23 => bif Nat.beq i 0 then ld cSl H23 p_3 fun (x_9 : Sl) => st H23 p_1 x_9.v fun H26 => st H26 p_2 (.int .i64 (0 : Int)) fun H27 => H27[r_1]? = some (.deferred (some [])) ∧ ld cSl (H27.setIfInBounds r_1 (.deferred none)) p_1 fun (res_6 : Sl) => ld (cInt .i64) (H27.setIfInBounds r_1 (.deferred none)) p_2 fun (res_7 : Int) => R (res_6, res_7) (H27.setIfInBounds r_1 (.deferred none)) else False) (fun r_1 H23 => H23[r_1]? = some (.deferred (some [])) ∧ ld cSl (H23.setIfInBounds r_1 (.deferred none)) p_1 fun (res_8 : Sl) => ld (cInt .i64) (H23.setIfInBounds r_1 (.deferred none)) p_2 fun (res_9 : Int) => R (res_8, res_9) (H23.setIfInBounds r_1 (.deferred none)))))

theorem row_Get.of {b : Sl} {width : Int} {H : Heap} {R : (Sl × Int) → Heap → Prop} (hvc : row_Get.vc b width H R) : row_Get.sp b width H R :=
  specT_of_vc prog_ng prog_mixed (c := (cTup [cSl, (cInt .i64)])) (A := [(200007, [(30, cSl)]), (100009, []), (11, [(43, (cInt .i64))])]) (args := [b.v, (.int .i64 width)]) (Eq.mpr (by kernel_rfl : vcFT (cTup [cSl, (cInt .i64)]) Tryd.prog row_Get.no [(200007, [(30, cSl)]), (100009, []), (11, [(43, (cInt .i64))])] [b.v, (.int .i64 width)] H R = row_Get.vc b width H R) hvc)

/-- fathom/tree.number -/
def tree_number.vc (b : Sl) (H : Heap) (R : Int → Heap → Prop) : Prop :=
  optK b.a fun a => (0 ≤ (0 : Int) ∧ (0 : Int) < (b.n : Int)) ∧ ld (cInt .u8) H (a.add ((0 : Int).toNat * 1)) fun (x : Int) => optK b.a fun a_1 => (0 ≤ (1 : Int) ∧ (1 : Int) < (b.n : Int)) ∧ ld (cInt .u8) H (a_1.add ((1 : Int).toNat * 1)) fun (x_1 : Int) => optK b.a fun a_2 => (0 ≤ (2 : Int) ∧ (2 : Int) < (b.n : Int)) ∧ ld (cInt .u8) H (a_2.add ((2 : Int).toNat * 1)) fun (x_2 : Int) => optK b.a fun a_3 => (0 ≤ (3 : Int) ∧ (3 : Int) < (b.n : Int)) ∧ ld (cInt .u8) H (a_3.add ((3 : Int).toNat * 1)) fun (x_3 : Int) => R (ior .i64 (ior .i64 (ior .i64 (ishl .i64 (IntKind.i64.wrap x) (24 : Int)) (ishl .i64 (IntKind.i64.wrap x_1) (16 : Int))) (ishl .i64 (IntKind.i64.wrap x_2) (8 : Int))) (IntKind.i64.wrap x_3)) H

theorem tree_number.of {b : Sl} {H : Heap} {R : Int → Heap → Prop} (hvc : tree_number.vc b H R) : tree_number.sp b H R :=
  specT_of_vc prog_ng prog_mixed (c := (cInt .i64)) (A := []) (args := [b.v]) (Eq.mpr (by kernel_rfl : vcFT (cInt .i64) Tryd.prog tree_number.no [] [b.v] H R = tree_number.vc b H R) hvc)

/-- fathom/tree.New -/
def tree_New.vc (p : Option Addr) (name : ByteArray) (width : Int) (H : Heap) (R : (Option Addr × Int) → Heap → Prop) : Prop :=
  br p.isNone (R (none, (1 : Int)) H) (row_Room.sp width H fun (r : Int) H1 => br (r == (0 : Int)) (R (none, (60 : Int)) H1) (pool_Pool_Disk.sp p H1 fun (r_1 : Option Addr) H2 => disk_Disk_Create.sp r_1 name H2 fun (e : Int) H3 => br (e != (0 : Int)) (R (none, e) H3) (newC H3 #[(.pointer p), (.string name), (.int .i64 width), (.int .i64 (1 : Int)), (.int .i64 (1 : Int)), (.int .i64 (0 : Int)), (.int .i64 (0 : Int)), (.bool false)] ty_tree_Tree fun t_p H4 => tree_Tree_head.sp (some t_p) true H4 fun (e_1 : Int) H5 => cut Int (fun J => br (e_1 == (0 : Int)) (newC H5 #[(.int .i64 (-1 : Int)), (.slice none 0 0), (.slice none 0 0)] ty_tree_node fun p_1 H7 => tree_Tree_write.sp (some t_p) (some p_1) H7 fun (e_2 : Int) H8 => J e_2 H8) (J e_1 H5)) fun (z : Int) H6 => br (z != (0 : Int)) (R (none, z) H6) (R (some t_p, (0 : Int)) H6))))

theorem tree_New.of {p : Option Addr} {name : ByteArray} {width : Int} {H : Heap} {R : (Option Addr × Int) → Heap → Prop} (hvc : tree_New.vc p name width H R) : tree_New.sp p name width H R :=
  specT_of_vc prog_ng prog_mixed (c := (cTup [cPtr, (cInt .i64)])) (A := [(100012, [(10, (cInt .i64))])]) (args := [(.pointer p), (.string name), (.int .i64 width)]) (Eq.mpr (by kernel_rfl : vcFT (cTup [cPtr, (cInt .i64)]) Tryd.prog tree_New.no [(100012, [(10, (cInt .i64))])] [(.pointer p), (.string name), (.int .i64 width)] H R = tree_New.vc p name width H R) hvc)

/-- (*fathom/tree.Tree).Count -/
def tree_Tree_Count.vc (t : Option Addr) (H : Heap) (R : Int → Heap → Prop) : Prop :=
  br t.isNone (R (0 : Int) H) (optK t fun a => ld cBool H (a.add 7) fun (x : Bool) => br x (R (0 : Int) H) (optK t fun a_1 => ld (cInt .i64) H (a_1.add 5) fun (x_1 : Int) => R x_1 H))

theorem tree_Tree_Count.of {t : Option Addr} {H : Heap} {R : Int → Heap → Prop} (hvc : tree_Tree_Count.vc t H R) : tree_Tree_Count.sp t H R :=
  specT_of_vc prog_ng prog_mixed (c := (cInt .i64)) (A := []) (args := [(.pointer t)]) (Eq.mpr (by kernel_rfl : vcFT (cInt .i64) Tryd.prog tree_Tree_Count.no [] [(.pointer t)] H R = tree_Tree_Count.vc t H R) hvc)

/-- (*fathom/tree.Tree).ready -/
def tree_Tree_ready.vc (t : Option Addr) (H : Heap) (R : Int → Heap → Prop) : Prop :=
  br t.isNone (R (1 : Int) H) (optK t fun a => ld (cInt .i64) H (a.add 6) fun (x : Int) => br (x != (0 : Int)) (optK t fun a_1 => ld (cInt .i64) H (a_1.add 6) fun (x_1 : Int) => R x_1 H) (optK t fun a_2 => ld cBool H (a_2.add 7) fun (x_2 : Bool) => br x_2 (R (2 : Int) H) (R (0 : Int) H)))

theorem tree_Tree_ready.of {t : Option Addr} {H : Heap} {R : Int → Heap → Prop} (hvc : tree_Tree_ready.vc t H R) : tree_Tree_ready.sp t H R :=
  specT_of_vc prog_ng prog_mixed (c := (cInt .i64)) (A := []) (args := [(.pointer t)]) (Eq.mpr (by kernel_rfl : vcFT (cInt .i64) Tryd.prog tree_Tree_ready.no [] [(.pointer t)] H R = tree_Tree_ready.vc t H R) hvc)

/-- (*fathom/tree.Tree).find -/
def tree_Tree_find.vc (t : Option Addr) (page : Int) (above : Int) (s_ : Sl) (s_1 : Sl) (low : Sl) (strict : Bool) (H : Heap) (R : (Sl × Int) → Heap → Prop) : Prop :=
  newC H #[s_.v, s_1.v] ty_tree_span fun p H1 => ldA (cAgg [cSl, cSl]) 2 H1 p fun (x : (Sl × Sl)) => tree_Tree_node.sp t page above x.1 x.2 H1 fun (r : (Option Addr × Int)) H2 => br (r.2 != (0 : Int)) (R ((Sl.mk none 0 0), r.2) H2) (br (above == (0 : Int)) (optK r.1 fun a => ld cSl H2 (a.add 2) fun (x_1 : Sl) => slices_BinarySearchFunc_sl_sl_uint64_sl_uint64_sl_uint64.sp x_1 low H2 fun (r_1 : (Int × Bool)) H3 => br (r_1.2 && strict) (optK r.1 fun a_1 => ld cSl H3 (a_1.add 2) fun (x_2 : Sl) => br ((IntKind.i64.wrap (r_1.1 + (1 : Int))) == (x_2.n : Int)) (R ((Sl.mk none 0 0), (0 : Int)) H3) (∃ G : Heap → Prop, G H3 ∧ optK t fun a_2 => ld (cInt .i64) H3 (a_2.add 2) fun (x_3 : Int) => doT cSl Tryd.prog (Instr.makeSlice ty_sl_uint64 (.int .i64 (0 : Int)) (.int .i64 (IntKind.i64.wrap (x_3 + (1 : Int))))) H3 fun (sl : Sl) H4 => G H4 ∧ optK r.1 fun a_3 => ldC cSl G (a_3.add 2) fun (x_4 : Sl) => optK x_4.a fun a_4 => (0 ≤ (IntKind.i64.wrap (r_1.1 + (1 : Int))) ∧ (IntKind.i64.wrap (r_1.1 + (1 : Int))) < (x_4.n : Int)) ∧ ldC cSl G (a_4.add ((IntKind.i64.wrap (r_1.1 + (1 : Int))).toNat * 1)) fun (x_5 : Sl) => doT cSl Tryd.prog (Builtin.append_ #[ty_sl_uint64, ty_sl_uint64] ty_sl_uint64 #[sl.v, x_5.v]) H4 fun (s : Sl) H5 => R (s, (0 : Int)) H5)) (optK r.1 fun a_5 => ld cSl H3 (a_5.add 2) fun (x_6 : Sl) => br (r_1.1 == (x_6.n : Int)) (R ((Sl.mk none 0 0), (0 : Int)) H3) (∃ G_1 : Heap → Prop, G_1 H3 ∧ optK t fun a_6 => ld (cInt .i64) H3 (a_6.add 2) fun (x_7 : Int) => doT cSl Tryd.prog (Instr.makeSlice ty_sl_uint64 (.int .i64 (0 : Int)) (.int .i64 (IntKind.i64.wrap (x_7 + (1 : Int))))) H3 fun (sl_1 : Sl) H6 => G_1 H6 ∧ optK r.1 fun a_7 => ldC cSl G_1 (a_7.add 2) fun (x_8 : Sl) => optK x_8.a fun a_8 => (0 ≤ r_1.1 ∧ r_1.1 < (x_8.n : Int)) ∧ ldC cSl G_1 (a_8.add (r_1.1.toNat * 1)) fun (x_9 : Sl) => doT cSl Tryd.prog (Builtin.append_ #[ty_sl_uint64, ty_sl_uint64] ty_sl_uint64 #[sl_1.v, x_9.v]) H6 fun (s_2 : Sl) H7 => R (s_2, (0 : Int)) H7))) (tree_node_child.sp r.1 low H2 fun (i : Int) H8 => LoopVC Int i H8 fun next i_1 H9 => optK r.1 fun a_9 => ld cSl H9 (a_9.add 1) fun (x_10 : Sl) => br (decide (i_1 < (x_10.n : Int))) (∃ G_2 : Heap → Prop, G_2 H9 ∧ optK r.1 fun a_10 => ldC cSl G_2 (a_10.add 1) fun (x_11 : Sl) => optK x_11.a fun a_11 => (0 ≤ i_1 ∧ i_1 < (x_11.n : Int)) ∧ ldC (cInt .i64) G_2 (a_11.add (i_1.toNat * 1)) fun (x_12 : Int) => ldA (cAgg [cSl, cSl]) 2 H9 p fun (x_13 : (Sl × Sl)) => tree_span_of.sp x_13.1 x_13.2 r.1 i_1 H9 fun (r_2 : (Sl × Sl)) H10 => G_2 H10 ∧ tree_Tree_find.sp t x_12 (IntKind.i64.wrap (above - (1 : Int))) r_2.1 r_2.2 low strict H10 fun (r_3 : (Sl × Int)) H11 => br ((!r_3.1.a.isNone) || (r_3.2 != (0 : Int))) (R (r_3.1, r_3.2) H11) (next (IntKind.i64.wrap (i_1 + (1 : Int))) H11)) (R ((Sl.mk none 0 0), (0 : Int)) H9)))

theorem tree_Tree_find.of {t : Option Addr} {page : Int} {above : Int} {s_ : Sl} {s_1 : Sl} {low : Sl} {strict : Bool} {H : Heap} {R : (Sl × Int) → Heap → Prop} (hvc : tree_Tree_find.vc t page above s_ s_1 low strict H R) : tree_Tree_find.sp t page above s_ s_1 low strict H R :=
  specT_of_vc prog_ng prog_mixed (c := (cTup [cSl, (cInt .i64)])) (A := [(12, [(18, (cInt .i64))])]) (args := [(.pointer t), (.int .i64 page), (.int .i64 above), (.agg #[s_.v, s_1.v]), low.v, (.bool strict)]) (Eq.mpr (by kernel_rfl : vcFT (cTup [cSl, (cInt .i64)]) Tryd.prog tree_Tree_find.no [(12, [(18, (cInt .i64))])] [(.pointer t), (.int .i64 page), (.int .i64 above), (.agg #[s_.v, s_1.v]), low.v, (.bool strict)] H R = tree_Tree_find.vc t page above s_ s_1 low strict H R) hvc)

/-- (*fathom/tree.Tree).met -/
def tree_Tree_met.vc (t : Option Addr) (e : Int) (H : Heap) (R : Int → Heap → Prop) : Prop :=
  br (e != (0 : Int)) (optK t fun a => st H (a.add 6) (.int .i64 e) fun H1 => R e H1) (R e H)

theorem tree_Tree_met.of {t : Option Addr} {e : Int} {H : Heap} {R : Int → Heap → Prop} (hvc : tree_Tree_met.vc t e H R) : tree_Tree_met.sp t e H R :=
  specT_of_vc prog_ng prog_mixed (c := (cInt .i64)) (A := []) (args := [(.pointer t), (.int .i64 e)]) (Eq.mpr (by kernel_rfl : vcFT (cInt .i64) Tryd.prog tree_Tree_met.no [] [(.pointer t), (.int .i64 e)] H R = tree_Tree_met.vc t e H R) hvc)

/-- fathom/row.Cmp -/
def row_Cmp.vc (a : Sl) (b : Sl) (H : Heap) (R : Int → Heap → Prop) : Prop :=
  slices_CompareFunc_sl_uint64_sl_uint64_uint64_uint64.sp a b H fun (r : Int) H1 => R r H1

theorem row_Cmp.of {a : Sl} {b : Sl} {H : Heap} {R : Int → Heap → Prop} (hvc : row_Cmp.vc a b H R) : row_Cmp.sp a b H R :=
  specT_of_vc prog_ng prog_mixed (c := (cInt .i64)) (A := []) (args := [a.v, b.v]) (Eq.mpr (by kernel_rfl : vcFT (cInt .i64) Tryd.prog row_Cmp.no [] [a.v, b.v] H R = row_Cmp.vc a b H R) hvc)

/-- (*fathom/tree.Tree).add -/
def tree_Tree_add.vc (t : Option Addr) (page : Int) (above : Int) (s_ : Sl) (s_1 : Sl) (l : Sl) (H : Heap) (R : (Bool × Option Addr × Sl × Int) → Heap → Prop) : Prop :=
  newC H #[s_.v, s_1.v] ty_tree_span fun p H1 => ldA (cAgg [cSl, cSl]) 2 H1 p fun (x : (Sl × Sl)) => tree_Tree_node.sp t page above x.1 x.2 H1 fun (r : (Option Addr × Int)) H2 => br (r.2 != (0 : Int)) (R (false, none, (Sl.mk none 0 0), r.2) H2) (cut Unit (fun J => br (above == (0 : Int)) (optK r.1 fun a => ld cSl H2 (a.add 2) fun (x_1 : Sl) => slices_BinarySearchFunc_sl_sl_uint64_sl_uint64_sl_uint64.sp x_1 l H2 fun (r_1 : (Int × Bool)) H4 => br r_1.2 (R (false, none, (Sl.mk none 0 0), (0 : Int)) H4) (optK r.1 fun a_1 => ld cSl H4 (a_1.add 2) fun (x_2 : Sl) => newC H4 #[l.v] ty_sl_uint64 fun p_1 H5 => slices_Insert_sl_sl_uint64_sl_uint64.sp x_2 r_1.1 (Sl.mk (some p_1) 1 1) H5 fun (r_2 : Sl) H6 => optK r.1 fun a_2 => st H6 (a_2.add 2) r_2.v fun H7 => J () H7)) (tree_node_child.sp r.1 l H2 fun (i : Int) H8 => ∃ G : Heap → Prop, G H8 ∧ optK r.1 fun a_3 => ldC cSl G (a_3.add 1) fun (x_3 : Sl) => optK x_3.a fun a_4 => (0 ≤ i ∧ i < (x_3.n : Int)) ∧ ldC (cInt .i64) G (a_4.add (i.toNat * 1)) fun (x_4 : Int) => ldA (cAgg [cSl, cSl]) 2 H8 p fun (x_5 : (Sl × Sl)) => tree_span_of.sp x_5.1 x_5.2 r.1 i H8 fun (r_3 : (Sl × Sl)) H9 => G H9 ∧ tree_Tree_add.sp t x_4 (IntKind.i64.wrap (above - (1 : Int))) r_3.1 r_3.2 l H9 fun (r_4 : (Bool × Option Addr × Sl × Int)) H10 => br (r_4.2.2.2 != (0 : Int)) (R (r_4.1, none, (Sl.mk none 0 0), r_4.2.2.2) H10) (br r_4.2.1.isNone (R (r_4.1, none, (Sl.mk none 0 0), r_4.2.2.2) H10) (optK r.1 fun a_5 => ld cSl H10 (a_5.add 2) fun (x_6 : Sl) => newC H10 #[r_4.2.2.1.v] ty_sl_uint64 fun p_2 H11 => slices_Insert_sl_sl_uint64_sl_uint64.sp x_6 i (Sl.mk (some p_2) 1 1) H11 fun (r_5 : Sl) H12 => optK r.1 fun a_6 => st H12 (a_6.add 2) r_5.v fun H13 => ∃ G_1 : Heap → Prop, G_1 H13 ∧ optK r.1 fun a_7 => ldC cSl G_1 (a_7.add 1) fun (x_7 : Sl) => optK r_4.2.1 fun a_8 => ld (cInt .i64) H13 (a_8.add 0) fun (x_8 : Int) => newC H13 #[(.int .i64 x_8)] ty_int fun p_3 H14 => G_1 H14 ∧ slices_Insert_sl_int_int.sp x_7 (IntKind.i64.wrap (i + (1 : Int))) (Sl.mk (some p_3) 1 1) H14 fun (r_6 : Sl) H15 => optK r.1 fun a_9 => st H15 (a_9.add 1) r_6.v fun H16 => J () H16)))) fun (_ : Unit) H3 => cut (Option Addr × Sl) (fun J_1 => ∃ G_2 : Heap → Prop, G_2 H3 ∧ br (above == (0 : Int)) (optK r.1 fun a_10 => ldC cSl G_2 (a_10.add 2) fun (x_9 : Sl) => optK t fun a_11 => ld (cInt .i64) H3 (a_11.add 2) fun (x_10 : Int) => row_Room.sp x_10 H3 fun (r_7 : Int) H18 => G_2 H18 ∧ br (decide ((x_9.n : Int) > r_7)) (tree_Tree_split.sp t r.1 H18 fun (r_8 : (Option Addr × Sl × Int)) H19 => br (r_8.2.2 != (0 : Int)) (R (false, none, (Sl.mk none 0 0), r_8.2.2) H19) (J_1 (r_8.1, r_8.2.1) H19)) (optK r.1 fun a_12 => ldC cSl G_2 (a_12.add 1) fun (x_11 : Sl) => tree_Tree_fan.sp t H18 fun (r_9 : Int) H20 => G_2 H20 ∧ br (decide ((x_11.n : Int) > r_9)) (tree_Tree_split.sp t r.1 H20 fun (r_10 : (Option Addr × Sl × Int)) H21 => br (r_10.2.2 != (0 : Int)) (R (false, none, (Sl.mk none 0 0), r_10.2.2) H21) (J_1 (r_10.1, r_10.2.1) H21)) (J_1 (none, (Sl.mk none 0 0)) H20))) (optK r.1 fun a_13 => ldC cSl G_2 (a_13.add 1) fun (x_12 : Sl) => tree_Tree_fan.sp t H3 fun (r_11 : Int) H22 => G_2 H22 ∧ br (decide ((x_12.n : Int) > r_11)) (tree_Tree_split.sp t r.1 H22 fun (r_12 : (Option Addr × Sl × Int)) H23 => br (r_12.2.2 != (0 : Int)) (R (false, none, (Sl.mk none 0 0), r_12.2.2) H23) (J_1 (r_12.1, r_12.2.1) H23)) (J_1 (none, (Sl.mk none 0 0)) H22))) fun (z_1 : (Option Addr × Sl)) H17 => tree_Tree_write.sp t r.1 H17 fun (r_13 : Int) H24 => R (true, z_1.1, z_1.2, r_13) H24)

theorem tree_Tree_add.of {t : Option Addr} {page : Int} {above : Int} {s_ : Sl} {s_1 : Sl} {l : Sl} {H : Heap} {R : (Bool × Option Addr × Sl × Int) → Heap → Prop} (hvc : tree_Tree_add.vc t page above s_ s_1 l H R) : tree_Tree_add.sp t page above s_ s_1 l H R :=
  specT_of_vc prog_ng prog_mixed (c := (cTup [cBool, cPtr, cSl, (cInt .i64)])) (A := [(100015, []), (100021, [(23, cPtr), (24, cSl)])]) (args := [(.pointer t), (.int .i64 page), (.int .i64 above), (.agg #[s_.v, s_1.v]), l.v]) (Eq.mpr (by kernel_rfl : vcFT (cTup [cBool, cPtr, cSl, (cInt .i64)]) Tryd.prog tree_Tree_add.no [(100015, []), (100021, [(23, cPtr), (24, cSl)])] [(.pointer t), (.int .i64 page), (.int .i64 above), (.agg #[s_.v, s_1.v]), l.v] H R = tree_Tree_add.vc t page above s_ s_1 l H R) hvc)

/-- slices.Clone[[]uint64,uint64] -/
def slices_Clone_sl_uint64_uint64.vc (s : Sl) (H : Heap) (R : Sl → Heap → Prop) : Prop :=
  br s.a.isNone (R (Sl.mk none 0 0) H) (newC H #[] ty_uint64 fun p H1 => doT cSl Tryd.prog (Builtin.append_ #[ty_sl_uint64, ty_sl_uint64] ty_sl_uint64 #[(.slice (some p) 0 0), s.v]) H1 fun (s_1 : Sl) H2 => R s_1 H2)

theorem slices_Clone_sl_uint64_uint64.of {s : Sl} {H : Heap} {R : Sl → Heap → Prop} (hvc : slices_Clone_sl_uint64_uint64.vc s H R) : slices_Clone_sl_uint64_uint64.sp s H R :=
  specT_of_vc prog_ng prog_mixed (c := cSl) (A := []) (args := [s.v]) (Eq.mpr (by kernel_rfl : vcFT cSl Tryd.prog slices_Clone_sl_uint64_uint64.no [] [s.v] H R = slices_Clone_sl_uint64_uint64.vc s H R) hvc)

/-- (*fathom/tree.Tree).write -/
def tree_Tree_write.vc (t : Option Addr) (n : Option Addr) (H : Heap) (R : Int → Heap → Prop) : Prop :=
  cut (Int × Int) (fun J => optK n fun a => ld (cInt .i64) H (a.add 0) fun (x : Int) => br (decide (x < (0 : Int))) (optK t fun a_1 => ld cPtr H (a_1.add 0) fun (x_1 : Option Addr) => optK t fun a_2 => ld cStr H (a_2.add 1) fun (x_2 : ByteArray) => pool_Pool_Fresh.sp x_1 x_2 H fun (r : (Int × Int × Int)) H2 => optK n fun a_3 => st H2 (a_3.add 0) (.int .i64 r.2.1) fun H3 => J (r.1, r.2.2) H3) (optK t fun a_4 => ld cPtr H (a_4.add 0) fun (x_3 : Option Addr) => optK t fun a_5 => ld cStr H (a_5.add 1) fun (x_4 : ByteArray) => optK n fun a_6 => ld (cInt .i64) H (a_6.add 0) fun (x_5 : Int) => pool_Pool_Pin.sp x_3 x_4 x_5 H fun (r_1 : (Int × Int)) H4 => J (r_1.1, r_1.2) H4)) fun (z : (Int × Int)) H1 => br (z.2 != (0 : Int)) (R z.2 H1) (newC H1 #[] ty_uint8 fun b_p H5 => cut (Int × Sl) (fun J_1 => optK n fun a_7 => ld cSl H5 (a_7.add 1) fun (x_6 : Sl) => br (decide ((x_6.n : Int) > (0 : Int))) (optK n fun a_8 => ld cSl H5 (a_8.add 1) fun (x_7 : Sl) => optK n fun a_9 => ld cSl H5 (a_9.add 1) fun (x_8 : Sl) => newC H5 #[(.int .u8 (IntKind.u8.wrap (ishr .i64 (x_7.n : Int) (8 : Int)))), (.int .u8 (IntKind.u8.wrap (x_8.n : Int)))] ty_uint8 fun p H7 => doT cSl Tryd.prog (Builtin.append_ #[ty_sl_uint8, ty_sl_uint8] ty_sl_uint8 #[(.slice (some b_p) 0 0), (.slice (some p) 2 2)]) H7 fun (b : Sl) H8 => optK n fun a_10 => ld cSl H8 (a_10.add 1) fun (x_9 : Sl) => LoopVC (Sl × Int) (b, (0 : Int)) H8 fun next z_2 H9 => br (decide (z_2.2 < (x_9.n : Int))) (optK x_9.a fun a_11 => (0 ≤ z_2.2 ∧ z_2.2 < (x_9.n : Int)) ∧ ld (cInt .i64) H9 (a_11.add (z_2.2.toNat * 1)) fun (k : Int) => tree_bytes.sp k H9 fun (r_2 : Sl) H10 => doT cSl Tryd.prog (Builtin.append_ #[ty_sl_uint8, ty_sl_uint8] ty_sl_uint8 #[z_2.1.v, r_2.v]) H10 fun (b_1 : Sl) H11 => next (b_1, IntKind.i64.wrap (z_2.2 + (1 : Int))) H11) (J_1 ((4 : Int), z_2.1) H9)) (J_1 ((3 : Int), (Sl.mk (some b_p) 0 0)) H5)) fun (z_1 : (Int × Sl)) H6 => optK n fun a_12 => ld cSl H6 (a_12.add 2) fun (x_10 : Sl) => LoopVC (Sl × Int) (z_1.2, (0 : Int)) H6 fun next_1 z_3 H12 => br (decide (z_3.2 < (x_10.n : Int))) (optK x_10.a fun a_13 => (0 ≤ z_3.2 ∧ z_3.2 < (x_10.n : Int)) ∧ ld cSl H12 (a_13.add (z_3.2.toNat * 1)) fun (l : Sl) => row_Put.sp l H12 fun (r_3 : Sl) H13 => doT cSl Tryd.prog (Builtin.append_ #[ty_sl_uint8, ty_sl_uint8] ty_sl_uint8 #[z_3.1.v, r_3.v]) H13 fun (b_2 : Sl) H14 => next_1 (b_2, IntKind.i64.wrap (z_3.2 + (1 : Int))) H14) (optK t fun a_14 => ld cPtr H12 (a_14.add 0) fun (x_11 : Option Addr) => pool_Pool_Put.sp x_11 z.1 z_1.1 z_3.1 H12 fun (e : Int) H15 => br (e == (0 : Int)) (optK t fun a_15 => ld cPtr H15 (a_15.add 0) fun (x_12 : Option Addr) => pool_Pool_Unpin.sp x_12 z.1 H15 fun (e_1 : Int) H16 => R e_1 H16) (R e H15)))

theorem tree_Tree_write.of {t : Option Addr} {n : Option Addr} {H : Heap} {R : Int → Heap → Prop} (hvc : tree_Tree_write.vc t n H R) : tree_Tree_write.sp t n H R :=
  specT_of_vc prog_ng prog_mixed (c := (cInt .i64)) (A := [(100005, [(5, (cInt .i64)), (6, (cInt .i64))]), (100016, [(7, (cInt .u8)), (8, cSl)]), (12, [(8, cSl), (81, (cInt .i64))]), (17, [(8, cSl), (95, (cInt .i64))])]) (args := [(.pointer t), (.pointer n)]) (Eq.mpr (by kernel_rfl : vcFT (cInt .i64) Tryd.prog tree_Tree_write.no [(100005, [(5, (cInt .i64)), (6, (cInt .i64))]), (100016, [(7, (cInt .u8)), (8, cSl)]), (12, [(8, cSl), (81, (cInt .i64))]), (17, [(8, cSl), (95, (cInt .i64))])] [(.pointer t), (.pointer n)] H R = tree_Tree_write.vc t n H R) hvc)

/-- (*fathom/disk.Disk).open -/
def disk_Disk_open.vc (d : Option Addr) (name : ByteArray) (H : Heap) (R : (Option Addr × Int) → Heap → Prop) : Prop :=
  disk_Disk_ready.sp d H fun (e : Int) H1 => br (e != (0 : Int)) (R (none, e) H1) (optK d fun a => ld cMap H1 (a.add 0) fun (x : Option Nat) => rdV (cTup [cPtr, cBool]) Tryd.prog (Instr.lookup ty_maparr_string_ptr_disk_file (.map x) (.string name) true) H1 fun (x_1 : (Option Addr × Bool)) => br x_1.2 (R (x_1.1, (0 : Int)) H1) (R (none, (11 : Int)) H1))

theorem disk_Disk_open.of {d : Option Addr} {name : ByteArray} {H : Heap} {R : (Option Addr × Int) → Heap → Prop} (hvc : disk_Disk_open.vc d name H R) : disk_Disk_open.sp d name H R :=
  specT_of_vc prog_ng prog_mixed (c := (cTup [cPtr, (cInt .i64)])) (A := []) (args := [(.pointer d), (.string name)]) (Eq.mpr (by kernel_rfl : vcFT (cTup [cPtr, (cInt .i64)]) Tryd.prog disk_Disk_open.no [] [(.pointer d), (.string name)] H R = disk_Disk_open.vc d name H R) hvc)

/-- (*fathom/pool.Pool).first -/
def pool_Pool_first.vc (p : Option Addr) (H : Heap) (R : Option Addr → Heap → Prop) : Prop :=
  optK p fun a => ld cMap H (a.add 2) fun (x : Option Nat) => doT cPtr Tryd.prog (Instr.range ty_maparr_pool_spot_ptr_pool_frame (.map x)) H fun (it : Option Addr) H1 => LoopVC (Option Addr) none H1 fun next best H2 => doT cNext Tryd.prog (Instr.next (.pointer it) false ty_) H2 fun (nx : Bool × List Value) H3 => br nx.1 (doT cTwo Tryd.prog (Instr.entry (.pointer it)) H3 fun (en : Value × Value) H4 => asT cPtr en.2 fun (f : Option Addr) => pool_Pool_room_c1.sp f H4 fun (r : Bool) H5 => br r (br best.isNone (next f H5) (pool_Pool_room_c2.sp f best H5 fun (r_1 : Bool) H6 => br r_1 (next f H6) (next best H6))) (next best H5)) (R best H3)

theorem pool_Pool_first.of {p : Option Addr} {H : Heap} {R : Option Addr → Heap → Prop} (hvc : pool_Pool_first.vc p H R) : pool_Pool_first.sp p H R :=
  specT_of_vc prog_ng prog_mixed (c := cPtr) (A := [(3, [(7, cPtr)])]) (args := [(.pointer p), (.func (.func pool_Pool_room_c1.no) #[] #[]), (.func (.func pool_Pool_room_c2.no) #[] #[])]) (Eq.mpr (by kernel_rfl : vcFT cPtr Tryd.prog pool_Pool_first.no [(3, [(7, cPtr)])] [(.pointer p), (.func (.func pool_Pool_room_c1.no) #[] #[]), (.func (.func pool_Pool_room_c2.no) #[] #[])] H R = pool_Pool_first.vc p H R) hvc)

/-- (*fathom/pool.Pool).room$1 -/
def pool_Pool_room_c1.vc (f : Option Addr) (H : Heap) (R : Bool → Heap → Prop) : Prop :=
  optK f fun a => ld (cInt .i64) H (a.add 5) fun (x : Int) => R (x == (0 : Int)) H

theorem pool_Pool_room_c1.of {f : Option Addr} {H : Heap} {R : Bool → Heap → Prop} (hvc : pool_Pool_room_c1.vc f H R) : pool_Pool_room_c1.sp f H R :=
  specT_of_vc prog_ng prog_mixed (c := cBool) (A := []) (args := [(.pointer f)]) (Eq.mpr (by kernel_rfl : vcFT cBool Tryd.prog pool_Pool_room_c1.no [] [(.pointer f)] H R = pool_Pool_room_c1.vc f H R) hvc)

/-- (*fathom/pool.Pool).room$2 -/
def pool_Pool_room_c2.vc (a : Option Addr) (b : Option Addr) (H : Heap) (R : Bool → Heap → Prop) : Prop :=
  optK a fun a_1 => ld (cInt .i64) H (a_1.add 6) fun (x : Int) => optK b fun a_2 => ld (cInt .i64) H (a_2.add 6) fun (x_1 : Int) => R (decide (x < x_1)) H

theorem pool_Pool_room_c2.of {a : Option Addr} {b : Option Addr} {H : Heap} {R : Bool → Heap → Prop} (hvc : pool_Pool_room_c2.vc a b H R) : pool_Pool_room_c2.sp a b H R :=
  specT_of_vc prog_ng prog_mixed (c := cBool) (A := []) (args := [(.pointer a), (.pointer b)]) (Eq.mpr (by kernel_rfl : vcFT cBool Tryd.prog pool_Pool_room_c2.no [] [(.pointer a), (.pointer b)] H R = pool_Pool_room_c2.vc a b H R) hvc)

/-- fathom/page.Seal -/
def page_Seal.vc (kind : Int) (b : Sl) (H : Heap) (R : (Sl × Int) → Heap → Prop) : Prop :=
  br (decide ((b.n : Int) > (504 : Int))) (R ((Sl.mk none 0 0), (2 : Int)) H) (newC H (zc Tryd.prog ty_arr_512_uint8) ty_arr_512_uint8 fun p H1 => (0 ≤ (4 : Int) ∧ (4 : Int) < ((512 : Nat) : Int)) ∧ st H1 (p.add ((4 : Int).toNat * 1)) (.int .u8 (IntKind.u8.wrap (b.n : Int))) fun H2 => (0 ≤ (5 : Int) ∧ (5 : Int) < ((512 : Nat) : Int)) ∧ st H2 (p.add ((5 : Int).toNat * 1)) (.int .u8 (IntKind.u8.wrap (ishr .i64 (b.n : Int) (8 : Int)))) fun H3 => (0 ≤ (6 : Int) ∧ (6 : Int) < ((512 : Nat) : Int)) ∧ st H3 (p.add ((6 : Int).toNat * 1)) (.int .u8 kind) fun H4 => (0 ≤ (7 : Int) ∧ (7 : Int) < ((512 : Nat) : Int)) ∧ st H4 (p.add ((7 : Int).toNat * 1)) (.int .u8 (157 : Int)) fun H5 => (0 ≤ (8 : Int) ∧ (8 : Int) ≤ (512 : Int)) ∧ doT (cInt .i64) Tryd.prog (Builtin.copy_ #[ty_sl_uint8, ty_sl_uint8] ty_int #[(.slice (slA (some p) 512 ((8 : Int).toNat) 1) (512 - ((8 : Int).toNat)) (512 - ((8 : Int).toNat))), b.v]) H5 fun (_ : Int) H6 => (0 ≤ (4 : Int) ∧ (4 : Int) ≤ (512 : Int)) ∧ page_Sum.sp (Sl.mk (slA (some p) 512 ((4 : Int).toNat) 1) (512 - ((4 : Int).toNat)) (512 - ((4 : Int).toNat))) H6 fun (n : Int) H7 => LoopVC Int (0 : Int) H7 fun next z H8 => br (decide (z < (4 : Int))) (0 ≤ (IntKind.i64.wrap ((8 : Int) * z)) ∧ (0 ≤ z ∧ z < ((512 : Nat) : Int)) ∧ st H8 (p.add (z.toNat * 1)) (.int .u8 (IntKind.u8.wrap (ishr .u32 n (IntKind.i64.wrap ((8 : Int) * z))))) fun H9 => next (IntKind.i64.wrap (z + (1 : Int))) H9) (slices_Clone_sl_byte_byte.sp (Sl.mk (slA (some p) 512 0 1) (512 - 0) (512 - 0)) H8 fun (r : Sl) H10 => R (r, (0 : Int)) H10))

theorem page_Seal.of {kind : Int} {b : Sl} {H : Heap} {R : (Sl × Int) → Heap → Prop} (hvc : page_Seal.vc kind b H R) : page_Seal.sp kind b H R :=
  specT_of_vc prog_ng prog_mixed (c := (cTup [cSl, (cInt .i64)])) (A := [(9, [(29, (cInt .i64))])]) (args := [(.int .u8 kind), b.v]) (Eq.mpr (by kernel_rfl : vcFT (cTup [cSl, (cInt .i64)]) Tryd.prog page_Seal.no [(9, [(29, (cInt .i64))])] [(.int .u8 kind), b.v] H R = page_Seal.vc kind b H R) hvc)

/-- (*fathom/disk.Disk).Write -/
def disk_Disk_Write.vc (d : Option Addr) (name : ByteArray) (page : Int) (b : Sl) (H : Heap) (R : Int → Heap → Prop) : Prop :=
  disk_Disk_ready.sp d H fun (e : Int) H1 => br (e != (0 : Int)) (R e H1) (br ((b.n : Int) != (512 : Int)) (R (2 : Int) H1) (disk_Disk_open.sp d name H1 fun (r : (Option Addr × Int)) H2 => cut Unit (fun J => br (r.2 != (0 : Int)) (R r.2 H2) (br (decide (page < (0 : Int))) (br (decide (page < (0 : Int))) (R (12 : Int) H2) (optK r.1 fun a => ld cSl H2 (a.add 0) fun (x : Sl) => br (page == (x.n : Int)) (optK d fun a_1 => ld (cInt .i64) H2 (a_1.add 1) fun (x_1 : Int) => optK d fun a_2 => ld (cInt .i64) H2 (a_2.add 3) fun (x_2 : Int) => br (x_1 == x_2) (R (5 : Int) H2) (J () H2)) (J () H2))) (optK r.1 fun a_3 => ld cSl H2 (a_3.add 0) fun (x_3 : Sl) => br (decide (page > (x_3.n : Int))) (R (12 : Int) H2) (optK r.1 fun a_4 => ld cSl H2 (a_4.add 0) fun (x_4 : Sl) => br (page == (x_4.n : Int)) (optK d fun a_5 => ld (cInt .i64) H2 (a_5.add 1) fun (x_5 : Int) => optK d fun a_6 => ld (cInt .i64) H2 (a_6.add 3) fun (x_6 : Int) => br (x_5 == x_6) (R (5 : Int) H2) (J () H2)) (J () H2))))) fun (_ : Unit) H3 => disk_Disk_change.sp d H3 fun (e_1 : Int) H4 => br (e_1 != (0 : Int)) (R e_1 H4) (cut Unit (fun J_1 => optK r.1 fun a_7 => ld cSl H4 (a_7.add 0) fun (x_7 : Sl) => br (page == (x_7.n : Int)) (optK d fun a_8 => ld (cInt .i64) H4 (a_8.add 1) fun (x_8 : Int) => optK d fun a_9 => st H4 (a_9.add 1) (.int .i64 (IntKind.i64.wrap (x_8 + (1 : Int)))) fun H6 => optK d fun a_10 => ld (cInt .i64) H6 (a_10.add 2) fun (x_9 : Int) => optK d fun a_11 => ld (cInt .i64) H6 (a_11.add 1) fun (x_10 : Int) => optK d fun a_12 => st H6 (a_12.add 2) (.int .i64 (if x_10 > x_9 then x_10 else x_9)) fun H7 => J_1 () H7) (J_1 () H4)) fun (_ : Unit) H5 => ∃ G : Heap → Prop, G H5 ∧ optK r.1 fun a_13 => ldC cSl G (a_13.add 2) fun (x_11 : Sl) => optK d fun a_14 => ld (cInt .i64) H5 (a_14.add 5) fun (x_12 : Int) => 512 ≤ b.n ∧ optK b.a fun a_15 => ldAC cArr 512 G a_15 fun (x_13 : Array Value) => pureV cArr Tryd.prog (Instr.build ty_disk_mark #[(0, (.int .i64 x_12)), (1, (.int .i64 page)), (2, (.agg x_13))]) fun (y : Array Value) => doT cSl Tryd.prog (Instr.buildSlice ty_sl_disk_mark 1 #[(0, (.agg y))]) H5 fun (sl : Sl) H8 => G H8 ∧ doT cSl Tryd.prog (Builtin.append_ #[ty_sl_disk_mark, ty_sl_disk_mark] ty_sl_disk_mark #[x_11.v, sl.v]) H8 fun (s : Sl) H9 => optK r.1 fun a_16 => st H9 (a_16.add 2) s.v fun H10 => optK r.1 fun a_17 => ld cSl H10 (a_17.add 0) fun (x_14 : Sl) => 512 ≤ b.n ∧ optK b.a fun a_18 => ldA cArr 512 H10 a_18 fun (x_15 : Array Value) => disk_put.sp x_14 page x_15 H10 fun (r_1 : Sl) H11 => optK r.1 fun a_19 => st H11 (a_19.add 0) r_1.v fun H12 => optK d fun a_20 => ld (cInt .i64) H12 (a_20.add 5) fun (x_16 : Int) => optK d fun a_21 => st H12 (a_21.add 5) (.int .i64 (IntKind.i64.wrap (x_16 + (1 : Int)))) fun H13 => R (0 : Int) H13)))

theorem disk_Disk_Write.of {d : Option Addr} {name : ByteArray} {page : Int} {b : Sl} {H : Heap} {R : Int → Heap → Prop} (hvc : disk_Disk_Write.vc d name page b H R) : disk_Disk_Write.sp d name page b H R :=
  specT_of_vc prog_ng prog_mixed (c := (cInt .i64)) (A := [(100014, []), (100020, [])]) (args := [(.pointer d), (.string name), (.int .i64 page), b.v]) (Eq.mpr (by kernel_rfl : vcFT (cInt .i64) Tryd.prog disk_Disk_Write.no [(100014, []), (100020, [])] [(.pointer d), (.string name), (.int .i64 page), b.v] H R = disk_Disk_Write.vc d name page b H R) hvc)

/-- (*fathom/pool.Pool).pin -/
def pool_Pool_pin.vc (p : Option Addr) (f : Option Addr) (H : Heap) (R : Int → Heap → Prop) : Prop :=
  optK f fun a => ld (cInt .i64) H (a.add 5) fun (x : Int) => optK f fun a_1 => st H (a_1.add 5) (.int .i64 (IntKind.i64.wrap (x + (1 : Int)))) fun H1 => optK p fun a_2 => ld cMap H1 (a_2.add 3) fun (x_1 : Option Nat) => optK p fun a_3 => ld (cInt .i64) H1 (a_3.add 4) fun (x_2 : Int) => doU Tryd.prog (Instr.mapUpdate ty_maparr_int_ptr_pool_frame (.map x_1) (.int .i64 x_2) (.pointer f)) H1 fun H2 => optK p fun a_4 => ld (cInt .i64) H2 (a_4.add 4) fun (x_3 : Int) => optK p fun a_5 => st H2 (a_5.add 4) (.int .i64 (IntKind.i64.wrap (x_3 + (1 : Int)))) fun H3 => optK p fun a_6 => ld (cInt .i64) H3 (a_6.add 4) fun (x_4 : Int) => R (IntKind.i64.wrap (x_4 - (1 : Int))) H3

theorem pool_Pool_pin.of {p : Option Addr} {f : Option Addr} {H : Heap} {R : Int → Heap → Prop} (hvc : pool_Pool_pin.vc p f H R) : pool_Pool_pin.sp p f H R :=
  specT_of_vc prog_ng prog_mixed (c := (cInt .i64)) (A := []) (args := [(.pointer p), (.pointer f)]) (Eq.mpr (by kernel_rfl : vcFT (cInt .i64) Tryd.prog pool_Pool_pin.no [] [(.pointer p), (.pointer f)] H R = pool_Pool_pin.vc p f H R) hvc)

/-- fathom/row.size -/
def row_size.vc (width : Int) (H : Heap) (R : Int → Heap → Prop) : Prop :=
  br (decide (width < (0 : Int))) (br (decide (width < (0 : Int))) (R (0 : Int) H) (br (width == (0 : Int)) (R (1 : Int) H) (R (IntKind.i64.wrap ((8 : Int) * width)) H))) (br (decide (width > (16 : Int))) (R (0 : Int) H) (br (width == (0 : Int)) (R (1 : Int) H) (R (IntKind.i64.wrap ((8 : Int) * width)) H)))

theorem row_size.of {width : Int} {H : Heap} {R : Int → Heap → Prop} (hvc : row_size.vc width H R) : row_size.sp width H R :=
  specT_of_vc prog_ng prog_mixed (c := (cInt .i64)) (A := []) (args := [(.int .i64 width)]) (Eq.mpr (by kernel_rfl : vcFT (cInt .i64) Tryd.prog row_size.no [] [(.int .i64 width)] H R = row_size.vc width H R) hvc)

/-- (*fathom/pool.Pool).Pin -/
def pool_Pool_Pin.vc (p : Option Addr) (name : ByteArray) (page : Int) (H : Heap) (R : (Int × Int) → Heap → Prop) : Prop :=
  pool_Pool_ready.sp p H fun (e : Int) H1 => br (e != (0 : Int)) (R ((0 : Int), e) H1) (newC H1 (zc Tryd.prog ty_pool_spot) ty_pool_spot fun p_1 H2 => doU Tryd.prog (Instr.storeAt ty_pool_spot (.pointer (some p_1)) (.agg #[(.string name), (.int .i64 page)])) H2 fun H3 => optK p fun a => ld cMap H3 (a.add 2) fun (x : Option Nat) => ldA (cAgg [cStr, (cInt .i64)]) 2 H3 p_1 fun (x_1 : (ByteArray × Int)) => rdV (cTup [cPtr, cBool]) Tryd.prog (Instr.lookup ty_maparr_pool_spot_ptr_pool_frame (.map x) (.agg #[(.string x_1.1), (.int .i64 x_1.2)]) true) H3 fun (x_2 : (Option Addr × Bool)) => br x_2.2 (pool_Pool_pin.sp p x_2.1 H3 fun (r : Int) H4 => R (r, (0 : Int)) H4) (ldA (cAgg [cStr, (cInt .i64)]) 2 H3 p_1 fun (x_3 : (ByteArray × Int)) => pool_Pool_load.sp p x_3.1 x_3.2 H3 fun (r_1 : (Option Addr × Int)) H5 => br (r_1.2 != (0 : Int)) (pool_Pool_met.sp p r_1.2 H5 fun (r_2 : Int) H6 => R ((0 : Int), r_2) H6) (pool_Pool_take.sp p r_1.1 H5 fun (r_3 : Int) H7 => R (r_3, (0 : Int)) H7)))

theorem pool_Pool_Pin.of {p : Option Addr} {name : ByteArray} {page : Int} {H : Heap} {R : (Int × Int) → Heap → Prop} (hvc : pool_Pool_Pin.vc p name page H R) : pool_Pool_Pin.sp p name page H R :=
  specT_of_vc prog_ng prog_mixed (c := (cTup [(cInt .i64), (cInt .i64)])) (A := []) (args := [(.pointer p), (.string name), (.int .i64 page)]) (Eq.mpr (by kernel_rfl : vcFT (cTup [(cInt .i64), (cInt .i64)]) Tryd.prog pool_Pool_Pin.no [] [(.pointer p), (.string name), (.int .i64 page)] H R = pool_Pool_Pin.vc p name page H R) hvc)

/-- (*fathom/pool.Pool).Get -/
def pool_Pool_Get.vc (p : Option Addr) (h : Int) (H : Heap) (R : (Int × Sl × Int) → Heap → Prop) : Prop :=
  pool_Pool_held.sp p h H fun (r : (Option Addr × Int)) H1 => br (r.2 != (0 : Int)) (R ((0 : Int), (Sl.mk none 0 0), r.2) H1) (∃ G : Heap → Prop, G H1 ∧ optK r.1 fun a => ldC (cInt .u8) G (a.add 2) fun (x : Int) => optK r.1 fun a_1 => ld cSl H1 (a_1.add 3) fun (x_1 : Sl) => slices_Clone_sl_byte_byte.sp x_1 H1 fun (r_1 : Sl) H2 => G H2 ∧ R (x, r_1, (0 : Int)) H2)

theorem pool_Pool_Get.of {p : Option Addr} {h : Int} {H : Heap} {R : (Int × Sl × Int) → Heap → Prop} (hvc : pool_Pool_Get.vc p h H R) : pool_Pool_Get.sp p h H R :=
  specT_of_vc prog_ng prog_mixed (c := (cTup [(cInt .u8), cSl, (cInt .i64)])) (A := []) (args := [(.pointer p), (.int .i64 h)]) (Eq.mpr (by kernel_rfl : vcFT (cTup [(cInt .u8), cSl, (cInt .i64)]) Tryd.prog pool_Pool_Get.no [] [(.pointer p), (.int .i64 h)] H R = pool_Pool_Get.vc p h H R) hvc)

/-- slices.Chunk[[]byte,byte] -/
def slices_Chunk_sl_byte_byte.vc (s : Sl) (n : Int) (H : Heap) (R : Value → Heap → Prop) : Prop :=
  newC H #[s.v] ty_sl_uint8 fun p H1 => newC H1 #[(.int .i64 n)] ty_int fun p_1 H2 => ld (cInt .i64) H2 p_1 fun (x : Int) => br (decide (x < (1 : Int))) (False) (R (.func (.func slices_Chunk_sl_byte_byte_c1.no) #[] #[(.pointer (some p)), (.pointer (some p_1))]) H2)

theorem slices_Chunk_sl_byte_byte.of {s : Sl} {n : Int} {H : Heap} {R : Value → Heap → Prop} (hvc : slices_Chunk_sl_byte_byte.vc s n H R) : slices_Chunk_sl_byte_byte.sp s n H R :=
  specT_of_vc prog_ng prog_mixed (c := cRaw) (A := []) (args := [s.v, (.int .i64 n)]) (Eq.mpr (by kernel_rfl : vcFT cRaw Tryd.prog slices_Chunk_sl_byte_byte.no [] [s.v, (.int .i64 n)] H R = slices_Chunk_sl_byte_byte.vc s n H R) hvc)

/-- (*fathom/pool.Pool).Disk -/
def pool_Pool_Disk.vc (p : Option Addr) (H : Heap) (R : Option Addr → Heap → Prop) : Prop :=
  br p.isNone (R none H) (optK p fun a => ld cPtr H (a.add 0) fun (x : Option Addr) => R x H)

theorem pool_Pool_Disk.of {p : Option Addr} {H : Heap} {R : Option Addr → Heap → Prop} (hvc : pool_Pool_Disk.vc p H R) : pool_Pool_Disk.sp p H R :=
  specT_of_vc prog_ng prog_mixed (c := cPtr) (A := []) (args := [(.pointer p)]) (Eq.mpr (by kernel_rfl : vcFT cPtr Tryd.prog pool_Pool_Disk.no [] [(.pointer p)] H R = pool_Pool_Disk.vc p H R) hvc)

/-- (*fathom/tree.Tree).head -/
def tree_Tree_head.vc (t : Option Addr) (fresh : Bool) (H : Heap) (R : Int → Heap → Prop) : Prop :=
  cut (Int × Int) (fun J => br fresh (optK t fun a => ld cPtr H (a.add 0) fun (x : Option Addr) => optK t fun a_1 => ld cStr H (a_1.add 1) fun (x_1 : ByteArray) => pool_Pool_Fresh.sp x x_1 H fun (r : (Int × Int × Int)) H2 => J (r.1, r.2.2) H2) (optK t fun a_2 => ld cPtr H (a_2.add 0) fun (x_2 : Option Addr) => optK t fun a_3 => ld cStr H (a_3.add 1) fun (x_3 : ByteArray) => pool_Pool_Pin.sp x_2 x_3 (0 : Int) H fun (r_1 : (Int × Int)) H3 => J (r_1.1, r_1.2) H3)) fun (z : (Int × Int)) H1 => br (z.2 != (0 : Int)) (R z.2 H1) (∃ G : Heap → Prop, G H1 ∧ optK t fun a_4 => ldC (cInt .i64) G (a_4.add 2) fun (x_4 : Int) => optK t fun a_5 => ldC (cInt .i64) G (a_5.add 4) fun (x_5 : Int) => optK t fun a_6 => ldC (cInt .i64) G (a_6.add 3) fun (x_6 : Int) => (newC H1 #[(.int .u8 (IntKind.u8.wrap x_4)), (.int .u8 (IntKind.u8.wrap x_5))] ty_uint8 fun p H4 => G H4 ∧ tree_bytes.sp x_6 H4 fun (r_2 : Sl) H5 => G H5 ∧ doT cSl Tryd.prog (Builtin.append_ #[ty_sl_uint8, ty_sl_uint8] ty_sl_uint8 #[(.slice (some p) 2 2), r_2.v]) H5 fun (b : Sl) H6 => G H6 ∧ ∃ G_1 : Heap → Prop, G_1 H6 ∧ optK t fun a_7 => ldC cPtr G_1 (a_7.add 0) fun (x_7 : Option Addr) => optK t fun a_8 => ld (cInt .i64) H6 (a_8.add 5) fun (x_8 : Int) => newC H6 #[(.int .u64 (IntKind.u64.wrap x_8))] ty_uint64 fun p_1 H7 => G_1 H7 ∧ row_Put.sp (Sl.mk (some p_1) 1 1) H7 fun (r_3 : Sl) H8 => G_1 H8 ∧ doT cSl Tryd.prog (Builtin.append_ #[ty_sl_uint8, ty_sl_uint8] ty_sl_uint8 #[b.v, r_3.v]) H8 fun (s : Sl) H9 => G_1 H9 ∧ pool_Pool_Put.sp x_7 z.1 (5 : Int) s H9 fun (e : Int) H10 => br (e == (0 : Int)) (optK t fun a_9 => ld cPtr H10 (a_9.add 0) fun (x_9 : Option Addr) => pool_Pool_Unpin.sp x_9 z.1 H10 fun (e_1 : Int) H11 => R e_1 H11) (R e H10)) ∧ (tree_bytes.sp x_6 H1 fun (r_4 : Sl) H12 => G H12 ∧ newC H12 #[(.int .u8 (IntKind.u8.wrap x_4)), (.int .u8 (IntKind.u8.wrap x_5))] ty_uint8 fun p_2 H13 => G H13 ∧ doT cSl Tryd.prog (Builtin.append_ #[ty_sl_uint8, ty_sl_uint8] ty_sl_uint8 #[(.slice (some p_2) 2 2), r_4.v]) H13 fun (b_1 : Sl) H14 => G H14 ∧ ∃ G_2 : Heap → Prop, G_2 H14 ∧ optK t fun a_10 => ldC cPtr G_2 (a_10.add 0) fun (x_10 : Option Addr) => optK t fun a_11 => ld (cInt .i64) H14 (a_11.add 5) fun (x_11 : Int) => newC H14 #[(.int .u64 (IntKind.u64.wrap x_11))] ty_uint64 fun p_3 H15 => G_2 H15 ∧ row_Put.sp (Sl.mk (some p_3) 1 1) H15 fun (r_5 : Sl) H16 => G_2 H16 ∧ doT cSl Tryd.prog (Builtin.append_ #[ty_sl_uint8, ty_sl_uint8] ty_sl_uint8 #[b_1.v, r_5.v]) H16 fun (s_1 : Sl) H17 => G_2 H17 ∧ pool_Pool_Put.sp x_10 z.1 (5 : Int) s_1 H17 fun (e_2 : Int) H18 => br (e_2 == (0 : Int)) (optK t fun a_12 => ld cPtr H18 (a_12.add 0) fun (x_12 : Option Addr) => pool_Pool_Unpin.sp x_12 z.1 H18 fun (e_3 : Int) H19 => R e_3 H19) (R e_2 H18)))

theorem tree_Tree_head.of {t : Option Addr} {fresh : Bool} {H : Heap} {R : Int → Heap → Prop} (hvc : tree_Tree_head.vc t fresh H R) : tree_Tree_head.sp t fresh H R :=
  specT_of_vc prog_ng prog_mixed (c := (cInt .i64)) (A := [(100005, [(5, (cInt .i64)), (6, (cInt .i64))]), (300007, [(10, cBool), (16, cBool)])]) (args := [(.pointer t), (.bool fresh)]) (Eq.mpr (by kernel_rfl : vcFT (cInt .i64) Tryd.prog tree_Tree_head.no [(100005, [(5, (cInt .i64)), (6, (cInt .i64))]), (300007, [(10, cBool), (16, cBool)])] [(.pointer t), (.bool fresh)] H R = tree_Tree_head.vc t fresh H R) hvc)

/-- (*fathom/tree.Tree).node -/
def tree_Tree_node.vc (t : Option Addr) (page : Int) (above : Int) (s_ : Sl) (s_1 : Sl) (H : Heap) (R : (Option Addr × Int) → Heap → Prop) : Prop :=
  newC H #[s_.v, s_1.v] ty_tree_span fun p H1 => tree_Tree_look.sp t page H1 fun (r : (Int × Sl × Int)) H2 => br (r.2.2 == (12 : Int)) (R (none, (280 : Int)) H2) (br (r.2.2 != (0 : Int)) (R (none, r.2.2) H2) (newC H2 #[(.int .i64 page), (.slice none 0 0), (.slice none 0 0)] ty_tree_node fun n_p H3 => cut Sl (fun J => br ((r.1 == (3 : Int)) && (above == (0 : Int))) (J r.2.1 H3) (br (((r.1 == (4 : Int)) && (decide (above > (0 : Int)))) && (decide ((r.2.1.n : Int) ≥ (2 : Int)))) (optK r.2.1.a fun a => (0 ≤ (0 : Int) ∧ (0 : Int) < (r.2.1.n : Int)) ∧ ld (cInt .u8) H3 (a.add ((0 : Int).toNat * 1)) fun (x : Int) => optK r.2.1.a fun a_1 => (0 ≤ (1 : Int) ∧ (1 : Int) < (r.2.1.n : Int)) ∧ ld (cInt .u8) H3 (a_1.add ((1 : Int).toNat * 1)) fun (x_1 : Int) => br ((decide ((ior .i64 (ishl .i64 (IntKind.i64.wrap x) (8 : Int)) (IntKind.i64.wrap x_1)) < (2 : Int))) || (decide ((r.2.1.n : Int) < (IntKind.i64.wrap ((2 : Int) + (IntKind.i64.wrap ((4 : Int) * (ior .i64 (ishl .i64 (IntKind.i64.wrap x) (8 : Int)) (IntKind.i64.wrap x_1))))))))) (R (none, (280 : Int)) H3) (LoopVC Int (0 : Int) H3 fun next z_1 H5 => br (decide (z_1 < (ior .i64 (ishl .i64 (IntKind.i64.wrap x) (8 : Int)) (IntKind.i64.wrap x_1)))) (∃ G : Heap → Prop, G H5 ∧ ldC cSl G (n_p.add 1) fun (x_2 : Sl) => (0 ≤ (IntKind.i64.wrap ((2 : Int) + (IntKind.i64.wrap ((4 : Int) * z_1)))) ∧ (IntKind.i64.wrap ((2 : Int) + (IntKind.i64.wrap ((4 : Int) * z_1)))) ≤ (r.2.1.n : Int)) ∧ tree_number.sp (Sl.mk (slA r.2.1.a r.2.1.c ((IntKind.i64.wrap ((2 : Int) + (IntKind.i64.wrap ((4 : Int) * z_1)))).toNat) 1) (r.2.1.n - ((IntKind.i64.wrap ((2 : Int) + (IntKind.i64.wrap ((4 : Int) * z_1)))).toNat)) (r.2.1.c - ((IntKind.i64.wrap ((2 : Int) + (IntKind.i64.wrap ((4 : Int) * z_1)))).toNat))) H5 fun (r_1 : Int) H6 => G H6 ∧ newC H6 #[(.int .i64 r_1)] ty_int fun p_1 H7 => G H7 ∧ doT cSl Tryd.prog (Builtin.append_ #[ty_sl_int, ty_sl_int] ty_sl_int #[x_2.v, (.slice (some p_1) 1 1)]) H7 fun (s : Sl) H8 => st H8 (n_p.add 1) s.v fun H9 => next (IntKind.i64.wrap (z_1 + (1 : Int))) H9) ((0 ≤ (IntKind.i64.wrap ((2 : Int) + (IntKind.i64.wrap ((4 : Int) * (ior .i64 (ishl .i64 (IntKind.i64.wrap x) (8 : Int)) (IntKind.i64.wrap x_1)))))) ∧ (IntKind.i64.wrap ((2 : Int) + (IntKind.i64.wrap ((4 : Int) * (ior .i64 (ishl .i64 (IntKind.i64.wrap x) (8 : Int)) (IntKind.i64.wrap x_1)))))) ≤ (r.2.1.n : Int)) ∧ J (Sl.mk (slA r.2.1.a r.2.1.c ((IntKind.i64.wrap ((2 : Int) + (IntKind.i64.wrap ((4 : Int) * (ior .i64 (ishl .i64 (IntKind.i64.wrap x) (8 : Int)) (IntKind.i64.wrap x_1)))))).toNat) 1) (r.2.1.n - ((IntKind.i64.wrap ((2 : Int) + (IntKind.i64.wrap ((4 : Int) * (ior .i64 (ishl .i64 (IntKind.i64.wrap x) (8 : Int)) (IntKind.i64.wrap x_1)))))).toNat)) (r.2.1.c - ((IntKind.i64.wrap ((2 : Int) + (IntKind.i64.wrap ((4 : Int) * (ior .i64 (ishl .i64 (IntKind.i64.wrap x) (8 : Int)) (IntKind.i64.wrap x_1)))))).toNat))) H5))) (R (none, (280 : Int)) H3))) fun (z : Sl) H4 => cut Unit (fun J_1 => optK t fun a_2 => ld (cInt .i64) H4 (a_2.add 2) fun (x_3 : Int) => row_Get.sp z x_3 H4 fun (r_2 : (Sl × Int)) H11 => st H11 (n_p.add 2) r_2.1.v fun H12 => br (r_2.2 != (0 : Int)) (R (none, (280 : Int)) H12) (ld cSl H12 (n_p.add 1) fun (x_4 : Sl) => br (decide ((x_4.n : Int) > (0 : Int))) (ld cSl H12 (n_p.add 2) fun (x_5 : Sl) => ld cSl H12 (n_p.add 1) fun (x_6 : Sl) => br ((x_5.n : Int) != (IntKind.i64.wrap ((x_6.n : Int) - (1 : Int)))) (R (none, (280 : Int)) H12) (J_1 () H12)) (J_1 () H12))) fun (_ : Unit) H10 => ldA (cAgg [cSl, cSl]) 2 H10 p fun (x_7 : (Sl × Sl)) => ld cSl H10 (n_p.add 2) fun (x_8 : Sl) => tree_span_holds.sp x_7.1 x_7.2 x_8 H10 fun (r_3 : Bool) H13 => br (!r_3) (R (none, (280 : Int)) H13) (ld cSl H13 (n_p.add 2) fun (x_9 : Sl) => br ((x_9.n : Int) == (0 : Int)) (optK t fun a_3 => ld (cInt .i64) H13 (a_3.add 4) fun (x_10 : Int) => br (decide (x_10 > (1 : Int))) (R (none, (280 : Int)) H13) (R (some n_p, (0 : Int)) H13)) (R (some n_p, (0 : Int)) H13))))

theorem tree_Tree_node.of {t : Option Addr} {page : Int} {above : Int} {s_ : Sl} {s_1 : Sl} {H : Heap} {R : (Option Addr × Int) → Heap → Prop} (hvc : tree_Tree_node.vc t page above s_ s_1 H R) : tree_Tree_node.sp t page above s_ s_1 H R :=
  specT_of_vc prog_ng prog_mixed (c := (cTup [cPtr, (cInt .i64)])) (A := [(100019, [(11, cSl)]), (14, [(73, (cInt .i64))]), (100022, [])]) (args := [(.pointer t), (.int .i64 page), (.int .i64 above), (.agg #[s_.v, s_1.v])]) (Eq.mpr (by kernel_rfl : vcFT (cTup [cPtr, (cInt .i64)]) Tryd.prog tree_Tree_node.no [(100019, [(11, cSl)]), (14, [(73, (cInt .i64))]), (100022, [])] [(.pointer t), (.int .i64 page), (.int .i64 above), (.agg #[s_.v, s_1.v])] H R = tree_Tree_node.vc t page above s_ s_1 H R) hvc)

/-- slices.BinarySearchFunc[[][]uint64,[]uint64,[]uint64] -/
def slices_BinarySearchFunc_sl_sl_uint64_sl_uint64_sl_uint64.vc (x : Sl) (target : Sl) (H : Heap) (R : (Int × Bool) → Heap → Prop) : Prop :=
  LoopVC (Int × Int) ((0 : Int), (x.n : Int)) H fun next z H1 => br (decide (z.1 < z.2)) (optK x.a fun a => (0 ≤ (IntKind.i64.wrap (ishr .u64 (IntKind.u64.wrap (IntKind.i64.wrap (z.1 + z.2))) (1 : Int))) ∧ (IntKind.i64.wrap (ishr .u64 (IntKind.u64.wrap (IntKind.i64.wrap (z.1 + z.2))) (1 : Int))) < (x.n : Int)) ∧ ld cSl H1 (a.add ((IntKind.i64.wrap (ishr .u64 (IntKind.u64.wrap (IntKind.i64.wrap (z.1 + z.2))) (1 : Int))).toNat * 1)) fun (x_1 : Sl) => row_Cmp.sp x_1 target H1 fun (r : Int) H2 => br (decide (r < (0 : Int))) (next (IntKind.i64.wrap ((IntKind.i64.wrap (ishr .u64 (IntKind.u64.wrap (IntKind.i64.wrap (z.1 + z.2))) (1 : Int))) + (1 : Int)), z.2) H2) (next (z.1, IntKind.i64.wrap (ishr .u64 (IntKind.u64.wrap (IntKind.i64.wrap (z.1 + z.2))) (1 : Int))) H2)) (br (decide (z.1 < (x.n : Int))) (optK x.a fun a_1 => (0 ≤ z.1 ∧ z.1 < (x.n : Int)) ∧ ld cSl H1 (a_1.add (z.1.toNat * 1)) fun (x_2 : Sl) => row_Cmp.sp x_2 target H1 fun (r_1 : Int) H3 => R (z.1, r_1 == (0 : Int)) H3) (R (z.1, false) H1))

theorem slices_BinarySearchFunc_sl_sl_uint64_sl_uint64_sl_uint64.of {x : Sl} {target : Sl} {H : Heap} {R : (Int × Bool) → Heap → Prop} (hvc : slices_BinarySearchFunc_sl_sl_uint64_sl_uint64_sl_uint64.vc x target H R) : slices_BinarySearchFunc_sl_sl_uint64_sl_uint64_sl_uint64.sp x target H R :=
  specT_of_vc prog_ng prog_mixed (c := (cTup [(cInt .i64), cBool])) (A := [(3, [(9, (cInt .i64)), (10, (cInt .i64))])]) (args := [x.v, target.v, (.func (.func row_Cmp.no) #[] #[])]) (Eq.mpr (by kernel_rfl : vcFT (cTup [(cInt .i64), cBool]) Tryd.prog slices_BinarySearchFunc_sl_sl_uint64_sl_uint64_sl_uint64.no [(3, [(9, (cInt .i64)), (10, (cInt .i64))])] [x.v, target.v, (.func (.func row_Cmp.no) #[] #[])] H R = slices_BinarySearchFunc_sl_sl_uint64_sl_uint64_sl_uint64.vc x target H R) hvc)

/-- (*fathom/tree.node).child -/
def tree_node_child.vc (n : Option Addr) (l : Sl) (H : Heap) (R : Int → Heap → Prop) : Prop :=
  optK n fun a => ld cSl H (a.add 2) fun (x : Sl) => slices_BinarySearchFunc_sl_sl_uint64_sl_uint64_sl_uint64.sp x l H fun (r : (Int × Bool)) H1 => br r.2 (R (IntKind.i64.wrap (r.1 + (1 : Int))) H1) (R r.1 H1)

theorem tree_node_child.of {n : Option Addr} {l : Sl} {H : Heap} {R : Int → Heap → Prop} (hvc : tree_node_child.vc n l H R) : tree_node_child.sp n l H R :=
  specT_of_vc prog_ng prog_mixed (c := (cInt .i64)) (A := []) (args := [(.pointer n), l.v]) (Eq.mpr (by kernel_rfl : vcFT (cInt .i64) Tryd.prog tree_node_child.no [] [(.pointer n), l.v] H R = tree_node_child.vc n l H R) hvc)

/-- (fathom/tree.span).of -/
def tree_span_of.vc (s_ : Sl) (s_1 : Sl) (n : Option Addr) (i : Int) (H : Heap) (R : (Sl × Sl) → Heap → Prop) : Prop :=
  newC H #[s_.v, s_1.v] ty_tree_span fun p H1 => newC H1 (zc Tryd.prog ty_tree_span) ty_tree_span fun p_1 H2 => cut Unit (fun J => br (decide (i > (0 : Int))) (optK n fun a => ld cSl H2 (a.add 2) fun (x : Sl) => optK x.a fun a_1 => (0 ≤ (IntKind.i64.wrap (i - (1 : Int))) ∧ (IntKind.i64.wrap (i - (1 : Int))) < (x.n : Int)) ∧ ld cSl H2 (a_1.add ((IntKind.i64.wrap (i - (1 : Int))).toNat * 1)) fun (x_1 : Sl) => st H2 (p.add 0) x_1.v fun H4 => J () H4) (J () H2)) fun (_ : Unit) H3 => cut Unit (fun J_1 => optK n fun a_2 => ld cSl H3 (a_2.add 2) fun (x_2 : Sl) => br (decide (i < (x_2.n : Int))) (optK n fun a_3 => ld cSl H3 (a_3.add 2) fun (x_3 : Sl) => optK x_3.a fun a_4 => (0 ≤ i ∧ i < (x_3.n : Int)) ∧ ld cSl H3 (a_4.add (i.toNat * 1)) fun (x_4 : Sl) => st H3 (p.add 1) x_4.v fun H6 => J_1 () H6) (J_1 () H3)) fun (_ : Unit) H5 => ldA (cAgg [cSl, cSl]) 2 H5 p fun (x_5 : (Sl × Sl)) => doU Tryd.prog (Instr.storeAt ty_tree_span (.pointer (some p_1)) (.agg #[x_5.1.v, x_5.2.v])) H5 fun H7 => ldA (cAgg [cSl, cSl]) 2 H7 p_1 fun (res : (Sl × Sl)) => R (res.1, res.2) H7

theorem tree_span_of.of {s_ : Sl} {s_1 : Sl} {n : Option Addr} {i : Int} {H : Heap} {R : (Sl × Sl) → Heap → Prop} (hvc : tree_span_of.vc s_ s_1 n i H R) : tree_span_of.sp s_ s_1 n i H R :=
  specT_of_vc prog_ng prog_mixed (c := (cAgg [cSl, cSl])) (A := [(100003, []), (100005, [])]) (args := [(.agg #[s_.v, s_1.v]), (.pointer n), (.int .i64 i)]) (Eq.mpr (by kernel_rfl : vcFT (cAgg [cSl, cSl]) Tryd.prog tree_span_of.no [(100003, []), (100005, [])] [(.agg #[s_.v, s_1.v]), (.pointer n), (.int .i64 i)] H R = tree_span_of.vc s_ s_1 n i H R) hvc)

/-- slices.CompareFunc[[]uint64,[]uint64,uint64,uint64] -/
def slices_CompareFunc_sl_uint64_sl_uint64_uint64_uint64.vc (s1 : Sl) (s2 : Sl) (H : Heap) (R : Int → Heap → Prop) : Prop :=
  LoopVC Int (0 : Int) H fun next z H1 => br (decide (z < (s1.n : Int))) (optK s1.a fun a => (0 ≤ z ∧ z < (s1.n : Int)) ∧ ld (cInt .u64) H1 (a.add (z.toNat * 1)) fun (v1 : Int) => br (decide (z ≥ (s2.n : Int))) (R (1 : Int) H1) (optK s2.a fun a_1 => (0 ≤ z ∧ z < (s2.n : Int)) ∧ ld (cInt .u64) H1 (a_1.add (z.toNat * 1)) fun (v2 : Int) => cmp_Compare_uint64.sp v1 v2 H1 fun (c : Int) H2 => br (c != (0 : Int)) (R c H2) (next (IntKind.i64.wrap (z + (1 : Int))) H2))) (br (decide ((s1.n : Int) < (s2.n : Int))) (R (-1 : Int) H1) (R (0 : Int) H1))

theorem slices_CompareFunc_sl_uint64_sl_uint64_uint64_uint64.of {s1 : Sl} {s2 : Sl} {H : Heap} {R : Int → Heap → Prop} (hvc : slices_CompareFunc_sl_uint64_sl_uint64_uint64_uint64.vc s1 s2 H R) : slices_CompareFunc_sl_uint64_sl_uint64_uint64_uint64.sp s1 s2 H R :=
  specT_of_vc prog_ng prog_mixed (c := (cInt .i64)) (A := [(2, [(13, (cInt .i64))])]) (args := [s1.v, s2.v, (.func (.func cmp_Compare_uint64.no) #[] #[])]) (Eq.mpr (by kernel_rfl : vcFT (cInt .i64) Tryd.prog slices_CompareFunc_sl_uint64_sl_uint64_uint64_uint64.no [(2, [(13, (cInt .i64))])] [s1.v, s2.v, (.func (.func cmp_Compare_uint64.no) #[] #[])] H R = slices_CompareFunc_sl_uint64_sl_uint64_uint64_uint64.vc s1 s2 H R) hvc)

/-- cmp.Compare[uint64] -/
def cmp_Compare_uint64.vc (x : Int) (y : Int) (H : Heap) (R : Int → Heap → Prop) : Prop :=
  cmp_isNaN_uint64.sp x H fun (xNaN : Bool) H1 => cmp_isNaN_uint64.sp y H1 fun (yNaN : Bool) H2 => br xNaN (br yNaN (R (0 : Int) H2) (R (-1 : Int) H2)) (br yNaN (R (1 : Int) H2) (br (decide (x < y)) (R (-1 : Int) H2) (br (decide (x > y)) (R (1 : Int) H2) (R (0 : Int) H2))))

theorem cmp_Compare_uint64.of {x : Int} {y : Int} {H : Heap} {R : Int → Heap → Prop} (hvc : cmp_Compare_uint64.vc x y H R) : cmp_Compare_uint64.sp x y H R :=
  specT_of_vc prog_ng prog_mixed (c := (cInt .i64)) (A := []) (args := [(.int .u64 x), (.int .u64 y)]) (Eq.mpr (by kernel_rfl : vcFT (cInt .i64) Tryd.prog cmp_Compare_uint64.no [] [(.int .u64 x), (.int .u64 y)] H R = cmp_Compare_uint64.vc x y H R) hvc)

/-- slices.Insert[[][]uint64,[]uint64] -/
def slices_Insert_sl_sl_uint64_sl_uint64.vc (s : Sl) (i : Int) (v : Sl) (H : Heap) (R : Sl → Heap → Prop) : Prop :=
  (0 ≤ i ∧ i ≤ (s.n : Int)) ∧ br ((v.n : Int) == (0 : Int)) (R s H) (br (i == (s.n : Int)) (doT cSl Tryd.prog (Builtin.append_ #[ty_sl_sl_uint64, ty_sl_sl_uint64] ty_sl_sl_uint64 #[s.v, v.v]) H fun (s_1 : Sl) H1 => R s_1 H1) (br (decide ((IntKind.i64.wrap ((s.n : Int) + (v.n : Int))) > (s.c : Int))) ((0 ≤ i ∧ i ≤ (s.c : Int)) ∧ doT cSl Tryd.prog (Builtin.append_ #[ty_sl_sl_uint64, ty_int] ty_sl_sl_uint64 #[(.slice (slA s.a s.c 0 1) (i.toNat - 0) (s.c - 0)), (.int .i64 (IntKind.i64.wrap ((IntKind.i64.wrap ((s.n : Int) + (v.n : Int))) - i)))]) H fun (s2 : Sl) H2 => (0 ≤ i ∧ i ≤ (s2.n : Int)) ∧ doT (cInt .i64) Tryd.prog (Builtin.copy_ #[ty_sl_sl_uint64, ty_sl_sl_uint64] ty_int #[(.slice (slA s2.a s2.c i.toNat 1) (s2.n - i.toNat) (s2.c - i.toNat)), v.v]) H2 fun (_ : Int) H3 => (0 ≤ (IntKind.i64.wrap (i + (v.n : Int))) ∧ (IntKind.i64.wrap (i + (v.n : Int))) ≤ (s2.n : Int)) ∧ (0 ≤ i ∧ i ≤ (s.n : Int)) ∧ doT (cInt .i64) Tryd.prog (Builtin.copy_ #[ty_sl_sl_uint64, ty_sl_sl_uint64] ty_int #[(.slice (slA s2.a s2.c ((IntKind.i64.wrap (i + (v.n : Int))).toNat) 1) (s2.n - ((IntKind.i64.wrap (i + (v.n : Int))).toNat)) (s2.c - ((IntKind.i64.wrap (i + (v.n : Int))).toNat))), (.slice (slA s.a s.c i.toNat 1) (s.n - i.toNat) (s.c - i.toNat))]) H3 fun (_ : Int) H4 => R s2 H4) ((0 ≤ (IntKind.i64.wrap ((s.n : Int) + (v.n : Int))) ∧ (IntKind.i64.wrap ((s.n : Int) + (v.n : Int))) ≤ (s.c : Int)) ∧ (0 ≤ (IntKind.i64.wrap (i + (v.n : Int))) ∧ (IntKind.i64.wrap (i + (v.n : Int))) ≤ ((((IntKind.i64.wrap ((s.n : Int) + (v.n : Int))).toNat) - 0 : Nat) : Int)) ∧ doT cBool Tryd.prog (callVal 75 #[v.v, (.slice (slA (slA s.a s.c 0 1) (s.c - 0) ((IntKind.i64.wrap (i + (v.n : Int))).toNat) 1) ((((IntKind.i64.wrap ((s.n : Int) + (v.n : Int))).toNat) - 0) - ((IntKind.i64.wrap (i + (v.n : Int))).toNat)) ((s.c - 0) - ((IntKind.i64.wrap (i + (v.n : Int))).toNat)))]) H fun (r : Bool) H5 => br (!r) ((0 ≤ (IntKind.i64.wrap (i + (v.n : Int))) ∧ (IntKind.i64.wrap (i + (v.n : Int))) ≤ ((((IntKind.i64.wrap ((s.n : Int) + (v.n : Int))).toNat) - 0 : Nat) : Int)) ∧ (0 ≤ i ∧ i ≤ ((((IntKind.i64.wrap ((s.n : Int) + (v.n : Int))).toNat) - 0 : Nat) : Int)) ∧ doT (cInt .i64) Tryd.prog (Builtin.copy_ #[ty_sl_sl_uint64, ty_sl_sl_uint64] ty_int #[(.slice (slA (slA s.a s.c 0 1) (s.c - 0) ((IntKind.i64.wrap (i + (v.n : Int))).toNat) 1) ((((IntKind.i64.wrap ((s.n : Int) + (v.n : Int))).toNat) - 0) - ((IntKind.i64.wrap (i + (v.n : Int))).toNat)) ((s.c - 0) - ((IntKind.i64.wrap (i + (v.n : Int))).toNat))), (.slice (slA (slA s.a s.c 0 1) (s.c - 0) i.toNat 1) ((((IntKind.i64.wrap ((s.n : Int) + (v.n : Int))).toNat) - 0) - i.toNat) ((s.c - 0) - i.toNat))]) H5 fun (_ : Int) H6 => (0 ≤ i ∧ i ≤ ((((IntKind.i64.wrap ((s.n : Int) + (v.n : Int))).toNat) - 0 : Nat) : Int)) ∧ doT (cInt .i64) Tryd.prog (Builtin.copy_ #[ty_sl_sl_uint64, ty_sl_sl_uint64] ty_int #[(.slice (slA (slA s.a s.c 0 1) (s.c - 0) i.toNat 1) ((((IntKind.i64.wrap ((s.n : Int) + (v.n : Int))).toNat) - 0) - i.toNat) ((s.c - 0) - i.toNat)), v.v]) H6 fun (_ : Int) H7 => R (Sl.mk (slA s.a s.c 0 1) (((IntKind.i64.wrap ((s.n : Int) + (v.n : Int))).toNat) - 0) (s.c - 0)) H7) ((0 ≤ (s.n : Int) ∧ (s.n : Int) ≤ ((((IntKind.i64.wrap ((s.n : Int) + (v.n : Int))).toNat) - 0 : Nat) : Int)) ∧ doT (cInt .i64) Tryd.prog (Builtin.copy_ #[ty_sl_sl_uint64, ty_sl_sl_uint64] ty_int #[(.slice (slA (slA s.a s.c 0 1) (s.c - 0) ((s.n : Int).toNat) 1) ((((IntKind.i64.wrap ((s.n : Int) + (v.n : Int))).toNat) - 0) - ((s.n : Int).toNat)) ((s.c - 0) - ((s.n : Int).toNat))), v.v]) H5 fun (_ : Int) H8 => (0 ≤ i ∧ i ≤ ((((IntKind.i64.wrap ((s.n : Int) + (v.n : Int))).toNat) - 0 : Nat) : Int)) ∧ slices_rotateRight_sl_uint64.sp (Sl.mk (slA (slA s.a s.c 0 1) (s.c - 0) i.toNat 1) ((((IntKind.i64.wrap ((s.n : Int) + (v.n : Int))).toNat) - 0) - i.toNat) ((s.c - 0) - i.toNat)) (v.n : Int) H8 fun (_ : Unit) H9 => R (Sl.mk (slA s.a s.c 0 1) (((IntKind.i64.wrap ((s.n : Int) + (v.n : Int))).toNat) - 0) (s.c - 0)) H9))))

theorem slices_Insert_sl_sl_uint64_sl_uint64.of {s : Sl} {i : Int} {v : Sl} {H : Heap} {R : Sl → Heap → Prop} (hvc : slices_Insert_sl_sl_uint64_sl_uint64.vc s i v H R) : slices_Insert_sl_sl_uint64_sl_uint64.sp s i v H R :=
  specT_of_vc prog_ng prog_mixed (c := cSl) (A := []) (args := [s.v, (.int .i64 i), v.v]) (Eq.mpr (by kernel_rfl : vcFT cSl Tryd.prog slices_Insert_sl_sl_uint64_sl_uint64.no [] [s.v, (.int .i64 i), v.v] H R = slices_Insert_sl_sl_uint64_sl_uint64.vc s i v H R) hvc)

/-- slices.Insert[[]int,int] -/
def slices_Insert_sl_int_int.vc (s : Sl) (i : Int) (v : Sl) (H : Heap) (R : Sl → Heap → Prop) : Prop :=
  (0 ≤ i ∧ i ≤ (s.n : Int)) ∧ br ((v.n : Int) == (0 : Int)) (R s H) (br (i == (s.n : Int)) (doT cSl Tryd.prog (Builtin.append_ #[ty_sl_int, ty_sl_int] ty_sl_int #[s.v, v.v]) H fun (s_1 : Sl) H1 => R s_1 H1) (br (decide ((IntKind.i64.wrap ((s.n : Int) + (v.n : Int))) > (s.c : Int))) ((0 ≤ i ∧ i ≤ (s.c : Int)) ∧ doT cSl Tryd.prog (Builtin.append_ #[ty_sl_int, ty_int] ty_sl_int #[(.slice (slA s.a s.c 0 1) (i.toNat - 0) (s.c - 0)), (.int .i64 (IntKind.i64.wrap ((IntKind.i64.wrap ((s.n : Int) + (v.n : Int))) - i)))]) H fun (s2 : Sl) H2 => (0 ≤ i ∧ i ≤ (s2.n : Int)) ∧ doT (cInt .i64) Tryd.prog (Builtin.copy_ #[ty_sl_int, ty_sl_int] ty_int #[(.slice (slA s2.a s2.c i.toNat 1) (s2.n - i.toNat) (s2.c - i.toNat)), v.v]) H2 fun (_ : Int) H3 => (0 ≤ (IntKind.i64.wrap (i + (v.n : Int))) ∧ (IntKind.i64.wrap (i + (v.n : Int))) ≤ (s2.n : Int)) ∧ (0 ≤ i ∧ i ≤ (s.n : Int)) ∧ doT (cInt .i64) Tryd.prog (Builtin.copy_ #[ty_sl_int, ty_sl_int] ty_int #[(.slice (slA s2.a s2.c ((IntKind.i64.wrap (i + (v.n : Int))).toNat) 1) (s2.n - ((IntKind.i64.wrap (i + (v.n : Int))).toNat)) (s2.c - ((IntKind.i64.wrap (i + (v.n : Int))).toNat))), (.slice (slA s.a s.c i.toNat 1) (s.n - i.toNat) (s.c - i.toNat))]) H3 fun (_ : Int) H4 => R s2 H4) ((0 ≤ (IntKind.i64.wrap ((s.n : Int) + (v.n : Int))) ∧ (IntKind.i64.wrap ((s.n : Int) + (v.n : Int))) ≤ (s.c : Int)) ∧ (0 ≤ (IntKind.i64.wrap (i + (v.n : Int))) ∧ (IntKind.i64.wrap (i + (v.n : Int))) ≤ ((((IntKind.i64.wrap ((s.n : Int) + (v.n : Int))).toNat) - 0 : Nat) : Int)) ∧ doT cBool Tryd.prog (callVal 77 #[v.v, (.slice (slA (slA s.a s.c 0 1) (s.c - 0) ((IntKind.i64.wrap (i + (v.n : Int))).toNat) 1) ((((IntKind.i64.wrap ((s.n : Int) + (v.n : Int))).toNat) - 0) - ((IntKind.i64.wrap (i + (v.n : Int))).toNat)) ((s.c - 0) - ((IntKind.i64.wrap (i + (v.n : Int))).toNat)))]) H fun (r : Bool) H5 => br (!r) ((0 ≤ (IntKind.i64.wrap (i + (v.n : Int))) ∧ (IntKind.i64.wrap (i + (v.n : Int))) ≤ ((((IntKind.i64.wrap ((s.n : Int) + (v.n : Int))).toNat) - 0 : Nat) : Int)) ∧ (0 ≤ i ∧ i ≤ ((((IntKind.i64.wrap ((s.n : Int) + (v.n : Int))).toNat) - 0 : Nat) : Int)) ∧ doT (cInt .i64) Tryd.prog (Builtin.copy_ #[ty_sl_int, ty_sl_int] ty_int #[(.slice (slA (slA s.a s.c 0 1) (s.c - 0) ((IntKind.i64.wrap (i + (v.n : Int))).toNat) 1) ((((IntKind.i64.wrap ((s.n : Int) + (v.n : Int))).toNat) - 0) - ((IntKind.i64.wrap (i + (v.n : Int))).toNat)) ((s.c - 0) - ((IntKind.i64.wrap (i + (v.n : Int))).toNat))), (.slice (slA (slA s.a s.c 0 1) (s.c - 0) i.toNat 1) ((((IntKind.i64.wrap ((s.n : Int) + (v.n : Int))).toNat) - 0) - i.toNat) ((s.c - 0) - i.toNat))]) H5 fun (_ : Int) H6 => (0 ≤ i ∧ i ≤ ((((IntKind.i64.wrap ((s.n : Int) + (v.n : Int))).toNat) - 0 : Nat) : Int)) ∧ doT (cInt .i64) Tryd.prog (Builtin.copy_ #[ty_sl_int, ty_sl_int] ty_int #[(.slice (slA (slA s.a s.c 0 1) (s.c - 0) i.toNat 1) ((((IntKind.i64.wrap ((s.n : Int) + (v.n : Int))).toNat) - 0) - i.toNat) ((s.c - 0) - i.toNat)), v.v]) H6 fun (_ : Int) H7 => R (Sl.mk (slA s.a s.c 0 1) (((IntKind.i64.wrap ((s.n : Int) + (v.n : Int))).toNat) - 0) (s.c - 0)) H7) ((0 ≤ (s.n : Int) ∧ (s.n : Int) ≤ ((((IntKind.i64.wrap ((s.n : Int) + (v.n : Int))).toNat) - 0 : Nat) : Int)) ∧ doT (cInt .i64) Tryd.prog (Builtin.copy_ #[ty_sl_int, ty_sl_int] ty_int #[(.slice (slA (slA s.a s.c 0 1) (s.c - 0) ((s.n : Int).toNat) 1) ((((IntKind.i64.wrap ((s.n : Int) + (v.n : Int))).toNat) - 0) - ((s.n : Int).toNat)) ((s.c - 0) - ((s.n : Int).toNat))), v.v]) H5 fun (_ : Int) H8 => (0 ≤ i ∧ i ≤ ((((IntKind.i64.wrap ((s.n : Int) + (v.n : Int))).toNat) - 0 : Nat) : Int)) ∧ slices_rotateRight_int.sp (Sl.mk (slA (slA s.a s.c 0 1) (s.c - 0) i.toNat 1) ((((IntKind.i64.wrap ((s.n : Int) + (v.n : Int))).toNat) - 0) - i.toNat) ((s.c - 0) - i.toNat)) (v.n : Int) H8 fun (_ : Unit) H9 => R (Sl.mk (slA s.a s.c 0 1) (((IntKind.i64.wrap ((s.n : Int) + (v.n : Int))).toNat) - 0) (s.c - 0)) H9))))

theorem slices_Insert_sl_int_int.of {s : Sl} {i : Int} {v : Sl} {H : Heap} {R : Sl → Heap → Prop} (hvc : slices_Insert_sl_int_int.vc s i v H R) : slices_Insert_sl_int_int.sp s i v H R :=
  specT_of_vc prog_ng prog_mixed (c := cSl) (A := []) (args := [s.v, (.int .i64 i), v.v]) (Eq.mpr (by kernel_rfl : vcFT cSl Tryd.prog slices_Insert_sl_int_int.no [] [s.v, (.int .i64 i), v.v] H R = slices_Insert_sl_int_int.vc s i v H R) hvc)

/-- (*fathom/tree.Tree).fan -/
def tree_Tree_fan.vc (t : Option Addr) (H : Heap) (R : Int → Heap → Prop) : Prop :=
  optK t fun a => ld (cInt .i64) H (a.add 2) fun (x : Int) => doT cSl Tryd.prog (Instr.makeSlice ty_sl_uint64 (.int .i64 x) (.int .i64 x)) H fun (sl : Sl) H1 => row_Put.sp sl H1 fun (r : Sl) H2 => (IntKind.i64.wrap ((4 : Int) + (r.n : Int))) ≠ 0 ∧ R (IntKind.i64.wrap (Int.tdiv (IntKind.i64.wrap ((502 : Int) + (r.n : Int))) (IntKind.i64.wrap ((4 : Int) + (r.n : Int))))) H2

theorem tree_Tree_fan.of {t : Option Addr} {H : Heap} {R : Int → Heap → Prop} (hvc : tree_Tree_fan.vc t H R) : tree_Tree_fan.sp t H R :=
  specT_of_vc prog_ng prog_mixed (c := (cInt .i64)) (A := []) (args := [(.pointer t)]) (Eq.mpr (by kernel_rfl : vcFT (cInt .i64) Tryd.prog tree_Tree_fan.no [] [(.pointer t)] H R = tree_Tree_fan.vc t H R) hvc)

/-- (*fathom/tree.Tree).split -/
def tree_Tree_split.vc (t : Option Addr) (n : Option Addr) (H : Heap) (R : (Option Addr × Sl × Int) → Heap → Prop) : Prop :=
  optK n fun a => ld cSl H (a.add 2) fun (x : Sl) => newC H #[(.int .i64 (-1 : Int)), (.slice none 0 0), (.slice none 0 0)] ty_tree_node fun m_p H1 => optK n fun a_1 => ld cSl H1 (a_1.add 2) fun (x_1 : Sl) => optK x_1.a fun a_2 => (0 ≤ (IntKind.i64.wrap (Int.tdiv (x.n : Int) (2 : Int))) ∧ (IntKind.i64.wrap (Int.tdiv (x.n : Int) (2 : Int))) < (x_1.n : Int)) ∧ ld cSl H1 (a_2.add ((IntKind.i64.wrap (Int.tdiv (x.n : Int) (2 : Int))).toNat * 1)) fun (up : Sl) => optK n fun a_3 => ld cSl H1 (a_3.add 1) fun (x_2 : Sl) => br (decide ((x_2.n : Int) > (0 : Int))) (optK n fun a_4 => ld cSl H1 (a_4.add 2) fun (x_3 : Sl) => (0 ≤ (IntKind.i64.wrap ((IntKind.i64.wrap (Int.tdiv (x.n : Int) (2 : Int))) + (1 : Int))) ∧ (IntKind.i64.wrap ((IntKind.i64.wrap (Int.tdiv (x.n : Int) (2 : Int))) + (1 : Int))) ≤ (x_3.n : Int)) ∧ optK n fun a_5 => ld cSl H1 (a_5.add 1) fun (x_4 : Sl) => (0 ≤ (IntKind.i64.wrap ((IntKind.i64.wrap (Int.tdiv (x.n : Int) (2 : Int))) + (1 : Int))) ∧ (IntKind.i64.wrap ((IntKind.i64.wrap (Int.tdiv (x.n : Int) (2 : Int))) + (1 : Int))) ≤ (x_4.n : Int)) ∧ st H1 (m_p.add 2) (.slice (slA x_3.a x_3.c ((IntKind.i64.wrap ((IntKind.i64.wrap (Int.tdiv (x.n : Int) (2 : Int))) + (1 : Int))).toNat) 1) (x_3.n - ((IntKind.i64.wrap ((IntKind.i64.wrap (Int.tdiv (x.n : Int) (2 : Int))) + (1 : Int))).toNat)) (x_3.c - ((IntKind.i64.wrap ((IntKind.i64.wrap (Int.tdiv (x.n : Int) (2 : Int))) + (1 : Int))).toNat))) fun H2 => st H2 (m_p.add 1) (.slice (slA x_4.a x_4.c ((IntKind.i64.wrap ((IntKind.i64.wrap (Int.tdiv (x.n : Int) (2 : Int))) + (1 : Int))).toNat) 1) (x_4.n - ((IntKind.i64.wrap ((IntKind.i64.wrap (Int.tdiv (x.n : Int) (2 : Int))) + (1 : Int))).toNat)) (x_4.c - ((IntKind.i64.wrap ((IntKind.i64.wrap (Int.tdiv (x.n : Int) (2 : Int))) + (1 : Int))).toNat))) fun H3 => optK n fun a_6 => ld cSl H3 (a_6.add 1) fun (x_5 : Sl) => (0 ≤ (IntKind.i64.wrap ((IntKind.i64.wrap (Int.tdiv (x.n : Int) (2 : Int))) + (1 : Int))) ∧ (IntKind.i64.wrap ((IntKind.i64.wrap (Int.tdiv (x.n : Int) (2 : Int))) + (1 : Int))) ≤ (x_5.c : Int)) ∧ (0 ≤ (IntKind.i64.wrap ((IntKind.i64.wrap (Int.tdiv (x.n : Int) (2 : Int))) + (1 : Int))) ∧ (IntKind.i64.wrap ((IntKind.i64.wrap (Int.tdiv (x.n : Int) (2 : Int))) + (1 : Int))) ≤ (IntKind.i64.wrap ((IntKind.i64.wrap (Int.tdiv (x.n : Int) (2 : Int))) + (1 : Int)))) ∧ optK n fun a_7 => st H3 (a_7.add 1) (.slice (slA x_5.a ((IntKind.i64.wrap ((IntKind.i64.wrap (Int.tdiv (x.n : Int) (2 : Int))) + (1 : Int))).toNat) 0 1) ((IntKind.i64.wrap ((IntKind.i64.wrap (Int.tdiv (x.n : Int) (2 : Int))) + (1 : Int))).toNat - 0) ((IntKind.i64.wrap ((IntKind.i64.wrap (Int.tdiv (x.n : Int) (2 : Int))) + (1 : Int))).toNat - 0)) fun H4 => optK n fun a_8 => ld cSl H4 (a_8.add 2) fun (x_6 : Sl) => (0 ≤ (IntKind.i64.wrap (Int.tdiv (x.n : Int) (2 : Int))) ∧ (IntKind.i64.wrap (Int.tdiv (x.n : Int) (2 : Int))) ≤ (x_6.c : Int)) ∧ (0 ≤ (IntKind.i64.wrap (Int.tdiv (x.n : Int) (2 : Int))) ∧ (IntKind.i64.wrap (Int.tdiv (x.n : Int) (2 : Int))) ≤ (IntKind.i64.wrap (Int.tdiv (x.n : Int) (2 : Int)))) ∧ optK n fun a_9 => st H4 (a_9.add 2) (.slice (slA x_6.a ((IntKind.i64.wrap (Int.tdiv (x.n : Int) (2 : Int))).toNat) 0 1) ((IntKind.i64.wrap (Int.tdiv (x.n : Int) (2 : Int))).toNat - 0) ((IntKind.i64.wrap (Int.tdiv (x.n : Int) (2 : Int))).toNat - 0)) fun H5 => tree_Tree_write.sp t (some m_p) H5 fun (r : Int) H6 => R (some m_p, up, r) H6) (optK n fun a_10 => ld cSl H1 (a_10.add 2) fun (x_7 : Sl) => (0 ≤ (IntKind.i64.wrap (Int.tdiv (x.n : Int) (2 : Int))) ∧ (IntKind.i64.wrap (Int.tdiv (x.n : Int) (2 : Int))) ≤ (x_7.n : Int)) ∧ st H1 (m_p.add 2) (.slice (slA x_7.a x_7.c ((IntKind.i64.wrap (Int.tdiv (x.n : Int) (2 : Int))).toNat) 1) (x_7.n - ((IntKind.i64.wrap (Int.tdiv (x.n : Int) (2 : Int))).toNat)) (x_7.c - ((IntKind.i64.wrap (Int.tdiv (x.n : Int) (2 : Int))).toNat))) fun H7 => optK n fun a_11 => ld cSl H7 (a_11.add 2) fun (x_8 : Sl) => (0 ≤ (IntKind.i64.wrap (Int.tdiv (x.n : Int) (2 : Int))) ∧ (IntKind.i64.wrap (Int.tdiv (x.n : Int) (2 : Int))) ≤ (x_8.c : Int)) ∧ (0 ≤ (IntKind.i64.wrap (Int.tdiv (x.n : Int) (2 : Int))) ∧ (IntKind.i64.wrap (Int.tdiv (x.n : Int) (2 : Int))) ≤ (IntKind.i64.wrap (Int.tdiv (x.n : Int) (2 : Int)))) ∧ optK n fun a_12 => st H7 (a_12.add 2) (.slice (slA x_8.a ((IntKind.i64.wrap (Int.tdiv (x.n : Int) (2 : Int))).toNat) 0 1) ((IntKind.i64.wrap (Int.tdiv (x.n : Int) (2 : Int))).toNat - 0) ((IntKind.i64.wrap (Int.tdiv (x.n : Int) (2 : Int))).toNat - 0)) fun H8 => tree_Tree_write.sp t (some m_p) H8 fun (r_1 : Int) H9 => R (some m_p, up, r_1) H9)

theorem tree_Tree_split.of {t : Option Addr} {n : Option Addr} {H : Heap} {R : (Option Addr × Sl × Int) → Heap → Prop} (hvc : tree_Tree_split.vc t n H R) : tree_Tree_split.sp t n H R :=
  specT_of_vc prog_ng prog_mixed (c := (cTup [cPtr, cSl, (cInt .i64)])) (A := []) (args := [(.pointer t), (.pointer n)]) (Eq.mpr (by kernel_rfl : vcFT (cTup [cPtr, cSl, (cInt .i64)]) Tryd.prog tree_Tree_split.no [] [(.pointer t), (.pointer n)] H R = tree_Tree_split.vc t n H R) hvc)

/-- fathom/tree.bytes -/
def tree_bytes.vc (n : Int) (H : Heap) (R : Sl → Heap → Prop) : Prop :=
  newC H #[(.int .u8 (IntKind.u8.wrap (ishr .i64 n (24 : Int)))), (.int .u8 (IntKind.u8.wrap (ishr .i64 n (16 : Int)))), (.int .u8 (IntKind.u8.wrap (ishr .i64 n (8 : Int)))), (.int .u8 (IntKind.u8.wrap n))] ty_uint8 fun p H1 => R (Sl.mk (some p) 4 4) H1

theorem tree_bytes.of {n : Int} {H : Heap} {R : Sl → Heap → Prop} (hvc : tree_bytes.vc n H R) : tree_bytes.sp n H R :=
  specT_of_vc prog_ng prog_mixed (c := cSl) (A := []) (args := [(.int .i64 n)]) (Eq.mpr (by kernel_rfl : vcFT cSl Tryd.prog tree_bytes.no [] [(.int .i64 n)] H R = tree_bytes.vc n H R) hvc)

/-- fathom/row.Put -/
def row_Put.vc (l : Sl) (H : Heap) (R : Sl → Heap → Prop) : Prop :=
  br ((l.n : Int) == (0 : Int)) (newC H #[(.int .u8 (0 : Int))] ty_uint8 fun p H1 => R (Sl.mk (some p) 1 1) H1) (doT cSl Tryd.prog (Instr.makeSlice ty_sl_uint8 (.int .i64 (0 : Int)) (.int .i64 (IntKind.i64.wrap ((8 : Int) * (l.n : Int))))) H fun (out : Sl) H2 => LoopVC (Sl × Int) (out, (0 : Int)) H2 fun next z H3 => br (decide (z.2 < (l.n : Int))) (optK l.a fun a => (0 ≤ z.2 ∧ z.2 < (l.n : Int)) ∧ ld (cInt .u64) H3 (a.add (z.2.toNat * 1)) fun (n : Int) => row_word_of.sp (zc Tryd.prog ty_row_word) n H3 fun (r : Array Value) H4 => newC H4 (zc Tryd.prog ty_row_word) ty_row_word fun p_1 H5 => doU Tryd.prog (Instr.storeAt ty_row_word (.pointer (some p_1)) (.agg r)) H5 fun H6 => doT cSl Tryd.prog (Builtin.append_ #[ty_sl_uint8, ty_sl_uint8] ty_sl_uint8 #[z.1.v, (.slice (slA (some p_1) 8 0 1) (8 - 0) (8 - 0))]) H6 fun (out_1 : Sl) H7 => next (out_1, IntKind.i64.wrap (z.2 + (1 : Int))) H7) (R z.1 H3))

theorem row_Put.of {l : Sl} {H : Heap} {R : Sl → Heap → Prop} (hvc : row_Put.vc l H R) : row_Put.sp l H R :=
  specT_of_vc prog_ng prog_mixed (c := cSl) (A := [(5, [(3, cSl), (17, (cInt .i64))])]) (args := [l.v]) (Eq.mpr (by kernel_rfl : vcFT cSl Tryd.prog row_Put.no [(5, [(3, cSl), (17, (cInt .i64))])] [l.v] H R = row_Put.vc l H R) hvc)

/-- fathom/page.Sum -/
def page_Sum.vc (b : Sl) (H : Heap) (R : Int → Heap → Prop) : Prop :=
  LoopVC (Int × Int) ((4294967295 : Int), (0 : Int)) H fun next z H1 => br (decide (z.2 < (b.n : Int))) (optK b.a fun a => (0 ≤ z.2 ∧ z.2 < (b.n : Int)) ∧ ld (cInt .u8) H1 (a.add (z.2.toNat * 1)) fun (c : Int) => (0 ≤ (iand .u32 (ixor .u32 z.1 (IntKind.u32.wrap c)) (15 : Int)) ∧ (iand .u32 (ixor .u32 z.1 (IntKind.u32.wrap c)) (15 : Int)) < ((16 : Nat) : Int)) ∧ ld (cInt .u32) H1 ((Addr.mk 0 0 none).add ((iand .u32 (ixor .u32 z.1 (IntKind.u32.wrap c)) (15 : Int)).toNat * 1)) fun (x : Int) => (0 ≤ (iand .u32 (ixor .u32 (ishr .u32 (ixor .u32 z.1 (IntKind.u32.wrap c)) (4 : Int)) x) (15 : Int)) ∧ (iand .u32 (ixor .u32 (ishr .u32 (ixor .u32 z.1 (IntKind.u32.wrap c)) (4 : Int)) x) (15 : Int)) < ((16 : Nat) : Int)) ∧ ld (cInt .u32) H1 ((Addr.mk 0 0 none).add ((iand .u32 (ixor .u32 (ishr .u32 (ixor .u32 z.1 (IntKind.u32.wrap c)) (4 : Int)) x) (15 : Int)).toNat * 1)) fun (x_1 : Int) => next (ixor .u32 (ishr .u32 (ixor .u32 (ishr .u32 (ixor .u32 z.1 (IntKind.u32.wrap c)) (4 : Int)) x) (4 : Int)) x_1, IntKind.i64.wrap (z.2 + (1 : Int))) H1) (R (ixor .u32 (4294967295 : Int) z.1) H1)

theorem page_Sum.of {b : Sl} {H : Heap} {R : Int → Heap → Prop} (hvc : page_Sum.vc b H R) : page_Sum.sp b H R :=
  specT_of_vc prog_ng prog_mixed (c := (cInt .u32)) (A := [(3, [(3, (cInt .u32)), (8, (cInt .i64))])]) (args := [b.v]) (Eq.mpr (by kernel_rfl : vcFT (cInt .u32) Tryd.prog page_Sum.no [(3, [(3, (cInt .u32)), (8, (cInt .i64))])] [b.v] H R = page_Sum.vc b H R) hvc)

/-- fathom/disk.put -/
def disk_put.vc (l : Sl) (page : Int) (b : Array Value) (H : Heap) (R : Sl → Heap → Prop) : Prop :=
  newC H b ty_disk_sheet fun p H1 => LoopVC Sl l H1 fun next l_1 H2 => br (decide ((l_1.n : Int) ≤ page)) (doT cSl Tryd.prog (Instr.buildSlice ty_sl_disk_sheet 1 #[(0, (.agg (zc Tryd.prog ty_disk_sheet)))]) H2 fun (sl : Sl) H3 => doT cSl Tryd.prog (Builtin.append_ #[ty_sl_disk_sheet, ty_sl_disk_sheet] ty_sl_disk_sheet #[l_1.v, sl.v]) H3 fun (l_2 : Sl) H4 => next l_2 H4) (ldA cArr 512 H2 p fun (x : Array Value) => optK l_1.a fun a => (0 ≤ page ∧ page < (l_1.n : Int)) ∧ doU Tryd.prog (Instr.storeAt ty_disk_sheet (.pointer (some (a.add (page.toNat * 512)))) (.agg x)) H2 fun H5 => R l_1 H5)

theorem disk_put.of {l : Sl} {page : Int} {b : Array Value} {H : Heap} {R : Sl → Heap → Prop} (hvc : disk_put.vc l page b H R) : disk_put.sp l page b H R :=
  specT_of_vc prog_ng prog_mixed (c := cSl) (A := [(1, [(0, cSl)])]) (args := [l.v, (.int .i64 page), (.agg b)]) (Eq.mpr (by kernel_rfl : vcFT cSl Tryd.prog disk_put.no [(1, [(0, cSl)])] [l.v, (.int .i64 page), (.agg b)] H R = disk_put.vc l page b H R) hvc)

/-- (*fathom/pool.Pool).load -/
def pool_Pool_load.vc (p : Option Addr) (at_ : ByteArray) (at_1 : Int) (H : Heap) (R : (Option Addr × Int) → Heap → Prop) : Prop :=
  newC H #[(.string at_), (.int .i64 at_1)] ty_pool_spot fun p_1 H1 => optK p fun a => ld cPtr H1 (a.add 0) fun (x : Option Addr) => ld cStr H1 (p_1.add 0) fun (x_1 : ByteArray) => disk_Disk_Len.sp x x_1 H1 fun (r : (Int × Int)) H2 => br (r.2 != (0 : Int)) (R (none, r.2) H2) (ld (cInt .i64) H2 (p_1.add 1) fun (x_2 : Int) => br (decide (x_2 < (0 : Int))) (R (none, (12 : Int)) H2) (ld (cInt .i64) H2 (p_1.add 1) fun (x_3 : Int) => br (decide (x_3 ≥ r.1)) (R (none, (12 : Int)) H2) (pool_Pool_room.sp p H2 fun (e : Int) H3 => br (e != (0 : Int)) (R (none, e) H3) (optK p fun a_1 => ld cPtr H3 (a_1.add 0) fun (x_4 : Option Addr) => ld cStr H3 (p_1.add 0) fun (x_5 : ByteArray) => ld (cInt .i64) H3 (p_1.add 1) fun (x_6 : Int) => disk_Disk_Read.sp x_4 x_5 x_6 H3 fun (r_1 : (Sl × Int)) H4 => br (r_1.2 != (0 : Int)) (R (none, r_1.2) H4) (ldA (cAgg [cStr, (cInt .i64)]) 2 H4 p_1 fun (x_7 : (ByteArray × Int)) => newC H4 #[(.string x_7.1), (.int .i64 x_7.2), (.int .u8 (0 : Int)), (.slice none 0 0), (.bool false), (.int .i64 (0 : Int)), (.int .i64 (0 : Int))] ty_pool_frame fun f_p H5 => page_Open.sp r_1.1 H5 fun (r_2 : (Int × Sl × Int)) H6 => st H6 (f_p.add 2) (.int .u8 r_2.1) fun H7 => st H7 (f_p.add 3) r_2.2.1.v fun H8 => R (some f_p, r_2.2.2) H8)))))

theorem pool_Pool_load.of {p : Option Addr} {at_ : ByteArray} {at_1 : Int} {H : Heap} {R : (Option Addr × Int) → Heap → Prop} (hvc : pool_Pool_load.vc p at_ at_1 H R) : pool_Pool_load.sp p at_ at_1 H R :=
  specT_of_vc prog_ng prog_mixed (c := (cTup [cPtr, (cInt .i64)])) (A := []) (args := [(.pointer p), (.agg #[(.string at_), (.int .i64 at_1)])]) (Eq.mpr (by kernel_rfl : vcFT (cTup [cPtr, (cInt .i64)]) Tryd.prog pool_Pool_load.no [] [(.pointer p), (.agg #[(.string at_), (.int .i64 at_1)])] H R = pool_Pool_load.vc p at_ at_1 H R) hvc)

/-- slices.Chunk[[]byte,byte]$1 -/
def slices_Chunk_sl_byte_byte_c1.vc (l : Nat) (cap : Addr) (cap1 : Addr) (H : Heap) (R : Unit → Heap → Prop) : Prop :=
  LoopVC Int (0 : Int) H fun next i H1 => ld cSl H1 cap fun (x : Sl) => br (decide (i < (x.n : Int))) (ld (cInt .i64) H1 cap1 fun (x_1 : Int) => ld cSl H1 cap fun (x_2 : Sl) => (0 ≤ i ∧ i ≤ (x_2.n : Int)) ∧ ld cSl H1 cap fun (x_3 : Sl) => (0 ≤ (IntKind.i64.wrap (i + (if ((x_2.n - i.toNat : Nat) : Int) < x_1 then ((x_2.n - i.toNat : Nat) : Int) else x_1))) ∧ (IntKind.i64.wrap (i + (if ((x_2.n - i.toNat : Nat) : Int) < x_1 then ((x_2.n - i.toNat : Nat) : Int) else x_1))) ≤ (x_3.c : Int)) ∧ (0 ≤ (IntKind.i64.wrap (i + (if ((x_2.n - i.toNat : Nat) : Int) < x_1 then ((x_2.n - i.toNat : Nat) : Int) else x_1))) ∧ (IntKind.i64.wrap (i + (if ((x_2.n - i.toNat : Nat) : Int) < x_1 then ((x_2.n - i.toNat : Nat) : Int) else x_1))) ≤ (IntKind.i64.wrap (i + (if ((x_2.n - i.toNat : Nat) : Int) < x_1 then ((x_2.n - i.toNat : Nat) : Int) else x_1)))) ∧ (0 ≤ i ∧ i ≤ (IntKind.i64.wrap (i + (if ((x_2.n - i.toNat : Nat) : Int) < x_1 then ((x_2.n - i.toNat : Nat) : Int) else x_1)))) ∧ YieldSpec Tryd.prog l #[(.slice (slA x_3.a ((IntKind.i64.wrap (i + (if ((x_2.n - i.toNat : Nat) : Int) < x_1 then ((x_2.n - i.toNat : Nat) : Int) else x_1))).toNat) i.toNat 1) ((IntKind.i64.wrap (i + (if ((x_2.n - i.toNat : Nat) : Int) < x_1 then ((x_2.n - i.toNat : Nat) : Int) else x_1))).toNat - i.toNat) ((IntKind.i64.wrap (i + (if ((x_2.n - i.toNat : Nat) : Int) < x_1 then ((x_2.n - i.toNat : Nat) : Int) else x_1))).toNat - i.toNat))] H1 fun (b : Bool) H2 => br (!b) (R () H2) (ld (cInt .i64) H2 cap1 fun (x_4 : Int) => next (IntKind.i64.wrap (i + x_4)) H2)) (R () H1)

theorem slices_Chunk_sl_byte_byte_c1.of {l : Nat} {cap : Addr} {cap1 : Addr} {H : Heap} {R : Unit → Heap → Prop} (hvc : slices_Chunk_sl_byte_byte_c1.vc l cap cap1 H R) : slices_Chunk_sl_byte_byte_c1.sp l cap cap1 H R :=
  specT_of_vc prog_ng prog_mixed (c := (cTup [])) (A := [(1, [(4, (cInt .i64))])]) (args := [(.func (.yield l) #[] #[]), (.pointer (some cap)), (.pointer (some cap1))]) (Eq.mpr (by kernel_rfl : vcFT (cTup []) Tryd.prog slices_Chunk_sl_byte_byte_c1.no [(1, [(4, (cInt .i64))])] [(.func (.yield l) #[] #[]), (.pointer (some cap)), (.pointer (some cap1))] H R = slices_Chunk_sl_byte_byte_c1.vc l cap cap1 H R) hvc)

/-- (fathom/tree.span).holds -/
def tree_span_holds.vc (s_ : Sl) (s_1 : Sl) (l : Sl) (H : Heap) (R : Bool → Heap → Prop) : Prop :=
  newC H #[s_.v, s_1.v] ty_tree_span fun p H1 => LoopVC Int (1 : Int) H1 fun next i H2 => br (decide (i < (l.n : Int))) (optK l.a fun a => (0 ≤ (IntKind.i64.wrap (i - (1 : Int))) ∧ (IntKind.i64.wrap (i - (1 : Int))) < (l.n : Int)) ∧ ld cSl H2 (a.add ((IntKind.i64.wrap (i - (1 : Int))).toNat * 1)) fun (x : Sl) => optK l.a fun a_1 => (0 ≤ i ∧ i < (l.n : Int)) ∧ ld cSl H2 (a_1.add (i.toNat * 1)) fun (x_1 : Sl) => row_Cmp.sp x x_1 H2 fun (r : Int) H3 => br (decide (r ≥ (0 : Int))) (R false H3) (next (IntKind.i64.wrap (i + (1 : Int))) H3)) (br ((l.n : Int) == (0 : Int)) (R true H2) (ld cSl H2 (p.add 0) fun (x_2 : Sl) => br x_2.a.isNone (ld cSl H2 (p.add 1) fun (x_3 : Sl) => br x_3.a.isNone (R true H2) (optK l.a fun a_2 => (0 ≤ (IntKind.i64.wrap ((l.n : Int) - (1 : Int))) ∧ (IntKind.i64.wrap ((l.n : Int) - (1 : Int))) < (l.n : Int)) ∧ ld cSl H2 (a_2.add ((IntKind.i64.wrap ((l.n : Int) - (1 : Int))).toNat * 1)) fun (x_4 : Sl) => ld cSl H2 (p.add 1) fun (x_5 : Sl) => row_Cmp.sp x_4 x_5 H2 fun (r_1 : Int) H4 => R (decide (r_1 < (0 : Int))) H4)) (optK l.a fun a_3 => (0 ≤ (0 : Int) ∧ (0 : Int) < (l.n : Int)) ∧ ld cSl H2 (a_3.add ((0 : Int).toNat * 1)) fun (x_6 : Sl) => ld cSl H2 (p.add 0) fun (x_7 : Sl) => row_Cmp.sp x_6 x_7 H2 fun (r_2 : Int) H5 => br (decide (r_2 ≥ (0 : Int))) (ld cSl H5 (p.add 1) fun (x_8 : Sl) => br x_8.a.isNone (R true H5) (optK l.a fun a_4 => (0 ≤ (IntKind.i64.wrap ((l.n : Int) - (1 : Int))) ∧ (IntKind.i64.wrap ((l.n : Int) - (1 : Int))) < (l.n : Int)) ∧ ld cSl H5 (a_4.add ((IntKind.i64.wrap ((l.n : Int) - (1 : Int))).toNat * 1)) fun (x_9 : Sl) => ld cSl H5 (p.add 1) fun (x_10 : Sl) => row_Cmp.sp x_9 x_10 H5 fun (r_3 : Int) H6 => R (decide (r_3 < (0 : Int))) H6)) (R false H5))))

theorem tree_span_holds.of {s_ : Sl} {s_1 : Sl} {l : Sl} {H : Heap} {R : Bool → Heap → Prop} (hvc : tree_span_holds.vc s_ s_1 l H R) : tree_span_holds.sp s_ s_1 l H R :=
  specT_of_vc prog_ng prog_mixed (c := cBool) (A := [(2, [(5, (cInt .i64))])]) (args := [(.agg #[s_.v, s_1.v]), l.v]) (Eq.mpr (by kernel_rfl : vcFT cBool Tryd.prog tree_span_holds.no [(2, [(5, (cInt .i64))])] [(.agg #[s_.v, s_1.v]), l.v] H R = tree_span_holds.vc s_ s_1 l H R) hvc)

/-- cmp.isNaN[uint64] -/
def cmp_isNaN_uint64.vc (x : Int) (H : Heap) (R : Bool → Heap → Prop) : Prop :=
  R (x != x) H

theorem cmp_isNaN_uint64.of {x : Int} {H : Heap} {R : Bool → Heap → Prop} (hvc : cmp_isNaN_uint64.vc x H R) : cmp_isNaN_uint64.sp x H R :=
  specT_of_vc prog_ng prog_mixed (c := cBool) (A := []) (args := [(.int .u64 x)]) (Eq.mpr (by kernel_rfl : vcFT cBool Tryd.prog cmp_isNaN_uint64.no [] [(.int .u64 x)] H R = cmp_isNaN_uint64.vc x H R) hvc)

/-- (fathom/row.word).of -/
def row_word_of.vc (b : Array Value) (n : Int) (H : Heap) (R : Array Value → Heap → Prop) : Prop :=
  newC H b ty_row_word fun p H1 => newC H1 (zc Tryd.prog ty_row_word) ty_row_word fun p_1 H2 => LoopVC Int (0 : Int) H2 fun next z H3 => br (decide (z < (8 : Int))) (0 ≤ (IntKind.i64.wrap ((56 : Int) - (IntKind.i64.wrap ((8 : Int) * z)))) ∧ (0 ≤ z ∧ z < ((8 : Nat) : Int)) ∧ st H3 (p.add (z.toNat * 1)) (.int .u8 (IntKind.u8.wrap (ishr .u64 n (IntKind.i64.wrap ((56 : Int) - (IntKind.i64.wrap ((8 : Int) * z))))))) fun H4 => next (IntKind.i64.wrap (z + (1 : Int))) H4) (ldA cArr 8 H3 p fun (x : Array Value) => doU Tryd.prog (Instr.storeAt ty_row_word (.pointer (some p_1)) (.agg x)) H3 fun H5 => ldA cArr 8 H5 p_1 fun (res : Array Value) => R res H5)

theorem row_word_of.of {b : Array Value} {n : Int} {H : Heap} {R : Array Value → Heap → Prop} (hvc : row_word_of.vc b n H R) : row_word_of.sp b n H R :=
  specT_of_vc prog_ng prog_mixed (c := cArr) (A := [(2, [(6, (cInt .i64))])]) (args := [(.agg b), (.int .u64 n)]) (Eq.mpr (by kernel_rfl : vcFT cArr Tryd.prog row_word_of.no [(2, [(6, (cInt .i64))])] [(.agg b), (.int .u64 n)] H R = row_word_of.vc b n H R) hvc)

/-- (*fathom/disk.Disk).Read -/
def disk_Disk_Read.vc (d : Option Addr) (name : ByteArray) (page : Int) (H : Heap) (R : (Sl × Int) → Heap → Prop) : Prop :=
  disk_Disk_open.sp d name H fun (r : (Option Addr × Int)) H1 => cut Unit (fun J => br (r.2 != (0 : Int)) (R ((Sl.mk none 0 0), r.2) H1) (br (decide (page < (0 : Int))) (br (decide (page < (0 : Int))) (R ((Sl.mk none 0 0), (12 : Int)) H1) (J () H1)) (optK r.1 fun a => ld cSl H1 (a.add 0) fun (x : Sl) => br (decide (page ≥ (x.n : Int))) (R ((Sl.mk none 0 0), (12 : Int)) H1) (J () H1)))) fun (_ : Unit) H2 => optK r.1 fun a_1 => ld cSl H2 (a_1.add 0) fun (x_1 : Sl) => optK x_1.a fun a_2 => (0 ≤ page ∧ page < (x_1.n : Int)) ∧ slices_Clone_sl_byte_byte.sp (Sl.mk (slA (some (a_2.add (page.toNat * 512))) 512 0 1) (512 - 0) (512 - 0)) H2 fun (r_1 : Sl) H3 => R (r_1, (0 : Int)) H3

theorem disk_Disk_Read.of {d : Option Addr} {name : ByteArray} {page : Int} {H : Heap} {R : (Sl × Int) → Heap → Prop} (hvc : disk_Disk_Read.vc d name page H R) : disk_Disk_Read.sp d name page H R :=
  specT_of_vc prog_ng prog_mixed (c := (cTup [cSl, (cInt .i64)])) (A := [(100007, [])]) (args := [(.pointer d), (.string name), (.int .i64 page)]) (Eq.mpr (by kernel_rfl : vcFT (cTup [cSl, (cInt .i64)]) Tryd.prog disk_Disk_Read.no [(100007, [])] [(.pointer d), (.string name), (.int .i64 page)] H R = disk_Disk_Read.vc d name page H R) hvc)

/-- fathom/page.Open -/
def page_Open.vc (b : Sl) (H : Heap) (R : (Int × Sl × Int) → Heap → Prop) : Prop :=
  br ((b.n : Int) != (512 : Int)) (R ((0 : Int), (Sl.mk none 0 0), (2 : Int)) H) ((0 ≤ (4 : Int) ∧ (4 : Int) ≤ (b.n : Int)) ∧ page_Sum.sp (Sl.mk (slA b.a b.c ((4 : Int).toNat) 1) (b.n - ((4 : Int).toNat)) (b.c - ((4 : Int).toNat))) H fun (n : Int) H1 => LoopVC Int (0 : Int) H1 fun next z H2 => br (decide (z < (4 : Int))) (optK b.a fun a => (0 ≤ z ∧ z < (b.n : Int)) ∧ ld (cInt .u8) H2 (a.add (z.toNat * 1)) fun (x : Int) => 0 ≤ (IntKind.i64.wrap ((8 : Int) * z)) ∧ br (x != (IntKind.u8.wrap (ishr .u32 n (IntKind.i64.wrap ((8 : Int) * z))))) (R ((0 : Int), (Sl.mk none 0 0), (20 : Int)) H2) (next (IntKind.i64.wrap (z + (1 : Int))) H2)) (optK b.a fun a_1 => (0 ≤ (4 : Int) ∧ (4 : Int) < (b.n : Int)) ∧ ld (cInt .u8) H2 (a_1.add ((4 : Int).toNat * 1)) fun (x_1 : Int) => optK b.a fun a_2 => (0 ≤ (5 : Int) ∧ (5 : Int) < (b.n : Int)) ∧ ld (cInt .u8) H2 (a_2.add ((5 : Int).toNat * 1)) fun (x_2 : Int) => br (decide ((ior .i64 (IntKind.i64.wrap x_1) (ishl .i64 (IntKind.i64.wrap x_2) (8 : Int))) > (504 : Int))) (R ((0 : Int), (Sl.mk none 0 0), (20 : Int)) H2) (optK b.a fun a_3 => (0 ≤ (7 : Int) ∧ (7 : Int) < (b.n : Int)) ∧ ld (cInt .u8) H2 (a_3.add ((7 : Int).toNat * 1)) fun (x_3 : Int) => br (x_3 != (157 : Int)) (R ((0 : Int), (Sl.mk none 0 0), (20 : Int)) H2) ((0 ≤ (IntKind.i64.wrap ((8 : Int) + (ior .i64 (IntKind.i64.wrap x_1) (ishl .i64 (IntKind.i64.wrap x_2) (8 : Int))))) ∧ (IntKind.i64.wrap ((8 : Int) + (ior .i64 (IntKind.i64.wrap x_1) (ishl .i64 (IntKind.i64.wrap x_2) (8 : Int))))) ≤ (b.n : Int)) ∧ slices_ContainsFunc_sl_byte_byte.sp (Sl.mk (slA b.a b.c ((IntKind.i64.wrap ((8 : Int) + (ior .i64 (IntKind.i64.wrap x_1) (ishl .i64 (IntKind.i64.wrap x_2) (8 : Int))))).toNat) 1) (b.n - ((IntKind.i64.wrap ((8 : Int) + (ior .i64 (IntKind.i64.wrap x_1) (ishl .i64 (IntKind.i64.wrap x_2) (8 : Int))))).toNat)) (b.c - ((IntKind.i64.wrap ((8 : Int) + (ior .i64 (IntKind.i64.wrap x_1) (ishl .i64 (IntKind.i64.wrap x_2) (8 : Int))))).toNat))) H2 fun (r : Bool) H3 => br r (R ((0 : Int), (Sl.mk none 0 0), (20 : Int)) H3) (∃ G : Heap → Prop, G H3 ∧ optK b.a fun a_4 => (0 ≤ (6 : Int) ∧ (6 : Int) < (b.n : Int)) ∧ ldC (cInt .u8) G (a_4.add ((6 : Int).toNat * 1)) fun (x_4 : Int) => (0 ≤ (IntKind.i64.wrap ((8 : Int) + (ior .i64 (IntKind.i64.wrap x_1) (ishl .i64 (IntKind.i64.wrap x_2) (8 : Int))))) ∧ (IntKind.i64.wrap ((8 : Int) + (ior .i64 (IntKind.i64.wrap x_1) (ishl .i64 (IntKind.i64.wrap x_2) (8 : Int))))) ≤ (b.c : Int)) ∧ (0 ≤ (8 : Int) ∧ (8 : Int) ≤ (IntKind.i64.wrap ((8 : Int) + (ior .i64 (IntKind.i64.wrap x_1) (ishl .i64 (IntKind.i64.wrap x_2) (8 : Int)))))) ∧ slices_Clone_sl_byte_byte.sp (Sl.mk (slA b.a b.c ((8 : Int).toNat) 1) (((IntKind.i64.wrap ((8 : Int) + (ior .i64 (IntKind.i64.wrap x_1) (ishl .i64 (IntKind.i64.wrap x_2) (8 : Int))))).toNat) - ((8 : Int).toNat)) (b.c - ((8 : Int).toNat))) H3 fun (r_1 : Sl) H4 => G H4 ∧ R (x_4, r_1, (0 : Int)) H4)))))

theorem page_Open.of {b : Sl} {H : Heap} {R : (Int × Sl × Int) → Heap → Prop} (hvc : page_Open.vc b H R) : page_Open.sp b H R :=
  specT_of_vc prog_ng prog_mixed (c := (cTup [(cInt .u8), cSl, (cInt .i64)])) (A := [(5, [(14, (cInt .i64))])]) (args := [b.v]) (Eq.mpr (by kernel_rfl : vcFT (cTup [(cInt .u8), cSl, (cInt .i64)]) Tryd.prog page_Open.no [(5, [(14, (cInt .i64))])] [b.v] H R = page_Open.vc b H R) hvc)

/-- slices.ContainsFunc[[]byte,byte] -/
def slices_ContainsFunc_sl_byte_byte.vc (s : Sl) (H : Heap) (R : Bool → Heap → Prop) : Prop :=
  slices_IndexFunc_sl_byte_byte.sp s H fun (r : Int) H1 => R (decide (r ≥ (0 : Int))) H1

theorem slices_ContainsFunc_sl_byte_byte.of {s : Sl} {H : Heap} {R : Bool → Heap → Prop} (hvc : slices_ContainsFunc_sl_byte_byte.vc s H R) : slices_ContainsFunc_sl_byte_byte.sp s H R :=
  specT_of_vc prog_ng prog_mixed (c := cBool) (A := []) (args := [s.v, (.func (.func page_Open_c1.no) #[] #[])]) (Eq.mpr (by kernel_rfl : vcFT cBool Tryd.prog slices_ContainsFunc_sl_byte_byte.no [] [s.v, (.func (.func page_Open_c1.no) #[] #[])] H R = slices_ContainsFunc_sl_byte_byte.vc s H R) hvc)

/-- fathom/page.Open$1 -/
def page_Open_c1.vc (c : Int) (H : Heap) (R : Bool → Heap → Prop) : Prop :=
  R (c != (0 : Int)) H

theorem page_Open_c1.of {c : Int} {H : Heap} {R : Bool → Heap → Prop} (hvc : page_Open_c1.vc c H R) : page_Open_c1.sp c H R :=
  specT_of_vc prog_ng prog_mixed (c := cBool) (A := []) (args := [(.int .u8 c)]) (Eq.mpr (by kernel_rfl : vcFT cBool Tryd.prog page_Open_c1.no [] [(.int .u8 c)] H R = page_Open_c1.vc c H R) hvc)

/-- slices.IndexFunc[[]byte,byte] -/
def slices_IndexFunc_sl_byte_byte.vc (s : Sl) (H : Heap) (R : Int → Heap → Prop) : Prop :=
  LoopVC Int (0 : Int) H fun next z H1 => br (decide (z < (s.n : Int))) (optK s.a fun a => (0 ≤ z ∧ z < (s.n : Int)) ∧ ld (cInt .u8) H1 (a.add (z.toNat * 1)) fun (x : Int) => page_Open_c1.sp x H1 fun (r : Bool) H2 => br r (R z H2) (next (IntKind.i64.wrap (z + (1 : Int))) H2)) (R (-1 : Int) H1)

theorem slices_IndexFunc_sl_byte_byte.of {s : Sl} {H : Heap} {R : Int → Heap → Prop} (hvc : slices_IndexFunc_sl_byte_byte.vc s H R) : slices_IndexFunc_sl_byte_byte.sp s H R :=
  specT_of_vc prog_ng prog_mixed (c := (cInt .i64)) (A := [(2, [(8, (cInt .i64))])]) (args := [s.v, (.func (.func page_Open_c1.no) #[] #[])]) (Eq.mpr (by kernel_rfl : vcFT (cInt .i64) Tryd.prog slices_IndexFunc_sl_byte_byte.no [(2, [(8, (cInt .i64))])] [s.v, (.func (.func page_Open_c1.no) #[] #[])] H R = slices_IndexFunc_sl_byte_byte.vc s H R) hvc)

end Go.Proofs.YtmdiinakfpgdjaaDoor
