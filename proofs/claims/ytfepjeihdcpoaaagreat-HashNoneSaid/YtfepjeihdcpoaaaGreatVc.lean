/-
  Written by wip/tools/gen.py: what the walk of each function asks, in plain form, and that it is enough.
-/
import Derived.Test.YtfepjeihdcpoaaaGreatFxf
import Derived.Test.YtfepjeihdcpoaaaGreatProg
import Derived.KernelRfl
namespace Go.Proofs.YtfepjeihdcpoaaaGreat
set_option maxRecDepth 100000

theorem prog_mixed : Tryz.prog.follows .mixedOrders = true := by kernel_rfl
theorem prog_ngB : (Tryz.prog.funcs.toList.all fun fn => !(fn.name == "runtime.NumGoroutine")) = true := by kernel_rfl
theorem prog_ng : NoNG Tryz.prog := by
  intro f fn hf
  have h1 := List.all_eq_true.1 prog_ngB fn (by
    have := Array.getElem?_eq_some_iff.1 hf
    obtain ⟨h, e⟩ := this
    rw [← e]; simp)
  simpa using h1

@[reducible] def ty_int : TypeId := 3
@[reducible] def ty_sl_uint64 : TypeId := 22
@[reducible] def ty_uint64 : TypeId := 24
@[reducible] def ty_sl_int : TypeId := 29
@[reducible] def ty_sl_sl_uint64 : TypeId := 42
@[reducible] def ty_pool_Pool : TypeId := 49
@[reducible] def ty_disk_Disk : TypeId := 54
@[reducible] def ty_hash_side : TypeId := 59
@[reducible] def ty_ptr_hash_joiner : TypeId := 61
@[reducible] def ty_maparr_uint64_sl_sl_uint64 : TypeId := 67
@[reducible] def ty_hash_joiner : TypeId := 70
@[reducible] def ty_join_Source : TypeId := 76
@[reducible] def ty_hash_file : TypeId := 108
@[reducible] def ty_hash_reader : TypeId := 110

@[reducible] def fathomlaw12_HashSums.no : FuncId := 3
@[reducible] def fathomlaw12_HashNone.no : FuncId := 4
@[reducible] def fathomkit_Lent.no : FuncId := 5
@[reducible] def hash_Sum.no : FuncId := 6
@[reducible] def fathomref12_Sum.no : FuncId := 7
@[reducible] def fathomkit_Kept.no : FuncId := 8
@[reducible] def fathomlaw12_works.no : FuncId := 9
@[reducible] def pool_New.no : FuncId := 10
@[reducible] def disk_New.no : FuncId := 11
@[reducible] def hash_Join.no : FuncId := 12
@[reducible] def join_From.no : FuncId := 13
@[reducible] def fathomkit_SameRow.no : FuncId := 14
@[reducible] def join_Source_Next.no : FuncId := 15
@[reducible] def join_Source_Width.no : FuncId := 16
@[reducible] def row_Room.no : FuncId := 17
@[reducible] def hash_none.no : FuncId := 18
@[reducible] def pool_Pool_Frames.no : FuncId := 19
@[reducible] def slices_Clone_sl_int_int.no : FuncId := 20
@[reducible] def join_Over.no : FuncId := 21
@[reducible] def slices_Clone_sl_uint64_uint64.no : FuncId := 22
@[reducible] def join_made.no : FuncId := 23
@[reducible] def join_From_c1.no : FuncId := 24
@[reducible] def row_size.no : FuncId := 25
@[reducible] def slices_ContainsFunc_sl_int_int.no : FuncId := 26
@[reducible] def hash_none_c1.no : FuncId := 27
@[reducible] def slices_IndexFunc_sl_int_int.no : FuncId := 28
@[reducible] def hash_joiner_Next.no : FuncId := 48
@[reducible] def hash_joiner_begin.no : FuncId := 49
@[reducible] def hash_joiner_lefts.no : FuncId := 50
@[reducible] def hash_side_key.no : FuncId := 51
@[reducible] def slices_Equal_sl_uint64_uint64.no : FuncId := 52
@[reducible] def hash_joiner_clear.no : FuncId := 53
@[reducible] def hash_joiner_most.no : FuncId := 54
@[reducible] def hash_joiner_hold.no : FuncId := 55
@[reducible] def hash_sorted.no : FuncId := 56
@[reducible] def hash_joiner_parts.no : FuncId := 57
@[reducible] def hash_joiner_part.no : FuncId := 58
@[reducible] def hash_joiner_begin_c1.no : FuncId := 59
@[reducible] def hash_joiner_later.no : FuncId := 60
@[reducible] def hash_joiner_read.no : FuncId := 61
@[reducible] def hash_joiner_turn.no : FuncId := 62
@[reducible] def row_Turn.no : FuncId := 63
@[reducible] def slices_Sort_sl_uint64_uint64.no : FuncId := 64
@[reducible] def hash_joiner_file.no : FuncId := 65
@[reducible] def hash_joiner_add.no : FuncId := 66
@[reducible] def hash_joiner_out.no : FuncId := 67
@[reducible] def pool_Pool_Pin.no : FuncId := 68
@[reducible] def pool_Pool_Get.no : FuncId := 69
@[reducible] def pool_Pool_Unpin.no : FuncId := 70
@[reducible] def row_Get.no : FuncId := 71
@[reducible] def hash_joiner_load.no : FuncId := 72
@[reducible] def hash_joiner_gone.no : FuncId := 73
@[reducible] def hash_joiner_again.no : FuncId := 74
@[reducible] def slices_pdqsortOrdered_uint64.no : FuncId := 75
@[reducible] def math_bits_Len.no : FuncId := 76
@[reducible] def strconv_Itoa.no : FuncId := 77
@[reducible] def row_Put.no : FuncId := 78
@[reducible] def pool_Pool_Disk.no : FuncId := 79
@[reducible] def disk_Disk_Create.no : FuncId := 80
@[reducible] def pool_Pool_Fresh.no : FuncId := 81
@[reducible] def pool_Pool_Put.no : FuncId := 82
@[reducible] def pool_Pool_ready.no : FuncId := 83
@[reducible] def pool_Pool_pin.no : FuncId := 84
@[reducible] def pool_Pool_load.no : FuncId := 85
@[reducible] def pool_Pool_met.no : FuncId := 86
@[reducible] def pool_Pool_take.no : FuncId := 87
@[reducible] def pool_Pool_held.no : FuncId := 88
@[reducible] def slices_Clone_sl_byte_byte.no : FuncId := 89
@[reducible] def slices_Chunk_sl_byte_byte.no : FuncId := 90
@[reducible] def hash_joiner_drop.no : FuncId := 91
@[reducible] def hash_joiner_again_c1.no : FuncId := 92
@[reducible] def hash_joiner_again_c2.no : FuncId := 93
@[reducible] def slices_insertionSortOrdered_uint64.no : FuncId := 94
@[reducible] def slices_heapSortOrdered_uint64.no : FuncId := 95
@[reducible] def slices_breakPatternsOrdered_uint64.no : FuncId := 96
@[reducible] def slices_choosePivotOrdered_uint64.no : FuncId := 97
@[reducible] def slices_reverseRangeOrdered_uint64.no : FuncId := 98
@[reducible] def slices_partialInsertionSortOrdered_uint64.no : FuncId := 99
@[reducible] def cmp_Less_uint64.no : FuncId := 100
@[reducible] def slices_partitionEqualOrdered_uint64.no : FuncId := 101
@[reducible] def slices_partitionOrdered_uint64.no : FuncId := 102
@[reducible] def math_bits_Len32.no : FuncId := 103
@[reducible] def math_bits_Len64.no : FuncId := 104
@[reducible] def internal_strconv_Itoa.no : FuncId := 105
@[reducible] def row_word_of.no : FuncId := 106
@[reducible] def disk_Disk_ready.no : FuncId := 107
@[reducible] def disk_named.no : FuncId := 108
@[reducible] def disk_Disk_change.no : FuncId := 109
@[reducible] def disk_Disk_Len.no : FuncId := 110
@[reducible] def pool_Pool_room.no : FuncId := 111
@[reducible] def pool_Pool_write.no : FuncId := 112
@[reducible] def disk_Disk_Read.no : FuncId := 113
@[reducible] def page_Open.no : FuncId := 114
@[reducible] def slices_Chunk_sl_byte_byte_c1.no : FuncId := 115
@[reducible] def slices_DeleteFunc_sl_ptr_hash_file_ptr_hash_file.no : FuncId := 116
@[reducible] def hash_joiner_drop_c1.no : FuncId := 117
@[reducible] def pool_Pool_Drop.no : FuncId := 118
@[reducible] def slices_siftDownOrdered_uint64.no : FuncId := 119
@[reducible] def slices_nextPowerOfTwo.no : FuncId := 120
@[reducible] def slices_xorshift_Next.no : FuncId := 121
@[reducible] def slices_medianAdjacentOrdered_uint64.no : FuncId := 122
@[reducible] def slices_medianOrdered_uint64.no : FuncId := 123
@[reducible] def cmp_isNaN_uint64.no : FuncId := 124
@[reducible] def internal_strconv_FormatInt.no : FuncId := 125
@[reducible] def disk_Disk_open.no : FuncId := 126
@[reducible] def pool_Pool_first.no : FuncId := 127
@[reducible] def pool_Pool_room_c1.no : FuncId := 128
@[reducible] def pool_Pool_room_c2.no : FuncId := 129
@[reducible] def page_Seal.no : FuncId := 130
@[reducible] def disk_Disk_Write.no : FuncId := 131
@[reducible] def page_Sum.no : FuncId := 132
@[reducible] def slices_ContainsFunc_sl_byte_byte.no : FuncId := 133
@[reducible] def page_Open_c1.no : FuncId := 134
@[reducible] def slices_IndexFunc_sl_ptr_hash_file_ptr_hash_file.no : FuncId := 135
@[reducible] def pool_Pool_of.no : FuncId := 136
@[reducible] def slices_ContainsFunc_sl_ptr_pool_frame_ptr_pool_frame.no : FuncId := 137
@[reducible] def pool_Pool_Drop_c1.no : FuncId := 138
@[reducible] def disk_Disk_Remove.no : FuncId := 139
@[reducible] def slices_order2Ordered_uint64.no : FuncId := 140
@[reducible] def internal_strconv_small.no : FuncId := 141
@[reducible] def internal_strconv_numDigits.no : FuncId := 142
@[reducible] def internal_strconv_formatBase10.no : FuncId := 143
@[reducible] def internal_strconv_formatBits.no : FuncId := 144
@[reducible] def disk_put.no : FuncId := 145
@[reducible] def slices_IndexFunc_sl_byte_byte.no : FuncId := 146
@[reducible] def slices_DeleteFunc_sl_ptr_pool_frame_ptr_pool_frame.no : FuncId := 147
@[reducible] def slices_Collect_ptr_pool_frame.no : FuncId := 148
@[reducible] def maps_Values_map_pool_spot_ptr_pool_frame_pool_spot_ptr_pool_frame.no : FuncId := 149
@[reducible] def pool_Pool_of_c1.no : FuncId := 150
@[reducible] def slices_SortFunc_sl_ptr_pool_frame_ptr_pool_frame.no : FuncId := 151
@[reducible] def pool_Pool_of_c2.no : FuncId := 152
@[reducible] def slices_IndexFunc_sl_ptr_pool_frame_ptr_pool_frame.no : FuncId := 153
@[reducible] def disk_Disk_drop.no : FuncId := 154
@[reducible] def internal_strconv_log10Pow2.no : FuncId := 155
@[reducible] def internal_strconv_bool2_int.no : FuncId := 156
@[reducible] def internal_strconv_isPowerOfTwo.no : FuncId := 157
@[reducible] def math_bits_TrailingZeros.no : FuncId := 158
@[reducible] def slices_AppendSeq_sl_ptr_pool_frame_ptr_pool_frame.no : FuncId := 159
@[reducible] def maps_Values_map_pool_spot_ptr_pool_frame_pool_spot_ptr_pool_frame_c1.no : FuncId := 160
@[reducible] def slices_pdqsortCmpFunc_ptr_pool_frame.no : FuncId := 161
@[reducible] def math_bits_TrailingZeros32.no : FuncId := 162
@[reducible] def math_bits_TrailingZeros64.no : FuncId := 163
@[reducible] def slices_insertionSortCmpFunc_ptr_pool_frame.no : FuncId := 164
@[reducible] def slices_heapSortCmpFunc_ptr_pool_frame.no : FuncId := 165
@[reducible] def slices_breakPatternsCmpFunc_ptr_pool_frame.no : FuncId := 166
@[reducible] def slices_choosePivotCmpFunc_ptr_pool_frame.no : FuncId := 167
@[reducible] def slices_reverseRangeCmpFunc_ptr_pool_frame.no : FuncId := 168
@[reducible] def slices_partialInsertionSortCmpFunc_ptr_pool_frame.no : FuncId := 169
@[reducible] def slices_partitionEqualCmpFunc_ptr_pool_frame.no : FuncId := 170
@[reducible] def slices_partitionCmpFunc_ptr_pool_frame.no : FuncId := 171
@[reducible] def slices_siftDownCmpFunc_ptr_pool_frame.no : FuncId := 172
@[reducible] def slices_medianAdjacentCmpFunc_ptr_pool_frame.no : FuncId := 173
@[reducible] def slices_medianCmpFunc_ptr_pool_frame.no : FuncId := 174
@[reducible] def slices_order2CmpFunc_ptr_pool_frame.no : FuncId := 175
/-- fathom/fathomlaw12.HashSums -/
@[reducible] def fathomlaw12_HashSums.sp (words : Sl) (level : Int) (H : Heap) (R : Bool → Heap → Prop) : Prop := SpecT cBool Tryz.prog fathomlaw12_HashSums.no #[words.v, (.int .i64 level)] H R
/-- fathom/fathomlaw12.HashNone -/
@[reducible] def fathomlaw12_HashNone.sp (width : Int) (frames : Int) (cols : Sl) (H : Heap) (R : Bool → Heap → Prop) : Prop := SpecT cBool Tryz.prog fathomlaw12_HashNone.no #[(.int .i64 width), (.int .i64 frames), cols.v] H R
/-- fathom/fathomkit.Lent -/
@[reducible] def fathomkit_Lent.sp (l : Sl) (H : Heap) (R : Sl → Heap → Prop) : Prop := SpecT cSl Tryz.prog fathomkit_Lent.no #[l.v] H R
/-- fathom/hash.Sum -/
@[reducible] def hash_Sum.sp (words : Sl) (level : Int) (H : Heap) (R : Int → Heap → Prop) : Prop := SpecT (cInt .u64) Tryz.prog hash_Sum.no #[words.v, (.int .i64 level)] H R
/-- fathom/fathomref12.Sum -/
@[reducible] def fathomref12_Sum.sp (words : Sl) (level : Int) (H : Heap) (R : Int → Heap → Prop) : Prop := SpecT (cInt .u64) Tryz.prog fathomref12_Sum.no #[words.v, (.int .i64 level)] H R
/-- fathom/fathomkit.Kept -/
@[reducible] def fathomkit_Kept.sp (a : Sl) (l : Sl) (H : Heap) (R : Bool → Heap → Prop) : Prop := SpecT cBool Tryz.prog fathomkit_Kept.no #[a.v, l.v] H R
/-- fathom/fathomlaw12.works -/
@[reducible] def fathomlaw12_works.sp  (H : Heap) (R : Bool → Heap → Prop) : Prop := SpecT cBool Tryz.prog fathomlaw12_works.no #[] H R
/-- fathom/pool.New -/
@[reducible] def pool_New.sp (d : Option Addr) (frames : Int) (H : Heap) (R : (Option Addr × Int) → Heap → Prop) : Prop := SpecT (cTup [cPtr, (cInt .i64)]) Tryz.prog pool_New.no #[(.pointer d), (.int .i64 frames)] H R
/-- fathom/disk.New -/
@[reducible] def disk_New.sp (quota : Int) (H : Heap) (R : Option Addr → Heap → Prop) : Prop := SpecT cPtr Tryz.prog disk_New.no #[(.int .i64 quota)] H R
/-- fathom/hash.Join -/
@[reducible] def hash_Join.sp (p : Option Addr) (name : ByteArray) (a : Option Addr) (b : Option Addr) (acols : Sl) (bcols : Sl) (frames : Int) (H : Heap) (R : (Option Addr × Int) → Heap → Prop) : Prop := SpecT (cTup [cPtr, (cInt .i64)]) Tryz.prog hash_Join.no #[(.pointer p), (.string name), (.pointer a), (.pointer b), acols.v, bcols.v, (.int .i64 frames)] H R
/-- fathom/join.From -/
@[reducible] def join_From.sp (rows : Sl) (width : Int) (H : Heap) (R : Option Addr → Heap → Prop) : Prop := SpecT cPtr Tryz.prog join_From.no #[rows.v, (.int .i64 width)] H R
/-- fathom/fathomkit.SameRow -/
@[reducible] def fathomkit_SameRow.sp (a : Sl) (b : Sl) (H : Heap) (R : Bool → Heap → Prop) : Prop := SpecT cBool Tryz.prog fathomkit_SameRow.no #[a.v, b.v] H R
/-- (*fathom/join.Source).Next -/
@[reducible] def join_Source_Next.sp (s : Option Addr) (H : Heap) (R : (Sl × Bool × Int) → Heap → Prop) : Prop := SpecT (cTup [cSl, cBool, (cInt .i64)]) Tryz.prog join_Source_Next.no #[(.pointer s)] H R
/-- (*fathom/join.Source).Width -/
@[reducible] def join_Source_Width.sp (s : Option Addr) (H : Heap) (R : Int → Heap → Prop) : Prop := SpecT (cInt .i64) Tryz.prog join_Source_Width.no #[(.pointer s)] H R
/-- fathom/row.Room -/
@[reducible] def row_Room.sp (width : Int) (H : Heap) (R : Int → Heap → Prop) : Prop := SpecT (cInt .i64) Tryz.prog row_Room.no #[(.int .i64 width)] H R
/-- fathom/hash.none -/
@[reducible] def hash_none.sp (l : Sl) (width : Int) (H : Heap) (R : Bool → Heap → Prop) : Prop := SpecT cBool Tryz.prog hash_none.no #[l.v, (.int .i64 width)] H R
/-- (*fathom/pool.Pool).Frames -/
@[reducible] def pool_Pool_Frames.sp (p : Option Addr) (H : Heap) (R : Int → Heap → Prop) : Prop := SpecT (cInt .i64) Tryz.prog pool_Pool_Frames.no #[(.pointer p)] H R
/-- slices.Clone[[]int,int] -/
@[reducible] def slices_Clone_sl_int_int.sp (s : Sl) (H : Heap) (R : Sl → Heap → Prop) : Prop := SpecT cSl Tryz.prog slices_Clone_sl_int_int.no #[s.v] H R
/-- fathom/join.Over -/
@[reducible] def join_Over.sp (width : Int) (f : Value) (H : Heap) (R : Option Addr → Heap → Prop) : Prop := SpecT cPtr Tryz.prog join_Over.no #[(.int .i64 width), f] H R
/-- slices.Clone[[]uint64,uint64] -/
@[reducible] def slices_Clone_sl_uint64_uint64.sp (s : Sl) (H : Heap) (R : Sl → Heap → Prop) : Prop := SpecT cSl Tryz.prog slices_Clone_sl_uint64_uint64.no #[s.v] H R
/-- fathom/join.made -/
@[reducible] def join_made.sp (width : Int) (under : Sl) (e : Int) (fn : Fn) (fi : Array Value) (ca : Array Value) (H : Heap) (R : Option Addr → Heap → Prop) : Prop := SpecT cPtr Tryz.prog join_made.no #[(.int .i64 width), under.v, (.int .i64 e), (.func fn fi ca)] H R
/-- fathom/join.From$1 -/
@[reducible] def join_From_c1.sp (cap : Addr) (cap1 : Addr) (H : Heap) (R : (Sl × Bool × Int) → Heap → Prop) : Prop := SpecT (cTup [cSl, cBool, (cInt .i64)]) Tryz.prog join_From_c1.no #[(.pointer (some cap)), (.pointer (some cap1))] H R
/-- fathom/row.size -/
@[reducible] def row_size.sp (width : Int) (H : Heap) (R : Int → Heap → Prop) : Prop := SpecT (cInt .i64) Tryz.prog row_size.no #[(.int .i64 width)] H R
/-- slices.ContainsFunc[[]int,int] -/
@[reducible] def slices_ContainsFunc_sl_int_int.sp (s : Sl) (f : Value) (H : Heap) (R : Bool → Heap → Prop) : Prop := SpecT cBool Tryz.prog slices_ContainsFunc_sl_int_int.no #[s.v, f] H R
/-- fathom/hash.none$1 -/
@[reducible] def hash_none_c1.sp (c : Int) (cap : Addr) (H : Heap) (R : Bool → Heap → Prop) : Prop := SpecT cBool Tryz.prog hash_none_c1.no #[(.int .i64 c), (.pointer (some cap))] H R
/-- slices.IndexFunc[[]int,int] -/
@[reducible] def slices_IndexFunc_sl_int_int.sp (s : Sl) (f : Value) (H : Heap) (R : Int → Heap → Prop) : Prop := SpecT (cInt .i64) Tryz.prog slices_IndexFunc_sl_int_int.no #[s.v, f] H R
/-- (*fathom/hash.joiner).Next -/
@[reducible] def hash_joiner_Next.sp (j : Option Addr) (H : Heap) (R : (Sl × Bool × Int) → Heap → Prop) : Prop := SpecT (cTup [cSl, cBool, (cInt .i64)]) Tryz.prog hash_joiner_Next.no #[(.pointer j)] H R
/-- (*fathom/hash.joiner).begin -/
@[reducible] def hash_joiner_begin.sp (j : Option Addr) (H : Heap) (R : Int → Heap → Prop) : Prop := SpecT (cInt .i64) Tryz.prog hash_joiner_begin.no #[(.pointer j)] H R
/-- (*fathom/hash.joiner).lefts -/
@[reducible] def hash_joiner_lefts.sp (j : Option Addr) (H : Heap) (R : (Sl × Bool × Int) → Heap → Prop) : Prop := SpecT (cTup [cSl, cBool, (cInt .i64)]) Tryz.prog hash_joiner_lefts.no #[(.pointer j)] H R
/-- (*fathom/hash.side).key -/
@[reducible] def hash_side_key.sp (x : Option Addr) (l : Sl) (H : Heap) (R : Sl → Heap → Prop) : Prop := SpecT cSl Tryz.prog hash_side_key.no #[(.pointer x), l.v] H R
/-- slices.Equal[[]uint64,uint64] -/
@[reducible] def slices_Equal_sl_uint64_uint64.sp (s1 : Sl) (s2 : Sl) (H : Heap) (R : Bool → Heap → Prop) : Prop := SpecT cBool Tryz.prog slices_Equal_sl_uint64_uint64.no #[s1.v, s2.v] H R
/-- (*fathom/hash.joiner).clear -/
@[reducible] def hash_joiner_clear.sp (j : Option Addr) (H : Heap) (R : Unit → Heap → Prop) : Prop := SpecT (cTup []) Tryz.prog hash_joiner_clear.no #[(.pointer j)] H R
/-- (*fathom/hash.joiner).most -/
@[reducible] def hash_joiner_most.sp (j : Option Addr) (H : Heap) (R : Int → Heap → Prop) : Prop := SpecT (cInt .i64) Tryz.prog hash_joiner_most.no #[(.pointer j)] H R
/-- (*fathom/hash.joiner).hold -/
@[reducible] def hash_joiner_hold.sp (j : Option Addr) (l : Sl) (H : Heap) (R : Unit → Heap → Prop) : Prop := SpecT (cTup []) Tryz.prog hash_joiner_hold.no #[(.pointer j), l.v] H R
/-- fathom/hash.sorted -/
@[reducible] def hash_sorted.sp (m : Option Nat) (H : Heap) (R : Sl → Heap → Prop) : Prop := SpecT cSl Tryz.prog hash_sorted.no #[(.map m)] H R
/-- (*fathom/hash.joiner).parts -/
@[reducible] def hash_joiner_parts.sp (j : Option Addr) (width : Int) (H : Heap) (R : Sl → Heap → Prop) : Prop := SpecT cSl Tryz.prog hash_joiner_parts.no #[(.pointer j), (.int .i64 width)] H R
/-- (*fathom/hash.joiner).part -/
@[reducible] def hash_joiner_part.sp (j : Option Addr) (x : Option Addr) (level : Int) (l : Sl) (more : Value) (H : Heap) (R : Int → Heap → Prop) : Prop := SpecT (cInt .i64) Tryz.prog hash_joiner_part.no #[(.pointer j), (.pointer x), (.int .i64 level), l.v, more] H R
/-- (*fathom/hash.joiner).begin$1 -/
@[reducible] def hash_joiner_begin_c1.sp (cap : Addr) (cap1 : Addr) (H : Heap) (R : (Sl × Bool × Int) → Heap → Prop) : Prop := SpecT (cTup [cSl, cBool, (cInt .i64)]) Tryz.prog hash_joiner_begin_c1.no #[(.pointer (some cap)), (.pointer (some cap1))] H R
/-- (*fathom/hash.joiner).later -/
@[reducible] def hash_joiner_later.sp (j : Option Addr) (p : Sl) (bs : Sl) (level : Int) (H : Heap) (R : Unit → Heap → Prop) : Prop := SpecT (cTup []) Tryz.prog hash_joiner_later.no #[(.pointer j), p.v, bs.v, (.int .i64 level)] H R
/-- (*fathom/hash.joiner).read -/
@[reducible] def hash_joiner_read.sp (j : Option Addr) (r : Option Addr) (H : Heap) (R : (Sl × Bool × Int) → Heap → Prop) : Prop := SpecT (cTup [cSl, cBool, (cInt .i64)]) Tryz.prog hash_joiner_read.no #[(.pointer j), (.pointer r)] H R
/-- (*fathom/hash.joiner).turn -/
@[reducible] def hash_joiner_turn.sp (j : Option Addr) (H : Heap) (R : (Bool × Int) → Heap → Prop) : Prop := SpecT (cTup [cBool, (cInt .i64)]) Tryz.prog hash_joiner_turn.no #[(.pointer j)] H R
/-- fathom/row.Turn -/
@[reducible] def row_Turn.sp (l : Sl) (cols : Sl) (H : Heap) (R : (Sl × Int) → Heap → Prop) : Prop := SpecT (cTup [cSl, (cInt .i64)]) Tryz.prog row_Turn.no #[l.v, cols.v] H R
/-- slices.Sort[[]uint64,uint64] -/
@[reducible] def slices_Sort_sl_uint64_uint64.sp (x : Sl) (H : Heap) (R : Unit → Heap → Prop) : Prop := SpecT (cTup []) Tryz.prog slices_Sort_sl_uint64_uint64.no #[x.v] H R
/-- (*fathom/hash.joiner).file -/
@[reducible] def hash_joiner_file.sp (j : Option Addr) (width : Int) (H : Heap) (R : Option Addr → Heap → Prop) : Prop := SpecT cPtr Tryz.prog hash_joiner_file.no #[(.pointer j), (.int .i64 width)] H R
/-- (*fathom/hash.joiner).add -/
@[reducible] def hash_joiner_add.sp (j : Option Addr) (f : Option Addr) (l : Sl) (H : Heap) (R : Int → Heap → Prop) : Prop := SpecT (cInt .i64) Tryz.prog hash_joiner_add.no #[(.pointer j), (.pointer f), l.v] H R
/-- (*fathom/hash.joiner).out -/
@[reducible] def hash_joiner_out.sp (j : Option Addr) (f : Option Addr) (H : Heap) (R : Int → Heap → Prop) : Prop := SpecT (cInt .i64) Tryz.prog hash_joiner_out.no #[(.pointer j), (.pointer f)] H R
/-- (*fathom/pool.Pool).Pin -/
@[reducible] def pool_Pool_Pin.sp (p : Option Addr) (name : ByteArray) (page : Int) (H : Heap) (R : (Int × Int) → Heap → Prop) : Prop := SpecT (cTup [(cInt .i64), (cInt .i64)]) Tryz.prog pool_Pool_Pin.no #[(.pointer p), (.string name), (.int .i64 page)] H R
/-- (*fathom/pool.Pool).Get -/
@[reducible] def pool_Pool_Get.sp (p : Option Addr) (h : Int) (H : Heap) (R : (Int × Sl × Int) → Heap → Prop) : Prop := SpecT (cTup [(cInt .u8), cSl, (cInt .i64)]) Tryz.prog pool_Pool_Get.no #[(.pointer p), (.int .i64 h)] H R
/-- (*fathom/pool.Pool).Unpin -/
@[reducible] def pool_Pool_Unpin.sp (p : Option Addr) (h : Int) (H : Heap) (R : Int → Heap → Prop) : Prop := SpecT (cInt .i64) Tryz.prog pool_Pool_Unpin.no #[(.pointer p), (.int .i64 h)] H R
/-- fathom/row.Get -/
@[reducible] def row_Get.sp (b : Sl) (width : Int) (H : Heap) (R : (Sl × Int) → Heap → Prop) : Prop := SpecT (cTup [cSl, (cInt .i64)]) Tryz.prog row_Get.no #[b.v, (.int .i64 width)] H R
/-- (*fathom/hash.joiner).load -/
@[reducible] def hash_joiner_load.sp (j : Option Addr) (H : Heap) (R : Int → Heap → Prop) : Prop := SpecT (cInt .i64) Tryz.prog hash_joiner_load.no #[(.pointer j)] H R
/-- (*fathom/hash.joiner).gone -/
@[reducible] def hash_joiner_gone.sp (j : Option Addr) (t_ : Option Addr) (t_1 : Option Addr) (t_2 : Int) (H : Heap) (R : Int → Heap → Prop) : Prop := SpecT (cInt .i64) Tryz.prog hash_joiner_gone.no #[(.pointer j), (.agg #[(.pointer t_), (.pointer t_1), (.int .i64 t_2)])] H R
/-- (*fathom/hash.joiner).again -/
@[reducible] def hash_joiner_again.sp (j : Option Addr) (t_ : Option Addr) (t_1 : Option Addr) (t_2 : Int) (H : Heap) (R : Int → Heap → Prop) : Prop := SpecT (cInt .i64) Tryz.prog hash_joiner_again.no #[(.pointer j), (.agg #[(.pointer t_), (.pointer t_1), (.int .i64 t_2)])] H R
/-- slices.pdqsortOrdered[uint64] -/
@[reducible] def slices_pdqsortOrdered_uint64.sp (data : Sl) (a : Int) (b : Int) (limit : Int) (H : Heap) (R : Unit → Heap → Prop) : Prop := SpecT (cTup []) Tryz.prog slices_pdqsortOrdered_uint64.no #[data.v, (.int .i64 a), (.int .i64 b), (.int .i64 limit)] H R
/-- math/bits.Len -/
@[reducible] def math_bits_Len.sp (x : Int) (H : Heap) (R : Int → Heap → Prop) : Prop := SpecT (cInt .i64) Tryz.prog math_bits_Len.no #[(.int .u64 x)] H R
/-- strconv.Itoa -/
@[reducible] def strconv_Itoa.sp (i : Int) (H : Heap) (R : ByteArray → Heap → Prop) : Prop := SpecT cStr Tryz.prog strconv_Itoa.no #[(.int .i64 i)] H R
/-- fathom/row.Put -/
@[reducible] def row_Put.sp (l : Sl) (H : Heap) (R : Sl → Heap → Prop) : Prop := SpecT cSl Tryz.prog row_Put.no #[l.v] H R
/-- (*fathom/pool.Pool).Disk -/
@[reducible] def pool_Pool_Disk.sp (p : Option Addr) (H : Heap) (R : Option Addr → Heap → Prop) : Prop := SpecT cPtr Tryz.prog pool_Pool_Disk.no #[(.pointer p)] H R
/-- (*fathom/disk.Disk).Create -/
@[reducible] def disk_Disk_Create.sp (d : Option Addr) (name : ByteArray) (H : Heap) (R : Int → Heap → Prop) : Prop := SpecT (cInt .i64) Tryz.prog disk_Disk_Create.no #[(.pointer d), (.string name)] H R
/-- (*fathom/pool.Pool).Fresh -/
@[reducible] def pool_Pool_Fresh.sp (p : Option Addr) (name : ByteArray) (H : Heap) (R : (Int × Int × Int) → Heap → Prop) : Prop := SpecT (cTup [(cInt .i64), (cInt .i64), (cInt .i64)]) Tryz.prog pool_Pool_Fresh.no #[(.pointer p), (.string name)] H R
/-- (*fathom/pool.Pool).Put -/
@[reducible] def pool_Pool_Put.sp (p : Option Addr) (h : Int) (kind : Int) (b : Sl) (H : Heap) (R : Int → Heap → Prop) : Prop := SpecT (cInt .i64) Tryz.prog pool_Pool_Put.no #[(.pointer p), (.int .i64 h), (.int .u8 kind), b.v] H R
/-- (*fathom/pool.Pool).ready -/
@[reducible] def pool_Pool_ready.sp (p : Option Addr) (H : Heap) (R : Int → Heap → Prop) : Prop := SpecT (cInt .i64) Tryz.prog pool_Pool_ready.no #[(.pointer p)] H R
/-- (*fathom/pool.Pool).pin -/
@[reducible] def pool_Pool_pin.sp (p : Option Addr) (f : Option Addr) (H : Heap) (R : Int → Heap → Prop) : Prop := SpecT (cInt .i64) Tryz.prog pool_Pool_pin.no #[(.pointer p), (.pointer f)] H R
/-- (*fathom/pool.Pool).load -/
@[reducible] def pool_Pool_load.sp (p : Option Addr) (at_ : ByteArray) (at_1 : Int) (H : Heap) (R : (Option Addr × Int) → Heap → Prop) : Prop := SpecT (cTup [cPtr, (cInt .i64)]) Tryz.prog pool_Pool_load.no #[(.pointer p), (.agg #[(.string at_), (.int .i64 at_1)])] H R
/-- (*fathom/pool.Pool).met -/
@[reducible] def pool_Pool_met.sp (p : Option Addr) (e : Int) (H : Heap) (R : Int → Heap → Prop) : Prop := SpecT (cInt .i64) Tryz.prog pool_Pool_met.no #[(.pointer p), (.int .i64 e)] H R
/-- (*fathom/pool.Pool).take -/
@[reducible] def pool_Pool_take.sp (p : Option Addr) (f : Option Addr) (H : Heap) (R : Int → Heap → Prop) : Prop := SpecT (cInt .i64) Tryz.prog pool_Pool_take.no #[(.pointer p), (.pointer f)] H R
/-- (*fathom/pool.Pool).held -/
@[reducible] def pool_Pool_held.sp (p : Option Addr) (h : Int) (H : Heap) (R : (Option Addr × Int) → Heap → Prop) : Prop := SpecT (cTup [cPtr, (cInt .i64)]) Tryz.prog pool_Pool_held.no #[(.pointer p), (.int .i64 h)] H R
/-- slices.Clone[[]byte,byte] -/
@[reducible] def slices_Clone_sl_byte_byte.sp (s : Sl) (H : Heap) (R : Sl → Heap → Prop) : Prop := SpecT cSl Tryz.prog slices_Clone_sl_byte_byte.no #[s.v] H R
/-- slices.Chunk[[]byte,byte] -/
@[reducible] def slices_Chunk_sl_byte_byte.sp (s : Sl) (n : Int) (H : Heap) (R : Value → Heap → Prop) : Prop := SpecT cRaw Tryz.prog slices_Chunk_sl_byte_byte.no #[s.v, (.int .i64 n)] H R
/-- (*fathom/hash.joiner).drop -/
@[reducible] def hash_joiner_drop.sp (j : Option Addr) (f : Option Addr) (H : Heap) (R : Int → Heap → Prop) : Prop := SpecT (cInt .i64) Tryz.prog hash_joiner_drop.no #[(.pointer j), (.pointer f)] H R
/-- (*fathom/hash.joiner).again$1 -/
@[reducible] def hash_joiner_again_c1.sp (cap : Addr) (cap1 : Addr) (H : Heap) (R : (Sl × Bool × Int) → Heap → Prop) : Prop := SpecT (cTup [cSl, cBool, (cInt .i64)]) Tryz.prog hash_joiner_again_c1.no #[(.pointer (some cap)), (.pointer (some cap1))] H R
/-- (*fathom/hash.joiner).again$2 -/
@[reducible] def hash_joiner_again_c2.sp (cap : Addr) (cap1 : Addr) (H : Heap) (R : (Sl × Bool × Int) → Heap → Prop) : Prop := SpecT (cTup [cSl, cBool, (cInt .i64)]) Tryz.prog hash_joiner_again_c2.no #[(.pointer (some cap)), (.pointer (some cap1))] H R
/-- slices.insertionSortOrdered[uint64] -/
@[reducible] def slices_insertionSortOrdered_uint64.sp (data : Sl) (a : Int) (b : Int) (H : Heap) (R : Unit → Heap → Prop) : Prop := SpecT (cTup []) Tryz.prog slices_insertionSortOrdered_uint64.no #[data.v, (.int .i64 a), (.int .i64 b)] H R
/-- slices.heapSortOrdered[uint64] -/
@[reducible] def slices_heapSortOrdered_uint64.sp (data : Sl) (a : Int) (b : Int) (H : Heap) (R : Unit → Heap → Prop) : Prop := SpecT (cTup []) Tryz.prog slices_heapSortOrdered_uint64.no #[data.v, (.int .i64 a), (.int .i64 b)] H R
/-- slices.breakPatternsOrdered[uint64] -/
@[reducible] def slices_breakPatternsOrdered_uint64.sp (data : Sl) (a : Int) (b : Int) (H : Heap) (R : Unit → Heap → Prop) : Prop := SpecT (cTup []) Tryz.prog slices_breakPatternsOrdered_uint64.no #[data.v, (.int .i64 a), (.int .i64 b)] H R
/-- slices.choosePivotOrdered[uint64] -/
@[reducible] def slices_choosePivotOrdered_uint64.sp (data : Sl) (a : Int) (b : Int) (H : Heap) (R : (Int × Int) → Heap → Prop) : Prop := SpecT (cTup [(cInt .i64), (cInt .i64)]) Tryz.prog slices_choosePivotOrdered_uint64.no #[data.v, (.int .i64 a), (.int .i64 b)] H R
/-- slices.reverseRangeOrdered[uint64] -/
@[reducible] def slices_reverseRangeOrdered_uint64.sp (data : Sl) (a : Int) (b : Int) (H : Heap) (R : Unit → Heap → Prop) : Prop := SpecT (cTup []) Tryz.prog slices_reverseRangeOrdered_uint64.no #[data.v, (.int .i64 a), (.int .i64 b)] H R
/-- slices.partialInsertionSortOrdered[uint64] -/
@[reducible] def slices_partialInsertionSortOrdered_uint64.sp (data : Sl) (a : Int) (b : Int) (H : Heap) (R : Bool → Heap → Prop) : Prop := SpecT cBool Tryz.prog slices_partialInsertionSortOrdered_uint64.no #[data.v, (.int .i64 a), (.int .i64 b)] H R
/-- cmp.Less[uint64] -/
@[reducible] def cmp_Less_uint64.sp (x : Int) (y : Int) (H : Heap) (R : Bool → Heap → Prop) : Prop := SpecT cBool Tryz.prog cmp_Less_uint64.no #[(.int .u64 x), (.int .u64 y)] H R
/-- slices.partitionEqualOrdered[uint64] -/
@[reducible] def slices_partitionEqualOrdered_uint64.sp (data : Sl) (a : Int) (b : Int) (pivot : Int) (H : Heap) (R : Int → Heap → Prop) : Prop := SpecT (cInt .i64) Tryz.prog slices_partitionEqualOrdered_uint64.no #[data.v, (.int .i64 a), (.int .i64 b), (.int .i64 pivot)] H R
/-- slices.partitionOrdered[uint64] -/
@[reducible] def slices_partitionOrdered_uint64.sp (data : Sl) (a : Int) (b : Int) (pivot : Int) (H : Heap) (R : (Int × Bool) → Heap → Prop) : Prop := SpecT (cTup [(cInt .i64), cBool]) Tryz.prog slices_partitionOrdered_uint64.no #[data.v, (.int .i64 a), (.int .i64 b), (.int .i64 pivot)] H R
/-- math/bits.Len32 -/
@[reducible] def math_bits_Len32.sp (x : Int) (H : Heap) (R : Int → Heap → Prop) : Prop := SpecT (cInt .i64) Tryz.prog math_bits_Len32.no #[(.int .u32 x)] H R
/-- math/bits.Len64 -/
@[reducible] def math_bits_Len64.sp (x : Int) (H : Heap) (R : Int → Heap → Prop) : Prop := SpecT (cInt .i64) Tryz.prog math_bits_Len64.no #[(.int .u64 x)] H R
/-- internal/strconv.Itoa -/
@[reducible] def internal_strconv_Itoa.sp (i : Int) (H : Heap) (R : ByteArray → Heap → Prop) : Prop := SpecT cStr Tryz.prog internal_strconv_Itoa.no #[(.int .i64 i)] H R
/-- (fathom/row.word).of -/
@[reducible] def row_word_of.sp (b : Array Value) (n : Int) (H : Heap) (R : Array Value → Heap → Prop) : Prop := SpecT cArr Tryz.prog row_word_of.no #[(.agg b), (.int .u64 n)] H R
/-- (*fathom/disk.Disk).ready -/
@[reducible] def disk_Disk_ready.sp (d : Option Addr) (H : Heap) (R : Int → Heap → Prop) : Prop := SpecT (cInt .i64) Tryz.prog disk_Disk_ready.no #[(.pointer d)] H R
/-- fathom/disk.named -/
@[reducible] def disk_named.sp (s : ByteArray) (H : Heap) (R : Bool → Heap → Prop) : Prop := SpecT cBool Tryz.prog disk_named.no #[(.string s)] H R
/-- (*fathom/disk.Disk).change -/
@[reducible] def disk_Disk_change.sp (d : Option Addr) (H : Heap) (R : Int → Heap → Prop) : Prop := SpecT (cInt .i64) Tryz.prog disk_Disk_change.no #[(.pointer d)] H R
/-- (*fathom/disk.Disk).Len -/
@[reducible] def disk_Disk_Len.sp (d : Option Addr) (name : ByteArray) (H : Heap) (R : (Int × Int) → Heap → Prop) : Prop := SpecT (cTup [(cInt .i64), (cInt .i64)]) Tryz.prog disk_Disk_Len.no #[(.pointer d), (.string name)] H R
/-- (*fathom/pool.Pool).room -/
@[reducible] def pool_Pool_room.sp (p : Option Addr) (H : Heap) (R : Int → Heap → Prop) : Prop := SpecT (cInt .i64) Tryz.prog pool_Pool_room.no #[(.pointer p)] H R
/-- (*fathom/pool.Pool).write -/
@[reducible] def pool_Pool_write.sp (p : Option Addr) (f : Option Addr) (H : Heap) (R : Int → Heap → Prop) : Prop := SpecT (cInt .i64) Tryz.prog pool_Pool_write.no #[(.pointer p), (.pointer f)] H R
/-- (*fathom/disk.Disk).Read -/
@[reducible] def disk_Disk_Read.sp (d : Option Addr) (name : ByteArray) (page : Int) (H : Heap) (R : (Sl × Int) → Heap → Prop) : Prop := SpecT (cTup [cSl, (cInt .i64)]) Tryz.prog disk_Disk_Read.no #[(.pointer d), (.string name), (.int .i64 page)] H R
/-- fathom/page.Open -/
@[reducible] def page_Open.sp (b : Sl) (H : Heap) (R : (Int × Sl × Int) → Heap → Prop) : Prop := SpecT (cTup [(cInt .u8), cSl, (cInt .i64)]) Tryz.prog page_Open.no #[b.v] H R
/-- slices.Chunk[[]byte,byte]$1 -/
@[reducible] def slices_Chunk_sl_byte_byte_c1.sp (l : Nat) (cap : Addr) (cap1 : Addr) (H : Heap) (R : Unit → Heap → Prop) : Prop := SpecT (cTup []) Tryz.prog slices_Chunk_sl_byte_byte_c1.no #[(.func (.yield l) #[] #[]), (.pointer (some cap)), (.pointer (some cap1))] H R
/-- slices.DeleteFunc[[]*fathom/hash.file,*fathom/hash.file] -/
@[reducible] def slices_DeleteFunc_sl_ptr_hash_file_ptr_hash_file.sp (s : Sl) (del : Value) (H : Heap) (R : Sl → Heap → Prop) : Prop := SpecT cSl Tryz.prog slices_DeleteFunc_sl_ptr_hash_file_ptr_hash_file.no #[s.v, del] H R
/-- (*fathom/hash.joiner).drop$1 -/
@[reducible] def hash_joiner_drop_c1.sp (g : Option Addr) (cap : Addr) (H : Heap) (R : Bool → Heap → Prop) : Prop := SpecT cBool Tryz.prog hash_joiner_drop_c1.no #[(.pointer g), (.pointer (some cap))] H R
/-- (*fathom/pool.Pool).Drop -/
@[reducible] def pool_Pool_Drop.sp (p : Option Addr) (name : ByteArray) (H : Heap) (R : Int → Heap → Prop) : Prop := SpecT (cInt .i64) Tryz.prog pool_Pool_Drop.no #[(.pointer p), (.string name)] H R
/-- slices.siftDownOrdered[uint64] -/
@[reducible] def slices_siftDownOrdered_uint64.sp (data : Sl) (lo : Int) (hi : Int) (first : Int) (H : Heap) (R : Unit → Heap → Prop) : Prop := SpecT (cTup []) Tryz.prog slices_siftDownOrdered_uint64.no #[data.v, (.int .i64 lo), (.int .i64 hi), (.int .i64 first)] H R
/-- slices.nextPowerOfTwo -/
@[reducible] def slices_nextPowerOfTwo.sp (length : Int) (H : Heap) (R : Int → Heap → Prop) : Prop := SpecT (cInt .u64) Tryz.prog slices_nextPowerOfTwo.no #[(.int .i64 length)] H R
/-- (*slices.xorshift).Next -/
@[reducible] def slices_xorshift_Next.sp (r : Option Addr) (H : Heap) (R : Int → Heap → Prop) : Prop := SpecT (cInt .u64) Tryz.prog slices_xorshift_Next.no #[(.pointer r)] H R
/-- slices.medianAdjacentOrdered[uint64] -/
@[reducible] def slices_medianAdjacentOrdered_uint64.sp (data : Sl) (a : Int) (swaps : Option Addr) (H : Heap) (R : Int → Heap → Prop) : Prop := SpecT (cInt .i64) Tryz.prog slices_medianAdjacentOrdered_uint64.no #[data.v, (.int .i64 a), (.pointer swaps)] H R
/-- slices.medianOrdered[uint64] -/
@[reducible] def slices_medianOrdered_uint64.sp (data : Sl) (a : Int) (b : Int) (c : Int) (swaps : Option Addr) (H : Heap) (R : Int → Heap → Prop) : Prop := SpecT (cInt .i64) Tryz.prog slices_medianOrdered_uint64.no #[data.v, (.int .i64 a), (.int .i64 b), (.int .i64 c), (.pointer swaps)] H R
/-- cmp.isNaN[uint64] -/
@[reducible] def cmp_isNaN_uint64.sp (x : Int) (H : Heap) (R : Bool → Heap → Prop) : Prop := SpecT cBool Tryz.prog cmp_isNaN_uint64.no #[(.int .u64 x)] H R
/-- internal/strconv.FormatInt -/
@[reducible] def internal_strconv_FormatInt.sp (i : Int) (base : Int) (H : Heap) (R : ByteArray → Heap → Prop) : Prop := SpecT cStr Tryz.prog internal_strconv_FormatInt.no #[(.int .i64 i), (.int .i64 base)] H R
/-- (*fathom/disk.Disk).open -/
@[reducible] def disk_Disk_open.sp (d : Option Addr) (name : ByteArray) (H : Heap) (R : (Option Addr × Int) → Heap → Prop) : Prop := SpecT (cTup [cPtr, (cInt .i64)]) Tryz.prog disk_Disk_open.no #[(.pointer d), (.string name)] H R
/-- (*fathom/pool.Pool).first -/
@[reducible] def pool_Pool_first.sp (p : Option Addr) (H : Heap) (R : Option Addr → Heap → Prop) : Prop := SpecT cPtr Tryz.prog pool_Pool_first.no #[(.pointer p), (.func (.func pool_Pool_room_c1.no) #[] #[]), (.func (.func pool_Pool_room_c2.no) #[] #[])] H R
/-- (*fathom/pool.Pool).room$1 -/
@[reducible] def pool_Pool_room_c1.sp (f : Option Addr) (H : Heap) (R : Bool → Heap → Prop) : Prop := SpecT cBool Tryz.prog pool_Pool_room_c1.no #[(.pointer f)] H R
/-- (*fathom/pool.Pool).room$2 -/
@[reducible] def pool_Pool_room_c2.sp (a : Option Addr) (b : Option Addr) (H : Heap) (R : Bool → Heap → Prop) : Prop := SpecT cBool Tryz.prog pool_Pool_room_c2.no #[(.pointer a), (.pointer b)] H R
/-- fathom/page.Seal -/
@[reducible] def page_Seal.sp (kind : Int) (b : Sl) (H : Heap) (R : (Sl × Int) → Heap → Prop) : Prop := SpecT (cTup [cSl, (cInt .i64)]) Tryz.prog page_Seal.no #[(.int .u8 kind), b.v] H R
/-- (*fathom/disk.Disk).Write -/
@[reducible] def disk_Disk_Write.sp (d : Option Addr) (name : ByteArray) (page : Int) (b : Sl) (H : Heap) (R : Int → Heap → Prop) : Prop := SpecT (cInt .i64) Tryz.prog disk_Disk_Write.no #[(.pointer d), (.string name), (.int .i64 page), b.v] H R
/-- fathom/page.Sum -/
@[reducible] def page_Sum.sp (b : Sl) (H : Heap) (R : Int → Heap → Prop) : Prop := SpecT (cInt .u32) Tryz.prog page_Sum.no #[b.v] H R
/-- slices.ContainsFunc[[]byte,byte] -/
@[reducible] def slices_ContainsFunc_sl_byte_byte.sp (s : Sl) (H : Heap) (R : Bool → Heap → Prop) : Prop := SpecT cBool Tryz.prog slices_ContainsFunc_sl_byte_byte.no #[s.v, (.func (.func page_Open_c1.no) #[] #[])] H R
/-- fathom/page.Open$1 -/
@[reducible] def page_Open_c1.sp (c : Int) (H : Heap) (R : Bool → Heap → Prop) : Prop := SpecT cBool Tryz.prog page_Open_c1.no #[(.int .u8 c)] H R
/-- slices.IndexFunc[[]*fathom/hash.file,*fathom/hash.file] -/
@[reducible] def slices_IndexFunc_sl_ptr_hash_file_ptr_hash_file.sp (s : Sl) (f : Value) (H : Heap) (R : Int → Heap → Prop) : Prop := SpecT (cInt .i64) Tryz.prog slices_IndexFunc_sl_ptr_hash_file_ptr_hash_file.no #[s.v, f] H R
/-- (*fathom/pool.Pool).of -/
@[reducible] def pool_Pool_of.sp (p : Option Addr) (name : ByteArray) (H : Heap) (R : Sl → Heap → Prop) : Prop := SpecT cSl Tryz.prog pool_Pool_of.no #[(.pointer p), (.string name)] H R
/-- slices.ContainsFunc[[]*fathom/pool.frame,*fathom/pool.frame] -/
@[reducible] def slices_ContainsFunc_sl_ptr_pool_frame_ptr_pool_frame.sp (s : Sl) (f : Value) (H : Heap) (R : Bool → Heap → Prop) : Prop := SpecT cBool Tryz.prog slices_ContainsFunc_sl_ptr_pool_frame_ptr_pool_frame.no #[s.v, f] H R
/-- (*fathom/pool.Pool).Drop$1 -/
@[reducible] def pool_Pool_Drop_c1.sp (f : Option Addr) (H : Heap) (R : Bool → Heap → Prop) : Prop := SpecT cBool Tryz.prog pool_Pool_Drop_c1.no #[(.pointer f)] H R
/-- (*fathom/disk.Disk).Remove -/
@[reducible] def disk_Disk_Remove.sp (d : Option Addr) (name : ByteArray) (H : Heap) (R : Int → Heap → Prop) : Prop := SpecT (cInt .i64) Tryz.prog disk_Disk_Remove.no #[(.pointer d), (.string name)] H R
/-- slices.order2Ordered[uint64] -/
@[reducible] def slices_order2Ordered_uint64.sp (data : Sl) (a : Int) (b : Int) (swaps : Option Addr) (H : Heap) (R : (Int × Int) → Heap → Prop) : Prop := SpecT (cTup [(cInt .i64), (cInt .i64)]) Tryz.prog slices_order2Ordered_uint64.no #[data.v, (.int .i64 a), (.int .i64 b), (.pointer swaps)] H R
/-- internal/strconv.small -/
@[reducible] def internal_strconv_small.sp (i : Int) (H : Heap) (R : ByteArray → Heap → Prop) : Prop := SpecT cStr Tryz.prog internal_strconv_small.no #[(.int .i64 i)] H R
/-- internal/strconv.numDigits -/
@[reducible] def internal_strconv_numDigits.sp (d : Int) (H : Heap) (R : Int → Heap → Prop) : Prop := SpecT (cInt .i64) Tryz.prog internal_strconv_numDigits.no #[(.int .u64 d)] H R
/-- internal/strconv.formatBase10 -/
@[reducible] def internal_strconv_formatBase10.sp (a : Sl) (u : Int) (H : Heap) (R : Unit → Heap → Prop) : Prop := SpecT (cTup []) Tryz.prog internal_strconv_formatBase10.no #[a.v, (.int .u64 u)] H R
/-- internal/strconv.formatBits -/
@[reducible] def internal_strconv_formatBits.sp (dst : Sl) (u : Int) (base : Int) (neg : Bool) (append_ : Bool) (H : Heap) (R : (Sl × ByteArray) → Heap → Prop) : Prop := SpecT (cTup [cSl, cStr]) Tryz.prog internal_strconv_formatBits.no #[dst.v, (.int .u64 u), (.int .i64 base), (.bool neg), (.bool append_)] H R
/-- fathom/disk.put -/
@[reducible] def disk_put.sp (l : Sl) (page : Int) (b : Array Value) (H : Heap) (R : Sl → Heap → Prop) : Prop := SpecT cSl Tryz.prog disk_put.no #[l.v, (.int .i64 page), (.agg b)] H R
/-- slices.IndexFunc[[]byte,byte] -/
@[reducible] def slices_IndexFunc_sl_byte_byte.sp (s : Sl) (H : Heap) (R : Int → Heap → Prop) : Prop := SpecT (cInt .i64) Tryz.prog slices_IndexFunc_sl_byte_byte.no #[s.v, (.func (.func page_Open_c1.no) #[] #[])] H R
/-- slices.DeleteFunc[[]*fathom/pool.frame,*fathom/pool.frame] -/
@[reducible] def slices_DeleteFunc_sl_ptr_pool_frame_ptr_pool_frame.sp (s : Sl) (cap : Addr) (H : Heap) (R : Sl → Heap → Prop) : Prop := SpecT cSl Tryz.prog slices_DeleteFunc_sl_ptr_pool_frame_ptr_pool_frame.no #[s.v, (.func (.func pool_Pool_of_c1.no) #[] #[(.pointer (some cap))])] H R
/-- slices.Collect[*fathom/pool.frame] -/
@[reducible] def slices_Collect_ptr_pool_frame.sp (seq : Value) (H : Heap) (R : Sl → Heap → Prop) : Prop := SpecT cSl Tryz.prog slices_Collect_ptr_pool_frame.no #[seq] H R
/-- maps.Values[map[fathom/pool.spot]*fathom/pool.frame,fathom/pool.spot,*fathom/pool.frame] -/
@[reducible] def maps_Values_map_pool_spot_ptr_pool_frame_pool_spot_ptr_pool_frame.sp (m : Option Nat) (H : Heap) (R : Value → Heap → Prop) : Prop := SpecT cRaw Tryz.prog maps_Values_map_pool_spot_ptr_pool_frame_pool_spot_ptr_pool_frame.no #[(.map m)] H R
/-- (*fathom/pool.Pool).of$1 -/
@[reducible] def pool_Pool_of_c1.sp (f : Option Addr) (cap : Addr) (H : Heap) (R : Bool → Heap → Prop) : Prop := SpecT cBool Tryz.prog pool_Pool_of_c1.no #[(.pointer f), (.pointer (some cap))] H R
/-- slices.SortFunc[[]*fathom/pool.frame,*fathom/pool.frame] -/
@[reducible] def slices_SortFunc_sl_ptr_pool_frame_ptr_pool_frame.sp (x : Sl) (cmp : Value) (H : Heap) (R : Unit → Heap → Prop) : Prop := SpecT (cTup []) Tryz.prog slices_SortFunc_sl_ptr_pool_frame_ptr_pool_frame.no #[x.v, cmp] H R
/-- (*fathom/pool.Pool).of$2 -/
@[reducible] def pool_Pool_of_c2.sp (a : Option Addr) (b : Option Addr) (H : Heap) (R : Int → Heap → Prop) : Prop := SpecT (cInt .i64) Tryz.prog pool_Pool_of_c2.no #[(.pointer a), (.pointer b)] H R
/-- slices.IndexFunc[[]*fathom/pool.frame,*fathom/pool.frame] -/
@[reducible] def slices_IndexFunc_sl_ptr_pool_frame_ptr_pool_frame_v2.sp (s : Sl) (cap : Addr) (H : Heap) (R : Int → Heap → Prop) : Prop := SpecT (cInt .i64) Tryz.prog slices_IndexFunc_sl_ptr_pool_frame_ptr_pool_frame.no #[s.v, (.func (.func pool_Pool_of_c1.no) #[] #[(.pointer (some cap))])] H R
/-- (*fathom/disk.Disk).drop -/
@[reducible] def disk_Disk_drop.sp (d : Option Addr) (name : ByteArray) (H : Heap) (R : Unit → Heap → Prop) : Prop := SpecT (cTup []) Tryz.prog disk_Disk_drop.no #[(.pointer d), (.string name)] H R
/-- internal/strconv.log10Pow2 -/
@[reducible] def internal_strconv_log10Pow2.sp (x : Int) (H : Heap) (R : Int → Heap → Prop) : Prop := SpecT (cInt .i64) Tryz.prog internal_strconv_log10Pow2.no #[(.int .i64 x)] H R
/-- internal/strconv.bool2[int] -/
@[reducible] def internal_strconv_bool2_int.sp (b : Bool) (H : Heap) (R : Int → Heap → Prop) : Prop := SpecT (cInt .i64) Tryz.prog internal_strconv_bool2_int.no #[(.bool b)] H R
/-- internal/strconv.isPowerOfTwo -/
@[reducible] def internal_strconv_isPowerOfTwo.sp (x : Int) (H : Heap) (R : Bool → Heap → Prop) : Prop := SpecT cBool Tryz.prog internal_strconv_isPowerOfTwo.no #[(.int .i64 x)] H R
/-- math/bits.TrailingZeros -/
@[reducible] def math_bits_TrailingZeros.sp (x : Int) (H : Heap) (R : Int → Heap → Prop) : Prop := SpecT (cInt .i64) Tryz.prog math_bits_TrailingZeros.no #[(.int .u64 x)] H R
/-- slices.AppendSeq[[]*fathom/pool.frame,*fathom/pool.frame] -/
@[reducible] def slices_AppendSeq_sl_ptr_pool_frame_ptr_pool_frame.sp (s : Sl) (seq : Value) (H : Heap) (R : Sl → Heap → Prop) : Prop := SpecT cSl Tryz.prog slices_AppendSeq_sl_ptr_pool_frame_ptr_pool_frame.no #[s.v, seq] H R
/-- maps.Values[map[fathom/pool.spot]*fathom/pool.frame,fathom/pool.spot,*fathom/pool.frame]$1 -/
@[reducible] def maps_Values_map_pool_spot_ptr_pool_frame_pool_spot_ptr_pool_frame_c1.sp (l : Nat) (cap : Addr) (H : Heap) (R : Unit → Heap → Prop) : Prop := SpecT (cTup []) Tryz.prog maps_Values_map_pool_spot_ptr_pool_frame_pool_spot_ptr_pool_frame_c1.no #[(.func (.yield l) #[] #[]), (.pointer (some cap))] H R
/-- slices.pdqsortCmpFunc[*fathom/pool.frame] -/
@[reducible] def slices_pdqsortCmpFunc_ptr_pool_frame.sp (data : Sl) (a : Int) (b : Int) (limit : Int) (cmp : Value) (H : Heap) (R : Unit → Heap → Prop) : Prop := SpecT (cTup []) Tryz.prog slices_pdqsortCmpFunc_ptr_pool_frame.no #[data.v, (.int .i64 a), (.int .i64 b), (.int .i64 limit), cmp] H R
/-- math/bits.TrailingZeros32 -/
@[reducible] def math_bits_TrailingZeros32.sp (x : Int) (H : Heap) (R : Int → Heap → Prop) : Prop := SpecT (cInt .i64) Tryz.prog math_bits_TrailingZeros32.no #[(.int .u32 x)] H R
/-- math/bits.TrailingZeros64 -/
@[reducible] def math_bits_TrailingZeros64.sp (x : Int) (H : Heap) (R : Int → Heap → Prop) : Prop := SpecT (cInt .i64) Tryz.prog math_bits_TrailingZeros64.no #[(.int .u64 x)] H R
/-- slices.insertionSortCmpFunc[*fathom/pool.frame] -/
@[reducible] def slices_insertionSortCmpFunc_ptr_pool_frame.sp (data : Sl) (a : Int) (b : Int) (cmp : Value) (H : Heap) (R : Unit → Heap → Prop) : Prop := SpecT (cTup []) Tryz.prog slices_insertionSortCmpFunc_ptr_pool_frame.no #[data.v, (.int .i64 a), (.int .i64 b), cmp] H R
/-- slices.heapSortCmpFunc[*fathom/pool.frame] -/
@[reducible] def slices_heapSortCmpFunc_ptr_pool_frame.sp (data : Sl) (a : Int) (b : Int) (cmp : Value) (H : Heap) (R : Unit → Heap → Prop) : Prop := SpecT (cTup []) Tryz.prog slices_heapSortCmpFunc_ptr_pool_frame.no #[data.v, (.int .i64 a), (.int .i64 b), cmp] H R
/-- slices.breakPatternsCmpFunc[*fathom/pool.frame] -/
@[reducible] def slices_breakPatternsCmpFunc_ptr_pool_frame.sp (data : Sl) (a : Int) (b : Int) (cmp : Value) (H : Heap) (R : Unit → Heap → Prop) : Prop := SpecT (cTup []) Tryz.prog slices_breakPatternsCmpFunc_ptr_pool_frame.no #[data.v, (.int .i64 a), (.int .i64 b), cmp] H R
/-- slices.choosePivotCmpFunc[*fathom/pool.frame] -/
@[reducible] def slices_choosePivotCmpFunc_ptr_pool_frame.sp (data : Sl) (a : Int) (b : Int) (cmp : Value) (H : Heap) (R : (Int × Int) → Heap → Prop) : Prop := SpecT (cTup [(cInt .i64), (cInt .i64)]) Tryz.prog slices_choosePivotCmpFunc_ptr_pool_frame.no #[data.v, (.int .i64 a), (.int .i64 b), cmp] H R
/-- slices.reverseRangeCmpFunc[*fathom/pool.frame] -/
@[reducible] def slices_reverseRangeCmpFunc_ptr_pool_frame.sp (data : Sl) (a : Int) (b : Int) (cmp : Value) (H : Heap) (R : Unit → Heap → Prop) : Prop := SpecT (cTup []) Tryz.prog slices_reverseRangeCmpFunc_ptr_pool_frame.no #[data.v, (.int .i64 a), (.int .i64 b), cmp] H R
/-- slices.partialInsertionSortCmpFunc[*fathom/pool.frame] -/
@[reducible] def slices_partialInsertionSortCmpFunc_ptr_pool_frame.sp (data : Sl) (a : Int) (b : Int) (cmp : Value) (H : Heap) (R : Bool → Heap → Prop) : Prop := SpecT cBool Tryz.prog slices_partialInsertionSortCmpFunc_ptr_pool_frame.no #[data.v, (.int .i64 a), (.int .i64 b), cmp] H R
/-- slices.partitionEqualCmpFunc[*fathom/pool.frame] -/
@[reducible] def slices_partitionEqualCmpFunc_ptr_pool_frame.sp (data : Sl) (a : Int) (b : Int) (pivot : Int) (cmp : Value) (H : Heap) (R : Int → Heap → Prop) : Prop := SpecT (cInt .i64) Tryz.prog slices_partitionEqualCmpFunc_ptr_pool_frame.no #[data.v, (.int .i64 a), (.int .i64 b), (.int .i64 pivot), cmp] H R
/-- slices.partitionCmpFunc[*fathom/pool.frame] -/
@[reducible] def slices_partitionCmpFunc_ptr_pool_frame.sp (data : Sl) (a : Int) (b : Int) (pivot : Int) (cmp : Value) (H : Heap) (R : (Int × Bool) → Heap → Prop) : Prop := SpecT (cTup [(cInt .i64), cBool]) Tryz.prog slices_partitionCmpFunc_ptr_pool_frame.no #[data.v, (.int .i64 a), (.int .i64 b), (.int .i64 pivot), cmp] H R
/-- slices.siftDownCmpFunc[*fathom/pool.frame] -/
@[reducible] def slices_siftDownCmpFunc_ptr_pool_frame.sp (data : Sl) (lo : Int) (hi : Int) (first : Int) (cmp : Value) (H : Heap) (R : Unit → Heap → Prop) : Prop := SpecT (cTup []) Tryz.prog slices_siftDownCmpFunc_ptr_pool_frame.no #[data.v, (.int .i64 lo), (.int .i64 hi), (.int .i64 first), cmp] H R
/-- slices.medianAdjacentCmpFunc[*fathom/pool.frame] -/
@[reducible] def slices_medianAdjacentCmpFunc_ptr_pool_frame.sp (data : Sl) (a : Int) (swaps : Option Addr) (cmp : Value) (H : Heap) (R : Int → Heap → Prop) : Prop := SpecT (cInt .i64) Tryz.prog slices_medianAdjacentCmpFunc_ptr_pool_frame.no #[data.v, (.int .i64 a), (.pointer swaps), cmp] H R
/-- slices.medianCmpFunc[*fathom/pool.frame] -/
@[reducible] def slices_medianCmpFunc_ptr_pool_frame.sp (data : Sl) (a : Int) (b : Int) (c : Int) (swaps : Option Addr) (cmp : Value) (H : Heap) (R : Int → Heap → Prop) : Prop := SpecT (cInt .i64) Tryz.prog slices_medianCmpFunc_ptr_pool_frame.no #[data.v, (.int .i64 a), (.int .i64 b), (.int .i64 c), (.pointer swaps), cmp] H R
/-- slices.order2CmpFunc[*fathom/pool.frame] -/
@[reducible] def slices_order2CmpFunc_ptr_pool_frame.sp (data : Sl) (a : Int) (b : Int) (swaps : Option Addr) (cmp : Value) (H : Heap) (R : (Int × Int) → Heap → Prop) : Prop := SpecT (cTup [(cInt .i64), (cInt .i64)]) Tryz.prog slices_order2CmpFunc_ptr_pool_frame.no #[data.v, (.int .i64 a), (.int .i64 b), (.pointer swaps), cmp] H R

/-- fathom/fathomlaw12.HashNone -/
def fathomlaw12_HashNone.vc (width : Int) (frames : Int) (cols : Sl) (H : Heap) (R : Bool → Heap → Prop) : Prop :=
  disk_New.sp (9 : Int) H fun (r : Option Addr) H1 => pool_New.sp r (8 : Int) H1 fun (r_1 : (Option Addr × Int)) H2 => join_From.sp (Sl.mk none 0 0) width H2 fun (r_2 : Option Addr) H3 => join_From.sp (Sl.mk none 0 0) width H3 fun (r_3 : Option Addr) H4 => hash_Join.sp none (ByteArray.mk #[104]) r_2 r_3 cols cols frames H4 fun (r_4 : (Option Addr × Int)) H5 => join_From.sp (Sl.mk none 0 0) width H5 fun (r_5 : Option Addr) H6 => hash_Join.sp r_1.1 (ByteArray.mk #[104]) none r_5 cols cols frames H6 fun (r_6 : (Option Addr × Int)) H7 => join_From.sp (Sl.mk none 0 0) width H7 fun (r_7 : Option Addr) H8 => hash_Join.sp r_1.1 (ByteArray.mk #[104]) r_7 none cols cols frames H8 fun (r_8 : (Option Addr × Int)) H9 => br r_4.1.isNone (br r_6.1.isNone (br (((r_8.1.isNone && (r_4.2 == (1 : Int))) && (r_6.2 == (1 : Int))) && (r_8.2 == (1 : Int))) (fathomlaw12_works.sp H9 fun (r_9 : Bool) H10 => R r_9 H10) (R false H9)) (R false H9)) (R false H9)

theorem fathomlaw12_HashNone.of {width : Int} {frames : Int} {cols : Sl} {H : Heap} {R : Bool → Heap → Prop} (hvc : fathomlaw12_HashNone.vc width frames cols H R) : fathomlaw12_HashNone.sp width frames cols H R :=
  specT_of_vc prog_ng prog_mixed (c := cBool) (A := []) (args := [(.int .i64 width), (.int .i64 frames), cols.v]) (Eq.mpr (by kernel_rfl : vcFT cBool Tryz.prog fathomlaw12_HashNone.no [] [(.int .i64 width), (.int .i64 frames), cols.v] H R = fathomlaw12_HashNone.vc width frames cols H R) hvc)

/-- fathom/hash.Sum -/
def hash_Sum.vc (words : Sl) (level : Int) (H : Heap) (R : Int → Heap → Prop) : Prop :=
  LoopVC (Int × Int) (IntKind.u64.wrap ((14695981039346656037 : Int) + (IntKind.u64.wrap ((1099511628211 : Int) * (IntKind.u64.wrap level)))), (0 : Int)) H fun next z H1 => br (decide (z.2 < (words.n : Int))) (optK words.a fun a => (0 ≤ z.2 ∧ z.2 < (words.n : Int)) ∧ ld (cInt .u64) H1 (a.add (z.2.toNat * 1)) fun (w : Int) => next (ixor .u64 (IntKind.u64.wrap ((ixor .u64 z.1 w) * (1099511628211 : Int))) (ishr .u64 (IntKind.u64.wrap ((ixor .u64 z.1 w) * (1099511628211 : Int))) (29 : Int)), IntKind.i64.wrap (z.2 + (1 : Int))) H1) (R z.1 H1)

theorem hash_Sum.of {words : Sl} {level : Int} {H : Heap} {R : Int → Heap → Prop} (hvc : hash_Sum.vc words level H R) : hash_Sum.sp words level H R :=
  specT_of_vc prog_ng prog_mixed (c := (cInt .u64)) (A := [(3, [(5, (cInt .u64)), (14, (cInt .i64))])]) (args := [words.v, (.int .i64 level)]) (Eq.mpr (by kernel_rfl : vcFT (cInt .u64) Tryz.prog hash_Sum.no [(3, [(5, (cInt .u64)), (14, (cInt .i64))])] [words.v, (.int .i64 level)] H R = hash_Sum.vc words level H R) hvc)

/-- fathom/fathomlaw12.works -/
def fathomlaw12_works.vc  (H : Heap) (R : Bool → Heap → Prop) : Prop :=
  disk_New.sp (60 : Int) H fun (r : Option Addr) H1 => pool_New.sp r (8 : Int) H1 fun (r_1 : (Option Addr × Int)) H2 => newC H2 #[(.int .u64 (1 : Int)), (.int .u64 (5 : Int))] ty_uint64 fun p H3 => newC H3 #[(.int .u64 (2 : Int)), (.int .u64 (6 : Int))] ty_uint64 fun p_1 H4 => newC H4 #[(.slice (some p) 2 2), (.slice (some p_1) 2 2)] ty_sl_uint64 fun p_2 H5 => join_From.sp (Sl.mk (some p_2) 2 2) (2 : Int) H5 fun (r_2 : Option Addr) H6 => newC H6 #[(.int .u64 (2 : Int)), (.int .u64 (8 : Int))] ty_uint64 fun p_3 H7 => newC H7 #[(.int .u64 (3 : Int)), (.int .u64 (9 : Int))] ty_uint64 fun p_4 H8 => newC H8 #[(.slice (some p_3) 2 2), (.slice (some p_4) 2 2)] ty_sl_uint64 fun p_5 H9 => join_From.sp (Sl.mk (some p_5) 2 2) (2 : Int) H9 fun (b : Option Addr) H10 => newC H10 #[(.int .i64 (0 : Int))] ty_int fun p_6 H11 => newC H11 #[(.int .i64 (0 : Int))] ty_int fun p_7 H12 => hash_Join.sp r_1.1 (ByteArray.mk #[104]) r_2 b (Sl.mk (some p_6) 1 1) (Sl.mk (some p_7) 1 1) (3 : Int) H12 fun (r_3 : (Option Addr × Int)) H13 => br (r_3.2 != (0 : Int)) (R false H13) (br r_3.1.isNone (R false H13) (join_Source_Next.sp r_3.1 H13 fun (r_4 : (Sl × Bool × Int)) H14 => join_Source_Next.sp r_3.1 H14 fun (r_5 : (Sl × Bool × Int)) H15 => br ((((r_4.2.2 == (0 : Int)) && (r_5.2.2 == (0 : Int))) && r_4.2.1) && (!r_5.2.1)) (join_Source_Width.sp r_3.1 H15 fun (r_6 : Int) H16 => br (r_6 == (4 : Int)) (newC H16 #[(.int .u64 (2 : Int)), (.int .u64 (6 : Int)), (.int .u64 (2 : Int)), (.int .u64 (8 : Int))] ty_uint64 fun p_8 H17 => fathomkit_SameRow.sp r_4.1 (Sl.mk (some p_8) 4 4) H17 fun (r_7 : Bool) H18 => br r_7 (hash_Sum.sp (Sl.mk none 0 0) (0 : Int) H18 fun (r_8 : Int) H19 => R (r_8 == (14695981039346656037 : Int)) H19) (R false H18)) (R false H16)) (R false H15)))

theorem fathomlaw12_works.of {H : Heap} {R : Bool → Heap → Prop} (hvc : fathomlaw12_works.vc H R) : fathomlaw12_works.sp H R :=
  specT_of_vc prog_ng prog_mixed (c := cBool) (A := []) (args := []) (Eq.mpr (by kernel_rfl : vcFT cBool Tryz.prog fathomlaw12_works.no [] [] H R = fathomlaw12_works.vc H R) hvc)

/-- fathom/pool.New -/
def pool_New.vc (d : Option Addr) (frames : Int) (H : Heap) (R : (Option Addr × Int) → Heap → Prop) : Prop :=
  br d.isNone (R (none, (1 : Int)) H) (br (decide (frames < (8 : Int))) (R (none, (30 : Int)) H) (br (decide (frames > (4096 : Int))) (R (none, (3 : Int)) H) (newM H fun m H1 => newM H1 fun m_1 H2 => newC H2 #[(.pointer d), (.int .i64 frames), (.map (some m)), (.map (some m_1)), (.int .i64 (1 : Int)), (.int .i64 (0 : Int)), (.int .i64 (0 : Int)), (.int .i64 (0 : Int))] ty_pool_Pool fun p H3 => R (some p, (0 : Int)) H3)))

theorem pool_New.of {d : Option Addr} {frames : Int} {H : Heap} {R : (Option Addr × Int) → Heap → Prop} (hvc : pool_New.vc d frames H R) : pool_New.sp d frames H R :=
  specT_of_vc prog_ng prog_mixed (c := (cTup [cPtr, (cInt .i64)])) (A := []) (args := [(.pointer d), (.int .i64 frames)]) (Eq.mpr (by kernel_rfl : vcFT (cTup [cPtr, (cInt .i64)]) Tryz.prog pool_New.no [] [(.pointer d), (.int .i64 frames)] H R = pool_New.vc d frames H R) hvc)

/-- fathom/disk.New -/
def disk_New.vc (quota : Int) (H : Heap) (R : Option Addr → Heap → Prop) : Prop :=
  newM H fun m H1 => newC H1 #[(.map (some m)), (.int .i64 (0 : Int)), (.int .i64 (0 : Int)), (.int .i64 (if (1048576 : Int) < (if (0 : Int) > quota then (0 : Int) else quota) then (1048576 : Int) else (if (0 : Int) > quota then (0 : Int) else quota))), (.int .i64 (0 : Int)), (.int .i64 (0 : Int)), (.bool false), (.int .i64 (0 : Int)), (.int .u64 (0 : Int)), (.bool false)] ty_disk_Disk fun p H2 => R (some p) H2

theorem disk_New.of {quota : Int} {H : Heap} {R : Option Addr → Heap → Prop} (hvc : disk_New.vc quota H R) : disk_New.sp quota H R :=
  specT_of_vc prog_ng prog_mixed (c := cPtr) (A := []) (args := [(.int .i64 quota)]) (Eq.mpr (by kernel_rfl : vcFT cPtr Tryz.prog disk_New.no [] [(.int .i64 quota)] H R = disk_New.vc quota H R) hvc)

/-- fathom/hash.Join -/
def hash_Join.vc (p : Option Addr) (name : ByteArray) (a : Option Addr) (b : Option Addr) (acols : Sl) (bcols : Sl) (frames : Int) (H : Heap) (R : (Option Addr × Int) → Heap → Prop) : Prop :=
  cut Unit (fun J => cut Bool (fun J_1 => br p.isNone (J_1 p.isNone H) (br a.isNone (J_1 a.isNone H) (J_1 b.isNone H))) fun (z_1 : Bool) H2 => br z_1 (R (none, (1 : Int)) H2) (cut Bool (fun J_2 => join_Source_Width.sp a H2 fun (r : Int) H4 => row_Room.sp r H4 fun (r_1 : Int) H5 => br (r_1 == (0 : Int)) (J_2 (r_1 == (0 : Int)) H5) (join_Source_Width.sp b H5 fun (r_2 : Int) H6 => row_Room.sp r_2 H6 fun (r_3 : Int) H7 => J_2 (r_3 == (0 : Int)) H7)) fun (z_2 : Bool) H3 => br z_2 (R (none, (60 : Int)) H3) (cut Bool (fun J_3 => br ((acols.n : Int) != (bcols.n : Int)) (J_3 ((acols.n : Int) != (bcols.n : Int)) H3) (join_Source_Width.sp a H3 fun (r_4 : Int) H9 => hash_none.sp acols r_4 H9 fun (r_5 : Bool) H10 => br r_5 (J_3 r_5 H10) (join_Source_Width.sp b H10 fun (r_6 : Int) H11 => hash_none.sp bcols r_6 H11 fun (r_7 : Bool) H12 => J_3 r_7 H12))) fun (z_3 : Bool) H8 => br z_3 (R (none, (2 : Int)) H8) (cut Bool (fun J_4 => br (decide (frames < (3 : Int))) (J_4 (decide (frames < (3 : Int))) H8) (pool_Pool_Frames.sp p H8 fun (r_8 : Int) H14 => J_4 (decide (frames > r_8)) H14)) fun (z_4 : Bool) H13 => br z_4 (R (none, (30 : Int)) H13) (J () H13))))) fun (_ : Unit) H1 => slices_Clone_sl_int_int.sp acols H1 fun (r_9 : Sl) H15 => join_Source_Width.sp a H15 fun (r_10 : Int) H16 => newC H16 (zc Tryz.prog ty_hash_side) ty_hash_side fun p_1 H17 => doU Tryz.prog (Instr.storeAt ty_hash_side (.pointer (some p_1)) (.agg #[(.pointer a), r_9.v, (.int .i64 r_10)])) H17 fun H18 => slices_Clone_sl_int_int.sp bcols H18 fun (r_11 : Sl) H19 => join_Source_Width.sp b H19 fun (r_12 : Int) H20 => newC H20 (zc Tryz.prog ty_hash_side) ty_hash_side fun p_2 H21 => doU Tryz.prog (Instr.storeAt ty_hash_side (.pointer (some p_2)) (.agg #[(.pointer b), r_11.v, (.int .i64 r_12)])) H21 fun H22 => ld (cInt .i64) H22 (p_1.add 2) fun (x : Int) => ld (cInt .i64) H22 (p_2.add 2) fun (x_1 : Int) => ldA (cAgg [cPtr, cSl, (cInt .i64)]) 3 H22 p_1 fun (x_2 : (Option Addr × Sl × Int)) => ldA (cAgg [cPtr, cSl, (cInt .i64)]) 3 H22 p_2 fun (x_3 : (Option Addr × Sl × Int)) => newC H22 #[(.pointer p), (.string name), (.pointer x_2.1), x_2.2.1.v, (.int .i64 x_2.2.2), (.pointer x_3.1), x_3.2.1.v, (.int .i64 x_3.2.2), (.int .i64 frames), (.int .i64 (0 : Int)), (.bool false), (.slice none 0 0), (.slice none 0 0), (.pointer none), (.pointer none), (.int .i64 (0 : Int)), (.map none), (.int .i64 (0 : Int)), (.pointer none), (.pointer none), (.slice none 0 0), (.slice none 0 0)] ty_hash_joiner fun p_3 H23 => join_Over.sp (IntKind.i64.wrap (x + x_1)) (.iface ty_ptr_hash_joiner (.pointer (some p_3))) H23 fun (r_13 : Option Addr) H24 => R (r_13, (0 : Int)) H24

theorem hash_Join.of {p : Option Addr} {name : ByteArray} {a : Option Addr} {b : Option Addr} {acols : Sl} {bcols : Sl} {frames : Int} {H : Heap} {R : (Option Addr × Int) → Heap → Prop} (hvc : hash_Join.vc p name a b acols bcols frames H R) : hash_Join.sp p name a b acols bcols frames H R :=
  specT_of_vc prog_ng prog_mixed (c := (cTup [cPtr, (cInt .i64)])) (A := [(100015, []), (100004, [(18, cBool)]), (100007, [(25, cBool)]), (100011, [(34, cBool)]), (100014, [(48, cBool)])]) (args := [(.pointer p), (.string name), (.pointer a), (.pointer b), acols.v, bcols.v, (.int .i64 frames)]) (Eq.mpr (by kernel_rfl : vcFT (cTup [cPtr, (cInt .i64)]) Tryz.prog hash_Join.no [(100015, []), (100004, [(18, cBool)]), (100007, [(25, cBool)]), (100011, [(34, cBool)]), (100014, [(48, cBool)])] [(.pointer p), (.string name), (.pointer a), (.pointer b), acols.v, bcols.v, (.int .i64 frames)] H R = hash_Join.vc p name a b acols bcols frames H R) hvc)

/-- fathom/join.From -/
def join_From.vc (rows : Sl) (width : Int) (H : Heap) (R : Option Addr → Heap → Prop) : Prop :=
  newC H #[(.int .i64 width)] ty_int fun p H1 => newC H1 (zc Tryz.prog ty_sl_sl_uint64) ty_sl_sl_uint64 fun p_1 H2 => LoopVC Int (0 : Int) H2 fun next z H3 => br (decide (z < (rows.n : Int))) (optK rows.a fun a => (0 ≤ z ∧ z < (rows.n : Int)) ∧ ld cSl H3 (a.add (z.toNat * 1)) fun (x : Sl) => ∃ G : Heap → Prop, G H3 ∧ ldC cSl G p_1 fun (x_1 : Sl) => slices_Clone_sl_uint64_uint64.sp x H3 fun (r : Sl) H4 => G H4 ∧ newC H4 #[r.v] ty_sl_uint64 fun p_2 H5 => G H5 ∧ doT cSl Tryz.prog (Builtin.append_ #[ty_sl_sl_uint64, ty_sl_sl_uint64] ty_sl_sl_uint64 #[x_1.v, (.slice (some p_2) 1 1)]) H5 fun (s : Sl) H6 => st H6 p_1 s.v fun H7 => next (IntKind.i64.wrap (z + (1 : Int))) H7) (ld (cInt .i64) H3 p fun (x_2 : Int) => br (decide (x_2 < (0 : Int))) (ld (cInt .i64) H3 p fun (x_3 : Int) => join_made.sp x_3 (Sl.mk none 0 0) (2 : Int) (.func join_From_c1.no) #[] #[(.pointer (some p_1)), (.pointer (some p))] H3 fun (r_1 : Option Addr) H8 => R r_1 H8) (ld (cInt .i64) H3 p fun (x_4 : Int) => join_made.sp x_4 (Sl.mk none 0 0) (0 : Int) (.func join_From_c1.no) #[] #[(.pointer (some p_1)), (.pointer (some p))] H3 fun (r_2 : Option Addr) H9 => R r_2 H9))

theorem join_From.of {rows : Sl} {width : Int} {H : Heap} {R : Option Addr → Heap → Prop} (hvc : join_From.vc rows width H R) : join_From.sp rows width H R :=
  specT_of_vc prog_ng prog_mixed (c := cPtr) (A := [(3, [(11, (cInt .i64))])]) (args := [rows.v, (.int .i64 width)]) (Eq.mpr (by kernel_rfl : vcFT cPtr Tryz.prog join_From.no [(3, [(11, (cInt .i64))])] [rows.v, (.int .i64 width)] H R = join_From.vc rows width H R) hvc)

/-- fathom/fathomkit.SameRow -/
def fathomkit_SameRow.vc (a : Sl) (b : Sl) (H : Heap) (R : Bool → Heap → Prop) : Prop :=
  br ((a.n : Int) != (b.n : Int)) (R false H) (LoopVC Int (0 : Int) H fun next i H1 => br (decide (i < (a.n : Int))) (optK a.a fun a_1 => (0 ≤ i ∧ i < (a.n : Int)) ∧ ld (cInt .u64) H1 (a_1.add (i.toNat * 1)) fun (x : Int) => optK b.a fun a_2 => (0 ≤ i ∧ i < (b.n : Int)) ∧ ld (cInt .u64) H1 (a_2.add (i.toNat * 1)) fun (x_1 : Int) => br (x != x_1) (R false H1) (next (IntKind.i64.wrap (i + (1 : Int))) H1)) (R true H1))

theorem fathomkit_SameRow.of {a : Sl} {b : Sl} {H : Heap} {R : Bool → Heap → Prop} (hvc : fathomkit_SameRow.vc a b H R) : fathomkit_SameRow.sp a b H R :=
  specT_of_vc prog_ng prog_mixed (c := cBool) (A := [(4, [(5, (cInt .i64))])]) (args := [a.v, b.v]) (Eq.mpr (by kernel_rfl : vcFT cBool Tryz.prog fathomkit_SameRow.no [(4, [(5, (cInt .i64))])] [a.v, b.v] H R = fathomkit_SameRow.vc a b H R) hvc)

/-- (*fathom/join.Source).Next -/
def join_Source_Next.vc (s : Option Addr) (H : Heap) (R : (Sl × Bool × Int) → Heap → Prop) : Prop :=
  cut Unit (fun J => br s.isNone (R ((Sl.mk none 0 0), false, (1 : Int)) H) (optK s fun a => ld cBool H (a.add 5) fun (x : Bool) => br x (R ((Sl.mk none 0 0), false, (2 : Int)) H) (cut Bool (fun J_1 => optK s fun a_1 => ld (cInt .i64) H (a_1.add 3) fun (x_1 : Int) => br (x_1 != (0 : Int)) (J_1 (x_1 != (0 : Int)) H) (optK s fun a_2 => ld cBool H (a_2.add 6) fun (x_2 : Bool) => J_1 x_2 H)) fun (z_1 : Bool) H2 => br z_1 (optK s fun a_3 => ld (cInt .i64) H2 (a_3.add 3) fun (x_3 : Int) => R ((Sl.mk none 0 0), false, x_3) H2) (J () H2)))) fun (_ : Unit) H1 => optK s fun a_4 => ld cRaw H1 (a_4.add 1) fun (x_4 : Value) => CallV (cTup [cSl, cBool, (cInt .i64)]) Tryz.prog x_4 [] H1 fun (r : (Sl × Bool × Int)) H3 => br ((r.2.2 != (0 : Int)) || (!r.2.1)) (optK s fun a_5 => st H3 (a_5.add 3) (.int .i64 r.2.2) fun H4 => optK s fun a_6 => st H4 (a_6.add 6) (.bool true) fun H5 => R ((Sl.mk none 0 0), false, r.2.2) H5) (R (r.1, true, (0 : Int)) H3)

theorem join_Source_Next.of {s : Option Addr} {H : Heap} {R : (Sl × Bool × Int) → Heap → Prop} (hvc : join_Source_Next.vc s H R) : join_Source_Next.sp s H R :=
  specT_of_vc prog_ng prog_mixed (c := (cTup [cSl, cBool, (cInt .i64)])) (A := [(100008, []), (100007, [(16, cBool)])]) (args := [(.pointer s)]) (Eq.mpr (by kernel_rfl : vcFT (cTup [cSl, cBool, (cInt .i64)]) Tryz.prog join_Source_Next.no [(100008, []), (100007, [(16, cBool)])] [(.pointer s)] H R = join_Source_Next.vc s H R) hvc)

/-- (*fathom/join.Source).Width -/
def join_Source_Width.vc (s : Option Addr) (H : Heap) (R : Int → Heap → Prop) : Prop :=
  br s.isNone (R (0 : Int) H) (optK s fun a => ld (cInt .i64) H (a.add 0) fun (x : Int) => R x H)

theorem join_Source_Width.of {s : Option Addr} {H : Heap} {R : Int → Heap → Prop} (hvc : join_Source_Width.vc s H R) : join_Source_Width.sp s H R :=
  specT_of_vc prog_ng prog_mixed (c := (cInt .i64)) (A := []) (args := [(.pointer s)]) (Eq.mpr (by kernel_rfl : vcFT (cInt .i64) Tryz.prog join_Source_Width.no [] [(.pointer s)] H R = join_Source_Width.vc s H R) hvc)

/-- fathom/row.Room -/
def row_Room.vc (width : Int) (H : Heap) (R : Int → Heap → Prop) : Prop :=
  row_size.sp width H fun (n : Int) H1 => br (decide (n > (0 : Int))) (n ≠ 0 ∧ R (IntKind.i64.wrap (Int.tdiv (504 : Int) n)) H1) (R (0 : Int) H1)

theorem row_Room.of {width : Int} {H : Heap} {R : Int → Heap → Prop} (hvc : row_Room.vc width H R) : row_Room.sp width H R :=
  specT_of_vc prog_ng prog_mixed (c := (cInt .i64)) (A := []) (args := [(.int .i64 width)]) (Eq.mpr (by kernel_rfl : vcFT (cInt .i64) Tryz.prog row_Room.no [] [(.int .i64 width)] H R = row_Room.vc width H R) hvc)

/-- fathom/hash.none -/
def hash_none.vc (l : Sl) (width : Int) (H : Heap) (R : Bool → Heap → Prop) : Prop :=
  newC H #[(.int .i64 width)] ty_int fun p H1 => slices_ContainsFunc_sl_int_int.sp l (.func (.func hash_none_c1.no) #[] #[(.pointer (some p))]) H1 fun (r : Bool) H2 => R r H2

theorem hash_none.of {l : Sl} {width : Int} {H : Heap} {R : Bool → Heap → Prop} (hvc : hash_none.vc l width H R) : hash_none.sp l width H R :=
  specT_of_vc prog_ng prog_mixed (c := cBool) (A := []) (args := [l.v, (.int .i64 width)]) (Eq.mpr (by kernel_rfl : vcFT cBool Tryz.prog hash_none.no [] [l.v, (.int .i64 width)] H R = hash_none.vc l width H R) hvc)

/-- (*fathom/pool.Pool).Frames -/
def pool_Pool_Frames.vc (p : Option Addr) (H : Heap) (R : Int → Heap → Prop) : Prop :=
  br p.isNone (R (0 : Int) H) (optK p fun a => ld (cInt .i64) H (a.add 1) fun (x : Int) => R x H)

theorem pool_Pool_Frames.of {p : Option Addr} {H : Heap} {R : Int → Heap → Prop} (hvc : pool_Pool_Frames.vc p H R) : pool_Pool_Frames.sp p H R :=
  specT_of_vc prog_ng prog_mixed (c := (cInt .i64)) (A := []) (args := [(.pointer p)]) (Eq.mpr (by kernel_rfl : vcFT (cInt .i64) Tryz.prog pool_Pool_Frames.no [] [(.pointer p)] H R = pool_Pool_Frames.vc p H R) hvc)

/-- slices.Clone[[]int,int] -/
def slices_Clone_sl_int_int.vc (s : Sl) (H : Heap) (R : Sl → Heap → Prop) : Prop :=
  br s.a.isNone (R (Sl.mk none 0 0) H) (newC H #[] ty_int fun p H1 => doT cSl Tryz.prog (Builtin.append_ #[ty_sl_int, ty_sl_int] ty_sl_int #[(.slice (some p) 0 0), s.v]) H1 fun (s_1 : Sl) H2 => R s_1 H2)

theorem slices_Clone_sl_int_int.of {s : Sl} {H : Heap} {R : Sl → Heap → Prop} (hvc : slices_Clone_sl_int_int.vc s H R) : slices_Clone_sl_int_int.sp s H R :=
  specT_of_vc prog_ng prog_mixed (c := cSl) (A := []) (args := [s.v]) (Eq.mpr (by kernel_rfl : vcFT cSl Tryz.prog slices_Clone_sl_int_int.no [] [s.v] H R = slices_Clone_sl_int_int.vc s H R) hvc)

/-- fathom/join.Over -/
def join_Over.vc (width : Int) (f : Value) (H : Heap) (R : Option Addr → Heap → Prop) : Prop :=
  ifNil f fun (nil : Bool) => br nil (SpecT cPtr Tryz.prog 23 #[(.int .i64 width), (.slice none 0 0), (.int .i64 (1 : Int)), .nilFunc] H fun (r : Option Addr) H1 => R r H1) (nilChk f fun (f_1 : Value) => join_made.sp width (Sl.mk none 0 0) (0 : Int) (.method "Next") #[f_1] #[] H fun (s : Option Addr) H2 => optK s fun a => st H2 (a.add 4) f fun H3 => R s H3)

theorem join_Over.of {width : Int} {f : Value} {H : Heap} {R : Option Addr → Heap → Prop} (hvc : join_Over.vc width f H R) : join_Over.sp width f H R :=
  specT_of_vc prog_ng prog_mixed (c := cPtr) (A := []) (args := [(.int .i64 width), f]) (Eq.mpr (by kernel_rfl : vcFT cPtr Tryz.prog join_Over.no [] [(.int .i64 width), f] H R = join_Over.vc width f H R) hvc)

/-- slices.Clone[[]uint64,uint64] -/
def slices_Clone_sl_uint64_uint64.vc (s : Sl) (H : Heap) (R : Sl → Heap → Prop) : Prop :=
  br s.a.isNone (R (Sl.mk none 0 0) H) (newC H #[] ty_uint64 fun p H1 => doT cSl Tryz.prog (Builtin.append_ #[ty_sl_uint64, ty_sl_uint64] ty_sl_uint64 #[(.slice (some p) 0 0), s.v]) H1 fun (s_1 : Sl) H2 => R s_1 H2)

theorem slices_Clone_sl_uint64_uint64.of {s : Sl} {H : Heap} {R : Sl → Heap → Prop} (hvc : slices_Clone_sl_uint64_uint64.vc s H R) : slices_Clone_sl_uint64_uint64.sp s H R :=
  specT_of_vc prog_ng prog_mixed (c := cSl) (A := []) (args := [s.v]) (Eq.mpr (by kernel_rfl : vcFT cSl Tryz.prog slices_Clone_sl_uint64_uint64.no [] [s.v] H R = slices_Clone_sl_uint64_uint64.vc s H R) hvc)

/-- fathom/join.made -/
def join_made.vc (width : Int) (under : Sl) (e : Int) (fn : Fn) (fi : Array Value) (ca : Array Value) (H : Heap) (R : Option Addr → Heap → Prop) : Prop :=
  LoopVC (Int × Int) (e, (0 : Int)) H fun next z H1 => br (decide (z.2 < (under.n : Int))) (optK under.a fun a => (0 ≤ z.2 ∧ z.2 < (under.n : Int)) ∧ ld cPtr H1 (a.add (z.2.toNat * 1)) fun (u : Option Addr) => br u.isNone (next ((1 : Int), IntKind.i64.wrap (z.2 + (1 : Int))) H1) (next (z.1, IntKind.i64.wrap (z.2 + (1 : Int))) H1)) (newC H1 #[(.int .i64 width), (.func fn fi ca), under.v, (.int .i64 z.1), .nilIface, (.bool false), (.bool false)] ty_join_Source fun p H2 => R (some p) H2)

theorem join_made.of {width : Int} {under : Sl} {e : Int} {fn : Fn} {fi : Array Value} {ca : Array Value} {H : Heap} {R : Option Addr → Heap → Prop} (hvc : join_made.vc width under e fn fi ca H R) : join_made.sp width under e fn fi ca H R :=
  specT_of_vc prog_ng prog_mixed (c := cPtr) (A := [(2, [(2, (cInt .i64)), (13, (cInt .i64))])]) (args := [(.int .i64 width), under.v, (.int .i64 e), (.func fn fi ca)]) (Eq.mpr (by kernel_rfl : vcFT cPtr Tryz.prog join_made.no [(2, [(2, (cInt .i64)), (13, (cInt .i64))])] [(.int .i64 width), under.v, (.int .i64 e), (.func fn fi ca)] H R = join_made.vc width under e fn fi ca H R) hvc)

/-- fathom/join.From$1 -/
def join_From_c1.vc (cap : Addr) (cap1 : Addr) (H : Heap) (R : (Sl × Bool × Int) → Heap → Prop) : Prop :=
  ld cSl H cap fun (x : Sl) => br ((x.n : Int) == (0 : Int)) (R ((Sl.mk none 0 0), false, (0 : Int)) H) (ld cSl H cap fun (x_1 : Sl) => optK x_1.a fun a => (0 ≤ (0 : Int) ∧ (0 : Int) < (x_1.n : Int)) ∧ ld cSl H (a.add ((0 : Int).toNat * 1)) fun (x_2 : Sl) => ld cSl H cap fun (x_3 : Sl) => (0 ≤ (1 : Int) ∧ (1 : Int) ≤ (x_3.n : Int)) ∧ st H cap (.slice (slA x_3.a x_3.c ((1 : Int).toNat) 1) (x_3.n - ((1 : Int).toNat)) (x_3.c - ((1 : Int).toNat))) fun H1 => ld (cInt .i64) H1 cap1 fun (x_4 : Int) => br ((x_2.n : Int) != x_4) (R ((Sl.mk none 0 0), false, (60 : Int)) H1) (R (x_2, true, (0 : Int)) H1))

theorem join_From_c1.of {cap : Addr} {cap1 : Addr} {H : Heap} {R : (Sl × Bool × Int) → Heap → Prop} (hvc : join_From_c1.vc cap cap1 H R) : join_From_c1.sp cap cap1 H R :=
  specT_of_vc prog_ng prog_mixed (c := (cTup [cSl, cBool, (cInt .i64)])) (A := []) (args := [(.pointer (some cap)), (.pointer (some cap1))]) (Eq.mpr (by kernel_rfl : vcFT (cTup [cSl, cBool, (cInt .i64)]) Tryz.prog join_From_c1.no [] [(.pointer (some cap)), (.pointer (some cap1))] H R = join_From_c1.vc cap cap1 H R) hvc)

/-- fathom/row.size -/
def row_size.vc (width : Int) (H : Heap) (R : Int → Heap → Prop) : Prop :=
  br (decide (width < (0 : Int))) (br (decide (width < (0 : Int))) (R (0 : Int) H) (br (width == (0 : Int)) (R (1 : Int) H) (R (IntKind.i64.wrap ((8 : Int) * width)) H))) (br (decide (width > (16 : Int))) (R (0 : Int) H) (br (width == (0 : Int)) (R (1 : Int) H) (R (IntKind.i64.wrap ((8 : Int) * width)) H)))

theorem row_size.of {width : Int} {H : Heap} {R : Int → Heap → Prop} (hvc : row_size.vc width H R) : row_size.sp width H R :=
  specT_of_vc prog_ng prog_mixed (c := (cInt .i64)) (A := []) (args := [(.int .i64 width)]) (Eq.mpr (by kernel_rfl : vcFT (cInt .i64) Tryz.prog row_size.no [] [(.int .i64 width)] H R = row_size.vc width H R) hvc)

/-- slices.ContainsFunc[[]int,int] -/
def slices_ContainsFunc_sl_int_int.vc (s : Sl) (f : Value) (H : Heap) (R : Bool → Heap → Prop) : Prop :=
  slices_IndexFunc_sl_int_int.sp s f H fun (r : Int) H1 => R (decide (r ≥ (0 : Int))) H1

theorem slices_ContainsFunc_sl_int_int.of {s : Sl} {f : Value} {H : Heap} {R : Bool → Heap → Prop} (hvc : slices_ContainsFunc_sl_int_int.vc s f H R) : slices_ContainsFunc_sl_int_int.sp s f H R :=
  specT_of_vc prog_ng prog_mixed (c := cBool) (A := []) (args := [s.v, f]) (Eq.mpr (by kernel_rfl : vcFT cBool Tryz.prog slices_ContainsFunc_sl_int_int.no [] [s.v, f] H R = slices_ContainsFunc_sl_int_int.vc s f H R) hvc)

/-- fathom/hash.none$1 -/
def hash_none_c1.vc (c : Int) (cap : Addr) (H : Heap) (R : Bool → Heap → Prop) : Prop :=
  br (decide (c < (0 : Int))) (R true H) (ld (cInt .i64) H cap fun (x : Int) => R (decide (c ≥ x)) H)

theorem hash_none_c1.of {c : Int} {cap : Addr} {H : Heap} {R : Bool → Heap → Prop} (hvc : hash_none_c1.vc c cap H R) : hash_none_c1.sp c cap H R :=
  specT_of_vc prog_ng prog_mixed (c := cBool) (A := []) (args := [(.int .i64 c), (.pointer (some cap))]) (Eq.mpr (by kernel_rfl : vcFT cBool Tryz.prog hash_none_c1.no [] [(.int .i64 c), (.pointer (some cap))] H R = hash_none_c1.vc c cap H R) hvc)

/-- slices.IndexFunc[[]int,int] -/
def slices_IndexFunc_sl_int_int.vc (s : Sl) (f : Value) (H : Heap) (R : Int → Heap → Prop) : Prop :=
  LoopVC Int (0 : Int) H fun next z H1 => br (decide (z < (s.n : Int))) (optK s.a fun a => (0 ≤ z ∧ z < (s.n : Int)) ∧ ld (cInt .i64) H1 (a.add (z.toNat * 1)) fun (x : Int) => CallB Tryz.prog f [(.int .i64 x)] H1 fun (r : Bool) H2 => br r (R z H2) (next (IntKind.i64.wrap (z + (1 : Int))) H2)) (R (-1 : Int) H1)

theorem slices_IndexFunc_sl_int_int.of {s : Sl} {f : Value} {H : Heap} {R : Int → Heap → Prop} (hvc : slices_IndexFunc_sl_int_int.vc s f H R) : slices_IndexFunc_sl_int_int.sp s f H R :=
  specT_of_vc prog_ng prog_mixed (c := (cInt .i64)) (A := [(2, [(8, (cInt .i64))])]) (args := [s.v, f]) (Eq.mpr (by kernel_rfl : vcFT (cInt .i64) Tryz.prog slices_IndexFunc_sl_int_int.no [(2, [(8, (cInt .i64))])] [s.v, f] H R = slices_IndexFunc_sl_int_int.vc s f H R) hvc)

/-- (*fathom/hash.joiner).Next -/
def hash_joiner_Next.vc (j : Option Addr) (H : Heap) (R : (Sl × Bool × Int) → Heap → Prop) : Prop :=
  cut Unit (fun J => optK j fun a => ld cBool H (a.add 10) fun (x : Bool) => br (!x) (hash_joiner_begin.sp j H fun (e : Int) H2 => br (e != (0 : Int)) (R ((Sl.mk none 0 0), false, e) H2) (J () H2)) (J () H)) fun (_ : Unit) H1 => LoopVC Unit () H1 fun next _ H3 => optK j fun a_1 => ld cSl H3 (a_1.add 21) fun (x_1 : Sl) => br ((x_1.n : Int) == (0 : Int)) (hash_joiner_lefts.sp j H3 fun (r : (Sl × Bool × Int)) H4 => br ((r.2.2 != (0 : Int)) || (!r.2.1)) (R ((Sl.mk none 0 0), false, r.2.2) H4) (optK j fun a_2 => hash_side_key.sp (some (a_2.add 2)) r.1 H4 fun (k : Sl) H5 => optK j fun a_3 => st H5 (a_3.add 20) r.1.v fun H6 => ∃ G : Heap → Prop, G H6 ∧ optK j fun a_4 => ldC cMap G (a_4.add 16) fun (x_2 : Option Nat) => hash_Sum.sp k (-1 : Int) H6 fun (r_1 : Int) H7 => G H7 ∧ rdV cSl Tryz.prog (Instr.lookup ty_maparr_uint64_sl_sl_uint64 (.map x_2) (.int .u64 r_1) false) H7 fun (x_3 : Sl) => LoopVC Int (0 : Int) H7 fun next_1 z_2 H8 => br (decide (z_2 < (x_3.n : Int))) (optK x_3.a fun a_5 => (0 ≤ z_2 ∧ z_2 < (x_3.n : Int)) ∧ ld cSl H8 (a_5.add (z_2.toNat * 1)) fun (m : Sl) => optK j fun a_6 => hash_side_key.sp (some (a_6.add 5)) m H8 fun (r_2 : Sl) H9 => slices_Equal_sl_uint64_uint64.sp r_2 k H9 fun (r_3 : Bool) H10 => br r_3 (optK j fun a_7 => ld cSl H10 (a_7.add 21) fun (x_4 : Sl) => newC H10 #[m.v] ty_sl_uint64 fun p H11 => doT cSl Tryz.prog (Builtin.append_ #[ty_sl_sl_uint64, ty_sl_sl_uint64] ty_sl_sl_uint64 #[x_4.v, (.slice (some p) 1 1)]) H11 fun (s : Sl) H12 => optK j fun a_8 => st H12 (a_8.add 21) s.v fun H13 => next_1 (IntKind.i64.wrap (z_2 + (1 : Int))) H13) (next_1 (IntKind.i64.wrap (z_2 + (1 : Int))) H10)) (next () H8))) (optK j fun a_9 => ld cSl H3 (a_9.add 21) fun (x_5 : Sl) => optK x_5.a fun a_10 => (0 ≤ (0 : Int) ∧ (0 : Int) < (x_5.n : Int)) ∧ ld cSl H3 (a_10.add ((0 : Int).toNat * 1)) fun (m_1 : Sl) => optK j fun a_11 => ld cSl H3 (a_11.add 21) fun (x_6 : Sl) => (0 ≤ (1 : Int) ∧ (1 : Int) ≤ (x_6.n : Int)) ∧ optK j fun a_12 => st H3 (a_12.add 21) (.slice (slA x_6.a x_6.c ((1 : Int).toNat) 1) (x_6.n - ((1 : Int).toNat)) (x_6.c - ((1 : Int).toNat))) fun H14 => optK j fun a_13 => ld cSl H14 (a_13.add 20) fun (x_7 : Sl) => slices_Clone_sl_uint64_uint64.sp x_7 H14 fun (r_4 : Sl) H15 => doT cSl Tryz.prog (Builtin.append_ #[ty_sl_uint64, ty_sl_uint64] ty_sl_uint64 #[r_4.v, m_1.v]) H15 fun (s_1 : Sl) H16 => R (s_1, true, (0 : Int)) H16)

theorem hash_joiner_Next.of {j : Option Addr} {H : Heap} {R : (Sl × Bool × Int) → Heap → Prop} (hvc : hash_joiner_Next.vc j H R) : hash_joiner_Next.sp j H R :=
  specT_of_vc prog_ng prog_mixed (c := (cTup [cSl, cBool, (cInt .i64)])) (A := [(100005, []), (5, []), (12, [(59, (cInt .i64))])]) (args := [(.pointer j)]) (Eq.mpr (by kernel_rfl : vcFT (cTup [cSl, cBool, (cInt .i64)]) Tryz.prog hash_joiner_Next.no [(100005, []), (5, []), (12, [(59, (cInt .i64))])] [(.pointer j)] H R = hash_joiner_Next.vc j H R) hvc)

/-- (*fathom/hash.joiner).begin -/
def hash_joiner_begin.vc (j : Option Addr) (H : Heap) (R : Int → Heap → Prop) : Prop :=
  newC H #[(.pointer j)] ty_ptr_hash_joiner fun p H1 => ld cPtr H1 p fun (x : Option Addr) => optK x fun a => st H1 (a.add 10) (.bool true) fun H2 => ld cPtr H2 p fun (x_1 : Option Addr) => hash_joiner_clear.sp x_1 H2 fun (_ : Unit) H3 => LoopVC Unit () H3 fun next _ H4 => ∃ G : Heap → Prop, G H4 ∧ ldC cPtr G p fun (x_2 : Option Addr) => optK x_2 fun a_1 => ldC (cInt .i64) G (a_1.add 17) fun (x_3 : Int) => ld cPtr H4 p fun (x_4 : Option Addr) => hash_joiner_most.sp x_4 H4 fun (r_1 : Int) H5 => G H5 ∧ br (decide (x_3 < r_1)) (ld cPtr H5 p fun (x_5 : Option Addr) => optK x_5 fun a_2 => ld cPtr H5 ((a_2.add 5).add 0) fun (x_6 : Option Addr) => join_Source_Next.sp x_6 H5 fun (r_2 : (Sl × Bool × Int)) H6 => br (r_2.2.2 != (0 : Int)) (R r_2.2.2 H6) (br (!r_2.2.1) (R (0 : Int) H6) (ld cPtr H6 p fun (x_7 : Option Addr) => hash_joiner_hold.sp x_7 r_2.1 H6 fun (_ : Unit) H7 => next () H7))) (newC H5 (zc Tryz.prog ty_sl_sl_uint64) ty_sl_sl_uint64 fun p_1 H8 => ld cPtr H8 p fun (x_8 : Option Addr) => optK x_8 fun a_3 => ld cMap H8 (a_3.add 16) fun (x_9 : Option Nat) => hash_sorted.sp x_9 H8 fun (r_4 : Sl) H9 => LoopVC Int (0 : Int) H9 fun next_1 z_1 H10 => br (decide (z_1 < (r_4.n : Int))) (optK r_4.a fun a_4 => (0 ≤ z_1 ∧ z_1 < (r_4.n : Int)) ∧ ld (cInt .u64) H10 (a_4.add (z_1.toNat * 1)) fun (n : Int) => ld cSl H10 p_1 fun (x_10 : Sl) => ld cPtr H10 p fun (x_11 : Option Addr) => optK x_11 fun a_5 => ld cMap H10 (a_5.add 16) fun (x_12 : Option Nat) => rdV cSl Tryz.prog (Instr.lookup ty_maparr_uint64_sl_sl_uint64 (.map x_12) (.int .u64 n) false) H10 fun (x_13 : Sl) => doT cSl Tryz.prog (Builtin.append_ #[ty_sl_sl_uint64, ty_sl_sl_uint64] ty_sl_sl_uint64 #[x_10.v, x_13.v]) H10 fun (s : Sl) H11 => st H11 p_1 s.v fun H12 => next_1 (IntKind.i64.wrap (z_1 + (1 : Int))) H12) (ld cPtr H10 p fun (x_14 : Option Addr) => hash_joiner_clear.sp x_14 H10 fun (_ : Unit) H13 => ld cPtr H13 p fun (x_15 : Option Addr) => ld cPtr H13 p fun (x_16 : Option Addr) => optK x_16 fun a_6 => ld (cInt .i64) H13 ((a_6.add 5).add 2) fun (x_17 : Int) => hash_joiner_parts.sp x_15 x_17 H13 fun (bs : Sl) H14 => ld cPtr H14 p fun (x_18 : Option Addr) => ld cPtr H14 p fun (x_19 : Option Addr) => optK x_19 fun a_7 => hash_joiner_part.sp x_18 (some (a_7.add 5)) (0 : Int) bs (.func (.func hash_joiner_begin_c1.no) #[] #[(.pointer (some p_1)), (.pointer (some p))]) H14 fun (e : Int) H15 => br (e != (0 : Int)) (R e H15) (ld cPtr H15 p fun (x_20 : Option Addr) => ld cPtr H15 p fun (x_21 : Option Addr) => optK x_21 fun a_8 => ld (cInt .i64) H15 ((a_8.add 2).add 2) fun (x_22 : Int) => hash_joiner_parts.sp x_20 x_22 H15 fun (r_6 : Sl) H16 => ld cPtr H16 p fun (x_23 : Option Addr) => ld cPtr H16 p fun (x_24 : Option Addr) => optK x_24 fun a_9 => ld cPtr H16 p fun (x_25 : Option Addr) => optK x_25 fun a_10 => ld cPtr H16 ((a_10.add 2).add 0) fun (x_26 : Option Addr) => hash_joiner_part.sp x_23 (some (a_9.add 2)) (0 : Int) r_6 (.func (.func join_Source_Next.no) #[(.pointer x_26)] #[]) H16 fun (e_1 : Int) H17 => br (e_1 != (0 : Int)) (R e_1 H17) (ld cPtr H17 p fun (x_27 : Option Addr) => hash_joiner_later.sp x_27 r_6 bs (0 : Int) H17 fun (_ : Unit) H18 => ld cPtr H18 p fun (x_28 : Option Addr) => newC H18 #[(.string ByteArray.empty), (.bool false), (.int .i64 (0 : Int)), (.int .i64 (0 : Int)), (.int .i64 (0 : Int)), (.slice none 0 0), (.int .i64 (0 : Int))] ty_hash_file fun p_2 H19 => newC H19 #[(.pointer (some p_2)), (.int .i64 (0 : Int)), (.slice none 0 0)] ty_hash_reader fun p_3 H20 => optK x_28 fun a_11 => st H20 (a_11.add 19) (.pointer (some p_3)) fun H21 => R (0 : Int) H21))))

theorem hash_joiner_begin.of {j : Option Addr} {H : Heap} {R : Int → Heap → Prop} (hvc : hash_joiner_begin.vc j H R) : hash_joiner_begin.sp j H R :=
  specT_of_vc prog_ng prog_mixed (c := (cInt .i64)) (A := [(3, []), (12, [(48, (cInt .i64))])]) (args := [(.pointer j)]) (Eq.mpr (by kernel_rfl : vcFT (cInt .i64) Tryz.prog hash_joiner_begin.no [(3, []), (12, [(48, (cInt .i64))])] [(.pointer j)] H R = hash_joiner_begin.vc j H R) hvc)

/-- (*fathom/hash.joiner).lefts -/
def hash_joiner_lefts.vc (j : Option Addr) (H : Heap) (R : (Sl × Bool × Int) → Heap → Prop) : Prop :=
  optK j fun a => ld cPtr H (a.add 19) fun (x : Option Addr) => br x.isNone (optK j fun a_1 => ld cPtr H ((a_1.add 2).add 0) fun (x_1 : Option Addr) => join_Source_Next.sp x_1 H fun (r : (Sl × Bool × Int)) H1 => R (r.1, r.2.1, r.2.2) H1) (LoopVC Unit () H fun next _ H2 => optK j fun a_2 => ld cPtr H2 (a_2.add 19) fun (x_2 : Option Addr) => hash_joiner_read.sp j x_2 H2 fun (r_1 : (Sl × Bool × Int)) H3 => br (r_1.2.1 || (r_1.2.2 != (0 : Int))) (R (r_1.1, r_1.2.1, r_1.2.2) H3) (hash_joiner_turn.sp j H3 fun (r_2 : (Bool × Int)) H4 => br ((!r_2.1) || (r_2.2 != (0 : Int))) (R ((Sl.mk none 0 0), false, r_2.2) H4) (next () H4)))

theorem hash_joiner_lefts.of {j : Option Addr} {H : Heap} {R : (Sl × Bool × Int) → Heap → Prop} (hvc : hash_joiner_lefts.vc j H R) : hash_joiner_lefts.sp j H R :=
  specT_of_vc prog_ng prog_mixed (c := (cTup [cSl, cBool, (cInt .i64)])) (A := [(3, [])]) (args := [(.pointer j)]) (Eq.mpr (by kernel_rfl : vcFT (cTup [cSl, cBool, (cInt .i64)]) Tryz.prog hash_joiner_lefts.no [(3, [])] [(.pointer j)] H R = hash_joiner_lefts.vc j H R) hvc)

/-- (*fathom/hash.side).key -/
def hash_side_key.vc (x : Option Addr) (l : Sl) (H : Heap) (R : Sl → Heap → Prop) : Prop :=
  optK x fun a => ld cSl H (a.add 1) fun (x_1 : Sl) => row_Turn.sp l x_1 H fun (r : (Sl × Int)) H1 => R r.1 H1

theorem hash_side_key.of {x : Option Addr} {l : Sl} {H : Heap} {R : Sl → Heap → Prop} (hvc : hash_side_key.vc x l H R) : hash_side_key.sp x l H R :=
  specT_of_vc prog_ng prog_mixed (c := cSl) (A := []) (args := [(.pointer x), l.v]) (Eq.mpr (by kernel_rfl : vcFT cSl Tryz.prog hash_side_key.no [] [(.pointer x), l.v] H R = hash_side_key.vc x l H R) hvc)

/-- slices.Equal[[]uint64,uint64] -/
def slices_Equal_sl_uint64_uint64.vc (s1 : Sl) (s2 : Sl) (H : Heap) (R : Bool → Heap → Prop) : Prop :=
  br ((s1.n : Int) != (s2.n : Int)) (R false H) (LoopVC Int (0 : Int) H fun next z H1 => br (decide (z < (s1.n : Int))) (optK s1.a fun a => (0 ≤ z ∧ z < (s1.n : Int)) ∧ ld (cInt .u64) H1 (a.add (z.toNat * 1)) fun (x : Int) => optK s2.a fun a_1 => (0 ≤ z ∧ z < (s2.n : Int)) ∧ ld (cInt .u64) H1 (a_1.add (z.toNat * 1)) fun (x_1 : Int) => br (x != x_1) (R false H1) (next (IntKind.i64.wrap (z + (1 : Int))) H1)) (R true H1))

theorem slices_Equal_sl_uint64_uint64.of {s1 : Sl} {s2 : Sl} {H : Heap} {R : Bool → Heap → Prop} (hvc : slices_Equal_sl_uint64_uint64.vc s1 s2 H R) : slices_Equal_sl_uint64_uint64.sp s1 s2 H R :=
  specT_of_vc prog_ng prog_mixed (c := cBool) (A := [(4, [(13, (cInt .i64))])]) (args := [s1.v, s2.v]) (Eq.mpr (by kernel_rfl : vcFT cBool Tryz.prog slices_Equal_sl_uint64_uint64.no [(4, [(13, (cInt .i64))])] [s1.v, s2.v] H R = slices_Equal_sl_uint64_uint64.vc s1 s2 H R) hvc)

/-- (*fathom/hash.joiner).clear -/
def hash_joiner_clear.vc (j : Option Addr) (H : Heap) (R : Unit → Heap → Prop) : Prop :=
  newM H fun m H1 => optK j fun a => st H1 (a.add 16) (.map (some m)) fun H2 => optK j fun a_1 => st H2 (a_1.add 17) (.int .i64 (0 : Int)) fun H3 => R () H3

theorem hash_joiner_clear.of {j : Option Addr} {H : Heap} {R : Unit → Heap → Prop} (hvc : hash_joiner_clear.vc j H R) : hash_joiner_clear.sp j H R :=
  specT_of_vc prog_ng prog_mixed (c := (cTup [])) (A := []) (args := [(.pointer j)]) (Eq.mpr (by kernel_rfl : vcFT (cTup []) Tryz.prog hash_joiner_clear.no [] [(.pointer j)] H R = hash_joiner_clear.vc j H R) hvc)

/-- (*fathom/hash.joiner).most -/
def hash_joiner_most.vc (j : Option Addr) (H : Heap) (R : Int → Heap → Prop) : Prop :=
  ∃ G : Heap → Prop, G H ∧ optK j fun a => ldC (cInt .i64) G (a.add 8) fun (x : Int) => optK j fun a_1 => ld (cInt .i64) H ((a_1.add 5).add 2) fun (x_1 : Int) => row_Room.sp x_1 H fun (r : Int) H1 => G H1 ∧ R (IntKind.i64.wrap (x * r)) H1

theorem hash_joiner_most.of {j : Option Addr} {H : Heap} {R : Int → Heap → Prop} (hvc : hash_joiner_most.vc j H R) : hash_joiner_most.sp j H R :=
  specT_of_vc prog_ng prog_mixed (c := (cInt .i64)) (A := []) (args := [(.pointer j)]) (Eq.mpr (by kernel_rfl : vcFT (cInt .i64) Tryz.prog hash_joiner_most.no [] [(.pointer j)] H R = hash_joiner_most.vc j H R) hvc)

/-- (*fathom/hash.joiner).hold -/
def hash_joiner_hold.vc (j : Option Addr) (l : Sl) (H : Heap) (R : Unit → Heap → Prop) : Prop :=
  optK j fun a => hash_side_key.sp (some (a.add 5)) l H fun (r : Sl) H1 => hash_Sum.sp r (-1 : Int) H1 fun (n : Int) H2 => ∃ G : Heap → Prop, G H2 ∧ optK j fun a_1 => ldC cMap G (a_1.add 16) fun (x : Option Nat) => optK j fun a_2 => ldC cMap G (a_2.add 16) fun (x_1 : Option Nat) => rdVC cSl Tryz.prog (Instr.lookup ty_maparr_uint64_sl_sl_uint64 (.map x_1) (.int .u64 n) false) G fun (x_2 : Sl) => newC H2 #[l.v] ty_sl_uint64 fun p H3 => G H3 ∧ doT cSl Tryz.prog (Builtin.append_ #[ty_sl_sl_uint64, ty_sl_sl_uint64] ty_sl_sl_uint64 #[x_2.v, (.slice (some p) 1 1)]) H3 fun (s : Sl) H4 => G H4 ∧ doU Tryz.prog (Instr.mapUpdate ty_maparr_uint64_sl_sl_uint64 (.map x) (.int .u64 n) s.v) H4 fun H5 => optK j fun a_3 => ld (cInt .i64) H5 (a_3.add 17) fun (x_3 : Int) => optK j fun a_4 => st H5 (a_4.add 17) (.int .i64 (IntKind.i64.wrap (x_3 + (1 : Int)))) fun H6 => R () H6

theorem hash_joiner_hold.of {j : Option Addr} {l : Sl} {H : Heap} {R : Unit → Heap → Prop} (hvc : hash_joiner_hold.vc j l H R) : hash_joiner_hold.sp j l H R :=
  specT_of_vc prog_ng prog_mixed (c := (cTup [])) (A := []) (args := [(.pointer j), l.v]) (Eq.mpr (by kernel_rfl : vcFT (cTup []) Tryz.prog hash_joiner_hold.no [] [(.pointer j), l.v] H R = hash_joiner_hold.vc j l H R) hvc)

/-- fathom/row.Turn -/
def row_Turn.vc (l : Sl) (cols : Sl) (H : Heap) (R : (Sl × Int) → Heap → Prop) : Prop :=
  doT cSl Tryz.prog (Instr.makeSlice ty_sl_uint64 (.int .i64 (0 : Int)) (.int .i64 (cols.n : Int))) H fun (out : Sl) H1 => LoopVC (Sl × Int) (out, (0 : Int)) H1 fun next z H2 => br (decide (z.2 < (cols.n : Int))) (optK cols.a fun a => (0 ≤ z.2 ∧ z.2 < (cols.n : Int)) ∧ ld (cInt .i64) H2 (a.add (z.2.toNat * 1)) fun (c : Int) => br ((decide (c < (0 : Int))) || (decide (c ≥ (l.n : Int)))) (R ((Sl.mk none 0 0), (2 : Int)) H2) (optK l.a fun a_1 => (0 ≤ c ∧ c < (l.n : Int)) ∧ ld (cInt .u64) H2 (a_1.add (c.toNat * 1)) fun (x : Int) => newC H2 #[(.int .u64 x)] ty_uint64 fun p H3 => doT cSl Tryz.prog (Builtin.append_ #[ty_sl_uint64, ty_sl_uint64] ty_sl_uint64 #[z.1.v, (.slice (some p) 1 1)]) H3 fun (out_1 : Sl) H4 => next (out_1, IntKind.i64.wrap (z.2 + (1 : Int))) H4)) (R (z.1, (0 : Int)) H2)

theorem row_Turn.of {l : Sl} {cols : Sl} {H : Heap} {R : (Sl × Int) → Heap → Prop} (hvc : row_Turn.vc l cols H R) : row_Turn.sp l cols H R :=
  specT_of_vc prog_ng prog_mixed (c := (cTup [cSl, (cInt .i64)])) (A := [(3, [(6, cSl), (14, (cInt .i64))])]) (args := [l.v, cols.v]) (Eq.mpr (by kernel_rfl : vcFT (cTup [cSl, (cInt .i64)]) Tryz.prog row_Turn.no [(3, [(6, cSl), (14, (cInt .i64))])] [l.v, cols.v] H R = row_Turn.vc l cols H R) hvc)

end Go.Proofs.YtfepjeihdcpoaaaGreat
