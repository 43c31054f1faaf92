/-
  Written by wip/tools/gen.py: what the walk of each function asks, in plain form, and that it is enough.
-/
import Derived.Test.YtndnjggcpdkbiaaFxf
import Derived.Test.YtndnjggcpdkbiaaProg
import Derived.KernelRfl
namespace Go.Proofs.Ytndnjggcpdkbiaa
set_option maxRecDepth 100000

theorem prog_mixed : Try.prog.follows .mixedOrders = true := by kernel_rfl
theorem prog_ngB : (Try.prog.funcs.toList.all fun fn => !(fn.name == "runtime.NumGoroutine")) = true := by kernel_rfl
theorem prog_ng : NoNG Try.prog := by
  intro f fn hf
  have h1 := List.all_eq_true.1 prog_ngB fn (by
    have := Array.getElem?_eq_some_iff.1 hf
    obtain ⟨h, e⟩ := this
    rw [← e]; simp)
  simpa using h1

@[reducible] def ty_int : TypeId := 3
@[reducible] def ty_uint8 : TypeId := 5
@[reducible] def ty_string : TypeId := 9
@[reducible] def ty_sl_uint64 : TypeId := 22
@[reducible] def ty_sl_uint8 : TypeId := 23
@[reducible] def ty_sl_sl_uint64 : TypeId := 26
@[reducible] def ty_api_Errno : TypeId := 27
@[reducible] def ty_sl_int : TypeId := 37
@[reducible] def ty_uint64 : TypeId := 42
@[reducible] def ty_row_word : TypeId := 47

@[reducible] def fathomlaw06_RowBytes.no : FuncId := 3
@[reducible] def fathomlaw06_RowOrder.no : FuncId := 4
@[reducible] def fathomlaw06_RowTurns.no : FuncId := 5
@[reducible] def fathomlaw06_RowBack.no : FuncId := 6
@[reducible] def fathomlaw06_RowAround.no : FuncId := 7
@[reducible] def fathomlaw06_RowKnown.no : FuncId := 8
@[reducible] def fathomkit_Lent.no : FuncId := 9
@[reducible] def row_Put.no : FuncId := 10
@[reducible] def row_Get.no : FuncId := 11
@[reducible] def fathomref06_Get.no : FuncId := 12
@[reducible] def fathomref06_Put.no : FuncId := 13
@[reducible] def fathomkit_SameRows.no : FuncId := 14
@[reducible] def row_Room.no : FuncId := 15
@[reducible] def fathomref06_Room.no : FuncId := 16
@[reducible] def fathomkit_Spoil.no : FuncId := 17
@[reducible] def fathomkit_Kept.no : FuncId := 18
@[reducible] def fathomlaw06_works.no : FuncId := 19
@[reducible] def row_Cmp.no : FuncId := 20
@[reducible] def fathomref06_Cmp.no : FuncId := 21
@[reducible] def row_Begins.no : FuncId := 22
@[reducible] def fathomref06_Begins.no : FuncId := 23
@[reducible] def row_Turn.no : FuncId := 24
@[reducible] def fathomref06_Turn.no : FuncId := 25
@[reducible] def fathomkit_SameRow.no : FuncId := 26
@[reducible] def fathomkit_Pick.no : FuncId := 27
@[reducible] def row_word_of.no : FuncId := 28
@[reducible] def row_size.no : FuncId := 29
@[reducible] def slices_Chunk_sl_byte_byte.no : FuncId := 30
@[reducible] def fathomref06_size.no : FuncId := 31
@[reducible] def slices_CompareFunc_sl_uint64_sl_uint64_uint64_uint64.no : FuncId := 32
@[reducible] def cmp_Compare_uint64.no : FuncId := 33
@[reducible] def slices_Equal_sl_uint64_uint64.no : FuncId := 34
@[reducible] def slices_Chunk_sl_byte_byte_c1.no : FuncId := 35
@[reducible] def cmp_isNaN_uint64.no : FuncId := 36
/-- fathom/fathomlaw06.RowBytes -/
@[reducible] def fathomlaw06_RowBytes.sp (p : Sl) (p1 : Sl) (p2 : Int) (H : Heap) (R : Bool → Heap → Prop) : Prop := SpecT cBool Try.prog fathomlaw06_RowBytes.no #[p.v, p1.v, (.int .i64 p2)] H R
/-- fathom/fathomlaw06.RowOrder -/
@[reducible] def fathomlaw06_RowOrder.sp (a : Sl) (b : Sl) (H : Heap) (R : Bool → Heap → Prop) : Prop := SpecT cBool Try.prog fathomlaw06_RowOrder.no #[a.v, b.v] H R
/-- fathom/fathomlaw06.RowTurns -/
@[reducible] def fathomlaw06_RowTurns.sp (l : Sl) (cols : Sl) (H : Heap) (R : Bool → Heap → Prop) : Prop := SpecT cBool Try.prog fathomlaw06_RowTurns.no #[l.v, cols.v] H R
/-- fathom/fathomlaw06.RowBack -/
@[reducible] def fathomlaw06_RowBack.sp (p : Sl) (p1 : Int) (H : Heap) (R : Bool → Heap → Prop) : Prop := SpecT cBool Try.prog fathomlaw06_RowBack.no #[p.v, (.int .i64 p1)] H R
/-- fathom/fathomlaw06.RowAround -/
@[reducible] def fathomlaw06_RowAround.sp (p : Sl) (p1 : Int) (H : Heap) (R : Bool → Heap → Prop) : Prop := SpecT cBool Try.prog fathomlaw06_RowAround.no #[p.v, (.int .i64 p1)] H R
/-- fathom/fathomlaw06.RowKnown -/
@[reducible] def fathomlaw06_RowKnown.sp  (H : Heap) (R : Bool → Heap → Prop) : Prop := SpecT cBool Try.prog fathomlaw06_RowKnown.no #[] H R
/-- fathom/fathomkit.Lent -/
@[reducible] def fathomkit_Lent.sp (l : Sl) (H : Heap) (R : Sl → Heap → Prop) : Prop := SpecT cSl Try.prog fathomkit_Lent.no #[l.v] H R
/-- fathom/row.Put -/
@[reducible] def row_Put.sp (l : Sl) (H : Heap) (R : Sl → Heap → Prop) : Prop := SpecT cSl Try.prog row_Put.no #[l.v] H R
/-- fathom/row.Get -/
@[reducible] def row_Get.sp (p : Sl) (p1 : Int) (H : Heap) (R : (Sl × Int) → Heap → Prop) : Prop := SpecT (cTup [cSl, (cInt .i64)]) Try.prog row_Get.no #[p.v, (.int .i64 p1)] H R
/-- fathom/fathomref06.Get -/
@[reducible] def fathomref06_Get.sp (p : Sl) (p1 : Int) (H : Heap) (R : (Sl × Int) → Heap → Prop) : Prop := SpecT (cTup [cSl, (cInt .i64)]) Try.prog fathomref06_Get.no #[p.v, (.int .i64 p1)] H R
/-- fathom/fathomref06.Put -/
@[reducible] def fathomref06_Put.sp (l : Sl) (H : Heap) (R : Sl → Heap → Prop) : Prop := SpecT cSl Try.prog fathomref06_Put.no #[l.v] H R
/-- fathom/fathomkit.SameRows -/
@[reducible] def fathomkit_SameRows.sp (a : Sl) (b : Sl) (H : Heap) (R : Bool → Heap → Prop) : Prop := SpecT cBool Try.prog fathomkit_SameRows.no #[a.v, b.v] H R
/-- fathom/row.Room -/
@[reducible] def row_Room.sp (width : Int) (H : Heap) (R : Int → Heap → Prop) : Prop := SpecT (cInt .i64) Try.prog row_Room.no #[(.int .i64 width)] H R
/-- fathom/fathomref06.Room -/
@[reducible] def fathomref06_Room.sp (width : Int) (H : Heap) (R : Int → Heap → Prop) : Prop := SpecT (cInt .i64) Try.prog fathomref06_Room.no #[(.int .i64 width)] H R
/-- fathom/fathomkit.Spoil -/
@[reducible] def fathomkit_Spoil.sp (l : Sl) (H : Heap) (R : Unit → Heap → Prop) : Prop := SpecT (cTup []) Try.prog fathomkit_Spoil.no #[l.v] H R
/-- fathom/fathomkit.Kept -/
@[reducible] def fathomkit_Kept.sp (a : Sl) (l : Sl) (H : Heap) (R : Bool → Heap → Prop) : Prop := SpecT cBool Try.prog fathomkit_Kept.no #[a.v, l.v] H R
/-- fathom/fathomlaw06.works -/
@[reducible] def fathomlaw06_works.sp  (H : Heap) (R : Bool → Heap → Prop) : Prop := SpecT cBool Try.prog fathomlaw06_works.no #[] H R
/-- fathom/row.Cmp -/
@[reducible] def row_Cmp.sp (a : Sl) (b : Sl) (H : Heap) (R : Int → Heap → Prop) : Prop := SpecT (cInt .i64) Try.prog row_Cmp.no #[a.v, b.v] H R
/-- fathom/fathomref06.Cmp -/
@[reducible] def fathomref06_Cmp.sp (a : Sl) (b : Sl) (H : Heap) (R : Int → Heap → Prop) : Prop := SpecT (cInt .i64) Try.prog fathomref06_Cmp.no #[a.v, b.v] H R
/-- fathom/row.Begins -/
@[reducible] def row_Begins.sp (l : Sl) (p : Sl) (H : Heap) (R : Bool → Heap → Prop) : Prop := SpecT cBool Try.prog row_Begins.no #[l.v, p.v] H R
/-- fathom/fathomref06.Begins -/
@[reducible] def fathomref06_Begins.sp (l : Sl) (p : Sl) (H : Heap) (R : Bool → Heap → Prop) : Prop := SpecT cBool Try.prog fathomref06_Begins.no #[l.v, p.v] H R
/-- fathom/row.Turn -/
@[reducible] def row_Turn.sp (l : Sl) (cols : Sl) (H : Heap) (R : (Sl × Int) → Heap → Prop) : Prop := SpecT (cTup [cSl, (cInt .i64)]) Try.prog row_Turn.no #[l.v, cols.v] H R
/-- fathom/fathomref06.Turn -/
@[reducible] def fathomref06_Turn.sp (l : Sl) (cols : Sl) (H : Heap) (R : (Sl × Int) → Heap → Prop) : Prop := SpecT (cTup [cSl, (cInt .i64)]) Try.prog fathomref06_Turn.no #[l.v, cols.v] H R
/-- fathom/fathomkit.SameRow -/
@[reducible] def fathomkit_SameRow.sp (a : Sl) (b : Sl) (H : Heap) (R : Bool → Heap → Prop) : Prop := SpecT cBool Try.prog fathomkit_SameRow.no #[a.v, b.v] H R
/-- fathom/fathomkit.Pick -/
@[reducible] def fathomkit_Pick.sp (i : Int) (n : Int) (H : Heap) (R : Int → Heap → Prop) : Prop := SpecT (cInt .i64) Try.prog fathomkit_Pick.no #[(.int .i64 i), (.int .i64 n)] H R
/-- (fathom/row.word).of -/
@[reducible] def row_word_of.sp (b : Array Value) (n : Int) (H : Heap) (R : Array Value → Heap → Prop) : Prop := SpecT cArr Try.prog row_word_of.no #[(.agg b), (.int .u64 n)] H R
/-- fathom/row.size -/
@[reducible] def row_size.sp (width : Int) (H : Heap) (R : Int → Heap → Prop) : Prop := SpecT (cInt .i64) Try.prog row_size.no #[(.int .i64 width)] H R
/-- slices.Chunk[[]byte,byte] -/
@[reducible] def slices_Chunk_sl_byte_byte.sp (s : Sl) (n : Int) (H : Heap) (R : Value → Heap → Prop) : Prop := SpecT cRaw Try.prog slices_Chunk_sl_byte_byte.no #[s.v, (.int .i64 n)] H R
/-- fathom/fathomref06.size -/
@[reducible] def fathomref06_size.sp (width : Int) (H : Heap) (R : Int → Heap → Prop) : Prop := SpecT (cInt .i64) Try.prog fathomref06_size.no #[(.int .i64 width)] H R
/-- slices.CompareFunc[[]uint64,[]uint64,uint64,uint64] -/
@[reducible] def slices_CompareFunc_sl_uint64_sl_uint64_uint64_uint64.sp (s1 : Sl) (s2 : Sl) (H : Heap) (R : Int → Heap → Prop) : Prop := SpecT (cInt .i64) Try.prog slices_CompareFunc_sl_uint64_sl_uint64_uint64_uint64.no #[s1.v, s2.v, (.func (.func cmp_Compare_uint64.no) #[] #[])] H R
/-- cmp.Compare[uint64] -/
@[reducible] def cmp_Compare_uint64.sp (x : Int) (y : Int) (H : Heap) (R : Int → Heap → Prop) : Prop := SpecT (cInt .i64) Try.prog cmp_Compare_uint64.no #[(.int .u64 x), (.int .u64 y)] H R
/-- slices.Equal[[]uint64,uint64] -/
@[reducible] def slices_Equal_sl_uint64_uint64.sp (s1 : Sl) (s2 : Sl) (H : Heap) (R : Bool → Heap → Prop) : Prop := SpecT cBool Try.prog slices_Equal_sl_uint64_uint64.no #[s1.v, s2.v] H R
/-- slices.Chunk[[]byte,byte]$1 -/
@[reducible] def slices_Chunk_sl_byte_byte_c1.sp (l : Nat) (cap : Addr) (cap1 : Addr) (H : Heap) (R : Unit → Heap → Prop) : Prop := SpecT (cTup []) Try.prog slices_Chunk_sl_byte_byte_c1.no #[(.func (.yield l) #[] #[]), (.pointer (some cap)), (.pointer (some cap1))] H R
/-- cmp.isNaN[uint64] -/
@[reducible] def cmp_isNaN_uint64.sp (x : Int) (H : Heap) (R : Bool → Heap → Prop) : Prop := SpecT cBool Try.prog cmp_isNaN_uint64.no #[(.int .u64 x)] H R

/-- fathom/fathomlaw06.RowBytes -/
def fathomlaw06_RowBytes.vc (p : Sl) (p1 : Sl) (p2 : Int) (H : Heap) (R : Bool → Heap → Prop) : Prop :=
  br ((decide ((p.n : Int) > (1000 : Int))) || (decide ((p1.n : Int) > (4000 : Int)))) (R true H) (fathomkit_Lent.sp p H fun (r : Sl) H1 => doT cSl Try.prog (Builtin.append_ #[ty_sl_uint8, ty_sl_uint8] ty_sl_uint8 #[(.slice none 0 0), p1.v]) H1 fun (s : Sl) H2 => row_Put.sp r H2 fun (r_1 : Sl) H3 => row_Get.sp s p2 H3 fun (r_2 : (Sl × Int)) H4 => row_Get.sp s p2 H4 fun (r_3 : (Sl × Int)) H5 => fathomref06_Get.sp p1 p2 H5 fun (r_4 : (Sl × Int)) H6 => ∃ G : Heap → Prop, G H6 ∧ b2sC G r_1.a r_1.n fun (str : ByteArray) => fathomref06_Put.sp p H6 fun (r_5 : Sl) H7 => G H7 ∧ b2s H7 r_5.a r_5.n fun (str_1 : ByteArray) => br (((!(str.toList == str_1.toList)) || (r_2.2 != r_4.2)) || (r_3.2 != r_4.2)) (R false H7) (fathomkit_SameRows.sp r_2.1 r_4.1 H7 fun (r_6 : Bool) H8 => G H8 ∧ br (!r_6) (R false H8) (fathomkit_SameRows.sp r_3.1 r_4.1 H8 fun (r_7 : Bool) H9 => G H9 ∧ br (!r_7) (R false H9) (row_Room.sp p2 H9 fun (r_8 : Int) H10 => G H10 ∧ fathomref06_Room.sp p2 H10 fun (r_9 : Int) H11 => G H11 ∧ br (r_8 != r_9) (R false H11) (LoopVC Int (0 : Int) H11 fun next z H12 => br (decide (z < (r_2.1.n : Int))) (optK r_2.1.a fun a => (0 ≤ z ∧ z < (r_2.1.n : Int)) ∧ ld cSl H12 (a.add (z.toNat * 1)) fun (x : Sl) => fathomkit_Spoil.sp x H12 fun (_ : Unit) H13 => next (IntKind.i64.wrap (z + (1 : Int))) H13) (LoopVC Int (0 : Int) H12 fun next_1 z_1 H14 => br (decide (z_1 < (r_1.n : Int))) (optK r_1.a fun a_1 => (0 ≤ z_1 ∧ z_1 < (r_1.n : Int)) ∧ st H14 (a_1.add (z_1.toNat * 1)) (.int .u8 (238 : Int)) fun H15 => next_1 (IntKind.i64.wrap (z_1 + (1 : Int))) H15) (fathomkit_SameRows.sp r_3.1 r_4.1 H14 fun (r_11 : Bool) H16 => br r_11 (fathomkit_Kept.sp r p H16 fun (r_12 : Bool) H17 => br r_12 (b2s H17 s.a s.n fun (str_2 : ByteArray) => b2s H17 p1.a p1.n fun (str_3 : ByteArray) => br (str_2.toList == str_3.toList) (fathomlaw06_works.sp H17 fun (r_13 : Bool) H18 => R r_13 H18) (R false H17)) (R false H17)) (R false H16))))))))

theorem fathomlaw06_RowBytes.of {p : Sl} {p1 : Sl} {p2 : Int} {H : Heap} {R : Bool → Heap → Prop} (h : fathomlaw06_RowBytes.vc p p1 p2 H R) : fathomlaw06_RowBytes.sp p p1 p2 H R :=
  specT_of_vc prog_ng prog_mixed (c := cBool) (A := [(13, [(16, (cInt .i64))]), (17, [(17, (cInt .i64))])]) (args := [p.v, p1.v, (.int .i64 p2)]) (Eq.mpr (by kernel_rfl : vcFT cBool Try.prog fathomlaw06_RowBytes.no [(13, [(16, (cInt .i64))]), (17, [(17, (cInt .i64))])] [p.v, p1.v, (.int .i64 p2)] H R = fathomlaw06_RowBytes.vc p p1 p2 H R) h)

/-- fathom/fathomlaw06.RowOrder -/
def fathomlaw06_RowOrder.vc (a : Sl) (b : Sl) (H : Heap) (R : Bool → Heap → Prop) : Prop :=
  br ((decide ((a.n : Int) > (1000 : Int))) || (decide ((b.n : Int) > (1000 : Int)))) (R true H) (fathomkit_Lent.sp a H fun (r : Sl) H1 => fathomkit_Lent.sp b H1 fun (y : Sl) H2 => row_Cmp.sp r y H2 fun (r_1 : Int) H3 => fathomref06_Cmp.sp a b H3 fun (r_2 : Int) H4 => br (r_1 == r_2) (row_Cmp.sp y r H4 fun (r_3 : Int) H5 => row_Cmp.sp r y H5 fun (r_4 : Int) H6 => br (r_3 == (IntKind.i64.wrap (0 - r_4))) (row_Begins.sp r y H6 fun (r_5 : Bool) H7 => fathomref06_Begins.sp a b H7 fun (r_6 : Bool) H8 => br (r_5 == r_6) (fathomkit_Kept.sp r a H8 fun (r_7 : Bool) H9 => br r_7 (fathomkit_Kept.sp y b H9 fun (r_8 : Bool) H10 => br r_8 (fathomlaw06_works.sp H10 fun (r_9 : Bool) H11 => R r_9 H11) (R false H10)) (R false H9)) (R false H8)) (R false H6)) (R false H4))

theorem fathomlaw06_RowOrder.of {a : Sl} {b : Sl} {H : Heap} {R : Bool → Heap → Prop} (h : fathomlaw06_RowOrder.vc a b H R) : fathomlaw06_RowOrder.sp a b H R :=
  specT_of_vc prog_ng prog_mixed (c := cBool) (A := []) (args := [a.v, b.v]) (Eq.mpr (by kernel_rfl : vcFT cBool Try.prog fathomlaw06_RowOrder.no [] [a.v, b.v] H R = fathomlaw06_RowOrder.vc a b H R) h)

/-- fathom/fathomlaw06.RowTurns -/
def fathomlaw06_RowTurns.vc (l : Sl) (cols : Sl) (H : Heap) (R : Bool → Heap → Prop) : Prop :=
  br ((decide ((l.n : Int) > (1000 : Int))) || (decide ((cols.n : Int) > (1000 : Int)))) (R true H) (fathomkit_Lent.sp l H fun (x : Sl) H1 => row_Turn.sp x cols H1 fun (r : (Sl × Int)) H2 => fathomref06_Turn.sp l cols H2 fun (r_1 : (Sl × Int)) H3 => br (r.2 == r_1.2) (fathomkit_SameRow.sp r.1 r_1.1 H3 fun (r_2 : Bool) H4 => fathomkit_Spoil.sp r.1 H4 fun (_ : Unit) H5 => br r_2 (fathomkit_Kept.sp x l H5 fun (r_4 : Bool) H6 => br r_4 (fathomlaw06_works.sp H6 fun (r_5 : Bool) H7 => R r_5 H7) (R false H6)) (R false H5)) (fathomkit_Spoil.sp r.1 H3 fun (_ : Unit) H8 => R false H8))

theorem fathomlaw06_RowTurns.of {l : Sl} {cols : Sl} {H : Heap} {R : Bool → Heap → Prop} (h : fathomlaw06_RowTurns.vc l cols H R) : fathomlaw06_RowTurns.sp l cols H R :=
  specT_of_vc prog_ng prog_mixed (c := cBool) (A := []) (args := [l.v, cols.v]) (Eq.mpr (by kernel_rfl : vcFT cBool Try.prog fathomlaw06_RowTurns.no [] [l.v, cols.v] H R = fathomlaw06_RowTurns.vc l cols H R) h)

/-- fathom/fathomlaw06.RowBack -/
def fathomlaw06_RowBack.vc (p : Sl) (p1 : Int) (H : Heap) (R : Bool → Heap → Prop) : Prop :=
  fathomkit_Pick.sp p1 (17 : Int) H fun (r : Int) H1 => br (decide ((p.n : Int) > (60 : Int))) (R true H1) (LoopVC (Sl × Sl × Int) ((Sl.mk none 0 0), (Sl.mk none 0 0), (0 : Int)) H1 fun next z H2 => br (decide (z.2.2 < (p.n : Int))) (LoopVC (Sl × Int) ((Sl.mk none 0 0), (0 : Int)) H2 fun next_1 z_1 H3 => br (decide (z_1.2 < r)) (optK p.a fun a => (0 ≤ z.2.2 ∧ z.2.2 < (p.n : Int)) ∧ ld cSl H3 (a.add (z.2.2.toNat * 1)) fun (x : Sl) => br (decide (z_1.2 < (x.n : Int))) (optK p.a fun a_1 => (0 ≤ z.2.2 ∧ z.2.2 < (p.n : Int)) ∧ ld cSl H3 (a_1.add (z.2.2.toNat * 1)) fun (x_1 : Sl) => optK x_1.a fun a_2 => (0 ≤ z_1.2 ∧ z_1.2 < (x_1.n : Int)) ∧ ld (cInt .u64) H3 (a_2.add (z_1.2.toNat * 1)) fun (x_2 : Int) => newC H3 #[(.int .u64 x_2)] ty_uint64 fun p_1 H4 => doT cSl Try.prog (Builtin.append_ #[ty_sl_uint64, ty_sl_uint64] ty_sl_uint64 #[z_1.1.v, (.slice (some p_1) 1 1)]) H4 fun (s : Sl) H5 => next_1 (s, IntKind.i64.wrap (z_1.2 + (1 : Int))) H5) (newC H3 #[(.int .u64 (0 : Int))] ty_uint64 fun p_2 H6 => doT cSl Try.prog (Builtin.append_ #[ty_sl_uint64, ty_sl_uint64] ty_sl_uint64 #[z_1.1.v, (.slice (some p_2) 1 1)]) H6 fun (s_1 : Sl) H7 => next_1 (s_1, IntKind.i64.wrap (z_1.2 + (1 : Int))) H7)) (row_Put.sp z_1.1 H3 fun (r_1 : Sl) H8 => br (decide (z.2.2 > (0 : Int))) (∃ G : Heap → Prop, G H8 ∧ optK z.1.a fun a_3 => (0 ≤ (IntKind.i64.wrap (z.2.2 - (1 : Int))) ∧ (IntKind.i64.wrap (z.2.2 - (1 : Int))) < (z.1.n : Int)) ∧ ld cSl H8 (a_3.add ((IntKind.i64.wrap (z.2.2 - (1 : Int))).toNat * 1)) fun (x_3 : Sl) => row_Put.sp x_3 H8 fun (r_2 : Sl) H9 => G H9 ∧ optK z.1.a fun a_4 => (0 ≤ (IntKind.i64.wrap (z.2.2 - (1 : Int))) ∧ (IntKind.i64.wrap (z.2.2 - (1 : Int))) < (z.1.n : Int)) ∧ ldC cSl G (a_4.add ((IntKind.i64.wrap (z.2.2 - (1 : Int))).toNat * 1)) fun (x_4 : Sl) => row_Cmp.sp x_4 z_1.1 H9 fun (r_3 : Int) H10 => G H10 ∧ b2s H10 r_2.a r_2.n fun (str : ByteArray) => b2s H10 r_1.a r_1.n fun (str_1 : ByteArray) => br (!((Op.bytesLess str.toList str_1.toList) == (decide (r_3 < (0 : Int))))) (R false H10) (b2s H10 r_2.a r_2.n fun (str_2 : ByteArray) => b2s H10 r_1.a r_1.n fun (str_3 : ByteArray) => br (!((str_2.toList == str_3.toList) == (r_3 == (0 : Int)))) (R false H10) (newC H10 #[z_1.1.v] ty_sl_uint64 fun p_3 H11 => doT cSl Try.prog (Builtin.append_ #[ty_sl_sl_uint64, ty_sl_sl_uint64] ty_sl_sl_uint64 #[z.1.v, (.slice (some p_3) 1 1)]) H11 fun (s_2 : Sl) H12 => doT cSl Try.prog (Builtin.append_ #[ty_sl_uint8, ty_sl_uint8] ty_sl_uint8 #[z.2.1.v, r_1.v]) H12 fun (s_3 : Sl) H13 => next (s_2, s_3, IntKind.i64.wrap (z.2.2 + (1 : Int))) H13))) (newC H8 #[z_1.1.v] ty_sl_uint64 fun p_4 H14 => doT cSl Try.prog (Builtin.append_ #[ty_sl_sl_uint64, ty_sl_sl_uint64] ty_sl_sl_uint64 #[z.1.v, (.slice (some p_4) 1 1)]) H14 fun (s_4 : Sl) H15 => doT cSl Try.prog (Builtin.append_ #[ty_sl_uint8, ty_sl_uint8] ty_sl_uint8 #[z.2.1.v, r_1.v]) H15 fun (s_5 : Sl) H16 => next (s_4, s_5, IntKind.i64.wrap (z.2.2 + (1 : Int))) H16))) (row_Get.sp z.2.1 r H2 fun (r_4 : (Sl × Int)) H17 => br (r_4.2 == (0 : Int)) (fathomkit_SameRows.sp r_4.1 z.1 H17 fun (r_5 : Bool) H18 => br (r_5 && (decide ((z.2.1.n : Int) ≤ (IntKind.i64.wrap ((p.n : Int) * (if (IntKind.i64.wrap ((8 : Int) * r)) > (1 : Int) then (IntKind.i64.wrap ((8 : Int) * r)) else (1 : Int))))))) (fathomlaw06_works.sp H18 fun (r_6 : Bool) H19 => R r_6 H19) (R false H18)) (R false H17)))

theorem fathomlaw06_RowBack.of {p : Sl} {p1 : Int} {H : Heap} {R : Bool → Heap → Prop} (h : fathomlaw06_RowBack.vc p p1 H R) : fathomlaw06_RowBack.sp p p1 H R :=
  specT_of_vc prog_ng prog_mixed (c := cBool) (A := [(7, [(5, cSl), (6, cSl), (7, (cInt .i64))]), (11, [(8, cSl), (9, (cInt .i64))])]) (args := [p.v, (.int .i64 p1)]) (Eq.mpr (by kernel_rfl : vcFT cBool Try.prog fathomlaw06_RowBack.no [(7, [(5, cSl), (6, cSl), (7, (cInt .i64))]), (11, [(8, cSl), (9, (cInt .i64))])] [p.v, (.int .i64 p1)] H R = fathomlaw06_RowBack.vc p p1 H R) h)

/-- fathom/fathomlaw06.RowAround -/
def fathomlaw06_RowAround.vc (p : Sl) (p1 : Int) (H : Heap) (R : Bool → Heap → Prop) : Prop :=
  br (decide ((p.n : Int) > (60 : Int))) (R true H) (LoopVC (Sl × Sl × Int) ((Sl.mk none 0 0), (Sl.mk none 0 0), (0 : Int)) H fun next z H1 => br (decide (z.2.2 < (p.n : Int))) (newC H1 #[(.int .i64 z.2.2)] ty_int fun p_1 H2 => doT cSl Try.prog (Builtin.append_ #[ty_sl_int, ty_sl_int] ty_sl_int #[z.1.v, (.slice (some p_1) 1 1)]) H2 fun (s : Sl) H3 => newC H3 #[(.int .i64 (0 : Int))] ty_int fun p_2 H4 => doT cSl Try.prog (Builtin.append_ #[ty_sl_int, ty_sl_int] ty_sl_int #[z.2.1.v, (.slice (some p_2) 1 1)]) H4 fun (s_1 : Sl) H5 => next (s, s_1, IntKind.i64.wrap (z.2.2 + (1 : Int))) H5) (LoopVC (Int × Int) (p1, IntKind.i64.wrap ((p.n : Int) - (1 : Int))) H1 fun next_1 z_1 H6 => br (decide (z_1.2 > (0 : Int))) (fathomkit_Pick.sp z_1.1 (IntKind.i64.wrap (z_1.2 + (1 : Int))) H6 fun (r : Int) H7 => (IntKind.i64.wrap (z_1.2 + (1 : Int))) ≠ 0 ∧ optK z.1.a fun a => (0 ≤ z_1.2 ∧ z_1.2 < (z.1.n : Int)) ∧ ld (cInt .i64) H7 (a.add (z_1.2.toNat * 1)) fun (x : Int) => optK z.1.a fun a_1 => (0 ≤ r ∧ r < (z.1.n : Int)) ∧ ld (cInt .i64) H7 (a_1.add (r.toNat * 1)) fun (x_1 : Int) => optK z.1.a fun a_2 => (0 ≤ z_1.2 ∧ z_1.2 < (z.1.n : Int)) ∧ st H7 (a_2.add (z_1.2.toNat * 1)) (.int .i64 x_1) fun H8 => optK z.1.a fun a_3 => (0 ≤ r ∧ r < (z.1.n : Int)) ∧ st H8 (a_3.add (r.toNat * 1)) (.int .i64 x) fun H9 => next_1 (IntKind.i64.wrap ((IntKind.i64.wrap (Int.tdiv z_1.1 (IntKind.i64.wrap (z_1.2 + (1 : Int))))) + (7 : Int)), IntKind.i64.wrap (z_1.2 - (1 : Int))) H9) (LoopVC Int (0 : Int) H6 fun next_2 z_2 H10 => br (decide (z_2 < (p.n : Int))) (optK z.1.a fun a_4 => (0 ≤ z_2 ∧ z_2 < (z.1.n : Int)) ∧ ld (cInt .i64) H10 (a_4.add (z_2.toNat * 1)) fun (x_2 : Int) => optK z.2.1.a fun a_5 => (0 ≤ x_2 ∧ x_2 < (z.2.1.n : Int)) ∧ st H10 (a_5.add (x_2.toNat * 1)) (.int .i64 z_2) fun H11 => next_2 (IntKind.i64.wrap (z_2 + (1 : Int))) H11) (row_Turn.sp p z.1 H10 fun (r_1 : (Sl × Int)) H12 => row_Turn.sp r_1.1 z.2.1 H12 fun (r_2 : (Sl × Int)) H13 => br ((r_1.2 == (0 : Int)) && (r_2.2 == (0 : Int))) (fathomkit_SameRow.sp r_2.1 p H13 fun (r_3 : Bool) H14 => br r_3 (fathomlaw06_works.sp H14 fun (r_4 : Bool) H15 => R r_4 H15) (R false H14)) (R false H13)))))

theorem fathomlaw06_RowAround.of {p : Sl} {p1 : Int} {H : Heap} {R : Bool → Heap → Prop} (h : fathomlaw06_RowAround.vc p p1 H R) : fathomlaw06_RowAround.sp p p1 H R :=
  specT_of_vc prog_ng prog_mixed (c := cBool) (A := [(6, [(6, cSl), (7, cSl), (8, (cInt .i64))]), (11, [(1, (cInt .i64)), (9, (cInt .i64))]), (19, [(13, (cInt .i64))])]) (args := [p.v, (.int .i64 p1)]) (Eq.mpr (by kernel_rfl : vcFT cBool Try.prog fathomlaw06_RowAround.no [(6, [(6, cSl), (7, cSl), (8, (cInt .i64))]), (11, [(1, (cInt .i64)), (9, (cInt .i64))]), (19, [(13, (cInt .i64))])] [p.v, (.int .i64 p1)] H R = fathomlaw06_RowAround.vc p p1 H R) h)

/-- fathom/fathomlaw06.RowKnown -/
def fathomlaw06_RowKnown.vc  (H : Heap) (R : Bool → Heap → Prop) : Prop :=
  LoopVC Int (-2 : Int) H fun next z H1 => br (decide (z < (20 : Int))) (newC H1 #[(.int .i64 (0 : Int)), (.int .i64 (1 : Int)), (.int .i64 (7 : Int)), (.int .i64 (8 : Int)), (.int .i64 (9 : Int)), (.int .i64 (16 : Int)), (.int .i64 (24 : Int)), (.int .i64 (128 : Int)), (.int .i64 (136 : Int)), (.int .i64 (256 : Int))] ty_int fun p H2 => LoopVC Int (0 : Int) H2 fun next_1 z_1 H3 => br (decide (z_1 < (10 : Int))) ((0 ≤ z_1 ∧ z_1 < (10 : Int)) ∧ ld (cInt .i64) H3 (p.add (z_1.toNat * 1)) fun (x : Int) => doT cSl Try.prog (Instr.makeSlice ty_sl_uint8 (.int .i64 x) (.int .i64 x)) H3 fun (sl : Sl) H4 => newC H4 #[(.int .u64 (1 : Int)), (.int .u64 (2 : Int)), (.int .u64 (18446744073709551615 : Int))] ty_uint64 fun p_1 H5 => fathomlaw06_RowBytes.sp (Sl.mk (some p_1) 3 3) sl z H5 fun (r : Bool) H6 => br (!r) (R false H6) (LoopVC Int (0 : Int) H6 fun next_2 z_2 H7 => br (decide (z_2 < x)) (optK sl.a fun a => (0 ≤ z_2 ∧ z_2 < (sl.n : Int)) ∧ st H7 (a.add (z_2.toNat * 1)) (.int .u8 (IntKind.u8.wrap (IntKind.i64.wrap (z_2 + (1 : Int))))) fun H8 => next_2 (IntKind.i64.wrap (z_2 + (1 : Int))) H8) (fathomlaw06_RowBytes.sp (Sl.mk none 0 0) sl z H7 fun (r_1 : Bool) H9 => br (!r_1) (R false H9) (next_1 (IntKind.i64.wrap (z_1 + (1 : Int))) H9)))) (next (IntKind.i64.wrap (z + (1 : Int))) H3)) (newC H1 #[(.int .u64 (0 : Int))] ty_uint64 fun p_2 H10 => newC H10 #[(.int .u64 (1 : Int))] ty_uint64 fun p_3 H11 => newC H11 #[(.int .u64 (1 : Int)), (.int .u64 (0 : Int))] ty_uint64 fun p_4 H12 => newC H12 #[(.int .u64 (1 : Int)), (.int .u64 (2 : Int))] ty_uint64 fun p_5 H13 => newC H13 #[(.int .u64 (2 : Int))] ty_uint64 fun p_6 H14 => newC H14 #[(.int .u64 (18446744073709551615 : Int))] ty_uint64 fun p_7 H15 => newC H15 #[(.int .u64 (18446744073709551615 : Int)), (.int .u64 (0 : Int))] ty_uint64 fun p_8 H16 => newC H16 #[(.int .u64 (0 : Int)), (.int .u64 (18446744073709551615 : Int))] ty_uint64 fun p_9 H17 => newC H17 #[(.int .u64 (9223372036854775808 : Int))] ty_uint64 fun p_10 H18 => newC H18 #[(.int .u64 (9223372036854775807 : Int))] ty_uint64 fun p_11 H19 => newC H19 #[(.int .u64 (255 : Int))] ty_uint64 fun p_12 H20 => newC H20 #[(.int .u64 (256 : Int))] ty_uint64 fun p_13 H21 => newC H21 #[(.slice none 0 0), (.slice (some p_2) 1 1), (.slice (some p_3) 1 1), (.slice (some p_4) 2 2), (.slice (some p_5) 2 2), (.slice (some p_6) 1 1), (.slice (some p_7) 1 1), (.slice (some p_8) 2 2), (.slice (some p_9) 2 2), (.slice (some p_10) 1 1), (.slice (some p_11) 1 1), (.slice (some p_12) 1 1), (.slice (some p_13) 1 1)] ty_sl_uint64 fun p_14 H22 => LoopVC Int (0 : Int) H22 fun next_3 z_3 H23 => br (decide (z_3 < (13 : Int))) (LoopVC Int (0 : Int) H23 fun next_4 z_4 H24 => br (decide (z_4 < (13 : Int))) ((0 ≤ z_3 ∧ z_3 < (13 : Int)) ∧ ld cSl H24 (p_14.add (z_3.toNat * 1)) fun (x_1 : Sl) => (0 ≤ z_4 ∧ z_4 < (13 : Int)) ∧ ld cSl H24 (p_14.add (z_4.toNat * 1)) fun (x_2 : Sl) => fathomlaw06_RowOrder.sp x_1 x_2 H24 fun (r_2 : Bool) H25 => br (!r_2) (R false H25) (next_4 (IntKind.i64.wrap (z_4 + (1 : Int))) H25)) (newC H24 #[(.int .i64 (0 : Int))] ty_int fun p_15 H26 => newC H26 #[(.int .i64 (1 : Int))] ty_int fun p_16 H27 => newC H27 #[(.int .i64 (-1 : Int))] ty_int fun p_17 H28 => newC H28 #[(.int .i64 (0 : Int)), (.int .i64 (0 : Int))] ty_int fun p_18 H29 => newC H29 #[(.int .i64 (1 : Int)), (.int .i64 (0 : Int))] ty_int fun p_19 H30 => newC H30 #[(.int .i64 (2 : Int))] ty_int fun p_20 H31 => newC H31 #[(.int .i64 (0 : Int)), (.int .i64 (2 : Int))] ty_int fun p_21 H32 => newC H32 #[(.slice none 0 0), (.slice (some p_15) 1 1), (.slice (some p_16) 1 1), (.slice (some p_17) 1 1), (.slice (some p_18) 2 2), (.slice (some p_19) 2 2), (.slice (some p_20) 1 1), (.slice (some p_21) 2 2)] ty_sl_int fun p_22 H33 => LoopVC Int (0 : Int) H33 fun next_5 z_5 H34 => br (decide (z_5 < (8 : Int))) ((0 ≤ z_5 ∧ z_5 < (8 : Int)) ∧ ld cSl H34 (p_22.add (z_5.toNat * 1)) fun (x_3 : Sl) => (0 ≤ z_3 ∧ z_3 < (13 : Int)) ∧ ld cSl H34 (p_14.add (z_3.toNat * 1)) fun (x_4 : Sl) => fathomlaw06_RowTurns.sp x_4 x_3 H34 fun (r_3 : Bool) H35 => br (!r_3) (R false H35) (next_5 (IntKind.i64.wrap (z_5 + (1 : Int))) H35)) (fathomlaw06_RowBack.sp (Sl.mk (some p_14) 13 13) z_3 H34 fun (r_4 : Bool) H36 => br (!r_4) (R false H36) ((0 ≤ z_3 ∧ z_3 < (13 : Int)) ∧ ld cSl H36 (p_14.add (z_3.toNat * 1)) fun (x_5 : Sl) => fathomlaw06_RowAround.sp x_5 (1 : Int) H36 fun (r_5 : Bool) H37 => br (!r_5) (R false H37) (next_3 (IntKind.i64.wrap (z_3 + (1 : Int))) H37))))) (row_Room.sp (1 : Int) H23 fun (r_6 : Int) H38 => br (r_6 == (63 : Int)) (row_Room.sp (16 : Int) H38 fun (r_7 : Int) H39 => br (r_7 == (3 : Int)) (row_Room.sp (0 : Int) H39 fun (r_8 : Int) H40 => br (r_8 == (504 : Int)) (row_Room.sp (17 : Int) H40 fun (r_9 : Int) H41 => br (r_9 == (0 : Int)) (fathomlaw06_works.sp H41 fun (r_10 : Bool) H42 => R r_10 H42) (R false H41)) (R false H40)) (R false H39)) (R false H38)))

theorem fathomlaw06_RowKnown.of {H : Heap} {R : Bool → Heap → Prop} (h : fathomlaw06_RowKnown.vc H R) : fathomlaw06_RowKnown.sp H R :=
  specT_of_vc prog_ng prog_mixed (c := cBool) (A := [(3, [(2, (cInt .i64))]), (6, [(18, (cInt .i64))]), (12, [(6, (cInt .i64))]), (20, [(8, (cInt .i64))]), (23, [(9, (cInt .i64))]), (28, [(93, (cInt .i64))])]) (args := []) (Eq.mpr (by kernel_rfl : vcFT cBool Try.prog fathomlaw06_RowKnown.no [(3, [(2, (cInt .i64))]), (6, [(18, (cInt .i64))]), (12, [(6, (cInt .i64))]), (20, [(8, (cInt .i64))]), (23, [(9, (cInt .i64))]), (28, [(93, (cInt .i64))])] [] H R = fathomlaw06_RowKnown.vc H R) h)

/-- fathom/fathomkit.Lent -/
def fathomkit_Lent.vc (l : Sl) (H : Heap) (R : Sl → Heap → Prop) : Prop :=
  doT cSl Try.prog (Builtin.append_ #[ty_sl_uint64, ty_sl_uint64] ty_sl_uint64 #[(.slice none 0 0), l.v]) H fun (out : Sl) H1 => newC H1 #[(.int .u64 (30583 : Int))] ty_uint64 fun p H2 => doT cSl Try.prog (Builtin.append_ #[ty_sl_uint64, ty_sl_uint64] ty_sl_uint64 #[out.v, (.slice (some p) 1 1)]) H2 fun (out_1 : Sl) H3 => (0 ≤ (l.n : Int) ∧ (l.n : Int) ≤ (out_1.c : Int)) ∧ R (Sl.mk (slA out_1.a out_1.c 0 1) (((l.n : Int).toNat) - 0) (out_1.c - 0)) H3

theorem fathomkit_Lent.of {l : Sl} {H : Heap} {R : Sl → Heap → Prop} (h : fathomkit_Lent.vc l H R) : fathomkit_Lent.sp l H R :=
  specT_of_vc prog_ng prog_mixed (c := cSl) (A := []) (args := [l.v]) (Eq.mpr (by kernel_rfl : vcFT cSl Try.prog fathomkit_Lent.no [] [l.v] H R = fathomkit_Lent.vc l H R) h)

/-- fathom/row.Put -/
def row_Put.vc (l : Sl) (H : Heap) (R : Sl → Heap → Prop) : Prop :=
  br ((l.n : Int) == (0 : Int)) (newC H #[(.int .u8 (0 : Int))] ty_uint8 fun p H1 => R (Sl.mk (some p) 1 1) H1) (doT cSl Try.prog (Instr.makeSlice ty_sl_uint8 (.int .i64 (0 : Int)) (.int .i64 (IntKind.i64.wrap ((8 : Int) * (l.n : Int))))) H fun (out : Sl) H2 => LoopVC (Sl × Int) (out, (0 : Int)) H2 fun next z H3 => br (decide (z.2 < (l.n : Int))) (optK l.a fun a => (0 ≤ z.2 ∧ z.2 < (l.n : Int)) ∧ ld (cInt .u64) H3 (a.add (z.2.toNat * 1)) fun (n : Int) => row_word_of.sp (zc Try.prog ty_row_word) n H3 fun (r : Array Value) H4 => newC H4 (zc Try.prog ty_row_word) ty_row_word fun p_1 H5 => doU Try.prog (Instr.storeAt ty_row_word (.pointer (some p_1)) (.agg r)) H5 fun H6 => doT cSl Try.prog (Builtin.append_ #[ty_sl_uint8, ty_sl_uint8] ty_sl_uint8 #[z.1.v, (.slice (slA (some p_1) 8 0 1) (8 - 0) (8 - 0))]) H6 fun (out_1 : Sl) H7 => next (out_1, IntKind.i64.wrap (z.2 + (1 : Int))) H7) (R z.1 H3))

theorem row_Put.of {l : Sl} {H : Heap} {R : Sl → Heap → Prop} (h : row_Put.vc l H R) : row_Put.sp l H R :=
  specT_of_vc prog_ng prog_mixed (c := cSl) (A := [(5, [(3, cSl), (17, (cInt .i64))])]) (args := [l.v]) (Eq.mpr (by kernel_rfl : vcFT cSl Try.prog row_Put.no [(5, [(3, cSl), (17, (cInt .i64))])] [l.v] H R = row_Put.vc l H R) h)

/-- fathom/row.Get -/
def row_Get.vc (p : Sl) (p1 : Int) (H : Heap) (R : (Sl × Int) → Heap → Prop) : Prop :=
  newC H #[(.int .i64 p1)] ty_int fun p_1 H1 => newC H1 (zc Try.prog ty_sl_sl_uint64) ty_sl_sl_uint64 fun p_2 H2 => newC H2 (zc Try.prog ty_api_Errno) ty_api_Errno fun p_3 H3 => ld (cInt .i64) H3 p_1 fun (x : Int) => row_size.sp x H3 fun (r : Int) H4 => br (r == (0 : Int)) (st H4 p_2 (.slice none 0 0) fun H5 => st H5 p_3 (.int .i64 (60 : Int)) fun H6 => ld cSl H6 p_2 fun (res : Sl) => ld (cInt .i64) H6 p_3 fun (res_1 : Int) => R (res, res_1) H6) (r ≠ 0 ∧ br ((Int.tmod (p.n : Int) r) != (0 : Int)) (st H4 p_2 (.slice none 0 0) fun H7 => st H7 p_3 (.int .i64 (60 : Int)) fun H8 => ld cSl H8 p_2 fun (res_2 : Sl) => ld (cInt .i64) H8 p_3 fun (res_3 : Int) => R (res_2, res_3) H8) (r ≠ 0 ∧ doT cSl Try.prog (Instr.makeSlice ty_sl_sl_uint64 (.int .i64 (0 : Int)) (.int .i64 (IntKind.i64.wrap (Int.tdiv (p.n : Int) r)))) H4 fun (sl : Sl) H9 => newC H9 (zc Try.prog ty_sl_sl_uint64) ty_sl_sl_uint64 fun p_4 H10 => st H10 p_4 sl.v fun H11 => slices_Chunk_sl_byte_byte.sp p r H11 fun (r_1 : Value) H12 => RangeVC Try.prog r_1 H12 (fun l rec vs H13 KK => onSome (Cods.dec [cSl] vs) fun (z : Sl) => H13[l]? = some (.loop (rec .ready none)) ∧ cut Unit (fun J => ld (cInt .i64) (H13.setIfInBounds l (.loop (rec .busy none))) p_1 fun (x_1 : Int) => br (x_1 == (0 : Int)) (optK z.a fun a => (0 ≤ (0 : Int) ∧ (0 : Int) < (z.n : Int)) ∧ ld (cInt .u8) (H13.setIfInBounds l (.loop (rec .busy none))) (a.add ((0 : Int).toNat * 1)) fun (x_2 : Int) => br (x_2 != (0 : Int)) (st (H13.setIfInBounds l (.loop (rec .busy none))) p_2 (.slice none 0 0) fun H15 => st H15 p_3 (.int .i64 (60 : Int)) fun H16 => H16[l]? = some (.loop (rec .busy none)) ∧ KK false (H16.setIfInBounds l (.loop (rec .done (some .ret))))) (J () (H13.setIfInBounds l (.loop (rec .busy none))))) (J () (H13.setIfInBounds l (.loop (rec .busy none))))) fun (_ : Unit) H14 => ld (cInt .i64) H14 p_1 fun (x_3 : Int) => doT cSl Try.prog (Instr.makeSlice ty_sl_uint64 (.int .i64 x_3) (.int .i64 x_3)) H14 fun (sl_1 : Sl) H17 => ld (cInt .i64) H17 p_1 fun (x_4 : Int) => LoopVC Int (0 : Int) H17 fun next z_2 H18 => br (decide (z_2 < (IntKind.i64.wrap ((8 : Int) * x_4)))) (optK sl_1.a fun a_1 => (0 ≤ (IntKind.i64.wrap (Int.tdiv z_2 (8 : Int))) ∧ (IntKind.i64.wrap (Int.tdiv z_2 (8 : Int))) < (sl_1.n : Int)) ∧ ld (cInt .u64) H18 (a_1.add ((IntKind.i64.wrap (Int.tdiv z_2 (8 : Int))).toNat * 1)) fun (x_5 : Int) => optK z.a fun a_2 => (0 ≤ z_2 ∧ z_2 < (z.n : Int)) ∧ ld (cInt .u8) H18 (a_2.add (z_2.toNat * 1)) fun (x_6 : Int) => optK sl_1.a fun a_3 => (0 ≤ (IntKind.i64.wrap (Int.tdiv z_2 (8 : Int))) ∧ (IntKind.i64.wrap (Int.tdiv z_2 (8 : Int))) < (sl_1.n : Int)) ∧ st H18 (a_3.add ((IntKind.i64.wrap (Int.tdiv z_2 (8 : Int))).toNat * 1)) (.int .u64 (ior .u64 (ishl .u64 x_5 (8 : Int)) (IntKind.u64.wrap x_6))) fun H19 => next (IntKind.i64.wrap (z_2 + (1 : Int))) H19) (ld cSl H18 p_4 fun (x_7 : Sl) => newC H18 #[sl_1.v] ty_sl_uint64 fun p_5 H20 => doT cSl Try.prog (Builtin.append_ #[ty_sl_sl_uint64, ty_sl_sl_uint64] ty_sl_sl_uint64 #[x_7.v, (.slice (some p_5) 1 1)]) H20 fun (s : Sl) H21 => st H21 p_4 s.v fun H22 => H22[l]? = some (.loop (rec .busy none)) ∧ KK true (H22.setIfInBounds l (.loop (rec .ready none))))) (fun r_2 H23 => ld cSl H23 p_4 fun (x_8 : Sl) => st H23 p_2 x_8.v fun H24 => st H24 p_3 (.int .i64 (0 : Int)) fun H25 => H25[r_2]? = some (.deferred (some [])) ∧ ld cSl (H25.setIfInBounds r_2 (.deferred none)) p_2 fun (res_4 : Sl) => ld (cInt .i64) (H25.setIfInBounds r_2 (.deferred none)) p_3 fun (res_5 : Int) => R (res_4, res_5) (H25.setIfInBounds r_2 (.deferred none))) (fun i r_2 H23 => bif Nat.beq i 0 then ld cSl H23 p_4 fun (x_9 : Sl) => st H23 p_2 x_9.v fun H26 => st H26 p_3 (.int .i64 (0 : Int)) fun H27 => H27[r_2]? = some (.deferred (some [])) ∧ ld cSl (H27.setIfInBounds r_2 (.deferred none)) p_2 fun (res_6 : Sl) => ld (cInt .i64) (H27.setIfInBounds r_2 (.deferred none)) p_3 fun (res_7 : Int) => R (res_6, res_7) (H27.setIfInBounds r_2 (.deferred none)) else False) (fun r_2 H23 => H23[r_2]? = some (.deferred (some [])) ∧ ld cSl (H23.setIfInBounds r_2 (.deferred none)) p_2 fun (res_8 : Sl) => ld (cInt .i64) (H23.setIfInBounds r_2 (.deferred none)) p_3 fun (res_9 : Int) => R (res_8, res_9) (H23.setIfInBounds r_2 (.deferred none)))))

theorem row_Get.of {p : Sl} {p1 : Int} {H : Heap} {R : (Sl × Int) → Heap → Prop} (h : row_Get.vc p p1 H R) : row_Get.sp p p1 H R :=
  specT_of_vc prog_ng prog_mixed (c := (cTup [cSl, (cInt .i64)])) (A := [(200007, [(30, cSl)]), (100009, []), (11, [(43, (cInt .i64))])]) (args := [p.v, (.int .i64 p1)]) (Eq.mpr (by kernel_rfl : vcFT (cTup [cSl, (cInt .i64)]) Try.prog row_Get.no [(200007, [(30, cSl)]), (100009, []), (11, [(43, (cInt .i64))])] [p.v, (.int .i64 p1)] H R = row_Get.vc p p1 H R) h)

/-- fathom/fathomref06.Get -/
def fathomref06_Get.vc (p : Sl) (p1 : Int) (H : Heap) (R : (Sl × Int) → Heap → Prop) : Prop :=
  fathomref06_size.sp p1 H fun (r : Int) H1 => br (r == (0 : Int)) (R ((Sl.mk none 0 0), (60 : Int)) H1) (r ≠ 0 ∧ br ((Int.tmod (p.n : Int) r) != (0 : Int)) (R ((Sl.mk none 0 0), (60 : Int)) H1) (LoopVC (Sl × Int) ((Sl.mk none 0 0), (0 : Int)) H1 fun next z H2 => br (decide (z.2 < (p.n : Int))) (cut Unit (fun J => br (p1 == (0 : Int)) (optK p.a fun a => (0 ≤ z.2 ∧ z.2 < (p.n : Int)) ∧ ld (cInt .u8) H2 (a.add (z.2.toNat * 1)) fun (x : Int) => br (x != (0 : Int)) (R ((Sl.mk none 0 0), (60 : Int)) H2) (J () H2)) (J () H2)) fun (_ : Unit) H3 => LoopVC (Sl × Int) ((Sl.mk none 0 0), (0 : Int)) H3 fun next_1 z_2 H4 => br (decide (z_2.2 < p1)) (LoopVC (Int × Int) ((0 : Int), (0 : Int)) H4 fun next_2 z_3 H5 => br (decide (z_3.2 < (8 : Int))) (optK p.a fun a_1 => (0 ≤ (IntKind.i64.wrap ((IntKind.i64.wrap (z.2 + (IntKind.i64.wrap ((8 : Int) * z_2.2)))) + z_3.2)) ∧ (IntKind.i64.wrap ((IntKind.i64.wrap (z.2 + (IntKind.i64.wrap ((8 : Int) * z_2.2)))) + z_3.2)) < (p.n : Int)) ∧ ld (cInt .u8) H5 (a_1.add ((IntKind.i64.wrap ((IntKind.i64.wrap (z.2 + (IntKind.i64.wrap ((8 : Int) * z_2.2)))) + z_3.2)).toNat * 1)) fun (x_1 : Int) => next_2 (IntKind.u64.wrap ((IntKind.u64.wrap (z_3.1 * (256 : Int))) + (IntKind.u64.wrap x_1)), IntKind.i64.wrap (z_3.2 + (1 : Int))) H5) (newC H5 #[(.int .u64 z_3.1)] ty_uint64 fun p_1 H6 => doT cSl Try.prog (Builtin.append_ #[ty_sl_uint64, ty_sl_uint64] ty_sl_uint64 #[z_2.1.v, (.slice (some p_1) 1 1)]) H6 fun (s : Sl) H7 => next_1 (s, IntKind.i64.wrap (z_2.2 + (1 : Int))) H7)) (newC H4 #[z_2.1.v] ty_sl_uint64 fun p_2 H8 => doT cSl Try.prog (Builtin.append_ #[ty_sl_sl_uint64, ty_sl_sl_uint64] ty_sl_sl_uint64 #[z.1.v, (.slice (some p_2) 1 1)]) H8 fun (s_1 : Sl) H9 => next (s_1, IntKind.i64.wrap (z.2 + r)) H9)) (R (z.1, (0 : Int)) H2)))

theorem fathomref06_Get.of {p : Sl} {p1 : Int} {H : Heap} {R : (Sl × Int) → Heap → Prop} (h : fathomref06_Get.vc p p1 H R) : fathomref06_Get.sp p p1 H R :=
  specT_of_vc prog_ng prog_mixed (c := (cTup [cSl, (cInt .i64)])) (A := [(6, [(7, cSl), (8, (cInt .i64))]), (100011, []), (12, [(9, cSl), (10, (cInt .i64))]), (16, [(11, (cInt .u64)), (12, (cInt .i64))])]) (args := [p.v, (.int .i64 p1)]) (Eq.mpr (by kernel_rfl : vcFT (cTup [cSl, (cInt .i64)]) Try.prog fathomref06_Get.no [(6, [(7, cSl), (8, (cInt .i64))]), (100011, []), (12, [(9, cSl), (10, (cInt .i64))]), (16, [(11, (cInt .u64)), (12, (cInt .i64))])] [p.v, (.int .i64 p1)] H R = fathomref06_Get.vc p p1 H R) h)

/-- fathom/fathomref06.Put -/
def fathomref06_Put.vc (l : Sl) (H : Heap) (R : Sl → Heap → Prop) : Prop :=
  br ((l.n : Int) == (0 : Int)) (newC H #[(.int .u8 (0 : Int))] ty_uint8 fun p H1 => R (Sl.mk (some p) 1 1) H1) (LoopVC (Sl × Int) ((Sl.mk none 0 0), (0 : Int)) H fun next z H2 => br (decide (z.2 < (l.n : Int))) (LoopVC (Sl × Int) (z.1, (56 : Int)) H2 fun next_1 z_1 H3 => br (decide (z_1.2 ≥ (0 : Int))) (optK l.a fun a => (0 ≤ z.2 ∧ z.2 < (l.n : Int)) ∧ ld (cInt .u64) H3 (a.add (z.2.toNat * 1)) fun (x : Int) => 0 ≤ z_1.2 ∧ newC H3 #[(.int .u8 (IntKind.u8.wrap (ishr .u64 x z_1.2)))] ty_uint8 fun p_1 H4 => doT cSl Try.prog (Builtin.append_ #[ty_sl_uint8, ty_sl_uint8] ty_sl_uint8 #[z_1.1.v, (.slice (some p_1) 1 1)]) H4 fun (out : Sl) H5 => next_1 (out, IntKind.i64.wrap (z_1.2 - (8 : Int))) H5) (next (z_1.1, IntKind.i64.wrap (z.2 + (1 : Int))) H3)) (R z.1 H2))

theorem fathomref06_Put.of {l : Sl} {H : Heap} {R : Sl → Heap → Prop} (h : fathomref06_Put.vc l H R) : fathomref06_Put.sp l H R :=
  specT_of_vc prog_ng prog_mixed (c := cSl) (A := [(5, [(3, cSl), (4, (cInt .i64))]), (8, [(3, cSl), (5, (cInt .i64))])]) (args := [l.v]) (Eq.mpr (by kernel_rfl : vcFT cSl Try.prog fathomref06_Put.no [(5, [(3, cSl), (4, (cInt .i64))]), (8, [(3, cSl), (5, (cInt .i64))])] [l.v] H R = fathomref06_Put.vc l H R) h)

/-- fathom/fathomkit.SameRows -/
def fathomkit_SameRows.vc (a : Sl) (b : Sl) (H : Heap) (R : Bool → Heap → Prop) : Prop :=
  br ((a.n : Int) != (b.n : Int)) (R false H) (LoopVC Int (0 : Int) H fun next i H1 => br (decide (i < (a.n : Int))) (optK a.a fun a_1 => (0 ≤ i ∧ i < (a.n : Int)) ∧ ld cSl H1 (a_1.add (i.toNat * 1)) fun (x : Sl) => optK b.a fun a_2 => (0 ≤ i ∧ i < (b.n : Int)) ∧ ld cSl H1 (a_2.add (i.toNat * 1)) fun (x_1 : Sl) => fathomkit_SameRow.sp x x_1 H1 fun (r : Bool) H2 => br (!r) (R false H2) (next (IntKind.i64.wrap (i + (1 : Int))) H2)) (R true H1))

theorem fathomkit_SameRows.of {a : Sl} {b : Sl} {H : Heap} {R : Bool → Heap → Prop} (h : fathomkit_SameRows.vc a b H R) : fathomkit_SameRows.sp a b H R :=
  specT_of_vc prog_ng prog_mixed (c := cBool) (A := [(4, [(5, (cInt .i64))])]) (args := [a.v, b.v]) (Eq.mpr (by kernel_rfl : vcFT cBool Try.prog fathomkit_SameRows.no [(4, [(5, (cInt .i64))])] [a.v, b.v] H R = fathomkit_SameRows.vc a b H R) h)

/-- fathom/row.Room -/
def row_Room.vc (width : Int) (H : Heap) (R : Int → Heap → Prop) : Prop :=
  row_size.sp width H fun (n : Int) H1 => br (decide (n > (0 : Int))) (n ≠ 0 ∧ R (IntKind.i64.wrap (Int.tdiv (504 : Int) n)) H1) (R (0 : Int) H1)

theorem row_Room.of {width : Int} {H : Heap} {R : Int → Heap → Prop} (h : row_Room.vc width H R) : row_Room.sp width H R :=
  specT_of_vc prog_ng prog_mixed (c := (cInt .i64)) (A := []) (args := [(.int .i64 width)]) (Eq.mpr (by kernel_rfl : vcFT (cInt .i64) Try.prog row_Room.no [] [(.int .i64 width)] H R = row_Room.vc width H R) h)

/-- fathom/fathomref06.Room -/
def fathomref06_Room.vc (width : Int) (H : Heap) (R : Int → Heap → Prop) : Prop :=
  fathomref06_size.sp width H fun (n : Int) H1 => br (n == (0 : Int)) (R (0 : Int) H1) (n ≠ 0 ∧ R (IntKind.i64.wrap (Int.tdiv (504 : Int) n)) H1)

theorem fathomref06_Room.of {width : Int} {H : Heap} {R : Int → Heap → Prop} (h : fathomref06_Room.vc width H R) : fathomref06_Room.sp width H R :=
  specT_of_vc prog_ng prog_mixed (c := (cInt .i64)) (A := []) (args := [(.int .i64 width)]) (Eq.mpr (by kernel_rfl : vcFT (cInt .i64) Try.prog fathomref06_Room.no [] [(.int .i64 width)] H R = fathomref06_Room.vc width H R) h)

/-- fathom/fathomkit.Spoil -/
def fathomkit_Spoil.vc (l : Sl) (H : Heap) (R : Unit → Heap → Prop) : Prop :=
  LoopVC Int (0 : Int) H fun next i H1 => br (decide (i < (l.n : Int))) (optK l.a fun a => (0 ≤ i ∧ i < (l.n : Int)) ∧ st H1 (a.add (i.toNat * 1)) (.int .u64 (57005 : Int)) fun H2 => next (IntKind.i64.wrap (i + (1 : Int))) H2) (LoopVC (Sl × Int) (l, (0 : Int)) H1 fun next_1 z H3 => br (decide (z.2 < (3 : Int))) (newC H3 #[(.int .u64 (57006 : Int))] ty_uint64 fun p H4 => doT cSl Try.prog (Builtin.append_ #[ty_sl_uint64, ty_sl_uint64] ty_sl_uint64 #[z.1.v, (.slice (some p) 1 1)]) H4 fun (m : Sl) H5 => next_1 (m, IntKind.i64.wrap (z.2 + (1 : Int))) H5) (R () H3))

theorem fathomkit_Spoil.of {l : Sl} {H : Heap} {R : Unit → Heap → Prop} (h : fathomkit_Spoil.vc l H R) : fathomkit_Spoil.sp l H R :=
  specT_of_vc prog_ng prog_mixed (c := (cTup [])) (A := [(1, [(2, (cInt .i64))]), (6, [(3, cSl), (4, (cInt .i64))])]) (args := [l.v]) (Eq.mpr (by kernel_rfl : vcFT (cTup []) Try.prog fathomkit_Spoil.no [(1, [(2, (cInt .i64))]), (6, [(3, cSl), (4, (cInt .i64))])] [l.v] H R = fathomkit_Spoil.vc l H R) h)

/-- fathom/fathomkit.Kept -/
def fathomkit_Kept.vc (a : Sl) (l : Sl) (H : Heap) (R : Bool → Heap → Prop) : Prop :=
  fathomkit_SameRow.sp a l H fun (r : Bool) H1 => br r ((0 ≤ (IntKind.i64.wrap ((l.n : Int) + (1 : Int))) ∧ (IntKind.i64.wrap ((l.n : Int) + (1 : Int))) ≤ (a.c : Int)) ∧ optK (slA a.a a.c 0 1) fun a_1 => (0 ≤ (l.n : Int) ∧ (l.n : Int) < ((((IntKind.i64.wrap ((l.n : Int) + (1 : Int))).toNat) - 0 : Nat) : Int)) ∧ ld (cInt .u64) H1 (a_1.add ((l.n : Int).toNat * 1)) fun (x : Int) => R (x == (30583 : Int)) H1) (R false H1)

theorem fathomkit_Kept.of {a : Sl} {l : Sl} {H : Heap} {R : Bool → Heap → Prop} (h : fathomkit_Kept.vc a l H R) : fathomkit_Kept.sp a l H R :=
  specT_of_vc prog_ng prog_mixed (c := cBool) (A := []) (args := [a.v, l.v]) (Eq.mpr (by kernel_rfl : vcFT cBool Try.prog fathomkit_Kept.no [] [a.v, l.v] H R = fathomkit_Kept.vc a l H R) h)

/-- fathom/fathomlaw06.works -/
def fathomlaw06_works.vc  (H : Heap) (R : Bool → Heap → Prop) : Prop :=
  newC H #[(.int .u64 (258 : Int))] ty_uint64 fun p H1 => row_Put.sp (Sl.mk (some p) 1 1) H1 fun (r : Sl) H2 => row_Get.sp r (1 : Int) H2 fun (r_1 : (Sl × Int)) H3 => newC H3 #[(.int .u64 (5 : Int)), (.int .u64 (6 : Int)), (.int .u64 (7 : Int))] ty_uint64 fun p_1 H4 => newC H4 #[(.int .i64 (2 : Int)), (.int .i64 (0 : Int))] ty_int fun p_2 H5 => row_Turn.sp (Sl.mk (some p_1) 3 3) (Sl.mk (some p_2) 2 2) H5 fun (r_2 : (Sl × Int)) H6 => br (((r_1.2 == (0 : Int)) && (r_2.2 == (0 : Int))) && ((r_1.1.n : Int) == (1 : Int))) (optK r_1.1.a fun a => (0 ≤ (0 : Int) ∧ (0 : Int) < (r_1.1.n : Int)) ∧ ld cSl H6 (a.add ((0 : Int).toNat * 1)) fun (x : Sl) => br ((x.n : Int) == (1 : Int)) (optK r_1.1.a fun a_1 => (0 ≤ (0 : Int) ∧ (0 : Int) < (r_1.1.n : Int)) ∧ ld cSl H6 (a_1.add ((0 : Int).toNat * 1)) fun (x_1 : Sl) => optK x_1.a fun a_2 => (0 ≤ (0 : Int) ∧ (0 : Int) < (x_1.n : Int)) ∧ ld (cInt .u64) H6 (a_2.add ((0 : Int).toNat * 1)) fun (x_2 : Int) => br (x_2 == (258 : Int)) (newC H6 #[(.int .u64 (7 : Int)), (.int .u64 (5 : Int))] ty_uint64 fun p_3 H7 => fathomkit_SameRow.sp r_2.1 (Sl.mk (some p_3) 2 2) H7 fun (r_3 : Bool) H8 => br r_3 (newC H8 #[(.int .u64 (1 : Int))] ty_uint64 fun p_4 H9 => newC H9 #[(.int .u64 (1 : Int)), (.int .u64 (0 : Int))] ty_uint64 fun p_5 H10 => row_Cmp.sp (Sl.mk (some p_4) 1 1) (Sl.mk (some p_5) 2 2) H10 fun (r_4 : Int) H11 => br (r_4 == (-1 : Int)) (newC H11 #[(.int .u64 (1 : Int)), (.int .u64 (2 : Int))] ty_uint64 fun p_6 H12 => newC H12 #[(.int .u64 (1 : Int))] ty_uint64 fun p_7 H13 => row_Begins.sp (Sl.mk (some p_6) 2 2) (Sl.mk (some p_7) 1 1) H13 fun (r_5 : Bool) H14 => br r_5 (row_Room.sp (2 : Int) H14 fun (r_6 : Int) H15 => R (r_6 == (31 : Int)) H15) (R false H14)) (R false H11)) (R false H8)) (R false H6)) (R false H6)) (R false H6)

theorem fathomlaw06_works.of {H : Heap} {R : Bool → Heap → Prop} (h : fathomlaw06_works.vc H R) : fathomlaw06_works.sp H R :=
  specT_of_vc prog_ng prog_mixed (c := cBool) (A := []) (args := []) (Eq.mpr (by kernel_rfl : vcFT cBool Try.prog fathomlaw06_works.no [] [] H R = fathomlaw06_works.vc H R) h)

/-- fathom/row.Cmp -/
def row_Cmp.vc (a : Sl) (b : Sl) (H : Heap) (R : Int → Heap → Prop) : Prop :=
  slices_CompareFunc_sl_uint64_sl_uint64_uint64_uint64.sp a b H fun (r : Int) H1 => R r H1

theorem row_Cmp.of {a : Sl} {b : Sl} {H : Heap} {R : Int → Heap → Prop} (h : row_Cmp.vc a b H R) : row_Cmp.sp a b H R :=
  specT_of_vc prog_ng prog_mixed (c := (cInt .i64)) (A := []) (args := [a.v, b.v]) (Eq.mpr (by kernel_rfl : vcFT (cInt .i64) Try.prog row_Cmp.no [] [a.v, b.v] H R = row_Cmp.vc a b H R) h)

/-- fathom/fathomref06.Cmp -/
def fathomref06_Cmp.vc (a : Sl) (b : Sl) (H : Heap) (R : Int → Heap → Prop) : Prop :=
  LoopVC Int (0 : Int) H fun next i H1 => br ((decide (i < (a.n : Int))) && (decide (i < (b.n : Int)))) (optK a.a fun a_1 => (0 ≤ i ∧ i < (a.n : Int)) ∧ ld (cInt .u64) H1 (a_1.add (i.toNat * 1)) fun (x : Int) => optK b.a fun a_2 => (0 ≤ i ∧ i < (b.n : Int)) ∧ ld (cInt .u64) H1 (a_2.add (i.toNat * 1)) fun (x_1 : Int) => br (decide (x < x_1)) (R (-1 : Int) H1) (optK a.a fun a_3 => (0 ≤ i ∧ i < (a.n : Int)) ∧ ld (cInt .u64) H1 (a_3.add (i.toNat * 1)) fun (x_2 : Int) => optK b.a fun a_4 => (0 ≤ i ∧ i < (b.n : Int)) ∧ ld (cInt .u64) H1 (a_4.add (i.toNat * 1)) fun (x_3 : Int) => br (decide (x_2 > x_3)) (R (1 : Int) H1) (next (IntKind.i64.wrap (i + (1 : Int))) H1))) (br (decide ((a.n : Int) < (b.n : Int))) (R (-1 : Int) H1) (br (decide ((a.n : Int) > (b.n : Int))) (R (1 : Int) H1) (R (0 : Int) H1)))

theorem fathomref06_Cmp.of {a : Sl} {b : Sl} {H : Heap} {R : Int → Heap → Prop} (h : fathomref06_Cmp.vc a b H R) : fathomref06_Cmp.sp a b H R :=
  specT_of_vc prog_ng prog_mixed (c := (cInt .i64)) (A := [(2, [(5, (cInt .i64))])]) (args := [a.v, b.v]) (Eq.mpr (by kernel_rfl : vcFT (cInt .i64) Try.prog fathomref06_Cmp.no [(2, [(5, (cInt .i64))])] [a.v, b.v] H R = fathomref06_Cmp.vc a b H R) h)

/-- fathom/row.Begins -/
def row_Begins.vc (l : Sl) (p : Sl) (H : Heap) (R : Bool → Heap → Prop) : Prop :=
  br (decide ((l.n : Int) ≥ (p.n : Int))) ((0 ≤ (p.n : Int) ∧ (p.n : Int) ≤ (l.c : Int)) ∧ slices_Equal_sl_uint64_uint64.sp (Sl.mk (slA l.a l.c 0 1) (((p.n : Int).toNat) - 0) (l.c - 0)) p H fun (r : Bool) H1 => R r H1) (R false H)

theorem row_Begins.of {l : Sl} {p : Sl} {H : Heap} {R : Bool → Heap → Prop} (h : row_Begins.vc l p H R) : row_Begins.sp l p H R :=
  specT_of_vc prog_ng prog_mixed (c := cBool) (A := []) (args := [l.v, p.v]) (Eq.mpr (by kernel_rfl : vcFT cBool Try.prog row_Begins.no [] [l.v, p.v] H R = row_Begins.vc l p H R) h)

/-- fathom/fathomref06.Begins -/
def fathomref06_Begins.vc (l : Sl) (p : Sl) (H : Heap) (R : Bool → Heap → Prop) : Prop :=
  br (decide ((l.n : Int) ≥ (p.n : Int))) ((0 ≤ (p.n : Int) ∧ (p.n : Int) ≤ (l.c : Int)) ∧ fathomref06_Cmp.sp (Sl.mk (slA l.a l.c 0 1) (((p.n : Int).toNat) - 0) (l.c - 0)) p H fun (r : Int) H1 => R (r == (0 : Int)) H1) (R false H)

theorem fathomref06_Begins.of {l : Sl} {p : Sl} {H : Heap} {R : Bool → Heap → Prop} (h : fathomref06_Begins.vc l p H R) : fathomref06_Begins.sp l p H R :=
  specT_of_vc prog_ng prog_mixed (c := cBool) (A := []) (args := [l.v, p.v]) (Eq.mpr (by kernel_rfl : vcFT cBool Try.prog fathomref06_Begins.no [] [l.v, p.v] H R = fathomref06_Begins.vc l p H R) h)

/-- fathom/row.Turn -/
def row_Turn.vc (l : Sl) (cols : Sl) (H : Heap) (R : (Sl × Int) → Heap → Prop) : Prop :=
  doT cSl Try.prog (Instr.makeSlice ty_sl_uint64 (.int .i64 (0 : Int)) (.int .i64 (cols.n : Int))) H fun (out : Sl) H1 => LoopVC (Sl × Int) (out, (0 : Int)) H1 fun next z H2 => br (decide (z.2 < (cols.n : Int))) (optK cols.a fun a => (0 ≤ z.2 ∧ z.2 < (cols.n : Int)) ∧ ld (cInt .i64) H2 (a.add (z.2.toNat * 1)) fun (c : Int) => br ((decide (c < (0 : Int))) || (decide (c ≥ (l.n : Int)))) (R ((Sl.mk none 0 0), (2 : Int)) H2) (optK l.a fun a_1 => (0 ≤ c ∧ c < (l.n : Int)) ∧ ld (cInt .u64) H2 (a_1.add (c.toNat * 1)) fun (x : Int) => newC H2 #[(.int .u64 x)] ty_uint64 fun p H3 => doT cSl Try.prog (Builtin.append_ #[ty_sl_uint64, ty_sl_uint64] ty_sl_uint64 #[z.1.v, (.slice (some p) 1 1)]) H3 fun (out_1 : Sl) H4 => next (out_1, IntKind.i64.wrap (z.2 + (1 : Int))) H4)) (R (z.1, (0 : Int)) H2)

theorem row_Turn.of {l : Sl} {cols : Sl} {H : Heap} {R : (Sl × Int) → Heap → Prop} (h : row_Turn.vc l cols H R) : row_Turn.sp l cols H R :=
  specT_of_vc prog_ng prog_mixed (c := (cTup [cSl, (cInt .i64)])) (A := [(3, [(6, cSl), (14, (cInt .i64))])]) (args := [l.v, cols.v]) (Eq.mpr (by kernel_rfl : vcFT (cTup [cSl, (cInt .i64)]) Try.prog row_Turn.no [(3, [(6, cSl), (14, (cInt .i64))])] [l.v, cols.v] H R = row_Turn.vc l cols H R) h)

/-- fathom/fathomref06.Turn -/
def fathomref06_Turn.vc (l : Sl) (cols : Sl) (H : Heap) (R : (Sl × Int) → Heap → Prop) : Prop :=
  LoopVC (Sl × Int) ((Sl.mk none 0 0), (0 : Int)) H fun next z H1 => br (decide (z.2 < (cols.n : Int))) (optK cols.a fun a => (0 ≤ z.2 ∧ z.2 < (cols.n : Int)) ∧ ld (cInt .i64) H1 (a.add (z.2.toNat * 1)) fun (x : Int) => br (decide (x < (0 : Int))) (R ((Sl.mk none 0 0), (2 : Int)) H1) (optK cols.a fun a_1 => (0 ≤ z.2 ∧ z.2 < (cols.n : Int)) ∧ ld (cInt .i64) H1 (a_1.add (z.2.toNat * 1)) fun (x_1 : Int) => br (decide (x_1 ≥ (l.n : Int))) (R ((Sl.mk none 0 0), (2 : Int)) H1) (optK cols.a fun a_2 => (0 ≤ z.2 ∧ z.2 < (cols.n : Int)) ∧ ld (cInt .i64) H1 (a_2.add (z.2.toNat * 1)) fun (x_2 : Int) => optK l.a fun a_3 => (0 ≤ x_2 ∧ x_2 < (l.n : Int)) ∧ ld (cInt .u64) H1 (a_3.add (x_2.toNat * 1)) fun (x_3 : Int) => newC H1 #[(.int .u64 x_3)] ty_uint64 fun p H2 => doT cSl Try.prog (Builtin.append_ #[ty_sl_uint64, ty_sl_uint64] ty_sl_uint64 #[z.1.v, (.slice (some p) 1 1)]) H2 fun (out : Sl) H3 => next (out, IntKind.i64.wrap (z.2 + (1 : Int))) H3))) (R (z.1, (0 : Int)) H1)

theorem fathomref06_Turn.of {l : Sl} {cols : Sl} {H : Heap} {R : (Sl × Int) → Heap → Prop} (h : fathomref06_Turn.vc l cols H R) : fathomref06_Turn.sp l cols H R :=
  specT_of_vc prog_ng prog_mixed (c := (cTup [cSl, (cInt .i64)])) (A := [(3, [(6, cSl), (7, (cInt .i64))])]) (args := [l.v, cols.v]) (Eq.mpr (by kernel_rfl : vcFT (cTup [cSl, (cInt .i64)]) Try.prog fathomref06_Turn.no [(3, [(6, cSl), (7, (cInt .i64))])] [l.v, cols.v] H R = fathomref06_Turn.vc l cols H R) h)

/-- fathom/fathomkit.SameRow -/
def fathomkit_SameRow.vc (a : Sl) (b : Sl) (H : Heap) (R : Bool → Heap → Prop) : Prop :=
  br ((a.n : Int) != (b.n : Int)) (R false H) (LoopVC Int (0 : Int) H fun next i H1 => br (decide (i < (a.n : Int))) (optK a.a fun a_1 => (0 ≤ i ∧ i < (a.n : Int)) ∧ ld (cInt .u64) H1 (a_1.add (i.toNat * 1)) fun (x : Int) => optK b.a fun a_2 => (0 ≤ i ∧ i < (b.n : Int)) ∧ ld (cInt .u64) H1 (a_2.add (i.toNat * 1)) fun (x_1 : Int) => br (x != x_1) (R false H1) (next (IntKind.i64.wrap (i + (1 : Int))) H1)) (R true H1))

theorem fathomkit_SameRow.of {a : Sl} {b : Sl} {H : Heap} {R : Bool → Heap → Prop} (h : fathomkit_SameRow.vc a b H R) : fathomkit_SameRow.sp a b H R :=
  specT_of_vc prog_ng prog_mixed (c := cBool) (A := [(4, [(5, (cInt .i64))])]) (args := [a.v, b.v]) (Eq.mpr (by kernel_rfl : vcFT cBool Try.prog fathomkit_SameRow.no [(4, [(5, (cInt .i64))])] [a.v, b.v] H R = fathomkit_SameRow.vc a b H R) h)

/-- fathom/fathomkit.Pick -/
def fathomkit_Pick.vc (i : Int) (n : Int) (H : Heap) (R : Int → Heap → Prop) : Prop :=
  br (decide (n < (1 : Int))) (R (0 : Int) H) (n ≠ 0 ∧ br (decide ((Int.tmod i n) < (0 : Int))) (R (IntKind.i64.wrap ((Int.tmod i n) + n)) H) (R (Int.tmod i n) H))

theorem fathomkit_Pick.of {i : Int} {n : Int} {H : Heap} {R : Int → Heap → Prop} (h : fathomkit_Pick.vc i n H R) : fathomkit_Pick.sp i n H R :=
  specT_of_vc prog_ng prog_mixed (c := (cInt .i64)) (A := []) (args := [(.int .i64 i), (.int .i64 n)]) (Eq.mpr (by kernel_rfl : vcFT (cInt .i64) Try.prog fathomkit_Pick.no [] [(.int .i64 i), (.int .i64 n)] H R = fathomkit_Pick.vc i n H R) h)

/-- (fathom/row.word).of -/
def row_word_of.vc (b : Array Value) (n : Int) (H : Heap) (R : Array Value → Heap → Prop) : Prop :=
  newC H b ty_row_word fun p H1 => newC H1 (zc Try.prog ty_row_word) ty_row_word fun p_1 H2 => LoopVC Int (0 : Int) H2 fun next z H3 => br (decide (z < (8 : Int))) (0 ≤ (IntKind.i64.wrap ((56 : Int) - (IntKind.i64.wrap ((8 : Int) * z)))) ∧ (0 ≤ z ∧ z < ((8 : Nat) : Int)) ∧ st H3 (p.add (z.toNat * 1)) (.int .u8 (IntKind.u8.wrap (ishr .u64 n (IntKind.i64.wrap ((56 : Int) - (IntKind.i64.wrap ((8 : Int) * z))))))) fun H4 => next (IntKind.i64.wrap (z + (1 : Int))) H4) (ldA cArr 8 H3 p fun (x : Array Value) => doU Try.prog (Instr.storeAt ty_row_word (.pointer (some p_1)) (.agg x)) H3 fun H5 => ldA cArr 8 H5 p_1 fun (res : Array Value) => R res H5)

theorem row_word_of.of {b : Array Value} {n : Int} {H : Heap} {R : Array Value → Heap → Prop} (h : row_word_of.vc b n H R) : row_word_of.sp b n H R :=
  specT_of_vc prog_ng prog_mixed (c := cArr) (A := [(2, [(6, (cInt .i64))])]) (args := [(.agg b), (.int .u64 n)]) (Eq.mpr (by kernel_rfl : vcFT cArr Try.prog row_word_of.no [(2, [(6, (cInt .i64))])] [(.agg b), (.int .u64 n)] H R = row_word_of.vc b n H R) h)

/-- fathom/row.size -/
def row_size.vc (width : Int) (H : Heap) (R : Int → Heap → Prop) : Prop :=
  br (decide (width < (0 : Int))) (br (decide (width < (0 : Int))) (R (0 : Int) H) (br (width == (0 : Int)) (R (1 : Int) H) (R (IntKind.i64.wrap ((8 : Int) * width)) H))) (br (decide (width > (16 : Int))) (R (0 : Int) H) (br (width == (0 : Int)) (R (1 : Int) H) (R (IntKind.i64.wrap ((8 : Int) * width)) H)))

theorem row_size.of {width : Int} {H : Heap} {R : Int → Heap → Prop} (h : row_size.vc width H R) : row_size.sp width H R :=
  specT_of_vc prog_ng prog_mixed (c := (cInt .i64)) (A := []) (args := [(.int .i64 width)]) (Eq.mpr (by kernel_rfl : vcFT (cInt .i64) Try.prog row_size.no [] [(.int .i64 width)] H R = row_size.vc width H R) h)

/-- slices.Chunk[[]byte,byte] -/
def slices_Chunk_sl_byte_byte.vc (s : Sl) (n : Int) (H : Heap) (R : Value → Heap → Prop) : Prop :=
  newC H #[s.v] ty_sl_uint8 fun p H1 => newC H1 #[(.int .i64 n)] ty_int fun p_1 H2 => ld (cInt .i64) H2 p_1 fun (x : Int) => br (decide (x < (1 : Int))) (False) (R (.func (.func slices_Chunk_sl_byte_byte_c1.no) #[] #[(.pointer (some p)), (.pointer (some p_1))]) H2)

theorem slices_Chunk_sl_byte_byte.of {s : Sl} {n : Int} {H : Heap} {R : Value → Heap → Prop} (h : slices_Chunk_sl_byte_byte.vc s n H R) : slices_Chunk_sl_byte_byte.sp s n H R :=
  specT_of_vc prog_ng prog_mixed (c := cRaw) (A := []) (args := [s.v, (.int .i64 n)]) (Eq.mpr (by kernel_rfl : vcFT cRaw Try.prog slices_Chunk_sl_byte_byte.no [] [s.v, (.int .i64 n)] H R = slices_Chunk_sl_byte_byte.vc s n H R) h)

/-- fathom/fathomref06.size -/
def fathomref06_size.vc (width : Int) (H : Heap) (R : Int → Heap → Prop) : Prop :=
  br ((decide (width < (0 : Int))) || (decide (width > (16 : Int)))) (R (0 : Int) H) (R (if (IntKind.i64.wrap ((8 : Int) * width)) > (1 : Int) then (IntKind.i64.wrap ((8 : Int) * width)) else (1 : Int)) H)

theorem fathomref06_size.of {width : Int} {H : Heap} {R : Int → Heap → Prop} (h : fathomref06_size.vc width H R) : fathomref06_size.sp width H R :=
  specT_of_vc prog_ng prog_mixed (c := (cInt .i64)) (A := []) (args := [(.int .i64 width)]) (Eq.mpr (by kernel_rfl : vcFT (cInt .i64) Try.prog fathomref06_size.no [] [(.int .i64 width)] H R = fathomref06_size.vc width H R) h)

/-- slices.CompareFunc[[]uint64,[]uint64,uint64,uint64] -/
def slices_CompareFunc_sl_uint64_sl_uint64_uint64_uint64.vc (s1 : Sl) (s2 : Sl) (H : Heap) (R : Int → Heap → Prop) : Prop :=
  LoopVC Int (0 : Int) H fun next z H1 => br (decide (z < (s1.n : Int))) (optK s1.a fun a => (0 ≤ z ∧ z < (s1.n : Int)) ∧ ld (cInt .u64) H1 (a.add (z.toNat * 1)) fun (v1 : Int) => br (decide (z ≥ (s2.n : Int))) (R (1 : Int) H1) (optK s2.a fun a_1 => (0 ≤ z ∧ z < (s2.n : Int)) ∧ ld (cInt .u64) H1 (a_1.add (z.toNat * 1)) fun (v2 : Int) => cmp_Compare_uint64.sp v1 v2 H1 fun (c : Int) H2 => br (c != (0 : Int)) (R c H2) (next (IntKind.i64.wrap (z + (1 : Int))) H2))) (br (decide ((s1.n : Int) < (s2.n : Int))) (R (-1 : Int) H1) (R (0 : Int) H1))

theorem slices_CompareFunc_sl_uint64_sl_uint64_uint64_uint64.of {s1 : Sl} {s2 : Sl} {H : Heap} {R : Int → Heap → Prop} (h : slices_CompareFunc_sl_uint64_sl_uint64_uint64_uint64.vc s1 s2 H R) : slices_CompareFunc_sl_uint64_sl_uint64_uint64_uint64.sp s1 s2 H R :=
  specT_of_vc prog_ng prog_mixed (c := (cInt .i64)) (A := [(2, [(13, (cInt .i64))])]) (args := [s1.v, s2.v, (.func (.func cmp_Compare_uint64.no) #[] #[])]) (Eq.mpr (by kernel_rfl : vcFT (cInt .i64) Try.prog slices_CompareFunc_sl_uint64_sl_uint64_uint64_uint64.no [(2, [(13, (cInt .i64))])] [s1.v, s2.v, (.func (.func cmp_Compare_uint64.no) #[] #[])] H R = slices_CompareFunc_sl_uint64_sl_uint64_uint64_uint64.vc s1 s2 H R) h)

/-- cmp.Compare[uint64] -/
def cmp_Compare_uint64.vc (x : Int) (y : Int) (H : Heap) (R : Int → Heap → Prop) : Prop :=
  cmp_isNaN_uint64.sp x H fun (xNaN : Bool) H1 => cmp_isNaN_uint64.sp y H1 fun (yNaN : Bool) H2 => br xNaN (br yNaN (R (0 : Int) H2) (R (-1 : Int) H2)) (br yNaN (R (1 : Int) H2) (br (decide (x < y)) (R (-1 : Int) H2) (br (decide (x > y)) (R (1 : Int) H2) (R (0 : Int) H2))))

theorem cmp_Compare_uint64.of {x : Int} {y : Int} {H : Heap} {R : Int → Heap → Prop} (h : cmp_Compare_uint64.vc x y H R) : cmp_Compare_uint64.sp x y H R :=
  specT_of_vc prog_ng prog_mixed (c := (cInt .i64)) (A := []) (args := [(.int .u64 x), (.int .u64 y)]) (Eq.mpr (by kernel_rfl : vcFT (cInt .i64) Try.prog cmp_Compare_uint64.no [] [(.int .u64 x), (.int .u64 y)] H R = cmp_Compare_uint64.vc x y H R) h)

/-- slices.Equal[[]uint64,uint64] -/
def slices_Equal_sl_uint64_uint64.vc (s1 : Sl) (s2 : Sl) (H : Heap) (R : Bool → Heap → Prop) : Prop :=
  br ((s1.n : Int) != (s2.n : Int)) (R false H) (LoopVC Int (0 : Int) H fun next z H1 => br (decide (z < (s1.n : Int))) (optK s1.a fun a => (0 ≤ z ∧ z < (s1.n : Int)) ∧ ld (cInt .u64) H1 (a.add (z.toNat * 1)) fun (x : Int) => optK s2.a fun a_1 => (0 ≤ z ∧ z < (s2.n : Int)) ∧ ld (cInt .u64) H1 (a_1.add (z.toNat * 1)) fun (x_1 : Int) => br (x != x_1) (R false H1) (next (IntKind.i64.wrap (z + (1 : Int))) H1)) (R true H1))

theorem slices_Equal_sl_uint64_uint64.of {s1 : Sl} {s2 : Sl} {H : Heap} {R : Bool → Heap → Prop} (h : slices_Equal_sl_uint64_uint64.vc s1 s2 H R) : slices_Equal_sl_uint64_uint64.sp s1 s2 H R :=
  specT_of_vc prog_ng prog_mixed (c := cBool) (A := [(4, [(13, (cInt .i64))])]) (args := [s1.v, s2.v]) (Eq.mpr (by kernel_rfl : vcFT cBool Try.prog slices_Equal_sl_uint64_uint64.no [(4, [(13, (cInt .i64))])] [s1.v, s2.v] H R = slices_Equal_sl_uint64_uint64.vc s1 s2 H R) h)

/-- slices.Chunk[[]byte,byte]$1 -/
def slices_Chunk_sl_byte_byte_c1.vc (l : Nat) (cap : Addr) (cap1 : Addr) (H : Heap) (R : Unit → Heap → Prop) : Prop :=
  LoopVC Int (0 : Int) H fun next i H1 => ld cSl H1 cap fun (x : Sl) => br (decide (i < (x.n : Int))) (ld (cInt .i64) H1 cap1 fun (x_1 : Int) => ld cSl H1 cap fun (x_2 : Sl) => (0 ≤ i ∧ i ≤ (x_2.n : Int)) ∧ ld cSl H1 cap fun (x_3 : Sl) => (0 ≤ (IntKind.i64.wrap (i + (if ((x_2.n - i.toNat : Nat) : Int) < x_1 then ((x_2.n - i.toNat : Nat) : Int) else x_1))) ∧ (IntKind.i64.wrap (i + (if ((x_2.n - i.toNat : Nat) : Int) < x_1 then ((x_2.n - i.toNat : Nat) : Int) else x_1))) ≤ (x_3.c : Int)) ∧ (0 ≤ (IntKind.i64.wrap (i + (if ((x_2.n - i.toNat : Nat) : Int) < x_1 then ((x_2.n - i.toNat : Nat) : Int) else x_1))) ∧ (IntKind.i64.wrap (i + (if ((x_2.n - i.toNat : Nat) : Int) < x_1 then ((x_2.n - i.toNat : Nat) : Int) else x_1))) ≤ (IntKind.i64.wrap (i + (if ((x_2.n - i.toNat : Nat) : Int) < x_1 then ((x_2.n - i.toNat : Nat) : Int) else x_1)))) ∧ (0 ≤ i ∧ i ≤ (IntKind.i64.wrap (i + (if ((x_2.n - i.toNat : Nat) : Int) < x_1 then ((x_2.n - i.toNat : Nat) : Int) else x_1)))) ∧ YieldSpec Try.prog l #[(.slice (slA x_3.a ((IntKind.i64.wrap (i + (if ((x_2.n - i.toNat : Nat) : Int) < x_1 then ((x_2.n - i.toNat : Nat) : Int) else x_1))).toNat) i.toNat 1) ((IntKind.i64.wrap (i + (if ((x_2.n - i.toNat : Nat) : Int) < x_1 then ((x_2.n - i.toNat : Nat) : Int) else x_1))).toNat - i.toNat) ((IntKind.i64.wrap (i + (if ((x_2.n - i.toNat : Nat) : Int) < x_1 then ((x_2.n - i.toNat : Nat) : Int) else x_1))).toNat - i.toNat))] H1 fun (b : Bool) H2 => br (!b) (R () H2) (ld (cInt .i64) H2 cap1 fun (x_4 : Int) => next (IntKind.i64.wrap (i + x_4)) H2)) (R () H1)

theorem slices_Chunk_sl_byte_byte_c1.of {l : Nat} {cap : Addr} {cap1 : Addr} {H : Heap} {R : Unit → Heap → Prop} (h : slices_Chunk_sl_byte_byte_c1.vc l cap cap1 H R) : slices_Chunk_sl_byte_byte_c1.sp l cap cap1 H R :=
  specT_of_vc prog_ng prog_mixed (c := (cTup [])) (A := [(1, [(4, (cInt .i64))])]) (args := [(.func (.yield l) #[] #[]), (.pointer (some cap)), (.pointer (some cap1))]) (Eq.mpr (by kernel_rfl : vcFT (cTup []) Try.prog slices_Chunk_sl_byte_byte_c1.no [(1, [(4, (cInt .i64))])] [(.func (.yield l) #[] #[]), (.pointer (some cap)), (.pointer (some cap1))] H R = slices_Chunk_sl_byte_byte_c1.vc l cap cap1 H R) h)

/-- cmp.isNaN[uint64] -/
def cmp_isNaN_uint64.vc (x : Int) (H : Heap) (R : Bool → Heap → Prop) : Prop :=
  R (x != x) H

theorem cmp_isNaN_uint64.of {x : Int} {H : Heap} {R : Bool → Heap → Prop} (h : cmp_isNaN_uint64.vc x H R) : cmp_isNaN_uint64.sp x H R :=
  specT_of_vc prog_ng prog_mixed (c := cBool) (A := []) (args := [(.int .u64 x)]) (Eq.mpr (by kernel_rfl : vcFT cBool Try.prog cmp_isNaN_uint64.no [] [(.int .u64 x)] H R = cmp_isNaN_uint64.vc x H R) h)

end Go.Proofs.Ytndnjggcpdkbiaa
