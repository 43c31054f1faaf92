/-
  Pieces of DiskKnown: seventy writes, a crash, what is kept.
-/
import Derived.Test.YtnmaojkkfbajcaaGreatDmn
namespace Go.Proofs.YtnmaojkkfbajcaaGreat
open Go.MapKept

def tailS (keep : Int) : List StepV := [(7, ByteArray.empty, ByteArray.empty, 0, 0, false, keep), (4, fT, ByteArray.empty, 0, 0, false, 0), (8, ByteArray.empty, ByteArray.empty, 0, 0, false, 0), (3, fT, ByteArray.empty, 0, 0, false, 0)]
theorem tailS_fine (keep : Int) : ∀ x ∈ tailS keep, StepV.fine x := by
  intro x hx
  simp only [tailS, List.mem_cons, List.not_mem_nil, or_false] at hx
  rcases hx with rfl | rfl | rfl | rfl <;> exact ⟨⟨by simp, by simp⟩, by simp⟩

set_option maxHeartbeats 1000000 in
theorem keeps_ok {H0 H : Heap} {p_2 : Addr} {s : Sl} {R : Bool → Heap → Prop} {X : Heap → Prop} (hs : SlE EStep ty_fathomlaw01_Step H0 s (manyS 70)) (m : Mod (fun _ => False) H0 H)
    (hp : ∀ k, k < 4 → ∃ keep : Int, ∀ A, Mod (fun _ => False) H0 A → hCell A (p_2.add (k * 1)) = some (.int .u64 keep)) (hK : ∀ A, Mod (fun _ => False) H0 A → X A) :
    LoopVC Int (0 : Int) H fun next_5 z_2 H20 => br (decide (z_2 < (4 : Int))) ((0 ≤ z_2 ∧ z_2 < (4 : Int)) ∧ ld (cInt .u64) H20 (p_2.add (z_2.toNat * 1)) fun (keep : Int) => doT cSl Tryz.prog (Builtin.append_ #[ty_sl_fathomlaw01_Step, ty_sl_fathomlaw01_Step] ty_sl_fathomlaw01_Step #[(.slice none 0 0), s.v]) H20 fun (l : Sl) H21 => newC H21 #[(.int .i64 (7 : Int)), (.string ByteArray.empty), (.string ByteArray.empty), (.int .i64 (0 : Int)), (.int .u8 (0 : Int)), (.bool false), (.int .u64 keep), (.int .i64 (4 : Int)), (.string (ByteArray.mk #[102])), (.string ByteArray.empty), (.int .i64 (0 : Int)), (.int .u8 (0 : Int)), (.bool false), (.int .u64 (0 : Int)), (.int .i64 (8 : Int)), (.string ByteArray.empty), (.string ByteArray.empty), (.int .i64 (0 : Int)), (.int .u8 (0 : Int)), (.bool false), (.int .u64 (0 : Int)), (.int .i64 (3 : Int)), (.string (ByteArray.mk #[102])), (.string ByteArray.empty), (.int .i64 (0 : Int)), (.int .u8 (0 : Int)), (.bool false), (.int .u64 (0 : Int))] ty_fathomlaw01_Step fun p_3 H22 => doT cSl Tryz.prog (Builtin.append_ #[ty_sl_fathomlaw01_Step, ty_sl_fathomlaw01_Step] ty_sl_fathomlaw01_Step #[l.v, (.slice (some p_3) 4 4)]) H22 fun (l_1 : Sl) H23 => fathomlaw01_DiskPlays.sp (100 : Int) l_1 H23 fun (r_7 : Bool) H24 => br (!r_7) (R false H24) (next_5 (IntKind.i64.wrap (z_2 + (1 : Int))) H24)) (X H20) := by
  have hn := hs.n (by decide)
  rw [manyS_length] at hn
  refine loop_upto 4 (fun k z A => z = (k : Int) ∧ Mod (fun _ => False) H0 A) ⟨rfl, m⟩ ?_
  rintro k _ A next hk ⟨rfl, mA⟩ hnext
  refine br_mk (fun hc => ?_) (fun _ => hK A mA)
  have hlt : k < 4 := by have : (k : Int) < 4 := by simpa using hc
                         omega
  obtain ⟨keep, hkp⟩ := hp k hlt
  refine ⟨⟨by omega, by omega⟩, keep, hkp A mA, ?_⟩
  have oA : SlE EStep ty_fathomlaw01_Step A s (manyS 70) := Owns.ext hs mA
  refine SlE.append (E := EStep) elStep (s := Sl.mk none 0 0) (x := s) (l := []) (r := manyS 70) (SlE.nil _ _ _) oA.rd (by rw [manyS_length]; exact hn) (by simp [manyS_length]) (by simp [manyS_length]) fun l A1 o1 g1 _ => ?_
  have f1 : ∀ b, ownB l b → A.size ≤ b := fun b hb => (g1.2 b hb).resolve_left (by rintro ⟨ad, q, _⟩; cases q)
  have m1 : Mod (fun _ => False) A A1 := g1.1.mono fun b _ hb => by obtain ⟨ad, q, _⟩ := hb; cases q
  refine newC_rowT fun A2 z2 r2 m2 => ?_
  have o2 : SlE EStep ty_fathomlaw01_Step A2 l ([] ++ manyS 70) := Owns.ext o1 m2
  refine SlE.append (E := EStep) elStep (s := l) (x := Sl.mk (some ⟨A1.size, 0, none⟩) 4 4) (r := tailS keep) o2 (RowT.rdE r2 rfl) rfl (by simp [manyS_length, tailS]) (by simp [manyS_length, tailS]) fun l1 A3 o3 g3 _ => ?_
  have m3 : Mod (fun _ => False) A A3 := (m1.trans m2).grow g3.1 f1
  have o3n := o3.n (by decide)
  refine DiskPlays_ok (by omega) o3.rd o3n ?_ fun A4 e4 => br_f rfl (hnext hlt _ _ ⟨succ64 k (by omega), (mA.trans m3).trans e4⟩)
  intro x hx
  rcases List.mem_append.1 hx with q | q
  · exact manyS_fine (k := 70) (by omega) x (by simpa using q)
  · exact tailS_fine keep x q

end Go.Proofs.YtnmaojkkfbajcaaGreat
