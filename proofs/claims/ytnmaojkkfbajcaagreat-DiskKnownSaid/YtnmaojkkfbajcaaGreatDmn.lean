/-
  Pieces of DiskKnown: literal rows that are appended to.
-/
import Derived.Test.YtnmaojkkfbajcaaGreatDml
namespace Go.Proofs.YtnmaojkkfbajcaaGreat
open Go.MapKept

theorem elStep : ElT Tryz.prog ty_sl_fathomlaw01_Step ty_fathomlaw01_Step EStep.size 64 := ElT_of (by kernel_rfl)
theorem RowT.slE {α : Type} {E : Enc α} {H : Heap} {b : Nat} {t : TypeId} {cs : Array Value} {xs : List α} (h : RowT H b t cs) (e : E.all xs = cs.toList) (hl : xs.length ≤ 1000) : SlE E t H ⟨some ⟨b, 0, none⟩, xs.length, xs.length⟩ xs := by
  have hs : cs.size = xs.length * E.size := by rw [← E.all_length, e]; simp
  refine ⟨by rw [E.all_length], .inr ⟨b, xs.length, cs, rfl, Nat.zero_le _, h, Nat.le_refl _, by unfold maxLen; omega, hs, ?_⟩⟩
  rw [← hs, e]
  exact List.take_of_length_le (by simp)

def fT : ByteArray := ByteArray.mk #[102]
/-- The first file, and 'k' writes to it. -/
def manyS (k : Nat) : List StepV := (0, fT, ByteArray.empty, 0, 0, false, 0) :: (List.range k).map fun (i : Nat) => ((1 : Int), fT, ByteArray.empty, (i : Int), IntKind.u8.wrap (i : Int), false, (0 : Int))
theorem manyS_succ (k : Nat) : manyS (k + 1) = manyS k ++ [((1 : Int), fT, ByteArray.empty, (k : Int), IntKind.u8.wrap (k : Int), false, (0 : Int))] := by
  unfold manyS
  rw [List.range_succ, List.map_append]
  rfl
theorem manyS_length (k : Nat) : (manyS k).length = k + 1 := by simp [manyS]

theorem many_ok {H0 H : Heap} {sl : Sl} {X : (Sl × Int) → Heap → Prop} (h : SlE EStep ty_fathomlaw01_Step H sl (manyS 0)) (m : Mod (fun _ => False) H0 H) (fr : ∀ b, ownB sl b → H0.size ≤ b)
    (hK : ∀ s (i : Int) A, SlE EStep ty_fathomlaw01_Step A s (manyS 70) → Mod (fun _ => False) H0 A → (∀ b, ownB s b → H0.size ≤ b) → X (s, i) A) :
    LoopVC (Sl × Int) (sl, (0 : Int)) H fun next_4 z_1 H16 => br (decide (z_1.2 < (70 : Int))) (newC H16 #[(.int .i64 (1 : Int)), (.string (ByteArray.mk #[102])), (.string ByteArray.empty), (.int .i64 z_1.2), (.int .u8 (IntKind.u8.wrap z_1.2)), (.bool false), (.int .u64 (0 : Int))] ty_fathomlaw01_Step fun p_1 H17 => doT cSl Tryz.prog (Builtin.append_ #[ty_sl_fathomlaw01_Step, ty_sl_fathomlaw01_Step] ty_sl_fathomlaw01_Step #[z_1.1.v, (.slice (some p_1) 1 1)]) H17 fun (many : Sl) H18 => next_4 (many, IntKind.i64.wrap (z_1.2 + (1 : Int))) H18) (X z_1 H16) := by
  obtain ⟨N, hN⟩ : ∃ N : Nat, N = 70 := ⟨_, rfl⟩
  refine loop_upto N (fun k z A => z.2 = (k : Int) ∧ SlE EStep ty_fathomlaw01_Step A z.1 (manyS k) ∧ Mod (fun _ => False) H0 A ∧ ∀ b, ownB z.1 b → H0.size ≤ b) ⟨rfl, h, m, fr⟩ ?_
  rintro k ⟨s, i⟩ A next hk ⟨hi, o, mA, fA⟩ hnext
  simp only at hi o fA
  subst hi
  refine br_mk (fun hc => ?_) (fun hc => ?_)
  · have hlt : k < N := by have : (k : Int) < 70 := by simpa using hc
                           omega
    refine SlE.push (E := EStep) elStep (x := ((1 : Int), fT, ByteArray.empty, (k : Int), IntKind.u8.wrap (k : Int), false, (0 : Int))) o rfl (by rw [manyS_length]; omega) (by rw [manyS_length]; omega) fun s' A' o' g' _ => ?_
    rw [← manyS_succ] at o'
    have z := mA.size
    refine hnext hlt _ _ ⟨succ64 k (by omega), o', mA.grow g'.1 fA, fun b hb => ?_⟩
    rcases g'.2 b hb with q | q
    · exact fA b q
    · omega
  · have hge : k = 70 := by have : ¬ ((k : Int) < 70) := by simpa using hc
                            omega
    rw [hge] at o
    exact hK s _ A o mA fA

theorem manyS_fine {k : Nat} (hk : k ≤ 1000) : ∀ x ∈ manyS k, StepV.fine x := by
  intro x hx
  unfold manyS at hx
  rcases List.mem_cons.1 hx with rfl | hx
  · exact ⟨⟨by decide, by decide⟩, by decide⟩
  · obtain ⟨i, hi, rfl⟩ := List.mem_map.1 hx
    refine ⟨?_, ?_⟩
    · show 0 ≤ IntKind.u8.wrap (i : Int) ∧ IntKind.u8.wrap (i : Int) < 256
      unfold IntKind.wrap
      simp [IntKind.bits, IntKind.signed]
      omega
    · show (i : Int) ≤ _
      have := List.mem_range.1 hi
      omega

end Go.Proofs.YtnmaojkkfbajcaaGreat
