/-
  Both disks at once: a call of each; what they tell.
-/
import Derived.Test.YtbhddkmfhampbaaGreatDoorDlg
import Derived.Test.YtbhddkmfhampbaaGreatDoorDrf
import Derived.Test.YtbhddkmfhampbaaGreatDoorDkw
namespace Go.Proofs.YtbhddkmfhampbaaGreatDoor
open Go.MapKept

theorem Pick_ok {i n : Int} {H : Heap} {K : Int → Heap → Prop} (h2 : n ≤ 9223372036854775807)
    (hK : K (if n < 1 then 0 else i.emod n) H) : fathomkit_Pick.sp i n H K := by
  refine fathomkit_Pick.of ?_
  unfold fathomkit_Pick.vc
  refine br_mk (fun h => ?_) (fun h => ?_)
  · have : n < 1 := by simpa using h
    simpa [this] using hK
  · have hn : 1 ≤ n := by simpa using h
    refine ⟨by omega, ?_⟩
    rw [if_neg (by omega)] at hK
    refine br_mk (fun h => ?_) (fun h => ?_)
    · have hneg : i.tmod n < 0 := by simpa using h
      have e : i.emod n = i.tmod n + n := by
        rw [Int.tmod_eq_emod] at hneg ⊢
        split at hneg
        · have := Int.emod_nonneg i (show n ≠ 0 by omega)
          omega
        · rename_i h3
          rw [if_neg h3]
          have : (n.natAbs : Int) = n := by omega
          have e2 : i % n = i.emod n := rfl
          omega
      have hb1 : -n < i.tmod n := by
        rw [Int.tmod_eq_emod]
        have := Int.emod_nonneg i (show n ≠ 0 by omega)
        split <;> omega
      rw [wrap64 (by omega) (by omega), ← e]
      exact hK
    · have hpos : 0 ≤ i.tmod n := by simpa using h
      have e : i.emod n = i.tmod n := by
        rw [Int.tmod_eq_emod] at hpos ⊢
        split
        · simp; rfl
        · rename_i h3
          rw [if_neg h3] at hpos
          have := Int.emod_lt_of_pos i (show 0 < n by omega)
          have : (n.natAbs : Int) = n := by omega
          omega
      rw [← e]; exact hK

theorem SameTexts_ok {a b : Sl} {L : List (List UInt8)} {H : Heap} {K : Bool → Heap → Prop} (ha : SlE EN ty_string H a L) (hb : SlE EN ty_string H b L) (hl : L.length < 4611686018427387904) (hK : K true H) : fathomkit_SameTexts.sp a b H K := by
  refine fathomkit_SameTexts.of ?_
  unfold fathomkit_SameTexts.vc
  have an := ha.n (by decide)
  have bn := hb.n (by decide)
  refine br_f (by simp; omega) ?_
  refine loop_upto L.length (fun k i H1 => i = (k : Int) ∧ H1 = H) ⟨rfl, rfl⟩ ?_
  rintro k _ H1 next hk ⟨rfl, rfl⟩ hnext
  refine br_mk (fun hc => ?_) (fun _ => hK)
  have hlt : k < L.length := by rw [an] at hc; simpa using hc
  refine text_ld ha hlt ?_
  refine text_ld hb hlt ?_
  refine br_f (by simp) (hnext hlt _ _ ⟨succ64 k (by omega), rfl⟩)

/-- Both disks, in the blocks 'G'. -/
def Both (G : Nat → Prop) (H : Heap) (d m : Nat) (s : Dk) : Prop := ∃ F1 F2, DiskAt F1 H d s ∧ RefAt F2 H m s ∧ (∀ b, F1 b → ¬ F2 b) ∧ ∀ b, G b ↔ F1 b ∨ F2 b

theorem Both.lt {G : Nat → Prop} {H : Heap} {d m : Nat} {s : Dk} (h : Both G H d m s) : ∀ b, G b → b < H.size := by
  obtain ⟨F1, F2, h1, h2, _, hG⟩ := h
  intro b hb
  rcases (hG b).1 hb with q | q
  · exact h1.lt b q
  · exact h2.lt b q
theorem Both.keep {G : Nat → Prop} {H H' : Heap} {d m : Nat} {s : Dk} (h : Both G H d m s) (k : ∀ b, G b → b < H.size → H'[b]? = H[b]?) : Both G H' d m s := by
  obtain ⟨F1, F2, h1, h2, h3, hG⟩ := h
  exact ⟨F1, F2, h1.keep fun b hb => k b ((hG b).2 (.inl hb)), h2.keep fun b hb => k b ((hG b).2 (.inr hb)), h3, hG⟩
theorem Both.wf {G : Nat → Prop} {H : Heap} {d m : Nat} {s : Dk} (h : Both G H d m s) : s.WF := by
  obtain ⟨F1, F2, h1, _⟩ := h; exact h1.wf

/-- One call of each. -/
theorem both_step {G : Nat → Prop} {H : Heap} {d m : Nat} {s : Dk} (s' : Dk) (h : Both G H d m s) : ∃ F1 F2, DiskAt F1 H d s ∧ RefAt F2 H m s ∧ (∀ b, F1 b → G b) ∧ (∀ b, F2 b → G b) ∧ (∀ F1' H1, DiskAt F1' H1 d s' → Step F1 F1' H H1 → RefAt F2 H1 m s ∧
    (∀ F2' H2, RefAt F2' H2 m s' → Step F2 F2' H1 H2 → ∃ G', Both G' H2 d m s' ∧ Step G G' H H2)) := by
  obtain ⟨F1, F2, h1, h2, h3, hG⟩ := h
  refine ⟨F1, F2, h1, h2, fun b hb => (hG b).2 (.inl hb), fun b hb => (hG b).2 (.inr hb), fun F1' H1 a1 t1 => ⟨h2.keep fun b hb hl => t1.mod.same b hl fun h => h3 b h hb, fun F2' H2 a2 t2 => ?_⟩⟩
  have l2 := h2.lt
  have l1' := a1.lt
  have dj : ∀ b, F1' b → ¬ F2 b := fun b hb hf => by
    rcases t1.own b hb with q | q
    · exact h3 b q hf
    · have := l2 b hf; omega
  refine ⟨fun b => F1' b ∨ F2' b, ⟨F1', F2', a1.keep fun b hb hl => t2.mod.same b hl (dj b hb), a2, fun b hb hf => ?_, fun _ => Iff.rfl⟩, ?_, ?_⟩
  · rcases t2.own b hf with q | q
    · exact dj b hb q
    · have := l1' b hb; omega
  · have z := t1.mod.size
    exact (t1.mod.mono fun b _ e => (hG b).2 (.inl e)).trans (t2.mod.mono fun b _ e => (hG b).2 (.inr e))
  · have z := t1.mod.size
    rintro b (q | q)
    · exact (t1.own b q).imp (fun q => (hG b).2 (.inl q)) id
    · exact (t2.own b q).imp (fun q => (hG b).2 (.inr q)) (fun q => by omega)

/-! ### How many writes are unsynced -/

def Dk.play (s : Dk) (r : Int) (x1 x2 : ByteArray) (x3 x4 : Int) (x5 : Bool) (x6 : Int) : Dk :=
  if r = 0 then (s.create x1).1 else if r = 1 then (s.write x1 x3 (fillB x4 x5)).1 else if r = 2 then s else if r = 3 then s else if r = 4 then (s.sync x1).1 else if r = 5 then (s.rename x1 x2).1
  else if r = 6 then (s.remove x1).1 else if r = 7 then s.setCrash x3 x6 else s.restart
theorem Dk.play_logs (s : Dk) (r : Int) (x1 x2 : ByteArray) (x3 x4 : Int) (x5 : Bool) (x6 : Int) : (s.play r x1 x2 x3 x4 x5 x6).logs ≤ s.logs + 1 := by
  unfold Dk.play
  repeat' split
  · have := s.create_logs x1; omega
  · exact s.write_logs _ _ _
  · omega
  · omega
  · have := s.sync_logs x1; omega
  · have := s.rename_logs x1 x2; omega
  · have := s.remove_logs x1; omega
  · have := s.setCrash_logs x3 x6; omega
  · have := s.restart_logs; omega

theorem Step.pre {G G' : Nat → Prop} {A B C : Heap} (h : Mod (fun _ => False) A B) (k : Step G G' B C) : Step G G' A C := (⟨Ext.mod h, fun _ q => .inl q⟩ : Step G G A B).trans k

end Go.Proofs.YtbhddkmfhampbaaGreatDoor
