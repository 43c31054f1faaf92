/-
 The disk: Remove, Rename, Crash.
-/
import Derived.Test.YtkehfflpbpdokaaGreatDkc
namespace Go.Proofs.YtkehfflpbpdokaaGreat
open Go.MapKept
theorem Remove_ok {F : Nat → Prop} {d : Nat} {s : Dk} {H : Heap} {n : ByteArray} {K : Int → Heap → Prop} (h : DiskAt F H d s)
  (hK : ∀ F' H', DiskAt F' H' d (s.remove n).1 → Step F F' H H' → K (s.remove n).2 H') : ZbV.sp (at0 d) n H K := by
 have h0 := h
 obtain ⟨x, cin, kp, g, hF⟩ := h
 refine ZbV.of ?_
 unfold ZbV.vc
 have stay : ∀ e : Int, s.remove n = (s, e) → K e H := by
  intro e he
  have := hK F H (by rw [he]; exact h0) (.refl _ _)
  rw [he] at this; exact this
 refine open_ok g (fun hd => ?_) (fun hd hN => ?_) (fun i f gf hd hi hf hn hg hFl => ?_)
 ·exact stay 4 (by unfold Dk.remove; rw [hd]; rfl)
 ·exact stay 11 (by unfold Dk.remove; rw [hd, hN]; rfl)
 ·refine br_f rfl ?_
  have hr : s.remove n = s.step fun t => t.drop n := by unfold Dk.remove; rw [hd, hi]; rfl
  rw [hr] at hK
  unfold Dk.step at hK
  refine change_ok g fun cin' H3 g3 m3 s3 => ?_
  refine br_mk (fun hz => ?_) (fun hz => ?_)
  ·have hz' : s.change.2 = 0 := by simpa using hz
   rw [if_pos hz'] at hK
   rw [hz']
   have hi3 : s.change.1.idx n = some i := by unfold Dk.idx; rw [s.change_files]; exact hi
   refine drop_ok g3 (fun h1 => by rw [hi3] at h1; cases h1) fun j es' H' hj g4 m4 s4 => ?_
   obtain ⟨F', q1, q2⟩ := g4.out (x := x) (F := F) (H := H) hF ((m3.mono fun b _ e => (hF b).2 (.inl e)).trans (m4.mono fun b _ e => (hF b).2 (by rcases e with e | e; exact .inl e; exact .inr (.inl e)))) (fun b q => .inl (mem_erase_fp b q))
   exact hK F' H' q1 q2
  ·have hz' : s.change.2 ≠ 0 := by simpa using hz
   rw [if_neg hz'] at hK
   obtain ⟨F', q1, q2⟩ := g3.out (x := x) (F := F) (H := H) hF (m3.mono fun b _ e => (hF b).2 (.inl e)) (fun b q => .inl q)
   exact hK F' H3 q1 q2
end Go.Proofs.YtkehfflpbpdokaaGreat
