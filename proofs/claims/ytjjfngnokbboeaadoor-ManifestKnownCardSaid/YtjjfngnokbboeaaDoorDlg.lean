/-
  The disk in plain words: how many writes are not synced.
-/
import Derived.Test.YtjjfngnokbboeaaDoorDkb
namespace Go.Proofs.YtjjfngnokbboeaaDoor

theorem Dk.change_logs (s : Dk) : s.change.1.logs = s.logs := by unfold Dk.logs; rw [s.change_files]
theorem Dk.step_logs {s : Dk} {f : Dk → Dk} {n : Nat} (h : ∀ t : Dk, t.files = s.files → (f t).logs ≤ n) (h0 : s.logs ≤ n) : (s.step f).1.logs ≤ n := by
  unfold Dk.step
  split
  · exact h _ s.change_files
  · show s.change.1.logs ≤ n
    rw [s.change_logs]; exact h0
theorem Dk.logs_eq {s t : Dk} (h : t.files = s.files) : t.logs = s.logs := by unfold Dk.logs; rw [h]
theorem Dk.create_logs (s : Dk) (n : ByteArray) : (s.create n).1.logs ≤ s.logs := by
  unfold Dk.create
  split
  · exact Nat.le_refl _
  · split
    · exact Nat.le_refl _
    · split
      · exact Nat.le_refl _
      · split
        · exact Nat.le_refl _
        · refine Dk.step_logs (fun t ht => ?_) (Nat.le_refl _)
          unfold Dk.logs
          simp [ht]
theorem Dk.drop_logs (s : Dk) (n : ByteArray) : (s.drop n).logs ≤ s.logs := by
  unfold Dk.drop
  split
  · rename_i i hi
    obtain ⟨f, hf, _⟩ := Dk.idx_some hi
    have := sum_erase (fun f : Fl => f.log.length) s.files i f hf
    unfold Dk.logs
    simp only
    omega
  · exact Nat.le_refl _
theorem Dk.setName_logs (s : Dk) (n m : ByteArray) : (s.setName n m).logs = s.logs := by
  unfold Dk.setName
  split
  · rename_i i hi
    obtain ⟨f, hf, _⟩ := Dk.idx_some hi
    have := sum_modify (fun f : Fl => f.log.length) (fun f => { f with name := m }) s.files i f hf
    unfold Dk.logs
    simp only at this ⊢
    omega
  · rfl
theorem Dk.rename_logs (s : Dk) (n m : ByteArray) : (s.rename n m).1.logs ≤ s.logs := by
  unfold Dk.rename
  split
  · exact Nat.le_refl _
  · split
    · exact Nat.le_refl _
    · split
      · exact Nat.le_refl _
      · refine Dk.step_logs (fun t ht => ?_) (Nat.le_refl _)
        split
        · rw [Dk.logs_eq ht]; exact Nat.le_refl _
        · rw [Dk.setName_logs]
          exact Nat.le_trans (t.drop_logs m) (by rw [Dk.logs_eq ht]; exact Nat.le_refl _)
theorem Dk.remove_logs (s : Dk) (n : ByteArray) : (s.remove n).1.logs ≤ s.logs := by
  unfold Dk.remove
  split
  · exact Nat.le_refl _
  · split
    · exact Nat.le_refl _
    · exact Dk.step_logs (fun t ht => Nat.le_trans (t.drop_logs n) (by rw [Dk.logs_eq ht]; exact Nat.le_refl _)) (Nat.le_refl _)
theorem Dk.write_logs (s : Dk) (n : ByteArray) (p : Int) (b : List UInt8) : (s.write n p b).1.logs ≤ s.logs + 1 := by
  unfold Dk.write
  split
  · exact Nat.le_succ _
  · split
    · split
      · exact Nat.le_succ _
      · rename_i i hi
        split
        · exact Nat.le_succ _
        · split
          · exact Nat.le_succ _
          · refine Dk.step_logs (fun t ht => ?_) (Nat.le_succ _)
            obtain ⟨f, hf, _⟩ := Dk.idx_some hi
            rw [← ht] at hf
            show ((t.files.modify i _).map fun f => f.log.length).sum ≤ _
            have := sum_modify (fun f : Fl => f.log.length) (fun f => { f with log := f.log ++ [⟨t.next, p.toNat, ⟨b, by assumption⟩⟩] }) t.files i f hf
            have h3 : (t.files.map fun f => f.log.length).sum = s.logs := by rw [ht]; rfl
            simp only [List.length_append, List.length_cons, List.length_nil] at this
            omega
    · exact Nat.le_succ _
theorem Dk.sync_logs (s : Dk) (n : ByteArray) : (s.sync n).1.logs ≤ s.logs := by
  unfold Dk.sync
  split
  · exact Nat.le_refl _
  · split
    · exact Nat.le_refl _
    · rename_i i hi
      refine Dk.step_logs (fun t ht => ?_) (Nat.le_refl _)
      obtain ⟨f, hf, _⟩ := Dk.idx_some hi
      rw [← ht] at hf
      show ((t.files.modify i _).map fun f => f.log.length).sum ≤ _
      have := sum_modify (fun f : Fl => f.log.length) (fun f => { f with synced := f.pages, log := [] }) t.files i f hf
      have h3 : (t.files.map fun f => f.log.length).sum = s.logs := by rw [ht]; rfl
      simp only [List.length_nil] at this
      omega
theorem Dk.restart_logs (s : Dk) : s.restart.logs ≤ s.logs := by
  unfold Dk.restart
  split
  · unfold Dk.logs
    simp only [List.map_map]
    refine sum_map_le _ _ _ fun f _ => ?_
    show ([] : List Wr).length ≤ _
    exact Nat.zero_le _
  · exact Nat.le_refl _
theorem Dk.setCrash_logs (s : Dk) (i k : Int) : (s.setCrash i k).logs = s.logs := by
  unfold Dk.setCrash; split <;> rfl

end Go.Proofs.YtjjfngnokbboeaaDoor
