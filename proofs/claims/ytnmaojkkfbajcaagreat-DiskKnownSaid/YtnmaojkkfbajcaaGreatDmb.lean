/-
  A name that no file has.
-/
import Derived.Test.YtnmaojkkfbajcaaGreatDma
namespace Go.Proofs.YtnmaojkkfbajcaaGreat
open Go.MapKept

def ownN (j : Nat) : List UInt8 := [111, 119, 110] ++ List.replicate j 120
theorem ownN_inj {i j : Nat} (h : ownN i = ownN j) : i = j := by
  have := congrArg List.length h
  simp [ownN] at this; exact this
theorem own_bound {L : List (List UInt8)} {j : Nat} (h : ∀ t, t < j → ownN t ∈ L) : j ≤ L.length := by
  have h1 : ((List.range j).map ownN).Nodup := by
    refine List.Pairwise.map _ (fun a b hne e => hne (ownN_inj e)) List.nodup_range
  have h2 := h1.length_le_of_subset (l₂ := L) (by
    intro x hx
    obtain ⟨t, ht, rfl⟩ := List.mem_map.1 hx
    exact h t (List.mem_range.1 ht))
  simpa using h2
theorem own_x (j : Nat) : strB (ownN j) ++ ByteArray.mk #[120] = strB (ownN (j + 1)) := by
  apply ba_eq
  rw [strB_list (ownN (j + 1)), ByteArray.toList_eq]
  show (strB (ownN j) ++ ByteArray.mk #[120]).data.toList = _
  rw [ByteArray.data_append]
  simp [strB, ownN, List.replicate_succ']
theorem own_size (j : Nat) : (strB (ownN j)).size = j + 3 := by
  show (ownN j).toArray.size = _
  simp [ownN]

set_option maxHeartbeats 1000000 in
theorem own_ok {F : Nat → Prop} {d : Nat} {s : Dk} {H : Heap} {K : ByteArray → Heap → Prop} (h : DiskAt F H d s) (hK : ∀ j H', ownN j ∉ s.list → j ≤ s.list.length → Mod (fun _ => False) H H' → K (strB (ownN j)) H') : fathomlaw01_own.sp (at0 d) H K := by
  refine fathomlaw01_own.of ?_
  unfold fathomlaw01_own.vc
  have hll : s.list.length ≤ 4096 := by
    unfold Dk.list
    split
    · simp
    · rw [(List.mergeSort_perm _ _).length_eq]; simp; exact h.wf.files
  refine List_ok h fun l H1 o1 m1 f1 => ?_
  have hn := o1.n (by decide)
  generalize s.list = L at *
  refine loop_upto L.length (fun i z A => A = H1 ∧ z.2 = (i : Int) ∧ ∃ j, z.1 = strB (ownN j) ∧ (∀ t, t < j → ownN t ∈ L) ∧ (i ≤ j ∨ ownN j ∉ L)) ⟨rfl, rfl, 0, rfl, by simp, .inl (Nat.le_refl _)⟩ ?_
  rintro i ⟨z1, z2⟩ B next hi ⟨rfl, hz2, j, hz1, hj, hor⟩ hnext
  simp only at hz1 hz2
  subst hz1; subst hz2
  refine br_mk (fun hc => ?_) (fun hc => ?_)
  · have hlt : i < L.length := by rw [hn] at hc; simpa using hc
    refine loop_upto L.length (fun k z A => A = B ∧ z.2 = (k : Int) ∧ ∃ j', z.1 = strB (ownN j') ∧ (∀ t, t < j' → ownN t ∈ L) ∧ (j + 1 ≤ j' ∨ (j' = j ∧ ∀ q (hq : q < L.length), q < k → L[q] ≠ ownN j))) ⟨rfl, rfl, j, rfl, hj, .inr ⟨rfl, by simp⟩⟩ ?_
    rintro k ⟨y1, y2⟩ _ next1 hk ⟨rfl, hy2, j', hy1, hj', hor'⟩ hnext1
    simp only at hy1 hy2
    subst hy1; subst hy2
    have hb' := own_bound hj'
    refine br_mk (fun hc2 => ?_) (fun hc2 => ?_)
    · have hlt2 : k < L.length := by rw [hn] at hc2; simpa using hc2
      refine text_ld o1 hlt2 ?_
      refine br_mk (fun heq => ?_) (fun hne => ?_)
      · rw [strB_list, strB_list] at heq
        have heq' : L[k] = ownN j' := by simpa using heq
        refine ⟨?_, hnext1 hlt2 _ _ ⟨rfl, succ64 k (by omega), j' + 1, own_x j', fun t ht => ?_, .inl ?_⟩⟩
        · rw [own_size]
          have : (ByteArray.mk #[120]).size = 1 := rfl
          rw [this]; omega
        · rcases Nat.lt_succ_iff_lt_or_eq.1 ht with h | rfl
          · exact hj' t h
          · rw [← heq']; exact List.getElem_mem hlt2
        · rcases hor' with h | ⟨h, _⟩ <;> omega
      · rw [strB_list, strB_list] at hne
        have hne' : L[k] ≠ ownN j' := by simpa using hne
        refine hnext1 hlt2 _ _ ⟨rfl, succ64 k (by omega), j', rfl, hj', hor'.imp id fun ⟨e, hq⟩ => ⟨e, fun q hql hqk => ?_⟩⟩
        rcases Nat.lt_succ_iff_lt_or_eq.1 hqk with h | rfl
        · exact hq q hql h
        · rw [← e]; exact hne'
    · have hge : k = L.length := by
        have : ¬ ((k : Int) < (l.n : Int)) := by simpa using hc2
        omega
      refine hnext hlt _ _ ⟨rfl, succ64 i (by omega), j', rfl, hj', ?_⟩
      by_cases hin : ownN j ∈ L
      · rcases hor' with h | ⟨h, hq⟩
        · rcases hor with h2 | h2
          · exact .inl (by omega)
          · exact absurd hin h2
        · obtain ⟨q, hql, e⟩ := List.getElem_of_mem hin
          exact absurd e (hq q hql (by omega))
      · rcases hor' with h | ⟨h, hq⟩
        · exact absurd (hj' j (by omega)) hin
        · right; rw [h]; exact hin
  · have hge : i = L.length := by
      have : ¬ ((i : Int) < (l.n : Int)) := by simpa using hc
      omega
    have hb := own_bound hj
    refine hK j B (fun hin => ?_) hb m1
    rcases hor with h1 | h1
    · have := own_bound (L := L) (j := j + 1) (fun t ht => by
        rcases Nat.lt_succ_iff_lt_or_eq.1 ht with h | rfl
        · exact hj t h
        · exact hin)
      omega
    · exact h1 hin

end Go.Proofs.YtnmaojkkfbajcaaGreat
