/-
  The pages of all files together.
-/
import Derived.Test.YtnmaojkkfbajcaaGreatDmc
namespace Go.Proofs.YtnmaojkkfbajcaaGreat
open Go.MapKept

def Dk.total (s : Dk) : Nat := (s.list.map fun n => (s.pagesOf (strB n)).length).sum

theorem strB_toL (n : ByteArray) : strB n.toList = n := by
  apply ba_eq; rw [strB_list]
theorem Dk.pagesOf_name {s : Dk} (hw : s.WF) (hd : s.down = false) {f : Fl} (hf : f ∈ s.files) : s.pagesOf f.name = f.pages ∧ (s.len f.name).2 = 0 := by
  obtain ⟨i, hi⟩ := List.mem_iff_getElem?.1 hf
  unfold Dk.pagesOf Dk.len Dk.open
  rw [hd, Dk.idx_eq hw hi]
  simp [Dk.file_eq hi]
theorem Dk.total_eq {s : Dk} (hw : s.WF) (hd : s.down = false) : s.total = s.used := by
  unfold Dk.total Dk.list
  rw [hd]
  have p := List.mergeSort_perm (s.files.map fun f => f.name.toList) fun x y => decide (x ≤ y)
  have p2 := (p.map fun n => (s.pagesOf (strB n)).length).sum_nat
  simp only [Bool.false_eq_true, if_false]
  rw [p2, List.map_map]
  unfold Dk.used
  congr 1
  refine List.map_congr_left fun f hf => ?_
  show (s.pagesOf (strB f.name.toList)).length = _
  rw [strB_toL, (Dk.pagesOf_name hw hd hf).1]
theorem Dk.total_down {s : Dk} (hd : s.down = true) : s.total = 0 := by
  unfold Dk.total Dk.list; rw [hd]; rfl
theorem Dk.list_ok {s : Dk} (hw : s.WF) : ∀ n ∈ s.list, (s.len (strB n)).2 = 0 := by
  intro n h
  unfold Dk.list at h
  split at h
  · cases h
  · rename_i hd
    rw [List.mem_mergeSort] at h
    obtain ⟨f, hf, rfl⟩ := List.mem_map.1 h
    rw [strB_toL]
    exact (Dk.pagesOf_name hw (by simpa using hd) hf).2
theorem Dk.list_rises {s : Dk} (hw : s.WF) {i : Nat} (h : i + 1 < s.list.length) : s.list[i] < s.list[i + 1] := by
  have hp : s.list.Pairwise (· ≤ ·) ∧ s.list.Nodup := by
    unfold Dk.list
    split
    · simp
    · refine ⟨?_, (List.mergeSort_perm _ _).nodup_iff.2 hw.nodup⟩
      have := List.pairwise_mergeSort (le := fun x y : List UInt8 => decide (x ≤ y)) (fun a b c h1 h2 => by simp only [decide_eq_true_eq] at *; exact List.le_trans h1 h2) (fun a b => by simp; exact List.le_total a b) (s.files.map fun f => f.name.toList)
      exact this.imp fun h => by simpa using h
  have h1 := List.pairwise_iff_getElem.1 hp.1 i (i + 1) (by omega) h (by omega)
  have h2 : s.list[i] ≠ s.list[i + 1] := List.pairwise_iff_getElem.1 hp.2 i (i + 1) (by omega) h (by omega)
  by_cases h3 : s.list[i] < s.list[i + 1]
  · exact h3
  · exact absurd (List.le_antisymm h1 (List.not_lt.1 h3)) h2

theorem sum_take {f : List UInt8 → Nat} {l : List (List UInt8)} {i : Nat} (h : i < l.length) : ((l.take (i + 1)).map f).sum = ((l.take i).map f).sum + f l[i] := by
  rw [List.take_add_one, List.getElem?_eq_getElem h, List.map_append, List.sum_append]
  simp
theorem sum_bound {α : Type} {f : α → Nat} {c : Nat} : ∀ {l : List α}, (∀ x ∈ l, f x ≤ c) → (l.map f).sum ≤ l.length * c
  | [], _ => by simp
  | x :: l, h => by
    have h1 := sum_bound (l := l) (fun y hy => h y (List.mem_cons_of_mem _ hy))
    have h2 := h x List.mem_cons_self
    simp only [List.map_cons, List.sum_cons, List.length_cons, Nat.succ_mul]
    omega

set_option maxHeartbeats 1000000 in
theorem pages_ok {F : Nat → Prop} {d : Nat} {s : Dk} {H : Heap} {K : Int → Heap → Prop} (h : DiskAt F H d s) (hK : ∀ H', Mod (fun _ => False) H H' → K s.total H') : fathomlaw01_pages.sp (at0 d) H K := by
  refine fathomlaw01_pages.of ?_
  unfold fathomlaw01_pages.vc
  have hw := h.wf
  have hll := Dk.list_len hw
  have hb : ∀ i, ((s.list.take i).map fun n => (s.pagesOf (strB n)).length).sum ≤ 4096 * 1048576 := fun i => by
    have h1 := sum_bound (l := s.list.take i) (f := fun n => (s.pagesOf (strB n)).length) (c := 1048576) (fun n _ => Dk.pagesOf_le hw _)
    have h4 : (s.list.take i).length ≤ 4096 := by simp; omega
    exact Nat.le_trans h1 (Nat.mul_le_mul_right _ h4)
  refine List_ok h fun l H1 o1 m1 f1 => ?_
  have hn := o1.n (by decide)
  have h1 : DiskAt F H1 d s := h.keep fun b hb hbl => m1.same b hbl id
  refine loop_upto s.list.length (fun i z A => A = H1 ∧ z.2 = (i : Int) ∧ z.1 = ((((s.list.take i).map fun n => (s.pagesOf (strB n)).length).sum : Nat) : Int)) ⟨rfl, rfl, rfl⟩ ?_
  rintro i ⟨z1, z2⟩ A next hi ⟨rfl, hz2, hz1⟩ hnext
  simp only at hz1 hz2
  subst hz1; subst hz2
  refine br_mk (fun hc => ?_) (fun hc => ?_)
  · have hlt : i < s.list.length := by rw [hn] at hc; simpa using hc
    refine text_ld o1 hlt ?_
    refine Len_ok h1 ?_
    have hbi := hb (i + 1)
    have hlp := s.len_pages (strB s.list[i])
    have hst := sum_take (f := fun n => (s.pagesOf (strB n)).length) hlt
    have go : next (IntKind.i64.wrap (((((s.list.take i).map fun n => (s.pagesOf (strB n)).length).sum : Nat) : Int) + ((s.len (strB s.list[i])).1 : Int)), IntKind.i64.wrap ((i : Int) + 1)) A := by
      refine hnext hlt _ _ ⟨rfl, succ64 i (by omega), ?_⟩
      simp only
      rw [wrap64 (by omega) (by omega)]
      omega
    refine br_t (by simp [Dk.list_ok hw _ (List.getElem_mem hlt)]) ?_
    refine br_mk (fun hp => ?_) (fun _ => go)
    have hi0 : 0 < i := by simpa using hp
    have e : IntKind.i64.wrap ((i : Int) - 1) = ((i - 1 : Nat) : Int) := by
      rw [wrap64 (by omega) (by omega)]; omega
    simp only [e]
    refine text_ld o1 (i := i - 1) (by omega) ?_
    refine text_ld o1 hlt ?_
    refine br_f ?_ go
    rw [strB_list, strB_list, bytesLess_eq]
    have := Dk.list_rises hw (i := i - 1) (by omega)
    have e2 : i - 1 + 1 = i := by omega
    simp only [e2] at this
    simpa using this
  · have hge : i = s.list.length := by
      have : ¬ ((i : Int) < (l.n : Int)) := by simpa using hc
      omega
    rw [hge, List.take_length]
    exact hK A m1

end Go.Proofs.YtnmaojkkfbajcaaGreat
