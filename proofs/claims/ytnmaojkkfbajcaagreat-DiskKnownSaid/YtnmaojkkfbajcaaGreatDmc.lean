/-
  All pages of all files, as a text.
-/
import Derived.Test.YtnmaojkkfbajcaaGreatDmb
namespace Go.Proofs.YtnmaojkkfbajcaaGreat
open Go.MapKept

/-- All names are short. -/
def Dk.Nm (s : Dk) : Prop := ∀ f ∈ s.files, f.name.size ≤ 100

def Dk.pagesOf (s : Dk) (n : ByteArray) : List Pg := match s.open n with | (some i, _) => (s.file i).pages | (none, _) => []
def Dk.part (s : Dk) (n : List UInt8) : List UInt8 := n ++ [0] ++ (s.pagesOf (strB n)).flatMap (·.1)
def Dk.text (s : Dk) : List UInt8 := s.list.flatMap s.part

theorem Dk.len_pages (s : Dk) (n : ByteArray) : (s.len n).1 = (s.pagesOf n).length := by
  unfold Dk.len Dk.pagesOf
  split <;> simp_all
theorem Dk.read_pages {s : Dk} {n : ByteArray} {k : Nat} (h : k < (s.pagesOf n).length) : (s.read n (k : Int)).1 = ((s.pagesOf n)[k]).1 := by
  unfold Dk.read
  unfold Dk.pagesOf at h ⊢
  split at h
  · rename_i i e he
    simp only [he] at h ⊢
    rw [if_neg (by omega), Int.toNat_natCast, List.getElem?_eq_getElem h]
  · simp at h
theorem Dk.pagesOf_le {s : Dk} (hw : s.WF) (n : ByteArray) : (s.pagesOf n).length ≤ 1048576 := by
  unfold Dk.pagesOf
  split
  · rename_i i e he
    have w1 := hw.used; have w2 := hw.most; have w3 := hw.quota
    unfold Dk.open at he
    split at he
    · cases he
    · split at he
      · rename_i j hj
        cases he
        obtain ⟨f, hf, _⟩ := Dk.idx_some hj
        rw [Dk.file_eq hf]
        have := Dk.pages_le hf
        omega
      · cases he
  · simp
theorem Dk.list_size {s : Dk} (hn : s.Nm) : ∀ n ∈ s.list, n.length ≤ 100 := by
  intro n h
  unfold Dk.list at h
  split at h
  · cases h
  · rw [List.mem_mergeSort] at h
    obtain ⟨f, hf, rfl⟩ := List.mem_map.1 h
    have := hn f hf
    rw [ByteArray.toList_eq]
    simpa using this
theorem Dk.list_len {s : Dk} (hw : s.WF) : s.list.length ≤ 4096 := by
  unfold Dk.list
  split
  · simp
  · rw [(List.mergeSort_perm _ _).length_eq]; simp; exact hw.files

theorem flatMap_len {α : Type} {f : α → List UInt8} {c : Nat} : ∀ {l : List α}, (∀ x ∈ l, (f x).length ≤ c) → (l.flatMap f).length ≤ l.length * c
  | [], _ => by simp
  | x :: l, h => by
    have h1 := flatMap_len (l := l) (fun y hy => h y (List.mem_cons_of_mem _ hy))
    have h2 := h x List.mem_cons_self
    simp only [List.flatMap_cons, List.length_append, List.length_cons, Nat.succ_mul]
    omega
theorem strB_append (a b : List UInt8) : strB a ++ strB b = strB (a ++ b) := by
  apply ByteArray.ext
  rw [ByteArray.data_append]
  simp [strB]
theorem strB_size (a : List UInt8) : (strB a).size = a.length := by
  show a.toArray.size = _
  simp
theorem take_flat {α : Type} {f : α → List UInt8} {l : List α} {i : Nat} (h : i < l.length) : (l.take (i + 1)).flatMap f = (l.take i).flatMap f ++ f l[i] := by
  rw [List.take_add_one, List.getElem?_eq_getElem h, List.flatMap_append]
  simp

set_option maxHeartbeats 1000000 in
theorem files_ok {F : Nat → Prop} {d : Nat} {s : Dk} {H : Heap} {K : ByteArray → Heap → Prop} (h : DiskAt F H d s) (nm : s.Nm) (hK : ∀ H', Mod (fun _ => False) H H' → K (strB s.text) H') : fathomlaw01_files.sp (at0 d) H K := by
  refine fathomlaw01_files.of ?_
  unfold fathomlaw01_files.vc
  have hw := h.wf
  have hll := Dk.list_len hw
  have hls := Dk.list_size nm
  have hpp : ∀ n : List UInt8, ((s.pagesOf (strB n)).flatMap (·.1)).length ≤ 536870912 := fun n => by
    have h1 := flatMap_len (l := s.pagesOf (strB n)) (f := fun p : Pg => p.1) (c := 512) (fun p _ => by rw [p.2]; exact Nat.le_refl _)
    have h2 := Dk.pagesOf_le hw (strB n)
    omega
  have hpart : ∀ i, ((s.list.take i).flatMap s.part).length ≤ 4096 * 536871013 := fun i => by
    have h1 := flatMap_len (l := s.list.take i) (f := s.part) (c := 536871013) (fun n hn => by
      have h2 := hpp n
      have h3 := hls n (List.mem_of_mem_take hn)
      unfold Dk.part
      simp only [List.length_append, List.length_cons, List.length_nil]
      omega)
    have h4 : (s.list.take i).length ≤ 4096 := by simp; omega
    exact Nat.le_trans h1 (Nat.mul_le_mul_right _ h4)
  refine List_ok h fun l H1 o1 m1 f1 => ?_
  have hn := o1.n (by decide)
  have htext : s.text = s.list.flatMap s.part := rfl
  refine loop_upto s.list.length (fun i z A => z.2 = (i : Int) ∧ z.1 = strB ((s.list.take i).flatMap s.part) ∧ Mod (fun _ => False) H1 A) ⟨rfl, rfl, .refl _ _⟩ ?_
  rintro i ⟨z1, z2⟩ A next hi ⟨hz2, hz1, mA⟩ hnext
  simp only at hz1 hz2
  subst hz1; subst hz2
  have oA := o1.ext mA
  refine br_mk (fun hc => ?_) (fun hc => ?_)
  · have hlt : i < s.list.length := by rw [hn] at hc; simpa using hc
    refine text_ld oA hlt ?_
    have hA : DiskAt F A d s := h.keep fun b hb hbl => (mA.same b (by have := m1.size; omega) id).trans (m1.same b hbl id)
    refine Len_ok hA ?_
    refine text_ld oA hlt ?_
    have hp := hpart i
    have hnl := hls _ (List.getElem_mem hlt)
    have hpn := hpp s.list[i]
    have hlp := s.len_pages (strB s.list[i])
    have hz : ByteArray.mk #[0] = strB [0] := rfl
    rw [hz, strB_append, strB_append]
    simp only [strB_size, List.length_append, List.length_cons, List.length_nil]
    refine ⟨by omega, by omega, ?_⟩
    refine loop_upto (s.pagesOf (strB s.list[i])).length (fun k z B => z.2 = (k : Int) ∧ z.1 = strB ((s.list.take i).flatMap s.part ++ s.list[i] ++ [0] ++ ((s.pagesOf (strB s.list[i])).take k).flatMap (·.1)) ∧ Mod (fun _ => False) H1 B) ⟨rfl, by simp, mA⟩ ?_
    rintro k ⟨y1, y2⟩ B next1 hk ⟨hy2, hy1, mB⟩ hnext1
    simp only at hy1 hy2
    subst hy1; subst hy2
    have oB := o1.ext mB
    have hB : DiskAt F B d s := h.keep fun b hb hbl => (mB.same b (by have := m1.size; omega) id).trans (m1.same b hbl id)
    refine br_mk (fun hc2 => ?_) (fun hc2 => ?_)
    · have hlt2 : k < (s.pagesOf (strB s.list[i])).length := by
        have : (k : Int) < ((s.len (strB s.list[i])).1 : Int) := by simpa using hc2
        omega
      refine text_ld oB hlt ?_
      refine Read_ok hB fun r H5 o5 m5 f5 => ?_
      refine strB_eq (SlB_byts o5) ?_
      rw [Dk.read_pages hlt2, strB_append]
      have hk1 : (((s.pagesOf (strB s.list[i])).take k).flatMap (·.1)).length ≤ 536870912 := by
        have h1 := flatMap_len (l := (s.pagesOf (strB s.list[i])).take k) (f := fun p : Pg => p.1) (c := 512) (fun p _ => by rw [p.2]; exact Nat.le_refl _)
        have h2 := Dk.pagesOf_le hw (strB s.list[i])
        have h3 : ((s.pagesOf (strB s.list[i])).take k).length ≤ 1048576 := by simp; omega
        omega
      have hpg := ((s.pagesOf (strB s.list[i]))[k]).2
      refine ⟨?_, hnext1 hlt2 _ _ ⟨succ64 k (by have := Dk.pagesOf_le hw (strB s.list[i]); omega), ?_, mB.trans m5⟩⟩
      · simp only [strB_size, List.length_append, List.length_cons, List.length_nil]
        omega
      · simp only
        rw [take_flat hlt2, List.append_assoc _ (List.flatMap _ _)]
    · have hge : k = (s.pagesOf (strB s.list[i])).length := by
        have : ¬ ((k : Int) < ((s.len (strB s.list[i])).1 : Int)) := by simpa using hc2
        omega
      refine hnext hlt _ _ ⟨succ64 i (by omega), ?_, mB⟩
      simp only
      rw [take_flat hlt, hge, List.take_length]
      unfold Dk.part
      simp [List.append_assoc]
  · have hge : i = s.list.length := by
      have : ¬ ((i : Int) < (l.n : Int)) := by simpa using hc
      omega
    rw [hge, List.take_length, ← htext]
    exact hK A (m1.trans mA)

end Go.Proofs.YtnmaojkkfbajcaaGreat
