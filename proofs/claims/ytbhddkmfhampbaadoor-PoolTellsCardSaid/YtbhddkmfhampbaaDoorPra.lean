/-
  The pool in plain words: a flush, page by page; what stays of bounds.
-/
import Derived.Test.YtbhddkmfhampbaaDoorPkj
namespace Go.Proofs.YtbhddkmfhampbaaDoor

theorem map_modify_all {α β : Type} (f : α → β) (u : α → α) (hu : ∀ x, f (u x) = f x) : ∀ (l : List α) (i : Nat), (l.modify i u).map f = l.map f
  | [], i => by simp
  | a :: l, 0 => by simp [hu]
  | a :: l, i + 1 => by simp [map_modify_all f u hu l i]
theorem Pl.find_same {p q : Pl} (h : q.fs.map Fr.key = p.fs.map Fr.key) (n : ByteArray) (k : Int) : q.find n k = p.find n k := by
  have e : ∀ r : Pl, r.find n k = (r.fs.map Fr.key).findIdx? fun x => x.1.toList == n.toList && decide ((x.2 : Int) = k) := by
    intro r
    rw [List.findIdx?_map]
    rfl
  rw [e, e, h]
theorem Pl.put_keys (p : Pl) (i : Nat) : (p.put i).1.fs.map Fr.key = p.fs.map Fr.key := by
  unfold Pl.put
  split
  · show (p.fs.modify i Fr.clean).map Fr.key = _
    exact map_modify_all Fr.key Fr.clean (fun _ => rfl) _ _
  · rfl
theorem Pl.flushL_skip {n : ByteArray} : ∀ (l : List Nat) (p : Pl), Pl.flushL n (l.filter fun k : Nat => (p.find n k).isSome) p = Pl.flushL n l p
  | [], p => rfl
  | k :: l, p => by
    rw [List.filter_cons]
    cases hf : p.find n k with
    | none =>
      rw [if_neg (by simp), Pl.flushL_skip l p]
      conv => rhs; unfold Pl.flushL
      rw [hf]
    | some i =>
      rw [show (some i).isSome = true from rfl, if_pos rfl]
      conv => lhs; unfold Pl.flushL
      conv => rhs; unfold Pl.flushL
      rw [hf]
      simp only
      have e : (l.filter fun k : Nat => (p.find n k).isSome) = l.filter fun k : Nat => ((p.put i).1.find n k).isSome := List.filter_congr fun j _ => by rw [Pl.find_same (p.put_keys i)]
      split
      · split
        · rw [e]; exact Pl.flushL_skip l _
        · rfl
      · exact Pl.flushL_skip l p
theorem Pl.pagesOf_range {p : Pl} (hw : p.WF) (hfit : p.Fit) {n : ByteArray} (hl : (p.d.len n).2 = 0) : p.pagesOf n = (List.range (p.d.len n).1).filter fun k : Nat => (p.find n k).isSome := by
  refine nat_sorted_eq ?_ ?_ ?_
  · rw [List.perm_ext_iff_of_nodup]
    · intro k
      unfold Pl.pagesOf
      rw [List.mem_mergeSort, List.mem_map, List.mem_filter, List.mem_range]
      constructor
      · rintro ⟨f, hf, rfl⟩
        rw [List.mem_filter] at hf
        have hn : f.name = n := ba_eq (by simpa using hf.2)
        obtain ⟨i, hi⟩ := List.mem_iff_getElem?.1 hf.1
        refine ⟨?_, ?_⟩
        · rw [Dk.len_size hl, ← hn]; exact hfit f hf.1
        · rw [← hn, Pl.find_eq hw hi]; rfl
      · rintro ⟨_, h2⟩
        obtain ⟨i, hi⟩ := Option.isSome_iff_exists.1 h2
        obtain ⟨f, h3, h4, h5⟩ := Pl.find_some hi
        exact ⟨f, List.mem_filter.2 ⟨List.mem_of_getElem? h3, by rw [h4]; simp⟩, by omega⟩
    · unfold Pl.pagesOf
      refine (List.mergeSort_perm _ _).symm.nodup ?_
      have h1 : ((p.fs.filter fun f => f.name.toList == n.toList).map Fr.key).Nodup := (List.filter_sublist.map Fr.key).nodup hw.keys
      unfold List.Nodup at h1 ⊢
      rw [List.pairwise_map] at h1 ⊢
      refine List.Pairwise.imp_of_mem (fun {a b} ha hb hne e => hne ?_) h1
      rw [List.mem_filter] at ha hb
      have e1 : a.name = n := ba_eq (by simpa using ha.2)
      have e2 : b.name = n := ba_eq (by simpa using hb.2)
      unfold Fr.key; rw [e1, e2, e]
    · exact List.nodup_range.sublist List.filter_sublist
  · unfold Pl.pagesOf
    have := List.pairwise_mergeSort (le := fun a b : Nat => decide (a ≤ b)) (fun _ _ _ h1 h2 => by simp at *; omega) (fun _ _ => by simp; omega) ((p.fs.filter fun f => f.name.toList == n.toList).map (·.page))
    exact this.imp fun h => by simpa using h
  · exact (List.pairwise_le_range).sublist List.filter_sublist
theorem Pl.flushL_range {p : Pl} (hw : p.WF) (hfit : p.Fit) {n : ByteArray} (hl : (p.d.len n).2 = 0) : Pl.flushL n (p.pagesOf n) p = Pl.flushL n (List.range (p.d.len n).1) p := by
  rw [Pl.pagesOf_range hw hfit hl, Pl.flushL_skip]

/-! ### Writes, handles -/

theorem Pl.met_d (p : Pl) (e : Int) : (p.met e).d = p.d ∧ (p.met e).fs = p.fs ∧ (p.met e).next = p.next ∧ (p.met e).most = p.most := by
  unfold Pl.met; split <;> exact ⟨rfl, rfl, rfl, rfl⟩
theorem Pl.load_fst (p : Pl) (n : ByteArray) (k : Int) : (p.load n k).1 = p ∨ (p.load n k).1 = p.room.1 := by
  unfold Pl.load
  split
  · exact .inl rfl
  · split
    · exact .inl rfl
    · split
      · exact .inr rfl
      · split
        · exact .inr rfl
        · split <;> exact .inr rfl
theorem Pl.pin_logs (p : Pl) (n : ByteArray) (k : Int) : (p.pin n k).1.d.logs ≤ p.d.logs + 1 := by
  unfold Pl.pin
  split
  · exact Nat.le_succ _
  · split
    · exact Nat.le_succ _
    · have h : (p.load n k).1.d.logs ≤ p.d.logs + 1 := by
        rcases p.load_fst n k with e | e
        · rw [e]; exact Nat.le_succ _
        · rw [e]; exact p.room_logs
      split
      · rename_i q f e he; rw [he] at h; exact h
      · rename_i q e he; rw [he] at h; show (q.met e).d.logs ≤ _; rw [(q.met_d e).1]; exact h
theorem Pl.fresh_logs (p : Pl) (n : ByteArray) : (p.fresh n).1.d.logs ≤ p.d.logs + 2 := by
  have hr := p.room_logs
  have hw := p.room.1.d.write_logs n (p.d.len n).1 (sealP 0 [])
  unfold Pl.fresh
  split
  · show p.d.logs ≤ _; omega
  · split
    · show (p.met _).d.logs ≤ _; rw [(p.met_d _).1]; omega
    · split
      · show (p.room.1.met _).d.logs ≤ _; rw [(p.room.1.met_d _).1]; omega
      · split
        · show ((p.room.1.setD _).met _).d.logs ≤ _
          rw [((p.room.1.setD _).met_d _).1]
          show (p.room.1.d.write _ _ _).1.logs ≤ _; omega
        · show (p.room.1.d.write _ _ _).1.logs ≤ _; omega
theorem Pl.flushL_logs {n : ByteArray} : ∀ (l : List Nat) (p : Pl), (Pl.flushL n l p).1.d.logs ≤ p.d.logs + l.length
  | [], p => Nat.le_refl _
  | k :: l, p => by
    unfold Pl.flushL
    have hp := fun i => p.put_logs i
    split
    · rename_i i hi
      have := hp i
      split
      · split
        · have := Pl.flushL_logs (n := n) l (p.put i).1
          simp only [List.length_cons]; omega
        · simp only [List.length_cons]; omega
      · have := Pl.flushL_logs (n := n) l p
        simp only [List.length_cons]; omega
    · have := Pl.flushL_logs (n := n) l p
      simp only [List.length_cons]; omega
theorem Pl.out_d (r : Pl × Int) : (Pl.out r).1.d = r.1.d := (r.1.met_d r.2).1
theorem Pl.flush_logs (p : Pl) (n : ByteArray) : (p.flush n).1.d.logs ≤ p.d.logs + p.fs.length := by
  have h1 := Pl.flushL_logs (n := n) (p.pagesOf n) p
  have h2 := p.pagesOf_length n
  have h3 := (Pl.flushL n (p.pagesOf n) p).1.d.sync_logs n
  unfold Pl.flush
  split
  · show p.d.logs ≤ _; omega
  · split
    · rw [Pl.out_d]; show p.d.logs ≤ _; omega
    · split
      · rw [Pl.out_d]; omega
      · rw [Pl.out_d]; show (Dk.sync _ _).1.logs ≤ _; omega
theorem Pl.set_d (p : Pl) (h : Int) (k : UInt8) (b : List UInt8) : (p.set h k b).1.d = p.d := by
  unfold Pl.set
  split
  · rfl
  · split
    · split <;> rfl
    · rfl
theorem Pl.unpin_d (p : Pl) (h : Int) : (p.unpin h).1.d = p.d := by
  unfold Pl.unpin
  split
  · rfl
  · split <;> rfl
theorem Pl.dropF_logs (p : Pl) (n : ByteArray) : (p.dropF n).1.d.logs ≤ p.d.logs := by
  have := p.d.remove_logs n
  unfold Pl.dropF
  split
  · exact Nat.le_refl _
  · split
    · rw [Pl.out_d]; exact Nat.le_refl _
    · split
      · exact Nat.le_refl _
      · rw [Pl.out_d]; exact this

theorem Pl.flushL_next {n : ByteArray} : ∀ (l : List Nat) (p : Pl), (Pl.flushL n l p).1.next = p.next ∧ (Pl.flushL n l p).1.tick = p.tick
  | [], p => ⟨rfl, rfl⟩
  | k :: l, p => by
    unfold Pl.flushL
    split
    · rename_i i hi
      have := p.put_same i
      split
      · split
        · have h := Pl.flushL_next (n := n) l (p.put i).1
          exact ⟨h.1.trans this.2.1, h.2.trans this.2.2.1⟩
        · exact ⟨this.2.1, this.2.2.1⟩
      · exact Pl.flushL_next l p
    · exact Pl.flushL_next l p
theorem Pl.flush_next (p : Pl) (n : ByteArray) : (p.flush n).1.next = p.next := by
  have h1 := (Pl.flushL_next (n := n) (p.pagesOf n) p).1
  unfold Pl.flush
  split
  · rfl
  · split
    · exact (p.met_d _).2.2.1
    · split
      · exact ((Pl.flushL n (p.pagesOf n) p).1.met_d _).2.2.1.trans h1
      · exact (((Pl.flushL n (p.pagesOf n) p).1.setD _).met_d _).2.2.1.trans h1

end Go.Proofs.YtbhddkmfhampbaaDoor
