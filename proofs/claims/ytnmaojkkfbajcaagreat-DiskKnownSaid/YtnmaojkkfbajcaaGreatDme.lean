/-
  Plain laws on rows of calls: what stays; what a crash leaves.
-/
import Derived.Test.YtnmaojkkfbajcaaGreatDmd
namespace Go.Proofs.YtnmaojkkfbajcaaGreat
open Go.MapKept

theorem Dk.step_files {Q : List Fl → Prop} {s : Dk} {f : Dk → Dk} (h : Q s.files) (hf : ∀ t : Dk, t.files = s.files → Q (f t).files) : Q (s.step f).1.files := by
  unfold Dk.step
  split
  · exact hf _ s.change_files
  · show Q s.change.1.files
    rw [s.change_files]; exact h

theorem Dk.drop_cases (t : Dk) (m : ByteArray) : (t.drop m).files = t.files ∨ ∃ i, (t.drop m).files = t.files.eraseIdx i := by
  unfold Dk.drop
  split
  · exact .inr ⟨_, rfl⟩
  · exact .inl rfl
theorem Dk.setName_cases (t : Dk) (n m : ByteArray) : (t.setName n m).files = t.files ∨ ∃ i, (t.setName n m).files = t.files.modify i fun f => { f with name := m } := by
  unfold Dk.setName
  split
  · exact .inr ⟨_, rfl⟩
  · exact .inl rfl

/-- What one call makes of the files. -/
theorem Dk.run1_files {Q : List Fl → Prop} {s : Dk} {x : StepV} (h : Q s.files) (hc : ∀ n, named n = true → Q (s.files ++ [⟨n, [], []⟩])) (he : ∀ i, Q (s.files.eraseIdx i))
    (hm : ∀ i g, (∀ f : Fl, (g f).name = f.name) → Q (s.files.modify i g)) (hr : ∀ l, (l = s.files ∨ ∃ j, l = s.files.eraseIdx j) → ∀ i n, named n = true → Q (l.modify i fun f => { f with name := n })) : Q (s.run1 x).files := by
  unfold Dk.run1
  split
  · unfold Dk.create
    split
    · exact h
    · split
      · exact h
      · rename_i hn
        split
        · exact h
        · split
          · exact h
          · exact Dk.step_files h fun t ht => by show Q (t.files ++ _); rw [ht]; exact hc _ (by simpa using hn)
  · split
    · unfold Dk.write
      split
      · exact h
      · split
        · split
          · exact h
          · split
            · exact h
            · split
              · exact h
              · exact Dk.step_files h fun t ht => by show Q (t.files.modify _ _); rw [ht]; exact hm _ _ fun _ => rfl
        · exact h
    · split
      · unfold Dk.sync
        split
        · exact h
        · split
          · exact h
          · exact Dk.step_files h fun t ht => by show Q (t.files.modify _ _); rw [ht]; exact hm _ _ fun _ => rfl
      · split
        · unfold Dk.rename
          split
          · exact h
          · split
            · exact h
            · rename_i hn
              split
              · exact h
              · refine Dk.step_files h fun t ht => ?_
                split
                · rw [ht]; exact h
                · rcases (t.drop x.2.2.1).setName_cases x.2.1 x.2.2.1 with e | ⟨i, e⟩
                  · rw [e]
                    rcases t.drop_cases x.2.2.1 with e2 | ⟨j, e2⟩
                    · rw [e2, ht]; exact h
                    · rw [e2, ht]; exact he j
                  · rw [e]
                    refine hr _ ?_ i _ (by simpa using hn)
                    rcases t.drop_cases x.2.2.1 with e2 | ⟨j, e2⟩
                    · rw [e2, ht]; exact .inl rfl
                    · rw [e2, ht]; exact .inr ⟨j, rfl⟩
        · split
          · unfold Dk.remove
            split
            · exact h
            · split
              · exact h
              · refine Dk.step_files h fun t ht => ?_
                rcases t.drop_cases x.2.1 with e2 | ⟨j, e2⟩
                · rw [e2, ht]; exact h
                · rw [e2, ht]; exact he j
          · exact h

theorem mem_modify {l : List Fl} {i : Nat} {g : Fl → Fl} {f : Fl} (h : f ∈ l.modify i g) : f ∈ l ∨ ∃ f0 ∈ l, f = g f0 := by
  obtain ⟨j, hj⟩ := List.mem_iff_getElem?.1 h
  rw [List.getElem?_modify] at hj
  obtain ⟨f0, h0, e⟩ := Option.map_eq_some_iff.1 hj
  split at e
  · exact .inr ⟨f0, List.mem_of_getElem? h0, e.symm⟩
  · exact .inl (by rw [← e]; exact List.mem_of_getElem? h0)
theorem named_le {n : ByteArray} (h : named n = true) : n.size ≤ 100 := by
  unfold named at h; simp at h; exact h.2
theorem Dk.run1_nm {s : Dk} {x : StepV} (h : s.Nm) : (s.run1 x).Nm := by
  refine Dk.run1_files (Q := fun l => ∀ f ∈ l, f.name.size ≤ 100) h ?_ ?_ ?_ ?_
  · intro n hn f hf
    rcases List.mem_append.1 hf with q | q
    · exact h f q
    · simp at q; subst q; exact named_le hn
  · intro i f hf; exact h f (List.mem_of_mem_eraseIdx hf)
  · intro i g hg f hf
    rcases mem_modify hf with q | ⟨f0, q, rfl⟩
    · exact h f q
    · rw [hg]; exact h f0 q
  · intro l hl i n hn f hf
    have hl' : ∀ f ∈ l, f.name.size ≤ 100 := by
      rcases hl with rfl | ⟨j, rfl⟩
      · exact h
      · intro f hf; exact h f (List.mem_of_mem_eraseIdx hf)
    rcases mem_modify hf with q | ⟨f0, q, rfl⟩
    · exact hl' f q
    · exact named_le hn
theorem Dk.run1_len (s : Dk) (x : StepV) : (s.run1 x).files.length ≤ s.files.length + 1 := by
  refine Dk.run1_files (Q := fun l => l.length ≤ s.files.length + 1) (Nat.le_succ _) ?_ ?_ ?_ ?_
  · intro n _; simp
  · intro i; have := List.length_eraseIdx_le s.files i; omega
  · intro i g _; simp
  · intro l hl i n _
    rcases hl with rfl | ⟨j, rfl⟩
    · simp
    · have := List.length_eraseIdx_le s.files j; simp; omega
theorem Dk.runs_nm : ∀ (xs : List StepV) {s : Dk}, s.Nm → (s.runs xs).Nm
  | [], _, h => h
  | x :: xs, s, h => Dk.runs_nm xs (s := s.run1 x) (Dk.run1_nm h)
theorem Dk.runs_len : ∀ (xs : List StepV) (s : Dk), (s.runs xs).files.length ≤ s.files.length + xs.length
  | [], s => Nat.le_refl _
  | x :: xs, s => by
    have h1 := Dk.runs_len xs (s.run1 x)
    have h2 := s.run1_len x
    show ((s.run1 x).runs xs).files.length ≤ _
    simp only [List.length_cons]; omega

/-! ### A disk that will not crash -/

structure Dk.Calm (s : Dk) : Prop where
  crash : s.crash = none
  down : s.down = false

/-- What a call does, whatever crash is laid. -/
def Dk.withC (s : Dk) (c : Option (Int × Int)) : Dk := { s with crash := c }
structure Acts (f : Dk → Dk) : Prop where
  crash : ∀ t, (f t).crash = t.crash
  down : ∀ t, (f t).down = t.down
  ops : ∀ t, (f t).ops = t.ops
  quota : ∀ t, (f t).quota = t.quota
  withC : ∀ t c, f (t.withC c) = (f t).withC c
  withO : ∀ (t : Dk) o, f { t with ops := o } = { f t with ops := o }

theorem run1_acts {s : Dk} (x : StepV) (hd : s.down = false) : (∀ c, (s.withC c).run1 x = s.withC c) ∨ ∃ f, Acts f ∧ ∀ c, (s.withC c).run1 x = ((s.withC c).step f).1 := by
  have hD : ∀ c, (s.withC c).down = false := fun _ => hd
  have hI : ∀ c n, (s.withC c).idx n = s.idx n := fun _ _ => rfl
  have hFl : ∀ c, (s.withC c).files = s.files := fun _ => rfl
  have hU : ∀ c, (s.withC c).used = s.used := fun _ => rfl
  have hQ : ∀ c, (s.withC c).quota = s.quota := fun _ => rfl
  have hFi : ∀ c i, (s.withC c).file i = s.file i := fun _ _ => rfl
  unfold Dk.run1
  by_cases h0 : x.1.emod 7 = 0
  · simp only [if_pos h0]
    unfold Dk.create
    simp only [hD, hI, hFl, Bool.false_eq_true, if_false]
    by_cases h1 : named x.2.1 = false
    · left; intro c; rw [if_pos h1]
    · by_cases h2 : (s.idx x.2.1).isSome = true
      · left; intro c; rw [if_neg h1, if_pos h2]
      · by_cases h3 : s.files.length = 4096
        · left; intro c; rw [if_neg h1, if_neg h2, if_pos h3]
        · right
          refine ⟨fun t => { t with files := t.files ++ [⟨x.2.1, [], []⟩] }, ⟨fun _ => rfl, fun _ => rfl, fun _ => rfl, fun _ => rfl, fun _ _ => rfl, fun _ _ => rfl⟩, fun c => ?_⟩
          rw [if_neg h1, if_neg h2, if_neg h3]
  · simp only [if_neg h0]
    by_cases h1 : x.1.emod 7 = 1
    · simp only [if_pos h1]
      unfold Dk.write
      simp only [hD, hI, hU, hQ, hFi, Bool.false_eq_true, if_false]
      by_cases hb : (fillB x.2.2.2.2.1 x.2.2.2.2.2.1).length = 512
      · simp only [dif_pos hb]
        cases hi : s.idx x.2.1 with
        | none => left; intro c; rfl
        | some i =>
          simp only
          by_cases h2 : x.2.2.2.1 < 0 ∨ x.2.2.2.1 > (s.file i).pages.length
          · left; intro c; rw [if_pos h2]
          · by_cases h3 : x.2.2.2.1 = (s.file i).pages.length ∧ s.used ≥ s.quota
            · left; intro c; rw [if_neg h2, if_pos h3]
            · right
              refine ⟨fun t => (t.addW i ⟨t.next, x.2.2.2.1.toNat, ⟨_, hb⟩⟩).setMost (max t.most (t.addW i ⟨t.next, x.2.2.2.1.toNat, ⟨_, hb⟩⟩).used), ⟨fun _ => rfl, fun _ => rfl, fun _ => rfl, fun _ => rfl, fun _ _ => rfl, fun _ _ => rfl⟩, fun c => ?_⟩
              rw [if_neg h2, if_neg h3]
      · left; intro c; simp only [dif_neg hb]
    · simp only [if_neg h1]
      by_cases h4 : x.1.emod 7 = 4
      · simp only [if_pos h4]
        unfold Dk.sync
        simp only [hD, hI, Bool.false_eq_true, if_false]
        cases hi : s.idx x.2.1 with
        | none => left; intro c; rfl
        | some i =>
          right
          exact ⟨fun t => t.upd i fun f => { f with synced := f.pages, log := [] }, ⟨fun _ => rfl, fun _ => rfl, fun _ => rfl, fun _ => rfl, fun _ _ => rfl, fun _ _ => rfl⟩, fun c => rfl⟩
      · simp only [if_neg h4]
        by_cases h5 : x.1.emod 7 = 5
        · simp only [if_pos h5]
          unfold Dk.rename
          simp only [hD, hI, Bool.false_eq_true, if_false]
          by_cases h2 : named x.2.2.1 = false
          · left; intro c; rw [if_pos h2]
          · by_cases h3 : (s.idx x.2.1).isNone = true
            · left; intro c; rw [if_neg h2, if_pos h3]
            · right
              have dr : ∀ (t : Dk) m, (t.drop m).crash = t.crash ∧ (t.drop m).down = t.down ∧ (t.drop m).ops = t.ops ∧ (t.drop m).quota = t.quota ∧ (∀ c, (t.withC c).drop m = (t.drop m).withC c) ∧ ∀ o, ({ t with ops := o } : Dk).drop m = { t.drop m with ops := o } := by
                intro t m
                have e1 : ∀ c, (t.withC c).idx m = t.idx m := fun _ => rfl
                have e2 : ∀ o, ({ t with ops := o } : Dk).idx m = t.idx m := fun _ => rfl
                unfold Dk.drop
                simp only [e1, e2]
                cases t.idx m <;> exact ⟨rfl, rfl, rfl, rfl, fun _ => rfl, fun _ => rfl⟩
              have sn : ∀ (t : Dk) n m, (t.setName n m).crash = t.crash ∧ (t.setName n m).down = t.down ∧ (t.setName n m).ops = t.ops ∧ (t.setName n m).quota = t.quota ∧ (∀ c, (t.withC c).setName n m = (t.setName n m).withC c) ∧ ∀ o, ({ t with ops := o } : Dk).setName n m = { t.setName n m with ops := o } := by
                intro t n m
                have e1 : ∀ c, (t.withC c).idx n = t.idx n := fun _ => rfl
                have e2 : ∀ o, ({ t with ops := o } : Dk).idx n = t.idx n := fun _ => rfl
                unfold Dk.setName
                simp only [e1, e2]
                cases t.idx n <;> exact ⟨rfl, rfl, rfl, rfl, fun _ => rfl, fun _ => rfl⟩
              refine ⟨fun t => if x.2.1.toList = x.2.2.1.toList then t else (t.drop x.2.2.1).setName x.2.1 x.2.2.1, ?_, fun c => by rw [if_neg h2, if_neg h3]⟩
              by_cases he : x.2.1.toList = x.2.2.1.toList
              · simp only [if_pos he]
                exact ⟨fun _ => rfl, fun _ => rfl, fun _ => rfl, fun _ => rfl, fun _ _ => rfl, fun _ _ => rfl⟩
              · simp only [if_neg he]
                refine ⟨fun t => ?_, fun t => ?_, fun t => ?_, fun t => ?_, fun t c => ?_, fun t o => ?_⟩
                · rw [(sn _ _ _).1, (dr _ _).1]
                · rw [(sn _ _ _).2.1, (dr _ _).2.1]
                · rw [(sn _ _ _).2.2.1, (dr _ _).2.2.1]
                · rw [(sn _ _ _).2.2.2.1, (dr _ _).2.2.2.1]
                · rw [(dr _ _).2.2.2.2.1, (sn _ _ _).2.2.2.2.1]
                · rw [(dr _ _).2.2.2.2.2, (sn _ _ _).2.2.2.2.2]
        · simp only [if_neg h5]
          by_cases h6 : x.1.emod 7 = 6
          · simp only [if_pos h6]
            unfold Dk.remove
            simp only [hD, hI, Bool.false_eq_true, if_false]
            by_cases h3 : (s.idx x.2.1).isNone = true
            · left; intro c; rw [if_pos h3]
            · right
              have dr : ∀ (t : Dk) m, (t.drop m).crash = t.crash ∧ (t.drop m).down = t.down ∧ (t.drop m).ops = t.ops ∧ (t.drop m).quota = t.quota ∧ (∀ c, (t.withC c).drop m = (t.drop m).withC c) ∧ ∀ o, ({ t with ops := o } : Dk).drop m = { t.drop m with ops := o } := by
                intro t m
                have e1 : ∀ c, (t.withC c).idx m = t.idx m := fun _ => rfl
                have e2 : ∀ o, ({ t with ops := o } : Dk).idx m = t.idx m := fun _ => rfl
                unfold Dk.drop
                simp only [e1, e2]
                cases t.idx m <;> exact ⟨rfl, rfl, rfl, rfl, fun _ => rfl, fun _ => rfl⟩
              exact ⟨fun t => t.drop x.2.1, ⟨fun t => (dr t _).1, fun t => (dr t _).2.1, fun t => (dr t _).2.2.1, fun t => (dr t _).2.2.2.1, fun t c => (dr t _).2.2.2.2.1 c, fun t o => (dr t _).2.2.2.2.2 o⟩, fun c => by rw [if_neg h3]⟩
          · simp only [if_neg h6]
            left; intro c; trivial

end Go.Proofs.YtnmaojkkfbajcaaGreat
