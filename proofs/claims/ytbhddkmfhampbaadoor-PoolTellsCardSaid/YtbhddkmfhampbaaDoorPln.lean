/-
  The pool in plain words: frames lie within their files; how many writes, how many handles.
-/
import Derived.Test.YtbhddkmfhampbaaDoorPkd
import Derived.Test.YtbhddkmfhampbaaDoorDlg
namespace Go.Proofs.YtbhddkmfhampbaaDoor

theorem Pl.put_logs (s : Pl) (i : Nat) : (s.put i).1.d.logs ≤ s.d.logs + 1 := by
  unfold Pl.put
  split <;> exact s.d.write_logs _ _ _
theorem Pl.room_logs (s : Pl) : s.room.1.d.logs ≤ s.d.logs + 1 := by
  unfold Pl.room
  split
  · exact Nat.le_succ _
  · split
    · exact Nat.le_succ _
    · split
      · split
        · exact s.put_logs _
        · exact s.put_logs _
      · exact Nat.le_succ _

/-- How many pages a file has. -/
def Dk.size (s : Dk) (n : ByteArray) : Nat := match s.idx n with | some i => (s.file i).pages.length | none => 0
/-- Each frame lies within its file. -/
def Pl.Fit (s : Pl) : Prop := ∀ f ∈ s.fs, f.page < s.d.size f.name
theorem Dk.len_size {s : Dk} {n : ByteArray} (h : (s.len n).2 = 0) : (s.len n).1 = s.size n := by
  unfold Dk.len Dk.open at h ⊢
  unfold Dk.size
  by_cases hd : s.down = true
  · rw [if_pos hd] at h; cases h
  · rw [if_neg hd] at h ⊢
    cases hi : s.idx n with
    | none => rw [hi] at h; first | done | cases h
    | some i => rfl
theorem Pl.Fit.new {s : Pl} (h : s.Fit) {n : ByteArray} (hl : (s.d.len n).2 = 0) : s.find n (s.d.len n).1 = none := by
  unfold Pl.find
  rw [List.findIdx?_eq_none_iff]
  intro f hf
  cases hq : f.name.toList == n.toList with
  | false => rfl
  | true =>
    have e : f.name = n := ba_eq (by simpa using hq)
    have := h f hf
    rw [e, ← Dk.len_size hl] at this
    show (true && decide ((f.page : Int) = _)) = false
    rw [Bool.true_and]; exact decide_eq_false (by omega)

/-- What no file loses. -/
def Dk.Grows (s t : Dk) : Prop := ∀ n, s.size n ≤ t.size n
theorem Dk.Grows.refl (s : Dk) : s.Grows s := fun _ => Nat.le_refl _
theorem Dk.Grows.trans {a b c : Dk} (h : a.Grows b) (k : b.Grows c) : a.Grows c := fun n => Nat.le_trans (h n) (k n)
theorem Pl.Fit.grow {s t : Pl} (h : s.Fit) (hg : s.d.Grows t.d) (hf : ∀ f ∈ t.fs, ∃ f' ∈ s.fs, f'.key = f.key) : t.Fit := by
  intro f hft
  obtain ⟨f', hf', hk⟩ := hf f hft
  have h1 : f'.name = f.name := congrArg Prod.fst hk
  have h2 : f'.page = f.page := congrArg Prod.snd hk
  have := h f' hf'
  rw [h1, h2] at this
  exact Nat.lt_of_lt_of_le this (hg _)

theorem Dk.size_modify {s t : Dk} {i : Nat} {f : Fl} {g : Fl → Fl} (hf : s.files[i]? = some f) (ht : t.files = s.files.modify i g) (hn : (g f).name = f.name) (hle : f.pages.length ≤ (g f).pages.length) : s.Grows t := by
  intro n
  have hidx : t.idx n = s.idx n := by
    unfold Dk.idx
    rw [ht]
    have : ∀ (l : List Fl) (j : Nat), l[j]? = some f → (l.modify j g).findIdx? (fun f => f.name.toList == n.toList) = l.findIdx? (fun f => f.name.toList == n.toList) := by
      intro l
      induction l with
      | nil => intro j h; simp at h
      | cons a l ih =>
        intro j h
        match j with
        | 0 =>
          simp at h; subst h
          simp only [List.modify_zero_cons, List.findIdx?_cons, hn]
        | j + 1 =>
          simp only [List.getElem?_cons_succ] at h
          simp only [List.modify_succ_cons, List.findIdx?_cons, ih j h]
    exact this s.files i hf
  unfold Dk.size
  rw [hidx]
  cases hi : s.idx n with
  | none => exact Nat.le_refl _
  | some j =>
    obtain ⟨fj, hfj, _⟩ := Dk.idx_some hi
    show (s.file j).pages.length ≤ (t.file j).pages.length
    by_cases e : i = j
    · subst e
      rw [hf] at hfj; cases hfj
      have : t.files[i]? = some (g f) := by rw [ht]; exact modify_same hf
      rw [Dk.file_eq hf, Dk.file_eq this]; exact hle
    · have : t.files[j]? = some fj := by rw [ht, modify_other e]; exact hfj
      rw [Dk.file_eq hfj, Dk.file_eq this]; exact Nat.le_refl _
theorem Dk.Grows.files {s t : Dk} (h : t.files = s.files) : s.Grows t := by
  intro n
  have : t.size n = s.size n := by unfold Dk.size Dk.idx Dk.file; rw [h]
  omega
theorem Dk.change_grows (s : Dk) : s.Grows s.change.1 := .files s.change_files
theorem Dk.step_grows {s : Dk} {f : Dk → Dk} (h : ∀ t : Dk, t.files = s.files → t.Grows (f t)) : s.Grows (s.step f).1 := by
  unfold Dk.step
  split
  · exact (s.change_grows).trans (h _ s.change_files)
  · exact s.change_grows
theorem Fl.addW_pages (f : Fl) (w : Wr) : (({ f with log := f.log ++ [w] } : Fl)).pages = putP f.pages w := by simp [Fl.pages]
theorem Dk.write_grows (s : Dk) (n : ByteArray) (k : Int) (b : List UInt8) : s.Grows (s.write n k b).1 := by
  unfold Dk.write
  split
  · exact .refl _
  · split
    · split
      · exact .refl _
      · rename_i i hi
        obtain ⟨f, hf, _⟩ := Dk.idx_some hi
        split
        · exact .refl _
        · split
          · exact .refl _
          · refine Dk.step_grows fun t ht => ?_
            exact Dk.size_modify (i := i) (f := f) (g := fun f => { f with log := f.log ++ [_] }) (by rw [ht]; exact hf) rfl rfl (by rw [Fl.addW_pages, putP_length]; omega)
    · exact .refl _
theorem Dk.sync_grows (s : Dk) (n : ByteArray) : s.Grows (s.sync n).1 := by
  unfold Dk.sync
  split
  · exact .refl _
  · split
    · exact .refl _
    · rename_i i hi
      obtain ⟨f, hf, _⟩ := Dk.idx_some hi
      refine Dk.step_grows fun t ht => ?_
      exact Dk.size_modify (i := i) (f := f) (g := fun f => { f with synced := f.pages, log := [] }) (by rw [ht]; exact hf) rfl rfl (by simp [Fl.pages])
theorem Dk.create_grows (s : Dk) (n : ByteArray) : s.Grows (s.create n).1 := by
  unfold Dk.create
  split
  · exact .refl _
  · split
    · exact .refl _
    · split
      · exact .refl _
      · split
        · exact .refl _
        · refine Dk.step_grows fun t _ m => ?_
          unfold Dk.size
          cases hi : t.idx m with
          | none => exact Nat.zero_le _
          | some i =>
            obtain ⟨f, hf, _⟩ := Dk.idx_some hi
            have hl := (List.getElem?_eq_some_iff.1 hf).1
            have hi' : ({ t with files := t.files ++ [⟨n, [], []⟩] } : Dk).idx m = some i := by
              unfold Dk.idx at hi ⊢
              simp only [List.findIdx?_append, hi, Option.some_or]
            rw [hi']
            have : (t.files ++ [(⟨n, [], []⟩ : Fl)])[i]? = some f := by rw [List.getElem?_append_left hl]; exact hf
            show (t.file i).pages.length ≤ ((t.files ++ [(⟨n, [], []⟩ : Fl)]).getD i _).pages.length
            rw [Dk.file_eq hf]
            simp only [List.getD, this, Option.getD_some]
            exact Nat.le_refl _
theorem Dk.setCrash_grows (s : Dk) (i k : Int) : s.Grows (s.setCrash i k) := by
  unfold Dk.setCrash
  split
  · exact .refl _
  · exact .files rfl

theorem Pl.put_grows (s : Pl) (i : Nat) : s.d.Grows (s.put i).1.d := by
  unfold Pl.put
  split <;> exact s.d.write_grows _ _ _
theorem Pl.room_grows (s : Pl) : s.d.Grows s.room.1.d := by
  unfold Pl.room
  split
  · exact .refl _
  · split
    · exact .refl _
    · split
      · split
        · exact s.put_grows _
        · exact s.put_grows _
      · exact .refl _

end Go.Proofs.YtbhddkmfhampbaaDoor
