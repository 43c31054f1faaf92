/-
  Plain laws on crashes.
-/
import Derived.Test.YtnmaojkkfbajcaaGreatDme
namespace Go.Proofs.YtnmaojkkfbajcaaGreat
open Go.MapKept

def Dk.view (s : Dk) : List (ByteArray × List Pg) := s.files.map fun f => (f.name, f.pages)
theorem Dk.idx_view (s : Dk) (n : ByteArray) : s.idx n = s.view.findIdx? fun v => v.1.toList == n.toList := by
  unfold Dk.idx Dk.view
  rw [List.findIdx?_map]; rfl
theorem Dk.file_view (s : Dk) (i : Nat) : (s.file i).pages = ((s.view[i]?).map (·.2)).getD [] := by
  unfold Dk.file Dk.view
  rw [List.getElem?_map, List.getD]
  cases s.files[i]? <;> rfl
theorem Dk.pagesOf_view (s : Dk) (n : ByteArray) : s.pagesOf n = if s.down then [] else match s.view.findIdx? (fun v => v.1.toList == n.toList) with | some i => ((s.view[i]?).map (·.2)).getD [] | none => [] := by
  unfold Dk.pagesOf Dk.open
  rw [s.idx_view n]
  cases s.down
  · simp only [Bool.false_eq_true, if_false]
    cases s.view.findIdx? fun v => v.1.toList == n.toList with
    | none => rfl
    | some i => exact s.file_view i
  · rfl
theorem Dk.list_view (s : Dk) : s.list = if s.down then [] else (s.view.map fun v => v.1.toList).mergeSort fun x y => decide (x ≤ y) := by
  unfold Dk.list Dk.view
  rw [List.map_map]; rfl
theorem Dk.text_view {s t : Dk} (hv : s.view = t.view) (hd : s.down = t.down) : s.text = t.text := by
  have h1 : s.part = t.part := by
    funext n
    unfold Dk.part
    rw [s.pagesOf_view, t.pagesOf_view, hv, hd]
  unfold Dk.text
  rw [h1, s.list_view, t.list_view, hv, hd]
theorem Dk.used_view (s : Dk) : s.used = (s.view.map fun v => v.2.length).sum := by
  unfold Dk.used Dk.view
  rw [List.map_map]; rfl

/-- What a crash at once leaves. -/
def Dk.fall (s : Dk) (k : Int) : Dk := { s with crash := none, down := false, files := s.files.map (s.withC (some (0, k))).after }

theorem Dk.setCrash0 {s : Dk} (h : s.Calm) (k : Int) : s.setCrash 0 k = s.withC (some (0, k)) := by
  unfold Dk.setCrash Dk.withC
  rw [h.down]; rfl
theorem own_named {j : Nat} (hj : j ≤ 97) : named (strB (ownN j)) = true := by
  unfold named
  rw [own_size]
  simp; omega
theorem own_idx {s : Dk} (hd : s.down = false) {j : Nat} (hj : ownN j ∉ s.list) : s.idx (strB (ownN j)) = none := by
  cases hi : s.idx (strB (ownN j)) with
  | none => rfl
  | some i =>
    obtain ⟨f, hf, e⟩ := Dk.idx_some hi
    refine absurd ?_ hj
    unfold Dk.list
    rw [hd]
    simp only [Bool.false_eq_true, if_false]
    rw [List.mem_mergeSort]
    refine List.mem_map.2 ⟨f, List.mem_of_getElem? hf, ?_⟩
    rw [e, strB_list]
theorem own_create {s : Dk} {k : Int} {j : Nat} (hd : s.down = false) (hc : s.crash = some (0, k)) (hj : ownN j ∉ s.list) (h97 : j ≤ 97) (hlen : s.files.length < 4096) : s.create (strB (ownN j)) = ({ s with down := true }, 4) := by
  unfold Dk.create
  rw [hd, own_named h97, own_idx hd hj]
  simp only [Bool.false_eq_true, if_false, Option.isSome_none]
  rw [if_neg (by simp), if_neg (by omega)]
  unfold Dk.step Dk.change
  rw [hc]
  simp
theorem fall_restart {s : Dk} (k : Int) : ({ s.withC (some (0, k)) with down := true } : Dk).restart = s.fall k := by
  unfold Dk.restart
  simp only [if_true]
  rfl
theorem Dk.fall_calm (s : Dk) (k : Int) : (s.fall k).Calm := ⟨rfl, rfl⟩

theorem keep_all (r : Nat) : keepBit 18446744073709551615 r = true := by
  have key : ∀ n : Fin 64, (iand .u64 (ishr .u64 18446744073709551615 (n.val : Int)) 1 == 1) = true := by decide
  unfold keepBit
  have e : Int.tmod (r : Int) 64 = ((r % 64 : Nat) : Int) := by
    rw [Int.tmod_eq_emod_of_nonneg (by omega)]; omega
  rw [e]
  exact key ⟨r % 64, Nat.mod_lt _ (by decide)⟩
theorem fall_all (s : Dk) : (s.fall 18446744073709551615).view = s.view := by
  unfold Dk.fall Dk.view
  rw [List.map_map]
  refine List.map_congr_left fun f _ => ?_
  show (f.name, _) = (f.name, f.pages)
  congr 1
  show List.foldl putP (List.foldl putP f.synced _) [] = _
  show List.foldl putP f.synced _ = f.pages
  unfold Fl.pages
  congr 1
  rw [List.filter_eq_self]
  intro w _
  exact keep_all _
theorem fall_synced {s : Dk} {k : Int} (h : ∀ f ∈ s.files, f.log = []) : (s.fall k).view = s.view := by
  unfold Dk.fall Dk.view
  rw [List.map_map]
  refine List.map_congr_left fun f hf => ?_
  show (f.name, _) = (f.name, f.pages)
  congr 1
  show List.foldl putP f.synced (f.log.filter _) = f.pages
  unfold Fl.pages
  rw [h f hf]; rfl
theorem fall_used (s : Dk) (k : Int) : (s.fall k).used ≤ s.used := by
  unfold Dk.used Dk.fall
  simp only [List.map_map]
  refine sum_map_le _ _ _ fun f _ => ?_
  exact Dk.after_le _ f
theorem fall_logs (s : Dk) (k : Int) : (s.fall k).logs = 0 := by
  unfold Dk.logs Dk.fall
  simp only [List.map_map]
  have : ∀ l : List Fl, (l.map ((fun f : Fl => f.log.length) ∘ (s.withC (some (0, k))).after)).sum = 0 := by
    intro l
    induction l with
    | nil => rfl
    | cons a l ih => simp only [List.map_cons, List.sum_cons, ih]; rfl
  exact this _
theorem fall_len (s : Dk) (k : Int) : (s.fall k).files.length = s.files.length := by simp [Dk.fall]
theorem fall_nm {s : Dk} {k : Int} (h : s.Nm) : (s.fall k).Nm := by
  intro f hf
  obtain ⟨g, hg, rfl⟩ := List.mem_map.1 hf
  exact h g hg

/-! ### Calm rows -/

theorem withC_calm {s : Dk} (h : s.Calm) : s.withC none = s := by unfold Dk.withC; rw [← h.crash]
theorem step_calm {s : Dk} (h : s.Calm) {f : Dk → Dk} : (s.step f).1 = f { s with ops := w64 (s.ops + 1) } := by
  unfold Dk.step Dk.change
  rw [h.crash]
  simp
theorem run1_calm {s : Dk} (h : s.Calm) (x : StepV) : (s.run1 x).Calm := by
  rcases run1_acts x h.down with e | ⟨f, hf, e⟩
  · have := e none; rw [withC_calm h] at this; rw [this]; exact h
  · have := e none; rw [withC_calm h] at this; rw [this, step_calm h]
    exact ⟨by rw [hf.crash]; exact h.crash, by rw [hf.down]; exact h.down⟩
theorem runs_calm : ∀ (xs : List StepV) {s : Dk}, s.Calm → (s.runs xs).Calm
  | [], _, h => h
  | x :: xs, _, h => runs_calm xs (run1_calm h x)
theorem dk0_calm (q : Int) : (dk0 q).Calm := ⟨rfl, rfl⟩
theorem dk0_nm (q : Int) : (dk0 q).Nm := by intro f hf; simp [dk0] at hf

/-- A file is synced. -/
theorem sync_calm {s : Dk} (h : s.Calm) (hw : s.WF) {i : Nat} {f : Fl} (hf : s.files[i]? = some f) : s.sync f.name = ({ s with ops := w64 (s.ops + 1), files := s.files.modify i fun f => { f with synced := f.pages, log := [] } }, 0) := by
  unfold Dk.sync
  rw [h.down, Dk.idx_eq hw hf]
  simp only [Bool.false_eq_true, if_false]
  unfold Dk.step Dk.change
  rw [h.crash]
  simp only [if_true]
  rw [h.down]
  rfl
theorem sync_view {l : List Fl} {i : Nat} : (l.modify i fun f => { f with synced := f.pages, log := [] }).map (fun f => (f.name, f.pages)) = l.map fun f => (f.name, f.pages) := by
  apply List.ext_getElem?
  intro j
  rw [List.getElem?_map, List.getElem?_map, List.getElem?_modify]
  cases l[j]? with
  | none => rfl
  | some f =>
    simp only [Option.map_some]
    split <;> rfl

end Go.Proofs.YtnmaojkkfbajcaaGreat
