/-
  The document's disk: files made, taken away, named anew, told.
-/
import Derived.Test.YtjjfngnokbboeaaDoorDrb
namespace Go.Proofs.YtjjfngnokbboeaaDoor
open Go.MapKept

theorem slA_zero' (a : Option Addr) (c n : Nat) : slA a c 0 n = a := by
  unfold slA
  split
  · rfl
  · cases a <;> simp [add_zero']

theorem rfs_append : ∀ (fs : List Fl) (gs : List (Sl × Sl)) (f : Fl) (g : Sl × Sl), gs.length = fs.length → rfs (fs ++ [f]) (gs ++ [g]) = rfs fs gs ++ [(f.name, g.1, g.2)]
  | [], [], f, g, _ => rfl
  | [], _ :: _, _, _, h => by simp at h
  | _ :: _, [], _, _, h => by simp at h
  | a :: fs, b :: gs, f, g, h => by simp [rfs, rfs_append fs gs f g (by simpa using h)]
theorem rfs_erase : ∀ (fs : List Fl) (gs : List (Sl × Sl)) (i : Nat), gs.length = fs.length → rfs (fs.eraseIdx i) (gs.eraseIdx i) = (rfs fs gs).eraseIdx i
  | [], [], _, _ => rfl
  | [], _ :: _, _, h => by simp at h
  | _ :: _, [], _, h => by simp at h
  | a :: fs, b :: gs, 0, _ => rfl
  | a :: fs, b :: gs, i + 1, h => by simp [rfs, rfs_erase fs gs i (by simpa using h)]
theorem rfs_set : ∀ (fs : List Fl) (gs : List (Sl × Sl)) (i : Nat) (f : Fl) (g : Sl × Sl), gs.length = fs.length → rfs (fs.set i f) (gs.set i g) = (rfs fs gs).set i (f.name, g.1, g.2)
  | [], [], _, _, _, _ => rfl
  | [], _ :: _, _, _, _, h => by simp at h
  | _ :: _, [], _, _, _, h => by simp at h
  | a :: fs, b :: gs, 0, _, _, _ => rfl
  | a :: fs, b :: gs, i + 1, f, g, h => by simp [rfs, rfs_set fs gs i f g (by simpa using h)]

theorem rfp_set {fl : Sl} {gs : List (Sl × Sl)} {i : Nat} {g g' : Sl × Sl} {H : Heap} (hg : gs[i]? = some g) (h1 : ∀ b, ownB g'.1 b → ownB g.1 b ∨ H.size ≤ b) (h2 : ∀ b, ownB g'.2 b → ownB g.2 b ∨ H.size ≤ b) : ∀ b, rfp fl (gs.set i g') b → rfp fl gs b ∨ H.size ≤ b := by
  rintro b (q | ⟨gj, hgj, q⟩)
  · exact .inl (.inl q)
  · rcases List.mem_or_eq_of_mem_set hgj with r | r
    · exact .inl (.inr ⟨gj, r, q⟩)
    · subst r
      rcases q with q | q
      · exact (h1 b q).imp (fun z => .inr ⟨g, List.mem_of_getElem? hg, .inl z⟩) id
      · exact (h2 b q).imp (fun z => .inr ⟨g, List.mem_of_getElem? hg, .inr z⟩) id

theorem idxI_neg {s : Dk} {n : ByteArray} : decide (idxI s n < 0) = (s.idx n).isNone := by
  unfold idxI
  cases s.idx n with
  | none => rfl
  | some i => simp

end Go.Proofs.YtjjfngnokbboeaaDoor
