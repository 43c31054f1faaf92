/-
  The disk: Restart.
-/
import Derived.Test.YtjjfngnokbboeaaDoorDkr
namespace Go.Proofs.YtjjfngnokbboeaaDoor
open Go.MapKept

def keyName (v : Value) : Option ByteArray := match v with | .string n => some n | _ => none
/-- Is a file's entry among those that were met? -/
def doneB (l : List MapEntry) (n : ByteArray) : Bool := l.any fun e => match keyName e.key with | some m => m.toList == n.toList | none => false
theorem doneB_iff {l : List MapEntry} {n : ByteArray} : doneB l n = true ↔ ∃ e ∈ l, e.key = .string n := by
  unfold doneB
  rw [List.any_eq_true]
  constructor
  · rintro ⟨e, he, h⟩
    refine ⟨e, he, ?_⟩
    cases hk : e.key <;> rw [hk] at h <;> simp [keyName] at h
    rw [ba_eq h]
  · rintro ⟨e, he, h⟩
    exact ⟨e, he, by rw [h]; simp [keyName]⟩
theorem doneB_snoc {l : List MapEntry} {e : MapEntry} {m n : ByteArray} (hk : e.key = .string m) : doneB (l ++ [e]) n = (doneB l n || (n.toList == m.toList)) := by
  rw [Bool.eq_iff_iff, Bool.or_eq_true, doneB_iff, doneB_iff, beq_iff_eq]
  constructor
  · rintro ⟨y, hy, h⟩
    rcases List.mem_append.1 hy with q | q
    · exact .inl ⟨y, q, h⟩
    · simp at q; subst q
      rw [hk] at h
      rw [str_inj h]; exact .inr rfl
  · rintro (⟨y, hy, h⟩ | h)
    · exact ⟨y, List.mem_append_left _ hy, h⟩
    · exact ⟨e, by simp, by rw [hk, ba_eq h]⟩
def nosOf (s : Dk) (e : MapEntry) : List Int := match keyName e.key with | some n => (match s.idx n with | some i => (s.file i).log.map (·.no) | none => []) | none => []

theorem sum_zero {α : Type} (l : List α) : (l.map fun _ => 0).sum = 0 := by
  induction l with
  | nil => rfl
  | cons a l ih => simpa using ih
theorem sum_sub {α : Type} (f : α → Nat) : ∀ (l es : List α), l.Nodup → (∀ y ∈ l, y ∈ es) → (l.map f).sum ≤ (es.map f).sum
  | [], es, _, _ => by simp
  | a :: l, es, hn, hs => by
    obtain ⟨s, t, rfl⟩ := List.append_of_mem (hs a List.mem_cons_self)
    rw [List.nodup_cons] at hn
    have := sum_sub f l (s ++ t) hn.2 (fun y hy => by
      have := hs y (List.mem_cons_of_mem _ hy)
      rw [List.mem_append, List.mem_cons] at this
      rw [List.mem_append]
      rcases this with h | h | h
      · exact .inl h
      · subst h; exact absurd hy hn.1
      · exact .inr h)
    simp only [List.map_cons, List.sum_cons, List.map_append, List.sum_append] at this ⊢
    omega
theorem sum_one {α : Type} (f g : α → Nat) : ∀ (l : List α) (i : Nat) (a : α), l[i]? = some a → (∀ j b, l[j]? = some b → j ≠ i → g b = f b) → (l.map g).sum + f a = (l.map f).sum + g a
  | [], i, a, h, _ => by simp at h
  | x :: l, 0, a, h, hs => by
    simp at h; subst h
    have : l.map g = l.map f := by
      apply List.map_congr_left
      intro b hb
      obtain ⟨j, hj⟩ := List.mem_iff_getElem?.1 hb
      exact hs (j + 1) b (by simpa using hj) (by omega)
    simp only [List.map_cons, List.sum_cons, this]; omega
  | x :: l, i + 1, a, h, hs => by
    have h1 := sum_one f g l i a (by simpa using h) (fun j b hj hne => hs (j + 1) b (by simpa using hj) (by omega))
    have h2 := hs 0 x rfl (by omega)
    simp only [List.map_cons, List.sum_cons]; omega

/-- The entries' keys are the files' names. -/
theorem FilesAt.perm {H : Heap} {x : DG} {s : Dk} (h : FilesAt H x s.files) (hw : s.WF) : (x.es.toList.map (·.key)).Perm (s.files.map fun f => Value.string f.name) := by
  have hn2 : (s.files.map fun f => Value.string f.name).Nodup := by
    have := hw.nodup
    unfold List.Nodup at this ⊢
    rw [List.pairwise_map] at this ⊢
    exact this.imp fun hne e => hne (by rw [str_inj e])
  rw [List.perm_ext_iff_of_nodup h.map.stamped.2.2 hn2]
  intro k
  constructor
  · intro hk
    obtain ⟨e, he, rfl⟩ := List.mem_map.1 hk
    obtain ⟨i, f, g, h1, h2, h3, h4⟩ := h.ent' e.key e.val ⟨e, he, rfl, rfl⟩
    rw [h3]
    exact List.mem_map.2 ⟨f, List.mem_of_getElem? h1, rfl⟩
  · intro hk
    obtain ⟨f, hf, rfl⟩ := List.mem_map.1 hk
    obtain ⟨i, hi⟩ := List.mem_iff_getElem?.1 hf
    obtain ⟨g, _, ⟨e, he, h1, h2⟩, _⟩ := h.gAt hi
    exact List.mem_map.2 ⟨e, he, h1⟩

theorem nos_perm {H : Heap} {x : DG} {s : Dk} (h : FilesAt H x s.files) (hw : s.WF) {l : List MapEntry} (hl : l.Perm x.es.toList) : (l.flatMap (nosOf s)).Perm s.nos := by
  have h1 : ((x.es.toList.map (·.key)).flatMap fun k => match keyName k with | some n => (match s.idx n with | some i => (s.file i).log.map (·.no) | none => []) | none => []).Perm ((s.files.map fun f => Value.string f.name).flatMap fun k => match keyName k with | some n => (match s.idx n with | some i => (s.file i).log.map (·.no) | none => []) | none => []) := List.Perm.flatMap_right _ (h.perm hw)
  rw [List.flatMap_map, List.flatMap_map] at h1
  have h2 : (s.files.flatMap fun f => match keyName (Value.string f.name) with | some n => (match s.idx n with | some i => (s.file i).log.map (·.no) | none => []) | none => []) = s.nos := by
    unfold Dk.nos
    rw [List.flatMap_def, List.flatMap_def]
    congr 1
    apply List.map_congr_left
    intro f hf
    obtain ⟨i, hi⟩ := List.mem_iff_getElem?.1 hf
    simp only [keyName, Dk.idx_eq hw hi, Dk.file_eq hi]
  rw [h2] at h1
  exact (List.Perm.flatMap_right _ hl).trans h1

theorem Dk.nos_length (s : Dk) : s.nos.length = s.logs := by
  unfold Dk.nos Dk.logs
  rw [List.length_flatMap]
  simp

theorem Dk.after_eq {s : Dk} {L : List Int} (hL : L.Perm s.nos) (f : Fl) : backF (fun w => keepBit s.keep (L.filter fun x => decide (x < w.no)).length) f = s.after f := by
  have : ∀ no : Int, (L.filter fun x => decide (x < no)).length = s.rank no := fun no => by
    unfold Dk.rank; exact (hL.filter _).length_eq
  unfold backF Dk.after
  congr 2
  apply List.filter_congr
  intro w _
  rw [this]

theorem Dk.after_le (s : Dk) (f : Fl) : (s.after f).pages.length ≤ f.pages.length := by
  show (((f.log.filter _).foldl putP f.synced)).length ≤ _
  exact puts_mono f.log _ f.synced f.synced (Nat.le_refl _)

end Go.Proofs.YtjjfngnokbboeaaDoor
