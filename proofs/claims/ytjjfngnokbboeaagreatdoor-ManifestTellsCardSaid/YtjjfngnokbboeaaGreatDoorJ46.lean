/-
  The disk: Copy.
-/
import Derived.Test.YtjjfngnokbboeaaGreatDoorJ38
namespace Go.Proofs.YtjjfngnokbboeaaGreatDoor
open Go.MapKept

theorem perm_lift {α β : Type} {xs fs : List α} (h : xs.Perm fs) : ∀ zs : List (α × β), zs.map (·.1) = xs → ∃ zs' : List (α × β), zs'.Perm zs ∧ zs'.map (·.1) = fs := by
  induction h with
  | nil => intro zs hz; exact ⟨zs, .refl _, hz⟩
  | cons x h ih =>
    intro zs hz
    cases zs with
    | nil => simp at hz
    | cons z zs =>
      simp only [List.map_cons, List.cons.injEq] at hz
      obtain ⟨zs', h1, h2⟩ := ih zs hz.2
      exact ⟨z :: zs', h1.cons z, by simp [hz.1, h2]⟩
  | swap x y l =>
    intro zs hz
    match zs, hz with
    | a :: b :: zs, hz =>
      simp only [List.map_cons, List.cons.injEq] at hz
      exact ⟨b :: a :: zs, List.Perm.swap a b zs, by simp [hz.1, hz.2.1, hz.2.2]⟩
  | trans h1 h2 ih1 ih2 =>
    intro zs hz
    obtain ⟨z1, p1, e1⟩ := ih1 zs hz
    obtain ⟨z2, p2, e2⟩ := ih2 z1 e1
    exact ⟨z2, p2.trans p1, e2⟩

/-- The files may be told in another order. -/
theorem FilesAt.permute {H : Heap} {x : DG} {xs fs : List Fl} (h : FilesAt H x xs) (hp : xs.Perm fs) : ∃ gs, FilesAt H ⟨x.m, x.es, x.clk, gs⟩ fs ∧ ∀ b, DG.fp ⟨x.m, x.es, x.clk, gs⟩ b ↔ x.fp b := by
  have hlen := h.len
  obtain ⟨zs, hz⟩ : ∃ zs, zs = xs.zip x.gs := ⟨_, rfl⟩
  have hz1 : zs.map (·.1) = xs := by rw [hz]; exact List.map_fst_zip (by omega)
  have hz2 : zs.map (·.2) = x.gs := by rw [hz]; exact List.map_snd_zip (by omega)
  obtain ⟨zs', p, e⟩ := perm_lift hp zs hz1
  have at1 : ∀ (i : Nat) (z : Fl × FG), zs[i]? = some z → xs[i]? = some z.1 ∧ x.gs[i]? = some z.2 := fun i z hz' => by
    rw [← hz1, ← hz2, List.getElem?_map, List.getElem?_map, hz']; exact ⟨rfl, rfl⟩
  have at2 : ∀ (i : Nat) (f : Fl) (g : FG), xs[i]? = some f → x.gs[i]? = some g → zs[i]? = some (f, g) := fun i f g h1 h2 => by
    rw [← hz1, List.getElem?_map] at h1
    rw [← hz2, List.getElem?_map] at h2
    cases hq : zs[i]? with
    | none => rw [hq] at h1; cases h1
    | some z => rw [hq] at h1 h2; simp at h1 h2; rw [← h1, ← h2]
  have at3 : ∀ (i : Nat) (f : Fl) (g : FG), fs[i]? = some f → (zs'.map (·.2))[i]? = some g → zs'[i]? = some (f, g) := fun i f g h1 h2 => by
    rw [← e, List.getElem?_map] at h1
    rw [List.getElem?_map] at h2
    cases hq : zs'[i]? with
    | none => rw [hq] at h1; cases h1
    | some z => rw [hq] at h1 h2; simp at h1 h2; rw [← h1, ← h2]
  have pw : zs.Pairwise fun a b => ∀ y, a.2.fp y → ¬ b.2.fp y := by
    rw [List.pairwise_iff_getElem]
    intro i j hi hj hij
    exact h.apart i j zs[i].2 zs[j].2 (at1 i _ (List.getElem?_eq_getElem hi)).2 (at1 j _ (List.getElem?_eq_getElem hj)).2 (by omega)
  have pw' : zs'.Pairwise fun a b => ∀ y, a.2.fp y → ¬ b.2.fp y := (p.pairwise_iff (fun {a b} hab y h1 h2 => hab y h2 h1)).2 pw
  refine ⟨zs'.map (·.2), ⟨h.map, by rw [← e]; simp, by rw [← hp.length_eq]; exact h.size, ?_, ?_, ?_⟩, ?_⟩
  · intro i f g h1 h2
    have hm := p.mem_iff.1 (List.mem_of_getElem? (at3 i f g h1 h2))
    obtain ⟨j, hj⟩ := List.mem_iff_getElem?.1 hm
    exact h.ent j f g (at1 j _ hj).1 (at1 j _ hj).2
  · intro k v hkv
    obtain ⟨i, f, g, h1, h2, h3, h4⟩ := h.ent' k v hkv
    have hm := p.mem_iff.2 (List.mem_of_getElem? (at2 i f g h1 h2))
    obtain ⟨j, hj⟩ := List.mem_iff_getElem?.1 hm
    exact ⟨j, f, g, by rw [← e, List.getElem?_map, hj]; rfl, by simp only; rw [List.getElem?_map, hj]; rfl, h3, h4⟩
  · intro i j g g' h1 h2 hij
    simp only [List.getElem?_map] at h1 h2
    obtain ⟨a, ha, rfl⟩ := Option.map_eq_some_iff.1 h1
    obtain ⟨b, hb, rfl⟩ := Option.map_eq_some_iff.1 h2
    obtain ⟨hi, rfl⟩ := List.getElem?_eq_some_iff.1 ha
    obtain ⟨hj, rfl⟩ := List.getElem?_eq_some_iff.1 hb
    rw [List.pairwise_iff_getElem] at pw'
    rcases Nat.lt_or_ge i j with q | q
    · exact pw' i j hi hj q
    · intro y h1 h2
      exact pw' j i hj hi (by omega) y h2 h1
  · intro b
    have hgm : ∀ g, g ∈ zs'.map (·.2) ↔ g ∈ x.gs := fun g => by rw [← hz2]; exact (p.map _).mem_iff
    constructor
    · rintro (q | ⟨g, hg, hb⟩)
      · exact .inl q
      · exact .inr ⟨g, (hgm g).1 hg, hb⟩
    · rintro (q | ⟨g, hg, hb⟩)
      · exact .inl q
      · exact .inr ⟨g, (hgm g).2 hg, hb⟩

def fileOf (s : Dk) (e : MapEntry) : Fl := match keyName e.key with | some n => (match s.idx n with | some i => s.file i | none => ⟨ByteArray.empty, [], []⟩) | none => ⟨ByteArray.empty, [], []⟩

theorem files_perm {H : Heap} {x : DG} {s : Dk} (h : FilesAt H x s.files) (hw : s.WF) {l : List MapEntry} (hl : l.Perm x.es.toList) : (l.map (fileOf s)).Perm s.files := by
  have h1 := (h.perm hw).map fun k => match keyName k with | some n => (match s.idx n with | some i => s.file i | none => ⟨ByteArray.empty, [], []⟩) | none => ⟨ByteArray.empty, [], []⟩
  rw [List.map_map, List.map_map] at h1
  have h2 : s.files.map ((fun k => match keyName k with | some n => (match s.idx n with | some i => s.file i | none => ⟨ByteArray.empty, [], []⟩) | none => (⟨ByteArray.empty, [], []⟩ : Fl)) ∘ fun f => Value.string f.name) = s.files := by
    conv => rhs; rw [← List.map_id s.files]
    apply List.map_congr_left
    intro f hf
    obtain ⟨i, hi⟩ := List.mem_iff_getElem?.1 hf
    simp only [Function.comp_apply, keyName, Dk.idx_eq hw hi, Dk.file_eq hi, id]
  rw [h2] at h1
  exact (hl.map _).trans h1

end Go.Proofs.YtjjfngnokbboeaaGreatDoor
