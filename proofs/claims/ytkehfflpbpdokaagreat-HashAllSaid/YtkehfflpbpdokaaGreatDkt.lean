/-
 The disk: Restart.
-/
import Derived.Test.YtkehfflpbpdokaaGreatDkr
namespace Go.Proofs.YtkehfflpbpdokaaGreat
open Go.MapKept
def keyName (v : Value) : Option ByteArray := match v with | .string n => some n | _ => none
theorem FilesAt.perm {H : Heap} {x : DG} {s : Dk} (h : FilesAt H x s.files) (hw : s.WF) : (x.es.toList.map (·.key)).Perm (s.files.map fun f => Value.string f.name) := by
 have hn2 : (s.files.map fun f => Value.string f.name).Nodup := by
  have := hw.nodup
  unfold List.Nodup at this ⊢
  rw [List.pairwise_map] at this ⊢
  exact this.imp fun hne e => hne (by rw [str_inj e])
 rw [List.perm_ext_iff_of_nodup h.map.stamped.2.2 hn2]
 intro k
 constructor
 ·intro hk
  obtain ⟨e, he, rfl⟩ := List.mem_map.1 hk
  obtain ⟨i, f, g, h1, h2, h3, h4⟩ := h.ent' e.key e.val ⟨e, he, rfl, rfl⟩
  rw [h3]
  exact List.mem_map.2 ⟨f, List.mem_of_getElem? h1, rfl⟩
 ·intro hk
  obtain ⟨f, hf, rfl⟩ := List.mem_map.1 hk
  obtain ⟨i, hi⟩ := List.mem_iff_getElem?.1 hf
  obtain ⟨g, _, ⟨e, he, h1, h2⟩, _⟩ := h.gAt hi
  exact List.mem_map.2 ⟨e, he, h1⟩
end Go.Proofs.YtkehfflpbpdokaaGreat
