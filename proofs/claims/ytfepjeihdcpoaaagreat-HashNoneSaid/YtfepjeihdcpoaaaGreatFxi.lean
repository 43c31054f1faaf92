/-
  Ground, ninth text: maps.
-/
import Derived.Test.YtfepjeihdcpoaaaGreatFxg
import Derived.ProofKit
namespace Go.Proofs.YtfepjeihdcpoaaaGreat
open Go.MapKept

/-- The map 'r' holds the entries 'es', whose keys are of the kind 'd'. -/
structure MapAt (d : TypeDesc) (H : Heap) (r : Nat) (es : Array MapEntry) (clk : Nat) : Prop where
  obj : H[r]? = some (.map es clk)
  stamped : Stamped es clk
  keys : ∀ x ∈ es.toList, IsKey d x.key

def HasE (es : Array MapEntry) (k v : Value) : Prop := ∃ e ∈ es.toList, e.key = k ∧ e.val = v

theorem MapAt.lt {d : TypeDesc} {H : Heap} {r : Nat} {es : Array MapEntry} {clk : Nat} (h : MapAt d H r es clk) : r < H.size := (Array.getElem?_eq_some_iff.1 h.obj).1
theorem MapAt.mod {d : TypeDesc} {F : Nat → Prop} {H H' : Heap} {r : Nat} {es : Array MapEntry} {clk : Nat} (h : MapAt d H r es clk) (hm : Mod F H H') (hn : ¬ F r) : MapAt d H' r es clk :=
  ⟨(hm.same r h.lt hn).trans h.obj, h.stamped, h.keys⟩
theorem MapAt.new (d : TypeDesc) (H : Heap) : MapAt d (H.push (.map #[] 0)) H.size #[] 0 := ⟨by simp, stamped_empty 0, by simp⟩

section
variable {P : Program} {t kt et : TypeId} {d : TypeDesc} {H : Heap} {r : Nat} {es : Array MapEntry} {clk : Nat} {k : Value}

theorem MapAt.set {H : Heap} {es es' : Array MapEntry} {clk clk' : Nat} (h : MapAt d H r es clk) (hs : Stamped es' clk') (hk : ∀ x ∈ es'.toList, IsKey d x.key) :
    MapAt d (H.setIfInBounds r (.map es' clk')) r es' clk' ∧ Mod (fun b => b = r) H (H.setIfInBounds r (.map es' clk')) :=
  ⟨⟨by simp [h.lt], hs, hk⟩, ⟨by simp, fun b _ hn => Array.getElem?_setIfInBounds_ne (fun e => hn e.symm)⟩⟩

/-- A key that is not there. -/
theorem doU_insert {v : Value} {K : Heap → Prop} (ht : P.underlying t = some (.map kt et)) (hd : P.underlying kt = some d) (hm : MapAt d H r es clk) (hk : IsKey d k) (hno : ∀ u, ¬ HasE es k u)
    (hK : ∀ H', MapAt d H' r (es.push { key := k, val := v, born := clk }) (clk + 1) → Mod (fun b => b = r) H H' → H'.size = H.size → K H') : doU P (Instr.mapUpdate t (.map (some r)) k v) H K := by
  intro w hw
  subst hw
  have hb := hm.obj
  rcases findNow_spec hk es.toList 0 hm.keys with ⟨h1, h2⟩ | ⟨j, e, h1, h2, h3⟩
  · obtain ⟨m1, m2⟩ := hm.set (stamped_push (val := v) hm.stamped h2) (by
      intro x hx
      simp only [Array.toList_push, List.mem_append, List.mem_singleton] at hx
      rcases hx with hx | rfl
      · exact hm.keys x hx
      · exact hk)
    refine ⟨(), { w with heap := w.heap.setIfInBounds r (.map (es.push { key := k, val := v, born := clk }) (clk + 1)) }, ?_, hK _ m1 m2 (by simp), (.of_le rfl (Nat.le_refl _))⟩
    simp [Instr.mapUpdate, run_underlying ht, MapKept.run_getObj_map hb, run_checkKey hd hk, run_findKey hd h1, MapKept.run_setObj_map _ hb, Result.andThen]
  · exact absurd ⟨e, List.mem_of_getElem? h2, h3, rfl⟩ (hno e.val)

/-! ### A range over a map that nobody writes to meanwhile -/

end
end Go.Proofs.YtfepjeihdcpoaaaGreat
