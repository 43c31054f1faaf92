/-
  The document's disk: Remove, Rename, Len, Read, Sync, Write.
-/
import Derived.Test.YtjjfngnokbboeaaDoorDrc
namespace Go.Proofs.YtjjfngnokbboeaaDoor
open Go.MapKept

theorem toBytesC_ok {b : List UInt8} {H : Heap} {K : Sl → Heap → Prop} (hK : ∀ s' H', Byts H' s' b → Mod (fun _ => False) H H' → (∀ q, ownB s' q → H.size ≤ q) → s'.n ≤ s'.c → K s' H') :
    doT cSl Tryd.prog (convert ty_string ty_sl_uint8 (.string (strB b))) H K := by
  intro w hw
  subst hw
  have hr := run_bytes_of_string (P := Tryd.prog) w ty_string ty_sl_uint8 ty_uint8 (strB b) (by kernel_rfl) (by kernel_rfl) (by kernel_rfl)
  have hsz : (strB b).size = b.length := by simp [strB, ByteArray.size]
  refine ⟨_, _, hr, ⟨⟨some ⟨w.heap.size, 0, none⟩, (strB b).size, grownCap w (strB b).size 0 ty_uint8⟩, rfl, hK _ _ ⟨by simp [u8i, hsz], ?_⟩ (Mod.push _ _ _) ?_ (grownCap_ge _ _ _ _)⟩, (.of_le rfl (Nat.le_succ _))⟩
  · intro i v hv
    rw [u8i_vals] at hv
    refine ⟨_, rfl, ?_⟩
    rw [add_lit0]
    have hi : i < b.length := by have := (List.getElem?_eq_some_iff.1 hv).1; simpa [pgV] using this
    have hb : (bytesRow (strB b) (grownCap w (strB b).size 0 ty_uint8))[i]? = some v := by
      unfold bytesRow
      rw [Array.getElem?_append_left (by simp [strB]; exact hi)]
      rw [← hv]
      simp [strB, pgV]
    exact hCell_of (t := ty_uint8) (fz := ((bytesRow (strB b) (grownCap w (strB b).size 0 ty_uint8)).size, (bytesRow (strB b) (grownCap w (strB b).size 0 ty_uint8)).size + 1)) (by show (w.heap.push _)[w.heap.size]? = _; simp) hb
  · rintro q ⟨ad, e1, e2⟩; cases e1; have : w.heap.size = q := e2; omega

theorem toBytes_ok {b : List UInt8} {H : Heap} {K : Sl → Heap → Prop} (hK : ∀ s' H', Byts H' s' b → Mod (fun _ => False) H H' → (∀ q, ownB s' q → H.size ≤ q) → K s' H') :
    doT cSl Tryd.prog (convert ty_string ty_sl_uint8 (.string (strB b))) H K := toBytesC_ok fun s' H' h1 h2 h3 _ => hK s' H' h1 h2 h3

theorem Byts.nil (H : Heap) : Byts H (Sl.mk none 0 0) [] := ⟨rfl, Reads.nil _ _⟩

end Go.Proofs.YtjjfngnokbboeaaDoor
