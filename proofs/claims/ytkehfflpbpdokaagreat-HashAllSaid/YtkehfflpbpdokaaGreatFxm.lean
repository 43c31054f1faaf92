/-
 Ground, twelfth text: a range over a map, told by the list of entries that were met.
-/
import Derived.Test.YtkehfflpbpdokaaGreatFxk
namespace Go.Proofs.YtkehfflpbpdokaaGreat
open Go.MapKept
theorem stamped_nodup {es : Array MapEntry} {clk : Nat} (h : Stamped es clk) : es.toList.Nodup := by
 have := h.2.1
 unfold List.Nodup at this ⊢
 rw [List.pairwise_map] at this
 exact this.imp fun hne e => hne (by rw [e])
theorem stamped_born {es : Array MapEntry} {clk : Nat} (h : Stamped es clk) {x y : MapEntry} (hx : x ∈ es.toList) (hy : y ∈ es.toList) (hb : x.born = y.born) : x = y := by
 have key : ∀ l : List MapEntry, (l.map (·.born)).Nodup → x ∈ l → y ∈ l → x = y := by
  intro l
  induction l with
  | nil => intro _ h; cases h
  | cons a l ih =>
    intro hn h1 h2
    rw [List.map_cons, List.nodup_cons] at hn
    rcases List.mem_cons.1 h1 with e1 | q1 <;> rcases List.mem_cons.1 h2 with e2 | q2
    ·rw [e1, e2]
    ·exact absurd (by rw [← e1, hb]; exact List.mem_map_of_mem q2) hn.1
    ·exact absurd (by rw [← e2, ← hb]; exact List.mem_map_of_mem q1) hn.1
    ·exact ih hn.2 q1 q2
 exact key _ h.2.1 hx hy
theorem map_range {P : Program} {d : TypeDesc} {H : Heap} {r : Nat} {es : Array MapEntry} {clk it : Nat} {α : Type} {x0 : α} {ty : TypeId}
  {B : (α → Heap → Prop) → α → (Value × Value) → Heap → Prop} {E : α → Heap → Prop} (I : List MapEntry → α → Heap → Prop)
  (hm : MapAt d H r es clk) (hit : H[it]? = some (.mapIter (some r) clk #[] clk)) (h0 : I [] x0 H)
  (hfr : ∀ l x A A', I l x A → Mod (fun b => b = it) A A' → A'.size = A.size → I l x A')
  (hs : ∀ l e x A next, I l x A → e ∈ es.toList → e ∉ l → (∀ y ∈ l, y ∈ es.toList) → l.Nodup → A[r]? = some (.map es clk) → (∃ o, A[it]? = some o) →
   (∀ x' A', I (l ++ [e]) x' A' → A'[r]? = A[r]? → A'[it]? = A[it]? → next x' A') → B next x (e.key, e.val) A)
  (hE : ∀ l x A, I l x A → l.Perm es.toList → A[r]? = some (.map es clk) → E x A) :
  LoopVC α x0 H (fun next x H2 => doT cNext P (Instr.next (.pointer (some ⟨it, 0, none⟩)) false ty) H2 fun (nx : Bool × List Value) H3 =>
   br nx.1 (doT cTwo P (Instr.entry (.pointer (some ⟨it, 0, none⟩))) H3 fun (en : Value × Value) H4 => B next x en H4) (E x H3)) := by
 have hst := hm.stamped
 have hnd := stamped_nodup hst
 refine ⟨List MapEntry, fun l x A => I l x A ∧ A[it]? = some (.mapIter (some r) clk (l.map (·.born)).toArray clk) ∧ A[r]? = some (.map es clk) ∧ l.Nodup ∧ (∀ y ∈ l, y ∈ es.toList), fun l => es.size - l.length, ⟨[], h0, by simpa using hit, hm.obj, List.nodup_nil, by simp⟩, ?_⟩
 rintro l x A ⟨hI, hi, hr, hl, hsub⟩
 have hmA : MapAt d A r es clk := ⟨hr, hst, hm.keys⟩
 have hri : r ≠ it := by intro e; rw [← e, hr] at hi; cases hi
 refine doT_next hmA hi ?_ ?_
 ·intro e he hne A' hi' hmod hsz
  have hel : e ∉ l := fun h => by
   have : (l.map (·.born)).toArray.contains e.born = true := by simp; exact ⟨e, h, rfl⟩
   rw [this] at hne; cases hne
  have hr' : A'[r]? = some (.map es clk) := (hmod.same r (obj_lt hr) hri).trans hr
  refine doT_entry (hmA.mod hmod hri) hi' he ?_
  refine hs l e x A' _ (hfr l x A A' hI hmod hsz) he hel hsub hl hr' ⟨_, hi'⟩ fun x' A'' hI'' h1 h2 => ⟨l ++ [e], ⟨hI'', ?_, by rw [h1]; exact hr', ?_, ?_⟩, ?_⟩
  ·rw [h2, hi']; simp
  ·rw [List.nodup_append]
   exact ⟨hl, by simp, by intro a ha b hb; simp at hb; subst hb; intro e2; subst e2; exact hel ha⟩
  ·intro y hy
   rcases List.mem_append.1 hy with q | q
   ·exact hsub y q
   ·simp at q; subst q; exact he
  ·have hlt : (l ++ [e]).length ≤ es.toList.length := by
    refine List.Nodup.length_le_of_subset ?_ ?_
    ·rw [List.nodup_append]
     exact ⟨hl, by simp, by intro a ha b hb; simp at hb; subst hb; intro e2; subst e2; exact hel ha⟩
    ·intro y hy
     rcases List.mem_append.1 hy with q | q
     ·exact hsub y q
     ·simp at q; subst q; exact he
   simp at hlt ⊢
   omega
 ·intro hall
  refine hE l x A hI ?_ hr
  rw [List.perm_ext_iff_of_nodup hl hnd]
  intro y
  refine ⟨hsub y, fun hy => ?_⟩
  have h1 := hall y hy
  simp at h1
  obtain ⟨z, hz, hzb⟩ := h1
  have := stamped_born hst (hsub z hz) hy hzb
  rw [← this]; exact hz
end Go.Proofs.YtkehfflpbpdokaaGreat
