/-
 Trees: plain laws: a row is put in.
-/
import Derived.Test.YtlockeegebnofaaGreatDoorVc
import Derived.Test.YtlockeegebnofaaGreatDoorFxk
import Derived.Test.YtlockeegebnofaaGreatDoorFxo
import Derived.Test.YtlockeegebnofaaGreatDoorJ29
import Derived.Test.YtlockeegebnofaaGreatDoorJ32
import Derived.Test.YtlockeegebnofaaGreatDoorJ35
namespace Go.Proofs.YtlockeegebnofaaGreatDoor
section
variable {x x' : St} {W depth : Nat}
theorem Tn.lt : ∀ {a page : Nat} {s : Span} {L : List (List Int)} {P : List Nat}, Tn x W depth a page s L P → ∀ p ∈ P, p < x.N
 | 0, page, s, L, P, h => by
   have h' := h.page
   obtain ⟨n, h1, h2, h3, h4⟩ := h
   rw [h4]
   intro p hp
   rw [List.mem_singleton] at hp
   rw [hp]; exact h'.2
 | a + 1, page, s, L, P, h => by
   have h' := h.page
   obtain ⟨n, Ls, Ps, h1, h2, ⟨k1, k2, k3, k4⟩, h4, h5⟩ := h
   rw [h5]
   intro p hp
   rcases List.mem_cons.1 hp with q | q
   ·rw [q]; exact h'.2
   ·obtain ⟨i, hi, hm⟩ := mem_flatI q
    exact Tn.lt (k4 i (by omega)) p hm
theorem node_deep {x : St} {a page d d' : Nat} {s : Span} {w : Int} {n : Nd} (h : x.node w d a page s = some n) (hr : n.rows ≠ []) : x.node w d' a page s = some n := by
 unfold St.node at h ⊢
 split at h
 ·rename_i hp
  rw [if_pos hp]
  unfold nodeOf at h ⊢
  have key : ∀ (kids : List Nat) (b : List UInt8), nodeFin w d s kids b = some n → nodeFin w d' s kids b = some n := by
   intro kids b hb
   have e2 := (nodeFin_some hb).2.1
   unfold nodeFin at hb ⊢
   split at hb
   ·cases hb
   ·rename_i h1
    rw [if_neg h1]
    split at hb
    ·cases hb
    ·rename_i h2
     rw [if_neg]
     ·exact hb
     ·rintro (q | ⟨q, _⟩)
      ·exact h2 (.inl q)
      ·exact hr (e2.trans q)
  split at h
  ·rename_i hc; rw [if_pos hc]; exact key _ _ h
  ·rename_i hc
   rw [if_neg hc]
   split at h
   ·rename_i hc2
    rw [if_pos hc2]
    split at h
    ·cases h
    ·rename_i hc3; rw [if_neg hc3]; exact key _ _ h
   ·cases h
 ·cases h
theorem Nd.Fine.deep {n : Nd} {W d d' a : Nat} {s : Span} (h : n.Fine W d a s) (hr : n.rows ≠ []) : n.Fine W d' a s := ⟨h.leaf, h.inner, h.holds, fun _ => hr, h.cols, h.kids, h.fit⟩
theorem Tn.deep {d d' : Nat} : ∀ {a page : Nat} {s : Span} {L : List (List Int)} {P : List Nat}, Tn x W d a page s L P → (1 < d ∨ (a = 0 ∧ L ≠ [])) → Tn x W d' a page s L P
 | 0, page, s, L, P, ⟨n, h1, h2, h3, h4⟩, hd => by
   have hr : n.rows ≠ [] := by
    rcases hd with q | ⟨_, q⟩
    ·exact h2.some_ q
    ·rw [← h3]; exact q
   exact ⟨n, node_deep h1 hr, h2.deep hr, h3, h4⟩
 | a + 1, page, s, L, P, ⟨n, Ls, Ps, h1, h2, ⟨k1, k2, k3, k4⟩, h4, h5⟩, hd => by
   have hd1 : 1 < d := by rcases hd with q | ⟨q, _⟩ <;> omega
   have hr : n.rows ≠ [] := h2.some_ hd1
   exact ⟨n, Ls, Ps, node_deep h1 hr, h2.deep hr, ⟨k1, k2, k3, fun i hi => (k4 i hi).deep (.inl hd1)⟩, h4, h5⟩
end
theorem insAt_getD {α : Type} {k : Nat} {v d : α} {l : List α} (h : k ≤ l.length) (i : Nat) : (insAt k v l).getD i d = if i < k then l.getD i d else if i = k then v else l.getD (i - 1) d := by
 simp only [List.getD]
 rw [insAt_get h]
 split
 ·rfl
 ·split <;> rfl
theorem insAt_asc {k : Nat} {v : List Int} {l : List (List Int)} (h : Asc l) (hk : k ≤ l.length) (h1 : ∀ i, i < k → ltR (l.getD i []) v) (h2 : ∀ i, k ≤ i → i < l.length → ltR v (l.getD i [])) : Asc (insAt k v l) := by
 unfold insAt Asc
 rw [List.pairwise_append]
 refine ⟨h.sublist (List.take_sublist _ _), List.pairwise_cons.2 ⟨fun b hb => ?_, h.sublist (List.drop_sublist _ _)⟩, fun a ha b hb => ?_⟩
 ·obtain ⟨i, hi, rfl⟩ := List.mem_iff_getElem.1 hb
  rw [List.length_drop] at hi
  have := h2 (k + i) (by omega) (by omega)
  rw [getDo (by omega)] at this
  rw [List.getElem_drop]; exact this
 ·obtain ⟨i, hi, rfl⟩ := List.mem_iff_getElem.1 ha
  rw [List.length_take] at hi
  have g1 := h1 i (by omega)
  rw [getDo (by omega)] at g1
  rw [List.getElem_take]
  rcases List.mem_cons.1 hb with q | q
  ·rw [q]; exact g1
  ·obtain ⟨j, hj, rfl⟩ := List.mem_iff_getElem.1 q
   rw [List.length_drop] at hj
   have g2 := h2 (k + j) (by omega) (by omega)
   rw [getDo (by omega)] at g2
   rw [List.getElem_drop]
   exact ltR_trans g1 g2
theorem getD_take {α : Type} {l : List α} {n i : Nat} {d : α} (h : i < n) : (l.take n).getD i d = l.getD i d := by
 simp only [List.getD]
 rw [List.getElem?_take, if_pos h]
theorem getD_drop {α : Type} {l : List α} {n i : Nat} {d : α} : (l.drop n).getD i d = l.getD (n + i) d := by
 simp only [List.getD]
 rw [List.getElem?_drop]
def Plus (l : List Int) (L L' : List (List Int)) : Prop := ∀ y, y ∈ L' ↔ y = l ∨ y ∈ L
theorem Plus.frame {l : List Int} {L L' A B : List (List Int)} (h : Plus l L L') : Plus l (A ++ (L ++ B)) (A ++ (L' ++ B)) := by
 intro y
 have := h y
 simp only [List.mem_append]
 grind
structure Grew (x x' : St) (P P' : List Nat) : Prop where
 le : x.N ≤ x'.N
 keep : ∀ p, p < x.N → p ∉ P → x'.T p = x.T p
 nodup : P'.Nodup
 mem : ∀ p ∈ P', p ∈ P ∨ (x.N ≤ p ∧ p < x'.N)
 len : P'.length + x.N = P.length + x'.N
theorem Grew.trans {x x' x'' : St} {P P' P'' : List Nat} (h : Grew x x' P P') (k : Grew x' x'' P' P'') : Grew x x'' P P'' where
 le := Nat.le_trans h.le k.le
 keep p hp hn := (k.keep p (Nat.lt_of_lt_of_le hp h.le) fun q => by
  rcases h.mem p q with u | u
  ·exact hn u
  ·omega).trans (h.keep p hp hn)
 nodup := k.nodup
 mem p hp := by
  have h1 := h.le
  have h2 := k.le
  rcases k.mem p hp with u | u
  ·rcases h.mem p u with v | v
   ·exact .inl v
   ·exact .inr (by omega)
  ·exact .inr (by omega)
 len := by have := h.len; have := k.len; omega
theorem Grew.frame {x x' : St} {P P' X Y : List Nat} (h : Grew x x' P P') (hn : (X ++ (P ++ Y)).Nodup) (hl : ∀ p ∈ X ++ (P ++ Y), p < x.N) : Grew x x' (X ++ (P ++ Y)) (X ++ (P' ++ Y)) where
 le := h.le
 keep p hp hq := h.keep p hp fun u => hq (by simp [u])
 nodup := by
  have key : ∀ p ∈ P', p ∉ P → x.N ≤ p := fun p hp hq => by
   rcases h.mem p hp with u | u
   ·exact absurd u hq
   ·exact u.1
  rw [List.nodup_append] at hn ⊢
  obtain ⟨n1, n2, n3⟩ := hn
  rw [List.nodup_append] at n2
  obtain ⟨n4, n5, n6⟩ := n2
  refine ⟨n1, List.nodup_append.2 ⟨h.nodup, n5, fun a ha b hb => ?_⟩, fun a ha b hb => ?_⟩
  ·intro e
   subst e
   by_cases q : a ∈ P
   ·exact n6 a q a hb rfl
   ·have := key a ha q
    have := hl a (by simp [hb])
    omega
  ·intro e
   subst e
   rcases List.mem_append.1 hb with u | u
   ·by_cases q : a ∈ P
    ·exact n3 a ha a (by simp [q]) rfl
    ·have := key a u q
     have := hl a (by simp [ha])
     omega
   ·exact n3 a ha a (by simp [u]) rfl
 mem p hp := by
  have := h.mem p
  simp only [List.mem_append] at hp ⊢
  grind
 len := by
  have := h.len
  simp only [List.length_append]
  omega
theorem Grew.cons {x x' : St} {P P' : List Nat} {p : Nat} (h : Grew x x' P P') (hn : (p :: P).Nodup) (hl : ∀ y ∈ p :: P, y < x.N) : Grew x x' (p :: P) (p :: P') := by
 have := Grew.frame (X := [p]) (Y := []) h (by simpa using hn) (by simpa using hl)
 simpa using this
structure Nd.Near (n : Nd) (W above : Nat) (s : Span) : Prop where
 leaf : above = 0 → n.kids = []
 inner : 0 < above → n.kids.length = n.rows.length + 1
 one : 1 ≤ n.rows.length
 holds : s.holds n.rows = true
 cols : ∀ l ∈ n.rows, l.length = W ∧ fitsL l
 kids : ∀ k ∈ n.kids, k < 4294967296
 near : (n.kids = [] ∧ (n.rows.length - 1) * (sizeL (W : Int)).toNat ≤ 504) ∨ (n.kids.length = n.rows.length + 1 ∧ 2 + 4 * (n.kids.length - 1) + (n.rows.length - 1) * (sizeL (W : Int)).toNat ≤ 504)
theorem Tn.mk {x : St} {W depth a page : Nat} {s : Span} {n : Nd} {L : List (List Int)} {Q : List Nat} (hW : W ≤ 16) (hp : page < x.N) (hT : x.T page = n.page) (hf : n.Fine W depth a s) (hb : Body x W depth a s n L Q) : Tn x W depth a page s L (page :: Q) := by
 refine Tn_iff.2 ⟨n, Q, ?_, hf, hb, rfl⟩
 unfold St.node
 rw [if_pos hp, hT]
 exact hf.read hW
theorem Body.congr {x x' : St} {W depth a : Nat} {s : Span} {n : Nd} {L : List (List Int)} {Q : List Nat} (h : Body x W depth a s n L Q) (hN : x.N ≤ x'.N) (hT : ∀ p ∈ Q, x'.T p = x.T p) : Body x' W depth a s n L Q := by
 cases a with
 | zero => exact h
 | succ a =>
   obtain ⟨Ls, Ps, ⟨k1, k2, k3, k4⟩, h2, h3⟩ := h
   exact ⟨Ls, Ps, ⟨k1, k2, k3, fun i hi => (k4 i hi).congr hN fun p hp => hT p (by rw [h3]; exact mem_flat hp)⟩, h2, h3⟩
theorem of_left {s : Span} {n : Nd} {i : Nat} (hi : i ≤ n.rows.length / 2) (h2 : 1 ≤ n.rows.length) : Span.of ⟨s.low, some n.up⟩ n.left i = s.of n i := by
 have e0 : n.left.rows = n.rows.take (n.rows.length / 2) := rfl
 have e1 : n.left.rows.length = n.rows.length / 2 := by rw [e0, List.length_take]; omega
 unfold Span.of
 rw [e1]
 congr 1
 ·split
  ·rw [e0, getD_take (by omega)]
  ·rfl
 ·rw [if_pos (show i < n.rows.length by omega)]
  split
  ·rw [e0, getD_take (by omega)]
  ·rw [show i = n.rows.length / 2 by omega]; rfl
theorem of_right {s : Span} {n : Nd} {i : Nat} (hk : n.kids ≠ []) (h2 : 1 ≤ n.rows.length) : Span.of ⟨some n.up, s.high⟩ n.right i = s.of n (n.rows.length / 2 + 1 + i) := by
 have e0 : n.right.rows = n.rows.drop (n.rows.length / 2 + 1) := by unfold Nd.right; rw [if_neg hk]
 have e1 : n.right.rows.length = n.rows.length - (n.rows.length / 2 + 1) := by rw [e0, List.length_drop]
 unfold Span.of
 rw [e1]
 congr 1
 ·rw [if_pos (show 0 < n.rows.length / 2 + 1 + i by omega)]
  split
  ·rw [e0, getD_drop, show n.rows.length / 2 + 1 + (i - 1) = n.rows.length / 2 + 1 + i - 1 by omega]
  ·rw [show i = 0 by omega]; rfl
 ·by_cases q : i < n.rows.length - (n.rows.length / 2 + 1)
  ·rw [if_pos q, if_pos (by omega), e0, getD_drop]
  ·rw [if_neg q, if_neg (by omega)]
theorem Body.cut {x : St} {W depth a : Nat} {s : Span} {n : Nd} {L : List (List Int)} {Q : List Nat} (h : Body x W depth a s n L Q) (hn : n.Near W a s) (h2 : 2 ≤ n.rows.length) :
  ∃ L1 L2 Q1 Q2, Body x W depth a ⟨s.low, some n.up⟩ n.left L1 Q1 ∧ Body x W depth a ⟨some n.up, s.high⟩ n.right L2 Q2 ∧ L = L1 ++ L2 ∧ Q = Q1 ++ Q2 ∧ (a = 0 → L1 ≠ [] ∧ L2 ≠ []) := by
 cases a with
 | zero =>
   obtain ⟨h1, h3, h4⟩ := h
   have er : n.right = ⟨[], n.rows.drop (n.rows.length / 2)⟩ := by unfold Nd.right; rw [if_pos h1]
   refine ⟨n.rows.take (n.rows.length / 2), n.rows.drop (n.rows.length / 2), [], [], ⟨by unfold Nd.left; rw [h1]; simp, rfl, rfl⟩, ?_, by rw [h3, List.take_append_drop], h4, fun _ => ⟨?_, ?_⟩⟩
   ·rw [er]; exact ⟨rfl, rfl, rfl⟩
   ·intro q
    have := congrArg List.length q
    rw [List.length_take, List.length_nil] at this
    omega
   ·intro q
    have := congrArg List.length q
    rw [List.length_drop, List.length_nil] at this
    omega
 | succ a =>
   obtain ⟨Ls, Ps, ⟨k1, k2, k3, k4⟩, h3, h4⟩ := h
   have hk : n.kids ≠ [] := by intro q; rw [q] at k1; simp at k1
   have er : n.right = ⟨n.kids.drop (n.rows.length / 2 + 1), n.rows.drop (n.rows.length / 2 + 1)⟩ := by unfold Nd.right; rw [if_neg hk]
   have el : n.left = ⟨n.kids.take (n.rows.length / 2 + 1), n.rows.take (n.rows.length / 2)⟩ := rfl
   refine ⟨(Ls.take (n.rows.length / 2 + 1)).flatten, (Ls.drop (n.rows.length / 2 + 1)).flatten, (Ps.take (n.rows.length / 2 + 1)).flatten, (Ps.drop (n.rows.length / 2 + 1)).flatten, ⟨_, _, ⟨?_, ?_, ?_, fun i hi => ?_⟩, rfl, rfl⟩, ⟨_, _, ⟨?_, ?_, ?_, fun i hi => ?_⟩, rfl, rfl⟩, ?_, ?_, fun q => by omega⟩
   ·rw [el]; simp only [List.length_take]; omega
   ·rw [el]; simp only [List.length_take]; omega
   ·rw [el]; simp only [List.length_take]; omega
   ·have hi' : i < n.rows.length / 2 + 1 := by
     rw [el] at hi
     simp only [List.length_take] at hi
     omega
    rw [of_left (by omega) (by omega), getD_take hi', getD_take hi']
    have := k4 i (by omega)
    rw [el]
    rwa [getD_take hi']
   ·rw [er]; simp only [List.length_drop]; omega
   ·rw [er]; simp only [List.length_drop]; omega
   ·rw [er]; simp only [List.length_drop]; omega
   ·have hi' : n.rows.length / 2 + 1 + i < n.kids.length := by
     rw [er] at hi
     simp only [List.length_drop] at hi
     omega
    rw [of_right hk (by omega), getD_drop, getD_drop]
    have := k4 _ hi'
    rw [er]
    rwa [getD_drop]
   ·rw [h3, ← List.flatten_append, List.take_append_drop]
   ·rw [h4, ← List.flatten_append, List.take_append_drop]
theorem pages_front {x : St} {p : Nat} {Q1 Q2 : List Nat} (hn : (p :: (Q1 ++ Q2)).Nodup) (hl : ∀ y ∈ p :: (Q1 ++ Q2), y < x.N) : ((p :: Q1) ++ (x.N :: Q2)).Nodup := by
 have e : ((p :: Q1) ++ (x.N :: Q2)).Perm (x.N :: (p :: (Q1 ++ Q2))) := List.perm_middle
 refine e.nodup_iff.2 (List.nodup_cons.2 ⟨fun q => ?_, hn⟩)
 have := hl _ q
 omega
theorem up_has {n : Nd} {W a : Nat} {s : Span} (hn : n.Near W a s) (h2 : 2 ≤ n.rows.length) : s.Has n.up ∧ (∀ b, s.low = some b → ltR b n.up) ∧ n.up.length = W ∧ fitsL n.up := by
 obtain ⟨q1, q2⟩ := holds_iff.1 hn.holds
 have hk : n.rows.length / 2 < n.rows.length := by omega
 have e : n.up = n.rows[n.rows.length / 2] := getDo hk
 have hm : n.up ∈ n.rows := by rw [e]; exact List.getElem_mem _
 refine ⟨q2 _ hm, fun b hb => ?_, hn.cols _ hm⟩
 have h0 := (q2 _ (List.getElem_mem (show 0 < n.rows.length by omega))).1 b hb
 have h1 := rises_lt (holds_rises hn.holds) (i := 0) (j := n.rows.length / 2) (by omega) hk
 rw [getDo (by omega)] at h1
 exact le_lt h0 h1
inductive AddOk (x : St) (W depth a page : Nat) (s : Span) (l : List Int) (L : List (List Int)) (P : List Nat) (N1 : Nat) : AddR → Prop
 | put {x' : St} {L' : List (List Int)} {P' : List Nat} : Tn x' W depth a page s L' P' → Plus l L L' → Grew x x' P P' → x'.N ≤ N1 → AddOk x W depth a page s l L P N1 (.ok true none x')
 | cut {x' : St} {g : Nat} {up : List Int} {L1 L2 : List (List Int)} {P1 P2 : List Nat} : Tn x' W depth a page ⟨s.low, some up⟩ L1 P1 → Tn x' W depth a g ⟨some up, s.high⟩ L2 P2 → Plus l L (L1 ++ L2) → Grew x x' P (P1 ++ P2) → s.Has up → (∀ b, s.low = some b → ltR b up) → up.length = W → fitsL up → (a = 0 → L1 ≠ [] ∧ L2 ≠ []) → x'.N ≤ N1 + 1 → AddOk x W depth a page s l L P N1 (.ok true (some (g, up)) x')
theorem Nd.Near.fine {n : Nd} {W depth a : Nat} {s : Span} (h : n.Near W a s) (hf : n.bytes.length ≤ 504) : n.Fine W depth a s :=
 ⟨h.leaf, fun q => ⟨h.inner q, h.one⟩, h.holds, fun _ q => by have := h.one; rw [q] at this; simp at this, h.cols, h.kids, hf⟩
theorem asc_take {l : List (List Int)} (h : Asc l) (k : Nat) : Asc (l.take k) := h.sublist (List.take_sublist _ _)
theorem asc_drop {l : List (List Int)} (h : Asc l) (k : Nat) : Asc (l.drop k) := h.sublist (List.drop_sublist _ _)
theorem fine_left {n : Nd} {W depth a : Nat} {s : Span} (h : n.Near W a s) (h2 : 2 ≤ n.rows.length) (hf : n.left.bytes.length ≤ 504) : n.left.Fine W depth a ⟨s.low, some n.up⟩ := by
 have e0 : n.left.rows = n.rows.take (n.rows.length / 2) := rfl
 have e1 : n.left.rows.length = n.rows.length / 2 := by rw [e0, List.length_take]; omega
 have ek : n.left.kids = n.kids.take (n.rows.length / 2 + 1) := rfl
 obtain ⟨q1, q2⟩ := holds_iff.1 h.holds
 refine ⟨fun q => by rw [ek, h.leaf q]; rfl, fun q => ⟨by rw [ek, e1, List.length_take, h.inner q]; omega, by rw [e1]; omega⟩, holds_iff.2 ⟨asc_take q1 _, fun l hl => ⟨(q2 l (List.mem_of_mem_take hl)).1, fun b hb => ?_⟩⟩, fun _ q => by rw [q] at e1; simp at e1; omega, fun l hl => h.cols l (List.mem_of_mem_take hl), fun k hk => h.kids k (List.mem_of_mem_take hk), hf⟩
 have hb : n.up = b := Option.some.inj hb
 rw [← hb]
 obtain ⟨i, hi, rfl⟩ := List.mem_iff_getElem.1 hl
 rw [e1] at hi
 have := rises_lt (holds_rises h.holds) (i := i) (j := n.rows.length / 2) hi (by omega)
 rw [getDo (by omega)] at this
 simp only [e0, List.getElem_take]
 exact this
theorem fine_right {n : Nd} {W depth a : Nat} {s : Span} (h : n.Near W a s) (h2 : 2 ≤ n.rows.length) (h3 : 0 < a → 3 ≤ n.rows.length) (hf : n.right.bytes.length ≤ 504) : n.right.Fine W depth a ⟨some n.up, s.high⟩ := by
 obtain ⟨q1, q2⟩ := holds_iff.1 h.holds
 have above : ∀ i, n.rows.length / 2 ≤ i → i < n.rows.length → ¬ ltR (n.rows.getD i []) n.up := fun i hi hl q => by
  rcases Nat.lt_or_ge (n.rows.length / 2) i with u | u
  ·exact ltR_irr _ (ltR_trans q (rises_lt (holds_rises h.holds) u hl))
  ·rw [show i = n.rows.length / 2 by omega] at q
   exact ltR_irr _ q
 have sub : ∀ k, n.rows.length / 2 ≤ k → ∀ l ∈ n.rows.drop k, l ∈ n.rows ∧ ¬ ltR l n.up := fun k hk l hl => by
  refine ⟨List.mem_of_mem_drop hl, ?_⟩
  obtain ⟨i, hi, rfl⟩ := List.mem_iff_getElem.1 hl
  rw [List.length_drop] at hi
  have := above (k + i) (by omega) (by omega)
  rw [getDo (by omega)] at this
  rw [List.getElem_drop]; exact this
 have mk : ∀ k, n.rows.length / 2 ≤ k → Span.holds ⟨some n.up, s.high⟩ (n.rows.drop k) = true := fun k hk => holds_iff.2 ⟨asc_drop q1 _, fun l hl => ⟨fun b hb => by
  have hb : n.up = b := Option.some.inj hb
  rw [← hb]; exact (sub k hk l hl).2, (q2 l (sub k hk l hl).1).2⟩⟩
 by_cases hk : n.kids = []
 ·have ha : a = 0 := by
   rcases Nat.eq_zero_or_pos a with u | u
   ·exact u
   ·have := h.inner u; rw [hk] at this; simp at this
  have er : n.right = ⟨[], n.rows.drop (n.rows.length / 2)⟩ := by unfold Nd.right; rw [if_pos hk]
  rw [er] at hf ⊢
  refine ⟨fun _ => rfl, fun q => by omega, mk _ (Nat.le_refl _), fun _ q => ?_, fun l hl => h.cols l (List.mem_of_mem_drop hl), fun k hk => (by cases hk), hf⟩
  have := congrArg List.length q
  simp only [List.length_drop, List.length_nil] at this
  omega
 ·have ha : 0 < a := by
   rcases Nat.eq_zero_or_pos a with u | u
   ·exact absurd (h.leaf u) hk
   ·exact u
  have hin := h.inner ha
  have h3 := h3 ha
  have er : n.right = ⟨n.kids.drop (n.rows.length / 2 + 1), n.rows.drop (n.rows.length / 2 + 1)⟩ := by unfold Nd.right; rw [if_neg hk]
  rw [er] at hf ⊢
  refine ⟨fun q => by omega, fun q => ⟨by simp only [List.length_drop]; omega, by simp only [List.length_drop]; omega⟩, mk _ (by omega), fun _ q => ?_, fun l hl => h.cols l (List.mem_of_mem_drop hl), fun k hk => h.kids k (List.mem_of_mem_drop hk), hf⟩
  have := congrArg List.length q
  simp only [List.length_drop, List.length_nil] at this
  omega
theorem full_long {n : Nd} {W a : Nat} {s : Span} (hW : W ≤ 16) (h : n.Near W a s) (hf : n.full W a = true) : 4 ≤ n.rows.length := by
 obtain ⟨_, _, f3, f4⟩ := fan_room hW
 unfold Nd.full at hf
 simp only [Bool.or_eq_true, Bool.and_eq_true, decide_eq_true_eq] at hf
 rcases hf with ⟨_, q⟩ | q
 ·omega
 ·rcases Nat.eq_zero_or_pos a with u | u
  ·rw [h.leaf u] at q; simp at q; omega
  ·have := h.inner u; omega
theorem fin_ok {x : St} {W q depth a page : Nat} {s : Span} {n : Nd} {l : List Int} {L0 L : List (List Int)} {Q : List Nat} (hW : W ≤ 16) (hn : n.Near W a s) (hb : Body x W depth a s n L Q) (hnd : (page :: Q).Nodup) (hlt : ∀ p ∈ page :: Q, p < x.N) (hq : x.N < q) (hp : Plus l L0 L) :
  AddOk x W depth a page s l L0 (page :: Q) x.N (x.fin W q a page n) := by
 have hpage : page < x.N := hlt _ List.mem_cons_self
 have hpQ : page ∉ Q := (List.nodup_cons.1 hnd).1
 obtain ⟨b1, b2⟩ := half_fits hW (fun l hl => (hn.cols l hl).1) hn.one hn.near
 unfold St.fin
 cases hf : n.full W a with
 | false =>
   rw [if_neg (by simp)]
   have fit := b1 a (fun u v => by have := hn.inner u; rw [v] at this; simp at this) hn.leaf hf
   refine .put (L' := L) (P' := page :: Q) (Tn.mk hW hpage (by unfold St.put; exact setT_same _ _ _) (hn.fine fit) (hb.congr (Nat.le_refl _) fun p hp => ?_)) hp ⟨Nat.le_refl _, fun p _ hp => ?_, hnd, fun p hp => .inl hp, rfl⟩ (Nat.le_refl _)
   ·unfold St.put; exact setT_other fun e => hpQ (e ▸ hp)
   ·unfold St.put; exact setT_other fun e => hp (e ▸ List.mem_cons_self)
 | true =>
   rw [if_pos rfl, if_pos hq]
   have h4 := full_long hW hn hf
   obtain ⟨c1, c2⟩ := b2 a hf (by omega)
   obtain ⟨L1, L2, Q1, Q2, g1, g2, rfl, rfl, g5⟩ := hb.cut hn (by omega)
   obtain ⟨u1, u2, u3, u4⟩ := up_has hn (by omega)
   have hT : ∀ p, p ≠ page → p ≠ x.N → ((x.more n.right).put page n.left).T p = x.T p := fun p h1 h2 => by
    unfold St.put St.more
    exact (setT_other h1).trans (setT_other h2)
   have hN1 : ∀ p ∈ Q1 ++ Q2, p ≠ page ∧ p ≠ x.N := fun p hp => ⟨fun e => hpQ (e ▸ hp), fun e => by have := hlt p (List.mem_cons_of_mem _ hp); omega⟩
   refine .cut (L1 := L1) (L2 := L2) (P1 := page :: Q1) (P2 := x.N :: Q2) (Tn.mk hW (by show page < x.N + 1; omega) (by unfold St.put; exact setT_same _ _ _) (fine_left hn (by omega) c1) (g1.congr (Nat.le_succ _) fun p hp => ?_)) (Tn.mk hW (Nat.lt_succ_self _) ?_ (fine_right hn (by omega) (fun _ => by omega) c2) (g2.congr (Nat.le_succ _) fun p hp => ?_)) hp ⟨Nat.le_succ _, fun p h1 h2 => ?_, pages_front hnd hlt, fun p hp => ?_, ?_⟩ u1 u2 u3 u4 g5 (Nat.le_refl _)
   ·obtain ⟨e1, e2⟩ := hN1 p (List.mem_append.2 (.inl hp)); exact hT p e1 e2
   ·unfold St.put St.more
    exact (setT_other (by omega)).trans (setT_same _ _ _)
   ·obtain ⟨e1, e2⟩ := hN1 p (List.mem_append.2 (.inr hp)); exact hT p e1 e2
   ·exact hT p (fun e => h2 (e ▸ List.mem_cons_self)) (by omega)
   ·rcases List.mem_append.1 hp with u | u
    ·refine .inl ?_
     rcases List.mem_cons.1 u with v | v
     ·rw [v]; exact List.mem_cons_self
     ·exact List.mem_cons_of_mem _ (List.mem_append.2 (.inl v))
    ·rcases List.mem_cons.1 u with v | v
     ·exact .inr ⟨by omega, by show p < x.N + 1; omega⟩
     ·exact .inl (List.mem_cons_of_mem _ (List.mem_append.2 (.inr v)))
   ·show (page :: Q1 ++ x.N :: Q2).length + x.N = (page :: (Q1 ++ Q2)).length + (x.N + 1)
    simp only [List.length_append, List.length_cons]; omega
theorem leaf_near {n : Nd} {W depth : Nat} {s : Span} {l : List Int} (hW : W ≤ 16) (h : n.Fine W depth 0 s) (hl : l.length = W ∧ fitsL l) (hs : s.Has l) (hn : sameAt n.rows l = false) : l ∉ n.rows ∧ (Nd.mk n.kids (insAt (below l n.rows) l n.rows)).Near W 0 s := by
 have hk := h.leaf rfl
 obtain ⟨q1, q2⟩ := holds_iff.1 h.holds
 have hb := below_leT l n.rows
 have hr := holds_rises h.holds
 have lo : ∀ i, i < below l n.rows → ltR (n.rows.getD i []) l := fun i hi => below_lo hi
 have hi : ∀ i, below l n.rows ≤ i → i < n.rows.length → ltR l (n.rows.getD i []) := by
  intro i h1 h2
  have e : n.child l = below l n.rows := by unfold Nd.child; rw [hn]; rfl
  exact child_gt hr (by omega) h2
 have hnot : l ∉ n.rows := by
  intro hm
  obtain ⟨i, h1, e⟩ := List.mem_iff_getElem.1 hm
  have e : n.rows.getD i [] = l := (getDo h1).trans e
  rcases Nat.lt_or_ge i (below l n.rows) with u | u
  ·have := lo i u; rw [e] at this; exact ltR_irr _ this
  ·have := hi i u h1; rw [e] at this; exact ltR_irr _ this
 refine ⟨hnot, fun _ => hk, fun q => by omega, by rw [insAt_length]; omega, holds_iff.2 ⟨insAt_asc q1 hb lo hi, fun y hy => ?_⟩, fun y hy => ?_, fun k hk' => h.kids k hk', .inl ⟨hk, ?_⟩⟩
 ·rcases insAt_mem.1 hy with u | u
  ·exact q2 y u
  ·rw [u]; exact hs
 ·rcases insAt_mem.1 hy with u | u
  ·exact h.cols y u
  ·rw [u]; exact hl
 ·rw [insAt_length]
  have := h.fit
  rw [Nd.bytes_length hW fun l hl => (h.cols l hl).1, if_pos hk] at this
  simp only [Nat.add_sub_cancel]
  omega
theorem child_has {n : Nd} {s : Span} {l : List Int} (hr : rises n.rows = true) (hs : s.Has l) : (s.of n (n.child l)).Has l := by
 have hc := child_le (n := n) (l := l)
 constructor
 ·intro a ha
  unfold Span.of at ha
  simp only at ha
  split at ha
  ·rename_i h0
   have ha : n.rows.getD (n.child l - 1) [] = a := Option.some.inj ha
   rw [← ha]
   intro q
   unfold Nd.child at q h0
   split at q
   ·rename_i hsm
    rw [Nat.add_sub_cancel, (sameAt_iff.1 hsm).2] at q
    exact ltR_irr _ q
   ·rename_i hsm
    rw [if_neg hsm] at h0
    exact ltR_irr _ (ltR_trans q (below_lo (by omega)))
  ·exact hs.1 a ha
 ·intro a ha
  unfold Span.of at ha
  simp only at ha
  split at ha
  ·rename_i h0
   have ha : n.rows.getD (n.child l) [] = a := Option.some.inj ha
   rw [← ha]
   exact child_gt hr (Nat.le_refl _) h0
  ·exact hs.2 a ha
theorem flat_split {α : Type} {Ls : List (List α)} {c : Nat} (h : c < Ls.length) : Ls.flatten = (Ls.take c).flatten ++ (Ls.getD c [] ++ (Ls.drop (c + 1)).flatten) := by
 conv => lhs; rw [← List.take_append_drop c Ls]
 rw [List.flatten_append, List.drop_eq_getElem_cons h, List.flatten_cons, List.getD, List.getElem?_eq_getElem h]; rfl
theorem not_twice {α : Type} {Ps : List (List α)} (hn : Ps.flatten.Nodup) {i j : Nat} (hi : i < Ps.length) (hj : j < Ps.length) (hij : i ≠ j) {p : α} (h1 : p ∈ Ps.getD i []) (h2 : p ∈ Ps.getD j []) : False := by
 unfold List.Nodup at hn
 rw [List.pairwise_flatten] at hn
 have h3 := List.pairwise_iff_getElem.1 hn.2
 rw [List.getD, List.getElem?_eq_getElem hi] at h1
 rw [List.getD, List.getElem?_eq_getElem hj] at h2
 rcases Nat.lt_or_ge i j with u | u
 ·exact h3 i j hi hj u p h1 p h2 rfl
 ·exact h3 j i hj hi (by omega) p h2 p h1 rfl
section
variable {x : St} {W depth : Nat}
theorem Kin.one {x x' : St} {a c : Nat} {s : Span} {n : Nd} {Ls : List (List (List Int))} {Ps : List (List Nat)} {L' : List (List Int)} {P' : List Nat} (h : Kin (Tn x W depth a) s n Ls Ps) (hc : c < n.kids.length) (hnd : Ps.flatten.Nodup) (g : Grew x x' (Ps.getD c []) P') (hT : Tn x' W depth a (n.kids.getD c 0) (s.of n c) L' P') :
  Kin (Tn x' W depth a) s n (Ls.take c ++ L' :: Ls.drop (c + 1)) (Ps.take c ++ P' :: Ps.drop (c + 1)) := by
 obtain ⟨k1, k2, k3, k4⟩ := h
 refine ⟨k1, by simp only [List.length_append, List.length_take, List.length_cons, List.length_drop]; omega, by simp only [List.length_append, List.length_take, List.length_cons, List.length_drop]; omega, fun i hi => ?_⟩
 have eL : Ls.take c ++ L' :: Ls.drop (c + 1) = Ls.set c L' := (List.set_eq_take_append_cons_drop ..).trans (if_pos (by omega)) |>.symm
 have eP : Ps.take c ++ P' :: Ps.drop (c + 1) = Ps.set c P' := (List.set_eq_take_append_cons_drop ..).trans (if_pos (by omega)) |>.symm
 rw [eL, eP]
 by_cases e : i = c
 ·subst e
  simp only [List.getD, List.getElem?_set_self (show i < Ls.length by omega), List.getElem?_set_self (show i < Ps.length by omega), Option.getD_some]
  exact hT
 ·have e1 : (Ls.set c L').getD i [] = Ls.getD i [] := by simp only [List.getD, List.getElem?_set_ne (Ne.symm e)]
  have e2 : (Ps.set c P').getD i [] = Ps.getD i [] := by simp only [List.getD, List.getElem?_set_ne (Ne.symm e)]
  rw [e1, e2]
  refine (k4 i hi).congr g.le fun p hp => g.keep p ((k4 i hi).lt p hp) fun u => ?_
  exact not_twice hnd (show i < Ps.length by omega) (show c < Ps.length by omega) e hp u
theorem two_getD {α : Type} {l : List α} {c : Nat} {u v d : α} (hc : c < l.length) (i : Nat) : (l.take c ++ u :: v :: l.drop (c + 1)).getD i d = if i < c then l.getD i d else if i = c then u else if i = c + 1 then v else l.getD (i - 1) d := by
 simp only [List.getD]
 split
 ·rename_i hi
  rw [List.getElem?_append_left (by rw [List.length_take]; omega), List.getElem?_take, if_pos hi]
 ·rename_i hi
  rw [List.getElem?_append_right (by rw [List.length_take]; omega), List.length_take, Nat.min_eq_left (by omega)]
  split
  ·rename_i e; subst e; rw [Nat.sub_self]; rfl
  ·rename_i e
   split
   ·rename_i e2; subst e2; rw [show c + 1 - c = 1 by omega]; rfl
   ·obtain ⟨j, hj⟩ : ∃ j, i - c = j + 1 + 1 := ⟨i - c - 2, by omega⟩
    rw [hj, List.getElem?_cons_succ, List.getElem?_cons_succ, List.getElem?_drop, show c + 1 + j = i - 1 by omega]
theorem of_ins {s : Span} {n : Nd} {c g : Nat} {up : List Int} (hc : c ≤ n.rows.length) (i : Nat) (hi : i ≤ n.rows.length + 1) :
  s.of ⟨insAt (c + 1) g n.kids, insAt c up n.rows⟩ i = if i < c then s.of n i else if i = c then ⟨(s.of n c).low, some up⟩ else if i = c + 1 then ⟨some up, (s.of n c).high⟩ else s.of n (i - 1) := by
 unfold Span.of
 simp only [insAt_length, insAt_getD hc]
 by_cases h1 : i < c
 ·have e1 : i - 1 < c := by omega
  have e2 : i < n.rows.length + 1 := by omega
  have e3 : i < n.rows.length := by omega
  simp only [h1, e1, e2, e3, if_true]
 ·by_cases h2 : i = c
  ·subst h2
   have e2 : i < n.rows.length + 1 := by omega
   simp only [h1, e2, if_true, if_false, Span.mk.injEq, and_true]
   split
   ·rw [if_pos (by omega)]
   ·rfl
  ·by_cases h3 : i = c + 1
   ·subst h3
    have e1 : 0 < c + 1 := by omega
    have e2 : ¬ c + 1 - 1 < c := by omega
    have e3 : c + 1 - 1 = c := by omega
    by_cases h4 : c < n.rows.length
    ·have e4 : c + 1 < n.rows.length + 1 := by omega
     simp only [h1, h2, e1, e3, h4, e4, Nat.lt_irrefl, if_true, if_false]
    ·have e4 : ¬ c + 1 < n.rows.length + 1 := by omega
     simp only [h1, h2, e1, e3, h4, e4, Nat.lt_irrefl, if_true, if_false]
   ·have e1 : 0 < i := by omega
    have e2 : 0 < i - 1 := by omega
    have e3 : ¬ i - 1 < c := by omega
    have e4 : ¬ i - 1 = c := by omega
    by_cases h4 : i - 1 < n.rows.length
    ·have e5 : i < n.rows.length + 1 := by omega
     simp only [h1, h2, h3, e1, e2, e3, e4, e5, h4, if_true, if_false]
    ·have e5 : ¬ i < n.rows.length + 1 := by omega
     simp only [h1, h2, h3, e1, e2, e3, e4, e5, h4, if_true, if_false]
theorem Kin.two {x x' : St} {a c g : Nat} {s : Span} {n : Nd} {Ls : List (List (List Int))} {Ps : List (List Nat)} {L1 L2 : List (List Int)} {P1 P2 : List Nat} {up : List Int} (h : Kin (Tn x W depth a) s n Ls Ps) (hc : c < n.kids.length) (hnd : Ps.flatten.Nodup) (gr : Grew x x' (Ps.getD c []) (P1 ++ P2))
  (h1 : Tn x' W depth a (n.kids.getD c 0) ⟨(s.of n c).low, some up⟩ L1 P1) (h2 : Tn x' W depth a g ⟨some up, (s.of n c).high⟩ L2 P2) :
  Kin (Tn x' W depth a) s ⟨insAt (c + 1) g n.kids, insAt c up n.rows⟩ (Ls.take c ++ L1 :: L2 :: Ls.drop (c + 1)) (Ps.take c ++ P1 :: P2 :: Ps.drop (c + 1)) := by
 obtain ⟨k1, k2, k3, k4⟩ := h
 refine ⟨by simp only [insAt_length]; omega, by simp only [List.length_append, List.length_take, List.length_cons, List.length_drop, insAt_length]; omega, by simp only [List.length_append, List.length_take, List.length_cons, List.length_drop, insAt_length]; omega, fun i hi => ?_⟩
 simp only [insAt_length] at hi
 rw [of_ins (by omega) i (by omega), two_getD (by omega), two_getD (by omega)]
 simp only [insAt_getD (show c + 1 ≤ n.kids.length by omega)]
 have old : ∀ j, j < n.kids.length → j ≠ c → Tn x' W depth a (n.kids.getD j 0) (s.of n j) (Ls.getD j []) (Ps.getD j []) := fun j hj e => by
  refine (k4 j hj).congr gr.le fun p hp => gr.keep p ((k4 j hj).lt p hp) fun u => ?_
  exact not_twice hnd (show j < Ps.length by omega) (show c < Ps.length by omega) e hp u
 by_cases q1 : i < c
 ·rw [if_pos q1, if_pos q1, if_pos q1, if_pos (show i < c + 1 by omega)]
  exact old i (by omega) (by omega)
 ·rw [if_neg q1, if_neg q1, if_neg q1]
  by_cases q2 : i = c
  ·subst q2
   rw [if_pos rfl, if_pos rfl, if_pos rfl, if_pos (show i < i + 1 by omega)]
   exact h1
  ·rw [if_neg q2, if_neg q2, if_neg q2, if_neg (show ¬ i < c + 1 by omega)]
   by_cases q3 : i = c + 1
   ·rw [if_pos q3, if_pos q3, if_pos q3, if_pos q3]
    exact h2
   ·rw [if_neg q3, if_neg q3, if_neg q3, if_neg q3]
    exact old (i - 1) (by omega) (by omega)
theorem add_ok {q : Nat} {l : List Int} (hW : W ≤ 16) (hl : l.length = W ∧ fitsL l) : ∀ {a : Nat} {x : St} {page : Nat} {s : Span} {L : List (List Int)} {P : List Nat}, Tn x W depth a page s L P → P.Nodup → s.Has l → x.N + a < q → x.N + a < 4294967296 →
  (l ∈ L ∧ x.add W q depth l a page s = .ok false none x) ∨ (l ∉ L ∧ AddOk x W depth a page s l L P (x.N + a) (x.add W q depth l a page s))
 | 0, x, page, s, L, P, hT, hnd, hs, hq, hN => by
   have hlt := hT.lt
   have hpg := hT.page
   obtain ⟨n, h1, h2, h3, h4⟩ := hT
   subst h3; subst h4
   unfold St.add
   rw [h1]
   cases hsm : sameAt n.rows l with
   | true =>
     refine .inl ⟨?_, if_pos hsm⟩
     obtain ⟨u1, u2⟩ := sameAt_iff.1 hsm
     rw [getDo u1] at u2
     exact u2 ▸ List.getElem_mem _
   | false =>
     obtain ⟨hnot, near⟩ := leaf_near hW h2 hl hs hsm
     refine .inr ⟨hnot, ?_⟩
     simp only [hsm, Bool.false_eq_true, if_false]
     refine fin_ok (q := q) (L0 := n.rows) (L := insAt (below l n.rows) l n.rows) (Q := []) hW near ⟨h2.leaf rfl, rfl, rfl⟩ hnd hlt (by omega) fun y => ?_
     rw [insAt_mem]; exact Or.comm
 | a + 1, x, page, s, L, P, hT, hnd, hs, hq, hN => by
   have hlt := hT.lt
   have hpg := hT.page
   obtain ⟨n, Ls, Ps, h1, h2, hk, h4, h5⟩ := hT
   obtain ⟨k1, k2, k3, k4⟩ := hk
   subst h4; subst h5
   have hnd' := List.nodup_cons.1 hnd
   have hr := holds_rises h2.holds
   have hcl := child_le (n := n) (l := l)
   generalize hc : n.child l = c at hcl
   have hck : c < n.kids.length := by omega
   have hcT := k4 c hck
   have hsc : (s.of n c).Has l := hc ▸ child_has hr hs
   have eP := flat_split (Ls := Ps) (c := c) (by omega)
   have eL := flat_split (Ls := Ls) (c := c) (by omega)
   have hPc : (Ps.getD c []).Nodup := by
    have := hnd'.2
    rw [eP] at this
    exact (List.nodup_append.1 (List.nodup_append.1 this).2.1).1
   have ih := add_ok (q := q) hW hl hcT hPc hsc (by omega) (by omega)
   have hnot : l ∉ Ls.getD c [] → l ∉ Ls.flatten := by
    intro hno hm
    obtain ⟨i, hi, hmi⟩ := mem_flatI hm
    have hsi := ((k4 i (by omega)).rows.2 l hmi).1
    rcases Nat.lt_or_ge i c with u | u
    ·exact ltR_irr _ (of_apart h2.holds u hcl hsi hsc)
    ·rcases Nat.lt_or_ge c i with v | v
     ·exact ltR_irr _ (of_apart h2.holds v (by omega) hsc hsi)
     ·exact hno (by rw [show c = i by omega]; exact hmi)
   have hadd : x.add W q depth l (a + 1) page s = match x.add W q depth l a (n.kids.getD c 0) (s.of n c) with
    | .ok _ (some m) x' => x'.fin W q (a + 1) page ⟨insAt (c + 1) m.1 n.kids, insAt c m.2 n.rows⟩
    | r => r := by
    conv => lhs; unfold St.add
    rw [h1]
    simp only [hc]
    generalize x.add W q depth l a (n.kids.getD c 0) (s.of n c) = r
    rcases r with _ | _ | ⟨_, _ | _, _⟩ <;> rfl
   rw [hadd]
   have hframe : ∀ {x' P'}, Grew x x' (Ps.getD c []) P' → Grew x x' Ps.flatten ((Ps.take c).flatten ++ (P' ++ (Ps.drop (c + 1)).flatten)) := fun {x' P'} g => by
    have := Grew.frame (X := (Ps.take c).flatten) (Y := (Ps.drop (c + 1)).flatten) g (by rw [← eP]; exact hnd'.2) (by rw [← eP]; exact fun p hp => hlt p (List.mem_cons_of_mem _ hp))
    rwa [← eP] at this
   have hplus : ∀ {L'}, Plus l (Ls.getD c []) L' → Plus l Ls.flatten ((Ls.take c).flatten ++ (L' ++ (Ls.drop (c + 1)).flatten)) := fun {L'} g => by
    have := Plus.frame (A := (Ls.take c).flatten) (B := (Ls.drop (c + 1)).flatten) g
    rwa [← eL] at this
   have hpc : page ∉ Ps.getD c [] := fun u => hnd'.1 (mem_flat u)
   rcases ih with ⟨i1, i2⟩ | ⟨i1, i2⟩
   ·rw [i2]
    exact .inl ⟨mem_flat i1, rfl⟩
   ·refine .inr ⟨hnot i1, ?_⟩
    generalize hr' : x.add W q depth l a (n.kids.getD c 0) (s.of n c) = r at i2
    cases i2 with
    | put t1 p1 g1 n1 =>
      rename_i x' L' P'
      have gf := (hframe g1).cons hnd hlt
      have hk' := Kin.one ⟨k1, k2, k3, k4⟩ hck hnd'.2 g1 t1
      refine .put (L' := (Ls.take c).flatten ++ (L' ++ (Ls.drop (c + 1)).flatten)) (P' := page :: ((Ps.take c).flatten ++ (P' ++ (Ps.drop (c + 1)).flatten))) ?_ (hplus p1) gf (by omega)
      exact ⟨n, _, _, node_congr g1.le (g1.keep page hpg.2 hpc) h1, h2, hk', by simp, by simp⟩
    | cut t1 t2 p1 g1 u1 u2 u3 u4 u5 n1 =>
      rename_i x' g up L1 L2 P1 P2
      have gf := (hframe g1).cons hnd hlt
      have hk' := Kin.two ⟨k1, k2, k3, k4⟩ hck hnd'.2 g1 t1 t2
      have hi2 := h2.inner (Nat.succ_pos _)
      obtain ⟨q1, q2⟩ := holds_iff.1 h2.holds
      have hup : s.Has up := of_has h2.holds hcl u1
      have near : (Nd.mk (insAt (c + 1) g n.kids) (insAt c up n.rows)).Near W (a + 1) s := by
       refine ⟨fun u => by omega, fun _ => by simp only [insAt_length]; omega, by simp only [insAt_length]; omega, holds_iff.2 ⟨insAt_asc q1 hcl (fun i hi => ?_) (fun i h6 h7 => ?_), fun y hy => ?_⟩, fun y hy => ?_, fun k hk => ?_, .inr ⟨by simp only [insAt_length]; omega, ?_⟩⟩
       ·have e : (s.of n c).low = some (n.rows.getD (c - 1) []) := if_pos (by omega)
        have h8 := u2 _ e
        rcases Nat.lt_or_ge i (c - 1) with v | v
        ·exact ltR_trans (rises_lt hr v (by omega)) h8
        ·rwa [show i = c - 1 by omega]
       ·have e : (s.of n c).high = some (n.rows.getD c []) := if_pos (by omega)
        have h8 := u1.2 _ e
        rcases Nat.lt_or_ge c i with v | v
        ·exact ltR_trans h8 (rises_lt hr v h7)
        ·rwa [show i = c by omega]
       ·rcases insAt_mem.1 hy with v | v
        ·exact q2 y v
        ·rw [v]; exact hup
       ·rcases insAt_mem.1 hy with v | v
        ·exact h2.cols y v
        ·rw [v]; exact ⟨u3, u4⟩
       ·rcases insAt_mem.1 hk with v | v
        ·exact h2.kids k v
        ·rw [v]; have := t2.page.2; omega
       ·have hf := h2.fit
        have hke : n.kids ≠ [] := by intro v; rw [v] at k1; simp at k1
        rw [Nd.bytes_length hW fun l hl => (h2.cols l hl).1, if_neg hke] at hf
        simp only [insAt_length, Nat.add_sub_cancel]
        omega
      have hpn := gf.nodup
      have hlt' : ∀ p ∈ page :: ((Ps.take c).flatten ++ ((P1 ++ P2) ++ (Ps.drop (c + 1)).flatten)), p < x'.N := fun p hp => by
       rcases gf.mem p hp with v | v
       ·have := hlt p v; have := g1.le; omega
       ·exact v.2
      have hb : Body x' W depth (a + 1) s ⟨insAt (c + 1) g n.kids, insAt c up n.rows⟩ ((Ls.take c).flatten ++ ((L1 ++ L2) ++ (Ls.drop (c + 1)).flatten)) ((Ps.take c).flatten ++ ((P1 ++ P2) ++ (Ps.drop (c + 1)).flatten)) := ⟨_, _, hk', by simp, by simp⟩
      have hfin := fin_ok (q := q) (l := l) (L0 := Ls.flatten) hW near hb hpn hlt' (by omega) (hplus p1)
      show AddOk x W depth (a + 1) page s l Ls.flatten (page :: Ps.flatten) (x.N + (a + 1)) (x'.fin W q (a + 1) page ⟨insAt (c + 1) g n.kids, insAt c up n.rows⟩)
      generalize x'.fin W q (a + 1) page ⟨insAt (c + 1) g n.kids, insAt c up n.rows⟩ = r2 at hfin
      cases hfin with
      | put f1 f2 f3 f4 => exact .put f1 f2 (gf.trans f3) (by omega)
      | cut f1 f2 f3 f4 f5 f6 f7 f8 f9 f10 => exact .cut f1 f2 f3 (gf.trans f4) f5 f6 f7 f8 f9 (by omega)
end
open Go.MapKept
theorem St.fin_N {x : St} {w : Int} {q above page : Nat} {n : Nd} {f : Bool} {o : Option (Nat × List Int)} {x' : St} (h : x.fin w q above page n = .ok f o x') : x.N ≤ x'.N := by
 unfold St.fin at h
 split at h
 ·split at h
  ·cases h; exact Nat.le_succ _
  ·cases h
 ·cases h; exact Nat.le_refl _
theorem St.add_N {x : St} {w : Int} {q depth : Nat} {l : List Int} : ∀ {above page : Nat} {s : Span} {f : Bool} {o : Option (Nat × List Int)} {x' : St}, x.add w q depth l above page s = .ok f o x' → x.N ≤ x'.N
 | 0, page, s, f, o, x', h => by
   unfold St.add at h
   split at h
   ·cases h
   ·split at h
    ·cases h; exact Nat.le_refl _
    ·exact St.fin_N h
 | above + 1, page, s, f, o, x', h => by
   unfold St.add at h
   split at h
   ·cases h
   ·split at h
    ·rename_i hr
     exact Nat.le_trans (St.add_N hr) (St.fin_N h)
    ·exact St.add_N h
theorem Step.drop {F F1 F2 : Nat → Prop} {H A B : Heap} {nb : Nat} (S : Step F F1 H A) (hn : H.size ≤ nb) (T : Step (fun b => F1 b ∨ b = nb) (fun b => F2 b ∨ b = nb) A B) : Step F F2 H B := by
 have hz := S.mod.size
 refine ⟨⟨by have := T.mod.size; omega, fun b hb hF => ?_⟩, fun b hb => ?_⟩
 ·rw [T.mod.same b (by omega) fun u => by
   rcases u with u | u
   ·rcases S.own b u with v | v
    ·exact hF v
    ·omega
   ·omega]
  exact S.mod.same b hb hF
 ·rcases T.own b (.inl hb) with u | u
  ·rcases u with u | u
   ·exact S.own b u
   ·exact .inr (by omega)
  ·exact .inr (by omega)
def lbB (l : Sl) (b : Nat) : Prop := ∃ ad, l.a = some ad ∧ ad.block = b
section
variable {k p dp : Nat} {t : Tr} {q : Nat} {I : Pl → St → Nat → Prop} {B C : Pl → Int → Prop} {ll : List Int} {l : Sl}
def AddK (K : (Bool × Option Addr × Sl × Int) → Heap → Prop) (W base : Nat) (l : Sl) (F : Nat → Prop) (H : Heap) (fresh : Bool) : Option (Nat × List Int) → Prop
 | none => K (fresh, none, nilT, 0) H
 | some (pg, ul) => ul.length = W → ∀ mb v1 v2 up, RowT H mb YaC #[.int .i64 (pg : Int), v1, v2] → ¬ F mb → base ≤ mb → RowOk (fun b => F b ∨ (b < base ∧ ¬ lbB l b)) H up ul → K (fresh, some ⟨mb, 0, none⟩, up, 0) H
set_option maxHeartbeats 4000000 in
theorem tfin_ok {W above page base : Nat} {F : Nat → Prop} {H : Heap} {s : Pl} {x : St} {m nb : Nat} {sk sr : Sl} {n : Nd} {K : (Bool × Option Addr × Sl × Int) → Heap → Prop} (S : Store t.name q I B C) (hw : t.width = (W : Int)) (hW : W ≤ 16)
  (hI : I s x m) (hm : m + 2 ≤ 30000000000) (hg : Gl H) (ht : TreeB H k p t) (hp : PoolAt F H p dp s) (hk : ¬ F k) (hkb : k < base) (hnb : base ≤ nb) (hbH : base ≤ H.size)
  (hn : NodeR (fun b => F b ∨ (b < base ∧ ¬ lbB l b)) H nb (page : Int) sk sr n) (hck : sk.n ≤ sk.c) (hcr : sr.n ≤ sr.c) (hpx : page < x.N) (hcols : ∀ r ∈ n.rows, r.length = W) (h1 : 1 ≤ n.rows.length)
  (hshape : (above = 0 ∧ n.kids = [] ∧ (n.rows.length - 1) * (sizeL (W : Int)).toNat ≤ 504) ∨ (0 < above ∧ n.kids.length = n.rows.length + 1 ∧ 2 + 4 * (n.kids.length - 1) + (n.rows.length - 1) * (sizeL (W : Int)).toNat ≤ 504))
  (hK1 : ∀ fresh o x', x.fin t.width q above page n = .ok fresh o x' → ∀ F' H' s', PoolAt F' H' p dp s' → Step (fun b => F b ∨ b = nb) (fun b => F' b ∨ b = nb) H H' → I s' x' (m + 2) → AddK K W base l F' H' fresh o)
  (hKB : x.fin t.width q above page n = .quota → ∀ F' H' s' e f o up, PoolAt F' H' p dp s' → Step (fun b => F b ∨ b = nb) (fun b => F' b ∨ b = nb) H H' → B s' e → K (f, o, up, e) H')
  (hKC : ∀ F' H' s' e f o up, PoolAt F' H' p dp s' → Step (fun b => F b ∨ b = nb) (fun b => F' b ∨ b = nb) H H' → C s' e → K (f, o, up, e) H') :
  cut (Option Addr × Sl) (fun J_1 => ∃ G_2 : Heap → Prop, G_2 H ∧ br ((above : Int) == (0 : Int)) (optK (at0 nb) fun a_10 => ldC cSl G_2 (a_10.add 2) fun (x_9 : Sl) => optK (at0 k) fun a_11 => ld (cInt .i64) H (a_11.add 2) fun (x_10 : Int) => ZdY.sp x_10 H fun (r_7 : Int) H18 => G_2 H18 ∧ br (decide ((x_9.n : Int) > r_7)) (ZbZ.sp (at0 k) (at0 nb) H18 fun (r_8 : (Option Addr × Sl × Int)) H19 => br (r_8.2.2 != (0 : Int)) (K (false, none, (Sl.mk none 0 0), r_8.2.2) H19) (J_1 (r_8.1, r_8.2.1) H19)) (optK (at0 nb) fun a_12 => ldC cSl G_2 (a_12.add 1) fun (x_11 : Sl) => ZcQ.sp (at0 k) H18 fun (r_9 : Int) H20 => G_2 H20 ∧ br (decide ((x_11.n : Int) > r_9)) (ZbZ.sp (at0 k) (at0 nb) H20 fun (r_10 : (Option Addr × Sl × Int)) H21 => br (r_10.2.2 != (0 : Int)) (K (false, none, (Sl.mk none 0 0), r_10.2.2) H21) (J_1 (r_10.1, r_10.2.1) H21)) (J_1 (none, (Sl.mk none 0 0)) H20))) (optK (at0 nb) fun a_13 => ldC cSl G_2 (a_13.add 1) fun (x_12 : Sl) => ZcQ.sp (at0 k) H fun (r_11 : Int) H22 => G_2 H22 ∧ br (decide ((x_12.n : Int) > r_11)) (ZbZ.sp (at0 k) (at0 nb) H22 fun (r_12 : (Option Addr × Sl × Int)) H23 => br (r_12.2.2 != (0 : Int)) (K (false, none, (Sl.mk none 0 0), r_12.2.2) H23) (J_1 (r_12.1, r_12.2.1) H23)) (J_1 (none, (Sl.mk none 0 0)) H22))) fun (z_1 : (Option Addr × Sl)) H17 => Zcc.sp (at0 k) (at0 nb) H17 fun (r_13 : Int) H24 => K (true, z_1.1, z_1.2, r_13) H24 := by
 have hrln := hn.rows.len
 have hkln : sk.n = n.kids.length := by have := hn.kids.len; simpa using this
 have hkn : k ≠ nb := by omega
 have hsz := sizeL_cases (W : Int)
 obtain ⟨f1, f2, f3, f4⟩ := fan_room hW
 obtain ⟨s1, s2⟩ := sizeL_nat hW
 have hmul : n.rows.length - 1 ≤ (n.rows.length - 1) * (sizeL (W : Int)).toNat := Nat.le_mul_of_pos_right _ (by omega)
 have hrows : n.rows.length ≤ 505 := by rcases hshape with ⟨_, _, u⟩ | ⟨_, _, u⟩ <;> omega
 have hkids : n.kids.length ≤ 504 := by
  rcases hshape with ⟨_, u, _⟩ | ⟨_, _, u⟩
  ·rw [u]; simp
  ·omega
 have hin : n.kids = [] ∨ n.kids.length = n.rows.length + 1 := by rcases hshape with ⟨_, u, _⟩ | ⟨_, u, _⟩; exact .inl u; exact .inr u
 have hab : (0 < above → n.kids ≠ []) ∧ (above = 0 → n.kids = []) := by
  rcases hshape with ⟨u, v, _⟩ | ⟨u, v, _⟩
  ·exact ⟨fun w => by omega, fun _ => v⟩
  ·exact ⟨fun _ w => by rw [w] at v; simp at v, fun w => by omega⟩
 obtain ⟨hf1, hf2⟩ := half_fits hW hcols h1 (by rcases hshape with ⟨_, u⟩ | ⟨_, u⟩; exact .inl u; exact .inr u)
 have hcol16 : ∀ r ∈ n.rows, r.length ≤ 16 := fun r hr => by rw [hcols r hr]; exact hW
 unfold St.fin at hK1 hKB
 rw [hw] at hK1 hKB
 -- the new node, cut off
 have hsplit : ∀ (J : Option Addr × Sl → Heap → Prop) (A : Heap), Ext H A → n.full W above = true →
   (x.N < q → ∀ F' H' s' mb v1 v2 up skl srl, PoolAt F' H' p dp s' → Step (fun b => F b ∨ b = nb) (fun b => F' b ∨ b = nb) H H' → I s' (x.more n.right) (m + 1) → NodeR (fun b => F' b ∨ (b < base ∧ ¬ lbB l b)) H' nb (page : Int) skl srl n.left →
    RowT H' mb YaC #[.int .i64 (x.N : Int), v1, v2] → ¬ F' mb → mb ≠ nb → base ≤ mb → RowOk (fun b => (F' b ∨ (b < base ∧ ¬ lbB l b)) ∨ b = nb) H' up n.up → J (some ⟨mb, 0, none⟩, up) H') →
   ZbZ.sp (at0 k) (at0 nb) A fun (r_8 : (Option Addr × Sl × Int)) H19 => br (r_8.2.2 != (0 : Int)) (K (false, none, (Sl.mk none 0 0), r_8.2.2) H19) (J (r_8.1, r_8.2.1) H19) := by
  intro J A eA hf hJ
  have h2 : 2 ≤ n.rows.length := by
   unfold Nd.full at hf
   simp only [Bool.or_eq_true, Bool.and_eq_true, decide_eq_true_eq] at hf
   rcases hf with ⟨_, u⟩ | u
   ·omega
   ·rcases hin with v | v
    ·rw [v] at u; simp at u; omega
    ·omega
  have hq := hf2 above hf h2
  have hrr : n.right.rows.length ≤ 504 := by
   unfold Nd.right
   split
   ·show (n.rows.drop _).length ≤ _; rw [List.length_drop]; omega
   ·show (n.rows.drop _).length ≤ _; rw [List.length_drop]; omega
  have hzA := eA.size
  have SA : Step (fun b => F b ∨ b = nb) (fun b => F b ∨ b = nb) H A := .ofExt eA
  refine tsplit_ok (X := fun b => b < base ∧ ¬ lbB l b) S hI (by omega) (hg.mod eA id) (ht.ext eA) (hp.ext eA) hk hkn (hn.step (.ofExt eA)) hck hcr h1 hin hq.2 hkids (by omega) hrr hcol16 (fun hN F' H' s' mb v1 v2 up skl srl p1 S1 I1 n1 r1 c1 c2 c3 u1 => ?_) (fun hN F' H' s' e o up p1 S1 hB => ?_) (fun F' H' s' e o up p1 S1 hC => ?_)
  ·refine br_f rfl ?_
   exact hJ hN F' H' s' mb v1 v2 up skl srl p1 (SA.trans S1) I1 n1 r1 c1 c2 (by omega) u1
  ·refine br_t (by have := (S.errB hB).1; simpa using this) ?_
   refine hKB ?_ F' H' s' e _ _ _ p1 (SA.trans S1) hB
   rw [if_pos hf, if_neg hN]
  ·refine br_t (by have := (S.errC hC).1; simpa using this) ?_
   exact hKC F' H' s' e _ _ _ p1 (SA.trans S1) hC
 obtain ⟨JJ, hJJ⟩ : ∃ JJ : Option Addr × Sl → Heap → Prop, ∀ z A, JJ z A ↔ ((n.full W above = true ∧ x.N < q ∧ ∃ F' s' mb v1 v2 up skl srl, z = (some (⟨mb, 0, none⟩ : Addr), up) ∧ PoolAt F' A p dp s' ∧ Step (fun b => F b ∨ b = nb) (fun b => F' b ∨ b = nb) H A ∧ I s' (x.more n.right) (m + 1) ∧ NodeR (fun b => F' b ∨ (b < base ∧ ¬ lbB l b)) A nb (page : Int) skl srl n.left ∧
    RowT A mb YaC #[.int .i64 (x.N : Int), v1, v2] ∧ ¬ F' mb ∧ mb ≠ nb ∧ base ≤ mb ∧ RowOk (fun b => (F' b ∨ (b < base ∧ ¬ lbB l b)) ∨ b = nb) A up n.up) ∨ (n.full W above = false ∧ z = (none, nilT) ∧ Ext H A)) := ⟨_, fun _ _ => Iff.rfl⟩
 refine ⟨JJ, ?_, ?_⟩
 ·refine ⟨fun D => Ext H D, .refl _ _, ?_⟩
  have hfanT : ∀ (A : Heap), Ext H A → (decide (above = 0) && decide ((n.rows.length : Int) > roomL W)) = false →
    optK (at0 nb) fun a_12 => ldC cSl (fun D => Ext H D) (a_12.add 1) fun (x_11 : Sl) => ZcQ.sp (at0 k) A fun (r_9 : Int) H20 => Ext H H20 ∧ br (decide ((x_11.n : Int) > r_9)) (ZbZ.sp (at0 k) (at0 nb) H20 fun (r_10 : (Option Addr × Sl × Int)) H21 => br (r_10.2.2 != (0 : Int)) (K (false, none, (Sl.mk none 0 0), r_10.2.2) H21) (JJ (r_10.1, r_10.2.1) H21)) (JJ (none, (Sl.mk none 0 0)) H20) := by
   intro A eA hr
   unfold at0
   simp only [optK_eq]
   refine RowT.ldC (c := cSl) (i := 1) (x := sk) (cs := fun _ => #[.int .i64 (page : Int), sk.v, sr.v]) (fun D hD => hn.row.ext hD) (fun _ _ => rfl) ?_
   refine tfan_ok (ht.ext eA) hw hW fun A2 e2 => ?_
   have eA2 := eA.trans e2
   refine ⟨eA2, ?_⟩
   refine br_mk (fun hc => ?_) (fun hc => ?_)
   ·have hf : n.full W above = true := by
     unfold Nd.full
     rw [hr, Bool.false_or, ← hkln]; exact hc
    exact hsplit JJ A2 eA2 hf fun hN F' H' s' mb v1 v2 up skl srl p1 S1 I1 n1 r1 c1 c2 c3 u1 => (hJJ _ _).2 (.inl ⟨hf, hN, F', s', mb, v1, v2, up, skl, srl, rfl, p1, S1, I1, n1, r1, c1, c2, c3, u1⟩)
   ·have hf : n.full W above = false := by
     unfold Nd.full
     rw [hr, Bool.false_or, ← hkln]; exact hc
    exact (hJJ _ _).2 (.inr ⟨hf, rfl, eA2⟩)
  refine br_mk (fun hc => ?_) (fun hc => ?_)
  ·have ha0 : above = 0 := by have : (above : Int) = 0 := by simpa using hc
                              omega
   unfold at0
   simp only [optK_eq]
   refine RowT.ldC (c := cSl) (i := 2) (x := sr) (cs := fun _ => #[.int .i64 (page : Int), sk.v, sr.v]) (fun D hD => hn.row.ext hD) (fun _ _ => rfl) ?_
   refine RowT.ld (c := cInt .i64) (i := 2) (x := t.width) ht rfl ?_
   rw [hw]
   refine rowRoom_ok ?_
   refine ⟨.refl _ _, ?_⟩
   refine br_mk (fun hc2 => ?_) (fun hc2 => ?_)
   ·have hf : n.full W above = true := by
     unfold Nd.full
     rw [ha0, ← hrln, hc2]; rfl
    exact hsplit JJ H (.refl _ _) hf fun hN F' H' s' mb v1 v2 up skl srl p1 S1 I1 n1 r1 c1 c2 c3 u1 => (hJJ _ _).2 (.inl ⟨hf, hN, F', s', mb, v1, v2, up, skl, srl, rfl, p1, S1, I1, n1, r1, c1, c2, c3, u1⟩)
   ·exact hfanT H (.refl _ _) (by rw [← hrln, hc2]; simp)
  ·have ha0 : above ≠ 0 := fun u => by subst u; simp at hc
   exact hfanT H (.refl _ _) (by simp [ha0])
 ·intro z A hz
  rcases (hJJ z A).1 hz with (⟨hf, hN, F', s', mb, v1, v2, up, skl, srl, rfl, p1, S1, I1, n1, r1, c1, c2, c3, u1⟩ | ⟨hf, rfl, eA⟩)
  ·have h2 : 2 ≤ n.rows.length := by
    unfold Nd.full at hf
    simp only [Bool.or_eq_true, Bool.and_eq_true, decide_eq_true_eq] at hf
    rcases hf with ⟨_, u⟩ | u
    ·omega
    ·rcases hin with v | v
     ·rw [v] at u; simp at u; omega
     ·omega
   have hq := hf2 above hf h2
   have hkF : ¬ F' k := fun u => by
    rcases S1.own k (.inl u) with v | v
    ·rcases v with v | v
     ·exact hk v
     ·exact hkn v
    ·omega
   have htA : TreeB A k p t := ht.mod S1.mod fun u => u.elim hk hkn
   have hgA : Gl A := hg.mod S1.mod fun u => u.elim hp.glob fun v => by
    have q2 := hg 0 (by decide)
    rw [v] at q2
    have := hCell_of (o := 0) hn.row (v := .int .i64 (page : Int)) rfl
    rw [this] at q2; cases q2
   have hlk : n.left.kids.length ≤ 504 := by show (n.kids.take _).length ≤ _; rw [List.length_take]; omega
   have hlr : n.left.rows.length ≤ 504 := by show (n.rows.take _).length ≤ _; rw [List.length_take]; omega
   refine twrite_old S I1 (by omega) hgA htA p1 hkF hkn (n1.mono fun b _ u => .inl u) (by show page < x.N + 1; omega) hq.1 hlk hlr (fun r hr => hcol16 r (List.mem_of_mem_take hr)) (fun F3 H3 s3 p3 S3 I3 n3 => ?_) (fun F3 H3 s3 e p3 S3 c4 hC => ?_)
   ·have := hK1 true (some (x.N, n.up)) ((x.more n.right).put page n.left) (by rw [if_pos hf, if_pos hN]) F3 H3 s3 p3 (S1.trans S3) I3
    have hul : n.up.length = W := by
     unfold Nd.up
     rw [getDo (by omega)]
     exact hcols _ (List.getElem_mem _)
    have r3 : RowT H3 mb YaC #[.int .i64 (x.N : Int), v1, v2] := r1.mod S3.mod fun u => u.elim c1 c2
    have c5 : ¬ F3 mb := fun u => by
     rcases S3.own mb (.inl u) with v | v
     ·exact v.elim c1 c2
     ·have := obj_lt r1; omega
    have S3X : Step (fun b => (F' b ∨ (b < base ∧ ¬ lbB l b)) ∨ b = nb) (fun b => (F3 b ∨ (b < base ∧ ¬ lbB l b)) ∨ b = nb) A H3 := S3.into (fun b _ u => u.elim (fun v => .inl (.inl v)) .inr) fun b u => by
     rcases u with (u | u) | u
     ·exact .inl (.inl u)
     ·exact .inr (.inl (.inl (.inr u)))
     ·exact .inl (.inr u)
    exact this hul mb v1 v2 up r3 c5 c3 ((u1.step S3X).mono fun b _ u => .inl u)
   ·exact hKC F3 H3 s3 e _ _ _ p3 (S1.trans S3) hC
  ·have SA : Step (fun b => F b ∨ b = nb) (fun b => F b ∨ b = nb) H A := .ofExt eA
   have hfit := hf1 above hab.1 hab.2 hf
   have hr5 : n.rows.length ≤ 504 := by
    have hb := Nd.bytes_length hW hcols
    have hmul2 : n.rows.length ≤ n.rows.length * (sizeL (W : Int)).toNat := Nat.le_mul_of_pos_right _ (by omega)
    omega
   refine twrite_old S hI (by omega) (hg.mod eA id) (ht.ext eA) (hp.ext eA) hk hkn ((hn.step (.ofExt eA)).mono fun b _ u => .inl u) hpx hfit hkids hr5 hcol16 (fun F3 H3 s3 p3 S3 I3 n3 => ?_) (fun F3 H3 s3 e p3 S3 c4 hC => ?_)
   ·exact hK1 true none (x.put page n) (by rw [if_neg (by rw [hf]; simp)]) F3 H3 s3 p3 (SA.trans S3) (S.up I3 (by omega))
   ·exact hKC F3 H3 s3 e _ _ _ p3 (SA.trans S3) hC
end
section
variable {k p dp : Nat} {t : Tr} {q : Nat} {I : Pl → St → Nat → Prop} {B C : Pl → Int → Prop} {x : St} {ll : List Int} {l : Sl}
theorem node_shape {W depth above : Nat} {w : Int} {n : Nd} {s : Span} (hw : w = (W : Int)) (ok : n.Ok w depth above s) : n.kids = [] ∧ above = 0 ∧ n.rows.length * (sizeL (W : Int)).toNat ≤ 504 ∨ 0 < above ∧ n.kids.length = n.rows.length + 1 ∧ 2 + 4 * n.kids.length + n.rows.length * (sizeL (W : Int)).toNat ≤ 504 := by
 have hf := ok.fit
 rw [hw] at hf
 rcases Nat.eq_zero_or_pos above with h | h
 ·have hk := ok.leaf h
  rw [if_pos hk] at hf
  exact .inl ⟨hk, h, by omega⟩
 ·obtain ⟨i1, i2, i3⟩ := ok.inner h
  have hk : n.kids ≠ [] := fun u => by rw [u] at i1; simp at i1
  rw [if_neg hk] at hf
  exact .inr ⟨h, i1, by omega⟩
set_option maxHeartbeats 1000000 in
theorem NodeO.insRow {F : Nat → Prop} {H : Heap} {base z nb i : Nat} {page : Int} {sk sr l0 l1 : Sl} {l1l : List Int} {rs : List Sl} {n : Nd} {Q : Heap → Prop} (o : NodeO F H base nb page sk sr rs n) (hz : z ≤ base) (hF : ∀ b, F b → b < H.size) (hzH : z ≤ H.size)
  (lOk : RowOk (fun c => F c ∨ (c < z ∧ ¬ lbB l0 c)) H l1 l1l) (hln : ∀ ad, l1.a = some ad → ¬ ownB sr ad.block ∧ ad.block ≠ nb ∧ ¬ ownB sk ad.block) (hi : i ≤ n.rows.length) (hbig : n.rows.length ≤ 1000000)
  (hQ : ∀ A sr', RowT A nb YaC #[.int .i64 page, sk.v, sr'.v] → RowsN (fun c => ((F c ∨ (c < z ∧ ¬ lbB l0 c)) ∨ c = nb) ∨ ownB sk c) A sr' (insAt i l1l n.rows) → sr'.n ≤ sr'.c → Owns A 0 YaT 1 sk ((n.kids.map Int.ofNat).map (Value.int .i64)) → Mod (fun c => ownB sr c ∨ c = nb) H A → Q A) :
  newC H #[l1.v] YaK fun p_1 H5 => Zaw.sp sr (i : Int) (Sl.mk (some p_1) 1 1) H5 fun (r_2 : Sl) H6 => st H6 (Addr.add ⟨nb, 0, none⟩ 2) r_2.v fun H7 => Q H7 := by
 have hnb := o.nb
 have hX : ∀ c, (c < z ∧ ¬ lbB l0 c) → c < base ∨ c = nb := fun c u => .inl (by omega)
 have qr := o.q (X := fun c => c < z ∧ ¬ lbB l0 c) hX
 have hlq : RowOk (fun c => (F c ∨ (c < z ∧ ¬ lbB l0 c)) ∨ ownB sr c) H l1 l1l := by
  refine ⟨fun ad ha => ⟨(lOk.off ad ha).1, fun u => ?_⟩, lOk.ints⟩
  rcases u with u | u
  ·exact (lOk.off ad ha).2 u
  ·exact (hln ad ha).1 u
 refine qr.ins hlq (fun c u => ?_) hi hbig fun sr' A qa ma ba => ?_
 ·rcases u with u | u
  ·exact hF c u
  ·omega
 have hnA : ¬ ownB sr nb := o.srN
 have rA : RowT A nb YaC #[.int .i64 page, sk.v, sr.v] := o.row.mod ma hnA
 refine RowT.st rA (i := 2) (by simp) rfl fun A2 rA2 mA2 zA2 => ?_
 have hzA := ma.size
 have qn := qa.toN
 have hcap := qa.out.cap
 have hskA : ∀ c, ownB sk c → ¬ ownB sr c := o.kids.apart o.rows.out (by decide)
 have kidsA2 : Owns A2 0 YaT 1 sk ((n.kids.map Int.ofNat).map (Value.int .i64)) := (o.kids.mod ma hskA).mod mA2 fun c u v => o.skN (v ▸ u)
 have hsr'nb : ∀ c, ownB sr' c → c ≠ nb := fun c u v => by
  obtain ⟨cur, hcu⟩ := qa.out.obj _ u
  rw [v] at hcu
  exact absurd (cells_ty hcu rA) (by decide)
 have hrow : ∀ j (hj : j < (insAt i l1l n.rows).length), ∃ ad r, sr'.a = some ad ∧ hCell A (ad.add j) = some (Sl.v r) ∧ Off (fun c => ((F c ∨ (c < z ∧ ¬ lbB l0 c)) ∨ c = nb) ∨ ownB sk c) A r ∧ Ints .u64 A r ((insAt i l1l n.rows)[j]) := by
  intro j hj
  have hir : j < (insAt i l1 rs).length := by rw [qa.len]; exact hj
  obtain ⟨ad, ha, hc'⟩ := qa.out.reads.at (i := j) (by simpa using hir)
  have hr := qa.row j _ _ (List.getElem?_eq_getElem hir) (List.getElem?_eq_getElem hj)
  refine ⟨ad, _, ha, by simpa using hc', fun ad' ha' => ⟨(hr.off ad' ha').1, fun u => ?_⟩, hr.ints⟩
  have hm : (insAt i l1 rs)[j] ∈ rs ∨ (insAt i l1 rs)[j] = l1 := insAt_mem.1 (List.getElem_mem hir)
  rcases u with (u | u) | u
  ·exact (hr.off ad' ha').2 (.inl u)
  ·rcases hm with v | v
   ·exact o.rsN _ v ⟨ad', ha', u⟩
   ·rw [v] at ha'
    exact (hln ad' ha').2.1 u
  ·rcases hm with v | v
   ·obtain ⟨lv, hlv⟩ := o.rows.rowAt v
    exact hlv.apart o.kids (by decide) _ ⟨ad', ha', rfl⟩ u
   ·rw [v] at ha'
    exact (hln ad' ha').2.2 u
 have qn2 : RowsN (fun c => ((F c ∨ (c < z ∧ ¬ lbB l0 c)) ∨ c = nb) ∨ ownB sk c) A2 sr' (insAt i l1l n.rows) := by
  refine ⟨qn.len, fun ad ha => ⟨by have := (qn.off ad ha).1; omega, fun u => ?_⟩, fun j hj => ?_⟩
  ·rcases u with (u | u) | u
   ·exact (qn.off ad ha).2 u
   ·exact hsr'nb _ ⟨ad, ha, rfl⟩ u
   ·exact qa.out.apart (o.kids.mod ma hskA) (by decide) _ ⟨ad, ha, rfl⟩ u
  ·obtain ⟨ad, r, w1, w2, w3, w4⟩ := hrow j hj
   refine ⟨ad, r, w1, mA2.cell w2 (by rw [add_block]; exact hsr'nb _ ⟨ad, w1, rfl⟩), fun ad' ha' => ⟨by have := (w3 ad' ha').1; omega, (w3 ad' ha').2⟩, w4.mod mA2 fun ad' ha' u => (w3 ad' ha').2 (.inl (.inr u))⟩
 exact hQ A2 sr' rA2 qn2 hcap kidsA2 ((ma.mono fun _ _ u => .inl u).trans (mA2.mono fun _ _ u => .inr u))
set_option maxHeartbeats 4000000 in
theorem tadd_ok {W depth : Nat} (S : Store t.name q I B C) (hw : t.width = (W : Int)) (hW : W ≤ 16) (hd : t.depth = (depth : Int)) (hlw : ll.length = W) : ∀ (above page : Nat) (sp : Span) (a b : Sl) (F : Nat → Prop) (H : Heap) (s : Pl) (m : Nat) (K : (Bool × Option Addr × Sl × Int) → Heap → Prop),
  I s x m → m + 3 * (above + 1) ≤ 30000000000 → above ≤ 1000000 → Gl H → TreeB H k p t → PoolAt F H p dp s → ¬ F k → page ≤ 1000000000000 → SpanAt F H a b sp → RowOk F H l ll →
  (∀ fresh o x', x.add t.width q depth ll above page sp = .ok fresh o x' → ∀ F' H' s', PoolAt F' H' p dp s' → Step F F' H H' → I s' x' (m + 3 * (above + 1)) → AddK K W H.size l F' H' fresh o) →
  (x.add t.width q depth ll above page sp = .store → ∀ F' H' s', PoolAt F' H' p dp s' → Step F F' H H' → I s' x (m + 3 * (above + 1)) → K (false, none, nilT, 280) H') →
  (x.add t.width q depth ll above page sp = .quota → ∀ F' H' s' e f o up, PoolAt F' H' p dp s' → Step F F' H H' → B s' e → K (f, o, up, e) H') →
  (∀ F' H' s' e f o up, PoolAt F' H' p dp s' → Step F F' H H' → C s' e → K (f, o, up, e) H') → Zdd.sp (at0 k) (page : Int) (above : Int) a b l H K := by
 intro above
 induction above with
 | zero =>
   intro page sp a b F H s m K hI hm _ hg ht hp hk hpg hs hl hK1 hK2 hKB hKC
   refine Zdd.of ?_
   unfold Zdd.vc
   have hT := (S.pre hI).2.2.2.2.2
   refine newC_rowT fun H1 z1 r1 e1 => ?_
   have hkl := obj_lt ht
   have T1 : Step F F H H1 := .ofExt e1
   refine RowT.ldA (c := cAgg [cSl, cSl]) (x := (a, b)) r1 rfl rfl ?_
   unfold St.add at hK1 hK2 hKB
   refine tnode_ok (above := 0) S hI (by omega) (hg.mod e1 id) (ht.ext e1) (hp.ext e1) hk hpg (hs.step T1) hd (fun n hn F2 H2 s2 nb sk sr rs p2 S2 I2 o2 => ?_) (fun hn F2 H2 s2 p2 S2 I2 => ?_) (fun F2 H2 s2 e p2 S2 hC => ?_)
   rotate_left
   ·refine br_t rfl ?_
    rw [hn] at hK2
    exact hK2 rfl F2 H2 s2 p2 (T1.trans S2) (S.up I2 (by omega))
   ·refine br_t (by have := (S.errC hC).1; simpa using this) ?_
    exact hKC F2 H2 s2 e _ _ _ p2 (T1.trans S2) hC
   refine br_f rfl ?_
   rw [hn] at hK1 hKB
   simp only at hK1 hKB
   have T2 := T1.trans S2
   have hx : page < x.N := by
    unfold St.node at hn
    split at hn
    ·assumption
    ·cases hn
   have ok := node_ok hT hn
   have hsize := ok.size
   have hk0 := ok.leaf rfl
   have hcols : ∀ r ∈ n.rows, r.length ≤ 16 := fun r hr => by rw [ok.cols r hr, hw]; simpa using hW
   have t2 : TreeB H2 k p t := (ht.ext e1).mod S2.mod hk
   have hg2 : Gl H2 := hg.mod T2.mod hp.glob
   have hkF : ¬ F2 k := fun u => (T2.own _ u).elim hk fun v => by omega
   have hz2 := T2.mod.size
   have hnb := o2.nb
   have l2 : RowOk F2 H2 l ll := hl.step T2
   have nr := o2.read
   refine ⟨fun _ A => sameAt n.rows ll = false ∧ ∃ sk' sr', NodeR (fun b => F2 b ∨ (b < H.size ∧ ¬ lbB l b)) A nb (page : Int) sk' sr' ⟨n.kids, insAt (below ll n.rows) ll n.rows⟩ ∧ sk'.n ≤ sk'.c ∧ sr'.n ≤ sr'.c ∧ Step F F2 H A ∧ PoolAt F2 A p dp s2, ?_, ?_⟩
   ·refine br_t rfl ?_
    unfold at0
    simp only [optK_eq]
    refine RowT.ld (c := cSl) (i := 2) (x := sr) nr.row rfl ?_
    refine tbin_ok nr.rows l2.ints (holds_rises ok.holds) hcols (by omega) ?_
    refine br_mk (fun hc => ?_) (fun hc => ?_)
    ·have hc : sameAt n.rows ll = true := hc
     have := hK1 false none x (by rw [if_pos hc]) F2 H2 s2 p2 T2 (S.up I2 (by omega))
     exact this
    ·have hc : sameAt n.rows ll = false := hc
     refine RowT.ld (c := cSl) (i := 2) (x := sr) nr.row rfl ?_
     have hlX : RowOk (fun c => F2 c ∨ (c < H.size ∧ ¬ lbB l c)) H2 l ll := ⟨fun ad ha => ⟨(l2.off ad ha).1, fun u => u.elim (l2.off ad ha).2 fun v => v.2 ⟨ad, ha, rfl⟩⟩, l2.ints⟩
     refine o2.insRow (z := H.size) (l0 := l) (by omega) (fun c u => p2.lt c u) (by omega) hlX (fun ad ha => ?_) (below_leT _ _) (by omega) fun A sr' rA qA hcap kA mA => ?_
     ·have := (hl.off ad ha).1
      exact ⟨fun u => by have := (o2.sr _ u).1; omega, by omega, fun u => by have := (o2.sk _ u).1; omega⟩
     have mAF : ∀ c, ownB sr c ∨ c = nb → H.size ≤ c ∧ ¬ F2 c := fun c u => by
      rcases u with u | u
      ·have := o2.sr c u; exact ⟨by omega, this.2⟩
      ·subst u; exact ⟨by omega, hnb.2⟩
     have hzA := mA.size
     have pA : PoolAt F2 A p dp s2 := p2.keep fun c hc2 hl2 => mA.same c hl2 fun u => (mAF c u).2 hc2
     have SA : Step F F2 H A := ⟨⟨by omega, fun c hc2 hn2 => (mA.same c (by omega) fun u => by have := (mAF c u).1; omega).trans (T2.mod.same c hc2 hn2)⟩, T2.own⟩
     refine ⟨hc, sk, sr', ⟨rA, fun u => ?_, kA.ints, fun ad ha => ⟨(kA.block _ ⟨ad, ha, rfl⟩).2, fun u => ?_⟩, qA.mono fun _ _ u => .inl u⟩, kA.cap, hcap, SA, pA⟩
     ·rcases u with u | u
      ·exact hnb.2 u
      ·have := u.1; omega
     ·rcases u with (u | u) | u
      ·exact (o2.sk _ ⟨ad, ha, rfl⟩).2 u
      ·have := (o2.sk _ ⟨ad, ha, rfl⟩).1; have := u.1; omega
      ·exact o2.skN ⟨ad, ha, u⟩
   ·rintro _ A ⟨hsm, sk', sr', nA, hck, hcr, SA, pA⟩
    rw [if_neg (by rw [hsm]; simp)] at hK1 hKB
    have hkA : ¬ F2 k := hkF
    have hsh := node_shape hw ok
    refine tfin_ok (above := 0) (base := H.size) (l := l) S hw hW I2 (by omega) (hg.mod SA.mod hp.glob) (ht.mod SA.mod hk) pA hkA hkl (by omega) SA.mod.size nA hck hcr hx (fun r hr => ?_) ?_ ?_ (fun fresh o x' hf F3 H3 s3 p3 S3 I3 => ?_) (fun hf F3 H3 s3 e f o up p3 S3 hB => ?_) (fun F3 H3 s3 e f o up p3 S3 hC => ?_)
    ·rcases insAt_mem.1 hr with u | u
     ·rw [ok.cols r u, hw]; simp
     ·rw [u]; exact hlw
    ·show 1 ≤ (insAt _ _ _).length; rw [insAt_length]; omega
    ·refine .inl ⟨rfl, hk0, ?_⟩
     show ((insAt _ _ _).length - 1) * _ ≤ _
     rw [insAt_length, Nat.add_sub_cancel]
     rcases hsh with ⟨_, _, u⟩ | ⟨u, _⟩
     ·exact u
     ·omega
    ·exact hK1 fresh o x' hf F3 H3 s3 p3 (SA.drop (by omega) S3) (S.up I3 (by omega))
    ·exact hKB hf F3 H3 s3 e f o up p3 (SA.drop (by omega) S3) hB
    ·exact hKC F3 H3 s3 e f o up p3 (SA.drop (by omega) S3) hC
 | succ above ih =>
   intro page sp a b F H s m K hI hm hab hg ht hp hk hpg hs hl hK1 hK2 hKB hKC
   refine Zdd.of ?_
   unfold Zdd.vc
   have hT := (S.pre hI).2.2.2.2.2
   refine newC_rowT fun H1 z1 r1 e1 => ?_
   have hkl := obj_lt ht
   have T1 : Step F F H H1 := .ofExt e1
   refine RowT.ldA (c := cAgg [cSl, cSl]) (x := (a, b)) r1 rfl rfl ?_
   unfold St.add at hK1 hK2 hKB
   refine tnode_ok (above := above + 1) S hI (by omega) (hg.mod e1 id) (ht.ext e1) (hp.ext e1) hk hpg (hs.step T1) hd (fun n hn F2 H2 s2 nb sk sr rs p2 S2 I2 o2 => ?_) (fun hn F2 H2 s2 p2 S2 I2 => ?_) (fun F2 H2 s2 e p2 S2 hC => ?_)
   rotate_left
   ·refine br_t rfl ?_
    rw [hn] at hK2
    exact hK2 rfl F2 H2 s2 p2 (T1.trans S2) (S.up I2 (by omega))
   ·refine br_t (by have := (S.errC hC).1; simpa using this) ?_
    exact hKC F2 H2 s2 e _ _ _ p2 (T1.trans S2) hC
   refine br_f rfl ?_
   rw [hn] at hK1 hK2 hKB
   simp only at hK1 hK2 hKB
   have T2 := T1.trans S2
   have hx : page < x.N := by
    unfold St.node at hn
    split at hn
    ·assumption
    ·cases hn
   have ok := node_ok hT hn
   have hsize := ok.size
   obtain ⟨i1, i2, i3⟩ := ok.inner (Nat.succ_pos _)
   have hcols : ∀ r ∈ n.rows, r.length ≤ 16 := fun r hr => by rw [ok.cols r hr, hw]; simpa using hW
   have t2 : TreeB H2 k p t := (ht.ext e1).mod S2.mod hk
   have hg2 : Gl H2 := hg.mod T2.mod hp.glob
   have hkF : ¬ F2 k := fun u => (T2.own _ u).elim hk fun v => by omega
   have hz2 := T2.mod.size
   have hnb := o2.nb
   have l2 : RowOk F2 H2 l ll := hl.step T2
   have nr := o2.read
   have hcl := child_le (n := n) (l := ll)
   have hs2 : SpanAt F2 H2 a b sp := hs.step T2
   have rp2 : RowT H2 H.size YaA #[a.v, b.v] := r1.mod S2.mod fun u => by have := hp.lt _ u; omega
   generalize hc0 : n.child ll = c0 at *
   generalize hsub : x.add t.width q depth ll above (n.kids.getD c0 0) (sp.of n c0) = r at *
   refine ⟨fun _ A => ∃ f pg ul x', r = .ok f (some (pg, ul)) x' ∧ ul.length = W ∧ ∃ F3 s3 sk' sr', NodeR (fun b => F3 b ∨ (b < H.size ∧ ¬ lbB l b)) A nb (page : Int) sk' sr' ⟨insAt (c0 + 1) pg n.kids, insAt c0 ul n.rows⟩ ∧ sk'.n ≤ sk'.c ∧ sr'.n ≤ sr'.c ∧ Step F F3 H A ∧ PoolAt F3 A p dp s3 ∧ I s3 x' (m + 1 + 3 * (above + 1)), ?_, ?_⟩
   ·refine br_f (by simp only [beq_eq_false_iff_ne, ne_eq]; omega) ?_
    refine tchild_ok nr l2.ints (holds_rises ok.holds) hcols (by omega) ?_
    rw [hc0]
    unfold at0
    simp only [optK_eq]
    refine ⟨fun D => Ext H2 D, .refl _ _, ?_⟩
    refine RowT.ldC (c := cSl) (i := 1) (x := sk) (cs := fun _ => #[.int .i64 (page : Int), sk.v, sr.v]) (fun D hD => nr.row.ext hD) (fun _ _ => rfl) ?_
    have hkn : sk.n = n.kids.length := by have := nr.kids.len; simpa using this
    obtain ⟨ad, q1, q2⟩ := nr.kids.at (i := c0) (by simp; omega)
    have hkid : (List.map Int.ofNat n.kids)[c0]'(by simp; omega) = ((n.kids.getD c0 0 : Nat) : Int) := by
     simp [List.getD, List.getElem?_eq_getElem (show c0 < n.kids.length by omega)]
    rw [hkid] at q2
    refine optK_mk ad q1 ⟨⟨by omega, by omega⟩, ((n.kids.getD c0 0 : Nat) : Int), fun D hD => ?_, ?_⟩
    ·simp only [Int.toNat_natCast, Nat.mul_one]
     exact hD.cell q2 id
    refine RowT.ldA (c := cAgg [cSl, cSl]) (x := (a, b)) rp2 rfl rfl ?_
    refine tof_ok hs2 nr o2.nnAt (by omega) (by omega) fun u v A2 e2 s2' => ?_
    refine ⟨e2, ?_⟩
    have eab : IntKind.i64.wrap (((above + 1 : Nat) : Int) - 1) = (above : Int) := by rw [wrap64 (by omega) (by omega)]; omega
    rw [eab]
    have hzA := e2.size
    have TA2 : Step F F2 H A2 := T2.trans (.ofExt e2)
    have hkidlt : n.kids.getD c0 0 ≤ 1000000000000 := by
     have : n.kids.getD c0 0 < 4294967296 := by
      have hlt2 : c0 < n.kids.length := by omega
      simp only [List.getD, List.getElem?_eq_getElem hlt2, Option.getD_some]
      exact ok.kids _ (List.getElem_mem hlt2)
     omega
    refine ih (n.kids.getD c0 0) (sp.of n c0) u v F2 A2 s2 (m + 1) _ I2 (by omega) (by omega) (hg2.mod e2 id) (t2.ext e2) (p2.ext e2) hkF hkidlt s2' (l2.step (.ofExt e2)) (fun f o x' hr F3 A3 s3 p3 S3 I3 => ?_) (fun hr F3 A3 s3 p3 S3 I3 => ?_) (fun hr F3 A3 s3 e f o up p3 S3 hB => ?_) (fun F3 A3 s3 e f o up p3 S3 hC => ?_)
    rotate_left
    ·refine br_t rfl ?_
     rw [hsub] at hr
     rw [hr] at hK2
     exact hK2 rfl F3 A3 s3 p3 (TA2.trans S3) (S.up I3 (by omega))
    ·refine br_t (by have := (S.errB hB).1; simpa using this) ?_
     rw [hsub] at hr
     rw [hr] at hKB
     exact hKB rfl F3 A3 s3 e _ _ _ p3 (TA2.trans S3) hB
    ·refine br_t (by have := (S.errC hC).1; simpa using this) ?_
     exact hKC F3 A3 s3 e _ _ _ p3 (TA2.trans S3) hC
    rw [hsub] at hr
    have T3 := TA2.trans S3
    cases o with
    | none =>
      unfold AddK
      dsimp only
      refine br_f rfl ?_
      refine br_t rfl ?_
      rw [hr] at hK1
      exact hK1 f none x' rfl F3 A3 s3 p3 T3 (S.up I3 (by omega))
    | some pu =>
      obtain ⟨pg, ul⟩ := pu
      unfold AddK
      intro hul mb v1 v2 up rmb hmbF hmbz upOk
      dsimp only
      refine br_f rfl ?_
      refine br_f rfl ?_
      have S23 : Step F2 F3 H2 A3 := (Step.ofExt e2).trans S3
      have o3 := o2.step S23
      have hz3 := S23.mod.size
      refine RowT.ld (c := cSl) (i := 2) (x := sr) o3.row rfl ?_
      have hupX : RowOk (fun c => F3 c ∨ (c < H.size ∧ ¬ lbB l c)) A3 up ul := upOk.mono fun c _ u => u.imp id fun v => ⟨by omega, v.2⟩
      have hlb : ∀ c, lbB l c → c < H.size := fun c ⟨ad, ha, hb⟩ => by have := (hl.off ad ha).1; omega
      refine o3.insRow (z := H.size) (l0 := l) (by omega) (fun c u => p3.lt c u) (by omega) hupX (fun ad ha => ?_) hcl (by omega) fun A sr' rA qA hcap kA mA => ?_
      ·have hof := (upOk.off ad ha).2
       refine ⟨fun u => ?_, fun u => ?_, fun u => ?_⟩
       ·have h1 := (o2.sr _ u).1
        have h2 := (o2.rows.out.block _ u).2
        exact hof (.inr ⟨by omega, fun w => by have := hlb _ w; omega⟩)
       ·have h2 := obj_lt o2.row
        exact hof (.inr ⟨by omega, fun w => by have := hlb _ w; omega⟩)
       ·have h1 := (o2.sk _ u).1
        have h2 := (o2.kids.block _ u).2
        exact hof (.inr ⟨by omega, fun w => by have := hlb _ w; omega⟩)
      have hmbn : mb ≠ nb := fun u => by have := obj_lt o2.row; omega
      have hmbsr : ¬ ownB sr mb := fun u => by have := (o2.rows.out.block _ u).2; omega
      have rmbA := rmb.mod mA fun u => u.elim hmbsr hmbn
      refine ⟨fun D => Ext A D, .refl _ _, ?_⟩
      refine RowT.ldC (c := cSl) (i := 1) (x := sk) (cs := fun _ => #[.int .i64 (page : Int), sk.v, sr'.v]) (fun D hD => rA.ext hD) (fun _ _ => rfl) ?_
      refine RowT.ld (c := cInt .i64) (i := 0) (x := (pg : Int)) rmbA rfl ?_
      rw [succ64 _ (by omega)]
      refine newC_varT fun pp A4 hpp z4 v4 e4 => ?_
      refine ⟨e4, ?_⟩
      have hskA := (kA.block)
      refine insInts_ok (kA.ext e4) (intsOne _ _) v4 (fun u => by have := (kA.block _ u).2; omega) (by simp; omega) (by simp; omega) fun sk' A5 n5 o5 m5 b5 => ?_
      have hsknb : ¬ ownB sk nb := fun u => by
       obtain ⟨cur, hc⟩ := kA.obj _ u
       exact absurd (cells_ty hc rA) (by decide)
      have rA5 : RowT A5 nb YaC #[.int .i64 (page : Int), sk.v, sr'.v] := (rA.ext e4).mod m5 hsknb
      refine RowT.st rA5 (i := 1) (by simp) rfl fun A6 r6 m6 z6 => ?_
      have hmA := mA.size
      have hm4 := e4.size
      have hm5 := m5.size
      -- what lies where
      have mAF : ∀ c, ownB sr c ∨ c = nb → H.size ≤ c ∧ ¬ F3 c := fun c u => by
       rcases u with u | u
       ·have := o3.sr c u; exact ⟨by omega, this.2⟩
       ·subst u; exact ⟨by omega, o3.nb.2⟩
      have mSK : ∀ c, ownB sk c → H.size ≤ c ∧ ¬ F3 c := fun c u => by
       have := o3.sk c u; exact ⟨by omega, this.2⟩
      have pA : PoolAt F3 A p dp s3 := p3.keep fun c hc2 hl2 => mA.same c hl2 fun u => (mAF c u).2 hc2
      have pA5 : PoolAt F3 A5 p dp s3 := (pA.ext e4).keep fun c hc2 hl2 => m5.same c hl2 fun u => (mSK c u).2 hc2
      have pA6 : PoolAt F3 A6 p dp s3 := pA5.keep fun c hc2 hl2 => m6.same c hl2 fun u => o3.nb.2 (u ▸ hc2)
      have S6 : Step F F3 H A6 := ⟨⟨by have := T3.mod.size; omega, fun c hc2 hn2 => by
       have hcz := T3.mod.size
       rw [m6.same c (by omega) (by omega), m5.same c (by omega) (fun u => by have := (mSK c u).1; omega), e4.same c (by omega) id, mA.same c (by omega) fun u => by have := (mAF c u).1; omega]
       exact T3.mod.same c hc2 hn2⟩, T3.own⟩
      have hsk'nb : ∀ c, ownB sk' c → c ≠ nb := fun c u v => by
       obtain ⟨cur, hc⟩ := o5.obj _ u
       rw [v] at hc
       exact absurd (cells_ty hc rA5) (by decide)
      have hsk'F : ∀ c, ownB sk' c → H.size ≤ c ∧ ¬ F3 c := fun c u => by
       rcases b5 c u with w | w
       ·exact mSK c w
       ·exact ⟨by have := T3.mod.size; omega, fun w2 => by have := pA.lt c w2; omega⟩
      have SA6 : Step (fun c => ((F3 c ∨ (c < H.size ∧ ¬ lbB l c)) ∨ c = nb) ∨ ownB sk c) (fun c => ((F3 c ∨ (c < H.size ∧ ¬ lbB l c)) ∨ c = nb) ∨ ownB sk c) A A6 := ⟨(((Ext.mod e4).trans (m5.mono fun _ _ u => .inr u)).trans (m6.mono fun _ _ u => .inl (.inr u))), fun c u => .inl u⟩
      have hkids6 : Owns A6 0 YaT 1 sk' (((insAt (c0 + 1) pg n.kids).map Int.ofNat).map (Value.int .i64)) := by
       rw [← insAt_map, ← insAt_map]
       exact o5.mod m6 fun c u v => hsk'nb c u v
      refine ⟨f, pg, ul, x', hr, hul, F3, s3, sk', sr', ⟨r6, fun u => ?_, hkids6.ints, fun ad ha => ⟨(hkids6.block _ ⟨ad, ha, rfl⟩).2, fun u => ?_⟩, (qA.step SA6).mono fun _ _ u => .inl u⟩, hkids6.cap, hcap, S6, pA6, I3⟩
      ·rcases u with u | u
       ·exact o3.nb.2 u
       ·have := u.1; omega
      ·rcases u with (u | u) | u
       ·exact (hsk'F _ ⟨ad, ha, rfl⟩).2 u
       ·have := (hsk'F _ ⟨ad, ha, rfl⟩).1; have := u.1; omega
       ·exact hsk'nb _ ⟨ad, ha, rfl⟩ u
   ·rintro _ A ⟨f, pg, ul, x', hr, hul, F3, s3, sk', sr', nA, hck, hcr, SA, pA, IA⟩
    rw [hr] at hK1 hKB
    simp only at hK1 hKB
    have hkA : ¬ F3 k := fun u => (SA.own _ u).elim hk fun v => by omega
    have hxN : x.N ≤ x'.N := by
     rw [hr] at hsub
     exact St.add_N hsub
    have hsh := node_shape hw ok
    refine tfin_ok (above := above + 1) (base := H.size) (l := l) S hw hW IA (by omega) (hg.mod SA.mod hp.glob) (ht.mod SA.mod hk) pA hkA hkl (by omega) SA.mod.size nA hck hcr (by omega) (fun r hr => ?_) ?_ ?_ (fun fresh o x2 hf F4 H4 s4 p4 S4 I4 => ?_) (fun hf F4 H4 s4 e f o up p4 S4 hB => ?_) (fun F4 H4 s4 e f o up p4 S4 hC => ?_)
    ·rcases insAt_mem.1 hr with u | u
     ·rw [ok.cols r u, hw]; simp
     ·rw [u]; exact hul
    ·show 1 ≤ (insAt _ _ _).length; rw [insAt_length]; omega
    ·refine .inr ⟨Nat.succ_pos _, ?_, ?_⟩
     ·show (insAt _ _ _).length = (insAt _ _ _).length + 1
      rw [insAt_length, insAt_length]; omega
     ·show 2 + 4 * ((insAt _ _ _).length - 1) + ((insAt _ _ _).length - 1) * _ ≤ _
      rw [insAt_length, insAt_length, Nat.add_sub_cancel, Nat.add_sub_cancel]
      rcases hsh with ⟨u, _⟩ | ⟨_, _, u⟩
      ·rw [u] at i1; simp at i1
      ·exact u
    ·exact hK1 fresh o x2 hf F4 H4 s4 p4 (SA.drop (by omega) S4) (S.up I4 (by omega))
    ·exact hKB hf F4 H4 s4 e f o up p4 (SA.drop (by omega) S4) hB
    ·exact hKC F4 H4 s4 e f o up p4 (SA.drop (by omega) S4) hC
end
end Go.Proofs.YtlockeegebnofaaGreatDoor
namespace Go.Proofs.YtlockeegebnofaaGreatDoor
theorem PickN_ok {i n : Int} {H : Heap} {K : Int → Heap → Prop} (h2 : n ≤ 9223372036854775807)
  (hK : K (if n < 1 then 0 else i.emod n) H) : ZcA.sp i n H K := by
 refine ZcA.of ?_
 unfold ZcA.vc
 refine br_mk (fun h => ?_) (fun h => ?_)
 ·have : n < 1 := by simpa using h
  simpa [this] using hK
 ·have hn : 1 ≤ n := by simpa using h
  refine ⟨by omega, ?_⟩
  rw [if_neg (by omega)] at hK
  refine br_mk (fun h => ?_) (fun h => ?_)
  ·have hneg : i.tmod n < 0 := by simpa using h
   have e : i.emod n = i.tmod n + n := by
    rw [Int.tmod_eq_emod] at hneg ⊢
    split at hneg
    ·have := Int.emod_nonneg i (show n ≠ 0 by omega)
     omega
    ·rename_i h3
     rw [if_neg h3]
     have : (n.natAbs : Int) = n := by omega
     have e2 : i % n = i.emod n := rfl
     omega
   have hb1 : -n < i.tmod n := by
    rw [Int.tmod_eq_emod]
    have := Int.emod_nonneg i (show n ≠ 0 by omega)
    split <;> omega
   rw [wrap64 (by omega) (by omega), ← e]
   exact hK
  ·have hpos : 0 ≤ i.tmod n := by simpa using h
   have e : i.emod n = i.tmod n := by
    rw [Int.tmod_eq_emod] at hpos ⊢
    split
    ·simp; rfl
    ·rename_i h3
     rw [if_neg h3] at hpos
     have := Int.emod_lt_of_pos i (show 0 < n by omega)
     have : (n.natAbs : Int) = n := by omega
     omega
   rw [← e]; exact hK
open Go.MapKept
def Tr.ready (t : Tr) : Int := if t.wrong ≠ 0 then t.wrong else if t.gone then 2 else 0
def Tr.broke (t : Tr) (e : Int) : Tr := { t with wrong := e }
def Tr.up (t : Tr) (f : Bool) : Tr := if f then { t with count := t.count + 1 } else t
inductive InsR where
 | store
 | quota
 | ok (fresh : Bool) (t : Tr) (x : St)
def Tr.grown (t : Tr) (root depth : Nat) : Tr := { t with root := (root : Int), depth := (depth : Int) }
def St.ins (x : St) (q : Nat) (t : Tr) (root depth : Nat) (ll : List Int) : InsR :=
 match x.add t.width q depth ll (depth - 1) root span0 with
 | .store => .store
 | .quota => .quota
 | .ok f none x' => .ok f (t.up f) x'
 | .ok f (some m) x' => if x'.N < q then .ok f ((t.grown x'.N (depth + 1)).up f) (x'.more ⟨[root, m.1], [m.2]⟩) else .quota
section
variable {H : Heap} {k p dp : Nat} {t : Tr} {F : Nat → Prop} {s : Pl} {q : Nat} {I : Pl → St → Nat → Prop} {B C : Pl → Int → Prop} {x : St} {m : Nat} {W root depth : Nat} {ll : List Int} {l : Sl}
theorem tready_ok {K : Int → Heap → Prop} (h : TreeB H k p t) (hK : K t.ready H) : Zco.sp (at0 k) H K := by
 refine Zco.of ?_
 unfold Zco.vc
 unfold Tr.ready at hK
 refine br_f rfl ?_
 simp only [optK_eq, at0]
 refine RowT.ld (c := cInt .i64) (i := 6) (x := t.wrong) h rfl ?_
 refine br_mk (fun hc => ?_) (fun hc => ?_)
 ·rw [if_pos (by simpa using hc)] at hK
  exact RowT.ld (c := cInt .i64) (i := 6) (x := t.wrong) h rfl hK
 ·rw [if_neg (by simpa using hc)] at hK
  refine RowT.ld (c := cBool) (i := 7) (x := t.gone) h rfl ?_
  cases hg : t.gone with
  | true => rw [hg, if_pos rfl] at hK; exact hK
  | false => rw [hg, if_neg (by simp)] at hK; exact hK
theorem tmet_ok {e : Int} {K : Int → Heap → Prop} (h : TreeB H k p t) (he : e ≠ 0) (hK : ∀ A, TreeB A k p (t.broke e) → Mod (fun b => b = k) H A → A.size = H.size → K e A) : ZcU.sp (at0 k) e H K := by
 refine ZcU.of ?_
 unfold ZcU.vc
 refine br_t (by simpa using he) ?_
 simp only [optK_eq, at0]
 exact RowT.st h (i := 6) (by simp [treV]) rfl fun A r m z => hK A r m z
theorem tmet_zero {K : Int → Heap → Prop} (hK : K 0 H) : ZcU.sp (at0 k) 0 H K := by
 refine ZcU.of ?_
 unfold ZcU.vc
 exact br_f rfl hK
theorem tclone_ok {H : Heap} {s : Sl} {l : List Int} {K : Sl → Heap → Prop} (h : Ints .u64 H s l) (hl : l.length ≤ 17592186044416)
  (hK : ∀ s' H', Owns H' 0 YaP 1 s' (l.map (Value.int .u64)) → Ext H H' → (∀ b, ownB s' b → H.size ≤ b) → K s' H') : ZaH.sp s H K := by
 refine ZaH.of ?_
 unfold ZaH.vc
 have hn := h.len
 refine br_mk (fun hc => ?_) (fun hc => ?_)
 ·have hl0 : l = [] := by
   cases l with
   | nil => rfl
   | cons x r =>
     obtain ⟨ad, e, _⟩ := h.at (i := 0) (by simp)
     rw [e] at hc; simp at hc
  subst hl0
  exact hK nilT H (Owns.nil _ _ _ _) (.refl _ _) fun b u => absurd u (nilT_own b)
 ·refine Owns.emptyB fun H1 o1 e1 => ?_
  refine elU64.appendBig (base := 0) (s := ⟨some ⟨H.size, 0, none⟩, 0, 0⟩) (x := s) (ws := l.map (Value.int .u64)) o1 (by simp; omega) (h.ext e1).reads (intsOne _ _) (by simp only; omega) (by simp only; omega) (Nat.zero_le _) ?_
  intro s' H2 n2 o2 m2 b2 _
  have f1 : ∀ b, ownB (Sl.mk (some ⟨H.size, 0, none⟩) 0 0) b → H.size ≤ b := by
   rintro b ⟨ad, ha, rfl⟩
   cases ha; exact Nat.le_refl _
  refine hK s' H2 (by simpa using o2) (((Ext.mod e1).trans m2).ext f1) fun b u => ?_
  rcases b2 b u with v | v
  ·exact f1 b v
  ·have := e1.size; omega
theorem Step.all {F : Nat → Prop} {A B : Heap} {k : Nat} (m : Mod (fun b => b = k) A B) : Step (fun b => F b ∨ b = k) (fun b => F b ∨ b = k) A B := ⟨m.mono fun _ _ u => .inr u, fun _ u => .inl u⟩
theorem PoolAt.offK {F : Nat → Prop} {A B : Heap} {k p dp : Nat} {s : Pl} (h : PoolAt F A p dp s) (m : Mod (fun b => b = k) A B) (hk : ¬ F k) : PoolAt F B p dp s := h.keep fun b hb hl => m.same b hl fun u => hk (u ▸ hb)
set_option maxHeartbeats 4000000 in
theorem tInsert_ok {K : (Bool × Int) → Heap → Prop} (S : Store t.name q I B C) (hw : t.width = (W : Int)) (hW : W ≤ 16) (hr : t.root = (root : Int)) (hd : t.depth = (depth : Int)) (hd1 : 1 ≤ depth ∧ depth ≤ 1000) (hroot : root ≤ 1000000000000) (hcnt : 0 ≤ t.count ∧ t.count ≤ 1000000000000)
  (hI : I s x m) (hm : m + 4000 ≤ 30000000000) (hg : Gl H) (ht : TreeB H k p t) (hp : PoolAt F H p dp s) (hk : ¬ F k) (hl : Ints .u64 H l ll)
  (hK0 : t.ready ≠ 0 → K (false, t.ready) H) (hKw : t.ready = 0 → ll.length ≠ W → K (false, 60) H)
  (hK1 : t.ready = 0 → ll.length = W → ∀ f t' x', x.ins q t root depth ll = .ok f t' x' → ∀ F' A s', PoolAt F' A p dp s' → Step (fun b => F b ∨ b = k) (fun b => F' b ∨ b = k) H A → ¬ F' k → TreeB A k p t' → I s' x' (m + 4000) → K (f, 0) A)
  (hK2 : t.ready = 0 → ll.length = W → x.ins q t root depth ll = .store → ∀ F' A s', PoolAt F' A p dp s' → Step (fun b => F b ∨ b = k) (fun b => F' b ∨ b = k) H A → ¬ F' k → TreeB A k p (t.broke 280) → I s' x (m + 4000) → K (false, 280) A)
  (hKB : t.ready = 0 → ll.length = W → x.ins q t root depth ll = .quota → ∀ F' A s' e, PoolAt F' A p dp s' → Step (fun b => F b ∨ b = k) (fun b => F' b ∨ b = k) H A → ¬ F' k → TreeB A k p (t.broke e) → B s' e → K (false, e) A)
  (hKC : ∀ F' A s' e, PoolAt F' A p dp s' → Step (fun b => F b ∨ b = k) (fun b => F' b ∨ b = k) H A → ¬ F' k → TreeB A k p (t.broke e) → C s' e → K (false, e) A) : ZbR.sp (at0 k) l H K := by
 refine ZbR.of ?_
 unfold ZbR.vc
 refine tready_ok ht ?_
 refine br_mk (fun hc => hK0 (by simpa using hc)) (fun hc => ?_)
 have hrd : t.ready = 0 := by simpa using hc
 clear hK0
 unfold at0
 simp only [optK_eq]
 refine RowT.ld (c := cInt .i64) (i := 2) (x := t.width) ht rfl ?_
 have hln := hl.len
 rw [hw]
 refine br_mk (fun hc2 => hKw hrd (by have : (l.n : Int) ≠ (W : Int) := by simpa using hc2
                                      omega)) (fun hc2 => ?_)
 have hlw : ll.length = W := by have : (l.n : Int) = (W : Int) := by simpa using hc2
                                omega
 clear hKw
 have hK1 := hK1 hrd hlw
 have hK2 := hK2 hrd hlw
 have hKB := hKB hrd hlw
 have hkl := obj_lt ht
 refine ⟨fun D => Ext H D, .refl _ _, ?_⟩
 refine RowT.ldC (c := cInt .i64) (i := 3) (x := t.root) (cs := fun _ => (treV p t).toArray) (fun D hD => ht.ext hD) (fun _ _ => rfl) ?_
 refine RowT.ldC (c := cInt .i64) (i := 4) (x := t.depth) (cs := fun _ => (treV p t).toArray) (fun D hD => ht.ext hD) (fun _ _ => rfl) ?_
 refine tclone_ok hl (by omega) fun cl H2 o2 e2 f2 => ?_
 refine ⟨e2, ?_⟩
 rw [hr, hd]
 have ed : IntKind.i64.wrap ((depth : Int) - 1) = ((depth - 1 : Nat) : Int) := by rw [wrap64 (by omega) (by omega)]; omega
 rw [ed]
 have T2 : Step F F H H2 := .ofExt e2
 have p2 := hp.ext e2
 have cOk : RowOk F H2 cl ll := ⟨fun ad ha => ⟨(o2.block _ ⟨ad, ha, rfl⟩).2, fun u => by have := hp.lt _ u; have := f2 _ ⟨ad, ha, rfl⟩; omega⟩, o2.ints⟩
 -- the ends
 have tail0 : ∀ (f : Bool) (t1 : Tr) (A : Heap) (K' : (Bool × Int) → Heap → Prop), TreeB A k p t1 → (0 ≤ t1.count ∧ t1.count ≤ 1000000000000) → (∀ A', TreeB A' k p (t1.up f) → Mod (fun b => b = k) A A' → K' (f, 0) A') →
   br ((0 : Int) != (0 : Int)) (ZcU.sp (at0 k) 0 A fun (r_2 : Int) H17 => K' (false, r_2) H17) (br f (ld (cInt .i64) A (Addr.add ⟨k, 0, none⟩ 5) fun (x_9 : Int) => st A (Addr.add ⟨k, 0, none⟩ 5) (.int .i64 (IntKind.i64.wrap (x_9 + (1 : Int)))) fun H18 => K' (f, (0 : Int)) H18) (K' (f, (0 : Int)) A)) := by
  intro f t1 A K' h1 hc1 hk'
  refine br_f rfl ?_
  cases f with
  | true =>
    refine br_t rfl ?_
    refine RowT.ld (c := cInt .i64) (i := 5) (x := t1.count) h1 rfl ?_
    rw [wrap64 (x := t1.count + 1) (by omega) (by omega)]
    refine RowT.st h1 (i := 5) (by simp [treV]) rfl fun A' r m' z => hk' A' r m'
  | false => exact br_f rfl (hk' A h1 (.refl _ _))
 have tailE : ∀ (f : Bool) (e : Int) (A : Heap) (M : Prop), e ≠ 0 → TreeB A k p t → (∀ A', TreeB A' k p (t.broke e) → Mod (fun b => b = k) A A' → K (false, e) A') →
   br (e != (0 : Int)) (ZcU.sp (at0 k) e A fun (r_2 : Int) H17 => K (false, r_2) H17) M := by
  intro f e A M he h1 hk'
  exact br_t (by simpa using he) (tmet_ok h1 he fun A' r m' _ => hk' A' r m')
 have stepK : ∀ {F3 : Nat → Prop} {H3 : Heap}, Step F F3 H2 H3 → Step (fun b => F b ∨ b = k) (fun b => F3 b ∨ b = k) H H3 := fun S3 => (T2.trans S3).with k
 have offK : ∀ {F3 : Nat → Prop} {H3 : Heap}, Step F F3 H2 H3 → ¬ F3 k := fun S3 u => (S3.own _ u).elim hk fun v => by have := e2.size; omega
 have span : SpanAt F H2 (Sl.mk none 0 0) (Sl.mk none 0 0) span0 := ⟨rfl, rfl⟩
 unfold St.ins at hK1 hK2 hKB
 refine tadd_ok (l := cl) (ll := ll) S hw hW hd hlw (depth - 1) root span0 _ _ F H2 s m _ hI (by omega) (by omega) (hg.mod e2 id) (ht.ext e2) p2 hk hroot span cOk (fun f o x' hra F3 H3 s3 p3 S3 I3 => ?_) (fun hra F3 H3 s3 p3 S3 I3 => ?_) (fun hra F3 H3 s3 e f o up p3 S3 hB => ?_) (fun F3 H3 s3 e f o up p3 S3 hC => ?_)
 rotate_left
 ·have t3 : TreeB H3 k p t := (ht.ext e2).mod S3.mod hk
  refine ⟨fun z A => z = 280 ∧ A = H3, br_f rfl ⟨rfl, rfl⟩, ?_⟩
  rintro _ A ⟨rfl, rfl⟩
  refine tailE false 280 A _ (by decide) t3 fun A' tA mA => ?_
  rw [hra] at hK2
  exact hK2 rfl F3 A' s3 (p3.offK mA (offK S3)) ((stepK S3).trans (Step.all (F := F3) mA)) (offK S3) tA (S.up I3 (by omega))
 ·have t3 : TreeB H3 k p t := (ht.ext e2).mod S3.mod hk
  have he := (S.errB hB).1
  refine ⟨fun z A => z = e ∧ A = H3, br_f (by simpa using he) ⟨rfl, rfl⟩, ?_⟩
  rintro _ A ⟨rfl, rfl⟩
  refine tailE f _ A _ he t3 fun A' tA mA => ?_
  rw [hra] at hKB
  exact hKB rfl F3 A' s3 _ (p3.offK mA (offK S3)) ((stepK S3).trans (Step.all (F := F3) mA)) (offK S3) tA hB
 ·have t3 : TreeB H3 k p t := (ht.ext e2).mod S3.mod hk
  have he := (S.errC hC).1
  refine ⟨fun z A => z = e ∧ A = H3, br_f (by simpa using he) ⟨rfl, rfl⟩, ?_⟩
  rintro _ A ⟨rfl, rfl⟩
  refine tailE f _ A _ he t3 fun A' tA mA => ?_
  exact hKC F3 A' s3 _ (p3.offK mA (offK S3)) ((stepK S3).trans (Step.all (F := F3) mA)) (offK S3) tA hC
 rw [hra] at hK1 hKB
 have t3 : TreeB H3 k p t := (ht.ext e2).mod S3.mod hk
 cases o with
 | none =>
   unfold AddK
   dsimp only
   refine ⟨fun z A => z = 0 ∧ A = H3, br_t rfl (br_f rfl ⟨rfl, rfl⟩), ?_⟩
   rintro _ A ⟨rfl, rfl⟩
   refine tail0 f t A K t3 hcnt fun A' tA mA => ?_
   exact hK1 f (t.up f) x' rfl F3 A' s3 (p3.offK mA (offK S3)) ((stepK S3).trans (Step.all (F := F3) mA)) (offK S3) tA (S.up I3 (by omega))
 | some pu =>
   obtain ⟨pg, ul⟩ := pu
   unfold AddK
   intro hul mb v1 v2 up rmb hmbF hmbz upOk
   dsimp only at hK1 hKB ⊢
   have hg3 : Gl H3 := (hg.mod e2 id).mod S3.mod p2.glob
   have kOff := offK S3
   have hzz := S3.mod.size
   have hz2 := e2.size
   have hmbk : mb ≠ k := by omega
   -- the new root
   have tops : ∀ (J : Int → Heap → Prop) (H7 : Heap) (tb : Nat) (sk sr : Sl), Ext H3 H7 → RowT H7 tb YaC #[.int .i64 (-1), sk.v, sr.v] → H3.size ≤ tb → ¬ F3 tb →
     Ints .i64 H7 sk ([root, pg].map Int.ofNat) → Off (fun b => F3 b ∨ b = tb) H7 sk → RowsN (fun b => F3 b ∨ b = tb) H7 sr [ul] →
     (x'.N < q → ∀ F8 A s8, PoolAt F8 A p dp s8 → Step (fun b => F b ∨ b = k) (fun b => F8 b ∨ b = k) H A → ¬ F8 k → TreeB A k p (t.grown x'.N (depth + 1)) → I s8 (x'.more ⟨[root, pg], [ul]⟩) (m + 4000) → J 0 A) →
     (∀ F8 A s8 e, PoolAt F8 A p dp s8 → Step (fun b => F b ∨ b = k) (fun b => F8 b ∨ b = k) H A → ¬ F8 k → TreeB A k p t → (B s8 e ∧ ¬ x'.N < q) ∨ C s8 e → J e A) →
     Zcc.sp (some ⟨k, 0, none⟩) (some ⟨tb, 0, none⟩) H7 fun (e_1 : Int) H8 => br (e_1 == (0 : Int)) (ld (cInt .i64) H8 (Addr.add ⟨tb, 0, none⟩ 0) fun (x_5 : Int) => st H8 (Addr.add ⟨k, 0, none⟩ 3) (.int .i64 x_5) fun H9 => ld (cInt .i64) H9 (Addr.add ⟨k, 0, none⟩ 4) fun (x_6 : Int) => st H9 (Addr.add ⟨k, 0, none⟩ 4) (.int .i64 (IntKind.i64.wrap (x_6 + (1 : Int)))) fun H10 => J e_1 H10) (J e_1 H8) := by
    intro J H7 tb sk sr e7 rtb htb hFtb hkd hko hrows hJ0 hJe
    have t7 : TreeB H7 k p t := t3.ext e7
    have hkt : k ≠ tb := by omega
    have nt : NodeR F3 H7 tb (-1) sk sr ⟨[root, pg], [ul]⟩ := ⟨rtb, hFtb, hkd, hko, hrows⟩
    have hs := sizeL_cases (W : Int)
    have hbl : (Nd.bytes ⟨[root, pg], [ul]⟩).length ≤ 504 := by
     rw [Nd.bytes_length hW (by intro y hy; simp at hy; subst hy; exact hul)]
     simp; omega
    have S7 : Step F F3 H2 H7 := S3.trans (.ofExt e7)
    have dropK : ∀ {F8 : Nat → Prop} {A : Heap}, Step (fun b => F3 b ∨ b = tb) (fun b => F8 b ∨ b = tb) H7 A → Step F F8 H2 A := fun S8 => S7.drop (by omega) S8
    have hNpre := (S.pre I3).2.2.2.2.1
    refine twrite_new S I3 (by omega) (hg3.mod e7 id) t7 (p3.ext e7) kOff hkt nt hbl (by simp) (by simp) (by intro y hy; simp at hy; subst hy; rw [hul]; exact hW) (fun hN F8 H8 s8 p8 S8 I8 n8 => ?_) (fun hN F8 H8 s8 e p8 S8 hF8 hB => ?_) (fun F8 H8 s8 e p8 S8 hF8 hC => ?_)
    ·refine br_t rfl ?_
     have t8 : TreeB H8 k p t := t7.mod S8.mod fun u => u.elim kOff hkt
     refine RowT.ld (c := cInt .i64) (i := 0) (x := (x'.N : Int)) n8.row rfl ?_
     refine RowT.st t8 (i := 3) (by simp [treV]) rfl fun H9 r9 m9 z9 => ?_
     refine RowT.ld (c := cInt .i64) (i := 4) (x := t.depth) r9 (by simp [treV]) ?_
     rw [hd, succ64 _ (by omega)]
     refine RowT.st r9 (i := 4) (by simp [treV]) rfl fun H10 r10 m10 z10 => ?_
     have mm := m9.trans m10
     have S8' := dropK S8
     refine hJ0 hN F8 H10 s8 (p8.offK mm (offK S8')) ((stepK S8').trans (Step.all (F := F8) mm)) (offK S8') ?_ (S.up I8 (by omega))
     have et : ((treV p t).toArray.setIfInBounds 3 (.int .i64 (x'.N : Int))).setIfInBounds 4 (.int .i64 ((depth + 1 : Nat) : Int)) = (treV p (t.grown x'.N (depth + 1))).toArray := by
      simp [treV, Tr.grown]
     rw [et] at r10
     exact r10
    ·have S8' := dropK S8
     refine br_f (by have := (S.errB hB).1; simpa using this) ?_
     exact hJe F8 H8 s8 e p8 (stepK S8') (offK S8') (t7.mod S8.mod fun u => u.elim kOff hkt) (.inl ⟨hB, hN⟩)
    ·have S8' := dropK S8
     refine br_f (by have := (S.errC hC).1; simpa using this) ?_
     exact hJe F8 H8 s8 e p8 (stepK S8') (offK S8') (t7.mod S8.mod fun u => u.elim kOff hkt) (.inr hC)
   obtain ⟨JJ, hJJ⟩ : ∃ JJ : Int → Heap → Prop, ∀ z A, JJ z A ↔ ∃ F8 s8, PoolAt F8 A p dp s8 ∧ Step (fun b => F b ∨ b = k) (fun b => F8 b ∨ b = k) H A ∧ ¬ F8 k ∧ ((z = 0 ∧ x'.N < q ∧ TreeB A k p (t.grown x'.N (depth + 1)) ∧ I s8 (x'.more ⟨[root, pg], [ul]⟩) (m + 4000)) ∨ (TreeB A k p t ∧ ((B s8 z ∧ ¬ x'.N < q) ∨ C s8 z))) := ⟨_, fun _ _ => Iff.rfl⟩
   have hJ0 : x'.N < q → ∀ F8 A s8, PoolAt F8 A p dp s8 → Step (fun b => F b ∨ b = k) (fun b => F8 b ∨ b = k) H A → ¬ F8 k → TreeB A k p (t.grown x'.N (depth + 1)) → I s8 (x'.more ⟨[root, pg], [ul]⟩) (m + 4000) → JJ 0 A := fun hN F8 A s8 p8 S8 hF8 t8 I8 => (hJJ 0 A).2 ⟨F8, s8, p8, S8, hF8, .inl ⟨rfl, hN, t8, I8⟩⟩
   have hJe : ∀ F8 A s8 e, PoolAt F8 A p dp s8 → Step (fun b => F b ∨ b = k) (fun b => F8 b ∨ b = k) H A → ¬ F8 k → TreeB A k p t → (B s8 e ∧ ¬ x'.N < q) ∨ C s8 e → JJ e A := fun F8 A s8 e p8 S8 hF8 t8 hb => (hJJ e A).2 ⟨F8, s8, p8, S8, hF8, .inr ⟨t8, hb⟩⟩
   have upB : ∀ A, Ext H3 A → ∀ ad, up.a = some ad → ad.block < H3.size ∧ ¬ F3 ad.block := fun A eA ad ha => ⟨(upOk.off ad ha).1, fun u => (upOk.off ad ha).2 (.inl u)⟩
   refine ⟨JJ, ?_, ?_⟩
   ·refine br_t rfl (br_t rfl ?_)
    refine ⟨fun D => Ext H3 D, .refl _ _, ?_⟩
    refine RowT.ldC (c := cInt .i64) (i := 3) (x := t.root) (cs := fun _ => (treV p t).toArray) (fun D hD => t3.ext hD) (fun _ _ => rfl) ?_
    simp only [optK_eq]
    refine RowT.ldC (c := cInt .i64) (i := 0) (x := (pg : Int)) (cs := fun _ => #[.int .i64 (pg : Int), v1, v2]) (fun D hD => rmb.ext hD) (fun _ _ => rfl) ?_
    rw [hr]
    have ek : #[Value.int .i64 (root : Int), Value.int .i64 (pg : Int)] = (([root, pg].map Int.ofNat).map (Value.int .i64)).toArray := rfl
    rw [ek]
    -- both orders
    constructor
    ·refine newC_ints _ fun pk H5 z5 q5 a5 e5 => ⟨e5, ?_⟩
     refine newC_varT fun pr H6 q6 z6 v6 e6 => ⟨e5.trans e6, ?_⟩
     refine newC_rowT fun H7 z7 r7 e7 => ⟨(e5.trans e6).trans e7, ?_⟩
     have e37 := (e5.trans e6).trans e7
     have v7 := v6.ext e7
     refine tops JJ H7 H6.size ⟨some pk, 2, 2⟩ ⟨some pr, 1, 1⟩ e37 r7 (by omega) (fun u => by have := p3.lt _ u; omega) (((a5 2).ext e6).ext e7) (fun ad ha => ?_) ⟨rfl, fun ad ha => ?_, fun i hi => ?_⟩ hJ0 hJe
     ·cases ha; exact ⟨by omega, fun u => u.elim (fun w => by have := p3.lt _ w; omega) fun w => by omega⟩
     ·cases ha; exact ⟨by omega, fun u => u.elim (fun w => by have := p3.lt _ w; omega) fun w => by omega⟩
     ·have hi0 : i = 0 := by simp at hi; omega
      subst hi0
      refine ⟨pr, up, rfl, v7.var.cell, fun ad ha => ?_, upOk.ints.ext e37⟩
      have := upB H7 e37 ad ha
      exact ⟨by omega, fun u => u.elim this.2 fun w => by omega⟩
    ·refine newC_varT fun pr H5 q5 z5 v5 e5 => ⟨e5, ?_⟩
     refine newC_ints _ fun pk H6 z6 q6 a6 e6 => ⟨e5.trans e6, ?_⟩
     refine newC_rowT fun H7 z7 r7 e7 => ⟨(e5.trans e6).trans e7, ?_⟩
     have e37 := (e5.trans e6).trans e7
     have v7 := (v5.ext e6).ext e7
     refine tops JJ H7 H6.size ⟨some pk, 2, 2⟩ ⟨some pr, 1, 1⟩ e37 r7 (by omega) (fun u => by have := p3.lt _ u; omega) ((a6 2).ext e7) (fun ad ha => ?_) ⟨rfl, fun ad ha => ?_, fun i hi => ?_⟩ hJ0 hJe
     ·cases ha; exact ⟨by omega, fun u => u.elim (fun w => by have := p3.lt _ w; omega) fun w => by omega⟩
     ·cases ha; exact ⟨by omega, fun u => u.elim (fun w => by have := p3.lt _ w; omega) fun w => by omega⟩
     ·have hi0 : i = 0 := by simp at hi; omega
      subst hi0
      refine ⟨pr, up, rfl, v7.var.cell, fun ad ha => ?_, upOk.ints.ext e37⟩
      have := upB H7 e37 ad ha
      exact ⟨by omega, fun u => u.elim this.2 fun w => by omega⟩
   ·intro z A hz
    obtain ⟨F8, s8, p8, S8, hF8, hcase⟩ := (hJJ z A).1 hz
    rcases hcase with ⟨rfl, hN, t8, I8⟩ | ⟨t8, hb⟩
    ·rw [if_pos hN] at hK1
     refine tail0 f _ A K t8 hcnt fun A' tA mA => ?_
     exact hK1 f _ _ rfl F8 A' s8 (p8.offK mA hF8) (S8.trans (Step.all (F := F8) mA)) hF8 tA I8
    ·have he : z ≠ 0 := by
      rcases hb with hb | hb
      ·exact (S.errB hb.1).1
      ·exact (S.errC hb).1
     refine tailE f z A _ he t8 fun A' tA mA => ?_
     rcases hb with ⟨hb, hN⟩ | hb
     ·rw [if_neg hN] at hKB
      exact hKB rfl F8 A' s8 z (p8.offK mA hF8) (S8.trans (Step.all (F := F8) mA)) hF8 tA hb
     ·exact hKC F8 A' s8 z (p8.offK mA hF8) (S8.trans (Step.all (F := F8) mA)) hF8 tA hb
end
section
variable {H : Heap} {k p dp : Nat} {t : Tr} {F : Nat → Prop} {s : Pl} {q : Nat} {I : Pl → St → Nat → Prop} {B C : Pl → Int → Prop} {x : St} {m : Nat} {W root depth : Nat} {ll : List Int} {l : Sl}
def St.fnd (x : St) (t : Tr) (root depth : Nat) (ll : List Int) (strict : Bool) : Option (Option (List Int)) := (x.find t.width depth ll strict (depth - 1) root span0).2
theorem fnd_cost (S : Store t.name q I B C) (hI : I s x m) (hd1 : 1 ≤ depth ∧ depth ≤ 1000) {strict : Bool} : (x.find t.width depth ll strict (depth - 1) root span0).1 ≤ 1000000 := by
 have h := find_cost (x := x) (w := t.width) (low := ll) (strict := strict) (S.pre hI).2.2.2.2.2 (depth - 1) root span0 (show depth - 1 < depth by omega)
 have h2 : (depth - 1 + 1) * (depth - 1 + 1) ≤ 1000 * 1000 := Nat.mul_le_mul (by omega) (by omega)
 omega
set_option maxHeartbeats 1000000 in
theorem tHas_ok {K : (Bool × Int) → Heap → Prop} (S : Store t.name q I B C) (hw : t.width = (W : Int)) (hW : W ≤ 16) (hr : t.root = (root : Int)) (hd : t.depth = (depth : Int)) (hd1 : 1 ≤ depth ∧ depth ≤ 1000) (hroot : root ≤ 1000000000000)
  (hI : I s x m) (hm : m + 1000000 ≤ 30000000000) (hg : Gl H) (ht : TreeB H k p t) (hp : PoolAt F H p dp s) (hk : ¬ F k) (hl : Ints .u64 H l ll) (hlo : OffI F H l ll)
  (hK0 : t.ready ≠ 0 → K (false, t.ready) H) (hKw : t.ready = 0 → ll.length ≠ W → K (false, 60) H)
  (hK1 : t.ready = 0 → ll.length = W → ∀ o, x.fnd t root depth ll false = some o → ∀ F' A s', PoolAt F' A p dp s' → Step (fun b => F b ∨ b = k) (fun b => F' b ∨ b = k) H A → Step F F' H A → ¬ F' k → TreeB A k p t → I s' x (m + 1000000) → K ((match o with | none => false | some y => decide (cmpL y ll = 0)), 0) A)
  (hK2 : t.ready = 0 → ll.length = W → x.fnd t root depth ll false = none → ∀ F' A s', PoolAt F' A p dp s' → Step (fun b => F b ∨ b = k) (fun b => F' b ∨ b = k) H A → ¬ F' k → TreeB A k p (t.broke 280) → I s' x (m + 1000000) → K (false, 280) A)
  (hKC : ∀ F' A s' e, PoolAt F' A p dp s' → Step (fun b => F b ∨ b = k) (fun b => F' b ∨ b = k) H A → ¬ F' k → TreeB A k p (t.broke e) → C s' e → K (false, e) A) : Zdc.sp (at0 k) l H K := by
 refine Zdc.of ?_
 unfold Zdc.vc
 refine tready_ok ht ?_
 refine br_mk (fun hc => hK0 (by simpa using hc)) (fun hc => ?_)
 have hrd : t.ready = 0 := by simpa using hc
 unfold at0
 simp only [optK_eq]
 refine RowT.ld (c := cInt .i64) (i := 2) (x := t.width) ht rfl ?_
 have hln := hl.len
 rw [hw]
 refine br_mk (fun hc2 => hKw hrd (by have : (l.n : Int) ≠ (W : Int) := by simpa using hc2
                                      omega)) (fun hc2 => ?_)
 have hlw : ll.length = W := by have : (l.n : Int) = (W : Int) := by simpa using hc2
                                omega
 have hkl := obj_lt ht
 refine RowT.ld (c := cInt .i64) (i := 3) (x := t.root) ht rfl ?_
 refine RowT.ld (c := cInt .i64) (i := 4) (x := t.depth) ht rfl ?_
 rw [hr, hd]
 have ed : IntKind.i64.wrap ((depth : Int) - 1) = ((depth - 1 : Nat) : Int) := by rw [wrap64 (by omega) (by omega)]; omega
 rw [ed]
 have hcost := fnd_cost (root := root) (ll := ll) (strict := false) S hI hd1
 have span : SpanAt F H (Sl.mk none 0 0) (Sl.mk none 0 0) span0 := ⟨rfl, rfl⟩
 have hbroke : ∀ (F3 : Nat → Prop) (H3 : Heap) (s3 : Pl) (e : Int) (M : Prop), e ≠ 0 → PoolAt F3 H3 p dp s3 → Step F F3 H H3 → (∀ A, PoolAt F3 A p dp s3 → Step (fun b => F b ∨ b = k) (fun b => F3 b ∨ b = k) H A → ¬ F3 k → TreeB A k p (t.broke e) → K (false, e) A) →
   br (e != (0 : Int)) (ZcU.sp (some ⟨k, 0, none⟩) e H3 fun (r_1 : Int) H3 => K (false, r_1) H3) M := by
  intro F3 H3 s3 e M he p3 S3 hk'
  have k3 : ¬ F3 k := fun u => (S3.own _ u).elim hk fun v => by omega
  refine br_t (by simpa using he) (tmet_ok (ht.mod S3.mod hk) he fun A r mA _ => ?_)
  exact hk' A (p3.offK mA k3) ((S3.with k).trans (Step.all mA)) k3 r
 refine tfind_ok (ll := ll) (strict := false) S hw hW hd (depth - 1) root span0 _ _ F H s m _ hI (by omega) (by omega) hg ht hp hk hroot span hl hlo (fun F3 H3 s3 p3 S3 I3 => ?_) (fun F3 H3 s3 e p3 S3 hC => ?_)
 ·have k3 : ¬ F3 k := fun u => (S3.own _ u).elim hk fun v => by omega
  have t3 : TreeB H3 k p t := ht.mod S3.mod hk
  have I4 := S.up I3 (k := m + 1000000) (by omega)
  unfold St.fnd at hK1 hK2
  cases hres : (x.find t.width depth ll false (depth - 1) root span0).2 with
  | none =>
    unfold FindK
    dsimp only
    refine hbroke F3 H3 s3 280 _ (by decide) p3 S3 fun A pA SA kA tA => ?_
    exact hK2 hrd hlw hres F3 A s3 pA SA kA tA I4
  | some o =>
    have hK1 := hK1 hrd hlw o hres
    cases o with
    | none =>
      unfold FindK
      dsimp only
      refine br_f rfl (br_f rfl ?_)
      exact hK1 F3 H3 s3 p3 (S3.with k) S3 k3 t3 I4
    | some y =>
      unfold FindK
      intro sl nn o5 f5
      dsimp only
      refine br_f rfl ?_
      refine br_t (by cases q9 : sl.a with | none => exact absurd q9 nn | some _ => rfl) ?_
      have hyl := o5.ints.len
      have hbig : y.length < 1099511627776 := by
       have hnode := find_len (ll := ll) (strict := false) (S.pre hI).2.2.2.2.2 (depth - 1) root span0 hres
       rw [hnode, hw]; simp; omega
      refine rowCmp_ok o5.ints (hlo.ints hl S3) hbig ?_
      have := hK1 F3 H3 s3 p3 (S3.with k) S3 k3 t3 I4
      have e0 : (cmpL y ll == 0) = decide (cmpL y ll = 0) := by rw [Bool.eq_iff_iff]; simp
      rw [e0]
      exact this
 ·refine hbroke F3 H3 s3 e _ (S.errC hC).1 p3 S3 fun A pA SA kA tA => ?_
  exact hKC F3 A s3 e pA SA kA tA hC
structure CurB (H : Heap) (F : Nat → Prop) (k cb : Nat) (lo : Sl) (ll : List Int) (strict : Bool) : Prop where
 row : RowT H cb Yav #[.pointer (at0 k), lo.v, .bool strict]
 ints : Ints .u64 H lo ll
 off : Off (fun b => F b ∨ b = k ∨ b = cb) H lo
 cb : ¬ F cb ∧ cb ≠ k
set_option maxHeartbeats 1000000 in
theorem tNext_ok {K : (Sl × Bool × Int) → Heap → Prop} {cb : Nat} {lo : Sl} {strict : Bool} (S : Store t.name q I B C) (hw : t.width = (W : Int)) (hW : W ≤ 16) (hr : t.root = (root : Int)) (hd : t.depth = (depth : Int)) (hd1 : 1 ≤ depth ∧ depth ≤ 1000) (hroot : root ≤ 1000000000000)
  (hI : I s x m) (hm : m + 1000000 ≤ 30000000000) (hg : Gl H) (ht : TreeB H k p t) (hp : PoolAt F H p dp s) (hk : ¬ F k) (hc : CurB H F k cb lo ll strict)
  (hK0 : t.ready ≠ 0 → K (nilT, false, t.ready) H)
  (hK1 : t.ready = 0 → x.fnd t root depth ll strict = some none → ∀ F' A s', PoolAt F' A p dp s' → Step (fun b => F b ∨ b = k ∨ b = cb) (fun b => F' b ∨ b = k ∨ b = cb) H A → ¬ F' k → TreeB A k p t → CurB A F' k cb lo ll strict → I s' x (m + 1000000) → K (nilT, false, 0) A)
  (hK3 : t.ready = 0 → ∀ y, x.fnd t root depth ll strict = some (some y) → ∀ F' A s' sl lo', PoolAt F' A p dp s' → Step (fun b => F b ∨ b = k ∨ b = cb) (fun b => F' b ∨ b = k ∨ b = cb) H A → ¬ F' k → TreeB A k p t → CurB A F' k cb lo' y true → I s' x (m + 1000000) →
   Owns A 0 YaP 1 sl (y.map (Value.int .u64)) → (∀ b, ownB sl b → H.size ≤ b ∧ ¬ F' b ∧ b ≠ k ∧ b ≠ cb ∧ ¬ ownB lo' b) ∧ (∀ b, ownB lo' b → H.size ≤ b) → K (sl, true, 0) A)
  (hK2 : t.ready = 0 → x.fnd t root depth ll strict = none → ∀ F' A s', PoolAt F' A p dp s' → Step (fun b => F b ∨ b = k ∨ b = cb) (fun b => F' b ∨ b = k ∨ b = cb) H A → ¬ F' k → TreeB A k p (t.broke 280) → CurB A F' k cb lo ll strict → I s' x (m + 1000000) → K (nilT, false, 280) A)
  (hKC : ∀ F' A s' e, PoolAt F' A p dp s' → Step (fun b => F b ∨ b = k ∨ b = cb) (fun b => F' b ∨ b = k ∨ b = cb) H A → ¬ F' k → TreeB A k p (t.broke e) → C s' e → K (nilT, false, e) A) : ZbO.sp (some ⟨cb, 0, none⟩) H K := by
 refine ZbO.of ?_
 unfold ZbO.vc
 refine br_f rfl ?_
 simp only [optK_eq]
 refine RowT.ld (c := cPtr) (i := 0) (x := at0 k) hc.row rfl ?_
 refine tready_ok ht ?_
 refine br_mk (fun hc2 => hK0 (by simpa using hc2)) (fun hc2 => ?_)
 have hrd : t.ready = 0 := by simpa using hc2
 have hkl := obj_lt ht
 have hcl := obj_lt hc.row
 unfold at0
 simp only [optK_eq]
 refine RowT.ld (c := cInt .i64) (i := 3) (x := t.root) ht rfl ?_
 refine RowT.ld (c := cInt .i64) (i := 4) (x := t.depth) ht rfl ?_
 refine RowT.ld (c := cSl) (i := 1) (x := lo) hc.row rfl ?_
 refine RowT.ld (c := cBool) (i := 2) (x := strict) hc.row rfl ?_
 rw [hr, hd]
 have ed : IntKind.i64.wrap ((depth : Int) - 1) = ((depth - 1 : Nat) : Int) := by rw [wrap64 (by omega) (by omega)]; omega
 rw [ed]
 have hcost := fnd_cost (root := root) (ll := ll) (strict := strict) S hI hd1
 have span : SpanAt F H (Sl.mk none 0 0) (Sl.mk none 0 0) span0 := ⟨rfl, rfl⟩
 have offF : ∀ {F3 : Nat → Prop} {H3 : Heap}, Step F F3 H H3 → ¬ F3 k ∧ ¬ F3 cb := fun S3 => ⟨fun u => (S3.own _ u).elim hk fun v => by omega, fun u => (S3.own _ u).elim hc.cb.1 fun v => by omega⟩
 have curF : ∀ {F3 : Nat → Prop} {H3 : Heap}, Step F F3 H H3 → CurB H3 F3 k cb lo ll strict := fun {F3 H3} S3 => by
  have S3' : Step (fun b => F b ∨ b = k ∨ b = cb) (fun b => F3 b ∨ b = k ∨ b = cb) H H3 := S3.or (fun b => b = k ∨ b = cb)
  exact ⟨hc.row.mod S3.mod hc.cb.1, hc.off.ints hc.ints S3', hc.off.step S3', (offF S3).2, hc.cb.2⟩
 have hbroke : ∀ (F3 : Nat → Prop) (H3 : Heap) (s3 : Pl) (e : Int) (M : Prop), e ≠ 0 → PoolAt F3 H3 p dp s3 → Step F F3 H H3 → (∀ A, PoolAt F3 A p dp s3 → Step (fun b => F b ∨ b = k ∨ b = cb) (fun b => F3 b ∨ b = k ∨ b = cb) H A → ¬ F3 k → TreeB A k p (t.broke e) → CurB A F3 k cb lo ll strict → K (nilT, false, e) A) →
   br (e != (0 : Int)) (ZcU.sp (some ⟨k, 0, none⟩) e H3 fun (r_1 : Int) H3 => K ((Sl.mk none 0 0), false, r_1) H3) M := by
  intro F3 H3 s3 e M he p3 S3 hk'
  obtain ⟨k3, c3⟩ := offF S3
  refine br_t (by simpa using he) (tmet_ok (ht.mod S3.mod hk) he fun A r mA _ => ?_)
  have cF := curF S3
  have SA : Step (fun b => F3 b ∨ b = k ∨ b = cb) (fun b => F3 b ∨ b = k ∨ b = cb) H3 A := ⟨mA.mono fun _ _ u => .inr (.inl u), fun _ u => .inl u⟩
  refine hk' A (p3.offK mA k3) ((S3.or (fun b => b = k ∨ b = cb)).trans SA) k3 r ⟨cF.row.mod mA hc.cb.2, cF.off.ints cF.ints SA, cF.off.step SA, cF.cb⟩
 refine tfind_ok (ll := ll) (strict := strict) S hw hW hd (depth - 1) root span0 _ _ F H s m _ hI (by omega) (by omega) hg ht hp hk hroot span hc.ints ((hc.off.mono fun _ _ u => .inl u).toI _) (fun F3 H3 s3 p3 S3 I3 => ?_) (fun F3 H3 s3 e p3 S3 hC => ?_)
 ·obtain ⟨k3, c3⟩ := offF S3
  have t3 : TreeB H3 k p t := ht.mod S3.mod hk
  have I4 := S.up I3 (k := m + 1000000) (by omega)
  have S3' : Step (fun b => F b ∨ b = k ∨ b = cb) (fun b => F3 b ∨ b = k ∨ b = cb) H H3 := S3.or (fun b => b = k ∨ b = cb)
  unfold St.fnd at hK1 hK2 hK3
  cases hres : (x.find t.width depth ll strict (depth - 1) root span0).2 with
  | none =>
    unfold FindK
    dsimp only
    refine hbroke F3 H3 s3 280 _ (by decide) p3 S3 fun A pA SA kA tA cA => ?_
    exact hK2 hrd hres F3 A s3 pA SA kA tA cA I4
  | some o =>
    cases o with
    | none =>
      unfold FindK
      dsimp only
      refine br_f rfl (br_t rfl (tmet_zero ?_))
      exact hK1 hrd hres F3 H3 s3 p3 S3' k3 t3 (curF S3) I4
    | some y =>
      unfold FindK
      intro sl nn o5 f5
      dsimp only
      refine br_f rfl ?_
      refine br_f (by cases q9 : sl.a with | none => exact absurd q9 nn | some _ => rfl) ?_
      have hyl : y.length ≤ 16 := by
       have hnode := find_len (ll := ll) (strict := strict) (S.pre hI).2.2.2.2.2 (depth - 1) root span0 hres
       rw [hnode, hw]; simpa using hW
      refine tclone_ok o5.ints (by omega) fun cl A1 o1 e1 f1 => ?_
      have cF := curF S3
      refine RowT.st (cF.row.ext e1) (i := 1) (by simp) rfl fun A2 r2 m2 z2 => ?_
      refine RowT.st r2 (i := 2) (by simp) rfl fun A3 r3 m3 z3 => ?_
      have m23 := m2.trans m3
      have hz1 := e1.size
      have hz3 := S3.mod.size
      have clB : ∀ b, ownB cl b → b ≠ cb := fun b u v => by have := f1 b u; omega
      have slB : ∀ b, ownB sl b → b ≠ cb := fun b u v => by have := (f5 b u).1; omega
      have S13 : Step (fun b => F3 b ∨ b = k ∨ b = cb) (fun b => F3 b ∨ b = k ∨ b = cb) H3 A3 := ⟨(Ext.mod e1).trans (m23.mono fun _ _ u => .inr (.inr u)), fun _ u => .inl u⟩
      have clo := o1.block
      refine hK3 hrd y hres F3 A3 s3 sl cl ((p3.ext e1).offK m23 c3) (S3'.trans S13) k3 ((t3.ext e1).mod m23 (Ne.symm hc.cb.2)) ⟨r3, (o1.mod m23 fun b u v => clB b u v).ints, fun ad ha => ?_, c3, hc.cb.2⟩ I4 ((o5.ext e1).mod m23 fun b u v => slB b u v) ⟨fun b u => ?_, fun b u => by have := f1 b u; omega⟩
      ·have h1 := clo _ ⟨ad, ha, rfl⟩
       have h2 := f1 _ ⟨ad, ha, rfl⟩
       refine ⟨by omega, fun w => ?_⟩
       rcases w with w | w | w
       ·have := p3.lt _ w; omega
       ·omega
       ·omega
      ·have h1 := f5 b u
       have h2 := (o5.block b u).2
       exact ⟨h1.1, h1.2, by omega, by omega, fun w => by have := f1 b w; omega⟩
 ·refine hbroke F3 H3 s3 e _ (S.errC hC).1 p3 S3 fun A pA SA kA tA cA => ?_
  exact hKC F3 A s3 e pA SA kA tA hC
theorem tCount_ok {K : Int → Heap → Prop} (ht : TreeB H k p t) (hK : K (if t.gone then 0 else t.count) H) : Zca.sp (at0 k) H K := by
 refine Zca.of ?_
 unfold Zca.vc
 refine br_f rfl ?_
 simp only [optK_eq, at0]
 refine RowT.ld (c := cBool) (i := 7) (x := t.gone) ht rfl ?_
 cases hg : t.gone with
 | true => rw [hg] at hK; exact br_t rfl hK
 | false =>
   rw [hg] at hK
   refine br_f rfl ?_
   exact RowT.ld (c := cInt .i64) (i := 5) (x := t.count) ht rfl hK
end
end Go.Proofs.YtlockeegebnofaaGreatDoor
namespace Go.Proofs.YtlockeegebnofaaGreatDoor
def v0 (j : Nat) (l : List Int) : Prop := l = [(j : Int) + 1]
open Go.MapKept
def TP (H A : Heap) (p dp : Nat) (s : Pl) : Prop := Ext H A ∧ ∃ F, PoolAt F A p dp s ∧ ∀ b, F b → H.size ≤ b
variable {H A : Heap} {p dp : Nat} {s : Pl} {n : ByteArray}
theorem TP.new {D : Nat → Prop} {d : Dk} {m : Nat} {K : (Option Addr × Int) → Heap → Prop} (hg : Gl H) (e : Ext H A) (hd : DiskAt D A dp d) (hD : ∀ b, D b → H.size ≤ b) (h8 : 8 ≤ m) (hm : m ≤ 4096)
  (hK : ∀ p B, TP H B p dp (pl0 d m) → K (at0 p, 0) B) : ZdU.sp (at0 dp) (m : Int) A K := by
 refine PoolNew_ok (hg.mod e id) hd (fun q => by have := hD _ q; have := hg.lt; omega) h8 hm fun F p B h1 e1 f1 => ?_
 refine hK p B ⟨e.trans e1, F, h1, fun b hb => ?_⟩
 rcases f1 b hb with q | q
 ·exact hD b q
 ·exact Nat.le_trans e.size q
end Go.Proofs.YtlockeegebnofaaGreatDoor
namespace Go.Proofs.YtlockeegebnofaaGreatDoor
open Go.MapKept
def headT (W depth root count : Nat) : List UInt8 := UInt8.ofNat W :: UInt8.ofNat depth :: be4 root ++ bytesI (putL [(count : Int)])
theorem putOne (c : Int) : (putL [c]).length = 8 := by simp [putL, wordL]
theorem headT_length (W depth root count : Nat) : (headT W depth root count).length = 14 := by
 unfold headT
 rw [List.length_append, List.length_cons, List.length_cons, be4_length, bytesI_length, putOne]
theorem newC_bytes {H : Heap} {t : TypeId} (n : Nat) (l : List UInt8) {cs : Array Value} (hcs : cs = ((u8i l).map (Value.int .u8)).toArray) (hn : l.length = n) (hl : n ≤ 1000) {K : Addr → Heap → Prop}
  (hK : ∀ H', Owns H' 0 t 1 ⟨some ⟨H.size, 0, none⟩, n, n⟩ ((u8i l).map (Value.int .u8)) → Ext H H' → K ⟨H.size, 0, none⟩ H') : newC H cs t K := by
 subst hcs
 subst hn
 refine hK _ (Owns.fresh (n := l.length) (cap := l.length) (Nat.zero_le _) (Nat.le_refl _) (by unfold maxLen; omega) (by simp) (by simp) ?_) (Mod.push _ _ _)
 have e : l.length * 1 = ((u8i l).map (Value.int .u8)).length := by simp
 rw [e]
 exact List.take_length
section
variable {H : Heap} {k p dp : Nat} {t : Tr} {F : Nat → Prop} {s : Pl} {q : Nat} {I : Pl → St → Nat → Prop} {B C : Pl → Int → Prop} {x : St} {m : Nat} {W root depth count : Nat}
set_option maxHeartbeats 2000000 in
theorem thead_raw {fr : Bool} {K : Int → Heap → Prop} (hg : Gl H) (h : TreeB H k p t) (hp : PoolAt F H p dp s) (hk : ¬ F k) (hw : t.width = (W : Int)) (hr : t.root = (root : Int)) (hd : t.depth = (depth : Int)) (hc : t.count = (count : Int)) (hcb : count < 18446744073709551616)
  (hnm : t.name.size ≤ 9223372036854775807) (hlogs : s.d.logs < 68719470000) (hnx : s.next < 1099511627776) (h0 : 0 ≤ s.next) (hft : s.Fit)
  (hK1 : fr = true → ∀ F' H', PoolAt F' H' p dp (s.more t.name 5 (headT W depth root count)).1 → Step F F' H H' → K (s.more t.name 5 (headT W depth root count)).2 H')
  (hK2 : fr = false → ∀ F' H', PoolAt F' H' p dp (s.over t.name 0 5 (headT W depth root count)).1 → Step F F' H H' → K (s.over t.name 0 5 (headT W depth root count)).2 H') : ZcE.sp (at0 k) fr H K := by
 refine ZcE.of ?_
 unfold ZcE.vc
 have hkl0 := obj_lt h
 refine ⟨fun z A => ∃ F1 s1, PoolAt F1 A p dp s1 ∧ TreeB A k p t ∧ ¬ F1 k ∧ Gl A ∧ s1.next < 9223372036854775807 ∧ (z.2 ≠ 0 → K z.2 A) ∧
  (z.2 = 0 → ∀ F' H', PoolAt F' H' p dp (Pl.leave (s1.set z.1 5 (headT W depth root count)) z.1).1 → Step F1 F' A H' → K (Pl.leave (s1.set z.1 5 (headT W depth root count)) z.1).2 H'), ?_, ?_⟩
 ·simp only [optK_eq, at0]
  cases fr with
  | true =>
    refine br_t rfl ?_
    refine RowT.ld (c := cPtr) (i := 0) (x := at0 p) h rfl ?_
    refine RowT.ld (c := cStr) (i := 1) (x := t.name) h rfl ?_
    refine Fresh_ok hg hp hnm (by omega) (by omega) hft fun F1 H1 p1 S1 => ?_
    have hK1 := hK1 rfl
    unfold Pl.more at hK1
    have hnx1 : (s.fresh t.name).1.next ≤ s.next + 1 := s.fresh_next h0 hnx
    generalize (s.fresh t.name).1 = s1 at *
    generalize (s.fresh t.name).2.1 = hd at *
    generalize (s.fresh t.name).2.2.2 = e at *
    have hkF1 : ¬ F1 k := fun u => (S1.own _ u).elim hk fun u => by omega
    refine ⟨F1, s1, p1, h.mod S1.mod hk, hkF1, hg.mod S1.mod hp.glob, by omega, fun he => ?_, fun he F' H' p3 S3 => ?_⟩
    ·have he : e ≠ 0 := he
     rw [if_pos he] at hK1
     exact hK1 F1 H1 p1 S1
    ·have he : ¬ e ≠ 0 := by simpa using he
     rw [if_neg he, if_neg (by decide)] at hK1
     exact hK1 F' H' p3 (S1.trans S3)
  | false =>
    refine br_f rfl ?_
    refine RowT.ld (c := cPtr) (i := 0) (x := at0 p) h rfl ?_
    refine RowT.ld (c := cStr) (i := 1) (x := t.name) h rfl ?_
    refine Pin_ok hg hp hnm (by decide) (by decide) (by omega) (by omega) fun F1 H1 p1 S1 => ?_
    have hK2 := hK2 rfl
    unfold Pl.over at hK2
    have hnx1 : (s.pin t.name 0).1.next ≤ s.next + 1 := s.pin_next h0 hnx
    generalize (s.pin t.name 0).1 = s1 at *
    generalize (s.pin t.name 0).2.1 = hd at *
    generalize (s.pin t.name 0).2.2 = e at *
    have hkF1 : ¬ F1 k := fun u => (S1.own _ u).elim hk fun u => by omega
    refine ⟨F1, s1, p1, h.mod S1.mod hk, hkF1, hg.mod S1.mod hp.glob, by omega, fun he => ?_, fun he F' H' p3 S3 => ?_⟩
    ·have he : e ≠ 0 := he
     rw [if_pos he] at hK2
     exact hK2 F1 H1 p1 S1
    ·have he : ¬ e ≠ 0 := by simpa using he
     rw [if_neg he] at hK2
     exact hK2 F' H' p3 (S1.trans S3)
 ·rintro ⟨hdl, e⟩ H1 ⟨F1, s1, p1, t1, hkF1, g1, hnx1, c1, c2⟩
  dsimp only at c1 c2 ⊢
  refine br_mk (fun hc => c1 (by simpa using hc)) (fun hc2 => ?_)
  have c2 := c2 (by simpa using hc2)
  clear c1 hK1 hK2
  refine ⟨fun D => Ext H1 D, .refl _ _, ?_⟩
  simp only [optK_eq, at0]
  refine RowT.ldC (c := cInt .i64) (i := 2) (x := t.width) (cs := fun _ => (treV p t).toArray) (fun D hD => t1.ext hD) (fun _ _ => rfl) ?_
  refine RowT.ldC (c := cInt .i64) (i := 4) (x := t.depth) (cs := fun _ => (treV p t).toArray) (fun D hD => t1.ext hD) (fun _ _ => rfl) ?_
  refine RowT.ldC (c := cInt .i64) (i := 3) (x := t.root) (cs := fun _ => (treV p t).toArray) (fun D hD => t1.ext hD) (fun _ _ => rfl) ?_
  rw [hw, hd, hr, wrap8, wrap8]
  have ev : #[Value.int .u8 ((UInt8.ofNat W).toNat : Int), Value.int .u8 ((UInt8.ofNat depth).toNat : Int)] = ((u8i [UInt8.ofNat W, UInt8.ofNat depth]).map (Value.int .u8)).toArray := rfl
  -- the bytes' end
  have tail : ∀ (A : Heap) (b : Sl), Ext H1 A → Owns A 0 YaS 1 b ((u8i ([UInt8.ofNat W, UInt8.ofNat depth] ++ be4 root)).map (Value.int .u8)) → (∀ c, ownB b c → H1.size ≤ c) →
    ∃ G_1 : Heap → Prop, G_1 A ∧ ldC cPtr G_1 (Addr.add ⟨k, 0, none⟩ 0) fun (x_7 : Option Addr) => ld (cInt .i64) A (Addr.add ⟨k, 0, none⟩ 5) fun (x_8 : Int) => newC A #[(.int .u64 (IntKind.u64.wrap x_8))] YaP fun p_1 H7 => G_1 H7 ∧ Zec.sp (Sl.mk (some p_1) 1 1) H7 fun (r_3 : Sl) H8 => G_1 H8 ∧ doT cSl Tryz.prog (Builtin.append_ #[YaL, YaL] YaL #[b.v, r_3.v]) H8 fun (s : Sl) H9 => G_1 H9 ∧ ZcV.sp x_7 hdl (5 : Int) s H9 fun (e : Int) H10 => br (e == (0 : Int)) (ld cPtr H10 (Addr.add ⟨k, 0, none⟩ 0) fun (x_9 : Option Addr) => Zcp.sp x_9 hdl H10 fun (e_1 : Int) H11 => K e_1 H11) (K e H10) := by
   intro A b eA ob fb
   refine ⟨fun D => Ext H1 D, eA, ?_⟩
   refine RowT.ldC (c := cPtr) (i := 0) (x := at0 p) (cs := fun _ => (treV p t).toArray) (fun D hD => t1.ext hD) (fun _ _ => rfl) ?_
   refine RowT.ld (c := cInt .i64) (i := 5) (x := t.count) (t1.ext eA) rfl ?_
   have ew : IntKind.u64.wrap t.count = (count : Int) := by rw [hc, IntKind.wrap_u64]; omega
   rw [ew]
   have eo : #[Value.int .u64 (count : Int)] = (([(count : Int)]).map (Value.int .u64)).toArray := rfl
   rw [eo]
   refine newC_ints _ fun pq H7 z7 q7 a7 e7 => ⟨eA.trans e7, ?_⟩
   refine rowPut_ok (a7 1) (by simp) fun sb H8 o8 e8 => ⟨(eA.trans e7).trans e8, ?_⟩
   have b8 : Byts H8 sb (bytesI (putL [(count : Int)])) := by
    unfold Byts
    rw [u8i_bytesI (putL_range _)]
    exact o8.ints
   have hz7 := (e7.trans e8).size
   refine appB (s := b) (x := sb) ((ob.ext e7).ext e8) b8 (by rw [bytesI_length, putOne]; show 6 + 8 ≤ 1000000; omega) fun b9 H9 o9 m9 f9 => ?_
   have e9 : Ext H1 H9 := ((Ext.mod ((eA.trans e7).trans e8)).trans m9).ext fb
   refine ⟨e9, ?_⟩
   have eb : [UInt8.ofNat W, UInt8.ofNat depth] ++ be4 root ++ bytesI (putL [(count : Int)]) = headT W depth root count := rfl
   rw [eb] at o9
   have SA : Step F1 F1 H1 H9 := .ofExt e9
   refine Put_ok (kd := 5) (l := headT W depth root count) (g1.mod e9 id) (p1.ext e9) o9.ints fun F2 H2 p2 S2 => ?_
   have hg2 : Gl H2 := (g1.mod e9 id).mod S2.mod p1.glob
   have hn2 : (s1.set hdl 5 (headT W depth root count)).1.next = s1.next := s1.set_next _ _ _
   generalize s1.set hdl 5 (headT W depth root count) = s2 at *
   refine br_mk (fun hc3 => ?_) (fun hc3 => ?_)
   ·have e2 : s2.2 = 0 := by simpa using hc3
    refine RowT.ld (c := cPtr) (i := 0) (x := at0 p) ((t1.ext e9).mod S2.mod hkF1) rfl ?_
    refine Unpin_ok hg2 p2 (by omega) fun F3 H3 p3 S3 => ?_
    have el : Pl.leave s2 hdl = s2.1.unpin hdl := if_pos e2
    rw [el] at c2
    exact c2 F3 H3 p3 ((SA.trans S2).trans S3)
   ·have e2 : s2.2 ≠ 0 := by simpa using hc3
    have el : Pl.leave s2 hdl = s2 := if_neg e2
    rw [el] at c2
    exact c2 F2 H2 p2 (SA.trans S2)
  have f5 : ∀ {A : Heap}, H1.size ≤ A.size → ∀ c, ownB (Sl.mk (some ⟨A.size, 0, none⟩) 2 2) c → H1.size ≤ c := by
   rintro A hA c ⟨ad, ha, rfl⟩
   cases ha; exact hA
  refine ⟨?_, ?_⟩
  ·refine newC_bytes 2 [UInt8.ofNat W, UInt8.ofNat depth] ev rfl (by decide) fun H4 o4 e4 => And.intro e4 ?_
   refine tbytes_ok fun pb H5 b5 e5 q5 => And.intro (e4.trans e5) ?_
   have hz := (e4.trans e5).size
   refine appB (s := ⟨some ⟨H1.size, 0, none⟩, 2, 2⟩) (x := ⟨some pb, 4, 4⟩) (o4.ext e5) b5 (by rw [be4_length]; show 2 + 4 ≤ 1000000; omega) fun b6 H6 o6 m6 g6 => ?_
   have e6 : Ext H1 H6 := ((Ext.mod (e4.trans e5)).trans m6).ext (f5 (Nat.le_refl _))
   refine And.intro e6 (tail H6 b6 e6 o6 fun c u => ?_)
   rcases g6 c u with v | v
   ·exact f5 (Nat.le_refl _) c v
   ·omega
  ·refine tbytes_ok fun pb H4 b4 e4 q4 => And.intro e4 ?_
   refine newC_bytes 2 [UInt8.ofNat W, UInt8.ofNat depth] ev rfl (by decide) fun H5 o5 e5 => And.intro (e4.trans e5) ?_
   have hz4 := e4.size
   have hz := (e4.trans e5).size
   refine appB (s := ⟨some ⟨H4.size, 0, none⟩, 2, 2⟩) (x := ⟨some pb, 4, 4⟩) o5 (b4.keep fun ad _ hl => e5.same _ hl id) (by rw [be4_length]; show 2 + 4 ≤ 1000000; omega) fun b6 H6 o6 m6 g6 => ?_
   have e6 : Ext H1 H6 := ((Ext.mod (e4.trans e5)).trans m6).ext (f5 hz4)
   refine And.intro e6 (tail H6 b6 e6 o6 fun c u => ?_)
   rcases g6 c u with v | v
   ·exact f5 hz4 c v
   ·omega
def tr0 (n : ByteArray) (W : Nat) : Tr := ⟨n, W, 1, 1, 0, 0, false⟩
def St.made (x : St) (W : Nat) : St := St.more ⟨x.N + 1, setT x.T x.N (5, headT W 1 1 0)⟩ ⟨[], []⟩
set_option maxHeartbeats 1000000 in
theorem tNew_ok {n : ByteArray} {x0 : St} {K : (Option Addr × Int) → Heap → Prop} (S : Store n q I B C) (hW : W ≤ 16) (hg : Gl H) (hp : PoolAt F H p dp s) (hm : m + 2 ≤ 30000000000)
  (hI : (s.d.create n).2 = 0 → I (s.setD (s.d.create n).1) x0 m)
  (hKc : (s.d.create n).2 ≠ 0 → ∀ F' A, PoolAt F' A p dp (s.setD (s.d.create n).1) → Step F F' H A → K (none, (s.d.create n).2) A)
  (hK1 : (s.d.create n).2 = 0 → x0.N + 1 < q → ∀ F' A s' k, PoolAt F' A p dp s' → Step F F' H A → TreeB A k p (tr0 n W) → ¬ F' k → H.size ≤ k → I s' (x0.made W) (m + 2) → K (at0 k, 0) A)
  (hKB : (s.d.create n).2 = 0 → ¬ x0.N + 1 < q → ∀ F' A s' e, PoolAt F' A p dp s' → Step F F' H A → B s' e → K (none, e) A)
  (hKC : ∀ F' A s' e, PoolAt F' A p dp s' → Step F F' H A → C s' e → K (none, e) A) : ZdR.sp (at0 p) n W H K := by
 refine ZdR.of ?_
 unfold ZdR.vc
 obtain ⟨_, _, hroom, _⟩ := fan_room hW
 refine br_f rfl ?_
 refine rowRoom_ok ?_
 refine br_f (by simp only [beq_eq_false_iff_ne, ne_eq]; omega) ?_
 refine PDisk_ok hp ?_
 obtain ⟨D, d1, _, d3⟩ := PoolAt.disk hg hp
 refine Create_ok d1 fun D' H3 d4 S4 => ?_
 obtain ⟨F3, p3, T3⟩ := d3 D' H3 _ d4 S4
 refine br_mk (fun hc => hKc (by simpa using hc) F3 H3 p3 T3) (fun hc => ?_)
 have hc0 : (s.d.create n).2 = 0 := by simpa using hc
 have hI := hI hc0
 have hK1 := hK1 hc0
 have hKB := hKB hc0
 clear hKc
 generalize s.setD (s.d.create n).1 = s3 at *
 have hg3 : Gl H3 := hg.mod T3.mod hp.glob
 refine newC_rowT fun H4 z4 r4 e4 => ?_
 have t4 : TreeB H4 H3.size p (tr0 n W) := r4
 have k4 : ¬ F3 H3.size := fun u => by have := p3.lt _ u; omega
 have T4 : Step F F3 H H4 := T3.trans (.ofExt e4)
 have hz3 := T3.mod.size
 obtain ⟨b1, b2, b3, b4, b5, b6⟩ := S.pre hI
 have hlen : (headT W 1 1 0).length ≤ 504 := by rw [headT_length]; omega
 refine thead_raw (fr := true) (W := W) (depth := 1) (root := 1) (count := 0) (hg3.mod e4 id) t4 (p3.ext e4) k4 rfl rfl rfl rfl (by decide) S.name (by omega) (by omega) b2 b4 (fun _ F5 H5 p5 S5 => ?_) (fun u => by cases u)
 have T5 := T4.trans S5
 have k5 : ¬ F5 H3.size := fun u => by
  rcases S5.own _ u with v | v
  ·exact k4 v
  ·omega
 have t5 : TreeB H5 H3.size p (tr0 n W) := t4.mod S5.mod k4
 have hz5 := S5.mod.size
 refine ⟨fun z A => ∃ F' s', PoolAt F' A p dp s' ∧ Step F F' H A ∧ ((z = 0 ∧ x0.N + 1 < q ∧ TreeB A H3.size p (tr0 n W) ∧ ¬ F' H3.size ∧ I s' (x0.made W) (m + 2)) ∨ (B s' z ∧ ¬ x0.N + 1 < q) ∨ C s' z), ?_, ?_⟩
 ·change br ((s3.more n 5 (headT W 1 1 0)).2 == 0) _ _
  have hbad : ∀ e : Int, e ≠ 0 → ∀ (J : Int → Heap → Prop) (M : Prop), J e H5 → br (e == (0 : Int)) M (J e H5) := fun e he J M hj => br_f (by simpa using he) hj
  by_cases hN : x0.N < q
  ·rcases S.more (kd := 5) (b := headT W 1 1 0) hI (by omega) hlen (by decide) hN with ⟨a1, a2, a3⟩ | hC
   ·change PoolAt F5 H5 p dp (s3.more n 5 (headT W 1 1 0)).1 at p5
    rw [a1]
    refine br_t rfl ?_
    refine newC_rowT fun H7 z7 r7 e7 => ?_
    have hnb : ¬ F5 H5.size := fun u => by have := p5.lt _ u; omega
    have nd : NodeR F5 H7 H5.size (-1) (Sl.mk none 0 0) (Sl.mk none 0 0) ⟨[], []⟩ := ⟨r7, hnb, ⟨rfl, Reads.nil _ _⟩, (fun ad u => by cases u), ⟨rfl, (fun ad u => by cases u), fun i hi => by simp at hi⟩⟩
    have T7 : Step F F5 H H7 := T5.trans (.ofExt e7)
    have hg7 : Gl H7 := ((hg3.mod e4 id).mod S5.mod p3.glob).mod e7 id
    have hkn : H3.size ≠ H5.size := by omega
    have hdrop : ∀ {F8 : Nat → Prop} {A : Heap}, Step (fun b => F5 b ∨ b = H5.size) (fun b => F8 b ∨ b = H5.size) H7 A → Step F F8 H A := fun S8 => T7.drop (by omega) S8
    refine twrite_new (t := tr0 n W) S a3 (by omega) hg7 (t5.ext e7) (p5.ext e7) k5 hkn nd (by decide) (by simp) (by simp) (by simp) (fun hN2 F8 A s8 p8 S8 I8 n8 => ?_) (fun hN2 F8 A s8 e p8 S8 h8 hB => ?_) (fun F8 A s8 e p8 S8 h8 hC => ?_)
    ·refine ⟨F8, s8, p8, hdrop S8, .inl ⟨rfl, hN2, (t5.ext e7).mod S8.mod fun u => u.elim k5 hkn, fun u => ?_, I8⟩⟩
     rcases S8.own _ (.inl u) with v | v
     ·exact v.elim k5 hkn
     ·omega
    ·exact ⟨F8, s8, p8, hdrop S8, .inr (.inl ⟨hB, hN2⟩)⟩
    ·exact ⟨F8, s8, p8, hdrop S8, .inr (.inr hC)⟩
   ·exact br_f (by have := (S.errC hC).1; simpa using this) ⟨F5, _, p5, T5, .inr (.inr hC)⟩
  ·rcases S.full (kd := 5) (b := headT W 1 1 0) hI (by omega) hlen (by decide) hN with hB | hC
   ·exact br_f (by have := (S.errB hB).1; simpa using this) ⟨F5, _, p5, T5, .inr (.inl ⟨hB, by omega⟩)⟩
   ·exact br_f (by have := (S.errC hC).1; simpa using this) ⟨F5, _, p5, T5, .inr (.inr hC)⟩
 ·rintro z A ⟨F', s', pA, SA, hA⟩
  rcases hA with ⟨rfl, hN, tA, kA, IA⟩ | ⟨hB, hN⟩ | hC
  ·exact br_f rfl (hK1 hN F' A s' H3.size pA SA tA kA hz3 IA)
  ·exact br_t (by have := (S.errB hB).1; simpa using this) (hKB hN F' A s' z pA SA hB)
  ·exact br_t (by have := (S.errC hC).1; simpa using this) (hKC F' A s' z pA SA hC)
end
end Go.Proofs.YtlockeegebnofaaGreatDoor
namespace Go.Proofs.YtlockeegebnofaaGreatDoor
structure TreeOn (x : St) (W root depth : Nat) (L : List (List Int)) (P : List Nat) : Prop where
 tn : Tn x W depth (depth - 1) root span0 L P
 nodup : P.Nodup
 deep : 1 ≤ depth
 head : 0 ∉ P
 pages : P.length + 1 = x.N
theorem span0_has (l : List Int) : span0.Has l := ⟨fun a h => (by cases h), fun a h => (by cases h)⟩
theorem made_treeOn {T : Nat → UInt8 × List UInt8} {W : Nat} (hW : W ≤ 16) : TreeOn (St.made ⟨0, T⟩ W) W 1 1 [] [1] := by
 refine ⟨?_, by simp, Nat.le_refl _, by simp, rfl⟩
 refine Tn.mk (n := ⟨[], []⟩) (Q := []) hW (by show 1 < 2; decide) (by exact setT_same (setT T 0 (5, headT W 1 1 0)) 1 _) ⟨fun _ => rfl, fun q => by omega, by decide, fun q => by omega, fun l hl => (by cases hl), fun k hk => (by cases hk), by decide⟩ ⟨rfl, rfl, rfl⟩
theorem asc_nodup {L : List (List Int)} (h : Asc L) : L.Nodup := List.Pairwise.imp (fun {a b} h e => by subst e; exact ltR_irr _ h) h
theorem Plus.length {l : List Int} {L L' : List (List Int)} (h : Plus l L L') (h1 : Asc L) (h2 : Asc L') (hl : l ∉ L) : L'.length = L.length + 1 := by
 have p : L'.Perm (l :: L) := (List.perm_ext_iff_of_nodup (asc_nodup h2) (List.nodup_cons.2 ⟨hl, asc_nodup h1⟩)).2 fun a => by
  rw [h a, List.mem_cons]
 simpa using p.length_eq
theorem asc_eq : ∀ {A B : List (List Int)}, Asc A → Asc B → (∀ y, y ∈ A ↔ y ∈ B) → A = B
 | [], [], _, _, _ => rfl
 | [], b :: B, _, _, h => by have := (h b).2 List.mem_cons_self; cases this
 | a :: A, [], _, _, h => by have := (h a).1 List.mem_cons_self; cases this
 | a :: A, b :: B, h1, h2, h => by
   obtain ⟨a1, a2⟩ := List.pairwise_cons.1 h1
   obtain ⟨b1, b2⟩ := List.pairwise_cons.1 h2
   have e : a = b := by
    rcases List.mem_cons.1 ((h a).1 List.mem_cons_self) with q | q
    ·exact q
    ·rcases List.mem_cons.1 ((h b).2 List.mem_cons_self) with r | r
     ·exact r.symm
     ·exact absurd (ltR_trans (b1 a q) (a1 b r)) (ltR_irr b)
   subst e
   rw [asc_eq a2 b2 fun y => ?_]
   constructor
   ·intro hy
    rcases List.mem_cons.1 ((h y).1 (List.mem_cons_of_mem _ hy)) with q | q
    ·subst q; exact absurd (a1 y hy) (ltR_irr _)
    ·exact q
   ·intro hy
    rcases List.mem_cons.1 ((h y).2 (List.mem_cons_of_mem _ hy)) with q | q
    ·subst q; exact absurd (b1 y hy) (ltR_irr _)
    ·exact q
section
variable {x : St} {W root depth : Nat} {L : List (List Int)} {P : List Nat}
theorem TreeOn.asc (h : TreeOn x W root depth L P) : Asc L := h.tn.rows.1
theorem TreeOn.bounds (h : TreeOn x W root depth L P) (hL : L.length ≤ 400) : depth ≤ 401 ∧ x.N ≤ 802 ∧ root < x.N ∧ root ≠ 0 := by
 have hp := h.tn.page
 have hr : root ≠ 0 := fun e => h.head (e ▸ hp.1)
 have h1 := h.pages
 rcases Nat.lt_or_ge 1 depth with q | q
 ·obtain ⟨s1, s2⟩ := h.tn.sizes q
  have := Nat.lt_two_pow_self (n := depth - 1)
  refine ⟨by omega, by omega, hp.2, hr⟩
 ·have hd : depth = 1 := by have := h.deep; omega
  subst hd
  obtain ⟨n, a1, a2, a3, a4⟩ := h.tn
  rw [a4] at h1
  simp at h1
  exact ⟨by omega, by omega, hp.2, hr⟩
theorem TreeOn.ins {l : List Int} {q : Nat} (h : TreeOn x W root depth L P) (hW : W ≤ 16) (hl : l.length = W ∧ fitsL l) (hL : L.length ≤ 400) (n : ByteArray) (hq : x.N + depth < q) :
  (l ∈ L ∧ x.ins q ⟨n, W, root, depth, L.length, 0, false⟩ root depth l = .ok false ⟨n, W, root, depth, L.length, 0, false⟩ x) ∨
  (l ∉ L ∧ ∃ x' root' depth' L' P', x.ins q ⟨n, W, root, depth, L.length, 0, false⟩ root depth l = .ok true ⟨n, W, (root' : Nat), (depth' : Nat), L'.length, 0, false⟩ x' ∧ TreeOn x' W root' depth' L' P' ∧ Plus l L L' ∧ L'.length = L.length + 1) := by
 obtain ⟨b1, b2, b3, b4⟩ := h.bounds hL
 have hd := h.deep
 have hadd := add_ok (q := q) hW hl h.tn h.nodup (span0_has l) (by omega) (by omega)
 unfold St.ins
 show (l ∈ L ∧ (match x.add W q depth l (depth - 1) root span0 with
  | .store => InsR.store
  | .quota => .quota
  | .ok f none x' => .ok f (Tr.up ⟨n, W, root, depth, L.length, 0, false⟩ f) x'
  | .ok f (some m) x' => if x'.N < q then .ok f ((Tr.grown ⟨n, W, root, depth, L.length, 0, false⟩ x'.N (depth + 1)).up f) (x'.more ⟨[root, m.1], [m.2]⟩) else .quota) = _) ∨ (l ∉ L ∧ ∃ x' root' depth' L' P', (match x.add W q depth l (depth - 1) root span0 with
  | .store => InsR.store
  | .quota => .quota
  | .ok f none x' => .ok f (Tr.up ⟨n, W, root, depth, L.length, 0, false⟩ f) x'
  | .ok f (some m) x' => if x'.N < q then .ok f ((Tr.grown ⟨n, W, root, depth, L.length, 0, false⟩ x'.N (depth + 1)).up f) (x'.more ⟨[root, m.1], [m.2]⟩) else .quota) = _ ∧ _)
 rcases hadd with ⟨i1, i2⟩ | ⟨i1, i2⟩
 ·left
  rw [i2]
  exact ⟨i1, rfl⟩
 ·right
  refine ⟨i1, ?_⟩
  generalize x.add W q depth l (depth - 1) root span0 = r at i2
  have hpg := h.pages
  cases i2 with
  | put t1 p1 g1 n1 =>
    rename_i x' L' P'
    have hlen := p1.length h.asc t1.rows.1 i1
    have gl := g1.len
    refine ⟨x', root, depth, L', P', ?_, ⟨t1, g1.nodup, hd, fun q => ?_, by omega⟩, p1, hlen⟩
    ·show InsR.ok true _ _ = _
     unfold Tr.up
     rw [if_pos rfl, hlen]; rfl
    ·rcases g1.mem 0 q with v | v
     ·exact h.head v
     ·omega
  | cut t1 t2 p1 g1 u1 u2 u3 u4 u5 n1 =>
    rename_i x' g up L1 L2 P1 P2
    have hlt1 := t1.lt
    have hlt2 := t2.lt
    have gl := g1.len
    have gle := g1.le
    have hltP : ∀ p ∈ P1 ++ P2, p < x'.N := fun p hp => by
     rcases List.mem_append.1 hp with v | v
     ·exact hlt1 p v
     ·exact hlt2 p v
    have hd0 : 1 < depth ∨ (depth - 1 = 0 ∧ L1 ≠ []) := by
     rcases Nat.lt_or_ge 1 depth with q | q
     ·exact .inl q
     ·exact .inr ⟨by omega, (u5 (by omega)).1⟩
    have hd1 : 1 < depth ∨ (depth - 1 = 0 ∧ L2 ≠ []) := by
     rcases Nat.lt_or_ge 1 depth with q | q
     ·exact .inl q
     ·exact .inr ⟨by omega, (u5 (by omega)).2⟩
    have hne : ∀ p ∈ P1 ++ P2, (x'.more ⟨[root, g], [up]⟩).T p = x'.T p := fun p hp => by
     have := hltP p hp
     exact setT_other (by omega)
    have c1 := (t1.deep (d' := depth + 1) hd0).congr (x' := x'.more ⟨[root, g], [up]⟩) (Nat.le_succ _) fun p hp => hne p (List.mem_append.2 (.inl hp))
    have c2 := (t2.deep (d' := depth + 1) hd1).congr (x' := x'.more ⟨[root, g], [up]⟩) (Nat.le_succ _) fun p hp => hne p (List.mem_append.2 (.inr hp))
    have hbl : Nd.bytes ⟨[root, g], [up]⟩ = Nd.bytes ⟨[root, g], [up]⟩ := rfl
    have fine : Nd.Fine ⟨[root, g], [up]⟩ W (depth + 1) (depth - 1 + 1) span0 := by
     refine ⟨fun q => by omega, fun _ => ⟨rfl, Nat.le_refl _⟩, holds_iff.2 ⟨List.pairwise_singleton _ _, fun y _ => span0_has y⟩, fun _ q => (by cases q), fun y hy => ?_, fun k hk => ?_, ?_⟩
     ·have : y = up := by simpa using hy
      rw [this]; exact ⟨u3, u4⟩
     ·have : k = root ∨ k = g := by simpa using hk
      have hg := t2.page.2
      rcases this with v | v
      ·omega
      ·omega
     ·rw [Nd.bytes_length hW fun y hy => by
       have : y = up := by simpa using hy
       rw [this]; exact u3]
      rw [if_neg (by simp), (sizeL_nat hW).2]
      simp only [List.length_cons, List.length_nil]
      split <;> omega
    have tree : Tn (x'.more ⟨[root, g], [up]⟩) W (depth + 1) (depth - 1 + 1) x'.N span0 (L1 ++ L2) (x'.N :: (P1 ++ P2)) := by
     refine Tn.mk hW (Nat.lt_succ_self _) (setT_same _ _ _) fine ⟨[L1, L2], [P1, P2], ⟨rfl, rfl, rfl, fun i hi => ?_⟩, by simp, by simp⟩
     have : i = 0 ∨ i = 1 := by
      have : i < 2 := hi
      omega
     rcases this with v | v
     ·subst v; exact c1
     ·subst v; exact c2
    rw [show depth - 1 + 1 = depth + 1 - 1 by omega] at tree
    have hlen := p1.length h.asc tree.rows.1 i1
    refine ⟨x'.more ⟨[root, g], [up]⟩, x'.N, depth + 1, L1 ++ L2, x'.N :: (P1 ++ P2), ?_, ⟨tree, List.nodup_cons.2 ⟨fun q => by have := hltP _ q; omega, g1.nodup⟩, by omega, fun q => ?_, ?_⟩, p1, hlen⟩
    ·show (if x'.N < q then InsR.ok true _ _ else .quota) = _
     rw [if_pos (by omega)]
     unfold Tr.up
     rw [if_pos rfl, hlen]; rfl
    ·rcases List.mem_cons.1 q with v | v
     ·omega
     ·rcases g1.mem 0 v with u | u
      ·exact h.head u
      ·omega
    ·show (x'.N :: (P1 ++ P2)).length + 1 = x'.N + 1
     rw [List.length_cons]; omega
theorem TreeOn.fnd {low : List Int} {strict : Bool} {t : Tr} (h : TreeOn x W root depth L P) (hw : t.width = (W : Int)) : x.fnd t root depth low strict = some ((L.filter (pq low strict)).head?) := by
 unfold St.fnd
 rw [hw]
 exact h.tn.find
end
open Go.MapKept
theorem nodup_len {α : Type} : ∀ {A B : List α}, A.Nodup → (∀ a ∈ A, a ∈ B) → A.length ≤ B.length
 | [], _, _, _ => Nat.zero_le _
 | a :: A, B, h, hs => by
   have ha := hs a List.mem_cons_self
   obtain ⟨C, D, rfl⟩ := List.append_of_mem ha
   obtain ⟨h1, h2⟩ := List.nodup_cons.1 h
   have := nodup_len (A := A) (B := C ++ D) h2 fun b hb => by
    have hb2 := hs b (List.mem_cons_of_mem _ hb)
    rcases List.mem_append.1 hb2 with u | u
    ·exact List.mem_append.2 (.inl u)
    ·rcases List.mem_cons.1 u with v | v
     ·subst v; exact absurd hb h1
     ·exact List.mem_append.2 (.inr v)
   simp only [List.length_append, List.length_cons] at this ⊢
   omega
theorem mem_sum {α : Type} (w : α → Nat) : ∀ {l : List α} {a : α}, a ∈ l → w a ≤ (l.map w).sum
 | b :: l, a, h => by
   rw [List.map_cons, List.sum_cons]
   rcases List.mem_cons.1 h with u | u
   ·subst u; omega
   ·have := mem_sum w u; omega
section
variable {p : Pl} {M : Files} {Q U : Nat} {n : ByteArray} {x : St}
theorem ToldM.N_le (h : ToldM p M Q U) (hM : M n = some x) : x.N ≤ U := by
 obtain ⟨i, f, _, h2, _, h4, _⟩ := h.at hM
 have := mem_sum (fun f : Fl => f.pages.length) (List.mem_of_getElem? h2)
 have hu := h.used
 unfold Dk.used at hu
 omega
theorem ToldM.files_le (h : ToldM p M Q U) {ns : List ByteArray} (hs : ∀ n x, M n = some x → n ∈ ns) : p.d.files.length ≤ ns.length := by
 have hn : (p.d.files.map (·.name)).Nodup := by
  have := h.nodup
  have e : (p.d.files.map fun f => f.name.toList) = (p.d.files.map (·.name)).map ByteArray.toList := by rw [List.map_map]; rfl
  rw [e] at this
  exact List.Pairwise.imp (fun {a b} hne e => hne (by rw [e])) (List.pairwise_map.1 this)
 have := nodup_len hn (B := ns) fun a ha => by
  obtain ⟨f, hf, rfl⟩ := List.mem_map.1 ha
  obtain ⟨i, hi⟩ := List.mem_iff_getElem?.1 hf
  obtain ⟨y, b1, _⟩ := h.file i f hi
  exact hs _ _ b1
 rwa [List.length_map] at this
end
structure PoolM (H0 A : Heap) (F : Nat → Prop) (p dp : Nat) (s : Pl) (M : Files) (Q U most m : Nat) : Prop where
 ext : Ext H0 A
 pool : PoolAt F A p dp s
 old : ∀ b, F b → H0.size ≤ b
 calm : CalmM s M Q U
 lo : 0 ≤ s.next
 hi : s.next ≤ m
 logs : s.d.logs ≤ 2 * m
 le : U ≤ Q
 room : ∀ n x, M n = some x → ∀ k, (x.T k).2.length ≤ 504
 most : s.most = most
structure TreeM (A : Heap) (p : Nat) (M : Files) (k : Nat) (n : ByteArray) (W : Nat) (L : List (List Int)) : Prop where
 at_ : ∃ (x : St) (root depth : Nat) (P : List Nat), TreeB A k p ⟨n, W, root, depth, L.length, 0, false⟩ ∧ M n = some x ∧ TreeOn x W root depth L P
section
variable {H0 A B : Heap} {F F' : Nat → Prop} {p dp k W Q U most m : Nat} {s s' : Pl} {M M' : Files} {n : ByteArray} {L : List (List Int)} {x x' : St} {l : Sl} {ll : List Int}
theorem PoolM.gl (h : PoolM H0 A F p dp s M Q U most m) (hg : Gl H0) : Gl A := hg.mod h.ext id
theorem PoolM.many (h : PoolM H0 A F p dp s M Q U most m) (hM : M n = some x) : ManyI n M Q (U - x.N) most s x m := by
 have hN := h.calm.told.N_le hM
 have e : x.N + (U - x.N) = U := by omega
 exact ⟨by rw [setF_id hM, e]; exact h.calm, h.lo, h.hi, h.logs, by rw [e]; exact h.le, h.room n x hM, h.most⟩
theorem PoolM.goes {R m' : Nat} {Y Y' : Nat → Prop} (h : PoolM H0 A F p dp s M Q U most m) (hI : ManyI n M Q R most s' x' m') (hp : PoolAt F' B p dp s') (S : Step Y Y' A B) (h1 : ∀ b, Y b → H0.size ≤ b) (h2 : ∀ b, F' b → Y' b) : PoolM H0 B F' p dp s' (setF M n (some x')) Q (x'.N + R) most m' := by
 have hz := h.ext.size
 refine ⟨⟨Nat.le_trans hz S.mod.size, fun b hb _ => (S.mod.same b (by omega) fun u => by have := h1 b u; omega).trans (h.ext.same b hb id)⟩, hp, fun b hb => ?_, hI.calm, hI.lo, hI.hi, hI.logs, hI.le, fun a y hy j => ?_, hI.most⟩
 ·rcases S.own b (h2 b hb) with u | u
  ·exact h1 b u
  ·omega
 ·by_cases q : a = n
  ·subst q
   rw [setF_same] at hy
   cases hy
   exact hI.room j
  ·rw [setF_other q] at hy
   exact h.room a y hy j
theorem PoolM.grow (h : PoolM H0 A F p dp s M Q U most m) (e : Ext A B) : PoolM H0 B F p dp s M Q U most m :=
 ⟨h.ext.trans e, h.pool.ext e, h.old, h.calm, h.lo, h.hi, h.logs, h.le, h.room, h.most⟩
theorem PoolM.later {m' : Nat} (h : PoolM H0 A F p dp s M Q U most m) (hm : m ≤ m') : PoolM H0 A F p dp s M Q U most m' :=
 ⟨h.ext, h.pool, h.old, h.calm, h.lo, by have := h.hi; omega, by have := h.logs; omega, h.le, h.room, h.most⟩
theorem PoolM.aside (h : PoolM H0 A F p dp s M Q U most m) (e : Ext H0 B) (hs : ∀ b, F b → B[b]? = A[b]?) : PoolM H0 B F p dp s M Q U most m :=
 ⟨e, h.pool.keep fun b hb _ => hs b hb, h.old, h.calm, h.lo, h.hi, h.logs, h.le, h.room, h.most⟩
theorem TreeM.keep (h : TreeM A p M k n W L) (hk : B[k]? = A[k]?) (hM : M' n = M n) : TreeM B p M' k n W L := by
 obtain ⟨x, root, depth, P, a, b, c⟩ := h.at_
 exact ⟨x, root, depth, P, hk.trans a, by rw [hM]; exact b, c⟩
theorem TreeM.lt (h : TreeM A p M k n W L) : k < A.size := by obtain ⟨x, root, depth, P, a, b, c⟩ := h.at_; exact obj_lt a
theorem TreeM.asc (h : TreeM A p M k n W L) : Asc L := by obtain ⟨x, root, depth, P, a, b, c⟩ := h.at_; exact c.asc
theorem TreeM.there (h : TreeM A p M k n W L) : ∃ x, M n = some x := by obtain ⟨x, root, depth, P, a, b, c⟩ := h.at_; exact ⟨x, b⟩
theorem TreeM.rows (h : TreeM A p M k n W L) : ∀ y ∈ L, y.length = W ∧ fitsL y := by
 obtain ⟨x, root, depth, P, a, b, c⟩ := h.at_
 exact fun y hy => (c.tn.rows.2 y hy).2
theorem TreeOn.small {root depth : Nat} {P : List Nat} (h : TreeOn x W root depth L P) : depth ≤ L.length + 1 ∧ x.N ≤ 2 * L.length + 2 := by
 have h1 := h.pages
 rcases Nat.lt_or_ge 1 depth with q | q
 ·obtain ⟨s1, s2⟩ := h.tn.sizes q
  have := Nat.lt_two_pow_self (n := depth - 1)
  omega
 ·have hd : depth = 1 := by have := h.deep; omega
  subst hd
  obtain ⟨n, a1, a2, a3, a4⟩ := h.tn
  rw [a4] at h1
  simp at h1
  omega
theorem TreeM.count {K : Int → Heap → Prop} (h : TreeM A p M k n W L) (hK : K (L.length : Int) A) : Zca.sp (at0 k) A K := by
 obtain ⟨x, root, depth, P, a, b, c⟩ := h.at_
 exact tCount_ok a hK
theorem TreeM.insert {K : (Bool × Int) → Heap → Prop} (h : TreeM A p M k n W L) (hP : PoolM H0 A F p dp s M Q U most m) (hg : Gl H0) (hk : ¬ F k ∧ H0.size ≤ k) (hn : n.size ≤ 9223372036854775807) (hW : W ≤ 16) (hL : L.length ≤ 400) (hQ : Q ≤ 1048576) (hq : U + L.length + 1 < Q) (hm : m + 4000 ≤ 30000000000)
  (hl : Ints .u64 A l ll) (hll : ll.length = W ∧ fitsL ll)
  (hK : ∀ f L' F' s' M' U' B, PoolM H0 B F' p dp s' M' Q U' most (m + 4000) → TreeM B p M' k n W L' → (f = true ↔ ll ∉ L) → Plus ll L L' → (f = false → L' = L) → L'.length ≤ L.length + 1 → (∀ a, a ≠ n → M' a = M a) → Step (fun b => F b ∨ b = k) (fun b => F' b ∨ b = k) A B → ¬ F' k → U' ≤ U + 2 * L.length + 4 → K (f, 0) B) : ZbR.sp (at0 k) l A K := by
 obtain ⟨x, root, depth, P, ht, hM, on⟩ := h.at_
 obtain ⟨b1, b2, b3, b4⟩ := on.bounds hL
 obtain ⟨c1, c2⟩ := on.small
 have hN := hP.calm.told.N_le hM
 have hins := on.ins (q := Q - (U - x.N)) hW hll hL n (by omega)
 have own : ∀ b, F b ∨ b = k → H0.size ≤ b := fun b u => u.elim (hP.old b) fun v => v ▸ hk.2
 refine tInsert_ok (W := W) (root := root) (depth := depth) (t := ⟨n, W, root, depth, L.length, 0, false⟩) (many_store (R := U - x.N) (Mo := M) (most := most) hn hQ) rfl hW rfl rfl ⟨on.deep, by omega⟩ (by omega) ⟨by show (0 : Int) ≤ (L.length : Int); omega, by show (L.length : Int) ≤ _; omega⟩ (hP.many hM) hm (hP.gl hg) ht hP.pool hk.1 hl (fun u => absurd rfl u) (fun _ u => absurd hll.1 u) (fun _ _ f t' x' hi F' B s' p1 S1 k1 t1 I1 => ?_) (fun _ _ hi => ?_) (fun _ _ hi => ?_) (fun _ _ _ _ _ _ _ _ hC => hC.elim)
 ·have hp1 := hP.goes I1 p1 S1 own (fun b hb => .inl hb)
  rcases hins with ⟨i1, i2⟩ | ⟨i1, x2, root', depth', L', P', i2, on', pl, len⟩
  ·rw [i2] at hi
   cases hi
   exact hK false L F' s' _ _ B hp1 ⟨x, root, depth, P, t1, setF_same _ _ _, on⟩ ⟨fun u => (by cases u), fun u => absurd i1 u⟩ (fun y => ⟨.inr, fun u => u.elim (fun e => e ▸ i1) id⟩) (fun _ => rfl) (Nat.le_succ _) (fun a ha => setF_other ha) S1 k1 (by omega)
  ·rw [i2] at hi
   cases hi
   have c2' := on'.small.2
   exact hK true L' F' s' _ _ B hp1 ⟨x', root', depth', P', t1, setF_same _ _ _, on'⟩ ⟨fun _ => i1, fun _ => rfl⟩ pl (fun u => (by cases u)) (Nat.le_of_eq len) (fun a ha => setF_other ha) S1 k1 (by omega)
 ·exfalso
  rcases hins with ⟨i1, i2⟩ | ⟨i1, x2, root', depth', L', P', i2, on', pl, len⟩ <;> (rw [i2] at hi; cases hi)
 ·exfalso
  rcases hins with ⟨i1, i2⟩ | ⟨i1, x2, root', depth', L', P', i2, on', pl, len⟩ <;> (rw [i2] at hi; cases hi)
theorem head_is (h : Asc L) : ((L.filter (pq ll false)).head? = none → decide (ll ∈ L) = false) ∧ ∀ y, (L.filter (pq ll false)).head? = some y → decide (cmpL y ll = 0) = decide (ll ∈ L) := by
 have hp : pq ll false ll = true := by
  unfold pq
  have : ¬ cmpL ll ll < 0 := ltR_irr ll
  simpa using this
 have ha : Asc (L.filter (pq ll false)) := h.sublist List.filter_sublist
 have hall : ∀ y ∈ L.filter (pq ll false), ¬ ltR y ll := fun y hy q => by
  have := (List.mem_filter.1 hy).2
  rw [pq_below q] at this; cases this
 have hmem : ll ∈ L ↔ ll ∈ L.filter (pq ll false) := ⟨fun u => List.mem_filter.2 ⟨u, hp⟩, fun u => (List.mem_filter.1 u).1⟩
 generalize L.filter (pq ll false) = N at *
 refine ⟨fun hn => decide_eq_false fun u => ?_, fun y hy => decide_eq_decide.2 ?_⟩
 ·rw [hmem] at u
  cases N with
  | nil => cases u
  | cons a N => cases hn
 ·rw [hmem, cmpL_zero]
  cases N with
  | nil => cases hy
  | cons a N =>
    obtain rfl : a = y := Option.some.inj hy
    rw [List.mem_cons]
    constructor
    ·exact fun e => .inl e.symm
    ·rintro (e | e)
     ·exact e.symm
     ·exact absurd ((List.pairwise_cons.1 ha).1 ll e) (hall a List.mem_cons_self)
theorem TreeM.has {K : (Bool × Int) → Heap → Prop} (h : TreeM A p M k n W L) (hP : PoolM H0 A F p dp s M Q U most m) (hg : Gl H0) (hk : ¬ F k ∧ H0.size ≤ k) (hn : n.size ≤ 9223372036854775807) (hW : W ≤ 16) (hL : L.length ≤ 400) (hQ : Q ≤ 1048576) (hm : m + 1000000 ≤ 30000000000)
  (hl : Ints .u64 A l ll) (hlo : OffI F A l ll) (hll : ll.length = W)
  (hK : ∀ F' s' B, PoolM H0 B F' p dp s' M Q U most (m + 1000000) → TreeM B p M k n W L → Step (fun b => F b ∨ b = k) (fun b => F' b ∨ b = k) A B → Step F F' A B → ¬ F' k → K (decide (ll ∈ L), 0) B) : Zdc.sp (at0 k) l A K := by
 obtain ⟨x, root, depth, P, ht, hM, on⟩ := h.at_
 obtain ⟨b1, b2, b3, b4⟩ := on.bounds hL
 have hN := hP.calm.told.N_le hM
 have hf := on.fnd (low := ll) (strict := false) (t := ⟨n, W, root, depth, L.length, 0, false⟩) rfl
 have own : ∀ b, F b ∨ b = k → H0.size ≤ b := fun b u => u.elim (hP.old b) fun v => v ▸ hk.2
 refine tHas_ok (W := W) (root := root) (depth := depth) (t := ⟨n, W, root, depth, L.length, 0, false⟩) (many_store (R := U - x.N) (Mo := M) (most := most) hn hQ) rfl hW rfl rfl ⟨on.deep, by omega⟩ (by omega) (hP.many hM) hm (hP.gl hg) ht hP.pool hk.1 hl hlo (fun u => absurd rfl u) (fun _ u => absurd hll u) (fun _ _ o ho F' B s' p1 S1 S2 k1 t1 I1 => ?_) (fun _ _ u => by rw [hf] at u; cases u) (fun _ _ _ _ _ _ _ _ hC => hC.elim)
 rw [hf] at ho
 have ho : (L.filter (pq ll false)).head? = o := Option.some.inj ho
 have hp1 := hP.goes I1 p1 S1 own (fun b hb => .inl hb)
 rw [setF_id hM, show x.N + (U - x.N) = U by omega] at hp1
 have key := hK F' s' B hp1 ⟨x, root, depth, P, t1, hM, on⟩ S1 S2 k1
 obtain ⟨e1, e2⟩ := head_is (ll := ll) on.asc
 cases o with
 | none => rw [e1 ho] at key; exact key
 | some y => rw [← e2 y ho] at key; exact key
theorem TreeM.next {K : (Sl × Bool × Int) → Heap → Prop} {cb : Nat} {lo : Sl} {strict : Bool} (h : TreeM A p M k n W L) (hP : PoolM H0 A F p dp s M Q U most m) (hg : Gl H0) (hk : ¬ F k ∧ H0.size ≤ k) (hcb : H0.size ≤ cb) (hn : n.size ≤ 9223372036854775807) (hW : W ≤ 16) (hL : L.length ≤ 400) (hQ : Q ≤ 1048576) (hm : m + 1000000 ≤ 30000000000) (hc : CurB A F k cb lo ll strict)
  (hK1 : (L.filter (pq ll strict)).head? = none → ∀ F' s' B, PoolM H0 B F' p dp s' M Q U most (m + 1000000) → TreeM B p M k n W L → Step (fun b => F b ∨ b = k ∨ b = cb) (fun b => F' b ∨ b = k ∨ b = cb) A B → ¬ F' k → CurB B F' k cb lo ll strict → K (nilT, false, 0) B)
  (hK3 : ∀ y, (L.filter (pq ll strict)).head? = some y → ∀ F' s' B sl lo', PoolM H0 B F' p dp s' M Q U most (m + 1000000) → TreeM B p M k n W L → Step (fun b => F b ∨ b = k ∨ b = cb) (fun b => F' b ∨ b = k ∨ b = cb) A B → ¬ F' k → CurB B F' k cb lo' y true → Owns B 0 YaP 1 sl (y.map (Value.int .u64)) → (∀ b, ownB sl b → A.size ≤ b ∧ ¬ F' b ∧ b ≠ k ∧ b ≠ cb ∧ ¬ ownB lo' b) ∧ (∀ b, ownB lo' b → A.size ≤ b) → K (sl, true, 0) B) : ZbO.sp (some ⟨cb, 0, none⟩) A K := by
 obtain ⟨x, root, depth, P, ht, hM, on⟩ := h.at_
 obtain ⟨b1, b2, b3, b4⟩ := on.bounds hL
 have hN := hP.calm.told.N_le hM
 have hf := on.fnd (low := ll) (strict := strict) (t := ⟨n, W, root, depth, L.length, 0, false⟩) rfl
 have own : ∀ b, F b ∨ b = k ∨ b = cb → H0.size ≤ b := fun b u => by
  rcases u with u | u | u
  ·exact hP.old b u
  ·rw [u]; exact hk.2
  ·rw [u]; exact hcb
 have pm : ∀ {F' : Nat → Prop} {s' : Pl} {B : Heap}, ManyI n M Q (U - x.N) most s' x (m + 1000000) → PoolAt F' B p dp s' → Step (fun b => F b ∨ b = k ∨ b = cb) (fun b => F' b ∨ b = k ∨ b = cb) A B → PoolM H0 B F' p dp s' M Q U most (m + 1000000) := fun I1 p1 S1 => by
  have hp1 := hP.goes I1 p1 S1 own (fun b hb => .inl hb)
  rw [setF_id hM, show x.N + (U - x.N) = U by omega] at hp1
  exact hp1
 refine tNext_ok (W := W) (root := root) (depth := depth) (t := ⟨n, W, root, depth, L.length, 0, false⟩) (many_store (R := U - x.N) (Mo := M) (most := most) hn hQ) rfl hW rfl rfl ⟨on.deep, by omega⟩ (by omega) (hP.many hM) hm (hP.gl hg) ht hP.pool hk.1 hc (fun u => absurd rfl u) (fun _ hn2 F' B s' p1 S1 k1 t1 c1 I1 => ?_) (fun _ y hy F' B s' sl lo' p1 S1 k1 t1 c1 I1 o1 f1 => ?_) (fun _ u => by rw [hf] at u; cases u) (fun _ _ _ _ _ _ _ _ hC => hC.elim)
 ·rw [hf] at hn2
  exact hK1 (Option.some.inj hn2) F' s' B (pm I1 p1 S1) ⟨x, root, depth, P, t1, hM, on⟩ S1 k1 c1
 ·rw [hf] at hy
  exact hK3 y (Option.some.inj hy) F' s' B sl lo' (pm I1 p1 S1) ⟨x, root, depth, P, t1, hM, on⟩ S1 k1 c1 o1 f1
theorem PoolM.newTree {K : (Option Addr × Int) → Heap → Prop} {ns : List ByteArray} (hP : PoolM H0 A F p dp s M Q U most m) (hg : Gl H0) (hn : n.size ≤ 9223372036854775807) (hnm : named n = true) (hW : W ≤ 16) (hQ : Q ≤ 1048576) (hq : U + 2 < Q) (hm : m + 2 ≤ 30000000000) (hM : M n = none) (hns : ∀ a y, M a = some y → a ∈ ns) (hnl : ns.length < 4096)
  (hK : ∀ F' s' x' k B, PoolM H0 B F' p dp s' (setF M n (some x')) Q (U + 2) most (m + 2) → TreeM B p (setF M n (some x')) k n W [] → Step F F' A B → ¬ F' k → A.size ≤ k → k < B.size → K (at0 k, 0) B) : ZdR.sp (at0 p) n (W : Int) A K := by
 have hfl := hP.calm.told.files_le hns
 obtain ⟨c1, c2, c3, c4⟩ := hP.calm.told.create hM hnm (by omega) (fun _ => (0, []))
 have I0 : ManyI n M Q U most (s.setD (s.d.create n).1) ⟨0, fun _ => (0, [])⟩ m := ⟨by show CalmM _ _ _ (0 + U); rw [Nat.zero_add]; exact ⟨c2, hP.calm.wf.setD _, hP.calm.free⟩, hP.lo, hP.hi, by show (s.d.create n).1.logs ≤ _; rw [c4]; exact hP.logs, by show 0 + U ≤ Q; have := hP.le; omega, fun _ => by show ([] : List UInt8).length ≤ 504; decide, hP.most⟩
 refine tNew_ok (W := W) (m := m) (x0 := ⟨0, fun _ => (0, [])⟩) (many_store (R := U) (Mo := M) (most := most) hn hQ) hW (hP.gl hg) hP.pool hm (fun _ => I0) (fun u => absurd c1 u) (fun _ _ F' B s' k p1 S1 t1 k1 hk1 I1 => ?_) (fun _ u => absurd (show (0 + 1 : Nat) < Q - U by omega) u) (fun _ _ _ _ _ _ hC => hC.elim)
 have hp1 := hP.goes I1 p1 S1 hP.old (fun b hb => hb)
 have e2 : (St.made ⟨0, fun _ => (0, [])⟩ W).N + U = U + 2 := by show 2 + U = U + 2; omega
 rw [e2] at hp1
 exact hK F' s' _ k B hp1 ⟨_, 1, 1, [1], t1, setF_same _ _ _, made_treeOn hW⟩ S1 k1 hk1 (obj_lt t1)
end
theorem callB_fn {P : Program} {g : FuncId} {caps : Array Value} {args : List Value} {H : Heap} {K : Bool → Heap → Prop} (arr : Array Value) (ha : (args ++ caps.toList).toArray = arr) (hc : callable P g = true) (h : SpecT cBool P g arr H K) : CallB P (.func (.func g) #[] caps) args H K := by
 unfold CallB
 simp only [hc, cond_true]
 subst ha
 simpa using h
theorem callV_fn {c : Cod} {P : Program} {g : FuncId} {caps : Array Value} {args : List Value} {H : Heap} {K : c.α → Heap → Prop} (arr : Array Value) (ha : (args ++ caps.toList).toArray = arr) (hc : callable P g = true) (h : SpecT c P g arr H K) : CallV c P (.func (.func g) #[] caps) args H K := by
 unfold CallV
 simp only [hc, cond_true]
 subst ha
 simpa using h
section
variable {P : Program} {t kt et : TypeId} {d : TypeDesc} {H : Heap} {r : Nat} {es : Array MapEntry} {clk : Nat} {k : Value}
end
structure RowsX (X : Nat → Prop) (H : Heap) (s : Sl) (ls : List (List Int)) : Prop where
 len : s.n = ls.length
 off : ∀ ad, s.a = some ad → ad.block < H.size ∧ ¬ X ad.block
 at' : ∀ i (h : i < ls.length), ∃ ad r, s.a = some ad ∧ hCell H (ad.add i) = some (Sl.v r) ∧ (∀ a, r.a = some a → a.block < H.size ∧ ¬ X a.block) ∧ Ints .u64 H r ls[i]
theorem RowsX.mod {X : Nat → Prop} {H B : Heap} {s : Sl} {ls : List (List Int)} (h : RowsX X H s ls) (m : Mod X H B) : RowsX X B s ls :=
 ⟨h.len, fun ad ha => ⟨by have := (h.off ad ha).1; have := m.size; omega, (h.off ad ha).2⟩, fun i hi => by
  obtain ⟨ad, r, q1, q2, q3, q4⟩ := h.at' i hi
  exact ⟨ad, r, q1, m.cell q2 (by rw [add_block]; exact (h.off ad q1).2), fun a ha => ⟨by have := (q3 a ha).1; have := m.size; omega, (q3 a ha).2⟩, q4.mod m fun a ha => (q3 a ha).2⟩⟩
theorem RowsX.rows {X : Nat → Prop} {H : Heap} {s : Sl} {ls : List (List Int)} (h : RowsX X H s ls) : Rows H s ls := ⟨h.len, fun i hi => by
 obtain ⟨ad, r, q1, q2, _, q4⟩ := h.at' i hi
 exact ⟨ad, r, q1, q2, q4⟩⟩
theorem RowsX.drop {X : Nat → Prop} {H : Heap} {s : Sl} {ls : List (List Int)} (h : RowsX X H s ls) (hc : s.n ≤ s.c) {i : Nat} (hi : i ≤ ls.length) : RowsX X H ⟨slA s.a s.c i 1, s.n - i, s.c - i⟩ (ls.drop i) := by
 have hln := h.len
 refine ⟨by rw [List.length_drop]; show s.n - i = _; omega, fun ad ha => ?_, fun j hj => ?_⟩
 ·have ha : slA s.a s.c i 1 = some ad := ha
  unfold slA at ha
  split at ha
  ·exact h.off ad ha
  ·cases hsa : s.a with
   | none => rw [hsa] at ha; simp at ha
   | some a0 =>
     rw [hsa] at ha
     simp at ha
     subst ha
     rw [add_block]
     exact h.off a0 hsa
 ·rw [List.length_drop] at hj
  obtain ⟨ad, r, q1, q2, q3, q5⟩ := h.at' (i + j) (by omega)
  refine ⟨ad.add i, r, ?_, by rw [add_add]; exact q2, q3, ?_⟩
  ·show slA s.a s.c i 1 = _
   unfold slA
   rw [if_neg (by omega), q1, Nat.mul_one]; rfl
  ·rw [List.getElem_drop]; exact q5
theorem emptyB' {H : Heap} {t : TypeId} {K : Addr → Heap → Prop} (hK : ∀ H', Owns H' 0 t 1 ⟨some ⟨H.size, 0, none⟩, 0, 0⟩ [] → Ext H H' → K ⟨H.size, 0, none⟩ H') : newC H #[] t K :=
 hK _ ⟨rfl, .inr ⟨H.size, 0, #[], rfl, Nat.zero_le _, by simp, by simp, Nat.zero_le _, by simp, by simp⟩⟩ (Mod.push _ _ _)
theorem elI64 : El Tryz.prog YaQ YaT 8 (.int .i64 0) := El_of (zb := isInt0 .i64) isInt0_eq rfl (by kernel_rfl)
theorem hclone_ok {H : Heap} {s : Sl} {l : List Int} {K : Sl → Heap → Prop} (h : Ints .u64 H s l) (hl : l.length ≤ 1000000)
  (hK : ∀ s' H', Owns H' 0 YaP 1 s' (l.map (Value.int .u64)) → Ext H H' → (∀ b, ownB s' b → H.size ≤ b) → K s' H') : ZaH.sp s H K := by
 refine ZaH.of ?_
 unfold ZaH.vc
 have hn := h.len
 refine br_mk (fun hc => ?_) (fun hc => ?_)
 ·have hl0 : l = [] := by
   cases l with
   | nil => rfl
   | cons x r =>
     obtain ⟨ad, e, _⟩ := h.at (i := 0) (by simp)
     rw [e] at hc; simp at hc
  subst hl0
  exact hK _ H (Owns.nil _ _ _ _) (.refl _ _) fun b u => by obtain ⟨ad, ha, _⟩ := u; cases ha
 ·refine emptyB' fun H1 o1 e1 => ?_
  refine elU64.append (base := 0) (s := ⟨some ⟨H.size, 0, none⟩, 0, 0⟩) (x := s) (xs := []) (ws := l.map (Value.int .u64)) o1 (by simp; omega) (h.ext e1).reads (intsOne _ _) (by simp only; omega) (by simp only; omega) (Nat.zero_le _) ?_
  intro s' H2 n2 o2 m2 b2 _
  have f1 : ∀ b, ownB (Sl.mk (some ⟨H.size, 0, none⟩) 0 0) b → H.size ≤ b := by
   rintro b ⟨ad, ha, rfl⟩
   cases ha; exact Nat.le_refl _
  refine hK s' H2 (by simpa using o2) (((Ext.mod e1).trans m2).ext f1) fun b u => ?_
  rcases b2 b u with v | v
  ·exact f1 b v
  ·have := e1.size; omega
theorem hcloneI_ok {H : Heap} {s : Sl} {l : List Int} {K : Sl → Heap → Prop} (h : Ints .i64 H s l) (hl : l.length ≤ 1000000)
  (hK : ∀ s' H', Owns H' 0 YaT 1 s' (l.map (Value.int .i64)) → Ext H H' → (∀ b, ownB s' b → H.size ≤ b) → K s' H') : Zbo.sp s H K := by
 refine Zbo.of ?_
 unfold Zbo.vc
 have hn := h.len
 refine br_mk (fun hc => ?_) (fun hc => ?_)
 ·have hl0 : l = [] := by
   cases l with
   | nil => rfl
   | cons x r =>
     obtain ⟨ad, e, _⟩ := h.at (i := 0) (by simp)
     rw [e] at hc; simp at hc
  subst hl0
  exact hK _ H (Owns.nil _ _ _ _) (.refl _ _) fun b u => by obtain ⟨ad, ha, _⟩ := u; cases ha
 ·refine emptyB' fun H1 o1 e1 => ?_
  refine elI64.append (base := 0) (s := ⟨some ⟨H.size, 0, none⟩, 0, 0⟩) (x := s) (xs := []) (ws := l.map (Value.int .i64)) o1 (by simp; omega) (h.ext e1).reads (intsOne _ _) (by simp only; omega) (by simp only; omega) (Nat.zero_le _) ?_
  intro s' H2 n2 o2 m2 b2 _
  have f1 : ∀ b, ownB (Sl.mk (some ⟨H.size, 0, none⟩) 0 0) b → H.size ≤ b := by
   rintro b ⟨ad, ha, rfl⟩
   cases ha; exact Nat.le_refl _
  refine hK s' H2 (by simpa using o2) (((Ext.mod e1).trans m2).ext f1) fun b u => ?_
  rcases b2 b u with v | v
  ·exact f1 b v
  ·have := e1.size; omega
def digB : ByteArray := ByteArray.mk #[48, 49, 50, 51, 52, 53, 54, 55, 56, 57, 97, 98, 99, 100, 101, 102, 103, 104, 105, 106, 107, 108, 109, 110, 111, 112, 113, 114, 115, 116, 117, 118, 119, 120, 121, 122]
def smB : ByteArray := ByteArray.mk #[48, 48, 48, 49, 48, 50, 48, 51, 48, 52, 48, 53, 48, 54, 48, 55, 48, 56, 48, 57, 49, 48, 49, 49, 49, 50, 49, 51, 49, 52, 49, 53, 49, 54, 49, 55, 49, 56, 49, 57, 50, 48, 50, 49, 50, 50, 50, 51, 50, 52, 50, 53, 50, 54, 50, 55, 50, 56, 50, 57, 51, 48, 51, 49, 51, 50, 51, 51, 51, 52, 51, 53, 51, 54, 51, 55, 51, 56, 51, 57, 52, 48, 52, 49, 52, 50, 52, 51, 52, 52, 52, 53, 52, 54, 52, 55, 52, 56, 52, 57, 53, 48, 53, 49, 53, 50, 53, 51, 53, 52, 53, 53, 53, 54, 53, 55, 53, 56, 53, 57, 54, 48, 54, 49, 54, 50, 54, 51, 54, 52, 54, 53, 54, 54, 54, 55, 54, 56, 54, 57, 55, 48, 55, 49, 55, 50, 55, 51, 55, 52, 55, 53, 55, 54, 55, 55, 55, 56, 55, 57, 56, 48, 56, 49, 56, 50, 56, 51, 56, 52, 56, 53, 56, 54, 56, 55, 56, 56, 56, 57, 57, 48, 57, 49, 57, 50, 57, 51, 57, 52, 57, 53, 57, 54, 57, 55, 57, 56, 57, 57]
def itoaB (n : Nat) : ByteArray := if n < 10 then digB.extract n (n + 1) else smB.extract (2 * n) (2 * n + 2)
theorem Itoa_ok {n : Nat} {H : Heap} {K : ByteArray → Heap → Prop} (hn : n < 100) (hK : K (itoaB n) H) : Zdo.sp (n : Int) H K := by
 refine Zdo.of ?_
 unfold Zdo.vc
 refine Zbv.of ?_
 unfold Zbv.vc
 refine ZaX.of ?_
 unfold ZaX.vc
 refine br_t rfl ?_
 refine br_t (by simp; omega) ?_
 refine Zbs.of ?_
 unfold Zbs.vc
 rw [succ64 n (by omega)]
 have e2 : IntKind.i64.wrap ((n : Int) * 2) = ((2 * n : Nat) : Int) := by rw [wrap64 (by omega) (by omega)]; omega
 rw [e2]
 have e3 : IntKind.i64.wrap (((2 * n : Nat) : Int) + 2) = ((2 * n + 2 : Nat) : Int) := by rw [wrap64 (by omega) (by omega)]; omega
 rw [e3]
 simp only [Int.toNat_natCast]
 unfold itoaB at hK
 refine br_mk (fun hc => ?_) (fun hc => ?_)
 ·have h1 : n < 10 := by have : (n : Int) < 10 := of_decide_eq_true hc
                         omega
  rw [if_pos h1] at hK
  have hs : digB.size = 36 := by decide
  refine ⟨⟨by omega, ?_⟩, ⟨by omega, by omega⟩, hK⟩
  show ((n + 1 : Nat) : Int) ≤ ((digB.size : Nat) : Int)
  omega
 ·have h1 : ¬ n < 10 := by have : ¬ (n : Int) < 10 := of_decide_eq_false hc
                           omega
  rw [if_neg h1] at hK
  have hs : smB.size = 200 := by decide +kernel
  refine ⟨⟨by omega, ?_⟩, ⟨by omega, by omega⟩, hK⟩
  show ((2 * n + 2 : Nat) : Int) ≤ ((smB.size : Nat) : Int)
  omega
def valB (l : List UInt8) : Nat := l.foldl (fun a c => 10 * a + (c.toNat - 48)) 0
theorem itoa_all : ∀ n, n < 100 → valB (itoaB n).toList = n ∧ (itoaB n).size ≤ 2 := by decide +kernel
theorem itoa_some : ∀ n, n < 100 → itoaB n ≠ ByteArray.empty := by decide +kernel
def nmR (name : ByteArray) (j : Nat) : ByteArray := (name ++ ByteArray.mk #[46]) ++ itoaB j
theorem nmR_inj {name : ByteArray} {i j : Nat} (hi : i < 100) (hj : j < 100) (h : nmR name i = nmR name j) : i = j := by
 have e : itoaB i = itoaB j := by
  have h1 := congrArg (fun b => b.toList) h
  unfold nmR at h1
  simp only [ByteArray.toList_eq, ByteArray.data_append, Array.toList_append] at h1
  have h2 := List.append_cancel_left h1
  exact ByteArray.ext (Array.toList_inj.1 h2)
 rw [← (itoa_all i hi).1, ← (itoa_all j hj).1, e]
theorem nmR_far {name : ByteArray} {i j : Nat} (hi : i < 100) (hj : ¬ j < 100) : nmR name j ≠ nmR name i := by
 intro h
 have e : itoaB j = itoaB i := by
  have h1 := congrArg (fun b => b.toList) h
  unfold nmR at h1
  simp only [ByteArray.toList_eq, ByteArray.data_append, Array.toList_append] at h1
  have h2 := List.append_cancel_left h1
  exact ByteArray.ext (Array.toList_inj.1 h2)
 have e2 : itoaB j = ByteArray.empty := by
  unfold itoaB
  rw [if_neg (by omega)]
  apply ByteArray.ext
  have hs : smB.size = 200 := by decide +kernel
  have : (smB.extract (2 * j) (2 * j + 2)).size = 0 := by rw [ByteArray.size_extract]; omega
  exact Array.eq_empty_of_size_eq_zero this
 have := (itoa_all i hi).1
 have h0 := itoa_some i hi
 rw [← e, e2] at h0
 exact h0 rfl
theorem nmR_ne {name : ByteArray} {i j : Nat} (hi : i < 100) (h : j ≠ i) : nmR name j ≠ nmR name i := fun e => by
 by_cases q : j < 100
 ·exact h (nmR_inj q hi e)
 ·exact nmR_far hi q e
theorem nmR_size {name : ByteArray} {j : Nat} (hj : j < 100) : (nmR name j).size ≤ name.size + 3 ∧ name.size + 1 ≤ (nmR name j).size := by
 have := (itoa_all j hj).2
 unfold nmR
 rw [ByteArray.size_append, ByteArray.size_append]
 have : (ByteArray.mk #[46]).size = 1 := rfl
 omega
theorem nmR_named {name : ByteArray} {j : Nat} (hj : j < 100) (hn : name.size ≤ 90) : named (nmR name j) = true := by
 have := nmR_size (name := name) hj
 unfold named
 simp only [Bool.and_eq_true, decide_eq_true_eq]
 omega
structure OrdX (X : Nat → Prop) (H : Heap) (s : Sl) (ls : List (List Int)) : Prop where
 len : s.n = ls.length
 off : Off X H s
 at' : ∀ i (h : i < ls.length), ∃ ad r, s.a = some ad ∧ hCell H (ad.add i) = some (Sl.v r) ∧ Off X H r ∧ Ints .i64 H r ls[i] ∧ r.n ≤ r.c
theorem OrdX.step {X X' : Nat → Prop} {A B : Heap} {s : Sl} {ls : List (List Int)} (h : OrdX X A s ls) (S : Step X X' A B) : OrdX X' B s ls := ⟨h.len, h.off.step S, fun i hi => by
 obtain ⟨ad, r, q1, q2, q4, q5, q6⟩ := h.at' i hi
 exact ⟨ad, r, q1, S.mod.cell q2 (by rw [add_block]; exact (h.off ad q1).2), q4.step S, q4.ints q5 S, q6⟩⟩
structure SlX (X : Nat → Prop) (H : Heap) (s : Sl) (vs : List Value) : Prop where
 len : s.n = vs.length
 off : Off X H s
 reads : Reads H s.a vs
theorem SlX.step {X X' : Nat → Prop} {A B : Heap} {s : Sl} {vs : List Value} (h : SlX X A s vs) (S : Step X X' A B) : SlX X' B s vs := ⟨h.len, h.off.step S, h.reads.mod S.mod fun ad ha => (h.off ad ha).2⟩
theorem SlX.nil (X : Nat → Prop) (H : Heap) : SlX X H (Sl.mk none 0 0) [] := ⟨rfl, fun _ h => (by cases h), Reads.nil _ _⟩
theorem Step.widen {X X' Y Y' : Nat → Prop} {A B : Heap} (S : Step Y Y' A B) (h1 : ∀ b, Y b → X b) (h2 : ∀ b, X' b → X b ∨ Y' b) : Step X X' A B :=
 ⟨S.mod.mono fun b _ u => h1 b u, fun b hb => (h2 b hb).elim .inl fun u => (S.own b u).imp (h1 b) id⟩
structure Tx where
 k : Nat
 n : ByteArray
 L : List (List Int)
structure PartS where
 pb : Nat
 s : Sl
 ts : List Tx
structure RelS where
 rb : Nat
 name : ByteArray
 W : Nat
 os : Sl
 ords : List (List Int)
 f : PartS
 d : PartS
 e : PartS
 ex : List Tx
 next : Nat
 nb : Nat
 turns : Nat
def RelS.parts (R : RelS) : List PartS := [R.f, R.d, R.e]
def RelS.all (R : RelS) : List Tx := R.f.ts ++ (R.d.ts ++ (R.e.ts ++ R.ex))
def RelS.O (R : RelS) (b : Nat) : Prop := b = R.rb ∨ (∃ q ∈ R.parts, b = q.pb) ∨ ∃ t ∈ R.all, b = t.k
def RelS.X (R : RelS) (F : Nat → Prop) (b : Nat) : Prop := F b ∨ R.O b
def relV (p : Nat) (R : RelS) : Array Value := #[.pointer (at0 p), .string R.name, .int .i64 R.W, R.os.v, .int .i64 0, .bool false, .pointer (at0 R.f.pb), .pointer (at0 R.d.pb), .pointer (at0 R.e.pb), .int .i64 R.next, .int .i64 R.turns]
def partV (rb : Nat) (s : Sl) : Array Value := #[.pointer (some ⟨rb, 0, none⟩), s.v]
def ksV (ts : List Tx) : List Value := ts.map fun t => ptrV t.k
structure RelB (H0 A : Heap) (F : Nat → Prop) (p : Nat) (M : Files) (R : RelS) : Prop where
 row : RowT A R.rb YaO (relV p R)
 pt : ∀ q ∈ R.parts, RowT A q.pb YaM (partV R.rb q.s) ∧ SlX (R.X F) A q.s (ksV q.ts)
 ords : OrdX (R.X F) A R.os R.ords
 tr : ∀ t ∈ R.all, TreeM A p M t.k t.n R.W t.L
 off : ∀ b, R.O b → ¬ F b ∧ H0.size ≤ b
 pbs : (R.parts.map (·.pb)).Nodup
 ks : (R.all.map (·.k)).Nodup
 ns : (R.all.map (·.n)).Nodup
 nms : ∀ t ∈ R.all, ∃ j, j < R.nb ∧ t.n = nmR R.name j
 free : ∀ j, R.nb ≤ j → M (nmR R.name j) = none
section
variable {H0 A B : Heap} {F F' : Nat → Prop} {p dp : Nat} {M M' : Files} {R : RelS}
theorem RelB.lt (h : RelB H0 A F p M R) : ∀ b, R.O b → b < A.size := by
 rintro b (rfl | ⟨q, hq, rfl⟩ | ⟨t, ht, rfl⟩)
 ·exact obj_lt h.row
 ·exact obj_lt (h.pt q hq).1
 ·exact (h.tr t ht).lt
theorem RelB.aside (h : RelB H0 A F p M R) (S : Step (R.X F) (R.X F') A B) (hs : ∀ b, R.O b → B[b]? = A[b]? ∧ ¬ F' b) (hM : ∀ t ∈ R.all, M' t.n = M t.n) (hf : ∀ j, R.nb ≤ j → M' (nmR R.name j) = none) : RelB H0 B F' p M' R :=
 ⟨(hs _ (.inl rfl)).1.trans h.row, fun q hq => ⟨(hs _ (.inr (.inl ⟨q, hq, rfl⟩))).1.trans (h.pt q hq).1, (h.pt q hq).2.step S⟩, h.ords.step S, fun t ht => (h.tr t ht).keep (hs _ (.inr (.inr ⟨t, ht, rfl⟩))).1 (hM t ht), fun b hb => ⟨(hs b hb).2, (h.off b hb).2⟩, h.pbs, h.ks, h.ns, h.nms, hf⟩
theorem RelB.asideX (h : RelB H0 A F p M R) (hsl : ∀ q ∈ R.parts, SlX (R.X F') B q.s (ksV q.ts)) (hos : OrdX (R.X F') B R.os R.ords) (hs : ∀ b, R.O b → B[b]? = A[b]? ∧ ¬ F' b) (hM : ∀ t ∈ R.all, M' t.n = M t.n) (hf : ∀ j, R.nb ≤ j → M' (nmR R.name j) = none) : RelB H0 B F' p M' R :=
 ⟨(hs _ (.inl rfl)).1.trans h.row, fun q hq => ⟨(hs _ (.inr (.inl ⟨q, hq, rfl⟩))).1.trans (h.pt q hq).1, hsl q hq⟩, hos, fun t ht => (h.tr t ht).keep (hs _ (.inr (.inr ⟨t, ht, rfl⟩))).1 (hM t ht), fun b hb => ⟨(hs b hb).2, (h.off b hb).2⟩, h.pbs, h.ks, h.ns, h.nms, hf⟩
theorem RelB.grow (h : RelB H0 A F p M R) (e : Ext A B) : RelB H0 B F p M R :=
 h.aside ⟨e.mod, fun _ u => .inl u⟩ (fun b hb => ⟨e.same b (h.lt b hb) id, (h.off b hb).1⟩) (fun _ _ => rfl) h.free
theorem RelB.tyk {b : Nat} {c : Array Value} {t : TypeId} {t1 : Tx} (h : RelB H0 A F p M R) (ht : t1 ∈ R.all) (hb : RowT A b t c) (hne : t ≠ YaD) : t1.k ≠ b := by
 rintro rfl
 obtain ⟨x, root, depth, P, a, _⟩ := (h.tr t1 ht).at_
 exact hne (cells_ty hb a)
theorem RelB.typ {q : PartS} (h : RelB H0 A F p M R) (hq : q ∈ R.parts) : q.pb ≠ R.rb := by
 intro e
 have := (h.pt q hq).1
 rw [e] at this
 exact absurd (cells_ty this h.row) (by decide)
theorem RelB.pool (h : RelB H0 A F p M R) (S : Step F F' A B) : RelB H0 B F' p M R :=
 h.aside (S.widen (fun b u => .inl u) fun b u => u.elim .inr fun v => .inl (.inr v)) (fun b hb => ⟨S.mod.same b (h.lt b hb) (h.off b hb).1, fun u => (S.own b u).elim (h.off b hb).1 fun v => by have := h.lt b hb; omega⟩) (fun _ _ => rfl) h.free
theorem RelB.congr (h : RelB H0 A F p M R) (e : ∀ b, F b ↔ F' b) : RelB H0 A F' p M R := (funext fun b => propext (e b) : F = F') ▸ h
theorem RelB.less (h : RelB H0 A F p M R) (e : ∀ b, F' b → F b) : RelB H0 A F' p M R := by
 have hx : ∀ b, b < A.size → R.X F' b → R.X F b := fun b _ u => u.elim (fun v => .inl (e b v)) .inr
 refine ⟨h.row, fun q hq => ⟨(h.pt q hq).1, (h.pt q hq).2.len, (h.pt q hq).2.off.mono hx, (h.pt q hq).2.reads⟩, ⟨h.ords.len, h.ords.off.mono hx, fun i hi => ?_⟩, h.tr, fun b hb => ⟨fun u => (h.off b hb).1 (e b u), (h.off b hb).2⟩, h.pbs, h.ks, h.ns, h.nms, h.free⟩
 obtain ⟨ad, r, q1, q2, q3, q4, q5⟩ := h.ords.at' i hi
 exact ⟨ad, r, q1, q2, q3.mono hx, q4, q5⟩
def Tx.up (k : Nat) (L : List (List Int)) (t : Tx) : Tx := if t.k = k then { t with L := L } else t
theorem Tx.up_k (k : Nat) (L : List (List Int)) (t : Tx) : (t.up k L).k = t.k := by unfold Tx.up; split <;> rfl
theorem Tx.up_n (k : Nat) (L : List (List Int)) (t : Tx) : (t.up k L).n = t.n := by unfold Tx.up; split <;> rfl
def PartS.up (k : Nat) (L : List (List Int)) (q : PartS) : PartS := { q with ts := q.ts.map (Tx.up k L) }
def RelS.up (k : Nat) (L : List (List Int)) (R : RelS) : RelS := { R with f := R.f.up k L, d := R.d.up k L, e := R.e.up k L, ex := R.ex.map (Tx.up k L) }
theorem RelS.up_all (k : Nat) (L : List (List Int)) (R : RelS) : (R.up k L).all = R.all.map (Tx.up k L) := by
 unfold RelS.all RelS.up PartS.up
 simp only [List.map_append]
theorem RelS.up_parts (k : Nat) (L : List (List Int)) (R : RelS) : (R.up k L).parts = R.parts.map (PartS.up k L) := rfl
theorem RelS.up_O (k : Nat) (L : List (List Int)) (R : RelS) (b : Nat) : (R.up k L).O b ↔ R.O b := by
 unfold RelS.O
 rw [RelS.up_all, RelS.up_parts]
 have h1 : (∃ q ∈ R.parts.map (PartS.up k L), b = q.pb) ↔ ∃ q ∈ R.parts, b = q.pb := by
  constructor
  ·rintro ⟨_, hq, rfl⟩; obtain ⟨q, hq', rfl⟩ := List.mem_map.1 hq; exact ⟨q, hq', rfl⟩
  ·rintro ⟨q, hq, rfl⟩; exact ⟨_, List.mem_map_of_mem hq, rfl⟩
 have h2 : (∃ t ∈ R.all.map (Tx.up k L), b = t.k) ↔ ∃ t ∈ R.all, b = t.k := by
  constructor
  ·rintro ⟨_, ht, rfl⟩; obtain ⟨t, ht', rfl⟩ := List.mem_map.1 ht; exact ⟨t, ht', t.up_k k L⟩
  ·rintro ⟨t, ht, rfl⟩; exact ⟨_, List.mem_map_of_mem ht, (t.up_k k L).symm⟩
 rw [h1, h2]
 exact Iff.rfl
theorem ksV_up (k : Nat) (L : List (List Int)) (ts : List Tx) : ksV (ts.map (Tx.up k L)) = ksV ts := by
 unfold ksV
 rw [List.map_map]
 exact List.map_congr_left fun t _ => by show ptrV (t.up k L).k = _; rw [Tx.up_k]
theorem RelB.treeOp {t : Tx} {L : List (List Int)} (h : RelB H0 A F p M R) (ht : t ∈ R.all) (S : Step (fun b => F b ∨ b = t.k) (fun b => F' b ∨ b = t.k) A B) (hk : ¬ F' t.k) (hT : TreeM B p M' t.k t.n R.W L) (hM : ∀ a, a ≠ t.n → M' a = M a) : RelB H0 B F' p M' (R.up t.k L) := by
 have hOk : R.O t.k := .inr (.inr ⟨t, ht, rfl⟩)
 have S' : Step (R.X F) ((R.up t.k L).X F') A B := S.widen (fun b u => u.elim .inl fun v => .inr (v ▸ hOk)) fun b u => u.elim (fun v => .inr (.inl v)) fun v => .inl (.inr ((RelS.up_O _ _ _ _).1 v))
 have hoff : ∀ b, R.O b → ¬ F' b ∧ H0.size ≤ b := fun b hb => by
  refine ⟨fun u => ?_, (h.off b hb).2⟩
  by_cases e : b = t.k
  ·subst e; exact hk u
  ·rcases S.own b (.inl u) with (v | v) | v
   ·exact (h.off b hb).1 v
   ·exact e v
   ·have := h.lt b hb; omega
 have same : ∀ b, R.O b → b ≠ t.k → B[b]? = A[b]? := fun b hb e => S.mod.same b (h.lt b hb) fun u => u.elim (h.off b hb).1 e
 have hks : ((R.up t.k L).all.map (·.k)) = R.all.map (·.k) := by rw [RelS.up_all, List.map_map]; exact List.map_congr_left fun x _ => x.up_k _ _
 have hns : ((R.up t.k L).all.map (·.n)) = R.all.map (·.n) := by rw [RelS.up_all, List.map_map]; exact List.map_congr_left fun x _ => x.up_n _ _
 have inj : ∀ x ∈ R.all, x ≠ t → x.k ≠ t.k ∧ x.n ≠ t.n := by
  intro x hx hne
  obtain ⟨i, hi⟩ := List.mem_iff_getElem?.1 hx
  obtain ⟨j, hj⟩ := List.mem_iff_getElem?.1 ht
  have hlt := (List.getElem?_eq_some_iff.1 hi).1
  refine ⟨fun e => hne ?_, fun e => hne ?_⟩
  ·have := (List.getElem?_inj (l := R.all.map (·.k)) (i := i) (j := j) (by simpa using hlt) h.ks).1 (by rw [List.getElem?_map, List.getElem?_map, hi, hj]; simp [e])
   subst this
   rw [hi] at hj; exact Option.some.inj hj
  ·have := (List.getElem?_inj (l := R.all.map (·.n)) (i := i) (j := j) (by simpa using hlt) h.ns).1 (by rw [List.getElem?_map, List.getElem?_map, hi, hj]; simp [e])
   subst this
   rw [hi] at hj; exact Option.some.inj hj
 refine ⟨(same _ (.inl rfl) fun e => ?_).trans h.row, fun q hq => ?_, h.ords.step S', fun x hx => ?_, fun b hb => hoff b ((RelS.up_O _ _ _ _).1 hb), h.pbs, by rw [hks]; exact h.ks, by rw [hns]; exact h.ns, fun x hx => ?_, fun j hj => ?_⟩
 ·exact (h.tyk ht h.row (by decide)) e.symm
 ·rw [RelS.up_parts] at hq
  obtain ⟨q, hq', rfl⟩ := List.mem_map.1 hq
  obtain ⟨a, b⟩ := h.pt q hq'
  refine ⟨(same _ (.inr (.inl ⟨q, hq', rfl⟩)) fun e => (h.tyk ht a (by decide)) e.symm).trans a, ?_⟩
  show SlX _ _ q.s (ksV (q.ts.map (Tx.up t.k L)))
  rw [ksV_up]
  exact b.step S'
 ·rw [RelS.up_all] at hx
  obtain ⟨x, hx', rfl⟩ := List.mem_map.1 hx
  by_cases e : x = t
  ·subst e
   unfold Tx.up
   rw [if_pos rfl]
   exact hT
  ·obtain ⟨i1, i2⟩ := inj x hx' e
   unfold Tx.up
   rw [if_neg i1]
   exact (h.tr x hx').keep (same _ (.inr (.inr ⟨x, hx', rfl⟩)) i1) (hM _ i2)
 ·rw [RelS.up_all] at hx
  obtain ⟨x, hx', rfl⟩ := List.mem_map.1 hx
  rw [Tx.up_n]
  exact h.nms x hx'
 ·obtain ⟨i, hi, hn⟩ := h.nms t ht
  have hj : R.nb ≤ j := hj
  show M' (nmR R.name j) = none
  rw [hM _ fun e => ?_]
  ·exact h.free j hj
  ·have := h.free j hj
   rw [e] at this
   obtain ⟨x, hx⟩ := (h.tr t ht).there
   rw [hx] at this; cases this
end
structure RelS.Fit (R : RelS) : Prop where
 W : R.W ≤ 16
 name : R.name.size ≤ 90
 nb : R.nb ≤ 100
 rows : ∀ t ∈ R.all, t.L.length ≤ 400
def PartS.rows (q : PartS) : List (List Int) := match q.ts with | [] => [] | t :: _ => t.L
theorem RelS.part_all {R : RelS} {q : PartS} (hq : q ∈ R.parts) : ∀ t ∈ q.ts, t ∈ R.all := by
 intro t ht
 unfold RelS.parts at hq
 unfold RelS.all
 simp only [List.mem_cons, List.not_mem_nil, or_false] at hq
 simp only [List.mem_append]
 rcases hq with rfl | rfl | rfl
 ·exact .inl ht
 ·exact .inr (.inl ht)
 ·exact .inr (.inr (.inl ht))
theorem RelS.partX {R : RelS} {q : PartS} {F : Nat → Prop} (hq : q ∈ R.parts) : R.X F q.pb := .inr (.inr (.inl ⟨q, hq, rfl⟩))
section
variable {X : Nat → Prop} {H : Heap} {s : Sl} {ls : List (List Int)}
theorem OrdX.ld (h : OrdX X H s ls) {i : Nat} (hi : i < ls.length) {z : Int} (hz : z = (i : Int)) {K : Addr → Sl → Prop} (hK : ∀ ad r, s.a = some ad → Off X H r → Ints .i64 H r ls[i] → r.n ≤ r.c → K ad r) :
  optK s.a fun a => (0 ≤ z ∧ z < (s.n : Int)) ∧ Go.Proofs.YtlockeegebnofaaGreatDoor.ld cSl H (a.add (z.toNat * 1)) fun x => K a x := by
 obtain ⟨ad, r, q1, q2, q3, q4, q5⟩ := h.at' i hi
 have := h.len
 subst hz
 refine optK_mk ad q1 ⟨⟨by omega, by omega⟩, r, ?_, hK ad r q1 q3 q4 q5⟩
 rw [Int.toNat_natCast, Nat.mul_one]; exact q2
theorem SlX.ld {vs : List Value} {c : Cod} (h : SlX X H s vs) {i : Nat} {x : c.α} (hi : vs[i]? = some (c.enc x)) {z : Int} (hz : z = (i : Int)) {K : Addr → c.α → Prop} (hK : ∀ ad, s.a = some ad → K ad x) :
  optK s.a fun a => (0 ≤ z ∧ z < (s.n : Int)) ∧ Go.Proofs.YtlockeegebnofaaGreatDoor.ld c H (a.add (z.toNat * 1)) fun v => K a v := by
 obtain ⟨ad, ha, hc⟩ := h.reads i _ hi
 have := (List.getElem?_eq_some_iff.1 hi).1
 have := h.len
 subst hz
 refine optK_mk ad ha ⟨⟨by omega, by omega⟩, x, ?_, hK ad ha⟩
 rw [Int.toNat_natCast, Nat.mul_one]; exact hc
theorem ksV_at {ts : List Tx} {i : Nat} {t : Tx} (h : ts[i]? = some t) : (ksV ts)[i]? = some (cPtr.enc (at0 t.k)) := by
 unfold ksV
 rw [List.getElem?_map, h]; rfl
end
section
variable {H0 A B : Heap} {F F' : Nat → Prop} {p dp Q U most m : Nat} {s s' : Pl} {M M' : Files} {R : RelS} {q : PartS} {l : Sl} {ll : List Int}
theorem rready_ok {K : Int → Heap → Prop} (r : RowT A R.rb YaO (relV p R)) (hK : K 0 A) : ZcW.sp (at0 R.rb) A K := by
 refine ZcW.of ?_
 unfold ZcW.vc
 refine br_f rfl ?_
 simp only [optK_eq, add_add, Nat.reduceAdd]
 refine RowT.ld (c := cInt .i64) (i := 4) (x := 0) r rfl ?_
 refine br_f rfl ?_
 refine RowT.ld (c := cBool) (i := 5) (x := false) r rfl ?_
 exact br_f rfl hK
theorem met_zero {b : Option Addr} {K : Int → Heap → Prop} (hK : K 0 A) : Zdu.sp b 0 A K := by
 refine Zdu.of ?_
 unfold Zdu.vc
 exact br_f rfl hK
theorem part_ok {b : Nat} {K : Option Addr → Heap → Prop} (hK : ∀ B, B.size = A.size + 1 → RowT B A.size YaM (partV b (Sl.mk none 0 0)) → Ext A B → K (at0 A.size) B) : ZcL.sp (some ⟨b, 0, none⟩) A K := by
 refine ZcL.of ?_
 unfold ZcL.vc
 exact newC_rowT fun B z r e => hK B z r e
theorem turned_ok {i : Nat} {K : Sl → Heap → Prop} (h : RelB H0 A F p M R) (hl : Ints .u64 A l ll) (hi : i < R.ords.length) (hlen : R.ords[i].length ≤ 1000)
  (hK : ∀ s B, Owns B A.size YaP 1 s ((turnL ll R.ords[i]).map (Value.int .u64)) → Ext A B → K s B) : Zcb.sp (some ⟨R.rb, 0, none⟩) l (i : Int) A K := by
 refine Zcb.of ?_
 unfold Zcb.vc
 simp only [optK_eq]
 refine RowT.ld (c := cSl) (i := 3) (x := R.os) h.row rfl ?_
 refine h.ords.ld hi rfl fun ad r _ _ hr _ => ?_
 exact rowTurn_ok hl hr (by omega) fun s B o e => hK s B o e
theorem pcount_ok {K : Int → Heap → Prop} (h : RelB H0 A F p M R) (hq : q ∈ R.parts) (hK : K (q.rows.length : Int) A) : Zcu.sp (at0 q.pb) A K := by
 refine Zcu.of ?_
 unfold Zcu.vc
 obtain ⟨r, hs⟩ := h.pt q hq
 simp only [optK_eq]
 refine RowT.ld (c := cSl) (i := 1) (x := q.s) r rfl ?_
 have hl := hs.len
 unfold PartS.rows at hK
 unfold ksV at hl
 cases hts : q.ts with
 | nil =>
   rw [hts] at hl hK
   refine br_t (by rw [hl]; rfl) hK
 | cons t ts =>
   rw [hts] at hl hK hs
   refine br_f (by rw [hl]; simp; omega) ?_
   refine RowT.ld (c := cSl) (i := 1) (x := q.s) r rfl ?_
   refine SlX.ld (c := cPtr) (x := at0 t.k) (i := 0) hs rfl rfl fun ad _ => ?_
   exact (h.tr t (RelS.part_all hq t (by rw [hts]; exact List.mem_cons_self))).count hK
theorem RelS.Fit.nm (hF : R.Fit) (h : RelB H0 A F p M R) {t : Tx} (ht : t ∈ R.all) : t.n.size ≤ 9223372036854775807 := by
 obtain ⟨j, hj, e⟩ := h.nms t ht
 have h1 := hF.nb
 have h2 := hF.name
 have := (nmR_size (name := R.name) (j := j) (by omega)).1
 rw [e]; omega
theorem phas_ok {K : (Bool × Int) → Heap → Prop} (h : RelB H0 A F p M R) (hP : PoolM H0 A F p dp s M Q U most m) (hg : Gl H0) (hF : R.Fit) (hQ : Q ≤ 1048576) (hm : m + 1000000 ≤ 30000000000) (hq : q ∈ R.parts) (hl : Ints .u64 A l ll) (hlo : OffI F A l ll) (hll : ll.length = R.W)
  (hK : ∀ F' s' B, PoolM H0 B F' p dp s' M Q U most (m + 1000000) → RelB H0 B F' p M R → Step F F' A B → K (decide (ll ∈ q.rows), 0) B) : Zdm.sp (at0 q.pb) l A K := by
 refine Zdm.of ?_
 unfold Zdm.vc
 obtain ⟨r, hs⟩ := h.pt q hq
 simp only [optK_eq]
 refine RowT.ld (c := cSl) (i := 1) (x := q.s) r rfl ?_
 have hsl := hs.len
 unfold PartS.rows at hK
 unfold ksV at hsl
 cases hts : q.ts with
 | nil =>
   rw [hts] at hsl hK
   exact br_t (by rw [hsl]; rfl) (hK F s A (hP.later (by omega)) h (Step.refl _ _))
 | cons t ts =>
   rw [hts] at hsl hK hs
   refine br_f (by rw [hsl]; simp; omega) ?_
   refine RowT.ld (c := cSl) (i := 1) (x := q.s) r rfl ?_
   refine SlX.ld (c := cPtr) (x := at0 t.k) (i := 0) hs rfl rfl fun ad _ => ?_
   have hta : t ∈ R.all := RelS.part_all hq t (by rw [hts]; exact List.mem_cons_self)
   refine (h.tr t hta).has hP hg (h.off _ (.inr (.inr ⟨t, hta, rfl⟩))) (hF.nm h hta) hF.W (hF.rows t hta) hQ hm hl hlo hll fun F' s' B p1 t1 S1 S2 k1 => ?_
   exact hK F' s' B p1 (h.pool S2) S2
theorem among_ok {qs : List PartS} {ps : Sl} {K : (Bool × Int) → Heap → Prop} (h : RelB H0 A F p M R) (hP : PoolM H0 A F p dp s M Q U most m) (hg : Gl H0) (hF : R.Fit) (hQ : Q ≤ 1048576) (hm : m + 1000000 * qs.length ≤ 30000000000) (hq : ∀ q ∈ qs, q ∈ R.parts) (hps : SlX F A ps (qs.map fun q => ptrV q.pb)) (hl : Ints .u64 A l ll) (hlo : Off F A l) (hll : ll.length = R.W)
  (hK : ∀ b F' s' B, (b = true ↔ ∃ q ∈ qs, ll ∈ q.rows) → PoolM H0 B F' p dp s' M Q U most (m + 1000000 * qs.length) → RelB H0 B F' p M R → Step F F' A B → K (b, 0) B) : Zde.sp (at0 R.rb) l ps A K := by
 refine Zde.of ?_
 unfold Zde.vc
 have hpn : ps.n = qs.length := by have := hps.len; simpa using this
 refine loop_upto qs.length (fun i z B => z = (i : Int) ∧ (∀ q ∈ qs.take i, ll ∉ q.rows) ∧ ∃ F' s', PoolM H0 B F' p dp s' M Q U most (m + 1000000 * i) ∧ RelB H0 B F' p M R ∧ Step F F' A B) ⟨rfl, by simp, F, s, by simpa using hP, h, Step.refl _ _⟩ ?_
 rintro i _ B next hi ⟨rfl, hno, F1, s1, p1, r1, S1⟩ hnext
 refine br_mk (fun hc => ?_) (fun hc => ?_)
 ·have hlt : i < qs.length := by have : (i : Int) < (ps.n : Int) := by simpa using hc
                                 omega
  refine SlX.ld (c := cPtr) (x := at0 qs[i].pb) (i := i) (hps.step S1) (by rw [List.getElem?_map, List.getElem?_eq_getElem hlt]; rfl) rfl fun ad _ => ?_
  refine phas_ok r1 p1 hg hF hQ (by omega) (hq _ (List.getElem_mem hlt)) (hlo.ints hl S1) ((hlo.step S1).toI _) hll fun F2 s2 C p2 r2 S2 => ?_
  have e : m + 1000000 * i + 1000000 = m + 1000000 * (i + 1) := by omega
  rw [e] at p2
  refine br_mk (fun hb => ?_) (fun hb => ?_)
  ·have hb : ll ∈ qs[i].rows := by simpa using hb
   show K (decide (ll ∈ qs[i].rows), 0) C
   rw [decide_eq_true hb]
   exact hK true F2 s2 C ⟨fun _ => ⟨_, List.getElem_mem hlt, hb⟩, fun _ => rfl⟩ (p2.later (by omega)) r2 (S1.trans S2)
  ·have hb : ll ∉ qs[i].rows := by simpa using hb
   refine hnext hlt _ _ ⟨succ64 i (by omega), fun q hq' => ?_, F2, s2, p2, r2, S1.trans S2⟩
   rw [List.take_add_one, List.getElem?_eq_getElem hlt] at hq'
   rcases List.mem_append.1 hq' with u | u
   ·exact hno q u
   ·obtain rfl : q = qs[i] := by simpa using u
    exact hb
 ·have hge : i = qs.length := by have : ¬ (i : Int) < (ps.n : Int) := by simpa using hc
                                 omega
  subst hge
  rw [List.take_length] at hno
  exact hK false F1 s1 B ⟨fun u => (by cases u), fun ⟨q, a, b⟩ => absurd b (hno q a)⟩ p1 r1 S1
def RelS.asked (R : RelS) (n : Int) : List PartS := if n = 1 then [R.f, R.d] else if n = 2 then [R.d] else if n = 3 then [R.f] else []
theorem RelS.asked_parts (R : RelS) (n : Int) : ∀ q ∈ R.asked n, q ∈ R.parts := by
 unfold RelS.asked RelS.parts
 intro q hq
 split at hq
 ·simp at hq ⊢; rcases hq with rfl | rfl <;> simp
 ·split at hq
  ·simp at hq ⊢; simp [hq]
  ·split at hq
   ·simp at hq ⊢; simp [hq]
   ·cases hq
theorem newPs {X : Nat → Prop} {qs : List PartS} {t : TypeId} {K : Addr → Heap → Prop} (hX : ∀ b, X b → b < A.size)
  (hK : ∀ B, SlX X B ⟨some ⟨A.size, 0, none⟩, qs.length, qs.length⟩ (qs.map fun q => ptrV q.pb) → Ext A B → K ⟨A.size, 0, none⟩ B) : newC A (qs.map fun q => ptrV q.pb).toArray t K := by
 refine newC_rowT fun B z r e => hK B ⟨by simp, fun ad ha => ?_, fun i v hv => ⟨_, rfl, ?_⟩⟩ e
 ·have : ad = ⟨A.size, 0, none⟩ := (Option.some.inj ha).symm
  subst this
  exact ⟨by show A.size < B.size; omega, fun u => by have := hX _ u; simp at this⟩
 ·rw [add_lit0]
  exact r.cell (by simpa using hv)
theorem asked_ok {X : Nat → Prop} {n : Int} {K : Sl → Heap → Prop} (h : RelB H0 A F p M R) (hX : ∀ b, X b → b < A.size)
  (hK : ∀ ps B, SlX X B ps ((R.asked n).map fun q => ptrV q.pb) → (ps.a.isNone = true ↔ R.asked n = []) → Ext A B → K ps B) : ZcS.sp (at0 R.rb) n A K := by
 refine ZcS.of ?_
 unfold ZcS.vc
 unfold RelS.asked at hK
 simp only [optK_eq]
 refine br_mk (fun h1 => ?_) (fun h1 => ?_)
 ·have h1 : n = 1 := by simpa using h1
  rw [if_pos h1] at hK
  refine RowT.ld (c := cPtr) (i := 6) (x := at0 R.f.pb) h.row rfl ?_
  refine RowT.ld (c := cPtr) (i := 7) (x := at0 R.d.pb) h.row rfl ?_
  exact newPs (qs := [R.f, R.d]) hX fun B sB eB => hK _ B sB ⟨fun u => (by cases u), fun u => (by cases u)⟩ eB
 ·have h1 : n ≠ 1 := by simpa using h1
  rw [if_neg h1] at hK
  refine br_mk (fun h2 => ?_) (fun h2 => ?_)
  ·have h2 : n = 2 := by simpa using h2
   rw [if_pos h2] at hK
   refine RowT.ld (c := cPtr) (i := 7) (x := at0 R.d.pb) h.row rfl ?_
   exact newPs (qs := [R.d]) hX fun B sB eB => hK _ B sB ⟨fun u => (by cases u), fun u => (by cases u)⟩ eB
  ·have h2 : n ≠ 2 := by simpa using h2
   rw [if_neg h2] at hK
   refine br_mk (fun h3 => ?_) (fun h3 => ?_)
   ·have h3 : n = 3 := by simpa using h3
    rw [if_pos h3] at hK
    refine RowT.ld (c := cPtr) (i := 6) (x := at0 R.f.pb) h.row rfl ?_
    exact newPs (qs := [R.f]) hX fun B sB eB => hK _ B sB ⟨fun u => (by cases u), fun u => (by cases u)⟩ eB
   ·have h3 : n ≠ 3 := by simpa using h3
    rw [if_neg h3] at hK
    exact hK _ A (SlX.nil _ _) ⟨fun _ => rfl, fun _ => rfl⟩ (.refl _ _)
end
def isPtr0 (v : Value) : Bool := match v with | .pointer none => true | _ => false
theorem isPtr0_eq (v : Value) (h : isPtr0 v = true) : v = .pointer none := by
 unfold isPtr0 at h
 split at h
 ·rfl
 ·cases h
theorem elTreeP : El Tryz.prog Yai Yao 8 (.pointer none) := El_of (zb := isPtr0) isPtr0_eq rfl (by kernel_rfl)
def DomM (M : Files) (c : Nat) : Prop := ∃ ns : List ByteArray, (∀ a y, M a = some y → a ∈ ns) ∧ ns.length ≤ c
theorem DomM.more {M : Files} {c : Nat} {n : ByteArray} {x : Option St} (h : DomM M c) : DomM (setF M n x) (c + 1) := by
 obtain ⟨ns, h1, h2⟩ := h
 refine ⟨n :: ns, fun a y hy => ?_, by simp; omega⟩
 by_cases e : a = n
 ·subst e; exact List.mem_cons_self
 ·rw [setF_other e] at hy; exact List.mem_cons_of_mem _ (h1 a y hy)
theorem DomM.same {M M' : Files} {c : Nat} {n : ByteArray} {x : St} (h : DomM M c) (hn : M n = some x) (hM : ∀ a, a ≠ n → M' a = M a) : DomM M' c := by
 obtain ⟨ns, h1, h2⟩ := h
 refine ⟨ns, fun a y hy => ?_, h2⟩
 by_cases e : a = n
 ·subst e; exact h1 a x hn
 ·rw [hM a e] at hy; exact h1 a y hy
theorem DomM.mono {M : Files} {c d : Nat} (h : DomM M c) (hc : c ≤ d) : DomM M d := by obtain ⟨ns, h1, h2⟩ := h; exact ⟨ns, h1, by omega⟩
def RelS.get (R : RelS) : Nat → PartS
 | 0 => R.f
 | 1 => R.d
 | _ => R.e
def RelS.put (R : RelS) (j : Nat) (q : PartS) : RelS := match j with
 | 0 => { R with f := q }
 | 1 => { R with d := q }
 | _ => { R with e := q }
def RelS.nums (R : RelS) (nx nb : Nat) : RelS := ⟨R.rb, R.name, R.W, R.os, R.ords, R.f, R.d, R.e, R.ex, nx, nb, R.turns⟩
theorem RelS.same0 (R : RelS) (hex : R.ex = []) (hnb : R.nb = R.next) : ({ R with ex := [], next := R.next + 0, nb := R.next + 0 } : RelS) = R := by
 cases R
 simp only at hex hnb
 subst hex
 subst hnb
 rfl
theorem RelS.get_mem (R : RelS) (j : Nat) : R.get j ∈ R.parts := by
 unfold RelS.parts
 rcases j with _ | _ | j <;> simp [RelS.get]
theorem RelS.get_put (R : RelS) (j : Nat) (q : PartS) : (R.put j q).get j = q := by rcases j with _ | _ | j <;> rfl
theorem RelS.put_put (R : RelS) (j : Nat) (q q' : PartS) : (R.put j q).put j q' = R.put j q' := by rcases j with _ | _ | j <;> rfl
theorem RelS.put_get (R : RelS) (j : Nat) : R.put j (R.get j) = R := by rcases j with _ | _ | j <;> rfl
theorem RelS.put_same (R : RelS) (j : Nat) (q : PartS) : (R.put j q).rb = R.rb ∧ (R.put j q).name = R.name ∧ (R.put j q).W = R.W ∧ (R.put j q).os = R.os ∧ (R.put j q).ords = R.ords ∧ (R.put j q).next = R.next ∧ (R.put j q).nb = R.nb ∧ (R.put j q).turns = R.turns ∧ (R.put j q).ex = R.ex := by
 rcases j with _ | _ | j <;> exact ⟨rfl, rfl, rfl, rfl, rfl, rfl, rfl, rfl, rfl⟩
theorem up_not {k : Nat} {L : List (List Int)} {l : List Tx} (h : k ∉ l.map (·.k)) : l.map (Tx.up k L) = l := by
 have : l.map (Tx.up k L) = l.map id := List.map_congr_left fun t ht => by
  unfold Tx.up
  rw [if_neg fun e => h (List.mem_map.2 ⟨t, ht, e⟩)]; rfl
 rw [this, List.map_id]
theorem PartS.up_not {k : Nat} {L : List (List Int)} {q : PartS} (h : k ∉ q.ts.map (·.k)) : q.up k L = q := by
 unfold PartS.up
 rw [Go.Proofs.YtlockeegebnofaaGreatDoor.up_not h]
theorem RelS.up_put {R : RelS} {j : Nat} {t : Tx} {L : List (List Int)} (hks : (R.all.map (·.k)).Nodup) (ht : t ∈ (R.get j).ts) : R.up t.k L = R.put j ((R.get j).up t.k L) := by
 have hk : ∀ {l : List Tx}, t ∈ l → t.k ∈ l.map (·.k) := fun h => List.mem_map_of_mem h
 unfold RelS.all at hks
 simp only [List.map_append, List.nodup_append, List.mem_append] at hks
 obtain ⟨_, ⟨_, ⟨_, _, h3⟩, h2⟩, h1⟩ := hks
 unfold RelS.up
 rcases j with _ | _ | j
 ·have ht : t ∈ R.f.ts := ht
  show _ = { R with f := R.f.up t.k L }
  rw [PartS.up_not (q := R.d) fun u => h1 _ (hk ht) _ (.inl u) rfl, PartS.up_not (q := R.e) fun u => h1 _ (hk ht) _ (.inr (.inl u)) rfl, up_not (l := R.ex) fun u => h1 _ (hk ht) _ (.inr (.inr u)) rfl]
 ·have ht : t ∈ R.d.ts := ht
  show _ = { R with d := R.d.up t.k L }
  rw [PartS.up_not (q := R.f) fun u => h1 _ u _ (.inl (hk ht)) rfl, PartS.up_not (q := R.e) fun u => h2 _ (hk ht) _ (.inl u) rfl, up_not (l := R.ex) fun u => h2 _ (hk ht) _ (.inr u) rfl]
 ·have ht : t ∈ R.e.ts := ht
  show _ = { R with e := R.e.up t.k L }
  rw [PartS.up_not (q := R.f) fun u => h1 _ u _ (.inr (.inl (hk ht))) rfl, PartS.up_not (q := R.d) fun u => h2 _ u _ (.inl (hk ht)) rfl, up_not (l := R.ex) fun u => h3 _ (hk ht) _ u rfl]
section
variable {H0 A B : Heap} {F F' : Nat → Prop} {p dp Q U most m : Nat} {s s' : Pl} {M M' : Files} {R : RelS} {l : Sl} {ll : List Int}
theorem RelB.newTree {k : Nat} {x : St} (h : RelB H0 A F p M R) (hz : H0.size ≤ A.size) (S : Step F F' A B) (hk : ¬ F' k) (hka : A.size ≤ k) (hnb : R.nb < 100) (hT : TreeM B p (setF M (nmR R.name R.nb) (some x)) k (nmR R.name R.nb) R.W []) : RelB H0 B F' p (setF M (nmR R.name R.nb) (some x)) { R with ex := R.ex ++ [⟨k, nmR R.name R.nb, []⟩], nb := R.nb + 1 } := by
 have hall : ({ R with ex := R.ex ++ [⟨k, nmR R.name R.nb, []⟩], nb := R.nb + 1 } : RelS).all = R.all ++ [⟨k, nmR R.name R.nb, []⟩] := by
  unfold RelS.all
  simp only [List.append_assoc]
 have hO : ∀ b, ({ R with ex := R.ex ++ [⟨k, nmR R.name R.nb, []⟩], nb := R.nb + 1 } : RelS).O b ↔ R.O b ∨ b = k := by
  intro b
  unfold RelS.O
  rw [hall]
  constructor
  ·rintro (u | u | ⟨t, ht, e⟩)
   ·exact .inl (.inl u)
   ·exact .inl (.inr (.inl u))
   ·rcases List.mem_append.1 ht with v | v
    ·exact .inl (.inr (.inr ⟨t, v, e⟩))
    ·have : t = ⟨k, nmR R.name R.nb, []⟩ := by simpa using v
     subst this; exact .inr e
  ·rintro ((u | u | ⟨t, ht, e⟩) | u)
   ·exact .inl u
   ·exact .inr (.inl u)
   ·exact .inr (.inr ⟨t, List.mem_append.2 (.inl ht), e⟩)
   ·exact .inr (.inr ⟨_, List.mem_append.2 (.inr (List.mem_singleton.2 rfl)), u⟩)
 have S' : Step (R.X F) (RelS.X { R with ex := R.ex ++ [⟨k, nmR R.name R.nb, []⟩], nb := R.nb + 1 } F') A B := by
  refine ⟨S.mod.mono fun b _ u => .inl u, fun b u => ?_⟩
  rcases u with u | u
  ·exact (S.own b u).imp .inl id
  ·rcases (hO b).1 u with v | v
   ·exact .inl (.inr v)
   ·exact .inr (by omega)
 have same : ∀ b, R.O b → B[b]? = A[b]? := fun b hb => S.mod.same b (h.lt b hb) (h.off b hb).1
 have hnot : ∀ t ∈ R.all, t.n ≠ nmR R.name R.nb := fun t ht e => by
  obtain ⟨x, hx⟩ := (h.tr t ht).there
  rw [e, h.free _ (Nat.le_refl _)] at hx; cases hx
 refine ⟨(same _ (.inl rfl)).trans h.row, fun q hq => ⟨(same _ (.inr (.inl ⟨q, hq, rfl⟩))).trans (h.pt q hq).1, (h.pt q hq).2.step S'⟩, h.ords.step S', fun t ht => ?_, fun b hb => ?_, h.pbs, ?_, ?_, fun t ht => ?_, fun j hj => ?_⟩
 ·rw [hall] at ht
  rcases List.mem_append.1 ht with v | v
  ·exact (h.tr t v).keep (same _ (.inr (.inr ⟨t, v, rfl⟩))) (setF_other (hnot t v))
  ·have : t = ⟨k, nmR R.name R.nb, []⟩ := by simpa using v
   subst this; exact hT
 ·rcases (hO b).1 hb with v | v
  ·exact ⟨fun u => (S.own b u).elim (h.off b v).1 fun w => by have := h.lt b v; omega, (h.off b v).2⟩
  ·subst v; exact ⟨hk, by omega⟩
 ·rw [hall, List.map_append, List.nodup_append]
  refine ⟨h.ks, by simp, fun a ha b hb e => ?_⟩
  obtain ⟨t, ht, rfl⟩ := List.mem_map.1 ha
  have := h.lt _ (.inr (.inr ⟨t, ht, rfl⟩))
  simp at hb
  omega
 ·rw [hall, List.map_append, List.nodup_append]
  refine ⟨h.ns, by simp, fun a ha b hb e => ?_⟩
  obtain ⟨t, ht, rfl⟩ := List.mem_map.1 ha
  simp at hb
  exact hnot t ht (e.trans hb)
 ·rw [hall] at ht
  rcases List.mem_append.1 ht with v | v
  ·obtain ⟨j, a, b⟩ := h.nms t v
   exact ⟨j, by show j < R.nb + 1; omega, b⟩
  ·have : t = ⟨k, nmR R.name R.nb, []⟩ := by simpa using v
   subst this; exact ⟨R.nb, Nat.lt_succ_self _, rfl⟩
 ·have hj : R.nb + 1 ≤ j := hj
  show setF M (nmR R.name R.nb) (some x) (nmR R.name j) = none
  rw [setF_other (nmR_ne hnb (by omega))]
  exact h.free j (by omega)
theorem RelB.cell {nx tu : Nat} (h : RelB H0 A F p M R) (r : RowT B R.rb YaO (relV p { R with next := nx, turns := tu })) (mm : Mod (fun b => b = R.rb) A B) : RelB H0 B F p M { R with next := nx, turns := tu } := by
 have S' : Step (R.X F) (R.X F) A B := ⟨mm.mono fun b _ u => .inr (.inl u), fun _ u => .inl u⟩
 have same : ∀ b, R.O b → b ≠ R.rb → B[b]? = A[b]? := fun b hb e => mm.same b (h.lt b hb) e
 exact ⟨r, fun q hq => ⟨(same _ (.inr (.inl ⟨q, hq, rfl⟩)) (h.typ hq)).trans (h.pt q hq).1, (h.pt q hq).2.step S'⟩, h.ords.step S', fun t ht => (h.tr t ht).keep (same _ (.inr (.inr ⟨t, ht, rfl⟩)) (h.tyk ht h.row (by decide))) rfl, h.off, h.pbs, h.ks, h.ns, h.nms, h.free⟩
theorem RelB.setPart {j : Nat} {sl : Sl} (h : RelB H0 A F p M R) (hts : (R.get j).ts = []) (hs : SlX (R.X F) B sl (ksV R.ex)) (r : RowT B (R.get j).pb YaM (partV R.rb sl)) (mm : Mod (fun b => b = (R.get j).pb) A B) : RelB H0 B F p M { R.put j ⟨(R.get j).pb, sl, R.ex⟩ with ex := [] } := by
 have hperm : ({ R.put j ⟨(R.get j).pb, sl, R.ex⟩ with ex := [] } : RelS).all.Perm R.all := by
  unfold RelS.all
  rcases j with _ | _ | j
  ·have hts : R.f.ts = [] := hts
   show (R.ex ++ (R.d.ts ++ (R.e.ts ++ []))).Perm _
   rw [hts, List.append_nil, List.nil_append, ← List.append_assoc R.d.ts]
   exact List.perm_append_comm
  ·have hts : R.d.ts = [] := hts
   show (R.f.ts ++ (R.ex ++ (R.e.ts ++ []))).Perm _
   rw [hts, List.append_nil, List.nil_append]
   exact List.Perm.append_left _ List.perm_append_comm
  ·have hts : R.e.ts = [] := hts
   show (R.f.ts ++ (R.d.ts ++ (R.ex ++ []))).Perm _
   rw [hts, List.append_nil, List.nil_append]
 have hpb : ({ R.put j ⟨(R.get j).pb, sl, R.ex⟩ with ex := [] } : RelS).parts.map (·.pb) = R.parts.map (·.pb) := by rcases j with _ | _ | j <;> rfl
 have hrb : ({ R.put j ⟨(R.get j).pb, sl, R.ex⟩ with ex := [] } : RelS).rb = R.rb := by rcases j with _ | _ | j <;> rfl
 have hO : ∀ b, ({ R.put j ⟨(R.get j).pb, sl, R.ex⟩ with ex := [] } : RelS).O b ↔ R.O b := by
  intro b
  unfold RelS.O
  have e1 : (∃ q ∈ ({ R.put j ⟨(R.get j).pb, sl, R.ex⟩ with ex := [] } : RelS).parts, b = q.pb) ↔ ∃ q ∈ R.parts, b = q.pb := by
   have a1 : ∀ l : List PartS, (∃ q ∈ l, b = q.pb) ↔ b ∈ l.map (·.pb) := fun l => by
    rw [List.mem_map]
    exact ⟨fun ⟨q, a, c⟩ => ⟨q, a, c.symm⟩, fun ⟨q, a, c⟩ => ⟨q, a, c.symm⟩⟩
   rw [a1, a1, hpb]
  have e2 : (∃ t ∈ ({ R.put j ⟨(R.get j).pb, sl, R.ex⟩ with ex := [] } : RelS).all, b = t.k) ↔ ∃ t ∈ R.all, b = t.k := ⟨fun ⟨t, a, c⟩ => ⟨t, hperm.mem_iff.1 a, c⟩, fun ⟨t, a, c⟩ => ⟨t, hperm.mem_iff.2 a, c⟩⟩
  rw [e1, e2, hrb]
 have hXX : ∀ b, RelS.X { R.put j ⟨(R.get j).pb, sl, R.ex⟩ with ex := [] } F b ↔ R.X F b := fun b => by
  unfold RelS.X
  rw [hO b]
 have hXe : RelS.X { R.put j ⟨(R.get j).pb, sl, R.ex⟩ with ex := [] } F = R.X F := funext fun b => propext (hXX b)
 have S' : Step (R.X F) (RelS.X { R.put j ⟨(R.get j).pb, sl, R.ex⟩ with ex := [] } F) A B := ⟨mm.mono fun b _ u => by rw [u]; exact RelS.partX (R.get_mem j), fun b u => .inl ((hXX b).1 u)⟩
 have same : ∀ b, R.O b → b ≠ (R.get j).pb → B[b]? = A[b]? := fun b hb e => mm.same b (h.lt b hb) e
 have hrow : RowT B R.rb YaO (relV p R) := (same _ (.inl rfl) (fun e => h.typ (R.get_mem j) e.symm)).trans h.row
 have hother : ∀ q ∈ R.parts, q.pb ≠ (R.get j).pb → RowT B q.pb YaM (partV R.rb q.s) ∧ SlX (RelS.X { R.put j ⟨(R.get j).pb, sl, R.ex⟩ with ex := [] } F) B q.s (ksV q.ts) := fun q hq hne => ⟨(same _ (.inr (.inl ⟨q, hq, rfl⟩)) hne).trans (h.pt q hq).1, (h.pt q hq).2.step S'⟩
 have hnd : [R.f.pb, R.d.pb, R.e.pb].Nodup := h.pbs
 simp only [List.nodup_cons, List.mem_cons, List.not_mem_nil, or_false, not_or] at hnd
 rw [← hXe] at hs
 refine ⟨?_, ?_, ?_, ?_, fun b hb => h.off b ((hO b).1 hb), by rw [hpb]; exact h.pbs, (hperm.map _).nodup_iff.2 h.ks, (hperm.map _).nodup_iff.2 h.ns, ?_, ?_⟩
 ·rcases j with _ | _ | j <;> exact hrow
 ·have mf : R.f ∈ R.parts := by simp [RelS.parts]
  have md : R.d ∈ R.parts := by simp [RelS.parts]
  have me : R.e ∈ R.parts := by simp [RelS.parts]
  intro q hq
  unfold RelS.parts at hq
  simp only [List.mem_cons, List.not_mem_nil, or_false] at hq
  rcases j with _ | _ | j
  ·rcases hq with rfl | rfl | rfl
   ·exact ⟨r, hs⟩
   ·exact hother _ md fun e => hnd.1.1 e.symm
   ·exact hother _ me fun e => hnd.1.2 e.symm
  ·rcases hq with rfl | rfl | rfl
   ·exact hother _ mf hnd.1.1
   ·exact ⟨r, hs⟩
   ·exact hother _ me fun e => hnd.2.1 e.symm
  ·rcases hq with rfl | rfl | rfl
   ·exact hother _ mf hnd.1.2
   ·exact hother _ md hnd.2.1
   ·exact ⟨r, hs⟩
 ·have := h.ords.step S'
  rcases j with _ | _ | j <;> exact this
 ·intro t ht
  have h1 := h.tr t (hperm.mem_iff.1 ht)
  have h2 := h1.keep (B := B) (M' := M) (same _ (.inr (.inr ⟨t, hperm.mem_iff.1 ht, rfl⟩)) (h.tyk (hperm.mem_iff.1 ht) (h.pt _ (R.get_mem j)).1 (by decide))) rfl
  rcases j with _ | _ | j <;> exact h2
 ·intro t ht
  have := h.nms t (hperm.mem_iff.1 ht)
  rcases j with _ | _ | j <;> exact this
 ·have := h.free
  rcases j with _ | _ | j <;> exact this
end
end Go.Proofs.YtlockeegebnofaaGreatDoor
