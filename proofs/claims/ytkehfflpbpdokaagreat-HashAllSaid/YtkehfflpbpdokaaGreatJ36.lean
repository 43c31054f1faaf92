/-
 Slices of rows that begin anywhere in their block: what is popped, what is put behind.
-/
import Derived.ArgAppend
import Derived.Test.YtkehfflpbpdokaaGreatJ34
import Derived.Test.YtkehfflpbpdokaaGreatJ35
namespace Go.Proofs.YtkehfflpbpdokaaGreat
open Go.MapKept
def OwnT (H : Heap) (e : TypeId) (s : Sl) (xs : List Value) : Prop :=
 xs.length = s.n ∧ (s = Sl.mk none 0 0 ∨ ∃ g o cur, s.a = some ⟨g, o, none⟩ ∧ H[g]? = some (.cells cur e (0, 0)) ∧ s.n ≤ s.c ∧ s.c ≤ maxLen ∧ o + s.c ≤ cur.size ∧ (cur.toList.drop o).take s.n = xs)
section
variable {H A B : Heap} {e : TypeId} {s : Sl} {xs : List Value} {X X' : Nat → Prop}
theorem OwnT.nil (H : Heap) (e : TypeId) : OwnT H e (Sl.mk none 0 0) [] := ⟨rfl, .inl rfl⟩
theorem OwnT.obj (h : OwnT H e s xs) : ∀ b, ownB s b → ∃ cur, H[b]? = some (.cells cur e (0, 0)) := by
 rintro b ⟨ad, ha, rfl⟩
 rcases h.2 with rfl | ⟨g, o, cur, e1, hg, _⟩
 ·cases ha
 ·rw [e1] at ha; cases ha; exact ⟨cur, hg⟩
theorem OwnT.lt [Tab] (h : OwnT H e s xs) : ∀ b, ownB s b → b < H.size := fun b hb => by
 obtain ⟨c, hc⟩ := h.obj b hb
 exact obj_lt hc
theorem OwnT.mod [Tab] (h : OwnT H e s xs) (m : Mod X H B) (hn : ∀ b, ownB s b → ¬ X b) : OwnT B e s xs := by
 refine ⟨h.1, h.2.imp id ?_⟩
 rintro ⟨g, o, cur, e1, hg, h3⟩
 have hb : ownB s g := ⟨_, e1, rfl⟩
 exact ⟨g, o, cur, e1, (m.same g (h.lt g hb) (hn g hb)).trans hg, h3⟩
theorem OwnT.reads (h : OwnT H e s xs) : Reads H s.a xs := by
 intro i v hv
 have hi := (List.getElem?_eq_some_iff.1 hv).1
 rcases h.2 with rfl | ⟨g, o, cur, e1, hg, h4, h5, h6, h7⟩
 ·rw [h.1] at hi; exact absurd hi (Nat.not_lt_zero _)
 ·refine ⟨_, e1, ?_⟩
  rw [add_lit]
  refine hCell_of hg ?_
  rw [← h7, List.getElem?_take] at hv
  split at hv
  ·rw [List.getElem?_drop] at hv; simpa using hv
  ·cases hv
def OwnE (A : Heap) (s : Sl) : Prop := ∃ xs, OwnT A YaB s xs
theorem OwnE.obj {s : Sl} (h : OwnE A s) : ∀ b, ownB s b → ∃ cur, A[b]? = some (.cells cur YaB (0, 0)) := by
 obtain ⟨xs, h⟩ := h
 exact h.obj
theorem OwnE.lt [Tab] {s : Sl} (h : OwnE A s) : ∀ b, ownB s b → b < A.size := by
 obtain ⟨xs, h⟩ := h
 exact h.lt
theorem OwnE.mod [Tab] {s : Sl} (h : OwnE A s) (m : Mod X A B) (hn : ∀ b, ownB s b → ¬ X b) : OwnE B s := by
 obtain ⟨xs, h⟩ := h
 exact ⟨xs, h.mod m hn⟩
theorem Owns.toT {base : Nat} (h : Owns H base e 1 s xs) : OwnT H e s xs := by
 refine ⟨by have := h.1; omega, ?_⟩
 rcases h.2 with ⟨e1, e2⟩ | ⟨g, cap, cur, e1, hb, hg, h4, h5, h6, h7⟩
 ·left
  cases s
  simp only [Sl.v, Value.slice.injEq] at e1
  obtain ⟨rfl, rfl, rfl⟩ := e1
  rfl
 ·right
  cases s
  simp only [Sl.v, Value.slice.injEq] at e1 h4 h7 ⊢
  obtain ⟨rfl, _, rfl⟩ := e1
  exact ⟨g, 0, cur, rfl, hg, h4, h5, by omega, by rw [List.drop_zero]; simpa using h7⟩
theorem OwnT.pop [Tab] (h : OwnT H e s xs) (hn : 0 < s.n) : OwnT H e ⟨slA s.a s.c 1 1, s.n - 1, s.c - 1⟩ (xs.drop 1) := by
 refine ⟨by rw [List.length_drop]; show xs.length - 1 = s.n - 1; rw [h.1], ?_⟩
 rcases h.2 with rfl | ⟨g, o, cur, e1, hg, h4, h5, h6, h7⟩
 ·exact absurd hn (Nat.not_lt_zero _)
 ·right
  rw [e1]
  by_cases hc : s.c = 1
  ·refine ⟨g, o, cur, ?_, hg, by show s.n - 1 ≤ s.c - 1; omega, by show s.c - 1 ≤ maxLen; omega, by show o + (s.c - 1) ≤ _; omega, ?_⟩
   ·show slA (some ⟨g, o, none⟩) s.c 1 1 = _
    unfold slA; rw [if_pos (by simp [hc])]
   ·show (cur.toList.drop o).take (s.n - 1) = _
    have this : s.n = 1 := by omega
    have hl : xs.length = 1 := by rw [h.1, this]
    rw [this, Nat.sub_self, List.take_zero, List.drop_of_length_le (Nat.le_of_eq hl)]
  ·refine ⟨g, o + 1, cur, slA_some hc, hg, by show s.n - 1 ≤ s.c - 1; omega, by show s.c - 1 ≤ maxLen; omega, by show o + 1 + (s.c - 1) ≤ _; omega, ?_⟩
   show (cur.toList.drop (o + 1)).take (s.n - 1) = _
   rw [← h7, ← List.drop_drop, List.drop_take]
theorem OwnT.push [Tab] {P : Program} {t ty : TypeId} {bytes : Nat} {z v : Value} {K : Sl → Heap → Prop} (el : El P t e bytes z) (h : OwnT H e s xs) (h1 : v.oneCell' = true) (hn : s.n + 1 ≤ 1099511627776) (hb : (s.n + 1) * bytes ≤ 140737488355328)
  (hK : ∀ s' H', s'.n = s.n + 1 → OwnT H' e s' (xs ++ [v]) → Mod (ownB s) H H' → (∀ b, ownB s' b → ownB s b ∨ H.size ≤ b) → K s' H') :
  newC H #[v] e fun p H1 => doT cSl P (Builtin.append_ #[t, t] ty #[s.v, .slice (some p) 1 1]) H1 K := by
 rcases id h.2 with rfl | ⟨g, o, cur, e1, hg, h4, h5, h6, h7⟩
 ·have hx : xs = [] := List.length_eq_zero_iff.1 h.1
  subst hx
  exact el.push (base := 0) (Owns.nil _ _ _ _) h1 hn hb (Nat.zero_le _) fun s' H' n' o' m' b' _ => hK s' H' n' o'.toT m' b'
 ·obtain ⟨inf, ht, hi, hz, hzc, hs1, hbt⟩ := el
  obtain ⟨sa, sn, sc⟩ := s
  simp only at e1 h4 h5 h6 h7 hn hb hK
  subst e1
  have hxl : xs.length = sn := h.1
  have hgl := obj_lt hg
  have pm : Mod (fun _ => False) H (H.push (.cells #[v] e)) := Mod.push _ _ _
  intro w hw
  have hw' : w.heap = H.push (.cells #[v] e) := hw
  have hgw : w.heap[g]? = some (.cells cur e (0, 0)) := by rw [hw']; exact (pm.same g hgl id).trans hg
  have hv : w.heap[H.size]? = some (.cells #[v] e (0, 0)) := by rw [hw']; simp
  have hnews : ∀ j u, [v][j]? = some u → w.cell? ((⟨H.size, 0, none⟩ : Addr).add j) = some u := fun j u hu => by
   have hj : j = 0 := by have := (List.getElem?_eq_some_iff.1 hu).1; simp at this; omega
   subst hj
   simp at hu; subst hu
   simp [World.cell?, Addr.add, hv]
  have hsz : w.heap.size = H.size + 1 := by rw [hw']; simp
  have hown : ∀ k, ownB (Sl.mk (some ⟨g, o, none⟩) sn sc) k ↔ k = g := fun k => ⟨fun ⟨ad, h1, h2⟩ => by cases h1; exact h2.symm, fun h => ⟨_, rfl, h.symm⟩⟩
  by_cases hroom : sn + 1 ≤ sc
  ·have hr := run_append_room_cells (P := P) w t ty e inf ht hi g o sn sc ⟨H.size, 0, none⟩ 1 1 [v] (by simp [hs1]) hnews (by simpa using h1) hroom (fun j hj => by
    have hj : j = 0 := by simp at hj; exact hj
    subst hj
    simp only [World.cell?, hgw, hs1]
    simp
    omega) (fun j hj => by simp [World.frozen?, hgw])
   rw [hs1, Nat.mul_one, setCells_row (P := P) hgw (by simp; omega) (by simpa using h1)] at hr
   refine ⟨_, _, hr, ⟨⟨some ⟨g, o, none⟩, sn + 1, sc⟩, rfl, hK _ _ rfl ⟨by simp [hxl], .inr ⟨g, o, _, rfl, setRow_heap w g cur _ e _ hgw, hroom, h5, ?_, ?_⟩⟩ ⟨by simp [World.setRow, hsz], fun b hb hne => ?_⟩ fun b hb => .inl ((hown b).2 (by obtain ⟨ad, e3, e4⟩ := hb; cases e3; exact e4.symm))⟩, (.of_le rfl (Nat.le_refl _))⟩
   ·simp only [List.size_toArray, List.length_append, List.length_take, List.length_drop, Array.length_toList, List.length_singleton]
    omega
   ·simp only
    have hlen : (cur.toList.take (o + sn)).length = o + sn := by rw [List.length_take, Array.length_toList]; omega
    rw [List.append_assoc, List.drop_append_of_le_length (by omega), List.drop_take, show o + sn - o = sn by omega, h7]
    rw [← List.append_assoc, ← hxl, show xs.length + 1 = (xs ++ [v]).length by simp]
    exact List.take_left
   ·rw [setRow_other w g b _ fun e3 => hne ((hown b).2 e3), hw']
    exact pm.same b hb id
  ·have holds : ∀ j u, xs[j]? = some u → w.cell? ((⟨g, o, none⟩ : Addr).add j) = some u := fun j u hu => by
    obtain ⟨ad', e3, hc⟩ := h.reads j u hu
    cases e3
    show hCell w.heap _ = some u
    rw [hw']
    exact pm.cell hc id
   have hr := run_append_grow (P := P) w t ty e inf z ht hi hz ⟨g, o, none⟩ sn sc xs (by rw [hs1, Nat.mul_one]; exact hxl) holds ⟨H.size, 0, none⟩ 1 1 [v] (by simp [hs1]) hnews (by omega) (by omega) (growslice_fits (by omega) (by rw [hbt]; exact hb))
   have hge := grownCap_ge w (sn + 1) sc e
   have hcm2 : grownCap w (sn + 1) sc e ≤ maxLen := grownCap_le_maxLen w (sn + 1) sc e (by unfold maxLen; omega)
   refine ⟨_, _, hr, ⟨⟨some ⟨w.heap.size, 0, none⟩, sn + 1, grownCap w (sn + 1) sc e⟩, rfl, hK _ _ rfl ?_ ?_ fun b hb => .inr ?_⟩, (.of_le rfl (Nat.le_succ _))⟩
   ·refine Owns.toT (base := 0) (Owns.fresh (Nat.zero_le _) hge hcm2 ?_ (by simp [hxl]) ?_)
    ·simp only [Array.size_append, List.size_toArray, size_zeroCells, hzc, hxl]
     simp
     omega
    ·simp only [Array.toList_append, List.append_assoc]
     rw [← List.append_assoc, Nat.mul_one, show sn + 1 = (xs ++ [v]).length by simp [hxl]]
     exact List.take_left
   ·have : Mod (fun _ => False) H (w.heap) := by rw [hw']; exact pm
    exact (this.trans (Mod.push _ _ _)).mono fun b _ u => u.elim
   ·obtain ⟨ad', e3, e4⟩ := hb
    cases e3; have : w.heap.size = b := e4; omega
end
structure RowsT (X : Nat → Prop) (A : Heap) (s : Sl) (ls : List (List Int)) : Prop where
 ex : ∃ rs : List Sl, OwnT A YaB s (rs.map Sl.v) ∧ rs.length = ls.length ∧ ∀ (j : Nat) (r : Sl) (l : List Int), rs[j]? = some r → ls[j]? = some l → Ints .u64 A r l ∧ ∀ ad, r.a = some ad → ad.block < A.size ∧ ¬ X ad.block ∧ ¬ ownB s ad.block
 off : ∀ b, ownB s b → ¬ X b
section
variable {X X' Y : Nat → Prop} {A B : Heap} {s s' : Sl} {ls : List (List Int)} {l : List Int} {r : Sl}
theorem RowsT.nil (X : Nat → Prop) (A : Heap) : RowsT X A (Sl.mk none 0 0) [] := ⟨⟨[], OwnT.nil _ _, rfl, fun j r l hj => by simp at hj⟩, fun b u => by obtain ⟨ad, h, _⟩ := u; cases h⟩
theorem RowsT.n [Tab] (h : RowsT X A s ls) : s.n = ls.length := by
 obtain ⟨rs, o, hl, _⟩ := h.ex
 have := o.1
 rw [List.length_map] at this
 omega
theorem RowsT.obj [Tab] (h : RowsT X A s ls) : ∀ b, ownB s b → ∃ cur, A[b]? = some (.cells cur YaB (0, 0)) := by
 obtain ⟨rs, o, _, _⟩ := h.ex
 exact o.obj
theorem RowsT.lt [Tab] (h : RowsT X A s ls) : ∀ b, ownB s b → b < A.size := fun b hb => by
 obtain ⟨c, hc⟩ := h.obj b hb
 exact obj_lt hc
theorem RowsT.step [Tab] (h : RowsT X A s ls) (S : Step X X' A B) : RowsT X' B s ls := by
 obtain ⟨rs, o, hl, hr⟩ := h.ex
 refine ⟨⟨rs, o.mod S.mod h.off, hl, fun j r l hj hl' => ?_⟩, fun b hb u => ?_⟩
 ·obtain ⟨q1, q2⟩ := hr j r l hj hl'
  refine ⟨q1.mod S.mod fun ad ha => (q2 ad ha).2.1, fun ad ha => ?_⟩
  obtain ⟨u1, u2, u3⟩ := q2 ad ha
  exact ⟨Nat.lt_of_lt_of_le u1 S.mod.size, fun v => (S.own _ v).elim u2 fun w => by omega, u3⟩
 ·exact (S.own b u).elim (h.off b hb) fun w => by have := o.lt b hb; omega
theorem RowsT.own [Tab] (h : RowsT X A s ls) : OwnE A s := by
 obtain ⟨rs, o, _, _⟩ := h.ex
 exact ⟨_, o⟩
theorem RowsT.less [Tab] (h : RowsT X A s ls) (hs : ∀ b, Y b → X b ∨ A.size ≤ b) : RowsT Y A s ls := h.step ⟨.refl _ _, hs⟩
theorem RowsT.at [Tab] (h : RowsT X A s ls) {i : Nat} (hi : i < ls.length) : ∃ ad r, s.a = some ad ∧ hCell A (ad.add i) = some (Sl.v r) ∧ Ints .u64 A r ls[i] ∧ ∀ a, r.a = some a → a.block < A.size ∧ ¬ X a.block ∧ ¬ ownB s a.block := by
 obtain ⟨rs, o, hl, hr⟩ := h.ex
 have hir : i < rs.length := by omega
 obtain ⟨ad, ha, hc⟩ := o.reads.at (i := i) (by rw [List.length_map]; exact hir)
 obtain ⟨q1, q2⟩ := hr i rs[i] ls[i] (List.getElem?_eq_getElem hir) (List.getElem?_eq_getElem hi)
 exact ⟨ad, rs[i], ha, by simpa using hc, q1, q2⟩
theorem RowsT.rows [Tab] (h : RowsT X A s ls) : Rows A s ls := by
 refine ⟨h.n, fun i hi => ?_⟩
 obtain ⟨ad, r, q1, q2, q3, _⟩ := h.at hi
 exact ⟨ad, r, q1, q2, q3⟩
theorem RowsT.pop [Tab] (h : RowsT X A s (l :: ls)) : RowsT X A ⟨slA s.a s.c 1 1, s.n - 1, s.c - 1⟩ ls := by
 obtain ⟨rs, o, hl, hr⟩ := h.ex
 have hn := h.n
 have hn : s.n = ls.length + 1 := hn
 have hob : ∀ b, ownB ⟨slA s.a s.c 1 1, s.n - 1, s.c - 1⟩ b → ownB s b := fun b ⟨ad, h1, h2⟩ => by
  have h1 : slA s.a s.c 1 1 = some ad := h1
  unfold slA at h1
  split at h1
  ·exact ⟨ad, h1, h2⟩
  ·cases hs : s.a with
   | none => rw [hs] at h1; simp at h1
   | some a0 =>
     rw [hs] at h1
     simp at h1
     subst h1
     rw [add_block] at h2
     exact ⟨a0, hs, h2⟩
 refine ⟨⟨rs.drop 1, by rw [List.map_drop]; exact o.pop (by omega), by rw [List.length_drop, hl]; rfl, fun j r l' hj hl' => ?_⟩, fun b hb => h.off b (hob b hb)⟩
 obtain ⟨q1, q2⟩ := hr (j + 1) r l' (by rw [List.getElem?_drop] at hj; rw [Nat.add_comm]; exact hj) (by simpa using hl')
 exact ⟨q1, fun ad ha => ⟨(q2 ad ha).1, (q2 ad ha).2.1, fun u => (q2 ad ha).2.2 (hob _ u)⟩⟩
theorem RowsT.snoc [Tab] {ty : TypeId} {K : Sl → Heap → Prop} (h : RowsT X A s ls) (hn : ls.length ≤ 1000000) (hl : Ints .u64 A r l) (ho : ∀ ad, r.a = some ad → ad.block < A.size ∧ ¬ X ad.block ∧ ¬ ownB s ad.block)
  (hK : ∀ s' B, (∀ Y : Nat → Prop, (∀ b, Y b → X b) → (∀ b, Y b → b < A.size) → RowsT Y B s' (ls ++ [l])) → Mod (ownB s) A B → (∀ b, ownB s' b → ownB s b ∨ A.size ≤ b) → K s' B) : newC A #[r.v] YaB fun p H1 => doT cSl Tryz.prog (Builtin.append_ #[Yam, Yam] ty #[s.v, .slice (some p) 1 1]) H1 K := by
 obtain ⟨rs, o, hlen, hr⟩ := h.ex
 have hsn := h.n
 refine OwnT.push elRow o rfl (by omega) (by omega) fun s' B n1 o1 m1 b1 => ?_
 have z := m1.size
 have keep : ∀ {Y : Nat → Prop} {x : Sl} {y : List Int}, (∀ b, Y b → X b) → Ints .u64 A x y → (∀ ad, x.a = some ad → ad.block < A.size ∧ ¬ X ad.block ∧ ¬ ownB s ad.block) → Ints .u64 B x y ∧ ∀ ad, x.a = some ad → ad.block < B.size ∧ ¬ Y ad.block ∧ ¬ ownB s' ad.block := fun hY hi hx =>
  ⟨hi.mod m1 fun ad ha => (hx ad ha).2.2, fun ad ha => ⟨by have := (hx ad ha).1; omega, fun u => (hx ad ha).2.1 (hY _ u), fun v => (b1 _ v).elim (hx ad ha).2.2 fun w => by have := (hx ad ha).1; omega⟩⟩
 refine hK s' B (fun Y hY hYl => ⟨⟨rs ++ [r], by rw [List.map_append]; exact o1, by rw [List.length_append, List.length_append, hlen]; rfl, fun j x y hj hy => ?_⟩, fun b hb u => ?_⟩) m1 b1
 ·rcases Nat.lt_or_ge j rs.length with q | q
  ·rw [List.getElem?_append_left q] at hj
   rw [List.getElem?_append_left (by omega)] at hy
   obtain ⟨q1, q2⟩ := hr j x y hj hy
   exact keep hY q1 q2
  ·rw [List.getElem?_append_right q] at hj
   rw [List.getElem?_append_right (by omega), ← hlen] at hy
   have e0 : j - rs.length = 0 := by
    have := (List.getElem?_eq_some_iff.1 hj).1
    simp at this; omega
   rw [e0] at hj hy
   cases hj
   cases hy
   exact keep hY hl ho
 ·rcases b1 b hb with q | q
  ·exact h.off b q (hY b u)
  ·have := hYl b u
   omega
end
theorem turnL_len (l cols : List Int) : (turnL l cols).length ≤ cols.length := by
 unfold turnL
 split
 ·rw [List.length_map]; exact Nat.le_refl _
 ·exact Nat.zero_le _
section
variable {H : Heap} {j : Nat} {cs : Array Value} {l cols : Sl} {ll cl : List Int}
theorem sideKey_ok [Tab] {i : Nat} {K : Sl → Heap → Prop} (r : RowT H j Yaq cs) (hi : cs[i + 1]? = some cols.v) (hl : Ints .u64 H l ll) (hc : Ints .i64 H cols cl) (h1 : cl.length ≤ 1000) 
  (hK : ∀ s A, Ints .u64 A s (turnL ll cl) → Ext H A → K s A) : ZcV.sp (some (Addr.add ⟨j, 0, none⟩ i)) l H K := by
 refine ZcV.of ?_
 unfold ZcV.vc
 simp only [optK_eq, add_add]
 refine RowT.ld (c := cSl) (i := i + 1) (x := cols) r hi ?_
 exact rowTurn_ok hl hc (by omega) fun s A oA eA => hK s A oA.ints eA
theorem jclear_ok [Tab] {K : Unit → Heap → Prop} (r : RowT H j Yaq cs) (hz : cs.size = 22)
  (hK : ∀ A, RowT A j Yaq ((cs.setIfInBounds 16 (.map (some H.size))).setIfInBounds 17 (.int .i64 0)) → MapAt (.int .u64) A H.size #[] 0 → Mod (fun b => b = j) H A → A.size = H.size + 1 → K () A) : ZbS.sp (some ⟨j, 0, none⟩) H K := by
 have hj := obj_lt r
 refine ZbS.of ?_
 unfold ZbS.vc
 refine newM_map (d := .int .u64) fun A1 z1 m1 e1 => ?_
 simp only [optK_eq]
 refine RowT.st (r.ext e1) (i := 16) (by omega) rfl fun A2 r2 m2 z2 => ?_
 refine RowT.st r2 (i := 17) (by rw [Array.size_setIfInBounds]; omega) rfl fun A3 r3 m3 z3 => ?_
 exact hK A3 r3 ((m1.mod m2 fun u => by omega).mod m3 fun u => by omega) ((Ext.mod e1).trans (m2.trans m3)) (by omega)
theorem jmost_ok {K : Int → Heap → Prop} (r : RowT H j Yaq cs) (h8 : cs[8]? = some (.int .i64 3)) (h7 : cs[7]? = some (.int .i64 16)) (hK : K 9 H) : Zcb.sp (some ⟨j, 0, none⟩) H K := by
 refine Zcb.of ?_
 unfold Zcb.vc
 refine ⟨fun A => H = A, rfl, ?_⟩
 simp only [optK_eq, add_add, Nat.reduceAdd]
 refine RowT.ldC (c := cInt .i64) (i := 8) (x := 3) (cs := fun _ => cs) (fun A hA => hA ▸ r) (fun _ _ => h8) ?_
 refine RowT.ld (c := cInt .i64) (i := 7) (x := 16) r h7 ?_
 refine rowRoom_ok ⟨rfl, ?_⟩
 have e : IntKind.i64.wrap (3 * roomL 16) = 9 := by decide
 rw [e]; exact hK
end
structure TabK (X : Nat → Prop) (H : Heap) (mb : Nat) (n : Int) (ts : Sl) (ls : List (List Int)) : Prop where
 map : ∃ es clk, MapAt (.int .u64) H mb es clk ∧ (∀ k v, HasE es k v → k = .int .u64 n ∧ v = Sl.v ts ∧ ls ≠ []) ∧ (ls ≠ [] → HasE es (.int .u64 n) (Sl.v ts))
 rows : RowsT X H ts ls
 nil : ls = [] → ts = Sl.mk none 0 0
section
variable {X X' : Nat → Prop} {H B : Heap} {mb j : Nat} {n : Int} {ts l cols : Sl} {ls : List (List Int)} {ll cl : List Int} {cs0 : Array Value}
theorem TabK.lt [Tab] (h : TabK X H mb n ts ls) : mb < H.size := by obtain ⟨es, clk, h1, _⟩ := h.map; exact h1.lt
theorem TabK.ne [Tab] (h : TabK X H mb n ts ls) : ¬ ownB ts mb := fun u => by
 obtain ⟨es, clk, h1, _⟩ := h.map
 obtain ⟨c, hc⟩ := h.rows.obj _ u
 have := h1.obj
 rw [hc] at this; cases this
theorem TabK.step [Tab] (h : TabK X H mb n ts ls) (S : Step X X' H B) (hm : B[mb]? = H[mb]?) : TabK X' B mb n ts ls := by
 obtain ⟨es, clk, h1, h2, h3⟩ := h.map
 exact ⟨⟨es, clk, ⟨hm.trans h1.obj, h1.stamped, h1.keys⟩, h2, h3⟩, h.rows.step S, h.nil⟩
theorem TabK.new {A : Heap} (X : Nat → Prop) (h : MapAt (.int .u64) A mb #[] 0) : TabK X A mb n (Sl.mk none 0 0) [] :=
 ⟨⟨_, _, h, fun k v hv => by obtain ⟨e, he, _⟩ := hv; simp at he, fun h => absurd rfl h⟩, RowsT.nil _ _, fun _ => rfl⟩
theorem TabK.read [Tab] (h : TabK X H mb n ts ls) : isRd Tryz.prog (Instr.lookup Yac (.map (some mb)) (.int .u64 n) false) H ts.v := by
 obtain ⟨es, clk, h1, h2, h3⟩ := h.map
 by_cases hl : ls = []
 ·obtain ⟨inf, i1, i2⟩ := slsl_info
  rw [h.nil hl]
  exact isRd_miss tab_type u64_type i1 i2 h1 rfl fun v hv => (h2 _ v hv).2.2 hl
 ·exact isRd_hit tab_type u64_type h1 rfl (h3 hl) fun v hv => (h2 _ v hv).2.1
set_option maxHeartbeats 1000000 in
theorem jhold_ok [Tab] {held : Nat} {K : Unit → Heap → Prop} (r : RowT H j Yaq cs0) (h6 : cs0[6]? = some cols.v) (h16 : cs0[16]? = some (.map (some mb))) (h17 : cs0[17]? = some (.int .i64 (held : Int))) (hc : Ints .i64 H cols cl) (hcl : cl.length ≤ 1000) (ht : TabK X H mb n ts ls) (hXj : X j) (hXm : X mb)
  (hX : ∀ b, X b → b < H.size) (hl : Ints .u64 H l ll) (hlo : ∀ a, l.a = some a → a.block < H.size ∧ ¬ X a.block ∧ ¬ ownB ts a.block) (hkey : sumW (turnL ll cl) (-1) = n) (hh : held ≤ 1000) (hn : ls.length ≤ 1000)
  (hK : ∀ ts' A, RowT A j Yaq (cs0.setIfInBounds 17 (.int .i64 ((held + 1 : Nat) : Int))) → TabK X A mb n ts' (ls ++ [ll]) → Mod (fun b => b = j ∨ b = mb ∨ ownB ts b) H A → (∀ b, ownB ts' b → ownB ts b ∨ H.size ≤ b) → K () A) : Zcm.sp (some ⟨j, 0, none⟩) l H K := by
 have h17s := (Array.getElem?_eq_some_iff.1 h17).1
 refine Zcm.of ?_
 unfold Zcm.vc
 simp only [optK_eq]
 refine sideKey_ok (i := 5) r h6 hl hc hcl fun s A o1 e1 => ?_
 have tl := turnL_len ll cl
 refine hashSum_ok o1 (by omega) ?_
 rw [hkey]
 have z1 := e1.size
 have rA := r.ext e1
 have hmb := ht.lt
 have tA : TabK X A mb n ts ls := ht.step ⟨Ext.mod e1, fun b u => .inl u⟩ (e1.same mb hmb id)
 have jts : ¬ ownB ts j := fun u => by
  obtain ⟨c, hc⟩ := tA.rows.obj j u
  exact absurd (cells_ty rA hc) (by decide)
 have jmb : j ≠ mb := fun e => by
  obtain ⟨es, clk, m1, _⟩ := tA.map
  have := m1.obj
  rw [← e, show A[j]? = _ from rA] at this; cases this
 refine ⟨fun B => Mod (ownB ts) A B, .refl _ _, ?_⟩
 refine RowT.ldC (c := cMap) (i := 16) (x := some mb) (cs := fun _ => cs0) (fun B hB => rA.mod hB jts) (fun _ _ => h16) ?_
 refine RowT.ldC (c := cMap) (i := 16) (x := some mb) (cs := fun _ => cs0) (fun B hB => rA.mod hB jts) (fun _ _ => h16) ?_
 have tab : ∀ B, Mod (ownB ts) A B → isRd Tryz.prog (Instr.lookup Yac (.map (some mb)) (.int .u64 n) false) B ts.v := fun B hB => by
  obtain ⟨es, clk, m1, m2, m3⟩ := tA.map
  have m1' := m1.mod hB tA.ne
  by_cases hl : ls = []
  ·obtain ⟨inf, i1, i2⟩ := slsl_info
   rw [tA.nil hl]
   exact isRd_miss tab_type u64_type i1 i2 m1' rfl fun v hv => (m2 _ v hv).2.2 hl
  ·exact isRd_hit tab_type u64_type m1' rfl (m3 hl) fun v hv => (m2 _ v hv).2.1
 refine ⟨ts, fun B hB => tab B hB, ?_⟩
 refine ⟨(Mod.push _ _ _).mono fun b _ u => (u : False).elim, ?_⟩
 have key := tA.rows.snoc (ty := Yam) (r := l) (l := ll) (by omega) (hl.ext e1) (fun a ha => ⟨by have := (hlo a ha).1; omega, (hlo a ha).2⟩)
  (K := fun s' B => Mod (ownB ts) A B ∧ doU Tryz.prog (Instr.mapUpdate Yac (.map (some mb)) (.int .u64 n) s'.v) B fun H5 => Go.Proofs.YtkehfflpbpdokaaGreat.ld (cInt .i64) H5 (Addr.add ⟨j, 0, none⟩ 17) fun (x_3 : Int) => Go.Proofs.YtkehfflpbpdokaaGreat.st H5 (Addr.add ⟨j, 0, none⟩ 17) (.int .i64 (IntKind.i64.wrap (x_3 + (1 : Int)))) fun H6 => K () H6)
 refine key fun s' B rB mB bB => ⟨mB, ?_⟩
 have rB := rB X (fun b u => u) fun b u => by have := hX b u; omega
 obtain ⟨es, clk, m1, m2, m3⟩ := tA.map
 have m1B := m1.mod mB tA.ne
 have rjB := rA.mod mB jts
 -- what follows the map's change
 have fin : ∀ C es' clk', MapAt (.int .u64) C mb es' clk' → (∀ k v, HasE es' k v ↔ (k = .int .u64 n ∧ v = Sl.v s')) → Mod (fun b => b = mb) B C → ld (cInt .i64) C (Addr.add ⟨j, 0, none⟩ 17) fun (x_3 : Int) => Go.Proofs.YtkehfflpbpdokaaGreat.st C (Addr.add ⟨j, 0, none⟩ 17) (.int .i64 (IntKind.i64.wrap (x_3 + (1 : Int)))) fun H6 => K () H6 := by
  intro C es' clk' mC hC modC
  have rjC := rjB.mod modC jmb
  refine RowT.ld (c := cInt .i64) (i := 17) (x := (held : Int)) rjC h17 ?_
  rw [succ64 held (by omega)]
  refine RowT.st (i := 17) rjC h17s rfl fun D rD modD zD => ?_
  have mX : Mod X B D := (modC.mono fun b _ u => by subst u; exact hXm).trans (modD.mono fun b _ u => by subst u; exact hXj)
  refine hK s' D rD ⟨⟨es', clk', mC.mod modD (Ne.symm jmb), fun k v hv => ?_, fun _ => (hC _ _).2 ⟨rfl, rfl⟩⟩, rB.step ⟨mX, fun b u => .inl u⟩, fun h => absurd h (by simp)⟩ ?_ fun b hb => (bB b hb).imp id fun u => by omega
  ·obtain ⟨q1, q2⟩ := (hC k v).1 hv
   exact ⟨q1, q2, by simp⟩
  ·exact ((Ext.mod e1).trans (mB.mono fun b _ u => .inr (.inr u))).trans ((modC.mono fun b _ u => .inr (.inl u)).trans (modD.mono fun b _ u => .inl u))
 by_cases hls : ls = []
 ·refine doU_insert tab_type u64_type m1B rfl (fun u hu => (m2 _ u hu).2.2 hls) fun C mC modC zC => ?_
  refine fin C _ _ mC (fun k v => ?_) modC
  rw [hasE_push]
  exact ⟨fun u => u.elim (fun w => absurd hls (m2 k v w).2.2) id, .inr⟩
 ·refine doU_update tab_type u64_type m1B rfl (m3 hls) fun es' C mC hC _ modC zC => ?_
  refine fin C es' clk mC (fun k v => ?_) modC
  rw [hC]
  exact ⟨fun u => u.elim id fun w => absurd (m2 k v w.2).1 w.1, .inl⟩
end
section
variable {X : Nat → Prop} {H : Heap} {mb : Nat} {n : Int} {ts x : Sl} {ls : List (List Int)}
set_option maxRecDepth 100000 in
theorem len1_ok {K : Int → Heap → Prop} (hK : ∀ z, K z H) : ZcO.sp 1 H K := by
 refine ZcO.of ?_
 unfold ZcO.vc
 refine Zcq.of ?_
 unfold Zcq.vc
 refine br_f (by decide) (br_f (by decide) (br_f (by decide) ⟨?_, hK _⟩))
 decide
set_option maxRecDepth 100000 in
theorem sort1_ok [Tab] {K : Unit → Heap → Prop} (hx : x.n = 1) (hK : K () H) : Zbe.sp x H K := by
 refine Zbe.of ?_
 unfold Zbe.vc
 rw [hx]
 have e1 : IntKind.u64.wrap ((1 : Nat) : Int) = 1 := by decide
 rw [e1]
 refine len1_ok fun z => ?_
 refine Zbc.of ?_
 unfold Zbc.vc
 refine loop_upto 0 (fun _ z A => A = H ∧ z.1 = 0 ∧ z.2.1 = 1) ⟨rfl, rfl, rfl⟩ ?_
 rintro i z A next hi ⟨rfl, q1, q2⟩ _
 refine br_t (by rw [q1, q2]; decide) ?_
 rw [q1, q2]
 refine ZaF.of ?_
 unfold ZaF.vc
 refine loop_upto 0 (fun _ z B => B = A ∧ z = 1) ⟨rfl, by decide⟩ ?_
 rintro i z B next hi ⟨rfl, rfl⟩ _
 exact br_f (by decide) hK
set_option maxHeartbeats 1000000 in
theorem sorted1_ok [Tab] {K : Sl → Heap → Prop} (h : TabK X H mb n ts ls) (hls : ls ≠ []) (hK : ∀ l A, Ints .u64 A l [n] → Ext H A → K l A) : Zdb.sp (some mb) H K := by
 refine Zdb.of ?_
 unfold Zdb.vc
 obtain ⟨es, clk, m1, m2, m3⟩ := h.map
 refine doT_range tab_type m1 fun H1 hit e1 => ?_
 have hone : ∃ e, es.toList = [e] ∧ e.key = .int .u64 n := by
  obtain ⟨e, he, hk, _⟩ := m3 hls
  have hp := (stamped_iff es clk).1 m1.stamped |>.2.2
  have hkey : ∀ x ∈ es.toList, x.key = .int .u64 n := fun x hx => (m2 x.key x.val ⟨x, hx, rfl, rfl⟩).1
  cases hes : es.toList with
  | nil => rw [hes] at he; cases he
  | cons a t =>
    cases ht : t with
    | nil => exact ⟨a, rfl, hkey a (by rw [hes]; exact List.mem_cons_self)⟩
    | cons b t' =>
      rw [hes, ht] at hp
      have := (List.pairwise_cons.1 hp).1 b List.mem_cons_self
      exact absurd ((hkey a (by rw [hes]; exact List.mem_cons_self)).trans (hkey b (by rw [hes, ht]; simp)).symm) this
 obtain ⟨e0, hes, hk0⟩ := hone
 have z1 := e1.size
 refine map_range (it := H.size) (fun l x A => Owns A 0 YaJ 1 x (l.map MapEntry.key) ∧ (∀ b, ownB x b → H.size < b) ∧ Ext H A ∧ H.size < A.size) (m1.mod e1 id) hit ⟨Owns.nil _ _ _ _, fun b u => absurd u (nilOwn b), e1, obj_lt hit⟩ (fun l x A A' hI m s => ⟨hI.1.mod m fun b hb u => by have := hI.2.1 b hb; omega, hI.2.1, ?_, by omega⟩) ?_ ?_
 ·exact ⟨by have := hI.2.2.1.size; omega, fun b hb _ => (m.same b (by have := hI.2.2.1.size; omega) fun u => by omega).trans (hI.2.2.1.same b hb id)⟩
 ·rintro l e x A next ⟨o, ob, eA, hlt⟩ he hel hsub hnd hr hito hnext
  have hee : e = e0 := by rw [hes] at he; exact List.mem_singleton.1 he
  have hl0 : l.length ≤ 1 := by
   have : l.length ≤ es.toList.length := by
    rw [hes]
    match l, hnd, hsub with
    | [], _, _ => exact Nat.zero_le _
    | [a], _, _ => exact Nat.le_refl _
    | a :: b :: t, hnd, hsub =>
      exfalso
      have ha := hsub a (by simp)
      have hb := hsub b (by simp)
      rw [hes] at ha hb
      rw [List.mem_singleton.1 ha, List.mem_singleton.1 hb] at hnd
      simp at hnd
   rw [hes] at this; exact this
  refine ⟨n, by rw [hee]; exact hk0, ?_⟩
  have hxn : x.n = l.length := by have := o.1; simp at this; omega
  refine elU64.push (base := 0) (v := .int .u64 n) o rfl (by omega) (by omega) (Nat.zero_le _) fun x' B n1 o1 m1' b1 _ => ?_
  have hb' : ∀ b, ownB x' b → H.size < b := fun b hb => (b1 b hb).elim (ob b) fun u => by omega
  refine hnext x' B ⟨?_, hb', ⟨by have := eA.size; have := m1'.size; omega, fun b hb _ => (m1'.same b (by have := eA.size; omega) fun u => by have := ob b u; omega).trans (eA.same b hb id)⟩, by have := m1'.size; omega⟩ (m1'.same mb (obj_lt hr) fun u => ?_) (m1'.same H.size hlt fun u => ?_)
  ·rw [List.map_append, List.map_cons, List.map_nil, hee, hk0]; exact o1
  ·have := ob mb u
   have := m1.lt
   omega
  ·have := ob _ u; omega
 ·rintro l x A ⟨o, ob, eA, hlt⟩ hp hr
  rw [hes] at hp
  have : l = [e0] := List.perm_singleton.1 hp
  subst this
  have o : Owns A 0 YaJ 1 x ([n].map (Value.int .u64)) := by simpa [hk0] using o
  have hxn : x.n = 1 := by have := o.1; simp at this; omega
  exact sort1_ok hxn (hK x A o.ints eA)
end
theorem RowsX.step [Tab] {X X' : Nat → Prop} {A B : Heap} {s : Sl} {ls : List (List Int)} (h : RowsX X A s ls) (S : Step X X' A B) : RowsX X' B s ls :=
 ⟨h.len, fun ad ha => ⟨Nat.lt_of_lt_of_le (h.off ad ha).1 S.mod.size, fun u => (S.own _ u).elim (h.off ad ha).2 fun w => by have := (h.off ad ha).1; omega⟩, fun i hi => by
  obtain ⟨ad, r, q1, q2, q3, q4⟩ := h.at' i hi
  exact ⟨ad, r, q1, S.mod.cell q2 (by rw [add_block]; exact (h.off ad q1).2), fun a ha => ⟨Nat.lt_of_lt_of_le (q3 a ha).1 S.mod.size, fun u => (S.own _ u).elim (q3 a ha).2 fun w => by have := (q3 a ha).1; omega⟩, q4.mod S.mod fun a ha => (q3 a ha).2⟩⟩
theorem Step.not [Tab] {X X' : Nat → Prop} {A B : Heap} (S : Step X X' A B) {b : Nat} (hb : b < A.size) (h : ¬ X b) : ¬ X' b := fun u => (S.own b u).elim h fun w => by omega
section
variable {H0 A B : Heap} {F F' : Nat → Prop} {p dp Q U most m j : Nat} {s s' : Pl} {M M' : Files} {f g : HFile} {W W' : Int} {fs : Sl} {bl : List Nat} {cs0 : Array Value}
set_option maxHeartbeats 1000000 in
theorem gone_ok [Tab] {lv : Int} {K : Int → Heap → Prop} (hP : PoolM H0 A F p dp s M Q U most m) (hg : Gl H0) (jo : RowT A j Yaq cs0) (h0 : cs0[0]? = some (.pointer (at0 p))) (h12 : cs0[12]? = some fs.v)
  (fsl : Owns A 0 Yal 1 fs (bl.map ptrV)) (hbl : bl.length ≤ 1000) (hall : ∀ q ∈ bl, (∃ cs, RowT A q Yaz cs) ∧ ¬ F q) (row : RowT A f.blk Yaz (fileV W f)) (st : Stored M f) (fF : ¬ F f.blk) (rowg : RowT A g.blk Yaz (fileV W' g)) (stg : Stored M g) (gF : ¬ F g.blk) (hne : f.name ≠ g.name)
  (off : ∀ b, DrX j fs b → H0.size ≤ b ∧ ¬ F b)
  (hK : ∀ F' s' U' fs' B, PoolM H0 B F' p dp s' (goneM (goneM M f) g) Q U' most (m + 4200) → U' ≤ U → RowT B j Yaq (cs0.setIfInBounds 12 fs'.v) → Owns B 0 Yal 1 fs' ((goneB (goneB bl f) g).map ptrV) → Step (fun b => F b ∨ DrX j fs b) (fun b => F' b ∨ DrX j fs' b) A B → (∀ b, DrX j fs' b → H0.size ≤ b ∧ ¬ F' b) → (∀ b, F' b → F b ∨ A.size ≤ b) → K 0 B) : Zcf.sp (at0 j) (at0 f.blk) (at0 g.blk) lv A K := by
 have hjs := (Array.getElem?_eq_some_iff.1 h12).1
 refine Zcf.of ?_
 unfold Zcf.vc
 refine newC_rowT fun A1 z1 r1 e1 => ?_
 have r1 : RowT A1 A.size Yav #[.pointer (at0 f.blk), .pointer (at0 g.blk), .int .i64 lv] := r1
 refine RowT.ld (c := cPtr) (i := 0) (x := at0 f.blk) r1 rfl ?_
 refine jdrop_ok (hP.grow e1) hg (jo.ext e1) h0 h12 (fsl.ext e1) hbl (fun q hq => (hall q hq).1.imp fun cs r => r.ext e1) (row.ext e1) st fF off fun F1 s1 U1 fs1 B1 P1 hU1 jo1 fsl1 S1 off1 hF1 => ?_
 refine br_f rfl ?_
 have oF : ∀ b, DrX j fs b → ¬ F b := fun b u => (off b u).2
 have nX : ∀ {x : Nat} {cs : Array Value}, RowT A1 x Yaz cs → ¬ F x → ¬ (F x ∨ DrX j fs x) := fun {x cs} r hF u => by
  rcases u with u | u | u
  ·exact hF u
  ·exact rowNe (jo.ext e1) r (by decide) u.symm
  ·exact own_ne r (fsl.ext e1) (by decide) u
 have tX : ¬ (F A.size ∨ DrX j fs A.size) := fun u => by
  rcases u with u | u | u
  ·have := hP.pool.lt _ u; omega
  ·have := obj_lt jo; omega
  ·have := (fsl.block _ u).2; omega
 have r1B := r1.mod S1.mod tX
 refine RowT.ld (c := cPtr) (i := 1) (x := at0 g.blk) r1B rfl ?_
 have g1 := rowg.ext e1
 have hsub : ∀ q ∈ goneB bl f, q ∈ bl := fun q hq => by
  unfold goneB at hq
  split at hq
  ·exact (List.mem_filter.1 hq).1
  ·exact hq
 have hll : (goneB bl f).length ≤ bl.length := by
  unfold goneB
  split
  ·exact List.length_filter_le _ _
  ·exact Nat.le_refl _
 have stg1 : Stored (goneM M f) g := by
  have e : goneM M f g.name = M g.name := by
   unfold goneM
   split
   ·exact setF_other (Ne.symm hne)
   ·rfl
  exact ⟨fun h => by rw [e]; exact stg.made h, fun h => by rw [e]; exact stg.none h⟩
 have h0' : (cs0.setIfInBounds 12 fs1.v)[0]? = some (.pointer (at0 p)) := by rw [Array.getElem?_setIfInBounds_ne (by decide)]; exact h0
 have h12' : (cs0.setIfInBounds 12 fs1.v)[12]? = some fs1.v := by rw [Array.getElem?_setIfInBounds_self_of_lt hjs]
 have zB := S1.mod.size
 refine jdrop_ok P1 hg jo1 h0' h12' fsl1 (by omega) (fun q hq => by
  obtain ⟨⟨cs, r⟩, hF⟩ := hall q (hsub q hq)
  exact ⟨cs, (r.ext e1).mod S1.mod (nX (r.ext e1) hF)⟩) (g1.mod S1.mod (nX g1 gF)) stg1 (fun u => (hF1 _ u).elim gF fun w => by have := obj_lt g1; omega) off1 fun F2 s2 U2 fs2 B2 P2 hU2 jo2 fsl2 S2 off2 hF2 => ?_
 rw [set_twice] at jo2
 refine hK F2 s2 U2 fs2 B2 (P2.later (by omega)) (by omega) jo2 fsl2 ((⟨Ext.mod e1, fun b u => .inl u⟩ : Step _ _ A A1).trans (S1.trans S2)) off2 fun b u => ?_
 rcases hF2 b u with v | v
 ·exact (hF1 b v).imp id fun w => by omega
 ·exact .inr (by omega)
theorem out_none {fb : Nat} {K : Int → Heap → Prop} (row : RowT A fb Yaz (fileV W f)) (hpd : f.pd = []) (hK : K 0 A) : Zcy.sp (at0 j) (at0 fb) A K := by
 refine Zcy.of ?_
 unfold Zcy.vc
 simp only [optK_eq, at0]
 refine RowT.ld (c := cInt .i64) (i := 6) (x := (f.pd.length : Int)) row rfl ?_
 rw [hpd]
 exact br_t rfl hK
end
abbrev Jm := Heap → (Nat → Prop) → (Nat → Prop) → (Nat → Prop) → Files → List (List Int) → Prop
structure MoreS [Tab] (H0 : Heap) (p dp Q most j : Nat) (cs0 : Array Value) (more : Value) (N : ByteArray → Prop) (J : Jm) : Prop where
 bnd : ∀ {A F X E M L}, J A F X E M L → ∀ b, X b → b < A.size ∧ H0.size ≤ b ∧ ¬ F b ∧ ¬ E b
 write : ∀ {A B F F' X E E' M M' L}, J A F X E M L → Step (fun b => F b ∨ E b) (fun b => F' b ∨ E' b) A B → (∀ b, E b → b < A.size) → (∀ a, N a → M' a = M a) → J B F' X E' M' L
 next : ∀ {A F X E M L s U m fv} {K : (Sl × Bool × Int) → Heap → Prop}, J A F X E M L → PoolM H0 A F p dp s M Q U most m → m + 1 < 30000000000 → RowT A j Yaq (cs0.setIfInBounds 12 fv) → E j → ¬ F j → (∀ b, E b → b < A.size) →
  (L = [] → ∀ B F' X' s', PoolM H0 B F' p dp s' M Q U most (m + 1) → J B F' X' E M [] → Step (fun b => F b ∨ X b) (fun b => F' b ∨ X' b) A B → K (Sl.mk none 0 0, false, 0) B) →
  (∀ l r y B F' X' s', L = l :: r → PoolM H0 B F' p dp s' M Q U most (m + 1) → J B F' X' E M r → Step (fun b => F b ∨ X b) (fun b => F' b ∨ X' b) A B → Ints .u64 B y l → K (y, true, 0) B) → CallV (cTup [cSl, cBool, cInt .i64]) Tryz.prog more [] A K
def Eo (j : Nat) (fs : Sl) (f : HFile) (l : Sl) (o b : Nat) : Prop := OutX j fs f b ∨ ownB l b ∨ b = o
section
variable {H0 A B : Heap} {F F' X : Nat → Prop} {p dp Q U most m j : Nat} {s s' : Pl} {M M' : Files} {f g : HFile} {fs l cols : Sl} {bl qs : List Nat} {cs0 ocs : Array Value} {J : Jm} {N : ByteArray → Prop} {L : List (List Int)} {cl : List Int} {i d o : Nat} {level : Int} {more : Value} {ns : List ByteArray}
theorem filesL_trans {f f1 f2 : HFile} (h0 : f.made = false) (hb : f1.blk = f.blk) (h : f1.made = true → f2.made = true) : filesL (filesL bl f f1) f1 f2 = filesL bl f f2 := by
 unfold filesL
 rw [h0, hb]
 cases h1 : f1.made with
 | true => rw [h h1]; simp
 | false => cases h2 : f2.made <;> simp
structure PartI [Tab] (H0 A : Heap) (F X : Nat → Prop) (p dp Q most : Nat) (s : Pl) (M : Files) (U m j : Nat) (cs0 : Array Value) (bl : List Nat) (f0 : HFile) (l : Sl) (qs : List Nat) (o : Nat) (ocs : Array Value) (J : Jm) (fs : Sl) (f : HFile) (L : List (List Int)) : Prop where
 P : PoolM H0 A F p dp s M Q U most m
 jo : RowT A j Yaq (cs0.setIfInBounds 12 fs.v)
 fsl : Owns A 0 Yal 1 fs ((filesL bl f0 f).map ptrV)
 ff : HFileAt A 16 f
 st : Stored M f
 ok : FOK 3 16 f
 same : f.blk = f0.blk ∧ f.name = f0.name
 src : J A F X (Eo j fs f l o) M L
 off : ∀ b, Eo j fs f l o b → H0.size ≤ b ∧ ¬ F b
 lo : Owns A 0 Yal 1 l (qs.map ptrV)
 lx : ∀ b, ownB l b → ¬ OutX j fs f b
 oo : RowT A o Yaz ocs
 ne : o ≠ f.blk
theorem PartI.lt [Tab] {f0 : HFile} (h : PartI H0 A F X p dp Q most s M U m j cs0 bl f0 l qs o ocs J fs f L) : ∀ b, Eo j fs f l o b → b < A.size := fun b u => by
 rcases u with (u | u | u | u) | u | u
 ·rw [u]; exact obj_lt h.jo
 ·rw [u]; exact obj_lt h.ff.row
 ·exact (h.fsl.block b u).2
 ·exact (Owns.block h.ff.wait b u).2
 ·exact (h.lo.block b u).2
 ·rw [u]; exact obj_lt h.oo
theorem PartI.laid [Tab] {f0 f' : HFile} {fs' : Sl} {U' m' : Nat} {s' : Pl} (SJ : MoreS H0 p dp Q most j cs0 more N J) (h : PartI H0 A F X p dp Q most s M U m j cs0 bl f0 l qs o ocs J fs f L) (hN : ¬ N f.name) (h0 : f0.made = false)
  (P' : PoolM H0 B F' p dp s' M' Q U' most m') (jo' : RowT B j Yaq (cs0.setIfInBounds 12 fs'.v)) (fsl' : Owns B 0 Yal 1 fs' ((filesL (filesL bl f0 f) f f').map ptrV)) (ff' : HFileAt B 16 f') (st' : Stored M' f') (ok' : FOK 3 16 f') (hb : f'.blk = f.blk ∧ f'.name = f.name) (hmd : f.made = true → f'.made = true) (hoth : ∀ a, a ≠ f.name → M' a = M a)
  (S : Step (fun b => F b ∨ OutX j fs f b) (fun b => F' b ∨ OutX j fs' f' b) A B) (off' : ∀ b, OutX j fs' f' b → H0.size ≤ b ∧ ¬ F' b) : PartI H0 B F' X p dp Q most s' M' U' m' j cs0 bl f0 l qs o ocs J fs' f' L ∧ Step (fun b => F b ∨ Eo j fs f l o b ∨ X b) (fun b => F' b ∨ Eo j fs' f' l o b ∨ X b) A B := by
 have hlt := h.lt
 have nl : ∀ b, ownB l b → ¬ (F b ∨ OutX j fs f b) := fun b hb u => u.elim (h.off b (.inr (.inl hb))).2 (h.lx b hb)
 have no : ¬ (F o ∨ OutX j fs f o) := fun u => by
  rcases u with u | u | u | u | u
  ·exact (h.off o (.inr (.inr rfl))).2 u
  ·exact rowNe h.jo h.oo (by decide) u.symm
  ·exact h.ne u
  ·exact own_ne h.oo h.fsl (by decide) u
  ·exact own_ne h.oo h.ff.wait (by decide) u
 have SE : Step (fun b => F b ∨ Eo j fs f l o b) (fun b => F' b ∨ Eo j fs' f' l o b) A B := S.widen (fun b u => u.imp id .inl) fun b u => by
  rcases u with u | u | u
  ·exact .inr (.inl u)
  ·exact .inr (.inr u)
  ·exact .inl (.inr (.inr u))
 refine ⟨⟨P', jo', by rw [← filesL_trans h0 h.same.1 hmd]; exact fsl', ff', st', ok', ⟨hb.1.trans h.same.1, hb.2.trans h.same.2⟩, SJ.write h.src SE hlt fun a ha => hoth a fun e => hN (e ▸ ha), fun b u => ?_, h.lo.mod S.mod fun b hb => nl b hb, fun b hb u => ?_, h.oo.mod S.mod no, by rw [hb.1]; exact h.ne⟩, ?_⟩
 ·rcases u with u | u | u
  ·exact off' b u
  ·exact ⟨(h.off b (.inr (.inl u))).1, fun v => S.not (h.lo.block b u).2 (nl b u) (.inl v)⟩
  ·subst u
   exact ⟨(h.off b (.inr (.inr rfl))).1, fun v => S.not (obj_lt h.oo) no (.inl v)⟩
 ·exact S.not (h.lo.block b hb).2 (nl b hb) (.inr u)
 ·refine SE.widen (fun b u => u.imp id .inl) fun b u => ?_
  rcases u with u | u | u
  ·exact .inr (.inl u)
  ·exact .inr (.inr u)
  ·exact .inl (.inr (.inr u))
theorem PartI.told [Tab] {f0 : HFile} {X' : Nat → Prop} {m' : Nat} {L' : List (List Int)} (SJ : MoreS H0 p dp Q most j cs0 more N J) (h : PartI H0 A F X p dp Q most s M U m j cs0 bl f0 l qs o ocs J fs f L) (P' : PoolM H0 B F' p dp s' M Q U most m') (J' : J B F' X' (Eo j fs f l o) M L') (S : Step (fun b => F b ∨ X b) (fun b => F' b ∨ X' b) A B) :
  PartI H0 B F' X' p dp Q most s' M U m' j cs0 bl f0 l qs o ocs J fs f L' ∧ Step (fun b => F b ∨ Eo j fs f l o b ∨ X b) (fun b => F' b ∨ Eo j fs f l o b ∨ X' b) A B := by
 have hlt := h.lt
 have nE : ∀ b, Eo j fs f l o b → ¬ (F b ∨ X b) := fun b u v => v.elim (h.off b u).2 fun w => (SJ.bnd h.src b w).2.2.2 u
 refine ⟨⟨P', h.jo.mod S.mod (nE _ (.inl (.inl rfl))), h.fsl.mod S.mod fun b hb => nE b (.inl (.inr (.inr (.inl hb)))), ⟨h.ff.row.mod S.mod (nE _ (.inl (.inr (.inl rfl)))), Owns.mod h.ff.wait S.mod fun b hb => nE b (.inl (.inr (.inr (.inr hb))))⟩, h.st, h.ok, h.same, J', fun b u => ⟨(h.off b u).1, fun v => S.not (hlt b u) (nE b u) (.inl v)⟩, h.lo.mod S.mod fun b hb => nE b (.inr (.inl hb)), h.lx, h.oo.mod S.mod (nE _ (.inr (.inr rfl))), h.ne⟩, ?_⟩
 refine S.widen (fun b u => u.imp id .inr) fun b u => ?_
 rcases u with u | u | u
 ·exact .inr (.inl u)
 ·exact .inl (.inr (.inl u))
 ·exact .inr (.inr u)
end
section
variable {H0 A B : Heap} {F F' X : Nat → Prop} {p dp Q U most m j : Nat} {s s' : Pl} {M M' : Files} {f f0 g : HFile} {fs l cols : Sl} {bl qs : List Nat} {cs0 ocs : Array Value} {J : Jm} {N : ByteArray → Prop} {L : List (List Int)} {cl : List Int} {i d o : Nat} {level : Int} {more : Value} {ns : List ByteArray}
theorem PartI.ext [Tab] (SJ : MoreS H0 p dp Q most j cs0 more N J) (h : PartI H0 A F X p dp Q most s M U m j cs0 bl f0 l qs o ocs J fs f L) (e : Ext A B) : PartI H0 B F X p dp Q most s M U m j cs0 bl f0 l qs o ocs J fs f L :=
 ⟨h.P.grow e, h.jo.ext e, h.fsl.ext e, ⟨h.ff.row.ext e, Owns.ext h.ff.wait e⟩, h.st, h.ok, h.same, SJ.write h.src ⟨Ext.mod e, fun b u => .inl u⟩ h.lt fun _ _ => rfl, h.off, h.lo.ext e, h.lx, h.oo.ext e, h.ne⟩
set_option maxHeartbeats 4000000 in
set_option maxRecDepth 10000 in
theorem part_ok [Tab] {K : Int → Heap → Prop} (SJ : MoreS H0 p dp Q most j cs0 more N J) (h : PartI H0 A F X p dp Q most s M U m j cs0 bl f l qs o (fileV 16 g) J fs f L) (hg : Gl H0) (hQ : Q ≤ 1048576) (hU : U + L.length + 1 < Q) (hm : m + 2 * L.length + 4 < 30000000000)
  (h0 : cs0[0]? = some (.pointer (at0 p))) (h12 : 12 < cs0.size) (hbl : bl.length + 1 ≤ 1000) (hmd : f.made = false) (hrw : f.rows = []) (hgp : g.pd = []) (hnm : named f.name = true) (hsn : f.name.size ≤ 9223372036854775807) (hns : ∀ a y, M a = some y → a ∈ ns) (hin : f.name ∈ ns) (hnl : ns.length < 4096) (hN : ¬ N f.name)
  (hL : ∀ x ∈ L, x.length = 16 ∧ fitsL x) (hLn : L.length ≤ 1000) (hx : cs0[i + 1]? = some cols.v) (hi : i + 1 ≠ 12) (hc : Ints .i64 A cols cl) (hcl : cl.length ≤ 1000) (hcb : ∀ a, cols.a = some a → ¬ (F a.block ∨ Eo j fs f l o a.block ∨ X a.block))
  (hd : ∀ x ∈ L, Int.tmod (sumW (turnL x cl) level) 2 = (d : Int)) (hd2 : d < 2) (hqs : qs.length = 2) (hq : qs[d]? = some f.blk) (hqo : ∀ k, k < 2 → k ≠ d → qs[k]? = some o)
  (hK : ∀ F' X' s' M' U' m' fs' f' B, PartI H0 B F' X' p dp Q most s' M' U' m' j cs0 bl f l qs o (fileV 16 g) J fs' f' [] → U' ≤ U + L.length + 1 → m' ≤ m + 2 * L.length + 3 → f'.pd = [] → f'.rows = L → (∀ a, a ≠ f.name → M' a = M a) → Step (fun b => F b ∨ Eo j fs f l o b ∨ X b) (fun b => F' b ∨ Eo j fs' f' l o b ∨ X' b) A B → K 0 B) : ZbX.sp (at0 j) (some (Addr.add ⟨j, 0, none⟩ i)) level l more A K := by
 have hln : l.n = 2 := by have := h.lo.1; rw [List.length_map, hqs] at this; omega
 have w2 : IntKind.u64.wrap (l.n : Int) = 2 := by rw [hln]; decide
 have hsz : (sizeL ((16 : Nat) : Int)).toNat = 128 := by decide
 refine ZbX.of ?_
 unfold ZbX.vc
 -- what lies at the end of the list of files
 have hblf : ∀ {f1 : HFile}, (filesL bl f f1).length ≤ 1000 := fun {f1} => by
  unfold filesL
  rw [List.length_append]
  split <;> simp <;> omega
 have hns' : ∀ {M1 : Files}, (∀ a, a ≠ f.name → M1 a = M a) → ∀ a y, M1 a = some y → a ∈ ns := fun {M1} ho a y ha => by
  by_cases e : a = f.name
  ·rw [e]; exact hin
  ·rw [ho a e] at ha; exact hns a y ha
 -- all is told: the files' waiting rows are laid aside
 have fin : ∀ {F1 X1 : Nat → Prop} {s1 : Pl} {M1 : Files} {U1 m1 : Nat} {fs1 : Sl} {f1 : HFile} {A1 : Heap}, PartI H0 A1 F1 X1 p dp Q most s1 M1 U1 m1 j cs0 bl f l qs o (fileV 16 g) J fs1 f1 [] → U1 ≤ U + L.length → m1 ≤ m + 2 * L.length + 2 → f1.rows = L → (∀ a, a ≠ f.name → M1 a = M a) → Step (fun b => F b ∨ Eo j fs f l o b ∨ X b) (fun b => F1 b ∨ Eo j fs1 f1 l o b ∨ X1 b) A A1 →
   LoopVC Int (0 : Int) A1 fun next_2 z_2 H8 => br (decide (z_2 < (l.n : Int))) (optK l.a fun a_2 => (0 ≤ z_2 ∧ z_2 < (l.n : Int)) ∧ ld cPtr H8 (a_2.add (z_2.toNat * 1)) fun (f_1 : Option Addr) => Zcy.sp (at0 j) f_1 H8 fun (e_2 : Int) H9 => br (e_2 != (0 : Int)) (K e_2 H9) (next_2 (IntKind.i64.wrap (z_2 + (1 : Int))) H9)) (K (0 : Int) H8) := by
  intro F1 X1 s1 M1 U1 m1 fs1 f1 A1 I1 hU1 hm1 hr1 ho1 S1
  refine loop_upto 2 (fun k z A2 => z = (k : Int) ∧ ((k ≤ d ∧ A2 = A1) ∨ (d < k ∧ ∃ F' X' s' M' U' m' fs' f', PartI H0 A2 F' X' p dp Q most s' M' U' m' j cs0 bl f l qs o (fileV 16 g) J fs' f' [] ∧ U' ≤ U + L.length + 1 ∧ m' ≤ m + 2 * L.length + 3 ∧ f'.pd = [] ∧ f'.rows = L ∧ (∀ a, a ≠ f.name → M' a = M a) ∧ Step (fun b => F b ∨ Eo j fs f l o b ∨ X b) (fun b => F' b ∨ Eo j fs' f' l o b ∨ X' b) A A2))) ⟨rfl, .inl ⟨Nat.zero_le _, rfl⟩⟩ ?_
  rintro k _ A2 next hk ⟨rfl, hst⟩ hnext
  by_cases hk2 : k = 2
  ·subst hk2
   refine br_f (by rw [hln]; rfl) ?_
   rcases hst with ⟨q, _⟩ | ⟨_, F', X', s', M', U', m', fs', f', I', q1, q2, q3, q4, q5, q6⟩
   ·omega
   ·exact hK F' X' s' M' U' m' fs' f' A2 I' q1 q2 q3 q4 q5 q6
  ·have hk : k < 2 := by omega
   refine br_t (by rw [hln]; exact decide_eq_true (by omega)) ?_
   have hnx : IntKind.i64.wrap ((k : Int) + 1) = ((k + 1 : Nat) : Int) := succ64 k (by omega)
   by_cases hkd : k = d
   ·rcases hst with ⟨_, rfl⟩ | ⟨q, _⟩
    ·refine fptr_ld I1.lo (q := f1.blk) (by rw [hkd, hq, I1.same.1]) rfl fun ad ha => ?_
     by_cases hpd : f1.pd = []
     ·refine out_none I1.ff.row hpd ?_
      refine br_f rfl (hnext hk _ _ ⟨hnx, .inr ⟨by omega, F1, X1, s1, M1, U1, m1, fs1, f1, I1, by omega, by omega, hpd, hr1, ho1, S1⟩⟩)
     ·have hj0 := (I1.off j (.inl (.inl rfl))).1
      have hlen := hB_len (W := 16) (L := f1.pd) (by decide) fun x hx => (I1.ok.rows x (List.mem_append.2 (.inr hx))).1
      have hpl := I1.ok.pd
      rw [hsz] at hlen
      have hcl1 := I1.ok.len
      rw [hr1] at hcl1
      refine out_ok (f := f1) I1.P hg hQ (by omega) (by omega) I1.jo (by rw [Array.getElem?_setIfInBounds_ne (by decide)]; exact h0) (by rw [Array.getElem?_setIfInBounds_self_of_lt h12]) hj0 I1.fsl hblf I1.ff I1.st hpd (by omega) (by omega) (by rw [I1.same.2]; exact hnm) (by rw [I1.same.2]; exact hsn) (hns' ho1) hnl (fun b u => I1.off b (.inl u)) fun F2 s2 M2 fs2 B P2 jo2 fsl2 ff2 st2 oth2 S2 off2 => ?_
      rw [set_twice] at jo2
      have ok2 : FOK 3 16 (outF f1) := by
       refine ⟨by show 0 < 3; decide, fun c hc' => ?_, fun x hx' => I1.ok.rows x (by rw [outF_rows] at hx'; exact hx')⟩
       rcases List.mem_append.1 (show c ∈ f1.cs ++ [f1.pd] from hc') with u | u
       ·exact I1.ok.cs c u
       ·rw [List.mem_singleton.1 u]; exact ⟨hpd, by omega⟩
      obtain ⟨I2, T2⟩ := I1.laid (f' := outF f1) SJ (by rw [I1.same.2]; exact hN) hmd P2 jo2 (by
       have : filesL (filesL bl f f1) f1 (outF f1) = filesL bl f f1 ++ if f1.made then [] else [f1.blk] := by
        show filesL bl f f1 ++ _ = _
        unfold outF
        cases f1.made <;> simp
       rw [this]; exact fsl2) ff2 st2 ok2 ⟨rfl, rfl⟩ (fun _ => rfl) oth2 S2 off2
      refine br_f rfl (hnext hk _ _ ⟨hnx, .inr ⟨by omega, F2, X1, s2, M2, U1 + 1, m1 + 1, fs2, outF f1, I2, by omega, by omega, rfl, by rw [outF_rows]; exact hr1, fun a ha => (oth2 a (by rw [I1.same.2]; exact ha)).trans (ho1 a ha), S1.trans T2⟩⟩)
    ·omega
   ·rcases hst with ⟨q, rfl⟩ | ⟨q, F', X', s', M', U', m', fs', f', I', q1⟩
    ·refine fptr_ld I1.lo (q := o) (hqo k hk hkd) rfl fun ad ha => ?_
     have hob : RowT A2 (HFile.blk { g with blk := o }) Yaz (fileV 16 { g with blk := o }) := I1.oo
     refine out_none hob hgp ?_
     exact br_f rfl (hnext hk _ _ ⟨hnx, .inl ⟨by omega, rfl⟩⟩)
    ·refine fptr_ld I'.lo (q := o) (hqo k hk hkd) rfl fun ad ha => ?_
     have hob : RowT A2 (HFile.blk { g with blk := o }) Yaz (fileV 16 { g with blk := o }) := I'.oo
     refine out_none hob hgp ?_
     exact br_f rfl (hnext hk _ _ ⟨hnx, .inr ⟨by omega, F', X', s', M', U', m', fs', f', I', q1⟩⟩)
 -- row by row
 refine loop_upto L.length (fun k _ A1 => ∃ F1 X1 s1 M1 U1 m1 fs1 f1, PartI H0 A1 F1 X1 p dp Q most s1 M1 U1 m1 j cs0 bl f l qs o (fileV 16 g) J fs1 f1 (L.drop k) ∧ U1 ≤ U + k ∧ m1 ≤ m + 2 * k ∧ f1.rows = L.take k ∧ (∀ a, a ≠ f.name → M1 a = M a) ∧ Step (fun b => F b ∨ Eo j fs f l o b ∨ X b) (fun b => F1 b ∨ Eo j fs1 f1 l o b ∨ X1 b) A A1) ⟨F, X, s, M, U, m, fs, f, h, by omega, by omega, hrw, fun _ _ => rfl, .refl _ _⟩ ?_
 rintro k _ A1 next hk ⟨F1, X1, s1, M1, U1, m1, fs1, f1, I1, hU1, hm1, hr1, ho1, S1⟩ hnext
 refine SJ.next I1.src I1.P (by omega) I1.jo (.inl (.inl rfl)) (I1.off j (.inl (.inl rfl))).2 I1.lt (fun hnil B F2 X2 s2 P2 J2 S2 => ?_) (fun x r y B F2 X2 s2 hL' P2 J2 S2 hy => ?_)
 ·obtain ⟨I2, T2⟩ := I1.told SJ P2 J2 S2
  have hkL : L.length ≤ k := List.drop_eq_nil_iff.1 hnil
  refine br_f rfl (br_f rfl (br_t rfl ?_))
  exact fin I2 (by omega) (by omega) (by rw [hr1, List.take_of_length_le hkL]) ho1 (S1.trans T2)
 ·have hkl : k < L.length := by
   rcases Nat.lt_or_ge k L.length with q | q
   ·exact q
   ·rw [List.drop_of_length_le q] at hL'; cases hL'
  rw [List.drop_eq_getElem_cons hkl] at hL'
  obtain ⟨rfl, rfl⟩ : L[k] = x ∧ L.drop (k + 1) = r := List.cons.inj hL'
  obtain ⟨I2, T2⟩ := I1.told SJ P2 J2 S2
  have S12 := S1.trans T2
  refine br_t rfl ?_
  have hxi : (cs0.setIfInBounds 12 fs1.v)[i + 1]? = some cols.v := by rw [Array.getElem?_setIfInBounds_ne (Ne.symm hi)]; exact hx
  refine sideKey_ok (i := i) I2.jo hxi hy (hc.mod S12.mod hcb) hcl fun ks C ok eC => ?_
  have tl := turnL_len L[k] cl
  refine hashSum_ok ok (by omega) ?_
  have hmem : L[k] ∈ L := List.getElem_mem hkl
  rw [w2, hd _ hmem]
  refine ⟨by decide, ?_⟩
  have I3 := I2.ext SJ eC
  refine fptr_ld I3.lo (q := f1.blk) (i := d) (by rw [hq, I3.same.1]) rfl fun ad ha => ?_
  have hj0 := (I3.off j (.inl (.inl rfl))).1
  refine add_ok (f := f1) (W := 16) (rm := 3) I3.P hg hQ (by omega) (by omega) I3.jo (by rw [Array.getElem?_setIfInBounds_ne (by decide)]; exact h0) (by rw [Array.getElem?_setIfInBounds_self_of_lt h12]) hj0 I3.fsl hblf I3.ff I3.st I3.ok (by decide) (by decide) (by decide) (by decide) (by rw [hr1, List.length_take]; omega) (by rw [I3.same.2]; exact hnm) (by rw [I3.same.2]; exact hsn) (hns' ho1) hnl (hy.ext eC) (hL _ hmem) (fun b u => I3.off b (.inl u)) fun F4 s4 M4 U4 fs4 f4 D P4 hU4 jo4 fsl4 ff4 st4 ok4 hf4 oth4 S4 off4 => ?_
  rw [set_twice] at jo4
  obtain ⟨I4, T4⟩ := I3.laid SJ (by rw [I3.same.2]; exact hN) hmd P4 jo4 fsl4 ff4 st4 ok4 ⟨hf4.1, hf4.2.1⟩ hf4.2.2.2 oth4 S4 off4
  refine br_f rfl (br_f rfl (hnext hkl () D ⟨F4, X2, s4, M4, U4, _, fs4, f4, I4, by omega, by omega, ?_, fun a ha => (oth4 a (by rw [I3.same.2]; exact ha)).trans (ho1 a ha), ?_⟩))
  ·rw [hf4.2.2.1, hr1, List.take_succ_eq_append_getElem hkl]
  ·exact S12.trans ((⟨Ext.mod eC, fun b u => .inl u⟩ : Step _ _ B C).trans T4)
end
section
variable {H0 A B : Heap} {F F' X E E' Z Z' Y : Nat → Prop} {p dp Q U most m j : Nat} {s s' : Pl} {M M' : Files} {f : HFile} {cs0 : Array Value} {L : List (List Int)} {sb lb wb W : Nat} {e : Bool} {sl : Sl} {ls : List (List Int)}
theorem FromB.step [Tab] (h : FromB Z A sb lb wb W e sl ls) (S : Step Z Z' A B) (m : Mod Y A B) (h1 : ¬ Y sb) (h2 : ¬ Y lb) (h3 : Z' sb) (h4 : Z' lb) : FromB Z' B sb lb wb W e sl ls :=
 ⟨h.row.mod m h1, h.cell.mod m h2, h.wid.mod S.mod h.xs.2.2, h.rows.step S, h.cap, h.cols, ⟨h3, h4, fun u => S.not (obj_lt h.wid) h.xs.2.2 u⟩, h.ne⟩
theorem widen3 [Tab] (S : Step (fun b => F b ∨ E b) (fun b => F' b ∨ E' b) A B) : Step (fun b => F b ∨ E b ∨ X b) (fun b => F' b ∨ E' b ∨ X b) A B := S.widen (fun b u => u.imp id .inl) fun b u => by
 rcases u with u | u | u
 ·exact .inr (.inl u)
 ·exact .inr (.inr u)
 ·exact .inl (.inr (.inr u))
theorem PoolM.write1 [Tab] {k : Nat} (hP : PoolM H0 A F p dp s M Q U most m) (mm : Mod (fun b => b = k) A B) (hk : H0.size ≤ k) (hF : ¬ F k) : PoolM H0 B F p dp s M Q U most m :=
 hP.aside ⟨Nat.le_trans hP.ext.size mm.size, fun b hb _ => (mm.same b (Nat.lt_of_lt_of_le hb hP.ext.size) fun u => by omega).trans (hP.ext.same b hb id)⟩ fun b hb => mm.same b (hP.pool.lt b hb) fun u => hF (u ▸ hb)
structure RdJ (H0 A : Heap) (F X E : Nat → Prop) (M : Files) (j cap cap1 rb : Nat) (f : HFile) (L : List (List Int)) : Prop where
 ex : ∃ pg ins L1, RowT A rb Yas (rdrV f.blk pg ins) ∧ RowsX (fun b => (E b ∨ b = rb) ∨ F b) A ins L1 ∧ ins.n ≤ ins.c ∧ pg ≤ f.cs.length ∧ L = L1 ++ (f.cs.drop pg).flatten
 x : ∀ b, X b ↔ b = rb
 c0 : RowT A cap Yah #[.pointer (at0 j)]
 c1 : RowT A cap1 Yag #[.pointer (at0 rb)]
 ff : RowT A f.blk Yaz (fileV 16 f)
 st : Stored M f
 rbo : H0.size ≤ rb ∧ ¬ F rb ∧ ¬ E rb
 nf : (¬ F cap ∧ ¬ E cap) ∧ (¬ F cap1 ∧ ¬ E cap1) ∧ ¬ F f.blk ∧ ¬ E f.blk
theorem RdJ.lt [Tab] {cap cap1 rb : Nat} (h : RdJ H0 A F X E M j cap cap1 rb f L) : rb < A.size := by obtain ⟨pg, ins, L1, r, _⟩ := h.ex; exact obj_lt r
set_option maxRecDepth 100000 in
set_option maxHeartbeats 2000000 in
theorem rd_more [Tab] {cap cap1 rb : Nat} {c : FuncId} (hc : c = ZbC.no ∨ c = ZbD.no) (hg : Gl H0) (hQ : Q ≤ 1048576) (h0 : cs0[0]? = some (.pointer (at0 p))) (ok : FOK 3 16 f) (hn : f.rows.length ≤ 1000) (hsn : f.name.size ≤ 9223372036854775807) :
  MoreS H0 p dp Q most j cs0 (.func (.func c) #[] #[.pointer (at0 cap), .pointer (at0 cap1)]) (fun a => a = f.name) (fun A F X E M L => RdJ H0 A F X E M j cap cap1 rb f L) := by
 have hsz : (sizeL ((16 : Nat) : Int)).toNat = 128 := by decide
 refine ⟨fun {A F X E M L} h b u => ?_, fun {A B F F' X E E' M M' L} h S hE hM => ?_, fun {A F X E M L s U m fv K} h hP hm jo hEj hFj hEl hK0 hK1 => ?_⟩
 ·have u := (h.x b).1 u
  subst u
  exact ⟨h.lt, h.rbo⟩
 ·obtain ⟨pg, ins, L1, r, rows, q1, q2, q3⟩ := h.ex
  have nn : ∀ {b : Nat}, (¬ F b ∧ ¬ E b) → ¬ (F b ∨ E b) := fun h u => u.elim h.1 h.2
  have nb : ∀ {b : Nat}, b < A.size → (¬ F b ∧ ¬ E b) → ¬ F' b ∧ ¬ E' b := fun hb h => ⟨fun u => S.not hb (nn h) (.inl u), fun u => S.not hb (nn h) (.inr u)⟩
  have S2 : Step (fun b => (E b ∨ b = rb) ∨ F b) (fun b => (E' b ∨ b = rb) ∨ F' b) A B := S.widen (fun b u => u.elim .inr fun v => .inl (.inl v)) fun b u => by
   rcases u with (u | u) | u
   ·exact .inr (.inr u)
   ·exact .inl (.inl (.inr u))
   ·exact .inr (.inl u)
  refine ⟨⟨pg, ins, L1, r.mod S.mod (nn h.rbo.2), rows.step S2, q1, q2, q3⟩, h.x, h.c0.mod S.mod (nn h.nf.1), h.c1.mod S.mod (nn h.nf.2.1), h.ff.mod S.mod (nn h.nf.2.2), ?_, ⟨h.rbo.1, nb h.lt h.rbo.2⟩, nb (obj_lt h.c0) h.nf.1, nb (obj_lt h.c1) h.nf.2.1, nb (obj_lt h.ff) h.nf.2.2⟩
  have e := hM f.name rfl
  exact ⟨fun u => by rw [e]; exact h.st.made u, fun u => by rw [e]; exact h.st.none u⟩
 ·obtain ⟨pg, ins, L1, r, rows, q1, q2, q3⟩ := h.ex
  have hX : X = fun b => b = rb := funext fun b => propext (h.x b)
  subst hX
  have h0' : (cs0.setIfInBounds 12 fv)[0]? = some (.pointer (at0 p)) := by rw [Array.getElem?_setIfInBounds_ne (by decide)]; exact h0
  have rd : ∀ {K : (Sl × Bool × Int) → Heap → Prop}, (L = [] → ∀ B F' X' s', PoolM H0 B F' p dp s' M Q U most (m + 1) → RdJ H0 B F' X' E M j cap cap1 rb f [] → Step (fun b => F b ∨ b = rb) (fun b => F' b ∨ X' b) A B → K (Sl.mk none 0 0, false, 0) B) →
    (∀ l r y B F' X' s', L = l :: r → PoolM H0 B F' p dp s' M Q U most (m + 1) → RdJ H0 B F' X' E M j cap cap1 rb f r → Step (fun b => F b ∨ b = rb) (fun b => F' b ∨ X' b) A B → Ints .u64 B y l → K (y, true, 0) B) →
    Zcg.sp (at0 j) (at0 rb) A K := by
   intro K k0 k1
   refine read_ok (rm := 3) (W := 16) (Y := fun b => E b ∨ b = rb) hP hg hQ hm jo h0' hFj r ⟨h.rbo.1, h.rbo.2.1⟩ rows q1 (fun b u => u.elim (hEl b) fun v => v ▸ h.lt) (.inr rfl) h.ff h.nf.2.2.1 h.st ok q2 (by decide) (fun c hc => ?_) (by have := ok.len; omega) hsn (fun e1 e2 => ?_) fun l L' pg' ins' y B F' s' hl P' r' rows' c' hpg' hy _ S' hF' => ?_
   ·have h1 := hB_len (L := c) (W := 16) (by decide) fun x hx => (ok.rows x (List.mem_append.2 (.inl (List.mem_flatten.2 ⟨c, hc, hx⟩)))).1
    have := (ok.cs c hc).2
    rw [hsz] at h1
    omega
   ·subst e1
    have hL : L = [] := by rw [q3, e2, List.drop_length]; rfl
    exact k0 hL A F _ s (hP.later (Nat.le_succ m)) ⟨⟨pg, ins, [], r, rows, q1, q2, hL.symm.trans q3⟩, h.x, h.c0, h.c1, h.ff, h.st, h.rbo, h.nf⟩ (.refl _ _)
   ·rw [← q3] at hl
    have hnr : ∀ {x : Nat} {t : TypeId} {cs : Array Value}, RowT A x t cs → t ≠ Yas → ¬ F x → ¬ (F x ∨ x = rb) := fun {x t cs} rx ht hF u => u.elim hF fun v => rowNe rx r ht v
    have nF : ∀ {b : Nat}, b < A.size → ¬ F b → ¬ F' b := fun {b} hb h u => (hF' b u).elim h fun w => by omega
    refine k1 l _ y B F' (fun b => b = rb) s' hl P' ⟨⟨pg', ins', L', r', rows', c', hpg', rfl⟩, fun _ => Iff.rfl, h.c0.mod S'.mod (hnr h.c0 (by decide) h.nf.1.1), h.c1.mod S'.mod (hnr h.c1 (by decide) h.nf.2.1.1), h.ff.mod S'.mod (hnr h.ff (by decide) h.nf.2.2.1), h.st, ⟨h.rbo.1, nF h.lt h.rbo.2.1, h.rbo.2.2⟩, ⟨nF (obj_lt h.c0) h.nf.1.1, h.nf.1.2⟩, ⟨nF (obj_lt h.c1) h.nf.2.1.1, h.nf.2.1.2⟩, nF (obj_lt h.ff) h.nf.2.2.1, h.nf.2.2.2⟩ S' hy
  rcases hc with rfl | rfl
  ·refine callV_fn #[.pointer (at0 cap), .pointer (at0 cap1)] rfl (by kernel_rfl) ?_
   refine ZbC.of ?_
   unfold ZbC.vc
   refine ldp (c := cPtr) (x := at0 j) h.c0 (ldp (c := cPtr) (x := at0 rb) h.c1 ?_)
   exact rd hK0 hK1
  ·refine callV_fn #[.pointer (at0 cap), .pointer (at0 cap1)] rfl (by kernel_rfl) ?_
   refine ZbD.of ?_
   unfold ZbD.vc
   refine ldp (c := cPtr) (x := at0 j) h.c0 (ldp (c := cPtr) (x := at0 rb) h.c1 ?_)
   exact rd hK0 hK1
structure FrJ (H0 A : Heap) (F X E : Nat → Prop) (sb lb wb : Nat) (L : List (List Int)) : Prop where
 ex : ∃ e sl, FromB (fun b => F b ∨ E b ∨ X b) A sb lb wb 16 e sl L ∧ (e = true → L = [])
 x : X sb ∧ X lb
 bnd : ∀ b, X b → b < A.size ∧ H0.size ≤ b ∧ ¬ F b ∧ ¬ E b
theorem FrJ.write [Tab] (h : FrJ H0 A F X E sb lb wb L) (S : Step (fun b => F b ∨ E b) (fun b => F' b ∨ E' b) A B) : FrJ H0 B F' X E' sb lb wb L := by
 obtain ⟨e, sl, h1, h2⟩ := h.ex
 have nX : ∀ b, X b → ¬ (F b ∨ E b) := fun b u v => v.elim (h.bnd b u).2.2.1 (h.bnd b u).2.2.2
 exact ⟨⟨e, sl, h1.step (widen3 S) S.mod (nX _ h.x.1) (nX _ h.x.2) (.inr (.inr h.x.1)) (.inr (.inr h.x.2)), h2⟩, h.x, fun b u => ⟨Nat.lt_of_lt_of_le (h.bnd b u).1 S.mod.size, (h.bnd b u).2.1, fun v => S.not (h.bnd b u).1 (nX b u) (.inl v), fun v => S.not (h.bnd b u).1 (nX b u) (.inr v)⟩⟩
theorem FrJ.next [Tab] {K : (Sl × Bool × Int) → Heap → Prop} (h : FrJ H0 A F X E sb lb wb L)
  (hK0 : L = [] → ∀ B k, X k → FrJ H0 B F X E sb lb wb [] → Mod (fun b => b = k) A B → K (Sl.mk none 0 0, false, 0) B)
  (hK1 : ∀ l r y B, L = l :: r → FrJ H0 B F X E sb lb wb r → Mod (fun b => b = lb) A B → Ints .u64 B y l → (∀ a, y.a = some a → a.block < B.size ∧ ¬ (F a.block ∨ E a.block ∨ X a.block)) → K (y, true, 0) B) : ZbW.sp (at0 sb) A K := by
 obtain ⟨e, sl, h1, h2⟩ := h.ex
 cases e with
 | true =>
   have hL := h2 rfl
   subst hL
   exact next_ended (un := Sl.mk none 0 0) (feed := .nilIface) h1.row (hK0 rfl A lb h.x.2 h (.refl _ _))
 | false =>
   refine from_next h1 (fun l r y B s' hl fB mB iy oy => ?_) fun hl B fB mB => ?_
   ·exact hK1 l r y B hl ⟨⟨false, s', fB, fun u => by cases u⟩, h.x, fun b u => ⟨Nat.lt_of_lt_of_le (h.bnd b u).1 mB.size, (h.bnd b u).2⟩⟩ mB iy oy
   ·exact hK0 hl B sb h.x.1 ⟨⟨true, sl, fB, fun _ => rfl⟩, h.x, fun b u => ⟨Nat.lt_of_lt_of_le (h.bnd b u).1 mB.size, (h.bnd b u).2⟩⟩ mB
set_option maxRecDepth 100000 in
theorem fr_more [Tab] : MoreS H0 p dp Q most j cs0 (.func (.func ZbW.no) #[.pointer (at0 sb)] #[]) (fun _ => False) (fun A F X E _ L => FrJ H0 A F X E sb lb wb L) := by
 refine ⟨fun {A F X E M L} h b u => h.bnd b u, fun {A B F F' X E E' M M' L} h S hE hM => h.write S, fun {A F X E M L s U m fv K} h hP hm jo hEj hFj hEl hK0 hK1 => ?_⟩
 have hcall : callable Tryz.prog ZbW.no = true := by kernel_rfl
 unfold CallV
 simp only [hcall, cond_true]
 refine h.next (fun hl B k hk hB mB => ?_) fun l r y B hl hB mB iy _ => ?_
 ·exact hK0 hl B F X s ((hP.write1 mB (h.bnd k hk).2.1 (h.bnd k hk).2.2.1).later (Nat.le_succ m)) hB ⟨mB.mono fun b _ u => .inr (u ▸ hk), fun b u => .inl u⟩
 ·exact hK1 l r y B F X s hl ((hP.write1 mB (h.bnd lb h.x.2).2.1 (h.bnd lb h.x.2).2.2.1).later (Nat.le_succ m)) hB ⟨mB.mono fun b _ u => .inr (u ▸ h.x.2), fun b u => .inl u⟩ iy
structure HdJ (H0 A : Heap) (F X E : Nat → Prop) (j hc cap sb lb wb : Nat) (L : List (List Int)) : Prop where
 ex : ∃ hs L1 L2, RowT A hc Yam #[Sl.v hs] ∧ RowsX (fun b => F b ∨ E b ∨ X b) A hs L1 ∧ hs.n ≤ hs.c ∧ FrJ H0 A F X E sb lb wb L2 ∧ L = L1 ++ L2
 x : X hc
 ne : hc ≠ lb
 c0 : RowT A cap Yah #[.pointer (at0 j)]
 nf : ¬ F cap ∧ ¬ E cap ∧ ¬ X cap
set_option maxRecDepth 100000 in
set_option maxHeartbeats 2000000 in
theorem hd_more [Tab] {hc cap : Nat} (h5 : cs0[5]? = some (.pointer (at0 sb))) : MoreS H0 p dp Q most j cs0 (.func (.func ZbE.no) #[] #[.pointer (at0 hc), .pointer (at0 cap)]) (fun _ => False) (fun A F X E _ L => HdJ H0 A F X E j hc cap sb lb wb L) := by
 refine ⟨fun {A F X E M L} h b u => ?_, fun {A B F F' X E E' M M' L} h S hE hM => ?_, fun {A F X E M L s U m fv K} h hP hm jo hEj hFj hEl hK0 hK1 => ?_⟩
 ·obtain ⟨hs, L1, L2, _, _, _, fj, _⟩ := h.ex
  exact fj.bnd b u
 ·obtain ⟨hs, L1, L2, r, rows, q1, fj, q2⟩ := h.ex
  have nX : ∀ b, X b → ¬ (F b ∨ E b) := fun b u v => v.elim (fj.bnd b u).2.2.1 (fj.bnd b u).2.2.2
  have nc : ¬ (F cap ∨ E cap) := fun u => u.elim h.nf.1 h.nf.2.1
  exact ⟨⟨hs, L1, L2, r.mod S.mod (nX _ h.x), rows.step (widen3 S), q1, fj.write S, q2⟩, h.x, h.ne, h.c0.mod S.mod nc, fun u => S.not (obj_lt h.c0) nc (.inl u), fun u => S.not (obj_lt h.c0) nc (.inr u), h.nf.2.2⟩
 ·obtain ⟨hs, L1, L2, r, rows, q1, fj, q2⟩ := h.ex
  refine callV_fn #[.pointer (at0 hc), .pointer (at0 cap)] rfl (by kernel_rfl) ?_
  refine ZbE.of ?_
  unfold ZbE.vc
  refine ldp (c := cSl) (x := hs) r ?_
  have hn := rows.len
  have hcx := fj.bnd hc h.x
  cases L1 with
  | cons l L1 =>
    have hn : hs.n = L1.length + 1 := hn
    refine br_t (by rw [hn]; exact decide_eq_true (by omega)) ?_
    refine ldp (c := cSl) (x := hs) r ?_
    obtain ⟨ad, y, e1, e2, e3, e4⟩ := rows.at' 0 (by simp)
    refine optK_mk ad e1 ⟨⟨Int.le_refl _, by omega⟩, y, by simpa using e2, ?_⟩
    refine ldp (c := cSl) (x := hs) r ⟨⟨by decide, by omega⟩, ?_⟩
    have t1 : ((1 : Int).toNat) = 1 := rfl
    rw [t1]
    have hst := RowT.st (i := 0) (v := Sl.v ⟨slA hs.a hs.c 1 1, hs.n - 1, hs.c - 1⟩) r (by simp) rfl (K := fun H1 => K (y, true, 0) H1)
    refine hst fun B rB mB zB => ?_
    have rB : RowT B hc Yam #[Sl.v ⟨slA hs.a hs.c 1 1, hs.n - 1, hs.c - 1⟩] := rB
    have mX : Mod (fun b => F b ∨ E b ∨ X b) A B := mB.mono fun b _ u => .inr (.inr (u ▸ h.x))
    have hcr : RowT A hc Yam #[Sl.v hs] := r
    obtain ⟨ee, sl, f1, f2⟩ := fj.ex
    have fj' : FrJ H0 B F X E sb lb wb L2 := ⟨⟨ee, sl, f1.step ⟨mX, fun b u => .inl u⟩ mB (fun u => by
      have := f1.row
      exact rowNe this hcr (by decide) u) (fun u => h.ne u.symm) f1.xs.1 f1.xs.2.1, f2⟩, fj.x, fun b u => ⟨Nat.lt_of_lt_of_le (fj.bnd b u).1 mB.size, (fj.bnd b u).2⟩⟩
    refine hK1 l (L1 ++ L2) y B F X s q2 ((hP.write1 mB hcx.2.1 hcx.2.2.1).later (Nat.le_succ m)) ⟨⟨_, L1, L2, rB, ?_, by show hs.n - 1 ≤ hs.c - 1; omega, fj', rfl⟩, h.x, h.ne, h.c0.mod mB (fun u => h.nf.2.2 (u ▸ h.x)), h.nf⟩ ⟨mB.mono fun b _ u => .inr (u ▸ h.x), fun b u => .inl u⟩ (e4.mod mX fun a ha => (e3 a ha).2)
    exact (rows.drop q1 (i := 1) (by simp)).mod mX
  | nil =>
    have hn : hs.n = 0 := hn
    refine br_f (by rw [hn]; rfl) ?_
    refine ldp (c := cPtr) (x := at0 j) h.c0 ?_
    simp only [optK_eq, at0, add_add, Nat.reduceAdd]
    refine RowT.ld (c := cPtr) (i := 5) (x := at0 sb) jo (by rw [Array.getElem?_setIfInBounds_ne (by decide)]; exact h5) ?_
    have q2 : L = L2 := q2
    subst q2
    have keep : ∀ {B k L'}, FrJ H0 B F X E sb lb wb L' → Mod (fun b => b = k) A B → X k → k ≠ hc → HdJ H0 B F X E j hc cap sb lb wb L' := fun {B k L'} hB mB hk hne =>
     ⟨⟨hs, [], L', r.mod mB fun u => hne u.symm, rows.mod (mB.mono fun b _ u => .inr (.inr (u ▸ hk))), q1, hB, rfl⟩, h.x, h.ne, h.c0.mod mB (fun u => h.nf.2.2 (u ▸ hk)), h.nf⟩
    obtain ⟨ee, sl, f1, f2⟩ := fj.ex
    cases ee with
    | true =>
      have hL := f2 rfl
      subst hL
      exact next_ended (un := Sl.mk none 0 0) (feed := .nilIface) f1.row (hK0 rfl A F X s (hP.later (Nat.le_succ m)) h (.refl _ _))
    | false =>
      refine from_next f1 (fun l r' y B s' hl fB mB iy oy => ?_) fun hl B fB mB => ?_
      ·have hx := fj.x.2
       exact hK1 l r' y B F X s hl ((hP.write1 mB (fj.bnd lb hx).2.1 (fj.bnd lb hx).2.2.1).later (Nat.le_succ m)) (keep ⟨⟨false, s', fB, fun u => by cases u⟩, fj.x, fun b u => ⟨Nat.lt_of_lt_of_le (fj.bnd b u).1 mB.size, (fj.bnd b u).2⟩⟩ mB hx (Ne.symm h.ne)) ⟨mB.mono fun b _ u => .inr (u ▸ hx), fun b u => .inl u⟩ iy
      ·have hx := fj.x.1
       exact hK0 hl B F X s ((hP.write1 mB (fj.bnd sb hx).2.1 (fj.bnd sb hx).2.2.1).later (Nat.le_succ m)) (keep ⟨⟨true, sl, fB, fun _ => rfl⟩, fj.x, fun b u => ⟨Nat.lt_of_lt_of_le (fj.bnd b u).1 mB.size, (fj.bnd b u).2⟩⟩ mB hx (rowNe f1.row r (by decide))) ⟨mB.mono fun b _ u => .inr (u ▸ hx), fun b u => .inl u⟩
end
theorem u64_range (x : Int) : 0 ≤ IntKind.u64.wrap x ∧ IntKind.u64.wrap x < 18446744073709551616 := by
 simp only [IntKind.wrap, IntKind.bits, IntKind.signed]
 simp
 omega
theorem sumW_range (l : List Int) (lv : Int) : 0 ≤ sumW l lv := by
 unfold sumW
 rcases List.eq_nil_or_concat l with rfl | ⟨l', a, rfl⟩
 ·exact (u64_range _).1
 ·rw [List.concat_eq_append, List.foldl_append]
  exact (u64_range _).1
def partD (Kk : List Int) (lv : Int) : Nat := (sumW Kk lv).toNat % 2
theorem partD_lt (Kk : List Int) (lv : Int) : partD Kk lv < 2 := Nat.mod_lt _ (by decide)
theorem partD_eq (Kk : List Int) (lv : Int) : Int.tmod (sumW Kk lv) 2 = (partD Kk lv : Int) := by
 have h := sumW_range Kk lv
 obtain ⟨n, hn⟩ : ∃ n : Nat, sumW Kk lv = (n : Int) := ⟨(sumW Kk lv).toNat, by omega⟩
 unfold partD
 rw [hn, show (2 : Int) = ((2 : Nat) : Int) from rfl, ← Int.ofNat_tmod]
 rfl
structure Jc where
 nx : Nat
 gb : Nat
 begun : Bool
 tasks : Sl
 fs : Sl
 na : Option Addr
 nb : Option Addr
 lv : Int
 tb : Option Nat
 held : Nat
 fr : Option Addr
 lf : Option Addr
 row : Sl
 mt : Sl
 ex : List Nat
 eg : Nat → Option Obj
def joW (c : Cfg) (x : Jc) : Array Value :=
 #[.pointer (at0 c.pb), .string hNm, .pointer (at0 c.sa), c.ca.v, .int .i64 16, .pointer (at0 c.sb), c.cb.v, .int .i64 16, .int .i64 3, .int .i64 (x.nx : Int), .bool x.begun, x.tasks.v, x.fs.v, .pointer x.na, .pointer x.nb, .int .i64 x.lv, .map x.tb, .int .i64 (x.held : Int), .pointer x.fr, .pointer x.lf, x.row.v, x.mt.v]
structure Tk where
 a : HFile
 b : HFile
 lv : Nat
def ETk : Enc Tk := ⟨3, fun t => [ptrV t.a.blk, ptrV t.b.blk, .int .i64 (t.lv : Int)], fun _ => rfl, fun x u hu => by simp at hu; rcases hu with rfl | rfl | rfl <;> rfl⟩
theorem elTk [Tab] : ElT Tryz.prog Yap Yav ETk.size 24 := ElT_of (by kernel_rfl)
def tfs (ts : List Tk) : List HFile := ts.flatMap fun t => [t.a, t.b]
structure FileR (H0 A : Heap) (F : Nat → Prop) (M : Files) (nx : Nat) (f : HFile) : Prop where
 row : RowT A f.blk Yaz (fileV 16 f)
 lo : H0.size ≤ f.blk
 nF : ¬ F f.blk
 st : Stored M f
 ok : FOK 3 16 f
 nm : ∃ k, k < nx ∧ f.name = nmR hNm k
 pd : f.pd = []
 few : f.rows.length ≤ 300
def KeyR (cl Kk : List Int) (rows : List (List Int)) : Prop := ∀ r ∈ rows, turnL r cl = Kk
structure TS [Tab] (H0 : Heap) (c : Cfg) (dp Q most : Nat) (cla clb Kk : List Int) (A : Heap) (F : Nat → Prop) (s : Pl) (M : Files) (U m : Nat) (x : Jc) (bl : List Nat) (nw : List HFile) (ts : List Tk) : Prop where
 P : PoolM H0 A F c.pb dp s M Q U most m
 jo : RowT A c.j Yaq (joW c x)
 jF : H0.size ≤ c.j ∧ ¬ F c.j
 tk : SlE ETk Yav A x.tasks ts
 tko : ∀ b, ownB x.tasks b → H0.size ≤ b ∧ ¬ F b
 fsl : Owns A 0 Yal 1 x.fs (bl.map ptrV)
 fso : ∀ b, ownB x.fs b → H0.size ≤ b ∧ ¬ F b
 all : ∀ q ∈ bl, (∃ cs, RowT A q Yaz cs) ∧ ¬ F q
 bn : bl.length ≤ x.gb
 files : ∀ f ∈ nw ++ tfs ts, FileR H0 A F M x.nx f
 names : ((nw ++ tfs ts).map HFile.name).Nodup
 only : ∀ a y, M a = some y → ∃ f ∈ nw ++ tfs ts, f.name = a
 mt : OwnE A x.mt
 mto : ∀ b, ownB x.mt b → H0.size ≤ b ∧ ¬ F b
 ca : Owns A 0 YaM 1 c.ca (cla.map (Value.int .i64))
 cao : ∀ b, ownB c.ca b → ¬ F b
 cb : Owns A 0 YaM 1 c.cb (clb.map (Value.int .i64))
 cbo : ∀ b, ownB c.cb b → ¬ F b
 keys : ∀ t ∈ ts, KeyR cla Kk t.a.rows ∧ KeyR clb Kk t.b.rows
def Saf (A : Heap) (b : Nat) : Prop := ∀ cs t, A[b]? = some (.cells cs t (0, 0)) → t ≠ Yav ∧ t ≠ Yal ∧ t ≠ Yaz ∧ t ≠ YaM
theorem Saf.row {A : Heap} {b : Nat} {t : TypeId} {cs : Array Value} (r : RowT A b t cs) (h : t ≠ Yav ∧ t ≠ Yal ∧ t ≠ Yaz ∧ t ≠ YaM) : Saf A b := fun cs' t' h' => by
 have := cells_ty r h'
 subst this
 exact h
section
variable {H0 A B : Heap} {c : Cfg} {dp Q most U U' m m' : Nat} {cla clb Kk : List Int} {F F' Y Y' : Nat → Prop} {s s' : Pl} {M M' : Files} {x x' : Jc} {bl bl' : List Nat} {nw nw' : List HFile} {ts : List Tk} {f g : HFile}
theorem FileR.go [Tab] {nx nx' : Nat} (h : FileR H0 A F M nx f) (S : Step (fun b => F b ∨ Y b) (fun b => F' b ∨ Y' b) A B) (hy : ¬ Y f.blk) (hM : M' f.name = M f.name) (hn : nx ≤ nx') : FileR H0 B F' M' nx' f := by
 have hn1 : ¬ (F f.blk ∨ Y f.blk) := fun u => u.elim h.nF hy
 refine ⟨h.row.mod S.mod hn1, h.lo, fun u => S.not (obj_lt h.row) hn1 (.inl u), ⟨fun u => by rw [hM]; exact h.st.made u, fun u => by rw [hM]; exact h.st.none u⟩, h.ok, ?_, h.pd, h.few⟩
 obtain ⟨k, h1, h2⟩ := h.nm
 exact ⟨k, by omega, h2⟩
theorem TS.go [Tab] (h : TS H0 c dp Q most cla clb Kk A F s M U m x bl nw ts) (S : Step (fun b => F b ∨ Y b) (fun b => F' b ∨ Y' b) A B) (P' : PoolM H0 B F' c.pb dp s' M' Q U' most m') (jo' : RowT B c.j Yaq (joW c x')) (hj : ¬ F' c.j)
  (h1 : ∀ b, ownB x.tasks b → ¬ Y b) (h3 : ∀ b, ownB x.mt b → ¬ Y b) (h4 : ∀ b, (ownB c.ca b ∨ ownB c.cb b) → ¬ Y b) (hx : x'.tasks = x.tasks ∧ x'.mt = x.mt ∧ x.nx ≤ x'.nx)
  (fsl' : Owns B 0 Yal 1 x'.fs (bl'.map ptrV)) (fso' : ∀ b, ownB x'.fs b → H0.size ≤ b ∧ ¬ F' b) (all' : ∀ q ∈ bl', (∃ cs, RowT B q Yaz cs) ∧ ¬ F' q) (bn' : bl'.length ≤ x'.gb)
  (files' : ∀ f ∈ nw' ++ tfs ts, FileR H0 B F' M' x'.nx f) (names' : ((nw' ++ tfs ts).map HFile.name).Nodup) (only' : ∀ a y, M' a = some y → ∃ f ∈ nw' ++ tfs ts, f.name = a) : TS H0 c dp Q most cla clb Kk B F' s' M' U' m' x' bl' nw' ts := by
 obtain ⟨x1, x2, _⟩ := hx
 have n1 : ∀ b, ownB x.tasks b → ¬ (F b ∨ Y b) := fun b hb u => u.elim (h.tko b hb).2 (h1 b hb)
 have n3 : ∀ b, ownB x.mt b → ¬ (F b ∨ Y b) := fun b hb u => u.elim (h.mto b hb).2 (h3 b hb)
 have na : ∀ b, ownB c.ca b → ¬ (F b ∨ Y b) := fun b hb u => u.elim (h.cao b hb) (h4 b (.inl hb))
 have nb : ∀ b, ownB c.cb b → ¬ (F b ∨ Y b) := fun b hb u => u.elim (h.cbo b hb) (h4 b (.inr hb))
 refine ⟨P', jo', ⟨h.jF.1, hj⟩, by rw [x1]; exact Owns.mod h.tk S.mod n1, fun b hb => ?_, fsl', fso', all', bn', files', names', only', by rw [x2]; exact h.mt.mod S.mod n3, fun b hb => ?_, h.ca.mod S.mod na, fun b hb u => S.not (h.ca.block b hb).2 (na b hb) (.inl u), h.cb.mod S.mod nb, fun b hb u => S.not (h.cb.block b hb).2 (nb b hb) (.inl u), h.keys⟩
 ·rw [x1] at hb
  exact ⟨(h.tko b hb).1, fun u => S.not (Owns.block h.tk b hb).2 (n1 b hb) (.inl u)⟩
 ·rw [x2] at hb
  exact ⟨(h.mto b hb).1, fun u => S.not (h.mt.lt b hb) (n3 b hb) (.inl u)⟩
theorem TS.beside [Tab] (h : TS H0 c dp Q most cla clb Kk A F s M U m x bl nw ts) (S : Step (fun b => F b ∨ Y b) (fun b => F' b ∨ Y' b) A B) (P' : PoolM H0 B F' c.pb dp s' M Q U' most m') (jo' : RowT B c.j Yaq (joW c x')) (hj : ¬ F' c.j)
  (hY : ∀ b, Y b → b < A.size → Saf A b ∧ ¬ ownB x.mt b) (hx : x'.tasks = x.tasks ∧ x'.mt = x.mt ∧ x'.fs = x.fs ∧ x.nx ≤ x'.nx ∧ x'.gb = x.gb) : TS H0 c dp Q most cla clb Kk B F' s' M U' m' x' bl nw ts := by
 obtain ⟨x1, x2, x3, x4, x5⟩ := hx
 have nT : ∀ {b : Nat} {cs : Array Value} {t : TypeId}, A[b]? = some (.cells cs t (0, 0)) → (t = Yav ∨ t = Yal ∨ t = Yaz ∨ t = YaM) → ¬ Y b := fun {b cs t} hb ht hy => by
  obtain ⟨q1, q2, q3, q4⟩ := (hY b hy (obj_lt hb)).1 cs t hb
  rcases ht with u | u | u | u
  ·exact q1 u
  ·exact q2 u
  ·exact q3 u
  ·exact q4 u
 have nf : ∀ b, ownB x.fs b → ¬ (F b ∨ Y b) := fun b hb u => u.elim (h.fso b hb).2 (by
  obtain ⟨cur, e⟩ := h.fsl.obj b hb
  exact nT e (.inr (.inl rfl)))
 refine h.go S P' jo' hj (fun b hb => ?_) (fun b hb u => (hY b u (h.mt.lt b hb)).2 hb) (fun b hb => ?_) ⟨x1, x2, x4⟩ (by rw [x3]; exact h.fsl.mod S.mod nf) (fun b hb => ?_) (fun q hq => ?_) (by have := h.bn; omega) (fun f hf => (h.files f hf).go S (nT (h.files f hf).row (.inr (.inr (.inl rfl)))) rfl x4) h.names h.only
 ·obtain ⟨cur, e⟩ := Owns.obj h.tk b hb
  exact nT e (.inl rfl)
 ·rcases hb with hb | hb
  ·obtain ⟨cur, e⟩ := h.ca.obj b hb
   exact nT e (.inr (.inr (.inr rfl)))
  ·obtain ⟨cur, e⟩ := h.cb.obj b hb
   exact nT e (.inr (.inr (.inr rfl)))
 ·rw [x3] at hb
  exact ⟨(h.fso b hb).1, fun u => S.not (h.fsl.block b hb).2 (nf b hb) (.inl u)⟩
 ·obtain ⟨⟨cs, r⟩, hF⟩ := h.all q hq
  have nq : ¬ (F q ∨ Y q) := fun u => u.elim hF (nT r (.inr (.inr (.inl rfl))))
  exact ⟨⟨cs, r.mod S.mod nq⟩, fun u => S.not (obj_lt r) nq (.inl u)⟩
theorem TS.ext [Tab] (h : TS H0 c dp Q most cla clb Kk A F s M U m x bl nw ts) (e : Ext A B) : TS H0 c dp Q most cla clb Kk B F s M U m x bl nw ts :=
 h.beside (Y := fun _ => False) (Y' := fun _ => False) ⟨Ext.mod e, fun b u => .inl u⟩ (h.P.grow e) (h.jo.ext e) h.jF.2 (fun b u => u.elim) ⟨rfl, rfl, rfl, Nat.le_refl _, rfl⟩
theorem TS.own [Tab] (h : TS H0 c dp Q most cla clb Kk A F s M U m x bl nw ts) (mm : Mod (fun b => b = c.j) A B) (jo' : RowT B c.j Yaq (joW c x')) (hx : x'.tasks = x.tasks ∧ x'.mt = x.mt ∧ x'.fs = x.fs ∧ x.nx ≤ x'.nx ∧ x'.gb = x.gb) : TS H0 c dp Q most cla clb Kk B F s M U m x' bl nw ts :=
 h.beside (Y := fun b => b = c.j) (Y' := fun b => b = c.j) ⟨mm.mono fun b _ u => .inr u, fun b u => .inl u⟩ (h.P.write1 mm h.jF.1 h.jF.2) jo' h.jF.2 (fun b u _ => by
  subst u
  refine ⟨Saf.row h.jo (by decide), fun u => ?_⟩
  obtain ⟨cur, e⟩ := h.mt.obj _ u
  exact absurd (cells_ty h.jo e) (by decide)) hx
theorem blk_name [Tab] (h1 : RowT A f.blk Yaz (fileV 16 f)) (h2 : RowT A g.blk Yaz (fileV 16 g)) (h : f.blk = g.blk) : f.name = g.name := by
 rw [h] at h1
 have e : (some (Obj.cells (fileV 16 f) Yaz (0, 0)) : Option Obj) = some (Obj.cells (fileV 16 g) Yaz (0, 0)) := h1.symm.trans h2
 have e2 : fileV 16 f = fileV 16 g := by injection e with e; injection e
 have e3 := congrArg (fun a : Array Value => a[0]?) e2
 simp [fileV] at e3
 exact e3
theorem FileR.named [Tab] (h : FileR H0 A F M x.nx f) (hn : x.nx ≤ 100) : named f.name = true ∧ f.name.size ≤ 9223372036854775807 := by
 obtain ⟨k, h1, h2⟩ := h.nm
 rw [h2]
 refine ⟨nmR_named (by omega) (by decide), ?_⟩
 have := (nmR_size (name := hNm) (j := k) (by omega)).1
 have e : hNm.size = 1 := rfl
 omega
theorem TS.add [Tab] (h : TS H0 c dp Q most cla clb Kk A F s M U m x bl nw ts) (hn : x.nx ≤ 90) {f0 f1 : Nat} (mm : Mod (fun b => b = c.j) A B) (h0 : HFileAt B 16 (newF f0 x.nx)) (h1 : HFileAt B 16 (newF f1 (x.nx + 1))) (hl : A.size ≤ f0 ∧ A.size ≤ f1) (jo' : RowT B c.j Yaq (joW c { x with nx := x.nx + 2 })) : TS H0 c dp Q most cla clb Kk B F s M U m { x with nx := x.nx + 2 } bl (nw ++ [newF f0 x.nx, newF f1 (x.nx + 1)]) ts := by
 have h' := h.own (x' := { x with nx := x.nx + 2 }) mm jo' ⟨rfl, rfl, rfl, by show x.nx ≤ x.nx + 2; omega, rfl⟩
 have hz := h.P.ext.size
 have hF : ∀ b, A.size ≤ b → ¬ F b := fun b hb u => by have := h.P.pool.lt b u; omega
 have old : ∀ f ∈ nw ++ tfs ts, ∀ k, x.nx ≤ k → nmR hNm k ≠ f.name := fun f hf k hk e => by
  obtain ⟨i, h1, h2⟩ := (h.files f hf).nm
  rw [h2] at e
  exact nmR_ne (by omega) (by omega) e
 have noM : ∀ k, x.nx ≤ k → M (nmR hNm k) = none := fun k hk => by
  cases hq : M (nmR hNm k) with
  | none => rfl
  | some y =>
    obtain ⟨f, hf, e⟩ := h.only _ y hq
    exact absurd e.symm (old f hf k hk)
 have new : ∀ b k, x.nx ≤ k → k < x.nx + 2 → HFileAt B 16 (newF b k) → H0.size ≤ b → ¬ F b → FileR H0 B F M (x.nx + 2) (newF b k) := fun b k hk hk2 hb hl hF =>
  ⟨hb.row, hl, hF, ⟨(fun u => by cases u), fun _ => ⟨noM k hk, rfl⟩⟩, ⟨(by show 0 < 3; decide), (fun c hc => by cases hc), (fun l hl => by cases hl)⟩, ⟨k, hk2, rfl⟩, rfl, Nat.zero_le _⟩
 have perm : (nw ++ [newF f0 x.nx, newF f1 (x.nx + 1)] ++ tfs ts).Perm ([newF f0 x.nx, newF f1 (x.nx + 1)] ++ (nw ++ tfs ts)) := by
  rw [← List.append_assoc]
  exact List.Perm.append_right _ List.perm_append_comm
 refine ⟨h'.P, jo', h'.jF, h'.tk, h'.tko, h'.fsl, h'.fso, h'.all, h'.bn, fun f hf => ?_, ?_, fun a y ha => ?_, h'.mt, h'.mto, h'.ca, h'.cao, h'.cb, h'.cbo, h'.keys⟩
 ·rcases List.mem_append.1 (perm.mem_iff.1 hf) with u | u
  ·rcases List.mem_cons.1 u with rfl | u
   ·exact new f0 _ (Nat.le_refl _) (by omega) h0 (by omega) (hF _ hl.1)
   ·rw [List.mem_singleton.1 u]
    exact new f1 _ (by omega) (by omega) h1 (by omega) (hF _ hl.2)
  ·exact h'.files f u
 ·refine (perm.map HFile.name).nodup_iff.2 ?_
  have e1 : nmR hNm x.nx ≠ nmR hNm (x.nx + 1) := nmR_ne (by omega) (by omega)
  have o0 : ∀ f ∈ nw ++ tfs ts, f.name ≠ nmR hNm x.nx := fun f hf e => old f hf x.nx (Nat.le_refl _) e.symm
  have o1 : ∀ f ∈ nw ++ tfs ts, f.name ≠ nmR hNm (x.nx + 1) := fun f hf e => old f hf (x.nx + 1) (by omega) e.symm
  show (nmR hNm x.nx :: nmR hNm (x.nx + 1) :: (nw ++ tfs ts).map HFile.name).Nodup
  rw [List.nodup_cons, List.nodup_cons]
  refine ⟨fun u => ?_, fun u => ?_, h.names⟩
  ·rcases List.mem_cons.1 u with u | u
   ·exact e1 u
   ·obtain ⟨f, hf, e⟩ := List.mem_map.1 u
    exact o0 f hf e
  ·obtain ⟨f, hf, e⟩ := List.mem_map.1 u
   exact o1 f hf e
 ·obtain ⟨f, hf, e⟩ := h.only a y ha
  exact ⟨f, perm.mem_iff.2 (List.mem_append.2 (.inr hf)), e⟩
end
section
variable {H0 A B : Heap} {c : Cfg} {dp Q most U U' m m' : Nat} {cla clb Kk cl : List Int} {F F' X Y Y' : Nat → Prop} {s s' : Pl} {M M' : Files} {x x' : Jc} {bl bl' qs : List Nat} {nw nw' : List HFile} {ts : List Tk} {f g o : HFile} {J : Jm} {N : ByteArray → Prop} {L : List (List Int)} {l cols : Sl} {i : Nat} {level : Int} {more : Value}
theorem goneM_some [Tab] (st : Stored M f) {a : ByteArray} {y : St} (h : goneM M f a = some y) : a ≠ f.name ∧ M a = some y := by
 unfold goneM at h
 split at h
 ·by_cases e : a = f.name
  ·rw [e, setF_same] at h; cases h
  ·rw [setF_other e] at h; exact ⟨e, h⟩
 ·rename_i hm
  refine ⟨fun e => ?_, h⟩
  rw [e, (st.none (by simpa using hm)).1] at h
  cases h
theorem goneM_other [Tab] {a : ByteArray} (h : a ≠ f.name) : goneM M f a = M a := by
 unfold goneM
 split
 ·exact setF_other h
 ·rfl
theorem goneB_sub {q : Nat} (h : q ∈ goneB bl f) : q ∈ bl := by
 unfold goneB at h
 split at h
 ·exact (List.mem_filter.1 h).1
 ·exact h
theorem goneB_len : (goneB bl f).length ≤ bl.length := by
 unfold goneB
 split
 ·exact List.length_filter_le _ _
 ·exact Nat.le_refl _
set_option maxRecDepth 10000 in
theorem TS.gone [Tab] {K : Int → Heap → Prop} {lv : Int} (h : TS H0 c dp Q most cla clb Kk A F s M U m x bl (f :: g :: nw) ts) (hg : Gl H0) (hgb : x.gb ≤ 90)
  (hK : ∀ F' s' M' U' fs' bl' B, TS H0 c dp Q most cla clb Kk B F' s' M' U' (m + 4200) { x with fs := fs' } bl' nw ts → U' ≤ U → Step (fun b => F b ∨ DrX c.j x.fs b) (fun b => F' b ∨ DrX c.j fs' b) A B → K 0 B) : Zcf.sp (at0 c.j) (at0 f.blk) (at0 g.blk) lv A K := by
 have hf := h.files f (by simp)
 have hgf := h.files g (by simp)
 have hnd := h.names
 have hnd : (f.name :: g.name :: (nw ++ tfs ts).map HFile.name).Nodup := hnd
 rw [List.nodup_cons, List.nodup_cons] at hnd
 obtain ⟨n1, n2, n3⟩ := hnd
 have hne : f.name ≠ g.name := fun e => n1 (by rw [e]; exact List.mem_cons_self)
 have off : ∀ b, DrX c.j x.fs b → H0.size ≤ b ∧ ¬ F b := fun b u => u.elim (fun v => v ▸ h.jF) (h.fso b)
 have o1 : ∀ e ∈ nw ++ tfs ts, e.name ≠ f.name ∧ e.name ≠ g.name := fun e he => ⟨fun q => n1 (List.mem_cons_of_mem _ (List.mem_map.2 ⟨e, he, q⟩)), fun q => n2 (List.mem_map.2 ⟨e, he, q⟩)⟩
 have hbn := h.bn
 refine gone_ok h.P hg h.jo rfl rfl h.fsl (by omega) h.all hf.row hf.st hf.nF hgf.row hgf.st hgf.nF hne off fun F' s' U' fs' B P' hU' jo' fsl' S' off' hF' => ?_
 have stg1 : Stored (goneM M f) g := ⟨fun u => by rw [goneM_other (Ne.symm hne)]; exact hgf.st.made u, fun u => by rw [goneM_other (Ne.symm hne)]; exact hgf.st.none u⟩
 have nT : ∀ {b : Nat} {cs : Array Value} {t : TypeId}, A[b]? = some (.cells cs t (0, 0)) → t ≠ Yaq → t ≠ Yal → ¬ DrX c.j x.fs b := fun {b cs t} hb h1 h2 u => by
  rcases u with u | u
  ·subst u
   exact h1 (cells_ty hb h.jo)
  ·obtain ⟨cur, e⟩ := h.fsl.obj b u
   exact h2 (cells_ty hb e)
 refine hK F' s' _ U' fs' _ B (h.go (x' := { x with fs := fs' }) S' P' jo' (off' c.j (.inl rfl)).2 (fun b hb => ?_) (fun b hb => ?_) (fun b hb => ?_) ⟨rfl, rfl, Nat.le_refl _⟩ fsl' (fun b hb => off' b (.inr hb)) (fun q hq => ?_) ?_ (fun e he => ?_) n3 fun a y ha => ?_) hU' S'
 ·obtain ⟨cur, e⟩ := Owns.obj h.tk b hb
  exact nT e (by decide) (by decide)
 ·obtain ⟨cur, e⟩ := h.mt.obj b hb
  exact nT e (by decide) (by decide)
 ·rcases hb with hb | hb
  ·obtain ⟨cur, e⟩ := h.ca.obj b hb
   exact nT e (by decide) (by decide)
  ·obtain ⟨cur, e⟩ := h.cb.obj b hb
   exact nT e (by decide) (by decide)
 ·obtain ⟨⟨cs, r⟩, hF⟩ := h.all q (goneB_sub (goneB_sub hq))
  have nq : ¬ (F q ∨ DrX c.j x.fs q) := fun u => u.elim hF (nT r (by decide) (by decide))
  exact ⟨⟨cs, r.mod S'.mod nq⟩, fun u => S'.not (obj_lt r) nq (.inl u)⟩
 ·have := goneB_len (bl := goneB bl f) (f := g)
  have := goneB_len (bl := bl) (f := f)
  show (goneB (goneB bl f) g).length ≤ x.gb
  omega
 ·have hfe := h.files e (List.mem_cons_of_mem _ (List.mem_cons_of_mem _ he))
  obtain ⟨q1, q2⟩ := o1 e he
  exact hfe.go S' (nT hfe.row (by decide) (by decide)) (by rw [goneM_other q2, goneM_other q1]) (Nat.le_refl _)
 ·obtain ⟨q1, q2⟩ := goneM_some stg1 ha
  obtain ⟨q3, q4⟩ := goneM_some hf.st q2
  obtain ⟨e, he, q5⟩ := h.only a y q4
  rcases List.mem_cons.1 he with u | u
  ·exact absurd (q5.symm.trans (congrArg HFile.name u)) q3
  ·rcases List.mem_cons.1 u with v | v
   ·exact absurd (q5.symm.trans (congrArg HFile.name v)) q1
   ·exact ⟨e, v, q5⟩
noncomputable def rep (f' g : HFile) : HFile := open Classical in if g.name = f'.name then f' else g
theorem rep_same [Tab] {f' : HFile} (h : g.name = f'.name) : rep f' g = f' := if_pos h
theorem rep_other [Tab] {f' : HFile} (h : g.name ≠ f'.name) : rep f' g = g := if_neg h
theorem rep_name [Tab] {f' : HFile} : (rep f' g).name = g.name := by
 by_cases h : g.name = f'.name
 ·rw [rep_same h, h]
 ·rw [rep_other h]
set_option maxRecDepth 10000 in
set_option maxHeartbeats 1000000 in
theorem TS.part [Tab] {K : Int → Heap → Prop} (SJ : MoreS H0 c.pb dp Q most c.j (joW c x) more N J) (h : TS H0 c dp Q most cla clb Kk A F s M U m x bl nw ts) (hf : f ∈ nw) (ho : o ∈ nw) (hne : o.name ≠ f.name) (hmd : f.made = false) (hrw : f.rows = []) (hwt : f.wait = Sl.mk none 0 0)
  (src : J A F X (Eo c.j x.fs f l o.blk) M L) (hX : ∀ b, X b → b < A.size → Saf A b ∧ ¬ ownB x.mt b) (lo : Owns A 0 Yal 1 l (qs.map ptrV)) (lof : ∀ b, ownB l b → H0.size ≤ b ∧ ¬ F b ∧ ¬ ownB x.fs b)
  (hg : Gl H0) (hQ : Q ≤ 1048576) (hU : U + 302 < Q) (hm : m + 1000 < 30000000000) (hnx : x.nx ≤ 90) (hgb : x.gb ≤ 90) (hN : ¬ N f.name) (hL : ∀ r ∈ L, r.length = 16 ∧ fitsL r) (hLn : L.length ≤ 300)
  (side : (i = 2 ∧ cols = c.ca ∧ cl = cla) ∨ (i = 5 ∧ cols = c.cb ∧ cl = clb)) (hcl : cl.length ≤ 1000) (hk : KeyR cl Kk L) (hqs : qs.length = 2) (hq : qs[partD Kk level]? = some f.blk) (hqo : ∀ k, k < 2 → k ≠ partD Kk level → qs[k]? = some o.blk)
  (hK : ∀ (F' X' : Nat → Prop) s' M' U' m' fs' bl' f' B, TS H0 c dp Q most cla clb Kk B F' s' M' U' m' { x with fs := fs', gb := x.gb + 1 } bl' (nw.map (rep f')) ts → U' ≤ U + L.length + 1 → m' ≤ m + 2 * L.length + 3 → f'.rows = L → f'.name = f.name → f'.blk = f.blk → (∀ a, a ≠ f.name → M' a = M a) → Owns B 0 Yal 1 l (qs.map ptrV) → (∀ b, ownB l b → ¬ F' b ∧ ¬ ownB fs' b) → Step (fun b => F b ∨ Eo c.j x.fs f l o.blk b ∨ X b) (fun b => F' b ∨ Eo c.j fs' f' l o.blk b ∨ X' b) A B → K 0 B) : ZbX.sp (at0 c.j) (some (Addr.add ⟨c.j, 0, none⟩ i)) level l more A K := by
 have hfm : f ∈ nw ++ tfs ts := List.mem_append.2 (.inl hf)
 have hom : o ∈ nw ++ tfs ts := List.mem_append.2 (.inl ho)
 have hfr := h.files f hfm
 have hor := h.files o hom
 have hbn := h.bn
 have ebl : filesL bl f f = bl := by
  unfold filesL
  cases f.made <;> simp
 have wty : ∀ b, ¬ ownB f.wait b := fun b u => by rw [hwt] at u; exact nilOwn b u
 have nE : ∀ {b : Nat} {cs : Array Value} {t : TypeId}, A[b]? = some (.cells cs t (0, 0)) → t ≠ Yaq → t ≠ Yal → t ≠ Yaz → ¬ Eo c.j x.fs f l o.blk b := fun {b cs t} hb h1 h2 h3 u => by
  rcases u with (u | u | u | u) | u | u
  ·subst u; exact h1 (cells_ty hb h.jo)
  ·subst u; exact h3 (cells_ty hb hfr.row)
  ·obtain ⟨cur, e⟩ := h.fsl.obj b u; exact h2 (cells_ty hb e)
  ·exact wty b u
  ·obtain ⟨cur, e⟩ := lo.obj b u; exact h2 (cells_ty hb e)
  ·subst u; exact h3 (cells_ty hb hor.row)
 have nX : ∀ {b : Nat} {cs : Array Value} {t : TypeId}, A[b]? = some (.cells cs t (0, 0)) → (t = Yav ∨ t = Yal ∨ t = Yaz ∨ t = YaM) → ¬ X b := fun {b cs t} hb ht hy => by
  obtain ⟨q1, q2, q3, q4⟩ := (hX b hy (obj_lt hb)).1 cs t hb
  rcases ht with u | u | u | u
  ·exact q1 u
  ·exact q2 u
  ·exact q3 u
  ·exact q4 u
 have I0 : PartI H0 A F X c.pb dp Q most s M U m c.j (joW c x) bl f l qs o.blk (fileV 16 o) J x.fs f L := by
  refine ⟨h.P, by rw [set_same rfl]; exact h.jo, by rw [ebl]; exact h.fsl, ⟨hfr.row, by rw [hwt]; rw [show f.pd = [] from hfr.pd]; exact SlE.nil _ _ _⟩, hfr.st, hfr.ok, ⟨rfl, rfl⟩, src, fun b u => ?_, lo, fun b hb u => ?_, hor.row, fun e => hne (blk_name hor.row hfr.row e)⟩
  ·rcases u with (u | u | u | u) | u | u
   ·exact u ▸ h.jF
   ·exact u ▸ ⟨hfr.lo, hfr.nF⟩
   ·exact h.fso b u
   ·exact absurd u (wty b)
   ·exact ⟨(lof b u).1, (lof b u).2.1⟩
   ·exact u ▸ ⟨hor.lo, hor.nF⟩
  ·obtain ⟨cur, e⟩ := lo.obj b hb
   rcases u with u | u | u | u
   ·subst u; exact absurd (cells_ty e h.jo) (by decide)
   ·subst u; exact absurd (cells_ty e hfr.row) (by decide)
   ·exact (lof b hb).2.2 u
   ·exact wty b u
 obtain ⟨hn1, hn2⟩ := hfr.named (by omega)
 have hns : ∀ e ∈ nw ++ tfs ts, e.name ∈ (List.range 100).map (nmR hNm) := fun e he => by
  obtain ⟨k, q1, q2⟩ := (h.files e he).nm
  exact List.mem_map.2 ⟨k, List.mem_range.2 (by omega), q2.symm⟩
 have hcolsI : Ints .i64 A cols cl := by
  rcases side with ⟨_, rfl, rfl⟩ | ⟨_, rfl, rfl⟩
  ·exact h.ca.ints
  ·exact h.cb.ints
 have hcolb : ∀ a, cols.a = some a → ¬ (F a.block ∨ Eo c.j x.fs f l o.blk a.block ∨ X a.block) := fun a ha u => by
  have : ∃ cur, A[a.block]? = some (.cells cur YaM (0, 0)) ∧ ¬ F a.block := by
   rcases side with ⟨_, rfl, rfl⟩ | ⟨_, rfl, rfl⟩
   ·obtain ⟨cur, e⟩ := h.ca.obj _ ⟨a, ha, rfl⟩
    exact ⟨cur, e, h.cao _ ⟨a, ha, rfl⟩⟩
   ·obtain ⟨cur, e⟩ := h.cb.obj _ ⟨a, ha, rfl⟩
    exact ⟨cur, e, h.cbo _ ⟨a, ha, rfl⟩⟩
  obtain ⟨cur, e, hF⟩ := this
  rcases u with u | u | u
  ·exact hF u
  ·exact nE e (by decide) (by decide) (by decide) u
  ·exact nX e (.inr (.inr (.inr rfl))) u
 refine part_ok (g := o) (d := partD Kk level) (ns := (List.range 100).map (nmR hNm)) SJ I0 hg hQ (by omega) (by omega) rfl (by show 12 < 22; decide) (by omega) hmd hrw hor.pd hn1 hn2 (fun a y ha => ?_) (hns f hfm) (by simp) hN hL (by omega) (cols := cols) (cl := cl) ?_ ?_ hcolsI hcl hcolb (fun r hr => by rw [hk r hr]; exact partD_eq Kk level) (partD_lt Kk level) hqs hq hqo fun F' X' s' M' U' m' fs' f' B I' hU' hm' hpd' hrows' hM' S' => ?_
 ·obtain ⟨e, he, q⟩ := h.only a y ha
  rw [← q]; exact hns e he
 ·rcases side with ⟨rfl, rfl, _⟩ | ⟨rfl, rfl, _⟩ <;> rfl
 ·rcases side with ⟨rfl, _⟩ | ⟨rfl, _⟩ <;> decide
 ·have hb' : f'.blk = f.blk := I'.same.1
  have hn' : f'.name = f.name := I'.same.2
  have SY : Step (fun b => F b ∨ (Eo c.j x.fs f l o.blk b ∨ X b)) (fun b => F' b ∨ (Eo c.j fs' f' l o.blk b ∨ X' b)) A B := S'
  have ff' : FileR H0 B F' M' x.nx f' := ⟨I'.ff.row, by rw [hb']; exact hfr.lo, (I'.off f'.blk (.inl (.inr (.inl rfl)))).2, I'.st, I'.ok, by rw [hn']; exact hfr.nm, hpd', by rw [hrows']; exact hLn⟩
  have oth : ∀ e ∈ nw ++ tfs ts, e.name ≠ f.name → FileR H0 B F' M' x.nx e := fun e he hen => by
   have her := h.files e he
   by_cases heo : e.blk = o.blk
   ·have hname := blk_name her.row hor.row heo
    have hrow : RowT B e.blk Yaz (fileV 16 e) := by
     have e1 : (some (Obj.cells (fileV 16 e) Yaz (0, 0)) : Option Obj) = some (Obj.cells (fileV 16 o) Yaz (0, 0)) := her.row.symm.trans (by rw [heo]; exact hor.row)
     have e2 : fileV 16 e = fileV 16 o := by injection e1 with e1; injection e1
     rw [e2, heo]; exact I'.oo
    exact ⟨hrow, her.lo, by rw [heo]; exact (I'.off o.blk (.inr (.inr rfl))).2, ⟨fun u => by rw [hM' _ hen]; exact her.st.made u, fun u => by rw [hM' _ hen]; exact her.st.none u⟩, her.ok, her.nm, her.pd, her.few⟩
   ·refine her.go SY (fun u => ?_) (hM' _ hen) (Nat.le_refl _)
    rcases u with ((u | u | u | u) | u | u) | u
    ·exact absurd (cells_ty her.row (u ▸ h.jo)) (by decide)
    ·exact hen (blk_name her.row hfr.row u)
    ·obtain ⟨cur, q⟩ := h.fsl.obj _ u; exact absurd (cells_ty her.row q) (by decide)
    ·exact wty _ u
    ·obtain ⟨cur, q⟩ := lo.obj _ u; exact absurd (cells_ty her.row q) (by decide)
    ·exact heo u
    ·exact nX her.row (.inr (.inr (.inl rfl))) u
  have hdis : ∀ e ∈ tfs ts, e.name ≠ f.name := fun e he q => by
   have hnd := h.names
   rw [List.map_append, List.nodup_append] at hnd
   exact hnd.2.2 f.name (List.mem_map.2 ⟨f, hf, rfl⟩) e.name (List.mem_map.2 ⟨e, he, rfl⟩) q.symm
  refine hK F' X' s' M' U' m' fs' (filesL bl f f') f' B (h.go (x' := { x with fs := fs', gb := x.gb + 1 }) SY I'.P I'.jo (I'.off c.j (.inl (.inl rfl))).2 (fun b hb u => ?_) (fun b hb u => ?_) (fun b hb u => ?_) ⟨rfl, rfl, Nat.le_refl _⟩ I'.fsl (fun b hb => I'.off b (.inl (.inr (.inr (.inl hb))))) (fun q hq => ?_) ?_ (fun e he => ?_) ?_ fun a y ha => ?_) hU' hm' hrows' hn' hb' hM' I'.lo (fun b hb => ⟨(I'.off b (.inr (.inl hb))).2, fun u => I'.lx b hb (.inr (.inr (.inl u)))⟩) S'
  ·obtain ⟨cur, e⟩ := Owns.obj h.tk b hb
   exact u.elim (nE e (by decide) (by decide) (by decide)) (nX e (.inl rfl))
  ·obtain ⟨cur, e⟩ := h.mt.obj b hb
   exact u.elim (nE e (by decide) (by decide) (by decide)) fun v => (hX b v (obj_lt e)).2 hb
  ·have : ∃ cur, A[b]? = some (.cells cur YaM (0, 0)) := by
    rcases hb with hb | hb
    ·exact h.ca.obj b hb
    ·exact h.cb.obj b hb
   obtain ⟨cur, e⟩ := this
   exact u.elim (nE e (by decide) (by decide) (by decide)) (nX e (.inr (.inr (.inr rfl))))
  ·have hq : q ∈ bl ∨ q = f.blk := by
    unfold filesL at hq
    rcases List.mem_append.1 hq with u | u
    ·exact .inl u
    ·split at u
     ·exact .inr (List.mem_singleton.1 u)
     ·cases u
   by_cases hqf : q = f'.blk
   ·rw [hqf]; exact ⟨⟨_, I'.ff.row⟩, (I'.off f'.blk (.inl (.inr (.inl rfl)))).2⟩
   ·rcases hq with hq | hq
    ·by_cases hqo' : q = o.blk
     ·rw [hqo']; exact ⟨⟨_, I'.oo⟩, (I'.off o.blk (.inr (.inr rfl))).2⟩
     ·obtain ⟨⟨cs, r⟩, hF⟩ := h.all q hq
      have nq : ¬ (F q ∨ (Eo c.j x.fs f l o.blk q ∨ X q)) := fun u => by
       rcases u with u | ((u | u | u | u) | u | u) | u
       ·exact hF u
       ·exact absurd (cells_ty r (u ▸ h.jo)) (by decide)
       ·exact hqf (u.trans hb'.symm)
       ·obtain ⟨cur, e⟩ := h.fsl.obj q u; exact absurd (cells_ty r e) (by decide)
       ·exact wty q u
       ·obtain ⟨cur, e⟩ := lo.obj q u; exact absurd (cells_ty r e) (by decide)
       ·exact hqo' u
       ·exact nX r (.inr (.inr (.inl rfl))) u
      exact ⟨⟨cs, r.mod SY.mod nq⟩, fun u => SY.not (obj_lt r) nq (.inl u)⟩
    ·exact absurd (hq.trans hb'.symm) hqf
  ·show (filesL bl f f').length ≤ x.gb + 1
   unfold filesL
   rw [List.length_append]
   split
   ·show bl.length + 1 ≤ _; omega
   ·show bl.length + 0 ≤ _; omega
  ·rcases List.mem_append.1 he with u | u
   ·obtain ⟨e0, h0, rfl⟩ := List.mem_map.1 u
    by_cases q : e0.name = f'.name
    ·rw [rep_same q]; exact ff'
    ·rw [rep_other q]; exact oth e0 (List.mem_append.2 (.inl h0)) (by rw [← hn']; exact q)
   ·exact oth e (List.mem_append.2 (.inr u)) (hdis e u)
  ·rw [List.map_append, List.map_map]
   have e1 : (nw.map (HFile.name ∘ rep f')) = nw.map HFile.name := List.map_congr_left fun e _ => rep_name
   rw [e1, ← List.map_append]; exact h.names
  ·by_cases q : a = f.name
   ·exact ⟨f', List.mem_append.2 (.inl (List.mem_map.2 ⟨f, hf, rep_same hn'.symm⟩)), by rw [q]; exact hn'⟩
   ·rw [hM' a q] at ha
    obtain ⟨e, he, q5⟩ := h.only a y ha
    have hen : e.name ≠ f'.name := by rw [hn', q5]; exact q
    rcases List.mem_append.1 he with u | u
    ·exact ⟨e, List.mem_append.2 (.inl (List.mem_map.2 ⟨e, u, rep_other hen⟩)), q5⟩
    ·exact ⟨e, List.mem_append.2 (.inr u), q5⟩
end
structure SB (n : Nat) (H D : Heap) (T : List (TypeId × Array Value)) : Prop where
 e : Ext H D
 hn : n = H.size
 z : D.size = n + T.length
 at' : ∀ i t cs, T[i]? = some (t, cs) → RowT D (n + i) t cs
theorem SB.nil [Tab] (H : Heap) : SB H.size H H [] := ⟨.refl _ _, rfl, rfl, fun i t cs h => by simp at h⟩
section
variable {n i : Nat} {H D : Heap} {T : List (TypeId × Array Value)} {t : TypeId} {cs : Array Value} {v w : Value}
theorem SB.new [Tab] {K : Addr → Heap → Prop} (h : SB n H D T) (hK : ∀ D', SB n H D' (T ++ [(t, cs)]) → K ⟨n + T.length, 0, none⟩ D') : newC D cs t K := by
 refine newC_rowT fun D' z r e => ?_
 rw [h.z]
 refine hK D' ⟨h.e.trans e, h.hn, by rw [z, h.z, List.length_append, List.length_singleton]; omega, fun i t' cs' hi => ?_⟩
 rcases Nat.lt_or_ge i T.length with q | q
 ·rw [List.getElem?_append_left q] at hi
  exact (h.at' i t' cs' hi).ext e
 ·rw [List.getElem?_append_right q] at hi
  have e0 : i - T.length = 0 := by have := (List.getElem?_eq_some_iff.1 hi).1; simp at this; omega
  rw [e0] at hi
  simp at hi
  obtain ⟨rfl, rfl⟩ := hi
  have : n + i = D.size := by rw [h.z]; omega
  rw [this]; exact r
theorem SB.st [Tab] {K : Heap → Prop} (h : SB n H D T) (hi : T[i]? = some (t, #[w])) (hp : plainV v = true) (hK : ∀ D', SB n H D' (T.set i (t, #[v])) → K D') : Go.Proofs.YtkehfflpbpdokaaGreat.st D ⟨n + i, 0, none⟩ v K := by
 have hst := RowT.st (i := 0) (v := v) (h.at' i t _ hi) (by simp) hp (K := K)
 refine hst fun D' r m z => ?_
 have hil := (List.getElem?_eq_some_iff.1 hi).1
 refine hK D' ⟨?_, h.hn, by rw [z, h.z, List.length_set], fun k t' cs' hk => ?_⟩
 ·have hn := h.hn
  exact ⟨by rw [z]; exact h.e.size, fun b hb _ => (m.same b (by have := h.e.size; omega) fun u => by omega).trans (h.e.same b hb id)⟩
 ·rw [List.getElem?_set] at hk
  split at hk
  ·rename_i e
   subst e
   simp at hk
   obtain ⟨rfl, rfl⟩ := hk
   exact r
  ·rename_i e
   exact (h.at' k t' cs' hk).mod m (by omega)
end
section
variable {H0 A B : Heap} {c : Cfg} {dp Q most U U' m m' j : Nat} {cla clb Kk cl : List Int} {F F' : Nat → Prop} {s s' : Pl} {M M' : Files} {x x' : Jc} {bl bl' : List Nat} {nw nw' : List HFile} {ts ts' : List Tk} {A0 A1 B0 B1 : HFile} {cs0 : Array Value} {tsl la lb : Sl} {lv : Nat}
set_option maxRecDepth 10000 in
set_option maxHeartbeats 1000000 in
theorem later_ok [Tab] {K : Unit → Heap → Prop} (jo : RowT A j Yaq cs0) (h11 : cs0[11]? = some tsl.v) (tk : SlE ETk Yav A tsl ts) (hn : ts.length ≤ 100) (oa : Owns A 0 Yal 1 la ([A0.blk, A1.blk].map ptrV)) (ob : Owns A 0 Yal 1 lb ([B0.blk, B1.blk].map ptrV))
  (hK : ∀ tsl' B, RowT B j Yaq (cs0.setIfInBounds 11 tsl'.v) → SlE ETk Yav B tsl' (ts ++ [⟨A0, B0, lv⟩, ⟨A1, B1, lv⟩]) → Mod (fun b => b = j ∨ ownB tsl b) A B → (∀ b, ownB tsl' b → ownB tsl b ∨ A.size ≤ b) → K () B) : ZbN.sp (at0 j) la lb (lv : Int) A K := by
 have hs := (Array.getElem?_eq_some_iff.1 h11).1
 have hla : la.n = 2 := by have := oa.1; simp at this; omega
 have hlb : lb.n = 2 := by have := ob.1; simp at this; omega
 refine ZbN.of ?_
 unfold ZbN.vc
 simp only [optK_eq, at0]
 refine loop_upto 2 (fun k z C => z = (k : Int) ∧ ∃ tl, RowT C j Yaq (cs0.setIfInBounds 11 tl.v) ∧ SlE ETk Yav C tl (ts ++ [(⟨A0, B0, lv⟩ : Tk), ⟨A1, B1, lv⟩].take k) ∧ Mod (fun b => b = j ∨ ownB tsl b) A C ∧ ∀ b, ownB tl b → ownB tsl b ∨ A.size ≤ b) ⟨rfl, tsl, by rw [set_same h11]; exact jo, by rw [List.take_zero, List.append_nil]; exact tk, .refl _ _, fun b u => .inl u⟩ ?_
 rintro k _ C next hk ⟨rfl, tl, joC, tkC, mC, oC⟩ hnext
 have nj : ∀ {s : Sl} {ps : List Nat}, Owns A 0 Yal 1 s (ps.map ptrV) → Owns C 0 Yal 1 s (ps.map ptrV) := fun {s ps} o => o.mod mC fun b hb u => u.elim (fun v => own_ne jo o (by decide) (v ▸ hb)) fun v => own_own o (show Owns A 0 Yav 3 tsl (ETk.all ts) from tk) (by decide) b hb v
 have oaC := nj oa
 have obC := nj ob
 by_cases hk2 : k = 2
 ·subst hk2
  refine br_f (by rw [hla]; rfl) ?_
  exact hK tl C joC tkC mC oC
 ·have hk : k < 2 := by omega
  refine br_t (by rw [hla]; exact decide_eq_true (by omega)) ?_
  obtain ⟨qa, qb, hqa, hqb, htk⟩ : ∃ (qa qb : HFile), [A0.blk, A1.blk][k]? = some qa.blk ∧ [B0.blk, B1.blk][k]? = some qb.blk ∧ [(⟨A0, B0, lv⟩ : Tk), ⟨A1, B1, lv⟩].take (k + 1) = [(⟨A0, B0, lv⟩ : Tk), ⟨A1, B1, lv⟩].take k ++ [⟨qa, qb, lv⟩] := by
   have : k = 0 ∨ k = 1 := by omega
   rcases this with rfl | rfl
   ·exact ⟨A0, B0, rfl, rfl, rfl⟩
   ·exact ⟨A1, B1, rfl, rfl, rfl⟩
  refine ⟨fun D => Ext C D, .refl _ _, ?_⟩
  refine RowT.ldC (c := cSl) (i := 11) (x := tl) (cs := fun _ => cs0.setIfInBounds 11 tl.v) (fun D hD => joC.ext hD) (fun _ _ => by rw [Array.getElem?_setIfInBounds_self_of_lt hs]) ?_
  refine fptr_ld oaC (q := qa.blk) hqa rfl fun ad ha => ?_
  obtain ⟨ad2, ha2, hc2⟩ := obC.reads.at (i := k) (by simp; omega)
  have hc2 : hCell C (ad2.add k) = some (ptrV qb.blk) := by
   rw [hc2]
   have : k = 0 ∨ k = 1 := by omega
   rcases this with rfl | rfl
   ·simp at hqb; simp [hqb]
   ·simp at hqb; simp [hqb]
  refine optK_mk ad2 ha2 ⟨⟨by omega, by rw [hlb]; omega⟩, at0 qb.blk, fun D hD => ?_, ?_⟩
  ·rw [Int.toNat_natCast, Nat.mul_one]
   exact (Ext.mod hD (F := fun _ => False)).cell hc2 id
  ·refine SlE.pushJ elTk (x := (⟨qa, qb, lv⟩ : Tk)) tkC rfl (by rw [List.length_append, List.length_take]; simp; omega) (by rw [List.length_append, List.length_take]; simp; omega) (fun D => Ext C D) (fun D _ e => e) fun tl' D tkD g _ => ?_
   have joD := joC.mod g.1 (own_ne joC (show Owns C 0 Yav 3 tl _ from tkC) (by decide))
   refine RowT.st (i := 11) joD (by rw [Array.size_setIfInBounds]; exact hs) (by cases tl'; rfl) fun E rE mE zE => ?_
   rw [set_twice] at rE
   have zC := mC.size
   have zD := g.1.size
   have m2 : Mod (fun b => ownB tl b ∨ b = j) C E := (g.1.mono fun b _ u => .inl u).trans (mE.mono fun b _ u => .inr u)
   refine hnext hk _ _ ⟨succ64 k (by omega), tl', rE, ?_, mC.trans' m2 fun b hb u => u.elim (fun v => (oC b v).elim .inr fun w => by omega) .inl, fun b hb => (g.2 b hb).elim (oC b) fun w => .inr (by omega)⟩
   rw [htk, ← List.append_assoc]
   exact Owns.mod tkD mE fun b hb u => own_ne joD (show Owns D 0 Yav 3 tl' _ from tkD) (by decide) (u ▸ hb)
theorem TS.swap [Tab] (h : TS H0 c dp Q most cla clb Kk A F s M U m x bl nw ts) (mm : Mod (fun b => b = c.j ∨ ownB x.tasks b) A B) (jo' : RowT B c.j Yaq (joW c { x with tasks := tsl })) (tk' : SlE ETk Yav B tsl ts') (ho : ∀ b, ownB tsl b → ownB x.tasks b ∨ A.size ≤ b) (hp : (nw' ++ tfs ts').Perm (nw ++ tfs ts)) (hk : ∀ t ∈ ts', KeyR cla Kk t.a.rows ∧ KeyR clb Kk t.b.rows) :
  TS H0 c dp Q most cla clb Kk B F s M U m { x with tasks := tsl } bl nw' ts' := by
 have hz := h.P.ext.size
 have nT : ∀ {b : Nat} {cs : Array Value} {t : TypeId}, A[b]? = some (.cells cs t (0, 0)) → t ≠ Yaq → t ≠ Yav → ¬ (b = c.j ∨ ownB x.tasks b) := fun {b cs t} hb h1 h2 u => by
  rcases u with u | u
  ·subst u; exact h1 (cells_ty hb h.jo)
  ·obtain ⟨cur, e⟩ := Owns.obj h.tk b u
   exact h2 (cells_ty hb e)
 have nO : ∀ {b : Nat} {s : Sl} {t : TypeId}, (∀ b, ownB s b → ∃ cur, A[b]? = some (.cells cur t (0, 0))) → t ≠ Yaq → t ≠ Yav → ownB s b → ¬ (b = c.j ∨ ownB x.tasks b) := fun {b s t} ho h1 h2 hb => by
  obtain ⟨cur, e⟩ := ho b hb
  exact nT e h1 h2
 refine ⟨h.P.aside ⟨Nat.le_trans hz mm.size, fun b hb _ => (mm.same b (by omega) fun u => ?_).trans (h.P.ext.same b hb id)⟩ fun b hb => mm.same b (h.P.pool.lt b hb) fun u => ?_, jo', h.jF, tk', fun b hb => ?_, h.fsl.mod mm fun b hb => nO h.fsl.obj (by decide) (by decide) hb, h.fso, fun q hq => ?_, h.bn, fun f hf => ?_, ?_, fun a y ha => ?_, h.mt.mod mm fun b hb => nO h.mt.obj (by decide) (by decide) hb, h.mto, h.ca.mod mm fun b hb => nO h.ca.obj (by decide) (by decide) hb, h.cao, h.cb.mod mm fun b hb => nO h.cb.obj (by decide) (by decide) hb, h.cbo, hk⟩
 ·have : H0.size ≤ b := u.elim (fun v => v ▸ h.jF.1) fun v => (h.tko b v).1
  omega
 ·exact u.elim (fun v => h.jF.2 (v ▸ hb)) fun v => (h.tko b v).2 hb
 ·rcases ho b hb with u | u
  ·exact h.tko b u
  ·exact ⟨by omega, fun v => by have := h.P.pool.lt b v; omega⟩
 ·obtain ⟨⟨cs, r⟩, hF⟩ := h.all q hq
  exact ⟨⟨cs, r.mod mm (nT r (by decide) (by decide))⟩, hF⟩
 ·have hf := h.files f (hp.mem_iff.1 hf)
  exact ⟨hf.row.mod mm (nT hf.row (by decide) (by decide)), hf.lo, hf.nF, hf.st, hf.ok, hf.nm, hf.pd, hf.few⟩
 ·exact (hp.map HFile.name).nodup_iff.2 h.names
 ·obtain ⟨f, hf, e⟩ := h.only a y ha
  exact ⟨f, hp.mem_iff.2 hf, e⟩
theorem TS.push [Tab] (h : TS H0 c dp Q most cla clb Kk A F s M U m x bl nw ts) (mm : Mod (fun b => b = c.j ∨ ownB x.tasks b) A B) (jo' : RowT B c.j Yaq (joW c { x with tasks := tsl })) (tk' : SlE ETk Yav B tsl ts') (ho : ∀ b, ownB tsl b → ownB x.tasks b ∨ A.size ≤ b) (hp : (tfs ts').Perm (nw ++ tfs ts)) (hk : ∀ t ∈ ts', KeyR cla Kk t.a.rows ∧ KeyR clb Kk t.b.rows) :
  TS H0 c dp Q most cla clb Kk B F s M U m { x with tasks := tsl } bl [] ts' :=
 h.swap (nw' := []) mm jo' tk' ho hp hk
end
theorem rep_two [Tab] {ta tb b0 b1 a0 a1 fb fa : HFile} (hnd : ([ta, tb, b0, b1, a0, a1].map HFile.name).Nodup) :
  (fb.name = b0.name → fa.name = a0.name → ([ta, tb, b0, b1, a0, a1].map (rep fb)).map (rep fa) = [ta, tb, fb, b1, fa, a1]) ∧ (fb.name = b1.name → fa.name = a1.name → ([ta, tb, b0, b1, a0, a1].map (rep fb)).map (rep fa) = [ta, tb, b0, fb, a0, fa]) := by
 simp only [List.map_cons, List.map_nil, List.nodup_cons, List.mem_cons, List.not_mem_nil, or_false, not_or] at hnd
 obtain ⟨⟨_, n13, n14, n15, n16⟩, ⟨n23, n24, n25, n26⟩, ⟨n34, n35, n36⟩, ⟨n45, n46⟩, n56, _⟩ := hnd
 constructor
 ·intro hb ha
  simp only [List.map_cons, List.map_nil]
  rw [rep_other (g := ta) (by rw [hb]; exact n13), rep_other (g := tb) (by rw [hb]; exact n23), rep_same (g := b0) hb.symm, rep_other (g := b1) (f' := fb) (by rw [hb]; exact Ne.symm n34), rep_other (g := a0) (f' := fb) (by rw [hb]; exact Ne.symm n35), rep_other (g := a1) (f' := fb) (by rw [hb]; exact Ne.symm n36),
   rep_other (g := ta) (by rw [ha]; exact n15), rep_other (g := tb) (by rw [ha]; exact n25), rep_other (g := fb) (by rw [hb, ha]; exact n35), rep_other (g := b1) (by rw [ha]; exact n45), rep_same (g := a0) ha.symm, rep_other (g := a1) (by rw [ha]; exact Ne.symm n56)]
 ·intro hb ha
  simp only [List.map_cons, List.map_nil]
  rw [rep_other (g := ta) (by rw [hb]; exact n14), rep_other (g := tb) (by rw [hb]; exact n24), rep_other (g := b0) (f' := fb) (by rw [hb]; exact n34), rep_same (g := b1) hb.symm, rep_other (g := a0) (f' := fb) (by rw [hb]; exact Ne.symm n45), rep_other (g := a1) (f' := fb) (by rw [hb]; exact Ne.symm n46),
   rep_other (g := ta) (by rw [ha]; exact n16), rep_other (g := tb) (by rw [ha]; exact n26), rep_other (g := b0) (by rw [ha]; exact n36), rep_other (g := fb) (by rw [hb, ha]; exact n46), rep_other (g := a0) (by rw [ha]; exact n56), rep_same (g := a1) ha.symm]
def TX (c : Cfg) (x : Jc) (F : Nat → Prop) (b : Nat) : Prop := F b ∨ b = c.j ∨ ownB x.tasks b ∨ ownB x.fs b ∨ ownB x.mt b
theorem sel2 [Tab] (f0 f1 n d : Nat) (hd : d < 2) (hn : n < 900) : ∃ f o : HFile, ((d = 0 ∧ f = newF f0 n ∧ o = newF f1 (n + 1)) ∨ (d = 1 ∧ f = newF f1 (n + 1) ∧ o = newF f0 n)) ∧ o.name ≠ f.name ∧ f.made = false ∧ f.rows = [] ∧ f.wait = Sl.mk none 0 0 ∧ [f0, f1][d]? = some f.blk ∧ (∀ k, k < 2 → k ≠ d → [f0, f1][k]? = some o.blk) ∧ (f ∈ [newF f0 n, newF f1 (n + 1)] ∧ o ∈ [newF f0 n, newF f1 (n + 1)]) := by
 have : d = 0 ∨ d = 1 := by omega
 rcases this with rfl | rfl
 ·refine ⟨newF f0 n, newF f1 (n + 1), .inl ⟨rfl, rfl, rfl⟩, nmR_ne (by omega) (by omega), rfl, rfl, rfl, rfl, fun k h1 h2 => ?_, by simp, by simp⟩
  have : k = 1 := by omega
  subst this; rfl
 ·refine ⟨newF f1 (n + 1), newF f0 n, .inr ⟨rfl, rfl, rfl⟩, nmR_ne (by omega) (by omega), rfl, rfl, rfl, rfl, fun k h1 h2 => ?_, by simp, by simp⟩
  have : k = 0 := by omega
  subst this; rfl
section
variable {H0 A B : Heap} {c : Cfg} {dp Q most U U' m m' : Nat} {cla clb Kk cl : List Int} {F F' : Nat → Prop} {s s' : Pl} {M M' : Files} {x x' : Jc} {bl bl' : List Nat} {nw nw' : List HFile} {ts ts' : List Tk} {t : Tk}
theorem RdJ.start [Tab] {X E : Nat → Prop} {nx j cap cap1 rb : Nat} {f : HFile} (hf : FileR H0 A F M nx f) (r : RowT A rb Yas (rdrV f.blk 0 (Sl.mk none 0 0))) (c0 : RowT A cap Yah #[.pointer (at0 j)]) (c1 : RowT A cap1 Yag #[.pointer (at0 rb)]) (hX : ∀ b, X b ↔ b = rb) (hr : H0.size ≤ rb ∧ ¬ F rb ∧ ¬ E rb) (h1 : ¬ F cap ∧ ¬ E cap) (h2 : ¬ F cap1 ∧ ¬ E cap1) (h3 : ¬ E f.blk) : RdJ H0 A F X E M j cap cap1 rb f f.rows := by
 refine ⟨⟨0, Sl.mk none 0 0, [], r, ⟨rfl, fun ad h => (by cases h), fun i hi => (by cases hi)⟩, Nat.le_refl _, Nat.zero_le _, ?_⟩, hX, c0, c1, hf.row, hf.st, hr, h1, h2, hf.nF, h3⟩
 show f.cs.flatten ++ f.pd = _
 rw [hf.pd]
 simp
theorem cells_any [Tab] {n i j k l : Nat} {H D : Heap} {T : List (TypeId × Array Value)} {va vb : Array Value} {z : Option Addr × Option Addr} (h : SB n H D T) (hz : z = (some ⟨n + i, 0, none⟩, some ⟨n + j, 0, none⟩)) (h1 : T[i]? = some (Yag, #[.pointer (some ⟨n + k, 0, none⟩)])) (h2 : T[j]? = some (Yag, #[.pointer (some ⟨n + l, 0, none⟩)])) (h3 : T[k]? = some (Yas, vb)) (h4 : T[l]? = some (Yas, va)) (hkl : Nat.beq k l = false) :
  ∃ c1 c2 r1 r2, z = (some ⟨c1, 0, none⟩, some ⟨c2, 0, none⟩) ∧ Ext H D ∧ RowT D c1 Yag #[.pointer (at0 r1)] ∧ RowT D c2 Yag #[.pointer (at0 r2)] ∧ RowT D r1 Yas vb ∧ RowT D r2 Yas va ∧ r1 ≠ r2 ∧ H.size ≤ c1 ∧ H.size ≤ c2 ∧ H.size ≤ r1 ∧ H.size ≤ r2 := by
 have hn := h.hn
 have hkl : k ≠ l := fun e => by rw [e, Nat.beq_refl] at hkl; cases hkl
 exact ⟨n + i, n + j, n + k, n + l, hz, h.e, h.at' i _ _ h1, h.at' j _ _ h2, h.at' k _ _ h3, h.at' l _ _ h4, by omega, by omega, by omega, by omega, by omega⟩
theorem zc_rd : zc Tryz.prog Yag = #[.pointer none] := by kernel_rfl
theorem Eo_no [Tab] {fs l : Sl} {f : HFile} {b o j : Nat} {t : TypeId} {cs jcs fcs ocs : Array Value} {xs ys : List Value} (hb : A[b]? = some (.cells cs t (0, 0))) (jo : RowT A j Yaq jcs) (ff : RowT A f.blk Yaz fcs) (fsl : Owns A 0 Yal 1 fs xs) (lo : Owns A 0 Yal 1 l ys) (oo : RowT A o Yaz ocs) (hw : f.wait = Sl.mk none 0 0)
  (h1 : t ≠ Yaq ∧ t ≠ Yaz ∧ t ≠ Yal) : ¬ Eo j fs f l o b := fun u => by
 rcases u with (u | u | u | u) | u | u
 ·subst u; exact h1.1 (cells_ty hb jo)
 ·subst u; exact h1.2.1 (cells_ty hb ff)
 ·obtain ⟨cur, e⟩ := fsl.obj b u; exact h1.2.2 (cells_ty hb e)
 ·rw [hw] at u; exact nilOwn b u
 ·obtain ⟨cur, e⟩ := lo.obj b u; exact h1.2.2 (cells_ty hb e)
 ·subst u; exact h1.2.1 (cells_ty hb oo)
theorem Eo_file [Tab] {fs l : Sl} {f o e : HFile} {j : Nat} {jcs : Array Value} {xs ys : List Value} (hb : RowT A e.blk Yaz (fileV 16 e)) (jo : RowT A j Yaq jcs) (ff : RowT A f.blk Yaz (fileV 16 f)) (fsl : Owns A 0 Yal 1 fs xs) (lo : Owns A 0 Yal 1 l ys) (oo : RowT A o.blk Yaz (fileV 16 o)) (hw : f.wait = Sl.mk none 0 0)
  (h1 : e.name ≠ f.name) (h2 : e.name ≠ o.name) : ¬ Eo j fs f l o.blk e.blk := fun u => by
 rcases u with (u | u | u | u) | u | u
 ·exact absurd (cells_ty hb (u ▸ jo)) (by decide)
 ·exact h1 (blk_name hb ff u)
 ·obtain ⟨cur, q⟩ := fsl.obj _ u; exact absurd (cells_ty hb q) (by decide)
 ·rw [hw] at u; exact nilOwn _ u
 ·obtain ⟨cur, q⟩ := lo.obj _ u; exact absurd (cells_ty hb q) (by decide)
 ·exact h2 (blk_name hb oo u)
def Zs (c : Cfg) (x : Jc) (F : Nat → Prop) (fs : Sl) (n b : Nat) : Prop := F b ∨ b = c.j ∨ ownB x.tasks b ∨ ownB fs b ∨ ownB x.mt b ∨ n ≤ b
theorem part_step [Tab] {n o : Nat} {fs fs' l : Sl} {f f' : HFile} {X X' : Nat → Prop} (S : Step (fun b => F b ∨ Eo c.j fs f l o b ∨ X b) (fun b => F' b ∨ Eo c.j fs' f' l o b ∨ X' b) A B) (hw : f.wait = Sl.mk none 0 0) (hf : n ≤ f.blk) (ho : n ≤ o) (hl : ∀ b, ownB l b → n ≤ b) (hX : ∀ b, X b → b < A.size → Zs c x F fs n b) : Step (Zs c x F fs n) (Zs c x F' fs' n) A B := by
 have go : ∀ {b : Nat}, (F b ∨ Eo c.j fs f l o b ∨ X b) → b < A.size → Zs c x F fs n b := fun {b} u hb => by
  rcases u with u | (u | u | u) | u
  ·exact .inl u
  ·rcases u with u | u | u | u
   ·exact .inr (.inl u)
   ·exact .inr (.inr (.inr (.inr (.inr (u ▸ hf)))))
   ·exact .inr (.inr (.inr (.inl u)))
   ·rw [hw] at u; exact absurd u (nilOwn b)
  ·exact .inr (.inr (.inr (.inr (.inr (hl b u)))))
  ·exact .inr (.inr (.inr (.inr (.inr (u ▸ ho)))))
  ·exact hX b u hb
 refine ⟨S.mod.mono fun b hb u => go u hb, fun b u => ?_⟩
 ·skip
  have old : (F' b ∨ Eo c.j fs' f' l o b ∨ X' b) → Zs c x F fs n b ∨ A.size ≤ b := fun v => by
   rcases Nat.lt_or_ge b A.size with q | q
   ·exact (S.own b v).imp (fun w => go w q) id
   ·exact .inr q
  rcases u with u | u | u | u | u | u
  ·exact old (.inl u)
  ·exact .inl (.inr (.inl u))
  ·exact .inl (.inr (.inr (.inl u)))
  ·exact old (.inr (.inl (.inl (.inr (.inr (.inl u))))))
  ·exact .inl (.inr (.inr (.inr (.inr (.inl u)))))
  ·exact .inl (.inr (.inr (.inr (.inr (.inr u)))))
set_option maxRecDepth 100000 in
set_option maxHeartbeats 8000000 in
theorem TS.again [Tab] {K : Int → Heap → Prop} (h : TS H0 c dp Q most cla clb Kk A F s M U m x bl [t.a, t.b] ts) (hg : Gl H0) (hQ : Q ≤ 1048576) (hU : U + 1000 < Q) (hm : m + 20000 < 30000000000) (hnx : x.nx ≤ 80) (hgb : x.gb ≤ 80) (hts : ts.length ≤ 90) (hcl : cla.length ≤ 1000 ∧ clb.length ≤ 1000) (hka : KeyR cla Kk t.a.rows) (hkb : KeyR clb Kk t.b.rows) (hb0 : t.b.rows ≠ []) (hlv : t.lv ≤ 100)
  (hK : ∀ F' s' M' U' m' x' bl' t0 t1 B, TS H0 c dp Q most cla clb Kk B F' s' M' U' m' x' bl' [] (ts ++ [t0, t1]) → U' ≤ U + 602 → m' ≤ m + 10000 → t0.lv = 8 ∧ t1.lv = 8 → (∃ tl fl, x' = { x with nx := x.nx + 4, gb := x.gb + 2, tasks := tl, fs := fl }) → ((t0.a.rows = t.a.rows ∧ t0.b.rows = t.b.rows ∧ t1.a.rows = [] ∧ t1.b.rows = []) ∨ (t0.a.rows = [] ∧ t0.b.rows = [] ∧ t1.a.rows = t.a.rows ∧ t1.b.rows = t.b.rows)) → Step (TX c x F) (TX c x' F') A B → K 0 B) : ZbP.sp (at0 c.j) (at0 t.a.blk) (at0 t.b.blk) (t.lv : Int) A K := by
 refine ZbP.of ?_
 unfold ZbP.vc
 refine newC_rowT fun A1 z1 p1 e1 => ?_
 refine newC_rowT fun A2 z2 q2 e2 => ?_
 have e12 := e1.trans e2
 have h2 := h.ext e12
 have p2 : RowT A2 A.size Yah #[.pointer (at0 c.j)] := RowT.ext p1 e2
 have q2 : RowT A2 A1.size Yav #[.pointer (at0 t.a.blk), .pointer (at0 t.b.blk), .int .i64 (t.lv : Int)] := q2
 refine RowT.ld (c := cInt .i64) (i := 2) (x := (t.lv : Int)) q2 rfl ?_
 refine ⟨fun D => RowT D A.size Yah #[.pointer (at0 c.j)] ∧ ∃ k : Nat, RowT D c.j Yaq (joW c { x with nx := k }), ⟨p2, x.nx, h2.jo⟩, ?_⟩
 have ldpC : ∀ {G : Heap → Prop} {M : Option Addr → Prop} {D0 : Heap}, (∀ D, G D → RowT D A.size Yah #[.pointer (at0 c.j)]) → M (at0 c.j) → Go.Proofs.YtkehfflpbpdokaaGreat.ldC cPtr G ⟨A.size, 0, none⟩ M := fun {G M D0} hG hM => ⟨at0 c.j, fun D hD => (hG D hD).cell (i := 0) rfl, hM⟩
 refine ldp (c := cPtr) (x := at0 c.j) p2 ?_
 refine ldpC (D0 := A) (fun D hD => hD.1) ?_
 simp only [at0, optK_eq, add_add, Nat.reduceAdd]
 have w7 : ∀ {M : Int → Prop}, M 16 → Go.Proofs.YtkehfflpbpdokaaGreat.ldC (cInt .i64) (fun D => RowT D A.size Yah #[.pointer (at0 c.j)] ∧ ∃ k : Nat, RowT D c.j Yaq (joW c { x with nx := k })) (Addr.add ⟨c.j, 0, none⟩ 7) M := fun {M} hM => ⟨16, fun D hD => by
  obtain ⟨_, k, r⟩ := hD
  rw [add_lit, Nat.zero_add]
  exact r.cell (i := 7) rfl, hM⟩
 have w4 : ∀ {M : Int → Prop}, M 16 → Go.Proofs.YtkehfflpbpdokaaGreat.ldC (cInt .i64) (fun D => RowT D A.size Yah #[.pointer (at0 c.j)] ∧ ∃ k : Nat, RowT D c.j Yaq (joW c { x with nx := k })) (Addr.add ⟨c.j, 0, none⟩ 4) M := fun {M} hM => ⟨16, fun D hD => by
  obtain ⟨_, k, r⟩ := hD
  rw [add_lit, Nat.zero_add]
  exact r.cell (i := 4) rfl, hM⟩
 refine w7 ?_
 refine parts_ok (W := 16) (n := x.nx) h2.jo rfl rfl (by omega) rfl fun lb b0 b1 B1 jo1 fb0 fb1 hb01 hlb0 hlb1 ob1 obn mB1 => ?_
 have jo1 : RowT B1 c.j Yaq (joW c { x with nx := x.nx + 2 }) := jo1
 have h3 := h2.add (by omega) mB1 fb0 fb1 ⟨hlb0, hlb1⟩ jo1
 have jlt := obj_lt h.jo
 have z12 := e12.size
 have p3 : RowT B1 A.size Yah #[.pointer (at0 c.j)] := p2.mod mB1 fun u => by omega
 have q3 := q2.mod mB1 fun u => by omega
 refine ⟨⟨p3, x.nx + 2, jo1⟩, ?_⟩
 refine ldpC (D0 := A) (fun D hD => hD.1) ?_
 refine ldpC (D0 := A) (fun D hD => hD.1) ?_
 simp only [at0, optK_eq, add_add, Nat.reduceAdd]
 refine w4 ?_
 have zB1 := mB1.size
 refine parts_ok (W := 16) (n := x.nx + 2) h3.jo rfl rfl (by omega) rfl fun la a0 a1 B2 jo2 fa0 fa1 ha01 hla0 hla1 oa2 oan mB2 => ?_
 have jo2 : RowT B2 c.j Yaq (joW c { x with nx := x.nx + 4 }) := jo2
 have h4 := h3.add (by show x.nx + 2 ≤ 90; omega) mB2 fa0 fa1 ⟨hla0, hla1⟩ jo2
 have zB2 := mB2.size
 have p4 := p3.mod mB2 fun u => by omega
 have q4 := q3.mod mB2 fun u => by omega
 have hj : ∀ {b : Nat}, A2.size ≤ b → b ≠ c.j := fun hb u => by omega
 have ob2 : Owns B2 0 Yal 1 lb ([b0, b1].map ptrV) := ob1.mod mB2 fun b hb => hj (obn b hb)
 -- the readers' cells
 refine ⟨fun z D => ∃ c1 c2 r1 r2, z = (some ⟨c1, 0, none⟩, some ⟨c2, 0, none⟩) ∧ Ext B2 D ∧ RowT D c1 Yag #[.pointer (at0 r1)] ∧ RowT D c2 Yag #[.pointer (at0 r2)] ∧ RowT D r1 Yas (rdrV t.b.blk 0 (Sl.mk none 0 0)) ∧ RowT D r2 Yas (rdrV t.a.blk 0 (Sl.mk none 0 0)) ∧ r1 ≠ r2 ∧ B2.size ≤ c1 ∧ B2.size ≤ c2 ∧ B2.size ≤ r1 ∧ B2.size ≤ r2, ?_, ?_⟩
 ·have hb := SB.nil B2
  generalize hn : B2.size = n at hb
  refine ⟨fun D => Ext B2 D, .refl _ _, ?_⟩
  refine RowT.ldC (c := cPtr) (i := 1) (x := at0 t.b.blk) (cs := fun _ => #[.pointer (at0 t.a.blk), .pointer (at0 t.b.blk), .int .i64 (t.lv : Int)]) (fun D hD => q4.ext hD) (fun _ _ => rfl) ?_
  refine RowT.ldC (c := cPtr) (i := 0) (x := at0 t.a.blk) (cs := fun _ => #[.pointer (at0 t.a.blk), .pointer (at0 t.b.blk), .int .i64 (t.lv : Int)]) (fun D hD => q4.ext hD) (fun _ _ => rfl) ?_
  rw [zc_rd]
  simp only [← hn] at hb ⊢
  clear h h2 h3 h4 hK p1 p2 p3 p4 q2 q3 q4 w7 w4 ldpC jo1 jo2
  repeat' first
   | exact trivial
   | (with_reducible refine SB.new (by assumption) fun D' hD' => ?_)
   | (with_reducible refine SB.st (by assumption) rfl rfl fun D' hD' => ?_)
   | (with_reducible refine And.intro ?_ ?_)
   | exact SB.e (by assumption)
   | exact cells_any (by assumption) rfl rfl rfl rfl rfl rfl
 ·rintro _ B3 ⟨c1, c2, r1, r2, rfl, e3, rc1, rc2, rr1, rr2, hr12, hc1, hc2, hr1, hr2⟩
  have hzA : H0.size ≤ A.size := h.P.ext.size
  have hF : ∀ {b : Nat}, A.size ≤ b → ¬ F b := fun {b} hb u => by have := h.P.pool.lt b u; omega
  have z3 := e3.size
  have h5 : TS H0 c dp Q most cla clb Kk B3 F s M U m { x with nx := x.nx + 4 } bl [t.a, t.b, newF b0 x.nx, newF b1 (x.nx + 1), newF a0 (x.nx + 2), newF a1 (x.nx + 3)] ts := h4.ext e3
  have p5 := p4.ext e3
  have q5 := q4.ext e3
  have ob5 := ob2.ext e3
  have oa5 := oa2.ext e3
  have hnd : ([t.a, t.b, newF b0 x.nx, newF b1 (x.nx + 1), newF a0 (x.nx + 2), newF a1 (x.nx + 3)].map HFile.name).Nodup := by
   have := h5.names
   rw [List.map_append] at this
   exact (List.nodup_append.1 this).1
  have hnd2 := hnd
  simp only [List.map_cons, List.map_nil, List.nodup_cons, List.mem_cons, List.not_mem_nil, or_false, not_or] at hnd2
  obtain ⟨⟨_, n13, n14, n15, n16⟩, ⟨n23, n24, n25, n26⟩, ⟨n34, n35, n36⟩, ⟨n45, n46⟩, n56, _⟩ := hnd2
  refine ldp (c := cPtr) (x := at0 c.j) p5 (ldp (c := cPtr) (x := at0 c.j) p5 ?_)
  simp only [at0, optK_eq, add_add, Nat.reduceAdd]
  rw [succ64 t.lv (by omega)]
  obtain ⟨fb, ob, hsel, hne, hmd, hrw, hwt, hq, hqo, hfbm, hobm⟩ := sel2 b0 b1 x.nx (partD Kk ((t.lv + 1 : Nat) : Int)) (partD_lt _ _) (by omega)
  obtain ⟨fa, oa, hsela, hnea, hmda, hrwa, hwta, hqa, hqoa, hfam, hoam⟩ := sel2 a0 a1 (x.nx + 2) (partD Kk ((t.lv + 1 : Nat) : Int)) (partD_lt _ _) (by omega)
  have hbn : t.a.name ≠ fb.name ∧ t.a.name ≠ ob.name ∧ t.b.name ≠ fb.name ∧ t.b.name ≠ ob.name ∧ fb.name ≠ fa.name ∧ fb.name ≠ oa.name ∧ A.size ≤ fb.blk ∧ A.size ≤ ob.blk := by
   rcases hsel with ⟨_, rfl, rfl⟩ | ⟨_, rfl, rfl⟩ <;> rcases hsela with ⟨_, rfl, rfl⟩ | ⟨_, rfl, rfl⟩
   ·exact ⟨n13, n14, n23, n24, n35, n36, by show A.size ≤ b0; omega, by show A.size ≤ b1; omega⟩
   ·exact ⟨n13, n14, n23, n24, n36, n35, by show A.size ≤ b0; omega, by show A.size ≤ b1; omega⟩
   ·exact ⟨n14, n13, n24, n23, n45, n46, by show A.size ≤ b1; omega, by show A.size ≤ b0; omega⟩
   ·exact ⟨n14, n13, n24, n23, n46, n45, by show A.size ≤ b1; omega, by show A.size ≤ b0; omega⟩
  obtain ⟨k1, k2, k3, k4, k5, k6, k7, k8⟩ := hbn
  have han : t.a.name ≠ fa.name ∧ t.a.name ≠ oa.name ∧ t.b.name ≠ fa.name ∧ t.b.name ≠ oa.name ∧ A.size ≤ fa.blk ∧ A.size ≤ oa.blk := by
   rcases hsela with ⟨_, rfl, rfl⟩ | ⟨_, rfl, rfl⟩
   ·exact ⟨n15, n16, n25, n26, by show A.size ≤ a0; omega, by show A.size ≤ a1; omega⟩
   ·exact ⟨n16, n15, n26, n25, by show A.size ≤ a1; omega, by show A.size ≤ a0; omega⟩
  obtain ⟨g1, g2, g3, g4, g5, g6⟩ := han
  have hfb : fb ∈ [t.a, t.b, newF b0 x.nx, newF b1 (x.nx + 1), newF a0 (x.nx + 2), newF a1 (x.nx + 3)] := by
   rcases List.mem_cons.1 hfbm with u | u
   ·rw [u]; simp
   ·rw [List.mem_singleton.1 u]; simp
  have hob : ob ∈ [t.a, t.b, newF b0 x.nx, newF b1 (x.nx + 1), newF a0 (x.nx + 2), newF a1 (x.nx + 3)] := by
   rcases List.mem_cons.1 hobm with u | u
   ·rw [u]; simp
   ·rw [List.mem_singleton.1 u]; simp
  have hfa : fa ∈ [t.a, t.b, newF b0 x.nx, newF b1 (x.nx + 1), newF a0 (x.nx + 2), newF a1 (x.nx + 3)] := by
   rcases List.mem_cons.1 hfam with u | u
   ·rw [u]; simp
   ·rw [List.mem_singleton.1 u]; simp
  have hoa : oa ∈ [t.a, t.b, newF b0 x.nx, newF b1 (x.nx + 1), newF a0 (x.nx + 2), newF a1 (x.nx + 3)] := by
   rcases List.mem_cons.1 hoam with u | u
   ·rw [u]; simp
   ·rw [List.mem_singleton.1 u]; simp
  have tar := h5.files t.a (by simp)
  have tbr := h5.files t.b (by simp)
  have fbr := h5.files fb (List.mem_append.2 (.inl hfb))
  have obr := h5.files ob (List.mem_append.2 (.inl hob))
  have nEo : ∀ {b : Nat} {cs : Array Value} {ty : TypeId}, RowT B3 b ty cs → (ty ≠ Yaq ∧ ty ≠ Yaz ∧ ty ≠ Yal) → ¬ Eo c.j x.fs fb lb ob.blk b := fun r ht => Eo_no r h5.jo fbr.row h5.fsl ob5 obr.row hwt ht
  have hmtb : ∀ {b : Nat}, A.size ≤ b → ¬ ownB x.mt b := fun {b} hb u => by have := h.mt.lt b u; omega
  have lbl : ∀ b, ownB lb b → A.size ≤ b ∧ b < B1.size := fun b hb => ⟨by have := obn b hb; omega, (ob1.block b hb).2⟩
  have lal : ∀ b, ownB la b → B1.size ≤ b := oan
  have fsb : ∀ b, ownB x.fs b → b < A.size := fun b hb => (h.fsl.block b hb).2
  refine TS.part (i := 5) (f := fb) (o := ob) (l := lb) (cols := c.cb) (cl := clb) (qs := [b0, b1]) (X := fun b => b = r1) (rd_more (f := t.b) (rb := r1) (.inl rfl) hg hQ rfl tbr.ok (by have := tbr.few; omega) (tbr.named (by show x.nx + 4 ≤ 100; omega)).2) h5 hfb hob hne hmd hrw hwt
   (RdJ.start tbr rr1 p5 rc1 (fun _ => Iff.rfl) ⟨by omega, hF (by omega), nEo rr1 (by decide)⟩ ⟨hF (Nat.le_refl _), nEo p5 (by decide)⟩ ⟨hF (by omega), nEo rc1 (by decide)⟩ (Eo_file tbr.row h5.jo fbr.row h5.fsl ob5 obr.row hwt k3 k4))
   (fun b hb _ => by subst hb; exact ⟨Saf.row rr1 (by decide), hmtb (by omega)⟩) ob5 (fun b hb => ⟨by have := (lbl b hb).1; omega, hF (lbl b hb).1, fun u => by have := (lbl b hb).1; have := fsb b u; omega⟩)
   hg hQ (by omega) (by omega) (by show x.nx + 4 ≤ 90; omega) (by show x.gb ≤ 90; omega) (fun e => k3 e.symm) tbr.ok.rows tbr.few (.inr ⟨rfl, rfl, rfl⟩) hcl.2 hkb rfl hq hqo fun F4 X4 s4 M4 U4 m4 fs4 bl4 fb' B4 h6 hU4 hm4 hrows4 hname4 hblk4 hM4 ob6 ob6n S4 => ?_
  have tbn := tbr.few
  have tan := tar.few
  have z4 := S4.mod.size
  have nS : ∀ {b : Nat}, A.size ≤ b → ¬ Eo c.j x.fs fb lb ob.blk b → b ≠ r1 → ¬ (F b ∨ Eo c.j x.fs fb lb ob.blk b ∨ b = r1) := fun hb hE hr u => u.elim (hF hb) fun v => v.elim hE hr
  have keep4 : ∀ {b : Nat} {cs : Array Value} {ty : TypeId}, RowT B3 b ty cs → (ty ≠ Yaq ∧ ty ≠ Yaz ∧ ty ≠ Yal) → A.size ≤ b → b ≠ r1 → RowT B4 b ty cs ∧ ¬ F4 b := fun {b cs ty} r ht hb hr => ⟨r.mod S4.mod (nS hb (nEo r ht) hr), fun u => S4.not (obj_lt r) (nS hb (nEo r ht) hr) (.inl u)⟩
  obtain ⟨p6, pF⟩ := keep4 p5 (by decide) (Nat.le_refl _) (by omega)
  obtain ⟨q6, qF⟩ := keep4 q5 (by decide) (by omega) (by have := obj_lt q2; omega)
  obtain ⟨rc2', c2F⟩ := keep4 rc2 (by decide) (by omega) (rowNe rc2 rr1 (by decide))
  obtain ⟨rr2', r2F⟩ := keep4 rr2 (by decide) (by omega) (Ne.symm hr12)
  have nla : ∀ b, ownB la b → ¬ (F b ∨ Eo c.j x.fs fb lb ob.blk b ∨ b = r1) := fun b hb => by
   have hb1 := lal b hb
   obtain ⟨cur, e⟩ := oa5.obj b hb
   refine nS (by omega) (fun u => ?_) (fun u => absurd (cells_ty e (u ▸ rr1)) (by decide))
   rcases u with (u | u | u | u) | u | u
   ·subst u; exact absurd (cells_ty e h5.jo) (by decide)
   ·subst u; exact absurd (cells_ty e fbr.row) (by decide)
   ·have := fsb b u; omega
   ·rw [hwt] at u; exact nilOwn b u
   ·have := (lbl b u).2; omega
   ·subst u; exact absurd (cells_ty e obr.row) (by decide)
  have oa6 := oa5.mod S4.mod nla
  have nla4 : ∀ b, ownB la b → ¬ (F4 b ∨ Eo c.j fs4 fb' lb ob.blk b ∨ X4 b) := fun b hb => S4.not (oa5.block b hb).2 (nla b hb)
  refine ⟨_, ?_, fun _ _ hh => hh⟩
  refine br_t rfl ?_
  refine ldp (c := cPtr) (x := at0 c.j) p6 (ldp (c := cPtr) (x := at0 c.j) p6 ?_)
  simp only [at0, optK_eq, add_add, Nat.reduceAdd]
  have inm : ∀ e : HFile, e ∈ [t.a, t.b, newF b0 x.nx, newF b1 (x.nx + 1), newF a0 (x.nx + 2), newF a1 (x.nx + 3)] → e.name ≠ fb.name → e ∈ [t.a, t.b, newF b0 x.nx, newF b1 (x.nx + 1), newF a0 (x.nx + 2), newF a1 (x.nx + 3)].map (rep fb') := fun e he hn => List.mem_map.2 ⟨e, he, rep_other (by rw [hname4]; exact hn)⟩
  have ta6 := inm t.a (by simp) k1
  have fa6 := inm fa hfa (Ne.symm k5)
  have oa6m := inm oa hoa (Ne.symm k6)
  have tar6 := h6.files t.a (List.mem_append.2 (.inl ta6))
  have far6 := h6.files fa (List.mem_append.2 (.inl fa6))
  have oar6 := h6.files oa (List.mem_append.2 (.inl oa6m))
  have nEa : ∀ {b : Nat} {cs : Array Value} {ty : TypeId}, RowT B4 b ty cs → (ty ≠ Yaq ∧ ty ≠ Yaz ∧ ty ≠ Yal) → ¬ Eo c.j fs4 fa la oa.blk b := fun r ht => Eo_no r h6.jo far6.row h6.fsl oa6 oar6.row hwta ht
  refine TS.part (i := 2) (f := fa) (o := oa) (l := la) (cols := c.ca) (cl := cla) (qs := [a0, a1]) (X := fun b => b = r2) (rd_more (f := t.a) (rb := r2) (.inr rfl) hg hQ rfl tar6.ok (by have := tar6.few; omega) (tar6.named (by show x.nx + 4 ≤ 100; omega)).2) h6 fa6 oa6m hnea hmda hrwa hwta
   (RdJ.start tar6 rr2' p6 rc2' (fun _ => Iff.rfl) ⟨by omega, r2F, nEa rr2' (by decide)⟩ ⟨pF, nEa p6 (by decide)⟩ ⟨c2F, nEa rc2' (by decide)⟩ (Eo_file tar6.row h6.jo far6.row h6.fsl oa6 oar6.row hwta g1 g2))
   (fun b hb _ => by subst hb; exact ⟨Saf.row rr2' (by decide), hmtb (by omega)⟩) oa6 (fun b hb => ⟨by have := lal b hb; omega, fun u => nla4 b hb (.inl u), fun u => nla4 b hb (.inr (.inl (.inl (.inr (.inr (.inl u))))))⟩)
   hg hQ (by omega) (by omega) (by show x.nx + 4 ≤ 90; omega) (by show x.gb + 1 ≤ 90; omega) (fun e => g1 e.symm) tar6.ok.rows tar6.few (.inl ⟨rfl, rfl, rfl⟩) hcl.1 hka rfl hqa hqoa fun F5 X5 s5 M5 U5 m5 fs5 bl5 fa' B5 h7 hU5 hm5 hrows5 hname5 hblk5 hM5 oa7 oa7n S5 => ?_
  have z5 := S5.mod.size
  have keep5 : ∀ {b : Nat} {cs : Array Value} {ty : TypeId}, RowT B4 b ty cs → (ty ≠ Yaq ∧ ty ≠ Yaz ∧ ty ≠ Yal) → ¬ F4 b → b ≠ r2 → RowT B5 b ty cs ∧ ¬ F5 b := fun {b cs ty} r ht hb hr => ⟨r.mod S5.mod (fun u => u.elim hb fun v => v.elim (nEa r ht) hr), fun u => S5.not (obj_lt r) (fun u => u.elim hb fun v => v.elim (nEa r ht) hr) (.inl u)⟩
  obtain ⟨p7, pF7⟩ := keep5 p6 (by decide) pF (by omega)
  obtain ⟨q7, qF7⟩ := keep5 q6 (by decide) qF (by have := obj_lt q2; omega)
  have nlb : ∀ b, ownB lb b → ¬ (F4 b ∨ Eo c.j fs4 fa la oa.blk b ∨ b = r2) := fun b hb u => by
   obtain ⟨cur, e⟩ := ob6.obj b hb
   rcases u with u | ((u | u | u | u) | u | u) | u
   ·exact (ob6n b hb).1 u
   ·subst u; exact absurd (cells_ty e h6.jo) (by decide)
   ·subst u; exact absurd (cells_ty e far6.row) (by decide)
   ·exact (ob6n b hb).2 u
   ·rw [hwta] at u; exact nilOwn b u
   ·have := lal b u; have := (lbl b hb).2; omega
   ·subst u; exact absurd (cells_ty e oar6.row) (by decide)
   ·exact absurd (cells_ty e (u ▸ rr2')) (by decide)
  have ob7 := ob6.mod S5.mod nlb
  have ob7n : ∀ b, ownB lb b → ¬ F5 b ∧ ¬ ownB fs5 b := fun b hb => ⟨fun u => S5.not (ob6.block b hb).2 (nlb b hb) (.inl u), fun u => S5.not (ob6.block b hb).2 (nlb b hb) (.inr (.inl (.inl (.inr (.inr (.inl u))))))⟩
  obtain ⟨X0, X1, Y0, Y1, hnw, hX0, hX1, hY0, hY1, hrw2⟩ : ∃ B0 B1 A0 A1 : HFile, (([t.a, t.b, newF b0 x.nx, newF b1 (x.nx + 1), newF a0 (x.nx + 2), newF a1 (x.nx + 3)].map (rep fb')).map (rep fa')) = [t.a, t.b, B0, B1, A0, A1] ∧ B0.blk = b0 ∧ B1.blk = b1 ∧ A0.blk = a0 ∧ A1.blk = a1 ∧ ((partD Kk ((t.lv + 1 : Nat) : Int) = 0 ∧ B0.rows = t.b.rows ∧ B1.rows = [] ∧ A0.rows = t.a.rows ∧ A1.rows = []) ∨ (partD Kk ((t.lv + 1 : Nat) : Int) = 1 ∧ B0.rows = [] ∧ B1.rows = t.b.rows ∧ A0.rows = [] ∧ A1.rows = t.a.rows)) := by
   rcases hsel with ⟨hd, rfl, rfl⟩ | ⟨hd, rfl, rfl⟩ <;> rcases hsela with ⟨hd2, rfl, rfl⟩ | ⟨hd2, rfl, rfl⟩
   ·exact ⟨_, _, _, _, (rep_two hnd).1 hname4 hname5, hblk4, rfl, hblk5, rfl, .inl ⟨hd, hrows4, rfl, hrows5, rfl⟩⟩
   ·omega
   ·omega
   ·exact ⟨_, _, _, _, (rep_two hnd).2 hname4 hname5, rfl, hblk4, rfl, hblk5, .inr ⟨hd, rfl, hrows4, rfl, hrows5⟩⟩
  rw [hnw] at h7
  refine ⟨_, ?_, fun _ _ hh => hh⟩
  refine br_t rfl ?_
  refine ldp (c := cPtr) (x := at0 c.j) p7 ?_
  refine RowT.ldA (c := cAgg [cPtr, cPtr, (cInt .i64)]) (x := (at0 t.a.blk, at0 t.b.blk, (t.lv : Int))) q7 rfl rfl ?_
  have tbr7 := h7.files t.b (by simp)
  refine h7.gone hg (by show x.gb + 1 + 1 ≤ 90; omega) fun F6 s6 M6 U6 fs6 bl6 B6 h8 hU6 S6 => ?_
  have z6 := S6.mod.size
  have nD : ∀ {b : Nat} {cs : Array Value} {ty : TypeId}, RowT B5 b ty cs → (ty ≠ Yaq ∧ ty ≠ Yal) → ¬ F5 b → ¬ (F5 b ∨ DrX c.j fs5 b) := fun {b cs ty} r ht hF u => by
   rcases u with u | u | u
   ·exact hF u
   ·subst u; exact ht.1 (cells_ty r h7.jo)
   ·obtain ⟨cur, e⟩ := h7.fsl.obj b u; exact ht.2 (cells_ty r e)
  have nDl : ∀ {sl : Sl} {ys : List Value}, Owns B5 0 Yal 1 sl ys → (∀ b, ownB sl b → ¬ F5 b ∧ ¬ ownB fs5 b) → Owns B6 0 Yal 1 sl ys := fun {sl ys} o hn => o.mod S6.mod fun b hb u => by
   rcases u with u | u | u
   ·exact (hn b hb).1 u
   ·obtain ⟨cur, e⟩ := o.obj b hb
    subst u; exact absurd (cells_ty e h7.jo) (by decide)
   ·exact (hn b hb).2 u
  have ob8 := nDl ob7 ob7n
  have oa8 := nDl oa7 oa7n
  have q8 := q7.mod S6.mod (nD q7 (by decide) qF7)
  have tb8 := tbr7.row.mod S6.mod (nD tbr7.row (by decide) tbr7.nF)
  have hd2 := partD_lt Kk ((t.lv + 1 : Nat) : Int)
  refine loop_upto 2 (fun k z C => B6 = C ∧ z.2 = (k : Int) ∧ z.1 = (if partD Kk ((t.lv + 1 : Nat) : Int) < k then 8 else ((t.lv + 1 : Nat) : Int))) ⟨rfl, rfl, by rw [if_neg (Nat.not_lt_zero _)]⟩ ?_
  rintro k ⟨w1, w2⟩ C next hk ⟨rfl, hw2, hw1⟩ hnext
  simp only at hw1 hw2
  subst hw2
  have hlb : lb.n = 2 := by have := ob8.1; simp at this; omega
  by_cases hk2 : k = 2
  ·subst hk2
   rw [if_pos hd2] at hw1
   subst hw1
   refine br_f (by rw [hlb]; rfl) ?_
   have p8 := p7.mod S6.mod (nD p7 (by decide) pF7)
   refine ldp (c := cPtr) (x := at0 c.j) p8 ?_
   refine later_ok (A0 := Y0) (A1 := Y1) (B0 := X0) (B1 := X1) (lv := 8) h8.jo rfl h8.tk (by omega) (by rw [hY0, hY1]; exact oa8) (by rw [hX0, hX1]; exact ob8) fun tl B7 jo7 tk7 m7 o7 => ?_
   have h9 := h8.push (tsl := tl) (ts' := ts ++ [⟨Y0, X0, 8⟩, ⟨Y1, X1, 8⟩]) m7 jo7 tk7 o7 (by
    unfold tfs
    rw [List.flatMap_append]
    refine List.perm_append_comm.trans (List.Perm.append_right _ ?_)
    show [Y0, X0, Y1, X1].Perm [X0, X1, Y0, Y1]
    refine (List.Perm.swap X0 Y0 [Y1, X1]).trans (List.Perm.cons _ ?_)
    exact ((List.Perm.cons _ (List.Perm.swap X1 Y1 [])).trans (List.Perm.swap X1 Y0 [Y1]))) (fun e he => by
     have nk : ∀ cl, KeyR cl Kk [] := fun cl r hr => by cases hr
     rcases List.mem_append.1 he with u | u
     ·exact h8.keys e u
     ·rcases hrw2 with ⟨_, q1, q2, q3, q4⟩ | ⟨_, q1, q2, q3, q4⟩
      ·rcases List.mem_cons.1 u with u | u
       ·rw [u]; exact ⟨by show KeyR cla Kk Y0.rows; rw [q3]; exact hka, by show KeyR clb Kk X0.rows; rw [q1]; exact hkb⟩
       ·rw [List.mem_singleton.1 u]; exact ⟨by show KeyR cla Kk Y1.rows; rw [q4]; exact nk _, by show KeyR clb Kk X1.rows; rw [q2]; exact nk _⟩
      ·rcases List.mem_cons.1 u with u | u
       ·rw [u]; exact ⟨by show KeyR cla Kk Y0.rows; rw [q3]; exact nk _, by show KeyR clb Kk X0.rows; rw [q1]; exact nk _⟩
       ·rw [List.mem_singleton.1 u]; exact ⟨by show KeyR cla Kk Y1.rows; rw [q4]; exact hka, by show KeyR clb Kk X1.rows; rw [q2]; exact hkb⟩)
   have T0 : Step (TX c x F) (Zs c x F x.fs A.size) A B3 := by
    refine ⟨((Ext.mod e12).trans ((mB1.mono fun b _ u => .inr (.inl u)).trans ((mB2.mono fun b _ u => .inr (.inl u)).trans (Ext.mod e3)))), fun b u => ?_⟩
    rcases u with u | u | u | u | u | u
    ·exact .inl (.inl u)
    ·exact .inl (.inr (.inl u))
    ·exact .inl (.inr (.inr (.inl u)))
    ·exact .inl (.inr (.inr (.inr (.inl u))))
    ·exact .inl (.inr (.inr (.inr (.inr u))))
    ·exact .inr u
   have T4 := part_step (x := x) (n := A.size) S4 hwt k7 k8 (fun b hb => (lbl b hb).1) fun b u _ => .inr (.inr (.inr (.inr (.inr (by omega)))))
   have T5 := part_step (x := x) (n := A.size) S5 hwta g5 g6 (fun b hb => by have := lal b hb; omega) fun b u _ => .inr (.inr (.inr (.inr (.inr (by omega)))))
   have T6 : Step (Zs c x F5 fs5 A.size) (Zs c x F6 fs6 A.size) B5 B6 := S6.widen (fun b u => by
    rcases u with u | u | u
    ·exact .inl u
    ·exact .inr (.inl u)
    ·exact .inr (.inr (.inr (.inl u)))) fun b u => by
    rcases u with u | u | u | u | u | u
    ·exact .inr (.inl u)
    ·exact .inl (.inr (.inl u))
    ·exact .inl (.inr (.inr (.inl u)))
    ·exact .inr (.inr (.inr u))
    ·exact .inl (.inr (.inr (.inr (.inr (.inl u)))))
    ·exact .inl (.inr (.inr (.inr (.inr (.inr u)))))
   have T7 : Step (Zs c x F6 fs6 A.size) (TX c { x with nx := x.nx + 4, gb := x.gb + 2, tasks := tl, fs := fs6 } F6) B6 B7 := by
    refine ⟨m7.mono fun b _ u => u.elim (fun v => .inr (.inl v)) fun v => .inr (.inr (.inl v)), fun b u => ?_⟩
    rcases u with u | u | u | u | u
    ·exact .inl (.inl u)
    ·exact .inl (.inr (.inl u))
    ·exact (o7 b u).imp (fun v => .inr (.inr (.inl v))) id
    ·exact .inl (.inr (.inr (.inr (.inl u))))
    ·exact .inl (.inr (.inr (.inr (.inr (.inl u)))))
   refine hK F6 s6 M6 U6 _ _ bl6 _ _ B7 h9 (by omega) (by omega) ⟨rfl, rfl⟩ ⟨tl, fs6, rfl⟩ ?_ (T0.trans (T4.trans (T5.trans (T6.trans T7))))
   rcases hrw2 with ⟨_, q1, q2, q3, q4⟩ | ⟨_, q1, q2, q3, q4⟩
   ·exact .inl ⟨q3, q1, q4, q2⟩
   ·exact .inr ⟨q3, q1, q4, q2⟩
  ·have hk : k < 2 := by omega
   refine br_t (by rw [hlb]; exact decide_eq_true (by show (k : Int) < ((2 : Nat) : Int); omega)) ?_
   obtain ⟨e, heM, heB, hl1, hl2⟩ : ∃ e : HFile, e ∈ [X0, X1, Y0, Y1] ∧ [b0, b1][k]? = some e.blk ∧ (k = partD Kk ((t.lv + 1 : Nat) : Int) → e.rows = t.b.rows) ∧ (k ≠ partD Kk ((t.lv + 1 : Nat) : Int) → e.rows = []) := by
    have : k = 0 ∨ k = 1 := by omega
    rcases hrw2 with ⟨hd, q1, q2, _⟩ | ⟨hd, q1, q2, _⟩ <;> rcases this with rfl | rfl
    ·exact ⟨X0, by simp, by rw [hX0]; rfl, fun _ => q1, fun hn => absurd hd.symm hn⟩
    ·exact ⟨X1, by simp, by rw [hX1]; rfl, fun hn => by omega, fun _ => q2⟩
    ·exact ⟨X0, by simp, by rw [hX0]; rfl, fun hn => by omega, fun _ => q1⟩
    ·exact ⟨X1, by simp, by rw [hX1]; rfl, fun _ => q2, fun hn => absurd hd.symm hn⟩
   have her := h8.files e (List.mem_append.2 (.inl heM))
   refine fptr_ld ob8 (q := e.blk) heB rfl fun ad ha => ?_
   simp only [at0, optK_eq]
   refine RowT.ld (c := cInt .i64) (i := 3) (x := (e.rows.length : Int)) her.row rfl ?_
   refine RowT.ld (c := cPtr) (i := 1) (x := at0 t.b.blk) q8 rfl ?_
   simp only [at0, optK_eq]
   refine RowT.ld (c := cInt .i64) (i := 3) (x := (t.b.rows.length : Int)) tb8 rfl ?_
   have hpos : 0 < t.b.rows.length := List.length_pos_iff.2 hb0
   by_cases hkd : k = partD Kk ((t.lv + 1 : Nat) : Int)
   ·refine br_t (by rw [hl1 hkd]; simp) (hnext hk _ _ ⟨rfl, succ64 k (by omega), ?_⟩)
    rw [if_pos (by omega)]
   ·refine br_f (by rw [hl2 hkd]; simp; omega) (hnext hk _ _ ⟨rfl, succ64 k (by omega), ?_⟩)
    rw [hw1]
    by_cases hlt : partD Kk ((t.lv + 1 : Nat) : Int) < k
    ·rw [if_pos hlt, if_pos (by omega)]
    ·rw [if_neg hlt, if_neg (by omega)]
end
def XR (c : Cfg) (x : Jc) (F : Nat → Prop) (R : List Nat) (b : Nat) : Prop := TX c x F b ∨ b ∈ R
def XT (c : Cfg) (x : Jc) (F : Nat → Prop) (R : List Nat) (tsl : Sl) (b : Nat) : Prop := XR c x F R b ∨ ownB tsl b
def YT (c : Cfg) (x : Jc) (R : List Nat) (tsl : Sl) (b : Nat) : Prop := (b = c.j ∨ ownB x.tasks b ∨ ownB x.fs b ∨ ownB x.mt b) ∨ b ∈ R ∨ ownB tsl b
structure RdA (Z : Nat → Prop) (A : Heap) (rb : Nat) (f : HFile) (L : List (List Int)) : Prop where
 ex : ∃ pg ins L1, RowT A rb Yas (rdrV f.blk pg ins) ∧ RowsX Z A ins L1 ∧ ins.n ≤ ins.c ∧ pg ≤ f.cs.length ∧ L = L1 ++ (f.cs.drop pg).flatten
section
variable {H0 A B : Heap} {c : Cfg} {dp Q most U U' m m' n rb mb : Nat} {cla clb Kk : List Int} {F F' Y Y' Z Z' : Nat → Prop} {s s' : Pl} {M M' : Files} {x x' : Jc} {bl bl' : List Nat} {nw nw' : List HFile} {ts : List Tk} {f g : HFile} {L : List (List Int)}
theorem RdA.row [Tab] (h : RdA Z A rb f L) : ∃ cs, RowT A rb Yas cs := by
 obtain ⟨pg, ins, L1, r, _⟩ := h.ex
 exact ⟨_, r⟩
theorem RdA.lt [Tab] (h : RdA Z A rb f L) : rb < A.size := by obtain ⟨cs, r⟩ := h.row; exact obj_lt r
theorem RdA.step [Tab] (h : RdA Z A rb f L) (S : Step Z Z' A B) (m : Mod Y A B) (hn : ¬ Y rb) : RdA Z' B rb f L := by
 obtain ⟨pg, ins, L1, r, rows, q⟩ := h.ex
 exact ⟨⟨pg, ins, L1, r.mod m hn, rows.step S, q⟩⟩
theorem RdA.less [Tab] (h : RdA Z A rb f L) (hs : ∀ b, Z' b → Z b ∨ A.size ≤ b) : RdA Z' A rb f L := h.step (Y := fun _ => False) ⟨.refl _ _, hs⟩ (.refl _ _) id
theorem RdA.new [Tab] (hf : FileR H0 A F M n f) (r : RowT A rb Yas (rdrV f.blk 0 (Sl.mk none 0 0))) : RdA Z A rb f f.rows := by
 refine ⟨⟨0, Sl.mk none 0 0, [], r, ⟨rfl, fun ad h => (by cases h), fun i hi => (by cases hi)⟩, Nat.le_refl _, Nat.zero_le _, ?_⟩⟩
 show f.cs.flatten ++ f.pd = _
 rw [hf.pd]
 simp
theorem XT_iff {R : List Nat} {tsl : Sl} {b : Nat} : XT c x F R tsl b ↔ (YT c x R tsl b ∨ F b) := by
 unfold XT XR TX YT
 constructor
 ·rintro (((u | u) | u) | u)
  ·exact .inr u
  ·exact .inl (.inl u)
  ·exact .inl (.inr (.inl u))
  ·exact .inl (.inr (.inr u))
 ·rintro ((u | u | u) | u)
  ·exact .inl (.inl (.inr u))
  ·exact .inl (.inr u)
  ·exact .inr u
  ·exact .inl (.inl (.inl u))
theorem Step.xr [Tab] {R : List Nat} (S : Step (fun b => F b ∨ b = rb) (fun b => F' b ∨ b = rb) A B) (h : rb ∈ R) : Step (XR c x F R) (XR c x F' R) A B := S.widen (fun b u => by
  rcases u with u | u
  ·exact .inl (.inl u)
  ·subst u; exact .inr h) fun b u => by
 rcases u with (u | u) | u
 ·exact .inr (.inl u)
 ·exact .inl (.inl (.inr u))
 ·exact .inl (.inr u)
theorem Step.xt [Tab] {R : List Nat} {tsl : Sl} (S : Step (fun b => F b ∨ b = rb) (fun b => F' b ∨ b = rb) A B) (h : rb ∈ R) : Step (XT c x F R tsl) (XT c x F' R tsl) A B := (S.xr h).widen (fun b u => .inl u) fun b u => u.elim .inr fun v => .inl (.inr v)
theorem TS.lt [Tab] (T : TS H0 c dp Q most cla clb Kk A F s M U m x bl nw ts) : ∀ b, TX c x F b → b < A.size := fun b u => by
 rcases u with u | u | u | u | u
 ·exact T.P.pool.lt b u
 ·rw [u]; exact obj_lt T.jo
 ·exact (Owns.block T.tk b u).2
 ·exact (T.fsl.block b u).2
 ·exact T.mt.lt b u
def OutR (H0 : Heap) (c : Cfg) (A : Heap) (F : Nat → Prop) (x : Jc) (b : Nat) : Prop := H0.size ≤ b ∧ ¬ F b ∧ b < A.size ∧ Saf A b ∧ ¬ ownB x.mt b ∧ b ≠ c.j
theorem OutR.step [Tab] {b : Nat} (h : OutR H0 c A F x b) (S : Step (fun b => F b ∨ Y b) (fun b => F' b ∨ Y' b) A B) (hy : ¬ Y b) (hx : x'.mt = x.mt) : OutR H0 c B F' x' b := by
 obtain ⟨q1, q2, q3, q4, q5, q6⟩ := h
 have hn : ¬ (F b ∨ Y b) := fun u => u.elim q2 hy
 have zz := S.mod.size
 exact ⟨q1, fun u => S.not q3 hn (.inl u), by omega, fun cs t e => q4 cs t ((S.mod.same b q3 hn).symm.trans e), by rw [hx]; exact q5, q6⟩
theorem OutR.mod [Tab] {b : Nat} (h : OutR H0 c A F x b) (mm : Mod Y A B) (hy : ¬ Y b) (hx : x'.mt = x.mt) : OutR H0 c B F x' b :=
 h.step (Y := Y) (Y' := fun _ => False) ⟨mm.mono fun b _ u => .inr u, fun b u => u.elim (fun v => .inl (.inl v)) False.elim⟩ hy hx
theorem OutR.off [Tab] {b : Nat} (h : OutR H0 c A F x b) (T : TS H0 c dp Q most cla clb Kk A F s M U m x bl nw ts) : ¬ TX c x F b := fun u => by
 obtain ⟨q1, q2, q3, q4, q5, q6⟩ := h
 rcases u with u | u | u | u | u
 ·exact q2 u
 ·exact q6 u
 ·obtain ⟨cur, e⟩ := Owns.obj T.tk b u; exact (q4 _ _ e).1 rfl
 ·obtain ⟨cur, e⟩ := T.fsl.obj b u; exact (q4 _ _ e).2.1 rfl
 ·exact q5 u
structure OutZ (H0 : Heap) (c : Cfg) (A : Heap) (F : Nat → Prop) (x : Jc) (b : Nat) : Prop where
 r : OutR H0 c A F x b
 e : A[b]? = x.eg b
theorem OutZ.step [Tab] {b : Nat} (h : OutZ H0 c A F x b) (S : Step (fun b => F b ∨ Y b) (fun b => F' b ∨ Y' b) A B) (hy : ¬ Y b) (hx : x'.mt = x.mt ∧ x'.eg = x.eg) : OutZ H0 c B F' x' b :=
 ⟨h.r.step S hy hx.1, by rw [hx.2]; exact (S.mod.same b h.r.2.2.1 fun u => u.elim h.r.2.1 hy).trans h.e⟩
theorem OutZ.mod [Tab] {b : Nat} (h : OutZ H0 c A F x b) (mm : Mod Y A B) (hy : ¬ Y b) (hx : x'.mt = x.mt ∧ x'.eg = x.eg) : OutZ H0 c B F x' b :=
 ⟨h.r.mod mm hy hx.1, by rw [hx.2]; exact (mm.same b h.r.2.2.1 hy).trans h.e⟩
theorem OutZ.off [Tab] {b : Nat} (h : OutZ H0 c A F x b) (T : TS H0 c dp Q most cla clb Kk A F s M U m x bl nw ts) : ¬ TX c x F b := h.r.off T
theorem TS.aside [Tab] (h : TS H0 c dp Q most cla clb Kk A F s M U m x bl nw ts) (mm : Mod Y A B) (hy : ∀ b, Y b → b < A.size → (H0.size ≤ b ∧ ¬ F b) ∧ Saf A b ∧ ¬ ownB x.mt b) (jo' : RowT B c.j Yaq (joW c x')) (hx : x'.tasks = x.tasks ∧ x'.mt = x.mt ∧ x'.fs = x.fs ∧ x.nx ≤ x'.nx ∧ x'.gb = x.gb) : TS H0 c dp Q most cla clb Kk B F s M U m x' bl nw ts := by
 have hz := h.P.ext.size
 refine h.beside (Y := Y) (Y' := Y) ⟨mm.mono fun b _ u => .inr u, fun b u => .inl u⟩ (h.P.aside ⟨Nat.le_trans hz mm.size, fun b hb _ => (mm.same b (by omega) fun u => ?_).trans (h.P.ext.same b hb id)⟩ fun b hb => mm.same b (h.P.pool.lt b hb) fun u => (hy b u (h.P.pool.lt b hb)).1.2 hb) jo' h.jF.2 (fun b u hb => (hy b u hb).2) hx
 have := (hy b u (by omega)).1.1
 omega
theorem MapAt.saf [Tab] {es : Array MapEntry} {clk : Nat} (h : MapAt (.int .u64) A mb es clk) {b : Nat} {cs : Array Value} {t : TypeId} (hb : A[b]? = some (.cells cs t (0, 0))) : b ≠ mb := fun e => by
 subst e
 have := h.obj
 rw [hb] at this; cases this
theorem TabK.other [Tab] {X : Nat → Prop} {n : Int} {tsl : Sl} {ls : List (List Int)} (h : TabK X A mb n tsl ls) {b : Nat} {cs : Array Value} {t : TypeId} (hb : A[b]? = some (.cells cs t (0, 0))) : b ≠ mb := by
 obtain ⟨es, clk, h1, _⟩ := h.map
 exact h1.saf hb
theorem TabK.saf [Tab] {X : Nat → Prop} {n : Int} {tsl : Sl} {ls : List (List Int)} (h : TabK X A mb n tsl ls) : Saf A mb := fun cs t hb => absurd rfl (h.other hb)
theorem RowsT.saf [Tab] {X : Nat → Prop} {sl : Sl} {ls : List (List Int)} (h : RowsT X A sl ls) {b : Nat} (hb : ownB sl b) : Saf A b := by
 obtain ⟨cur, e⟩ := h.obj b hb
 exact Saf.row (t := YaB) e (by decide)
theorem RdA.read [Tab] {K : (Sl × Bool × Int) → Heap → Prop} (T : TS H0 c dp Q most cla clb Kk A F s M U m x bl nw ts) (hg : Gl H0) (hQ : Q ≤ 1048576) (hm : m + 1 < 30000000000) (hf : FileR H0 A F M x.nx f) (hnx : x.nx ≤ 100) (rd : RdA (fun b => Y b ∨ F b) A rb f L) (hrb : H0.size ≤ rb ∧ ¬ F rb) (hY : ∀ b, Y b → b < A.size) (hYr : Y rb)
  (hK0 : L = [] → K (Sl.mk none 0 0, false, 0) A)
  (hK1 : ∀ l r y B F' s', L = l :: r → TS H0 c dp Q most cla clb Kk B F' s' M U (m + 1) x bl nw ts → FileR H0 B F' M x.nx f → RdA (fun b => Y b ∨ F' b) B rb f r → Ints .u64 B y l → (∀ ad, y.a = some ad → ad.block < B.size ∧ ¬ (Y ad.block ∨ F' ad.block)) → Step (fun b => F b ∨ b = rb) (fun b => F' b ∨ b = rb) A B → ¬ F' rb → K (y, true, 0) B) : Zcg.sp (at0 c.j) (at0 rb) A K := by
 obtain ⟨pg, ins, L1, r, rows, q1, q2, q3⟩ := rd.ex
 have hsz : (sizeL ((16 : Nat) : Int)).toNat = 128 := by decide
 have hlen := hf.ok.len
 have hfew := hf.few
 refine read_ok (rm := 3) (W := 16) (Y := Y) T.P hg hQ hm T.jo rfl T.jF.2 r hrb rows q1 hY hYr hf.row hf.nF hf.st hf.ok q2 (by decide) (fun c' hc => ?_) (by omega) (hf.named hnx).2 (fun e1 e2 => ?_) fun l L' pg' ins' y B F' s' hl P' r' rows' c' hpg' hy hyo S' hF' => ?_
 ·have h1 := hB_len (L := c') (W := 16) (by decide) fun x hx => (hf.ok.rows x (List.mem_append.2 (.inl (List.mem_flatten.2 ⟨c', hc, hx⟩)))).1
  have := (hf.ok.cs c' hc).2
  rw [hsz] at h1
  omega
 ·subst e1
  exact hK0 (by rw [q3, e2, List.drop_length]; rfl)
 ·have nF : ¬ F' rb := fun u => (hF' rb u).elim hrb.2 fun w => by have := obj_lt r; omega
  have hsaf : ∀ b, b = rb → b < A.size → Saf A b ∧ ¬ ownB x.mt b := fun b e _ => by
   subst e
   refine ⟨Saf.row r (by decide), fun u => ?_⟩
   obtain ⟨cur, e⟩ := T.mt.obj _ u
   exact absurd (cells_ty r e) (by decide)
  have hjr : c.j ≠ rb := rowNe T.jo r (by decide)
  have jn : ¬ (F c.j ∨ c.j = rb) := fun u => u.elim T.jF.2 hjr
  refine hK1 l _ y B F' s' (by rw [← hl, q3]) (T.beside (Y := fun b => b = rb) (Y' := fun b => b = rb) S' P' (T.jo.mod S'.mod jn) (fun u => S'.not (obj_lt T.jo) jn (.inl u)) hsaf ⟨rfl, rfl, rfl, Nat.le_refl _, rfl⟩) (hf.go (Y := fun b => b = rb) (Y' := fun b => b = rb) S' (fun u => rowNe hf.row r (by decide) u) rfl (Nat.le_refl _)) ⟨⟨pg', ins', L', r', rows', c', hpg', rfl⟩⟩ hy hyo S' nF
set_option maxHeartbeats 1000000 in
theorem hload_ok [Tab] {n : Int} {K : Int → Heap → Prop} (T : TS H0 c dp Q most cla clb Kk A F s M U m x bl nw ts) (hg : Gl H0) (hQ : Q ≤ 1048576) (hm : m + 20 < 30000000000) (hfr : x.fr = at0 rb) (hf : f ∈ nw ++ tfs ts) (hnx : x.nx ≤ 100) (hrb : H0.size ≤ rb ∧ ¬ F rb) (rd : RdA (XR c x F (rb :: x.ex)) A rb f L) (hex : ∀ b ∈ x.ex, OutZ H0 c A F x b) (hrx : rb ∉ x.ex) (hcl : clb.length ≤ 1000) (hL : ∀ r ∈ L, turnL r clb = Kk) (hKn : sumW Kk (-1) = n)
  (hK : ∀ mb tsl F' s' m' B, TS H0 c dp Q most cla clb Kk B F' s' M U m' { x with tb := some mb, held := (L.take 9).length } bl nw ts → m' ≤ m + 10 → TabK (XR c x F' (rb :: mb :: x.ex)) B mb n tsl (L.take 9) → H0.size ≤ mb ∧ ¬ F' mb → (∀ b, ownB tsl b → H0.size ≤ b) → RdA (XT c x F' (rb :: mb :: x.ex) tsl) B rb f (L.drop 9) → ¬ F' rb → (∀ b ∈ x.ex, OutZ H0 c B F' x b ∧ b ≠ mb) → Step (XR c x F (rb :: x.ex)) (XT c x F' (rb :: mb :: x.ex) tsl) A B → K 0 B) : ZbY.sp (at0 c.j) A K := by
 refine ZbY.of ?_
 unfold ZbY.vc
 refine jclear_ok T.jo rfl fun A1 jo1 mp1 m1 z1 => ?_
 have jo1 : RowT A1 c.j Yaq (joW c { x with tb := some A.size, held := 0 }) := jo1
 have T1 := T.own (x' := { x with tb := some A.size, held := 0 }) m1 jo1 ⟨rfl, rfl, rfl, Nat.le_refl _, rfl⟩
 generalize hmb : A.size = mb at *
 have hzA := T.P.ext.size
 have hrl := rd.lt
 have S1 : Step (XR c x F (rb :: x.ex)) (XT c x F (rb :: mb :: x.ex) (Sl.mk none 0 0)) A A1 := by
  refine ⟨m1.mono fun b _ u => .inl (.inr (.inl u)), fun b u => ?_⟩
  rcases u with (u | u) | u
  ·exact .inl (.inl u)
  ·rcases List.mem_cons.1 u with u | u
   ·subst u; exact .inl (.inr List.mem_cons_self)
   ·rcases List.mem_cons.1 u with u | u
    ·exact .inr (by omega)
    ·exact .inl (.inr (List.mem_cons_of_mem _ u))
  ·exact absurd u (nilOwn b)
 have rjn : c.j ≠ rb := by obtain ⟨cs, r⟩ := rd.row; exact rowNe T.jo r (by decide)
 refine loop_upto 9 (fun i _ B => ∃ tsl F' s' m', TS H0 c dp Q most cla clb Kk B F' s' M U m' { x with tb := some mb, held := i } bl nw ts ∧ m' ≤ m + i ∧ TabK (XR c x F' (rb :: mb :: x.ex)) B mb n tsl (L.take i) ∧ ¬ F' mb ∧ (∀ b, ownB tsl b → H0.size ≤ b) ∧ RdA (XT c x F' (rb :: mb :: x.ex) tsl) B rb f (L.drop i) ∧ ¬ F' rb ∧ i ≤ L.length ∧ (∀ b ∈ x.ex, OutZ H0 c B F' x b ∧ b ≠ mb) ∧ Step (XR c x F (rb :: x.ex)) (XT c x F' (rb :: mb :: x.ex) tsl) A B)
  ⟨Sl.mk none 0 0, F, s, m, T1, Nat.le_refl _, TabK.new _ mp1, fun u => by have := T.P.pool.lt _ u; omega, fun b u => absurd u (nilOwn b), rd.step S1 m1 (Ne.symm rjn), hrb.2, Nat.zero_le _, fun b hb => ⟨(hex b hb).mod m1 (hex b hb).r.2.2.2.2.2 ⟨rfl, rfl⟩, fun e => by have := (hex b hb).r.2.2.1; omega⟩, S1⟩ ?_
 rintro i _ B next hi ⟨tsl, F1, s1, m2, T2, hm2, tab, mbF, tlo, rd2, rbF, hil, hex2, S2⟩ hnext
 refine ⟨fun D => B = D, rfl, ?_⟩
 simp only [optK_eq, at0]
 refine RowT.ldC (c := cInt .i64) (i := 17) (x := (i : Int)) (cs := fun _ => joW c { x with tb := some mb, held := i }) (fun D hD => hD ▸ T2.jo) (fun _ _ => rfl) ?_
 refine jmost_ok T2.jo rfl rfl ⟨rfl, ?_⟩
 by_cases hi9 : i = 9
 ·subst hi9
  refine br_f (by decide) ?_
  have hlt : (L.take 9).length = 9 := by rw [List.length_take]; omega
  exact hK mb tsl F1 s1 m2 B (by rw [hlt]; exact T2) (by omega) tab ⟨by omega, mbF⟩ tlo rd2 rbF hex2 S2
 have hi8 : i < 9 := by omega
 refine br_t (decide_eq_true (by omega)) ?_
 refine RowT.ld (c := cPtr) (i := 18) (x := at0 rb) T2.jo (by show some (Value.pointer x.fr) = _; rw [hfr]) ?_
 have hf2 := T2.files f hf
 have XTlt : ∀ b, XT c x F1 (rb :: mb :: x.ex) tsl b → b < B.size := fun b u => by
  rcases u with (u | u) | u
  ·exact T2.lt b u
  ·rcases List.mem_cons.1 u with u | u
   ·subst u; exact rd2.lt
   ·rcases List.mem_cons.1 u with u | u
    ·rw [u]; exact tab.lt
    ·exact (hex2 b u).1.r.2.2.1
  ·exact tab.rows.lt b u
 refine RdA.read (Y := YT c x (rb :: mb :: x.ex) tsl) T2 hg hQ (by omega) hf2 hnx (rd2.less fun b u => .inl (XT_iff.2 u)) ⟨hrb.1, rbF⟩ (fun b u => XTlt b (XT_iff.2 (.inl u))) (.inr (.inl List.mem_cons_self)) (fun hnil => ?_) fun l r y C F2 s2 hlr T3 hf3 rd3 iy yo S3 rbF2 => ?_
 ·refine br_t rfl ?_
  have hlen : L.length ≤ i := by
   have := congrArg List.length hnil
   rw [List.length_drop] at this
   simp at this; omega
  have e1 : L.take 9 = L.take i := by rw [List.take_of_length_le hlen, List.take_of_length_le (by omega)]
  have e2 : L.drop 9 = L.drop i := by rw [List.drop_of_length_le hlen, List.drop_of_length_le (by omega)]
  have e3 : (L.take i).length = i := by rw [List.length_take]; omega
  exact hK mb tsl F1 s1 m2 B (by rw [e1, e3]; exact T2) (by omega) (by rw [e1]; exact tab) ⟨by omega, mbF⟩ tlo (by rw [e2]; exact rd2) rbF hex2 S2
 ·refine br_f rfl ?_
  have hil2 : i < L.length := by
   have := congrArg List.length hlr
   rw [List.length_drop, List.length_cons] at this
   omega
  have hl : l = L[i] ∧ r = L.drop (i + 1) := by
   rw [List.drop_eq_getElem_cons hil2] at hlr
   obtain ⟨q1, q2⟩ := List.cons.inj hlr
   exact ⟨q1.symm, q2.symm⟩
  have hmem : l ∈ L := by rw [hl.1]; exact List.getElem_mem hil2
  have mbne : ¬ (F1 mb ∨ mb = rb) := fun u => u.elim mbF fun v => by
   obtain ⟨cs, r⟩ := rd2.row
   exact tab.other r v.symm
  have tab3 : TabK (XR c x F2 (rb :: mb :: x.ex)) C mb n tsl (L.take i) := tab.step (S3.xr List.mem_cons_self) (S3.mod.same mb tab.lt mbne)
  have mbF2 : ¬ F2 mb := fun u => S3.not tab.lt mbne (.inl u)
  have hex3 : ∀ b ∈ x.ex, OutZ H0 c C F2 x b ∧ b ≠ mb := fun b hb => ⟨(hex2 b hb).1.step (Y := fun b => b = rb) (Y' := fun b => b = rb) S3 (fun e => hrx (e ▸ hb)) ⟨rfl, rfl⟩, (hex2 b hb).2⟩
  have xlt : ∀ b, XR c x F2 (rb :: mb :: x.ex) b → b < C.size := fun b u => by
   rcases u with u | u
   ·exact T3.lt b u
   ·rcases List.mem_cons.1 u with u | u
    ·subst u; exact rd3.lt
    ·rcases List.mem_cons.1 u with u | u
     ·rw [u]; exact tab3.lt
     ·exact (hex3 b u).1.r.2.2.1
  have S23 := S2.trans (S3.xt (tsl := tsl) (c := c) (x := x) (R := rb :: mb :: x.ex) List.mem_cons_self)
  refine jhold_ok (cols := c.cb) (cl := clb) (held := i) T3.jo rfl rfl rfl T3.cb.ints hcl tab3 (.inl (.inr (.inl rfl))) (.inr (by simp)) xlt iy (fun a ha => ?_) (by rw [hL l hmem]; exact hKn) (by omega) (by rw [List.length_take]; omega) fun tsl' D jo4 tab4 m4 o4 => ?_
  ·obtain ⟨q1, q2⟩ := yo a ha
   exact ⟨q1, fun u => q2 (XT_iff.1 (.inl u)), fun u => q2 (XT_iff.1 (.inr u))⟩
  ·have zD := m4.size
   have tF : ∀ b, ownB tsl b → ¬ XR c x F2 (rb :: mb :: x.ex) b := tab3.rows.off
   have zC := T3.P.ext.size
   have T4 := T3.aside (x' := { x with tb := some mb, held := i + 1 }) m4 (fun b u _ => by
    rcases u with u | u | u
    ·subst u
     refine ⟨T3.jF, Saf.row T3.jo (by decide), fun v => ?_⟩
     obtain ⟨cur, e⟩ := T3.mt.obj _ v
     exact absurd (cells_ty T3.jo e) (by decide)
    ·subst u
     refine ⟨⟨by omega, mbF2⟩, tab3.saf, fun v => ?_⟩
     obtain ⟨cur, e⟩ := T3.mt.obj _ v
     exact tab3.other e rfl
    ·exact ⟨⟨tlo b u, fun v => tF b u (.inl (.inl v))⟩, tab3.rows.saf u, fun v => tF b u (.inl (.inr (.inr (.inr (.inr v)))))⟩) jo4 ⟨rfl, rfl, rfl, Nat.le_refl _, rfl⟩
   have S4 : Step (XT c x F2 (rb :: mb :: x.ex) tsl) (XT c x F2 (rb :: mb :: x.ex) tsl') C D := by
    refine ⟨m4.mono fun b _ u => ?_, fun b u => ?_⟩
    ·rcases u with u | u | u
     ·exact .inl (.inl (.inr (.inl u)))
     ·exact .inl (.inr (by simp [u]))
     ·exact .inr u
    ·rcases u with u | u
     ·exact .inl (.inl u)
     ·exact (o4 b u).imp .inr id
   have rd4 : RdA (XT c x F2 (rb :: mb :: x.ex) tsl') D rb f r := (rd3.less (fun b u => .inl (XT_iff.1 u))).step S4 m4 fun u => by
    obtain ⟨cs, rr⟩ := rd3.row
    rcases u with u | u | u
    ·exact rjn u.symm
    ·exact tab3.other rr u
    ·obtain ⟨cur, e⟩ := tab3.rows.obj _ u
     exact absurd (cells_ty rr e) (by decide)
   refine hnext hi8 _ _ ⟨tsl', F2, s2, m2 + 1, T4, by omega, ?_, mbF2, fun b u => (o4 b u).elim (tlo b) fun v => by omega, by rw [← hl.2]; exact rd4, rbF2, hil2, fun b hb => ⟨(hex3 b hb).1.mod m4 (fun u => ?_) ⟨rfl, rfl⟩, (hex3 b hb).2⟩, S23.trans S4⟩
   ·rw [List.take_succ_eq_append_getElem hil2, ← hl.1]
    exact tab4
   ·rcases u with u | u | u
    ·exact (hex3 b hb).1.r.2.2.2.2.2 u
    ·exact (hex3 b hb).2 u
    ·exact tF b u (.inr (List.mem_cons_of_mem _ (List.mem_cons_of_mem _ hb)))
end
end Go.Proofs.YtkehfflpbpdokaaGreat
namespace Go.Proofs.YtkehfflpbpdokaaGreat
def remT (ts : List Tk) : List (List Int) := ts.reverse.flatMap fun t => passL 9 t.b.rows t.a.rows
def pend (ts : List Tk) : Nat := (ts.filter fun t => decide (t.lv < 8)).length
section
variable {ts : List Tk} {t t0 t1 : Tk}
theorem remT_nil : remT [] = [] := rfl
theorem remT_snoc [Tab] : remT (ts ++ [t]) = passL 9 t.b.rows t.a.rows ++ remT ts := by
 unfold remT
 rw [List.reverse_append]
 rfl
theorem pend_snoc : pend (ts ++ [t]) = pend ts + if t.lv < 8 then 1 else 0 := by
 unfold pend
 rw [List.filter_append, List.length_append]
 by_cases h : t.lv < 8
 ·simp [h]
 ·simp [h]
theorem remT_again [Tab] (h : (t0.a.rows = t.a.rows ∧ t0.b.rows = t.b.rows ∧ t1.a.rows = [] ∧ t1.b.rows = []) ∨ (t0.a.rows = [] ∧ t0.b.rows = [] ∧ t1.a.rows = t.a.rows ∧ t1.b.rows = t.b.rows)) : remT (ts ++ [t0, t1]) = remT (ts ++ [t]) := by
 rw [show ts ++ [t0, t1] = (ts ++ [t0]) ++ [t1] by simp, remT_snoc, remT_snoc, remT_snoc]
 rcases h with ⟨h1, h2, h3, h4⟩ | ⟨h1, h2, h3, h4⟩
 ·rw [h1, h2, h3, h4, passL_nilA]; rfl
 ·rw [h1, h2, h3, h4, passL_nilA]; rfl
theorem pend_again (h0 : t0.lv = 8) (h1 : t1.lv = 8) : pend (ts ++ [t0, t1]) = pend ts := by
 rw [show ts ++ [t0, t1] = (ts ++ [t0]) ++ [t1] by simp, pend_snoc, pend_snoc, h0, h1]
 rfl
end
open Go.MapKept
section
variable {H0 A B : Heap} {c : Cfg} {dp Q most U U' m m' rb mb : Nat} {n : Int} {cla clb Kk : List Int} {F F' Y Y' Z Z' : Nat → Prop} {s s' : Pl} {M M' : Files} {x x' : Jc} {bl bl' : List Nat} {nw nw' : List HFile} {ts : List Tk} {f g ta tb : HFile} {L TL Ll Lf rest : List (List Int)} {R R' : List Nat} {tsl tsl' : Sl}
theorem slA_zt (a : Option Addr) (c k : Nat) : slA a c 0 k = a := by
 unfold slA
 split
 ·rfl
 ·cases a <;> simp [add_zero']
theorem SlE.cutT [Tab] {α : Type} {H : Heap} {E : Enc α} {e : TypeId} {s : Sl} {l : List α} (h : SlE E e H s l) (hs : 0 < E.size) {n : Nat} (hn : n ≤ l.length) : SlE E e H ⟨s.a, n, s.c⟩ (l.take n) := by
 have hsn := SlE.n h hs
 refine ⟨by rw [E.all_length, List.length_take]; show min n l.length * E.size = n * E.size; rw [Nat.min_eq_left hn], ?_⟩
 rcases h.2 with ⟨e1, e2⟩ | ⟨g, cap, cur, e1, hb, hg, h4, h5, h6, h7⟩
 ·refine .inl ⟨?_, ?_⟩
  ·cases s; simp only [Sl.v, Value.slice.injEq] at e1 ⊢; simp only at e2 hsn; exact ⟨e1.1, by omega, e1.2.2⟩
  ·show n = 0; omega
 ·refine .inr ⟨g, cap, cur, ?_, hb, hg, ?_, h5, h6, ?_⟩
  ·cases s; simp only [Sl.v, Value.slice.injEq] at e1 ⊢; exact ⟨e1.1, trivial, e1.2.2⟩
  ·show n ≤ cap; omega
  ·show cur.toList.take (n * E.size) = _
   rw [← E.all_take, ← h7, List.take_take]
   congr 1
   have : n * E.size ≤ s.n * E.size := Nat.mul_le_mul_right _ (by omega)
   rw [Nat.min_eq_left this]
structure AltP (c : Cfg) (A : Heap) (F : Nat → Prop) (x : Jc) (cla clb Kk : List Int) (nws : List HFile) (ts : List Tk) (Rs : List Nat) (mb : Nat) (tsl : Sl) (TL Ll res : List (List Int)) (ta tb : HFile) (rb rb2 : Nat) (Lf : List (List Int)) : Prop where
 nw : nws = [ta, tb]
 R : Rs = rb :: mb :: rb2 :: x.ex
 now : x.na = at0 ta.blk ∧ x.nb = at0 tb.blk ∧ x.fr = at0 rb ∧ x.lf = at0 rb2
 rf : RdA (XT c x F Rs tsl) A rb tb Lf
 rl : RdA (XT c x F Rs tsl) A rb2 ta Ll
 ne : rb ≠ rb2
 nex : rb ∉ x.ex ∧ rb2 ∉ x.ex
 nea : ta.rows ≠ []
 sub : ∀ r ∈ Lf, r ∈ tb.rows
 ka : KeyR cla Kk ta.rows
 kb : KeyR clb Kk tb.rows
 rest : res = passL 9 Lf ta.rows ++ remT ts
structure AltM (H0 : Heap) (c : Cfg) (A : Heap) (F : Nat → Prop) (x : Jc) (nws : List HFile) (ts : List Tk) (Rs : List Nat) (mb : Nat) (tsl : Sl) (Ll res : List (List Int)) : Prop where
 nw : nws = [] ∧ ts = []
 R : Rs = mb :: c.sa :: c.la :: x.ex
 lf : x.lf = none
 nex : c.sa ∉ x.ex ∧ c.la ∉ x.ex
 src : FrJ H0 A F (fun b => b = c.sa ∨ b = c.la) (YT c x (mb :: x.ex) tsl) c.sa c.la c.wa Ll
 rest : res = []
def noF (fb : Nat) : HFile := ⟨fb, ByteArray.empty, false, [], [], Sl.mk none 0 0⟩
structure Alt0 (A : Heap) (F : Nat → Prop) (x : Jc) (nws : List HFile) (ts : List Tk) (Rs : List Nat) (mb : Nat) (TL Ll res : List (List Int)) (rb2 fb : Nat) : Prop where
 nw : nws = []
 R : Rs = mb :: rb2 :: x.ex
 fr : x.fr = none
 lf : x.lf = at0 rb2
 rd : RowT A rb2 Yas (rdrV fb 0 (Sl.mk none 0 0))
 ff : RowT A fb Yaz (fileV 0 (noF fb))
 fF : ¬ F fb
 emp : TL = [] ∧ Ll = []
 rest : res = remT ts
structure Bud (Q : Nat) (x : Jc) (ts : List Tk) (U : Nat) : Prop where
 nx : x.nx + 4 * pend ts ≤ 40
 gb : x.gb + 2 * pend ts ≤ 40
 ln : ts.length + pend ts ≤ 40
 U : U + 1000 * pend ts + 2000 < Q
structure NR [Tab] (H0 : Heap) (c : Cfg) (dp Q most : Nat) (cla clb Kk : List Int) (n : Int) (A : Heap) (F : Nat → Prop) (s : Pl) (M : Files) (U m : Nat) (x : Jc) (bl : List Nat) (nw : List HFile) (ts : List Tk) (R : List Nat) (mb : Nat) (tsl : Sl) (TL Ll rest : List (List Int)) : Prop where
 T : TS H0 c dp Q most cla clb Kk A F s M U m x bl nw ts
 tb : x.tb = some mb
 bg : x.begun = true
 mR : mb ∈ R
 tab : TabK (XR c x F R) A mb n tsl TL
 tlo : ∀ b, ownB tsl b → H0.size ≤ b
 ro : ∀ b ∈ R, OutR H0 c A F x b
 eg : ∀ b ∈ x.ex, A[b]? = x.eg b
 kt : ∀ r ∈ TL, turnL r clb = Kk ∧ r.length = 16
 kl : ∀ r ∈ Ll, turnL r cla = Kk ∧ r.length = 16
 few : Ll.length ≤ 300
 tn : TL.length ≤ 9
 bud : Bud Q x ts U
 alt : (TL ≠ [] ∧ ∃ ta tb rb rb2 Lf, AltP c A F x cla clb Kk nw ts R mb tsl TL Ll rest ta tb rb rb2 Lf) ∨ AltM H0 c A F x nw ts R mb tsl Ll rest ∨ ∃ rb2 fb, Alt0 A F x nw ts R mb TL Ll rest rb2 fb
theorem NR.lt [Tab] (h : NR H0 c dp Q most cla clb Kk n A F s M U m x bl nw ts R mb tsl TL Ll rest) : ∀ b, XT c x F R tsl b → b < A.size := fun b u => by
 rcases u with (u | u) | u
 ·exact h.T.lt b u
 ·exact (h.ro b u).2.2.1
 ·exact h.tab.rows.lt b u
theorem Saf.offMt [Tab] (T : TS H0 c dp Q most cla clb Kk A F s M U m x bl nw ts) {b : Nat} (h : ∀ cs, A[b]? = some (.cells cs YaB (0, 0)) → False) : ¬ ownB x.mt b := fun u => by
 obtain ⟨cur, e⟩ := T.mt.obj b u
 exact h cur e
set_option maxHeartbeats 1000000 in
theorem turnA_ok [Tab] {K : (Bool × Int) → Heap → Prop} (T : TS H0 c dp Q most cla clb Kk A F s M U m x bl [ta, tb] ts) (hg : Gl H0) (hQ : Q ≤ 1048576) (hm : m + 20 < 30000000000) (hbg : x.begun = true) (hfr : x.fr = at0 rb) (hna : x.na = at0 ta.blk) (hnb : x.nb = at0 tb.blk) (hrb : H0.size ≤ rb ∧ ¬ F rb) (rd : RdA (XR c x F (rb :: x.ex)) A rb tb L) (hex : ∀ b ∈ x.ex, OutZ H0 c A F x b) (hrx : rb ∉ x.ex) (hcl : clb.length ≤ 1000) (hL0 : L ≠ []) (sub : ∀ r ∈ L, r ∈ tb.rows) (ka : KeyR cla Kk ta.rows) (kb : KeyR clb Kk tb.rows) (nea : ta.rows ≠ []) (hKn : sumW Kk (-1) = n) (bud : Bud Q x ts U)
  (hK : ∀ F' s' m' x' mb tsl R' B, NR H0 c dp Q most cla clb Kk n B F' s' M U m' x' bl [ta, tb] ts R' mb tsl (L.take 9) ta.rows (passL 9 (L.drop 9) ta.rows ++ remT ts) → m' ≤ m + 10 → Step (XR c x F (rb :: x.ex)) (XT c x' F' R' tsl) A B → x'.mt = x.mt ∧ x'.ex = x.ex ∧ x'.eg = x.eg → K (true, 0) B) : Zch.sp (at0 c.j) A K := by
 have hlen : 0 < (L.take 9).length := by
  have := List.length_pos_iff.2 hL0
  rw [List.length_take]; omega
 have hnx := bud.nx
 refine Zch.of ?_
 unfold Zch.vc
 refine ⟨fun _ _ => False, ?_, fun _ _ hh => hh.elim⟩
 simp only [optK_eq, at0]
 refine RowT.ld (c := cPtr) (i := 18) (x := at0 rb) T.jo (by show some (Value.pointer x.fr) = _; rw [hfr]) ?_
 refine br_t rfl ?_
 refine hload_ok (f := tb) (n := n) T hg hQ hm hfr (by simp) (by omega) hrb rd hex hrx hcl (fun r hr => kb r (sub r hr)) hKn fun mb tsl F1 s1 m1 B T1 hm1 tab mbo tlo rd1 rbF hex1 S1 => ?_
 refine br_f rfl ?_
 refine RowT.ld (c := cInt .i64) (i := 17) (x := ((L.take 9).length : Int)) T1.jo rfl ?_
 refine br_t (decide_eq_true (by omega)) ?_
 simp only [add_add, Nat.reduceAdd]
 refine RowT.ld (c := cPtr) (i := 13) (x := at0 ta.blk) T1.jo (by show some (Value.pointer x.na) = _; rw [hna]) ?_
 refine newC_rowT fun B1 z1 r1 e1 => ?_
 refine RowT.st (i := 19) (T1.jo.ext e1) (by simp [joW]) rfl fun B2 jo2 m2 z2 => ?_
 have r1 : RowT B1 B.size Yas (rdrV ta.blk 0 (Sl.mk none 0 0)) := r1
 have jo2 : RowT B2 c.j Yaq (joW c { x with tb := some mb, held := (L.take 9).length, lf := at0 B.size }) := jo2
 have T2 := (T1.ext e1).own (x' := { x with tb := some mb, held := (L.take 9).length, lf := at0 B.size }) m2 jo2 ⟨rfl, rfl, rfl, Nat.le_refl _, rfl⟩
 have jlt := obj_lt T1.jo
 have jne : B.size ≠ c.j := by omega
 have r2 := r1.mod m2 jne
 obtain ⟨csr, rr⟩ := rd1.row
 have rjn : rb ≠ c.j := Ne.symm (rowNe T1.jo rr (by decide))
 have mjn : c.j ≠ mb := tab.other T1.jo
 have mm : Mod (fun b => b = c.j) B B2 := (Ext.mod e1).trans m2
 have hZ : ∀ {b : Nat}, XR c x F1 (rb :: mb :: B.size :: x.ex) b → XR c x F1 (rb :: mb :: x.ex) b ∨ B.size ≤ b := fun {b} u => by
  rcases u with u | u
  ·exact .inl (.inl u)
  ·simp only [List.mem_cons] at u
   rcases u with u | u | u | u
   ·exact .inl (.inr (by simp [u]))
   ·exact .inl (.inr (by simp [u]))
   ·exact .inr (by omega)
   ·exact .inl (.inr (by simp [u]))
 have S2 : Step (XR c x F1 (rb :: mb :: x.ex)) (XR c x F1 (rb :: mb :: B.size :: x.ex)) B B2 := ⟨mm.mono fun b _ u => .inl (.inr (.inl u)), fun b u => hZ u⟩
 have S3 : Step (XT c x F1 (rb :: mb :: x.ex) tsl) (XT c x F1 (rb :: mb :: B.size :: x.ex) tsl) B B2 := ⟨mm.mono fun b _ u => .inl (.inl (.inr (.inl u))), fun b u => u.elim (fun v => (hZ v).imp .inl id) fun v => .inl (.inr v)⟩
 have tab2 : TabK (XR c x F1 (rb :: mb :: B.size :: x.ex)) B2 mb n tsl (L.take 9) := tab.step S2 (mm.same mb tab.lt (Ne.symm mjn))
 have rr2 := rr.mod mm rjn
 have zz := mm.size
 have hz1 := T1.P.ext.size
 have hsz : B.size < B2.size := obj_lt r2
 have ft := T2.files ta (by simp)
 have fb := T2.files tb (by simp)
 refine hK F1 s1 m1 _ mb tsl (rb :: mb :: B.size :: x.ex) B2 ⟨T2, rfl, hbg, by simp, tab2, tlo, fun b hb => ?_, fun b hb => ((hex1 b hb).1.mod mm (hex1 b hb).1.r.2.2.2.2.2 ⟨rfl, rfl⟩ : OutZ H0 c B2 F1 x b).e, fun r hr => ?_, fun r hr => ⟨ka r hr, (ft.ok.rows r hr).1⟩, ft.few, by rw [List.length_take]; omega, ⟨bud.nx, bud.gb, bud.ln, bud.U⟩, .inl ⟨List.length_pos_iff.1 hlen, ta, tb, rb, B.size, L.drop 9, rfl, rfl, ⟨hna, hnb, hfr, rfl⟩, rd1.step S3 mm rjn, RdA.new ft r2, by have := obj_lt rr; omega, ⟨hrx, fun u => by have := (hex1 _ u).1.r.2.2.1; omega⟩, nea, fun r hr => sub r (List.mem_of_mem_drop hr), ka, kb, rfl⟩⟩ hm1 (S1.trans S3) ⟨rfl, rfl, rfl⟩
 ·simp only [List.mem_cons] at hb
  rcases hb with rfl | rfl | rfl | hb
  ·exact ⟨hrb.1, rbF, obj_lt rr2, Saf.row rr2 (by decide), Saf.offMt T2 fun cs e => absurd (cells_ty rr2 e) (by decide), rjn⟩
  ·exact ⟨mbo.1, mbo.2, tab2.lt, tab2.saf, Saf.offMt T2 fun cs e => tab2.other e rfl, Ne.symm mjn⟩
  ·exact ⟨by omega, fun u => by have := T1.P.pool.lt _ u; omega, hsz, Saf.row r2 (by decide), Saf.offMt T2 fun cs e => absurd (cells_ty r2 e) (by decide), jne⟩
  ·exact (hex1 b hb).1.r.mod mm (hex1 b hb).1.r.2.2.2.2.2 rfl
 ·have hr' := sub r (List.mem_of_mem_take hr)
  exact ⟨kb r hr', (fb.ok.rows r hr').1⟩
end
theorem zc_tk [Tab] : (zc Tryz.prog Yav).size = 3 := by kernel_rfl
theorem size_tk : sizeB Tryz.prog Yav 3 = true := by kernel_rfl
theorem RowT.ldAtT [Tab] {c : Cod} {H : Heap} {b o n : Nat} {t : TypeId} {cs ds : Array Value} {x : c.α} {K : c.α → Prop} (h : RowT H b t cs) (hx : c.enc x = .agg ds) (hn : ds.size = n) (hd : ∀ i, i < n → cs[o + i]? = ds[i]?) (hK : K x) : Go.Proofs.YtkehfflpbpdokaaGreat.ldA c n H (Addr.add ⟨b, 0, none⟩ o) K :=
 ⟨x, by rw [add_lit0, hx]; exact h.hRow hn hd, hK⟩
def pot (ts : List Tk) (m : Nat) : Nat := m + 20000 * (ts.length + 2 * pend ts)
section
variable {H0 A B : Heap} {c : Cfg} {dp Q most U U' m m' rb mb : Nat} {n : Int} {cla clb Kk : List Int} {F F' Y Y' Z Z' : Nat → Prop} {s s' : Pl} {M M' : Files} {x x' : Jc} {bl bl' : List Nat} {nw nw' : List HFile} {ts ts' : List Tk} {t : Tk} {f g ta tb : HFile} {L TL Ll Lf rest : List (List Int)} {R R0 R' : List Nat} {tsl tsl' : Sl}
theorem Step.drx [Tab] (S : Step (fun b => F b ∨ DrX c.j x.fs b) (fun b => F' b ∨ DrX c.j x'.fs b) A B) (h : x'.tasks = x.tasks ∧ x'.mt = x.mt) : Step (XR c x F R) (XR c x' F' R) A B := by
 refine S.widen (fun b u => ?_) fun b u => ?_
 ·rcases u with u | u | u
  ·exact .inl (.inl u)
  ·exact .inl (.inr (.inl u))
  ·exact .inl (.inr (.inr (.inr (.inl u))))
 ·rcases u with (u | u | u | u | u) | u
  ·exact .inr (.inl u)
  ·exact .inl (.inl (.inr (.inl u)))
  ·rw [h.1] at u; exact .inl (.inl (.inr (.inr (.inl u))))
  ·exact .inr (.inr (.inr u))
  ·rw [h.2] at u; exact .inl (.inl (.inr (.inr (.inr (.inr u)))))
  ·exact .inl (.inr u)
theorem Step.tx [Tab] (S : Step (TX c x F) (TX c x' F') A B) : Step (XR c x F R) (XR c x' F' R) A B := S.widen (fun b u => .inl u) fun b u => u.elim .inr fun v => .inl (.inr v)
theorem Step.cj [Tab] (mm : Mod (fun b => b = c.j) A B) (h : x'.mt = x.mt ∧ x'.fs = x.fs ∧ ∀ b, ownB x'.tasks b → ownB x.tasks b) : Step (XR c x F R) (XR c x' F R) A B := by
 refine ⟨mm.mono fun b _ u => .inl (.inr (.inl u)), fun b u => .inl ?_⟩
 rcases u with (u | u | u | u | u) | u
 ·exact .inl (.inl u)
 ·exact .inl (.inr (.inl u))
 ·exact .inl (.inr (.inr (.inl (h.2.2 b u))))
 ·rw [h.2.1] at u; exact .inl (.inr (.inr (.inr (.inl u))))
 ·rw [h.1] at u; exact .inl (.inr (.inr (.inr (.inr u))))
 ·exact .inr u
theorem Step.exr [Tab] (e : Ext A B) : Step (XR c x F R) (XR c x F R) A B := ⟨Ext.mod e, fun b u => .inl u⟩
theorem TS.popT [Tab] (T : TS H0 c dp Q most cla clb Kk A F s M U m x bl [] (ts ++ [t])) (mm : Mod (fun b => b = c.j) A B) (jo' : RowT B c.j Yaq (joW c { x with tasks := ⟨x.tasks.a, ts.length, x.tasks.c⟩ })) : TS H0 c dp Q most cla clb Kk B F s M U m { x with tasks := ⟨x.tasks.a, ts.length, x.tasks.c⟩ } bl [t.a, t.b] ts := by
 have cut : SlE ETk Yav A ⟨x.tasks.a, ts.length, x.tasks.c⟩ ts := by
  have := SlE.cutT T.tk (by decide) (n := ts.length) (by simp)
  rwa [List.take_left] at this
 refine T.swap (nw' := [t.a, t.b]) (mm.mono fun b _ u => .inl u) jo' (Owns.mod cut mm fun b hb u => own_ne T.jo (show Owns A 0 Yav 3 _ _ from cut) (by decide) (u ▸ hb)) (fun b hb => .inl hb) ?_ fun q hq => T.keys q (List.mem_append.2 (.inl hq))
 unfold tfs
 rw [List.flatMap_append]
 exact List.perm_append_comm
set_option maxRecDepth 100000 in
set_option maxHeartbeats 4000000 in
theorem turn_ok [Tab] {K : (Bool × Int) → Heap → Prop} (T : TS H0 c dp Q most cla clb Kk A F s M U m x bl nw ts) (hg : Gl H0) (hQ : Q ≤ 1048576) (hbg : x.begun = true) (hcl : cla.length ≤ 1000 ∧ clb.length ≤ 1000) (hKn : sumW Kk (-1) = n) (bud : Bud Q x ts U) (hP : pot ts m + 10000 < 30000000000)
  (hex : ∀ b ∈ x.ex, OutZ H0 c A F x b ∧ b ∈ R0)
  (alt : (x.fr = none ∧ nw = []) ∨ ∃ rb ta tb, x.fr = at0 rb ∧ nw = [ta, tb] ∧ x.na = at0 ta.blk ∧ x.nb = at0 tb.blk ∧ rb ∈ R0 ∧ (H0.size ≤ rb ∧ ¬ F rb) ∧ RdA (XR c x F (rb :: x.ex)) A rb tb [] ∧ rb ∉ x.ex)
  (hK1 : ∀ F' s' M' U' m' x' bl' ta tb ts' mb tsl TL R' rest' B, NR H0 c dp Q most cla clb Kk n B F' s' M' U' m' x' bl' [ta, tb] ts' R' mb tsl TL ta.rows rest' → pairL TL ta.rows ++ rest' = remT ts → pot ts' m' ≤ pot ts m + 5000 → x'.mt = x.mt ∧ x'.ex = x.ex ∧ x'.eg = x.eg → TL ≠ [] ∧ ta.rows ≠ [] → Step (XR c x F R0) (XT c x' F' R' tsl) A B → K (true, 0) B)
  (hK0 : remT ts = [] → ∀ F' s' M' U' m' x' bl' B, TS H0 c dp Q most cla clb Kk B F' s' M' U' m' x' bl' [] [] → (∀ b ∈ x.ex, B[b]? = x.eg b) → Step (XR c x F R0) (XR c x' F' R0) A B → K (false, 0) B) : Zch.sp (at0 c.j) A K := by
 have hP' : m + 10000 + 20000 * (ts.length + 2 * pend ts) < 30000000000 := by unfold pot at hP; omega
 refine Zch.of ?_
 unfold Zch.vc
 refine ⟨fun _ B => ∃ F1 s1 M1 U1 m1 x1 bl1, TS H0 c dp Q most cla clb Kk B F1 s1 M1 U1 m1 x1 bl1 [] ts ∧ x1.fr = none ∧ x1.begun = true ∧ (x1.mt = x.mt ∧ x1.ex = x.ex ∧ x1.eg = x.eg) ∧ Bud Q x1 ts U1 ∧ m1 ≤ m + 4210 ∧ (∀ b ∈ x.ex, OutZ H0 c B F1 x b) ∧ Step (XR c x F R0) (XR c x1 F1 R0) A B, ?_, ?_⟩
 ·simp only [optK_eq, at0]
  refine RowT.ld (c := cPtr) (i := 18) (x := x.fr) T.jo rfl ?_
  rcases alt with ⟨h1, h2⟩ | ⟨rb, ta, tb, hfr, hnw, hna, hnb, hrR, hrb, rd, hrx⟩
  ·subst h2
   rw [h1]
   exact br_f rfl ⟨F, s, M, U, m, x, bl, T, h1, hbg, ⟨rfl, rfl, rfl⟩, bud, by omega, fun b hb => (hex b hb).1, .refl _ _⟩
  ·subst hnw
   rw [hfr]
   refine br_t rfl ?_
   have hnx := bud.nx
   have hgb := bud.gb
   refine hload_ok (f := tb) (n := n) T hg hQ (by omega) hfr (by simp) (by omega) hrb rd (fun b hb => (hex b hb).1) hrx hcl.2 (fun r hr => by cases hr) hKn fun mb tsl F1 s1 m1 B T1 hm1 tab mbo tlo rd1 rbF hex1 S1 => ?_
   refine br_f rfl ?_
   refine RowT.ld (c := cInt .i64) (i := 17) (x := 0) T1.jo rfl ?_
   refine br_f (by decide) ?_
   refine RowT.st (i := 18) T1.jo (by simp [joW]) rfl fun B1 jo1 mm1 z1 => ?_
   have jo1 : RowT B1 c.j Yaq (joW c { x with tb := some mb, held := 0, fr := none }) := jo1
   have T2 := T1.own (x' := { x with tb := some mb, held := 0, fr := none }) mm1 jo1 ⟨rfl, rfl, rfl, Nat.le_refl _, rfl⟩
   refine RowT.ldAtT (c := cAgg [cPtr, cPtr, (cInt .i64)]) (x := (at0 ta.blk, at0 tb.blk, x.lv)) (ds := #[.pointer (at0 ta.blk), .pointer (at0 tb.blk), .int .i64 x.lv]) jo1 rfl rfl (fun i hi => ?_) ?_
   ·have : i = 0 ∨ i = 1 ∨ i = 2 := by omega
    rcases this with rfl | rfl | rfl
    ·show some (Value.pointer x.na) = _; rw [hna]; rfl
    ·show some (Value.pointer x.nb) = _; rw [hnb]; rfl
    ·rfl
   refine T2.gone hg (by show x.gb ≤ 90; omega) fun F3 s3 M3 U3 fs3 bl3 B3 T3 hU3 S3 => ?_
   refine br_f rfl ?_
   have SA : Step (XR c x F R0) (XR c x F1 R0) A B := S1.widen (fun b u => ?_) fun b u => ?_
   have SB : Step (XR c x F1 R0) (XR c x F1 R0) B B1 := Step.cj (x' := x) mm1 ⟨rfl, rfl, fun b u => u⟩
   have SC : Step (XR c x F1 R0) (XR c { x with tb := some mb, held := 0, fr := none, fs := fs3 } F3 R0) B1 B3 := Step.drx (x := x) (x' := { x with tb := some mb, held := 0, fr := none, fs := fs3 }) S3 ⟨rfl, rfl⟩
   have hex3 : ∀ b ∈ x.ex, OutZ H0 c B3 F3 x b := fun b hb => by
    have o1 := (hex1 b hb).1.mod mm1 (hex1 b hb).1.r.2.2.2.2.2 (x' := { x with tb := some mb, held := 0, fr := none }) ⟨rfl, rfl⟩
    exact o1.step S3 (fun u => o1.off T2 (u.elim (fun v => .inr (.inl v)) fun v => .inr (.inr (.inr (.inl v))))) ⟨rfl, rfl⟩
   exact ⟨F3, s3, M3, U3, m1 + 4200, _, bl3, T3, rfl, hbg, ⟨rfl, rfl, rfl⟩, ⟨bud.nx, bud.gb, bud.ln, by have := bud.U; omega⟩, by omega, hex3, SA.trans (SB.trans SC)⟩
   ·rcases u with u | u
    ·exact .inl u
    ·rcases List.mem_cons.1 u with u | u
     ·rw [u]; exact .inr hrR
     ·exact .inr (hex b u).2
   ·rcases u with u | u
    ·exact .inr (.inl (.inl u))
    ·exact .inl (.inr u)
 ·rintro _ A1 ⟨F1, s1, M1, U1, m1, x1, bl1, T1, hfr1, hbg1, hmt1, bud1, hm1, hex1, S1⟩
  refine loop_upto (ts.length + 2 * pend ts) (fun i _ C => ∃ F2 s2 M2 U2 m2 x2 bl2 ts2, TS H0 c dp Q most cla clb Kk C F2 s2 M2 U2 m2 x2 bl2 [] ts2 ∧ x2.fr = none ∧ x2.begun = true ∧ (x2.mt = x.mt ∧ x2.ex = x.ex ∧ x2.eg = x.eg) ∧ (∀ b ∈ x.ex, OutZ H0 c C F2 x b) ∧ Bud Q x2 ts2 U2 ∧ m2 + 20000 * (ts2.length + 2 * pend ts2) ≤ m + 4210 + 20000 * (ts.length + 2 * pend ts) ∧ remT ts2 = remT ts ∧ i + (ts2.length + 2 * pend ts2) ≤ ts.length + 2 * pend ts ∧ Step (XR c x F R0) (XR c x2 F2 R0) A C)
   ⟨F1, s1, M1, U1, m1, x1, bl1, ts, T1, hfr1, hbg1, hmt1, hex1, bud1, by omega, rfl, by omega, S1⟩ ?_
  rintro i _ C next hi ⟨F2, s2, M2, U2, m2, x2, bl2, ts2, T2, hfr2, hbg2, hmt2, hex2, bud2, hm2, hrem, hi2, S2⟩ hnext
  simp only [optK_eq, at0]
  refine RowT.ld (c := cSl) (i := 11) (x := x2.tasks) T2.jo rfl ?_
  have htn := SlE.n T2.tk (by decide)
  rcases List.eq_nil_or_concat ts2 with rfl | ⟨ts3, t, rfl⟩
  ·refine br_f (by rw [htn]; rfl) ?_
   exact hK0 (hrem.symm.trans remT_nil) F2 s2 M2 U2 m2 x2 bl2 C T2 (fun b hb => (hex2 b hb).e) S2
  rw [List.concat_eq_append] at *
  have hl3 : (ts3 ++ [t]).length = ts3.length + 1 := by simp
  rw [hl3] at htn hm2 hi2
  refine br_t (decide_eq_true (by omega)) ?_
  have hw : IntKind.i64.wrap ((x2.tasks.n : Int) - 1) = (ts3.length : Int) := by
   rw [htn, wrap64 (by omega) (by have := bud2.ln; omega)]
   omega
  obtain ⟨ad, had⟩ := T2.tk.rd.addr (by decide) (by rw [hl3]; omega)
  have hget : (ts3 ++ [t])[ts3.length]? = some t := by simp
  refine ⟨fun D => Ext C D, .refl _ _, ?_⟩
  refine RowT.ldC (c := cSl) (i := 11) (x := x2.tasks) (cs := fun _ => joW c x2) (fun D hD => T2.jo.ext hD) (fun _ _ => rfl) ?_
  refine RowT.ldC (c := cSl) (i := 11) (x := x2.tasks) (cs := fun _ => joW c x2) (fun D hD => T2.jo.ext hD) (fun _ _ => rfl) ?_
  refine optK_mk ad had ⟨⟨by rw [hw]; omega, by rw [hw]; omega⟩, (at0 t.a.blk, at0 t.b.blk, (t.lv : Int)), fun D hD => ?_, ?_⟩
  ·rw [hw, Int.toNat_natCast]
   exact (SlE.rd (Owns.mod T2.tk (Ext.mod hD (F := fun _ => False)) fun _ _ => id)).row had hget
  have hkt := T2.keys t (by simp)
  refine newC_rowT fun C1 z1 p1 e1 => ⟨e1, ?_⟩
  refine RowT.stAll p1 (cs := #[.pointer (at0 t.a.blk), .pointer (at0 t.b.blk), .int .i64 (t.lv : Int)]) size_tk zc_tk (by simp [Value.oneCell']) fun C2 p2 mp2 zp2 => ?_
  have e2 : Ext C C2 := ⟨by have := e1.size; omega, fun b hb _ => (mp2.same b (by have := e1.size; omega) (by omega)).trans (e1.same b hb id)⟩
  have T3 := T2.ext e2
  have htx : x2.tasks.n ≤ x2.tasks.c := Owns.cap T3.tk
  refine RowT.ld (c := cSl) (i := 11) (x := x2.tasks) T3.jo rfl ?_
  refine RowT.ld (c := cSl) (i := 11) (x := x2.tasks) T3.jo rfl ?_
  refine ⟨⟨by rw [hw]; omega, by rw [hw]; omega⟩, ?_⟩
  rw [hw, Int.toNat_natCast, slA_zt, Nat.sub_zero, Nat.sub_zero]
  refine RowT.st (v := Sl.v ⟨x2.tasks.a, ts3.length, x2.tasks.c⟩) (i := 11) T3.jo (by simp [joW]) rfl fun C3 jo3 mj3 zj3 => ?_
  have jo3 : RowT C3 c.j Yaq (joW c { x2 with tasks := ⟨x2.tasks.a, ts3.length, x2.tasks.c⟩ }) := jo3
  have T4 := T3.popT mj3 jo3
  have jlt := obj_lt T2.jo
  have p3 := p2.mod mj3 (by omega)
  have hex4 : ∀ b ∈ x.ex, OutZ H0 c C3 F2 x b := fun b hb => (hex2 b hb).mod ((Ext.mod e2).trans mj3) (hex2 b hb).r.2.2.2.2.2 ⟨rfl, rfl⟩
  have toX4 : ∀ {b : Nat}, OutZ H0 c C3 F2 x b → ¬ TX c { x2 with tasks := ⟨x2.tasks.a, ts3.length, x2.tasks.c⟩ } F2 b := fun {b} h => OutZ.off (x := { x2 with tasks := ⟨x2.tasks.a, ts3.length, x2.tasks.c⟩ }) ⟨⟨h.r.1, h.r.2.1, h.r.2.2.1, h.r.2.2.2.1, by show ¬ ownB x2.mt b; rw [hmt2.1]; exact h.r.2.2.2.2.1, h.r.2.2.2.2.2⟩, by show C3[b]? = x2.eg b; rw [hmt2.2.2]; exact h.e⟩ T4
  have fta := T4.files t.a (by simp)
  have ftb := T4.files t.b (by simp)
  have ps := pend_snoc (ts := ts3) (t := t)
  have S4 : Step (XR c x F R0) (XR c { x2 with tasks := ⟨x2.tasks.a, ts3.length, x2.tasks.c⟩ } F2 R0) A C3 := S2.trans ((Step.exr e2).trans (Step.cj (x := x2) (x' := { x2 with tasks := ⟨x2.tasks.a, ts3.length, x2.tasks.c⟩ }) mj3 ⟨rfl, rfl, fun b u => u⟩))
  have bud4 : Bud Q { x2 with tasks := ⟨x2.tasks.a, ts3.length, x2.tasks.c⟩ } ts3 U2 := ⟨by have := bud2.nx; show x2.nx + _ ≤ 40; omega, by have := bud2.gb; show x2.gb + _ ≤ 40; omega, by have := bud2.ln; rw [hl3] at this; omega, by have := bud2.U; omega⟩
  -- a task without rows
  have skip : (t.a.rows = [] ∨ t.b.rows = []) → Zcf.sp (at0 c.j) (at0 t.a.blk) (at0 t.b.blk) (t.lv : Int) C3 fun e D => br (e != (0 : Int)) (K (false, e) D) (next () D) := fun h0 => by
   refine T4.gone hg (by have := bud4.gb; show x2.gb ≤ 90; have : x2.gb + 2 * pend ts3 ≤ 40 := bud4.gb; omega) fun F5 s5 M5 U5 fs5 bl5 B5 T5 hU5 S5 => ?_
   refine br_f rfl ?_
   refine hnext (by omega) _ _ ⟨F5, s5, M5, U5, m2 + 4200, _, bl5, ts3, T5, hfr2, hbg2, hmt2, fun b hb => (hex4 b hb).step S5 (fun u => toX4 (hex4 b hb) (u.elim (fun v => .inr (.inl v)) fun v => .inr (.inr (.inr (.inl v))))) ⟨rfl, rfl⟩, ⟨bud4.nx, bud4.gb, bud4.ln, by have := bud4.U; omega⟩, by omega, ?_, by omega, S4.trans (Step.drx (x := { x2 with tasks := ⟨x2.tasks.a, ts3.length, x2.tasks.c⟩ }) (x' := { x2 with tasks := ⟨x2.tasks.a, ts3.length, x2.tasks.c⟩, fs := fs5 }) S5 ⟨rfl, rfl⟩)⟩
   rw [← hrem, remT_snoc]
   rcases h0 with h0 | h0
   ·rw [h0, passL_nilA]; rfl
   ·rw [h0]; rfl
  refine RowT.ld (c := cPtr) (i := 0) (x := at0 t.a.blk) p3 rfl ?_
  simp only [at0, optK_eq]
  refine RowT.ld (c := cInt .i64) (i := 3) (x := (t.a.rows.length : Int)) fta.row rfl ?_
  refine br_mk (fun h0 => ?_) fun ha0 => ?_
  ·refine RowT.ldA (c := cAgg [cPtr, cPtr, (cInt .i64)]) (x := (at0 t.a.blk, at0 t.b.blk, (t.lv : Int))) p3 rfl rfl ?_
   refine skip (.inl (List.length_eq_zero_iff.1 ?_))
   have h0 : (t.a.rows.length : Int) = 0 := by simpa using h0
   omega
  refine RowT.ld (c := cPtr) (i := 1) (x := at0 t.b.blk) p3 rfl ?_
  simp only [at0, optK_eq]
  refine RowT.ld (c := cInt .i64) (i := 3) (x := (t.b.rows.length : Int)) ftb.row rfl ?_
  refine br_mk (fun h0 => ?_) fun hb0 => ?_
  ·refine RowT.ldA (c := cAgg [cPtr, cPtr, (cInt .i64)]) (x := (at0 t.a.blk, at0 t.b.blk, (t.lv : Int))) p3 rfl rfl ?_
   refine skip (.inr (List.length_eq_zero_iff.1 ?_))
   have h0 : (t.b.rows.length : Int) = 0 := by simpa using h0
   omega
  have ha0 : t.a.rows ≠ [] := fun e => by rw [e] at ha0; exact absurd ha0 (by decide)
  have hb0 : t.b.rows ≠ [] := fun e => by rw [e] at hb0; exact absurd hb0 (by decide)
  refine ⟨fun z D => C3 = D ∧ (z = true → t.lv < 8), ?_, ?_⟩
  ·refine ⟨fun D => C3 = D, rfl, ?_⟩
   refine RowT.ldC (c := cPtr) (i := 1) (x := at0 t.b.blk) (cs := fun _ => #[.pointer (at0 t.a.blk), .pointer (at0 t.b.blk), .int .i64 (t.lv : Int)]) (fun D hD => hD ▸ p3) (fun _ _ => rfl) ?_
   simp only [at0, optK_eq]
   refine RowT.ldC (c := cInt .i64) (i := 3) (x := (t.b.rows.length : Int)) (cs := fun _ => fileV 16 t.b) (fun D hD => hD ▸ ftb.row) (fun _ _ => rfl) ?_
   refine jmost_ok T4.jo rfl rfl ⟨rfl, ?_⟩
   refine br_mk (fun _ => ?_) fun _ => ⟨rfl, fun h => by cases h⟩
   refine RowT.ld (c := cInt .i64) (i := 2) (x := (t.lv : Int)) p3 rfl ⟨rfl, fun h => ?_⟩
   have := of_decide_eq_true h
   omega
  rintro z _ ⟨rfl, hz⟩
  refine br_mk (fun hzt => ?_) fun _ => ?_
  ·have hlv := hz hzt
   rw [if_pos hlv] at ps
   rw [ps] at hm2 hi2
   refine RowT.ldA (c := cAgg [cPtr, cPtr, (cInt .i64)]) (x := (at0 t.a.blk, at0 t.b.blk, (t.lv : Int))) p3 rfl rfl ?_
   have b1 := bud2.nx
   have b2 := bud2.gb
   have b3 := bud2.ln
   have b4 := bud2.U
   rw [ps] at b1 b2 b3 b4
   rw [hl3] at b3
   refine TS.again (t := t) T4 hg hQ (by omega) (by omega) (by show x2.nx ≤ 80; omega) (by show x2.gb ≤ 80; omega) (by omega) hcl hkt.1 hkt.2 hb0 (by omega) fun F5 s5 M5 U5 m5 x5 bl5 t0 t1 B5 T5 hU5 hm5 hlv5 hx5 hrw5 S5 => ?_
   refine br_f rfl ?_
   obtain ⟨tl, fl, rfl⟩ := hx5
   have pa := pend_again (ts := ts3) hlv5.1 hlv5.2
   have hl5 : (ts3 ++ [t0, t1]).length = ts3.length + 2 := by simp
   refine hnext (by omega) _ _ ⟨F5, s5, M5, U5, m5, _, bl5, ts3 ++ [t0, t1], T5, hfr2, hbg2, hmt2, fun b hb => (hex4 b hb).step (Y := TX c { x2 with tasks := ⟨x2.tasks.a, ts3.length, x2.tasks.c⟩ } F2) (Y' := TX c { x2 with nx := x2.nx + 4, gb := x2.gb + 2, tasks := tl, fs := fl } F5) (S5.widen (fun b u => .inr u) fun b u => .inr (u.elim .inl id)) (toX4 (hex4 b hb)) ⟨rfl, rfl⟩, ⟨by rw [pa]; show x2.nx + 4 + _ ≤ 40; omega, by rw [pa]; show x2.gb + 2 + _ ≤ 40; omega, by rw [pa, hl5]; omega, by rw [pa]; omega⟩, by rw [pa, hl5]; omega, (remT_again hrw5).trans hrem, by rw [pa, hl5]; omega, S4.trans S5.tx⟩
  ·-- now it is this part
   have hp3 : m2 + 20000 * (ts3.length + 2 * pend ts3) + 20000 ≤ m + 4210 + 20000 * (ts.length + 2 * pend ts) := by omega
   refine ⟨fun D => RowT D C.size Yav #[.pointer (at0 t.a.blk), .pointer (at0 t.b.blk), .int .i64 (t.lv : Int)], p3, ?_⟩
   refine ⟨(at0 t.a.blk, at0 t.b.blk, (t.lv : Int)), fun D hD => hD.hRow (o := 0) rfl (fun i _ => by rw [Nat.zero_add]), ?_⟩
   refine RowT.ldC (c := cPtr) (i := 1) (x := at0 t.b.blk) (cs := fun _ => #[.pointer (at0 t.a.blk), .pointer (at0 t.b.blk), .int .i64 (t.lv : Int)]) (fun D hD => hD) (fun _ _ => rfl) ?_
   -- what is told, once all is laid
   have fin : ∀ D r, Mod (fun b => b = c.j) C3 D → RowT D c.j Yaq (joW c { x2 with tasks := ⟨x2.tasks.a, ts3.length, x2.tasks.c⟩, na := at0 t.a.blk, nb := at0 t.b.blk, lv := (t.lv : Int), fr := at0 r }) → RowT D r Yas (rdrV t.b.blk 0 (Sl.mk none 0 0)) → C3.size ≤ r → Zch.sp (at0 c.j) D fun r D => K (r.1, r.2) D := fun D r mD joD rD hr => by
    have T5 := T4.own (x' := { x2 with tasks := ⟨x2.tasks.a, ts3.length, x2.tasks.c⟩, na := at0 t.a.blk, nb := at0 t.b.blk, lv := (t.lv : Int), fr := at0 r }) mD joD ⟨rfl, rfl, rfl, Nat.le_refl _, rfl⟩
    have hz0 := T4.P.ext.size
    have fb5 := T5.files t.b (by simp)
    have hexD : ∀ b ∈ x2.ex, OutZ H0 c D F2 { x2 with tasks := ⟨x2.tasks.a, ts3.length, x2.tasks.c⟩, na := at0 t.a.blk, nb := at0 t.b.blk, lv := (t.lv : Int), fr := at0 r } b := fun b hb => by
     rw [hmt2.2.1] at hb
     exact (hex4 b hb).mod mD (hex4 b hb).r.2.2.2.2.2 ⟨hmt2.1, hmt2.2.2⟩
    have hrD : r ∉ x2.ex := fun hb => by
     rw [hmt2.2.1] at hb
     have := (hex4 r hb).r.2.2.1
     omega
    refine turnA_ok (n := n) (L := t.b.rows) T5 hg hQ (by omega) hbg2 rfl rfl rfl ⟨by omega, fun u => by have := T4.P.pool.lt _ u; omega⟩ (RdA.new fb5 rD) hexD hrD hcl.2 hb0 (fun r hr => hr) hkt.1 hkt.2 ha0 hKn ⟨bud4.nx, bud4.gb, bud4.ln, bud4.U⟩ fun F6 s6 m6 x6 mb tsl R6 B6 N6 hm6 S6 hmt6 => ?_
    refine hK1 F6 s6 M2 U2 m6 x6 bl2 t.a t.b ts3 mb tsl _ R6 _ B6 N6 ?_ ?_ ⟨hmt6.1.trans hmt2.1, hmt6.2.1.trans hmt2.2.1, hmt6.2.2.trans hmt2.2.2⟩ ⟨fun e => ?_, ha0⟩ ?_
    ·rw [← List.append_assoc, ← passL_cut (by decide) hb0, ← hrem, remT_snoc]
    ·unfold pot; omega
    ·have h1 := congrArg List.length e
     have := List.length_pos_iff.2 hb0
     rw [List.length_take] at h1
     rw [List.length_nil] at h1; omega
    ·have S5 : Step (XR c { x2 with tasks := ⟨x2.tasks.a, ts3.length, x2.tasks.c⟩ } F2 R0) (fun b => XR c { x2 with tasks := ⟨x2.tasks.a, ts3.length, x2.tasks.c⟩ } F2 R0 b ∨ b = r) C3 D := ⟨mD.mono fun b _ u => .inl (.inr (.inl u)), fun b u => u.imp id fun v => by omega⟩
     refine S4.trans (S5.trans (S6.widen (fun b u => ?_) fun b u => .inr u))
     rcases u with u | u
     ·exact .inl (.inl u)
     ·rcases List.mem_cons.1 u with u | u
      ·exact .inr u
      ·have hb : b ∈ x2.ex := u
       rw [hmt2.2.1] at hb
       exact .inl (.inr (hex b hb).2)
   have z3 : C3.size = C1.size := by omega
   have hjm : C.size ≠ c.j := by omega
   constructor
   ·refine newC_rowT fun D1 y1 r1 f1 => ⟨p3.ext f1, ?_⟩
    refine doU_storeAt (o := 13) (T4.jo.ext f1) size_tk (by simp [joW]) (by simp [Value.oneCell']) fun D2 jo4 m4 z4 => ⟨(p3.ext f1).mod m4 hjm, ?_⟩
    have jo4 : RowT D2 c.j Yaq (joW c { x2 with tasks := ⟨x2.tasks.a, ts3.length, x2.tasks.c⟩, na := at0 t.a.blk, nb := at0 t.b.blk, lv := (t.lv : Int) }) := jo4
    refine RowT.st (i := 18) jo4 (by simp [joW]) rfl fun D3 jo5 m5 z5 => ⟨((p3.ext f1).mod m4 hjm).mod m5 hjm, ?_⟩
    have hrj : C3.size ≠ c.j := by have := obj_lt T4.jo; omega
    exact fin D3 C3.size ((Ext.mod f1).trans (m4.trans m5)) jo5 ((RowT.mod r1 m4 hrj).mod m5 hrj) (Nat.le_refl _)
   ·refine doU_storeAt (o := 13) T4.jo size_tk (by simp [joW]) (by simp [Value.oneCell']) fun D2 jo4 m4 z4 => ⟨p3.mod m4 hjm, ?_⟩
    have jo4 : RowT D2 c.j Yaq (joW c { x2 with tasks := ⟨x2.tasks.a, ts3.length, x2.tasks.c⟩, na := at0 t.a.blk, nb := at0 t.b.blk, lv := (t.lv : Int) }) := jo4
    refine newC_rowT fun D1 y1 r1 f1 => ⟨(p3.mod m4 hjm).ext f1, ?_⟩
    refine RowT.st (i := 18) (jo4.ext f1) (by simp [joW]) rfl fun D3 jo5 m5 z5 => ⟨((p3.mod m4 hjm).ext f1).mod m5 hjm, ?_⟩
    have hrj : D2.size ≠ c.j := by have := obj_lt jo4; omega
    exact fin D3 D2.size (m4.trans ((Ext.mod f1).trans m5)) jo5 (RowT.mod r1 m5 hrj) (by have := m4.size; omega)
end
def XM (c : Cfg) (x : Jc) (F : Nat → Prop) (R : List Nat) (tsl : Sl) (b : Nat) : Prop := (F b ∨ b = c.j ∨ ownB x.tasks b ∨ ownB x.fs b) ∨ b ∈ R ∨ ownB tsl b
section
variable {H0 A B : Heap} {c : Cfg} {dp Q most U U' m m' rb mb : Nat} {n : Int} {cla clb Kk : List Int} {F F' Y Y' Z Z' : Nat → Prop} {s s' : Pl} {M M' : Files} {x x' : Jc} {bl bl' : List Nat} {nw nw' : List HFile} {ts ts' : List Tk} {t : Tk} {f g ta tb : HFile} {L TL Ll Lf rest : List (List Int)} {R R0 R' : List Nat} {tsl tsl' : Sl}
theorem XT_mt [Tab] {b : Nat} : XT c x F R tsl b ↔ (XM c x F R tsl b ∨ ownB x.mt b) := by
 unfold XT XR TX XM
 constructor
 ·rintro (((u | u | u | u | u) | u) | u)
  ·exact .inl (.inl (.inl u))
  ·exact .inl (.inl (.inr (.inl u)))
  ·exact .inl (.inl (.inr (.inr (.inl u))))
  ·exact .inl (.inl (.inr (.inr (.inr u))))
  ·exact .inr u
  ·exact .inl (.inr (.inl u))
  ·exact .inl (.inr (.inr u))
 ·rintro (((u | u | u | u) | u | u) | u)
  ·exact .inl (.inl (.inl u))
  ·exact .inl (.inl (.inr (.inl u)))
  ·exact .inl (.inl (.inr (.inr (.inl u))))
  ·exact .inl (.inl (.inr (.inr (.inr (.inl u)))))
  ·exact .inl (.inr u)
  ·exact .inr u
  ·exact .inl (.inl (.inr (.inr (.inr (.inr u)))))
theorem NR.offM [Tab] (N : NR H0 c dp Q most cla clb Kk n A F s M U m x bl nw ts R mb tsl TL Ll rest) : ∀ b, ownB x.mt b → ¬ XM c x F R tsl b := fun b hb u => by
 obtain ⟨cur, e⟩ := N.T.mt.obj b hb
 rcases u with (u | u | u | u) | u | u
 ·exact (N.T.mto b hb).2 u
 ·subst u; exact absurd (cells_ty e N.T.jo) (by decide)
 ·obtain ⟨cur2, e2⟩ := Owns.obj N.T.tk b u; exact absurd (cells_ty e e2) (by decide)
 ·obtain ⟨cur2, e2⟩ := N.T.fsl.obj b u; exact absurd (cells_ty e e2) (by decide)
 ·exact (N.ro b u).2.2.2.2.1 hb
 ·exact N.tab.rows.off b u (.inl (.inr (.inr (.inr (.inr hb)))))
theorem NR.exR [Tab] (N : NR H0 c dp Q most cla clb Kk n A F s M U m x bl nw ts R mb tsl TL Ll rest) : ∀ b ∈ x.ex, b ∈ R := fun b hb => by
 rcases N.alt with ⟨_, ta, tb, rb, rb2, Lf, P⟩ | P | ⟨rb2, fb, P⟩
 ·rw [P.R]; simp [hb]
 ·rw [P.R]; simp [hb]
 ·rw [P.R]; simp [hb]
theorem NR.exZ [Tab] (N : NR H0 c dp Q most cla clb Kk n A F s M U m x bl nw ts R mb tsl TL Ll rest) : ∀ b ∈ x.ex, OutZ H0 c A F x b := fun b hb => ⟨N.ro b (N.exR b hb), N.eg b hb⟩
theorem NR.mt0 [Tab] (N : NR H0 c dp Q most cla clb Kk n A F s M U m x bl nw ts R mb tsl TL Ll rest) (h0 : x.mt.n = 0) : RowsT (XM c x F R tsl) A x.mt [] := by
 obtain ⟨xs, o⟩ := N.T.mt
 have hx : xs = [] := List.length_eq_zero_iff.1 (by have := o.1; omega)
 subst hx
 exact ⟨⟨[], o, rfl, fun j r l hj => by simp at hj⟩, N.offM⟩
theorem TS.match [Tab] (h : TS H0 c dp Q most cla clb Kk A F s M U m x bl nw ts) {row' mt' : Sl} (mm : Mod (fun b => b = c.j ∨ ownB x.mt b) A B) (jo' : RowT B c.j Yaq (joW c { x with row := row', mt := mt' })) (hE : OwnE B mt') (ho : ∀ b, ownB mt' b → ownB x.mt b ∨ A.size ≤ b) : TS H0 c dp Q most cla clb Kk B F s M U m { x with row := row', mt := mt' } bl nw ts := by
 have hz := h.P.ext.size
 have nT : ∀ {b : Nat} {cs : Array Value} {t : TypeId}, A[b]? = some (.cells cs t (0, 0)) → t ≠ Yaq → t ≠ YaB → ¬ (b = c.j ∨ ownB x.mt b) := fun {b cs t} hb h1 h2 u => by
  rcases u with u | u
  ·subst u; exact h1 (cells_ty hb h.jo)
  ·obtain ⟨cur, e⟩ := h.mt.obj b u
   exact h2 (cells_ty hb e)
 have nO : ∀ {b : Nat} {s : Sl} {t : TypeId}, (∀ b, ownB s b → ∃ cur, A[b]? = some (.cells cur t (0, 0))) → t ≠ Yaq → t ≠ YaB → ownB s b → ¬ (b = c.j ∨ ownB x.mt b) := fun {b s t} ho h1 h2 hb => by
  obtain ⟨cur, e⟩ := ho b hb
  exact nT e h1 h2
 refine ⟨h.P.aside ⟨Nat.le_trans hz mm.size, fun b hb _ => (mm.same b (by omega) fun u => ?_).trans (h.P.ext.same b hb id)⟩ fun b hb => mm.same b (h.P.pool.lt b hb) fun u => ?_, jo', h.jF, Owns.mod h.tk mm fun b hb => nO (Owns.obj h.tk) (by decide) (by decide) hb, h.tko, h.fsl.mod mm fun b hb => nO h.fsl.obj (by decide) (by decide) hb, h.fso, fun q hq => ?_, h.bn, fun f hf => ?_, h.names, h.only, hE, fun b hb => ?_, h.ca.mod mm fun b hb => nO h.ca.obj (by decide) (by decide) hb, h.cao, h.cb.mod mm fun b hb => nO h.cb.obj (by decide) (by decide) hb, h.cbo, h.keys⟩
 ·have : H0.size ≤ b := u.elim (fun v => v ▸ h.jF.1) fun v => (h.mto b v).1
  omega
 ·exact u.elim (fun v => h.jF.2 (v ▸ hb)) fun v => (h.mto b v).2 hb
 ·obtain ⟨⟨cs, r⟩, hF⟩ := h.all q hq
  exact ⟨⟨cs, r.mod mm (nT r (by decide) (by decide))⟩, hF⟩
 ·have hf := h.files f hf
  exact ⟨hf.row.mod mm (nT hf.row (by decide) (by decide)), hf.lo, hf.nF, hf.st, hf.ok, hf.nm, hf.pd, hf.few⟩
 ·rcases ho b hb with u | u
  ·exact h.mto b u
  ·exact ⟨by omega, fun v => by have := h.P.pool.lt b v; omega⟩
theorem NR.write [Tab] (N : NR H0 c dp Q most cla clb Kk n A F s M U m x bl nw ts R mb tsl TL Ll rest) {row' mt' : Sl} (mm : Mod (fun b => b = c.j ∨ ownB x.mt b) A B) (jo' : RowT B c.j Yaq (joW c { x with row := row', mt := mt' })) (hE : OwnE B mt') (ho : ∀ b, ownB mt' b → ownB x.mt b ∨ A.size ≤ b) : NR H0 c dp Q most cla clb Kk n B F s M U m { x with row := row', mt := mt' } bl nw ts R mb tsl TL Ll rest ∧ Step (XT c x F R tsl) (XT c { x with row := row', mt := mt' } F R tsl) A B := by
 have T' := N.T.match mm jo' hE ho
 have inX : ∀ b, (b = c.j ∨ ownB x.mt b) → XR c x F R b := fun b u => u.elim (fun v => .inl (.inr (.inl v))) fun v => .inl (.inr (.inr (.inr (.inr v))))
 have SX : Step (XR c x F R) (XR c { x with row := row', mt := mt' } F R) A B := by
  refine ⟨mm.mono fun b _ u => inX b u, fun b u => ?_⟩
  rcases u with (u | u | u | u | u) | u
  ·exact .inl (.inl (.inl u))
  ·exact .inl (.inl (.inr (.inl u)))
  ·exact .inl (.inl (.inr (.inr (.inl u))))
  ·exact .inl (.inl (.inr (.inr (.inr (.inl u)))))
  ·exact (ho b u).imp (fun v => .inl (.inr (.inr (.inr (.inr v))))) id
  ·exact .inl (.inr u)
 have ST : Step (XT c x F R tsl) (XT c { x with row := row', mt := mt' } F R tsl) A B := SX.widen (fun b u => .inl u) fun b u => u.elim .inr fun v => .inl (.inr v)
 have nR : ∀ b ∈ R, ¬ (b = c.j ∨ ownB x.mt b) := fun b hb u => u.elim (N.ro b hb).2.2.2.2.2 (N.ro b hb).2.2.2.2.1
 have zz := mm.size
 have tab' : TabK (XR c { x with row := row', mt := mt' } F R) B mb n tsl TL := N.tab.step SX (mm.same mb N.tab.lt (nR mb N.mR))
 refine ⟨⟨T', N.tb, N.bg, N.mR, tab', N.tlo, fun b hb => ?_, fun b hb => (mm.same b (N.ro b (N.exR b hb)).2.2.1 (nR b (N.exR b hb))).trans (N.eg b hb), N.kt, N.kl, N.few, N.tn, ⟨N.bud.nx, N.bud.gb, N.bud.ln, N.bud.U⟩, ?_⟩, ST⟩
 ·obtain ⟨q1, q2, q3, q4, q5, q6⟩ := N.ro b hb
  refine ⟨q1, q2, by omega, fun cs t e => q4 cs t ((mm.same b q3 (nR b hb)).symm.trans e), fun u => (ho b u).elim q5 fun v => by omega, q6⟩
 ·rcases N.alt with ⟨hTL, ta, tb, rb, rb2, Lf, P⟩ | P | ⟨rb2, fb, P⟩
  ·refine .inl ⟨hTL, ta, tb, rb, rb2, Lf, P.nw, P.R, P.now, P.rf.step ST mm (nR rb (by rw [P.R]; simp)), P.rl.step ST mm (nR rb2 (by rw [P.R]; simp)), P.ne, P.nex, P.nea, P.sub, P.ka, P.kb, P.rest⟩
  ·refine .inr (.inl ⟨P.nw, P.R, P.lf, P.nex, P.src.write ⟨mm.mono fun b _ u => .inr (.inl (u.elim .inl fun v => .inr (.inr (.inr v)))), fun b u => ?_⟩, P.rest⟩)
   rcases u with u | (u | u | u | u) | u
   ·exact .inl (.inl u)
   ·exact .inl (.inr (.inl (.inl u)))
   ·exact .inl (.inr (.inl (.inr (.inl u))))
   ·exact .inl (.inr (.inl (.inr (.inr (.inl u)))))
   ·exact (ho b u).imp (fun v => .inr (.inl (.inr (.inr (.inr v))))) id
   ·exact .inl (.inr (.inr u))
  ·have hfb : ¬ (fb = c.j ∨ ownB x.mt fb) := fun u => by
    rcases u with u | u
    ·exact absurd (cells_ty P.ff (u ▸ N.T.jo)) (by decide)
    ·obtain ⟨cur, e⟩ := N.T.mt.obj _ u
     exact absurd (cells_ty P.ff e) (by decide)
   exact .inr (.inr ⟨rb2, fb, P.nw, P.R, P.fr, P.lf, P.rd.mod mm (nR rb2 (by rw [P.R]; simp)), P.ff.mod mm hfb, P.fF, P.emp, P.rest⟩)
theorem NR.readL [Tab] {K : (Sl × Bool × Int) → Heap → Prop} (N : NR H0 c dp Q most cla clb Kk n A F s M U m x bl nw ts R mb tsl TL Ll rest) (hg : Gl H0) (hQ : Q ≤ 1048576) (hm : m + 1 < 30000000000) (hTL : TL ≠ []) {rb rb2 : Nat} (P : AltP c A F x cla clb Kk nw ts R mb tsl TL Ll rest ta tb rb rb2 Lf)
  (hK0 : Ll = [] → K (Sl.mk none 0 0, false, 0) A)
  (hK1 : ∀ l r y B F' s', Ll = l :: r → NR H0 c dp Q most cla clb Kk n B F' s' M U (m + 1) x bl nw ts R mb tsl TL r rest → Ints .u64 B y l → (∀ ad, y.a = some ad → ad.block < B.size ∧ ¬ XT c x F' R tsl ad.block) → Step (XT c x F R tsl) (XT c x F' R tsl) A B → K (y, true, 0) B) : Zcg.sp (at0 c.j) (at0 rb2) A K := by
 have hnx := N.bud.nx
 have h2R : rb2 ∈ R := by rw [P.R]; simp
 have h1R : rb ∈ R := by rw [P.R]; simp
 have hta : ta ∈ nw ++ tfs ts := by rw [P.nw]; simp
 refine RdA.read (Y := YT c x R tsl) N.T hg hQ hm (N.T.files ta hta) (by omega) (P.rl.less fun b u => .inl (XT_iff.2 u)) ⟨(N.ro rb2 h2R).1, (N.ro rb2 h2R).2.1⟩ (fun b u => N.lt b (XT_iff.2 (.inl u))) (.inr (.inl h2R)) hK0 fun l r y B F' s' hl T' f' rd' iy yo S rF => ?_
 have nX : ∀ b ∈ R, b ≠ rb2 → ¬ (F b ∨ b = rb2) := fun b hb hn u => u.elim (N.ro b hb).2.1 hn
 obtain ⟨cs2, r2⟩ := P.rl.row
 have mbne : mb ≠ rb2 := fun e => N.tab.other r2 e.symm
 have ST : Step (XT c x F R tsl) (XT c x F' R tsl) A B := S.xt h2R
 have tab' : TabK (XR c x F' R) B mb n tsl TL := N.tab.step (S.xr h2R) (S.mod.same mb N.tab.lt (nX mb N.mR mbne))
 have hkl := N.kl
 rw [hl] at hkl
 refine hK1 l r y B F' s' hl ⟨T', N.tb, N.bg, N.mR, tab', N.tlo, fun b hb => ?_, fun b hb => (S.mod.same b (N.ro b (N.exR b hb)).2.2.1 (nX b (N.exR b hb) fun e => P.nex.2 (e ▸ hb))).trans (N.eg b hb), N.kt, fun q hq => hkl q (List.mem_cons_of_mem _ hq), by have := N.few; rw [hl, List.length_cons] at this; omega, N.tn, N.bud, .inl ⟨hTL, ta, tb, rb, rb2, Lf, P.nw, P.R, P.now, P.rf.step ST S.mod (nX rb h1R P.ne), rd'.less fun b u => .inl (XT_iff.1 u), P.ne, P.nex, P.nea, P.sub, P.ka, P.kb, P.rest⟩⟩ iy (fun a ha => ⟨(yo a ha).1, fun u => (yo a ha).2 (XT_iff.1 u)⟩) ST
 obtain ⟨q1, q2, q3, q4, q5, q6⟩ := N.ro b hb
 have zz := S.mod.size
 refine ⟨q1, fun u => (S.own b (.inl u)).elim (fun v => v.elim q2 fun w => rF (w ▸ u)) fun v => by omega, by omega, ?_, q5, q6⟩
 by_cases hb2 : b = rb2
 ·subst hb2
  obtain ⟨cs, rr⟩ := rd'.row
  exact Saf.row rr (by decide)
 ·exact fun cs t e => q4 cs t ((S.mod.same b q3 (nX b hb hb2)).symm.trans e)
end
section
variable {H0 A B : Heap} {c : Cfg} {dp Q most U U' m m' rb mb : Nat} {n : Int} {cla clb Kk : List Int} {F F' Y Y' Z Z' : Nat → Prop} {s s' : Pl} {M M' : Files} {x x' : Jc} {bl bl' : List Nat} {nw nw' : List HFile} {ts ts' : List Tk} {t : Tk} {f g ta tb : HFile} {L TL Ll Lf rest : List (List Int)} {R R0 R' : List Nat} {tsl tsl' : Sl}
theorem pairL_nilA (TL : List (List Int)) : pairL TL [] = [] := rfl
theorem NR.oneR [Tab] (N : NR H0 c dp Q most cla clb Kk n A F s M U m x bl nw ts R mb tsl TL Ll rest) {k : Nat} (hk : k ∈ R) (mm : Mod (fun b => b = k) A B) : TS H0 c dp Q most cla clb Kk B F s M U m x bl nw ts ∧ Step (XR c x F R) (XR c x F R) A B ∧ Step (XT c x F R tsl) (XT c x F R tsl) A B := by
 obtain ⟨q1, q2, q3, q4, q5, q6⟩ := N.ro k hk
 exact ⟨N.T.aside (Y := fun b => b = k) mm (fun b u _ => by subst u; exact ⟨⟨q1, q2⟩, q4, q5⟩) (N.T.jo.mod mm (Ne.symm q6)) ⟨rfl, rfl, rfl, Nat.le_refl _, rfl⟩, ⟨mm.mono fun b _ u => .inr (u ▸ hk), fun b u => .inl u⟩, ⟨mm.mono fun b _ u => .inl (.inr (u ▸ hk)), fun b u => .inl u⟩⟩
set_option maxHeartbeats 4000000 in
theorem NR.lefts [Tab] {K : (Sl × Bool × Int) → Heap → Prop} (N : NR H0 c dp Q most cla clb Kk n A F s M U m x bl nw ts R mb tsl TL Ll rest) (hg : Gl H0) (hQ : Q ≤ 1048576) (hcl : cla.length ≤ 1000 ∧ clb.length ≤ 1000) (hKn : sumW Kk (-1) = n) (hP : pot ts m + 20000 < 30000000000)
  (hK1 : ∀ l F' s' M' U' m' x' bl' nw' ts' R' mb' tsl' TL' Ll' rest' y B, NR H0 c dp Q most cla clb Kk n B F' s' M' U' m' x' bl' nw' ts' R' mb' tsl' TL' Ll' rest' → pairL TL Ll ++ rest = TL'.map (fun b => l ++ b) ++ (pairL TL' Ll' ++ rest') → turnL l cla = Kk ∧ l.length = 16 → (TL' ≠ [] ∨ Ll'.length + 1 = Ll.length) → Ints .u64 B y l → (∀ ad, y.a = some ad → ad.block < B.size ∧ ¬ XT c x' F' R' tsl' ad.block) → pot ts' m' ≤ pot ts m + 6000 → x'.mt = x.mt ∧ x'.ex = x.ex ∧ x'.eg = x.eg → Step (XT c x F R tsl) (XT c x' F' R' tsl') A B → K (y, true, 0) B)
  (hK0 : pairL TL Ll ++ rest = [] → ∀ F' s' M' U' m' x' bl' B, TS H0 c dp Q most cla clb Kk B F' s' M' U' m' x' bl' [] [] → (∀ b ∈ x.ex, B[b]? = x.eg b) → Step (XT c x F R tsl) (XT c x' F' R tsl) A B → K (Sl.mk none 0 0, false, 0) B) : ZbM.sp (at0 c.j) A K := by
 have hpm : m + 20000 < 30000000000 := by unfold pot at hP; omega
 refine ZbM.of ?_
 unfold ZbM.vc
 simp only [optK_eq, at0]
 refine RowT.ld (c := cPtr) (i := 19) (x := x.lf) N.T.jo rfl ?_
 have tell : ∀ {C : Heap} {F1 : Nat → Prop} {s1 : Pl} {M1 : Files} {U1 m1 : Nat} {x1 : Jc} {bl1 : List Nat} {nw1 : List HFile} {ts1 : List Tk} {R1 : List Nat} {mb1 : Nat} {tsl1 : Sl} {TL1 Ll1 rest1 : List (List Int)} {ta tb : HFile} {rb rb2 : Nat} {Lf : List (List Int)} {next : Unit → Heap → Prop}, NR H0 c dp Q most cla clb Kk n C F1 s1 M1 U1 m1 x1 bl1 nw1 ts1 R1 mb1 tsl1 TL1 Ll1 rest1 → TL1 ≠ [] → AltP c C F1 x1 cla clb Kk nw1 ts1 R1 mb1 tsl1 TL1 Ll1 rest1 ta tb rb rb2 Lf → Ll1 ≠ [] → pairL TL Ll ++ rest = pairL TL1 Ll1 ++ rest1 → pot ts1 m1 ≤ pot ts m + 5500 → x1.mt = x.mt ∧ x1.ex = x.ex ∧ x1.eg = x.eg → Step (XT c x F R tsl) (XT c x1 F1 R1 tsl1) A C →
   Zcg.sp (at0 c.j) (at0 rb2) C fun (r_1 : (Sl × Bool × Int)) H3 => br (r_1.2.1 || (r_1.2.2 != (0 : Int))) (K (r_1.1, r_1.2.1, r_1.2.2) H3) (Zch.sp (at0 c.j) H3 fun (r_2 : (Bool × Int)) H4 => br ((!r_2.1) || (r_2.2 != (0 : Int))) (K ((Sl.mk none 0 0), false, r_2.2) H4) (next () H4)) := by
  intro C F1 s1 M1 U1 m1 x1 bl1 nw1 ts1 R1 mb1 tsl1 TL1 Ll1 rest1 ta tb rb rb2 Lf next N1 hTL1 P1 hLl1 hrem hpot hmt S1
  refine N1.readL hg hQ (by unfold pot at hpot hP; omega) hTL1 P1 (fun e => absurd e hLl1) fun l r y B F' s' hl N2 iy yo S2 => ?_
  refine br_t rfl ?_
  refine hK1 l F' s' M1 U1 (m1 + 1) x1 bl1 nw1 ts1 R1 mb1 tsl1 TL1 r rest1 y B N2 ?_ (N1.kl l (by rw [hl]; exact List.mem_cons_self)) (.inl hTL1) iy yo (by unfold pot at hpot ⊢; omega) hmt (S1.trans S2)
  rw [hrem, hl, pairL_cons, List.append_assoc]
 rcases N.alt with ⟨hTL, ta, tb, rb, rb2, Lf, P⟩ | P | ⟨rb2, fb, P⟩
 ·rw [P.now.2.2.2]
  refine br_f rfl ?_
  refine loop_upto 1 (fun i _ C => (i = 0 ∧ A = C) ∨ (i = 1 ∧ ∃ F1 s1 M1 U1 m1 x1 bl1 ta1 tb1 ts1 R1 mb1 tsl1 TL1 rest1, NR H0 c dp Q most cla clb Kk n C F1 s1 M1 U1 m1 x1 bl1 [ta1, tb1] ts1 R1 mb1 tsl1 TL1 ta1.rows rest1 ∧ TL1 ≠ [] ∧ ta1.rows ≠ [] ∧ pairL TL Ll ++ rest = pairL TL1 ta1.rows ++ rest1 ∧ pot ts1 m1 ≤ pot ts m + 5500 ∧ (x1.mt = x.mt ∧ x1.ex = x.ex ∧ x1.eg = x.eg) ∧ Step (XT c x F R tsl) (XT c x1 F1 R1 tsl1) A C)) (.inl ⟨rfl, rfl⟩) ?_
  rintro i _ C next hi (⟨rfl, rfl⟩ | ⟨rfl, F1, s1, M1, U1, m1, x1, bl1, ta1, tb1, ts1, R1, mb1, tsl1, TL1, rest1, N1, hTL1, hne1, hrem1, hpot1, hmt1, S1⟩) hnext
  ·refine RowT.ld (c := cPtr) (i := 19) (x := at0 rb2) N.T.jo (by show some (Value.pointer x.lf) = _; rw [P.now.2.2.2]) ?_
   by_cases hLl : Ll = []
   ·subst hLl
    refine N.readL hg hQ (by omega) hTL P (fun _ => ?_) fun l r y B F' s' hl => absurd hl (by simp)
    refine br_f rfl ?_
    have h1R : rb ∈ R := by rw [P.R]; simp
    have o1 := N.ro rb h1R
    have exR : ∀ b ∈ x.ex, b ∈ R := fun b hb => by rw [P.R]; simp [hb]
    have hmR : ∀ b, b ∈ rb :: x.ex → b ∈ R := fun b hb => (List.mem_cons.1 hb).elim (fun v => v ▸ h1R) (exR b)
    have rfX : RdA (XR c x F (rb :: x.ex)) A rb tb Lf := P.rf.less fun b u => .inl (by
     rcases u with u | u
     ·exact .inl (.inl u)
     ·exact .inl (.inr (hmR b u)))
    have hsub : ∀ b, XR c x F (rb :: x.ex) b → XT c x F R tsl b := fun b u => by
     rcases u with u | u
     ·exact .inl (.inl u)
     ·exact .inl (.inr (hmR b u))
    have T := N.T
    have hnw := P.nw
    subst hnw
    by_cases hLf : Lf = []
    ·subst hLf
     have hr0 : pairL TL [] ++ rest = remT ts := by rw [P.rest]; rfl
     refine turn_ok (R0 := rb :: x.ex) (n := n) T hg hQ N.bg hcl hKn N.bud (by omega) (fun b hb => ⟨N.exZ b hb, List.mem_cons_of_mem _ hb⟩) (.inr ⟨rb, ta, tb, P.now.2.2.1, rfl, P.now.1, P.now.2.1, List.mem_cons_self, ⟨o1.1, o1.2.1⟩, rfX, P.nex.1⟩) (fun F' s' M' U' m' x' bl' ta' tb' ts' mb' tsl' TL' R' rest' B N' hrem hpot hmt hne S => ?_) fun hrem F' s' M' U' m' x' bl' B T' eT' S => ?_
     ·refine br_f rfl (hnext (by decide) _ _ (.inr ⟨rfl, F', s', M', U', m', x', bl', ta', tb', ts', R', mb', tsl', TL', rest', N', hne.1, hne.2, ?_, by omega, hmt, S.widen hsub fun b u => .inr u⟩))
      rw [hr0, hrem]
     ·refine br_t rfl (hK0 (hr0.trans hrem) F' s' M' U' m' x' bl' B T' eT' (S.widen hsub fun b u => ?_))
      rcases u with (u | u) | u
      ·exact .inr (.inl u)
      ·exact .inl (.inl (.inr u))
      ·exact .inl (.inr u)
    ·refine turnA_ok (n := n) T hg hQ (by omega) N.bg P.now.2.2.1 P.now.1 P.now.2.1 ⟨o1.1, o1.2.1⟩ rfX N.exZ P.nex.1 hcl.2 hLf P.sub P.ka P.kb P.nea hKn N.bud fun F' s' m' x' mb' tsl' R' B N' hm' S hmt => ?_
     refine br_f rfl (hnext (by decide) _ _ (.inr ⟨rfl, F', s', M, U, m', x', bl, ta, tb, ts, R', mb', tsl', _, _, N', fun e => ?_, P.nea, ?_, by unfold pot; omega, hmt, S.widen hsub fun b u => .inr u⟩))
     ·have h1 := congrArg List.length e
      have := List.length_pos_iff.2 hLf
      rw [List.length_take] at h1
      rw [List.length_nil] at h1; omega
     ·rw [pairL_nilA, List.nil_append, P.rest, passL_cut (by decide) hLf, List.append_assoc]
   ·exact tell N hTL P hLl rfl (by omega) ⟨rfl, rfl, rfl⟩ (.refl _ _)
  ·rcases N1.alt with ⟨_, ta2, tb2, rb', rb2', Lf', P1⟩ | P1 | ⟨_, _, P1⟩
   ·refine RowT.ld (c := cPtr) (i := 19) (x := at0 rb2') N1.T.jo (by show some (Value.pointer x1.lf) = _; rw [P1.now.2.2.2]) ?_
    exact tell N1 hTL1 P1 hne1 hrem1 hpot1 hmt1 S1
   ·exact absurd P1.nw.1 (by simp)
   ·exact absurd P1.nw (by simp)
 ·rw [P.lf]
  refine br_t rfl ?_
  simp only [add_add, Nat.reduceAdd]
  refine RowT.ld (c := cPtr) (i := 2) (x := at0 c.sa) N.T.jo rfl ?_
  have hmR := P.R
  have hlaR : c.la ∈ R := by rw [hmR]; simp
  obtain ⟨hnw, hts⟩ := P.nw
  refine P.src.next (fun hl B k hk hB mB => ?_) fun l r y B hl hB mB iy oy => ?_
  ·have hkR : k ∈ R := by
    rw [hmR]
    rcases hk with rfl | rfl
    ·simp
    ·simp
   obtain ⟨T', _, S'⟩ := N.oneR hkR mB
   subst hnw
   subst hts
   exact hK0 (by rw [hl, P.rest]; rfl) F s M U m x bl B T' (fun b hb => (mB.same b (N.ro b (N.exR b hb)).2.2.1 fun e => by
    subst e
    rcases hk with rfl | rfl
    ·exact P.nex.1 hb
    ·exact P.nex.2 hb).trans (N.eg b hb)) S'
  ·obtain ⟨T', SX, S'⟩ := N.oneR hlaR mB
   have hkl := N.kl
   rw [hl] at hkl
   obtain ⟨es, clk, hmp, _⟩ := N.tab.map
   obtain ⟨e0, sl0, fb0, _⟩ := P.src.ex
   have mbne : mb ≠ c.la := fun e => N.tab.other fb0.cell e.symm
   have tab' : TabK (XR c x F R) B mb n tsl TL := N.tab.step SX (mB.same mb N.tab.lt mbne)
   have zz := mB.size
   refine hK1 l F s M U m x bl nw ts R mb tsl TL r rest y B ⟨T', N.tb, N.bg, N.mR, tab', N.tlo, fun b hb => ?_, fun b hb => (mB.same b (N.ro b (N.exR b hb)).2.2.1 fun e => P.nex.2 (e ▸ hb)).trans (N.eg b hb), N.kt, fun q hq => hkl q (List.mem_cons_of_mem _ hq), by have := N.few; rw [hl, List.length_cons] at this; omega, N.tn, N.bud, .inr (.inl ⟨P.nw, P.R, P.lf, P.nex, hB, P.rest⟩)⟩ ?_ (hkl l List.mem_cons_self) (.inr (by rw [hl]; rfl)) iy (fun a ha => ⟨(oy a ha).1, fun u => ?_⟩) (by omega) ⟨rfl, rfl, rfl⟩ S'
   ·obtain ⟨q1, q2, q3, q4, q5, q6⟩ := N.ro b hb
    refine ⟨q1, q2, by omega, ?_, q5, q6⟩
    by_cases hbl : b = c.la
    ·subst hbl
     obtain ⟨e1, sl1, fb1, _⟩ := hB.ex
     exact Saf.row fb1.cell (by decide)
    ·exact fun cs t e => q4 cs t ((mB.same b q3 hbl).symm.trans e)
   ·rw [hl, pairL_cons, List.append_assoc]
   ·refine (oy a ha).2 ?_
    rw [hmR] at u
    rcases u with ((u | u | u | u | u) | u) | u
    ·exact .inl u
    ·exact .inr (.inl (.inl (.inl u)))
    ·exact .inr (.inl (.inl (.inr (.inl u))))
    ·exact .inr (.inl (.inl (.inr (.inr (.inl u)))))
    ·exact .inr (.inl (.inl (.inr (.inr (.inr u)))))
    ·simp only [List.mem_cons] at u
     rcases u with u | u | u | u
     ·exact .inr (.inl (.inr (.inl (by simp [u]))))
     ·exact .inr (.inr (.inl u))
     ·exact .inr (.inr (.inr u))
     ·exact .inr (.inl (.inr (.inl (by simp [u]))))
    ·exact .inr (.inl (.inr (.inr u)))
 ·rw [P.lf]
  refine br_f rfl ?_
  obtain ⟨hTL, hLl⟩ := P.emp
  have hnw := P.nw
  have hnx := N.bud.nx
  have h2R : rb2 ∈ R := by rw [P.R]; simp
  have o2 := N.ro rb2 h2R
  have hrest : pairL TL Ll ++ rest = remT ts := by rw [hLl, P.rest]; rfl
  have hM0 : M ByteArray.empty = none := by
   cases hq : M ByteArray.empty with
   | none => rfl
   | some y =>
     obtain ⟨f, hf, e⟩ := N.T.only _ y hq
     obtain ⟨k, h1, h2⟩ := (N.T.files f hf).nm
     have h3 := (nmR_size (name := hNm) (j := k) (by omega)).2
     rw [← h2, e] at h3
     have h4 : ByteArray.empty.size = 0 := rfl
     have h5 : hNm.size = 1 := rfl
     omega
  refine loop_upto 1 (fun i _ C => (i = 0 ∧ A = C) ∨ (i = 1 ∧ ∃ F1 s1 M1 U1 m1 x1 bl1 ta1 tb1 ts1 R1 mb1 tsl1 TL1 rest1, NR H0 c dp Q most cla clb Kk n C F1 s1 M1 U1 m1 x1 bl1 [ta1, tb1] ts1 R1 mb1 tsl1 TL1 ta1.rows rest1 ∧ TL1 ≠ [] ∧ ta1.rows ≠ [] ∧ pairL TL Ll ++ rest = pairL TL1 ta1.rows ++ rest1 ∧ pot ts1 m1 ≤ pot ts m + 5500 ∧ (x1.mt = x.mt ∧ x1.ex = x.ex ∧ x1.eg = x.eg) ∧ Step (XT c x F R tsl) (XT c x1 F1 R1 tsl1) A C)) (.inl ⟨rfl, rfl⟩) ?_
  rintro i _ C next hi (⟨rfl, rfl⟩ | ⟨rfl, F1, s1, M1, U1, m1, x1, bl1, ta1, tb1, ts1, R1, mb1, tsl1, TL1, rest1, N1, hTL1, hne1, hrem1, hpot1, hmt1, S1⟩) hnext
  ·refine RowT.ld (c := cPtr) (i := 19) (x := at0 rb2) N.T.jo (by show some (Value.pointer x.lf) = _; rw [P.lf]) ?_
   refine read_ok (rm := 3) (W := 0) (f := noF fb) (Y := fun b => b = rb2) (L := []) N.T.P hg hQ (by omega) N.T.jo rfl N.T.jF.2 P.rd ⟨o2.1, o2.2.1⟩ ⟨rfl, fun ad h => (by cases h), fun i hi => (by cases hi)⟩ (Nat.le_refl _) (fun b u => by subst u; exact o2.2.2.1) rfl P.ff P.fF ⟨fun u => (by cases u), fun _ => ⟨hM0, rfl⟩⟩ ⟨(by show 0 < 3; decide), fun c hc => (by cases hc), fun l hl => (by cases hl)⟩ (Nat.zero_le _) (by decide) (fun c hc => (by cases hc)) (Nat.zero_le _) (by show 0 ≤ 9223372036854775807; decide) (fun _ _ => ?_) fun l L' pg' ins' y B F' s' hl => absurd hl (by simp [noF])
   refine br_f rfl ?_
   have T := N.T
   subst hnw
   refine turn_ok (R0 := R) (n := n) T hg hQ N.bg hcl hKn N.bud (by omega) (fun b hb => by
    have hbR : b ∈ R := by rw [P.R]; simp [hb]
    exact ⟨N.exZ b hb, hbR⟩) (.inl ⟨P.fr, rfl⟩) (fun F' s' M' U' m' x' bl' ta' tb' ts' mb' tsl' TL' R' rest' B N' hrem hpot hmt hne S => ?_) fun hrem F' s' M' U' m' x' bl' B T' eT' S => ?_
   ·refine br_f rfl (hnext (by decide) _ _ (.inr ⟨rfl, F', s', M', U', m', x', bl', ta', tb', ts', R', mb', tsl', TL', rest', N', hne.1, hne.2, by rw [hrest, hrem], by omega, hmt, S.widen (fun b u => .inl u) fun b u => .inr u⟩))
   ·refine br_t rfl (hK0 (hrest.trans hrem) F' s' M' U' m' x' bl' B T' eT' (S.widen (fun b u => .inl u) fun b u => ?_))
    rcases u with u | u
    ·exact .inr u
    ·exact .inl (.inr u)
  ·rcases N1.alt with ⟨_, ta2, tb2, rb', rb2', Lf', P1⟩ | P1 | ⟨_, _, P1⟩
   ·refine RowT.ld (c := cPtr) (i := 19) (x := at0 rb2') N1.T.jo (by show some (Value.pointer x1.lf) = _; rw [P1.now.2.2.2]) ?_
    exact tell N1 hTL1 P1 hne1 hrem1 hpot1 hmt1 S1
   ·exact absurd P1.nw.1 (by simp)
   ·exact absurd P1.nw (by simp)
end
section
variable {H : Heap} {j : Nat} {cs : Array Value} {l cols : Sl} {ll cl : List Int}
theorem sideKeyO_ok [Tab] {i : Nat} {K : Sl → Heap → Prop} (r : RowT H j Yaq cs) (hi : cs[i + 1]? = some cols.v) (hl : Ints .u64 H l ll) (hc : Ints .i64 H cols cl) (h1 : cl.length ≤ 1000) 
  (hK : ∀ s A, Owns A H.size YaJ 1 s ((turnL ll cl).map (Value.int .u64)) → Ext H A → K s A) : ZcV.sp (some (Addr.add ⟨j, 0, none⟩ i)) l H K := by
 refine ZcV.of ?_
 unfold ZcV.vc
 simp only [optK_eq, add_add]
 refine RowT.ld (c := cSl) (i := i + 1) (x := cols) r hi ?_
 exact rowTurn_ok hl hc (by omega) fun s A oA eA => hK s A oA eA
end
section
variable {H0 A B : Heap} {c : Cfg} {dp Q most U U' m m' rb mb : Nat} {n : Int} {cla clb Kk : List Int} {F F' Y Y' Z Z' : Nat → Prop} {s s' : Pl} {M M' : Files} {x x' : Jc} {bl bl' : List Nat} {nw nw' : List HFile} {ts ts' : List Tk} {t : Tk} {f g ta tb : HFile} {L TL Ll Lf rest ml : List (List Int)} {R R0 R' : List Nat} {tsl tsl' : Sl} {rl : List Int}
structure NAt [Tab] (H0 : Heap) (c : Cfg) (dp Q most : Nat) (cla clb Kk : List Int) (n : Int) (A : Heap) (F : Nat → Prop) (s : Pl) (M : Files) (U m : Nat) (x : Jc) (bl : List Nat) (nw : List HFile) (ts : List Tk) (R : List Nat) (mb : Nat) (tsl : Sl) (TL Ll rest ml : List (List Int)) (rl : List Int) : Prop where
 N : NR H0 c dp Q most cla clb Kk n A F s M U m x bl nw ts R mb tsl TL Ll rest
 mt : RowsT (XM c x F R tsl) A x.mt ml
 row : ml ≠ [] → Ints .u64 A x.row rl ∧ (∀ ad, x.row.a = some ad → ad.block < A.size ∧ ¬ XT c x F R tsl ad.block) ∧ rl.length = 16
 mw : ∀ r ∈ ml, r.length = 16
def GoZ [Tab] (H0 : Heap) (c : Cfg) (dp Q most : Nat) (cla clb Kk : List Int) (n : Int) (Z : Nat → Prop) (B : Heap) (rem : List (List Int)) (pb : Nat) (ex : List Nat) (eg : Nat → Option Obj) : Prop :=
 ∃ F s M U m x bl nw ts R mb tsl TL Ll rest ml rl, NAt H0 c dp Q most cla clb Kk n B F s M U m x bl nw ts R mb tsl TL Ll rest ml rl ∧ rem = ml.map (fun b => rl ++ b) ++ (pairL TL Ll ++ rest) ∧ pot ts m ≤ pb ∧ Z = XT c x F R tsl ∧ x.ex = ex ∧ x.eg = eg
set_option maxHeartbeats 8000000 in
set_option maxRecDepth 100000 in
theorem Next_ok [Tab] {K : (Sl × Bool × Int) → Heap → Prop} {Z0 : Nat → Prop} {rem : List (List Int)} {cs : Array Value} {pb : Nat} {ex : List Nat} {eg : Nat → Option Obj} (hg : Gl H0) (hQ : Q ≤ 1048576) (hcl : cla.length ≤ 1000 ∧ clb.length ≤ 1000) (hKl : Kk.length ≤ 1000) (hKn : sumW Kk (-1) = n) (hpb : pb + 2000000 < 30000000000) (jo : RowT A c.j Yaq cs)
  (hst : (∃ Z, cs[10]? = some (.bool true) ∧ GoZ H0 c dp Q most cla clb Kk n Z A rem pb ex eg ∧ Step Z0 Z A A) ∨ (cs[10]? = some (.bool false) ∧ ∀ K' : Int → Heap → Prop, (∀ B Z, GoZ H0 c dp Q most cla clb Kk n Z B rem pb ex eg → Step Z0 Z A B → K' 0 B) → ZbO.sp (at0 c.j) A K'))
  (hK1 : ∀ p r y B Z', rem = p :: r → GoZ H0 c dp Q most cla clb Kk n Z' B r (pb + 2000000) ex eg → Step Z0 Z' A B → Ints .u64 B y p → (∀ ad, y.a = some ad → A.size ≤ ad.block ∧ ad.block < B.size ∧ ¬ Z' ad.block) → K (y, true, 0) B)
  (hK0 : rem = [] → ∀ B Z' F' s' M' U' m' x' bl', TS H0 c dp Q most cla clb Kk B F' s' M' U' m' x' bl' [] [] → (∀ b ∈ ex, B[b]? = eg b) → (∀ b, TX c x' F' b → Z' b) → Step Z0 Z' A B → K (Sl.mk none 0 0, false, 0) B) : Zci.sp (at0 c.j) A K := by
 refine Zci.of ?_
 unfold Zci.vc
 refine ⟨fun _ B => ∃ Z, GoZ H0 c dp Q most cla clb Kk n Z B rem pb ex eg ∧ Step Z0 Z A B, ?_, ?_⟩
 ·simp only [optK_eq, at0]
  rcases hst with ⟨Z, h10, h, S⟩ | ⟨h10, h⟩
  ·exact RowT.ld (c := cBool) (i := 10) (x := true) jo h10 (br_f rfl ⟨Z, h, S⟩)
  ·refine RowT.ld (c := cBool) (i := 10) (x := false) jo h10 (br_t rfl ?_)
   exact h _ fun B Z hB S => br_f rfl ⟨Z, hB, S⟩
 rintro _ B0 ⟨_, ⟨F0, s0, M0, U0, m0, x0, bl0, nw0, ts0, R0, mb0, tsl0, TL0, Ll0, rest0, ml0, rl0, N0, hrem0, hp0, rfl, hex0⟩, S0⟩
 have hfew0 := N0.N.few
 refine loop_upto (Ll0.length + 1) (fun i _ C => ∃ F s M U m x bl nw ts R mb tsl TL Ll rest ml rl, NAt H0 c dp Q most cla clb Kk n C F s M U m x bl nw ts R mb tsl TL Ll rest ml rl ∧ rem = ml.map (fun b => rl ++ b) ++ (pairL TL Ll ++ rest) ∧ pot ts m ≤ pb + 6000 * i ∧ (ml = [] → i + Ll.length ≤ Ll0.length) ∧ i ≤ Ll0.length + 1 ∧ (x.ex = ex ∧ x.eg = eg) ∧ Step Z0 (XT c x F R tsl) A C)
  ⟨F0, s0, M0, U0, m0, x0, bl0, nw0, ts0, R0, mb0, tsl0, TL0, Ll0, rest0, ml0, rl0, N0, hrem0, by omega, fun _ => by omega, by omega, hex0, S0⟩ ?_
 rintro i _ C next hi ⟨F, s, M, U, m, x, bl, nw, ts, R, mb, tsl, TL, Ll, rest, ml, rl, NA, hrem, hp, hlen, hib, hexx, S⟩ hnext
 have N := NA.N
 simp only [optK_eq, at0]
 refine RowT.ld (c := cSl) (i := 21) (x := x.mt) N.T.jo rfl ?_
 have hmn := NA.mt.n
 rcases ml with _ | ⟨m1, mr⟩
 ·have hmn : x.mt.n = 0 := hmn
  have hlen := hlen rfl
  have hrem : rem = pairL TL Ll ++ rest := hrem
  refine br_t (by rw [hmn]; rfl) ?_
  refine N.lefts hg hQ hcl hKn (by omega) (fun l F1 s1 M1 U1 m1 x1 bl1 nw1 ts1 R1 mb1 tsl1 TL1 Ll1 rest1 y D N1 hr1 hl1 hdec iy yo hpot hmt1 S1 => ?_) fun he F1 s1 M1 U1 m1 x1 bl1 D T1 eT1 S1 => ?_
  rotate_left
  ·exact br_t rfl (hK0 (hrem.trans he) D _ F1 s1 M1 U1 m1 x1 bl1 T1 (fun b hb => by rw [← hexx.1] at hb; rw [eT1 b hb, hexx.2]) (fun b u => .inl (.inl u)) (S.trans S1))
  refine br_f rfl ?_
  refine sideKeyO_ok (i := 2) (cols := c.ca) (cl := cla) N1.T.jo rfl iy N1.T.ca.ints hcl.1 fun kk D1 ok e1 => ?_
  rw [hl1.1] at ok
  have jo1 := N1.T.jo.ext e1
  refine RowT.st (i := 20) (v := y.v) jo1 (by simp [joW]) (by cases y; rfl) fun D2 jo2 mj2 zj2 => ?_
  have jo2 : RowT D2 c.j Yaq (joW c { x1 with row := y, mt := x1.mt }) := jo2
  have mm2 : Mod (fun b => b = c.j) D D2 := (Ext.mod e1).trans mj2
  have jnmt : ¬ ownB x1.mt c.j := fun u => by
   obtain ⟨cur, e⟩ := N1.T.mt.obj _ u
   exact absurd (cells_ty N1.T.jo e) (by decide)
  obtain ⟨N2, S2⟩ := N1.write (row' := y) (mt' := x1.mt) (mm2.mono fun b _ u => .inl u) jo2 (N1.T.mt.mod mm2 fun b hb u => jnmt (u ▸ hb)) fun b u => .inl u
  have zD := mm2.size
  have ze := e1.size
  have jlt := obj_lt N1.T.jo
  have ok2 := ok.mod mj2 fun b hb => by have := (ok.block b hb).1; omega
  have kkb : ∀ b, ownB kk b → D.size ≤ b := fun b hb => (ok.block b hb).1
  have S2' := S.trans (S1.trans S2)
  have iy2 : Ints .u64 D2 y l := iy.mod mm2 fun ad ha u => (yo ad ha).2 (.inl (.inl (.inr (.inl u))))
  have m0 : RowsT (XM c x1 F1 R1 tsl1) D2 x1.mt [] := N2.mt0 (by rw [hmt1.1]; exact hmn)
  refine ⟨fun E => D2 = E, rfl, ?_⟩
  refine RowT.ldC (c := cMap) (i := 16) (x := some mb1) (cs := fun _ => joW c { x1 with row := y, mt := x1.mt }) (fun E hE => hE ▸ jo2) (fun _ _ => by show some (Value.map x1.tb) = _; rw [N1.tb]) ?_
  refine hashSum_ok ok2.ints (by omega) ⟨rfl, ?_⟩
  rw [hKn]
  refine ⟨tsl1, N2.tab.read, ?_⟩
  have htn := N2.tab.rows.n
  refine loop_upto TL1.length (fun k z E => z = (k : Int) ∧ ∃ mt, NR H0 c dp Q most cla clb Kk n E F1 s1 M1 U1 m1 { x1 with row := y, mt := mt } bl1 nw1 ts1 R1 mb1 tsl1 TL1 Ll1 rest1 ∧ RowsT (XM c x1 F1 R1 tsl1) E mt (TL1.take k) ∧ Ints .u64 E y l ∧ (∀ ad, y.a = some ad → ad.block < E.size ∧ ¬ XT c { x1 with row := y, mt := mt } F1 R1 tsl1 ad.block) ∧ Owns E D.size YaJ 1 kk (Kk.map (Value.int .u64)) ∧ Step Z0 (XT c { x1 with row := y, mt := mt } F1 R1 tsl1) A E)
   ⟨rfl, x1.mt, N2, by rw [List.take_zero]; exact m0, iy2, fun ad ha => ⟨by have := (yo ad ha).1; omega, (yo ad ha).2⟩, ok2, S2'⟩ ?_
  rintro k _ E next1 hk ⟨rfl, mt, N3, rm, iyE, yoE, okE, S3⟩ hnext1
  by_cases hke : k = TL1.length
  ·subst hke
   refine br_f (by rw [htn]; exact decide_eq_false (by omega)) ?_
   rw [List.take_length] at rm
   have hi1 : i < Ll0.length + 1 := by omega
   refine hnext hi1 _ _ ⟨F1, s1, M1, U1, m1, _, bl1, nw1, ts1, R1, mb1, tsl1, TL1, Ll1, rest1, TL1, l, ⟨N3, rm, fun _ => ⟨iyE, yoE, hl1.2⟩, fun r hr => (N3.kt r hr).2⟩, hrem.trans hr1, by omega, fun h0 => ?_, by omega, ⟨hmt1.2.1.trans hexx.1, hmt1.2.2.trans hexx.2⟩, S3⟩
   rcases hdec with h | h
   ·exact absurd h0 h
   ·omega
  have hk : k < TL1.length := by omega
  refine br_t (by rw [htn]; exact decide_eq_true (by omega)) ?_
  obtain ⟨ad, r, q1, q2, q3, q4⟩ := N3.tab.rows.at hk
  have hr := N3.kt _ (List.getElem_mem hk)
  refine optK_mk ad q1 ⟨⟨by omega, by rw [htn]; omega⟩, r, by rw [Int.toNat_natCast, Nat.mul_one]; exact q2, ?_⟩
  refine sideKeyO_ok (i := 5) (cols := c.cb) (cl := clb) N3.T.jo rfl q3 N3.T.cb.ints hcl.2 fun k2 E1 o2 e2 => ?_
  rw [hr.1] at o2
  have okE1 := okE.ext e2
  refine slicesEqual_ok o2.ints okE1.ints (by omega) ?_
  refine br_t (decide_eq_true rfl) ?_
  have jo3 := N3.T.jo.ext e2
  refine RowT.ld (c := cSl) (i := 21) (x := mt) jo3 rfl ?_
  have rm1 : RowsT (XM c x1 F1 R1 tsl1) E1 mt (TL1.take k) := rm.step ⟨Ext.mod e2, fun b u => .inl u⟩
  have offq : ∀ a, r.a = some a → a.block < E.size ∧ ¬ XM c x1 F1 R1 tsl1 a.block ∧ ¬ ownB mt a.block := fun a ha => by
   obtain ⟨u1, u2, u3⟩ := q4 a ha
   have hx : ¬ XT c { x1 with row := y, mt := mt } F1 R1 tsl1 a.block := fun v => v.elim u2 u3
   exact ⟨u1, fun v => hx (XT_mt.2 (.inl v)), fun v => hx (XT_mt.2 (.inr v))⟩
  have zE := e2.size
  have hTLn := N1.tn
  refine rm1.snoc (r := r) (l := TL1[k]) (by rw [List.length_take]; omega) (q3.ext e2) (fun a ha => ⟨by have := (offq a ha).1; omega, (offq a ha).2⟩) fun mt' E2 rm2 m2 o2' => ?_
  have jnm : ¬ ownB mt c.j := fun u => by
   obtain ⟨cur, e⟩ := N3.T.mt.obj _ u
   exact absurd (cells_ty N3.T.jo e) (by decide)
  have jo4 := jo3.mod m2 jnm
  refine RowT.st (i := 21) (v := mt'.v) jo4 (by simp [joW]) (by cases mt'; rfl) fun E3 jo5 m3 z3 => ?_
  have jo5 : RowT E3 c.j Yaq (joW c { x1 with row := y, mt := mt' }) := jo5
  have mall : Mod (fun b => b = c.j ∨ ownB mt b) E E3 := ((Ext.mod e2).trans (m2.mono fun b _ u => .inr u)).trans (m3.mono fun b _ u => .inl u)
  have z2 := m2.size
  have rm2 := rm2 (XM c x1 F1 R1 tsl1) (fun _ u => u) fun b u => by
   have := N3.lt b (XT_mt.2 (.inl u))
   omega
  have rm3 : RowsT (XM c x1 F1 R1 tsl1) E3 mt' (TL1.take k ++ [TL1[k]]) := rm2.step ⟨m3.mono fun b _ u => .inl (.inr (.inl u)), fun b u => .inl u⟩
  have ho : ∀ b, ownB mt' b → ownB mt b ∨ E.size ≤ b := fun b hb => (o2' b hb).imp id fun u => by omega
  obtain ⟨N4, S4⟩ := N3.write (row' := y) (mt' := mt') mall jo5 rm3.own ho
  refine hnext1 hk _ _ ⟨succ64 k (by omega), mt', N4, by rw [List.take_succ_eq_append_getElem hk]; exact rm3, iyE.mod mall fun a ha u => ?_, fun a ha => ⟨?_, fun u => ?_⟩, okE.mod mall fun b hb u => ?_, S3.trans S4⟩
  ·refine (yoE a ha).2 ?_
   rcases u with u | u
   ·exact .inl (.inl (.inr (.inl u)))
   ·exact XT_mt.2 (.inr u)
  ·have := (yoE a ha).1; have := mall.size; omega
  ·exact (S4.own _ u).elim (yoE a ha).2 fun v => by have := (yoE a ha).1; omega
  ·rcases u with u | u
   ·subst u
    obtain ⟨cur, e⟩ := okE.obj _ hb
    exact absurd (cells_ty N3.T.jo e) (by decide)
   ·obtain ⟨cur, e⟩ := okE.obj _ hb
    obtain ⟨cur2, e2⟩ := N3.T.mt.obj _ u
    exact absurd (cells_ty e e2) (by decide)
 ·have hmn : x.mt.n = mr.length + 1 := hmn
  obtain ⟨ir, ro, hrl⟩ := NA.row (by simp)
  have hm1 := NA.mw m1 List.mem_cons_self
  refine br_f (by rw [hmn, beq_eq_false_iff_ne]; omega) ?_
  refine RowT.ld (c := cSl) (i := 21) (x := x.mt) N.T.jo rfl ?_
  obtain ⟨ad, y, y1, y2, y3, y4⟩ := NA.mt.at (i := 0) (by simp)
  have y3 : Ints .u64 C y m1 := y3
  refine optK_mk ad y1 ⟨⟨Int.le_refl _, by rw [hmn]; omega⟩, y, by simpa using y2, ?_⟩
  refine RowT.ld (c := cSl) (i := 21) (x := x.mt) N.T.jo rfl ?_
  refine ⟨⟨by decide, by rw [hmn]; omega⟩, ?_⟩
  have e1 : ((1 : Int).toNat) = 1 := rfl
  rw [e1]
  refine RowT.st (v := Sl.v ⟨slA x.mt.a x.mt.c 1 1, x.mt.n - 1, x.mt.c - 1⟩) (i := 21) N.T.jo (by simp [joW]) rfl fun D jo1 mj zj => ?_
  have jo1 : RowT D c.j Yaq (joW c { x with row := x.row, mt := ⟨slA x.mt.a x.mt.c 1 1, x.mt.n - 1, x.mt.c - 1⟩ }) := jo1
  have pop := NA.mt.pop
  have hob : ∀ b, ownB ⟨slA x.mt.a x.mt.c 1 1, x.mt.n - 1, x.mt.c - 1⟩ b → ownB x.mt b := fun b ⟨a, h1, h2⟩ => by
   have h1 : slA x.mt.a x.mt.c 1 1 = some a := h1
   unfold slA at h1
   split at h1
   ·exact ⟨a, h1, h2⟩
   ·cases hs : x.mt.a with
    | none => rw [hs] at h1; simp at h1
    | some a0 =>
      rw [hs] at h1
      simp at h1
      subst h1
      rw [add_block] at h2
      exact ⟨a0, hs, h2⟩
  have SJ : Step (XM c x F R tsl) (XM c x F R tsl) C D := ⟨mj.mono fun b _ u => .inl (.inr (.inl u)), fun b u => .inl u⟩
  have pop1 := pop.step SJ
  obtain ⟨N1, S1⟩ := N.write (row' := x.row) (mt' := ⟨slA x.mt.a x.mt.c 1 1, x.mt.n - 1, x.mt.c - 1⟩) (mj.mono fun b _ u => .inl u) jo1 pop1.own fun b hb => .inl (hob b hb)
  refine RowT.ld (c := cSl) (i := 20) (x := x.row) jo1 rfl ?_
  have jX : ∀ {b : Nat}, ¬ XT c x F R tsl b → b ≠ c.j := fun h e => h (.inl (.inl (.inr (.inl e))))
  have ir1 := ir.mod mj fun a ha u => jX (ro a ha).2 u
  have yo : ∀ a, y.a = some a → a.block < C.size ∧ ¬ XT c x F R tsl a.block := fun a ha => ⟨(y4 a ha).1, fun u => (XT_mt.1 u).elim (y4 a ha).2.1 (y4 a ha).2.2⟩
  have iy1 := y3.mod mj fun a ha u => jX (yo a ha).2 u
  refine hclone_ok ir1 (by omega) fun z E oz ez fz => ?_
  have hzn : z.n = 16 := by have := oz.1; simp at this; omega
  have hyn := y3.len
  refine elU64.append (base := 0) (s := z) (x := y) (xs := rl.map (Value.int .u64)) (ws := m1.map (Value.int .u64)) oz (by simp; omega) (iy1.ext ez).reads (intsOne _ _) (by omega) (by omega) (Nat.zero_le _) ?_
  intro z' G n2 o2 m2 b2 _
  have zj' := mj.size
  have zE := ez.size
  have zG := m2.size
  have eG : Ext D G := ⟨by omega, fun b hb _ => (m2.same b (by omega) fun u => by have := fz b u; omega).trans (ez.same b hb id)⟩
  have zAC := S.mod.size
  have jo2 := jo1.ext eG
  have hT : ∀ b, ownB ⟨slA x.mt.a x.mt.c 1 1, x.mt.n - 1, x.mt.c - 1⟩ b → b < D.size := fun b hb => pop1.lt b hb
  obtain ⟨N2, S2⟩ := N1.write (row' := x.row) (mt' := ⟨slA x.mt.a x.mt.c 1 1, x.mt.n - 1, x.mt.c - 1⟩) ((Ext.mod eG).mono fun b _ u => (u : False).elim) jo2 (pop1.own.mod (Ext.mod eG (F := fun _ => False)) fun _ _ => id) fun b hb => .inl hb
  have S3 := S.trans (S1.trans S2)
  have hfresh : ∀ a, z'.a = some a → D.size ≤ a.block ∧ a.block < G.size := fun a ha => by
   have h1 := (o2.block _ ⟨a, ha, rfl⟩).2
   rcases b2 _ ⟨a, ha, rfl⟩ with v | v
   ·exact ⟨fz _ v, h1⟩
   ·exact ⟨by omega, h1⟩
  refine hK1 (rl ++ m1) (mr.map (fun b => rl ++ b) ++ (pairL TL Ll ++ rest)) z' G _ ?_ ⟨F, s, M, U, m, _, bl, nw, ts, R, mb, tsl, TL, Ll, rest, mr, rl, ⟨N2, pop1.step ⟨Ext.mod eG, fun b u => .inl u⟩, fun _ => ⟨ir1.ext eG, fun a ha => ⟨by have := (ro a ha).1; omega, fun u => ?_⟩, hrl⟩, fun r hr => NA.mw r (List.mem_cons_of_mem _ hr)⟩, rfl, by omega, rfl, hexx.1, hexx.2⟩ S3 ?_ fun a ha => ⟨by have := (hfresh a ha).1; omega, (hfresh a ha).2, fun u => ?_⟩
  ·rw [hrem]; rfl
  ·exact ((S1.trans S2).own _ u).elim (ro a ha).2 fun v => by have := (ro a ha).1; omega
  ·rw [← List.map_append] at o2
   exact o2.ints
  ·rcases S2.own _ u with v | v
   ·have := N1.lt _ v
    have := (hfresh a ha).1; omega
   ·have := N1.lt _ u
    have := (hfresh a ha).1; omega
theorem FrJ.cells [Tab] {X E : Nat → Prop} {sb lb wb : Nat} (h : FrJ H0 A F X E sb lb wb L) : (∃ cs, RowT A sb Yar cs) ∧ (∃ cs, RowT A lb Yam cs) := by
 obtain ⟨e, sl, f, q⟩ := h.ex
 exact ⟨⟨_, f.row⟩, ⟨_, f.cell⟩⟩
theorem NR.out [Tab] (N : NR H0 c dp Q most cla clb Kk n A F s M U m x bl nw ts R mb tsl TL Ll rest) {ex' fx : List Nat} (hR : R = fx ++ x.ex) (hfx : ∀ b ∈ fx, b ∉ x.ex) (mm : Mod (fun b => b ∈ x.ex) A B) (ho : ∀ b ∈ ex', b ∈ x.ex ∨ A.size ≤ b) (hT : ∀ b ∈ ex', ∃ cur, B[b]? = some (.cells cur YaB (0, 0))) (hmb : mb ∈ fx)
  (alt' : Step (XT c x F R tsl) (XT c { x with ex := ex', eg := fun b => B[b]? } F (fx ++ ex') tsl) A B → ((TL ≠ [] ∧ ∃ ta tb rb rb2 Lf, AltP c B F { x with ex := ex', eg := fun b => B[b]? } cla clb Kk nw ts (fx ++ ex') mb tsl TL Ll rest ta tb rb rb2 Lf) ∨ AltM H0 c B F { x with ex := ex', eg := fun b => B[b]? } nw ts (fx ++ ex') mb tsl Ll rest ∨ ∃ rb2 fb, Alt0 B F { x with ex := ex', eg := fun b => B[b]? } nw ts (fx ++ ex') mb TL Ll rest rb2 fb)) :
  NR H0 c dp Q most cla clb Kk n B F s M U m { x with ex := ex', eg := fun b => B[b]? } bl nw ts (fx ++ ex') mb tsl TL Ll rest ∧ Step (XT c x F R tsl) (XT c { x with ex := ex', eg := fun b => B[b]? } F (fx ++ ex') tsl) A B := by
 have hro : ∀ b ∈ x.ex, OutR H0 c A F x b := fun b hb => N.ro b (by rw [hR]; exact List.mem_append.2 (.inr hb))
 have T' : TS H0 c dp Q most cla clb Kk B F s M U m { x with ex := ex', eg := fun b => B[b]? } bl nw ts := N.T.aside (Y := fun b => b ∈ x.ex) mm (fun b u _ => ⟨⟨(hro b u).1, (hro b u).2.1⟩, (hro b u).2.2.2.1, (hro b u).2.2.2.2.1⟩) (N.T.jo.mod mm fun u => (hro _ u).2.2.2.2.2 rfl) ⟨rfl, rfl, rfl, Nat.le_refl _, rfl⟩
 have inR : ∀ b, b ∈ fx ++ ex' → b ∈ R ∨ A.size ≤ b := fun b u => by
  rw [hR]
  rcases List.mem_append.1 u with u | u
  ·exact .inl (List.mem_append.2 (.inl u))
  ·exact (ho b u).imp (fun v => List.mem_append.2 (.inr v)) id
 have SX : Step (XR c x F R) (XR c { x with ex := ex', eg := fun b => B[b]? } F (fx ++ ex')) A B := ⟨mm.mono fun b _ u => .inr (by rw [hR]; exact List.mem_append.2 (.inr u)), fun b u => u.elim (fun v => .inl (.inl v)) fun v => (inR b v).imp .inr id⟩
 have ST : Step (XT c x F R tsl) (XT c { x with ex := ex', eg := fun b => B[b]? } F (fx ++ ex') tsl) A B := SX.widen (fun b u => .inl u) fun b u => u.elim .inr fun v => .inl (.inr v)
 have zz := mm.size
 have hz := N.T.P.ext.size
 refine ⟨⟨T', N.tb, N.bg, List.mem_append.2 (.inl hmb), N.tab.step SX (mm.same mb N.tab.lt (hfx mb hmb)), N.tlo, fun b hb => ?_, fun b hb => rfl, N.kt, N.kl, N.few, N.tn, ⟨N.bud.nx, N.bud.gb, N.bud.ln, N.bud.U⟩, alt' ST⟩, ST⟩
 rcases List.mem_append.1 hb with u | u
 ·exact (N.ro b (by rw [hR]; exact List.mem_append.2 (.inl u))).mod mm (hfx b u) rfl
 ·obtain ⟨cur, e⟩ := hT b u
  have hsaf : Saf B b := Saf.row (t := YaB) e (by decide)
  rcases ho b u with v | v
  ·obtain ⟨q1, q2, q3, q4, q5, q6⟩ := hro b v
   exact ⟨q1, q2, by omega, hsaf, q5, q6⟩
  ·exact ⟨by omega, fun w => by have := N.T.P.pool.lt b w; omega, obj_lt e, hsaf, fun w => by have := N.T.mt.lt b w; omega, fun w => by have := obj_lt N.T.jo; omega⟩
theorem GoZ.lt [Tab] {Z : Nat → Prop} {rem : List (List Int)} {pb : Nat} {ex : List Nat} {eg : Nat → Option Obj} (h : GoZ H0 c dp Q most cla clb Kk n Z A rem pb ex eg) : ∀ b, Z b → b < A.size := by
 obtain ⟨F, s, M, U, m, x, bl, nw, ts, R, mb, tsl, TL, Ll, rest, ml, rl, N, _, _, rfl, _⟩ := h
 exact N.N.lt
theorem GoZ.eg [Tab] {Z : Nat → Prop} {rem : List (List Int)} {pb : Nat} {ex : List Nat} {eg : Nat → Option Obj} (h : GoZ H0 c dp Q most cla clb Kk n Z A rem pb ex eg) : ∀ b ∈ ex, A[b]? = eg b := by
 obtain ⟨F, s, M, U, m, x, bl, nw, ts, R, mb, tsl, TL, Ll, rest, ml, rl, N, _, _, rfl, rfl, rfl⟩ := h
 exact N.N.eg
theorem GoZ.jo [Tab] {Z : Nat → Prop} {rem : List (List Int)} {pb : Nat} {ex : List Nat} {eg : Nat → Option Obj} (h : GoZ H0 c dp Q most cla clb Kk n Z A rem pb ex eg) : ∃ cs, RowT A c.j Yaq cs ∧ cs[10]? = some (.bool true) := by
 obtain ⟨F, s, M, U, m, x, bl, nw, ts, R, mb, tsl, TL, Ll, rest, ml, rl, N, _, _, rfl, _⟩ := h
 exact ⟨_, N.N.T.jo, by show some (Value.bool x.begun) = _; rw [N.N.bg]⟩
theorem GoZ.out [Tab] {Z : Nat → Prop} {rem : List (List Int)} {pb : Nat} {ex ex' : List Nat} {eg : Nat → Option Obj} (h : GoZ H0 c dp Q most cla clb Kk n Z A rem pb ex eg) (mm : Mod (fun b => b ∈ ex) A B) (hT0 : ∀ b ∈ ex, ∃ cur, A[b]? = some (.cells cur YaB (0, 0))) (ho : ∀ b ∈ ex', b ∈ ex ∨ A.size ≤ b) (hT : ∀ b ∈ ex', ∃ cur, B[b]? = some (.cells cur YaB (0, 0))) :
  ∃ Z', GoZ H0 c dp Q most cla clb Kk n Z' B rem pb ex' (fun b => B[b]?) ∧ Step Z Z' A B ∧ (∀ b ∈ ex', Z' b) ∧ ∀ b, Z' b → (Z b ∧ b ∉ ex) ∨ b ∈ ex' := by
 obtain ⟨F, s, M, U, m, x, bl, nw, ts, R, mb, tsl, TL, Ll, rest, ml, rl, NA, hrem, hpb, rfl, rfl, rfl⟩ := h
 have N := NA.N
 have nty : ∀ {b : Nat} {cs : Array Value} {t : TypeId}, RowT A b t cs → t ≠ YaB → b ∉ x.ex := fun {b cs t} r ht u => by
  obtain ⟨cur, e⟩ := hT0 b u
  exact ht (cells_ty r e)
 have nmb : mb ∉ x.ex := fun u => by
  obtain ⟨cur, e⟩ := hT0 mb u
  exact N.tab.other e rfl
 obtain ⟨fx, hR, hfx, N', S'⟩ : ∃ fx, R = fx ++ x.ex ∧ (∀ b ∈ fx, b ∉ x.ex) ∧ NR H0 c dp Q most cla clb Kk n B F s M U m { x with ex := ex', eg := fun b => B[b]? } bl nw ts (fx ++ ex') mb tsl TL Ll rest ∧ Step (XT c x F R tsl) (XT c { x with ex := ex', eg := fun b => B[b]? } F (fx ++ ex') tsl) A B := by
  rcases N.alt with ⟨hTL, ta, tb, rb, rb2, Lf, P⟩ | P | ⟨rb2, fb, P⟩
  ·have hR : R = [rb, mb, rb2] ++ x.ex := P.R
   have hfx : ∀ b ∈ [rb, mb, rb2], b ∉ x.ex := fun b hb => by
    simp only [List.mem_cons, List.not_mem_nil, or_false] at hb
    rcases hb with rfl | rfl | rfl
    ·exact P.nex.1
    ·exact nmb
    ·exact P.nex.2
   have nn : ∀ {b : Nat} {L : List (List Int)} {f : HFile} {Z : Nat → Prop}, RdA Z A b f L → b ∉ ex' := fun {b L f Z} hr u => by
    rcases ho b u with v | v
    ·obtain ⟨cs, r⟩ := hr.row
     exact nty r (by decide) v
    ·have := hr.lt; omega
   exact ⟨_, hR, hfx, N.out hR hfx mm ho hT (by simp) fun ST => .inl ⟨hTL, ta, tb, rb, rb2, Lf, P.nw, rfl, P.now, P.rf.step ST mm P.nex.1, P.rl.step ST mm P.nex.2, P.ne, ⟨nn P.rf, nn P.rl⟩, P.nea, P.sub, P.ka, P.kb, P.rest⟩⟩
  ·have hR : R = [mb, c.sa, c.la] ++ x.ex := P.R
   obtain ⟨⟨csa, rsa⟩, ⟨cla', rla⟩⟩ := P.src.cells
   have hfx : ∀ b ∈ [mb, c.sa, c.la], b ∉ x.ex := fun b hb => by
    simp only [List.mem_cons, List.not_mem_nil, or_false] at hb
    rcases hb with rfl | rfl | rfl
    ·exact nmb
    ·exact nty rsa (by decide)
    ·exact nty rla (by decide)
   have ny : ∀ {b : Nat} {cs : Array Value} {t : TypeId}, RowT A b t cs → t ≠ YaB → b ∉ ex' := fun {b cs t} r ht u => by
    rcases ho b u with v | v
    ·exact nty r ht v
    ·have := obj_lt r; omega
   refine ⟨_, hR, hfx, N.out hR hfx mm ho hT (by simp) fun ST => .inr (.inl ⟨P.nw, rfl, P.lf, ⟨ny rsa (by decide), ny rla (by decide)⟩, P.src.write ⟨mm.mono fun b _ u => .inr (.inr (.inl (List.mem_cons_of_mem _ u))), fun b u => ?_⟩, P.rest⟩)⟩
   rcases u with u | u | u | u
   ·exact .inl (.inl u)
   ·exact .inl (.inr (.inl u))
   ·rcases List.mem_cons.1 u with v | v
    ·exact .inl (.inr (.inr (.inl (List.mem_cons.2 (.inl v)))))
    ·exact (ho b v).imp (fun w => .inr (.inr (.inl (List.mem_cons_of_mem _ w)))) id
   ·exact .inl (.inr (.inr (.inr u)))
  ·have hR : R = [mb, rb2] ++ x.ex := P.R
   have hfx : ∀ b ∈ [mb, rb2], b ∉ x.ex := fun b hb => by
    simp only [List.mem_cons, List.not_mem_nil, or_false] at hb
    rcases hb with rfl | rfl
    ·exact nmb
    ·exact nty P.rd (by decide)
   exact ⟨_, hR, hfx, N.out hR hfx mm ho hT (by simp) fun ST => .inr (.inr ⟨rb2, fb, P.nw, rfl, P.fr, P.lf, P.rd.mod mm (nty P.rd (by decide)), P.ff.mod mm (nty P.ff (by decide)), P.fF, P.emp, P.rest⟩)⟩
 have SM : Step (XM c x F R tsl) (XM c { x with ex := ex', eg := fun b => B[b]? } F (fx ++ ex') tsl) A B := by
  refine ⟨mm.mono fun b _ u => .inr (.inl (by rw [hR]; exact List.mem_append.2 (.inr u))), fun b u => ?_⟩
  rcases u with u | u | u
  ·exact .inl (.inl u)
  ·rcases List.mem_append.1 u with v | v
   ·exact .inl (.inr (.inl (by rw [hR]; exact List.mem_append.2 (.inl v))))
   ·exact (ho b v).imp (fun w => .inr (.inl (by rw [hR]; exact List.mem_append.2 (.inr w)))) id
  ·exact .inl (.inr (.inr u))
 refine ⟨_, ⟨F, s, M, U, m, _, bl, nw, ts, _, mb, tsl, TL, Ll, rest, ml, rl, ⟨N', NA.mt.step SM, fun h => ?_, NA.mw⟩, hrem, hpb, rfl, rfl, rfl⟩, S', fun b hb => .inl (.inr (List.mem_append.2 (.inr hb))), fun b u => ?_⟩
 rotate_left
 ·rcases u with (u | u) | u
  ·exact .inl ⟨.inl (.inl u), fun v => (N.exZ b v).off N.T u⟩
  ·rcases List.mem_append.1 u with u | u
   ·exact .inl ⟨.inl (.inr (by rw [hR]; exact List.mem_append.2 (.inl u))), hfx b u⟩
   ·exact .inr u
  ·exact .inl ⟨.inr u, fun v => N.tab.rows.off b u (.inr (N.exR b v))⟩
 obtain ⟨q1, q2, q3⟩ := NA.row h
 have zz := mm.size
 exact ⟨q1.mod S'.mod fun a ha => (q2 a ha).2, fun a ha => ⟨by have := (q2 a ha).1; omega, fun u => (S'.own _ u).elim (q2 a ha).2 fun v => by have := (q2 a ha).1; omega⟩, q3⟩
end
theorem rep_four [Tab] {b0 b1 a0 a1 fb fa : HFile} (hnd : ([b0, b1, a0, a1].map HFile.name).Nodup) :
  (fb.name = b0.name → fa.name = a0.name → ([b0, b1].map (rep fb) ++ [a0, a1]).map (rep fa) = [fb, b1, fa, a1]) ∧ (fb.name = b1.name → fa.name = a1.name → ([b0, b1].map (rep fb) ++ [a0, a1]).map (rep fa) = [b0, fb, a0, fa]) := by
 simp only [List.map_cons, List.map_nil, List.nodup_cons, List.mem_cons, List.not_mem_nil, or_false, not_or] at hnd
 obtain ⟨⟨n12, n13, n14⟩, ⟨n23, n24⟩, n34, _⟩ := hnd
 constructor
 ·intro hb ha
  simp only [List.map_cons, List.map_nil, List.cons_append, List.nil_append]
  rw [rep_same (g := b0) hb.symm, rep_other (g := b1) (f' := fb) (by rw [hb]; exact Ne.symm n12), rep_other (g := fb) (by rw [hb, ha]; exact n13), rep_other (g := b1) (by rw [ha]; exact n23), rep_same (g := a0) ha.symm, rep_other (g := a1) (by rw [ha]; exact Ne.symm n34)]
 ·intro hb ha
  simp only [List.map_cons, List.map_nil, List.cons_append, List.nil_append]
  rw [rep_other (g := b0) (f' := fb) (by rw [hb]; exact n12), rep_same (g := b1) hb.symm, rep_other (g := b0) (by rw [ha]; exact n14), rep_other (g := fb) (by rw [hb, ha]; exact n24), rep_other (g := a0) (by rw [ha]; exact n34), rep_same (g := a1) ha.symm]
def x00 : Jc := ⟨0, 0, false, Sl.mk none 0 0, Sl.mk none 0 0, none, none, 0, none, 0, none, none, Sl.mk none 0 0, Sl.mk none 0 0, [], fun _ => none⟩
section
variable {H0 A B : Heap} {c : Cfg} {dp Q most U U' m m' rb mb sb lb wb : Nat} {n : Int} {cla clb Kk : List Int} {F F' X X' E E' Y Y' Z Z' : Nat → Prop} {s s' : Pl} {M M' : Files} {x x' : Jc} {bl bl' : List Nat} {nw nw' : List HFile} {ts ts' : List Tk} {L : List (List Int)}
theorem FrJ.re [Tab] (h : FrJ H0 A F X E sb lb wb L) (hx : X' sb ∧ X' lb) (hb : ∀ b, X' b → b < A.size ∧ H0.size ≤ b ∧ ¬ F b ∧ ¬ E' b) (hs : ∀ b, b < A.size → (F b ∨ E' b ∨ X' b) → (F b ∨ E b ∨ X b)) : FrJ H0 A F X' E' sb lb wb L := by
 obtain ⟨e, sl, f, q⟩ := h.ex
 exact ⟨⟨e, sl, ⟨f.row, f.cell, f.wid, f.rows.less hs, f.cap, f.cols, ⟨.inr (.inr hx.1), .inr (.inr hx.2), fun u => f.xs.2.2 (hs wb (obj_lt f.wid) u)⟩, f.ne⟩, q⟩, hx, hb⟩
theorem FrJ.by [Tab] (h : FrJ H0 A F X E sb lb wb L) (mm : Mod Y A B) (hy : ∀ b, b < A.size → Y b → F b ∨ E b) : FrJ H0 B F X E sb lb wb L :=
 h.write ⟨mm.mono fun b hb u => hy b hb u, fun b u => .inl u⟩
def Wb (c : Cfg) (n : Nat) (S : Nat → Prop) (F : Nat → Prop) (fs : Sl) (b : Nat) : Prop := F b ∨ b = c.j ∨ ownB fs b ∨ n ≤ b ∨ S b
theorem part_stepW [Tab] {k o : Nat} {S : Nat → Prop} {fs fs' l : Sl} {f f' : HFile} (S' : Step (fun b => F b ∨ Eo c.j fs f l o b ∨ X b) (fun b => F' b ∨ Eo c.j fs' f' l o b ∨ X' b) A B) (hw : f.wait = Sl.mk none 0 0) (hf : k ≤ f.blk) (ho : k ≤ o) (hl : ∀ b, ownB l b → k ≤ b) (hX : ∀ b, X b → k ≤ b ∨ S b) : Step (Wb c k S F fs) (Wb c k S F' fs') A B := by
 refine S'.widen (fun b u => ?_) fun b u => ?_
 ·rcases u with u | ((u | u | u | u) | u | u) | u
  ·exact .inl u
  ·exact .inr (.inl u)
  ·exact .inr (.inr (.inr (.inl (u ▸ hf))))
  ·exact .inr (.inr (.inl u))
  ·rw [hw] at u; exact absurd u (nilOwn b)
  ·exact .inr (.inr (.inr (.inl (hl b u))))
  ·exact .inr (.inr (.inr (.inl (u ▸ ho))))
  ·exact (hX b u).elim (fun v => .inr (.inr (.inr (.inl v)))) fun v => .inr (.inr (.inr (.inr v)))
 ·rcases u with u | u | u | u | u
  ·exact .inr (.inl u)
  ·exact .inl (.inr (.inl u))
  ·exact .inr (.inr (.inl (.inl (.inr (.inr (.inl u))))))
  ·exact .inl (.inr (.inr (.inr (.inl u))))
  ·exact .inl (.inr (.inr (.inr (.inr u))))
theorem Step.wbs [Tab] {k : Nat} {S S2 : Nat → Prop} {fs fs' : Sl} (h : Step (Wb c k S F fs) (Wb c k S F' fs') A B) (hs : ∀ b, S b → S2 b) : Step (Wb c k S2 F fs) (Wb c k S2 F' fs') A B := by
 refine h.widen (fun b u => ?_) fun b u => ?_
 ·rcases u with u | u | u | u | u
  ·exact .inl u
  ·exact .inr (.inl u)
  ·exact .inr (.inr (.inl u))
  ·exact .inr (.inr (.inr (.inl u)))
  ·exact .inr (.inr (.inr (.inr (hs b u))))
 ·rcases u with u | u | u | u | u
  ·exact .inr (.inl u)
  ·exact .inl (.inr (.inl u))
  ·exact .inr (.inr (.inr (.inl u)))
  ·exact .inl (.inr (.inr (.inr (.inl u))))
  ·exact .inl (.inr (.inr (.inr (.inr u))))
def Eb (c : Cfg) (k : Nat) (S : Nat → Prop) (fs : Sl) (b : Nat) : Prop := b = c.j ∨ ownB fs b ∨ k ≤ b ∨ S b
theorem FrJ.wbs [Tab] {k : Nat} {S : Nat → Prop} {fs fs' : Sl} (h : FrJ H0 A F X (Eb c k S fs) sb lb wb L) (hs : Step (Wb c k S F fs) (Wb c k S F' fs') A B) : FrJ H0 B F' X (Eb c k S fs') sb lb wb L := h.write hs
end
section
variable {H0 A B : Heap} {c : Cfg} {dp Q most U U' m m' p hc k : Nat} {n : Int} {cla clb Kk : List Int} {F F' X X' E E' Y Y' Z Z' : Nat → Prop} {s s' : Pl} {M M' : Files} {x x' : Jc} {bl bl' : List Nat} {nw nw' : List HFile} {ts ts' : List Tk} {L RA RB1 RB2 : List (List Int)} {hs : Sl}
theorem Eo_map [Tab] {mb j o : Nat} {fs l : Sl} {f : HFile} {es : Array MapEntry} {clk : Nat} {jcs fcs ocs : Array Value} {xs ys : List Value} (hb : MapAt (.int .u64) A mb es clk) (jo : RowT A j Yaq jcs) (ff : RowT A f.blk Yaz fcs) (fsl : Owns A 0 Yal 1 fs xs) (lo : Owns A 0 Yal 1 l ys) (oo : RowT A o Yaz ocs) (hw : f.wait = Sl.mk none 0 0) : ¬ Eo j fs f l o mb := fun u => by
 rcases u with (u | u | u | u) | u | u
 ·exact hb.saf jo u.symm
 ·exact hb.saf ff u.symm
 ·obtain ⟨cur, e⟩ := fsl.obj mb u; exact hb.saf e rfl
 ·rw [hw] at u; exact nilOwn mb u
 ·obtain ⟨cur, e⟩ := lo.obj mb u; exact hb.saf e rfl
 ·exact hb.saf oo u.symm
set_option maxRecDepth 100000 in
set_option maxHeartbeats 8000000 in
theorem begin_parts [Tab] {K : Int → Heap → Prop} {tb0 : Option Nat} {hd : Nat} (T : TS H0 c dp Q most cla clb Kk A F s M U m { x00 with begun := true, tb := tb0, held := hd } [] [] []) (hg : Gl H0) (hQ : Q ≤ 1048576) (hcl : cla.length ≤ 1000 ∧ clb.length ≤ 1000) (hU : U + 6000 < Q) (hm : m + 300000 < 30000000000)
  (pc : RowT A p Yah #[.pointer (at0 c.j)]) (pF : ¬ F p) (hcr : RowT A hc Yam #[Sl.v hs]) (hcF : ¬ F hc) (hkp : k ≤ p) (hkh : k ≤ hc) (hkA : k ≤ A.size) (hk0 : H0.size ≤ k) 
  (rows : RowsX (fun b => F b ∨ b = c.j ∨ b = hc ∨ b = c.sb ∨ b = c.lb) A hs RB1) (hcap : hs.n ≤ hs.c) (fa : FrJ H0 A F (fun b => b = c.sa ∨ b = c.la) (Eb c k (fun b => b = c.sb ∨ b = c.lb) (Sl.mk none 0 0)) c.sa c.la c.wa RA) (fb : FrJ H0 A F (fun b => b = c.sb ∨ b = c.lb) (Eb c k (fun b => b = c.sa ∨ b = c.la) (Sl.mk none 0 0)) c.sb c.lb c.wb RB2)
  (hRA : ∀ r ∈ RA, turnL r cla = Kk ∧ r.length = 16 ∧ fitsL r) (hRB : ∀ r ∈ RB1 ++ RB2, turnL r clb = Kk ∧ r.length = 16 ∧ fitsL r) (hla : RA.length ≤ 300) (hlb : (RB1 ++ RB2).length ≤ 300)
  (hK : ∀ B Z, GoZ H0 c dp Q most cla clb Kk n Z B (passL 9 (RB1 ++ RB2) RA) (m + 200000) [] (fun _ => none) → Step (Wb c k (fun b => b = c.sa ∨ b = c.la ∨ b = c.sb ∨ b = c.lb) F (Sl.mk none 0 0)) Z A B → K 0 B) :
  Go.Proofs.YtkehfflpbpdokaaGreat.ld cPtr A ⟨p, 0, none⟩ fun (x_14 : Option Addr) => ZbS.sp x_14 A fun (_ : Unit) H13 => Go.Proofs.YtkehfflpbpdokaaGreat.ld cPtr H13 ⟨p, 0, none⟩ fun (x_15 : Option Addr) => Go.Proofs.YtkehfflpbpdokaaGreat.ld cPtr H13 ⟨p, 0, none⟩ fun (x_16 : Option Addr) => optK x_16 fun a_6 => Go.Proofs.YtkehfflpbpdokaaGreat.ld (cInt .i64) H13 ((a_6.add 5).add 2) fun (x_17 : Int) => ZbL.sp x_15 x_17 H13 fun (bs : Sl) H14 => Go.Proofs.YtkehfflpbpdokaaGreat.ld cPtr H14 ⟨p, 0, none⟩ fun (x_18 : Option Addr) => Go.Proofs.YtkehfflpbpdokaaGreat.ld cPtr H14 ⟨p, 0, none⟩ fun (x_19 : Option Addr) => optK x_19 fun a_7 => ZbX.sp x_18 (some (a_7.add 5)) (0 : Int) bs (.func (.func ZbE.no) #[] #[(.pointer (some ⟨hc, 0, none⟩)), (.pointer (some ⟨p, 0, none⟩))]) H14 fun (e : Int) H15 => br (e != (0 : Int)) (K e H15) (Go.Proofs.YtkehfflpbpdokaaGreat.ld cPtr H15 ⟨p, 0, none⟩ fun (x_20 : Option Addr) => Go.Proofs.YtkehfflpbpdokaaGreat.ld cPtr H15 ⟨p, 0, none⟩ fun (x_21 : Option Addr) => optK x_21 fun a_8 => Go.Proofs.YtkehfflpbpdokaaGreat.ld (cInt .i64) H15 ((a_8.add 2).add 2) fun (x_22 : Int) => ZbL.sp x_20 x_22 H15 fun (r_6 : Sl) H16 => Go.Proofs.YtkehfflpbpdokaaGreat.ld cPtr H16 ⟨p, 0, none⟩ fun (x_23 : Option Addr) => Go.Proofs.YtkehfflpbpdokaaGreat.ld cPtr H16 ⟨p, 0, none⟩ fun (x_24 : Option Addr) => optK x_24 fun a_9 => Go.Proofs.YtkehfflpbpdokaaGreat.ld cPtr H16 ⟨p, 0, none⟩ fun (x_25 : Option Addr) => optK x_25 fun a_10 => Go.Proofs.YtkehfflpbpdokaaGreat.ld cPtr H16 ((a_10.add 2).add 0) fun (x_26 : Option Addr) => ZbX.sp x_23 (some (a_9.add 2)) (0 : Int) r_6 (.func (.func ZbW.no) #[(.pointer x_26)] #[]) H16 fun (e_1 : Int) H17 => br (e_1 != (0 : Int)) (K e_1 H17) (Go.Proofs.YtkehfflpbpdokaaGreat.ld cPtr H17 ⟨p, 0, none⟩ fun (x_27 : Option Addr) => ZbN.sp x_27 r_6 bs (0 : Int) H17 fun (_ : Unit) H18 => Go.Proofs.YtkehfflpbpdokaaGreat.ld cPtr H18 ⟨p, 0, none⟩ fun (x_28 : Option Addr) => newC H18 #[(.string ByteArray.empty), (.bool false), (.int .i64 (0 : Int)), (.int .i64 (0 : Int)), (.int .i64 (0 : Int)), (.slice none 0 0), (.int .i64 (0 : Int))] Yaz fun p_2 H19 => newC H19 #[(.pointer (some p_2)), (.int .i64 (0 : Int)), (.slice none 0 0)] Yas fun p_3 H20 => optK x_28 fun a_11 => Go.Proofs.YtkehfflpbpdokaaGreat.st H20 (a_11.add 19) (.pointer (some p_3)) fun H21 => K (0 : Int) H21)) := by
 have hF : ∀ {b : Nat}, A.size ≤ b → ¬ F b := fun {b} hb u => by have := T.P.pool.lt b u; omega
 have hz0 : H0.size ≤ A.size := T.P.ext.size
 have pne : p ≠ c.j := rowNe pc T.jo (by decide)
 have hjlt := obj_lt T.jo
 refine ldp (c := cPtr) (x := at0 c.j) pc ?_
 simp only [at0, optK_eq, add_add, Nat.reduceAdd]
 refine jclear_ok T.jo rfl fun A1 jo1 mp1 m1 z1 => ?_
 have jo1 : RowT A1 c.j Yaq (joW c { x00 with begun := true, tb := some A.size, held := 0 }) := jo1
 have T1 := T.own (x' := { x00 with begun := true, tb := some A.size, held := 0 }) m1 jo1 ⟨rfl, rfl, rfl, Nat.le_refl _, rfl⟩
 have pc1 := pc.mod m1 pne
 refine ldp (c := cPtr) (x := at0 c.j) pc1 (ldp (c := cPtr) (x := at0 c.j) pc1 ?_)
 simp only [at0, optK_eq, add_add, Nat.reduceAdd]
 refine RowT.ld (c := cInt .i64) (i := 7) (x := 16) T1.jo rfl ?_
 refine parts_ok (W := 16) (n := 0) T1.jo rfl rfl (by omega) rfl fun lb b0 b1 B1 jo2 fb0 fb1 hb01 hlb0 hlb1 ob1 obn mB1 => ?_
 have jo2 : RowT B1 c.j Yaq (joW c { x00 with begun := true, tb := some A.size, held := 0, nx := 0 + 2 }) := jo2
 have T2 := T1.add (by show 0 ≤ 90; decide) mB1 fb0 fb1 ⟨hlb0, hlb1⟩ jo2
 have zB1 := mB1.size
 have pc2 := pc1.mod mB1 pne
 have mp2 := mp1.mod mB1 (by omega)
 refine ldp (c := cPtr) (x := at0 c.j) pc2 (ldp (c := cPtr) (x := at0 c.j) pc2 ?_)
 simp only [at0, optK_eq, add_add, Nat.reduceAdd]
 obtain ⟨bf, bo, hsel, hne, hmd, hrw, hwt, hq, hqo, hfbm, hobm⟩ := sel2 b0 b1 0 (partD Kk 0) (partD_lt _ _) (by omega)
 have hfk : k ≤ bf.blk ∧ k ≤ bo.blk := by
  rcases hsel with ⟨_, rfl, rfl⟩ | ⟨_, rfl, rfl⟩
  ·exact ⟨by show k ≤ b0; omega, by show k ≤ b1; omega⟩
  ·exact ⟨by show k ≤ b1; omega, by show k ≤ b0; omega⟩
 have hfA : A1.size ≤ bf.blk ∧ A1.size ≤ bo.blk := by
  rcases hsel with ⟨_, rfl, rfl⟩ | ⟨_, rfl, rfl⟩
  ·exact ⟨hlb0, hlb1⟩
  ·exact ⟨hlb1, hlb0⟩
 have hbf : bf ∈ [] ++ [newF b0 0, newF b1 (0 + 1)] := hfbm
 have hbo : bo ∈ [] ++ [newF b0 0, newF b1 (0 + 1)] := hobm
 have bfr := T2.files bf (List.mem_append.2 (.inl hbf))
 have bor := T2.files bo (List.mem_append.2 (.inl hbo))
 have nEo : ∀ {b : Nat} {cs : Array Value} {ty : TypeId}, RowT B1 b ty cs → (ty ≠ Yaq ∧ ty ≠ Yaz ∧ ty ≠ Yal) → ¬ Eo c.j (Sl.mk none 0 0) bf lb bo.blk b := fun r ht => Eo_no r T2.jo bfr.row T2.fsl ob1 bor.row hwt ht
 have lbk : ∀ b, ownB lb b → k ≤ b := fun b hb => by have := obn b hb; omega
 have m12 : Mod (fun b => b = c.j) A B1 := m1.trans mB1
 have hcr2 := (hcr.mod m12 (rowNe hcr T.jo (by decide)))
 obtain ⟨⟨csa, rsa⟩, ⟨cla', rla⟩⟩ := fa.cells
 obtain ⟨⟨csb, rsb⟩, ⟨clb', rlb⟩⟩ := fb.cells
 have bA := fa.bnd
 have bB := fb.bnd
 have sbk : c.sb < k := Nat.lt_of_not_le fun u => (bB c.sb (.inl rfl)).2.2.2 (.inr (.inr (.inl u)))
 have lbk' : c.lb < k := Nat.lt_of_not_le fun u => (bB c.lb (.inr rfl)).2.2.2 (.inr (.inr (.inl u)))
 have sak : c.sa < k := Nat.lt_of_not_le fun u => (bA c.sa (.inl rfl)).2.2.2 (.inr (.inr (.inl u)))
 have lak : c.la < k := Nat.lt_of_not_le fun u => (bA c.la (.inr rfl)).2.2.2 (.inr (.inr (.inl u)))
 have fa2 : FrJ H0 B1 F (fun b => b = c.sa ∨ b = c.la) (Eb c k (fun b => b = c.sb ∨ b = c.lb) (Sl.mk none 0 0)) c.sa c.la c.wa RA := fa.by m12 fun b _ u => .inr (.inl u)
 have fb2 : FrJ H0 B1 F (fun b => b = c.sb ∨ b = c.lb) (Eb c k (fun b => b = c.sa ∨ b = c.la) (Sl.mk none 0 0)) c.sb c.lb c.wb RB2 := fb.by m12 fun b _ u => .inr (.inl u)
 have z12 := m12.size
 have jA1 : A1.size = A.size + 1 := z1
 have rsb2 : RowT B1 c.sb Yar csb := rsb.mod m12 (rowNe rsb T.jo (by decide))
 have rlb2 : RowT B1 c.lb Yam clb' := rlb.mod m12 (rowNe rlb T.jo (by decide))
 have nEx : ∀ b, (b = hc ∨ b = c.sb ∨ b = c.lb) → ¬ Eo c.j (Sl.mk none 0 0) bf lb bo.blk b := fun b u => by
  rcases u with u | u | u
  ·subst u; exact nEo hcr2 (by decide)
  ·subst u; exact nEo rsb2 (by decide)
  ·subst u; exact nEo rlb2 (by decide)
 have EoS : ∀ {b : Nat}, Eo c.j (Sl.mk none 0 0) bf lb bo.blk b → b = c.j ∨ A1.size ≤ b := fun {b} u => by
  rcases u with (u | u | u | u) | u | u
  ·exact .inl u
  ·exact .inr (by have := hfA.1; omega)
  ·exact absurd u (nilOwn b)
  ·rw [hwt] at u; exact absurd u (nilOwn b)
  ·exact .inr (obn b u)
  ·exact .inr (by have := hfA.2; omega)
 have hcne : hc ≠ c.lb := fun e => by omega
 have srcB : FrJ H0 B1 F (fun b => b = hc ∨ b = c.sb ∨ b = c.lb) (Eo c.j (Sl.mk none 0 0) bf lb bo.blk) c.sb c.lb c.wb RB2 := by
  refine fb2.re ⟨.inr (.inl rfl), .inr (.inr rfl)⟩ (fun b u => ?_) fun b hb u => ?_
  ·refine ⟨?_, ?_, ?_, nEx b u⟩
   ·rcases u with u | u | u
    ·subst u; exact obj_lt hcr2
    ·subst u; exact obj_lt rsb2
    ·subst u; exact obj_lt rlb2
   ·rcases u with u | u | u
    ·omega
    ·subst u; exact (bB _ (.inl rfl)).2.1
    ·subst u; exact (bB _ (.inr rfl)).2.1
   ·rcases u with u | u | u
    ·subst u; exact hcF
    ·subst u; exact (bB _ (.inl rfl)).2.2.1
    ·subst u; exact (bB _ (.inr rfl)).2.2.1
  ·rcases u with u | u | u | u | u
   ·exact .inl u
   ·exact (EoS u).elim (fun v => .inr (.inl (.inl v))) fun v => .inr (.inl (.inr (.inr (.inl (by omega)))))
   ·exact .inr (.inl (.inr (.inr (.inl (by omega)))))
   ·exact .inr (.inr (.inl u))
   ·exact .inr (.inr (.inr u))
 have rows2 : RowsX (fun b => F b ∨ Eo c.j (Sl.mk none 0 0) bf lb bo.blk b ∨ (b = hc ∨ b = c.sb ∨ b = c.lb)) B1 hs RB1 := by
  refine rows.step ⟨m12.mono fun b _ u => .inr (.inl u), fun b u => ?_⟩
  rcases u with u | u | u | u | u
  ·exact .inl (.inl u)
  ·exact (EoS u).imp (fun v => .inr (.inl v)) fun v => by omega
  ·exact .inl (.inr (.inr (.inl u)))
  ·exact .inl (.inr (.inr (.inr (.inl u))))
  ·exact .inl (.inr (.inr (.inr (.inr u))))
 have pX : ¬ (p = hc ∨ p = c.sb ∨ p = c.lb) := fun u => by
  rcases u with u | u | u
  ·exact rowNe pc hcr (by decide) u
  ·omega
  ·omega
 have hB1 : ∀ r ∈ RB1 ++ RB2, r.length = 16 ∧ fitsL r := fun r hr => (hRB r hr).2
 have hqb : [b0, b1][partD Kk 0]? = some bf.blk := hq
 refine TS.part (i := 5) (f := bf) (o := bo) (l := lb) (cols := c.cb) (cl := clb) (qs := [b0, b1]) (X := fun b => b = hc ∨ b = c.sb ∨ b = c.lb) (hd_more (hc := hc) (cap := p) (sb := c.sb) (lb := c.lb) (wb := c.wb) rfl) T2 hbf hbo hne hmd hrw hwt
  ⟨⟨hs, RB1, RB2, hcr2, rows2, hcap, srcB, rfl⟩, .inl rfl, hcne, pc2, pF, nEo pc2 (by decide), pX⟩
  (fun b hb _ => ⟨?_, nilOwn b⟩) ob1 (fun b hb => ⟨by have := lbk b hb; omega, hF (by have := obn b hb; omega), nilOwn b⟩) hg hQ (by omega) (by omega) (by show 0 + 2 ≤ 90; decide) (by show 0 ≤ 90; decide) (fun h => h) hB1 hlb (.inr ⟨rfl, rfl, rfl⟩) hcl.2 (fun r hr => (hRB r hr).1) rfl hqb hqo fun F4 X4 s4 M4 U4 m4 fs4 bl4 fb' B4 h6 hU4 hm4 hrows4 hname4 hblk4 hM4 ob6 ob6n S4 => ?_
 ·rcases hb with u | u | u
  ·subst u; exact Saf.row hcr2 (by decide)
  ·subst u; exact Saf.row rsb2 (by decide)
  ·subst u; exact Saf.row rlb2 (by decide)
 have z4 := S4.mod.size
 have nP : ¬ (F p ∨ Eo c.j (Sl.mk none 0 0) bf lb bo.blk p ∨ (p = hc ∨ p = c.sb ∨ p = c.lb)) := fun u => u.elim pF fun v => v.elim (nEo pc2 (by decide)) pX
 have pc4 := pc2.mod S4.mod nP
 have pF4 : ¬ F4 p := fun u => S4.not (obj_lt pc2) nP (.inl u)
 have mbX : ¬ (F A.size ∨ Eo c.j (Sl.mk none 0 0) bf lb bo.blk A.size ∨ (A.size = hc ∨ A.size = c.sb ∨ A.size = c.lb)) := fun u => by
  rcases u with u | u | u | u | u
  ·exact hF (Nat.le_refl _) u
  ·exact Eo_map mp2 T2.jo bfr.row T2.fsl ob1 bor.row hwt u
  ·have := obj_lt hcr; omega
  ·omega
  ·omega
 have mp4 := mp2.mod S4.mod mbX
 have mbF4 : ¬ F4 A.size := fun u => S4.not mp2.lt mbX (.inl u)
 have W4 : Step (Wb c k (fun b => b = c.sb ∨ b = c.lb) F (Sl.mk none 0 0)) (Wb c k (fun b => b = c.sb ∨ b = c.lb) F4 fs4) B1 B4 := part_stepW S4 hwt hfk.1 hfk.2 lbk fun b u => u.imp (fun v => by omega) id
 have fa4 : FrJ H0 B4 F4 (fun b => b = c.sa ∨ b = c.la) (Eb c k (fun b => b = c.sb ∨ b = c.lb) fs4) c.sa c.la c.wa RA := fa2.wbs W4
 refine br_f rfl ?_
 refine ldp (c := cPtr) (x := at0 c.j) pc4 (ldp (c := cPtr) (x := at0 c.j) pc4 ?_)
 simp only [at0, optK_eq, add_add, Nat.reduceAdd]
 refine RowT.ld (c := cInt .i64) (i := 4) (x := 16) h6.jo rfl ?_
 refine parts_ok (W := 16) (n := 2) h6.jo rfl rfl (by omega) rfl fun la a0 a1 B5 jo5 fa0 fa1 ha01 hla0 hla1 oa5 oan mB5 => ?_
 have jo5 : RowT B5 c.j Yaq (joW c { x00 with begun := true, tb := some A.size, held := 0, nx := 2 + 2, fs := fs4, gb := 0 + 1 }) := jo5
 have h7 := h6.add (by show 0 + 2 ≤ 90; decide) mB5 fa0 fa1 ⟨hla0, hla1⟩ jo5
 have zB5 := mB5.size
 have pc5 := pc4.mod mB5 pne
 have mp5 := mp4.mod mB5 (fun u => mp2.saf T2.jo u.symm)
 refine ldp (c := cPtr) (x := at0 c.j) pc5 (ldp (c := cPtr) (x := at0 c.j) pc5 ?_)
 simp only [at0, optK_eq, add_add, Nat.reduceAdd]
 refine ldp (c := cPtr) (x := at0 c.j) pc5 ?_
 simp only [at0, optK_eq, add_add, Nat.reduceAdd]
 refine RowT.ld (c := cPtr) (i := 2) (x := at0 c.sa) h7.jo rfl ?_
 obtain ⟨af, ao, hsela, hnea, hmda, hrwa, hwta, hqa, hqoa, hfam, hoam⟩ := sel2 a0 a1 2 (partD Kk 0) (partD_lt _ _) (by omega)
 have hka : B4.size ≤ af.blk ∧ B4.size ≤ ao.blk := by
  rcases hsela with ⟨_, rfl, rfl⟩ | ⟨_, rfl, rfl⟩
  ·exact ⟨hla0, hla1⟩
  ·exact ⟨hla1, hla0⟩
 have haf : af ∈ ([] ++ [newF b0 0, newF b1 (0 + 1)]).map (rep fb') ++ [newF a0 2, newF a1 (2 + 1)] := List.mem_append.2 (.inr hfam)
 have hao : ao ∈ ([] ++ [newF b0 0, newF b1 (0 + 1)]).map (rep fb') ++ [newF a0 2, newF a1 (2 + 1)] := List.mem_append.2 (.inr hoam)
 have afr := h7.files af (List.mem_append.2 (.inl haf))
 have aor := h7.files ao (List.mem_append.2 (.inl hao))
 have nEa : ∀ {b : Nat} {cs : Array Value} {ty : TypeId}, RowT B5 b ty cs → (ty ≠ Yaq ∧ ty ≠ Yaz ∧ ty ≠ Yal) → ¬ Eo c.j fs4 af la ao.blk b := fun r ht => Eo_no r h7.jo afr.row h7.fsl oa5 aor.row hwta ht
 have m5W : Step (Wb c k (fun b => b = c.sb ∨ b = c.lb) F4 fs4) (Wb c k (fun b => b = c.sb ∨ b = c.lb) F4 fs4) B4 B5 := ⟨mB5.mono fun b _ u => .inr (.inl u), fun b u => .inl u⟩
 have fa5 := fa4.wbs m5W
 obtain ⟨⟨csa5, rsa5⟩, ⟨cla5, rla5⟩⟩ := fa5.cells
 have bA5 := fa5.bnd
 have lak5 : ∀ b, ownB la b → k ≤ b := fun b hb => by have := oan b hb; omega
 have srcA : FrJ H0 B5 F4 (fun b => b = c.sa ∨ b = c.la) (Eo c.j fs4 af la ao.blk) c.sa c.la c.wa RA := by
  refine fa5.re ⟨.inl rfl, .inr rfl⟩ (fun b u => ⟨(bA5 b u).1, (bA5 b u).2.1, (bA5 b u).2.2.1, ?_⟩) fun b hb u => ?_
  ·rcases u with u | u
   ·subst u; exact nEa rsa5 (by decide)
   ·subst u; exact nEa rla5 (by decide)
  ·rcases u with u | ((u | u | u | u) | u | u) | u
   ·exact .inl u
   ·exact .inr (.inl (.inl u))
   ·exact .inr (.inl (.inr (.inr (.inl (by have := hka.1; omega)))))
   ·exact .inr (.inl (.inr (.inl u)))
   ·rw [hwta] at u; exact absurd u (nilOwn b)
   ·exact .inr (.inl (.inr (.inr (.inl (lak5 b u)))))
   ·exact .inr (.inl (.inr (.inr (.inl (by have := hka.2; omega)))))
   ·exact .inr (.inr u)
 have la4n : ∀ b, ownB la b → ¬ F4 b := fun b hb u => by have := h6.P.pool.lt b u; have := oan b hb; omega
 refine TS.part (i := 2) (f := af) (o := ao) (l := la) (cols := c.ca) (cl := cla) (qs := [a0, a1]) (X := fun b => b = c.sa ∨ b = c.la) (fr_more (sb := c.sa) (lb := c.la) (wb := c.wa)) h7 haf hao hnea hmda hrwa hwta srcA
  (fun b hb _ => ⟨?_, nilOwn b⟩) oa5 (fun b hb => ⟨by have := lak5 b hb; omega, la4n b hb, fun u => by have := (h6.fsl.block b u).2; have := oan b hb; omega⟩) hg hQ (by omega) (by omega) (by show 0 + 2 + 2 ≤ 90; decide) (by show 0 + 1 ≤ 90; decide) (fun h => h) (fun r hr => (hRA r hr).2) hla (.inl ⟨rfl, rfl, rfl⟩) hcl.1 (fun r hr => (hRA r hr).1) rfl hqa hqoa fun F5 X5 s5 M5 U5 m5 fs5 bl5 fa' B6 h8 hU5 hm5 hrows5 hname5 hblk5 hM5 oa8 oa8n S5 => ?_
 ·rcases hb with u | u
  ·subst u; exact Saf.row rsa5 (by decide)
  ·subst u; exact Saf.row rla5 (by decide)
 have z5 := S5.mod.size
 have nP5 : ¬ (F4 p ∨ Eo c.j fs4 af la ao.blk p ∨ (p = c.sa ∨ p = c.la)) := fun u => by
  rcases u with u | u | u | u
  ·exact pF4 u
  ·exact nEa pc5 (by decide) u
  ·omega
  ·omega
 have pc6 := pc5.mod S5.mod nP5
 have mbX5 : ¬ (F4 A.size ∨ Eo c.j fs4 af la ao.blk A.size ∨ (A.size = c.sa ∨ A.size = c.la)) := fun u => by
  rcases u with u | u | u | u
  ·exact mbF4 u
  ·exact Eo_map mp5 h7.jo afr.row h7.fsl oa5 aor.row hwta u
  ·omega
  ·omega
 have mp6 := mp5.mod S5.mod mbX5
 have mbF5 : ¬ F5 A.size := fun u => S5.not mp5.lt mbX5 (.inl u)
 have W5 : Step (Wb c k (fun b => b = c.sa ∨ b = c.la) F4 fs4) (Wb c k (fun b => b = c.sa ∨ b = c.la) F5 fs5) B5 B6 := part_stepW S5 hwta (by have := hka.1; omega) (by have := hka.2; omega) lak5 fun b u => .inr u
 -- the list of the right side's parts
 have nlb : ∀ b, ownB lb b → ¬ (F4 b ∨ Eo c.j fs4 af la ao.blk b ∨ (b = c.sa ∨ b = c.la)) := fun b hb u => by
  obtain ⟨cur, e⟩ := ob6.obj b hb
  have hbl := (ob1.block b hb).2
  have hbk := lbk b hb
  rcases u with u | ((u | u | u | u) | u | u) | u | u
  ·exact (ob6n b hb).1 u
  ·subst u; exact absurd (cells_ty e h6.jo) (by decide)
  ·have := hka.1; omega
  ·exact (ob6n b hb).2 u
  ·rw [hwta] at u; exact nilOwn b u
  ·have := oan b u; omega
  ·have := hka.2; omega
  ·omega
  ·omega
 have ob8 := (ob6.mod mB5 fun b hb u => by
  obtain ⟨cur, e⟩ := ob6.obj b hb
  subst u; exact absurd (cells_ty e h6.jo) (by decide)).mod S5.mod nlb
 obtain ⟨X0, X1, Y0, Y1, hnw, hX0, hX1, hY0, hY1, hrw2⟩ : ∃ B0 B1 A0 A1 : HFile, ((([] ++ [newF b0 0, newF b1 (0 + 1)]).map (rep fb') ++ [newF a0 2, newF a1 (2 + 1)]).map (rep fa')) = [B0, B1, A0, A1] ∧ B0.blk = b0 ∧ B1.blk = b1 ∧ A0.blk = a0 ∧ A1.blk = a1 ∧ ((B0.rows = RB1 ++ RB2 ∧ B1.rows = [] ∧ A0.rows = RA ∧ A1.rows = []) ∨ (B0.rows = [] ∧ B1.rows = RB1 ++ RB2 ∧ A0.rows = [] ∧ A1.rows = RA)) := by
  have hnd : ([newF b0 0, newF b1 (0 + 1), newF a0 2, newF a1 (2 + 1)].map HFile.name).Nodup := by
   have n1 : ∀ i j : Nat, i < 10 → j < 10 → i ≠ j → nmR hNm i ≠ nmR hNm j := fun i j _ hj h => nmR_ne (by omega) h
   simp only [List.map_cons, List.map_nil, List.nodup_cons, List.mem_cons, List.not_mem_nil, or_false, not_or, newF]
   exact ⟨⟨n1 _ _ (by omega) (by omega) (by omega), n1 _ _ (by omega) (by omega) (by omega), n1 _ _ (by omega) (by omega) (by omega)⟩, ⟨n1 _ _ (by omega) (by omega) (by omega), n1 _ _ (by omega) (by omega) (by omega)⟩, n1 _ _ (by omega) (by omega) (by omega), id, List.nodup_nil⟩
  rcases hsel with ⟨hd, rfl, rfl⟩ | ⟨hd, rfl, rfl⟩ <;> rcases hsela with ⟨hd2, rfl, rfl⟩ | ⟨hd2, rfl, rfl⟩
  ·exact ⟨_, _, _, _, (rep_four hnd).1 hname4 hname5, hblk4, rfl, hblk5, rfl, .inl ⟨hrows4, rfl, hrows5, rfl⟩⟩
  ·omega
  ·omega
  ·exact ⟨_, _, _, _, (rep_four hnd).2 hname4 hname5, rfl, hblk4, rfl, hblk5, .inr ⟨rfl, hrows4, rfl, hrows5⟩⟩
 have h8 : TS H0 c dp Q most cla clb Kk B6 F5 s5 M5 U5 m5 { x00 with begun := true, tb := some A.size, held := 0, nx := 2 + 2, fs := fs5, gb := 0 + 1 + 1 } bl5 ((([] ++ [newF b0 0, newF b1 (0 + 1)]).map (rep fb') ++ [newF a0 2, newF a1 (2 + 1)]).map (rep fa')) [] := h8
 rw [hnw] at h8
 refine br_f rfl ?_
 refine ldp (c := cPtr) (x := at0 c.j) pc6 ?_
 refine later_ok (A0 := Y0) (A1 := Y1) (B0 := X0) (B1 := X1) (lv := 0) h8.jo rfl h8.tk (by decide) (by rw [hY0, hY1]; exact oa8) (by rw [hX0, hX1]; exact ob8) fun tl B7 jo7 tk7 m7 o7 => ?_
 have h9 := h8.push (tsl := tl) (ts' := [] ++ [⟨Y0, X0, 0⟩, ⟨Y1, X1, 0⟩]) m7 jo7 tk7 o7 (by
  show [Y0, X0, Y1, X1].Perm [X0, X1, Y0, Y1]
  refine (List.Perm.swap X0 Y0 [Y1, X1]).trans (List.Perm.cons _ ?_)
  exact ((List.Perm.cons _ (List.Perm.swap X1 Y1 [])).trans (List.Perm.swap X1 Y0 [Y1]))) (fun e he => by
   have nk : ∀ cl, KeyR cl Kk [] := fun cl r hr => by cases hr
   have kA : KeyR cla Kk RA := fun r hr => (hRA r hr).1
   have kB : KeyR clb Kk (RB1 ++ RB2) := fun r hr => (hRB r hr).1
   have he : e ∈ [(⟨Y0, X0, 0⟩ : Tk), ⟨Y1, X1, 0⟩] := he
   rcases hrw2 with ⟨q1, q2, q3, q4⟩ | ⟨q1, q2, q3, q4⟩
   ·rcases List.mem_cons.1 he with u | u
    ·rw [u]; exact ⟨by show KeyR cla Kk Y0.rows; rw [q3]; exact kA, by show KeyR clb Kk X0.rows; rw [q1]; exact kB⟩
    ·rw [List.mem_singleton.1 u]; exact ⟨by show KeyR cla Kk Y1.rows; rw [q4]; exact nk _, by show KeyR clb Kk X1.rows; rw [q2]; exact nk _⟩
   ·rcases List.mem_cons.1 he with u | u
    ·rw [u]; exact ⟨by show KeyR cla Kk Y0.rows; rw [q3]; exact nk _, by show KeyR clb Kk X0.rows; rw [q1]; exact nk _⟩
    ·rw [List.mem_singleton.1 u]; exact ⟨by show KeyR cla Kk Y1.rows; rw [q4]; exact kA, by show KeyR clb Kk X1.rows; rw [q2]; exact kB⟩)
 have m7' : Mod (fun b => b = c.j) B6 B7 := m7.mono fun b _ u => u.elim id fun v => absurd v (nilOwn b)
 have z7 := m7'.size
 have pc7 := pc6.mod m7' pne
 have mp7 := mp6.mod m7' (fun u => mp2.saf T2.jo u.symm)
 refine ldp (c := cPtr) (x := at0 c.j) pc7 ?_
 refine newC_rowT fun C1 y1 f1 g1 => ?_
 refine newC_rowT fun C2 y2 r2 g2 => ?_
 simp only [at0, optK_eq]
 have g12 := g1.trans g2
 refine RowT.st (i := 19) (h9.jo.ext g12) (by simp [joW]) rfl fun C3 jo9 m9 z9 => ?_
 have jo9 : RowT C3 c.j Yaq (joW c { x00 with begun := true, tb := some A.size, held := 0, nx := 2 + 2, fs := fs5, gb := 0 + 1 + 1, tasks := tl, lf := at0 C1.size }) := jo9
 have T9 := (h9.ext g12).own (x' := { x00 with begun := true, tb := some A.size, held := 0, nx := 2 + 2, fs := fs5, gb := 0 + 1 + 1, tasks := tl, lf := at0 C1.size }) m9 jo9 ⟨rfl, rfl, rfl, Nat.le_refl _, rfl⟩
 have jl7 := obj_lt h9.jo
 have z12g := g12.size
 have zg2 := g2.size
 have f3 : RowT C3 B7.size Yaz (fileV 0 (noF B7.size)) := (RowT.ext f1 g2).mod m9 (by omega)
 have r3 : RowT C3 C1.size Yas (rdrV B7.size 0 (Sl.mk none 0 0)) := RowT.mod r2 m9 (by omega)
 have mall : Mod (fun b => b = c.j) B6 C3 := m7'.trans ((Ext.mod g12).trans m9)
 have mp9 := mp6.mod mall (fun u => mp2.saf T2.jo u.symm)
 have hF5 : ∀ {b : Nat}, B7.size ≤ b → ¬ F5 b := fun {b} hb u => by have := h9.P.pool.lt b u; omega
 have hz7 := h9.P.ext.size
 have prem : remT [(⟨Y0, X0, 0⟩ : Tk), ⟨Y1, X1, 0⟩] = passL 9 (RB1 ++ RB2) RA := by
  rw [show [(⟨Y0, X0, 0⟩ : Tk), ⟨Y1, X1, 0⟩] = ([] ++ [⟨Y0, X0, 0⟩]) ++ [⟨Y1, X1, 0⟩] from rfl, remT_snoc, remT_snoc, remT_nil]
  show passL 9 X1.rows Y1.rows ++ (passL 9 X0.rows Y0.rows ++ []) = _
  rcases hrw2 with ⟨q1, q2, q3, q4⟩ | ⟨q1, q2, q3, q4⟩
  ·rw [q1, q2, q3, q4, passL_nilA, List.append_nil]; rfl
  ·rw [q1, q2, q3, q4, passL_nilA, List.append_nil, List.append_nil]
 have hlens : (RB1 ++ RB2).length = RB1.length + RB2.length := List.length_append
 refine hK C3 _ ⟨F5, s5, M5, U5, m5, _, bl5, [], [⟨Y0, X0, 0⟩, ⟨Y1, X1, 0⟩], [A.size, C1.size], A.size, Sl.mk none 0 0, [], [], remT [⟨Y0, X0, 0⟩, ⟨Y1, X1, 0⟩], [], [], ⟨⟨T9, rfl, rfl, by simp, TabK.new _ mp9, fun b u => absurd u (nilOwn b), fun b hb => ?_, fun b hb => (by cases hb), fun r hr => (by cases hr), fun r hr => (by cases hr), Nat.zero_le _, Nat.zero_le _, ⟨by show 2 + 2 + 4 * 2 ≤ 40; decide, by show 0 + 1 + 1 + 2 * 2 ≤ 40; decide, by show 2 + 2 ≤ 40; decide, ?_⟩, .inr (.inr ⟨C1.size, B7.size, rfl, rfl, rfl, rfl, r3, f3, hF5 (Nat.le_refl _), ⟨rfl, rfl⟩, rfl⟩)⟩, ?_, fun h => absurd rfl h, fun r hr => (by cases hr)⟩, ?_, ?_, rfl, rfl, rfl⟩ ?_
 ·simp only [List.mem_cons, List.not_mem_nil, or_false] at hb
  rcases hb with rfl | rfl
  ·exact ⟨by omega, mbF5, mp9.lt, fun cs t e => absurd rfl (mp9.saf e), nilOwn _, fun u => mp2.saf T2.jo u.symm⟩
  ·exact ⟨by omega, hF5 (by omega), obj_lt r3, Saf.row r3 (by decide), nilOwn _, by omega⟩
 ·show U5 + 1000 * 2 + 2000 < Q
  omega
 ·exact RowsT.nil _ _
 ·show passL 9 (RB1 ++ RB2) RA = [] ++ ([] ++ remT [⟨Y0, X0, 0⟩, ⟨Y1, X1, 0⟩])
  rw [prem]; rfl
 ·show m5 + 20000 * (2 + 2 * 2) ≤ m + 200000
  omega
 ·-- what was written
  have sub : ∀ (b : Nat), (b = c.sb ∨ b = c.lb) → (b = c.sa ∨ b = c.la ∨ b = c.sb ∨ b = c.lb) := fun b u => .inr (.inr u)
  have sub2 : ∀ (b : Nat), (b = c.sa ∨ b = c.la) → (b = c.sa ∨ b = c.la ∨ b = c.sb ∨ b = c.lb) := fun b u => u.elim .inl fun v => .inr (.inl v)
  have V1 : Step (Wb c k (fun b => b = c.sa ∨ b = c.la ∨ b = c.sb ∨ b = c.lb) F (Sl.mk none 0 0)) (Wb c k (fun b => b = c.sa ∨ b = c.la ∨ b = c.sb ∨ b = c.lb) F (Sl.mk none 0 0)) A B1 := ⟨m12.mono fun b _ u => .inr (.inl u), fun b u => .inl u⟩
  have V2 := V1.trans ((W4.wbs sub).trans ((m5W.wbs sub).trans (W5.wbs sub2)))
  refine V2.trans ⟨mall.mono fun b _ u => .inr (.inl u), fun b u => ?_⟩
  rcases u with ((u | u | u | u | u) | u) | u
  ·exact .inl (.inl u)
  ·exact .inl (.inr (.inl u))
  ·rcases o7 b u with v | v
   ·exact absurd v (nilOwn b)
   ·exact .inr v
  ·exact .inl (.inr (.inr (.inl u)))
  ·exact absurd u (nilOwn b)
  ·simp only [List.mem_cons, List.not_mem_nil, or_false] at u
   rcases u with u | u
   ·exact .inl (.inr (.inr (.inr (.inl (by omega)))))
   ·exact .inr (by omega)
  ·exact absurd u (nilOwn b)
end
section
variable {H0 A B : Heap} {c : Cfg} {dp Q most U U' m m' p hc k : Nat} {n : Int} {cla clb Kk : List Int} {F F' X X' E E' Y Y' Z Z' : Nat → Prop} {s s' : Pl} {M M' : Files} {x x' : Jc} {bl bl' : List Nat} {nw nw' : List HFile} {ts ts' : List Tk} {L RA RB : List (List Int)} {hs : Sl}
def tldL (RB RA : List (List Int)) : List (List Int) := if RB.length < 9 then pairL RB RA else passL 9 RB RA
set_option maxRecDepth 100000 in
set_option maxHeartbeats 8000000 in
theorem hbegin_ok [Tab] {K : Int → Heap → Prop} (T : TS H0 c dp Q most cla clb Kk A F s M U m x00 [] [] []) (hg : Gl H0) (hQ : Q ≤ 1048576) (hcl : cla.length ≤ 1000 ∧ clb.length ≤ 1000) (hKn : sumW Kk (-1) = n) (hU : U + 6000 < Q) (hm : m + 300000 < 30000000000)
  (fa : FrJ H0 A F (fun b => b = c.sa ∨ b = c.la) (fun b => b = c.j ∨ b = c.sb ∨ b = c.lb) c.sa c.la c.wa RA) (fb : FrJ H0 A F (fun b => b = c.sb ∨ b = c.lb) (fun b => b = c.j ∨ b = c.sa ∨ b = c.la) c.sb c.lb c.wb RB)
  (hRA : ∀ r ∈ RA, turnL r cla = Kk ∧ r.length = 16 ∧ fitsL r) (hRB : ∀ r ∈ RB, turnL r clb = Kk ∧ r.length = 16 ∧ fitsL r) (hla : RA.length ≤ 300) (hlb : RB.length ≤ 300)
  (hK : ∀ B Z, GoZ H0 c dp Q most cla clb Kk n Z B (tldL RB RA) (m + 200000) [] (fun _ => none) → Step (fun b => F b ∨ b = c.j ∨ b = c.sa ∨ b = c.la ∨ b = c.sb ∨ b = c.lb) Z A B → K 0 B) : ZbO.sp (at0 c.j) A K := by
 have hF : ∀ {b : Nat}, A.size ≤ b → ¬ F b := fun {b} hb u => by have := T.P.pool.lt b u; omega
 have hz0 : H0.size ≤ A.size := T.P.ext.size
 have hjlt := obj_lt T.jo
 have bA := fa.bnd
 have bB := fb.bnd
 obtain ⟨⟨csa, rsa⟩, ⟨cla', rla⟩⟩ := fa.cells
 obtain ⟨⟨csb, rsb⟩, ⟨clb', rlb⟩⟩ := fb.cells
 have hal := obj_lt rsa
 have hal2 := obj_lt rla
 have hbl := obj_lt rsb
 have hbl2 := obj_lt rlb
 refine ZbO.of ?_
 unfold ZbO.vc
 refine newC_rowT fun A1 z1 p1 e1 => ?_
 have p1 : RowT A1 A.size Yah #[.pointer (at0 c.j)] := p1
 have pne : A.size ≠ c.j := by omega
 refine ldp (c := cPtr) (x := at0 c.j) p1 ?_
 refine optK_mk ⟨c.j, 0, none⟩ rfl ?_
 refine RowT.st (i := 10) (T.jo.ext e1) (by simp [joW]) rfl fun A2 jo2 m2 z2 => ?_
 have jo2 : RowT A2 c.j Yaq (joW c { x00 with begun := true }) := jo2
 have T2 := (T.ext e1).own (x' := { x00 with begun := true }) m2 jo2 ⟨rfl, rfl, rfl, Nat.le_refl _, rfl⟩
 have p2 := RowT.mod p1 m2 pne
 refine ldp (c := cPtr) (x := at0 c.j) p2 ?_
 refine jclear_ok jo2 rfl fun A3 jo3 mp3 m3 z3 => ?_
 generalize hmb : A2.size = mb at *
 have jo3 : RowT A3 c.j Yaq (joW c { x00 with begun := true, tb := some mb, held := 0 }) := jo3
 have T3 := T2.own (x' := { x00 with begun := true, tb := some mb, held := 0 }) m3 jo3 ⟨rfl, rfl, rfl, Nat.le_refl _, rfl⟩
 have p3 := RowT.mod p2 m3 pne
 have mA3 : Mod (fun b => b = c.j) A A3 := (Ext.mod e1).trans (m2.trans m3)
 have hmbA : A.size ≤ mb := by omega
 have zA3 := mA3.size
 have wid : ∀ {X E : Nat → Prop} {E' : Nat → Prop} {sb lb wb : Nat} {L : List (List Int)}, FrJ H0 A F X E sb lb wb L → (∀ b, E b → E' b) → (∀ b, E' b → E b ∨ A.size ≤ b) → FrJ H0 A F X E' sb lb wb L := fun h h1 h2 => h.write ⟨.refl _ _, fun b u => u.elim (fun v => .inl (.inl v)) fun v => (h2 b v).imp .inr id⟩
 have fa1 : FrJ H0 A F (fun b => b = c.sa ∨ b = c.la) (Eb c A.size (fun b => b = c.sb ∨ b = c.lb) (Sl.mk none 0 0)) c.sa c.la c.wa RA := wid fa (fun b u => u.elim .inl fun v => .inr (.inr (.inr v))) fun b u => by
  rcases u with u | u | u | u
  ·exact .inl (.inl u)
  ·exact absurd u (nilOwn b)
  ·exact .inr u
  ·exact .inl (.inr u)
 have fb1 : FrJ H0 A F (fun b => b = c.sb ∨ b = c.lb) (Eb c A.size (fun b => b = c.sa ∨ b = c.la) (Sl.mk none 0 0)) c.sb c.lb c.wb RB := wid fb (fun b u => u.elim .inl fun v => .inr (.inr (.inr v))) fun b u => by
  rcases u with u | u | u | u
  ·exact .inl (.inl u)
  ·exact absurd u (nilOwn b)
  ·exact .inr u
  ·exact .inl (.inr u)
 refine loop_upto 9 (fun i _ C => ∃ tsl, TS H0 c dp Q most cla clb Kk C F s M U m { x00 with begun := true, tb := some mb, held := i } [] [] [] ∧ RowT C A.size Yah #[.pointer (at0 c.j)] ∧ TabK (XR c x00 F [mb, c.sa, c.la, c.sb, c.lb]) C mb n tsl (RB.take i) ∧ (∀ b, ownB tsl b → A.size ≤ b) ∧ FrJ H0 C F (fun b => b = c.sa ∨ b = c.la) (Eb c A.size (fun b => b = c.sb ∨ b = c.lb) (Sl.mk none 0 0)) c.sa c.la c.wa RA ∧ FrJ H0 C F (fun b => b = c.sb ∨ b = c.lb) (Eb c A.size (fun b => b = c.sa ∨ b = c.la) (Sl.mk none 0 0)) c.sb c.lb c.wb (RB.drop i) ∧ i ≤ RB.length ∧ Mod (fun b => b = c.j ∨ b = c.sb ∨ b = c.lb ∨ A.size ≤ b) A C)
  ⟨Sl.mk none 0 0, T3, p3, TabK.new _ mp3, fun b u => absurd u (nilOwn b), fa1.by mA3 fun b _ u => .inr (.inl u), fb1.by mA3 fun b _ u => .inr (.inl u), Nat.zero_le _, mA3.mono fun b _ u => .inl u⟩ ?_
 rintro i _ C next hi ⟨tsl, TC, pC, tab, tlo, faC, fbC, hil, mC⟩ hnext
 have zC := mC.size
 have mbC := tab.lt
 have bAC := faC.bnd
 have bBC := fbC.bnd
 obtain ⟨⟨csa2, rsa2⟩, ⟨cla2, rla2⟩⟩ := faC.cells
 obtain ⟨⟨csb2, rsb2⟩, ⟨clb2, rlb2⟩⟩ := fbC.cells
 refine ⟨fun D => C = D, rfl, at0 c.j, fun D hD => (hD ▸ pC).cell (i := 0) rfl, ?_⟩
 refine optK_mk ⟨c.j, 0, none⟩ rfl ?_
 refine RowT.ldC (c := cInt .i64) (i := 17) (x := (i : Int)) (cs := fun _ => joW c { x00 with begun := true, tb := some mb, held := i }) (fun D hD => hD ▸ TC.jo) (fun _ _ => rfl) ?_
 refine ldp (c := cPtr) (x := at0 c.j) pC ?_
 refine jmost_ok TC.jo rfl rfl ⟨rfl, ?_⟩
 by_cases hi9 : i = 9
 ·subst hi9
  refine br_f (by decide) ?_
  have hRB9 : 9 ≤ RB.length := hil
  rw [zc_slsl]
  refine newC_rowT fun C1 y1 q1 g1 => ?_
  have pC1 := pC.ext g1
  refine ldp (c := cPtr) (x := at0 c.j) pC1 ?_
  refine optK_mk ⟨c.j, 0, none⟩ rfl ?_
  have T4 := TC.ext g1
  refine RowT.ld (c := cMap) (i := 16) (x := some mb) T4.jo rfl ?_
  have tab1 : TabK (XR c x00 F [mb, c.sa, c.la, c.sb, c.lb]) C1 mb n tsl (RB.take 9) := tab.step ⟨Ext.mod g1, fun b u => .inl u⟩ (g1.same mb mbC id)
  have hne9 : RB.take 9 ≠ [] := fun e => by
   have h1 := congrArg List.length e
   rw [List.length_take, List.length_nil] at h1; omega
  refine sorted1_ok tab1 hne9 fun l4 C2 il g2 => ?_
  have hl4 := il.len
  have hl4 : l4.n = 1 := hl4
  have g12 := g1.trans g2
  have tab2 : TabK (XR c x00 F [mb, c.sa, c.la, c.sb, c.lb]) C2 mb n tsl (RB.take 9) := tab1.step ⟨Ext.mod g2, fun b u => .inl u⟩ (g2.same mb tab1.lt id)
  have q2 : RowT C2 C.size Yam #[Sl.v (Sl.mk none 0 0)] := RowT.ext q1 g2
  have z12 := g12.size
  have zg2 := g2.size
  have T5 := TC.ext g12
  have pC2 := pC.ext g12
  refine loop_upto 1 (fun k z D => z = (k : Int) ∧ (k = 0 → C2 = D) ∧ (k = 1 → ∃ hs, RowT D C.size Yam #[Sl.v hs] ∧ hs.n ≤ hs.c ∧ Ext C D ∧ RowsX (fun b => F b ∨ b = c.j ∨ b = C.size ∨ b = c.sb ∨ b = c.lb) D hs (RB.take 9))) ⟨rfl, fun _ => rfl, fun h => by cases h⟩ ?_
  rintro kk _ D next1 hkk ⟨rfl, hk0, hk1⟩ hnext1
  by_cases hkk0 : kk = 0
  ·subst hkk0
   have hD := hk0 rfl
   subst hD
   refine br_t (by rw [hl4]; rfl) ?_
   obtain ⟨ad, a1, a2⟩ := il.at (i := 0) (by simp)
   have a2 : hCell C2 (ad.add 0) = some (.int .u64 n) := a2
   refine optK_mk ad a1 ⟨⟨Int.le_refl _, by rw [hl4]; decide⟩, n, a2, ?_⟩
   refine ldp (c := cSl) (x := Sl.mk none 0 0) q2 ?_
   refine ldp (c := cPtr) (x := at0 c.j) pC2 ?_
   refine optK_mk ⟨c.j, 0, none⟩ rfl ?_
   refine RowT.ld (c := cMap) (i := 16) (x := some mb) T5.jo rfl ?_
   refine ⟨tsl, tab2.read, ?_⟩
   obtain ⟨rs, oT, hrl, hrr⟩ := tab.rows.ex
   have oT2 := oT.mod (Ext.mod g12 (F := fun _ => False)) fun _ _ => id
   have htn := tab2.rows.n
   have h9l : (RB.take 9).length = 9 := by rw [List.length_take]; omega
   refine elRow.append (base := C2.size) (s := Sl.mk none 0 0) (x := tsl) (xs := []) (ws := rs.map Sl.v) (Owns.nil _ _ _ _) (by rw [List.length_map]; omega) oT2.reads (fun u hu => ?_) (by show 0 + tsl.n ≤ _; omega) (by show (0 + tsl.n) * 24 ≤ _; omega) (Nat.le_refl _) fun s' D1 n' o' m' b' _ => ?_
   ·obtain ⟨r, _, rfl⟩ := List.mem_map.1 hu
    rfl
   have eD1 : Ext C2 D1 := m'.ext fun b u => (nilOwn b u).elim
   have zD1 := eD1.size
   have q3 : RowT D1 C.size Yam #[Sl.v (Sl.mk none 0 0)] := RowT.ext q2 eD1
   have hst := RowT.st (i := 0) (v := s'.v) q3 (by simp) (by cases s'; rfl) (K := fun H12 => next1 (IntKind.i64.wrap (((0 : Nat) : Int) + (1 : Int))) H12)
   refine hst fun D2 q4 mq zq => ?_
   have q4 : RowT D2 C.size Yam #[Sl.v s'] := q4
   have o' : Owns D1 C2.size YaB 1 s' (rs.map Sl.v) := by simpa using o'
   have hsz1 : C.size < C2.size := obj_lt q2
   have eCD : Ext C D2 := ⟨by omega, fun b hb _ => (mq.same b (by omega) (by omega)).trans ((eD1.same b (by omega) id).trans (g12.same b hb id))⟩
   refine hnext1 (by decide) _ _ ⟨by rw [wrap64 (by decide) (by decide)]; rfl, (fun h => by cases h), fun _ => ⟨s', q4, o'.cap, eCD, ?_⟩⟩
   have o2 := o'.mod mq fun b hb u => by have := (o'.block b hb).1; omega
   refine ⟨by have := o'.1; rw [List.length_map] at this; omega, fun a ha => ?_, fun i hi => ?_⟩
   ·obtain ⟨v1, v2⟩ := o2.block _ ⟨a, ha, rfl⟩
    refine ⟨v2, fun u => ?_⟩
    rcases u with u | u | u | u | u
    ·have := TC.P.pool.lt _ u; omega
    ·have := obj_lt TC.jo; omega
    ·omega
    ·omega
    ·omega
   ·have hir : i < rs.length := by omega
    obtain ⟨a, ha, hca⟩ := o2.reads.at (i := i) (by rw [List.length_map]; exact hir)
    obtain ⟨w1, w2⟩ := hrr i rs[i] (RB.take 9)[i] (List.getElem?_eq_getElem hir) (List.getElem?_eq_getElem hi)
    have off : ∀ b, b = C.size → ∀ a, rs[i].a = some a → a.block ≠ b := fun b hb a ha e => by
     have h1 := (w2 a ha).1
     omega
    refine ⟨a, rs[i], ha, by simpa using hca, fun a1 ha1 => ⟨by have := (w2 a1 ha1).1; omega, fun u => ?_⟩, ((w1.ext g12).ext eD1).mod mq fun a1 ha1 u => off _ rfl a1 ha1 u⟩
    rcases u with u | u | u | u | u
    ·exact (w2 a1 ha1).2.1 (.inl (.inl u))
    ·exact (w2 a1 ha1).2.1 (.inl (.inr (.inl u)))
    ·exact off _ rfl a1 ha1 u
    ·exact (w2 a1 ha1).2.1 (.inr (by simp [u]))
    ·exact (w2 a1 ha1).2.1 (.inr (by simp [u]))
  ·have hkk1 : kk = 1 := by omega
   subst hkk1
   obtain ⟨hs, qh, hcap, eCD, rows⟩ := hk1 rfl
   refine br_f (by rw [hl4]; rfl) ?_
   have hbA : ∀ b, b < A.size → b < C.size := fun b hb => by omega
   refine begin_parts (RB1 := RB.take 9) (RB2 := RB.drop 9) (RA := RA) (k := A.size) (p := A.size) (hc := C.size) (hs := hs) (n := n) (TC.ext eCD) hg hQ hcl hU hm (pC.ext eCD) (hF (Nat.le_refl _)) qh (hF zC) (Nat.le_refl _) zC (by have := eCD.size; omega) hz0 rows hcap (faC.by (Ext.mod eCD) fun b _ (u : False) => u.elim) (fbC.by (Ext.mod eCD) fun b _ (u : False) => u.elim) hRA (by rw [List.take_append_drop]; exact hRB) hla (by rw [List.take_append_drop]; exact hlb) fun B Z hB S => ?_
   rw [List.take_append_drop] at hB
   refine hK B Z (by unfold tldL; rw [if_neg (by omega)]; exact hB) ?_
   have mCD : Mod (fun b => b = c.j ∨ b = c.sb ∨ b = c.lb ∨ A.size ≤ b) A D := mC.trans (eCD.mod)
   have mZ : Mod (fun b => F b ∨ b = c.j ∨ b = c.sa ∨ b = c.la ∨ b = c.sb ∨ b = c.lb) A D := mCD.mono fun b hb u => by
    rcases u with u | u | u | u
    ·exact .inr (.inl u)
    ·exact .inr (.inr (.inr (.inr (.inl u))))
    ·exact .inr (.inr (.inr (.inr (.inr u))))
    ·omega
   have wz : ∀ b, Wb c A.size (fun b => b = c.sa ∨ b = c.la ∨ b = c.sb ∨ b = c.lb) F (Sl.mk none 0 0) b → (F b ∨ b = c.j ∨ b = c.sa ∨ b = c.la ∨ b = c.sb ∨ b = c.lb) ∨ A.size ≤ b := fun b u => by
    rcases u with u | u | u | u | u
    ·exact .inl (.inl u)
    ·exact .inl (.inr (.inl u))
    ·exact absurd u (nilOwn b)
    ·exact .inr u
    ·exact .inl (.inr (.inr u))
   have zD := mZ.size
   exact ⟨mZ.trans' S.mod fun b hb u => (wz b u).elim id fun v => by omega, fun b u => (S.own b u).elim (wz b) fun v => .inr (by omega)⟩
 have hi8 : i < 9 := by omega
 refine br_t (decide_eq_true (by omega)) ?_
 refine ldp (c := cPtr) (x := at0 c.j) pC ?_
 refine optK_mk ⟨c.j, 0, none⟩ rfl ?_
 refine RowT.ld (c := cPtr) (i := 5) (x := at0 c.sb) TC.jo rfl ?_
 have R5lt : ∀ b ∈ [mb, c.sa, c.la, c.sb, c.lb], b < C.size := fun b hb => by
  simp only [List.mem_cons, List.not_mem_nil, or_false] at hb
  rcases hb with rfl | rfl | rfl | rfl | rfl
  ·exact mbC
  ·exact obj_lt rsa2
  ·exact obj_lt rla2
  ·exact obj_lt rsb2
  ·exact obj_lt rlb2
 have safB : ∀ b, (b = c.sb ∨ b = c.lb) → (H0.size ≤ b ∧ ¬ F b) ∧ Saf C b ∧ ¬ ownB (Sl.mk none 0 0) b := fun b u => by
  refine ⟨⟨(bBC b u).2.1, (bBC b u).2.2.1⟩, ?_, nilOwn b⟩
  rcases u with u | u
  ·subst u; exact Saf.row rsb2 (by decide)
  ·subst u; exact Saf.row rlb2 (by decide)
 have jsb : c.j ≠ c.sb := rowNe TC.jo rsb2 (by decide)
 have jlb : c.j ≠ c.lb := rowNe TC.jo rlb2 (by decide)
 have mbsb : mb ≠ c.sb := fun e => by omega
 have mblb : mb ≠ c.lb := fun e => by omega
 refine fbC.next (fun hl B0 kx hkx hB mB => ?_) fun l r y B0 hl hB mB iy oy => ?_
 ·-- all is in memory
  refine br_f rfl (br_t rfl ?_)
  have hiL : i = RB.length := by
   have := congrArg List.length hl
   rw [List.length_drop, List.length_nil] at this
   omega
  subst hiL
  rw [List.take_length] at tab
  have zB := mB.size
  have TB : TS H0 c dp Q most cla clb Kk B0 F s M U m { x00 with begun := true, tb := some mb, held := RB.length } [] [] [] := TC.aside mB (fun b u _ => by subst u; exact safB b hkx) (TC.jo.mod mB (by rcases hkx with rfl | rfl; exact jsb; exact jlb)) ⟨rfl, rfl, rfl, Nat.le_refl _, rfl⟩
  have tabB : TabK (XR c x00 F [mb, c.sa, c.la]) B0 mb n tsl RB := tab.step ⟨mB.mono fun b _ u => .inr (by rcases hkx with h | h <;> simp [u, h]), fun b u => .inl (u.imp id fun v => by
   simp only [List.mem_cons, List.not_mem_nil, or_false] at v ⊢
   rcases v with v | v | v
   ·exact .inl v
   ·exact .inr (.inl v)
   ·exact .inr (.inr (.inl v)))⟩ (mB.same mb mbC (by rcases hkx with rfl | rfl; exact mbsb; exact mblb))
  have faB : FrJ H0 B0 F (fun b => b = c.sa ∨ b = c.la) (Eb c A.size (fun b => b = c.sb ∨ b = c.lb) (Sl.mk none 0 0)) c.sa c.la c.wa RA := faC.by mB fun b _ u => .inr (.inr (.inr (.inr (u ▸ hkx))))
  have bAB := faB.bnd
  obtain ⟨⟨csa3, rsa3⟩, ⟨cla3, rla3⟩⟩ := faB.cells
  have srcA : FrJ H0 B0 F (fun b => b = c.sa ∨ b = c.la) (YT c x00 [mb] tsl) c.sa c.la c.wa RA := by
   have ysub : ∀ b, YT c x00 [mb] tsl b → b = c.j ∨ A.size ≤ b := fun b u => by
    rcases u with (u | u | u | u) | u | u
    ·exact .inl u
    ·exact absurd u (nilOwn b)
    ·exact absurd u (nilOwn b)
    ·exact absurd u (nilOwn b)
    ·have := List.mem_singleton.1 u; exact .inr (by omega)
    ·exact .inr (tlo b u)
   refine faB.re ⟨.inl rfl, .inr rfl⟩ (fun b u => ⟨(bAB b u).1, (bAB b u).2.1, (bAB b u).2.2.1, fun v => (bAB b u).2.2.2 ((ysub b v).elim .inl fun w => .inr (.inr (.inl w)))⟩) fun b _ u => ?_
   rcases u with u | u | u
   ·exact .inl u
   ·exact .inr (.inl ((ysub b u).elim .inl fun w => .inr (.inr (.inl w))))
   ·exact .inr (.inr u)
  have nF : ¬ F mb := hF hmbA
  refine hK B0 _ ⟨F, s, M, U, m, _, [], [], [], [mb, c.sa, c.la], mb, tsl, RB, RA, [], [], [], ⟨⟨TB, rfl, rfl, by simp, tabB, fun b hb => Nat.le_trans hz0 (tlo b hb), fun b hb => ?_, fun b hb => (by cases hb), fun r hr => ⟨(hRB r hr).1, (hRB r hr).2.1⟩, fun r hr => ⟨(hRA r hr).1, (hRA r hr).2.1⟩, hla, by omega, ⟨by show 0 + 4 * 0 ≤ 40; decide, by show 0 + 2 * 0 ≤ 40; decide, by decide, ?_⟩, .inr (.inl ⟨⟨rfl, rfl⟩, rfl, rfl, ⟨fun h => (by cases h), fun h => (by cases h)⟩, srcA, rfl⟩)⟩, RowsT.nil _ _, fun h => absurd rfl h, fun r hr => (by cases hr)⟩, ?_, ?_, rfl, rfl, rfl⟩ ⟨?_, fun b u => ?_⟩
  ·simp only [List.mem_cons, List.not_mem_nil, or_false] at hb
   rcases hb with rfl | rfl | rfl
   ·exact ⟨by omega, nF, tabB.lt, tabB.saf, nilOwn _, fun e => by omega⟩
   ·exact ⟨(bAB _ (.inl rfl)).2.1, (bAB _ (.inl rfl)).2.2.1, obj_lt rsa3, Saf.row rsa3 (by decide), nilOwn _, rowNe rsa3 TB.jo (by decide)⟩
   ·exact ⟨(bAB _ (.inr rfl)).2.1, (bAB _ (.inr rfl)).2.2.1, obj_lt rla3, Saf.row rla3 (by decide), nilOwn _, rowNe rla3 TB.jo (by decide)⟩
  ·show U + 1000 * 0 + 2000 < Q
   omega
  ·unfold tldL
   rw [if_pos (by omega)]
   simp
  ·show m + 20000 * (0 + 2 * 0) ≤ m + 200000
   omega
  ·have mZ : Mod (fun b => F b ∨ b = c.j ∨ b = c.sa ∨ b = c.la ∨ b = c.sb ∨ b = c.lb) A C := mC.mono fun b hb u => by
    rcases u with u | u | u | u
    ·exact .inr (.inl u)
    ·exact .inr (.inr (.inr (.inr (.inl u))))
    ·exact .inr (.inr (.inr (.inr (.inr u))))
    ·omega
   exact mZ.trans (mB.mono fun b _ u => .inr (.inr (.inr (.inr (u ▸ hkx)))))
  ·rcases u with ((u | u | u | u | u) | u) | u
   ·exact .inl (.inl u)
   ·exact .inl (.inr (.inl u))
   ·exact absurd u (nilOwn b)
   ·exact absurd u (nilOwn b)
   ·exact absurd u (nilOwn b)
   ·simp only [List.mem_cons, List.not_mem_nil, or_false] at u
    rcases u with u | u | u
    ·exact .inr (by omega)
    ·exact .inl (.inr (.inr (.inl u)))
    ·exact .inl (.inr (.inr (.inr (.inl u))))
   ·exact .inr (tlo b u)
 ·-- a row more
  refine br_f rfl (br_f rfl ?_)
  have hil2 : i < RB.length := by
   have := congrArg List.length hl
   rw [List.length_drop, List.length_cons] at this
   omega
  have hlr : l = RB[i] ∧ r = RB.drop (i + 1) := by
   rw [List.drop_eq_getElem_cons hil2] at hl
   obtain ⟨q1, q2⟩ := List.cons.inj hl
   exact ⟨q1.symm, q2.symm⟩
  have hmem : l ∈ RB := by rw [hlr.1]; exact List.getElem_mem hil2
  have zB := mB.size
  have pB := RowT.mod pC mB (by omega)
  refine ldp (c := cPtr) (x := at0 c.j) pB ?_
  have TB : TS H0 c dp Q most cla clb Kk B0 F s M U m { x00 with begun := true, tb := some mb, held := i } [] [] [] := TC.aside mB (fun b u _ => by subst u; exact safB _ (.inr rfl)) (TC.jo.mod mB jlb) ⟨rfl, rfl, rfl, Nat.le_refl _, rfl⟩
  have tabB : TabK (XR c x00 F [mb, c.sa, c.la, c.sb, c.lb]) B0 mb n tsl (RB.take i) := tab.step ⟨mB.mono fun b _ u => .inr (by simp [u]), fun b u => .inl u⟩ (mB.same mb mbC mblb)
  have faB : FrJ H0 B0 F (fun b => b = c.sa ∨ b = c.la) (Eb c A.size (fun b => b = c.sb ∨ b = c.lb) (Sl.mk none 0 0)) c.sa c.la c.wa RA := faC.by mB fun b _ u => .inr (.inr (.inr (.inr (.inr u))))
  have xlt : ∀ b, XR c x00 F [mb, c.sa, c.la, c.sb, c.lb] b → b < B0.size := fun b u => u.elim (TB.lt b) fun v => by have := R5lt b v; omega
  have xoff : ∀ b, (XR c x00 F [mb, c.sa, c.la, c.sb, c.lb] b ∨ ownB tsl b) → (F b ∨ Eb c A.size (fun b => b = c.sa ∨ b = c.la) (Sl.mk none 0 0) b ∨ (b = c.sb ∨ b = c.lb)) := fun b u => by
   rcases u with ((u | u | u | u | u) | u) | u
   ·exact .inl u
   ·exact .inr (.inl (.inl u))
   ·exact absurd u (nilOwn b)
   ·exact absurd u (nilOwn b)
   ·exact absurd u (nilOwn b)
   ·simp only [List.mem_cons, List.not_mem_nil, or_false] at u
    rcases u with u | u | u | u | u
    ·exact .inr (.inl (.inr (.inr (.inl (by omega)))))
    ·exact .inr (.inl (.inr (.inr (.inr (.inl u)))))
    ·exact .inr (.inl (.inr (.inr (.inr (.inr u)))))
    ·exact .inr (.inr (.inl u))
    ·exact .inr (.inr (.inr u))
   ·exact .inr (.inl (.inr (.inr (.inl (tlo b u)))))
  refine jhold_ok (cols := c.cb) (cl := clb) (held := i) TB.jo rfl rfl rfl TB.cb.ints hcl.2 tabB (.inl (.inr (.inl rfl))) (.inr (by simp)) xlt iy (fun a ha => ⟨(oy a ha).1, fun u => (oy a ha).2 (xoff _ (.inl u)), fun u => (oy a ha).2 (xoff _ (.inr u))⟩) (by rw [(hRB l hmem).1]; exact hKn) (by omega) (by rw [List.length_take]; omega) fun tsl' D jo4 tab4 m4 o4 => ?_
  have jo4 : RowT D c.j Yaq (joW c { x00 with begun := true, tb := some mb, held := i + 1 }) := jo4
  have tk : ∀ b, (b = c.j ∨ b = mb ∨ ownB tsl b) → b = c.j ∨ A.size ≤ b := fun b u => by
   rcases u with u | u | u
   ·exact .inl u
   ·exact .inr (by omega)
   ·exact .inr (tlo b u)
  have TD : TS H0 c dp Q most cla clb Kk D F s M U m { x00 with begun := true, tb := some mb, held := i + 1 } [] [] [] := TB.aside m4 (fun b u _ => by
   rcases u with u | u | u
   ·subst u; exact ⟨TB.jF, Saf.row TB.jo (by decide), nilOwn _⟩
   ·subst u; exact ⟨⟨by omega, hF hmbA⟩, tabB.saf, nilOwn _⟩
   ·exact ⟨⟨by have := tlo b u; omega, hF (tlo b u)⟩, tabB.rows.saf u, nilOwn _⟩) jo4 ⟨rfl, rfl, rfl, Nat.le_refl _, rfl⟩
  refine hnext hi8 _ _ ⟨tsl', TD, RowT.mod pB m4 (fun u => ?_), ?_, fun b hb => (o4 b hb).elim (tlo b) fun v => by omega, faB.by m4 fun b _ u => .inr ((tk b u).elim .inl fun v => .inr (.inr (.inl v))), ?_, hil2, mC.trans ((mB.mono fun b _ u => .inr (.inr (.inl u))).trans (m4.mono fun b _ u => (tk b u).elim .inl fun v => .inr (.inr (.inr v))))⟩
  ·rcases u with u | u | u
   ·exact pne u
   ·exact tabB.other pB u
   ·obtain ⟨cur, e⟩ := tabB.rows.obj _ u
    exact absurd (cells_ty pB e) (by decide)
  ·rw [List.take_succ_eq_append_getElem hil2, ← hlr.1]
   exact tab4
  ·rw [← hlr.2]
   exact hB.by m4 fun b _ u => .inr ((tk b u).elim .inl fun v => .inr (.inr (.inl v)))
end
end Go.Proofs.YtkehfflpbpdokaaGreat
namespace Go.Proofs.YtkehfflpbpdokaaGreat
theorem pairL_at : ∀ {A B : List (List Int)} {q : Nat} {a b : List Int}, A[q / B.length]? = some a → B[q % B.length]? = some b → (pairL B A)[q]? = some (a ++ b)
 | [], B, q, a, b, h, _ => by simp at h
 | a0 :: A, B, q, a, b, h, hb => by
   have hB : 0 < B.length := by
    rcases Nat.eq_zero_or_pos B.length with e | e
    ·rw [List.length_eq_zero_iff.1 e] at hb; simp at hb
    ·exact e
   rw [pairL_cons]
   rcases Nat.lt_or_ge q B.length with hq | hq
   ·rw [List.getElem?_append_left (by rw [List.length_map]; exact hq), List.getElem?_map]
    rw [Nat.mod_eq_of_lt hq] at hb
    rw [Nat.div_eq_of_lt hq] at h
    simp at h
    rw [hb, h]; rfl
   ·rw [List.getElem?_append_right (by rw [List.length_map]; exact hq), List.length_map]
    have e1 : q / B.length = (q - B.length) / B.length + 1 := by
     rw [← Nat.sub_add_cancel hq, Nat.add_div_right _ hB]
     simp
    have e2 : q % B.length = (q - B.length) % B.length := (Nat.mod_eq_sub_mod hq)
    rw [e1] at h
    rw [e2] at hb
    exact pairL_at (by simpa using h) hb
def rowA (w : Int) (i : Nat) : List Int := [w, 0, 0, 0, 0, (i : Int), 0, 0, 0, 0, 0, 0, 0, 0, 0, 0]
def rowB (w : Int) (i : Nat) : List Int := [0, 0, 0, w, 0, 0, 0, 0, 0, 0, 0, 0, 0, 0, 0, (i : Int)]
def rowsA (w : Int) (n : Nat) : List (List Int) := (List.range n).map (rowA w)
def rowsB (w : Int) (n : Nat) : List (List Int) := (List.range n).map (rowB w)
theorem rowA_lt {w : Int} {i k : Nat} {x y : List Int} (h : i < k) : cmpL (rowA w i ++ x) (rowA w k ++ y) < 0 := by
 have h1 : (i : Int) < (k : Int) := by omega
 simp [rowA, cmpL, h1]
theorem rowB_lt {w w' : Int} {j i k : Nat} (h : i < k) : cmpL (rowA w j ++ rowB w' i) (rowA w j ++ rowB w' k) < 0 := by
 have h1 : (i : Int) < (k : Int) := by omega
 simp [rowA, rowB, cmpL, h1]
theorem pairs_rise (w : Int) (na nb : Nat) : (pairL (rowsB w nb) (rowsA w na)).Pairwise fun a b => cmpL a b < 0 := by
 unfold pairL rowsA rowsB
 rw [List.flatMap_map, List.pairwise_flatMap]
 refine ⟨fun i _ => ?_, ?_⟩
 ·rw [List.map_map, List.pairwise_map]
  exact List.pairwise_lt_range.imp fun h => rowB_lt h
 ·refine List.pairwise_lt_range.imp fun {i k} h => ?_
  intro x hx y hy
  obtain ⟨b, _, rfl⟩ := List.mem_map.1 hx
  obtain ⟨b', _, rfl⟩ := List.mem_map.1 hy
  exact rowA_lt h
theorem rise_again {L E : List (List Int)} (hE : E.Pairwise fun a b => cmpL a b < 0) (hL : L.Pairwise fun a b => cmpL a b ≤ 0) (hp : L.Perm E) : L = E := by
 refine hp.eq_of_pairwise (le := fun a b => cmpL a b ≤ 0) (fun a b _ _ h1 h2 => ?_) hL (hE.imp fun h => Int.le_of_lt h)
 have := cmpL_swap a b
 exact cmpL_zero.1 (by omega)
theorem cmpL_trans : ∀ {a b c : List Int}, cmpL a b < 0 → cmpL b c < 0 → cmpL a c < 0
 | [], [], _, h, _ => by simp [cmpL] at h
 | [], _ :: _, [], _, h => by simp [cmpL] at h
 | [], _ :: _, _ :: _, _, _ => by simp [cmpL]
 | _ :: _, [], _, h, _ => by simp [cmpL] at h
 | _ :: _, _ :: _, [], _, h => by simp [cmpL] at h
 | x :: a, y :: b, z :: c, h1, h2 => by
   simp only [cmpL] at h1 h2 ⊢
   have ih := @cmpL_trans a b c
   split at h1
   ·split at h2
    ·rw [if_pos (by omega)]; decide
    ·split at h2
     ·omega
     ·rw [if_pos (by omega)]; decide
   ·split at h1
    ·omega
    ·split at h2
     ·rw [if_pos (by omega)]; decide
     ·split at h2
      ·omega
      ·rw [if_neg (by omega), if_neg (by omega)]; exact ih h1 h2
theorem cmpL_le_trans {a b c : List Int} (h1 : cmpL a b ≤ 0) (h2 : cmpL b c ≤ 0) : cmpL a c ≤ 0 := by
 rcases Int.lt_or_eq_of_le h1 with u | u
 ·rcases Int.lt_or_eq_of_le h2 with v | v
  ·exact Int.le_of_lt (cmpL_trans u v)
  ·rw [cmpL_zero.1 v] at u; exact Int.le_of_lt u
 ·rw [cmpL_zero.1 u]; exact h2
def leL (a b : List Int) : Bool := decide (cmpL a b ≤ 0)
def mgO (A B : List (List Int)) : List (List Int) := List.merge A B leL
section
variable {A B : List (List Int)} {i k : Nat} {a b : List Int}
theorem mgO_left (h : A[i]? = some a) (hk : k = B.length ∨ ∃ b, B[k]? = some b ∧ cmpL a b ≤ 0) : mgO (A.drop i) (B.drop k) = a :: mgO (A.drop (i + 1)) (B.drop k) := by
 obtain ⟨hi, e⟩ := List.getElem?_eq_some_iff.1 h
 unfold mgO
 rw [List.drop_eq_getElem_cons hi, e]
 rcases hk with rfl | ⟨b, hb, hle⟩
 ·rw [List.drop_length, List.merge_right, List.merge_right]
 ·obtain ⟨hk, e2⟩ := List.getElem?_eq_some_iff.1 hb
  rw [List.drop_eq_getElem_cons hk, e2, List.cons_merge_cons, if_pos (show leL a b = true from decide_eq_true hle)]
theorem mgO_right (h : B[k]? = some b) (hi : i = A.length ∨ ∃ a, A[i]? = some a ∧ ¬ cmpL a b ≤ 0) : mgO (A.drop i) (B.drop k) = b :: mgO (A.drop i) (B.drop (k + 1)) := by
 obtain ⟨hk, e⟩ := List.getElem?_eq_some_iff.1 h
 unfold mgO
 rw [List.drop_eq_getElem_cons hk, e]
 rcases hi with rfl | ⟨a, ha, hle⟩
 ·rw [List.drop_length]; simp
 ·obtain ⟨hi, e2⟩ := List.getElem?_eq_some_iff.1 ha
  rw [List.drop_eq_getElem_cons hi, e2, List.cons_merge_cons, if_neg (by unfold leL; simpa using hle)]
theorem mgO_perm : (mgO A B).Perm (A ++ B) := List.merge_perm_append leL
theorem mgO_rise (hA : A.Pairwise fun a b => cmpL a b ≤ 0) (hB : B.Pairwise fun a b => cmpL a b ≤ 0) : (mgO A B).Pairwise fun a b => cmpL a b ≤ 0 := by
 have h := List.pairwise_merge (le := leL) (fun a b c h1 h2 => decide_eq_true (cmpL_le_trans (of_decide_eq_true h1) (of_decide_eq_true h2))) (fun a b => by
  have h1 := cmpL_swap a b
  unfold leL
  by_cases h : cmpL a b ≤ 0
  ·simp [h]
  ·have : cmpL b a ≤ 0 := by omega
   simp [this]) A B (hA.imp fun h => decide_eq_true h) (hB.imp fun h => decide_eq_true h)
 exact h.imp fun h => of_decide_eq_true h
end
end Go.Proofs.YtkehfflpbpdokaaGreat
