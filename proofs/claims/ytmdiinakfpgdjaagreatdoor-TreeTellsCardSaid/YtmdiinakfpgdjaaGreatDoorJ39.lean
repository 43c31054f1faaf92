/-
  Trees: plain laws: a row is put in: down the tree.
-/
import Derived.Test.YtmdiinakfpgdjaaGreatDoorVc
import Derived.Test.YtmdiinakfpgdjaaGreatDoorFxk
import Derived.Test.YtmdiinakfpgdjaaGreatDoorJ32
import Derived.Test.YtmdiinakfpgdjaaGreatDoorJ35
import Derived.Test.YtmdiinakfpgdjaaGreatDoorJ38
namespace Go.Proofs.YtmdiinakfpgdjaaGreatDoor
theorem leaf_near {n : Nd} {W depth : Nat} {s : Span} {l : List Int} (hW : W ≤ 16) (h : n.Fine W depth 0 s) (hl : l.length = W ∧ fitsL l) (hs : s.Has l) (hn : sameAt n.rows l = false) : l ∉ n.rows ∧ (Nd.mk n.kids (insAt (below l n.rows) l n.rows)).Near W 0 s := by
  have hk := h.leaf rfl
  obtain ⟨q1, q2⟩ := holds_iff.1 h.holds
  have hb := below_leT l n.rows
  have hr := holds_rises h.holds
  have lo : ∀ i, i < below l n.rows → ltR (n.rows.getD i []) l := fun i hi => below_lo hi
  have hi : ∀ i, below l n.rows ≤ i → i < n.rows.length → ltR l (n.rows.getD i []) := by
    intro i h1 h2
    have e : n.child l = below l n.rows := by unfold Nd.child; rw [hn]; rfl
    exact child_gt hr (by omega) h2
  have hnot : l ∉ n.rows := by
    intro hm
    obtain ⟨i, h1, e⟩ := List.mem_iff_getElem.1 hm
    have e : n.rows.getD i [] = l := (getDo h1).trans e
    rcases Nat.lt_or_ge i (below l n.rows) with u | u
    · have := lo i u; rw [e] at this; exact ltR_irr _ this
    · have := hi i u h1; rw [e] at this; exact ltR_irr _ this
  refine ⟨hnot, fun _ => hk, fun q => by omega, by rw [insAt_length]; omega, holds_iff.2 ⟨insAt_asc q1 hb lo hi, fun y hy => ?_⟩, fun y hy => ?_, fun k hk' => h.kids k hk', .inl ⟨hk, ?_⟩⟩
  · rcases insAt_mem.1 hy with u | u
    · exact q2 y u
    · rw [u]; exact hs
  · rcases insAt_mem.1 hy with u | u
    · exact h.cols y u
    · rw [u]; exact hl
  · rw [insAt_length]
    have := h.fit
    rw [Nd.bytes_length hW fun l hl => (h.cols l hl).1, if_pos hk] at this
    simp only [Nat.add_sub_cancel]
    omega
theorem child_has {n : Nd} {s : Span} {l : List Int} (hr : rises n.rows = true) (hs : s.Has l) : (s.of n (n.child l)).Has l := by
  have hc := child_le (n := n) (l := l)
  constructor
  · intro a ha
    unfold Span.of at ha
    simp only at ha
    split at ha
    · rename_i h0
      have ha : n.rows.getD (n.child l - 1) [] = a := Option.some.inj ha
      rw [← ha]
      intro q
      unfold Nd.child at q h0
      split at q
      · rename_i hsm
        rw [Nat.add_sub_cancel, (sameAt_iff.1 hsm).2] at q
        exact ltR_irr _ q
      · rename_i hsm
        rw [if_neg hsm] at h0
        exact ltR_irr _ (ltR_trans q (below_lo (by omega)))
    · exact hs.1 a ha
  · intro a ha
    unfold Span.of at ha
    simp only at ha
    split at ha
    · rename_i h0
      have ha : n.rows.getD (n.child l) [] = a := Option.some.inj ha
      rw [← ha]
      exact child_gt hr (Nat.le_refl _) h0
    · exact hs.2 a ha
theorem flat_split {α : Type} {Ls : List (List α)} {c : Nat} (h : c < Ls.length) : Ls.flatten = (Ls.take c).flatten ++ (Ls.getD c [] ++ (Ls.drop (c + 1)).flatten) := by
  conv => lhs; rw [← List.take_append_drop c Ls]
  rw [List.flatten_append, List.drop_eq_getElem_cons h, List.flatten_cons, List.getD, List.getElem?_eq_getElem h]; rfl
theorem not_twice {α : Type} {Ps : List (List α)} (hn : Ps.flatten.Nodup) {i j : Nat} (hi : i < Ps.length) (hj : j < Ps.length) (hij : i ≠ j) {p : α} (h1 : p ∈ Ps.getD i []) (h2 : p ∈ Ps.getD j []) : False := by
  unfold List.Nodup at hn
  rw [List.pairwise_flatten] at hn
  have h3 := List.pairwise_iff_getElem.1 hn.2
  rw [List.getD, List.getElem?_eq_getElem hi] at h1
  rw [List.getD, List.getElem?_eq_getElem hj] at h2
  rcases Nat.lt_or_ge i j with u | u
  · exact h3 i j hi hj u p h1 p h2 rfl
  · exact h3 j i hj hi (by omega) p h2 p h1 rfl
section
variable {x : St} {W depth : Nat}
theorem Kin.one {x x' : St} {a c : Nat} {s : Span} {n : Nd} {Ls : List (List (List Int))} {Ps : List (List Nat)} {L' : List (List Int)} {P' : List Nat} (h : Kin (Tn x W depth a) s n Ls Ps) (hc : c < n.kids.length) (hnd : Ps.flatten.Nodup) (g : Grew x x' (Ps.getD c []) P') (hT : Tn x' W depth a (n.kids.getD c 0) (s.of n c) L' P') :
    Kin (Tn x' W depth a) s n (Ls.take c ++ L' :: Ls.drop (c + 1)) (Ps.take c ++ P' :: Ps.drop (c + 1)) := by
  obtain ⟨k1, k2, k3, k4⟩ := h
  refine ⟨k1, by simp only [List.length_append, List.length_take, List.length_cons, List.length_drop]; omega, by simp only [List.length_append, List.length_take, List.length_cons, List.length_drop]; omega, fun i hi => ?_⟩
  have eL : Ls.take c ++ L' :: Ls.drop (c + 1) = Ls.set c L' := (List.set_eq_take_append_cons_drop ..).trans (if_pos (by omega)) |>.symm
  have eP : Ps.take c ++ P' :: Ps.drop (c + 1) = Ps.set c P' := (List.set_eq_take_append_cons_drop ..).trans (if_pos (by omega)) |>.symm
  rw [eL, eP]
  by_cases e : i = c
  · subst e
    simp only [List.getD, List.getElem?_set_self (show i < Ls.length by omega), List.getElem?_set_self (show i < Ps.length by omega), Option.getD_some]
    exact hT
  · have e1 : (Ls.set c L').getD i [] = Ls.getD i [] := by simp only [List.getD, List.getElem?_set_ne (Ne.symm e)]
    have e2 : (Ps.set c P').getD i [] = Ps.getD i [] := by simp only [List.getD, List.getElem?_set_ne (Ne.symm e)]
    rw [e1, e2]
    refine (k4 i hi).congr g.le fun p hp => g.keep p ((k4 i hi).lt p hp) fun u => ?_
    exact not_twice hnd (show i < Ps.length by omega) (show c < Ps.length by omega) e hp u
theorem two_getD {α : Type} {l : List α} {c : Nat} {u v d : α} (hc : c < l.length) (i : Nat) : (l.take c ++ u :: v :: l.drop (c + 1)).getD i d = if i < c then l.getD i d else if i = c then u else if i = c + 1 then v else l.getD (i - 1) d := by
  simp only [List.getD]
  split
  · rename_i hi
    rw [List.getElem?_append_left (by rw [List.length_take]; omega), List.getElem?_take, if_pos hi]
  · rename_i hi
    rw [List.getElem?_append_right (by rw [List.length_take]; omega), List.length_take, Nat.min_eq_left (by omega)]
    split
    · rename_i e; subst e; rw [Nat.sub_self]; rfl
    · rename_i e
      split
      · rename_i e2; subst e2; rw [show c + 1 - c = 1 by omega]; rfl
      · obtain ⟨j, hj⟩ : ∃ j, i - c = j + 1 + 1 := ⟨i - c - 2, by omega⟩
        rw [hj, List.getElem?_cons_succ, List.getElem?_cons_succ, List.getElem?_drop, show c + 1 + j = i - 1 by omega]
theorem of_ins {s : Span} {n : Nd} {c g : Nat} {up : List Int} (hc : c ≤ n.rows.length) (i : Nat) (hi : i ≤ n.rows.length + 1) :
    s.of ⟨insAt (c + 1) g n.kids, insAt c up n.rows⟩ i = if i < c then s.of n i else if i = c then ⟨(s.of n c).low, some up⟩ else if i = c + 1 then ⟨some up, (s.of n c).high⟩ else s.of n (i - 1) := by
  unfold Span.of
  simp only [insAt_length, insAt_getD hc]
  by_cases h1 : i < c
  · have e1 : i - 1 < c := by omega
    have e2 : i < n.rows.length + 1 := by omega
    have e3 : i < n.rows.length := by omega
    simp only [h1, e1, e2, e3, if_true]
  · by_cases h2 : i = c
    · subst h2
      have e2 : i < n.rows.length + 1 := by omega
      simp only [h1, e2, if_true, if_false, Span.mk.injEq, and_true]
      split
      · rw [if_pos (by omega)]
      · rfl
    · by_cases h3 : i = c + 1
      · subst h3
        have e1 : 0 < c + 1 := by omega
        have e2 : ¬ c + 1 - 1 < c := by omega
        have e3 : c + 1 - 1 = c := by omega
        by_cases h4 : c < n.rows.length
        · have e4 : c + 1 < n.rows.length + 1 := by omega
          simp only [h1, h2, e1, e3, h4, e4, Nat.lt_irrefl, if_true, if_false]
        · have e4 : ¬ c + 1 < n.rows.length + 1 := by omega
          simp only [h1, h2, e1, e3, h4, e4, Nat.lt_irrefl, if_true, if_false]
      · have e1 : 0 < i := by omega
        have e2 : 0 < i - 1 := by omega
        have e3 : ¬ i - 1 < c := by omega
        have e4 : ¬ i - 1 = c := by omega
        by_cases h4 : i - 1 < n.rows.length
        · have e5 : i < n.rows.length + 1 := by omega
          simp only [h1, h2, h3, e1, e2, e3, e4, e5, h4, if_true, if_false]
        · have e5 : ¬ i < n.rows.length + 1 := by omega
          simp only [h1, h2, h3, e1, e2, e3, e4, e5, h4, if_true, if_false]
theorem Kin.two {x x' : St} {a c g : Nat} {s : Span} {n : Nd} {Ls : List (List (List Int))} {Ps : List (List Nat)} {L1 L2 : List (List Int)} {P1 P2 : List Nat} {up : List Int} (h : Kin (Tn x W depth a) s n Ls Ps) (hc : c < n.kids.length) (hnd : Ps.flatten.Nodup) (gr : Grew x x' (Ps.getD c []) (P1 ++ P2))
    (h1 : Tn x' W depth a (n.kids.getD c 0) ⟨(s.of n c).low, some up⟩ L1 P1) (h2 : Tn x' W depth a g ⟨some up, (s.of n c).high⟩ L2 P2) :
    Kin (Tn x' W depth a) s ⟨insAt (c + 1) g n.kids, insAt c up n.rows⟩ (Ls.take c ++ L1 :: L2 :: Ls.drop (c + 1)) (Ps.take c ++ P1 :: P2 :: Ps.drop (c + 1)) := by
  obtain ⟨k1, k2, k3, k4⟩ := h
  refine ⟨by simp only [insAt_length]; omega, by simp only [List.length_append, List.length_take, List.length_cons, List.length_drop, insAt_length]; omega, by simp only [List.length_append, List.length_take, List.length_cons, List.length_drop, insAt_length]; omega, fun i hi => ?_⟩
  simp only [insAt_length] at hi
  rw [of_ins (by omega) i (by omega), two_getD (by omega), two_getD (by omega)]
  simp only [insAt_getD (show c + 1 ≤ n.kids.length by omega)]
  have old : ∀ j, j < n.kids.length → j ≠ c → Tn x' W depth a (n.kids.getD j 0) (s.of n j) (Ls.getD j []) (Ps.getD j []) := fun j hj e => by
    refine (k4 j hj).congr gr.le fun p hp => gr.keep p ((k4 j hj).lt p hp) fun u => ?_
    exact not_twice hnd (show j < Ps.length by omega) (show c < Ps.length by omega) e hp u
  by_cases q1 : i < c
  · rw [if_pos q1, if_pos q1, if_pos q1, if_pos (show i < c + 1 by omega)]
    exact old i (by omega) (by omega)
  · rw [if_neg q1, if_neg q1, if_neg q1]
    by_cases q2 : i = c
    · subst q2
      rw [if_pos rfl, if_pos rfl, if_pos rfl, if_pos (show i < i + 1 by omega)]
      exact h1
    · rw [if_neg q2, if_neg q2, if_neg q2, if_neg (show ¬ i < c + 1 by omega)]
      by_cases q3 : i = c + 1
      · rw [if_pos q3, if_pos q3, if_pos q3, if_pos q3]
        exact h2
      · rw [if_neg q3, if_neg q3, if_neg q3, if_neg q3]
        exact old (i - 1) (by omega) (by omega)
theorem add_ok {q : Nat} {l : List Int} (hW : W ≤ 16) (hl : l.length = W ∧ fitsL l) : ∀ {a : Nat} {x : St} {page : Nat} {s : Span} {L : List (List Int)} {P : List Nat}, Tn x W depth a page s L P → P.Nodup → s.Has l → x.N + a < q → x.N + a < 4294967296 →
    (l ∈ L ∧ x.add W q depth l a page s = .ok false none x) ∨ (l ∉ L ∧ AddOk x W depth a page s l L P (x.N + a) (x.add W q depth l a page s))
  | 0, x, page, s, L, P, hT, hnd, hs, hq, hN => by
    have hlt := hT.lt
    have hpg := hT.page
    obtain ⟨n, h1, h2, h3, h4⟩ := hT
    subst h3; subst h4
    unfold St.add
    rw [h1]
    cases hsm : sameAt n.rows l with
    | true =>
      refine .inl ⟨?_, if_pos hsm⟩
      obtain ⟨u1, u2⟩ := sameAt_iff.1 hsm
      rw [getDo u1] at u2
      exact u2 ▸ List.getElem_mem _
    | false =>
      obtain ⟨hnot, near⟩ := leaf_near hW h2 hl hs hsm
      refine .inr ⟨hnot, ?_⟩
      simp only [hsm, Bool.false_eq_true, if_false]
      refine fin_ok (q := q) (L0 := n.rows) (L := insAt (below l n.rows) l n.rows) (Q := []) hW near ⟨h2.leaf rfl, rfl, rfl⟩ hnd hlt (by omega) fun y => ?_
      rw [insAt_mem]; exact Or.comm
  | a + 1, x, page, s, L, P, hT, hnd, hs, hq, hN => by
    have hlt := hT.lt
    have hpg := hT.page
    obtain ⟨n, Ls, Ps, h1, h2, hk, h4, h5⟩ := hT
    obtain ⟨k1, k2, k3, k4⟩ := hk
    subst h4; subst h5
    have hnd' := List.nodup_cons.1 hnd
    have hr := holds_rises h2.holds
    have hcl := child_le (n := n) (l := l)
    generalize hc : n.child l = c at hcl
    have hck : c < n.kids.length := by omega
    have hcT := k4 c hck
    have hsc : (s.of n c).Has l := hc ▸ child_has hr hs
    have eP := flat_split (Ls := Ps) (c := c) (by omega)
    have eL := flat_split (Ls := Ls) (c := c) (by omega)
    have hPc : (Ps.getD c []).Nodup := by
      have := hnd'.2
      rw [eP] at this
      exact (List.nodup_append.1 (List.nodup_append.1 this).2.1).1
    have ih := add_ok (q := q) hW hl hcT hPc hsc (by omega) (by omega)
    have hnot : l ∉ Ls.getD c [] → l ∉ Ls.flatten := by
      intro hno hm
      obtain ⟨i, hi, hmi⟩ := mem_flatI hm
      have hsi := ((k4 i (by omega)).rows.2 l hmi).1
      rcases Nat.lt_or_ge i c with u | u
      · exact ltR_irr _ (of_apart h2.holds u hcl hsi hsc)
      · rcases Nat.lt_or_ge c i with v | v
        · exact ltR_irr _ (of_apart h2.holds v (by omega) hsc hsi)
        · exact hno (by rw [show c = i by omega]; exact hmi)
    have hadd : x.add W q depth l (a + 1) page s = match x.add W q depth l a (n.kids.getD c 0) (s.of n c) with
      | .ok _ (some m) x' => x'.fin W q (a + 1) page ⟨insAt (c + 1) m.1 n.kids, insAt c m.2 n.rows⟩
      | r => r := by
      conv => lhs; unfold St.add
      rw [h1]
      simp only [hc]
      generalize x.add W q depth l a (n.kids.getD c 0) (s.of n c) = r
      rcases r with _ | _ | ⟨_, _ | _, _⟩ <;> rfl
    rw [hadd]
    have hframe : ∀ {x' P'}, Grew x x' (Ps.getD c []) P' → Grew x x' Ps.flatten ((Ps.take c).flatten ++ (P' ++ (Ps.drop (c + 1)).flatten)) := fun {x' P'} g => by
      have := Grew.frame (X := (Ps.take c).flatten) (Y := (Ps.drop (c + 1)).flatten) g (by rw [← eP]; exact hnd'.2) (by rw [← eP]; exact fun p hp => hlt p (List.mem_cons_of_mem _ hp))
      rwa [← eP] at this
    have hplus : ∀ {L'}, Plus l (Ls.getD c []) L' → Plus l Ls.flatten ((Ls.take c).flatten ++ (L' ++ (Ls.drop (c + 1)).flatten)) := fun {L'} g => by
      have := Plus.frame (A := (Ls.take c).flatten) (B := (Ls.drop (c + 1)).flatten) g
      rwa [← eL] at this
    have hpc : page ∉ Ps.getD c [] := fun u => hnd'.1 (mem_flat u)
    rcases ih with ⟨i1, i2⟩ | ⟨i1, i2⟩
    · rw [i2]
      exact .inl ⟨mem_flat i1, rfl⟩
    · refine .inr ⟨hnot i1, ?_⟩
      generalize hr' : x.add W q depth l a (n.kids.getD c 0) (s.of n c) = r at i2
      cases i2 with
      | put t1 p1 g1 n1 =>
        rename_i x' L' P'
        have gf := (hframe g1).cons hnd hlt
        have hk' := Kin.one ⟨k1, k2, k3, k4⟩ hck hnd'.2 g1 t1
        refine .put (L' := (Ls.take c).flatten ++ (L' ++ (Ls.drop (c + 1)).flatten)) (P' := page :: ((Ps.take c).flatten ++ (P' ++ (Ps.drop (c + 1)).flatten))) ?_ (hplus p1) gf (by omega)
        exact ⟨n, _, _, node_congr g1.le (g1.keep page hpg.2 hpc) h1, h2, hk', by simp, by simp⟩
      | cut t1 t2 p1 g1 u1 u2 u3 u4 u5 n1 =>
        rename_i x' g up L1 L2 P1 P2
        have gf := (hframe g1).cons hnd hlt
        have hk' := Kin.two ⟨k1, k2, k3, k4⟩ hck hnd'.2 g1 t1 t2
        have hi2 := h2.inner (Nat.succ_pos _)
        obtain ⟨q1, q2⟩ := holds_iff.1 h2.holds
        have hup : s.Has up := of_has h2.holds hcl u1
        have near : (Nd.mk (insAt (c + 1) g n.kids) (insAt c up n.rows)).Near W (a + 1) s := by
          refine ⟨fun u => by omega, fun _ => by simp only [insAt_length]; omega, by simp only [insAt_length]; omega, holds_iff.2 ⟨insAt_asc q1 hcl (fun i hi => ?_) (fun i h6 h7 => ?_), fun y hy => ?_⟩, fun y hy => ?_, fun k hk => ?_, .inr ⟨by simp only [insAt_length]; omega, ?_⟩⟩
          · have e : (s.of n c).low = some (n.rows.getD (c - 1) []) := if_pos (by omega)
            have h8 := u2 _ e
            rcases Nat.lt_or_ge i (c - 1) with v | v
            · exact ltR_trans (rises_lt hr v (by omega)) h8
            · rwa [show i = c - 1 by omega]
          · have e : (s.of n c).high = some (n.rows.getD c []) := if_pos (by omega)
            have h8 := u1.2 _ e
            rcases Nat.lt_or_ge c i with v | v
            · exact ltR_trans h8 (rises_lt hr v h7)
            · rwa [show i = c by omega]
          · rcases insAt_mem.1 hy with v | v
            · exact q2 y v
            · rw [v]; exact hup
          · rcases insAt_mem.1 hy with v | v
            · exact h2.cols y v
            · rw [v]; exact ⟨u3, u4⟩
          · rcases insAt_mem.1 hk with v | v
            · exact h2.kids k v
            · rw [v]; have := t2.page.2; omega
          · have hf := h2.fit
            have hke : n.kids ≠ [] := by intro v; rw [v] at k1; simp at k1
            rw [Nd.bytes_length hW fun l hl => (h2.cols l hl).1, if_neg hke] at hf
            simp only [insAt_length, Nat.add_sub_cancel]
            omega
        have hpn := gf.nodup
        have hlt' : ∀ p ∈ page :: ((Ps.take c).flatten ++ ((P1 ++ P2) ++ (Ps.drop (c + 1)).flatten)), p < x'.N := fun p hp => by
          rcases gf.mem p hp with v | v
          · have := hlt p v; have := g1.le; omega
          · exact v.2
        have hb : Body x' W depth (a + 1) s ⟨insAt (c + 1) g n.kids, insAt c up n.rows⟩ ((Ls.take c).flatten ++ ((L1 ++ L2) ++ (Ls.drop (c + 1)).flatten)) ((Ps.take c).flatten ++ ((P1 ++ P2) ++ (Ps.drop (c + 1)).flatten)) := ⟨_, _, hk', by simp, by simp⟩
        have hfin := fin_ok (q := q) (l := l) (L0 := Ls.flatten) hW near hb hpn hlt' (by omega) (hplus p1)
        show AddOk x W depth (a + 1) page s l Ls.flatten (page :: Ps.flatten) (x.N + (a + 1)) (x'.fin W q (a + 1) page ⟨insAt (c + 1) g n.kids, insAt c up n.rows⟩)
        generalize x'.fin W q (a + 1) page ⟨insAt (c + 1) g n.kids, insAt c up n.rows⟩ = r2 at hfin
        cases hfin with
        | put f1 f2 f3 f4 => exact .put f1 f2 (gf.trans f3) (by omega)
        | cut f1 f2 f3 f4 f5 f6 f7 f8 f9 f10 => exact .cut f1 f2 f3 (gf.trans f4) f5 f6 f7 f8 f9 (by omega)
end
end Go.Proofs.YtmdiinakfpgdjaaGreatDoor

/-
  Trees: a row is put in: the walk.
-/
namespace Go.Proofs.YtmdiinakfpgdjaaGreatDoor
open Go.MapKept
theorem St.fin_N {x : St} {w : Int} {q above page : Nat} {n : Nd} {f : Bool} {o : Option (Nat × List Int)} {x' : St} (h : x.fin w q above page n = .ok f o x') : x.N ≤ x'.N := by
  unfold St.fin at h
  split at h
  · split at h
    · cases h; exact Nat.le_succ _
    · cases h
  · cases h; exact Nat.le_refl _
theorem St.add_N {x : St} {w : Int} {q depth : Nat} {l : List Int} : ∀ {above page : Nat} {s : Span} {f : Bool} {o : Option (Nat × List Int)} {x' : St}, x.add w q depth l above page s = .ok f o x' → x.N ≤ x'.N
  | 0, page, s, f, o, x', h => by
    unfold St.add at h
    split at h
    · cases h
    · split at h
      · cases h; exact Nat.le_refl _
      · exact St.fin_N h
  | above + 1, page, s, f, o, x', h => by
    unfold St.add at h
    split at h
    · cases h
    · split at h
      · rename_i hr
        exact Nat.le_trans (St.add_N hr) (St.fin_N h)
      · exact St.add_N h
theorem Step.drop {F F1 F2 : Nat → Prop} {H A B : Heap} {nb : Nat} (S : Step F F1 H A) (hn : H.size ≤ nb) (T : Step (fun b => F1 b ∨ b = nb) (fun b => F2 b ∨ b = nb) A B) : Step F F2 H B := by
  have hz := S.mod.size
  refine ⟨⟨by have := T.mod.size; omega, fun b hb hF => ?_⟩, fun b hb => ?_⟩
  · rw [T.mod.same b (by omega) fun u => by
      rcases u with u | u
      · rcases S.own b u with v | v
        · exact hF v
        · omega
      · omega]
    exact S.mod.same b hb hF
  · rcases T.own b (.inl hb) with u | u
    · rcases u with u | u
      · exact S.own b u
      · exact .inr (by omega)
    · exact .inr (by omega)
def lbB (l : Sl) (b : Nat) : Prop := ∃ ad, l.a = some ad ∧ ad.block = b
section
variable {k p dp : Nat} {t : Tr} {q : Nat} {I : Pl → St → Nat → Prop} {B C : Pl → Int → Prop} {ll : List Int} {l : Sl}
def AddK (K : (Bool × Option Addr × Sl × Int) → Heap → Prop) (W base : Nat) (l : Sl) (F : Nat → Prop) (H : Heap) (fresh : Bool) : Option (Nat × List Int) → Prop
  | none => K (fresh, none, nilT, 0) H
  | some (pg, ul) => ul.length = W → ∀ mb v1 v2 up, RowT H mb ty_tree_node #[.int .i64 (pg : Int), v1, v2] → ¬ F mb → base ≤ mb → RowOk (fun b => F b ∨ (b < base ∧ ¬ lbB l b)) H up ul → K (fresh, some ⟨mb, 0, none⟩, up, 0) H
set_option maxHeartbeats 4000000 in
theorem tfin_ok {W above page base : Nat} {F : Nat → Prop} {H : Heap} {s : Pl} {x : St} {m nb : Nat} {sk sr : Sl} {n : Nd} {K : (Bool × Option Addr × Sl × Int) → Heap → Prop} (S : Store t.name q I B C) (hw : t.width = (W : Int)) (hW : W ≤ 16)
    (hI : I s x m) (hm : m + 2 ≤ 30000000000) (hg : Gl H) (ht : TreeB H k p t) (hp : PoolAt F H p dp s) (hk : ¬ F k) (hkb : k < base) (hnb : base ≤ nb) (hbH : base ≤ H.size)
    (hn : NodeR (fun b => F b ∨ (b < base ∧ ¬ lbB l b)) H nb (page : Int) sk sr n) (hck : sk.n ≤ sk.c) (hcr : sr.n ≤ sr.c) (hpx : page < x.N) (hcols : ∀ r ∈ n.rows, r.length = W) (h1 : 1 ≤ n.rows.length)
    (hshape : (above = 0 ∧ n.kids = [] ∧ (n.rows.length - 1) * (sizeL (W : Int)).toNat ≤ 504) ∨ (0 < above ∧ n.kids.length = n.rows.length + 1 ∧ 2 + 4 * (n.kids.length - 1) + (n.rows.length - 1) * (sizeL (W : Int)).toNat ≤ 504))
    (hK1 : ∀ fresh o x', x.fin t.width q above page n = .ok fresh o x' → ∀ F' H' s', PoolAt F' H' p dp s' → Step (fun b => F b ∨ b = nb) (fun b => F' b ∨ b = nb) H H' → I s' x' (m + 2) → AddK K W base l F' H' fresh o)
    (hKB : x.fin t.width q above page n = .quota → ∀ F' H' s' e f o up, PoolAt F' H' p dp s' → Step (fun b => F b ∨ b = nb) (fun b => F' b ∨ b = nb) H H' → B s' e → K (f, o, up, e) H')
    (hKC : ∀ F' H' s' e f o up, PoolAt F' H' p dp s' → Step (fun b => F b ∨ b = nb) (fun b => F' b ∨ b = nb) H H' → C s' e → K (f, o, up, e) H') :
    cut (Option Addr × Sl) (fun J_1 => ∃ G_2 : Heap → Prop, G_2 H ∧ br ((above : Int) == (0 : Int)) (optK (at0 nb) fun a_10 => ldC cSl G_2 (a_10.add 2) fun (x_9 : Sl) => optK (at0 k) fun a_11 => ld (cInt .i64) H (a_11.add 2) fun (x_10 : Int) => row_Room.sp x_10 H fun (r_7 : Int) H18 => G_2 H18 ∧ br (decide ((x_9.n : Int) > r_7)) (tree_Tree_split.sp (at0 k) (at0 nb) H18 fun (r_8 : (Option Addr × Sl × Int)) H19 => br (r_8.2.2 != (0 : Int)) (K (false, none, (Sl.mk none 0 0), r_8.2.2) H19) (J_1 (r_8.1, r_8.2.1) H19)) (optK (at0 nb) fun a_12 => ldC cSl G_2 (a_12.add 1) fun (x_11 : Sl) => tree_Tree_fan.sp (at0 k) H18 fun (r_9 : Int) H20 => G_2 H20 ∧ br (decide ((x_11.n : Int) > r_9)) (tree_Tree_split.sp (at0 k) (at0 nb) H20 fun (r_10 : (Option Addr × Sl × Int)) H21 => br (r_10.2.2 != (0 : Int)) (K (false, none, (Sl.mk none 0 0), r_10.2.2) H21) (J_1 (r_10.1, r_10.2.1) H21)) (J_1 (none, (Sl.mk none 0 0)) H20))) (optK (at0 nb) fun a_13 => ldC cSl G_2 (a_13.add 1) fun (x_12 : Sl) => tree_Tree_fan.sp (at0 k) H fun (r_11 : Int) H22 => G_2 H22 ∧ br (decide ((x_12.n : Int) > r_11)) (tree_Tree_split.sp (at0 k) (at0 nb) H22 fun (r_12 : (Option Addr × Sl × Int)) H23 => br (r_12.2.2 != (0 : Int)) (K (false, none, (Sl.mk none 0 0), r_12.2.2) H23) (J_1 (r_12.1, r_12.2.1) H23)) (J_1 (none, (Sl.mk none 0 0)) H22))) fun (z_1 : (Option Addr × Sl)) H17 => tree_Tree_write.sp (at0 k) (at0 nb) H17 fun (r_13 : Int) H24 => K (true, z_1.1, z_1.2, r_13) H24 := by
  have hrln := hn.rows.len
  have hkln : sk.n = n.kids.length := by have := hn.kids.len; simpa using this
  have hkn : k ≠ nb := by omega
  have hsz := sizeL_cases (W : Int)
  obtain ⟨f1, f2, f3, f4⟩ := fan_room hW
  obtain ⟨s1, s2⟩ := sizeL_nat hW
  have hmul : n.rows.length - 1 ≤ (n.rows.length - 1) * (sizeL (W : Int)).toNat := Nat.le_mul_of_pos_right _ (by omega)
  have hrows : n.rows.length ≤ 505 := by rcases hshape with ⟨_, _, u⟩ | ⟨_, _, u⟩ <;> omega
  have hkids : n.kids.length ≤ 504 := by
    rcases hshape with ⟨_, u, _⟩ | ⟨_, _, u⟩
    · rw [u]; simp
    · omega
  have hin : n.kids = [] ∨ n.kids.length = n.rows.length + 1 := by rcases hshape with ⟨_, u, _⟩ | ⟨_, u, _⟩; exact .inl u; exact .inr u
  have hab : (0 < above → n.kids ≠ []) ∧ (above = 0 → n.kids = []) := by
    rcases hshape with ⟨u, v, _⟩ | ⟨u, v, _⟩
    · exact ⟨fun w => by omega, fun _ => v⟩
    · exact ⟨fun _ w => by rw [w] at v; simp at v, fun w => by omega⟩
  obtain ⟨hf1, hf2⟩ := half_fits hW hcols h1 (by rcases hshape with ⟨_, u⟩ | ⟨_, u⟩; exact .inl u; exact .inr u)
  have hcol16 : ∀ r ∈ n.rows, r.length ≤ 16 := fun r hr => by rw [hcols r hr]; exact hW
  unfold St.fin at hK1 hKB
  rw [hw] at hK1 hKB
  -- the new node, cut off
  have hsplit : ∀ (J : Option Addr × Sl → Heap → Prop) (A : Heap), Ext H A → n.full W above = true →
      (x.N < q → ∀ F' H' s' mb v1 v2 up skl srl, PoolAt F' H' p dp s' → Step (fun b => F b ∨ b = nb) (fun b => F' b ∨ b = nb) H H' → I s' (x.more n.right) (m + 1) → NodeR (fun b => F' b ∨ (b < base ∧ ¬ lbB l b)) H' nb (page : Int) skl srl n.left →
        RowT H' mb ty_tree_node #[.int .i64 (x.N : Int), v1, v2] → ¬ F' mb → mb ≠ nb → base ≤ mb → RowOk (fun b => (F' b ∨ (b < base ∧ ¬ lbB l b)) ∨ b = nb) H' up n.up → J (some ⟨mb, 0, none⟩, up) H') →
      tree_Tree_split.sp (at0 k) (at0 nb) A fun (r_8 : (Option Addr × Sl × Int)) H19 => br (r_8.2.2 != (0 : Int)) (K (false, none, (Sl.mk none 0 0), r_8.2.2) H19) (J (r_8.1, r_8.2.1) H19) := by
    intro J A eA hf hJ
    have h2 : 2 ≤ n.rows.length := by
      unfold Nd.full at hf
      simp only [Bool.or_eq_true, Bool.and_eq_true, decide_eq_true_eq] at hf
      rcases hf with ⟨_, u⟩ | u
      · omega
      · rcases hin with v | v
        · rw [v] at u; simp at u; omega
        · omega
    have hq := hf2 above hf h2
    have hrr : n.right.rows.length ≤ 504 := by
      unfold Nd.right
      split
      · show (n.rows.drop _).length ≤ _; rw [List.length_drop]; omega
      · show (n.rows.drop _).length ≤ _; rw [List.length_drop]; omega
    have hzA := eA.size
    have SA : Step (fun b => F b ∨ b = nb) (fun b => F b ∨ b = nb) H A := .ofExt eA
    refine tsplit_ok (X := fun b => b < base ∧ ¬ lbB l b) S hI (by omega) (hg.mod eA id) (ht.ext eA) (hp.ext eA) hk hkn (hn.step (.ofExt eA)) hck hcr h1 hin hq.2 hkids (by omega) hrr hcol16 (fun hN F' H' s' mb v1 v2 up skl srl p1 S1 I1 n1 r1 c1 c2 c3 u1 => ?_) (fun hN F' H' s' e o up p1 S1 hB => ?_) (fun F' H' s' e o up p1 S1 hC => ?_)
    · refine br_f rfl ?_
      exact hJ hN F' H' s' mb v1 v2 up skl srl p1 (SA.trans S1) I1 n1 r1 c1 c2 (by omega) u1
    · refine br_t (by have := (S.errB hB).1; simpa using this) ?_
      refine hKB ?_ F' H' s' e _ _ _ p1 (SA.trans S1) hB
      rw [if_pos hf, if_neg hN]
    · refine br_t (by have := (S.errC hC).1; simpa using this) ?_
      exact hKC F' H' s' e _ _ _ p1 (SA.trans S1) hC
  obtain ⟨JJ, hJJ⟩ : ∃ JJ : Option Addr × Sl → Heap → Prop, ∀ z A, JJ z A ↔ ((n.full W above = true ∧ x.N < q ∧ ∃ F' s' mb v1 v2 up skl srl, z = (some (⟨mb, 0, none⟩ : Addr), up) ∧ PoolAt F' A p dp s' ∧ Step (fun b => F b ∨ b = nb) (fun b => F' b ∨ b = nb) H A ∧ I s' (x.more n.right) (m + 1) ∧ NodeR (fun b => F' b ∨ (b < base ∧ ¬ lbB l b)) A nb (page : Int) skl srl n.left ∧
        RowT A mb ty_tree_node #[.int .i64 (x.N : Int), v1, v2] ∧ ¬ F' mb ∧ mb ≠ nb ∧ base ≤ mb ∧ RowOk (fun b => (F' b ∨ (b < base ∧ ¬ lbB l b)) ∨ b = nb) A up n.up) ∨ (n.full W above = false ∧ z = (none, nilT) ∧ Ext H A)) := ⟨_, fun _ _ => Iff.rfl⟩
  refine ⟨JJ, ?_, ?_⟩
  · refine ⟨fun D => Ext H D, .refl _ _, ?_⟩
    have hfanT : ∀ (A : Heap), Ext H A → (decide (above = 0) && decide ((n.rows.length : Int) > roomL W)) = false →
        optK (at0 nb) fun a_12 => ldC cSl (fun D => Ext H D) (a_12.add 1) fun (x_11 : Sl) => tree_Tree_fan.sp (at0 k) A fun (r_9 : Int) H20 => Ext H H20 ∧ br (decide ((x_11.n : Int) > r_9)) (tree_Tree_split.sp (at0 k) (at0 nb) H20 fun (r_10 : (Option Addr × Sl × Int)) H21 => br (r_10.2.2 != (0 : Int)) (K (false, none, (Sl.mk none 0 0), r_10.2.2) H21) (JJ (r_10.1, r_10.2.1) H21)) (JJ (none, (Sl.mk none 0 0)) H20) := by
      intro A eA hr
      unfold at0
      simp only [optK_eq]
      refine RowT.ldC (c := cSl) (i := 1) (x := sk) (cs := fun _ => #[.int .i64 (page : Int), sk.v, sr.v]) (fun D hD => hn.row.ext hD) (fun _ _ => rfl) ?_
      refine tfan_ok (ht.ext eA) hw hW fun A2 e2 => ?_
      have eA2 := eA.trans e2
      refine ⟨eA2, ?_⟩
      refine br_mk (fun hc => ?_) (fun hc => ?_)
      · have hf : n.full W above = true := by
          unfold Nd.full
          rw [hr, Bool.false_or, ← hkln]; exact hc
        exact hsplit JJ A2 eA2 hf fun hN F' H' s' mb v1 v2 up skl srl p1 S1 I1 n1 r1 c1 c2 c3 u1 => (hJJ _ _).2 (.inl ⟨hf, hN, F', s', mb, v1, v2, up, skl, srl, rfl, p1, S1, I1, n1, r1, c1, c2, c3, u1⟩)
      · have hf : n.full W above = false := by
          unfold Nd.full
          rw [hr, Bool.false_or, ← hkln]; exact hc
        exact (hJJ _ _).2 (.inr ⟨hf, rfl, eA2⟩)
    refine br_mk (fun hc => ?_) (fun hc => ?_)
    · have ha0 : above = 0 := by have : (above : Int) = 0 := by simpa using hc
                                 omega
      unfold at0
      simp only [optK_eq]
      refine RowT.ldC (c := cSl) (i := 2) (x := sr) (cs := fun _ => #[.int .i64 (page : Int), sk.v, sr.v]) (fun D hD => hn.row.ext hD) (fun _ _ => rfl) ?_
      refine RowT.ld (c := cInt .i64) (i := 2) (x := t.width) ht rfl ?_
      rw [hw]
      refine rowRoom_ok ?_
      refine ⟨.refl _ _, ?_⟩
      refine br_mk (fun hc2 => ?_) (fun hc2 => ?_)
      · have hf : n.full W above = true := by
          unfold Nd.full
          rw [ha0, ← hrln, hc2]; rfl
        exact hsplit JJ H (.refl _ _) hf fun hN F' H' s' mb v1 v2 up skl srl p1 S1 I1 n1 r1 c1 c2 c3 u1 => (hJJ _ _).2 (.inl ⟨hf, hN, F', s', mb, v1, v2, up, skl, srl, rfl, p1, S1, I1, n1, r1, c1, c2, c3, u1⟩)
      · exact hfanT H (.refl _ _) (by rw [← hrln, hc2]; simp)
    · have ha0 : above ≠ 0 := fun u => by subst u; simp at hc
      exact hfanT H (.refl _ _) (by simp [ha0])
  · intro z A hz
    rcases (hJJ z A).1 hz with (⟨hf, hN, F', s', mb, v1, v2, up, skl, srl, rfl, p1, S1, I1, n1, r1, c1, c2, c3, u1⟩ | ⟨hf, rfl, eA⟩)
    · have h2 : 2 ≤ n.rows.length := by
        unfold Nd.full at hf
        simp only [Bool.or_eq_true, Bool.and_eq_true, decide_eq_true_eq] at hf
        rcases hf with ⟨_, u⟩ | u
        · omega
        · rcases hin with v | v
          · rw [v] at u; simp at u; omega
          · omega
      have hq := hf2 above hf h2
      have hkF : ¬ F' k := fun u => by
        rcases S1.own k (.inl u) with v | v
        · rcases v with v | v
          · exact hk v
          · exact hkn v
        · omega
      have htA : TreeB A k p t := ht.mod S1.mod fun u => u.elim hk hkn
      have hgA : Gl A := hg.mod S1.mod fun u => u.elim hp.glob fun v => by
        have q2 := hg 0 (by decide)
        rw [v] at q2
        have := hCell_of (o := 0) hn.row (v := .int .i64 (page : Int)) rfl
        rw [this] at q2; cases q2
      have hlk : n.left.kids.length ≤ 504 := by show (n.kids.take _).length ≤ _; rw [List.length_take]; omega
      have hlr : n.left.rows.length ≤ 504 := by show (n.rows.take _).length ≤ _; rw [List.length_take]; omega
      refine twrite_old S I1 (by omega) hgA htA p1 hkF hkn (n1.mono fun b _ u => .inl u) (by show page < x.N + 1; omega) hq.1 hlk hlr (fun r hr => hcol16 r (List.mem_of_mem_take hr)) (fun F3 H3 s3 p3 S3 I3 n3 => ?_) (fun F3 H3 s3 e p3 S3 c4 hC => ?_)
      · have := hK1 true (some (x.N, n.up)) ((x.more n.right).put page n.left) (by rw [if_pos hf, if_pos hN]) F3 H3 s3 p3 (S1.trans S3) I3
        have hul : n.up.length = W := by
          unfold Nd.up
          rw [getDo (by omega)]
          exact hcols _ (List.getElem_mem _)
        have r3 : RowT H3 mb ty_tree_node #[.int .i64 (x.N : Int), v1, v2] := r1.mod S3.mod fun u => u.elim c1 c2
        have c5 : ¬ F3 mb := fun u => by
          rcases S3.own mb (.inl u) with v | v
          · exact v.elim c1 c2
          · have := obj_lt r1; omega
        have S3X : Step (fun b => (F' b ∨ (b < base ∧ ¬ lbB l b)) ∨ b = nb) (fun b => (F3 b ∨ (b < base ∧ ¬ lbB l b)) ∨ b = nb) A H3 := S3.into (fun b _ u => u.elim (fun v => .inl (.inl v)) .inr) fun b u => by
          rcases u with (u | u) | u
          · exact .inl (.inl u)
          · exact .inr (.inl (.inl (.inr u)))
          · exact .inl (.inr u)
        exact this hul mb v1 v2 up r3 c5 c3 ((u1.step S3X).mono fun b _ u => .inl u)
      · exact hKC F3 H3 s3 e _ _ _ p3 (S1.trans S3) hC
    · have SA : Step (fun b => F b ∨ b = nb) (fun b => F b ∨ b = nb) H A := .ofExt eA
      have hfit := hf1 above hab.1 hab.2 hf
      have hr5 : n.rows.length ≤ 504 := by
        have hb := Nd.bytes_length hW hcols
        have hmul2 : n.rows.length ≤ n.rows.length * (sizeL (W : Int)).toNat := Nat.le_mul_of_pos_right _ (by omega)
        omega
      refine twrite_old S hI (by omega) (hg.mod eA id) (ht.ext eA) (hp.ext eA) hk hkn ((hn.step (.ofExt eA)).mono fun b _ u => .inl u) hpx hfit hkids hr5 hcol16 (fun F3 H3 s3 p3 S3 I3 n3 => ?_) (fun F3 H3 s3 e p3 S3 c4 hC => ?_)
      · exact hK1 true none (x.put page n) (by rw [if_neg (by rw [hf]; simp)]) F3 H3 s3 p3 (SA.trans S3) (S.up I3 (by omega))
      · exact hKC F3 H3 s3 e _ _ _ p3 (SA.trans S3) hC
end
end Go.Proofs.YtmdiinakfpgdjaaGreatDoor

/-
  Trees: a row is put in below a node: the walk.
-/
namespace Go.Proofs.YtmdiinakfpgdjaaGreatDoor
open Go.MapKept
section
variable {k p dp : Nat} {t : Tr} {q : Nat} {I : Pl → St → Nat → Prop} {B C : Pl → Int → Prop} {x : St} {ll : List Int} {l : Sl}
theorem node_shape {W depth above : Nat} {w : Int} {n : Nd} {s : Span} (hw : w = (W : Int)) (ok : n.Ok w depth above s) : n.kids = [] ∧ above = 0 ∧ n.rows.length * (sizeL (W : Int)).toNat ≤ 504 ∨ 0 < above ∧ n.kids.length = n.rows.length + 1 ∧ 2 + 4 * n.kids.length + n.rows.length * (sizeL (W : Int)).toNat ≤ 504 := by
  have hf := ok.fit
  rw [hw] at hf
  rcases Nat.eq_zero_or_pos above with h | h
  · have hk := ok.leaf h
    rw [if_pos hk] at hf
    exact .inl ⟨hk, h, by omega⟩
  · obtain ⟨i1, i2, i3⟩ := ok.inner h
    have hk : n.kids ≠ [] := fun u => by rw [u] at i1; simp at i1
    rw [if_neg hk] at hf
    exact .inr ⟨h, i1, by omega⟩
set_option maxHeartbeats 1000000 in
theorem NodeO.insRow {F : Nat → Prop} {H : Heap} {base z nb i : Nat} {page : Int} {sk sr l0 l1 : Sl} {l1l : List Int} {rs : List Sl} {n : Nd} {Q : Heap → Prop} (o : NodeO F H base nb page sk sr rs n) (hz : z ≤ base) (hF : ∀ b, F b → b < H.size) (hzH : z ≤ H.size)
    (lOk : RowOk (fun c => F c ∨ (c < z ∧ ¬ lbB l0 c)) H l1 l1l) (hln : ∀ ad, l1.a = some ad → ¬ ownB sr ad.block ∧ ad.block ≠ nb ∧ ¬ ownB sk ad.block) (hi : i ≤ n.rows.length) (hbig : n.rows.length ≤ 1000000)
    (hQ : ∀ A sr', RowT A nb ty_tree_node #[.int .i64 page, sk.v, sr'.v] → RowsN (fun c => ((F c ∨ (c < z ∧ ¬ lbB l0 c)) ∨ c = nb) ∨ ownB sk c) A sr' (insAt i l1l n.rows) → sr'.n ≤ sr'.c → Owns A 0 ty_int 1 sk ((n.kids.map Int.ofNat).map (Value.int .i64)) → Mod (fun c => ownB sr c ∨ c = nb) H A → Q A) :
    newC H #[l1.v] ty_sl_uint64 fun p_1 H5 => slices_Insert_sl_sl_uint64_sl_uint64.sp sr (i : Int) (Sl.mk (some p_1) 1 1) H5 fun (r_2 : Sl) H6 => st H6 (Addr.add ⟨nb, 0, none⟩ 2) r_2.v fun H7 => Q H7 := by
  have hnb := o.nb
  have hX : ∀ c, (c < z ∧ ¬ lbB l0 c) → c < base ∨ c = nb := fun c u => .inl (by omega)
  have qr := o.q (X := fun c => c < z ∧ ¬ lbB l0 c) hX
  have hlq : RowOk (fun c => (F c ∨ (c < z ∧ ¬ lbB l0 c)) ∨ ownB sr c) H l1 l1l := by
    refine ⟨fun ad ha => ⟨(lOk.off ad ha).1, fun u => ?_⟩, lOk.ints⟩
    rcases u with u | u
    · exact (lOk.off ad ha).2 u
    · exact (hln ad ha).1 u
  refine qr.ins hlq (fun c u => ?_) hi hbig fun sr' A qa ma ba => ?_
  · rcases u with u | u
    · exact hF c u
    · omega
  have hnA : ¬ ownB sr nb := o.srN
  have rA : RowT A nb ty_tree_node #[.int .i64 page, sk.v, sr.v] := o.row.mod ma hnA
  refine RowT.st rA (i := 2) (by simp) rfl fun A2 rA2 mA2 zA2 => ?_
  have hzA := ma.size
  have qn := qa.toN
  have hcap := qa.out.cap
  have hskA : ∀ c, ownB sk c → ¬ ownB sr c := o.kids.apart o.rows.out (by decide)
  have kidsA2 : Owns A2 0 ty_int 1 sk ((n.kids.map Int.ofNat).map (Value.int .i64)) := (o.kids.mod ma hskA).mod mA2 fun c u v => o.skN (v ▸ u)
  have hsr'nb : ∀ c, ownB sr' c → c ≠ nb := fun c u v => by
    obtain ⟨cur, hcu⟩ := qa.out.obj _ u
    rw [v] at hcu
    exact absurd (cells_ty hcu rA) (by decide)
  have hrow : ∀ j (hj : j < (insAt i l1l n.rows).length), ∃ ad r, sr'.a = some ad ∧ hCell A (ad.add j) = some (Sl.v r) ∧ Off (fun c => ((F c ∨ (c < z ∧ ¬ lbB l0 c)) ∨ c = nb) ∨ ownB sk c) A r ∧ Ints .u64 A r ((insAt i l1l n.rows)[j]) := by
    intro j hj
    have hir : j < (insAt i l1 rs).length := by rw [qa.len]; exact hj
    obtain ⟨ad, ha, hc'⟩ := qa.out.reads.at (i := j) (by simpa using hir)
    have hr := qa.row j _ _ (List.getElem?_eq_getElem hir) (List.getElem?_eq_getElem hj)
    refine ⟨ad, _, ha, by simpa using hc', fun ad' ha' => ⟨(hr.off ad' ha').1, fun u => ?_⟩, hr.ints⟩
    have hm : (insAt i l1 rs)[j] ∈ rs ∨ (insAt i l1 rs)[j] = l1 := insAt_mem.1 (List.getElem_mem hir)
    rcases u with (u | u) | u
    · exact (hr.off ad' ha').2 (.inl u)
    · rcases hm with v | v
      · exact o.rsN _ v ⟨ad', ha', u⟩
      · rw [v] at ha'
        exact (hln ad' ha').2.1 u
    · rcases hm with v | v
      · obtain ⟨lv, hlv⟩ := o.rows.rowAt v
        exact hlv.apart o.kids (by decide) _ ⟨ad', ha', rfl⟩ u
      · rw [v] at ha'
        exact (hln ad' ha').2.2 u
  have qn2 : RowsN (fun c => ((F c ∨ (c < z ∧ ¬ lbB l0 c)) ∨ c = nb) ∨ ownB sk c) A2 sr' (insAt i l1l n.rows) := by
    refine ⟨qn.len, fun ad ha => ⟨by have := (qn.off ad ha).1; omega, fun u => ?_⟩, fun j hj => ?_⟩
    · rcases u with (u | u) | u
      · exact (qn.off ad ha).2 u
      · exact hsr'nb _ ⟨ad, ha, rfl⟩ u
      · exact qa.out.apart (o.kids.mod ma hskA) (by decide) _ ⟨ad, ha, rfl⟩ u
    · obtain ⟨ad, r, w1, w2, w3, w4⟩ := hrow j hj
      refine ⟨ad, r, w1, mA2.cell w2 (by rw [add_block]; exact hsr'nb _ ⟨ad, w1, rfl⟩), fun ad' ha' => ⟨by have := (w3 ad' ha').1; omega, (w3 ad' ha').2⟩, w4.mod mA2 fun ad' ha' u => (w3 ad' ha').2 (.inl (.inr u))⟩
  exact hQ A2 sr' rA2 qn2 hcap kidsA2 ((ma.mono fun _ _ u => .inl u).trans (mA2.mono fun _ _ u => .inr u))
set_option maxHeartbeats 4000000 in
theorem tadd_ok {W depth : Nat} (S : Store t.name q I B C) (hw : t.width = (W : Int)) (hW : W ≤ 16) (hd : t.depth = (depth : Int)) (hlw : ll.length = W) : ∀ (above page : Nat) (sp : Span) (a b : Sl) (F : Nat → Prop) (H : Heap) (s : Pl) (m : Nat) (K : (Bool × Option Addr × Sl × Int) → Heap → Prop),
    I s x m → m + 3 * (above + 1) ≤ 30000000000 → above ≤ 1000000 → Gl H → TreeB H k p t → PoolAt F H p dp s → ¬ F k → page ≤ 1000000000000 → SpanAt F H a b sp → RowOk F H l ll →
    (∀ fresh o x', x.add t.width q depth ll above page sp = .ok fresh o x' → ∀ F' H' s', PoolAt F' H' p dp s' → Step F F' H H' → I s' x' (m + 3 * (above + 1)) → AddK K W H.size l F' H' fresh o) →
    (x.add t.width q depth ll above page sp = .store → ∀ F' H' s', PoolAt F' H' p dp s' → Step F F' H H' → I s' x (m + 3 * (above + 1)) → K (false, none, nilT, 280) H') →
    (x.add t.width q depth ll above page sp = .quota → ∀ F' H' s' e f o up, PoolAt F' H' p dp s' → Step F F' H H' → B s' e → K (f, o, up, e) H') →
    (∀ F' H' s' e f o up, PoolAt F' H' p dp s' → Step F F' H H' → C s' e → K (f, o, up, e) H') → tree_Tree_add.sp (at0 k) (page : Int) (above : Int) a b l H K := by
  intro above
  induction above with
  | zero =>
    intro page sp a b F H s m K hI hm _ hg ht hp hk hpg hs hl hK1 hK2 hKB hKC
    refine tree_Tree_add.of ?_
    unfold tree_Tree_add.vc
    have hT := (S.pre hI).2.2.2.2.2
    refine newC_rowT fun H1 z1 r1 e1 => ?_
    have hkl := obj_lt ht
    have T1 : Step F F H H1 := .ofExt e1
    refine RowT.ldA (c := cAgg [cSl, cSl]) (x := (a, b)) r1 rfl rfl ?_
    unfold St.add at hK1 hK2 hKB
    refine tnode_ok (above := 0) S hI (by omega) (hg.mod e1 id) (ht.ext e1) (hp.ext e1) hk hpg (hs.step T1) hd (fun n hn F2 H2 s2 nb sk sr rs p2 S2 I2 o2 => ?_) (fun hn F2 H2 s2 p2 S2 I2 => ?_) (fun F2 H2 s2 e p2 S2 hC => ?_)
    rotate_left
    · refine br_t rfl ?_
      rw [hn] at hK2
      exact hK2 rfl F2 H2 s2 p2 (T1.trans S2) (S.up I2 (by omega))
    · refine br_t (by have := (S.errC hC).1; simpa using this) ?_
      exact hKC F2 H2 s2 e _ _ _ p2 (T1.trans S2) hC
    refine br_f rfl ?_
    rw [hn] at hK1 hKB
    simp only at hK1 hKB
    have T2 := T1.trans S2
    have hx : page < x.N := by
      unfold St.node at hn
      split at hn
      · assumption
      · cases hn
    have ok := node_ok hT hn
    have hsize := ok.size
    have hk0 := ok.leaf rfl
    have hcols : ∀ r ∈ n.rows, r.length ≤ 16 := fun r hr => by rw [ok.cols r hr, hw]; simpa using hW
    have t2 : TreeB H2 k p t := (ht.ext e1).mod S2.mod hk
    have hg2 : Gl H2 := hg.mod T2.mod hp.glob
    have hkF : ¬ F2 k := fun u => (T2.own _ u).elim hk fun v => by omega
    have hz2 := T2.mod.size
    have hnb := o2.nb
    have l2 : RowOk F2 H2 l ll := hl.step T2
    have nr := o2.read
    refine ⟨fun _ A => sameAt n.rows ll = false ∧ ∃ sk' sr', NodeR (fun b => F2 b ∨ (b < H.size ∧ ¬ lbB l b)) A nb (page : Int) sk' sr' ⟨n.kids, insAt (below ll n.rows) ll n.rows⟩ ∧ sk'.n ≤ sk'.c ∧ sr'.n ≤ sr'.c ∧ Step F F2 H A ∧ PoolAt F2 A p dp s2, ?_, ?_⟩
    · refine br_t rfl ?_
      unfold at0
      simp only [optK_eq]
      refine RowT.ld (c := cSl) (i := 2) (x := sr) nr.row rfl ?_
      refine tbin_ok nr.rows l2.ints (holds_rises ok.holds) hcols (by omega) ?_
      refine br_mk (fun hc => ?_) (fun hc => ?_)
      · have hc : sameAt n.rows ll = true := hc
        have := hK1 false none x (by rw [if_pos hc]) F2 H2 s2 p2 T2 (S.up I2 (by omega))
        exact this
      · have hc : sameAt n.rows ll = false := hc
        refine RowT.ld (c := cSl) (i := 2) (x := sr) nr.row rfl ?_
        have hlX : RowOk (fun c => F2 c ∨ (c < H.size ∧ ¬ lbB l c)) H2 l ll := ⟨fun ad ha => ⟨(l2.off ad ha).1, fun u => u.elim (l2.off ad ha).2 fun v => v.2 ⟨ad, ha, rfl⟩⟩, l2.ints⟩
        refine o2.insRow (z := H.size) (l0 := l) (by omega) (fun c u => p2.lt c u) (by omega) hlX (fun ad ha => ?_) (below_leT _ _) (by omega) fun A sr' rA qA hcap kA mA => ?_
        · have := (hl.off ad ha).1
          exact ⟨fun u => by have := (o2.sr _ u).1; omega, by omega, fun u => by have := (o2.sk _ u).1; omega⟩
        have mAF : ∀ c, ownB sr c ∨ c = nb → H.size ≤ c ∧ ¬ F2 c := fun c u => by
          rcases u with u | u
          · have := o2.sr c u; exact ⟨by omega, this.2⟩
          · subst u; exact ⟨by omega, hnb.2⟩
        have hzA := mA.size
        have pA : PoolAt F2 A p dp s2 := p2.keep fun c hc2 hl2 => mA.same c hl2 fun u => (mAF c u).2 hc2
        have SA : Step F F2 H A := ⟨⟨by omega, fun c hc2 hn2 => (mA.same c (by omega) fun u => by have := (mAF c u).1; omega).trans (T2.mod.same c hc2 hn2)⟩, T2.own⟩
        refine ⟨hc, sk, sr', ⟨rA, fun u => ?_, kA.ints, fun ad ha => ⟨(kA.block _ ⟨ad, ha, rfl⟩).2, fun u => ?_⟩, qA.mono fun _ _ u => .inl u⟩, kA.cap, hcap, SA, pA⟩
        · rcases u with u | u
          · exact hnb.2 u
          · have := u.1; omega
        · rcases u with (u | u) | u
          · exact (o2.sk _ ⟨ad, ha, rfl⟩).2 u
          · have := (o2.sk _ ⟨ad, ha, rfl⟩).1; have := u.1; omega
          · exact o2.skN ⟨ad, ha, u⟩
    · rintro _ A ⟨hsm, sk', sr', nA, hck, hcr, SA, pA⟩
      rw [if_neg (by rw [hsm]; simp)] at hK1 hKB
      have hkA : ¬ F2 k := hkF
      have hsh := node_shape hw ok
      refine tfin_ok (above := 0) (base := H.size) (l := l) S hw hW I2 (by omega) (hg.mod SA.mod hp.glob) (ht.mod SA.mod hk) pA hkA hkl (by omega) SA.mod.size nA hck hcr hx (fun r hr => ?_) ?_ ?_ (fun fresh o x' hf F3 H3 s3 p3 S3 I3 => ?_) (fun hf F3 H3 s3 e f o up p3 S3 hB => ?_) (fun F3 H3 s3 e f o up p3 S3 hC => ?_)
      · rcases insAt_mem.1 hr with u | u
        · rw [ok.cols r u, hw]; simp
        · rw [u]; exact hlw
      · show 1 ≤ (insAt _ _ _).length; rw [insAt_length]; omega
      · refine .inl ⟨rfl, hk0, ?_⟩
        show ((insAt _ _ _).length - 1) * _ ≤ _
        rw [insAt_length, Nat.add_sub_cancel]
        rcases hsh with ⟨_, _, u⟩ | ⟨u, _⟩
        · exact u
        · omega
      · exact hK1 fresh o x' hf F3 H3 s3 p3 (SA.drop (by omega) S3) (S.up I3 (by omega))
      · exact hKB hf F3 H3 s3 e f o up p3 (SA.drop (by omega) S3) hB
      · exact hKC F3 H3 s3 e f o up p3 (SA.drop (by omega) S3) hC
  | succ above ih =>
    intro page sp a b F H s m K hI hm hab hg ht hp hk hpg hs hl hK1 hK2 hKB hKC
    refine tree_Tree_add.of ?_
    unfold tree_Tree_add.vc
    have hT := (S.pre hI).2.2.2.2.2
    refine newC_rowT fun H1 z1 r1 e1 => ?_
    have hkl := obj_lt ht
    have T1 : Step F F H H1 := .ofExt e1
    refine RowT.ldA (c := cAgg [cSl, cSl]) (x := (a, b)) r1 rfl rfl ?_
    unfold St.add at hK1 hK2 hKB
    refine tnode_ok (above := above + 1) S hI (by omega) (hg.mod e1 id) (ht.ext e1) (hp.ext e1) hk hpg (hs.step T1) hd (fun n hn F2 H2 s2 nb sk sr rs p2 S2 I2 o2 => ?_) (fun hn F2 H2 s2 p2 S2 I2 => ?_) (fun F2 H2 s2 e p2 S2 hC => ?_)
    rotate_left
    · refine br_t rfl ?_
      rw [hn] at hK2
      exact hK2 rfl F2 H2 s2 p2 (T1.trans S2) (S.up I2 (by omega))
    · refine br_t (by have := (S.errC hC).1; simpa using this) ?_
      exact hKC F2 H2 s2 e _ _ _ p2 (T1.trans S2) hC
    refine br_f rfl ?_
    rw [hn] at hK1 hK2 hKB
    simp only at hK1 hK2 hKB
    have T2 := T1.trans S2
    have hx : page < x.N := by
      unfold St.node at hn
      split at hn
      · assumption
      · cases hn
    have ok := node_ok hT hn
    have hsize := ok.size
    obtain ⟨i1, i2, i3⟩ := ok.inner (Nat.succ_pos _)
    have hcols : ∀ r ∈ n.rows, r.length ≤ 16 := fun r hr => by rw [ok.cols r hr, hw]; simpa using hW
    have t2 : TreeB H2 k p t := (ht.ext e1).mod S2.mod hk
    have hg2 : Gl H2 := hg.mod T2.mod hp.glob
    have hkF : ¬ F2 k := fun u => (T2.own _ u).elim hk fun v => by omega
    have hz2 := T2.mod.size
    have hnb := o2.nb
    have l2 : RowOk F2 H2 l ll := hl.step T2
    have nr := o2.read
    have hcl := child_le (n := n) (l := ll)
    have hs2 : SpanAt F2 H2 a b sp := hs.step T2
    have rp2 : RowT H2 H.size ty_tree_span #[a.v, b.v] := r1.mod S2.mod fun u => by have := hp.lt _ u; omega
    generalize hc0 : n.child ll = c0 at *
    generalize hsub : x.add t.width q depth ll above (n.kids.getD c0 0) (sp.of n c0) = r at *
    refine ⟨fun _ A => ∃ f pg ul x', r = .ok f (some (pg, ul)) x' ∧ ul.length = W ∧ ∃ F3 s3 sk' sr', NodeR (fun b => F3 b ∨ (b < H.size ∧ ¬ lbB l b)) A nb (page : Int) sk' sr' ⟨insAt (c0 + 1) pg n.kids, insAt c0 ul n.rows⟩ ∧ sk'.n ≤ sk'.c ∧ sr'.n ≤ sr'.c ∧ Step F F3 H A ∧ PoolAt F3 A p dp s3 ∧ I s3 x' (m + 1 + 3 * (above + 1)), ?_, ?_⟩
    · refine br_f (by simp only [beq_eq_false_iff_ne, ne_eq]; omega) ?_
      refine tchild_ok nr l2.ints (holds_rises ok.holds) hcols (by omega) ?_
      rw [hc0]
      unfold at0
      simp only [optK_eq]
      refine ⟨fun D => Ext H2 D, .refl _ _, ?_⟩
      refine RowT.ldC (c := cSl) (i := 1) (x := sk) (cs := fun _ => #[.int .i64 (page : Int), sk.v, sr.v]) (fun D hD => nr.row.ext hD) (fun _ _ => rfl) ?_
      have hkn : sk.n = n.kids.length := by have := nr.kids.len; simpa using this
      obtain ⟨ad, q1, q2⟩ := nr.kids.at (i := c0) (by simp; omega)
      have hkid : (List.map Int.ofNat n.kids)[c0]'(by simp; omega) = ((n.kids.getD c0 0 : Nat) : Int) := by
        simp [List.getD, List.getElem?_eq_getElem (show c0 < n.kids.length by omega)]
      rw [hkid] at q2
      refine optK_mk ad q1 ⟨⟨by omega, by omega⟩, ((n.kids.getD c0 0 : Nat) : Int), fun D hD => ?_, ?_⟩
      · simp only [Int.toNat_natCast, Nat.mul_one]
        exact hD.cell q2 id
      refine RowT.ldA (c := cAgg [cSl, cSl]) (x := (a, b)) rp2 rfl rfl ?_
      refine tof_ok hs2 nr o2.nnAt (by omega) (by omega) fun u v A2 e2 s2' => ?_
      refine ⟨e2, ?_⟩
      have eab : IntKind.i64.wrap (((above + 1 : Nat) : Int) - 1) = (above : Int) := by rw [wrap64 (by omega) (by omega)]; omega
      rw [eab]
      have hzA := e2.size
      have TA2 : Step F F2 H A2 := T2.trans (.ofExt e2)
      have hkidlt : n.kids.getD c0 0 ≤ 1000000000000 := by
        have : n.kids.getD c0 0 < 4294967296 := by
          have hlt2 : c0 < n.kids.length := by omega
          simp only [List.getD, List.getElem?_eq_getElem hlt2, Option.getD_some]
          exact ok.kids _ (List.getElem_mem hlt2)
        omega
      refine ih (n.kids.getD c0 0) (sp.of n c0) u v F2 A2 s2 (m + 1) _ I2 (by omega) (by omega) (hg2.mod e2 id) (t2.ext e2) (p2.ext e2) hkF hkidlt s2' (l2.step (.ofExt e2)) (fun f o x' hr F3 A3 s3 p3 S3 I3 => ?_) (fun hr F3 A3 s3 p3 S3 I3 => ?_) (fun hr F3 A3 s3 e f o up p3 S3 hB => ?_) (fun F3 A3 s3 e f o up p3 S3 hC => ?_)
      rotate_left
      · refine br_t rfl ?_
        rw [hsub] at hr
        rw [hr] at hK2
        exact hK2 rfl F3 A3 s3 p3 (TA2.trans S3) (S.up I3 (by omega))
      · refine br_t (by have := (S.errB hB).1; simpa using this) ?_
        rw [hsub] at hr
        rw [hr] at hKB
        exact hKB rfl F3 A3 s3 e _ _ _ p3 (TA2.trans S3) hB
      · refine br_t (by have := (S.errC hC).1; simpa using this) ?_
        exact hKC F3 A3 s3 e _ _ _ p3 (TA2.trans S3) hC
      rw [hsub] at hr
      have T3 := TA2.trans S3
      cases o with
      | none =>
        unfold AddK
        dsimp only
        refine br_f rfl ?_
        refine br_t rfl ?_
        rw [hr] at hK1
        exact hK1 f none x' rfl F3 A3 s3 p3 T3 (S.up I3 (by omega))
      | some pu =>
        obtain ⟨pg, ul⟩ := pu
        unfold AddK
        intro hul mb v1 v2 up rmb hmbF hmbz upOk
        dsimp only
        refine br_f rfl ?_
        refine br_f rfl ?_
        have S23 : Step F2 F3 H2 A3 := (Step.ofExt e2).trans S3
        have o3 := o2.step S23
        have hz3 := S23.mod.size
        refine RowT.ld (c := cSl) (i := 2) (x := sr) o3.row rfl ?_
        have hupX : RowOk (fun c => F3 c ∨ (c < H.size ∧ ¬ lbB l c)) A3 up ul := upOk.mono fun c _ u => u.imp id fun v => ⟨by omega, v.2⟩
        have hlb : ∀ c, lbB l c → c < H.size := fun c ⟨ad, ha, hb⟩ => by have := (hl.off ad ha).1; omega
        refine o3.insRow (z := H.size) (l0 := l) (by omega) (fun c u => p3.lt c u) (by omega) hupX (fun ad ha => ?_) hcl (by omega) fun A sr' rA qA hcap kA mA => ?_
        · have hof := (upOk.off ad ha).2
          refine ⟨fun u => ?_, fun u => ?_, fun u => ?_⟩
          · have h1 := (o2.sr _ u).1
            have h2 := (o2.rows.out.block _ u).2
            exact hof (.inr ⟨by omega, fun w => by have := hlb _ w; omega⟩)
          · have h2 := obj_lt o2.row
            exact hof (.inr ⟨by omega, fun w => by have := hlb _ w; omega⟩)
          · have h1 := (o2.sk _ u).1
            have h2 := (o2.kids.block _ u).2
            exact hof (.inr ⟨by omega, fun w => by have := hlb _ w; omega⟩)
        have hmbn : mb ≠ nb := fun u => by have := obj_lt o2.row; omega
        have hmbsr : ¬ ownB sr mb := fun u => by have := (o2.rows.out.block _ u).2; omega
        have rmbA := rmb.mod mA fun u => u.elim hmbsr hmbn
        refine ⟨fun D => Ext A D, .refl _ _, ?_⟩
        refine RowT.ldC (c := cSl) (i := 1) (x := sk) (cs := fun _ => #[.int .i64 (page : Int), sk.v, sr'.v]) (fun D hD => rA.ext hD) (fun _ _ => rfl) ?_
        refine RowT.ld (c := cInt .i64) (i := 0) (x := (pg : Int)) rmbA rfl ?_
        rw [succ64 _ (by omega)]
        refine newC_varT fun pp A4 hpp z4 v4 e4 => ?_
        refine ⟨e4, ?_⟩
        have hskA := (kA.block)
        refine insInts_ok (kA.ext e4) (intsOne _ _) v4 (fun u => by have := (kA.block _ u).2; omega) (by simp; omega) (by simp; omega) fun sk' A5 n5 o5 m5 b5 => ?_
        have hsknb : ¬ ownB sk nb := fun u => by
          obtain ⟨cur, hc⟩ := kA.obj _ u
          exact absurd (cells_ty hc rA) (by decide)
        have rA5 : RowT A5 nb ty_tree_node #[.int .i64 (page : Int), sk.v, sr'.v] := (rA.ext e4).mod m5 hsknb
        refine RowT.st rA5 (i := 1) (by simp) rfl fun A6 r6 m6 z6 => ?_
        have hmA := mA.size
        have hm4 := e4.size
        have hm5 := m5.size
        -- what lies where
        have mAF : ∀ c, ownB sr c ∨ c = nb → H.size ≤ c ∧ ¬ F3 c := fun c u => by
          rcases u with u | u
          · have := o3.sr c u; exact ⟨by omega, this.2⟩
          · subst u; exact ⟨by omega, o3.nb.2⟩
        have mSK : ∀ c, ownB sk c → H.size ≤ c ∧ ¬ F3 c := fun c u => by
          have := o3.sk c u; exact ⟨by omega, this.2⟩
        have pA : PoolAt F3 A p dp s3 := p3.keep fun c hc2 hl2 => mA.same c hl2 fun u => (mAF c u).2 hc2
        have pA5 : PoolAt F3 A5 p dp s3 := (pA.ext e4).keep fun c hc2 hl2 => m5.same c hl2 fun u => (mSK c u).2 hc2
        have pA6 : PoolAt F3 A6 p dp s3 := pA5.keep fun c hc2 hl2 => m6.same c hl2 fun u => o3.nb.2 (u ▸ hc2)
        have S6 : Step F F3 H A6 := ⟨⟨by have := T3.mod.size; omega, fun c hc2 hn2 => by
          have hcz := T3.mod.size
          rw [m6.same c (by omega) (by omega), m5.same c (by omega) (fun u => by have := (mSK c u).1; omega), e4.same c (by omega) id, mA.same c (by omega) fun u => by have := (mAF c u).1; omega]
          exact T3.mod.same c hc2 hn2⟩, T3.own⟩
        have hsk'nb : ∀ c, ownB sk' c → c ≠ nb := fun c u v => by
          obtain ⟨cur, hc⟩ := o5.obj _ u
          rw [v] at hc
          exact absurd (cells_ty hc rA5) (by decide)
        have hsk'F : ∀ c, ownB sk' c → H.size ≤ c ∧ ¬ F3 c := fun c u => by
          rcases b5 c u with w | w
          · exact mSK c w
          · exact ⟨by have := T3.mod.size; omega, fun w2 => by have := pA.lt c w2; omega⟩
        have SA6 : Step (fun c => ((F3 c ∨ (c < H.size ∧ ¬ lbB l c)) ∨ c = nb) ∨ ownB sk c) (fun c => ((F3 c ∨ (c < H.size ∧ ¬ lbB l c)) ∨ c = nb) ∨ ownB sk c) A A6 := ⟨(((Ext.mod e4).trans (m5.mono fun _ _ u => .inr u)).trans (m6.mono fun _ _ u => .inl (.inr u))), fun c u => .inl u⟩
        have hkids6 : Owns A6 0 ty_int 1 sk' (((insAt (c0 + 1) pg n.kids).map Int.ofNat).map (Value.int .i64)) := by
          rw [← insAt_map, ← insAt_map]
          exact o5.mod m6 fun c u v => hsk'nb c u v
        refine ⟨f, pg, ul, x', hr, hul, F3, s3, sk', sr', ⟨r6, fun u => ?_, hkids6.ints, fun ad ha => ⟨(hkids6.block _ ⟨ad, ha, rfl⟩).2, fun u => ?_⟩, (qA.step SA6).mono fun _ _ u => .inl u⟩, hkids6.cap, hcap, S6, pA6, I3⟩
        · rcases u with u | u
          · exact o3.nb.2 u
          · have := u.1; omega
        · rcases u with (u | u) | u
          · exact (hsk'F _ ⟨ad, ha, rfl⟩).2 u
          · have := (hsk'F _ ⟨ad, ha, rfl⟩).1; have := u.1; omega
          · exact hsk'nb _ ⟨ad, ha, rfl⟩ u
    · rintro _ A ⟨f, pg, ul, x', hr, hul, F3, s3, sk', sr', nA, hck, hcr, SA, pA, IA⟩
      rw [hr] at hK1 hKB
      simp only at hK1 hKB
      have hkA : ¬ F3 k := fun u => (SA.own _ u).elim hk fun v => by omega
      have hxN : x.N ≤ x'.N := by
        rw [hr] at hsub
        exact St.add_N hsub
      have hsh := node_shape hw ok
      refine tfin_ok (above := above + 1) (base := H.size) (l := l) S hw hW IA (by omega) (hg.mod SA.mod hp.glob) (ht.mod SA.mod hk) pA hkA hkl (by omega) SA.mod.size nA hck hcr (by omega) (fun r hr => ?_) ?_ ?_ (fun fresh o x2 hf F4 H4 s4 p4 S4 I4 => ?_) (fun hf F4 H4 s4 e f o up p4 S4 hB => ?_) (fun F4 H4 s4 e f o up p4 S4 hC => ?_)
      · rcases insAt_mem.1 hr with u | u
        · rw [ok.cols r u, hw]; simp
        · rw [u]; exact hul
      · show 1 ≤ (insAt _ _ _).length; rw [insAt_length]; omega
      · refine .inr ⟨Nat.succ_pos _, ?_, ?_⟩
        · show (insAt _ _ _).length = (insAt _ _ _).length + 1
          rw [insAt_length, insAt_length]; omega
        · show 2 + 4 * ((insAt _ _ _).length - 1) + ((insAt _ _ _).length - 1) * _ ≤ _
          rw [insAt_length, insAt_length, Nat.add_sub_cancel, Nat.add_sub_cancel]
          rcases hsh with ⟨u, _⟩ | ⟨_, _, u⟩
          · rw [u] at i1; simp at i1
          · exact u
      · exact hK1 fresh o x2 hf F4 H4 s4 p4 (SA.drop (by omega) S4) (S.up I4 (by omega))
      · exact hKB hf F4 H4 s4 e f o up p4 (SA.drop (by omega) S4) hB
      · exact hKC F4 H4 s4 e f o up p4 (SA.drop (by omega) S4) hC
end
end Go.Proofs.YtmdiinakfpgdjaaGreatDoor

/-
  Pick: a number brought into a range.
-/
namespace Go.Proofs.YtmdiinakfpgdjaaGreatDoor
theorem PickN_ok {i n : Int} {H : Heap} {K : Int → Heap → Prop} (h2 : n ≤ 9223372036854775807)
    (hK : K (if n < 1 then 0 else i.emod n) H) : fathomkit_Pick.sp i n H K := by
  refine fathomkit_Pick.of ?_
  unfold fathomkit_Pick.vc
  refine br_mk (fun h => ?_) (fun h => ?_)
  · have : n < 1 := by simpa using h
    simpa [this] using hK
  · have hn : 1 ≤ n := by simpa using h
    refine ⟨by omega, ?_⟩
    rw [if_neg (by omega)] at hK
    refine br_mk (fun h => ?_) (fun h => ?_)
    · have hneg : i.tmod n < 0 := by simpa using h
      have e : i.emod n = i.tmod n + n := by
        rw [Int.tmod_eq_emod] at hneg ⊢
        split at hneg
        · have := Int.emod_nonneg i (show n ≠ 0 by omega)
          omega
        · rename_i h3
          rw [if_neg h3]
          have : (n.natAbs : Int) = n := by omega
          have e2 : i % n = i.emod n := rfl
          omega
      have hb1 : -n < i.tmod n := by
        rw [Int.tmod_eq_emod]
        have := Int.emod_nonneg i (show n ≠ 0 by omega)
        split <;> omega
      rw [wrap64 (by omega) (by omega), ← e]
      exact hK
    · have hpos : 0 ≤ i.tmod n := by simpa using h
      have e : i.emod n = i.tmod n := by
        rw [Int.tmod_eq_emod] at hpos ⊢
        split
        · simp; rfl
        · rename_i h3
          rw [if_neg h3] at hpos
          have := Int.emod_lt_of_pos i (show 0 < n by omega)
          have : (n.natAbs : Int) = n := by omega
          omega
      rw [← e]; exact hK
end Go.Proofs.YtmdiinakfpgdjaaGreatDoor

/-
  Trees: Insert: the walk.
-/
namespace Go.Proofs.YtmdiinakfpgdjaaGreatDoor
open Go.MapKept
def Tr.ready (t : Tr) : Int := if t.wrong ≠ 0 then t.wrong else if t.gone then 2 else 0
def Tr.broke (t : Tr) (e : Int) : Tr := { t with wrong := e }
def Tr.up (t : Tr) (f : Bool) : Tr := if f then { t with count := t.count + 1 } else t
inductive InsR where
  | store
  | quota
  | ok (fresh : Bool) (t : Tr) (x : St)
def Tr.grown (t : Tr) (root depth : Nat) : Tr := { t with root := (root : Int), depth := (depth : Int) }
def St.ins (x : St) (q : Nat) (t : Tr) (root depth : Nat) (ll : List Int) : InsR :=
  match x.add t.width q depth ll (depth - 1) root span0 with
  | .store => .store
  | .quota => .quota
  | .ok f none x' => .ok f (t.up f) x'
  | .ok f (some m) x' => if x'.N < q then .ok f ((t.grown x'.N (depth + 1)).up f) (x'.more ⟨[root, m.1], [m.2]⟩) else .quota
section
variable {H : Heap} {k p dp : Nat} {t : Tr} {F : Nat → Prop} {s : Pl} {q : Nat} {I : Pl → St → Nat → Prop} {B C : Pl → Int → Prop} {x : St} {m : Nat} {W root depth : Nat} {ll : List Int} {l : Sl}
theorem tready_ok {K : Int → Heap → Prop} (h : TreeB H k p t) (hK : K t.ready H) : tree_Tree_ready.sp (at0 k) H K := by
  refine tree_Tree_ready.of ?_
  unfold tree_Tree_ready.vc
  unfold Tr.ready at hK
  refine br_f rfl ?_
  simp only [optK_eq, at0]
  refine RowT.ld (c := cInt .i64) (i := 6) (x := t.wrong) h rfl ?_
  refine br_mk (fun hc => ?_) (fun hc => ?_)
  · rw [if_pos (by simpa using hc)] at hK
    exact RowT.ld (c := cInt .i64) (i := 6) (x := t.wrong) h rfl hK
  · rw [if_neg (by simpa using hc)] at hK
    refine RowT.ld (c := cBool) (i := 7) (x := t.gone) h rfl ?_
    cases hg : t.gone with
    | true => rw [hg, if_pos rfl] at hK; exact hK
    | false => rw [hg, if_neg (by simp)] at hK; exact hK
theorem tmet_ok {e : Int} {K : Int → Heap → Prop} (h : TreeB H k p t) (he : e ≠ 0) (hK : ∀ A, TreeB A k p (t.broke e) → Mod (fun b => b = k) H A → A.size = H.size → K e A) : tree_Tree_met.sp (at0 k) e H K := by
  refine tree_Tree_met.of ?_
  unfold tree_Tree_met.vc
  refine br_t (by simpa using he) ?_
  simp only [optK_eq, at0]
  exact RowT.st h (i := 6) (by simp [treV]) rfl fun A r m z => hK A r m z
theorem tmet_zero {K : Int → Heap → Prop} (hK : K 0 H) : tree_Tree_met.sp (at0 k) 0 H K := by
  refine tree_Tree_met.of ?_
  unfold tree_Tree_met.vc
  exact br_f rfl hK
theorem tclone_ok {H : Heap} {s : Sl} {l : List Int} {K : Sl → Heap → Prop} (h : Ints .u64 H s l) (hl : l.length ≤ 17592186044416)
    (hK : ∀ s' H', Owns H' 0 ty_uint64 1 s' (l.map (Value.int .u64)) → Ext H H' → (∀ b, ownB s' b → H.size ≤ b) → K s' H') : slices_Clone_sl_uint64_uint64.sp s H K := by
  refine slices_Clone_sl_uint64_uint64.of ?_
  unfold slices_Clone_sl_uint64_uint64.vc
  have hn := h.len
  refine br_mk (fun hc => ?_) (fun hc => ?_)
  · have hl0 : l = [] := by
      cases l with
      | nil => rfl
      | cons x r =>
        obtain ⟨ad, e, _⟩ := h.at (i := 0) (by simp)
        rw [e] at hc; simp at hc
    subst hl0
    exact hK nilT H (Owns.nil _ _ _ _) (.refl _ _) fun b u => absurd u (nilT_own b)
  · refine Owns.emptyB fun H1 o1 e1 => ?_
    refine elU64.appendBig (base := 0) (s := ⟨some ⟨H.size, 0, none⟩, 0, 0⟩) (x := s) (ws := l.map (Value.int .u64)) o1 (by simp; omega) (h.ext e1).reads (intsOne _ _) (by simp only; omega) (by simp only; omega) (Nat.zero_le _) ?_
    intro s' H2 n2 o2 m2 b2 _
    have f1 : ∀ b, ownB (Sl.mk (some ⟨H.size, 0, none⟩) 0 0) b → H.size ≤ b := by
      rintro b ⟨ad, ha, rfl⟩
      cases ha; exact Nat.le_refl _
    refine hK s' H2 (by simpa using o2) (((Ext.mod e1).trans m2).ext f1) fun b u => ?_
    rcases b2 b u with v | v
    · exact f1 b v
    · have := e1.size; omega
theorem Step.all {F : Nat → Prop} {A B : Heap} {k : Nat} (m : Mod (fun b => b = k) A B) : Step (fun b => F b ∨ b = k) (fun b => F b ∨ b = k) A B := ⟨m.mono fun _ _ u => .inr u, fun _ u => .inl u⟩
theorem PoolAt.offK {F : Nat → Prop} {A B : Heap} {k p dp : Nat} {s : Pl} (h : PoolAt F A p dp s) (m : Mod (fun b => b = k) A B) (hk : ¬ F k) : PoolAt F B p dp s := h.keep fun b hb hl => m.same b hl fun u => hk (u ▸ hb)
set_option maxHeartbeats 4000000 in
theorem tInsert_ok {K : (Bool × Int) → Heap → Prop} (S : Store t.name q I B C) (hw : t.width = (W : Int)) (hW : W ≤ 16) (hr : t.root = (root : Int)) (hd : t.depth = (depth : Int)) (hd1 : 1 ≤ depth ∧ depth ≤ 1000) (hroot : root ≤ 1000000000000) (hcnt : 0 ≤ t.count ∧ t.count ≤ 1000000000000)
    (hI : I s x m) (hm : m + 4000 ≤ 30000000000) (hg : Gl H) (ht : TreeB H k p t) (hp : PoolAt F H p dp s) (hk : ¬ F k) (hl : Ints .u64 H l ll)
    (hK0 : t.ready ≠ 0 → K (false, t.ready) H) (hKw : t.ready = 0 → ll.length ≠ W → K (false, 60) H)
    (hK1 : t.ready = 0 → ll.length = W → ∀ f t' x', x.ins q t root depth ll = .ok f t' x' → ∀ F' A s', PoolAt F' A p dp s' → Step (fun b => F b ∨ b = k) (fun b => F' b ∨ b = k) H A → ¬ F' k → TreeB A k p t' → I s' x' (m + 4000) → K (f, 0) A)
    (hK2 : t.ready = 0 → ll.length = W → x.ins q t root depth ll = .store → ∀ F' A s', PoolAt F' A p dp s' → Step (fun b => F b ∨ b = k) (fun b => F' b ∨ b = k) H A → ¬ F' k → TreeB A k p (t.broke 280) → I s' x (m + 4000) → K (false, 280) A)
    (hKB : t.ready = 0 → ll.length = W → x.ins q t root depth ll = .quota → ∀ F' A s' e, PoolAt F' A p dp s' → Step (fun b => F b ∨ b = k) (fun b => F' b ∨ b = k) H A → ¬ F' k → TreeB A k p (t.broke e) → B s' e → K (false, e) A)
    (hKC : ∀ F' A s' e, PoolAt F' A p dp s' → Step (fun b => F b ∨ b = k) (fun b => F' b ∨ b = k) H A → ¬ F' k → TreeB A k p (t.broke e) → C s' e → K (false, e) A) : tree_Tree_Insert.sp (at0 k) l H K := by
  refine tree_Tree_Insert.of ?_
  unfold tree_Tree_Insert.vc
  refine tready_ok ht ?_
  refine br_mk (fun hc => hK0 (by simpa using hc)) (fun hc => ?_)
  have hrd : t.ready = 0 := by simpa using hc
  clear hK0
  unfold at0
  simp only [optK_eq]
  refine RowT.ld (c := cInt .i64) (i := 2) (x := t.width) ht rfl ?_
  have hln := hl.len
  rw [hw]
  refine br_mk (fun hc2 => hKw hrd (by have : (l.n : Int) ≠ (W : Int) := by simpa using hc2
                                       omega)) (fun hc2 => ?_)
  have hlw : ll.length = W := by have : (l.n : Int) = (W : Int) := by simpa using hc2
                                 omega
  clear hKw
  have hK1 := hK1 hrd hlw
  have hK2 := hK2 hrd hlw
  have hKB := hKB hrd hlw
  have hkl := obj_lt ht
  refine ⟨fun D => Ext H D, .refl _ _, ?_⟩
  refine RowT.ldC (c := cInt .i64) (i := 3) (x := t.root) (cs := fun _ => (treV p t).toArray) (fun D hD => ht.ext hD) (fun _ _ => rfl) ?_
  refine RowT.ldC (c := cInt .i64) (i := 4) (x := t.depth) (cs := fun _ => (treV p t).toArray) (fun D hD => ht.ext hD) (fun _ _ => rfl) ?_
  refine tclone_ok hl (by omega) fun cl H2 o2 e2 f2 => ?_
  refine ⟨e2, ?_⟩
  rw [hr, hd]
  have ed : IntKind.i64.wrap ((depth : Int) - 1) = ((depth - 1 : Nat) : Int) := by rw [wrap64 (by omega) (by omega)]; omega
  rw [ed]
  have T2 : Step F F H H2 := .ofExt e2
  have p2 := hp.ext e2
  have cOk : RowOk F H2 cl ll := ⟨fun ad ha => ⟨(o2.block _ ⟨ad, ha, rfl⟩).2, fun u => by have := hp.lt _ u; have := f2 _ ⟨ad, ha, rfl⟩; omega⟩, o2.ints⟩
  -- the ends
  have tail0 : ∀ (f : Bool) (t1 : Tr) (A : Heap) (K' : (Bool × Int) → Heap → Prop), TreeB A k p t1 → (0 ≤ t1.count ∧ t1.count ≤ 1000000000000) → (∀ A', TreeB A' k p (t1.up f) → Mod (fun b => b = k) A A' → K' (f, 0) A') →
      br ((0 : Int) != (0 : Int)) (tree_Tree_met.sp (at0 k) 0 A fun (r_2 : Int) H17 => K' (false, r_2) H17) (br f (ld (cInt .i64) A (Addr.add ⟨k, 0, none⟩ 5) fun (x_9 : Int) => st A (Addr.add ⟨k, 0, none⟩ 5) (.int .i64 (IntKind.i64.wrap (x_9 + (1 : Int)))) fun H18 => K' (f, (0 : Int)) H18) (K' (f, (0 : Int)) A)) := by
    intro f t1 A K' h1 hc1 hk'
    refine br_f rfl ?_
    cases f with
    | true =>
      refine br_t rfl ?_
      refine RowT.ld (c := cInt .i64) (i := 5) (x := t1.count) h1 rfl ?_
      rw [wrap64 (x := t1.count + 1) (by omega) (by omega)]
      refine RowT.st h1 (i := 5) (by simp [treV]) rfl fun A' r m' z => hk' A' r m'
    | false => exact br_f rfl (hk' A h1 (.refl _ _))
  have tailE : ∀ (f : Bool) (e : Int) (A : Heap) (M : Prop), e ≠ 0 → TreeB A k p t → (∀ A', TreeB A' k p (t.broke e) → Mod (fun b => b = k) A A' → K (false, e) A') →
      br (e != (0 : Int)) (tree_Tree_met.sp (at0 k) e A fun (r_2 : Int) H17 => K (false, r_2) H17) M := by
    intro f e A M he h1 hk'
    exact br_t (by simpa using he) (tmet_ok h1 he fun A' r m' _ => hk' A' r m')
  have stepK : ∀ {F3 : Nat → Prop} {H3 : Heap}, Step F F3 H2 H3 → Step (fun b => F b ∨ b = k) (fun b => F3 b ∨ b = k) H H3 := fun S3 => (T2.trans S3).with k
  have offK : ∀ {F3 : Nat → Prop} {H3 : Heap}, Step F F3 H2 H3 → ¬ F3 k := fun S3 u => (S3.own _ u).elim hk fun v => by have := e2.size; omega
  have span : SpanAt F H2 (Sl.mk none 0 0) (Sl.mk none 0 0) span0 := ⟨rfl, rfl⟩
  unfold St.ins at hK1 hK2 hKB
  refine tadd_ok (l := cl) (ll := ll) S hw hW hd hlw (depth - 1) root span0 _ _ F H2 s m _ hI (by omega) (by omega) (hg.mod e2 id) (ht.ext e2) p2 hk hroot span cOk (fun f o x' hra F3 H3 s3 p3 S3 I3 => ?_) (fun hra F3 H3 s3 p3 S3 I3 => ?_) (fun hra F3 H3 s3 e f o up p3 S3 hB => ?_) (fun F3 H3 s3 e f o up p3 S3 hC => ?_)
  rotate_left
  · have t3 : TreeB H3 k p t := (ht.ext e2).mod S3.mod hk
    refine ⟨fun z A => z = 280 ∧ A = H3, br_f rfl ⟨rfl, rfl⟩, ?_⟩
    rintro _ A ⟨rfl, rfl⟩
    refine tailE false 280 A _ (by decide) t3 fun A' tA mA => ?_
    rw [hra] at hK2
    exact hK2 rfl F3 A' s3 (p3.offK mA (offK S3)) ((stepK S3).trans (Step.all (F := F3) mA)) (offK S3) tA (S.up I3 (by omega))
  · have t3 : TreeB H3 k p t := (ht.ext e2).mod S3.mod hk
    have he := (S.errB hB).1
    refine ⟨fun z A => z = e ∧ A = H3, br_f (by simpa using he) ⟨rfl, rfl⟩, ?_⟩
    rintro _ A ⟨rfl, rfl⟩
    refine tailE f _ A _ he t3 fun A' tA mA => ?_
    rw [hra] at hKB
    exact hKB rfl F3 A' s3 _ (p3.offK mA (offK S3)) ((stepK S3).trans (Step.all (F := F3) mA)) (offK S3) tA hB
  · have t3 : TreeB H3 k p t := (ht.ext e2).mod S3.mod hk
    have he := (S.errC hC).1
    refine ⟨fun z A => z = e ∧ A = H3, br_f (by simpa using he) ⟨rfl, rfl⟩, ?_⟩
    rintro _ A ⟨rfl, rfl⟩
    refine tailE f _ A _ he t3 fun A' tA mA => ?_
    exact hKC F3 A' s3 _ (p3.offK mA (offK S3)) ((stepK S3).trans (Step.all (F := F3) mA)) (offK S3) tA hC
  rw [hra] at hK1 hKB
  have t3 : TreeB H3 k p t := (ht.ext e2).mod S3.mod hk
  cases o with
  | none =>
    unfold AddK
    dsimp only
    refine ⟨fun z A => z = 0 ∧ A = H3, br_t rfl (br_f rfl ⟨rfl, rfl⟩), ?_⟩
    rintro _ A ⟨rfl, rfl⟩
    refine tail0 f t A K t3 hcnt fun A' tA mA => ?_
    exact hK1 f (t.up f) x' rfl F3 A' s3 (p3.offK mA (offK S3)) ((stepK S3).trans (Step.all (F := F3) mA)) (offK S3) tA (S.up I3 (by omega))
  | some pu =>
    obtain ⟨pg, ul⟩ := pu
    unfold AddK
    intro hul mb v1 v2 up rmb hmbF hmbz upOk
    dsimp only at hK1 hKB ⊢
    have hg3 : Gl H3 := (hg.mod e2 id).mod S3.mod p2.glob
    have kOff := offK S3
    have hzz := S3.mod.size
    have hz2 := e2.size
    have hmbk : mb ≠ k := by omega
    -- the new root
    have tops : ∀ (J : Int → Heap → Prop) (H7 : Heap) (tb : Nat) (sk sr : Sl), Ext H3 H7 → RowT H7 tb ty_tree_node #[.int .i64 (-1), sk.v, sr.v] → H3.size ≤ tb → ¬ F3 tb →
        Ints .i64 H7 sk ([root, pg].map Int.ofNat) → Off (fun b => F3 b ∨ b = tb) H7 sk → RowsN (fun b => F3 b ∨ b = tb) H7 sr [ul] →
        (x'.N < q → ∀ F8 A s8, PoolAt F8 A p dp s8 → Step (fun b => F b ∨ b = k) (fun b => F8 b ∨ b = k) H A → ¬ F8 k → TreeB A k p (t.grown x'.N (depth + 1)) → I s8 (x'.more ⟨[root, pg], [ul]⟩) (m + 4000) → J 0 A) →
        (∀ F8 A s8 e, PoolAt F8 A p dp s8 → Step (fun b => F b ∨ b = k) (fun b => F8 b ∨ b = k) H A → ¬ F8 k → TreeB A k p t → (B s8 e ∧ ¬ x'.N < q) ∨ C s8 e → J e A) →
        tree_Tree_write.sp (some ⟨k, 0, none⟩) (some ⟨tb, 0, none⟩) H7 fun (e_1 : Int) H8 => br (e_1 == (0 : Int)) (ld (cInt .i64) H8 (Addr.add ⟨tb, 0, none⟩ 0) fun (x_5 : Int) => st H8 (Addr.add ⟨k, 0, none⟩ 3) (.int .i64 x_5) fun H9 => ld (cInt .i64) H9 (Addr.add ⟨k, 0, none⟩ 4) fun (x_6 : Int) => st H9 (Addr.add ⟨k, 0, none⟩ 4) (.int .i64 (IntKind.i64.wrap (x_6 + (1 : Int)))) fun H10 => J e_1 H10) (J e_1 H8) := by
      intro J H7 tb sk sr e7 rtb htb hFtb hkd hko hrows hJ0 hJe
      have t7 : TreeB H7 k p t := t3.ext e7
      have hkt : k ≠ tb := by omega
      have nt : NodeR F3 H7 tb (-1) sk sr ⟨[root, pg], [ul]⟩ := ⟨rtb, hFtb, hkd, hko, hrows⟩
      have hs := sizeL_cases (W : Int)
      have hbl : (Nd.bytes ⟨[root, pg], [ul]⟩).length ≤ 504 := by
        rw [Nd.bytes_length hW (by intro y hy; simp at hy; subst hy; exact hul)]
        simp; omega
      have S7 : Step F F3 H2 H7 := S3.trans (.ofExt e7)
      have dropK : ∀ {F8 : Nat → Prop} {A : Heap}, Step (fun b => F3 b ∨ b = tb) (fun b => F8 b ∨ b = tb) H7 A → Step F F8 H2 A := fun S8 => S7.drop (by omega) S8
      have hNpre := (S.pre I3).2.2.2.2.1
      refine twrite_new S I3 (by omega) (hg3.mod e7 id) t7 (p3.ext e7) kOff hkt nt hbl (by simp) (by simp) (by intro y hy; simp at hy; subst hy; rw [hul]; exact hW) (fun hN F8 H8 s8 p8 S8 I8 n8 => ?_) (fun hN F8 H8 s8 e p8 S8 hF8 hB => ?_) (fun F8 H8 s8 e p8 S8 hF8 hC => ?_)
      · refine br_t rfl ?_
        have t8 : TreeB H8 k p t := t7.mod S8.mod fun u => u.elim kOff hkt
        refine RowT.ld (c := cInt .i64) (i := 0) (x := (x'.N : Int)) n8.row rfl ?_
        refine RowT.st t8 (i := 3) (by simp [treV]) rfl fun H9 r9 m9 z9 => ?_
        refine RowT.ld (c := cInt .i64) (i := 4) (x := t.depth) r9 (by simp [treV]) ?_
        rw [hd, succ64 _ (by omega)]
        refine RowT.st r9 (i := 4) (by simp [treV]) rfl fun H10 r10 m10 z10 => ?_
        have mm := m9.trans m10
        have S8' := dropK S8
        refine hJ0 hN F8 H10 s8 (p8.offK mm (offK S8')) ((stepK S8').trans (Step.all (F := F8) mm)) (offK S8') ?_ (S.up I8 (by omega))
        have et : ((treV p t).toArray.setIfInBounds 3 (.int .i64 (x'.N : Int))).setIfInBounds 4 (.int .i64 ((depth + 1 : Nat) : Int)) = (treV p (t.grown x'.N (depth + 1))).toArray := by
          simp [treV, Tr.grown]
        rw [et] at r10
        exact r10
      · have S8' := dropK S8
        refine br_f (by have := (S.errB hB).1; simpa using this) ?_
        exact hJe F8 H8 s8 e p8 (stepK S8') (offK S8') (t7.mod S8.mod fun u => u.elim kOff hkt) (.inl ⟨hB, hN⟩)
      · have S8' := dropK S8
        refine br_f (by have := (S.errC hC).1; simpa using this) ?_
        exact hJe F8 H8 s8 e p8 (stepK S8') (offK S8') (t7.mod S8.mod fun u => u.elim kOff hkt) (.inr hC)
    obtain ⟨JJ, hJJ⟩ : ∃ JJ : Int → Heap → Prop, ∀ z A, JJ z A ↔ ∃ F8 s8, PoolAt F8 A p dp s8 ∧ Step (fun b => F b ∨ b = k) (fun b => F8 b ∨ b = k) H A ∧ ¬ F8 k ∧ ((z = 0 ∧ x'.N < q ∧ TreeB A k p (t.grown x'.N (depth + 1)) ∧ I s8 (x'.more ⟨[root, pg], [ul]⟩) (m + 4000)) ∨ (TreeB A k p t ∧ ((B s8 z ∧ ¬ x'.N < q) ∨ C s8 z))) := ⟨_, fun _ _ => Iff.rfl⟩
    have hJ0 : x'.N < q → ∀ F8 A s8, PoolAt F8 A p dp s8 → Step (fun b => F b ∨ b = k) (fun b => F8 b ∨ b = k) H A → ¬ F8 k → TreeB A k p (t.grown x'.N (depth + 1)) → I s8 (x'.more ⟨[root, pg], [ul]⟩) (m + 4000) → JJ 0 A := fun hN F8 A s8 p8 S8 hF8 t8 I8 => (hJJ 0 A).2 ⟨F8, s8, p8, S8, hF8, .inl ⟨rfl, hN, t8, I8⟩⟩
    have hJe : ∀ F8 A s8 e, PoolAt F8 A p dp s8 → Step (fun b => F b ∨ b = k) (fun b => F8 b ∨ b = k) H A → ¬ F8 k → TreeB A k p t → (B s8 e ∧ ¬ x'.N < q) ∨ C s8 e → JJ e A := fun F8 A s8 e p8 S8 hF8 t8 hb => (hJJ e A).2 ⟨F8, s8, p8, S8, hF8, .inr ⟨t8, hb⟩⟩
    have upB : ∀ A, Ext H3 A → ∀ ad, up.a = some ad → ad.block < H3.size ∧ ¬ F3 ad.block := fun A eA ad ha => ⟨(upOk.off ad ha).1, fun u => (upOk.off ad ha).2 (.inl u)⟩
    refine ⟨JJ, ?_, ?_⟩
    · refine br_t rfl (br_t rfl ?_)
      refine ⟨fun D => Ext H3 D, .refl _ _, ?_⟩
      refine RowT.ldC (c := cInt .i64) (i := 3) (x := t.root) (cs := fun _ => (treV p t).toArray) (fun D hD => t3.ext hD) (fun _ _ => rfl) ?_
      simp only [optK_eq]
      refine RowT.ldC (c := cInt .i64) (i := 0) (x := (pg : Int)) (cs := fun _ => #[.int .i64 (pg : Int), v1, v2]) (fun D hD => rmb.ext hD) (fun _ _ => rfl) ?_
      rw [hr]
      have ek : #[Value.int .i64 (root : Int), Value.int .i64 (pg : Int)] = (([root, pg].map Int.ofNat).map (Value.int .i64)).toArray := rfl
      rw [ek]
      -- both orders
      constructor
      · refine newC_ints _ fun pk H5 z5 q5 a5 e5 => ⟨e5, ?_⟩
        refine newC_varT fun pr H6 q6 z6 v6 e6 => ⟨e5.trans e6, ?_⟩
        refine newC_rowT fun H7 z7 r7 e7 => ⟨(e5.trans e6).trans e7, ?_⟩
        have e37 := (e5.trans e6).trans e7
        have v7 := v6.ext e7
        refine tops JJ H7 H6.size ⟨some pk, 2, 2⟩ ⟨some pr, 1, 1⟩ e37 r7 (by omega) (fun u => by have := p3.lt _ u; omega) (((a5 2).ext e6).ext e7) (fun ad ha => ?_) ⟨rfl, fun ad ha => ?_, fun i hi => ?_⟩ hJ0 hJe
        · cases ha; exact ⟨by omega, fun u => u.elim (fun w => by have := p3.lt _ w; omega) fun w => by omega⟩
        · cases ha; exact ⟨by omega, fun u => u.elim (fun w => by have := p3.lt _ w; omega) fun w => by omega⟩
        · have hi0 : i = 0 := by simp at hi; omega
          subst hi0
          refine ⟨pr, up, rfl, v7.var.cell, fun ad ha => ?_, upOk.ints.ext e37⟩
          have := upB H7 e37 ad ha
          exact ⟨by omega, fun u => u.elim this.2 fun w => by omega⟩
      · refine newC_varT fun pr H5 q5 z5 v5 e5 => ⟨e5, ?_⟩
        refine newC_ints _ fun pk H6 z6 q6 a6 e6 => ⟨e5.trans e6, ?_⟩
        refine newC_rowT fun H7 z7 r7 e7 => ⟨(e5.trans e6).trans e7, ?_⟩
        have e37 := (e5.trans e6).trans e7
        have v7 := (v5.ext e6).ext e7
        refine tops JJ H7 H6.size ⟨some pk, 2, 2⟩ ⟨some pr, 1, 1⟩ e37 r7 (by omega) (fun u => by have := p3.lt _ u; omega) ((a6 2).ext e7) (fun ad ha => ?_) ⟨rfl, fun ad ha => ?_, fun i hi => ?_⟩ hJ0 hJe
        · cases ha; exact ⟨by omega, fun u => u.elim (fun w => by have := p3.lt _ w; omega) fun w => by omega⟩
        · cases ha; exact ⟨by omega, fun u => u.elim (fun w => by have := p3.lt _ w; omega) fun w => by omega⟩
        · have hi0 : i = 0 := by simp at hi; omega
          subst hi0
          refine ⟨pr, up, rfl, v7.var.cell, fun ad ha => ?_, upOk.ints.ext e37⟩
          have := upB H7 e37 ad ha
          exact ⟨by omega, fun u => u.elim this.2 fun w => by omega⟩
    · intro z A hz
      obtain ⟨F8, s8, p8, S8, hF8, hcase⟩ := (hJJ z A).1 hz
      rcases hcase with ⟨rfl, hN, t8, I8⟩ | ⟨t8, hb⟩
      · rw [if_pos hN] at hK1
        refine tail0 f _ A K t8 hcnt fun A' tA mA => ?_
        exact hK1 f _ _ rfl F8 A' s8 (p8.offK mA hF8) (S8.trans (Step.all (F := F8) mA)) hF8 tA I8
      · have he : z ≠ 0 := by
          rcases hb with hb | hb
          · exact (S.errB hb.1).1
          · exact (S.errC hb).1
        refine tailE f z A _ he t8 fun A' tA mA => ?_
        rcases hb with ⟨hb, hN⟩ | hb
        · rw [if_neg hN] at hKB
          exact hKB rfl F8 A' s8 z (p8.offK mA hF8) (S8.trans (Step.all (F := F8) mA)) hF8 tA hb
        · exact hKC F8 A' s8 z (p8.offK mA hF8) (S8.trans (Step.all (F := F8) mA)) hF8 tA hb
end
end Go.Proofs.YtmdiinakfpgdjaaGreatDoor

/-
  Trees: Has, From, Next, Count, Depth: the walk; a tree that is not there.
-/
namespace Go.Proofs.YtmdiinakfpgdjaaGreatDoor
open Go.MapKept
section
variable {H : Heap} {k p dp : Nat} {t : Tr} {F : Nat → Prop} {s : Pl} {q : Nat} {I : Pl → St → Nat → Prop} {B C : Pl → Int → Prop} {x : St} {m : Nat} {W root depth : Nat} {ll : List Int} {l : Sl}
def St.fnd (x : St) (t : Tr) (root depth : Nat) (ll : List Int) (strict : Bool) : Option (Option (List Int)) := (x.find t.width depth ll strict (depth - 1) root span0).2
theorem fnd_cost (S : Store t.name q I B C) (hI : I s x m) (hd1 : 1 ≤ depth ∧ depth ≤ 1000) {strict : Bool} : (x.find t.width depth ll strict (depth - 1) root span0).1 ≤ 1000000 := by
  have h := find_cost (x := x) (w := t.width) (low := ll) (strict := strict) (S.pre hI).2.2.2.2.2 (depth - 1) root span0 (show depth - 1 < depth by omega)
  have h2 : (depth - 1 + 1) * (depth - 1 + 1) ≤ 1000 * 1000 := Nat.mul_le_mul (by omega) (by omega)
  omega
set_option maxHeartbeats 1000000 in
theorem tHas_ok {K : (Bool × Int) → Heap → Prop} (S : Store t.name q I B C) (hw : t.width = (W : Int)) (hW : W ≤ 16) (hr : t.root = (root : Int)) (hd : t.depth = (depth : Int)) (hd1 : 1 ≤ depth ∧ depth ≤ 1000) (hroot : root ≤ 1000000000000)
    (hI : I s x m) (hm : m + 1000000 ≤ 30000000000) (hg : Gl H) (ht : TreeB H k p t) (hp : PoolAt F H p dp s) (hk : ¬ F k) (hl : Ints .u64 H l ll) (hlo : OffI F H l ll)
    (hK0 : t.ready ≠ 0 → K (false, t.ready) H) (hKw : t.ready = 0 → ll.length ≠ W → K (false, 60) H)
    (hK1 : t.ready = 0 → ll.length = W → ∀ o, x.fnd t root depth ll false = some o → ∀ F' A s', PoolAt F' A p dp s' → Step (fun b => F b ∨ b = k) (fun b => F' b ∨ b = k) H A → Step F F' H A → ¬ F' k → TreeB A k p t → I s' x (m + 1000000) → K ((match o with | none => false | some y => decide (cmpL y ll = 0)), 0) A)
    (hK2 : t.ready = 0 → ll.length = W → x.fnd t root depth ll false = none → ∀ F' A s', PoolAt F' A p dp s' → Step (fun b => F b ∨ b = k) (fun b => F' b ∨ b = k) H A → ¬ F' k → TreeB A k p (t.broke 280) → I s' x (m + 1000000) → K (false, 280) A)
    (hKC : ∀ F' A s' e, PoolAt F' A p dp s' → Step (fun b => F b ∨ b = k) (fun b => F' b ∨ b = k) H A → ¬ F' k → TreeB A k p (t.broke e) → C s' e → K (false, e) A) : tree_Tree_Has.sp (at0 k) l H K := by
  refine tree_Tree_Has.of ?_
  unfold tree_Tree_Has.vc
  refine tready_ok ht ?_
  refine br_mk (fun hc => hK0 (by simpa using hc)) (fun hc => ?_)
  have hrd : t.ready = 0 := by simpa using hc
  unfold at0
  simp only [optK_eq]
  refine RowT.ld (c := cInt .i64) (i := 2) (x := t.width) ht rfl ?_
  have hln := hl.len
  rw [hw]
  refine br_mk (fun hc2 => hKw hrd (by have : (l.n : Int) ≠ (W : Int) := by simpa using hc2
                                       omega)) (fun hc2 => ?_)
  have hlw : ll.length = W := by have : (l.n : Int) = (W : Int) := by simpa using hc2
                                 omega
  have hkl := obj_lt ht
  refine RowT.ld (c := cInt .i64) (i := 3) (x := t.root) ht rfl ?_
  refine RowT.ld (c := cInt .i64) (i := 4) (x := t.depth) ht rfl ?_
  rw [hr, hd]
  have ed : IntKind.i64.wrap ((depth : Int) - 1) = ((depth - 1 : Nat) : Int) := by rw [wrap64 (by omega) (by omega)]; omega
  rw [ed]
  have hcost := fnd_cost (root := root) (ll := ll) (strict := false) S hI hd1
  have span : SpanAt F H (Sl.mk none 0 0) (Sl.mk none 0 0) span0 := ⟨rfl, rfl⟩
  have hbroke : ∀ (F3 : Nat → Prop) (H3 : Heap) (s3 : Pl) (e : Int) (M : Prop), e ≠ 0 → PoolAt F3 H3 p dp s3 → Step F F3 H H3 → (∀ A, PoolAt F3 A p dp s3 → Step (fun b => F b ∨ b = k) (fun b => F3 b ∨ b = k) H A → ¬ F3 k → TreeB A k p (t.broke e) → K (false, e) A) →
      br (e != (0 : Int)) (tree_Tree_met.sp (some ⟨k, 0, none⟩) e H3 fun (r_1 : Int) H3 => K (false, r_1) H3) M := by
    intro F3 H3 s3 e M he p3 S3 hk'
    have k3 : ¬ F3 k := fun u => (S3.own _ u).elim hk fun v => by omega
    refine br_t (by simpa using he) (tmet_ok (ht.mod S3.mod hk) he fun A r mA _ => ?_)
    exact hk' A (p3.offK mA k3) ((S3.with k).trans (Step.all mA)) k3 r
  refine tfind_ok (ll := ll) (strict := false) S hw hW hd (depth - 1) root span0 _ _ F H s m _ hI (by omega) (by omega) hg ht hp hk hroot span hl hlo (fun F3 H3 s3 p3 S3 I3 => ?_) (fun F3 H3 s3 e p3 S3 hC => ?_)
  · have k3 : ¬ F3 k := fun u => (S3.own _ u).elim hk fun v => by omega
    have t3 : TreeB H3 k p t := ht.mod S3.mod hk
    have I4 := S.up I3 (k := m + 1000000) (by omega)
    unfold St.fnd at hK1 hK2
    cases hres : (x.find t.width depth ll false (depth - 1) root span0).2 with
    | none =>
      unfold FindK
      dsimp only
      refine hbroke F3 H3 s3 280 _ (by decide) p3 S3 fun A pA SA kA tA => ?_
      exact hK2 hrd hlw hres F3 A s3 pA SA kA tA I4
    | some o =>
      have hK1 := hK1 hrd hlw o hres
      cases o with
      | none =>
        unfold FindK
        dsimp only
        refine br_f rfl (br_f rfl ?_)
        exact hK1 F3 H3 s3 p3 (S3.with k) S3 k3 t3 I4
      | some y =>
        unfold FindK
        intro sl nn o5 f5
        dsimp only
        refine br_f rfl ?_
        refine br_t (by cases q9 : sl.a with | none => exact absurd q9 nn | some _ => rfl) ?_
        have hyl := o5.ints.len
        have hbig : y.length < 1099511627776 := by
          have hnode := find_len (ll := ll) (strict := false) (S.pre hI).2.2.2.2.2 (depth - 1) root span0 hres
          rw [hnode, hw]; simp; omega
        refine rowCmp_ok o5.ints (hlo.ints hl S3) hbig ?_
        have := hK1 F3 H3 s3 p3 (S3.with k) S3 k3 t3 I4
        have e0 : (cmpL y ll == 0) = decide (cmpL y ll = 0) := by rw [Bool.eq_iff_iff]; simp
        rw [e0]
        exact this
  · refine hbroke F3 H3 s3 e _ (S.errC hC).1 p3 S3 fun A pA SA kA tA => ?_
    exact hKC F3 A s3 e pA SA kA tA hC
structure CurB (H : Heap) (F : Nat → Prop) (k cb : Nat) (lo : Sl) (ll : List Int) (strict : Bool) : Prop where
  row : RowT H cb ty_tree_Cursor #[.pointer (at0 k), lo.v, .bool strict]
  ints : Ints .u64 H lo ll
  off : Off (fun b => F b ∨ b = k ∨ b = cb) H lo
  cb : ¬ F cb ∧ cb ≠ k
theorem tFrom_ok {K : Option Addr → Heap → Prop} (hl : Ints .u64 H l ll) (hlen : ll.length ≤ 17592186044416) (hF : ∀ b, F b → b < H.size) (hkl : k < H.size)
    (hK : ∀ A cb lo, Ext H A → CurB A F k cb lo ll false → H.size ≤ cb → K (some ⟨cb, 0, none⟩) A) : tree_Tree_From.sp (at0 k) l H K := by
  refine tree_Tree_From.of ?_
  unfold tree_Tree_From.vc
  refine br_f rfl ?_
  refine tclone_ok hl hlen fun cl H1 o1 e1 f1 => ?_
  refine newC_rowT fun H2 z2 r2 e2 => ?_
  have hz := e1.size
  refine hK H2 H1.size cl (e1.trans e2) ⟨r2, (o1.ext e2).ints, fun ad ha => ?_, fun u => by have := hF _ u; omega, by omega⟩ (by omega)
  have h1 := (o1.block _ ⟨ad, ha, rfl⟩).2
  have h2 := f1 _ ⟨ad, ha, rfl⟩
  exact ⟨by omega, fun u => by
    rcases u with u | u | u
    · have := hF _ u; omega
    · omega
    · omega⟩
set_option maxHeartbeats 1000000 in
theorem tNext_ok {K : (Sl × Bool × Int) → Heap → Prop} {cb : Nat} {lo : Sl} {strict : Bool} (S : Store t.name q I B C) (hw : t.width = (W : Int)) (hW : W ≤ 16) (hr : t.root = (root : Int)) (hd : t.depth = (depth : Int)) (hd1 : 1 ≤ depth ∧ depth ≤ 1000) (hroot : root ≤ 1000000000000)
    (hI : I s x m) (hm : m + 1000000 ≤ 30000000000) (hg : Gl H) (ht : TreeB H k p t) (hp : PoolAt F H p dp s) (hk : ¬ F k) (hc : CurB H F k cb lo ll strict)
    (hK0 : t.ready ≠ 0 → K (nilT, false, t.ready) H)
    (hK1 : t.ready = 0 → x.fnd t root depth ll strict = some none → ∀ F' A s', PoolAt F' A p dp s' → Step (fun b => F b ∨ b = k ∨ b = cb) (fun b => F' b ∨ b = k ∨ b = cb) H A → ¬ F' k → TreeB A k p t → CurB A F' k cb lo ll strict → I s' x (m + 1000000) → K (nilT, false, 0) A)
    (hK3 : t.ready = 0 → ∀ y, x.fnd t root depth ll strict = some (some y) → ∀ F' A s' sl lo', PoolAt F' A p dp s' → Step (fun b => F b ∨ b = k ∨ b = cb) (fun b => F' b ∨ b = k ∨ b = cb) H A → ¬ F' k → TreeB A k p t → CurB A F' k cb lo' y true → I s' x (m + 1000000) →
      Owns A 0 ty_uint64 1 sl (y.map (Value.int .u64)) → (∀ b, ownB sl b → H.size ≤ b ∧ ¬ F' b ∧ b ≠ k ∧ b ≠ cb ∧ ¬ ownB lo' b) ∧ (∀ b, ownB lo' b → H.size ≤ b) → K (sl, true, 0) A)
    (hK2 : t.ready = 0 → x.fnd t root depth ll strict = none → ∀ F' A s', PoolAt F' A p dp s' → Step (fun b => F b ∨ b = k ∨ b = cb) (fun b => F' b ∨ b = k ∨ b = cb) H A → ¬ F' k → TreeB A k p (t.broke 280) → CurB A F' k cb lo ll strict → I s' x (m + 1000000) → K (nilT, false, 280) A)
    (hKC : ∀ F' A s' e, PoolAt F' A p dp s' → Step (fun b => F b ∨ b = k ∨ b = cb) (fun b => F' b ∨ b = k ∨ b = cb) H A → ¬ F' k → TreeB A k p (t.broke e) → C s' e → K (nilT, false, e) A) : tree_Cursor_Next.sp (some ⟨cb, 0, none⟩) H K := by
  refine tree_Cursor_Next.of ?_
  unfold tree_Cursor_Next.vc
  refine br_f rfl ?_
  simp only [optK_eq]
  refine RowT.ld (c := cPtr) (i := 0) (x := at0 k) hc.row rfl ?_
  refine tready_ok ht ?_
  refine br_mk (fun hc2 => hK0 (by simpa using hc2)) (fun hc2 => ?_)
  have hrd : t.ready = 0 := by simpa using hc2
  have hkl := obj_lt ht
  have hcl := obj_lt hc.row
  unfold at0
  simp only [optK_eq]
  refine RowT.ld (c := cInt .i64) (i := 3) (x := t.root) ht rfl ?_
  refine RowT.ld (c := cInt .i64) (i := 4) (x := t.depth) ht rfl ?_
  refine RowT.ld (c := cSl) (i := 1) (x := lo) hc.row rfl ?_
  refine RowT.ld (c := cBool) (i := 2) (x := strict) hc.row rfl ?_
  rw [hr, hd]
  have ed : IntKind.i64.wrap ((depth : Int) - 1) = ((depth - 1 : Nat) : Int) := by rw [wrap64 (by omega) (by omega)]; omega
  rw [ed]
  have hcost := fnd_cost (root := root) (ll := ll) (strict := strict) S hI hd1
  have span : SpanAt F H (Sl.mk none 0 0) (Sl.mk none 0 0) span0 := ⟨rfl, rfl⟩
  have offF : ∀ {F3 : Nat → Prop} {H3 : Heap}, Step F F3 H H3 → ¬ F3 k ∧ ¬ F3 cb := fun S3 => ⟨fun u => (S3.own _ u).elim hk fun v => by omega, fun u => (S3.own _ u).elim hc.cb.1 fun v => by omega⟩
  have curF : ∀ {F3 : Nat → Prop} {H3 : Heap}, Step F F3 H H3 → CurB H3 F3 k cb lo ll strict := fun {F3 H3} S3 => by
    have S3' : Step (fun b => F b ∨ b = k ∨ b = cb) (fun b => F3 b ∨ b = k ∨ b = cb) H H3 := S3.or (fun b => b = k ∨ b = cb)
    exact ⟨hc.row.mod S3.mod hc.cb.1, hc.off.ints hc.ints S3', hc.off.step S3', (offF S3).2, hc.cb.2⟩
  have hbroke : ∀ (F3 : Nat → Prop) (H3 : Heap) (s3 : Pl) (e : Int) (M : Prop), e ≠ 0 → PoolAt F3 H3 p dp s3 → Step F F3 H H3 → (∀ A, PoolAt F3 A p dp s3 → Step (fun b => F b ∨ b = k ∨ b = cb) (fun b => F3 b ∨ b = k ∨ b = cb) H A → ¬ F3 k → TreeB A k p (t.broke e) → CurB A F3 k cb lo ll strict → K (nilT, false, e) A) →
      br (e != (0 : Int)) (tree_Tree_met.sp (some ⟨k, 0, none⟩) e H3 fun (r_1 : Int) H3 => K ((Sl.mk none 0 0), false, r_1) H3) M := by
    intro F3 H3 s3 e M he p3 S3 hk'
    obtain ⟨k3, c3⟩ := offF S3
    refine br_t (by simpa using he) (tmet_ok (ht.mod S3.mod hk) he fun A r mA _ => ?_)
    have cF := curF S3
    have SA : Step (fun b => F3 b ∨ b = k ∨ b = cb) (fun b => F3 b ∨ b = k ∨ b = cb) H3 A := ⟨mA.mono fun _ _ u => .inr (.inl u), fun _ u => .inl u⟩
    refine hk' A (p3.offK mA k3) ((S3.or (fun b => b = k ∨ b = cb)).trans SA) k3 r ⟨cF.row.mod mA hc.cb.2, cF.off.ints cF.ints SA, cF.off.step SA, cF.cb⟩
  refine tfind_ok (ll := ll) (strict := strict) S hw hW hd (depth - 1) root span0 _ _ F H s m _ hI (by omega) (by omega) hg ht hp hk hroot span hc.ints ((hc.off.mono fun _ _ u => .inl u).toI _) (fun F3 H3 s3 p3 S3 I3 => ?_) (fun F3 H3 s3 e p3 S3 hC => ?_)
  · obtain ⟨k3, c3⟩ := offF S3
    have t3 : TreeB H3 k p t := ht.mod S3.mod hk
    have I4 := S.up I3 (k := m + 1000000) (by omega)
    have S3' : Step (fun b => F b ∨ b = k ∨ b = cb) (fun b => F3 b ∨ b = k ∨ b = cb) H H3 := S3.or (fun b => b = k ∨ b = cb)
    unfold St.fnd at hK1 hK2 hK3
    cases hres : (x.find t.width depth ll strict (depth - 1) root span0).2 with
    | none =>
      unfold FindK
      dsimp only
      refine hbroke F3 H3 s3 280 _ (by decide) p3 S3 fun A pA SA kA tA cA => ?_
      exact hK2 hrd hres F3 A s3 pA SA kA tA cA I4
    | some o =>
      cases o with
      | none =>
        unfold FindK
        dsimp only
        refine br_f rfl (br_t rfl (tmet_zero ?_))
        exact hK1 hrd hres F3 H3 s3 p3 S3' k3 t3 (curF S3) I4
      | some y =>
        unfold FindK
        intro sl nn o5 f5
        dsimp only
        refine br_f rfl ?_
        refine br_f (by cases q9 : sl.a with | none => exact absurd q9 nn | some _ => rfl) ?_
        have hyl : y.length ≤ 16 := by
          have hnode := find_len (ll := ll) (strict := strict) (S.pre hI).2.2.2.2.2 (depth - 1) root span0 hres
          rw [hnode, hw]; simpa using hW
        refine tclone_ok o5.ints (by omega) fun cl A1 o1 e1 f1 => ?_
        have cF := curF S3
        refine RowT.st (cF.row.ext e1) (i := 1) (by simp) rfl fun A2 r2 m2 z2 => ?_
        refine RowT.st r2 (i := 2) (by simp) rfl fun A3 r3 m3 z3 => ?_
        have m23 := m2.trans m3
        have hz1 := e1.size
        have hz3 := S3.mod.size
        have clB : ∀ b, ownB cl b → b ≠ cb := fun b u v => by have := f1 b u; omega
        have slB : ∀ b, ownB sl b → b ≠ cb := fun b u v => by have := (f5 b u).1; omega
        have S13 : Step (fun b => F3 b ∨ b = k ∨ b = cb) (fun b => F3 b ∨ b = k ∨ b = cb) H3 A3 := ⟨(Ext.mod e1).trans (m23.mono fun _ _ u => .inr (.inr u)), fun _ u => .inl u⟩
        have clo := o1.block
        refine hK3 hrd y hres F3 A3 s3 sl cl ((p3.ext e1).offK m23 c3) (S3'.trans S13) k3 ((t3.ext e1).mod m23 (Ne.symm hc.cb.2)) ⟨r3, (o1.mod m23 fun b u v => clB b u v).ints, fun ad ha => ?_, c3, hc.cb.2⟩ I4 ((o5.ext e1).mod m23 fun b u v => slB b u v) ⟨fun b u => ?_, fun b u => by have := f1 b u; omega⟩
        · have h1 := clo _ ⟨ad, ha, rfl⟩
          have h2 := f1 _ ⟨ad, ha, rfl⟩
          refine ⟨by omega, fun w => ?_⟩
          rcases w with w | w | w
          · have := p3.lt _ w; omega
          · omega
          · omega
        · have h1 := f5 b u
          have h2 := (o5.block b u).2
          exact ⟨h1.1, h1.2, by omega, by omega, fun w => by have := f1 b w; omega⟩
  · refine hbroke F3 H3 s3 e _ (S.errC hC).1 p3 S3 fun A pA SA kA tA cA => ?_
    exact hKC F3 A s3 e pA SA kA tA hC
theorem tCount_ok {K : Int → Heap → Prop} (ht : TreeB H k p t) (hK : K (if t.gone then 0 else t.count) H) : tree_Tree_Count.sp (at0 k) H K := by
  refine tree_Tree_Count.of ?_
  unfold tree_Tree_Count.vc
  refine br_f rfl ?_
  simp only [optK_eq, at0]
  refine RowT.ld (c := cBool) (i := 7) (x := t.gone) ht rfl ?_
  cases hg : t.gone with
  | true => rw [hg] at hK; exact br_t rfl hK
  | false =>
    rw [hg] at hK
    refine br_f rfl ?_
    exact RowT.ld (c := cInt .i64) (i := 5) (x := t.count) ht rfl hK
end
end Go.Proofs.YtmdiinakfpgdjaaGreatDoor

/-
  The pool: Drop.
-/
namespace Go.Proofs.YtmdiinakfpgdjaaGreatDoor
open Go.MapKept
end Go.Proofs.YtmdiinakfpgdjaaGreatDoor

/-
  PoolPins in plain words: all frames held, one given back, one more.
-/
namespace Go.Proofs.YtmdiinakfpgdjaaGreatDoor
def v0 (j : Nat) (l : List Int) : Prop := l = [(j : Int) + 1]
end Go.Proofs.YtmdiinakfpgdjaaGreatDoor

/-
  The pool's calls in a row: what a statement that makes them walks by; works.
-/
namespace Go.Proofs.YtmdiinakfpgdjaaGreatDoor
open Go.MapKept
def TP (H A : Heap) (p dp : Nat) (s : Pl) : Prop := Ext H A ∧ ∃ F, PoolAt F A p dp s ∧ ∀ b, F b → H.size ≤ b
variable {H A : Heap} {p dp : Nat} {s : Pl} {n : ByteArray}
theorem TP.new {D : Nat → Prop} {d : Dk} {m : Nat} {K : (Option Addr × Int) → Heap → Prop} (hg : Gl H) (e : Ext H A) (hd : DiskAt D A dp d) (hD : ∀ b, D b → H.size ≤ b) (h8 : 8 ≤ m) (hm : m ≤ 4096)
    (hK : ∀ p B, TP H B p dp (pl0 d m) → K (at0 p, 0) B) : pool_New.sp (at0 dp) (m : Int) A K := by
  refine PoolNew_ok (hg.mod e id) hd (fun q => by have := hD _ q; have := hg.lt; omega) h8 hm fun F p B h1 e1 f1 => ?_
  refine hK p B ⟨e.trans e1, F, h1, fun b hb => ?_⟩
  rcases f1 b hb with q | q
  · exact hD b q
  · exact Nat.le_trans e.size q
def nmF : ByteArray := ByteArray.mk #[102]
theorem nmF_named : named nmF = true := by decide
theorem create_live {q : Int} (h0 : 0 ≤ q) (hq : q ≤ 1048576) {n : ByteArray} (hn : named n = true) : Live ((dk0 q).create n).1 n [] q.toNat ∧ ((dk0 q).create n).1.ops = 1 ∧ ((dk0 q).create n).2 = 0 ∧ ((dk0 q).create n).1.logs = 0 := by
  have e : (dk0 q).create n = ({ dk0 q with files := [⟨n, [], []⟩], ops := w64 (0 + 1) }, 0) := by
    unfold Dk.create
    rw [if_neg (by simp [dk0]), if_neg (by rw [hn]; simp), if_neg (by simp [dk0, Dk.idx]), if_neg (by simp [dk0])]
    rfl
  rw [e]
  refine ⟨⟨rfl, rfl, ⟨_, rfl, rfl, rfl⟩, ?_⟩, by show w64 (0 + 1) = 1; decide, rfl, rfl⟩
  show (min (max q 0) 1048576).toNat = q.toNat
  congr 1; omega
theorem pl0_told {d : Dk} {n : ByteArray} {q m : Nat} {T : Nat → UInt8 × List UInt8} (h : Live d n [] q) : Told (pl0 d m) n 0 q T [] :=
  ⟨rfl, h, rfl, by intro f hf; simp [pl0] at hf, by intro k b hk; simp at hk⟩
end Go.Proofs.YtmdiinakfpgdjaaGreatDoor

/-
  The pool's statements: a step's bytes; a pool that is not there.
-/
namespace Go.Proofs.YtmdiinakfpgdjaaGreatDoor
open Go.MapKept
end Go.Proofs.YtmdiinakfpgdjaaGreatDoor

/-
  Trees: page 0; New, Open: the walk.
-/
namespace Go.Proofs.YtmdiinakfpgdjaaGreatDoor
open Go.MapKept
def headT (W depth root count : Nat) : List UInt8 := UInt8.ofNat W :: UInt8.ofNat depth :: be4 root ++ bytesI (putL [(count : Int)])
theorem putOne (c : Int) : (putL [c]).length = 8 := by simp [putL, wordL]
theorem headT_length (W depth root count : Nat) : (headT W depth root count).length = 14 := by
  unfold headT
  rw [List.length_append, List.length_cons, List.length_cons, be4_length, bytesI_length, putOne]
theorem newC_bytes {H : Heap} {t : TypeId} (n : Nat) (l : List UInt8) {cs : Array Value} (hcs : cs = ((u8i l).map (Value.int .u8)).toArray) (hn : l.length = n) (hl : n ≤ 1000) {K : Addr → Heap → Prop}
    (hK : ∀ H', Owns H' 0 t 1 ⟨some ⟨H.size, 0, none⟩, n, n⟩ ((u8i l).map (Value.int .u8)) → Ext H H' → K ⟨H.size, 0, none⟩ H') : newC H cs t K := by
  subst hcs
  subst hn
  refine hK _ (Owns.fresh (n := l.length) (cap := l.length) (Nat.zero_le _) (Nat.le_refl _) (by unfold maxLen; omega) (by simp) (by simp) ?_) (Mod.push _ _ _)
  have e : l.length * 1 = ((u8i l).map (Value.int .u8)).length := by simp
  rw [e]
  exact List.take_length
section
variable {H : Heap} {k p dp : Nat} {t : Tr} {F : Nat → Prop} {s : Pl} {q : Nat} {I : Pl → St → Nat → Prop} {B C : Pl → Int → Prop} {x : St} {m : Nat} {W root depth count : Nat}
set_option maxHeartbeats 2000000 in
theorem thead_raw {fr : Bool} {K : Int → Heap → Prop} (hg : Gl H) (h : TreeB H k p t) (hp : PoolAt F H p dp s) (hk : ¬ F k) (hw : t.width = (W : Int)) (hr : t.root = (root : Int)) (hd : t.depth = (depth : Int)) (hc : t.count = (count : Int)) (hcb : count < 18446744073709551616)
    (hnm : t.name.size ≤ 9223372036854775807) (hlogs : s.d.logs < 68719470000) (hnx : s.next < 1099511627776) (h0 : 0 ≤ s.next) (hft : s.Fit)
    (hK1 : fr = true → ∀ F' H', PoolAt F' H' p dp (s.more t.name 5 (headT W depth root count)).1 → Step F F' H H' → K (s.more t.name 5 (headT W depth root count)).2 H')
    (hK2 : fr = false → ∀ F' H', PoolAt F' H' p dp (s.over t.name 0 5 (headT W depth root count)).1 → Step F F' H H' → K (s.over t.name 0 5 (headT W depth root count)).2 H') : tree_Tree_head.sp (at0 k) fr H K := by
  refine tree_Tree_head.of ?_
  unfold tree_Tree_head.vc
  have hkl0 := obj_lt h
  refine ⟨fun z A => ∃ F1 s1, PoolAt F1 A p dp s1 ∧ TreeB A k p t ∧ ¬ F1 k ∧ Gl A ∧ s1.next < 9223372036854775807 ∧ (z.2 ≠ 0 → K z.2 A) ∧
    (z.2 = 0 → ∀ F' H', PoolAt F' H' p dp (Pl.leave (s1.set z.1 5 (headT W depth root count)) z.1).1 → Step F1 F' A H' → K (Pl.leave (s1.set z.1 5 (headT W depth root count)) z.1).2 H'), ?_, ?_⟩
  · simp only [optK_eq, at0]
    cases fr with
    | true =>
      refine br_t rfl ?_
      refine RowT.ld (c := cPtr) (i := 0) (x := at0 p) h rfl ?_
      refine RowT.ld (c := cStr) (i := 1) (x := t.name) h rfl ?_
      refine Fresh_ok hg hp hnm (by omega) (by omega) hft fun F1 H1 p1 S1 => ?_
      have hK1 := hK1 rfl
      unfold Pl.more at hK1
      have hnx1 : (s.fresh t.name).1.next ≤ s.next + 1 := s.fresh_next h0 hnx
      generalize (s.fresh t.name).1 = s1 at *
      generalize (s.fresh t.name).2.1 = hd at *
      generalize (s.fresh t.name).2.2.2 = e at *
      have hkF1 : ¬ F1 k := fun u => (S1.own _ u).elim hk fun u => by omega
      refine ⟨F1, s1, p1, h.mod S1.mod hk, hkF1, hg.mod S1.mod hp.glob, by omega, fun he => ?_, fun he F' H' p3 S3 => ?_⟩
      · have he : e ≠ 0 := he
        rw [if_pos he] at hK1
        exact hK1 F1 H1 p1 S1
      · have he : ¬ e ≠ 0 := by simpa using he
        rw [if_neg he, if_neg (by decide)] at hK1
        exact hK1 F' H' p3 (S1.trans S3)
    | false =>
      refine br_f rfl ?_
      refine RowT.ld (c := cPtr) (i := 0) (x := at0 p) h rfl ?_
      refine RowT.ld (c := cStr) (i := 1) (x := t.name) h rfl ?_
      refine Pin_ok hg hp hnm (by decide) (by decide) (by omega) (by omega) fun F1 H1 p1 S1 => ?_
      have hK2 := hK2 rfl
      unfold Pl.over at hK2
      have hnx1 : (s.pin t.name 0).1.next ≤ s.next + 1 := s.pin_next h0 hnx
      generalize (s.pin t.name 0).1 = s1 at *
      generalize (s.pin t.name 0).2.1 = hd at *
      generalize (s.pin t.name 0).2.2 = e at *
      have hkF1 : ¬ F1 k := fun u => (S1.own _ u).elim hk fun u => by omega
      refine ⟨F1, s1, p1, h.mod S1.mod hk, hkF1, hg.mod S1.mod hp.glob, by omega, fun he => ?_, fun he F' H' p3 S3 => ?_⟩
      · have he : e ≠ 0 := he
        rw [if_pos he] at hK2
        exact hK2 F1 H1 p1 S1
      · have he : ¬ e ≠ 0 := by simpa using he
        rw [if_neg he] at hK2
        exact hK2 F' H' p3 (S1.trans S3)
  · rintro ⟨hdl, e⟩ H1 ⟨F1, s1, p1, t1, hkF1, g1, hnx1, c1, c2⟩
    dsimp only at c1 c2 ⊢
    refine br_mk (fun hc => c1 (by simpa using hc)) (fun hc2 => ?_)
    have c2 := c2 (by simpa using hc2)
    clear c1 hK1 hK2
    refine ⟨fun D => Ext H1 D, .refl _ _, ?_⟩
    simp only [optK_eq, at0]
    refine RowT.ldC (c := cInt .i64) (i := 2) (x := t.width) (cs := fun _ => (treV p t).toArray) (fun D hD => t1.ext hD) (fun _ _ => rfl) ?_
    refine RowT.ldC (c := cInt .i64) (i := 4) (x := t.depth) (cs := fun _ => (treV p t).toArray) (fun D hD => t1.ext hD) (fun _ _ => rfl) ?_
    refine RowT.ldC (c := cInt .i64) (i := 3) (x := t.root) (cs := fun _ => (treV p t).toArray) (fun D hD => t1.ext hD) (fun _ _ => rfl) ?_
    rw [hw, hd, hr, wrap8, wrap8]
    have ev : #[Value.int .u8 ((UInt8.ofNat W).toNat : Int), Value.int .u8 ((UInt8.ofNat depth).toNat : Int)] = ((u8i [UInt8.ofNat W, UInt8.ofNat depth]).map (Value.int .u8)).toArray := rfl
    -- the bytes' end
    have tail : ∀ (A : Heap) (b : Sl), Ext H1 A → Owns A 0 ty_uint8 1 b ((u8i ([UInt8.ofNat W, UInt8.ofNat depth] ++ be4 root)).map (Value.int .u8)) → (∀ c, ownB b c → H1.size ≤ c) →
        ∃ G_1 : Heap → Prop, G_1 A ∧ ldC cPtr G_1 (Addr.add ⟨k, 0, none⟩ 0) fun (x_7 : Option Addr) => ld (cInt .i64) A (Addr.add ⟨k, 0, none⟩ 5) fun (x_8 : Int) => newC A #[(.int .u64 (IntKind.u64.wrap x_8))] ty_uint64 fun p_1 H7 => G_1 H7 ∧ row_Put.sp (Sl.mk (some p_1) 1 1) H7 fun (r_3 : Sl) H8 => G_1 H8 ∧ doT cSl Tryz.prog (Builtin.append_ #[ty_sl_uint8, ty_sl_uint8] ty_sl_uint8 #[b.v, r_3.v]) H8 fun (s : Sl) H9 => G_1 H9 ∧ pool_Pool_Put.sp x_7 hdl (5 : Int) s H9 fun (e : Int) H10 => br (e == (0 : Int)) (ld cPtr H10 (Addr.add ⟨k, 0, none⟩ 0) fun (x_9 : Option Addr) => pool_Pool_Unpin.sp x_9 hdl H10 fun (e_1 : Int) H11 => K e_1 H11) (K e H10) := by
      intro A b eA ob fb
      refine ⟨fun D => Ext H1 D, eA, ?_⟩
      refine RowT.ldC (c := cPtr) (i := 0) (x := at0 p) (cs := fun _ => (treV p t).toArray) (fun D hD => t1.ext hD) (fun _ _ => rfl) ?_
      refine RowT.ld (c := cInt .i64) (i := 5) (x := t.count) (t1.ext eA) rfl ?_
      have ew : IntKind.u64.wrap t.count = (count : Int) := by rw [hc, IntKind.wrap_u64]; omega
      rw [ew]
      have eo : #[Value.int .u64 (count : Int)] = (([(count : Int)]).map (Value.int .u64)).toArray := rfl
      rw [eo]
      refine newC_ints _ fun pq H7 z7 q7 a7 e7 => ⟨eA.trans e7, ?_⟩
      refine rowPut_ok (a7 1) (by simp) fun sb H8 o8 e8 => ⟨(eA.trans e7).trans e8, ?_⟩
      have b8 : Byts H8 sb (bytesI (putL [(count : Int)])) := by
        unfold Byts
        rw [u8i_bytesI (putL_range _)]
        exact o8.ints
      have hz7 := (e7.trans e8).size
      refine appB (s := b) (x := sb) ((ob.ext e7).ext e8) b8 (by rw [bytesI_length, putOne]; show 6 + 8 ≤ 1000000; omega) fun b9 H9 o9 m9 f9 => ?_
      have e9 : Ext H1 H9 := ((Ext.mod ((eA.trans e7).trans e8)).trans m9).ext fb
      refine ⟨e9, ?_⟩
      have eb : [UInt8.ofNat W, UInt8.ofNat depth] ++ be4 root ++ bytesI (putL [(count : Int)]) = headT W depth root count := rfl
      rw [eb] at o9
      have SA : Step F1 F1 H1 H9 := .ofExt e9
      refine Put_ok (kd := 5) (l := headT W depth root count) (g1.mod e9 id) (p1.ext e9) o9.ints fun F2 H2 p2 S2 => ?_
      have hg2 : Gl H2 := (g1.mod e9 id).mod S2.mod p1.glob
      have hn2 : (s1.set hdl 5 (headT W depth root count)).1.next = s1.next := s1.set_next _ _ _
      generalize s1.set hdl 5 (headT W depth root count) = s2 at *
      refine br_mk (fun hc3 => ?_) (fun hc3 => ?_)
      · have e2 : s2.2 = 0 := by simpa using hc3
        refine RowT.ld (c := cPtr) (i := 0) (x := at0 p) ((t1.ext e9).mod S2.mod hkF1) rfl ?_
        refine Unpin_ok hg2 p2 (by omega) fun F3 H3 p3 S3 => ?_
        have el : Pl.leave s2 hdl = s2.1.unpin hdl := if_pos e2
        rw [el] at c2
        exact c2 F3 H3 p3 ((SA.trans S2).trans S3)
      · have e2 : s2.2 ≠ 0 := by simpa using hc3
        have el : Pl.leave s2 hdl = s2 := if_neg e2
        rw [el] at c2
        exact c2 F2 H2 p2 (SA.trans S2)
    have f5 : ∀ {A : Heap}, H1.size ≤ A.size → ∀ c, ownB (Sl.mk (some ⟨A.size, 0, none⟩) 2 2) c → H1.size ≤ c := by
      rintro A hA c ⟨ad, ha, rfl⟩
      cases ha; exact hA
    refine ⟨?_, ?_⟩
    · refine newC_bytes 2 [UInt8.ofNat W, UInt8.ofNat depth] ev rfl (by decide) fun H4 o4 e4 => And.intro e4 ?_
      refine tbytes_ok fun pb H5 b5 e5 q5 => And.intro (e4.trans e5) ?_
      have hz := (e4.trans e5).size
      refine appB (s := ⟨some ⟨H1.size, 0, none⟩, 2, 2⟩) (x := ⟨some pb, 4, 4⟩) (o4.ext e5) b5 (by rw [be4_length]; show 2 + 4 ≤ 1000000; omega) fun b6 H6 o6 m6 g6 => ?_
      have e6 : Ext H1 H6 := ((Ext.mod (e4.trans e5)).trans m6).ext (f5 (Nat.le_refl _))
      refine And.intro e6 (tail H6 b6 e6 o6 fun c u => ?_)
      rcases g6 c u with v | v
      · exact f5 (Nat.le_refl _) c v
      · omega
    · refine tbytes_ok fun pb H4 b4 e4 q4 => And.intro e4 ?_
      refine newC_bytes 2 [UInt8.ofNat W, UInt8.ofNat depth] ev rfl (by decide) fun H5 o5 e5 => And.intro (e4.trans e5) ?_
      have hz4 := e4.size
      have hz := (e4.trans e5).size
      refine appB (s := ⟨some ⟨H4.size, 0, none⟩, 2, 2⟩) (x := ⟨some pb, 4, 4⟩) o5 (b4.keep fun ad _ hl => e5.same _ hl id) (by rw [be4_length]; show 2 + 4 ≤ 1000000; omega) fun b6 H6 o6 m6 g6 => ?_
      have e6 : Ext H1 H6 := ((Ext.mod (e4.trans e5)).trans m6).ext (f5 hz4)
      refine And.intro e6 (tail H6 b6 e6 o6 fun c u => ?_)
      rcases g6 c u with v | v
      · exact f5 hz4 c v
      · omega
def tr0 (n : ByteArray) (W : Nat) : Tr := ⟨n, W, 1, 1, 0, 0, false⟩
def St.made (x : St) (W : Nat) : St := St.more ⟨x.N + 1, setT x.T x.N (5, headT W 1 1 0)⟩ ⟨[], []⟩
set_option maxHeartbeats 1000000 in
theorem tNew_ok {n : ByteArray} {x0 : St} {K : (Option Addr × Int) → Heap → Prop} (S : Store n q I B C) (hW : W ≤ 16) (hg : Gl H) (hp : PoolAt F H p dp s) (hm : m + 2 ≤ 30000000000)
    (hI : (s.d.create n).2 = 0 → I (s.setD (s.d.create n).1) x0 m)
    (hKc : (s.d.create n).2 ≠ 0 → ∀ F' A, PoolAt F' A p dp (s.setD (s.d.create n).1) → Step F F' H A → K (none, (s.d.create n).2) A)
    (hK1 : (s.d.create n).2 = 0 → x0.N + 1 < q → ∀ F' A s' k, PoolAt F' A p dp s' → Step F F' H A → TreeB A k p (tr0 n W) → ¬ F' k → H.size ≤ k → I s' (x0.made W) (m + 2) → K (at0 k, 0) A)
    (hKB : (s.d.create n).2 = 0 → ¬ x0.N + 1 < q → ∀ F' A s' e, PoolAt F' A p dp s' → Step F F' H A → B s' e → K (none, e) A)
    (hKC : ∀ F' A s' e, PoolAt F' A p dp s' → Step F F' H A → C s' e → K (none, e) A) : tree_New.sp (at0 p) n W H K := by
  refine tree_New.of ?_
  unfold tree_New.vc
  obtain ⟨_, _, hroom, _⟩ := fan_room hW
  refine br_f rfl ?_
  refine rowRoom_ok ?_
  refine br_f (by simp only [beq_eq_false_iff_ne, ne_eq]; omega) ?_
  refine PDisk_ok hp ?_
  obtain ⟨D, d1, _, d3⟩ := PoolAt.disk hg hp
  refine Create_ok d1 fun D' H3 d4 S4 => ?_
  obtain ⟨F3, p3, T3⟩ := d3 D' H3 _ d4 S4
  refine br_mk (fun hc => hKc (by simpa using hc) F3 H3 p3 T3) (fun hc => ?_)
  have hc0 : (s.d.create n).2 = 0 := by simpa using hc
  have hI := hI hc0
  have hK1 := hK1 hc0
  have hKB := hKB hc0
  clear hKc
  generalize s.setD (s.d.create n).1 = s3 at *
  have hg3 : Gl H3 := hg.mod T3.mod hp.glob
  refine newC_rowT fun H4 z4 r4 e4 => ?_
  have t4 : TreeB H4 H3.size p (tr0 n W) := r4
  have k4 : ¬ F3 H3.size := fun u => by have := p3.lt _ u; omega
  have T4 : Step F F3 H H4 := T3.trans (.ofExt e4)
  have hz3 := T3.mod.size
  obtain ⟨b1, b2, b3, b4, b5, b6⟩ := S.pre hI
  have hlen : (headT W 1 1 0).length ≤ 504 := by rw [headT_length]; omega
  refine thead_raw (fr := true) (W := W) (depth := 1) (root := 1) (count := 0) (hg3.mod e4 id) t4 (p3.ext e4) k4 rfl rfl rfl rfl (by decide) S.name (by omega) (by omega) b2 b4 (fun _ F5 H5 p5 S5 => ?_) (fun u => by cases u)
  have T5 := T4.trans S5
  have k5 : ¬ F5 H3.size := fun u => by
    rcases S5.own _ u with v | v
    · exact k4 v
    · omega
  have t5 : TreeB H5 H3.size p (tr0 n W) := t4.mod S5.mod k4
  have hz5 := S5.mod.size
  refine ⟨fun z A => ∃ F' s', PoolAt F' A p dp s' ∧ Step F F' H A ∧ ((z = 0 ∧ x0.N + 1 < q ∧ TreeB A H3.size p (tr0 n W) ∧ ¬ F' H3.size ∧ I s' (x0.made W) (m + 2)) ∨ (B s' z ∧ ¬ x0.N + 1 < q) ∨ C s' z), ?_, ?_⟩
  · change br ((s3.more n 5 (headT W 1 1 0)).2 == 0) _ _
    have hbad : ∀ e : Int, e ≠ 0 → ∀ (J : Int → Heap → Prop) (M : Prop), J e H5 → br (e == (0 : Int)) M (J e H5) := fun e he J M hj => br_f (by simpa using he) hj
    by_cases hN : x0.N < q
    · rcases S.more (kd := 5) (b := headT W 1 1 0) hI (by omega) hlen (by decide) hN with ⟨a1, a2, a3⟩ | hC
      · change PoolAt F5 H5 p dp (s3.more n 5 (headT W 1 1 0)).1 at p5
        rw [a1]
        refine br_t rfl ?_
        refine newC_rowT fun H7 z7 r7 e7 => ?_
        have hnb : ¬ F5 H5.size := fun u => by have := p5.lt _ u; omega
        have nd : NodeR F5 H7 H5.size (-1) (Sl.mk none 0 0) (Sl.mk none 0 0) ⟨[], []⟩ := ⟨r7, hnb, ⟨rfl, Reads.nil _ _⟩, (fun ad u => by cases u), ⟨rfl, (fun ad u => by cases u), fun i hi => by simp at hi⟩⟩
        have T7 : Step F F5 H H7 := T5.trans (.ofExt e7)
        have hg7 : Gl H7 := ((hg3.mod e4 id).mod S5.mod p3.glob).mod e7 id
        have hkn : H3.size ≠ H5.size := by omega
        have hdrop : ∀ {F8 : Nat → Prop} {A : Heap}, Step (fun b => F5 b ∨ b = H5.size) (fun b => F8 b ∨ b = H5.size) H7 A → Step F F8 H A := fun S8 => T7.drop (by omega) S8
        refine twrite_new (t := tr0 n W) S a3 (by omega) hg7 (t5.ext e7) (p5.ext e7) k5 hkn nd (by decide) (by simp) (by simp) (by simp) (fun hN2 F8 A s8 p8 S8 I8 n8 => ?_) (fun hN2 F8 A s8 e p8 S8 h8 hB => ?_) (fun F8 A s8 e p8 S8 h8 hC => ?_)
        · refine ⟨F8, s8, p8, hdrop S8, .inl ⟨rfl, hN2, (t5.ext e7).mod S8.mod fun u => u.elim k5 hkn, fun u => ?_, I8⟩⟩
          rcases S8.own _ (.inl u) with v | v
          · exact v.elim k5 hkn
          · omega
        · exact ⟨F8, s8, p8, hdrop S8, .inr (.inl ⟨hB, hN2⟩)⟩
        · exact ⟨F8, s8, p8, hdrop S8, .inr (.inr hC)⟩
      · exact br_f (by have := (S.errC hC).1; simpa using this) ⟨F5, _, p5, T5, .inr (.inr hC)⟩
    · rcases S.full (kd := 5) (b := headT W 1 1 0) hI (by omega) hlen (by decide) hN with hB | hC
      · exact br_f (by have := (S.errB hB).1; simpa using this) ⟨F5, _, p5, T5, .inr (.inl ⟨hB, by omega⟩)⟩
      · exact br_f (by have := (S.errC hC).1; simpa using this) ⟨F5, _, p5, T5, .inr (.inr hC)⟩
  · rintro z A ⟨F', s', pA, SA, hA⟩
    rcases hA with ⟨rfl, hN, tA, kA, IA⟩ | ⟨hB, hN⟩ | hC
    · exact br_f rfl (hK1 hN F' A s' H3.size pA SA tA kA hz3 IA)
    · exact br_t (by have := (S.errB hB).1; simpa using this) (hKB hN F' A s' z pA SA hB)
    · exact br_t (by have := (S.errC hC).1; simpa using this) (hKC F' A s' z pA SA hC)
def openT (n : ByteArray) (w : Int) (kb : UInt8 × List UInt8) : Option Tr :=
  if kb.1 = 5 ∧ kb.2.length = 14 ∧ ((kb.2.getD 0 0).toNat : Int) = w ∧ kb.2.getD 1 0 ≠ 0 ∧ wordOf (u8i (kb.2.drop 6)) ≤ 528482304 then
    some ⟨n, w, of4 (kb.2.drop 2), (kb.2.getD 1 0).toNat, wordOf (u8i (kb.2.drop 6)), 0, false⟩ else none
theorem getL_oneT {b : List Int} (h : b.length = 8) : getL b 1 = [[wordOf b]] := by
  have hs : sizeL 1 = 8 := by decide
  have ho : getOK b 1 = true := by unfold getOK; rw [hs, h]; rfl
  unfold getL
  rw [if_pos ho, hs, h]
  have : (8 / (8 : Int).toNat) = 1 := by decide
  rw [this]
  unfold rowsOf
  rw [hs]
  have ht : List.take 8 b = b := List.take_of_length_le (by omega)
  simp [List.range_succ, rowOf, chunkOf, ht]
set_option maxHeartbeats 1000000 in
theorem tOpen_ok {n : ByteArray} {w : Int} {K : (Option Addr × Int) → Heap → Prop} (S : Store n q I B C) (hg : Gl H) (hp : PoolAt F H p dp s) (hI : I s x m) (hm : m < 30000000000)
    (hKw : roomL w = 0 → K (none, 60) H)
    (hKf : roomL w ≠ 0 → x.N = 0 → ∀ F' A s', PoolAt F' A p dp s' → Step F F' H A → I s' x (m + 1) → K (none, 12) A)
    (hK0 : roomL w ≠ 0 → 0 < x.N → openT n w (x.T 0) = none → ∀ F' A s', PoolAt F' A p dp s' → Step F F' H A → I s' x (m + 1) → K (none, 280) A)
    (hK1 : roomL w ≠ 0 → 0 < x.N → ∀ t, openT n w (x.T 0) = some t → ∀ F' A s' k, PoolAt F' A p dp s' → Step F F' H A → TreeB A k p t → ¬ F' k → H.size ≤ k → I s' x (m + 1) → K (at0 k, 0) A)
    (hKC : ∀ F' A s' e, PoolAt F' A p dp s' → Step F F' H A → C s' e → K (none, e) A) : tree_Open.sp (at0 p) n w H K := by
  refine tree_Open.of ?_
  unfold tree_Open.vc
  refine br_f rfl ?_
  refine rowRoom_ok ?_
  refine br_mk (fun hc => hKw (by simpa using hc)) (fun hc => ?_)
  have hr : roomL w ≠ 0 := by simpa using hc
  refine newC_rowT fun H2 z2 r2 e2 => ?_
  have t2 : TreeB H2 H.size p ⟨n, w, 0, 0, 0, 0, false⟩ := r2
  have k2 : ¬ F H.size := fun u => by have := hp.lt _ u; omega
  have T2 : Step F F H H2 := .ofExt e2
  refine tlook_ok (t := ⟨n, w, 0, 0, 0, 0, false⟩) (g := 0) S hI hm (hg.mod e2 id) t2 (hp.ext e2) k2 (by omega) (fun hN F3 H3 s3 sl p3 S3 I3 o3 f3 => ?_) (fun hN F3 H3 s3 v sl p3 S3 I3 => ?_) (fun F3 H3 s3 v sl e p3 S3 hC => ?_)
  rotate_left
  · exact br_t rfl (hKf hr (by omega) F3 H3 s3 p3 (T2.trans S3) I3)
  · exact br_t (by have := (S.errC hC).1; simpa using this) (hKC F3 H3 s3 e p3 (T2.trans S3) hC)
  refine br_f rfl ?_
  have hK0 := hK0 hr hN
  have hK1 := hK1 hr hN
  have T3 := T2.trans S3
  have hsn : sl.n = (x.T 0).2.length := SlE.n o3 (by decide)
  have by3 := SlB_byts o3
  have hcap := o3.cap
  unfold openT at hK0 hK1
  generalize x.T 0 = kb at *
  dsimp only
  have bad : ∀ A, Ext H3 A → ¬ (kb.1 = 5 ∧ kb.2.length = 14 ∧ ((kb.2.getD 0 0).toNat : Int) = w ∧ kb.2.getD 1 0 ≠ 0 ∧ wordOf (u8i (kb.2.drop 6)) ≤ 528482304) → K (none, 280) A := fun A eA hn => hK0 (if_neg hn) F3 A s3 (p3.ext eA) (T3.trans (.ofExt eA)) I3
  refine br_mk (fun hc2 => bad H3 (.refl _ _) fun u => ?_) (fun hc2 => ?_)
  · rw [u.1, hsn, u.2.1] at hc2; simp at hc2
  have h5 : kb.1 = 5 := by
    simp only [Bool.or_eq_false_iff, bne_eq_false_iff_eq] at hc2
    exact UInt8.toNat_inj.1 (by have : (kb.1.toNat : Int) = 5 := hc2.1
                                have h : (5 : UInt8).toNat = 5 := rfl
                                omega)
  have h14 : kb.2.length = 14 := by
    simp only [Bool.or_eq_false_iff, bne_eq_false_iff_eq] at hc2
    omega
  have hul : (u8i kb.2).length = 14 := by rw [u8i_length]; exact h14
  refine ints_get by3 (j := 0) rfl (by omega) fun ad0 _ => ?_
  rw [u8iD]
  have hb0 := (kb.2.getD 0 0).toNat_lt
  have hb1 := (kb.2.getD 1 0).toNat_lt
  rw [wrap64 (x := ((kb.2.getD 0 0).toNat : Int)) (by omega) (by omega)]
  refine br_mk (fun hc3 => bad H3 (.refl _ _) fun u => ?_) (fun hc3 => ?_)
  · rw [u.2.2.1] at hc3; simp at hc3
  have hwid : ((kb.2.getD 0 0).toNat : Int) = w := by simpa only [bne_eq_false_iff_eq] using hc3
  refine ints_get by3 (j := 1) rfl (by omega) fun ad1 _ => ?_
  rw [u8iD]
  refine br_mk (fun hc4 => bad H3 (.refl _ _) fun u => u.2.2.2.1 (UInt8.toNat_inj.1 (by have : ((kb.2.getD 1 0).toNat : Int) = 0 := by simpa using hc4
                                                                                        have h : (0 : UInt8).toNat = 0 := rfl
                                                                                        omega))) (fun hc4 => ?_)
  have hdep : kb.2.getD 1 0 ≠ 0 := fun u => by rw [u] at hc4; simp at hc4
  refine ⟨by omega, ?_⟩
  have hd := by3.drop hcap 6
  have hl8 : (u8i (kb.2.drop 6)).length = 8 := by rw [u8i_length, List.length_drop]; omega
  refine rowGet_ok (b := u8i (kb.2.drop 6)) hd (by show sl.n - 6 ≤ sl.c - 6; omega) (fun y hy => ?_) (by omega) fun sr rs H5 ro e5 => ?_
  · unfold u8i at hy
    obtain ⟨c, _, rfl⟩ := List.mem_map.1 hy
    have := c.toNat_lt; omega
  rw [getL_oneT hl8] at ro
  refine ro.rows.ld (i := 0) (by simp) fun ad2 x1 ha2 hx1 => ?_
  have hx1' : Ints .u64 H5 x1 [wordOf (u8i (kb.2.drop 6))] := hx1
  refine ints_get hx1' (i := 0) (j := 0) rfl (by simp) fun ad3 ha3 => ?_
  have hwr := wordOf_range (u8i (kb.2.drop 6))
  simp only [List.getD_cons_zero]
  refine br_mk (fun hc5 => bad H5 e5 fun u => ?_) (fun hc5 => ?_)
  · have : wordOf (u8i (kb.2.drop 6)) > 528482304 := by simpa using hc5
    omega
  have hcnt : wordOf (u8i (kb.2.drop 6)) ≤ 528482304 := by simpa using hc5
  have hall : kb.1 = 5 ∧ kb.2.length = 14 ∧ ((kb.2.getD 0 0).toNat : Int) = w ∧ kb.2.getD 1 0 ≠ 0 ∧ wordOf (u8i (kb.2.drop 6)) ≤ 528482304 := ⟨h5, h14, hwid, hdep, hcnt⟩
  have hK1 := hK1 _ (if_pos hall)
  refine ⟨fun D => Ext H5 D, .refl _ _, ?_⟩
  obtain ⟨ad4, q4, c4⟩ := (by3.keep fun ad _ hl => e5.same _ hl id : Byts H5 sl kb.2).at (i := 1) (by omega)
  have e41 : (u8i kb.2)[1]'(by omega) = ((kb.2.getD 1 0).toNat : Int) := by
    rw [← u8iD]; simp [List.getD, List.getElem?_eq_getElem (show 1 < (u8i kb.2).length by omega)]
  rw [e41] at c4
  refine optK_mk ad4 q4 ⟨⟨by omega, by omega⟩, ((kb.2.getD 1 0).toNat : Int), fun D hD => hD.cell c4 id, ?_⟩
  refine ⟨by omega, ?_⟩
  have hd2 : Byts H5 (Sl.mk (slA sl.a sl.c 2 1) (sl.n - 2) (sl.c - 2)) (kb.2.drop 2) := (by3.drop hcap 2).keep fun ad _ hl => e5.same _ hl id
  refine tnumber_ok hd2 (by rw [List.length_drop]; omega) ?_
  refine ⟨.refl _ _, ?_⟩
  obtain ⟨ad5, y5, q5, c5, i5⟩ := ro.rows.at' 0 (by simp)
  have i5' : Ints .u64 H5 y5 [wordOf (u8i (kb.2.drop 6))] := i5
  refine optK_mk ad5 q5 ⟨⟨by omega, by rw [ro.n]; simp⟩, y5, fun D hD => hD.cell c5 id, ?_⟩
  obtain ⟨ad6, q6, c6⟩ := i5'.at (i := 0) (by simp)
  refine optK_mk ad6 q6 ⟨⟨by omega, by rw [i5'.len]; simp⟩, wordOf (u8i (kb.2.drop 6)), fun D hD => hD.cell c6 id, ?_⟩
  have t5 : TreeB H5 H.size p ⟨n, w, 0, 0, 0, 0, false⟩ := (t2.mod S3.mod k2).ext e5
  dsimp only
  rw [wrap64 (x := ((kb.2.getD 1 0).toNat : Int)) (by omega) (by omega), wrap64 (x := wordOf (u8i (kb.2.drop 6))) (by omega) (by omega)]
  refine RowT.st t5 (i := 4) (by simp [treV]) rfl fun A1 r1 m1 z1 => ?_
  refine RowT.st r1 (i := 3) (by simp [treV]) rfl fun A2 r2' m2 z2' => ?_
  refine RowT.st r2' (i := 5) (by simp [treV]) rfl fun A3 r3 m3 z3 => ?_
  have k3 : ¬ F3 H.size := fun u => by
    rcases S3.own _ u with v | v
    · exact k2 v
    · omega
  have mm := (m1.trans m2).trans m3
  have hz3 := T3.mod.size
  have hz5 := e5.size
  refine hK1 F3 A3 s3 H.size ((p3.ext e5).offK mm k3) ⟨⟨by have := mm.size; omega, fun b hb hF => ?_⟩, T3.own⟩ ?_ k3 (Nat.le_refl _) I3
  · rw [mm.same b (by omega) (by omega), e5.same b (by omega) id]
    exact T3.mod.same b hb hF
  · have et : (((treV p ⟨n, w, 0, 0, 0, 0, false⟩).toArray.setIfInBounds 4 (.int .i64 ((kb.2.getD 1 0).toNat : Int))).setIfInBounds 3 (.int .i64 (of4 (kb.2.drop 2) : Int))).setIfInBounds 5 (.int .i64 (wordOf (u8i (kb.2.drop 6)))) = (treV p ⟨n, w, of4 (kb.2.drop 2), (kb.2.getD 1 0).toNat, wordOf (u8i (kb.2.drop 6)), 0, false⟩).toArray := by
      simp [treV]
    rw [et] at r3
    exact r3
end
end Go.Proofs.YtmdiinakfpgdjaaGreatDoor

/-
  Trees: plain laws: a tree that holds just these rows.
-/
namespace Go.Proofs.YtmdiinakfpgdjaaGreatDoor
structure TreeOn (x : St) (W root depth : Nat) (L : List (List Int)) (P : List Nat) : Prop where
  tn : Tn x W depth (depth - 1) root span0 L P
  nodup : P.Nodup
  deep : 1 ≤ depth
  head : 0 ∉ P
  pages : P.length + 1 = x.N
theorem span0_has (l : List Int) : span0.Has l := ⟨fun a h => (by cases h), fun a h => (by cases h)⟩
theorem made_treeOn {T : Nat → UInt8 × List UInt8} {W : Nat} (hW : W ≤ 16) : TreeOn (St.made ⟨0, T⟩ W) W 1 1 [] [1] := by
  refine ⟨?_, by simp, Nat.le_refl _, by simp, rfl⟩
  refine Tn.mk (n := ⟨[], []⟩) (Q := []) hW (by show 1 < 2; decide) (by exact setT_same (setT T 0 (5, headT W 1 1 0)) 1 _) ⟨fun _ => rfl, fun q => by omega, by decide, fun q => by omega, fun l hl => (by cases hl), fun k hk => (by cases hk), by decide⟩ ⟨rfl, rfl, rfl⟩
theorem asc_nodup {L : List (List Int)} (h : Asc L) : L.Nodup := List.Pairwise.imp (fun {a b} h e => by subst e; exact ltR_irr _ h) h
theorem Plus.length {l : List Int} {L L' : List (List Int)} (h : Plus l L L') (h1 : Asc L) (h2 : Asc L') (hl : l ∉ L) : L'.length = L.length + 1 := by
  have p : L'.Perm (l :: L) := (List.perm_ext_iff_of_nodup (asc_nodup h2) (List.nodup_cons.2 ⟨hl, asc_nodup h1⟩)).2 fun a => by
    rw [h a, List.mem_cons]
  simpa using p.length_eq
theorem asc_eq : ∀ {A B : List (List Int)}, Asc A → Asc B → (∀ y, y ∈ A ↔ y ∈ B) → A = B
  | [], [], _, _, _ => rfl
  | [], b :: B, _, _, h => by have := (h b).2 List.mem_cons_self; cases this
  | a :: A, [], _, _, h => by have := (h a).1 List.mem_cons_self; cases this
  | a :: A, b :: B, h1, h2, h => by
    obtain ⟨a1, a2⟩ := List.pairwise_cons.1 h1
    obtain ⟨b1, b2⟩ := List.pairwise_cons.1 h2
    have e : a = b := by
      rcases List.mem_cons.1 ((h a).1 List.mem_cons_self) with q | q
      · exact q
      · rcases List.mem_cons.1 ((h b).2 List.mem_cons_self) with r | r
        · exact r.symm
        · exact absurd (ltR_trans (b1 a q) (a1 b r)) (ltR_irr b)
    subst e
    rw [asc_eq a2 b2 fun y => ?_]
    constructor
    · intro hy
      rcases List.mem_cons.1 ((h y).1 (List.mem_cons_of_mem _ hy)) with q | q
      · subst q; exact absurd (a1 y hy) (ltR_irr _)
      · exact q
    · intro hy
      rcases List.mem_cons.1 ((h y).2 (List.mem_cons_of_mem _ hy)) with q | q
      · subst q; exact absurd (b1 y hy) (ltR_irr _)
      · exact q
section
variable {x : St} {W root depth : Nat} {L : List (List Int)} {P : List Nat}
theorem TreeOn.asc (h : TreeOn x W root depth L P) : Asc L := h.tn.rows.1
theorem TreeOn.bounds (h : TreeOn x W root depth L P) (hL : L.length ≤ 400) : depth ≤ 401 ∧ x.N ≤ 802 ∧ root < x.N ∧ root ≠ 0 := by
  have hp := h.tn.page
  have hr : root ≠ 0 := fun e => h.head (e ▸ hp.1)
  have h1 := h.pages
  rcases Nat.lt_or_ge 1 depth with q | q
  · obtain ⟨s1, s2⟩ := h.tn.sizes q
    have := Nat.lt_two_pow_self (n := depth - 1)
    refine ⟨by omega, by omega, hp.2, hr⟩
  · have hd : depth = 1 := by have := h.deep; omega
    subst hd
    obtain ⟨n, a1, a2, a3, a4⟩ := h.tn
    rw [a4] at h1
    simp at h1
    exact ⟨by omega, by omega, hp.2, hr⟩
theorem TreeOn.ins {l : List Int} (h : TreeOn x W root depth L P) (hW : W ≤ 16) (hl : l.length = W ∧ fitsL l) (hL : L.length ≤ 400) (n : ByteArray) :
    (l ∈ L ∧ x.ins 5000 ⟨n, W, root, depth, L.length, 0, false⟩ root depth l = .ok false ⟨n, W, root, depth, L.length, 0, false⟩ x) ∨
    (l ∉ L ∧ ∃ x' root' depth' L' P', x.ins 5000 ⟨n, W, root, depth, L.length, 0, false⟩ root depth l = .ok true ⟨n, W, (root' : Nat), (depth' : Nat), L'.length, 0, false⟩ x' ∧ TreeOn x' W root' depth' L' P' ∧ Plus l L L' ∧ L'.length = L.length + 1) := by
  obtain ⟨b1, b2, b3, b4⟩ := h.bounds hL
  have hd := h.deep
  have hadd := add_ok (q := 5000) hW hl h.tn h.nodup (span0_has l) (by omega) (by omega)
  unfold St.ins
  show (l ∈ L ∧ (match x.add W 5000 depth l (depth - 1) root span0 with
    | .store => InsR.store
    | .quota => .quota
    | .ok f none x' => .ok f (Tr.up ⟨n, W, root, depth, L.length, 0, false⟩ f) x'
    | .ok f (some m) x' => if x'.N < 5000 then .ok f ((Tr.grown ⟨n, W, root, depth, L.length, 0, false⟩ x'.N (depth + 1)).up f) (x'.more ⟨[root, m.1], [m.2]⟩) else .quota) = _) ∨ (l ∉ L ∧ ∃ x' root' depth' L' P', (match x.add W 5000 depth l (depth - 1) root span0 with
    | .store => InsR.store
    | .quota => .quota
    | .ok f none x' => .ok f (Tr.up ⟨n, W, root, depth, L.length, 0, false⟩ f) x'
    | .ok f (some m) x' => if x'.N < 5000 then .ok f ((Tr.grown ⟨n, W, root, depth, L.length, 0, false⟩ x'.N (depth + 1)).up f) (x'.more ⟨[root, m.1], [m.2]⟩) else .quota) = _ ∧ _)
  rcases hadd with ⟨i1, i2⟩ | ⟨i1, i2⟩
  · left
    rw [i2]
    exact ⟨i1, rfl⟩
  · right
    refine ⟨i1, ?_⟩
    generalize x.add W 5000 depth l (depth - 1) root span0 = r at i2
    have hpg := h.pages
    cases i2 with
    | put t1 p1 g1 n1 =>
      rename_i x' L' P'
      have hlen := p1.length h.asc t1.rows.1 i1
      have gl := g1.len
      refine ⟨x', root, depth, L', P', ?_, ⟨t1, g1.nodup, hd, fun q => ?_, by omega⟩, p1, hlen⟩
      · show InsR.ok true _ _ = _
        unfold Tr.up
        rw [if_pos rfl, hlen]; rfl
      · rcases g1.mem 0 q with v | v
        · exact h.head v
        · omega
    | cut t1 t2 p1 g1 u1 u2 u3 u4 u5 n1 =>
      rename_i x' g up L1 L2 P1 P2
      have hlt1 := t1.lt
      have hlt2 := t2.lt
      have gl := g1.len
      have gle := g1.le
      have hltP : ∀ p ∈ P1 ++ P2, p < x'.N := fun p hp => by
        rcases List.mem_append.1 hp with v | v
        · exact hlt1 p v
        · exact hlt2 p v
      have hd0 : 1 < depth ∨ (depth - 1 = 0 ∧ L1 ≠ []) := by
        rcases Nat.lt_or_ge 1 depth with q | q
        · exact .inl q
        · exact .inr ⟨by omega, (u5 (by omega)).1⟩
      have hd1 : 1 < depth ∨ (depth - 1 = 0 ∧ L2 ≠ []) := by
        rcases Nat.lt_or_ge 1 depth with q | q
        · exact .inl q
        · exact .inr ⟨by omega, (u5 (by omega)).2⟩
      have hne : ∀ p ∈ P1 ++ P2, (x'.more ⟨[root, g], [up]⟩).T p = x'.T p := fun p hp => by
        have := hltP p hp
        exact setT_other (by omega)
      have c1 := (t1.deep (d' := depth + 1) hd0).congr (x' := x'.more ⟨[root, g], [up]⟩) (Nat.le_succ _) fun p hp => hne p (List.mem_append.2 (.inl hp))
      have c2 := (t2.deep (d' := depth + 1) hd1).congr (x' := x'.more ⟨[root, g], [up]⟩) (Nat.le_succ _) fun p hp => hne p (List.mem_append.2 (.inr hp))
      have hbl : Nd.bytes ⟨[root, g], [up]⟩ = Nd.bytes ⟨[root, g], [up]⟩ := rfl
      have fine : Nd.Fine ⟨[root, g], [up]⟩ W (depth + 1) (depth - 1 + 1) span0 := by
        refine ⟨fun q => by omega, fun _ => ⟨rfl, Nat.le_refl _⟩, holds_iff.2 ⟨List.pairwise_singleton _ _, fun y _ => span0_has y⟩, fun _ q => (by cases q), fun y hy => ?_, fun k hk => ?_, ?_⟩
        · have : y = up := by simpa using hy
          rw [this]; exact ⟨u3, u4⟩
        · have : k = root ∨ k = g := by simpa using hk
          have hg := t2.page.2
          rcases this with v | v
          · omega
          · omega
        · rw [Nd.bytes_length hW fun y hy => by
            have : y = up := by simpa using hy
            rw [this]; exact u3]
          rw [if_neg (by simp), (sizeL_nat hW).2]
          simp only [List.length_cons, List.length_nil]
          split <;> omega
      have tree : Tn (x'.more ⟨[root, g], [up]⟩) W (depth + 1) (depth - 1 + 1) x'.N span0 (L1 ++ L2) (x'.N :: (P1 ++ P2)) := by
        refine Tn.mk hW (Nat.lt_succ_self _) (setT_same _ _ _) fine ⟨[L1, L2], [P1, P2], ⟨rfl, rfl, rfl, fun i hi => ?_⟩, by simp, by simp⟩
        have : i = 0 ∨ i = 1 := by
          have : i < 2 := hi
          omega
        rcases this with v | v
        · subst v; exact c1
        · subst v; exact c2
      rw [show depth - 1 + 1 = depth + 1 - 1 by omega] at tree
      have hlen := p1.length h.asc tree.rows.1 i1
      refine ⟨x'.more ⟨[root, g], [up]⟩, x'.N, depth + 1, L1 ++ L2, x'.N :: (P1 ++ P2), ?_, ⟨tree, List.nodup_cons.2 ⟨fun q => by have := hltP _ q; omega, g1.nodup⟩, by omega, fun q => ?_, ?_⟩, p1, hlen⟩
      · show (if x'.N < 5000 then InsR.ok true _ _ else .quota) = _
        rw [if_pos (by omega)]
        unfold Tr.up
        rw [if_pos rfl, hlen]; rfl
      · rcases List.mem_cons.1 q with v | v
        · omega
        · rcases g1.mem 0 v with u | u
          · exact h.head u
          · omega
      · show (x'.N :: (P1 ++ P2)).length + 1 = x'.N + 1
        rw [List.length_cons]; omega
theorem TreeOn.fnd {low : List Int} {strict : Bool} {t : Tr} (h : TreeOn x W root depth L P) (hw : t.width = (W : Int)) : x.fnd t root depth low strict = some ((L.filter (pq low strict)).head?) := by
  unfold St.fnd
  rw [hw]
  exact h.tn.find
theorem TreeOn.congr {x' : St} (h : TreeOn x W root depth L P) (hN : x'.N = x.N) (hT : ∀ p, p ≠ 0 → p < x.N → x'.T p = x.T p) : TreeOn x' W root depth L P :=
  ⟨h.tn.congr (Nat.le_of_eq hN.symm) fun p hp => hT p (fun e => h.head (e ▸ hp)) (h.tn.lt p hp), h.nodup, h.deep, h.head, by rw [hN]; exact h.pages⟩
end
theorem filter_next : ∀ {L : List (List Int)} {p : List Int → Bool} {y : List Int} {r : List (List Int)}, Asc L → (∀ a b, ltR a b → p a = true → p b = true) → L.filter p = y :: r → L.filter (pq y true) = r
  | [], p, y, r, _, _, h => by cases h
  | a :: L, p, y, r, h1, hp, h => by
    obtain ⟨a1, a2⟩ := List.pairwise_cons.1 h1
    rw [List.filter_cons] at h
    split at h
    · rename_i hpa
      cases h
      have e0 : pq a true a = false := by
        unfold pq
        have : ¬ cmpL a a < 0 := ltR_irr a
        simpa using this
      rw [List.filter_cons, if_neg (by rw [e0]; simp)]
      apply List.filter_congr
      intro b hb
      have hab := a1 b hb
      rw [pq_above hab, hp a b hab hpa]
    · have hy : y ∈ L := by
        have : y ∈ L.filter p := by rw [h]; exact List.mem_cons_self
        exact (List.mem_filter.1 this).1
      have hay := a1 y hy
      rw [List.filter_cons, if_neg (by rw [pq_below hay]; simp)]
      exact filter_next a2 hp h
theorem pq_up {low : List Int} {strict : Bool} (a b : List Int) (h : ltR a b) (ha : pq low strict a = true) : pq low strict b = true := by
  rcases ltR_tri a low with q | q | q
  · rw [pq_below q] at ha; cases ha
  · subst q; exact pq_above h
  · exact pq_above (ltR_trans q h)
def curAt (F : List (List Int)) (low : List Int) (i : Nat) : List Int × Bool := if i = 0 then (low, false) else (F.getD (i - 1) [], true)
theorem cur_head {L : List (List Int)} {low : List Int} (h : Asc L) : ∀ {i : Nat}, i ≤ (L.filter (pq low false)).length → L.filter (pq (curAt (L.filter (pq low false)) low i).1 (curAt (L.filter (pq low false)) low i).2) = (L.filter (pq low false)).drop i
  | 0, _ => rfl
  | i + 1, hi => by
    have ih := cur_head (L := L) (low := low) h (i := i) (by omega)
    have hlt : i < (L.filter (pq low false)).length := by omega
    have e : (L.filter (pq low false)).drop i = (L.filter (pq low false)).getD i [] :: (L.filter (pq low false)).drop (i + 1) := by
      rw [List.drop_eq_getElem_cons hlt, getDo hlt]
    rw [e] at ih
    have := filter_next h (fun a b hab => pq_up a b hab) ih
    unfold curAt
    rw [if_neg (by omega)]
    exact this
theorem part_drop {L : List (List Int)} {low : List Int} (h : Asc L) : L.filter (pq low false) = L.drop (L.length - (L.filter (pq low false)).length) ∧ ∀ i, i < L.length → (cmpL (L.getD i []) low ≥ 0 ↔ L.length - (L.filter (pq low false)).length ≤ i) := by
  have hr := asc_rises.2 h
  have hdown := rises_down hr low
  have hb := below_leT low L
  have e : L.filter (pq low false) = L.drop (below low L) := head_drop hb (fun i hi => pq_below (below_lo hi)) fun i hi hl => by
    have h1 : ¬ cmpL (L.getD i []) low < 0 := fun q => by
      have := hdown (below low L) i hi hl q
      exact below_hi (ll := low) (ls := L) (by omega) this
    unfold pq
    simpa using h1
  have el : L.length - (L.filter (pq low false)).length = below low L := by rw [e, List.length_drop]; omega
  rw [el]
  refine ⟨e, fun i hi => ?_⟩
  constructor
  · intro q
    apply Decidable.byContradiction
    intro hn
    have := below_lo (ll := low) (ls := L) (x := i) (by omega)
    omega
  · intro q
    have h1 : ¬ cmpL (L.getD i []) low < 0 := fun u => by
      have := hdown (below low L) i q hi u
      exact below_hi (ll := low) (ls := L) (by omega) this
    omega
end Go.Proofs.YtmdiinakfpgdjaaGreatDoor

/-
  Trees: a tree that was made; two rows, and a cursor (works); a tree that is not there.
-/
namespace Go.Proofs.YtmdiinakfpgdjaaGreatDoor
open Go.MapKept
structure TT (H0 A : Heap) (F : Nat → Prop) (k p dp : Nat) (s : Pl) (t : Tr) : Prop where
  ext : Ext H0 A
  pool : PoolAt F A p dp s
  row : TreeB A k p t
  off : ¬ F k
  old : ∀ b, F b ∨ b = k → H0.size ≤ b
section
variable {H0 A B : Heap} {F F' : Nat → Prop} {k p dp : Nat} {s s' : Pl} {t t' : Tr}
theorem TT.gl (h : TT H0 A F k p dp s t) (hg : Gl H0) : Gl A := hg.mod h.ext id
theorem TT.step (h : TT H0 A F k p dp s t) (S : Step (fun b => F b ∨ b = k) (fun b => F' b ∨ b = k) A B) (hp : PoolAt F' B p dp s') (ht : TreeB B k p t') (hk : ¬ F' k) : TT H0 B F' k p dp s' t' :=
  ⟨⟨Nat.le_trans h.ext.size S.mod.size, fun b hb _ => (S.mod.same b (Nat.lt_of_lt_of_le hb h.ext.size) fun q => by have := h.old b q; omega).trans (h.ext.same b hb id)⟩, hp, ht, hk, fun b hb => by
    rcases S.own b hb with q | q
    · exact h.old b q
    · exact Nat.le_trans h.ext.size q⟩
theorem TT.grow (h : TT H0 A F k p dp s t) (e : Ext A B) : TT H0 B F k p dp s t := ⟨h.ext.trans e, h.pool.ext e, h.row.ext e, h.off, h.old⟩
end
structure Leaf (x : St) (rows : List (List Int)) : Prop where
  N : x.N = 2
  T : x.T 1 = Nd.page ⟨[], rows⟩
  fine : Nd.Fine ⟨[], rows⟩ 1 1 0 span0
theorem Leaf.node {x : St} {rows : List (List Int)} (h : Leaf x rows) : x.node ((1 : Nat) : Int) 1 0 1 span0 = some ⟨[], rows⟩ := by
  unfold St.node
  rw [h.N, if_pos (by decide), h.T]
  exact h.fine.read (by decide)
theorem leaf_fine {rows : List (List Int)} (h1 : span0.holds rows = true) (h2 : ∀ l ∈ rows, l.length = 1 ∧ fitsL l) (h3 : rows.length ≤ 60) : Nd.Fine ⟨[], rows⟩ 1 1 0 span0 := by
  refine ⟨fun _ => rfl, fun h => by omega, h1, fun h => by omega, h2, by simp, ?_⟩
  rw [Nd.bytes_length (W := 1) (by decide) fun l hl => (h2 l hl).1]
  have : (sizeL ((1 : Nat) : Int)).toNat = 8 := by decide
  rw [this]; simp; omega
theorem fits1 {a : Int} (h : 0 ≤ a ∧ a < 100) : fitsL [a] := fun x hx => by simp at hx; subst hx; omega
def works0 : Nat → UInt8 × List UInt8 := fun _ => (0, [])
theorem leaf0 : Leaf (St.made ⟨0, works0⟩ 1) [] := ⟨rfl, rfl, leaf_fine (by decide) (by simp) (by simp)⟩
theorem Leaf.ins {x : St} {rows : List (List Int)} {t : Tr} {l : List Int} {q : Nat} (h : Leaf x rows) (hw : t.width = ((1 : Nat) : Int)) :
    x.ins q t 1 1 l = if sameAt rows l then .ok false t x else match x.fin ((1 : Nat) : Int) q 0 1 ⟨[], insAt (below l rows) l rows⟩ with
      | .store => .store
      | .quota => .quota
      | .ok f none x' => .ok f (t.up f) x'
      | .ok f (some m) x' => if x'.N < q then .ok f ((t.grown x'.N 2).up f) (x'.more ⟨[1, m.1], [m.2]⟩) else .quota := by
  unfold St.ins
  rw [hw, show 1 - 1 = 0 from rfl]
  unfold St.add
  rw [h.node]
  simp only
  cases hs : sameAt rows l with
  | true => rw [if_pos rfl, if_pos rfl]; try rfl
  | false => rw [if_neg (by simp), if_neg (by simp)]; try rfl
theorem Leaf.fnd {x : St} {rows : List (List Int)} {t : Tr} {l : List Int} {strict : Bool} (h : Leaf x rows) (hw : t.width = ((1 : Nat) : Int)) : x.fnd t 1 1 l strict = some (leafAt rows l strict) := by
  unfold St.fnd
  rw [hw, show 1 - 1 = 0 from rfl]
  unfold St.find
  rw [h.node]
section
variable {H : Heap} {K : Bool → Heap → Prop}
theorem one_word {A B : Heap} {v : Int} (r : RowT B A.size ty_uint64 #[.int .u64 v]) : Ints .u64 B ⟨some ⟨A.size, 0, none⟩, 1, 1⟩ [v] := by
  refine ⟨rfl, fun i u hu => ⟨_, rfl, ?_⟩⟩
  have hi : i = 0 := by have := (List.getElem?_eq_some_iff.1 hu).1; simp at this; omega
  subst hi
  simp at hu; subst hu
  rw [add_lit0]
  exact r.cell rfl
set_option maxHeartbeats 2000000 in
theorem tworks_ok (hg : Gl H) (hK : ∀ B, Ext H B → K true B) : fathomlaw09_works.sp H K := by
  refine fathomlaw09_works.of ?_
  unfold fathomlaw09_works.vc
  have hsz : nmF.size ≤ 9223372036854775807 := by decide
  have S := calm_store (n := nmF) (q := 20) (most := 8) hsz (by decide)
  refine New_ok (by decide) fun F1 d H1 a1 e1 f1 => ?_
  refine TP.new (m := 8) hg e1 a1 f1 (by decide) (by decide) fun p H2 t2 => ?_
  obtain ⟨e2, F2, p2, f2⟩ := t2
  obtain ⟨c1, c2, c3, c4⟩ := create_live (q := 20) (n := nmF) (by decide) (by decide) nmF_named
  have hcr : ((pl0 (dk0 20) 8).d.create nmF).2 = 0 := c3
  have I0 : CalmI nmF 20 8 ((pl0 (dk0 20) 8).setD ((pl0 (dk0 20) 8).d.create nmF).1) ⟨0, works0⟩ 1 :=
    ⟨⟨⟨_, pl0_told c1⟩, pl0_wf (by decide) (by decide), by intro f hf; cases hf⟩, (by show (0 : Int) ≤ 1; decide), (by show (1 : Int) ≤ 1; decide), (by show ((dk0 20).create nmF).1.logs ≤ 2; rw [c4]; decide), (by decide), (fun _ => by show ([] : List UInt8).length ≤ 504; decide), rfl⟩
  refine tNew_ok (W := 1) (m := 1) (x0 := ⟨0, works0⟩) S (by decide) (hg.mod e2 id) p2 (by decide) (fun _ => I0) (fun u => absurd hcr u) (fun _ _ F3 H3 s3 k p3 S3 t3 k3 hk3 I3 => ?_) (fun _ u => absurd (show (0 + 1 : Nat) < 20 by decide) u) (fun F3 H3 s3 e p3 S3 hC => hC.elim)
  have T3 : TT H H3 F3 k p d s3 (tr0 nmF 1) := by
    refine ⟨⟨Nat.le_trans e2.size S3.mod.size, fun b hb _ => (S3.mod.same b (Nat.lt_of_lt_of_le hb e2.size) fun q => by have := f2 b q; omega).trans (e2.same b hb id)⟩, p3, t3, k3, fun b hb => ?_⟩
    rcases hb with u | u
    · rcases S3.own b u with v | v
      · exact f2 b v
      · exact Nat.le_trans e2.size v
    · subst u; exact Nat.le_trans e2.size hk3
  refine br_f rfl (br_f rfl ?_)
  have L0 := leaf0
  generalize St.made ⟨0, works0⟩ 1 = x0 at *
  -- an insertion
  have ins : ∀ (x : St) (t : Tr) (rows : List (List Int)) (v : Int) (m : Nat) (s : Pl) (F : Nat → Prop) (A : Heap) (K' : Bool × Int → Heap → Prop) (f : Bool) (t' : Tr) (rows' : List (List Int)), Leaf x rows → t.name = nmF → t.width = 1 → t.root = 1 → t.depth = 1 → 0 ≤ t.count ∧ t.count ≤ 10 → t.ready = 0 → m ≤ 1000000 →
      CalmI nmF 20 8 s x m → TT H A F k p d s t → (0 ≤ v ∧ v < 100) → (sameAt rows [v] = true ∧ f = false ∧ t' = t ∧ rows' = rows ∨ sameAt rows [v] = false ∧ f = true ∧ t' = t.up true ∧ rows' = insAt (below [v] rows) [v] rows ∧ rows'.length ≤ 10 ∧ span0.holds rows' = true ∧ ∀ l ∈ rows', l.length = 1 ∧ fitsL l) →
      (∀ F' B s' x', TT H B F' k p d s' t' → CalmI nmF 20 8 s' x' (m + 4000) → Leaf x' rows' → K' (f, 0) B) →
      newC A #[(.int .u64 v)] ty_uint64 fun pp H4 => tree_Tree_Insert.sp (at0 k) (Sl.mk (some pp) 1 1) H4 K' := by
    intro x t rows v m s F A K' f t' rows' hL hn hw hr hd hc hrd hm hI hT hv hcase hk'
    refine newC_rowT fun A4 z4 r4 e4 => ?_
    have hT4 := hT.grow e4
    have S' : Store t.name 20 (CalmI nmF 20 8) (FullB 20) (fun _ _ => False) := by rw [hn]; exact S
    refine tInsert_ok (W := 1) (root := 1) (depth := 1) (ll := [v]) S' hw (by decide) hr hd (by decide) (by decide) (by omega) hI (by omega) (hT4.gl hg) hT4.row hT4.pool hT4.off (one_word r4) (fun u => absurd hrd u) (fun _ u => absurd rfl u) (fun _ _ f2 t2 x2 hins F5 A5 s5 p5 S5 k5 t5 I5 => ?_) (fun _ _ hins => ?_) (fun _ _ hins => ?_) (fun _ _ _ _ _ _ _ _ hC => hC.elim)
    · rw [hL.ins hw] at hins
      rcases hcase with ⟨c1, rfl, rfl, rfl⟩ | ⟨c1, rfl, rfl, rfl, c5, c6, c7⟩
      · rw [if_pos c1] at hins
        cases hins
        exact hk' F5 A5 s5 _ (hT4.step S5 p5 t5 k5) I5 hL
      · rw [if_neg (by rw [c1]; simp)] at hins
        have hnf : (⟨[], insAt (below [v] rows) [v] rows⟩ : Nd).full ((1 : Nat) : Int) 0 = false := by
          unfold Nd.full
          have e1 : roomL ((1 : Nat) : Int) = 63 := by decide
          have e2 : fanL ((1 : Nat) : Int) = 42 := by decide
          rw [e1, e2]
          simp; omega
        have hfin : x.fin ((1 : Nat) : Int) 20 0 1 ⟨[], insAt (below [v] rows) [v] rows⟩ = .ok true none (x.put 1 ⟨[], insAt (below [v] rows) [v] rows⟩) := by
          unfold St.fin
          rw [hnf]; rfl
        rw [hfin] at hins
        simp only [InsR.ok.injEq] at hins
        obtain ⟨rfl, rfl, rfl⟩ := hins
        exact hk' F5 A5 s5 _ (hT4.step S5 p5 t5 k5) I5 ⟨hL.N, setT_same x.T 1 _, leaf_fine c6 c7 (by omega)⟩
    all_goals
      intro F5 A5 s5
      exfalso
      rw [hL.ins hw] at hins
      rcases hcase with ⟨c1, _⟩ | ⟨c1, _, _, rfl, c5, _⟩
      · rw [if_pos c1] at hins; cases hins
      · rw [if_neg (by rw [c1]; simp)] at hins
        have hnf : (⟨[], insAt (below [v] rows) [v] rows⟩ : Nd).full ((1 : Nat) : Int) 0 = false := by
          unfold Nd.full
          have e1 : roomL ((1 : Nat) : Int) = 63 := by decide
          have e2 : fanL ((1 : Nat) : Int) = 42 := by decide
          rw [e1, e2]
          simp; omega
        have hfin : x.fin ((1 : Nat) : Int) 20 0 1 ⟨[], insAt (below [v] rows) [v] rows⟩ = .ok true none (x.put 1 ⟨[], insAt (below [v] rows) [v] rows⟩) := by
          unfold St.fin
          rw [hnf]; rfl
        rw [hfin] at hins
        cases hins
  have I3' : CalmI nmF 20 8 s3 x0 3 := I3
  have lenc : ∀ l ∈ ([[5], [9]] : List (List Int)), l.length = 1 ∧ fitsL l := by
    intro l hl
    simp at hl
    rcases hl with rfl | rfl
    · exact ⟨rfl, fits1 (by decide)⟩
    · exact ⟨rfl, fits1 (by decide)⟩
  refine ins x0 _ [] 9 3 s3 F3 H3 _ true _ [[9]] L0 rfl rfl rfl rfl (by decide) rfl (by decide) I3' T3 (by decide) (.inr ⟨by decide, rfl, rfl, by decide, by decide, by decide, fun l hl => lenc l (by simp at hl; simp [hl])⟩) fun F5 H5 s5 x5 T5 I5 L5 => ?_
  refine ins x5 _ [[9]] 5 _ s5 F5 H5 _ true _ [[5], [9]] L5 rfl rfl rfl rfl (by decide) rfl (by decide) I5 T5 (by decide) (.inr ⟨by decide, rfl, rfl, by decide, by decide, by decide, lenc⟩) fun F7 H7 s7 x7 T7 I7 L7 => ?_
  refine ins x7 _ [[5], [9]] 5 _ s7 F7 H7 _ false _ [[5], [9]] L7 rfl rfl rfl rfl (by decide) rfl (by decide) I7 T7 (by decide) (.inl ⟨by decide, rfl, rfl, rfl⟩) fun F9 H9 s9 x9 T9 I9 L9 => ?_
  -- the cursor
  refine newC_rowT fun H10 z10 r10 e10 => ?_
  have T10 := T9.grow e10
  have hkl := obj_lt T10.row
  refine tFrom_ok (F := F9) (one_word r10) (by simp) (fun b u => T10.pool.lt b u) hkl fun H11 cb lo e11 c11 hcb => ?_
  refine br_f rfl ?_
  have T11 := T10.grow e11
  obtain ⟨tt, htt⟩ : ∃ tt, tt = ((tr0 nmF 1).up true).up true := ⟨_, rfl⟩
  have hz10 := T10.ext.size
  rw [← htt] at T11
  have e6 : x9.fnd tt 1 1 [6] false = some (some [9]) := by rw [L9.fnd (by rw [htt]; rfl)]; decide
  have e9 : x9.fnd tt 1 1 [9] true = some none := by rw [L9.fnd (by rw [htt]; rfl)]; decide
  have S' : Store tt.name 20 (CalmI nmF 20 8) (FullB 20) (fun _ _ => False) := by rw [htt]; exact S
  have hrd : tt.ready = 0 := by rw [htt]; rfl
  refine tNext_ok (W := 1) (root := 1) (depth := 1) S' (by rw [htt]; rfl) (by decide) (by rw [htt]; rfl) (by rw [htt]; rfl) (by decide) (by decide) I9 (by decide) (T11.gl hg) T11.row T11.pool T11.off c11 (fun u => absurd hrd u) (fun _ u => by rw [e6] at u; cases u) (fun _ y hy F12 H12 s12 sl lo' p12 S12 k12 t12 c12 I12 o12 f12 => ?_) (fun _ u => by rw [e6] at u; cases u) (fun _ _ _ _ _ _ _ _ hC => hC.elim)
  rw [e6] at hy
  cases hy
  refine tNext_ok (W := 1) (root := 1) (depth := 1) S' (by rw [htt]; rfl) (by decide) (by rw [htt]; rfl) (by rw [htt]; rfl) (by decide) (by decide) I12 (by decide) ((T11.gl hg).mod S12.mod fun u => ?_) t12 p12 k12 c12 (fun u => absurd hrd u) (fun _ _ F13 H13 s13 p13 S13 k13 t13 c13 I13 => ?_) (fun _ y hy => by rw [e9] at hy; cases hy) (fun _ u => by rw [e9] at u; cases u) (fun _ _ _ _ _ _ _ _ hC => hC.elim)
  · have hgl := hg.lt
    rcases u with u | u | u
    · have := T11.old _ (.inl u); omega
    · have := T11.old _ (.inr u); omega
    · omega
  · refine br_t ?_ ?_
    · have := o12.1
      simp at this
      simp [← this]
    have i13 : Ints .u64 H13 sl [9] := o12.ints.mod S13.mod fun ad ha u => by
      have := f12.1 _ ⟨ad, ha, rfl⟩
      rcases u with u | u | u
      · exact this.2.1 u
      · exact this.2.2.1 u
      · exact this.2.2.2.1 u
    refine ints_get i13 (i := 0) (j := 0) rfl (by simp) fun ad ha => ?_
    refine br_t rfl ?_
    refine tCount_ok t13 ?_
    have hcnt : ((if tt.gone then 0 else tt.count) == (2 : Int)) = true := by rw [htt]; rfl
    rw [hcnt]
    refine hK H13 ⟨?_, fun b hb _ => ?_⟩
    · have h1 := T11.ext.size; have h2 := S12.mod.size; have h3 := S13.mod.size; omega
    · have h1 := T11.ext.size; have h2 := S12.mod.size
      have hb11 : ∀ c, F9 c ∨ c = k ∨ c = cb → H.size ≤ c := fun c u => by
        rcases u with u | u | u
        · exact T11.old c (.inl u)
        · exact T11.old c (.inr u)
        · omega
      rw [S13.mod.same b (by omega) fun u => by
        rcases S12.own b u with v | v
        · have := hb11 b v; omega
        · omega, S12.mod.same b (by omega) fun u => by have := hb11 b u; omega]
      exact T11.ext.same b hb id
end
end Go.Proofs.YtmdiinakfpgdjaaGreatDoor

/-
  Trees beside other memory: the walk: Insert, Has, all rows from one on.
-/
namespace Go.Proofs.YtmdiinakfpgdjaaGreatDoor
open Go.MapKept
theorem RowsOwn.pushB {ty : TypeId} {H : Heap} {base : Nat} {s : Sl} {rs : List Sl} {ls : List (List Int)} {r : Sl} {l : List Int} {K : Sl → Heap → Prop} (h : RowsOwn H base s rs ls)
    (hr : Owns H base ty_uint64 1 r (l.map (Value.int .u64))) (hap : ∀ r' ∈ rs, ∀ b, ownB r b → ¬ ownB r' b) (hn : s.n + 1 ≤ 1099511627776) (hbase : base ≤ H.size)
    (hK : ∀ s' H', s'.n = s.n + 1 → RowsOwn H' base s' (rs ++ [r]) (ls ++ [l]) → Mod (ownB s) H H' → (∀ b, ownB s' b → ownB s b ∨ H.size ≤ b) → K s' H') :
    newC H #[r.v] ty_sl_uint64 fun p H1 => doT cSl Tryz.prog (Builtin.append_ #[ty_sl_sl_uint64, ty_sl_sl_uint64] ty #[s.v, .slice (some p) 1 1]) H1 K := by
  refine elRow.push (base := base) h.out rfl hn (by omega) hbase ?_
  intro s' H' n1 o1 m1 b1 _
  refine hK s' H' n1 ⟨by simpa using o1, by simp [h.len], ?_, ?_⟩ m1 b1
  · intro i x y hx hy
    rw [List.getElem?_append] at hx hy
    have hl := h.len
    split at hx
    · rename_i hlt
      rw [if_pos (by omega)] at hy
      exact (h.row i x y hx hy).mod m1 (fun b hb hb' => (h.row i x y hx hy).apart h.out (by decide) b hb hb')
    · rename_i hge
      rw [if_neg (by omega)] at hy
      have e1 : i - rs.length = 0 := by
        have := (List.getElem?_eq_some_iff.1 hx).1; simp at this; omega
      have e2 : i - ls.length = 0 := by omega
      rw [e1] at hx; rw [e2] at hy
      simp at hx hy
      subst hx; subst hy
      exact hr.mod m1 (fun b hb hb' => hr.apart h.out (by decide) b hb hb')
  · intro i j x y hij hx hy b hb
    have key : ∀ (i : Nat) (x : Sl), (rs ++ [r])[i]? = some x → (i < rs.length ∧ rs[i]? = some x) ∨ (i = rs.length ∧ x = r) := by
      intro i x hx
      rw [List.getElem?_append] at hx
      split at hx
      · rename_i hlt; exact .inl ⟨hlt, hx⟩
      · rename_i hge
        have e1 : i - rs.length = 0 := by
          have := (List.getElem?_eq_some_iff.1 hx).1; simp at this; omega
        rw [e1] at hx; simp at hx
        exact .inr ⟨by omega, hx.symm⟩
    rcases key i x hx with ⟨h1, h2⟩ | ⟨h1, h2⟩ <;> rcases key j y hy with ⟨h3, h4⟩ | ⟨h3, h4⟩
    · exact h.apart i j x y hij h2 h4 b hb
    · subst h4; exact fun hb' => hap x (List.mem_of_getElem? h2) b hb' hb
    · subst h2; exact hap y (List.mem_of_getElem? h4) b hb
    · omega
theorem Owns.rebase {H : Heap} {base base' : Nat} {e : TypeId} {size : Nat} {s : Sl} {xs : List Value} (h : Owns H base e size s xs) (hb : ∀ b, ownB s b → base' ≤ b) : Owns H base' e size s xs := by
  refine ⟨h.1, h.2.imp id ?_⟩
  rintro ⟨g, cap, cur, e1, _, h3⟩
  refine ⟨g, cap, cur, e1, hb g ?_, h3⟩
  cases s; simp only [Sl.v, Value.slice.injEq] at e1
  exact ⟨_, e1.1, rfl⟩
structure TX (H0 : Heap) (X : Nat → Prop) (A : Heap) (F : Nat → Prop) (k p dp : Nat) (s : Pl) (t : Tr) : Prop where
  tt : TT H0 A F k p dp s t
  off : ∀ b, X b → ¬ (F b ∨ b = k)
  lt : ∀ b, X b → b < A.size
section
variable {H0 A B : Heap} {X X' F F' : Nat → Prop} {k p dp : Nat} {s s' : Pl} {t t' : Tr}
theorem TX.step (h : TX H0 X A F k p dp s t) (S : Step (fun b => F b ∨ b = k) (fun b => F' b ∨ b = k) A B) (hp : PoolAt F' B p dp s') (ht : TreeB B k p t') (hk : ¬ F' k) : TX H0 X B F' k p dp s' t' :=
  ⟨h.tt.step S hp ht hk, fun b hb u => by
    rcases S.own b u with v | v
    · exact h.off b hb v
    · have := h.lt b hb; omega, fun b hb => Nat.lt_of_lt_of_le (h.lt b hb) S.mod.size⟩
theorem TX.same (h : TX H0 X A F k p dp s t) (S : Step (fun b => F b ∨ b = k) (fun b => F' b ∨ b = k) A B) : ∀ b, X b → B[b]? = A[b]? := fun b hb => S.mod.same b (h.lt b hb) (h.off b hb)
theorem TX.own_lt (h : TX H0 X A F k p dp s t) : ∀ b, F b ∨ b = k → b < A.size := fun b u => by
  rcases u with u | u
  · exact h.tt.pool.lt b u
  · rw [u]; exact obj_lt h.tt.row
theorem TX.aside (h : TX H0 X A F k p dp s t) (e0 : Ext H0 B) (hs : ∀ b, F b ∨ b = k → B[b]? = A[b]?) (hz : A.size ≤ B.size) (hx : ∀ b, X' b → X b ∨ (A.size ≤ b ∧ b < B.size)) : TX H0 X' B F k p dp s t :=
  ⟨⟨e0, h.tt.pool.keep fun b hb _ => hs b (.inl hb), (hs k (.inr rfl)).trans h.tt.row, h.tt.off, h.tt.old⟩, fun b hb u => by
    rcases hx b hb with v | v
    · exact h.off b v u
    · have := h.own_lt b u; omega, fun b hb => by
    rcases hx b hb with v | v
    · have := h.lt b v; omega
    · exact v.2⟩
theorem TX.grow (h : TX H0 X A F k p dp s t) (e : Ext A B) (hx : ∀ b, X' b → X b ∨ (A.size ≤ b ∧ b < B.size)) : TX H0 X' B F k p dp s t :=
  h.aside (h.tt.ext.trans e) (fun b hb => e.same b (h.own_lt b hb) id) e.size hx
end
structure TreeAt (H0 : Heap) (X : Nat → Prop) (A : Heap) (k p dp W : Nat) (L : List (List Int)) (j : Nat) : Prop where
  at_ : ∃ (F : Nat → Prop) (s : Pl) (x : St) (m root depth : Nat) (P : List Nat), TX H0 X A F k p dp s ⟨nmF, W, root, depth, L.length, 0, false⟩ ∧ CalmI nmF 5000 8 s x m ∧ m ≤ j ∧ TreeOn x W root depth L P
theorem nmF_size : nmF.size ≤ 9223372036854775807 := by decide
theorem treeStore : Store nmF 5000 (CalmI nmF 5000 8) (FullB 5000) (fun _ _ => False) := calm_store nmF_size (by decide)
section
variable {H0 A : Heap} {X : Nat → Prop} {k p dp W j : Nat} {L : List (List Int)} {l : Sl} {ll : List Int}
theorem TreeAt.ext (h : TreeAt H0 X A k p dp W L j) : Ext H0 A := by
  obtain ⟨F, s, x, m, root, depth, P, tx, _⟩ := h.at_
  exact tx.tt.ext
theorem TreeAt.asc (h : TreeAt H0 X A k p dp W L j) : Asc L := by
  obtain ⟨F, s, x, m, root, depth, P, tx, _, _, on⟩ := h.at_
  exact on.asc
theorem TreeAt.weak {j' : Nat} (h : TreeAt H0 X A k p dp W L j) (hj : j ≤ j') : TreeAt H0 X A k p dp W L j' := by
  obtain ⟨F, s, x, m, root, depth, P, tx, cI, hm, on⟩ := h.at_
  exact ⟨F, s, x, m, root, depth, P, tx, cI, by omega, on⟩
theorem TreeAt.less {X' : Nat → Prop} (h : TreeAt H0 X A k p dp W L j) (hx : ∀ b, X' b → X b) : TreeAt H0 X' A k p dp W L j := by
  obtain ⟨F, s, x, m, root, depth, P, tx, cI, hm, on⟩ := h.at_
  exact ⟨F, s, x, m, root, depth, P, ⟨tx.tt, fun b hb => tx.off b (hx b hb), fun b hb => tx.lt b (hx b hb)⟩, cI, hm, on⟩
theorem TreeAt.count {K : Int → Heap → Prop} (h : TreeAt H0 X A k p dp W L j) (hK : K (L.length : Int) A) : tree_Tree_Count.sp (at0 k) A K := by
  obtain ⟨F, s, x, m, root, depth, P, tx, cI, hm, on⟩ := h.at_
  exact tCount_ok tx.tt.row hK
theorem TreeAt.insert {K : (Bool × Int) → Heap → Prop} (h : TreeAt H0 X A k p dp W L j) (hg : Gl H0) (hW : W ≤ 16) (hL : L.length ≤ 400) (hj : j ≤ 10000000000) (hl : Ints .u64 A l ll) (hll : ll.length = W ∧ fitsL ll)
    (hK : ∀ f L' B, (f = true ↔ ll ∉ L) → TreeAt H0 X B k p dp W L' (j + 4000) → Plus ll L L' → (f = false → L' = L) → L'.length ≤ L.length + 1 → (∀ b, X b → B[b]? = A[b]?) → K (f, 0) B) : tree_Tree_Insert.sp (at0 k) l A K := by
  obtain ⟨F, s, x, m, root, depth, P, tx, cI, hm, on⟩ := h.at_
  obtain ⟨b1, b2, b3, b4⟩ := on.bounds hL
  have hins := on.ins hW hll hL nmF
  refine tInsert_ok (W := W) (root := root) (depth := depth) (t := ⟨nmF, W, root, depth, L.length, 0, false⟩) treeStore rfl hW rfl rfl ⟨on.deep, by omega⟩ (by omega) ⟨by show (0 : Int) ≤ (L.length : Int); omega, by show (L.length : Int) ≤ _; omega⟩ cI (by omega) (tx.tt.gl hg) tx.tt.row tx.tt.pool tx.tt.off hl (fun u => absurd rfl u) (fun _ u => absurd hll.1 u) (fun _ _ f t' x' hi F' B s' p1 S1 k1 t1 I1 => ?_) (fun _ _ hi => ?_) (fun _ _ hi => ?_) (fun _ _ _ _ _ _ _ _ hC => hC.elim)
  · rcases hins with ⟨i1, i2⟩ | ⟨i1, x2, root', depth', L', P', i2, on', pl, len⟩
    · rw [i2] at hi
      cases hi
      refine hK false L B ⟨fun u => (by cases u), fun u => absurd i1 u⟩ ⟨F', s', x, _, root, depth, P, tx.step S1 p1 t1 k1, I1, by omega, on⟩ (fun y => ⟨.inr, fun u => u.elim (fun e => e ▸ i1) id⟩) (fun _ => rfl) (Nat.le_succ _) (tx.same S1)
    · rw [i2] at hi
      cases hi
      refine hK true L' B ⟨fun _ => i1, fun _ => rfl⟩ ⟨F', s', x', m + 4000, root', depth', P', tx.step S1 p1 t1 k1, I1, by omega, on'⟩ pl (fun u => by cases u) (Nat.le_of_eq len) (tx.same S1)
  · exfalso
    rcases hins with ⟨i1, i2⟩ | ⟨i1, x2, root', depth', L', P', i2, on', pl, len⟩ <;> (rw [i2] at hi; cases hi)
  · exfalso
    rcases hins with ⟨i1, i2⟩ | ⟨i1, x2, root', depth', L', P', i2, on', pl, len⟩ <;> (rw [i2] at hi; cases hi)
theorem head_has (h : Asc L) (hm : ll ∈ L) : (L.filter (pq ll false)).head? = some ll := by
  have hp : pq ll false ll = true := by
    unfold pq
    have : ¬ cmpL ll ll < 0 := ltR_irr ll
    simpa using this
  have hf : ll ∈ L.filter (pq ll false) := List.mem_filter.2 ⟨hm, hp⟩
  have ha : Asc (L.filter (pq ll false)) := h.sublist List.filter_sublist
  have hall : ∀ y ∈ L.filter (pq ll false), ¬ ltR y ll := fun y hy q => by
    have := (List.mem_filter.1 hy).2
    rw [pq_below q] at this; cases this
  generalize L.filter (pq ll false) = M at *
  cases M with
  | nil => cases hf
  | cons y M =>
    rcases List.mem_cons.1 hf with q | q
    · rw [q]; rfl
    · exact absurd ((List.pairwise_cons.1 ha).1 ll q) (hall y List.mem_cons_self)
theorem TreeAt.has {K : (Bool × Int) → Heap → Prop} (h : TreeAt H0 X A k p dp W L j) (hg : Gl H0) (hW : W ≤ 16) (hL : L.length ≤ 400) (hj : j ≤ 10000000000) (hl : Ints .u64 A l ll) (hlb : ll ≠ [] → ∀ ad, l.a = some ad → ad.block < H0.size) (hll : ll.length = W) (hm : ll ∈ L)
    (hK : ∀ B, TreeAt H0 X B k p dp W L (j + 1000000) → (∀ b, X b → B[b]? = A[b]?) → K (true, 0) B) : tree_Tree_Has.sp (at0 k) l A K := by
  obtain ⟨F, s, x, m, root, depth, P, tx, cI, hm2, on⟩ := h.at_
  obtain ⟨b1, b2, b3, b4⟩ := on.bounds hL
  have hz := tx.tt.ext.size
  have hf : x.fnd ⟨nmF, W, root, depth, L.length, 0, false⟩ root depth ll false = some (some ll) := by rw [on.fnd rfl, head_has on.asc hm]
  refine tHas_ok (W := W) (root := root) (depth := depth) (t := ⟨nmF, W, root, depth, L.length, 0, false⟩) treeStore rfl hW rfl rfl ⟨on.deep, by omega⟩ (by omega) cI (by omega) (tx.tt.gl hg) tx.tt.row tx.tt.pool tx.tt.off hl (fun hne ad ha => ⟨by have := hlb hne ad ha; omega, fun u => by have := hlb hne ad ha; have := tx.tt.old _ (.inl u); omega⟩) (fun u => absurd rfl u) (fun _ u => absurd hll u) (fun _ _ o ho F' B s' p1 S1 _ k1 t1 I1 => ?_) (fun _ _ u => by rw [hf] at u; cases u) (fun _ _ _ _ _ _ _ _ hC => hC.elim)
  rw [hf] at ho
  cases ho
  have e : decide (cmpL ll ll = 0) = true := by rw [cmpSelf]; rfl
  simp only [e]
  exact hK B ⟨F', s', x, _, root, depth, P, tx.step S1 p1 t1 k1, I1, by omega, on⟩ (tx.same S1)
def outB (out : Sl) (rs : List Sl) (b : Nat) : Prop := ownB out b ∨ ∃ r ∈ rs, ownB r b
structure AllAt (H0 A0 : Heap) (X : Nat → Prop) (k p dp W cb : Nat) (L : List (List Int)) (ll : List Int) (x : St) (root depth m i : Nat) (out : Sl) (B : Heap) : Prop where
  at_ : ∃ (rs : List Sl) (lo : Sl) (F : Nat → Prop) (s : Pl), TX H0 (fun b => X b ∨ outB out rs b) B F k p dp s ⟨nmF, W, root, depth, L.length, 0, false⟩ ∧ CalmI nmF 5000 8 s x (m + i * 1000000) ∧
    CurB B F k cb lo (curAt (L.filter (pq ll false)) ll i).1 (curAt (L.filter (pq ll false)) ll i).2 ∧ RowsOwn B A0.size out rs ((L.filter (pq ll false)).take i) ∧ (∀ b, X b → B[b]? = A0[b]?) ∧ (∀ b, ownB lo b → ¬ outB out rs b) ∧ ¬ outB out rs cb ∧ A0.size ≤ cb ∧ A0.size ≤ B.size
set_option maxHeartbeats 1000000 in
theorem all_ok {low : Sl} {K : (Sl × Bool) → Heap → Prop} (h : TreeAt H0 X A k p dp W L j) (hg : Gl H0) (hW : W ≤ 16) (hL : L.length ≤ 400) (hj : j ≤ 10000000000) (hlow : Ints .u64 A low ll) (hll : ll.length ≤ 100)
    (hK : ∀ out rs B, TreeAt H0 (fun b => X b ∨ outB out rs b) B k p dp W L (j + 500000000) → RowsOwn B A.size out rs (L.filter (pq ll false)) → (∀ b, X b → B[b]? = A[b]?) → A.size ≤ B.size → K (out, true) B) : fathomlaw09_all.sp (at0 k) low A K := by
  refine fathomlaw09_all.of ?_
  unfold fathomlaw09_all.vc
  obtain ⟨F, s, x, m, root, depth, P, tx, cI, hm, on⟩ := h.at_
  obtain ⟨b1, b2, b3, b4⟩ := on.bounds hL
  have hkl := obj_lt tx.tt.row
  have hzA := tx.tt.ext.size
  refine tFrom_ok (F := F) hlow (by omega) (fun b u => tx.tt.pool.lt b u) hkl fun A1 cb lo e1 c1 hcb => ?_
  have hFl : (L.filter (pq ll false)).length ≤ L.length := List.length_filter_le _ _
  have nob : ∀ b, ¬ outB (Sl.mk none 0 0) [] b := fun b u => by
    rcases u with ⟨ad, ha, _⟩ | ⟨r, hr, _⟩
    · cases ha
    · cases hr
  refine loop_upto (L.filter (pq ll false)).length (fun i out B => AllAt H0 A X k p dp W cb L ll x root depth m i out B) ⟨⟨[], lo, F, s, tx.grow e1 fun b hb => .inl (hb.elim id fun u => absurd u (nob b)), ?_, c1, ?_, fun b hb => e1.same b (tx.lt b hb) id, fun b _ => nob b, nob cb, hcb, e1.size⟩⟩ ?_
  · simpa using cI
  · rw [List.take_zero]; exact RowsOwn.nil _ _
  rintro i out B next hi ⟨rs, lo, F1, s1, tB, cB, cuB, roB, xB, loB, ncb, hcb', hzB⟩ hnext
  have hfnd := on.fnd (low := (curAt (L.filter (pq ll false)) ll i).1) (strict := (curAt (L.filter (pq ll false)) ll i).2) (t := ⟨nmF, W, root, depth, L.length, 0, false⟩) rfl
  rw [cur_head on.asc hi] at hfnd
  have hcl : cb < B.size := obj_lt cuB.row
  have stepX : ∀ {F2 : Nat → Prop} {C : Heap} {s2 : Pl}, Step (fun b => F1 b ∨ b = k ∨ b = cb) (fun b => F2 b ∨ b = k ∨ b = cb) B C → PoolAt F2 C p dp s2 → ¬ F2 k → TreeB C k p ⟨nmF, W, root, depth, L.length, 0, false⟩ → (TX H0 (fun b => X b ∨ outB out rs b) C F2 k p dp s2 ⟨nmF, W, root, depth, L.length, 0, false⟩ ∧ ∀ b, X b ∨ outB out rs b → C[b]? = B[b]?) := by
    intro F2 C s2 S2 p2 k2 t2
    have old : ∀ b, F1 b ∨ b = k ∨ b = cb → H0.size ≤ b := fun b u => by
      rcases u with u | u | u
      · exact tB.tt.old b (.inl u)
      · exact tB.tt.old b (.inr u)
      · omega
    have hz1 := tB.tt.ext.size
    have nocb : ∀ b, X b ∨ outB out rs b → b ≠ cb := fun b hb e => by
      subst e
      rcases hb with u | u
      · have := tx.lt b u; omega
      · exact ncb u
    have same : ∀ b, X b ∨ outB out rs b → C[b]? = B[b]? := fun b hb => S2.mod.same b (tB.lt b hb) fun u => by
      rcases u with u | u | u
      · exact tB.off b hb (.inl u)
      · exact tB.off b hb (.inr u)
      · exact nocb b hb u
    refine ⟨⟨⟨⟨by have := S2.mod.size; omega, fun b hb _ => ?_⟩, p2, t2, k2, fun b hb => ?_⟩, fun b hb u => ?_, fun b hb => Nat.lt_of_lt_of_le (tB.lt b hb) S2.mod.size⟩, same⟩
    · rw [S2.mod.same b (by omega) fun u => by have := old b u; omega]
      exact tB.tt.ext.same b hb id
    · rcases S2.own b (hb.imp id .inl) with v | v
      · exact old b v
      · omega
    · rcases S2.own b (u.imp id .inl) with v | v
      · rcases v with v | v | v
        · exact tB.off b hb (.inl v)
        · exact tB.off b hb (.inr v)
        · exact nocb b hb v
      · have := tB.lt b hb; omega
  refine tNext_ok (W := W) (root := root) (depth := depth) (t := ⟨nmF, W, root, depth, L.length, 0, false⟩) treeStore rfl hW rfl rfl ⟨on.deep, by omega⟩ (by omega) cB (by omega) (tB.tt.gl hg) tB.tt.row tB.tt.pool tB.tt.off cuB (fun u => absurd rfl u) (fun _ hn F2 C s2 p2 S2 k2 t2 _ I2 => ?_) (fun _ y hy F2 C s2 sl lo2 p2 S2 k2 t2 c2 I2 o2 f2 => ?_) (fun _ u => by rw [hfnd] at u; cases u) (fun _ _ _ _ _ _ _ _ hC => hC.elim)
  · rw [hfnd] at hn
    have hnil : (L.filter (pq ll false)).drop i = [] := by
      cases hq : (L.filter (pq ll false)).drop i with
      | nil => rfl
      | cons a r => rw [hq] at hn; cases hn
    have hie : i = (L.filter (pq ll false)).length := by
      have := congrArg List.length hnil
      rw [List.length_drop, List.length_nil] at this
      omega
    obtain ⟨tC, xC⟩ := stepX S2 p2 k2 t2
    refine br_t rfl ?_
    have roC : RowsOwn C A.size out rs ((L.filter (pq ll false)).take i) := roB.mod (F := fun b => ¬ (X b ∨ outB out rs b)) ⟨S2.mod.size, fun b _ hb => xC b (Classical.byContradiction hb)⟩ (fun b hb u => u (.inr (.inl hb))) fun r hr b hb u => u (.inr (.inr ⟨r, hr, hb⟩))
    rw [hie, List.take_length] at roC
    exact hK out rs C ⟨F2, s2, x, _, root, depth, P, tC, I2, by omega, on⟩ roC (fun b hb => (xC b (.inl hb)).trans (xB b hb)) (by have := S2.mod.size; omega)
  · rw [hfnd] at hy
    have hlt : i < (L.filter (pq ll false)).length := by
      rcases Nat.lt_or_ge i (L.filter (pq ll false)).length with q | q
      · exact q
      · rw [List.drop_of_length_le q] at hy; cases hy
    have hyi : (L.filter (pq ll false)).getD i [] = y := by
      rw [List.drop_eq_getElem_cons hlt] at hy
      rw [getDo hlt]
      exact Option.some.inj (Option.some.inj hy)
    obtain ⟨tC, xC⟩ := stepX S2 p2 k2 t2
    have hzC := S2.mod.size
    have roC : RowsOwn C A.size out rs ((L.filter (pq ll false)).take i) := roB.mod (F := fun b => ¬ (X b ∨ outB out rs b)) ⟨S2.mod.size, fun b _ hb => xC b (Classical.byContradiction hb)⟩ (fun b hb u => u (.inr (.inl hb))) fun r hr b hb u => u (.inr (.inr ⟨r, hr, hb⟩))
    refine br_f rfl ?_
    have hon : out.n = i := by rw [roC.n, List.length_take]; omega
    have roBb := roB.block
    have slb := o2.block
    refine roC.pushB (ty := ty_sl_sl_uint64) (o2.rebase fun b hb => by have := (f2.1 b hb).1; omega) (fun r' hr' b hb hb' => by have := (f2.1 b hb).1; have := (roBb.2 r' hr' b hb').2; omega) (by omega) (by omega) fun out' D n3 r3 m3 b3 => ?_
    have hzD := m3.size
    have htk : (L.filter (pq ll false)).take i ++ [y] = (L.filter (pq ll false)).take (i + 1) := by
      rw [List.take_add_one, List.getElem?_eq_getElem hlt, ← hyi, getDo hlt]; rfl
    rw [htk] at r3
    have hoOld : ∀ b, ownB out b → A.size ≤ b ∧ b < B.size := roBb.1
    have keepF : ∀ b, F2 b ∨ b = k → D[b]? = C[b]? := fun b hb => m3.same b (tC.own_lt b hb) fun u => tC.off b (.inr (.inl u)) hb
    have hr3 := r3.block
    have lo2lt : ∀ b, ownB lo2 b → b < C.size := fun b u => by
      obtain ⟨ad, ha, rfl⟩ := u
      exact (c2.off ad ha).1
    refine hnext hlt _ _ ⟨rs ++ [sl], lo2, F2, s2, ⟨⟨?_, tC.tt.pool.keep fun b hb _ => keepF b (.inl hb), (keepF k (.inr rfl)).trans tC.tt.row, k2, tC.tt.old⟩, fun b hb u => ?_, fun b hb => ?_⟩, ?_, ?_, r3, fun b hb => ?_, fun b hb u => ?_, fun u => ?_, hcb', by omega⟩
    · refine ⟨by have := tC.tt.ext.size; omega, fun b hb _ => ?_⟩
      have := tC.tt.ext.size
      rw [m3.same b (by omega) fun u => by have := hoOld b u; omega]
      exact tC.tt.ext.same b hb id
    · rcases hb with v | v | ⟨r, hr, v⟩
      · exact tC.off b (.inl v) u
      · rcases b3 b v with w | w
        · exact tC.off b (.inr (.inl w)) u
        · have := tC.own_lt b u; omega
      · rcases List.mem_append.1 hr with w | w
        · exact tC.off b (.inr (.inr ⟨r, w, v⟩)) u
        · have e : r = sl := by simpa using w
          subst e
          have := f2.1 b v
          rcases u with u | u
          · exact this.2.1 u
          · exact this.2.2.1 u
    · rcases hb with v | v | ⟨r, hr, v⟩
      · have := tC.lt b (.inl v); omega
      · exact (hr3.1 b v).2
      · exact (hr3.2 r hr b v).2
    · have e : m + (i + 1) * 1000000 = m + i * 1000000 + 1000000 := by rw [Nat.add_mul]; omega
      rw [e]; exact I2
    · have ec : curAt (L.filter (pq ll false)) ll (i + 1) = (y, true) := by
        unfold curAt
        rw [if_neg (by omega), Nat.add_sub_cancel, hyi]
      rw [ec]
      refine ⟨c2.row.mod m3 fun u => ncb (.inl u), c2.ints.mod m3 fun ad ha u => ?_, fun ad ha => ?_, c2.cb⟩
      · have h1 := f2.2 _ ⟨ad, ha, rfl⟩
        have h2 := hoOld _ u
        omega
      · have := c2.off ad ha
        exact ⟨by omega, this.2⟩
    · have hbA := tx.lt b hb
      rw [m3.same b (by omega) fun u => by have := hoOld b u; omega]
      exact (xC b (.inl hb)).trans (xB b hb)
    · have h1 := f2.2 b hb
      have h2 := lo2lt b hb
      rcases u with v | ⟨r, hr, v⟩
      · rcases b3 b v with w | w
        · have := hoOld b w; omega
        · omega
      · rcases List.mem_append.1 hr with w | w
        · have := (roBb.2 r w b v).2; omega
        · have e : r = sl := by simpa using w
          subst e
          exact (f2.1 b v).2.2.2.2 hb
    · rcases u with v | ⟨r, hr, v⟩
      · rcases b3 cb v with w | w
        · exact ncb (.inl w)
        · omega
      · rcases List.mem_append.1 hr with w | w
        · exact ncb (.inr ⟨r, w, v⟩)
        · have e : r = sl := by simpa using w
          subst e
          exact (f2.1 cb v).2.2.2.1 rfl
end
end Go.Proofs.YtmdiinakfpgdjaaGreatDoor
