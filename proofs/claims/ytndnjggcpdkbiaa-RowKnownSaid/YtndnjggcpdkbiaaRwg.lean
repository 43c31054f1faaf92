/-
  Rows: turned and turned back.
-/
import Derived.Test.YtndnjggcpdkbiaaRwp
namespace Go.Proofs.Ytndnjggcpdkbiaa

theorem set_range (n i : Nat) (h : Nat → Int) (x : Int) : ((List.range n).map h).set i x = (List.range n).map fun j => if j = i then x else h j := by
  apply List.ext_getElem
  · simp
  · intro j h1 h2
    rw [List.getElem_set]
    by_cases q : i = j
    · subst q; simp
    · rw [if_neg q]; simp [Ne.symm q]

theorem getD_range {n j : Nat} (h : Nat → Int) (hj : j < n) : ((List.range n).map h).getD j 0 = h j := by
  simp [List.getD, List.getElem?_range hj]

/-- The numbers below n, each once, and where each stands. -/
structure Turned (n : Nat) (f g : Nat → Nat) : Prop where
  there : ∀ j, j < n → f j < n ∧ g (f j) = j
  back : ∀ v, v < n → g v < n ∧ f (g v) = v

def swapN (i r j : Nat) : Nat := if j = i then r else if j = r then i else j
theorem swapN_swapN (i r j : Nat) : swapN i r (swapN i r j) = j := by
  unfold swapN
  by_cases h1 : j = i
  · subst h1
    rw [if_pos rfl]
    by_cases h2 : r = j
    · rw [if_pos h2]; exact h2
    · rw [if_neg h2, if_pos rfl]
  · rw [if_neg h1]
    by_cases h2 : j = r
    · subst h2; rw [if_pos rfl, if_pos rfl]
    · rw [if_neg h2, if_neg h1, if_neg h2]
theorem swapN_lt {n i r j : Nat} (hi : i < n) (hr : r < n) (hj : j < n) : swapN i r j < n := by
  unfold swapN; split
  · exact hr
  · split
    · exact hi
    · exact hj

theorem Turned.swap {n i r : Nat} {f g : Nat → Nat} (h : Turned n f g) (hi : i < n) (hr : r < n) : Turned n (fun j => f (swapN i r j)) (fun v => swapN i r (g v)) := by
  refine ⟨fun j hj => ?_, fun v hv => ?_⟩
  · obtain ⟨h1, h2⟩ := h.there _ (swapN_lt hi hr hj)
    exact ⟨h1, by simp only [h2]; exact swapN_swapN i r j⟩
  · obtain ⟨h1, h2⟩ := h.back v hv
    exact ⟨swapN_lt hi hr h1, by simp only [swapN_swapN]; exact h2⟩

def listOf (n : Nat) (f : Nat → Nat) : List Int := (List.range n).map fun j => (f j : Int)

theorem listOf_swap {n i r : Nat} {f : Nat → Nat} : ((listOf n f).set i (f r : Int)).set r (f i : Int) = listOf n fun j => f (swapN i r j) := by
  unfold listOf
  rw [set_range, set_range]
  apply List.map_congr_left
  intro j _
  show _ = ((f (swapN i r j) : Nat) : Int)
  unfold swapN
  by_cases h1 : j = r
  · subst h1
    rw [if_pos rfl]
    by_cases h2 : j = i
    · subst h2; rw [if_pos rfl]
    · rw [if_neg h2, if_pos rfl]
  · rw [if_neg h1]
    by_cases h2 : j = i
    · rw [if_pos h2, if_pos h2]
    · rw [if_neg h2, if_neg h2, if_neg h1]

theorem turnOK_listOf {l : List Int} {n : Nat} {f : Nat → Nat} (hl : l.length = n) (h : ∀ j, j < n → f j < n) : turnOK l (listOf n f) = true := by
  unfold turnOK listOf
  rw [List.all_eq_true]
  intro x hx
  obtain ⟨j, hj, rfl⟩ := List.mem_map.1 hx
  have := h j (List.mem_range.1 hj)
  simp; omega

theorem turnL_listOf {l : List Int} {n : Nat} {f : Nat → Nat} (hl : l.length = n) (h : ∀ j, j < n → f j < n) : turnL l (listOf n f) = (List.range n).map fun j => l.getD (f j) 0 := by
  unfold turnL; rw [turnOK_listOf hl h, if_pos rfl]; unfold listOf; rw [List.map_map]; rfl

theorem turn_there {l : List Int} {n : Nat} {f g : Nat → Nat} (hl : l.length = n) (h : Turned n f g) : turnL (turnL l (listOf n f)) (listOf n g) = l := by
  have e1 := turnL_listOf hl (fun j hj => (h.there j hj).1)
  have e2 := turnL_listOf (l := turnL l (listOf n f)) (by rw [e1]; simp) (fun v hv => (h.back v hv).1)
  rw [e2, e1]
  apply List.ext_getElem
  · simp [hl]
  · intro v hv1 hv2
    have hv : v < n := by omega
    obtain ⟨q1, q2⟩ := h.back v hv
    simp only [List.getElem_map, List.getElem_range]
    rw [getD_range (fun j => l.getD (f j) 0) q1, q2]
    simp [List.getD, List.getElem?_eq_getElem hv2]

theorem RowAround_ok {p : Sl} {la : List Int} {how : Int} {H : Heap} {K : Bool → Heap → Prop} (ha : Ints .u64 H p la) (_ : -9223372036854775808 ≤ how ∧ how ≤ 9223372036854775807) (hK : ∀ H', Ext H H' → K true H') : fathomlaw06_RowAround.sp p how H K := by
  refine fathomlaw06_RowAround.of ?_
  unfold fathomlaw06_RowAround.vc
  have pn := ha.len
  refine br_mk (fun h => hK _ (.refl _ _)) (fun h => ?_)
  have h60 : la.length ≤ 60 := by simp at h; omega
  obtain ⟨n, hn⟩ : ∃ n, n = la.length := ⟨_, rfl⟩
  refine loop_upto n (fun k z H' => z.2.2 = (k : Int) ∧ z.1.n = k ∧ z.2.1.n = k ∧ Owns H' H.size ty_int 1 z.1 ((listOf k id).map (Value.int .i64)) ∧ Owns H' H.size ty_int 1 z.2.1 ((List.replicate k (0 : Int)).map (Value.int .i64)) ∧ (∀ b, ownB z.1 b → ¬ ownB z.2.1 b) ∧ Ext H H')
    ⟨rfl, rfl, rfl, Owns.nil _ _ _ _, Owns.nil _ _ _ _, (by rintro b ⟨ad, q, _⟩; cases q), Mod.refl _ _⟩ ?_
  rintro k ⟨cols, back, i⟩ H1 next hk ⟨hi, hcn, hbn, oc, ob, hap, e1⟩ hnext
  simp only at hi hcn hbn oc ob hap ⊢
  subst hi
  refine br_mk (fun h => ?_) (fun h => ?_)
  · have hlt : k < n := by simp at h; omega
    refine elInt.push (base := H.size) oc rfl (by omega) (by omega) e1.size ?_
    intro c2 H3 n3 o3 m3 b3 _
    have ob3 : Owns H3 H.size ty_int 1 back ((List.replicate k (0 : Int)).map (Value.int .i64)) := ob.mod m3 (fun b hb hc => hap b hc hb)
    have e3 : Ext H H3 := (e1.mod (F := ownB cols).trans m3).ext (fun b hb => (oc.block b hb).1)
    have hap3 : ∀ b, ownB c2 b → ¬ ownB back b := by
      intro b hb hb'
      rcases b3 b hb with q | q
      · exact hap b q hb'
      · have := (ob.block b hb').2; omega
    refine elInt.push (base := H.size) ob3 rfl (by omega) (by omega) e3.size ?_
    intro k2 H5 n5 o5 m5 b5 _
    refine hnext hlt _ _ ⟨by rw [succ64 k (by omega)], by simp only; omega, by simp only; omega, ?_, ?_, ?_, (e3.mod (F := ownB back).trans m5).ext (fun b hb => (ob3.block b hb).1)⟩
    · simp only
      have : (listOf (k + 1) id).map (Value.int .i64) = (listOf k id).map (Value.int .i64) ++ [Value.int .i64 (k : Int)] := by simp [listOf, List.range_succ]
      rw [this]
      exact o3.mod m5 (fun b hb hb' => hap3 b hb hb')
    · simp only
      rw [List.replicate_succ', List.map_append]; exact o5
    · intro b hb hb'
      simp only at hb hb'
      rcases b5 b hb' with q | q
      · exact hap3 b hb q
      · have := (o3.block b hb).2; omega
  · have hkn : k = n := by simp at h; omega
    subst hkn
    rw [wrap64 (x := (p.n : Int) - 1) (by omega) (by omega)]
    refine loop_upto k (fun j z H' => z.2 = (k : Int) - 1 - j ∧ (∃ f g, Turned k f g ∧ Owns H' H.size ty_int 1 cols ((listOf k f).map (Value.int .i64))) ∧ Owns H' H.size ty_int 1 back ((List.replicate k (0 : Int)).map (Value.int .i64)) ∧ Ext H H')
      ⟨by simp only; omega, ⟨id, id, ⟨fun j hj => ⟨hj, rfl⟩, fun v hv => ⟨hv, rfl⟩⟩, oc⟩, ob, e1⟩ ?_
    rintro j ⟨hw, i⟩ H6 next6 hj ⟨hi, ⟨f, g, ht, o6⟩, ob6, e6⟩ hnext6
    simp only at hi ⊢
    refine br_mk (fun h => ?_) (fun h => ?_)
    · have hpos : 0 < i := by simpa using h
      obtain ⟨q, hq⟩ : ∃ q : Nat, i = (q : Int) := ⟨i.toNat, by omega⟩
      subst hq
      have hqk : q < k := by omega
      rw [succ64 q (by omega)]
      refine Pick_ok (by omega) ?_
      rw [if_neg (by omega)]
      have hr0 := Int.emod_nonneg hw (show ((q + 1 : Nat) : Int) ≠ 0 by omega)
      have hr1 := Int.emod_lt_of_pos hw (show (0 : Int) < ((q + 1 : Nat) : Int) by omega)
      obtain ⟨r, hr⟩ : ∃ r : Nat, hw.emod ((q + 1 : Nat) : Int) = (r : Int) := ⟨(hw.emod ((q + 1 : Nat) : Int)).toNat, by
        have e : hw.emod ((q + 1 : Nat) : Int) = hw % ((q + 1 : Nat) : Int) := rfl
        omega⟩
      have hrq : r ≤ q := by
        have e : hw.emod ((q + 1 : Nat) : Int) = hw % ((q + 1 : Nat) : Int) := rfl
        omega
      rw [hr]
      have hlen : (listOf k f).length = k := by simp [listOf]
      have gf : ∀ t, t < k → (listOf k f).getD t 0 = (f t : Int) := fun t ht => getD_range (fun j => (f j : Int)) ht
      refine ⟨by omega, ?_⟩
      refine ints_get o6.ints (i := (q : Int)) (j := q) rfl (by omega) fun ad1 q1 => ?_
      refine ints_get o6.ints (i := (r : Int)) (j := r) rfl (by omega) fun ad2 q2 => ?_
      rw [gf q hqk, gf r (by omega)]
      refine o6.st (by omega) (by omega) rfl fun H8 o8 m8 _ => ?_
      refine o8.st (by omega) (by omega) rfl fun H9 o9 m9 _ => ?_
      have m69 := m8.trans m9
      refine hnext6 (by omega) _ _ ⟨?_, ⟨_, _, ht.swap hqk (show r < k by omega), ?_⟩, ob6.mod m69 (fun b hb hb' => hap b hb' hb), (e6.mod (F := ownB cols).trans m69).ext (fun b hb => (oc.block b hb).1)⟩
      · simp only; rw [wrap64 (by omega) (by omega)]; omega
      · simp only [Int.toNat_natCast] at o9
        rw [← List.map_set, ← List.map_set, listOf_swap] at o9
        exact o9
    · refine loop_upto k (fun t z H' => z = (t : Int) ∧ Owns H' H.size ty_int 1 back (((List.range k).map fun v => if g v < t then (g v : Int) else 0).map (Value.int .i64)) ∧ Mod (ownB back) H6 H') ⟨rfl, ?_, Mod.refl _ _⟩ ?_
      · have : (List.range k).map (fun v => if g v < 0 then (g v : Int) else 0) = List.replicate k 0 := by
          apply List.ext_getElem
          · simp
          · intro v h1 h2; simp
        rw [this]; exact ob6
      · rintro t z H10 next10 htk ⟨rfl, ob10, m10⟩ hnext10
        have oc10 := o6.mod m10 (fun b hb hb' => hap b hb hb')
        have hlen : (listOf k f).length = k := by simp [listOf]
        refine br_mk (fun h2 => ?_) (fun h2 => ?_)
        · have hlt : t < k := by simp at h2; omega
          refine ints_get oc10.ints (i := (t : Int)) (j := t) rfl (by omega) fun ad1 q1 => ?_
          rw [show (listOf k f).getD t 0 = (f t : Int) from getD_range (fun j => (f j : Int)) hlt]
          obtain ⟨hf1, hf2⟩ := ht.there t hlt
          refine ob10.st (by omega) (by omega) rfl fun H11 o11 m11 _ => ?_
          refine hnext10 hlt _ _ ⟨by rw [succ64 t (by omega)], ?_, m10.trans m11⟩
          simp only [Int.toNat_natCast] at o11
          rw [← List.map_set, set_range] at o11
          have : ((List.range k).map fun v => if v = f t then (t : Int) else if g v < t then (g v : Int) else 0) = (List.range k).map fun v => if g v < t + 1 then (g v : Int) else 0 := by
            apply List.map_congr_left
            intro v hv
            obtain ⟨hb1, hb2⟩ := ht.back v (List.mem_range.1 hv)
            by_cases q : v = f t
            · rw [if_pos q, if_pos (by rw [q, hf2]; omega), q, hf2]
            · rw [if_neg q]
              have : g v ≠ t := fun e => q (by rw [← e, hb2])
              by_cases q2 : g v < t
              · rw [if_pos q2, if_pos (by omega)]
              · rw [if_neg q2, if_neg (by omega)]
          rw [this] at o11
          exact o11
        · have hkt : t = k := by simp at h2; omega
          subst hkt
          have eb : ((List.range t).map fun v => if g v < t then (g v : Int) else 0) = listOf t g := by
            unfold listOf
            apply List.map_congr_left
            intro v hv
            rw [if_pos (ht.back v (List.mem_range.1 hv)).1]
          rw [eb] at ob10
          have e10 : Ext H H10 := (e6.mod (F := ownB back).trans m10).ext (fun b hb => (ob.block b hb).1)
          have hgl : (listOf t g).length = t := by simp [listOf]
          refine rowTurn_ok (ha.ext e10) oc10.ints (by omega) fun s H12 o12 e12 => ?_
          refine rowTurn_ok o12.ints (ob10.ext e12).ints (by omega) fun u H13 o13 e13 => ?_
          have t1 : turnE la (listOf t f) = 0 := by unfold turnE; rw [turnOK_listOf hn.symm (fun j hj => (ht.there j hj).1), if_pos rfl]
          have hl2 : (turnL la (listOf t f)).length = t := by
            unfold turnL; rw [turnOK_listOf hn.symm (fun j hj => (ht.there j hj).1), if_pos rfl]; simp [listOf]
          have t2 : turnE (turnL la (listOf t f)) (listOf t g) = 0 := by unfold turnE; rw [turnOK_listOf hl2 (fun j hj => (ht.back j hj).1), if_pos rfl]
          rw [t1, t2]
          rw [turn_there hn.symm ht] at o13
          refine br_mk (fun _ => ?_) (fun h => by simp at h)
          refine SameRow_ok o13.ints (((ha.ext e10).ext e12).ext e13) (by omega) ?_
          refine br_mk (fun _ => ?_) (fun h => by simp at h)
          exact works_ok fun H' e => hK H' (((e10.trans e12).trans e13).trans e)

end Go.Proofs.Ytndnjggcpdkbiaa
