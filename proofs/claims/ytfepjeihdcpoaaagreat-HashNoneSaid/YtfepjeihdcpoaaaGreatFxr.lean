/-
  Ground, a text behind the first: a region that draws its order, where the class of heaps is asked for only from some operation on; it may be chosen there.
-/
import Derived.Test.YtfepjeihdcpoaaaGreatFxa
namespace Go.Proofs.YtfepjeihdcpoaaaGreat

section
variable {P : Program} {M : Option (Heap → Prop)} {L : List Nat} {ops : Array Oper} {Q : Exit → Act → World → Prop}

def strictB (P : Program) (L : List Nat) (ops : Array Oper) (x y : Oper) : Bool := commB P L false ops x y && (clsL P L x == 0 || clsL P L y == 0)
/-- As 'orderFree'; and what stands ahead of 'lo' goes ahead of all behind it that works on memory. -/
def orderFree2 (P : Program) (L : List Nat) (lo k : Nat) (ops : Array Oper) : Bool :=
  let B := befs ops.toList []
  Nat.ble lo ops.size && Nat.ble lo k && Nat.ble k ops.size && orderFreeB P L k ops B && (List.range ops.size).all fun j => match ops[j]? with
    | some oj => (List.range j).all fun i => match ops[i]? with
      | some oi => !Nat.blt i lo || (bif Nat.blt j lo then commB P L false ops oi oj else strictB P L ops oi oj) || waits B j i
      | none => false
    | none => false

theorem orderFree2_free {lo k : Nat} (h : orderFree2 P L lo k ops = true) : orderFree P L k ops = true ∧ lo ≤ ops.size ∧ lo ≤ k ∧ k ≤ ops.size := by
  unfold orderFree2 at h
  simp only [Bool.and_eq_true] at h
  exact ⟨h.1.2, Nat.le_of_ble_eq_true h.1.1.1.1, Nat.le_of_ble_eq_true h.1.1.1.2, Nat.le_of_ble_eq_true h.1.1.2⟩
theorem orderFree2_pair {lo k : Nat} (h : orderFree2 P L lo k ops = true) {i j : Nat} {oi oj : Oper} (hi : ops[i]? = some oi) (hj : ops[j]? = some oj) (hij : i < j) (hil : i < lo) :
    (if j < lo then commB P L false ops oi oj = true else strictB P L ops oi oj = true) ∨ waits (befs ops.toList []) j i = true := by
  unfold orderFree2 at h
  simp only [Bool.and_eq_true] at h
  have hlt : j < ops.size := (Array.getElem?_eq_some_iff.1 hj).1
  have h1 := List.all_eq_true.1 h.2 j (List.mem_range.2 hlt)
  rw [hj] at h1
  have h2 := List.all_eq_true.1 h1 i (List.mem_range.2 hij)
  rw [hi] at h2
  simp only [Bool.or_eq_true] at h2
  rcases h2 with (h2 | h2) | h2
  · rw [blt_t.2 hil] at h2; cases h2
  · by_cases hjl : j < lo
    · rw [if_pos hjl]; rw [blt_t.2 hjl] at h2; exact .inl h2
    · rw [if_neg hjl]; rw [blt_f hjl] at h2; exact .inl h2
  · exact .inr h2

theorem lexL_mono {k : Nat} {K K' : Act → World → Prop} (h : ∀ a w, K a w → K' a w) : ∀ (l : List Nat) (a : Act) (w : World), lexL P M k L ops K l a w → lexL P M k L ops K' l a w
  | [], a, w, hh => h a w hh
  | i :: l, a, w, hh => lexI_mono (fun a w hk => lexL_mono h l a w hk) hh

theorem lexOps_mono {K K' : Act → World → Prop} (h : ∀ a w, K a w → K' a w) : ∀ (l : List Oper) (a : Act) (w : World), lexOps P M L ops K l a w → lexOps P M L ops K' l a w
  | [], a, w, hh => h a w hh
  | o :: l, a, w, hh => lexO_mono (fun a w hk => lexOps_mono h l a w hk) hh

theorem Mat_none (k i : Nat) : Mat none k i = none := by unfold Mat; cases Nat.blt i k <;> rfl

/-- Without a class: an operation goes to the front. -/
theorem lexL_front0 {K : Act → World → Prop} {k j : Nat} : ∀ (l1 l2 : List Nat), (∀ i ∈ l1, ∃ oi oj, ops[i]? = some oi ∧ ops[j]? = some oj ∧ commB P L false ops oi oj = true) →
    ∀ a w, lexL P none k L ops K (l1 ++ j :: l2) a w → lexI P none k L ops j (lexL P none k L ops K (l1 ++ l2)) a w
  | [], l2, _, a, w, h => h
  | i :: l1, l2, hc, a, w, h => by
    have h1 : lexI P none k L ops i (lexI P none k L ops j (lexL P none k L ops K (l1 ++ l2))) a w := lexI_mono (lexL_front0 l1 l2 (fun k hk => hc k (List.mem_cons_of_mem _ hk))) h
    obtain ⟨oi, oj, hi, hj, hcm⟩ := hc i List.mem_cons_self
    have e : ∀ K', lexI P none k L ops i K' = lexO P none L ops oi K' := fun K' => by funext a w; simp only [lexI, hi, Mat_none]
    have e' : ∀ K', lexI P none k L ops j K' = lexO P none L ops oj K' := fun K' => by funext a w; simp only [lexI, hj, Mat_none]
    rw [e, e'] at h1
    have h2 := lexO_swap hcm (fun hb => by cases hb) h1
    simp only [List.cons_append, lexL]
    rw [e, e']
    exact h2

/-- What touches no memory asks for no class. -/
theorem lexO_zero {M M' : Option (Heap → Prop)} {o : Oper} (hc : clsL P L o = 0) {K : Act → World → Prop} {a : Act} {w : World} (h : lexO P M L ops o K a w) : lexO P M' L ops o K a w := by
  unfold lexO at *
  split
  · rename_i hw
    rw [if_pos hw, hc] at h
    rw [hc]; exact h
  · rename_i hw
    rw [if_neg hw] at h; exact h
theorem lexO_ex {α : Type} {M : α → Option (Heap → Prop)} {o : Oper} (hc : clsL P L o = 0) {X : α → World → Prop} {K : α → Act → World → Prop} {a : Act} {w : World} (hX : ∀ g w w', w.heap = w'.heap → X g w → X g w') (h : lexO P none L ops o (fun a w => ∃ g, X g w ∧ K g a w) a w) :
    ∃ g, X g w ∧ lexO P (M g) L ops o (K g) a w := by
  unfold lexO at *
  split at h
  · rename_i hw
    rw [hc] at h
    obtain ⟨v, h1, g, h2, h3⟩ := h
    refine ⟨g, h2, ?_⟩
    rw [if_pos hw, hc]
    exact ⟨v, h1, h3⟩
  · rename_i hw
    obtain ⟨g, h2, h3⟩ := h
    refine ⟨g, h2, ?_⟩
    rw [if_neg hw]; exact h3

def U1 (ops : Array Oper) (lo : Nat) (listed : Array Bool) : List Nat := (List.range ops.size).filter fun i => !listed.getD i true && decide (i < lo)
def U2 (ops : Array Oper) (lo : Nat) (listed : Array Bool) : List Nat := (List.range ops.size).filter fun i => !listed.getD i true && !decide (i < lo)
theorem split_lo (p : Nat → Bool) (lo : Nat) : ∀ n : Nat, (List.range n).filter p = ((List.range n).filter fun i => p i && decide (i < lo)) ++ ((List.range n).filter fun i => p i && !decide (i < lo))
  | 0 => rfl
  | n + 1 => by
    rw [List.range_succ, List.filter_append, List.filter_append, List.filter_append, split_lo p lo n]
    by_cases h : n < lo
    · have e : ((List.range n).filter fun i => p i && !decide (i < lo)) = [] := by
        rw [List.filter_eq_nil_iff]
        intro i hi
        have := List.mem_range.1 hi
        simp; intro _; omega
      rw [e]
      cases hp : p n <;> simp [h, hp]
    · cases hp : p n <;> simp [h, hp]
theorem unlisted_split (lo : Nat) (listed : Array Bool) : unlisted ops listed = U1 ops lo listed ++ U2 ops lo listed := split_lo _ lo ops.size

/-- The state of a region of which the class is still to be chosen. -/
def Open2 (P : Program) (L : List Nat) (ops : Array Oper) (k : Nat) (Q : Exit → Act → World → Prop) (u1 u2 : List Nat) (a : Act) (w : World) : Prop :=
  lexL P none k L ops (fun a w => ∃ G : Heap → Prop, G w.heap ∧ lexL P (some G) k L ops (fun a w => Q .normal a w) u2 a w) u1 a w

theorem open2_pull {k : Nat} {u2 : List Nat} : ∀ (u1 : List Nat), (∀ i ∈ u1, ∀ o, ops[i]? = some o → clsL P L o = 0) → ∀ a w, Open2 P L ops k Q u1 u2 a w → ∃ G : Heap → Prop, G w.heap ∧ lexL P (some G) k L ops (fun a w => Q .normal a w) (u1 ++ u2) a w
  | [], _, a, w, h => h
  | i :: u1, hc, a, w, h => by
    unfold Open2 at h
    have h1 : lexI P none k L ops i (fun a w => ∃ G : Heap → Prop, G w.heap ∧ lexL P (some G) k L ops (fun a w => Q .normal a w) (u1 ++ u2) a w) a w := lexI_mono (fun a w hk => open2_pull u1 (fun j hj => hc j (List.mem_cons_of_mem _ hj)) a w hk) h
    simp only [List.cons_append, lexL]
    unfold lexI at h1 ⊢
    cases ho : ops[i]? with
    | none => rw [ho] at h1; exact h1
    | some o =>
      rw [ho] at h1
      simp only [Mat_none] at h1
      exact lexO_ex (α := Heap → Prop) (M := fun G => Mat (some G) k i) (X := fun G w => G w.heap) (hc i List.mem_cons_self o ho) (fun g w w' e hx => by rw [← e]; exact hx) h1

theorem lexL_any2 {rn : Option Nat} {lo k : Nat} (hB2 : orderFree2 P L lo k ops = true) : ∀ (fuel : Nat) (listed : Array Bool) (a : Act) (w : World), listed.size = ops.size → Closed ops listed → (unlisted ops listed).length = fuel →
    Open2 P L ops k Q (U1 ops lo listed) (U2 ops lo listed) a w → wpAnyIn (FW rn) 0 P .any ops Q fuel listed a w := by
  have hB := (orderFree2_free hB2).1
  intro fuel
  induction fuel with
  | zero =>
    intro listed a w hs hc hl h
    have h0 : unlisted ops listed = [] := List.length_eq_zero_iff.1 hl
    have h1 : U1 ops lo listed = [] := by
      have := h0; rw [unlisted_split lo] at this; exact (List.append_eq_nil_iff.1 this).1
    obtain ⟨G, hG, h2⟩ := open2_pull _ (by rw [h1]; simp) a w h
    exact lexL_any (M := some G) (fun _ _ => rfl) hB 0 listed a w (fun _ => hG) hs hc hl (by rw [unlisted_split lo]; exact h2)
  | succ fuel ih =>
    intro listed a w hs hc hl h
    by_cases hall : ∀ i ∈ U1 ops lo listed, ∀ o, ops[i]? = some o → clsL P L o = 0
    · obtain ⟨G, hG, h2⟩ := open2_pull _ hall a w h
      exact lexL_any (M := some G) (fun _ _ => rfl) hB (fuel + 1) listed a w (fun _ => hG) hs hc hl (by rw [unlisted_split lo]; exact h2)
    · -- something ahead of 'lo' that works on memory is still to come
      obtain ⟨i0, hi0⟩ : ∃ i0, i0 ∈ U1 ops lo listed ∧ ∃ o, ops[i0]? = some o ∧ clsL P L o ≠ 0 := by
        apply Classical.byContradiction
        intro hne
        exact hall fun i hi o ho => Classical.byContradiction fun hcl => hne ⟨i, hi, o, ho, hcl⟩
      obtain ⟨hi0, o0, ho0, hc0⟩ := hi0
      refine ⟨fun h0 => ?_, fun j hj => ?_⟩
      · exfalso
        cases hU : unlisted ops listed with
        | nil => rw [hU] at hl; simp at hl
        | cons m rest =>
          have hm : m ∈ unlisted ops listed := by rw [hU]; exact List.mem_cons_self
          have hmin : ∀ i, i < m → listed.getD i false = true := by
            intro i hi
            obtain ⟨hm1, hm2⟩ := List.mem_filter.1 hm
            have hmlt := List.mem_range.1 hm1
            cases hli : listed.getD i true with
            | true =>
              have : i < listed.size := by omega
              simp [this] at hli ⊢; exact hli
            | false =>
              have hi2 : i ∈ unlisted ops listed := List.mem_filter.2 ⟨List.mem_range.2 (by omega), by simp [hli]⟩
              rw [hU] at hi2
              have hsorted : (unlisted ops listed).Pairwise (· < ·) := List.Pairwise.filter _ List.pairwise_lt_range
              rw [hU, List.pairwise_cons] at hsorted
              rcases List.mem_cons.1 hi2 with e | e
              · omega
              · have := hsorted.1 i e; omega
          obtain ⟨hm1, hm2⟩ := List.mem_filter.1 hm
          have hmlt := List.mem_range.1 hm1
          have ho : ops[m]? = some ops[m] := Array.getElem?_eq_getElem hmlt
          have : m ∈ Region.ready .any ops listed := mem_ready.2 ⟨by simpa using hm2, _, ho, fun e he hb => hmin _ (orderFree_lt hB ho he hb)⟩
          rw [h0] at this
          cases this
      · obtain ⟨hu, oj, hoj, hall2⟩ := mem_ready.1 hj
        have hlt : j < ops.size := (Array.getElem?_eq_some_iff.1 hoj).1
        have hwait : ∀ i, listed.getD i true = false → i < ops.size → waits (befs ops.toList []) j i = false := by
          intro i hiu hil
          cases h3 : waits (befs ops.toList []) j i with
          | false => rfl
          | true =>
            have h4 := waits_listed hc (fun j oj hj e he hb => orderFree_lt hB hj he hb) j i oj hoj hall2 h3
            have : i < listed.size := by omega
            simp [this] at hiu h4
            rw [hiu] at h4; cases h4
        have hclosed : Closed ops (listed.setIfInBounds j true) := by
          intro q ok hq hql e he hb
          by_cases hqj : j = q
          · subst hqj
            have : ok = oj := Option.some.inj (hq.symm.trans hoj)
            subst this
            exact getD_set_true (hall2 e he hb)
          · rw [getD_set_ne false hqj] at hql
            exact getD_set_true (hc q ok hq hql e he hb)
        have hset : ∀ p : Nat → Bool, (List.range ops.size).filter (fun i => !(listed.setIfInBounds j true).getD i true && p i) = (List.range ops.size).filter (fun i => (!listed.getD i true && p i) && decide (i ≠ j)) := by
          intro p
          refine List.filter_congr fun i hi => ?_
          have hi' : i < listed.size := by rw [hs]; exact List.mem_range.1 hi
          by_cases hij : i = j
          · subst hij; simp [hi']
          · rw [getD_set_ne true (Ne.symm hij)]; simp [hij]
        have hlen : (unlisted ops (listed.setIfInBounds j true)).length = fuel := by
          obtain ⟨l1, l2, e1, _, e3⟩ := filter_split (fun i => !listed.getD i true) j (by simp [hu]) ops.size hlt
          have e1' : unlisted ops listed = l1 ++ j :: l2 := e1
          have e4 : unlisted ops (listed.setIfInBounds j true) = l1 ++ l2 := by
            rw [← e3]
            have := hset (fun _ => true)
            simp only [Bool.and_true] at this
            exact this
          rw [e4]
          rw [e1'] at hl
          simp only [List.length_append, List.length_cons] at hl ⊢
          omega
        have pair : ∀ i ∈ U1 ops lo listed, i < j → ∃ oi oj, ops[i]? = some oi ∧ ops[j]? = some oj ∧ (if j < lo then commB P L false ops oi oj = true else strictB P L ops oi oj = true) := by
          intro i hi hij
          obtain ⟨h1, h2⟩ := List.mem_filter.1 hi
          have hil := List.mem_range.1 h1
          simp only [Bool.and_eq_true, decide_eq_true_eq] at h2
          have hoi : ops[i]? = some ops[i] := Array.getElem?_eq_getElem hil
          refine ⟨_, oj, hoi, hoj, ?_⟩
          rcases orderFree2_pair hB2 hoi hoj hij h2.2 with h3 | h3
          · exact h3
          · rw [hwait i (by simpa using h2.1) hil] at h3; cases h3
        by_cases hjl : j < lo
        · -- ahead of 'lo'
          obtain ⟨l1, l2, e1, e2, e3⟩ := filter_split (fun i => !listed.getD i true && decide (i < lo)) j (by simp [hu, hjl]) ops.size hlt
          have e1' : U1 ops lo listed = l1 ++ j :: l2 := e1
          have e4 : U1 ops lo (listed.setIfInBounds j true) = l1 ++ l2 := by rw [← e3]; exact hset fun i => decide (i < lo)
          have e5 : U2 ops lo (listed.setIfInBounds j true) = U2 ops lo listed := by
            refine (hset fun i => !decide (i < lo)).trans ?_
            refine List.filter_congr fun i _ => ?_
            by_cases hij : i = j
            · subst hij; simp [hjl]
            · simp [hij]
          unfold Open2 at h
          rw [e1'] at h
          have h2 := lexL_front0 l1 l2 (fun i hi => by
            obtain ⟨oi, oj', q1, q2, q3⟩ := pair i (by rw [e1']; exact List.mem_append_left _ hi) (e2 i hi).1
            rw [if_pos hjl] at q3
            exact ⟨oi, oj', q1, q2, q3⟩) a w h
          refine wpOp_of_lexI (M := none) (k := k) (fun _ _ _ _ => trivial) (lexI_mono (fun a' w' hk => ?_) h2)
          refine ih _ a' w' (by simp [hs]) hclosed hlen ?_
          rw [e4, e5]; exact hk
        · -- behind it: no memory
          obtain ⟨h1, h2⟩ := List.mem_filter.1 hi0
          simp only [Bool.and_eq_true, decide_eq_true_eq] at h2
          obtain ⟨oi, oj', q1, q2, q3⟩ := pair i0 hi0 (by omega)
          rw [if_neg hjl] at q3
          have e0 : oi = o0 := Option.some.inj (q1.symm.trans ho0)
          have ej : oj' = oj := Option.some.inj (q2.symm.trans hoj)
          subst e0; subst ej
          have hcj : clsL P L oj' = 0 := by
            unfold strictB at q3
            simp only [Bool.and_eq_true, Bool.or_eq_true, beq_iff_eq] at q3
            exact q3.2.resolve_left hc0
          obtain ⟨l1, l2, e1, e2, e3⟩ := filter_split (fun i => !listed.getD i true && !decide (i < lo)) j (by simp [hu, hjl]) ops.size hlt
          have e1' : U2 ops lo listed = l1 ++ j :: l2 := e1
          have e4 : U2 ops lo (listed.setIfInBounds j true) = l1 ++ l2 := by rw [← e3]; exact hset fun i => !decide (i < lo)
          have e5 : U1 ops lo (listed.setIfInBounds j true) = U1 ops lo listed := by
            refine (hset fun i => decide (i < lo)).trans ?_
            refine List.filter_congr fun i _ => ?_
            by_cases hij : i = j
            · subst hij; simp [hjl]
            · simp [hij]
          unfold Open2 at h
          rw [e1'] at h
          have h3 : lexL P none k L ops (lexI P none k L ops j (fun a w => ∃ G : Heap → Prop, G w.heap ∧ lexL P (some G) k L ops (fun a w => Q .normal a w) (l1 ++ l2) a w)) (U1 ops lo listed) a w := by
            refine lexL_mono (fun a' w' hk => ?_) _ a w h
            obtain ⟨G, hG, hk⟩ := hk
            have h4 := lexL_front (M := some G) (k := k) (fun _ _ => rfl) l1 l2 (fun i hi => by
              obtain ⟨hij, hiu⟩ := e2 i hi
              have hil : i < ops.size := by omega
              have hoi : ops[i]? = some ops[i] := Array.getElem?_eq_getElem hil
              simp only [Bool.and_eq_true] at hiu
              refine ⟨hij, ops[i], oj', hoi, hoj, ?_⟩
              rcases orderFree_comm hB hoi hoj hij with h5 | h5
              · exact h5
              · rw [hwait i (by simpa using hiu.1) hil] at h5; cases h5) a' w' hk
            unfold lexI at h4 ⊢
            rw [hoj] at h4 ⊢
            refine lexO_zero (M := Mat (some G) k j) hcj ?_
            have : lexO P (Mat (some G) k j) L ops oj' (fun a w => okC (some G) w.heap ∧ lexL P (some G) k L ops (fun a w => Q .normal a w) (l1 ++ l2) a w) a' w' := lexO_keep (M := some G) hG (.inl hcj) h4
            exact lexO_mono (fun a w hk => ⟨G, hk.1, hk.2⟩) this
          have h4 : lexL P none k L ops (fun a w => ∃ G : Heap → Prop, G w.heap ∧ lexL P (some G) k L ops (fun a w => Q .normal a w) (l1 ++ l2) a w) (U1 ops lo listed ++ j :: []) a w := by
            rw [lexL_append]; exact h3
          have h5 := lexL_front0 (U1 ops lo listed) [] (fun i hi => by
            obtain ⟨g1, g2⟩ := List.mem_filter.1 hi
            simp only [Bool.and_eq_true, decide_eq_true_eq] at g2
            obtain ⟨oi', oj2, r1, r2, r3⟩ := pair i hi (by omega)
            rw [if_neg hjl] at r3
            unfold strictB at r3
            simp only [Bool.and_eq_true] at r3
            exact ⟨oi', oj2, r1, r2, r3.1⟩) a w h4
          rw [List.append_nil] at h5
          refine wpOp_of_lexI (M := none) (k := k) (fun _ _ _ _ => trivial) (lexI_mono (fun a' w' hk => ?_) h5)
          refine ih _ a' w' (by simp [hs]) hclosed hlen ?_
          rw [e4, e5]; exact hk

/-- **THE WALK IN THE TEXT's ORDER SERVES EVERY ORDER**: the class is chosen on the way. -/
theorem wp_region_free2 {rn : Option Nat} {id : Nat} {a : Act} {w : World} {lo k : Nat} (hm : P.follows .mixedOrders = true) (hB : orderFree2 P L lo k ops = true)
    (h : lexOps P none L ops (fun a w => ∃ G : Heap → Prop, G w.heap ∧ lexOps P (some G) L ops (lexOps P none L ops (fun a w => Q .normal a w) (ops.toList.drop k)) ((ops.toList.take k).drop lo) a w) (ops.toList.take lo) a { w with drawn := w.drawn + 1 }) :
    (Code.region id ops true).wpIn (FW rn) 0 P Q a w := by
  obtain ⟨_, hlo, hlk, hks⟩ := orderFree2_free hB
  have hf : ∀ j, (Array.replicate ops.size false).getD j true = if j < ops.size then false else true := fun j => by
    by_cases hj : j < ops.size
    · simp [hj]
    · simp [hj]
  have hu : unlisted ops (Array.replicate ops.size false) = List.range ops.size := by
    unfold unlisted
    rw [List.filter_eq_self]
    intro i hi
    have := List.mem_range.1 hi
    simp [this]
  have hu1 : U1 ops lo (Array.replicate ops.size false) = List.range' 0 lo := by
    unfold U1
    have e : (List.range ops.size).filter (fun i => !(Array.replicate ops.size false).getD i true && decide (i < lo)) = (List.range ops.size).filter fun i => decide (i < lo) := List.filter_congr fun i hi => by
      have := List.mem_range.1 hi
      rw [hf, if_pos this]; simp
    rw [e]
    have h1 : List.range ops.size = List.range' 0 lo ++ List.range' lo (ops.size - lo) := by
      rw [List.range_eq_range']
      have : ops.size = lo + (ops.size - lo) := by omega
      conv => lhs; rw [this, ← List.range'_append_1]
      simp
    rw [h1, List.filter_append, List.filter_eq_self.2 (fun i hi => by have := List.mem_range'_1.1 hi; simp; omega), List.filter_eq_nil_iff.2 (fun i hi => by have := List.mem_range'_1.1 hi; simp; omega), List.append_nil]
  have hu2 : U2 ops lo (Array.replicate ops.size false) = List.range' lo (ops.size - lo) := by
    unfold U2
    have e : (List.range ops.size).filter (fun i => !(Array.replicate ops.size false).getD i true && !decide (i < lo)) = (List.range ops.size).filter fun i => !decide (i < lo) := List.filter_congr fun i hi => by
      have := List.mem_range.1 hi
      rw [hf, if_pos this]; simp
    rw [e]
    have h1 : List.range ops.size = List.range' 0 lo ++ List.range' lo (ops.size - lo) := by
      rw [List.range_eq_range']
      have : ops.size = lo + (ops.size - lo) := by omega
      conv => lhs; rw [this, ← List.range'_append_1]
      simp
    rw [h1, List.filter_append, List.filter_eq_nil_iff.2 (fun i hi => by have := List.mem_range'_1.1 hi; simp; omega), List.filter_eq_self.2 (fun i hi => by have := List.mem_range'_1.1 hi; simp; omega), List.nil_append]
  refine wpIn_region_any hm (lexL_any2 hB ops.size _ a _ (by simp) ?_ (by rw [hu]; simp) ?_)
  · intro j oj _ hl
    have : ∀ j, (Array.replicate ops.size false).getD j false = false := fun j => by
      rcases Nat.lt_or_ge j ops.size with h | h
      · simp [h]
      · simp [h]
    rw [this] at hl
    cases hl
  · rw [hu1, hu2]
    unfold Open2
    have t0 := lexL_of_lexOps (P := P) (M := none) (L := L) (ops := ops) (K := fun a w => ∃ G : Heap → Prop, G w.heap ∧ lexL P (some G) k L ops (fun a w => Q .normal a w) (List.range' lo (ops.size - lo)) a w) (k := k) (M' := none) (ops.toList.take lo) 0 (fun j hj => by
      have hj' : j < lo := by simp at hj; omega
      rw [List.getElem?_take, if_pos hj', Nat.zero_add, Array.getElem?_toList]) (fun j hj => Mat_none _ _)
    have hl0 : (ops.toList.take lo).length = lo := by simp; omega
    rw [hl0] at t0
    rw [t0]
    refine lexOps_mono (fun a' w' hk => ?_) _ a _ h
    obtain ⟨G, hG, hk⟩ := hk
    refine ⟨G, hG, ?_⟩
    have t1 := lexL_of_lexOps (P := P) (M := some G) (L := L) (ops := ops) (K := lexOps P none L ops (fun a w => Q .normal a w) (ops.toList.drop k)) (k := k) (M' := some G) ((ops.toList.take k).drop lo) lo (fun j hj => by
      have hj' : lo + j < k := by simp at hj; omega
      rw [List.getElem?_drop, List.getElem?_take, if_pos hj', Array.getElem?_toList]) (fun j hj => by
      have : Nat.blt (lo + j) k = true := blt_t.2 (by simp at hj; omega)
      unfold Mat; rw [this]; rfl)
    have t2 := lexL_of_lexOps (P := P) (M := some G) (L := L) (ops := ops) (K := fun a w => Q .normal a w) (k := k) (M' := none) (ops.toList.drop k) k (fun j hj => by
      rw [List.getElem?_drop, Array.getElem?_toList]) (fun j hj => by
      have : Nat.blt (k + j) k = false := blt_f (by omega)
      unfold Mat; rw [this]; rfl)
    have hl1 : ((ops.toList.take k).drop lo).length = k - lo := by simp; omega
    have hl2 : (ops.toList.drop k).length = ops.size - k := by simp
    rw [hl1] at t1
    rw [hl2] at t2
    have hsplit : List.range' lo (ops.size - lo) = List.range' lo (k - lo) ++ List.range' k (ops.size - k) := by
      have h1 : ops.size - lo = (k - lo) + (ops.size - k) := by omega
      rw [h1, ← List.range'_append_1]
      congr 2; omega
    rw [hsplit, lexL_append, t2, t1]
    exact hk

end
end Go.Proofs.YtfepjeihdcpoaaaGreat
