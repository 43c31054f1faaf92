/-
 Ground, a text behind the first: a region in which one effect floats beside others: it may go ahead of any of those that do not wait for it. The walk serves every order if it serves each place of that one.
-/
import Derived.Test.YtkehfflpbpdokaaGreatFxa
namespace Go.Proofs.YtkehfflpbpdokaaGreat
section
variable {P : Program} {M : Option (Heap → Prop)} {L : List Nat} {ops : Array Oper} {Q : Exit → Act → World → Prop}
def calmO (P : Program) (L : List Nat) (o : Oper) : Bool := clsL P L o == 0 || clsL P L o == 1
def atO (ops : Array Oper) (i : Nat) (t : Oper → Bool) : Bool := match ops[i]? with | some o => t o | none => false
theorem atO_spec {i : Nat} {t : Oper → Bool} {o : Oper} (h : atO ops i t = true) (ho : ops[i]? = some o) : t o = true := by
 unfold atO at h; rw [ho] at h; exact h
def floatB (P : Program) (L : List Nat) (ops : Array Oper) (f c : Nat) (B : List Nat) : Bool :=
 decide (f < c) && decide (c < ops.size) && waits B c f &&
 (List.range ops.size).all fun j => atO ops j fun oj =>
  (oj.after.all fun e => !Region.binds .any e || decide (e.on < j)) &&
  ((List.range j).all fun i => i == f || j == f || atO ops i (fun oi => commB P L true ops oi oj || waits B j i)) &&
  atO ops f (fun of => (bif Nat.blt j f then commB P L true ops oj of || waits B f j else
   bif Nat.beq j f then true else
   bif Nat.blt j c then !(waits B j f) && (!(calmO P L oj) || (commB P L true ops of oj && commB P L true ops oj of))
   else (waits B j f || commB P L true ops of oj)))
structure Floats (P : Program) (L : List Nat) (ops : Array Oper) (f c : Nat) : Prop where
 fc : f < c
 cn : c < ops.size
 wait : waits (befs ops.toList []) c f = true
 lt : ∀ j oj, ops[j]? = some oj → ∀ e ∈ oj.after, Region.binds .any e = true → e.on < j
 pair : ∀ i j oi oj, ops[i]? = some oi → ops[j]? = some oj → i < j → i ≠ f → j ≠ f → commB P L true ops oi oj = true ∨ waits (befs ops.toList []) j i = true
 below : ∀ i oi of, ops[i]? = some oi → ops[f]? = some of → i < f → commB P L true ops oi of = true ∨ waits (befs ops.toList []) f i = true
 mid : ∀ i oi of, ops[i]? = some oi → ops[f]? = some of → f < i → i < c → waits (befs ops.toList []) i f = false ∧ (calmO P L oi = true → commB P L true ops of oi = true ∧ commB P L true ops oi of = true)
 above : ∀ i oi of, ops[i]? = some oi → ops[f]? = some of → c ≤ i → waits (befs ops.toList []) i f = true ∨ commB P L true ops of oi = true
theorem floatB_spec {f c : Nat} (h : floatB P L ops f c (befs ops.toList []) = true) : Floats P L ops f c := by
 unfold floatB at h
 simp only [Bool.and_eq_true, decide_eq_true_eq] at h
 obtain ⟨⟨⟨h1, h2⟩, h3⟩, h4⟩ := h
 have key : ∀ j oj, ops[j]? = some oj → _ := fun j oj hj => by
  have hlt : j < ops.size := (Array.getElem?_eq_some_iff.1 hj).1
  exact atO_spec (List.all_eq_true.1 h4 j (List.mem_range.2 hlt)) hj
 simp only [Bool.and_eq_true] at key
 refine ⟨h1, h2, h3, ?_, ?_, ?_, ?_, ?_⟩
 ·intro j oj hj e he hb
  have := Array.all_eq_true_iff_forall_mem.1 (key j oj hj).1.1 e he
  simpa [hb] using this
 ·intro i j oi oj hi hj hij hif hjf
  have := List.all_eq_true.1 (key j oj hj).1.2 i (List.mem_range.2 hij)
  simp only [Bool.or_eq_true, beq_iff_eq] at this
  rcases this with (q | q) | q
  ·exact absurd q hif
  ·exact absurd q hjf
  ·have := atO_spec q hi
   simpa [Bool.or_eq_true] using this
 ·intro i oi of hi hf hlt
  have := atO_spec (key i oi hi).2 hf
  rw [blt_t.2 hlt] at this
  simpa [Bool.or_eq_true] using this
 ·intro i oi of hi hf hfi hic
  have := atO_spec (key i oi hi).2 hf
  rw [blt_f (by omega : ¬ i < f), blt_t.2 hic] at this
  have hb : Nat.beq i f = false := by
   cases q : Nat.beq i f with
   | false => rfl
   | true => have := Nat.eq_of_beq_eq_true q; omega
  rw [hb] at this
  simp only [cond_false, cond_true, Bool.and_eq_true, Bool.or_eq_true, Bool.not_eq_true'] at this
  refine ⟨this.1, fun hc => ?_⟩
  rcases this.2 with q | q
  ·rw [hc] at q; cases q
  ·exact q
 ·intro i oi of hi hf hci
  have := atO_spec (key i oi hi).2 hf
  rw [blt_f (by omega : ¬ i < f), blt_f (by omega : ¬ i < c)] at this
  have hb : Nat.beq i f = false := by
   cases q : Nat.beq i f with
   | false => rfl
   | true => have := Nat.eq_of_beq_eq_true q; omega
  rw [hb] at this
  simpa [Bool.or_eq_true] using this
theorem commB_calm {m : Bool} {x y : Oper} (h : commB P L m ops x y = true) : calmO P L x = true ∨ calmO P L y = true := by
 obtain ⟨_, h2, _⟩ := commB_spec h
 unfold calmO
 rcases h2 with q | q | ⟨q, _⟩ | ⟨_, q | q⟩
 ·left; simp [q]
 ·right; simp [q]
 ·left; simp [q]
 ·left; simp [q]
 ·right; simp [q]
theorem lexL_frontN {K : Act → World → Prop} {j : Nat} (hM : M.isSome = true) : ∀ (l1 l2 : List Nat), (∀ i ∈ l1, ∃ oi oj, ops[i]? = some oi ∧ ops[j]? = some oj ∧ commB P L true ops oi oj = true) →
  ∀ a w, lexL P M ops.size L ops K (l1 ++ j :: l2) a w → lexI P M ops.size L ops j (lexL P M ops.size L ops K (l1 ++ l2)) a w
 | [], l2, _, a, w, h => h
 | i :: l1, l2, hc, a, w, h => by
   have h1 : lexI P M ops.size L ops i (lexI P M ops.size L ops j (lexL P M ops.size L ops K (l1 ++ l2))) a w := lexI_mono (lexL_frontN hM l1 l2 (fun k hk => hc k (List.mem_cons_of_mem _ hk))) h
   obtain ⟨oi, oj, hi, hj, hcm⟩ := hc i List.mem_cons_self
   have mi : Mat M ops.size i = M := by unfold Mat; rw [blt_t.2 (Array.getElem?_eq_some_iff.1 hi).1]; rfl
   have mj : Mat M ops.size j = M := by unfold Mat; rw [blt_t.2 (Array.getElem?_eq_some_iff.1 hj).1]; rfl
   have e : ∀ K', lexI P M ops.size L ops i K' = lexO P M L ops oi K' := fun K' => by funext a w; simp only [lexI, hi, mi]
   have e' : ∀ K', lexI P M ops.size L ops j K' = lexO P M L ops oj K' := fun K' => by funext a w; simp only [lexI, hj, mj]
   rw [e, e'] at h1
   have h2 := lexO_swap hcm (fun _ => ⟨rfl, hM⟩) h1
   simp only [List.cons_append, lexL]
   rw [e, e']
   exact h2
theorem lexI_go {rn : Option Nat} {fuel j : Nat} {listed : Array Bool} {a : Act} {w : World} {X : Act → World → Prop} {oj : Oper} (hoj : ops[j]? = some oj) (hok : okC M w.heap)
  (h : lexI P M ops.size L ops j X a w) (go : ∀ a' w', okC M w'.heap → X a' w' → wpAnyIn (FW rn) 0 P .any ops Q fuel (listed.setIfInBounds j true) a' w') :
  wpOpIn (FW rn) 0 P ops Q j (fun a w => wpAnyIn (FW rn) 0 P .any ops Q fuel (listed.setIfInBounds j true) a w) a w := by
 have mj : Mat M ops.size j = M := by unfold Mat; rw [blt_t.2 (Array.getElem?_eq_some_iff.1 hoj).1]; rfl
 have h3 : lexI P M ops.size L ops j (fun a w => okC M w.heap ∧ X a w) a w := by
  unfold lexI at h ⊢
  rw [hoj] at h ⊢
  exact lexO_keep hok (.inr (.inr mj)) h
 exact wpOp_of_lexI (fun _ _ _ _ => hok) (lexI_mono (fun a' w' h5 => go a' w' h5.1 h5.2) h3)
theorem wpAny_first {rn : Option Nat} {fuel : Nat} {listed : Array Bool} {a : Act} {w : World} (hs : listed.size = ops.size) (hl : (unlisted ops listed).length = fuel + 1) (hlt : ∀ j oj, ops[j]? = some oj → ∀ e ∈ oj.after, Region.binds .any e = true → e.on < j)
  (h : ∀ j oj, ops[j]? = some oj → listed.getD j true = false → (∀ e ∈ oj.after, Region.binds .any e = true → listed.getD e.on false = true) → wpOpIn (FW rn) 0 P ops Q j (fun a w => wpAnyIn (FW rn) 0 P .any ops Q fuel (listed.setIfInBounds j true) a w) a w) :
  wpAnyIn (FW rn) 0 P .any ops Q (fuel + 1) listed a w := by
 refine ⟨fun h0 => ?_, fun j hj => ?_⟩
 ·exfalso
  cases hU : unlisted ops listed with
  | nil => rw [hU] at hl; simp at hl
  | cons m rest =>
    have hm : m ∈ unlisted ops listed := by rw [hU]; exact List.mem_cons_self
    have hmin : ∀ i, i < m → listed.getD i false = true := by
     intro i hi
     obtain ⟨hm1, hm2⟩ := List.mem_filter.1 hm
     have hmlt := List.mem_range.1 hm1
     cases hli : listed.getD i true with
     | true =>
       have : i < listed.size := by omega
       simp [this] at hli ⊢; exact hli
     | false =>
       have hi2 : i ∈ unlisted ops listed := List.mem_filter.2 ⟨List.mem_range.2 (by omega), by simp [hli]⟩
       rw [hU] at hi2
       have hsorted : (unlisted ops listed).Pairwise (· < ·) := List.Pairwise.filter _ List.pairwise_lt_range
       rw [hU, List.pairwise_cons] at hsorted
       rcases List.mem_cons.1 hi2 with e | e
       ·omega
       ·have := hsorted.1 i e; omega
    obtain ⟨hm1, hm2⟩ := List.mem_filter.1 hm
    have hmlt := List.mem_range.1 hm1
    have ho : ops[m]? = some ops[m] := Array.getElem?_eq_getElem hmlt
    have : m ∈ Region.ready .any ops listed := mem_ready.2 ⟨by simpa using hm2, _, ho, fun e he hb => hmin _ (hlt m _ ho e he hb)⟩
    rw [h0] at this
    cases this
 ·obtain ⟨hu, oj, hoj, hall⟩ := mem_ready.1 hj
  exact h j oj hoj hu hall
def leftF (listed : Array Bool) (l : List Nat) : List Nat := l.filter fun i => !listed.getD i true
theorem leftF_set {listed : Array Bool} {j : Nat} {l : List Nat} (hb : ∀ i ∈ l, i < listed.size) : leftF (listed.setIfInBounds j true) l = (l.filter fun i => !listed.getD i true && decide (i ≠ j)) := by
 unfold leftF
 refine List.filter_congr fun i hi => ?_
 have hi' := hb i hi
 by_cases hij : i = j
 ·subst hij; simp [hi']
 ·rw [getD_set_ne true (Ne.symm hij)]; simp [hij]
def restF (n f : Nat) : List Nat := (List.range n).filter fun i => !Nat.beq i f
def stopF (P : Program) (L : List Nat) (ops : Array Oper) (f c i : Nat) : Bool := Nat.ble c i || (Nat.blt f i && atO ops i fun o => !(calmO P L o))
def lexT (P : Program) (M : Option (Heap → Prop)) (L : List Nat) (ops : Array Oper) (f c : Nat) (K : Act → World → Prop) : List Nat → Act → World → Prop
 | [] => lexL P M ops.size L ops K [f]
 | i :: l => bif Nat.ble c i then lexL P M ops.size L ops K (f :: i :: l) else
   bif stopF P L ops f c i then fun a w => lexL P M ops.size L ops K (f :: i :: l) a w ∧ lexI P M ops.size L ops i (lexT P M L ops f c K l) a w
   else lexI P M ops.size L ops i (lexT P M L ops f c K l)
theorem ble_t {i k : Nat} : Nat.ble i k = true ↔ i ≤ k := ⟨Nat.le_of_ble_eq_true, Nat.ble_eq_true_of_le⟩
theorem lexT_high {f c : Nat} {K : Act → World → Prop} {l : List Nat} (h : ∀ i ∈ l, c ≤ i) : lexT P M L ops f c K l = lexL P M ops.size L ops K (f :: l) := by
 cases l with
 | nil => rfl
 | cons i l =>
   show (bif Nat.ble c i then _ else _) = _
   rw [ble_t.2 (h i List.mem_cons_self)]; rfl
theorem lexI_keep {i : Nat} {oi : Oper} {K : Act → World → Prop} {a : Act} {w : World} (hi : ops[i]? = some oi) (hok : okC M w.heap) (h : lexI P M ops.size L ops i K a w) : lexI P M ops.size L ops i (fun a w => okC M w.heap ∧ K a w) a w := by
 have mi : Mat M ops.size i = M := by unfold Mat; rw [blt_t.2 (Array.getElem?_eq_some_iff.1 hi).1]; rfl
 unfold lexI at h ⊢
 rw [hi] at h ⊢
 exact lexO_keep hok (.inr (.inr mi)) h
theorem lexI_swapN {i j : Nat} {oi oj : Oper} (hM : M.isSome = true) (hi : ops[i]? = some oi) (hj : ops[j]? = some oj) (hcm : commB P L true ops oi oj = true) {K : Act → World → Prop} {a : Act} {w : World}
  (h : lexI P M ops.size L ops i (lexI P M ops.size L ops j K) a w) : lexI P M ops.size L ops j (lexI P M ops.size L ops i K) a w := by
 have mi : Mat M ops.size i = M := by unfold Mat; rw [blt_t.2 (Array.getElem?_eq_some_iff.1 hi).1]; rfl
 have mj : Mat M ops.size j = M := by unfold Mat; rw [blt_t.2 (Array.getElem?_eq_some_iff.1 hj).1]; rfl
 have e : ∀ K', lexI P M ops.size L ops i K' = lexO P M L ops oi K' := fun K' => by funext a w; simp only [lexI, hi, mi]
 have e' : ∀ K', lexI P M ops.size L ops j K' = lexO P M L ops oj K' := fun K' => by funext a w; simp only [lexI, hj, mj]
 rw [e, e'] at h
 rw [e', e]
 exact lexO_swap hcm (fun _ => ⟨rfl, hM⟩) h
theorem lexI_and {j : Nat} {oj : Oper} (hj : ops[j]? = some oj) (hc : calmO P L oj = true) {A B : Act → World → Prop} {a : Act} {w : World} (hok : okC M w.heap) (h1 : lexI P M ops.size L ops j A a w) (h2 : lexI P M ops.size L ops j B a w) :
  lexI P M ops.size L ops j (fun a w => A a w ∧ B a w) a w := by
 have mj : Mat M ops.size j = M := by unfold Mat; rw [blt_t.2 (Array.getElem?_eq_some_iff.1 hj).1]; rfl
 unfold lexI at *
 rw [hj] at *
 simp only [mj] at *
 unfold lexO at *
 split
 ·rename_i hw
  rw [if_pos hw] at h1 h2
  unfold calmO at hc
  simp only [Bool.or_eq_true, beq_iff_eq] at hc
  rcases hc with q | q
  ·rw [q] at h1 h2 ⊢
   obtain ⟨v1, r1, k1⟩ := h1
   obtain ⟨v2, r2, k2⟩ := h2
   have := (r1 w).symm.trans (r2 w)
   cases this
   exact ⟨v1, r1, k1, k2⟩
  ·rw [q] at h1 h2 ⊢
   obtain ⟨v1, r1, k1⟩ := h1
   obtain ⟨v2, r2, k2⟩ := h2
   have := (r1 w (inC_refl hok)).symm.trans (r2 w (inC_refl hok))
   cases this
   exact ⟨v1, r1, k1, k2⟩
 ·rename_i hw
  rw [if_neg hw] at h1 h2
  exact ⟨h1, h2⟩
theorem stopF_spec {f c i : Nat} {oi : Oper} (hi : ops[i]? = some oi) : stopF P L ops f c i = true ↔ c ≤ i ∨ (f < i ∧ calmO P L oi = false) := by
 unfold stopF atO
 rw [hi]
 simp only [Bool.or_eq_true, Bool.and_eq_true, Bool.not_eq_true']
 rw [ble_t, blt_t]
theorem lexT_now {f c : Nat} {K : Act → World → Prop} : ∀ (l : List Nat) (a : Act) (w : World), lexT P M L ops f c K l a w → lexL P M ops.size L ops K ((l.takeWhile fun i => !stopF P L ops f c i) ++ f :: l.dropWhile fun i => !stopF P L ops f c i) a w
 | [], a, w, h => h
 | i :: l, a, w, h => by
   unfold lexT at h
   cases hb : Nat.ble c i with
   | true =>
     rw [hb] at h
     have hs : stopF P L ops f c i = true := by unfold stopF; rw [hb]; rfl
     simp only [List.takeWhile_cons, List.dropWhile_cons, hs]
     exact h
   | false =>
     rw [hb] at h
     cases hs : stopF P L ops f c i with
     | true =>
       rw [hs] at h
       simp only [List.takeWhile_cons, List.dropWhile_cons, hs]
       exact h.1
     | false =>
       rw [hs] at h
       simp only [List.takeWhile_cons, List.dropWhile_cons, hs]
       exact lexI_mono (lexT_now l) h
theorem lexT_front {f c j : Nat} {of oj : Oper} {K : Act → World → Prop} (hM : M.isSome = true) (hf : ops[f]? = some of) (hj : ops[j]? = some oj) (hfj : (f < j → j < c → calmO P L oj = true) → commB P L true ops of oj = true ∨ j < f) (hhi : c ≤ j → commB P L true ops of oj = true) :
  ∀ (l1 l2 : List Nat), (∀ i ∈ l1, i < j ∧ ∃ oi, ops[i]? = some oi ∧ commB P L true ops oi oj = true ∧ (calmO P L oj = true ∨ calmO P L oi = true)) → (∀ i ∈ l2, j < i) → (c ≤ j → True) →
  ∀ a w, okC M w.heap → lexT P M L ops f c K (l1 ++ j :: l2) a w → lexI P M ops.size L ops j (lexT P M L ops f c K (l1 ++ l2)) a w
 | [], l2, _, h2, _, a, w, hok, h => by
   simp only [List.nil_append] at h ⊢
   unfold lexT at h
   cases hb : Nat.ble c j with
   | true =>
     rw [hb] at h
     have hcj := ble_t.1 hb
     rw [lexT_high fun i hi => Nat.le_trans hcj (Nat.le_of_lt (h2 i hi))]
     exact lexL_frontN hM [f] l2 (fun i hi => by rw [List.mem_singleton] at hi; subst hi; exact ⟨of, oj, hf, hj, hhi hcj⟩) a w h
   | false =>
     rw [hb] at h
     cases hs : stopF P L ops f c j with
     | true => rw [hs] at h; exact h.2
     | false => rw [hs] at h; exact h
 | i :: l1, l2, h1, h2, h3, a, w, hok, h => by
   obtain ⟨hij, oi, hi, hcm, hca⟩ := h1 i List.mem_cons_self
   have h1' := fun k hk => h1 k (List.mem_cons_of_mem _ hk)
   simp only [List.cons_append] at h ⊢
   unfold lexT at h
   rw [show lexT P M L ops f c K (i :: (l1 ++ l2)) = (bif Nat.ble c i then lexL P M ops.size L ops K (f :: i :: (l1 ++ l2)) else
    bif stopF P L ops f c i then fun a w => lexL P M ops.size L ops K (f :: i :: (l1 ++ l2)) a w ∧ lexI P M ops.size L ops i (lexT P M L ops f c K (l1 ++ l2)) a w
    else lexI P M ops.size L ops i (lexT P M L ops f c K (l1 ++ l2))) from rfl]
   have inner : lexI P M ops.size L ops i (lexT P M L ops f c K (l1 ++ j :: l2)) a w → lexI P M ops.size L ops j (lexI P M ops.size L ops i (lexT P M L ops f c K (l1 ++ l2))) a w := fun hx =>
    lexI_swapN hM hi hj hcm (lexI_mono (fun a' w' hk => lexT_front hM hf hj hfj hhi l1 l2 h1' h2 h3 a' w' hk.1 hk.2) (lexI_keep hi hok hx))
   have front : commB P L true ops of oj = true → lexL P M ops.size L ops K (f :: i :: (l1 ++ j :: l2)) a w → lexI P M ops.size L ops j (lexL P M ops.size L ops K (f :: i :: (l1 ++ l2))) a w := fun hc hx =>
    lexL_frontN hM (f :: i :: l1) l2 (fun k hk => by
     rcases List.mem_cons.1 hk with q | q
     ·subst q; exact ⟨of, oj, hf, hj, hc⟩
     ·obtain ⟨_, ok, hk1, hk2, _⟩ := h1 k q
      exact ⟨ok, oj, hk1, hj, hk2⟩) a w hx
   cases hb : Nat.ble c i with
   | true =>
     rw [hb] at h
     exact front (hhi (by have := ble_t.1 hb; omega)) h
   | false =>
     rw [hb] at h
     cases hs : stopF P L ops f c i with
     | false =>
       rw [hs] at h
       exact inner h
     | true =>
       rw [hs] at h
       have hci : ¬ c ≤ i := fun q => by rw [ble_t.2 q] at hb; cases hb
       rcases (stopF_spec hi).1 hs with q | ⟨q1, q2⟩
       ·exact absurd q hci
       ·have hcj : calmO P L oj = true := by
         rcases hca with r | r
         ·exact r
         ·rw [q2] at r; cases r
        have hcf : commB P L true ops of oj = true := by
         rcases hfj (fun _ _ => hcj) with r | r
         ·exact r
         ·omega
        exact lexI_and hj hcj hok (front hcf h.1) (inner h.2)
theorem lexT_any {rn : Option Nat} {f c : Nat} (hM : M.isSome = true) (hB : Floats P L ops f c) : ∀ (fuel : Nat) (listed : Array Bool) (a : Act) (w : World), okC M w.heap → listed.size = ops.size → Closed ops listed → (unlisted ops listed).length = fuel →
  (listed.getD f true = true → lexL P M ops.size L ops (fun a w => Q .normal a w) (unlisted ops listed) a w) →
  (listed.getD f true = false → lexT P M L ops f c (fun a w => Q .normal a w) (leftF listed (restF ops.size f)) a w) →
  wpAnyIn (FW rn) 0 P .any ops Q fuel listed a w := by
 intro fuel
 induction fuel with
 | zero =>
   intro listed a w hG hs hc hl h _
   have h0 : unlisted ops listed = [] := List.length_eq_zero_iff.1 hl
   have hf : listed.getD f true = true := by
    cases q : listed.getD f true with
    | true => rfl
    | false =>
      have : f ∈ unlisted ops listed := List.mem_filter.2 ⟨List.mem_range.2 (Nat.lt_trans hB.fc hB.cn), by simp [q]⟩
      rw [h0] at this; cases this
   refine ⟨?_, by have := h hf; rw [h0] at this; exact this⟩
   rw [List.eq_nil_iff_forall_not_mem]
   intro j hj
   obtain ⟨hu, o, ho, _⟩ := mem_ready.1 hj
   have hlt : j < ops.size := (Array.getElem?_eq_some_iff.1 ho).1
   have : j ∈ unlisted ops listed := List.mem_filter.2 ⟨List.mem_range.2 hlt, by simp [hu]⟩
   rw [h0] at this
   cases this
 | succ fuel ih =>
   intro listed a w hG hs hc hl h hn
   refine wpAny_first hs hl hB.lt fun j oj hoj hu hall => ?_
   have hlt : j < ops.size := (Array.getElem?_eq_some_iff.1 hoj).1
   have hfn : f < ops.size := Nat.lt_trans hB.fc hB.cn
   have hof : ops[f]? = some ops[f] := Array.getElem?_eq_getElem hfn
   have hwait : ∀ i, listed.getD i true = false → i < ops.size → waits (befs ops.toList []) j i = false := by
    intro i hiu hil
    cases h3 : waits (befs ops.toList []) j i with
    | false => rfl
    | true =>
      have h4 := waits_listed hc hB.lt j i oj hoj hall h3
      have : i < listed.size := by omega
      simp [this] at hiu h4
      rw [hiu] at h4; cases h4
   have hclosed : Closed ops (listed.setIfInBounds j true) := by
    intro q ok hq hql e he hb
    by_cases hqj : j = q
    ·subst hqj
     have : ok = oj := Option.some.inj (hq.symm.trans hoj)
     subst this
     exact getD_set_true (hall e he hb)
    ·rw [getD_set_ne false hqj] at hql
     exact getD_set_true (hc q ok hq hql e he hb)
   obtain ⟨l1, l2, e1, e2, e3⟩ := filter_split (fun i => !listed.getD i true) j (by simp [hu]) ops.size hlt
   have e1' : unlisted ops listed = l1 ++ j :: l2 := e1
   have e4 : unlisted ops (listed.setIfInBounds j true) = l1 ++ l2 := by
    rw [← e3]
    exact leftF_set fun i hi => by rw [hs]; exact List.mem_range.1 hi
   have hlen : (unlisted ops (listed.setIfInBounds j true)).length = fuel := by
    rw [e4]
    rw [e1'] at hl
    simp only [List.length_append, List.length_cons] at hl ⊢
    omega
   have setj : (listed.setIfInBounds j true).getD j true = true := by
    have : j < listed.size := by omega
    simp [this]
   have cm : ∀ i, i < j → listed.getD i true = false → i ≠ f → j ≠ f → ∃ oi, ops[i]? = some oi ∧ commB P L true ops oi oj = true := by
    intro i hij hiu hif hjf
    have hil : i < ops.size := by omega
    have hoi : ops[i]? = some ops[i] := Array.getElem?_eq_getElem hil
    refine ⟨ops[i], hoi, ?_⟩
    rcases hB.pair i j _ _ hoi hoj hij hif hjf with h3 | h3
    ·exact h3
    ·rw [hwait i hiu hil] at h3; cases h3
   cases hfl : listed.getD f true with
   | true =>
     have hjf : j ≠ f := by rintro rfl; rw [hu] at hfl; cases hfl
     have hx := h hfl
     rw [e1'] at hx
     have h2 := lexL_frontN hM l1 l2 (fun i hi => by
      obtain ⟨hij, hiu⟩ := e2 i hi
      have hiu' : listed.getD i true = false := by simpa using hiu
      obtain ⟨oi, q1, q2⟩ := cm i hij hiu' (by rintro rfl; rw [hfl] at hiu'; cases hiu') hjf
      exact ⟨oi, oj, q1, hoj, q2⟩) a w hx
     refine lexI_go hoj hG h2 fun a' w' hok hk => ih _ a' w' hok (by simp [hs]) hclosed hlen (fun _ => by rw [e4]; exact hk) (fun hq => ?_)
     rw [getD_set_ne true hjf] at hq
     rw [hfl] at hq; cases hq
   | false =>
     have hx := hn hfl
     by_cases hjf : j = f
     ·subst hjf
      have h1 := lexT_now _ a w hx
      have hsub : ∀ i ∈ (leftF listed (restF ops.size j)).takeWhile (fun i => !stopF P L ops j c i), i < ops.size ∧ i ≠ j ∧ listed.getD i true = false ∧ stopF P L ops j c i = false := by
       intro i hi
       have q1 := List.all_eq_true.1 (List.all_takeWhile (p := fun i => !stopF P L ops j c i) (l := leftF listed (restF ops.size j))) i hi
       have q2 := (List.takeWhile_sublist _).mem hi
       obtain ⟨q3, q4⟩ := List.mem_filter.1 q2
       obtain ⟨q5, q6⟩ := List.mem_filter.1 q3
       refine ⟨List.mem_range.1 q5, ?_, by simpa using q4, by simpa using q1⟩
       rintro rfl
       simp at q6
      have h2 := lexL_frontN hM _ _ (fun i hi => by
       obtain ⟨hil, hij, hiu, hst⟩ := hsub i hi
       have hoi : ops[i]? = some ops[i] := Array.getElem?_eq_getElem hil
       have hns : ¬ (c ≤ i ∨ (j < i ∧ calmO P L ops[i] = false)) := fun q => by
        rw [(stopF_spec hoi).2 q] at hst; cases hst
       refine ⟨ops[i], oj, hoi, hoj, ?_⟩
       rcases Nat.lt_or_ge i j with q | q
       ·rcases hB.below i _ _ hoi hoj q with h3 | h3
        ·exact h3
        ·rw [hwait i hiu hil] at h3; cases h3
       ·have hji : j < i := by omega
        refine ((hB.mid i _ _ hoi hoj hji (by omega)).2 ?_).2
        cases hcm : calmO P L ops[i] with
        | true => rfl
        | false => exact absurd (.inr ⟨hji, hcm⟩) hns) a w h1
      rw [List.takeWhile_append_dropWhile] at h2
      refine lexI_go hoj hG h2 fun a' w' hok hk => ih _ a' w' hok (by simp [hs]) hclosed hlen (fun _ => ?_) (fun hq => ?_)
      ·have e5 : unlisted ops (listed.setIfInBounds j true) = (List.range ops.size).filter fun i => !listed.getD i true && decide (i ≠ j) := leftF_set fun i hi => by rw [hs]; exact List.mem_range.1 hi
       have e6 : leftF listed (restF ops.size j) = (List.range ops.size).filter fun i => !listed.getD i true && decide (i ≠ j) := by
        unfold leftF restF
        rw [List.filter_filter]
        refine List.filter_congr fun i _ => ?_
        by_cases e : i = j
        ·subst e; simp
        ·have : Nat.beq i j = false := by
          cases q : Nat.beq i j with
          | false => rfl
          | true => exact absurd (Nat.eq_of_beq_eq_true q) e
         simp [e, this]
       rw [e5, ← e6]; exact hk
      ·rw [setj] at hq; cases hq
     ·have hfset : (listed.setIfInBounds j true).getD f true = false := by rw [getD_set_ne true (Ne.symm (Ne.symm hjf))]; exact hfl
      have hjb : Nat.beq j f = false := by
       cases q : Nat.beq j f with
       | false => rfl
       | true => exact absurd (Nat.eq_of_beq_eq_true q) hjf
      obtain ⟨m1, m2, f1, f2, f3⟩ := filter_split (fun i => !listed.getD i true && !Nat.beq i f) j (by simp only [hu, hjb]; rfl) ops.size hlt
      have g1 : leftF listed (restF ops.size f) = m1 ++ j :: m2 := by
       rw [← f1]; unfold leftF restF; rw [List.filter_filter]
      have g2 : leftF (listed.setIfInBounds j true) (restF ops.size f) = m1 ++ m2 := by
       rw [leftF_set fun i hi => by rw [hs]; exact List.mem_range.1 (List.mem_filter.1 hi).1, ← f3]
       unfold restF
       rw [List.filter_filter]
       refine List.filter_congr fun i _ => ?_
       cases listed.getD i true <;> cases Nat.beq i f <;> simp
      rw [g1] at hx
      have hsort : (m1 ++ j :: m2).Pairwise (· < ·) := by rw [← f1]; exact List.Pairwise.filter _ List.pairwise_lt_range
      have hwf : c ≤ j → commB P L true ops ops[f] oj = true := fun q => by
       rcases hB.above j _ _ hoj hof q with s | s
       ·rw [hwait f hfl hfn] at s; cases s
       ·exact s
      have hfj : (f < j → j < c → calmO P L oj = true) → commB P L true ops ops[f] oj = true ∨ j < f := fun q => by
       rcases Nat.lt_trichotomy j f with r | r | r
       ·exact .inr r
       ·exact absurd r hjf
       ·rcases Nat.lt_or_ge j c with s | s
        ·exact .inl ((hB.mid j _ _ hoj hof r s).2 (q r s)).1
        ·exact .inl (hwf s)
      have h2 := lexT_front (c := c) hM hof hoj hfj hwf m1 m2 (fun i hi => by
       obtain ⟨hij, hiu⟩ := f2 i hi
       simp only [Bool.and_eq_true, Bool.not_eq_true'] at hiu
       obtain ⟨oi, q1, q2⟩ := cm i hij hiu.1 (by rintro rfl; simp at hiu) hjf
       exact ⟨hij, oi, q1, q2, (commB_calm q2).symm⟩) (fun i hi => by
        rw [List.pairwise_append] at hsort
        exact (List.pairwise_cons.1 hsort.2.1).1 i hi) (fun _ => trivial) a w hG hx
      exact lexI_go hoj hG h2 fun a' w' hok hk => ih _ a' w' hok (by simp [hs]) hclosed hlen (fun hq => by rw [hfset] at hq; cases hq) (fun _ => by rw [g2]; exact hk)
theorem wp_region_float {rn : Option Nat} {id : Nat} {a : Act} {w : World} {f c : Nat} (hm : P.follows .mixedOrders = true) (hM : M.isSome = true) (hB : floatB P L ops f c (befs ops.toList []) = true) (hG : okC M w.heap)
  (h : lexT P M L ops f c (fun a w => Q .normal a w) (restF ops.size f) a { w with drawn := w.drawn + 1 }) : (Code.region id ops true).wpIn (FW rn) 0 P Q a w := by
 have hfalse : ∀ (d : Bool) j, j < ops.size → (Array.replicate ops.size false).getD j d = false := fun d j hj => by simp [hj]
 have hF := floatB_spec hB
 have hfn : f < ops.size := Nat.lt_trans hF.fc hF.cn
 have hu : unlisted ops (Array.replicate ops.size false) = List.range ops.size := by
  unfold unlisted
  rw [List.filter_eq_self]
  intro i hi
  have := List.mem_range.1 hi
  simp [this]
 refine wpIn_region_any hm (lexT_any hM hF ops.size _ a _ hG (by simp) ?_ (by rw [hu]; simp) ?_ ?_)
 ·intro j oj _ hl
  have : ∀ j, (Array.replicate ops.size false).getD j false = false := fun j => by
   rcases Nat.lt_or_ge j ops.size with h | h
   ·simp [h]
   ·simp [h]
  rw [this] at hl
  cases hl
 ·intro hq; rw [hfalse true f hfn] at hq; cases hq
 ·intro _
  have : leftF (Array.replicate ops.size false) (restF ops.size f) = restF ops.size f := by
   unfold leftF
   rw [List.filter_eq_self]
   intro i hi
   rw [hfalse true i (List.mem_range.1 (List.mem_filter.1 hi).1)]; rfl
  rw [this]; exact h
end
end Go.Proofs.YtkehfflpbpdokaaGreat
