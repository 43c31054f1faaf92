/-
 Ground, a text behind the first: a region some of whose operations float beside others. The walk takes first what may go first; where none may, it forks over all that are ready.
-/
import Derived.Test.YtkehfflpbpdokaaGreatFxu
namespace Go.Proofs.YtkehfflpbpdokaaGreat
def readyX (B : List Nat) (l : List Nat) (j : Nat) : Bool := l.all fun i => !(waits B j i)
def commX (P : Program) (L : List Nat) (ops : Array Oper) (i j : Nat) : Bool := atO ops i fun oi => atO ops j fun oj => commB P L true ops oi oj && commB P L true ops oj oi
def okX (P : Program) (L : List Nat) (ops : Array Oper) (B : List Nat) (l : List Nat) (j : Nat) : Bool := readyX B l j && l.all fun i => Nat.beq i j || (waits B i j || commX P L ops i j)
def offX (l : List Nat) (j : Nat) : List Nat := l.filter fun i => !(Nat.beq i j)
def findX (t : Nat → Bool) : List Nat → Option Nat
 | [] => none
 | j :: l => bif t j then some j else findX t l
def allX (t : Nat → Bool) (f : Nat → Prop) : List Nat → Prop
 | [] => True
 | j :: l => bif t j then f j ∧ allX t f l else allX t f l
theorem findX_some {t : Nat → Bool} : ∀ {l : List Nat} {j : Nat}, findX t l = some j → j ∈ l ∧ t j = true
 | [], _, h => by cases h
 | i :: l, j, h => by
   unfold findX at h
   cases hb : t i with
   | true => rw [hb] at h; cases h; exact ⟨List.mem_cons_self, hb⟩
   | false => rw [hb] at h; have := findX_some (l := l) h; exact ⟨List.mem_cons_of_mem _ this.1, this.2⟩
theorem findX_none {t : Nat → Bool} : ∀ {l : List Nat}, findX t l = none → ∀ j ∈ l, t j = false
 | [], _, _, hj => by cases hj
 | i :: l, h, j, hj => by
   unfold findX at h
   cases hb : t i with
   | true => rw [hb] at h; cases h
   | false =>
     rw [hb] at h
     rcases List.mem_cons.1 hj with q | q
     ·subst q; exact hb
     ·exact findX_none (l := l) h j q
theorem allX_get {t : Nat → Bool} {f : Nat → Prop} : ∀ {l : List Nat} {j : Nat}, allX t f l → j ∈ l → t j = true → f j
 | [], _, _, h, _ => by cases h
 | i :: l, j, h, hj, ht => by
   unfold allX at h
   cases hb : t i with
   | true =>
     rw [hb] at h
     rcases List.mem_cons.1 hj with q | q
     ·subst q; exact h.1
     ·exact allX_get (l := l) h.2 q ht
   | false =>
     rw [hb] at h
     rcases List.mem_cons.1 hj with q | q
     ·subst q; rw [hb] at ht; cases ht
     ·exact allX_get (l := l) h q ht
theorem allX_mono {t : Nat → Bool} {f g : Nat → Prop} : ∀ {l : List Nat}, (∀ j ∈ l, f j → g j) → allX t f l → allX t g l
 | [], _, _ => trivial
 | i :: l, hm, h => by
   unfold allX at h ⊢
   cases hb : t i with
   | true => rw [hb] at h; exact ⟨hm i List.mem_cons_self h.1, allX_mono (fun j hj => hm j (List.mem_cons_of_mem _ hj)) h.2⟩
   | false => rw [hb] at h; exact allX_mono (fun j hj => hm j (List.mem_cons_of_mem _ hj)) h
theorem beqF {i j : Nat} (h : i ≠ j) : Nat.beq i j = false := by
 cases q : Nat.beq i j with
 | false => rfl
 | true => exact absurd (Nat.eq_of_beq_eq_true q) h
theorem beqT (i : Nat) : Nat.beq i i = true := by simp
theorem mem_offX {l : List Nat} {i j : Nat} : i ∈ offX l j ↔ i ∈ l ∧ i ≠ j := by
 unfold offX
 rw [List.mem_filter]
 by_cases h : i = j
 ·subst h; simp [beqT]
 ·simp [beqF h, h]
theorem offX_comm (l : List Nat) (i j : Nat) : offX (offX l i) j = offX (offX l j) i := by
 unfold offX
 rw [List.filter_filter, List.filter_filter]
 refine List.filter_congr fun x _ => ?_
 exact Bool.and_comm _ _
theorem offX_len : ∀ {l : List Nat} {j : Nat}, l.Nodup → j ∈ l → (offX l j).length + 1 = l.length
 | [], _, _, h => by cases h
 | i :: l, j, hn, hj => by
   obtain ⟨h1, h2⟩ := List.nodup_cons.1 hn
   unfold offX
   rw [List.filter_cons]
   by_cases e : i = j
   ·subst e
    rw [if_neg (by simp [beqT])]
    have : (l.filter fun x => !(Nat.beq x i)) = l := by
     rw [List.filter_eq_self]
     intro x hx
     have : x ≠ i := fun q => h1 (q ▸ hx)
     simp [beqF this]
    rw [this]; rfl
   ·rw [if_pos (by simp [beqF e]), List.length_cons]
    rcases List.mem_cons.1 hj with q | q
    ·exact absurd q.symm e
    ·have := offX_len (l := l) h2 q
     unfold offX at this
     rw [List.length_cons]; omega
theorem offX_nodup {l : List Nat} {j : Nat} (h : l.Nodup) : (offX l j).Nodup := h.filter _
theorem readyX_off {B l : List Nat} {i j : Nat} (h : readyX B l j = true) : readyX B (offX l i) j = true := by
 unfold readyX at *
 rw [List.all_eq_true] at *
 exact fun x hx => h x (mem_offX.1 hx).1
section
variable {P : Program} {M : Option (Heap → Prop)} {L : List Nat} {ops : Array Oper} {Q : Exit → Act → World → Prop}
theorem okX_off {B l : List Nat} {i j : Nat} (h : okX P L ops B l j = true) : okX P L ops B (offX l i) j = true := by
 unfold okX at *
 rw [Bool.and_eq_true] at *
 refine ⟨readyX_off h.1, ?_⟩
 have := h.2
 rw [List.all_eq_true] at *
 exact fun x hx => this x (mem_offX.1 hx).1
theorem okX_ready {B l : List Nat} {j : Nat} (h : okX P L ops B l j = true) : readyX B l j = true := by
 unfold okX at h; rw [Bool.and_eq_true] at h; exact h.1
theorem okX_comm {B l : List Nat} {i j : Nat} (h : okX P L ops B l j = true) (hi : i ∈ l) (hj : j ∈ l) (hij : i ≠ j) (hr : readyX B l i = true) :
  ∃ oi oj, ops[i]? = some oi ∧ ops[j]? = some oj ∧ commB P L true ops oi oj = true ∧ commB P L true ops oj oi = true := by
 unfold okX at h
 rw [Bool.and_eq_true] at h
 have h1 := List.all_eq_true.1 h.2 i hi
 have h2 := List.all_eq_true.1 hr j hj
 simp only [Bool.not_eq_true'] at h2
 have hb : Nat.beq i j = false := by
  cases q : Nat.beq i j with
  | false => rfl
  | true => exact absurd (Nat.eq_of_beq_eq_true q) hij
 rw [hb, h2] at h1
 simp only [Bool.false_or] at h1
 unfold commX at h1
 cases e1 : ops[i]? with
 | none => unfold atO at h1; rw [e1] at h1; cases h1
 | some oi =>
   have h3 := atO_spec h1 e1
   cases e2 : ops[j]? with
   | none => unfold atO at h3; rw [e2] at h3; cases h3
   | some oj =>
     have h4 := atO_spec h3 e2
     rw [Bool.and_eq_true] at h4
     exact ⟨oi, oj, rfl, rfl, h4.1, h4.2⟩
def lexX (P : Program) (M : Option (Heap → Prop)) (L : List Nat) (ops : Array Oper) (K : Act → World → Prop) : Nat → List Nat → Act → World → Prop
 | 0, _ => K
 | n + 1, l => (match findX (okX P L ops (befs ops.toList []) l) l with
   | some j => lexI P M ops.size L ops j (lexX P M L ops K n (offX l j))
   | none => fun a w => allX (readyX (befs ops.toList []) l) (fun j => lexI P M ops.size L ops j (lexX P M L ops K n (offX l j)) a w) l)
theorem lexX_both (hM : M.isSome = true) (K : Act → World → Prop) : ∀ (n : Nat) (l : List Nat), l.Nodup → l.length = n + 1 →
  (∀ j ∈ l, readyX (befs ops.toList []) l j = true → ∀ a w, lexX P M L ops K (n + 1) l a w → lexI P M ops.size L ops j (lexX P M L ops K n (offX l j)) a w) ∧
  (∀ j ∈ l, okX P L ops (befs ops.toList []) l j = true → ∀ a w, lexI P M ops.size L ops j (lexX P M L ops K n (offX l j)) a w → lexX P M L ops K (n + 1) l a w)
 | n, l, hn, hl => by
   refine ⟨fun j hj hr a w h => ?_, fun j hj hok a w h => ?_⟩
   ·unfold lexX at h
    cases hf : findX (okX P L ops (befs ops.toList []) l) l with
    | none =>
      rw [hf] at h
      exact allX_get h hj hr
    | some i =>
      rw [hf] at h
      simp only at h
      obtain ⟨hi, hoi⟩ := findX_some hf
      by_cases hij : j = i
      ·subst hij; exact h
      ·obtain ⟨oj, oi, e1, e2, c1, c2⟩ := okX_comm hoi hj hi hij hr
       have li := offX_len hn hi
       have lj := offX_len hn hj
       match n, hl, h with
       | 0, hl, h => have : 0 < (offX l i).length := List.length_pos_iff_exists_mem.2 ⟨j, mem_offX.2 ⟨hj, hij⟩⟩
                     omega
       | n + 1, hl, h =>
         have hbi := lexX_both hM K n (offX l i) (offX_nodup hn) (by omega)
         have hbj := lexX_both hM K n (offX l j) (offX_nodup hn) (by omega)
         have h1 := lexI_mono (fun a w hx => hbi.1 j (mem_offX.2 ⟨hj, hij⟩) (readyX_off hr) a w hx) h
         have h2 := lexI_swapN hM e2 e1 c2 h1
         refine lexI_mono (fun a w hx => hbj.2 i (mem_offX.2 ⟨hi, Ne.symm hij⟩) (okX_off hoi) a w ?_) h2
         rw [offX_comm l j i]; exact hx
   ·unfold lexX
    cases hf : findX (okX P L ops (befs ops.toList []) l) l with
    | none =>
      have := findX_none hf j hj
      rw [hok] at this; cases this
    | some i =>
      simp only
      obtain ⟨hi, hoi⟩ := findX_some hf
      by_cases hij : j = i
      ·subst hij; exact h
      ·obtain ⟨oj, oi, e1, e2, c1, c2⟩ := okX_comm hoi hj hi hij (okX_ready hok)
       have li := offX_len hn hi
       have lj := offX_len hn hj
       match n, hl, h with
       | 0, hl, h => have : 0 < (offX l i).length := List.length_pos_iff_exists_mem.2 ⟨j, mem_offX.2 ⟨hj, hij⟩⟩
                     omega
       | n + 1, hl, h =>
         have hbi := lexX_both hM K n (offX l i) (offX_nodup hn) (by omega)
         have hbj := lexX_both hM K n (offX l j) (offX_nodup hn) (by omega)
         have h1 := lexI_mono (fun a w hx => hbj.1 i (mem_offX.2 ⟨hi, Ne.symm hij⟩) (readyX_off (okX_ready hoi)) a w hx) h
         have h2 := lexI_swapN hM e1 e2 c1 h1
         refine lexI_mono (fun a w hx => hbi.2 j (mem_offX.2 ⟨hj, hij⟩) (okX_off hok) a w ?_) h2
         rw [offX_comm l i j]; exact hx
def ltB (ops : Array Oper) : Bool := (List.range ops.size).all fun j => atO ops j fun oj => oj.after.all fun e => !Region.binds .any e || decide (e.on < j)
theorem ltB_spec (h : ltB ops = true) : ∀ j oj, ops[j]? = some oj → ∀ e ∈ oj.after, Region.binds .any e = true → e.on < j := by
 intro j oj hj e he hb
 have hlt : j < ops.size := (Array.getElem?_eq_some_iff.1 hj).1
 have h1 := atO_spec (List.all_eq_true.1 h j (List.mem_range.2 hlt)) hj
 have h2 := Array.all_eq_true'.1 h1 e he
 simpa [hb] using h2
theorem lexX_any {rn : Option Nat} (hM : M.isSome = true) (hB : ltB ops = true) : ∀ (fuel : Nat) (listed : Array Bool) (a : Act) (w : World), okC M w.heap → listed.size = ops.size → Closed ops listed → (unlisted ops listed).length = fuel →
  lexX P M L ops (fun a w => Q .normal a w) fuel (unlisted ops listed) a w → wpAnyIn (FW rn) 0 P .any ops Q fuel listed a w := by
 have hlt0 := ltB_spec hB
 intro fuel
 induction fuel with
 | zero =>
   intro listed a w hG hs hc hl h
   have h0 : unlisted ops listed = [] := List.length_eq_zero_iff.1 hl
   refine ⟨?_, h⟩
   rw [List.eq_nil_iff_forall_not_mem]
   intro j hj
   obtain ⟨hu, o, ho, _⟩ := mem_ready.1 hj
   have hlt : j < ops.size := (Array.getElem?_eq_some_iff.1 ho).1
   have : j ∈ unlisted ops listed := List.mem_filter.2 ⟨List.mem_range.2 hlt, by simp [hu]⟩
   rw [h0] at this
   cases this
 | succ fuel ih =>
   intro listed a w hG hs hc hl h
   refine wpAny_first hs hl hlt0 fun j oj hoj hu hall => ?_
   have hlt : j < ops.size := (Array.getElem?_eq_some_iff.1 hoj).1
   have hwait : ∀ i, listed.getD i true = false → i < ops.size → waits (befs ops.toList []) j i = false := by
    intro i hiu hil
    cases h3 : waits (befs ops.toList []) j i with
    | false => rfl
    | true =>
      have h4 := waits_listed hc hlt0 j i oj hoj hall h3
      have : i < listed.size := by omega
      simp [this] at hiu h4
      rw [hiu] at h4; cases h4
   have hclosed : Closed ops (listed.setIfInBounds j true) := by
    intro q ok hq hql e he hb
    by_cases hqj : j = q
    ·subst hqj
     have : ok = oj := Option.some.inj (hq.symm.trans hoj)
     subst this
     exact getD_set_true (hall e he hb)
    ·rw [getD_set_ne false hqj] at hql
     exact getD_set_true (hc q ok hq hql e he hb)
   have hmem : ∀ {i : Nat}, i ∈ unlisted ops listed ↔ i < ops.size ∧ listed.getD i true = false := by
    intro i
    unfold unlisted
    rw [List.mem_filter, List.mem_range]
    simp
   have hju : j ∈ unlisted ops listed := hmem.2 ⟨hlt, hu⟩
   have hnd : (unlisted ops listed).Nodup := List.nodup_range.filter _
   have e4 : unlisted ops (listed.setIfInBounds j true) = offX (unlisted ops listed) j := by
    unfold unlisted offX
    rw [List.filter_filter]
    refine List.filter_congr fun i hi => ?_
    have hi' : i < listed.size := by rw [hs]; exact List.mem_range.1 hi
    by_cases hij : i = j
    ·subst hij; simp [hi']
    ·rw [getD_set_ne true (Ne.symm hij)]
     have hb : Nat.beq i j = false := by
      cases q : Nat.beq i j with
      | false => rfl
      | true => exact absurd (Nat.eq_of_beq_eq_true q) hij
     rw [hb]; simp
   have hr : readyX (befs ops.toList []) (unlisted ops listed) j = true := by
    unfold readyX
    rw [List.all_eq_true]
    intro i hi
    obtain ⟨q1, q2⟩ := hmem.1 hi
    rw [hwait i q2 q1]; rfl
   have hlen := offX_len hnd hju
   have h2 := (lexX_both hM _ fuel _ hnd hl).1 j hju hr a w h
   refine lexI_go hoj hG h2 fun a' w' hok hk => ih _ a' w' hok (by simp [hs]) hclosed (by rw [e4]; omega) (by rw [e4]; exact hk)
theorem wp_region_explore {rn : Option Nat} {id : Nat} {a : Act} {w : World} (hm : P.follows .mixedOrders = true) (hM : M.isSome = true) (hB : ltB ops = true) (hG : okC M w.heap)
  (h : lexX P M L ops (fun a w => Q .normal a w) ops.size (List.range ops.size) a { w with drawn := w.drawn + 1 }) : (Code.region id ops true).wpIn (FW rn) 0 P Q a w := by
 have hu : unlisted ops (Array.replicate ops.size false) = List.range ops.size := by
  unfold unlisted
  rw [List.filter_eq_self]
  intro i hi
  have := List.mem_range.1 hi
  simp [this]
 refine wpIn_region_any hm (lexX_any hM hB ops.size _ a _ hG (by simp) ?_ (by rw [hu]; simp) (by rw [hu]; exact h))
 intro j oj _ hl
 have : ∀ j, (Array.replicate ops.size false).getD j false = false := fun j => by
  rcases Nat.lt_or_ge j ops.size with h | h
  ·simp [h]
  ·simp [h]
 rw [this] at hl
 cases hl
end
end Go.Proofs.YtkehfflpbpdokaaGreat
