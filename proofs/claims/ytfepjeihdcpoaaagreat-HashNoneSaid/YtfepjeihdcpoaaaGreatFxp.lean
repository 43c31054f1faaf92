/-
  Ground, fifteenth text: a region whose operations only reckon or lay new blocks may lay them in any order: the walk that puts the heap off to its end.
-/
import Derived.Test.YtfepjeihdcpoaaaGreatFxa
namespace Go.Proofs.YtfepjeihdcpoaaaGreat

/-- The blocks that are laid so far. -/
abbrev Laid := List (Nat × Obj)
def isFresh (H0 : Heap) (T : Laid) (b : Nat) : Prop := H0.size ≤ b ∧ ∀ q ∈ T, q.1 ≠ b
/-- The heap 'H' is 'H0' with the blocks 'T'. -/
structure Lays (H0 : Heap) (T : Laid) (H : Heap) : Prop where
  size : H.size = H0.size + T.length
  old : ∀ q, q < H0.size → H[q]? = H0[q]?
  new : ∀ q ∈ T, H[q.1]? = some q.2

theorem Lays.nil (H : Heap) : Lays H [] H := ⟨rfl, fun _ _ => rfl, by simp⟩
theorem Lays.push {H0 H : Heap} {T : Laid} (h : Lays H0 T H) (o : Obj) : isFresh H0 T H.size ∧ Lays H0 ((H.size, o) :: T) (H.push o) := by
  refine ⟨⟨by rw [h.size]; omega, fun q hq e => ?_⟩, ⟨by simp [h.size]; omega, fun q hq => ?_, ?_⟩⟩
  · have := h.new q hq
    rw [e] at this; simp at this
  · have : q < H.size := by rw [h.size]; omega
    rw [← h.old q hq]
    simp [Array.getElem?_push, Nat.ne_of_lt this]
  · intro q hq
    rcases List.mem_cons.1 hq with rfl | hq
    · simp
    · have h1 := h.new q hq
      have : q.1 < H.size := (Array.getElem?_eq_some_iff.1 h1).1
      rw [Array.getElem?_push, if_neg (Nat.ne_of_lt this)]; exact h1
theorem Lays.perm {H0 H : Heap} {T T' : Laid} (p : T.Perm T') (h : Lays H0 T H) : Lays H0 T' H :=
  ⟨by rw [h.size, p.length_eq], h.old, fun q hq => h.new q (p.mem_iff.2 hq)⟩
theorem isFresh.perm {H0 : Heap} {T T' : Laid} {b : Nat} (p : T.Perm T') (h : isFresh H0 T b) : isFresh H0 T' b := ⟨h.1, fun q hq => h.2 q (p.mem_iff.2 hq)⟩
theorem fresh_exists (H0 : Heap) : ∀ T : Laid, ∃ m, ∀ b, m ≤ b → isFresh H0 T b
  | [] => ⟨H0.size, fun b hb => ⟨hb, by simp⟩⟩
  | q :: T => by
    obtain ⟨m, h⟩ := fresh_exists H0 T
    refine ⟨max m (q.1 + 1), fun b hb => ⟨(h b (by omega)).1, fun x hx => ?_⟩⟩
    rcases List.mem_cons.1 hx with rfl | hx
    · omega
    · exact (h b (by omega)).2 x hx

abbrev KF := Act → Laid → Prop
def PermInv (K : KF) : Prop := ∀ a (T T' : Laid), T.Perm T' → K a T → K a T'

/-- An operation that lays a block. -/
def layRun (P : Program) (r : World → Result Next) (ob : Obj) (val : Nat → Value) : Prop := ∀ w', r w' = .ok (.value (val w'.heap.size)) { w' with heap := w'.heap.push ob }

def lexFO (P : Program) (H0 : Heap) (ops : Array Oper) (o : Oper) (K : KF) (a : Act) (T : Laid) : Prop :=
  if Region.wanted o (yielded ops a.tmps) = true then
    match clsOp P o.op with
    | 0 => ∃ v, (∀ w', (execOp a.eval o).run P w' = .ok (.value v) w') ∧ K (a.put o.dst v) T
    | _ => ∃ ob val, layRun P (fun w' => (execOp a.eval o).run P w') ob val ∧ ∀ b, isFresh H0 T b → K (a.put o.dst (val b)) ((b, ob) :: T)
  else K (a.put o.dst undef) T

def lexFI (P : Program) (H0 : Heap) (ops : Array Oper) (i : Nat) (K : KF) (a : Act) (T : Laid) : Prop :=
  match ops[i]? with
  | none => K a T
  | some o => lexFO P H0 ops o K a T
def lexFL (P : Program) (H0 : Heap) (ops : Array Oper) (K : KF) : List Nat → KF
  | [] => K
  | i :: l => lexFI P H0 ops i (lexFL P H0 ops K l)

section
variable {P : Program} {H0 : Heap} {ops : Array Oper} {Q : Exit → Act → World → Prop}

theorem worldOf (w : World) (n : Nat) : ∃ w' : World, w'.heap.size = n := ⟨{ w with heap := Array.replicate n (.cells #[] 0 (0, 0)) }, by simp⟩

theorem layRun_unique {r : World → Result Next} {ob ob' : Obj} {val val' : Nat → Value} (w : World) (h : layRun P r ob val) (h' : layRun P r ob' val') : ob = ob' ∧ val = val' := by
  have e : ∀ w' : World, val w'.heap.size = val' w'.heap.size ∧ w'.heap.push ob = w'.heap.push ob' := fun w' => by
    have := (h w').symm.trans (h' w')
    simp only [Result.ok.injEq, Next.value.injEq] at this
    exact ⟨this.1, congrArg World.heap this.2⟩
  refine ⟨?_, funext fun n => ?_⟩
  · have := (e w).2
    have h2 : (w.heap.push ob)[w.heap.size]? = (w.heap.push ob')[w.heap.size]? := by rw [this]
    simpa using h2
  · obtain ⟨w', hw⟩ := worldOf w n
    rw [← hw]; exact (e w').1

theorem lexFO_mono {o : Oper} {K K' : KF} {a : Act} {T : Laid} (h : ∀ a T, K a T → K' a T) (hh : lexFO P H0 ops o K a T) : lexFO P H0 ops o K' a T := by
  unfold lexFO at *
  split
  · rename_i hw
    rw [if_pos hw] at hh
    split
    · rename_i hc; rw [hc] at hh
      obtain ⟨v, h1, h2⟩ := hh
      exact ⟨v, h1, h _ _ h2⟩
    · rename_i hc
      split at hh
      · rename_i h0; exact absurd h0 hc
      · obtain ⟨ob, val, h1, h2⟩ := hh
        exact ⟨ob, val, h1, fun b hb => h _ _ (h2 b hb)⟩
  · rename_i hw
    rw [if_neg hw] at hh
    exact h _ _ hh

theorem lexFO_perm {o : Oper} {K : KF} (hK : PermInv K) : PermInv (lexFO P H0 ops o K) := by
  intro a T T' p hh
  unfold lexFO at *
  split
  · rename_i hw
    rw [if_pos hw] at hh
    split
    · rename_i hc; rw [hc] at hh
      obtain ⟨v, h1, h2⟩ := hh
      exact ⟨v, h1, hK _ _ _ p h2⟩
    · rename_i hc
      split at hh
      · rename_i h0; exact absurd h0 hc
      · obtain ⟨ob, val, h1, h2⟩ := hh
        exact ⟨ob, val, h1, fun b hb => hK _ _ _ (p.cons _) (h2 b (hb.perm p.symm))⟩
  · rename_i hw
    rw [if_neg hw] at hh
    exact hK _ _ _ p hh

theorem lexFI_perm {i : Nat} {K : KF} (hK : PermInv K) : PermInv (lexFI P H0 ops i K) := by
  intro a T T' p hh
  unfold lexFI at *
  split
  · rename_i ho; rw [ho] at hh; exact hK _ _ _ p hh
  · rename_i o ho; rw [ho] at hh; exact lexFO_perm hK _ _ _ p hh
theorem lexFL_perm {K : KF} (hK : PermInv K) : ∀ l, PermInv (lexFL P H0 ops K l)
  | [] => hK
  | _ :: l => lexFI_perm (lexFL_perm hK l)

/-- Two operations that may change places: neither looks at what the other yields. -/
def commF (ops : Array Oper) (x y : Oper) : Bool :=
  Oper.apart ops x y && (match x.op with | .select .. => false | _ => true) && (match y.op with | .select .. => false | _ => true)
theorem commF_spec {x y : Oper} (h : commF ops x y = true) : Oper.apart ops x y = true ∧ (∀ cs b, x.op ≠ .select cs b) ∧ (∀ cs b, y.op ≠ .select cs b) := by
  unfold commF at h
  simp only [Bool.and_eq_true] at h
  obtain ⟨⟨h1, h3⟩, h4⟩ := h
  refine ⟨h1, ?_, ?_⟩
  · intro cs b e; rw [e] at h3; cases h3
  · intro cs b e; rw [e] at h4; cases h4

theorem lexFO_swap (w : World) {x y : Oper} (hc : commF ops x y = true) {K : KF} (hK : PermInv K) {a : Act} {T : Laid}
    (h : lexFO P H0 ops x (lexFO P H0 ops y K) a T) : lexFO P H0 ops y (lexFO P H0 ops x K) a T := by
  obtain ⟨hap, hsx, hsy⟩ := commF_spec hc
  obtain ⟨a1, a2, a3⟩ := Oper.apart_spec hap
  have wy : ∀ v, Region.wanted y (yielded ops (a.put x.dst v).tmps) = Region.wanted y (yielded ops a.tmps) := fun v => wanted_put y a x.dst v a1
  have wx : ∀ v, Region.wanted x (yielded ops (a.put y.dst v).tmps) = Region.wanted x (yielded ops a.tmps) := fun v => wanted_put x a y.dst v a3
  have ey : ∀ v, execOp (a.put x.dst v).eval y = execOp a.eval y := fun v => execOp_put (ops := ops) y hsy a x.dst v a1
  have ex : ∀ v, execOp (a.put y.dst v).eval x = execOp a.eval x := fun v => execOp_put (ops := ops) x hsx a y.dst v a3
  have pc : ∀ v u, (a.put x.dst v).put y.dst u = (a.put y.dst u).put x.dst v := fun v u => Act.put_comm a v u a2
  unfold lexFO at h ⊢
  simp only [wy, wx, ey, ex, pc] at h ⊢
  by_cases hx : Region.wanted x (yielded ops a.tmps) = true
  · by_cases hy : Region.wanted y (yielded ops a.tmps) = true
    · simp only [if_pos hx, if_pos hy] at h ⊢
      cases hcx : clsOp P x.op with
      | zero =>
        cases hcy : clsOp P y.op with
        | zero =>
          simp only [hcx, hcy] at h ⊢
          obtain ⟨v, h1, u, h2, h3⟩ := h
          exact ⟨u, h2, v, h1, h3⟩
        | succ n =>
          simp only [hcx, hcy] at h ⊢
          obtain ⟨v, h1, ob, val, h2, h3⟩ := h
          exact ⟨ob, val, h2, fun b hb => ⟨v, h1, h3 b hb⟩⟩
      | succ m =>
        cases hcy : clsOp P y.op with
        | zero =>
          simp only [hcx, hcy] at h ⊢
          obtain ⟨ob, val, h1, h2⟩ := h
          obtain ⟨m0, hm0⟩ := fresh_exists H0 T
          obtain ⟨u, h3, _⟩ := h2 m0 (hm0 m0 (Nat.le_refl _))
          refine ⟨u, h3, ob, val, h1, fun b hb => ?_⟩
          obtain ⟨u', h4, h5⟩ := h2 b hb
          have e := (h3 w).symm.trans (h4 w)
          simp only [Result.ok.injEq, Next.value.injEq, and_true] at e
          rw [e]; exact h5
        | succ n =>
          simp only [hcx, hcy] at h ⊢
          obtain ⟨ob, val, h1, h2⟩ := h
          obtain ⟨m0, hm0⟩ := fresh_exists H0 T
          obtain ⟨ob2, val2, h3, _⟩ := h2 m0 (hm0 m0 (Nat.le_refl _))
          refine ⟨ob2, val2, h3, fun b' hb' => ⟨ob, val, h1, fun b hb => ?_⟩⟩
          have hbT : isFresh H0 T b := ⟨hb.1, fun q hq => hb.2 q (List.mem_cons_of_mem _ hq)⟩
          have hne : b' ≠ b := hb.2 (b', ob2) List.mem_cons_self
          obtain ⟨ob3, val3, h4, h5⟩ := h2 b hbT
          obtain ⟨e1, e2⟩ := layRun_unique w h3 h4
          subst e1; subst e2
          have h6 := h5 b' ⟨hb'.1, fun q hq => by
            rcases List.mem_cons.1 hq with rfl | hq
            · exact fun e => hne e.symm
            · exact hb'.2 q hq⟩
          exact hK _ _ _ (List.Perm.swap _ _ _) h6
    · simp only [if_pos hx, if_neg hy] at h ⊢
      exact h
  · by_cases hy : Region.wanted y (yielded ops a.tmps) = true
    · simp only [if_neg hx, if_pos hy] at h ⊢
      exact h
    · simp only [if_neg hx, if_neg hy] at h ⊢
      exact h

/-! ### Every order -/

def freshFreeB (ops : Array Oper) (B : List Nat) : Bool :=
  (List.range ops.size).all fun j => match ops[j]? with
    | some oj => (oj.after.all fun e => !Region.binds .any e || decide (e.on < j)) &&
      (List.range j).all fun i => match ops[i]? with
        | some oi => commF ops oi oj || waits B j i
        | none => false
    | none => false
def freshFree (ops : Array Oper) : Bool := freshFreeB ops (befs ops.toList [])

theorem freshFree_lt (h : freshFree ops = true) {j : Nat} {oj : Oper} (hj : ops[j]? = some oj) {e : Edge} (he : e ∈ oj.after) (hb : Region.binds .any e = true) : e.on < j := by
  unfold freshFree freshFreeB at h
  have hlt : j < ops.size := (Array.getElem?_eq_some_iff.1 hj).1
  have := List.all_eq_true.1 h j (List.mem_range.2 hlt)
  rw [hj] at this
  simp only [Bool.and_eq_true] at this
  have h2 := Array.all_eq_true_iff_forall_mem.1 this.1 e he
  simpa [hb] using h2
theorem freshFree_comm (h : freshFree ops = true) {i j : Nat} {oi oj : Oper} (hi : ops[i]? = some oi) (hj : ops[j]? = some oj) (hij : i < j) : commF ops oi oj = true ∨ waits (befs ops.toList []) j i = true := by
  unfold freshFree freshFreeB at h
  have hlt : j < ops.size := (Array.getElem?_eq_some_iff.1 hj).1
  have := List.all_eq_true.1 h j (List.mem_range.2 hlt)
  rw [hj] at this
  simp only [Bool.and_eq_true] at this
  have h2 := List.all_eq_true.1 this.2 i (List.mem_range.2 hij)
  rw [hi] at h2
  simpa [Bool.or_eq_true] using h2

theorem lexFI_mono {i : Nat} {a : Act} {T : Laid} {K K' : KF} (h : ∀ a T, K a T → K' a T) (hh : lexFI P H0 ops i K a T) : lexFI P H0 ops i K' a T := by
  unfold lexFI at *
  split
  · rename_i ho; rw [ho] at hh; exact h _ _ hh
  · rename_i o ho; rw [ho] at hh; exact lexFO_mono h hh

theorem lexFL_front (w : World) {K : KF} (hK : PermInv K) {j : Nat} : ∀ (l1 l2 : List Nat), (∀ i ∈ l1, i < j ∧ ∃ oi oj, ops[i]? = some oi ∧ ops[j]? = some oj ∧ commF ops oi oj = true) →
    ∀ a T, lexFL P H0 ops K (l1 ++ j :: l2) a T → lexFI P H0 ops j (lexFL P H0 ops K (l1 ++ l2)) a T
  | [], l2, _, a, T, h => h
  | i :: l1, l2, hc, a, T, h => by
    have h1 : lexFI P H0 ops i (lexFI P H0 ops j (lexFL P H0 ops K (l1 ++ l2))) a T := lexFI_mono (lexFL_front w hK l1 l2 (fun k hk => hc k (List.mem_cons_of_mem _ hk))) h
    obtain ⟨hij, oi, oj, hi, hj, hcm⟩ := hc i List.mem_cons_self
    have e : ∀ K', lexFI P H0 ops i K' = lexFO P H0 ops oi K' := fun K' => by funext a T; simp only [lexFI, hi]
    have e' : ∀ K', lexFI P H0 ops j K' = lexFO P H0 ops oj K' := fun K' => by funext a T; simp only [lexFI, hj]
    rw [e, e'] at h1
    have h2 := lexFO_swap w hcm (lexFL_perm hK _) h1
    simp only [List.cons_append, lexFL]
    rw [e, e']
    exact h2

theorem wpOp_of_lexFI {rn : Option Nat} {i : Nat} {a : Act} {w : World} {T : Laid} {K : KF} {K' : Act → World → Prop} (hT : Lays H0 T w.heap) (hs : ∀ a' w' T', Lays H0 T' w'.heap → Alike w w' → K a' T' → K' a' w')
    (hh : lexFI P H0 ops i K a T) : wpOpIn (FW rn) 0 P ops Q i K' a w := by
  unfold lexFI at hh
  unfold wpOpIn
  split
  · rename_i ho; rw [ho] at hh; exact hs _ _ _ hT (.refl _) hh
  · rename_i o ho
    rw [ho] at hh
    simp only at hh
    unfold lexFO at hh
    split
    · rename_i hw
      rw [if_pos hw] at hh
      split at hh
      · obtain ⟨v, h1, h2⟩ := hh
        refine wp_of_wpR ?_
        rw [h1 w]
        exact hs _ _ _ hT (.refl _) h2
      · obtain ⟨ob, val, h1, h2⟩ := hh
        refine wp_of_wpR ?_
        have := h1 w
        dsimp only at this
        rw [this]
        obtain ⟨f1, f2⟩ := hT.push ob
        exact hs _ { w with heap := w.heap.push ob } _ f2 (.of_le rfl (Nat.le_refl _)) (h2 _ f1)
    · rename_i hw
      rw [if_neg hw] at hh
      exact ⟨fun _ _ => trivial, hs _ _ _ hT (.refl _) hh⟩

theorem lexFL_any {rn : Option Nat} {K : KF} (hK : PermInv K) (hB : freshFree ops = true) {w0 : World} (hQ : ∀ a T w, Lays H0 T w.heap → Alike w0 w → K a T → Q .normal a w) : ∀ (fuel : Nat) (listed : Array Bool) (a : Act) (T : Laid) (w : World), Lays H0 T w.heap → Alike w0 w → listed.size = ops.size →
    Closed ops listed → (unlisted ops listed).length = fuel → lexFL P H0 ops K (unlisted ops listed) a T → wpAnyIn (FW rn) 0 P .any ops Q fuel listed a w := by
  intro fuel
  induction fuel with
  | zero =>
    intro listed a T w hT hA hs hc hl h
    have h0 : unlisted ops listed = [] := List.length_eq_zero_iff.1 hl
    refine ⟨?_, by rw [h0] at h; exact hQ _ _ _ hT hA h⟩
    rw [List.eq_nil_iff_forall_not_mem]
    intro j hj
    obtain ⟨hu, o, ho, _⟩ := mem_ready.1 hj
    have hlt : j < ops.size := (Array.getElem?_eq_some_iff.1 ho).1
    have : j ∈ unlisted ops listed := List.mem_filter.2 ⟨List.mem_range.2 hlt, by simp [hu]⟩
    rw [h0] at this
    cases this
  | succ fuel ih =>
    intro listed a T w hT hA hs hc hl h
    refine ⟨fun h0 => ?_, fun j hj => ?_⟩
    · exfalso
      cases hU : unlisted ops listed with
      | nil => rw [hU] at hl; simp at hl
      | cons m rest =>
        have hm : m ∈ unlisted ops listed := by rw [hU]; exact List.mem_cons_self
        have hmin : ∀ i, i < m → listed.getD i false = true := by
          intro i hi
          obtain ⟨hm1, hm2⟩ := List.mem_filter.1 hm
          have hmlt := List.mem_range.1 hm1
          cases hli : listed.getD i true with
          | true =>
            have : i < listed.size := by omega
            simp [this] at hli ⊢; exact hli
          | false =>
            have hi2 : i ∈ unlisted ops listed := List.mem_filter.2 ⟨List.mem_range.2 (by omega), by simp [hli]⟩
            rw [hU] at hi2
            have hsorted : (unlisted ops listed).Pairwise (· < ·) := List.Pairwise.filter _ List.pairwise_lt_range
            rw [hU, List.pairwise_cons] at hsorted
            rcases List.mem_cons.1 hi2 with e | e
            · omega
            · have := hsorted.1 i e; omega
        obtain ⟨hm1, hm2⟩ := List.mem_filter.1 hm
        have hmlt := List.mem_range.1 hm1
        have ho : ops[m]? = some ops[m] := Array.getElem?_eq_getElem hmlt
        have : m ∈ Region.ready .any ops listed := mem_ready.2 ⟨by simpa using hm2, _, ho, fun e he hb => hmin _ (freshFree_lt hB ho he hb)⟩
        rw [h0] at this
        cases this
    · obtain ⟨hu, oj, hoj, hall⟩ := mem_ready.1 hj
      have hlt : j < ops.size := (Array.getElem?_eq_some_iff.1 hoj).1
      obtain ⟨l1, l2, e1, e2, e3⟩ := filter_split (fun i => !listed.getD i true) j (by simp [hu]) ops.size hlt
      have e1' : unlisted ops listed = l1 ++ j :: l2 := e1
      have e4 : unlisted ops (listed.setIfInBounds j true) = l1 ++ l2 := by
        rw [← e3]
        unfold unlisted
        refine List.filter_congr fun i hi => ?_
        have hi' : i < listed.size := by rw [hs]; exact List.mem_range.1 hi
        by_cases hij : i = j
        · subst hij; simp [hi']
        · rw [getD_set_ne true (Ne.symm hij)]; simp [hij]
      have hwait : ∀ i, listed.getD i true = false → i < ops.size → waits (befs ops.toList []) j i = false := by
        intro i hiu hil
        cases h3 : waits (befs ops.toList []) j i with
        | false => rfl
        | true =>
          have h4 := waits_listed hc (fun j oj hj e he hb => freshFree_lt hB hj he hb) j i oj hoj hall h3
          have : i < listed.size := by omega
          simp [this] at hiu h4
          rw [hiu] at h4; cases h4
      rw [e1'] at h
      have h2 := lexFL_front w hK l1 l2 (fun i hi => by
        obtain ⟨hij, hiu⟩ := e2 i hi
        have hil : i < ops.size := by omega
        have hoi : ops[i]? = some ops[i] := Array.getElem?_eq_getElem hil
        refine ⟨hij, ops[i], oj, hoi, hoj, ?_⟩
        rcases freshFree_comm hB hoi hoj hij with h3 | h3
        · exact h3
        · rw [hwait i (by simpa using hiu) hil] at h3; cases h3) a T h
      refine wpOp_of_lexFI hT (fun a' w' T' hT' hA' hk => ?_) h2
      refine ih (listed.setIfInBounds j true) a' T' w' hT' (hA.trans hA') (by simp [hs]) ?_ ?_ (by rw [e4]; exact hk)
      · intro q ok hq hql e he hb
        by_cases hqj : j = q
        · subst hqj
          have : ok = oj := Option.some.inj (hq.symm.trans hoj)
          subst this
          exact getD_set_true (hall e he hb)
        · rw [getD_set_ne false hqj] at hql
          exact getD_set_true (hc q ok hq hql e he hb)
      · rw [e4]
        rw [e1'] at hl
        simp only [List.length_append, List.length_cons] at hl ⊢
        omega

/-- The walk of the operations themselves. -/
def lexFOps (P : Program) (H0 : Heap) (ops : Array Oper) (K : KF) : List Oper → KF
  | [] => K
  | o :: l => lexFO P H0 ops o (lexFOps P H0 ops K l)

theorem lexFL_of_ops {K : KF} : ∀ (l : List Oper) (s : Nat), (∀ j, j < l.length → l[j]? = ops[s + j]?) → lexFL P H0 ops K (List.range' s l.length) = lexFOps P H0 ops K l
  | [], s, _ => rfl
  | o :: l, s, hl => by
    have h0 : ops[s]? = some o := by simpa using (hl 0 (by simp)).symm
    have ih := lexFL_of_ops (K := K) l (s + 1) (fun j hj => by have := hl (j + 1) (by simp; omega); simpa [Nat.add_assoc, Nat.add_comm 1 j] using this)
    funext a T
    simp only [List.length_cons, List.range'_succ, lexFL, lexFOps, lexFI, h0, ih]

/-- **THE WALK IN THE TEXT's ORDER, THE HEAP PUT OFF, SERVES EVERY ORDER.** -/
theorem wp_region_fresh {rn : Option Nat} {id : Nat} {a : Act} {w : World} {K : KF} (hm : P.follows .mixedOrders = true) (hK : PermInv K) (hB : freshFree ops = true)
    (hQ : ∀ a T w', Lays w.heap T w'.heap → Alike w w' → K a T → Q .normal a w') (h : lexFOps P w.heap ops K ops.toList a []) : (Code.region id ops true).wpIn (FW rn) 0 P Q a w := by
  have hu : unlisted ops (Array.replicate ops.size false) = List.range ops.size := by
    unfold unlisted
    rw [List.filter_eq_self]
    intro i hi
    have := List.mem_range.1 hi
    simp [this]
  have hd : Alike w { w with drawn := w.drawn + 1 } := (.of_le rfl (Nat.le_succ _))
  refine wpIn_region_any hm (lexFL_any (H0 := w.heap) (K := K) (w0 := { w with drawn := w.drawn + 1 }) hK hB (fun a T w' h1 h2 h3 => hQ a T w' h1 (hd.trans h2) h3) ops.size _ a [] _ (Lays.nil _) (.refl _) (by simp) ?_ (by rw [hu]; simp) ?_)
  · intro j oj _ hl
    have : ∀ j, (Array.replicate ops.size false).getD j false = false := fun j => by
      rcases Nat.lt_or_ge j ops.size with h | h
      · simp [h]
      · simp [h]
    rw [this] at hl
    cases hl
  · rw [hu, List.range_eq_range']
    have t := lexFL_of_ops (P := P) (H0 := w.heap) (ops := ops) (K := K) ops.toList 0 (fun j hj => by rw [Nat.zero_add, Array.getElem?_toList])
    have e : ops.toList.length = ops.size := by simp
    rw [e] at t
    rw [t]; exact h

end
end Go.Proofs.YtfepjeihdcpoaaaGreat
