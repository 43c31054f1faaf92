/-
 Ground for all walks of this seat, over any program: what one operation does, said of the heap alone (the count of draws is left free), and the theorem that a region which draws its order may be walked in the order of the text where its operations commute.
-/
import Derived.Orders
import Derived.OrdersIn
import Derived.TacticsIn
import Derived.Tactics
import Derived.RangeFuncIn
import Derived.RangeFuncLeaves
namespace Go.Proofs.YtkehfflpbpdokaaGreat
abbrev Heap := Array Obj
def hCell (H : Heap) (a : Addr) : Option Value :=
 match H[a.block]? with
 | some (.cells c _ _) => if a.spot.isSome then none else c[a.off]?
 | _ => none
def hFrozen (H : Heap) (a : Addr) : Bool :=
 match H[a.block]? with
 | some (.cells _ _ (lo, hi)) => lo ≤ a.off && a.off < hi
 | _ => false
def hShape (H : Heap) (r : Nat) : Option (TypeId × Nat) :=
 match H[r]? with
 | some (.cells c elem _) => some (elem, c.size)
 | _ => none
def hSet (H : Heap) (a : Addr) (v : Value) : Heap :=
 H.modify a.block fun
  | .cells c elem frozen => .cells (if a.spot.isSome then c else c.setIfInBounds a.off v) elem frozen
  | o => o
def hFreeze (H : Heap) (a : Addr) (n : Nat) : Heap :=
 if n = 0 then H else
 H.modify a.block fun
  | .cells c elem (lo, hi) => .cells c elem (if lo == hi then (a.off, a.off + n) else (min lo a.off, max hi (a.off + n)))
  | o => o
def plainV : Value → Bool
 | .agg _ => false
 | .tuple _ => false
 | _ => true
def notCells : Obj → Bool
 | .cells .. => false
 | _ => true
def wpS {α : Type} (P : Program) : Sem α → Heap → (α → Heap → Prop) → Prop
 | .pure a, H, K => K a H
 | .load _ a k, H, K => ∃ v, hCell H a = some v ∧ wpS P (k v) H K
 | .store _ a v k, H, K => plainV v = true ∧ (∃ u, hCell H a = some u) ∧ hFrozen H a = false ∧ wpS P k (hSet H a v) K
 | .new o k, H, K => wpS P (k H.size) (H.push o) K
 | .shape r k, H, K => wpS P (k (hShape H r)) H K
 | .freeze a n k, H, K => wpS P k (hFreeze H a n) K
 | .frozen a k, H, K => wpS P (k (hFrozen H a)) H K
 | .getObj r k, H, K => ∃ o, H[r]? = some o ∧ notCells o = true ∧ wpS P (k o) H K
 | .setObj r o k, H, K => (∃ u, H[r]? = some u ∧ notCells u = true) ∧ wpS P k (H.setIfInBounds r o) K
 | .choose q k, H, K => if q.forced then wpS P (k 0) H K else ∀ t, wpS P (k (q.cut t)) H K
 | .sys _ _, _, _ => False
 | .program k, H, K => wpS P (k P) H K
 | .mark _ k, H, K => wpS P k H K
 | .halt _, _, _ => False
structure Alike (w w' : World) : Prop where
 rest : w' = { w with heap := w'.heap, drawn := w'.drawn }
 drawn : w.drawn ≤ w'.drawn
theorem Alike.of_le {w w' : World} (h : w' = { w with heap := w'.heap, drawn := w'.drawn }) (d : w.drawn ≤ w'.drawn) : Alike w w' := ⟨h, d⟩
theorem Alike.refl (w : World) : Alike w w := .of_le rfl (Nat.le_refl _)
theorem Alike.trans {a b c : World} (h : Alike a b) (k : Alike b c) : Alike a c := ⟨by
 have h1 := h.rest
 have h2 := k.rest
 rw [h1] at h2
 exact h2, Nat.le_trans h.drawn k.drawn⟩
theorem Alike.os {w w' : World} (h : Alike w w') : w'.os = w.os := by rw [h.rest]
theorem Alike.output {w w' : World} (h : Alike w w') : w'.output = w.output := by rw [h.rest]
theorem wpS_bind {α β : Type} {P : Program} (s : Sem α) (f : α → Sem β) : ∀ {H : Heap} {K : β → Heap → Prop}, wpS P s H (fun a H' => wpS P (f a) H' K) → wpS P (s >>= f) H K := by
 show ∀ {H : Heap} {K : β → Heap → Prop}, wpS P s H (fun a H' => wpS P (f a) H' K) → wpS P (s.bind f) H K
 induction s with
 | pure a => intro H K hh; exact hh
 | load m a k ih => intro H K ⟨v, h1, h2⟩; exact ⟨v, h1, ih v h2⟩
 | store m a v k ih => intro H K ⟨h1, h2, h3, h4⟩; exact ⟨h1, h2, h3, ih h4⟩
 | new o k ih => intro H K hh; exact ih _ hh
 | shape r k ih => intro H K hh; exact ih _ hh
 | freeze a n k ih => intro H K hh; exact ih hh
 | frozen a k ih => intro H K hh; exact ih _ hh
 | getObj r k ih => intro H K ⟨o, h1, h2, h3⟩; exact ⟨o, h1, h2, ih o h3⟩
 | setObj r o k ih => intro H K ⟨h1, h2⟩; exact ⟨h1, ih h2⟩
 | choose q k ih =>
   intro H K hh
   simp only [wpS, Sem.bind] at hh ⊢
   split
   ·rename_i hq; rw [if_pos hq] at hh; exact ih _ hh
   ·rename_i hq; rw [if_neg hq] at hh; exact fun t => ih _ (hh t)
 | sys c k ih => intro H K hh; exact hh
 | program k ih => intro H K hh; exact ih _ hh
 | mark m k ih => intro H K hh; exact ih hh
 | halt x => intro H K hh; exact hh
theorem wpS_run {α : Type} {P : Program} (s : Sem α) : ∀ {w : World} {K : α → Heap → Prop}, wpS P s w.heap K → ∃ v w', s.run P w = .ok v w' ∧ K v w'.heap ∧ Alike w w' := by
 induction s with
 | pure a => intro w K h; exact ⟨a, w, rfl, h, .refl w⟩
 | load m a k ih =>
   intro w K ⟨v, h1, h2⟩
   obtain ⟨u, w', r1, r2, r3⟩ := ih v h2
   have hc : w.cell? a = some v := h1
   exact ⟨u, w', by simp only [Sem.run, hc]; exact r1, r2, r3⟩
 | store m a v k ih =>
   intro w K ⟨h1, ⟨u, h2⟩, h3, h4⟩
   obtain ⟨x, w', r1, r2, r3⟩ := ih (w := w.setCell a v) h4
   have hc : w.cell? a = some u := h2
   have hf : w.frozen? a = false := h3
   refine ⟨x, w', ?_, r2, (Alike.of_le rfl (Nat.le_refl _) : Alike w (w.setCell a v)).trans r3⟩
   cases v <;> first | exact Bool.noConfusion h1 | (simp only [Sem.run, hc, hf]; exact r1)
 | new o k ih =>
   intro w K h
   obtain ⟨x, w', r1, r2, r3⟩ := ih w.heap.size (w := { w with heap := w.heap.push o }) h
   exact ⟨x, w', r1, r2, (Alike.of_le rfl (Nat.le_refl _) : Alike w { w with heap := w.heap.push o }).trans r3⟩
 | shape r k ih =>
   intro w K h
   obtain ⟨x, w', r1, r2, r3⟩ := ih _ h
   exact ⟨x, w', r1, r2, r3⟩
 | freeze a n k ih =>
   intro w K h
   have e : (w.freeze a n).heap = hFreeze w.heap a n := by unfold World.freeze hFreeze; split <;> rfl
   obtain ⟨x, w', r1, r2, r3⟩ := ih (w := w.freeze a n) (by rw [e]; exact h)
   have e2 : Alike w (w.freeze a n) := by unfold World.freeze; split <;> exact .of_le rfl (Nat.le_refl _)
   exact ⟨x, w', r1, r2, e2.trans r3⟩
 | frozen a k ih =>
   intro w K h
   obtain ⟨x, w', r1, r2, r3⟩ := ih _ h
   exact ⟨x, w', r1, r2, r3⟩
 | getObj r k ih =>
   intro w K ⟨o, h1, h2, h3⟩
   obtain ⟨x, w', r1, r2, r3⟩ := ih o h3
   refine ⟨x, w', ?_, r2, r3⟩
   simp only [Sem.run, h1]
   cases o <;> first | exact Bool.noConfusion h2 | exact r1
 | setObj r o k ih =>
   intro w K ⟨⟨u, h1, h2⟩, h3⟩
   obtain ⟨x, w', r1, r2, r3⟩ := ih (w := { w with heap := w.heap.setIfInBounds r o }) h3
   refine ⟨x, w', ?_, r2, (Alike.of_le rfl (Nat.le_refl _) : Alike w { w with heap := w.heap.setIfInBounds r o }).trans r3⟩
   simp only [Sem.run, h1]
   cases u <;> first | exact Bool.noConfusion h2 | exact r1
 | choose q k ih =>
   intro w K h
   simp only [wpS] at h
   by_cases hq : q.forced = true
   ·rw [if_pos hq] at h
    obtain ⟨x, w', r1, r2, r3⟩ := ih _ h
    exact ⟨x, w', by simp only [Sem.run, if_pos hq]; exact r1, r2, r3⟩
   ·rw [if_neg hq] at h
    obtain ⟨x, w', r1, r2, r3⟩ := ih _ (w := { w with drawn := w.drawn + 1 }) (h (w.tape w.drawn q))
    exact ⟨x, w', by simp only [Sem.run, if_neg hq]; exact r1, r2, (Alike.of_le rfl (Nat.le_succ _) : Alike w { w with drawn := w.drawn + 1 }).trans r3⟩
 | sys c k ih => intro w K h; exact h.elim
 | program k ih =>
   intro w K h
   obtain ⟨x, w', r1, r2, r3⟩ := ih P h
   exact ⟨x, w', r1, r2, r3⟩
 | mark m k ih =>
   intro w K h
   obtain ⟨x, w', r1, r2, r3⟩ := ih h
   exact ⟨x, w', r1, r2, r3⟩
 | halt x => intro w K h; exact h.elim
def isConstO : Operand → Bool
 | .const _ => true
 | _ => false
def clsOp (P : Program) : Op → Nat
 | .move _ => 0 | .assign _ => 0 | .pick .. => 0 | .unOp .. => 0 | .nilCheck _ => 0
 | .build .. => 0 | .field .. => 0 | .fieldAddr .. => 0 | .indexAddr .. => 0 | .index .. => 0 | .slice .. => 0 | .extract .. => 0
 | .makeFunc .. => 0 | .makeInterface .. => 0 | .sliceToArrayPointer .. => 0
 | .binOp _ t x y _ =>
   match P.underlying t with
   | some (.int _) => 0 | some .string => 0 | some .bool => 0
   | _ => if isConstO x || isConstO y then 0 else 1
 | .convert src dst _ =>
   match P.underlying src, P.underlying dst with
   | some (.int _), some (.int _) => 0
   | some .string, some .string => 0
   | some (.slice _), some (.slice _) => 2
   | some (.slice _), _ => 1
   | _, _ => 2
 | .load .. => 1 | .lookup .. => 1
 | .call { callee := .builtin .len, .. } => 1
 | .call { callee := .builtin .cap, .. } => 0
 | .call { callee := .builtin .min, .. } => 0
 | .call { callee := .builtin .max, .. } => 0
 | _ => 2
def inC (M : Option (Heap → Prop)) (H H' : Heap) : Prop := match M with | none => H' = H | some G => G H'
def okC (M : Option (Heap → Prop)) (H' : Heap) : Prop := match M with | none => True | some G => G H'
def wpR (P : Program) (r : Result Next) (K : Value → World → Prop) : Prop :=
 match r with
 | .ok (.value v) w' => K v w'
 | .ok .skip w' => K undef w'
 | .ok (.enter f args) w' => Calls P f args w' fun e w'' => ∃ v, e = .returned v ∧ K v w''
 | .ok (.row row args) w' => Rows P row args w' K
 | .ok (.round l f tmps assign body) w' => RoundIn Fence.wide 0 P l f tmps assign body w' fun e w'' => ∃ v, e = .returned v ∧ K v w''
 | _ => False
def FW (r : Option Nat) : Fence := { Fence.wide with round := r }
def lexRun (P : Program) (M : Option (Heap → Prop)) (c : Nat) (r : World → Result Next) (K : Value → World → Prop) (w : World) : Prop :=
 match c with
 | 0 => ∃ v, (∀ w', r w' = .ok (.value v) w') ∧ K v w
 | 1 => ∃ v, (∀ w', inC M w.heap w'.heap → r w' = .ok (.value v) w') ∧ K v w
 | _ => wpR P (r w) fun v w' => okC M w'.heap ∧ K v w'
def inL (L : List Nat) (o : Oper) : Bool := match o.dst with | some d => L.any (Nat.beq d) | none => false
def clsL (P : Program) (L : List Nat) (o : Oper) : Nat := bif Nat.beq (clsOp P o.op) 1 && inL L o then 2 else clsOp P o.op
def lexO (P : Program) (M : Option (Heap → Prop)) (L : List Nat) (ops : Array Oper) (o : Oper) (K : Act → World → Prop) (a : Act) (w : World) : Prop :=
 if Region.wanted o (yielded ops a.tmps) = true then lexRun P M (clsL P L o) (fun w => (execOp a.eval o).run P w) (fun v w' => K (a.put o.dst v) w') w
 else K (a.put o.dst undef) w
theorem blt_t {i k : Nat} : Nat.blt i k = true ↔ i < k := by simp [Nat.blt, Nat.lt_iff_add_one_le]
theorem blt_f {i k : Nat} (h : ¬ i < k) : Nat.blt i k = false := by
 cases hq : Nat.blt i k with
 | false => rfl
 | true => exact absurd (blt_t.1 hq) h
def Mat (M : Option (Heap → Prop)) (k i : Nat) : Option (Heap → Prop) := bif Nat.blt i k then M else none
def lexI (P : Program) (M : Option (Heap → Prop)) (k : Nat) (L : List Nat) (ops : Array Oper) (i : Nat) (K : Act → World → Prop) (a : Act) (w : World) : Prop :=
 match ops[i]? with
 | none => K a w
 | some o => lexO P (Mat M k i) L ops o K a w
def lexL (P : Program) (M : Option (Heap → Prop)) (k : Nat) (L : List Nat) (ops : Array Oper) (K : Act → World → Prop) : List Nat → Act → World → Prop
 | [] => K
 | i :: l => lexI P M k L ops i (lexL P M k L ops K l)
def lexOps (P : Program) (M : Option (Heap → Prop)) (L : List Nat) (ops : Array Oper) (K : Act → World → Prop) : List Oper → Act → World → Prop
 | [] => K
 | o :: l => lexO P M L ops o (lexOps P M L ops K l)
section
variable {P : Program} {M : Option (Heap → Prop)} {L : List Nat} {ops : Array Oper} {Q : Exit → Act → World → Prop}
theorem wpR_mono {r : Result Next} {K K' : Value → World → Prop} (h : ∀ v w, K v w → K' v w) (hh : wpR P r K) : wpR P r K' := by
 unfold wpR at *
 cases r with
 | ok n w' =>
   cases n <;> simp only at hh ⊢
   case value v => exact h _ _ hh
   case skip => exact h _ _ hh
   case enter f args => exact Calls.mono hh fun e w'' ⟨v, he, hk⟩ => ⟨v, he, h _ _ hk⟩
   case row row args => exact Rows.mono hh fun v w'' hk => h _ _ hk
   case round l f tmps assign body => exact RoundIn.mono hh fun e w'' ⟨v, he, hk⟩ => ⟨v, he, h _ _ hk⟩
 | halt x w' => exact hh
theorem wpR_const {r : Result Next} {C : Prop} (hh : wpR P r (fun _ _ => C)) : C := by
 unfold wpR at hh
 cases r with
 | ok n w' =>
   cases n <;> simp only at hh
   case value v => exact hh
   case skip => exact hh
   case enter f args =>
    obtain ⟨e, w', fr, ⟨v, _, hk⟩, _⟩ := hh []
    exact hk
   case row row args =>
    obtain ⟨v, w', hk, _⟩ := hh default []
    exact hk
   case round l f tmps assign body =>
    obtain ⟨e, w', ⟨v, _, hk⟩, _⟩ := hh.2 default [] (room_wide _)
    exact hk
 | halt x w' => exact hh.elim
theorem lexRun_mono {c : Nat} {r : World → Result Next} {K K' : Value → World → Prop} {w : World} (h : ∀ v w, K v w → K' v w) (hh : lexRun P M c r K w) : lexRun P M c r K' w :=
 match c, hh with
 | 0, ⟨v, h1, h2⟩ => ⟨v, h1, h _ _ h2⟩
 | 1, ⟨v, h1, h2⟩ => ⟨v, h1, h _ _ h2⟩
 | _ + 2, hh => wpR_mono (fun v w ⟨h1, h2⟩ => ⟨h1, h v w h2⟩) hh
theorem lexRun_keep {c : Nat} {M' : Option (Heap → Prop)} {r : World → Result Next} {K : Value → World → Prop} {w : World} (hG : okC M w.heap) (hc : c = 0 ∨ c = 1 ∨ M' = M) (hh : lexRun P M' c r K w) : lexRun P M' c r (fun v w' => okC M w'.heap ∧ K v w') w :=
 match c, hh with
 | 0, ⟨v, h1, h2⟩ => ⟨v, h1, hG, h2⟩
 | 1, ⟨v, h1, h2⟩ => ⟨v, h1, hG, h2⟩
 | n + 2, hh => by
   have e : M' = M := by
    rcases hc with h | h | h
    ·omega
    ·omega
    ·exact h
   subst e
   exact wpR_mono (fun v w ⟨h1, h2⟩ => ⟨h1, h1, h2⟩) hh
theorem lexRun_const {c : Nat} {r : World → Result Next} {C : Prop} {w : World} (hh : lexRun P M c r (fun _ _ => C) w) : C :=
 match c, hh with
 | 0, ⟨_, _, h2⟩ => h2
 | 1, ⟨_, _, h2⟩ => h2
 | _ + 2, hh => wpR_const (wpR_mono (K' := fun _ _ => C) (fun _ _ ⟨_, h2⟩ => h2) hh)
theorem lexRun_swap {M' : Option (Heap → Prop)} {c d : Nat} {r s : World → Result Next} {K : Value → Value → World → Prop} {w : World}
  (hc : c = 0 ∨ d = 0 ∨ (c = 1 ∧ d = 1) ∨ (M' = M ∧ M.isSome = true ∧ (c = 1 ∨ d = 1)))
  (h : lexRun P M c r (fun v w' => lexRun P M' d s (fun u w'' => K v u w'') w') w) : lexRun P M' d s (fun u w' => lexRun P M c r (fun v w'' => K v u w'') w') w := by
 rcases hc with rfl | rfl | ⟨rfl, rfl⟩ | ⟨rfl, hM, rfl | rfl⟩
 ·obtain ⟨v, h1, h2⟩ := h
  exact lexRun_mono (fun u w' hk => ⟨v, h1, hk⟩) h2
 ·have hy : ∃ u, ∀ w', s w' = .ok (.value u) w' := lexRun_const (lexRun_mono (K' := fun _ _ => ∃ u, ∀ w', s w' = .ok (.value u) w') (fun v w' ⟨u, h1, _⟩ => ⟨u, h1⟩) h)
  obtain ⟨u, hu⟩ := hy
  refine ⟨u, hu, lexRun_mono (fun v w' ⟨u', h1, h2⟩ => ?_) h⟩
  have e := (hu w').symm.trans (h1 w')
  simp only [Result.ok.injEq, Next.value.injEq, and_true] at e
  rw [e]; exact h2
 ·obtain ⟨v, h1, u, h2, h3⟩ := h
  exact ⟨u, h2, v, h1, h3⟩
 ·cases M' with
  | none => cases hM
  | some G =>
    obtain ⟨v, h1, h2⟩ := h
    exact lexRun_mono (fun u w' hk => ⟨v, h1, hk⟩) h2
 ·cases M' with
  | none => cases hM
  | some G =>
    match c, h with
    | 0, ⟨v, h1, u, h2, h3⟩ => exact ⟨u, h2, v, h1, h3⟩
    | 1, ⟨v, h1, u, h2, h3⟩ => exact ⟨u, h2, v, h1, h3⟩
    | c + 2, h =>
      have hy : ∃ u, ∀ w', G w'.heap → s w' = .ok (.value u) w' := wpR_const (wpR_mono (K' := fun _ _ => ∃ u, ∀ w', G w'.heap → s w' = .ok (.value u) w') (fun v w' ⟨_, u, h1, _⟩ => ⟨u, h1⟩) h)
      obtain ⟨u, hu⟩ := hy
      refine ⟨u, hu, wpR_mono (fun v w' ⟨hg, u', h1, h2⟩ => ⟨hg, ?_⟩) h⟩
      have e := (hu w' hg).symm.trans (h1 w' hg)
      simp only [Result.ok.injEq, Next.value.injEq, and_true] at e
      rw [e]; exact h2
theorem inC_refl {w : World} (hG : okC M w.heap) : inC M w.heap w.heap := by
 cases M with
 | none => rfl
 | some G => exact hG
theorem rowsIn_wide {row : String} {args : Array Value} {w : World} {R : Value → World → Prop} {r : Option Nat} (h : Rows P row args w R) : RowsIn (FW r) 0 P row args w R :=
 fun c cs _ => let ⟨v, w', h1, h2⟩ := h c cs; ⟨v, w', h1, (StepsIn.of_steps h2).mono fun m _ => fenced_wide P m⟩
theorem wp_of_wpR {o : Oper} {a : Act} {w : World} {K : Act → World → Prop} {rn : Option Nat} (hh : wpR P ((execOp a.eval o).run P w) (fun v w' => K (a.put o.dst v) w')) : o.wpIn (FW rn) 0 P a w K Q := by
 refine ⟨fun _ _ => trivial, ?_⟩
 have he : o.semAt (FW rn).round a.eval = execOp a.eval o := by
  refine Oper.semAt_eq _ _ _ fun c hc => ?_
  unfold wpR at hh
  simp only [execOp, hc, Sem.run_bind] at hh
  generalize (resolve a.eval c o.type).run P w = r at hh
  cases r with
  | ok d w' => exact hh
  | halt x w' => exact hh
 rw [he]
 unfold wpR at hh
 generalize (execOp a.eval o).run P w = r at *
 have hd : (FW rn).depth.isSome = true → 1 ≤ 0 := fun h => by cases h
 cases r with
 | ok n w' =>
   cases n <;> simp only at hh <;> simp only [Oper.uponIn]
   case value v => exact hh
   case skip => exact hh
   case enter f args =>
    refine ⟨hd, ?_⟩
    have h1 : Calls P f args w' fun
      | .returned v, w'' => K (a.put o.dst v) w''
      | .panicked chain, w'' => Q (.panic chain) a w''
      | .outgrown, _ => LetsOut Q := Calls.mono hh fun e w'' ⟨v, he, hk⟩ => by subst he; exact hk
    exact callsIn_wide.2 h1
   case row row args => exact ⟨hd, rowsIn_wide hh⟩
   case round l f tmps assign body =>
    refine ⟨hd, ?_⟩
    have h1 : RoundIn Fence.wide 0 P l f tmps assign body w' fun
      | .returned v, w'' => K (a.put o.dst v) w''
      | .panicked chain, w'' => Q (.panic chain) a w''
      | .outgrown, _ => LetsOut Q := RoundIn.mono hh fun e w'' ⟨v, he, hk⟩ => by subst he; exact hk
    exact h1
 | halt x w' => exact hh.elim
theorem wp_of_lexRun {c : Nat} {o : Oper} {a : Act} {w : World} {K : Act → World → Prop} {rn : Option Nat} (hG : c = 1 → okC M w.heap)
  (hh : lexRun P M c (fun w => (execOp a.eval o).run P w) (fun v w' => K (a.put o.dst v) w') w) : o.wpIn (FW rn) 0 P a w K Q := by
 match c, hG, hh with
 | 0, _, ⟨v, h1, h2⟩ => have h3 := h1 w; dsimp only at h3; exact wp_of_wpR (by rw [h3]; exact h2)
 | 1, hG, ⟨v, h1, h2⟩ => have h3 := h1 w (inC_refl (hG rfl)); dsimp only at h3; exact wp_of_wpR (by rw [h3]; exact h2)
 | _ + 2, _, hh => exact wp_of_wpR (wpR_mono (fun v w' ⟨_, h2⟩ => h2) hh)
theorem lexO_mono {o : Oper} {a : Act} {w : World} {K K' : Act → World → Prop} (h : ∀ a w, K a w → K' a w) (hh : lexO P M L ops o K a w) : lexO P M L ops o K' a w := by
 unfold lexO at *
 split
 ·rename_i hw
  rw [if_pos hw] at hh
  exact lexRun_mono (fun v w hk => h _ _ hk) hh
 ·rename_i hw
  rw [if_neg hw] at hh
  exact h _ _ hh
theorem lexO_keep {M' : Option (Heap → Prop)} {o : Oper} {a : Act} {w : World} {K : Act → World → Prop} (hG : okC M w.heap) (hc : clsL P L o = 0 ∨ clsL P L o = 1 ∨ M' = M) (hh : lexO P M' L ops o K a w) : lexO P M' L ops o (fun a w => okC M w.heap ∧ K a w) a w := by
 unfold lexO at *
 split
 ·rename_i hw
  rw [if_pos hw] at hh
  exact lexRun_keep hG hc hh
 ·rename_i hw
  rw [if_neg hw] at hh
  exact ⟨hG, hh⟩
theorem lexI_mono {k i : Nat} {a : Act} {w : World} {K K' : Act → World → Prop} (h : ∀ a w, K a w → K' a w) (hh : lexI P M k L ops i K a w) : lexI P M k L ops i K' a w := by
 unfold lexI at *
 split
 ·rename_i ho; rw [ho] at hh; exact h _ _ hh
 ·rename_i o ho; rw [ho] at hh; exact lexO_mono h hh
theorem lexO_wp {o : Oper} {a : Act} {w : World} {K : Act → World → Prop} {rn : Option Nat} (hG : clsL P L o = 1 → okC M w.heap) (hh : lexO P M L ops o K a w) :
  if Region.wanted o (yielded ops a.tmps) = true then o.wpIn (FW rn) 0 P a w K Q else ((∀ f, o.about P w a.eval = some f → (FW rn).fn f) ∧ K (a.put o.dst undef) w) := by
 unfold lexO at hh
 split
 ·rename_i hw
  rw [if_pos hw] at hh
  exact wp_of_lexRun hG hh
 ·rename_i hw
  rw [if_neg hw] at hh
  exact ⟨fun _ _ => trivial, hh⟩
theorem wpOp_of_lexI {k i : Nat} {a : Act} {w : World} {K : Act → World → Prop} {rn : Option Nat} (hG : ∀ o, ops[i]? = some o → i < k → clsL P L o = 1 → okC M w.heap) (hh : lexI P M k L ops i K a w) : wpOpIn (FW rn) 0 P ops Q i K a w := by
 unfold lexI at hh
 unfold wpOpIn
 split
 ·rename_i ho; rw [ho] at hh; exact hh
 ·rename_i o ho
  rw [ho] at hh
  refine lexO_wp (M := Mat M k i) (fun hc => ?_) hh
  unfold Mat
  cases hk : Nat.blt i k with
  | true => exact hG o ho (blt_t.1 hk) hc
  | false => exact trivial
theorem wpList_of_lexOps {rn : Option Nat} {K : Act → World → Prop} (hK : ∀ a w, K a w → Q .normal a w) : ∀ (l : List Oper) (a : Act) (w : World), lexOps P none L ops K l a w → wpListIn (FW rn) 0 P ops Q l a w
 | [], a, w, h => hK _ _ h
 | o :: l, a, w, h => by
   have h1 : lexO P none L ops o (wpListIn (FW rn) 0 P ops Q l) a w := lexO_mono (fun a w hk => wpList_of_lexOps hK l a w hk) h
   have h2 := lexO_wp (M := none) (Q := Q) (rn := rn) (fun _ => trivial) h1
   unfold wpListIn
   split
   ·rename_i hw; rw [if_pos hw] at h2; exact h2
   ·rename_i hw; rw [if_neg hw] at h2; exact h2
def commB (P : Program) (L : List Nat) (m : Bool) (ops : Array Oper) (x y : Oper) : Bool :=
 Oper.apart ops x y && (clsL P L x == 0 || clsL P L y == 0 || (clsL P L x == 1 && clsL P L y == 1) || (m && (clsL P L x == 1 || clsL P L y == 1))) &&
 (match x.op with | .select .. => false | _ => true) && (match y.op with | .select .. => false | _ => true)
theorem commB_spec {m : Bool} {x y : Oper} (h : commB P L m ops x y = true) : Oper.apart ops x y = true ∧
  (clsL P L x = 0 ∨ clsL P L y = 0 ∨ (clsL P L x = 1 ∧ clsL P L y = 1) ∨ (m = true ∧ (clsL P L x = 1 ∨ clsL P L y = 1))) ∧
  (∀ cs b, x.op ≠ .select cs b) ∧ (∀ cs b, y.op ≠ .select cs b) := by
 unfold commB at h
 simp only [Bool.and_eq_true, Bool.or_eq_true, beq_iff_eq] at h
 obtain ⟨⟨⟨h1, h2⟩, h3⟩, h4⟩ := h
 refine ⟨h1, ?_, ?_, ?_⟩
 ·rcases h2 with ((h2 | h2) | h2) | h2
  ·exact .inl h2
  ·exact .inr (.inl h2)
  ·exact .inr (.inr (.inl h2))
  ·exact .inr (.inr (.inr h2))
 ·intro cs b e; rw [e] at h3; cases h3
 ·intro cs b e; rw [e] at h4; cases h4
theorem lexO_swap {M' : Option (Heap → Prop)} {m : Bool} {x y : Oper} (hc : commB P L m ops x y = true) (hm : m = true → M' = M ∧ M.isSome = true) {K : Act → World → Prop} {a : Act} {w : World}
  (h : lexO P M L ops x (lexO P M' L ops y K) a w) : lexO P M' L ops y (lexO P M L ops x K) a w := by
 obtain ⟨hap, hcls, hsx, hsy⟩ := commB_spec hc
 have hcls : clsL P L x = 0 ∨ clsL P L y = 0 ∨ (clsL P L x = 1 ∧ clsL P L y = 1) ∨ (M' = M ∧ M.isSome = true ∧ (clsL P L x = 1 ∨ clsL P L y = 1)) := by
  rcases hcls with h | h | h | ⟨h, k⟩
  ·exact .inl h
  ·exact .inr (.inl h)
  ·exact .inr (.inr (.inl h))
  ·exact .inr (.inr (.inr ⟨(hm h).1, (hm h).2, k⟩))
 obtain ⟨a1, a2, a3⟩ := Oper.apart_spec hap
 have wy : ∀ v, Region.wanted y (yielded ops (a.put x.dst v).tmps) = Region.wanted y (yielded ops a.tmps) := fun v => wanted_put y a x.dst v a1
 have wx : ∀ v, Region.wanted x (yielded ops (a.put y.dst v).tmps) = Region.wanted x (yielded ops a.tmps) := fun v => wanted_put x a y.dst v a3
 have ey : ∀ v, execOp (a.put x.dst v).eval y = execOp a.eval y := fun v => execOp_put (ops := ops) y hsy a x.dst v a1
 have ex : ∀ v, execOp (a.put y.dst v).eval x = execOp a.eval x := fun v => execOp_put (ops := ops) x hsx a y.dst v a3
 have pc : ∀ v u, (a.put x.dst v).put y.dst u = (a.put y.dst u).put x.dst v := fun v u => Act.put_comm a v u a2
 unfold lexO at h ⊢
 simp only [wy, wx, ey, ex, pc] at h ⊢
 by_cases hx : Region.wanted x (yielded ops a.tmps) = true
 ·by_cases hy : Region.wanted y (yielded ops a.tmps) = true
  ·simp only [if_pos hx, if_pos hy] at h ⊢
   exact lexRun_swap hcls h
  ·simp only [if_pos hx, if_neg hy] at h ⊢
   exact h
 ·by_cases hy : Region.wanted y (yielded ops a.tmps) = true
  ·simp only [if_neg hx, if_pos hy] at h ⊢
   exact h
  ·simp only [if_neg hx, if_neg hy] at h ⊢
   exact h
def unlisted (ops : Array Oper) (listed : Array Bool) : List Nat := (List.range ops.size).filter fun i => !listed.getD i true
def befAt (acc : List Nat) : List Edge → Nat
 | [] => 0
 | e :: r => bif Region.binds .any e then (befAt acc r ||| 2 ^ e.on) ||| acc.getD e.on 0 else befAt acc r
def befs : List Oper → List Nat → List Nat
 | [], acc => acc
 | o :: l, acc => befs l (acc ++ [befAt acc o.after.toList])
theorem befAt_spec {acc : List Nat} {i : Nat} : ∀ {l : List Edge}, (befAt acc l).testBit i = true → ∃ e ∈ l, Region.binds .any e = true ∧ (e.on = i ∨ (acc.getD e.on 0).testBit i = true)
 | [], h => by simp [befAt] at h
 | e :: r, h => by
   unfold befAt at h
   cases hb : Region.binds .any e with
   | false =>
     rw [hb] at h
     obtain ⟨e', h1, h2⟩ := befAt_spec (l := r) (by simpa using h)
     exact ⟨e', List.mem_cons_of_mem _ h1, h2⟩
   | true =>
     rw [hb] at h
     simp only [cond_true, Nat.testBit_or, Bool.or_eq_true] at h
     rcases h with (h | h) | h
     ·obtain ⟨e', h1, h2⟩ := befAt_spec h
      exact ⟨e', List.mem_cons_of_mem _ h1, h2⟩
     ·exact ⟨e, List.mem_cons_self, hb, .inl (by simpa [Nat.testBit_two_pow] using h)⟩
     ·exact ⟨e, List.mem_cons_self, hb, .inr h⟩
theorem befs_prefix : ∀ (l : List Oper) (acc : List Nat) (j : Nat), j < acc.length → (befs l acc).getD j 0 = acc.getD j 0
 | [], _, _, _ => rfl
 | o :: l, acc, j, h => by
   unfold befs
   rw [befs_prefix l _ j (by simp; omega)]
   simp [List.getD, List.getElem?_append_left h]
theorem befs_at : ∀ (l : List Oper) (acc : List Nat) (k : Nat) (o : Oper), l[k]? = some o → ∃ acc', (befs l acc).getD (acc.length + k) 0 = befAt acc' o.after.toList ∧ ∀ i, i < acc.length + k → acc'.getD i 0 = (befs l acc).getD i 0
 | [], _, _, _, h => by simp at h
 | o :: l, acc, 0, o', h => by
   have e : o = o' := by simpa using h
   subst e
   refine ⟨acc, ?_, fun i hi => ?_⟩
   ·unfold befs
    rw [befs_prefix l _ _ (by simp)]
    simp [List.getD]
   ·unfold befs
    rw [befs_prefix l _ _ (by simp at hi ⊢; omega)]
    simp [List.getD, List.getElem?_append_left (show i < acc.length by omega)]
 | o :: l, acc, k + 1, o', h => by
   obtain ⟨acc', h1, h2⟩ := befs_at l (acc ++ [befAt acc o.after.toList]) k o' (by simpa using h)
   have e : (acc ++ [befAt acc o.after.toList]).length + k = acc.length + (k + 1) := by simp; omega
   rw [e] at h1 h2
   exact ⟨acc', by unfold befs; exact h1, fun i hi => by unfold befs; exact h2 i hi⟩
def waits (B : List Nat) (j i : Nat) : Bool := (B.getD j 0).testBit i
def orderFreeB (P : Program) (L : List Nat) (k : Nat) (ops : Array Oper) (B : List Nat) : Bool :=
 (List.range ops.size).all fun j => match ops[j]? with
  | some oj => (oj.after.all fun e => !Region.binds .any e || decide (e.on < j)) &&
    (List.range j).all fun i => match ops[i]? with
     | some oi => commB P L (Nat.blt j k) ops oi oj || waits B j i
     | none => false
  | none => false
def orderFree (P : Program) (L : List Nat) (k : Nat) (ops : Array Oper) : Bool := orderFreeB P L k ops (befs ops.toList [])
def ordered (B : List Nat) (i j : Nat) : Bool := waits B j i || waits B i j
def effs (P : Program) : List Oper → Nat → List Nat
 | [], _ => []
 | o :: r, k => bif Nat.ble 2 (clsOp P o.op) then k :: effs P r (k + 1) else effs P r (k + 1)
def latesGo (P : Program) (B E : List Nat) : List Oper → Nat → List Nat → List Nat
 | [], _, _ => []
 | o :: r, k, acc => (match o.dst with
   | some d => bif Nat.beq (clsOp P o.op) 1 && (E.all (ordered B k) && acc.all (ordered B k)) then d :: latesGo P B E r (k + 1) (k :: acc) else latesGo P B E r (k + 1) acc
   | none => latesGo P B E r (k + 1) acc)
def lates (P : Program) (ops : Array Oper) : List Nat := latesGo P (befs ops.toList []) (effs P ops.toList 0) ops.toList 0 []
def firstK (f : Nat → Bool) : Nat → Nat → Nat
 | _, 0 => 0
 | k, n + 1 => bif f k then k else firstK f (k + 1) n
def closeAt (P : Program) (L : List Nat) (ops : Array Oper) : Nat := let B := befs ops.toList []; firstK (fun k => orderFreeB P L k ops B) 0 (ops.size + 1)
theorem orderFree_lt {k : Nat} (h : orderFree P L k ops = true) {j : Nat} {oj : Oper} (hj : ops[j]? = some oj) {e : Edge} (he : e ∈ oj.after) (hb : Region.binds .any e = true) : e.on < j := by
 unfold orderFree orderFreeB at h
 have hlt : j < ops.size := (Array.getElem?_eq_some_iff.1 hj).1
 have := List.all_eq_true.1 h j (List.mem_range.2 hlt)
 rw [hj] at this
 simp only [Bool.and_eq_true] at this
 have h2 := Array.all_eq_true_iff_forall_mem.1 this.1 e he
 simpa [hb] using h2
theorem orderFree_comm {k : Nat} (h : orderFree P L k ops = true) {i j : Nat} {oi oj : Oper} (hi : ops[i]? = some oi) (hj : ops[j]? = some oj) (hij : i < j) : commB P L (Nat.blt j k) ops oi oj = true ∨ waits (befs ops.toList []) j i = true := by
 unfold orderFree orderFreeB at h
 have hlt : j < ops.size := (Array.getElem?_eq_some_iff.1 hj).1
 have := List.all_eq_true.1 h j (List.mem_range.2 hlt)
 rw [hj] at this
 simp only [Bool.and_eq_true] at this
 have h2 := List.all_eq_true.1 this.2 i (List.mem_range.2 hij)
 rw [hi] at h2
 simpa [Bool.or_eq_true] using h2
def Closed (ops : Array Oper) (listed : Array Bool) : Prop :=
 ∀ j oj, ops[j]? = some oj → listed.getD j false = true → ∀ e ∈ oj.after, Region.binds .any e = true → listed.getD e.on false = true
theorem waits_listed {listed : Array Bool} (hc : Closed ops listed) (hlt : ∀ j oj, ops[j]? = some oj → ∀ e ∈ oj.after, Region.binds .any e = true → e.on < j) : ∀ (j i : Nat) (oj : Oper), ops[j]? = some oj →
  (∀ e ∈ oj.after, Region.binds .any e = true → listed.getD e.on false = true) → waits (befs ops.toList []) j i = true → listed.getD i false = true := by
 intro j
 induction j using Nat.strongRecOn with
 | _ j ih =>
   intro i oj hj hall h
   unfold waits at h
   obtain ⟨acc', h1, h2⟩ := befs_at ops.toList [] j oj (by simpa using hj)
   simp only [List.length_nil, Nat.zero_add] at h1 h2
   rw [h1] at h
   obtain ⟨e, he, hb, h3⟩ := befAt_spec h
   have he' : e ∈ oj.after := by simpa using he
   have hl := hall e he' hb
   have hej := hlt j oj hj e he' hb
   rcases h3 with h3 | h3
   ·rw [← h3]; exact hl
   ·rw [h2 _ hej] at h3
    have hjl : j < ops.size := (Array.getElem?_eq_some_iff.1 hj).1
    have hoe : ops[e.on]? = some (ops[e.on]'(by omega)) := Array.getElem?_eq_getElem (by omega)
    exact ih e.on hej i _ hoe (hc e.on _ hoe hl) h3
theorem lexL_front {K : Act → World → Prop} {k j : Nat} (hMs : ∀ i, i < k → M.isSome = true) : ∀ (l1 l2 : List Nat), (∀ i ∈ l1, i < j ∧ ∃ oi oj, ops[i]? = some oi ∧ ops[j]? = some oj ∧ commB P L (Nat.blt j k) ops oi oj = true) →
  ∀ a w, lexL P M k L ops K (l1 ++ j :: l2) a w → lexI P M k L ops j (lexL P M k L ops K (l1 ++ l2)) a w
 | [], l2, _, a, w, h => h
 | i :: l1, l2, hc, a, w, h => by
   have h1 : lexI P M k L ops i (lexI P M k L ops j (lexL P M k L ops K (l1 ++ l2))) a w := lexI_mono (lexL_front hMs l1 l2 (fun k hk => hc k (List.mem_cons_of_mem _ hk))) h
   obtain ⟨hij, oi, oj, hi, hj, hcm⟩ := hc i List.mem_cons_self
   have e : ∀ K', lexI P M k L ops i K' = lexO P (Mat M k i) L ops oi K' := fun K' => by funext a w; simp only [lexI, hi]
   have e' : ∀ K', lexI P M k L ops j K' = lexO P (Mat M k j) L ops oj K' := fun K' => by funext a w; simp only [lexI, hj]
   rw [e, e'] at h1
   have h2 := lexO_swap hcm (fun hb => by
    have hjk : j < k := blt_t.1 hb
    have hbi : Nat.blt i k = true := blt_t.2 (by omega)
    unfold Mat
    rw [hb, hbi]
    exact ⟨rfl, hMs j hjk⟩) h1
   simp only [List.cons_append, lexL]
   rw [e, e']
   exact h2
theorem filter_split (p : Nat → Bool) (j : Nat) (hj : p j = true) : ∀ (n : Nat), j < n → ∃ l1 l2, (List.range n).filter p = l1 ++ j :: l2 ∧ (∀ i ∈ l1, i < j ∧ p i = true) ∧
  (List.range n).filter (fun i => p i && decide (i ≠ j)) = l1 ++ l2
 | 0, h => by omega
 | n + 1, h => by
   rw [List.range_succ, List.filter_append, List.filter_append]
   by_cases hn : j = n
   ·subst hn
    refine ⟨(List.range j).filter p, [], by simp [hj], ?_, ?_⟩
    ·intro i hi
     rw [List.mem_filter, List.mem_range] at hi
     exact hi
    ·simp only [ne_eq, List.append_nil]
     rw [show List.filter (fun i => p i && decide (¬i = j)) [j] = [] from by simp, List.append_nil]
     exact List.filter_congr fun i hi => by
      have : i ≠ j := by have := List.mem_range.1 hi; omega
      simp [this]
   ·obtain ⟨l1, l2, h1, h2, h3⟩ := filter_split p j hj n (by omega)
    refine ⟨l1, l2 ++ [n].filter p, by rw [h1]; simp, h2, ?_⟩
    rw [h3, List.append_assoc]
    congr 2
    have : n ≠ j := fun e => hn e.symm
    simp [List.filter_cons, this]
def Pend (P : Program) (L : List Nat) (k : Nat) (ops : Array Oper) (listed : Array Bool) : Prop := ∃ i o, ops[i]? = some o ∧ listed.getD i true = false ∧ i < k ∧ clsL P L o = 1
theorem lexL_any {rn : Option Nat} {k : Nat} (hMs : ∀ i, i < k → M.isSome = true) (hB : orderFree P L k ops = true) : ∀ (fuel : Nat) (listed : Array Bool) (a : Act) (w : World), (Pend P L k ops listed → okC M w.heap) → listed.size = ops.size → Closed ops listed → (unlisted ops listed).length = fuel →
  lexL P M k L ops (fun a w => Q .normal a w) (unlisted ops listed) a w → wpAnyIn (FW rn) 0 P .any ops Q fuel listed a w := by
 intro fuel
 induction fuel with
 | zero =>
   intro listed a w hG hs hc hl h
   have h0 : unlisted ops listed = [] := List.length_eq_zero_iff.1 hl
   refine ⟨?_, by rw [h0] at h; exact h⟩
   rw [List.eq_nil_iff_forall_not_mem]
   intro j hj
   obtain ⟨hu, o, ho, _⟩ := mem_ready.1 hj
   have hlt : j < ops.size := (Array.getElem?_eq_some_iff.1 ho).1
   have : j ∈ unlisted ops listed := List.mem_filter.2 ⟨List.mem_range.2 hlt, by simp [hu]⟩
   rw [h0] at this
   cases this
 | succ fuel ih =>
   intro listed a w hG hs hc hl h
   refine ⟨fun h0 => ?_, fun j hj => ?_⟩
   ·-- the first that is not listed is ready
    exfalso
    cases hU : unlisted ops listed with
    | nil => rw [hU] at hl; simp at hl
    | cons m rest =>
      have hm : m ∈ unlisted ops listed := by rw [hU]; exact List.mem_cons_self
      have hmin : ∀ i, i < m → listed.getD i false = true := by
       intro i hi
       obtain ⟨hm1, hm2⟩ := List.mem_filter.1 hm
       have hmlt := List.mem_range.1 hm1
       cases hli : listed.getD i true with
       | true =>
         have : i < listed.size := by omega
         simp [this] at hli ⊢; exact hli
       | false =>
         have hi2 : i ∈ unlisted ops listed := List.mem_filter.2 ⟨List.mem_range.2 (by omega), by simp [hli]⟩
         rw [hU] at hi2
         have hsorted : (unlisted ops listed).Pairwise (· < ·) := List.Pairwise.filter _ List.pairwise_lt_range
         rw [hU, List.pairwise_cons] at hsorted
         rcases List.mem_cons.1 hi2 with e | e
         ·omega
         ·have := hsorted.1 i e; omega
      obtain ⟨hm1, hm2⟩ := List.mem_filter.1 hm
      have hmlt := List.mem_range.1 hm1
      have ho : ops[m]? = some ops[m] := Array.getElem?_eq_getElem hmlt
      have : m ∈ Region.ready .any ops listed := mem_ready.2 ⟨by simpa using hm2, _, ho, fun e he hb => hmin _ (orderFree_lt hB ho he hb)⟩
      rw [h0] at this
      cases this
   ·obtain ⟨hu, oj, hoj, hall⟩ := mem_ready.1 hj
    have hlt : j < ops.size := (Array.getElem?_eq_some_iff.1 hoj).1
    obtain ⟨l1, l2, e1, e2, e3⟩ := filter_split (fun i => !listed.getD i true) j (by simp [hu]) ops.size hlt
    have e1' : unlisted ops listed = l1 ++ j :: l2 := e1
    have e4 : unlisted ops (listed.setIfInBounds j true) = l1 ++ l2 := by
     rw [← e3]
     unfold unlisted
     refine List.filter_congr fun i hi => ?_
     have hi' : i < listed.size := by rw [hs]; exact List.mem_range.1 hi
     by_cases hij : i = j
     ·subst hij; simp [hi']
     ·rw [getD_set_ne true (Ne.symm hij)]; simp [hij]
    have hwait : ∀ i, listed.getD i true = false → i < ops.size → waits (befs ops.toList []) j i = false := by
     intro i hiu hil
     cases h3 : waits (befs ops.toList []) j i with
     | false => rfl
     | true =>
       have h4 := waits_listed hc (fun j oj hj e he hb => orderFree_lt hB hj he hb) j i oj hoj hall h3
       have : i < listed.size := by omega
       simp [this] at hiu h4
       rw [hiu] at h4; cases h4
    rw [e1'] at h
    have h2 := lexL_front hMs l1 l2 (fun i hi => by
     obtain ⟨hij, hiu⟩ := e2 i hi
     have hil : i < ops.size := by omega
     have hoi : ops[i]? = some ops[i] := Array.getElem?_eq_getElem hil
     refine ⟨hij, ops[i], oj, hoi, hoj, ?_⟩
     rcases orderFree_comm hB hoi hoj hij with h3 | h3
     ·exact h3
     ·rw [hwait i (by simpa using hiu) hil] at h3; cases h3) a w h
    have hgj : ∀ o, ops[j]? = some o → j < k → clsL P L o = 1 → okC M w.heap := fun o ho hk hc1 => hG ⟨j, o, ho, hu, hk, hc1⟩
    have go : ∀ a' w', (Pend P L k ops (listed.setIfInBounds j true) → okC M w'.heap) → lexL P M k L ops (fun a w => Q .normal a w) (l1 ++ l2) a' w' → wpAnyIn (FW rn) 0 P .any ops Q fuel (listed.setIfInBounds j true) a' w' := by
     intro a' w' hg hk
     refine ih (listed.setIfInBounds j true) a' w' hg (by simp [hs]) ?_ ?_ (by rw [e4]; exact hk)
     ·intro q ok hq hql e he hb
      by_cases hqj : j = q
      ·subst hqj
       have : ok = oj := Option.some.inj (hq.symm.trans hoj)
       subst this
       exact getD_set_true (hall e he hb)
      ·rw [getD_set_ne false hqj] at hql
       exact getD_set_true (hc q ok hq hql e he hb)
     ·rw [e4]
      rw [e1'] at hl
      simp only [List.length_append, List.length_cons] at hl ⊢
      omega
    by_cases hp : Pend P L k ops (listed.setIfInBounds j true)
    ·obtain ⟨i, oi, hoi, hil, hik, hci⟩ := hp
     have hij : j ≠ i := by
      intro e; subst e
      have : j < listed.size := by omega
      simp [this] at hil
     rw [getD_set_ne true hij] at hil
     have hok : okC M w.heap := hG ⟨i, oi, hoi, hil, hik, hci⟩
     have hisz : i < ops.size := (Array.getElem?_eq_some_iff.1 hoi).1
     have hclass : clsL P L oj = 0 ∨ clsL P L oj = 1 ∨ Mat M k j = M := by
      by_cases hjk : j < k
      ·right; right
       have : Nat.blt j k = true := blt_t.2 hjk
       unfold Mat; rw [this]; rfl
      ·have hlt2 : i < j := by omega
       have hb : Nat.blt j k = false := blt_f hjk
       rcases orderFree_comm hB hoi hoj hlt2 with h3 | h3
       ·rw [hb] at h3
        obtain ⟨_, h4, _, _⟩ := commB_spec h3
        rcases h4 with h4 | h4 | ⟨_, h4⟩ | ⟨h4, _⟩
        ·rw [hci] at h4; cases h4
        ·exact .inl h4
        ·exact .inr (.inl h4)
        ·cases h4
       ·rw [hwait i hil hisz] at h3; cases h3
     have h3 : lexI P M k L ops j (fun a w => okC M w.heap ∧ lexL P M k L ops (fun a w => Q .normal a w) (l1 ++ l2) a w) a w := by
      unfold lexI at h2 ⊢
      rw [hoj] at h2 ⊢
      exact lexO_keep hok hclass h2
     exact wpOp_of_lexI hgj (lexI_mono (fun a' w' h5 => go a' w' (fun _ => h5.1) h5.2) h3)
    ·exact wpOp_of_lexI hgj (lexI_mono (fun a' w' h5 => go a' w' (fun q => absurd q hp) h5) h2)
theorem lexL_of_lexOps {K : Act → World → Prop} {k : Nat} {M' : Option (Heap → Prop)} : ∀ (l : List Oper) (s : Nat), (∀ j, j < l.length → l[j]? = ops[s + j]?) → (∀ j, j < l.length → Mat M k (s + j) = M') → lexL P M k L ops K (List.range' s l.length) = lexOps P M' L ops K l
 | [], s, _, _ => rfl
 | o :: l, s, hl, hm => by
   have h0 : ops[s]? = some o := by simpa using (hl 0 (by simp)).symm
   have ih := lexL_of_lexOps (K := K) (k := k) (M' := M') l (s + 1) (fun j hj => by have := hl (j + 1) (by simp; omega); simpa [Nat.add_assoc, Nat.add_comm 1 j] using this) (fun j hj => by have := hm (j + 1) (by simp; omega); rw [← this]; congr 1; omega)
   have hm0 : Mat M k s = M' := by simpa using hm 0 (by simp)
   funext a w
   simp only [List.length_cons, List.range'_succ, lexL, lexOps, lexI, h0, ih, hm0]
theorem lexL_append {K : Act → World → Prop} {k : Nat} : ∀ (l1 l2 : List Nat), lexL P M k L ops K (l1 ++ l2) = lexL P M k L ops (lexL P M k L ops K l2) l1
 | [], _ => rfl
 | i :: l1, l2 => by
   funext a w
   simp only [List.cons_append, lexL]
   rw [lexL_append l1 l2]
theorem wp_region_free {rn : Option Nat} {id : Nat} {a : Act} {w : World} {k : Nat} (hm : P.follows .mixedOrders = true) (hMs : ∀ i, i < k → M.isSome = true) (hB : orderFree P L k ops = true) (hG : okC M w.heap)
  (h : lexOps P M L ops (lexOps P none L ops (fun a w => Q .normal a w) (ops.toList.drop k)) (ops.toList.take k) a { w with drawn := w.drawn + 1 }) : (Code.region id ops true).wpIn (FW rn) 0 P Q a w := by
 have hu : unlisted ops (Array.replicate ops.size false) = List.range ops.size := by
  unfold unlisted
  rw [List.filter_eq_self]
  intro i hi
  have := List.mem_range.1 hi
  simp [this]
 refine wpIn_region_any hm (lexL_any hMs hB ops.size _ a _ (fun _ => hG) (by simp) ?_ (by rw [hu]; simp) ?_)
 ·intro j oj _ hl
  have : ∀ j, (Array.replicate ops.size false).getD j false = false := fun j => by
   rcases Nat.lt_or_ge j ops.size with h | h
   ·simp [h]
   ·simp [h]
  rw [this] at hl
  cases hl
 ·rw [hu, List.range_eq_range']
  have hsplit : List.range' 0 ops.size = List.range' 0 (ops.toList.take k).length ++ List.range' (ops.toList.take k).length (ops.toList.drop k).length := by
   have h1 : ops.size = (ops.toList.take k).length + (ops.toList.drop k).length := by simp; omega
   rw [h1, ← List.range'_append_1]
   simp
  have t1 := lexL_of_lexOps (P := P) (M := M) (L := L) (ops := ops) (K := lexOps P none L ops (fun a w => Q .normal a w) (ops.toList.drop k)) (k := k) (M' := M) (ops.toList.take k) 0 (fun j hj => by
   have hj' : j < k := by simp at hj; omega
   rw [List.getElem?_take, if_pos hj', Nat.zero_add, Array.getElem?_toList]) (fun j hj => by
   have : Nat.blt (0 + j) k = true := blt_t.2 (by simp at hj; omega)
   unfold Mat; rw [this]; rfl)
  have t2 := lexL_of_lexOps (P := P) (M := M) (L := L) (ops := ops) (K := fun a w => Q .normal a w) (k := k) (M' := none) (ops.toList.drop k) (ops.toList.take k).length (fun j hj => by
   have e : (ops.toList.take k).length = k := by simp at hj ⊢; omega
   rw [e, List.getElem?_drop, Array.getElem?_toList]) (fun j hj => by
   have : Nat.blt ((ops.toList.take k).length + j) k = false := blt_f (by simp at hj ⊢; omega)
   unfold Mat; rw [this]; rfl)
  rw [hsplit, lexL_append, t2, t1]
  exact h
theorem wp_region_lex {rn : Option Nat} {id : Nat} {a : Act} {w : World} (h : lexOps P none L ops (fun a w => Q .normal a w) ops.toList a w) : (Code.region id ops false).wpIn (FW rn) 0 P Q a w :=
 wpIn_region_list (wpList_of_lexOps (fun _ _ h => h) _ _ _ h)
end
end Go.Proofs.YtkehfflpbpdokaaGreat
