/-
  Ground, tenth text: elements, rows and variables of one cell, texts.
-/
import Derived.Test.YtfepjeihdcpoaaaGreatFxg
namespace Go.Proofs.YtfepjeihdcpoaaaGreat

/-- Is 'e' the type of slices' elements? -/
def elB (P : Program) (t e : TypeId) (bytes : Nat) (z : Value → Bool) : Bool :=
  (match P.underlying t with | some (.slice e') => Nat.beq e' e | _ => false) &&
  (match P.info? e with | some inf => (match inf.zero with | some v => z v && Nat.beq v.cells.size 1 | none => false) && (Nat.beq inf.size 1 && Nat.beq inf.bytes bytes) | none => false)

theorem El_of {P : Program} {t e : TypeId} {bytes : Nat} {z : Value} {zb : Value → Bool} (hz : ∀ v, zb v = true → v = z) (hzc : z.cells = #[z]) (h : elB P t e bytes zb = true) : El P t e bytes z := by
  unfold elB at h
  simp only [Bool.and_eq_true] at h
  obtain ⟨h1, h2⟩ := h
  split at h1
  · rename_i e' he
    split at h2
    · rename_i inf hi
      simp only [Bool.and_eq_true] at h2
      obtain ⟨h3, h4, h5⟩ := h2
      split at h3
      · rename_i v hv
        simp only [Bool.and_eq_true] at h3
        have := Nat.eq_of_beq_eq_true h1
        subst this
        exact ⟨inf, he, hi, by rw [hv, hz v h3.1], hzc, Nat.eq_of_beq_eq_true h4, Nat.eq_of_beq_eq_true h5⟩
      · cases h3
    · cases h2
  · cases h1

def isInt0 (k : IntKind) (v : Value) : Bool := match v with | .int k' n => k' == k && decide (n = 0) | _ => false
theorem isInt0_eq {k : IntKind} (v : Value) (h : isInt0 k v = true) : v = .int k 0 := by
  unfold isInt0 at h
  split at h
  · simp at h; rw [h.1, h.2]
  · cases h
def isSl0 (v : Value) : Bool := match v with | .slice none n c => Nat.beq n 0 && Nat.beq c 0 | _ => false
theorem isSl0_eq (v : Value) (h : isSl0 v = true) : v = .slice none 0 0 := by
  unfold isSl0 at h
  split at h
  · simp at h; rw [h.1, h.2]
  · cases h

theorem intsOne (k : IntKind) (l : List Int) : ∀ u ∈ l.map (Value.int k), u.oneCell' = true := by
  intro u hu
  obtain ⟨x, _, rfl⟩ := List.mem_map.1 hu
  rfl

theorem Owns.cap {H : Heap} {base : Nat} {e : TypeId} {size : Nat} {s : Sl} {xs : List Value} (h : Owns H base e size s xs) : s.n ≤ s.c := by
  rcases h.2 with ⟨e1, e2⟩ | ⟨g, cap, cur, e1, hb, hg, h4, h5, h6, h7⟩
  · omega
  · cases s; simp only [Sl.v, Value.slice.injEq] at e1; simp only at h4 ⊢; omega
def sizeB (P : Program) (ty : TypeId) (n : Nat) : Bool := match P.info? ty with | some i => Nat.beq i.size n | none => false

theorem Owns.obj {H : Heap} {base : Nat} {e : TypeId} {size : Nat} {s : Sl} {xs : List Value} (h : Owns H base e size s xs) : ∀ b, ownB s b → ∃ cur, H[b]? = some (.cells cur e (0, 0)) := by
  rintro b ⟨ad, ha, rfl⟩
  rcases h.2 with ⟨e1, _⟩ | ⟨g, cap, cur, e1, hb, hg, _⟩
  · cases s; simp only [Sl.v, Value.slice.injEq] at e1 ha; rw [e1.1] at ha; cases ha
  · cases s
    simp only [Sl.v, Value.slice.injEq] at e1 ha
    rw [e1.1] at ha
    cases ha
    exact ⟨cur, hg⟩
theorem Owns.apart {H : Heap} {base base' : Nat} {e e' : TypeId} {size size' : Nat} {s s' : Sl} {xs xs' : List Value} (h : Owns H base e size s xs) (k : Owns H base' e' size' s' xs') (hne : e ≠ e') : ∀ b, ownB s b → ¬ ownB s' b := by
  intro b h1 h2
  obtain ⟨c1, q1⟩ := h.obj b h1
  obtain ⟨c2, q2⟩ := k.obj b h2
  rw [q1] at q2
  simp at q2
  exact hne q2.2
theorem ints_get {k : IntKind} {H : Heap} {s : Sl} {l : List Int} (h : Ints k H s l) {i : Int} {j : Nat} (e : i = (j : Int)) (h1 : j < l.length) {K : Addr → Int → Prop} (hK : ∀ ad, s.a = some ad → K ad (l.getD j 0)) :
    optK s.a fun a => (0 ≤ i ∧ i < (s.n : Int)) ∧ ld (cInt k) H (a.add (i.toNat * 1)) fun x => K a x := by
  subst e
  exact h.ld (by omega) (by omega) (by simpa using hK)

end Go.Proofs.YtfepjeihdcpoaaaGreat
