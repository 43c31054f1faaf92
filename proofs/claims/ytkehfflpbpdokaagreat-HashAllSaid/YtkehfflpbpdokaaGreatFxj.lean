/-
 Ground, tenth text: elements, rows and variables of one cell, texts.
-/
import Derived.Test.YtkehfflpbpdokaaGreatFxg
namespace Go.Proofs.YtkehfflpbpdokaaGreat
def elB (P : Program) (t e : TypeId) (bytes : Nat) (z : Value → Bool) : Bool :=
 (match P.underlying t with | some (.slice e') => Nat.beq e' e | _ => false) &&
 (match P.info? e with | some inf => (match inf.zero with | some v => z v && Nat.beq v.cells.size 1 | none => false) && (Nat.beq inf.size 1 && Nat.beq inf.bytes bytes) | none => false)
theorem El_of {P : Program} {t e : TypeId} {bytes : Nat} {z : Value} {zb : Value → Bool} (hz : ∀ v, zb v = true → v = z) (hzc : z.cells = #[z]) (h : elB P t e bytes zb = true) : El P t e bytes z := by
 unfold elB at h
 simp only [Bool.and_eq_true] at h
 obtain ⟨h1, h2⟩ := h
 split at h1
 ·rename_i e' he
  split at h2
  ·rename_i inf hi
   simp only [Bool.and_eq_true] at h2
   obtain ⟨h3, h4, h5⟩ := h2
   split at h3
   ·rename_i v hv
    simp only [Bool.and_eq_true] at h3
    have := Nat.eq_of_beq_eq_true h1
    subst this
    exact ⟨inf, he, hi, by rw [hv, hz v h3.1], hzc, Nat.eq_of_beq_eq_true h4, Nat.eq_of_beq_eq_true h5⟩
   ·cases h3
  ·cases h2
 ·cases h1
def isInt0 (k : IntKind) (v : Value) : Bool := match v with | .int k' n => k' == k && decide (n = 0) | _ => false
theorem isInt0_eq {k : IntKind} (v : Value) (h : isInt0 k v = true) : v = .int k 0 := by
 unfold isInt0 at h
 split at h
 ·simp at h; rw [h.1, h.2]
 ·cases h
def isSl0 (v : Value) : Bool := match v with | .slice none n c => Nat.beq n 0 && Nat.beq c 0 | _ => false
theorem isSl0_eq (v : Value) (h : isSl0 v = true) : v = .slice none 0 0 := by
 unfold isSl0 at h
 split at h
 ·simp at h; rw [h.1, h.2]
 ·cases h
theorem slA_zero (a : Option Addr) (c : Nat) : slA a c 0 1 = a := by
 unfold slA
 split
 ·rfl
 ·cases a <;> simp [add_zero']
theorem intsOne (k : IntKind) (l : List Int) : ∀ u ∈ l.map (Value.int k), u.oneCell' = true := by
 intro u hu
 obtain ⟨x, _, rfl⟩ := List.mem_map.1 hu
 rfl
theorem Owns.cap {H : Heap} {base : Nat} {e : TypeId} {size : Nat} {s : Sl} {xs : List Value} (h : Owns H base e size s xs) : s.n ≤ s.c := by
 rcases h.2 with ⟨e1, e2⟩ | ⟨g, cap, cur, e1, hb, hg, h4, h5, h6, h7⟩
 ·omega
 ·cases s; simp only [Sl.v, Value.slice.injEq] at e1; simp only at h4 ⊢; omega
def RowV (H : Heap) (p : Addr) (cs : Array Value) : Prop := p.spot = none ∧ p.off = 0 ∧ ∃ t, H[p.block]? = some (.cells cs t (0, 0))
theorem RowV.cell {H : Heap} {p : Addr} {cs : Array Value} (h : RowV H p cs) {i : Nat} (hi : i < cs.size) : hCell H (p.add i) = some cs[i] := by
 obtain ⟨b, o, sp⟩ := p
 obtain ⟨h1, h2, t, h3⟩ := h
 simp only at h1 h2 h3
 subst h1; subst h2
 rw [add_lit, Nat.zero_add]
 exact hCell_of h3 (Array.getElem?_eq_getElem hi)
theorem RowV.lt {H : Heap} {p : Addr} {cs : Array Value} (h : RowV H p cs) : p.block < H.size := by
 obtain ⟨_, _, t, h3⟩ := h
 rcases Nat.lt_or_ge p.block H.size with h1 | h1
 ·exact h1
 ·rw [Array.getElem?_eq_none h1] at h3; cases h3
theorem RowV.mod {F : Nat → Prop} {H H' : Heap} {p : Addr} {cs : Array Value} (h : RowV H p cs) (hm : Mod F H H') (hn : ¬ F p.block) : RowV H' p cs := by
 have hl := h.lt
 obtain ⟨h1, h2, t, h3⟩ := h
 exact ⟨h1, h2, t, (hm.same _ hl hn).trans h3⟩
theorem RowV.ldA {H : Heap} {p : Addr} {cs : Array Value} (h : RowV H p cs) {n : Nat} (hn : cs.size = n) {K : Array Value → Prop} (hK : K cs) : ldA cArr n H p K :=
 ⟨cs, ⟨cs, rfl, hn, fun i hi => by rw [h.cell (by omega), Array.getElem?_eq_getElem (by omega)]⟩, hK⟩
theorem RowV.st {H : Heap} {p : Addr} {cs : Array Value} {v : Value} {K : Heap → Prop} (h : RowV H p cs) {i : Nat} (hi : i < cs.size) (hp : plainV v = true)
  (hK : ∀ H', RowV H' p (cs.setIfInBounds i v) → Mod (fun b => b = p.block) H H' → H'.size = H.size → K H') : st H (p.add i) v K := by
 have hc := h.cell hi
 obtain ⟨b, o, sp⟩ := p
 obtain ⟨h1, h2, t, h3⟩ := h
 simp only at h1 h2 h3
 subst h1; subst h2
 refine ⟨hp, ⟨_, hc⟩, ?_, hK _ ⟨rfl, rfl, t, ?_⟩ (Mod.set (add_block _ _)) (hSet_size _ _ _)⟩
 ·rw [add_lit]; exact hFrozen_of h3
 ·rw [add_lit, Nat.zero_add]; exact hSet_at (a := ⟨b, i, none⟩) h3 rfl
theorem newC_row {H : Heap} {cs : Array Value} {t : TypeId} {K : Addr → Heap → Prop} (hK : ∀ p H', p.block = H.size → H'.size = H.size + 1 → RowV H' p cs → Ext H H' → K p H') : newC H cs t K :=
 hK _ _ rfl (by simp) ⟨rfl, rfl, t, by simp⟩ (Mod.push _ _ _)
def sizeB (P : Program) (ty : TypeId) (n : Nat) : Bool := match P.info? ty with | some i => Nat.beq i.size n | none => false
theorem RowV.stAll {P : Program} {ty : TypeId} {H : Heap} {p : Addr} {old cs : Array Value} {K : Heap → Prop} (h : RowV H p old) (hi : sizeB P ty cs.size = true) (ho : old.size = cs.size) (h1 : cs.all (·.oneCell') = true)
  (hK : ∀ H', RowV H' p cs → Mod (fun b => b = p.block) H H' → H'.size = H.size → K H') : doU P (Instr.storeAt ty (.pointer (some p)) (.agg cs)) H K := by
 intro w hw
 subst hw
 obtain ⟨b, o, sp⟩ := p
 obtain ⟨q1, q2, t, h3⟩ := h
 simp only at q1 q2 h3
 subst q1; subst q2
 have hi' : (P.info? ty).map (·.size) = some cs.size := by
  unfold sizeB at hi
  split at hi
  ·rename_i i he; rw [he]; simp [Nat.eq_of_beq_eq_true hi]
  ·cases hi
 have hr := run_storeVar_row (P := P) w b t ty old cs h3 hi' ho h1
 refine ⟨(), w.setRow b cs, ?_, hK _ ⟨rfl, rfl, t, setRow_heap w b old cs t _ h3⟩ ⟨by simp, fun k _ hk => setRow_other w b k cs hk⟩ (by simp), (.of_le rfl (Nat.le_refl _))⟩
 simp only [Instr.storeAt, Instr.sureAddr, Sem.run_bind, Sem.run_pure, Result.andThen_ok, hr]
theorem RowV.reads {H : Heap} {p : Addr} {cs : Array Value} (h : RowV H p cs) : Reads H (some p) cs.toList := by
 intro i v hv
 refine ⟨p, rfl, ?_⟩
 have hlt : i < cs.size := by have := (List.getElem?_eq_some_iff.1 hv).1; simpa using this
 rw [h.cell hlt]
 rw [← hv]; simp [hlt]
theorem Owns.obj {H : Heap} {base : Nat} {e : TypeId} {size : Nat} {s : Sl} {xs : List Value} (h : Owns H base e size s xs) : ∀ b, ownB s b → ∃ cur, H[b]? = some (.cells cur e (0, 0)) := by
 rintro b ⟨ad, ha, rfl⟩
 rcases h.2 with ⟨e1, _⟩ | ⟨g, cap, cur, e1, hb, hg, _⟩
 ·cases s; simp only [Sl.v, Value.slice.injEq] at e1 ha; rw [e1.1] at ha; cases ha
 ·cases s
  simp only [Sl.v, Value.slice.injEq] at e1 ha
  rw [e1.1] at ha
  cases ha
  exact ⟨cur, hg⟩
theorem Owns.apart {H : Heap} {base base' : Nat} {e e' : TypeId} {size size' : Nat} {s s' : Sl} {xs xs' : List Value} (h : Owns H base e size s xs) (k : Owns H base' e' size' s' xs') (hne : e ≠ e') : ∀ b, ownB s b → ¬ ownB s' b := by
 intro b h1 h2
 obtain ⟨c1, q1⟩ := h.obj b h1
 obtain ⟨c2, q2⟩ := k.obj b h2
 rw [q1] at q2
 simp at q2
 exact hne q2.2
theorem ints_get {k : IntKind} {H : Heap} {s : Sl} {l : List Int} (h : Ints k H s l) {i : Int} {j : Nat} (e : i = (j : Int)) (h1 : j < l.length) {K : Addr → Int → Prop} (hK : ∀ ad, s.a = some ad → K ad (l.getD j 0)) :
  optK s.a fun a => (0 ≤ i ∧ i < (s.n : Int)) ∧ ld (cInt k) H (a.add (i.toNat * 1)) fun x => K a x := by
 subst e
 exact h.ld (by omega) (by omega) (by simpa using hK)
structure VarT (H : Heap) (p : Addr) (t : TypeId) (v : Value) : Prop where
 spot : p.spot = none
 off : p.off = 0
 obj : H[p.block]? = some (.cells #[v] t (0, 0))
theorem VarT.var {H : Heap} {p : Addr} {t : TypeId} {v : Value} (h : VarT H p t v) : Var H p v := ⟨h.spot, h.off, t, h.obj⟩
theorem VarT.lt {H : Heap} {p : Addr} {t : TypeId} {v : Value} (h : VarT H p t v) : p.block < H.size := h.var.lt
theorem VarT.mod {F : Nat → Prop} {H H' : Heap} {p : Addr} {t : TypeId} {v : Value} (h : VarT H p t v) (hm : Mod F H H') (hn : ¬ F p.block) : VarT H' p t v := ⟨h.spot, h.off, (hm.same _ h.lt hn).trans h.obj⟩
theorem VarT.ext {H H' : Heap} {p : Addr} {t : TypeId} {v : Value} (h : VarT H p t v) (hm : Ext H H') : VarT H' p t v := h.mod hm id
theorem VarT.ld {c : Cod} {H : Heap} {p : Addr} {t : TypeId} {x : c.α} {K : c.α → Prop} (h : VarT H p t (c.enc x)) (hK : K x) : Go.Proofs.YtkehfflpbpdokaaGreat.ld c H p K := h.var.ld hK
theorem VarT.st {H : Heap} {p : Addr} {t : TypeId} {u v : Value} {K : Heap → Prop} (h : VarT H p t u) (hp : plainV v = true) (hK : ∀ H', VarT H' p t v → Mod (fun b => b = p.block) H H' → H'.size = H.size → K H') : Go.Proofs.YtkehfflpbpdokaaGreat.st H p v K := by
 have hc := h.var.cell
 obtain ⟨b, o, sp⟩ := p
 obtain ⟨h1, h2, h3⟩ := h
 simp only at h1 h2 h3
 subst h1; subst h2
 refine ⟨hp, ⟨_, hc⟩, hFrozen_of h3, hK _ ⟨rfl, rfl, ?_⟩ (Mod.set rfl) (hSet_size _ _ _)⟩
 rw [hSet_at (a := ⟨b, 0, none⟩) h3 rfl]
 rfl
theorem newC_varT {H : Heap} {v : Value} {t : TypeId} {K : Addr → Heap → Prop} (hK : ∀ p H', p.block = H.size → H'.size = H.size + 1 → VarT H' p t v → Ext H H' → K p H') : newC H #[v] t K :=
 hK _ _ rfl (by simp) ⟨rfl, rfl, by simp⟩ (Mod.push _ _ _)
theorem Mod.setObj {F : Nat → Prop} {H : Heap} {l : Nat} {o : Obj} (h : F l) : Mod F H (H.setIfInBounds l o) :=
 ⟨by simp, fun b _ hn => Array.getElem?_setIfInBounds_ne (by intro e; subst e; exact hn h)⟩
theorem setObj_at {H : Heap} {l : Nat} {o o' : Obj} (h : H[l]? = some o) : (H.setIfInBounds l o')[l]? = some o' := by
 have := (Array.getElem?_eq_some_iff.1 h).1
 simp [this]
theorem cells_ty {H : Heap} {b : Nat} {c c' : Array Value} {t t' : TypeId} {f f' : Nat × Nat} (h : H[b]? = some (.cells c t f)) (h' : H[b]? = some (.cells c' t' f')) : t = t' := by
 rw [h] at h'; simp at h'; exact h'.2.1
end Go.Proofs.YtkehfflpbpdokaaGreat
