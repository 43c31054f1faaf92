/-
  Ground, eleventh text: rows with their type, slices of elements of several cells, stores of aggregates; what stays is told by single blocks.
-/
import Derived.Test.YtfepjeihdcpoaaaGreatFxj
import Derived.Test.YtfepjeihdcpoaaaGreatFxi
namespace Go.Proofs.YtfepjeihdcpoaaaGreat

theorem obj_lt {H : Heap} {b : Nat} {o : Obj} (h : H[b]? = some o) : b < H.size := (Array.getElem?_eq_some_iff.1 h).1
theorem Mod.at {F : Nat → Prop} {H H' : Heap} (hm : Mod F H H') {b : Nat} {o : Obj} (h : H[b]? = some o) (hn : ¬ F b) : H'[b]? = some o := (hm.same b (obj_lt h) hn).trans h

theorem add_lit0 (b n : Nat) : (⟨b, 0, none⟩ : Addr).add n = ⟨b, n, none⟩ := by rw [add_lit, Nat.zero_add]

/-! ### Rows with their type -/

/-- Block 'b' holds the cells 'cs' of type 't', and may be written. -/
abbrev RowT (H : Heap) (b : Nat) (t : TypeId) (cs : Array Value) : Prop := H[b]? = some (.cells cs t (0, 0))

theorem RowT.mod {F : Nat → Prop} {H H' : Heap} {b : Nat} {t : TypeId} {cs : Array Value} (h : RowT H b t cs) (hm : Mod F H H') (hn : ¬ F b) : RowT H' b t cs := hm.at h hn
theorem RowT.ext {H H' : Heap} {b : Nat} {t : TypeId} {cs : Array Value} (h : RowT H b t cs) (hm : Mod (fun _ => False) H H') : RowT H' b t cs := hm.at h id
theorem RowT.cell {H : Heap} {b : Nat} {t : TypeId} {cs : Array Value} (h : RowT H b t cs) {i : Nat} {v : Value} (hi : cs[i]? = some v) : hCell H ⟨b, i, none⟩ = some v := hCell_of h hi
theorem RowT.ld {c : Cod} {H : Heap} {b : Nat} {t : TypeId} {cs : Array Value} (h : RowT H b t cs) {i : Nat} {x : c.α} (hi : cs[i]? = some (c.enc x)) {K : c.α → Prop} (hK : K x) : Go.Proofs.YtfepjeihdcpoaaaGreat.ld c H (Addr.add ⟨b, 0, none⟩ i) K :=
  ⟨x, by rw [add_lit0]; exact h.cell hi, hK⟩
theorem RowT.ldC {c : Cod} {G : Heap → Prop} {b : Nat} {t : TypeId} {cs : Heap → Array Value} (h : ∀ H, G H → RowT H b t (cs H)) {i : Nat} {x : c.α} (hi : ∀ H, G H → (cs H)[i]? = some (c.enc x)) {K : c.α → Prop} (hK : K x) : Go.Proofs.YtfepjeihdcpoaaaGreat.ldC c G (Addr.add ⟨b, 0, none⟩ i) K :=
  ⟨x, fun H' hg => by rw [add_lit0]; exact (h H' hg).cell (hi H' hg), hK⟩
theorem RowT.hRow {H : Heap} {b : Nat} {t : TypeId} {cs : Array Value} (h : RowT H b t cs) {o n : Nat} {ds : Array Value} (hn : ds.size = n) (hd : ∀ i, i < n → cs[o + i]? = ds[i]?) : Go.Proofs.YtfepjeihdcpoaaaGreat.hRow H ⟨b, o, none⟩ n (.agg ds) := by
  refine ⟨ds, rfl, hn, fun i hi => ?_⟩
  have h1 := hd i hi
  rw [add_lit]
  rw [← h1]
  have : ds[i]? = some ds[i] := Array.getElem?_eq_getElem (by omega)
  rw [h1, this]
  exact h.cell (h1.trans this)
theorem RowT.ldA {c : Cod} {H : Heap} {b : Nat} {t : TypeId} {cs : Array Value} (h : RowT H b t cs) {n : Nat} {x : c.α} (hx : c.enc x = .agg cs) (hn : cs.size = n) {K : c.α → Prop} (hK : K x) : Go.Proofs.YtfepjeihdcpoaaaGreat.ldA c n H ⟨b, 0, none⟩ K :=
  ⟨x, by rw [hx]; exact h.hRow hn (fun i _ => by rw [Nat.zero_add]), hK⟩
theorem RowT.st {H : Heap} {b : Nat} {t : TypeId} {cs : Array Value} {v : Value} {K : Heap → Prop} (h : RowT H b t cs) {i : Nat} (hi : i < cs.size) (hp : plainV v = true)
    (hK : ∀ H', RowT H' b t (cs.setIfInBounds i v) → Mod (fun x => x = b) H H' → H'.size = H.size → K H') : Go.Proofs.YtfepjeihdcpoaaaGreat.st H (Addr.add ⟨b, 0, none⟩ i) v K := by
  rw [add_lit0]
  exact ⟨hp, ⟨_, h.cell (Array.getElem?_eq_getElem hi)⟩, hFrozen_of h, hK _ (hSet_at (a := ⟨b, i, none⟩) h rfl) (Mod.set rfl) (hSet_size _ _ _)⟩
theorem newC_rowT {H : Heap} {cs : Array Value} {t : TypeId} {K : Addr → Heap → Prop} (hK : ∀ H', H'.size = H.size + 1 → RowT H' H.size t cs → Mod (fun _ => False) H H' → K ⟨H.size, 0, none⟩ H') : newC H cs t K :=
  hK _ (by simp) (by simp [RowT]) (Mod.push _ _ _)

theorem sizeB_info {P : Program} {ty : TypeId} {n : Nat} (hi : sizeB P ty n = true) : ∃ i, P.info? ty = some i ∧ i.size = n := by
  unfold sizeB at hi
  split at hi
  · rename_i i he; exact ⟨i, he, Nat.eq_of_beq_eq_true hi⟩
  · cases hi

/-- An aggregate is stored among the cells of a block. -/
theorem doU_storeAt {P : Program} {ty : TypeId} {H : Heap} {b o : Nat} {t : TypeId} {cur cs : Array Value} {K : Heap → Prop} (h : RowT H b t cur) (hi : sizeB P ty cs.size = true) (hfit : o + cs.size ≤ cur.size) (h1 : ∀ v ∈ cs.toList, v.oneCell' = true)
    (hK : ∀ H', RowT H' b t (cur.toList.take o ++ cs.toList ++ cur.toList.drop (o + cs.size)).toArray → Mod (fun x => x = b) H H' → H'.size = H.size → K H') : doU P (Instr.storeAt ty (.pointer (some ⟨b, o, none⟩)) (.agg cs)) H K := by
  intro w hw
  subst hw
  obtain ⟨i, he, hs⟩ := sizeB_info hi
  have hr := run_storeCells_at (P := P) b o t cs.toList 0 cur w h (by simpa using hfit) h1
  have hq : (Instr.storeAt ty (.pointer (some ⟨b, o, none⟩)) (.agg cs)).run P w = .ok () (w.setRow b (cur.toList.take o ++ cs.toList ++ cur.toList.drop (o + cs.size)).toArray) := by
    have hsz : (sizeOf ty).run P w = .ok cs.size w := by simp [sizeOf, typeInfo, he, hs]
    simp only [Instr.storeAt, Instr.sureAddr, Sem.run_bind, Sem.run_pure, Result.andThen_ok, storeVar, hsz, Value.cells]
    simpa using hr
  exact ⟨(), _, hq, hK _ (setRow_heap w b cur _ t _ h) ⟨by simp, fun k _ hk => setRow_other w b k _ hk⟩ (by simp), (.of_le rfl (Nat.le_refl _))⟩
/-- A whole variable is stored. -/
theorem RowT.stAll {P : Program} {ty : TypeId} {H : Heap} {b : Nat} {t : TypeId} {cur cs : Array Value} {K : Heap → Prop} (h : RowT H b t cur) (hi : sizeB P ty cs.size = true) (ho : cur.size = cs.size) (h1 : ∀ v ∈ cs.toList, v.oneCell' = true)
    (hK : ∀ H', RowT H' b t cs → Mod (fun x => x = b) H H' → H'.size = H.size → K H') : doU P (Instr.storeAt ty (.pointer (some ⟨b, 0, none⟩)) (.agg cs)) H K :=
  doU_storeAt h hi (by omega) h1 fun H' h2 => hK H' (by
    have e : (cur.toList.take 0 ++ cs.toList ++ cur.toList.drop (0 + cs.size)).toArray = cs := by
      rw [List.drop_of_length_le (by simp; omega)]; simp
    rw [e] at h2; exact h2)

theorem optK_eq {α : Type} (a : α) (K : α → Prop) : optK (some a) K = K a := rfl
theorem br_t {b : Bool} {A B : Prop} (h : b = true) (k : A) : br b A B := by subst h; exact k
theorem br_f {b : Bool} {A B : Prop} (h : b = false) (k : B) : br b A B := by subst h; exact k
theorem newM_map {d : TypeDesc} {H : Heap} {K : Nat → Heap → Prop} (hK : ∀ H', H'.size = H.size + 1 → MapAt d H' H.size #[] 0 → Mod (fun _ => False) H H' → K H.size H') : newM H K :=
  hK _ (by simp) (MapAt.new d H) (Mod.push _ _ _)

/-! ### What stays -/

/-! ### Slices of elements of several cells -/

/-- How things lie in cells. -/
structure Enc (α : Type) where
  size : Nat
  enc : α → List Value
  len : ∀ x, (enc x).length = size
  one : ∀ x, ∀ u ∈ enc x, u.oneCell' = true

section
variable {α : Type} {E : Enc α} {e : TypeId} {H : Heap} {s : Sl} {l : List α}

variable {P : Program} {t : TypeId} {bytes : Nat}

end
end Go.Proofs.YtfepjeihdcpoaaaGreat
