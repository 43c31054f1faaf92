/-
  PoolPins in plain words: all frames held, one given back, one more.
-/
import Derived.Test.YtbhddkmfhampbaaDoorPtl
import Derived.Test.YtbhddkmfhampbaaDoorPkf
namespace Go.Proofs.YtbhddkmfhampbaaDoor

theorem Told.congr {p : Pl} {n : ByteArray} {N q : Nat} {T T' : Nat → UInt8 × List UInt8} {pg : List Pg} (h : Told p n N q T pg) (e : ∀ k, k < N → T k = T' k) : Told p n N q T' pg :=
  ⟨h.wrong, h.disk, h.len, fun f hf => by obtain ⟨h1, h2, h3⟩ := h.mine f hf; exact ⟨h1, h2, by rw [← e _ h2]; exact h3⟩, fun k b hk hc => by
    have hl := (List.getElem?_eq_some_iff.1 hk).1
    rw [← e k (by rw [← h.len]; exact hl)]; exact h.rest k b hk hc⟩
theorem Told.erase_ne {p : Pl} {n : ByteArray} {N q : Nat} {T : Nat → UInt8 × List UInt8} {pg : List Pg} (h : Told p n N q T pg) (hw : p.WF) {i : Nat} {f g : Fr} (hf : p.fs[i]? = some f) (hg : g ∈ p.fs.eraseIdx i) : g ∈ p.fs ∧ g.page ≠ f.page := by
  obtain ⟨j, hji, hj⟩ := mem_erase.1 hg
  exact ⟨List.mem_of_getElem? hj, fun e => hji (h.inj hw hj hf e)⟩
theorem Told.modify_ne {p : Pl} {n : ByteArray} {N q : Nat} {T : Nat → UInt8 × List UInt8} {pg : List Pg} (h : Told p n N q T pg) (hw : p.WF) {i : Nat} {f g : Fr} {u : Fr → Fr} (hf : p.fs[i]? = some f) (hg : g ∈ p.fs.modify i u) : (g ∈ p.fs ∧ g.page ≠ f.page) ∨ g = u f := by
  rw [modify_set hf] at hg
  rcases mem_set' hg with ⟨j, hji, hj⟩ | r
  · exact .inl ⟨List.mem_of_getElem? hj, fun e => hji (h.inj hw hj hf e)⟩
  · exact .inr r
theorem modify_has {l : List Fr} {i : Nat} {f : Fr} {u : Fr → Fr} (hf : l[i]? = some f) (hu : (u f).page = f.page) {k : Nat} (h : ∃ g ∈ l, g.page = k) : ∃ g ∈ l.modify i u, g.page = k := by
  obtain ⟨g, hg, e⟩ := h
  obtain ⟨j, hj⟩ := List.mem_iff_getElem?.1 hg
  by_cases hij : i = j
  · subst hij
    rw [hf] at hj; cases hj
    exact ⟨u f, List.mem_of_getElem? (modify_same hf), hu.trans e⟩
  · exact ⟨g, List.mem_of_getElem? (by rw [modify_other hij]; exact hj), e⟩

/-- What the pages tell when 'm' frames were put to. -/
def pinT (m j : Nat) : UInt8 × List UInt8 := if j = m then (0, []) else (UInt8.ofNat j, [UInt8.ofNat j])
/-- Frames that are held. -/
structure HeldP (p : Pl) (n : ByteArray) (m N : Nat) (nx : Int) (L : Nat) (v : Nat → List Int → Prop) (gone : Nat → Prop) : Prop where
  told : ∃ pg, Told p n N 100 (pinT m) pg
  next : p.next = nx
  size : p.fs.length = L
  most : p.most = m
  pins : ∀ g ∈ p.fs, v g.page g.pins
  all : ∀ j, j < N → ¬ gone j → ∃ g ∈ p.fs, g.page = j

def v0 (j : Nat) (l : List Int) : Prop := l = [(j : Int) + 1]
def vA (j : Nat) (l : List Int) : Prop := (j = 2 ∧ l = []) ∨ (j ≠ 2 ∧ l = [(j : Int) + 1])
def vB (j : Nat) (l : List Int) : Prop := j ≠ 2 ∧ l = [(j : Int) + 1]
def vC (m j : Nat) (l : List Int) : Prop := j ≠ 2 ∧ ((j = m ∧ l = []) ∨ (j ≠ m ∧ l = [(j : Int) + 1]))
def vD (m j : Nat) (l : List Int) : Prop := j ≠ m ∧ ((j = 2 ∧ l = [(m : Int) + 2]) ∨ (j ≠ 2 ∧ l = [(j : Int) + 1]))

theorem HeldP.step {p : Pl} {n : ByteArray} {m i : Nat} (h : HeldP p n m i ((i : Int) + 1) i v0 (fun _ => False)) (hw : p.WF) (hi : i < m) (hm : m ≤ 27) :
    (p.fresh n).2 = ((i : Int) + 1, (i : Int), 0) ∧ ((p.fresh n).1.WF → ((p.fresh n).1.set ((i : Int) + 1) (UInt8.ofNat i) [UInt8.ofNat i]).2 = 0 ∧ HeldP ((p.fresh n).1.set ((i : Int) + 1) (UInt8.ofNat i) [UInt8.ofNat i]).1 n m (i + 1) (((i + 1 : Nat) : Int) + 1) (i + 1) v0 (fun _ => False)) := by
  obtain ⟨pg, ht⟩ := h.told
  have hfree : p.fs.length < p.most := by rw [h.size, h.most]; exact hi
  obtain ⟨r1, r2, r3, r4, r5, _, pg', r6⟩ := ht.fresh hw (.inl hfree) (by omega)
  rw [Pl.room_free hfree, h.next] at r2
  rw [h.next] at r1 r3
  refine ⟨r1, fun hw1 => ?_⟩
  have hlast : (p.fresh n).1.fs[p.fs.length]? = some ⟨n, i, 0, [], false, [(i : Int) + 1], 0⟩ := by rw [r2]; simp
  obtain ⟨s1, s2⟩ := r6.set hw1 (x := (i : Int) + 1) (k := UInt8.ofNat i) (b := [UInt8.ofNat i]) hlast (by simp) (by simp)
  rw [s1]
  refine ⟨rfl, ⟨pg', s2.congr fun k hk => ?_⟩, ?_, ?_, ?_, ?_, ?_⟩
  · by_cases e : k = i
    · subst e; rw [setT_same]; unfold pinT; rw [if_neg (by omega)]
    · rw [setT_other e, setT_other e]
  · show (p.fresh n).1.next = _
    rw [r3]
    have : w64 ((i : Int) + 1 + 1) = (i : Int) + 1 + 1 := by unfold w64; exact wrap64 (by omega) (by omega)
    rw [this]; omega
  · show ((p.fresh n).1.fs.modify _ _).length = _
    rw [List.length_modify, r2]; simp [h.size]
  · show (p.fresh n).1.most = m
    rw [r4, h.most]
  · intro g hg
    have hg : g ∈ (p.fresh n).1.fs.modify p.fs.length (Fr.set (UInt8.ofNat i) [UInt8.ofNat i]) := hg
    rw [r2, modify_last] at hg
    rcases List.mem_append.1 hg with q | q
    · exact h.pins g q
    · simp at q; subst q; rfl
  · intro j hj _
    show ∃ g ∈ (p.fresh n).1.fs.modify p.fs.length (Fr.set (UInt8.ofNat i) [UInt8.ofNat i]), g.page = j
    rw [r2, modify_last]
    by_cases e : j = i
    · subst e; exact ⟨_, List.mem_append_right _ List.mem_cons_self, rfl⟩
    · obtain ⟨g, hg, e2⟩ := h.all j (by omega) id
      exact ⟨g, List.mem_append_left _ hg, e2⟩
theorem HeldP.full {p : Pl} {n : ByteArray} {m N : Nat} {nx : Int} {v : Nat → List Int → Prop} {gone : Nat → Prop} (h : HeldP p n m N nx m v gone) (hv : ∀ j l, v j l → l ≠ []) : (¬ p.fs.length < p.most) ∧ (∀ f ∈ p.fs, f.pins ≠ []) :=
  ⟨by rw [h.size, h.most]; omega, fun f hf => hv _ _ (h.pins f hf)⟩
theorem v0_ne : ∀ j l, v0 j l → l ≠ [] := fun j l h e => by rw [h] at e; cases e
theorem vB_ne : ∀ j l, vB j l → l ≠ [] := fun j l h e => by rw [h.2] at e; cases e
theorem HeldP.at {p : Pl} {n : ByteArray} {m N : Nat} {nx : Int} {L : Nat} {v : Nat → List Int → Prop} {gone : Nat → Prop} (h : HeldP p n m N nx L v gone) {j : Nat} (hj : j < N) (hg : ¬ gone j) : ∃ (i : Nat) (f : Fr), p.fs[i]? = some f ∧ f.page = j ∧ v j f.pins := by
  obtain ⟨g, hg, e⟩ := h.all j hj hg
  obtain ⟨i, hi⟩ := List.mem_iff_getElem?.1 hg
  exact ⟨i, g, hi, e, e ▸ h.pins g hg⟩
theorem HeldP.unpin3 {p : Pl} {n : ByteArray} {m : Nat} (h : HeldP p n m m ((m : Int) + 1) m v0 (fun _ => False)) (hw : p.WF) (hm : 8 ≤ m) : (p.unpin 3).2 = 0 ∧ HeldP (p.unpin 3).1 n m m ((m : Int) + 1) m vA (fun _ => False) := by
  obtain ⟨pg, ht⟩ := h.told
  obtain ⟨i, f, hf, e, hp⟩ := h.at (j := 2) (by omega) id
  have hp : f.pins = [3] := hp
  obtain ⟨u1, u2⟩ := ht.unpin hw (x := 3) hf (by rw [hp]; simp)
  rw [u1] at u2 ⊢
  refine ⟨rfl, ⟨pg, u2⟩, h.next, by show (p.fs.modify i _).length = m; rw [List.length_modify]; exact h.size, h.most, fun g hg => ?_, fun j hj _ => ?_⟩
  · rcases ht.modify_ne hw hf hg with ⟨q1, q2⟩ | q
    · exact .inr ⟨by omega, h.pins g q1⟩
    · subst q; exact .inl ⟨e, by show List.filter _ f.pins = []; rw [hp]; simp⟩
  · exact modify_has hf rfl (h.all j hj id)
theorem HeldP.freshA {p : Pl} {n : ByteArray} {m : Nat} (h : HeldP p n m m ((m : Int) + 1) m vA (fun _ => False)) (hw : p.WF) (hm : 8 ≤ m) (hm2 : m ≤ 27) :
    (p.fresh n).2 = ((m : Int) + 1, (m : Int), 0) ∧ HeldP (p.fresh n).1 n m (m + 1) ((m : Int) + 2) m vB (fun j => j = 2) := by
  obtain ⟨pg, ht⟩ := h.told
  obtain ⟨i2, f2, hf2, e2, hp2⟩ := h.at (j := 2) (by omega) id
  have hp2' : f2.pins = [] := by
    rcases hp2 with ⟨_, q⟩ | ⟨q, _⟩
    · exact q
    · exact absurd rfl q
  have hfull : ¬ p.fs.length < p.most := by rw [h.size, h.most]; omega
  have hex : ∃ g ∈ p.fs, g.pins = [] := ⟨f2, List.mem_of_getElem? hf2, hp2'⟩
  obtain ⟨i, f, pg1, a1, a2, a3, a4, a5⟩ := ht.make hw hfull (List.mem_of_getElem? hf2) hp2'
  obtain ⟨r1, r2, r3, r4, r5, _, pg', r6⟩ := ht.fresh hw (.inr hex) (by omega)
  have hfp : f.page = 2 := by
    rcases h.pins f (List.mem_of_getElem? a1) with ⟨q, _⟩ | ⟨_, q⟩
    · exact q
    · rw [a2] at q; cases q
  rw [h.next] at r1 r2 r3
  rw [a4] at r2
  have hil := (List.getElem?_eq_some_iff.1 a1).1
  refine ⟨r1, ⟨pg', r6.congr fun k hk => ?_⟩, ?_, ?_, by rw [r4, h.most], ?_, ?_⟩
  · by_cases e : k = m
    · subst e; rw [setT_same]; unfold pinT; rw [if_pos rfl]
    · rw [setT_other e]
  · rw [r3]
    have : w64 ((m : Int) + 1 + 1) = (m : Int) + 1 + 1 := by unfold w64; exact wrap64 (by omega) (by omega)
    rw [this]; omega
  · rw [r2]
    simp only [List.length_append, List.length_singleton, List.length_eraseIdx_of_lt hil, h.size]
    omega
  · intro g hg
    rw [r2] at hg
    rcases List.mem_append.1 hg with q | q
    · obtain ⟨q1, q2⟩ := ht.erase_ne hw a1 q
      rcases h.pins g q1 with ⟨q3, _⟩ | q3
      · omega
      · exact q3
    · simp at q; subst q; exact ⟨by simp only; omega, rfl⟩
  · intro j hj hj2
    rw [r2]
    by_cases e : j = m
    · subst e; exact ⟨_, List.mem_append_right _ List.mem_cons_self, rfl⟩
    · obtain ⟨g, hg, e2⟩ := h.all j (by omega) id
      obtain ⟨k, hk⟩ := List.mem_iff_getElem?.1 hg
      refine ⟨g, List.mem_append_left _ (mem_erase.2 ⟨k, ?_, hk⟩), e2⟩
      rintro rfl
      rw [a1] at hk; cases hk; omega
theorem HeldP.pinB {p : Pl} {n : ByteArray} {m : Nat} (h : HeldP p n m (m + 1) ((m : Int) + 2) m vB (fun j => j = 2)) (hm : 8 ≤ m) : p.pin n 2 = (p, 0, 31) := by
  obtain ⟨pg, ht⟩ := h.told
  obtain ⟨q1, q2⟩ := h.full vB_ne
  exact ht.pin_full (k := 2) (Pl.find_none_of fun f hf _ e => by have := (h.pins f hf).1; omega) (by omega) q1 q2
theorem HeldP.unpinB {p : Pl} {n : ByteArray} {m : Nat} (h : HeldP p n m (m + 1) ((m : Int) + 2) m vB (fun j => j = 2)) (hw : p.WF) (hm : 8 ≤ m) : (p.unpin ((m : Int) + 1)).2 = 0 ∧ HeldP (p.unpin ((m : Int) + 1)).1 n m (m + 1) ((m : Int) + 2) m (vC m) (fun j => j = 2) := by
  obtain ⟨pg, ht⟩ := h.told
  obtain ⟨i, f, hf, e, hp⟩ := h.at (j := m) (by omega) (by omega)
  obtain ⟨u1, u2⟩ := ht.unpin hw (x := (m : Int) + 1) hf (by rw [hp.2]; simp)
  rw [u1] at u2 ⊢
  refine ⟨rfl, ⟨pg, u2⟩, h.next, by show (p.fs.modify i _).length = m; rw [List.length_modify]; exact h.size, h.most, fun g hg => ?_, fun j hj hj2 => ?_⟩
  · rcases ht.modify_ne hw hf hg with ⟨q1, q2⟩ | q
    · have := h.pins g q1
      exact ⟨this.1, .inr ⟨by omega, this.2⟩⟩
    · subst q; exact ⟨by show f.page ≠ 2; omega, .inl ⟨e, by show List.filter _ f.pins = []; rw [hp.2]; simp⟩⟩
  · exact modify_has hf rfl (h.all j hj hj2)
theorem HeldP.pinC {p : Pl} {n : ByteArray} {m : Nat} (h : HeldP p n m (m + 1) ((m : Int) + 2) m (vC m) (fun j => j = 2)) (hw : p.WF) (hm : 8 ≤ m) (hm2 : m ≤ 27) :
    (p.pin n 2).2 = ((m : Int) + 2, 0) ∧ HeldP (p.pin n 2).1 n m (m + 1) ((m : Int) + 3) m (vD m) (fun j => j = m) := by
  obtain ⟨pg, ht⟩ := h.told
  obtain ⟨im, fm, hfm, em, hpm⟩ := h.at (j := m) (by omega) (by omega)
  have hpm' : fm.pins = [] := by
    rcases hpm.2 with ⟨_, q⟩ | ⟨q, _⟩
    · exact q
    · exact absurd rfl q
  have hfull : ¬ p.fs.length < p.most := by rw [h.size, h.most]; omega
  have hex : ∃ g ∈ p.fs, g.pins = [] := ⟨fm, List.mem_of_getElem? hfm, hpm'⟩
  obtain ⟨i, f, pg1, a1, a2, a3, a4, a5⟩ := ht.make hw hfull (List.mem_of_getElem? hfm) hpm'
  have hfind : p.find n (2 : Nat) = none := Pl.find_none_of fun f hf _ e => by have := (h.pins f hf).1; omega
  obtain ⟨r1, r2, r3, r4, pg', r6⟩ := ht.pin_out hw (k := 2) hfind (by omega) (.inr hex)
  have hfp : f.page = m := by
    rcases (h.pins f (List.mem_of_getElem? a1)).2 with ⟨q, _⟩ | ⟨_, q⟩
    · exact q
    · rw [a2] at q; cases q
  rw [h.next] at r1 r2 r3
  rw [a4] at r2
  have hil := (List.getElem?_eq_some_iff.1 a1).1
  refine ⟨r1, ⟨pg', r6⟩, ?_, ?_, by rw [← h.most]; exact r4, ?_, ?_⟩
  · refine r3.trans ?_
    have : w64 ((m : Int) + 2 + 1) = (m : Int) + 2 + 1 := by unfold w64; exact wrap64 (by omega) (by omega)
    rw [this]; omega
  · refine (congrArg List.length r2).trans ?_
    simp only [List.length_append, List.length_singleton, List.length_eraseIdx_of_lt hil, h.size]
    omega
  · intro g hg
    have hg := r2 ▸ hg
    rcases List.mem_append.1 hg with q | q
    · obtain ⟨q1, q2⟩ := ht.erase_ne hw a1 q
      have hv := h.pins g q1
      rcases hv.2 with ⟨q3, _⟩ | q3
      · omega
      · exact ⟨by omega, .inr ⟨hv.1, q3.2⟩⟩
    · simp at q; subst q; exact ⟨by simp only; omega, .inl ⟨rfl, rfl⟩⟩
  · intro j hj hjm
    suffices hs : ∃ g ∈ p.fs.eraseIdx i ++ [(⟨n, 2, (pinT m 2).1, (pinT m 2).2, false, [(m : Int) + 2], 0⟩ : Fr)], g.page = j by
      obtain ⟨g, h1, h2⟩ := hs
      exact ⟨g, r2 ▸ h1, h2⟩
    by_cases e : j = 2
    · subst e; exact ⟨_, List.mem_append_right _ List.mem_cons_self, rfl⟩
    · obtain ⟨g, hg, e2⟩ := h.all j hj e
      obtain ⟨k, hk⟩ := List.mem_iff_getElem?.1 hg
      refine ⟨g, List.mem_append_left _ (mem_erase.2 ⟨k, ?_, hk⟩), e2⟩
      rintro rfl
      rw [a1] at hk; cases hk; omega
theorem HeldP.getD {p : Pl} {n : ByteArray} {m : Nat} (h : HeldP p n m (m + 1) ((m : Int) + 3) m (vD m) (fun j => j = m)) (hw : p.WF) (hm : 8 ≤ m) (hm2 : m ≤ 27) :
    p.get ((m : Int) + 2) = (2, [2], 0) ∧ (∀ j : Nat, j < m → j ≠ 2 → p.get ((j : Int) + 1) = (UInt8.ofNat j, [UInt8.ofNat j], 0)) ∧ p.dropF n = (p, 31) := by
  obtain ⟨pg, ht⟩ := h.told
  refine ⟨?_, fun j hj hj2 => ?_, ?_⟩
  · obtain ⟨i, f, hf, e, hp⟩ := h.at (j := 2) (by omega) (by omega)
    have hp' : f.pins = [(m : Int) + 2] := by
      rcases hp.2 with ⟨_, q⟩ | ⟨q, _⟩
      · exact q
      · exact absurd rfl q
    rw [ht.get hw (List.mem_of_getElem? hf) (x := (m : Int) + 2) (by rw [hp']; simp), e]
    unfold pinT; rw [if_neg (by omega)]; rfl
  · obtain ⟨i, f, hf, e, hp⟩ := h.at (j := j) (by omega) (by omega)
    have hp' : f.pins = [(j : Int) + 1] := by
      rcases hp.2 with ⟨q, _⟩ | ⟨_, q⟩
      · exact absurd q hj2
      · exact q
    rw [ht.get hw (List.mem_of_getElem? hf) (x := (j : Int) + 1) (by rw [hp']; simp), e]
    unfold pinT; rw [if_neg (by omega)]
  · obtain ⟨i, f, hf, e, hp⟩ := h.at (j := 2) (by omega) (by omega)
    have hp' : f.pins = [(m : Int) + 2] := by
      rcases hp.2 with ⟨_, q⟩ | ⟨q, _⟩
      · exact q
      · exact absurd rfl q
    unfold Pl.dropF
    rw [if_neg (by rw [ht.wrong]; simp), ht.disk.len]
    simp only
    rw [if_neg (by simp), if_pos]
    refine List.any_eq_true.2 ⟨f, List.mem_of_getElem? hf, ?_⟩
    rw [(ht.mine f (List.mem_of_getElem? hf)).1, hp']; simp

end Go.Proofs.YtbhddkmfhampbaaDoor
