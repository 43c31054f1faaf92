/-
  PoolTells in plain words: pages are pinned, put to and left, one at a time; a flush; a crash behind it.
-/
import Derived.Test.YtbhddkmfhampbaaDoorPtp
namespace Go.Proofs.YtbhddkmfhampbaaDoor

/-- No frame is held. -/
def Idle (p : Pl) : Prop := ∀ f ∈ p.fs, f.pins = []
/-- One frame is held, by one handle. -/
def One (p : Pl) (k : Nat) (x : Int) : Prop := ∃ (i : Nat) (f : Fr), p.fs[i]? = some f ∧ f.page = k ∧ f.pins = [x] ∧ ∀ g ∈ p.fs, g.page ≠ k → g.pins = []

theorem Idle.room {p : Pl} (h : Idle p) (hw : p.WF) : p.fs.length < p.most ∨ ∃ g ∈ p.fs, g.pins = [] := by
  by_cases hl : p.fs.length < p.most
  · exact .inl hl
  · have h8 := hw.most.1
    obtain ⟨g, hg⟩ := List.exists_mem_of_length_pos (l := p.fs) (by omega)
    exact .inr ⟨g, hg, h g hg⟩
theorem Told.fresh_one {p : Pl} {n : ByteArray} {N q : Nat} {T : Nat → UInt8 × List UInt8} {pg : List Pg} (h : Told p n N q T pg) (hw : p.WF) (hi : Idle p) (hN : N < q) :
    (p.fresh n).2 = (p.next, (N : Int), 0) ∧ One (p.fresh n).1 N p.next ∧ (p.fresh n).1.next = w64 (p.next + 1) ∧ (p.fresh n).1.most = p.most ∧ ∃ pg', Told (p.fresh n).1 n (N + 1) q (setT T N (0, [])) pg' := by
  obtain ⟨_, ⟨pg1, r1⟩, r2, _⟩ := h.roomy hw (hi.room hw)
  obtain ⟨h1, h2, h3, h4, h5, h6, pg', h7⟩ := h.fresh hw (hi.room hw) hN
  refine ⟨h1, ⟨p.room.1.fs.length, ⟨n, N, 0, [], false, [p.next], 0⟩, by rw [h2]; simp, rfl, rfl, fun g hg hne => ?_⟩, h3, h4, pg', h7⟩
  rw [h2] at hg
  rcases List.mem_append.1 hg with q | q
  · exact hi g (r2 g q)
  · simp at q; subst q; exact absurd rfl hne
theorem Told.pin_one {p : Pl} {n : ByteArray} {N q : Nat} {T : Nat → UInt8 × List UInt8} {pg : List Pg} (h : Told p n N q T pg) (hw : p.WF) (hi : Idle p) {k : Nat} (hk : k < N) :
    (p.pin n k).2 = (p.next, 0) ∧ One (p.pin n k).1 k p.next ∧ (p.pin n k).1.next = w64 (p.next + 1) ∧ (p.pin n k).1.most = p.most ∧ ∃ pg', Told (p.pin n k).1 n N q T pg' := by
  cases hf : p.find n k with
  | some i =>
    obtain ⟨f, hfi, hfn, hfk⟩ := Pl.find_some hf
    obtain ⟨h1, h2⟩ := h.pin_in hf hfi
    rw [h1]
    have hat : (p.fs.modify i (Fr.pin p.next))[i]? = some (Fr.pin p.next f) := modify_same hfi
    refine ⟨rfl, ⟨i, Fr.pin p.next f, hat, by show f.page = k; omega, by show f.pins ++ [p.next] = _; rw [hi f (List.mem_of_getElem? hfi)]; rfl, fun g hg hne => ?_⟩, rfl, rfl, pg, h2⟩
    rcases h.modify_ne hw hfi hg with ⟨q1, _⟩ | q
    · exact hi g q1
    · subst q
      have : f.page ≠ k := hne
      omega
  | none =>
    obtain ⟨_, ⟨pg1, r1⟩, r2, _⟩ := h.roomy hw (hi.room hw)
    obtain ⟨h1, h2, h3, h4, pg', h5⟩ := h.pin_out hw hf hk (hi.room hw)
    refine ⟨h1, ⟨p.room.1.fs.length, ⟨n, k, (T k).1, (T k).2, false, [p.next], 0⟩, by rw [h2]; simp, rfl, rfl, fun g hg hne => ?_⟩, h3, h4, pg', h5⟩
    rw [h2] at hg
    rcases List.mem_append.1 hg with q | q
    · exact hi g (r2 g q)
    · simp at q; subst q; exact absurd rfl hne
theorem Told.get_one {p : Pl} {n : ByteArray} {N q : Nat} {T : Nat → UInt8 × List UInt8} {pg : List Pg} (h : Told p n N q T pg) (hw : p.WF) {k : Nat} {x : Int} (ho : One p k x) : p.get x = ((T k).1, (T k).2, 0) := by
  obtain ⟨i, f, h1, h2, h3, _⟩ := ho
  rw [h.get hw (List.mem_of_getElem? h1) (x := x) (by rw [h3]; simp), h2]
theorem Told.set_one {p : Pl} {n : ByteArray} {N q : Nat} {T : Nat → UInt8 × List UInt8} {pg : List Pg} (h : Told p n N q T pg) (hw : p.WF) {k : Nat} {x : Int} (ho : One p k x) {c : UInt8} {b : List UInt8} (hb : b.length ≤ 504) :
    (p.set x c b).2 = 0 ∧ One (p.set x c b).1 k x ∧ (p.set x c b).1.next = p.next ∧ (p.set x c b).1.most = p.most ∧ Told (p.set x c b).1 n N q (setT T k (c, b)) pg := by
  obtain ⟨i, f, h1, h2, h3, h4⟩ := ho
  obtain ⟨u1, u2⟩ := h.set hw h1 (x := x) (by rw [h3]; simp) (k := c) hb
  rw [u1]
  rw [h2] at u2
  refine ⟨rfl, ⟨i, Fr.set c b f, modify_same h1, h2, h3, fun g hg hne => ?_⟩, rfl, rfl, u2⟩
  rcases h.modify_ne hw h1 hg with ⟨q1, _⟩ | q
  · exact h4 g q1 hne
  · subst q; exact absurd h2 hne
theorem Told.unpin_one {p : Pl} {n : ByteArray} {N q : Nat} {T : Nat → UInt8 × List UInt8} {pg : List Pg} (h : Told p n N q T pg) (hw : p.WF) {k : Nat} {x : Int} (ho : One p k x) :
    (p.unpin x).2 = 0 ∧ Idle (p.unpin x).1 ∧ (p.unpin x).1.next = p.next ∧ (p.unpin x).1.most = p.most ∧ Told (p.unpin x).1 n N q T pg := by
  obtain ⟨i, f, h1, h2, h3, h4⟩ := ho
  obtain ⟨u1, u2⟩ := h.unpin hw h1 (x := x) (by rw [h3]; simp)
  rw [u1] at u2 ⊢
  refine ⟨rfl, fun g hg => ?_, rfl, rfl, u2⟩
  rcases h.modify_ne hw h1 hg with ⟨q1, q2⟩ | q
  · exact h4 g q1 (by omega)
  · subst q; show List.filter _ f.pins = []; rw [h3]; simp
theorem Idle.clean {p q : Pl} (h : Idle p) (e : q.fs = p.fs.map Fr.clean) : Idle q := by
  intro f hf
  rw [e] at hf
  obtain ⟨g, hg, rfl⟩ := List.mem_map.1 hf
  exact h g hg
theorem Idle.pinned {p : Pl} (h : Idle p) : p.pinned = 0 := by
  unfold Pl.pinned
  rw [List.length_eq_zero_iff, List.filter_eq_nil_iff]
  intro f hf
  rw [h f hf]; simp

/-- What pages tell whose kinds, and lengths, stand in a list. -/
def tellT (L : List UInt8) (k : Nat) : UInt8 × List UInt8 := (L.getD k 0, List.replicate (L.getD k 0).toNat 0)
theorem tellT_snoc (L : List UInt8) (k : Nat) : setT (tellT L) L.length (0, []) k = tellT (L ++ [0]) k := by
  unfold setT tellT
  by_cases h : k = L.length
  · subst h; simp [List.getD]
  · rw [if_neg h]
    have : (L ++ [0]).getD k 0 = L.getD k 0 := by
      unfold List.getD
      by_cases hk : k < L.length
      · rw [List.getElem?_append_left hk]
      · rw [List.getElem?_append_right (by omega), List.getElem?_eq_none (l := L) (by omega), List.getElem?_eq_none (by simp; omega)]
    rw [this]
theorem tellT_set (L : List UInt8) {i : Nat} (hi : i < L.length) (c : UInt8) (k : Nat) : setT (tellT L) i (c, List.replicate c.toNat 0) k = tellT (L.set i c) k := by
  unfold setT tellT
  by_cases h : k = i
  · subst h
    have : (L.set k c).getD k 0 = c := by simp [List.getD, hi]
    rw [if_pos rfl, this]
  · rw [if_neg h]
    have : (L.set i c).getD k 0 = L.getD k 0 := by unfold List.getD; rw [List.getElem?_set, if_neg (fun q => h q.symm)]
    rw [this]
theorem tellT_at {L : List UInt8} {k : Nat} (h : k < L.length) : tellT L k = (L[k], List.replicate (L[k]).toNat 0) := by
  unfold tellT; simp [List.getD, h]

/-- A crash behind a flush: what was synced is there again. -/
theorem Live.crash {d : Dk} {n : ByteArray} {pg : List Pg} {q : Nat} (h : Live d n pg q) (hs : ∃ f, d.files = [f] ∧ f.name = n ∧ f.synced = pg ∧ f.log = []) : Live ((d.setCrash 0 0).remove n).1.restart n pg q := by
  obtain ⟨f, h1, h2, h3, h4⟩ := hs
  have e1 : d.setCrash 0 0 = { d with crash := some (0, 0) } := by
    unfold Dk.setCrash; rw [if_neg (by rw [h.up]; simp)]; rfl
  have hidx : ({ d with crash := some (0, 0) } : Dk).idx n = some 0 := h.idx
  have e2 : (({ d with crash := some (0, 0) } : Dk).remove n).1 = { d with crash := some (0, 0), down := true } := by
    unfold Dk.remove
    rw [if_neg (by show ¬ d.down = true; rw [h.up]; simp), if_neg (by rw [hidx]; simp)]
    rfl
  rw [e1, e2]
  unfold Dk.restart
  rw [if_pos rfl]
  refine ⟨rfl, rfl, ⟨⟨f.name, f.synced, []⟩, ?_, h2, h3⟩, h.quota⟩
  show d.files.map _ = _
  rw [h1]
  simp only [List.map_cons, List.map_nil, Dk.after, h4, List.filter_nil, List.foldl_nil]

end Go.Proofs.YtbhddkmfhampbaaDoor
