/-
  The pool in plain words: what it holds, and what each call makes of it.
-/
import Derived.Test.YtbhddkmfhampbaaDoorDkm
import Derived.Test.YtbhddkmfhampbaaDoorPga
namespace Go.Proofs.YtbhddkmfhampbaaDoor

structure Fr where
  name : ByteArray
  page : Nat
  kind : UInt8
  b : List UInt8
  dirty : Bool
  pins : List Int
  left : Int
def fr0 : Fr := ⟨ByteArray.empty, 0, 0, [], false, [], 0⟩
def Fr.sealF (f : Fr) : List UInt8 := sealP f.kind f.b
structure Pl where
  d : Dk
  most : Nat
  fs : List Fr
  next : Int
  tick : Int
  peak : Nat
  wrong : Int

def Pl.frame (p : Pl) (i : Nat) : Fr := p.fs.getD i fr0
def Pl.find (p : Pl) (n : ByteArray) (g : Int) : Option Nat := p.fs.findIdx? fun f => f.name.toList == n.toList && decide ((f.page : Int) = g)
def Pl.held (p : Pl) (h : Int) : Option Nat := p.fs.findIdx? fun f => f.pins.contains h
def bad (e : Int) : Bool := e == 4 || e == 5 || e == 20
def Pl.met (p : Pl) (e : Int) : Pl := if bad e then { p with wrong := e } else p
/-- The end of a call: an error that breaks the pool stays. -/
def Pl.out (r : Pl × Int) : Pl × Int := (r.1.met r.2, r.2)
def Pl.setD (p : Pl) (d : Dk) : Pl := { p with d := d }
def Pl.drop (p : Pl) (i : Nat) : Pl := { p with fs := p.fs.eraseIdx i }
def Pl.turn (p : Pl) (i : Nat) (u : Fr → Fr) : Pl := { p with fs := p.fs.modify i u }
def Fr.clean (f : Fr) : Fr := { f with dirty := false }
/-- The frame 'i' is written. -/
def Pl.put (p : Pl) (i : Nat) : Pl × Int :=
  if (p.d.write (p.frame i).name (p.frame i).page (p.frame i).sealF).2 = 0 then ((p.setD (p.d.write (p.frame i).name (p.frame i).page (p.frame i).sealF).1).turn i Fr.clean, 0)
  else (p.setD (p.d.write (p.frame i).name (p.frame i).page (p.frame i).sealF).1, (p.d.write (p.frame i).name (p.frame i).page (p.frame i).sealF).2)
/-- The frame that was left longest ago, of those that none holds. -/
def lessB (f : Fr) (b : Option (Nat × Int)) : Bool := match b with | none => true | some x => decide (f.left < x.2)
def bestF : List Fr → Nat → Option (Nat × Int) → Option (Nat × Int)
  | [], _, b => b
  | f :: l, i, b => bestF l (i + 1) (if f.pins.isEmpty && lessB f b then some (i, f.left) else b)
def Pl.best (p : Pl) : Option Nat := (bestF p.fs 0 none).map (·.1)
def Pl.room (p : Pl) : Pl × Int :=
  if p.fs.length < p.most then (p, 0) else
  match p.best with
  | none => (p, 31)
  | some i => if (p.frame i).dirty then (if (p.put i).2 = 0 then ((p.put i).1.drop i, 0) else p.put i) else (p.drop i, 0)
def Fr.pin (h : Int) (f : Fr) : Fr := { f with pins := f.pins ++ [h] }
def Pl.pinAt (p : Pl) (i : Nat) : Pl := { p with fs := p.fs.modify i (Fr.pin p.next), next := w64 (p.next + 1) }
def Pl.add (p : Pl) (f : Fr) : Pl := { p with fs := p.fs ++ [f], peak := max p.peak (p.fs.length + 1) }
def Pl.take (p : Pl) (f : Fr) : Pl := (p.add f).pinAt p.fs.length
/-- A page is read into a frame. -/
def Pl.load (p : Pl) (n : ByteArray) (g : Int) : Pl × Option Fr × Int :=
  if (p.d.len n).2 ≠ 0 then (p, none, (p.d.len n).2)
  else if g < 0 ∨ g ≥ (p.d.len n).1 then (p, none, 12)
  else if p.room.2 ≠ 0 then (p.room.1, none, p.room.2)
  else if (p.room.1.d.read n g).2 ≠ 0 then (p.room.1, none, (p.room.1.d.read n g).2)
  else match openP (p.room.1.d.read n g).1 with
    | none => (p.room.1, none, 20)
    | some (k, b) => (p.room.1, some ⟨n, g.toNat, k, b, false, [], 0⟩, 0)
/-- A page is pinned: the handle, an error. -/
def Pl.pin (p : Pl) (n : ByteArray) (g : Int) : Pl × Int × Int :=
  if p.wrong ≠ 0 then (p, 0, p.wrong) else
  match p.find n g with
  | some i => (p.pinAt i, p.next, 0)
  | none =>
    match p.load n g with
    | (q, some f, _) => (q.take f, q.next, 0)
    | (q, none, e) => (q.met e, 0, e)
/-- A page more: the handle, its number, an error. -/
def Pl.fresh (p : Pl) (n : ByteArray) : Pl × Int × Int × Int :=
  if p.wrong ≠ 0 then (p, 0, 0, p.wrong)
  else if (p.d.len n).2 ≠ 0 then (p.met (p.d.len n).2, 0, 0, (p.d.len n).2)
  else if p.room.2 ≠ 0 then (p.room.1.met p.room.2, 0, 0, p.room.2)
  else if (p.room.1.d.write n (p.d.len n).1 (sealP 0 [])).2 ≠ 0 then ((p.room.1.setD (p.room.1.d.write n (p.d.len n).1 (sealP 0 [])).1).met (p.room.1.d.write n (p.d.len n).1 (sealP 0 [])).2, 0, 0, (p.room.1.d.write n (p.d.len n).1 (sealP 0 [])).2)
  else ((p.room.1.setD (p.room.1.d.write n (p.d.len n).1 (sealP 0 [])).1).take ⟨n, (p.d.len n).1, 0, [], false, [], 0⟩, p.room.1.next, (p.d.len n).1, 0)
def Pl.get (p : Pl) (h : Int) : UInt8 × List UInt8 × Int :=
  if p.wrong ≠ 0 then (0, [], p.wrong) else match p.held h with
  | some i => ((p.frame i).kind, (p.frame i).b, 0)
  | none => (0, [], 32)
def Fr.set (k : UInt8) (b : List UInt8) (f : Fr) : Fr := { f with kind := k, b := b, dirty := true }
def Pl.set (p : Pl) (h : Int) (k : UInt8) (b : List UInt8) : Pl × Int :=
  if p.wrong ≠ 0 then (p, p.wrong) else match p.held h with
  | some i => if b.length > 504 then (p, 2) else (p.turn i (Fr.set k b), 0)
  | none => (p, 32)
def Fr.unpin (h t : Int) (f : Fr) : Fr := { f with pins := f.pins.filter (fun x => decide (x ≠ h)), left := t }
def Pl.unpin (p : Pl) (h : Int) : Pl × Int :=
  if p.wrong ≠ 0 then (p, p.wrong) else match p.held h with
  | some i => ({ p with fs := p.fs.modify i (Fr.unpin h (w64 (p.tick + 1))), tick := w64 (p.tick + 1) }, 0)
  | none => (p, 32)
/-- A file's pages that lie in frames, rising. -/
def Pl.pagesOf (p : Pl) (n : ByteArray) : List Nat := ((p.fs.filter fun f => f.name.toList == n.toList).map (·.page)).mergeSort fun a b => decide (a ≤ b)
/-- Pages are written. -/
def Pl.flushL (n : ByteArray) : List Nat → Pl → Pl × Int
  | [], p => (p, 0)
  | k :: l, p =>
    match p.find n k with
    | some i => if (p.frame i).dirty then (if (p.put i).2 = 0 then flushL n l (p.put i).1 else p.put i) else flushL n l p
    | none => flushL n l p
def Pl.flush (p : Pl) (n : ByteArray) : Pl × Int :=
  if p.wrong ≠ 0 then (p, p.wrong)
  else if (p.d.len n).2 ≠ 0 then Pl.out (p, (p.d.len n).2)
  else if (Pl.flushL n (p.pagesOf n) p).2 ≠ 0 then Pl.out (Pl.flushL n (p.pagesOf n) p)
  else Pl.out ((Pl.flushL n (p.pagesOf n) p).1.setD ((Pl.flushL n (p.pagesOf n) p).1.d.sync n).1, ((Pl.flushL n (p.pagesOf n) p).1.d.sync n).2)
def Pl.forget (p : Pl) (n : ByteArray) : Pl := { p with fs := p.fs.filter fun f => !(f.name.toList == n.toList) }
def Pl.dropF (p : Pl) (n : ByteArray) : Pl × Int :=
  if p.wrong ≠ 0 then (p, p.wrong)
  else if (p.d.len n).2 ≠ 0 then Pl.out (p, (p.d.len n).2)
  else if p.fs.any (fun f => f.name.toList == n.toList && !f.pins.isEmpty) then (p, 31)
  else Pl.out ((p.forget n).setD (p.d.remove n).1, (p.d.remove n).2)
def Pl.pinned (p : Pl) : Nat := (p.fs.filter fun f => !f.pins.isEmpty).length
def pl0 (d : Dk) (m : Nat) : Pl := ⟨d, m, [], 1, 0, 0, 0⟩

def Fr.key (f : Fr) : ByteArray × Nat := (f.name, f.page)
def Pl.pins (p : Pl) : Nat := (p.fs.map fun f => f.pins.length).sum
/-- What holds of each pool. -/
structure Pl.WF (p : Pl) : Prop where
  keys : (p.fs.map Fr.key).Nodup
  len : p.fs.length ≤ p.most
  most : 8 ≤ p.most ∧ p.most ≤ 4096
  room : ∀ f ∈ p.fs, f.b.length ≤ 504
  pages : ∀ f ∈ p.fs, f.page < 1048577 ∧ f.name.size ≤ 9223372036854775807
  pins : (p.fs.flatMap (·.pins)).Nodup
  old : ∀ f ∈ p.fs, ∀ h ∈ f.pins, 1 ≤ h ∧ h < p.next
  tick : 0 ≤ p.tick ∧ p.tick + p.pins < p.next
  lefts : ∀ (i j : Nat) (f g : Fr), p.fs[i]? = some f → p.fs[j]? = some g → f.pins = [] → g.pins = [] → f.left = g.left → i = j
  past : ∀ f ∈ p.fs, 0 ≤ f.left ∧ f.left ≤ p.tick
  peak : p.fs.length ≤ p.peak ∧ p.peak ≤ p.most

/-! ### What is found -/

theorem findIdx_uniq {α : Type} {l : List α} {q : α → Bool} {i : Nat} {x : α} (hx : l[i]? = some x) (hq : q x = true) (hu : ∀ j y, l[j]? = some y → q y = true → j = i) : l.findIdx? q = some i := by
  obtain ⟨hi, rfl⟩ := List.getElem?_eq_some_iff.1 hx
  rw [List.findIdx?_eq_some_iff_getElem]
  refine ⟨hi, hq, fun j hj => ?_⟩
  cases h : q l[j] with
  | false => simp
  | true => have := hu j _ (List.getElem?_eq_getElem (by omega)) h; omega
theorem findIdx_get {α : Type} {l : List α} {q : α → Bool} {i : Nat} (h : l.findIdx? q = some i) : ∃ x, l[i]? = some x ∧ q x = true := by
  rw [List.findIdx?_eq_some_iff_getElem] at h
  obtain ⟨h1, h2, _⟩ := h
  exact ⟨l[i], List.getElem?_eq_getElem h1, h2⟩

theorem Pl.frame_eq {p : Pl} {i : Nat} {f : Fr} (h : p.fs[i]? = some f) : p.frame i = f := by simp [Pl.frame, h]
theorem Pl.find_some {p : Pl} {n : ByteArray} {g : Int} {i : Nat} (h : p.find n g = some i) : ∃ f, p.fs[i]? = some f ∧ f.name = n ∧ (f.page : Int) = g := by
  obtain ⟨f, h1, h2⟩ := findIdx_get h
  simp only [Bool.and_eq_true, beq_iff_eq, decide_eq_true_eq] at h2
  exact ⟨f, h1, ba_eq h2.1, h2.2⟩
theorem Pl.find_none {p : Pl} {n : ByteArray} {g : Int} (h : p.find n g = none) : ∀ f ∈ p.fs, f.name = n → (f.page : Int) ≠ g := by
  unfold Pl.find at h
  rw [List.findIdx?_eq_none_iff] at h
  intro f hf e e2
  have := h f hf
  rw [e] at this
  simp [e2] at this
theorem key_inj {p : Pl} (h : (p.fs.map Fr.key).Nodup) {i j : Nat} {f g : Fr} (hi : p.fs[i]? = some f) (hj : p.fs[j]? = some g) (e1 : f.name = g.name) (e2 : f.page = g.page) : i = j := by
  have hi' := (List.getElem?_eq_some_iff.1 hi).1
  refine (List.getElem?_inj (l := p.fs.map Fr.key) (by simpa using hi') h).1 ?_
  rw [List.getElem?_map, List.getElem?_map, hi, hj]
  simp [Fr.key, e1, e2]
theorem Pl.find_eq {p : Pl} (hw : p.WF) {i : Nat} {f : Fr} (h : p.fs[i]? = some f) : p.find f.name f.page = some i := by
  refine findIdx_uniq h (by simp) fun j g hj hg => ?_
  simp only [Bool.and_eq_true, beq_iff_eq, decide_eq_true_eq] at hg
  exact key_inj hw.keys hj h (ba_eq hg.1) (by omega)
theorem Pl.held_some {p : Pl} {h : Int} {i : Nat} (e : p.held h = some i) : ∃ f, p.fs[i]? = some f ∧ h ∈ f.pins := by
  obtain ⟨f, h1, h2⟩ := findIdx_get e
  exact ⟨f, h1, by simpa using h2⟩
theorem Pl.held_none {p : Pl} {h : Int} (e : p.held h = none) : ∀ f ∈ p.fs, h ∉ f.pins := by
  unfold Pl.held at e
  rw [List.findIdx?_eq_none_iff] at e
  intro f hf hm
  have := e f hf
  simp [hm] at this
theorem flat_inj {α β : Type} {u : α → List β} : ∀ {l : List α}, (l.flatMap u).Nodup → ∀ {i j : Nat} {f g : α} {x : β}, l[i]? = some f → l[j]? = some g → x ∈ u f → x ∈ u g → i = j
  | [], _, i, j, f, g, x, hi, _, _, _ => by simp at hi
  | a :: l, h, i, j, f, g, x, hi, hj, hf, hg => by
    rw [List.flatMap_cons, List.nodup_append] at h
    obtain ⟨h1, h2, h3⟩ := h
    match i, j with
    | 0, 0 => rfl
    | 0, j + 1 =>
      simp only [List.getElem?_cons_zero, Option.some.injEq, List.getElem?_cons_succ] at hi hj
      subst hi
      exact absurd rfl (h3 x hf x (List.mem_flatMap.2 ⟨g, List.mem_of_getElem? hj, hg⟩))
    | i + 1, 0 =>
      simp only [List.getElem?_cons_zero, Option.some.injEq, List.getElem?_cons_succ] at hi hj
      subst hj
      exact absurd rfl (h3 x hg x (List.mem_flatMap.2 ⟨f, List.mem_of_getElem? hi, hf⟩))
    | i + 1, j + 1 =>
      simp only [List.getElem?_cons_succ] at hi hj
      rw [flat_inj h2 hi hj hf hg]
theorem Pl.held_eq {p : Pl} (hw : p.WF) {i : Nat} {f : Fr} {h : Int} (e : p.fs[i]? = some f) (hm : h ∈ f.pins) : p.held h = some i :=
  findIdx_uniq e (by simpa using hm) fun _ _ hj hg => flat_inj hw.pins hj e (by simpa using hg) hm

/-! ### The best frame -/

/-- What a search has found so far. -/
def bestOk (l : List Fr) (b : Option (Nat × Int)) : Prop :=
  match b with
  | none => ∀ f ∈ l, f.pins ≠ []
  | some (i, t) => ∃ f, l[i]? = some f ∧ f.pins = [] ∧ f.left = t ∧ ∀ g ∈ l, g.pins = [] → t ≤ g.left
theorem bestF_ok : ∀ (r l : List Fr) (b : Option (Nat × Int)), bestOk l b → bestOk (l ++ r) (bestF r l.length b)
  | [], l, b, h => by simpa [bestF] using h
  | f :: r, l, b, h => by
    unfold bestF
    have key : bestOk (l ++ [f]) (if f.pins.isEmpty && lessB f b then some (l.length, f.left) else b) := by
      cases hp : f.pins.isEmpty with
      | false =>
        have hne : f.pins ≠ [] := by intro e; rw [e] at hp; cases hp
        rw [Bool.false_and, if_neg (by simp)]
        cases b with
        | none =>
          intro g hg
          rcases List.mem_append.1 hg with q | q
          · exact h g q
          · simp at q; subst q; exact hne
        | some it =>
          obtain ⟨i, t⟩ := it
          obtain ⟨g, h1, h2, h3, h4⟩ := h
          refine ⟨g, ?_, h2, h3, fun x hx hxp => ?_⟩
          · rw [List.getElem?_append_left (List.getElem?_eq_some_iff.1 h1).1]; exact h1
          · rcases List.mem_append.1 hx with q | q
            · exact h4 x q hxp
            · simp at q; subst q; exact absurd hxp hne
      | true =>
        have he : f.pins = [] := List.isEmpty_iff.1 hp
        cases b with
        | none =>
          rw [Bool.true_and, show lessB f none = true from rfl, if_pos rfl]
          refine ⟨f, by simp, he, rfl, fun x hx hxp => ?_⟩
          rcases List.mem_append.1 hx with q | q
          · exact absurd hxp (h x q)
          · simp at q; subst q; exact Int.le_refl _
        | some it =>
          obtain ⟨i, t⟩ := it
          obtain ⟨g, h1, h2, h3, h4⟩ := h
          rw [Bool.true_and]
          by_cases hlt : f.left < t
          · rw [show lessB f (some (i, t)) = true from by simp [lessB, hlt], if_pos rfl]
            refine ⟨f, by simp, he, rfl, fun x hx hxp => ?_⟩
            rcases List.mem_append.1 hx with q | q
            · have := h4 x q hxp; omega
            · simp at q; subst q; exact Int.le_refl _
          · rw [show lessB f (some (i, t)) = false from by simp [lessB, hlt], if_neg (by simp)]
            refine ⟨g, ?_, h2, h3, fun x hx hxp => ?_⟩
            · rw [List.getElem?_append_left (List.getElem?_eq_some_iff.1 h1).1]; exact h1
            · rcases List.mem_append.1 hx with q | q
              · exact h4 x q hxp
              · simp at q; subst q; omega
    have := bestF_ok r (l ++ [f]) _ key
    rw [List.length_append, List.length_singleton, List.append_assoc, List.singleton_append] at this
    exact this
theorem Pl.best_ok (p : Pl) : bestOk p.fs (bestF p.fs 0 none) := by
  have := bestF_ok p.fs [] none (by intro f hf; cases hf)
  simpa using this
theorem Pl.best_none {p : Pl} (h : p.best = none) : ∀ f ∈ p.fs, f.pins ≠ [] := by
  have := p.best_ok
  unfold Pl.best at h
  rw [Option.map_eq_none_iff] at h
  rw [h] at this
  exact this
theorem Pl.best_some {p : Pl} {i : Nat} (h : p.best = some i) : ∃ f, p.fs[i]? = some f ∧ f.pins = [] ∧ ∀ g ∈ p.fs, g.pins = [] → f.left ≤ g.left := by
  have := p.best_ok
  unfold Pl.best at h
  rw [Option.map_eq_some_iff] at h
  obtain ⟨⟨j, t⟩, h1, rfl⟩ := h
  rw [h1] at this
  obtain ⟨f, q1, q2, q3, q4⟩ := this
  exact ⟨f, q1, q2, fun g hg hp => by rw [q3]; exact q4 g hg hp⟩
/-- There is one best frame at most. -/
theorem Pl.best_eq {p : Pl} (hw : p.WF) {i : Nat} {f : Fr} (hf : p.fs[i]? = some f) (hp : f.pins = []) (hb : ∀ g ∈ p.fs, g.pins = [] → f.left ≤ g.left) : p.best = some i := by
  cases h : p.best with
  | none => exact absurd hp (Pl.best_none h f (List.mem_of_getElem? hf))
  | some j =>
    obtain ⟨g, h1, h2, h3⟩ := Pl.best_some h
    have e1 := hb g (List.mem_of_getElem? h1) h2
    have e2 := h3 f (List.mem_of_getElem? hf) hp
    rw [hw.lefts j i g f h1 hf h2 hp (by omega)]

/-! ### What holds stays so -/

theorem Pl.WF.frames {p q : Pl} (h : p.WF) (hf : q.fs = p.fs) (hm : q.most = p.most) (hn : q.next = p.next) (ht : q.tick = p.tick) (hk : q.peak = p.peak) : q.WF := by
  obtain ⟨d, most, fs, next, tick, peak, wrong⟩ := q
  obtain ⟨d', most', fs', next', tick', peak', wrong'⟩ := p
  simp only at hf hm hn ht hk
  subst hf; subst hm; subst hn; subst ht; subst hk
  exact ⟨h.keys, h.len, h.most, h.room, h.pages, h.pins, h.old, h.tick, h.lefts, h.past, h.peak⟩
theorem Pl.WF.setD {p : Pl} (h : p.WF) (d : Dk) : (p.setD d).WF := h.frames rfl rfl rfl rfl rfl
theorem Pl.WF.met {p : Pl} (h : p.WF) (e : Int) : (p.met e).WF := by
  unfold Pl.met
  split
  · exact h.frames rfl rfl rfl rfl rfl
  · exact h

theorem flatMap_modify {α β : Type} (u : α → List β) (g : α → α) : ∀ (l : List α) (i : Nat) (x : α), l[i]? = some x → u (g x) = u x → (l.modify i g).flatMap u = l.flatMap u
  | [], i, x, h, _ => by simp at h
  | a :: l, 0, x, h, e => by simp at h; subst h; simp [e]
  | a :: l, i + 1, x, h, e => by
    simp only [List.getElem?_cons_succ] at h
    simp [flatMap_modify u g l i x h e]
theorem map_modify_same {α β : Type} (u : α → β) (g : α → α) (l : List α) (i : Nat) (x : α) (h : l[i]? = some x) (e : u (g x) = u x) : (l.modify i g).map u = l.map u := by
  have := flatMap_modify (fun y => [u y]) g l i x h (by simp [e])
  simpa [List.flatMap_singleton', List.map_eq_flatMap] using this
theorem mem_modify {α : Type} {l : List α} {i : Nat} {g : α → α} {x y : α} (hx : l[i]? = some x) (hy : y ∈ l.modify i g) : y ∈ l ∨ y = g x := by
  obtain ⟨j, hj⟩ := List.mem_iff_getElem?.1 hy
  by_cases e : i = j
  · subst e; rw [modify_same hx] at hj; cases hj; exact .inr rfl
  · rw [modify_other e] at hj; exact .inl (List.mem_of_getElem? hj)

/-- A frame is turned; its handles stay. -/
theorem Pl.WF.turn {p : Pl} (h : p.WF) {i : Nat} {f : Fr} {u : Fr → Fr} (hf : p.fs[i]? = some f) (hk : (u f).key = f.key) (hp : (u f).pins = f.pins) (hl : (u f).left = f.left) (hb : (u f).b.length ≤ 504) : (p.turn i u).WF := by
  have hm := List.mem_of_getElem? hf
  have get : ∀ (j : Nat) (g : Fr), (p.fs.modify i u)[j]? = some g → ∃ g', p.fs[j]? = some g' ∧ g.pins = g'.pins ∧ g.left = g'.left := by
    intro j g hj
    by_cases e : i = j
    · subst e; rw [modify_same hf] at hj; cases hj; exact ⟨f, hf, hp, hl⟩
    · rw [modify_other e] at hj; exact ⟨g, hj, rfl, rfl⟩
  refine ⟨?_, ?_, h.most, ?_, ?_, ?_, ?_, ?_, ?_, ?_, ?_⟩
  · show ((p.fs.modify i u).map Fr.key).Nodup
    rw [map_modify_same Fr.key u p.fs i f hf hk]; exact h.keys
  · show (p.fs.modify i u).length ≤ p.most
    rw [List.length_modify]; exact h.len
  · intro g hg
    rcases mem_modify hf hg with q | q
    · exact h.room g q
    · subst q; exact hb
  · intro g hg
    rcases mem_modify hf hg with q | q
    · exact h.pages g q
    · subst q
      have e1 : (u f).page = f.page := congrArg Prod.snd hk
      have e2 : (u f).name = f.name := congrArg Prod.fst hk
      rw [e1, e2]; exact h.pages f hm
  · show ((p.fs.modify i u).flatMap (·.pins)).Nodup
    rw [flatMap_modify (·.pins) u p.fs i f hf hp]; exact h.pins
  · intro g hg
    rcases mem_modify hf hg with q | q
    · exact h.old g q
    · subst q; rw [hp]; exact h.old f hm
  · refine ⟨h.tick.1, ?_⟩
    have e : (p.turn i u).pins = p.pins := by
      show ((p.fs.modify i u).map fun f => f.pins.length).sum = _
      rw [map_modify_same (fun f => f.pins.length) u p.fs i f hf (by rw [hp])]; rfl
    rw [e]; exact h.tick.2
  · intro a b x y hx hy hxp hyp hxy
    obtain ⟨x', q1, q2, q3⟩ := get a x hx
    obtain ⟨y', r1, r2, r3⟩ := get b y hy
    exact h.lefts a b x' y' q1 r1 (by rw [← q2]; exact hxp) (by rw [← r2]; exact hyp) (by rw [← q3, ← r3]; exact hxy)
  · intro g hg
    rcases mem_modify hf hg with q | q
    · exact h.past g q
    · subst q; rw [hl]; exact h.past f hm
  · show (p.fs.modify i u).length ≤ p.peak ∧ _
    rw [List.length_modify]; exact h.peak
theorem Pl.WF.put {p : Pl} (h : p.WF) {i : Nat} {f : Fr} (hf : p.fs[i]? = some f) : (p.put i).1.WF := by
  unfold Pl.put
  split
  · exact (h.setD _).turn hf rfl rfl rfl (h.room f (List.mem_of_getElem? hf))
  · exact h.setD _

theorem eraseIdx_get {α : Type} {l : List α} {i j : Nat} {x : α} (h : (l.eraseIdx i)[j]? = some x) : l[if j < i then j else j + 1]? = some x := by
  rw [List.getElem?_eraseIdx] at h
  split
  · rename_i q; rw [if_pos q] at h; exact h
  · rename_i q; rw [if_neg q] at h; exact h
theorem flatMap_sublist {α β : Type} (u : α → List β) {l r : List α} (h : l.Sublist r) : (l.flatMap u).Sublist (r.flatMap u) := by
  induction h with
  | slnil => simp
  | cons a _ ih => rw [List.flatMap_cons]; exact ih.trans (List.sublist_append_right _ _)
  | cons_cons a _ ih => rw [List.flatMap_cons, List.flatMap_cons]; exact (List.Sublist.refl _).append ih
theorem sum_sublist {α : Type} (u : α → Nat) {l r : List α} (h : l.Sublist r) : (l.map u).sum ≤ (r.map u).sum := by
  induction h with
  | slnil => simp
  | cons a _ ih => rw [List.map_cons, List.sum_cons]; omega
  | cons_cons a _ ih => rw [List.map_cons, List.sum_cons, List.map_cons, List.sum_cons]; omega
/-- Fewer frames. -/
theorem Pl.WF.sub {p q : Pl} (h : p.WF) (hs : q.fs.Sublist p.fs) (hm : q.most = p.most) (hn : q.next = p.next) (ht : q.tick = p.tick) (hk : q.peak = p.peak) : q.WF := by
  have hmem : ∀ f ∈ q.fs, f ∈ p.fs := fun f hf => hs.subset hf
  have hlen := hs.length_le
  refine ⟨?_, by rw [hm]; have := h.len; omega, by rw [hm]; exact h.most, fun f hf => h.room f (hmem f hf), fun f hf => h.pages f (hmem f hf), ?_, fun f hf => by rw [hn]; exact h.old f (hmem f hf), ?_, ?_, fun f hf => by rw [ht]; exact h.past f (hmem f hf), by rw [hk, hm]; have := h.peak; omega⟩
  · exact (hs.map Fr.key).nodup h.keys
  · exact (flatMap_sublist (·.pins) hs).nodup h.pins
  · rw [ht, hn]
    refine ⟨h.tick.1, ?_⟩
    have : q.pins ≤ p.pins := by
      unfold Pl.pins
      exact sum_sublist (fun f : Fr => f.pins.length) hs
    have := h.tick.2
    omega
  · -- frames that none holds differ in when they were left
    have hpw : (p.fs.filter fun f => f.pins.isEmpty).Pairwise (fun f g => f.left ≠ g.left) := by
      rw [List.pairwise_filter, List.pairwise_iff_getElem]
      intro i j hi hj hij hfi hfj e
      have := h.lefts i j _ _ (List.getElem?_eq_getElem hi) (List.getElem?_eq_getElem hj) (List.isEmpty_iff.1 hfi) (List.isEmpty_iff.1 hfj) e
      omega
    have hpw2 : (q.fs.filter fun f => f.pins.isEmpty).Pairwise (fun f g => f.left ≠ g.left) := hpw.sublist (hs.filter _)
    rw [List.pairwise_filter, List.pairwise_iff_getElem] at hpw2
    intro i j f g hi hj hfp hgp e
    obtain ⟨hi', rfl⟩ := List.getElem?_eq_some_iff.1 hi
    obtain ⟨hj', rfl⟩ := List.getElem?_eq_some_iff.1 hj
    rcases Nat.lt_trichotomy i j with q1 | q1 | q1
    · exact absurd e (hpw2 i j hi' hj' q1 (List.isEmpty_iff.2 hfp) (List.isEmpty_iff.2 hgp))
    · exact q1
    · exact absurd e.symm (hpw2 j i hj' hi' q1 (List.isEmpty_iff.2 hgp) (List.isEmpty_iff.2 hfp))
theorem Pl.WF.drop {p : Pl} (h : p.WF) (i : Nat) : (p.drop i).WF := h.sub (List.eraseIdx_sublist _ _) rfl rfl rfl rfl
theorem Pl.WF.forget {p : Pl} (h : p.WF) (n : ByteArray) : (p.forget n).WF := h.sub List.filter_sublist rfl rfl rfl rfl

theorem Pl.put_len (p : Pl) (i : Nat) : (p.put i).1.fs.length = p.fs.length := by
  unfold Pl.put
  split
  · show (p.fs.modify i _).length = _; rw [List.length_modify]
  · rfl
theorem Pl.put_same (p : Pl) (i : Nat) : (p.put i).1.most = p.most ∧ (p.put i).1.next = p.next ∧ (p.put i).1.tick = p.tick ∧ (p.put i).1.peak = p.peak ∧ (p.put i).1.wrong = p.wrong := by
  unfold Pl.put; split <;> exact ⟨rfl, rfl, rfl, rfl, rfl⟩
theorem Pl.room_same (p : Pl) : p.room.1.most = p.most ∧ p.room.1.next = p.next ∧ p.room.1.tick = p.tick ∧ p.room.1.peak = p.peak ∧ p.room.1.wrong = p.wrong := by
  unfold Pl.room
  split
  · exact ⟨rfl, rfl, rfl, rfl, rfl⟩
  · split
    · exact ⟨rfl, rfl, rfl, rfl, rfl⟩
    · split
      · split
        · exact p.put_same _
        · exact p.put_same _
      · exact ⟨rfl, rfl, rfl, rfl, rfl⟩
theorem Pl.WF.roomed {p : Pl} (h : p.WF) : p.room.1.WF ∧ (p.room.2 = 0 → p.room.1.fs.length < p.most) := by
  unfold Pl.room
  split
  · rename_i q; exact ⟨h, fun _ => q⟩
  · split
    · exact ⟨h, fun q => by cases q⟩
    · rename_i i hi
      obtain ⟨f, hf, _, _⟩ := Pl.best_some hi
      have hil := (List.getElem?_eq_some_iff.1 hf).1
      have hlen := h.len
      split
      · split
        · refine ⟨(h.put hf).drop i, fun _ => ?_⟩
          show ((p.put i).1.fs.eraseIdx i).length < p.most
          rw [List.length_eraseIdx_of_lt (by rw [Pl.put_len]; exact hil), Pl.put_len]; omega
        · rename_i q
          exact ⟨h.put hf, fun q' => absurd q' q⟩
      · refine ⟨h.drop i, fun _ => ?_⟩
        show (p.fs.eraseIdx i).length < p.most
        rw [List.length_eraseIdx_of_lt hil]; omega

theorem flatMap_pin {h : Int} : ∀ (l : List Fr) (i : Nat) (f : Fr), l[i]? = some f → ((l.modify i (Fr.pin h)).flatMap (·.pins)).Perm (h :: l.flatMap (·.pins))
  | [], i, f, e => by simp at e
  | a :: l, 0, f, e => by
    simp only [List.modify_zero_cons, List.flatMap_cons, Fr.pin, List.append_assoc, List.singleton_append]
    exact List.perm_middle
  | a :: l, i + 1, f, e => by
    simp only [List.getElem?_cons_succ] at e
    simp only [List.modify_succ_cons, List.flatMap_cons]
    exact ((flatMap_pin l i f e).append_left a.pins).trans List.perm_middle
theorem Pl.WF.pinAt {p : Pl} (h : p.WF) {i : Nat} {f : Fr} (hf : p.fs[i]? = some f) (hn : p.next < 9223372036854775807) : (p.pinAt i).WF := by
  have hm := List.mem_of_getElem? hf
  have ht := h.tick
  have hw : w64 (p.next + 1) = p.next + 1 := by unfold w64; exact wrap64 (by omega) (by omega)
  refine ⟨?_, ?_, h.most, ?_, ?_, ?_, ?_, ?_, ?_, ?_, ?_⟩
  · show ((p.fs.modify i _).map Fr.key).Nodup
    rw [map_modify_same Fr.key _ p.fs i f hf rfl]; exact h.keys
  · show (p.fs.modify i _).length ≤ p.most
    rw [List.length_modify]; exact h.len
  · intro g hg
    rcases mem_modify hf hg with q | q
    · exact h.room g q
    · subst q; exact h.room f hm
  · intro g hg
    rcases mem_modify hf hg with q | q
    · exact h.pages g q
    · subst q; exact h.pages f hm
  · show ((p.fs.modify i _).flatMap (·.pins)).Nodup
    rw [(flatMap_pin p.fs i f hf).nodup_iff, List.nodup_cons]
    refine ⟨fun hx => ?_, h.pins⟩
    obtain ⟨g, hg, hgp⟩ := List.mem_flatMap.1 hx
    have := (h.old g hg _ hgp).2; omega
  · intro g hg x hx
    show 1 ≤ x ∧ x < w64 (p.next + 1)
    rw [hw]
    rcases mem_modify hf hg with q | q
    · have := h.old g q x hx; omega
    · subst q
      rcases List.mem_append.1 hx with r | r
      · have := h.old f hm x r; omega
      · simp at r; omega
  · show 0 ≤ p.tick ∧ p.tick + (((p.fs.modify i (Fr.pin p.next)).map fun f => f.pins.length).sum : Nat) < w64 (p.next + 1)
    rw [hw]
    have := sum_modify (fun f : Fr => f.pins.length) (Fr.pin p.next) p.fs i f hf
    simp only [Fr.pin, List.length_append, List.length_singleton] at this
    unfold Pl.pins at ht
    exact ⟨ht.1, by omega⟩
  · intro a b x y hx hy hxp hyp hxy
    have ne : ∀ (j : Nat) (g : Fr), (p.fs.modify i (Fr.pin p.next))[j]? = some g → g.pins = [] → p.fs[j]? = some g := by
      intro j g hj hg
      by_cases e : i = j
      · subst e; rw [modify_same hf] at hj; cases hj; simp [Fr.pin] at hg
      · rw [modify_other e] at hj; exact hj
    exact h.lefts a b x y (ne a x hx hxp) (ne b y hy hyp) hxp hyp hxy
  · intro g hg
    rcases mem_modify hf hg with q | q
    · exact h.past g q
    · subst q; exact h.past f hm
  · show (p.fs.modify i _).length ≤ p.peak ∧ _
    rw [List.length_modify]; exact h.peak

theorem Pl.add_at (p : Pl) (f : Fr) : (p.add f).fs[p.fs.length]? = some f := by simp [Pl.add]
/-- All but that a frame that none holds was left at another time than all others. -/
theorem Pl.WF.take {p : Pl} (h : p.WF) {f : Fr} (hl : p.fs.length < p.most) (hn : p.next < 9223372036854775807) (hk : p.find f.name f.page = none) (hb : f.b.length ≤ 504) (hpg : f.page < 1048577) (hnm : f.name.size ≤ 9223372036854775807) (hp : f.pins = []) (hlf : f.left = 0) : (p.take f).WF := by
  have ht := h.tick
  have hw : w64 (p.next + 1) = p.next + 1 := by unfold w64; exact wrap64 (by omega) (by omega)
  have e : (p.take f).fs = p.fs ++ [Fr.pin p.next f] := by
    show (p.fs ++ [f]).modify p.fs.length (Fr.pin p.next) = _
    have ha : (p.fs ++ [f])[p.fs.length]? = some f := p.add_at f
    rw [modify_set ha]
    simp
  have mem : ∀ g ∈ (p.take f).fs, g ∈ p.fs ∨ g = Fr.pin p.next f := fun g hg => by
    rw [e] at hg; simpa using hg
  have hnx : (p.take f).next = p.next + 1 := hw
  have hpk := h.peak
  refine ⟨?_, ?_, h.most, ?_, ?_, ?_, ?_, ?_, ?_, ?_, ?_⟩
  · rw [e, List.map_append, List.nodup_append]
    refine ⟨h.keys, by simp, fun a ha b hb2 => ?_⟩
    obtain ⟨g, hg, rfl⟩ := List.mem_map.1 ha
    simp only [List.map_cons, List.map_nil, List.mem_singleton] at hb2
    subst hb2
    intro eq
    have e1 : g.name = f.name := congrArg Prod.fst eq
    have e2 : g.page = f.page := congrArg Prod.snd eq
    exact Pl.find_none hk g hg e1 (by omega)
  · rw [e]; show _ ≤ p.most; simp; omega
  · intro g hg
    rcases mem g hg with q | q
    · exact h.room g q
    · subst q; exact hb
  · intro g hg
    rcases mem g hg with q | q
    · exact h.pages g q
    · subst q; exact ⟨hpg, hnm⟩
  · rw [e, List.flatMap_append, List.nodup_append]
    refine ⟨h.pins, by simp [Fr.pin, hp], fun a ha b hb2 => ?_⟩
    obtain ⟨g, hg, hga⟩ := List.mem_flatMap.1 ha
    simp [Fr.pin, hp] at hb2
    have := (h.old g hg a hga).2; omega
  · intro g hg x hx
    rw [hnx]
    rcases mem g hg with q | q
    · have := h.old g q x hx; omega
    · subst q
      simp [Fr.pin, hp] at hx
      omega
  · rw [hnx]
    refine ⟨ht.1, ?_⟩
    have : (p.take f).pins = p.pins + 1 := by
      unfold Pl.pins; rw [e]; simp [Fr.pin, hp]
    show p.tick + _ < _
    rw [this]; omega
  · intro a b x y hx hy hxp hyp hxy
    rw [e] at hx hy
    have ne : ∀ (j : Nat) (g : Fr), (p.fs ++ [Fr.pin p.next f])[j]? = some g → g.pins = [] → p.fs[j]? = some g := by
      intro j g hj hg
      rw [List.getElem?_append] at hj
      split at hj
      · exact hj
      · have : g = Fr.pin p.next f := by have := List.mem_of_getElem? hj; simpa using this
        subst this; simp [Fr.pin] at hg
    exact h.lefts a b x y (ne a x hx hxp) (ne b y hy hyp) hxp hyp hxy
  · intro g hg
    rcases mem g hg with q | q
    · exact h.past g q
    · subst q
      show 0 ≤ f.left ∧ f.left ≤ p.tick
      rw [hlf]; exact ⟨Int.le_refl _, ht.1⟩
  · rw [e]; show _ ≤ max p.peak (p.fs.length + 1) ∧ max p.peak (p.fs.length + 1) ≤ p.most
    simp only [List.length_append, List.length_singleton]
    omega

theorem filter_one {h : Int} {l : List Int} (hd : l.Nodup) (hm : h ∈ l) : (l.filter fun x => decide (x ≠ h)).length + 1 = l.length := by
  induction l with
  | nil => cases hm
  | cons a l ih =>
    rw [List.nodup_cons] at hd
    rw [List.filter_cons]
    by_cases e : a = h
    · subst e
      have : l.filter (fun x => decide (x ≠ a)) = l := by
        rw [List.filter_eq_self]
        intro x hx
        have : x ≠ a := fun e => hd.1 (e ▸ hx)
        simp [this]
      rw [this]; simp
    · have hm' : h ∈ l := by
        rcases List.mem_cons.1 hm with q | q
        · exact absurd q.symm e
        · exact q
      have := ih hd.2 hm'
      simp only [ne_eq, e, not_false_eq_true, decide_true, if_true, List.length_cons]
      simp only [ne_eq] at this
      omega
theorem flat_nodup {α β : Type} {u : α → List β} : ∀ {l : List α}, (l.flatMap u).Nodup → ∀ {i : Nat} {x : α}, l[i]? = some x → (u x).Nodup
  | [], _, i, x, h => by simp at h
  | a :: l, hd, 0, x, h => by
    rw [List.flatMap_cons, List.nodup_append] at hd
    simp at h; subst h; exact hd.1
  | a :: l, hd, i + 1, x, h => by
    rw [List.flatMap_cons, List.nodup_append] at hd
    exact flat_nodup hd.2.1 (by simpa using h)
theorem flatMap_sub {α β : Type} (u : α → List β) (g : α → α) (hg : ∀ x, (u (g x)).Sublist (u x)) : ∀ (l : List α) (i : Nat), ((l.modify i g).flatMap u).Sublist (l.flatMap u)
  | [], i => by simp
  | a :: l, 0 => by
    simp only [List.modify_zero_cons, List.flatMap_cons]
    exact (hg a).append (List.Sublist.refl _)
  | a :: l, i + 1 => by
    simp only [List.modify_succ_cons, List.flatMap_cons]
    exact (List.Sublist.refl _).append (flatMap_sub u g hg l i)
theorem Pl.WF.unpin {p : Pl} (hw : p.WF) (h : Int) (hn : p.next < 9223372036854775807) : (p.unpin h).1.WF := by
  unfold Pl.unpin
  split
  · exact hw
  · split
    · rename_i i hi
      obtain ⟨f, hf, hm⟩ := Pl.held_some hi
      have hfm := List.mem_of_getElem? hf
      have ht := hw.tick
      have hpins := filter_one (flat_nodup hw.pins hf) hm
      have hfl : f.pins.length ≤ p.pins := le_sum (fun f : Fr => f.pins.length) p.fs i f hf
      have hwt : w64 (p.tick + 1) = p.tick + 1 := by unfold w64; exact wrap64 (by omega) (by omega)
      rw [hwt]
      have get : ∀ (j : Nat) (g : Fr), (p.fs.modify i (Fr.unpin h (p.tick + 1)))[j]? = some g → (j = i ∧ g = Fr.unpin h (p.tick + 1) f) ∨ (j ≠ i ∧ p.fs[j]? = some g) := by
        intro j g hj
        by_cases e : i = j
        · subst e; rw [modify_same hf] at hj; cases hj; exact .inl ⟨rfl, rfl⟩
        · rw [modify_other e] at hj; exact .inr ⟨fun q => e q.symm, hj⟩
      refine ⟨?_, ?_, hw.most, ?_, ?_, ?_, ?_, ?_, ?_, ?_, ?_⟩
      · show ((p.fs.modify i _).map Fr.key).Nodup
        rw [map_modify_same Fr.key _ p.fs i f hf rfl]; exact hw.keys
      · show (p.fs.modify i _).length ≤ p.most
        rw [List.length_modify]; exact hw.len
      · intro g hg
        rcases mem_modify hf hg with q | q
        · exact hw.room g q
        · subst q; exact hw.room f hfm
      · intro g hg
        rcases mem_modify hf hg with q | q
        · exact hw.pages g q
        · subst q; exact hw.pages f hfm
      · exact (flatMap_sub (·.pins) (Fr.unpin h (p.tick + 1)) (fun x => List.filter_sublist) p.fs i).nodup hw.pins
      · intro g hg x hx
        rcases mem_modify hf hg with q | q
        · exact hw.old g q x hx
        · subst q; exact hw.old f hfm x (List.mem_filter.1 hx).1
      · show 0 ≤ p.tick + 1 ∧ p.tick + 1 + (((p.fs.modify i (Fr.unpin h (p.tick + 1))).map fun f => f.pins.length).sum : Nat) < p.next
        have := sum_modify (fun f : Fr => f.pins.length) (Fr.unpin h (p.tick + 1)) p.fs i f hf
        simp only [Fr.unpin] at this
        unfold Pl.pins at ht
        constructor
        · omega
        · omega
      · intro a b x y hx hy hxp hyp hxy
        rcases get a x hx with ⟨q1, q2⟩ | ⟨q1, q2⟩
        · rcases get b y hy with ⟨r1, r2⟩ | ⟨r1, r2⟩
          · omega
          · have := hw.past y (List.mem_of_getElem? r2)
            rw [q2] at hxy
            simp only [Fr.unpin] at hxy
            omega
        · rcases get b y hy with ⟨r1, r2⟩ | ⟨r1, r2⟩
          · have := hw.past x (List.mem_of_getElem? q2)
            rw [r2] at hxy
            simp only [Fr.unpin] at hxy
            omega
          · exact hw.lefts a b x y q2 r2 hxp hyp hxy
      · intro g hg
        show 0 ≤ g.left ∧ g.left ≤ p.tick + 1
        rcases mem_modify hf hg with q | q
        · have := hw.past g q; omega
        · subst q; simp only [Fr.unpin]; omega
      · show (p.fs.modify i _).length ≤ p.peak ∧ _
        rw [List.length_modify]; exact hw.peak
    · exact hw
theorem Pl.WF.set {p : Pl} (hw : p.WF) (h : Int) (k : UInt8) (b : List UInt8) : (p.set h k b).1.WF := by
  unfold Pl.set
  split
  · exact hw
  · split
    · rename_i i hi
      obtain ⟨f, hf, hm⟩ := Pl.held_some hi
      split
      · exact hw
      · exact hw.turn hf rfl rfl rfl (by simp only [Fr.set]; omega)
    · exact hw
theorem Pl.WF.flushL {n : ByteArray} : ∀ (l : List Nat) {p : Pl}, p.WF → (Pl.flushL n l p).1.WF
  | [], p, h => h
  | k :: l, p, h => by
    unfold Pl.flushL
    split
    · rename_i i hi
      obtain ⟨f, hf, _⟩ := Pl.find_some hi
      split
      · split
        · exact Pl.WF.flushL l (h.put hf)
        · exact h.put hf
      · exact Pl.WF.flushL l h
    · exact Pl.WF.flushL l h
theorem pl0_wf {d : Dk} {m : Nat} (h1 : 8 ≤ m) (h2 : m ≤ 4096) : (pl0 d m).WF := by
  refine ⟨by simp [pl0], by simp [pl0], ⟨h1, h2⟩, ?_, ?_, by simp [pl0], ?_, ?_, ?_, ?_, by simp [pl0]⟩
  · intro f hf; simp [pl0] at hf
  · intro f hf; simp [pl0] at hf
  · intro f hf; simp [pl0] at hf
  · simp [pl0, Pl.pins]
  · intro i j f g hi; simp [pl0] at hi
  · intro f hf; simp [pl0] at hf

end Go.Proofs.YtbhddkmfhampbaaDoor
