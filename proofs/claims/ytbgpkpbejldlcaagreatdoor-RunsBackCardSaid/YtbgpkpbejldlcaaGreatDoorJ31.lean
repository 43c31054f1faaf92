/-
  The pool in plain words: what it holds, and what each call makes of it.
-/
import Derived.Test.YtbgpkpbejldlcaaGreatDoorDkm
import Derived.Test.YtbgpkpbejldlcaaGreatDoorPga
import Derived.Test.YtbgpkpbejldlcaaGreatDoorPgb
import Derived.Test.YtbgpkpbejldlcaaGreatDoorFxo
namespace Go.Proofs.YtbgpkpbejldlcaaGreatDoor

structure Fr where
  name : ByteArray
  page : Nat
  kind : UInt8
  b : List UInt8
  dirty : Bool
  pins : List Int
  left : Int
def fr0 : Fr := ⟨ByteArray.empty, 0, 0, [], false, [], 0⟩
def Fr.sealF (f : Fr) : List UInt8 := sealP f.kind f.b
structure Pl where
  d : Dk
  most : Nat
  fs : List Fr
  next : Int
  tick : Int
  peak : Nat
  wrong : Int

def Pl.frame (p : Pl) (i : Nat) : Fr := p.fs.getD i fr0
def Pl.find (p : Pl) (n : ByteArray) (g : Int) : Option Nat := p.fs.findIdx? fun f => f.name.toList == n.toList && decide ((f.page : Int) = g)
def Pl.held (p : Pl) (h : Int) : Option Nat := p.fs.findIdx? fun f => f.pins.contains h
def bad (e : Int) : Bool := e == 4 || e == 5 || e == 20
def Pl.met (p : Pl) (e : Int) : Pl := if bad e then { p with wrong := e } else p
/-- The end of a call: an error that breaks the pool stays. -/
def Pl.out (r : Pl × Int) : Pl × Int := (r.1.met r.2, r.2)
def Pl.setD (p : Pl) (d : Dk) : Pl := { p with d := d }
def Pl.drop (p : Pl) (i : Nat) : Pl := { p with fs := p.fs.eraseIdx i }
def Pl.turn (p : Pl) (i : Nat) (u : Fr → Fr) : Pl := { p with fs := p.fs.modify i u }
def Fr.clean (f : Fr) : Fr := { f with dirty := false }
/-- The frame 'i' is written. -/
def Pl.put (p : Pl) (i : Nat) : Pl × Int :=
  if (p.d.write (p.frame i).name (p.frame i).page (p.frame i).sealF).2 = 0 then ((p.setD (p.d.write (p.frame i).name (p.frame i).page (p.frame i).sealF).1).turn i Fr.clean, 0)
  else (p.setD (p.d.write (p.frame i).name (p.frame i).page (p.frame i).sealF).1, (p.d.write (p.frame i).name (p.frame i).page (p.frame i).sealF).2)
/-- The frame that was left longest ago, of those that none holds. -/
def lessB (f : Fr) (b : Option (Nat × Int)) : Bool := match b with | none => true | some x => decide (f.left < x.2)
def bestF : List Fr → Nat → Option (Nat × Int) → Option (Nat × Int)
  | [], _, b => b
  | f :: l, i, b => bestF l (i + 1) (if f.pins.isEmpty && lessB f b then some (i, f.left) else b)
def Pl.best (p : Pl) : Option Nat := (bestF p.fs 0 none).map (·.1)
def Pl.room (p : Pl) : Pl × Int :=
  if p.fs.length < p.most then (p, 0) else
  match p.best with
  | none => (p, 31)
  | some i => if (p.frame i).dirty then (if (p.put i).2 = 0 then ((p.put i).1.drop i, 0) else p.put i) else (p.drop i, 0)
def Fr.pin (h : Int) (f : Fr) : Fr := { f with pins := f.pins ++ [h] }
def Pl.pinAt (p : Pl) (i : Nat) : Pl := { p with fs := p.fs.modify i (Fr.pin p.next), next := w64 (p.next + 1) }
def Pl.add (p : Pl) (f : Fr) : Pl := { p with fs := p.fs ++ [f], peak := max p.peak (p.fs.length + 1) }
def Pl.take (p : Pl) (f : Fr) : Pl := (p.add f).pinAt p.fs.length
/-- A page is read into a frame. -/
def Pl.load (p : Pl) (n : ByteArray) (g : Int) : Pl × Option Fr × Int :=
  if (p.d.len n).2 ≠ 0 then (p, none, (p.d.len n).2)
  else if g < 0 ∨ g ≥ (p.d.len n).1 then (p, none, 12)
  else if p.room.2 ≠ 0 then (p.room.1, none, p.room.2)
  else if (p.room.1.d.read n g).2 ≠ 0 then (p.room.1, none, (p.room.1.d.read n g).2)
  else match openP (p.room.1.d.read n g).1 with
    | none => (p.room.1, none, 20)
    | some (k, b) => (p.room.1, some ⟨n, g.toNat, k, b, false, [], 0⟩, 0)
/-- A page is pinned: the handle, an error. -/
def Pl.pin (p : Pl) (n : ByteArray) (g : Int) : Pl × Int × Int :=
  if p.wrong ≠ 0 then (p, 0, p.wrong) else
  match p.find n g with
  | some i => (p.pinAt i, p.next, 0)
  | none =>
    match p.load n g with
    | (q, some f, _) => (q.take f, q.next, 0)
    | (q, none, e) => (q.met e, 0, e)
/-- A page more: the handle, its number, an error. -/
def Pl.fresh (p : Pl) (n : ByteArray) : Pl × Int × Int × Int :=
  if p.wrong ≠ 0 then (p, 0, 0, p.wrong)
  else if (p.d.len n).2 ≠ 0 then (p.met (p.d.len n).2, 0, 0, (p.d.len n).2)
  else if p.room.2 ≠ 0 then (p.room.1.met p.room.2, 0, 0, p.room.2)
  else if (p.room.1.d.write n (p.d.len n).1 (sealP 0 [])).2 ≠ 0 then ((p.room.1.setD (p.room.1.d.write n (p.d.len n).1 (sealP 0 [])).1).met (p.room.1.d.write n (p.d.len n).1 (sealP 0 [])).2, 0, 0, (p.room.1.d.write n (p.d.len n).1 (sealP 0 [])).2)
  else ((p.room.1.setD (p.room.1.d.write n (p.d.len n).1 (sealP 0 [])).1).take ⟨n, (p.d.len n).1, 0, [], false, [], 0⟩, p.room.1.next, (p.d.len n).1, 0)
def Pl.get (p : Pl) (h : Int) : UInt8 × List UInt8 × Int :=
  if p.wrong ≠ 0 then (0, [], p.wrong) else match p.held h with
  | some i => ((p.frame i).kind, (p.frame i).b, 0)
  | none => (0, [], 32)
def Fr.set (k : UInt8) (b : List UInt8) (f : Fr) : Fr := { f with kind := k, b := b, dirty := true }
def Pl.set (p : Pl) (h : Int) (k : UInt8) (b : List UInt8) : Pl × Int :=
  if p.wrong ≠ 0 then (p, p.wrong) else match p.held h with
  | some i => if b.length > 504 then (p, 2) else (p.turn i (Fr.set k b), 0)
  | none => (p, 32)
def Fr.unpin (h t : Int) (f : Fr) : Fr := { f with pins := f.pins.filter (fun x => decide (x ≠ h)), left := t }
def Pl.unpin (p : Pl) (h : Int) : Pl × Int :=
  if p.wrong ≠ 0 then (p, p.wrong) else match p.held h with
  | some i => ({ p with fs := p.fs.modify i (Fr.unpin h (w64 (p.tick + 1))), tick := w64 (p.tick + 1) }, 0)
  | none => (p, 32)
/-- A file's pages that lie in frames, rising. -/
def Pl.pagesOf (p : Pl) (n : ByteArray) : List Nat := ((p.fs.filter fun f => f.name.toList == n.toList).map (·.page)).mergeSort fun a b => decide (a ≤ b)
/-- Pages are written. -/
def Pl.flushL (n : ByteArray) : List Nat → Pl → Pl × Int
  | [], p => (p, 0)
  | k :: l, p =>
    match p.find n k with
    | some i => if (p.frame i).dirty then (if (p.put i).2 = 0 then flushL n l (p.put i).1 else p.put i) else flushL n l p
    | none => flushL n l p
def Pl.flush (p : Pl) (n : ByteArray) : Pl × Int :=
  if p.wrong ≠ 0 then (p, p.wrong)
  else if (p.d.len n).2 ≠ 0 then Pl.out (p, (p.d.len n).2)
  else if (Pl.flushL n (p.pagesOf n) p).2 ≠ 0 then Pl.out (Pl.flushL n (p.pagesOf n) p)
  else Pl.out ((Pl.flushL n (p.pagesOf n) p).1.setD ((Pl.flushL n (p.pagesOf n) p).1.d.sync n).1, ((Pl.flushL n (p.pagesOf n) p).1.d.sync n).2)
def Pl.forget (p : Pl) (n : ByteArray) : Pl := { p with fs := p.fs.filter fun f => !(f.name.toList == n.toList) }
def Pl.dropF (p : Pl) (n : ByteArray) : Pl × Int :=
  if p.wrong ≠ 0 then (p, p.wrong)
  else if (p.d.len n).2 ≠ 0 then Pl.out (p, (p.d.len n).2)
  else if p.fs.any (fun f => f.name.toList == n.toList && !f.pins.isEmpty) then (p, 31)
  else Pl.out ((p.forget n).setD (p.d.remove n).1, (p.d.remove n).2)
def Pl.pinned (p : Pl) : Nat := (p.fs.filter fun f => !f.pins.isEmpty).length
def pl0 (d : Dk) (m : Nat) : Pl := ⟨d, m, [], 1, 0, 0, 0⟩

def Fr.key (f : Fr) : ByteArray × Nat := (f.name, f.page)
def Pl.pins (p : Pl) : Nat := (p.fs.map fun f => f.pins.length).sum
/-- What holds of each pool. -/
structure Pl.WF (p : Pl) : Prop where
  keys : (p.fs.map Fr.key).Nodup
  len : p.fs.length ≤ p.most
  most : 8 ≤ p.most ∧ p.most ≤ 4096
  room : ∀ f ∈ p.fs, f.b.length ≤ 504
  pages : ∀ f ∈ p.fs, f.page < 1048577 ∧ f.name.size ≤ 9223372036854775807
  pins : (p.fs.flatMap (·.pins)).Nodup
  old : ∀ f ∈ p.fs, ∀ h ∈ f.pins, 1 ≤ h ∧ h < p.next
  tick : 0 ≤ p.tick ∧ p.tick + p.pins < p.next
  lefts : ∀ (i j : Nat) (f g : Fr), p.fs[i]? = some f → p.fs[j]? = some g → f.pins = [] → g.pins = [] → f.left = g.left → i = j
  past : ∀ f ∈ p.fs, 0 ≤ f.left ∧ f.left ≤ p.tick
  peak : p.fs.length ≤ p.peak ∧ p.peak ≤ p.most

/-! ### What is found -/

theorem findIdx_uniq {α : Type} {l : List α} {q : α → Bool} {i : Nat} {x : α} (hx : l[i]? = some x) (hq : q x = true) (hu : ∀ j y, l[j]? = some y → q y = true → j = i) : l.findIdx? q = some i := by
  obtain ⟨hi, rfl⟩ := List.getElem?_eq_some_iff.1 hx
  rw [List.findIdx?_eq_some_iff_getElem]
  refine ⟨hi, hq, fun j hj => ?_⟩
  cases h : q l[j] with
  | false => simp
  | true => have := hu j _ (List.getElem?_eq_getElem (by omega)) h; omega
theorem findIdx_get {α : Type} {l : List α} {q : α → Bool} {i : Nat} (h : l.findIdx? q = some i) : ∃ x, l[i]? = some x ∧ q x = true := by
  rw [List.findIdx?_eq_some_iff_getElem] at h
  obtain ⟨h1, h2, _⟩ := h
  exact ⟨l[i], List.getElem?_eq_getElem h1, h2⟩

theorem Pl.frame_eq {p : Pl} {i : Nat} {f : Fr} (h : p.fs[i]? = some f) : p.frame i = f := by simp [Pl.frame, h]
theorem Pl.find_some {p : Pl} {n : ByteArray} {g : Int} {i : Nat} (h : p.find n g = some i) : ∃ f, p.fs[i]? = some f ∧ f.name = n ∧ (f.page : Int) = g := by
  obtain ⟨f, h1, h2⟩ := findIdx_get h
  simp only [Bool.and_eq_true, beq_iff_eq, decide_eq_true_eq] at h2
  exact ⟨f, h1, ba_eq h2.1, h2.2⟩
theorem Pl.find_none {p : Pl} {n : ByteArray} {g : Int} (h : p.find n g = none) : ∀ f ∈ p.fs, f.name = n → (f.page : Int) ≠ g := by
  unfold Pl.find at h
  rw [List.findIdx?_eq_none_iff] at h
  intro f hf e e2
  have := h f hf
  rw [e] at this
  simp [e2] at this
theorem key_inj {p : Pl} (h : (p.fs.map Fr.key).Nodup) {i j : Nat} {f g : Fr} (hi : p.fs[i]? = some f) (hj : p.fs[j]? = some g) (e1 : f.name = g.name) (e2 : f.page = g.page) : i = j := by
  have hi' := (List.getElem?_eq_some_iff.1 hi).1
  refine (List.getElem?_inj (l := p.fs.map Fr.key) (by simpa using hi') h).1 ?_
  rw [List.getElem?_map, List.getElem?_map, hi, hj]
  simp [Fr.key, e1, e2]
theorem Pl.find_eq {p : Pl} (hw : p.WF) {i : Nat} {f : Fr} (h : p.fs[i]? = some f) : p.find f.name f.page = some i := by
  refine findIdx_uniq h (by simp) fun j g hj hg => ?_
  simp only [Bool.and_eq_true, beq_iff_eq, decide_eq_true_eq] at hg
  exact key_inj hw.keys hj h (ba_eq hg.1) (by omega)
theorem Pl.held_some {p : Pl} {h : Int} {i : Nat} (e : p.held h = some i) : ∃ f, p.fs[i]? = some f ∧ h ∈ f.pins := by
  obtain ⟨f, h1, h2⟩ := findIdx_get e
  exact ⟨f, h1, by simpa using h2⟩
theorem Pl.held_none {p : Pl} {h : Int} (e : p.held h = none) : ∀ f ∈ p.fs, h ∉ f.pins := by
  unfold Pl.held at e
  rw [List.findIdx?_eq_none_iff] at e
  intro f hf hm
  have := e f hf
  simp [hm] at this
theorem flat_inj {α β : Type} {u : α → List β} : ∀ {l : List α}, (l.flatMap u).Nodup → ∀ {i j : Nat} {f g : α} {x : β}, l[i]? = some f → l[j]? = some g → x ∈ u f → x ∈ u g → i = j
  | [], _, i, j, f, g, x, hi, _, _, _ => by simp at hi
  | a :: l, h, i, j, f, g, x, hi, hj, hf, hg => by
    rw [List.flatMap_cons, List.nodup_append] at h
    obtain ⟨h1, h2, h3⟩ := h
    match i, j with
    | 0, 0 => rfl
    | 0, j + 1 =>
      simp only [List.getElem?_cons_zero, Option.some.injEq, List.getElem?_cons_succ] at hi hj
      subst hi
      exact absurd rfl (h3 x hf x (List.mem_flatMap.2 ⟨g, List.mem_of_getElem? hj, hg⟩))
    | i + 1, 0 =>
      simp only [List.getElem?_cons_zero, Option.some.injEq, List.getElem?_cons_succ] at hi hj
      subst hj
      exact absurd rfl (h3 x hg x (List.mem_flatMap.2 ⟨f, List.mem_of_getElem? hi, hf⟩))
    | i + 1, j + 1 =>
      simp only [List.getElem?_cons_succ] at hi hj
      rw [flat_inj h2 hi hj hf hg]
theorem Pl.held_eq {p : Pl} (hw : p.WF) {i : Nat} {f : Fr} {h : Int} (e : p.fs[i]? = some f) (hm : h ∈ f.pins) : p.held h = some i :=
  findIdx_uniq e (by simpa using hm) fun _ _ hj hg => flat_inj hw.pins hj e (by simpa using hg) hm

/-! ### The best frame -/

/-- What a search has found so far. -/
def bestOk (l : List Fr) (b : Option (Nat × Int)) : Prop :=
  match b with
  | none => ∀ f ∈ l, f.pins ≠ []
  | some (i, t) => ∃ f, l[i]? = some f ∧ f.pins = [] ∧ f.left = t ∧ ∀ g ∈ l, g.pins = [] → t ≤ g.left
theorem bestF_ok : ∀ (r l : List Fr) (b : Option (Nat × Int)), bestOk l b → bestOk (l ++ r) (bestF r l.length b)
  | [], l, b, h => by simpa [bestF] using h
  | f :: r, l, b, h => by
    unfold bestF
    have key : bestOk (l ++ [f]) (if f.pins.isEmpty && lessB f b then some (l.length, f.left) else b) := by
      cases hp : f.pins.isEmpty with
      | false =>
        have hne : f.pins ≠ [] := by intro e; rw [e] at hp; cases hp
        rw [Bool.false_and, if_neg (by simp)]
        cases b with
        | none =>
          intro g hg
          rcases List.mem_append.1 hg with q | q
          · exact h g q
          · simp at q; subst q; exact hne
        | some it =>
          obtain ⟨i, t⟩ := it
          obtain ⟨g, h1, h2, h3, h4⟩ := h
          refine ⟨g, ?_, h2, h3, fun x hx hxp => ?_⟩
          · rw [List.getElem?_append_left (List.getElem?_eq_some_iff.1 h1).1]; exact h1
          · rcases List.mem_append.1 hx with q | q
            · exact h4 x q hxp
            · simp at q; subst q; exact absurd hxp hne
      | true =>
        have he : f.pins = [] := List.isEmpty_iff.1 hp
        cases b with
        | none =>
          rw [Bool.true_and, show lessB f none = true from rfl, if_pos rfl]
          refine ⟨f, by simp, he, rfl, fun x hx hxp => ?_⟩
          rcases List.mem_append.1 hx with q | q
          · exact absurd hxp (h x q)
          · simp at q; subst q; exact Int.le_refl _
        | some it =>
          obtain ⟨i, t⟩ := it
          obtain ⟨g, h1, h2, h3, h4⟩ := h
          rw [Bool.true_and]
          by_cases hlt : f.left < t
          · rw [show lessB f (some (i, t)) = true from by simp [lessB, hlt], if_pos rfl]
            refine ⟨f, by simp, he, rfl, fun x hx hxp => ?_⟩
            rcases List.mem_append.1 hx with q | q
            · have := h4 x q hxp; omega
            · simp at q; subst q; exact Int.le_refl _
          · rw [show lessB f (some (i, t)) = false from by simp [lessB, hlt], if_neg (by simp)]
            refine ⟨g, ?_, h2, h3, fun x hx hxp => ?_⟩
            · rw [List.getElem?_append_left (List.getElem?_eq_some_iff.1 h1).1]; exact h1
            · rcases List.mem_append.1 hx with q | q
              · exact h4 x q hxp
              · simp at q; subst q; omega
    have := bestF_ok r (l ++ [f]) _ key
    rw [List.length_append, List.length_singleton, List.append_assoc, List.singleton_append] at this
    exact this
theorem Pl.best_ok (p : Pl) : bestOk p.fs (bestF p.fs 0 none) := by
  have := bestF_ok p.fs [] none (by intro f hf; cases hf)
  simpa using this
theorem Pl.best_none {p : Pl} (h : p.best = none) : ∀ f ∈ p.fs, f.pins ≠ [] := by
  have := p.best_ok
  unfold Pl.best at h
  rw [Option.map_eq_none_iff] at h
  rw [h] at this
  exact this
theorem Pl.best_some {p : Pl} {i : Nat} (h : p.best = some i) : ∃ f, p.fs[i]? = some f ∧ f.pins = [] ∧ ∀ g ∈ p.fs, g.pins = [] → f.left ≤ g.left := by
  have := p.best_ok
  unfold Pl.best at h
  rw [Option.map_eq_some_iff] at h
  obtain ⟨⟨j, t⟩, h1, rfl⟩ := h
  rw [h1] at this
  obtain ⟨f, q1, q2, q3, q4⟩ := this
  exact ⟨f, q1, q2, fun g hg hp => by rw [q3]; exact q4 g hg hp⟩
/-- There is one best frame at most. -/
theorem Pl.best_eq {p : Pl} (hw : p.WF) {i : Nat} {f : Fr} (hf : p.fs[i]? = some f) (hp : f.pins = []) (hb : ∀ g ∈ p.fs, g.pins = [] → f.left ≤ g.left) : p.best = some i := by
  cases h : p.best with
  | none => exact absurd hp (Pl.best_none h f (List.mem_of_getElem? hf))
  | some j =>
    obtain ⟨g, h1, h2, h3⟩ := Pl.best_some h
    have e1 := hb g (List.mem_of_getElem? h1) h2
    have e2 := h3 f (List.mem_of_getElem? hf) hp
    rw [hw.lefts j i g f h1 hf h2 hp (by omega)]

/-! ### What holds stays so -/

theorem Pl.WF.frames {p q : Pl} (h : p.WF) (hf : q.fs = p.fs) (hm : q.most = p.most) (hn : q.next = p.next) (ht : q.tick = p.tick) (hk : q.peak = p.peak) : q.WF := by
  obtain ⟨d, most, fs, next, tick, peak, wrong⟩ := q
  obtain ⟨d', most', fs', next', tick', peak', wrong'⟩ := p
  simp only at hf hm hn ht hk
  subst hf; subst hm; subst hn; subst ht; subst hk
  exact ⟨h.keys, h.len, h.most, h.room, h.pages, h.pins, h.old, h.tick, h.lefts, h.past, h.peak⟩
theorem Pl.WF.setD {p : Pl} (h : p.WF) (d : Dk) : (p.setD d).WF := h.frames rfl rfl rfl rfl rfl
theorem Pl.WF.met {p : Pl} (h : p.WF) (e : Int) : (p.met e).WF := by
  unfold Pl.met
  split
  · exact h.frames rfl rfl rfl rfl rfl
  · exact h

theorem flatMap_modify {α β : Type} (u : α → List β) (g : α → α) : ∀ (l : List α) (i : Nat) (x : α), l[i]? = some x → u (g x) = u x → (l.modify i g).flatMap u = l.flatMap u
  | [], i, x, h, _ => by simp at h
  | a :: l, 0, x, h, e => by simp at h; subst h; simp [e]
  | a :: l, i + 1, x, h, e => by
    simp only [List.getElem?_cons_succ] at h
    simp [flatMap_modify u g l i x h e]
theorem map_modify_same {α β : Type} (u : α → β) (g : α → α) (l : List α) (i : Nat) (x : α) (h : l[i]? = some x) (e : u (g x) = u x) : (l.modify i g).map u = l.map u := by
  have := flatMap_modify (fun y => [u y]) g l i x h (by simp [e])
  simpa [List.flatMap_singleton', List.map_eq_flatMap] using this
theorem mem_modify {α : Type} {l : List α} {i : Nat} {g : α → α} {x y : α} (hx : l[i]? = some x) (hy : y ∈ l.modify i g) : y ∈ l ∨ y = g x := by
  obtain ⟨j, hj⟩ := List.mem_iff_getElem?.1 hy
  by_cases e : i = j
  · subst e; rw [modify_same hx] at hj; cases hj; exact .inr rfl
  · rw [modify_other e] at hj; exact .inl (List.mem_of_getElem? hj)

/-- A frame is turned; its handles stay. -/
theorem Pl.WF.turn {p : Pl} (h : p.WF) {i : Nat} {f : Fr} {u : Fr → Fr} (hf : p.fs[i]? = some f) (hk : (u f).key = f.key) (hp : (u f).pins = f.pins) (hl : (u f).left = f.left) (hb : (u f).b.length ≤ 504) : (p.turn i u).WF := by
  have hm := List.mem_of_getElem? hf
  have get : ∀ (j : Nat) (g : Fr), (p.fs.modify i u)[j]? = some g → ∃ g', p.fs[j]? = some g' ∧ g.pins = g'.pins ∧ g.left = g'.left := by
    intro j g hj
    by_cases e : i = j
    · subst e; rw [modify_same hf] at hj; cases hj; exact ⟨f, hf, hp, hl⟩
    · rw [modify_other e] at hj; exact ⟨g, hj, rfl, rfl⟩
  refine ⟨?_, ?_, h.most, ?_, ?_, ?_, ?_, ?_, ?_, ?_, ?_⟩
  · show ((p.fs.modify i u).map Fr.key).Nodup
    rw [map_modify_same Fr.key u p.fs i f hf hk]; exact h.keys
  · show (p.fs.modify i u).length ≤ p.most
    rw [List.length_modify]; exact h.len
  · intro g hg
    rcases mem_modify hf hg with q | q
    · exact h.room g q
    · subst q; exact hb
  · intro g hg
    rcases mem_modify hf hg with q | q
    · exact h.pages g q
    · subst q
      have e1 : (u f).page = f.page := congrArg Prod.snd hk
      have e2 : (u f).name = f.name := congrArg Prod.fst hk
      rw [e1, e2]; exact h.pages f hm
  · show ((p.fs.modify i u).flatMap (·.pins)).Nodup
    rw [flatMap_modify (·.pins) u p.fs i f hf hp]; exact h.pins
  · intro g hg
    rcases mem_modify hf hg with q | q
    · exact h.old g q
    · subst q; rw [hp]; exact h.old f hm
  · refine ⟨h.tick.1, ?_⟩
    have e : (p.turn i u).pins = p.pins := by
      show ((p.fs.modify i u).map fun f => f.pins.length).sum = _
      rw [map_modify_same (fun f => f.pins.length) u p.fs i f hf (by rw [hp])]; rfl
    rw [e]; exact h.tick.2
  · intro a b x y hx hy hxp hyp hxy
    obtain ⟨x', q1, q2, q3⟩ := get a x hx
    obtain ⟨y', r1, r2, r3⟩ := get b y hy
    exact h.lefts a b x' y' q1 r1 (by rw [← q2]; exact hxp) (by rw [← r2]; exact hyp) (by rw [← q3, ← r3]; exact hxy)
  · intro g hg
    rcases mem_modify hf hg with q | q
    · exact h.past g q
    · subst q; rw [hl]; exact h.past f hm
  · show (p.fs.modify i u).length ≤ p.peak ∧ _
    rw [List.length_modify]; exact h.peak
theorem Pl.WF.put {p : Pl} (h : p.WF) {i : Nat} {f : Fr} (hf : p.fs[i]? = some f) : (p.put i).1.WF := by
  unfold Pl.put
  split
  · exact (h.setD _).turn hf rfl rfl rfl (h.room f (List.mem_of_getElem? hf))
  · exact h.setD _

theorem eraseIdx_get {α : Type} {l : List α} {i j : Nat} {x : α} (h : (l.eraseIdx i)[j]? = some x) : l[if j < i then j else j + 1]? = some x := by
  rw [List.getElem?_eraseIdx] at h
  split
  · rename_i q; rw [if_pos q] at h; exact h
  · rename_i q; rw [if_neg q] at h; exact h
theorem flatMap_sublist {α β : Type} (u : α → List β) {l r : List α} (h : l.Sublist r) : (l.flatMap u).Sublist (r.flatMap u) := by
  induction h with
  | slnil => simp
  | cons a _ ih => rw [List.flatMap_cons]; exact ih.trans (List.sublist_append_right _ _)
  | cons_cons a _ ih => rw [List.flatMap_cons, List.flatMap_cons]; exact (List.Sublist.refl _).append ih
theorem sum_sublist {α : Type} (u : α → Nat) {l r : List α} (h : l.Sublist r) : (l.map u).sum ≤ (r.map u).sum := by
  induction h with
  | slnil => simp
  | cons a _ ih => rw [List.map_cons, List.sum_cons]; omega
  | cons_cons a _ ih => rw [List.map_cons, List.sum_cons, List.map_cons, List.sum_cons]; omega
/-- Fewer frames. -/
theorem Pl.WF.sub {p q : Pl} (h : p.WF) (hs : q.fs.Sublist p.fs) (hm : q.most = p.most) (hn : q.next = p.next) (ht : q.tick = p.tick) (hk : q.peak = p.peak) : q.WF := by
  have hmem : ∀ f ∈ q.fs, f ∈ p.fs := fun f hf => hs.subset hf
  have hlen := hs.length_le
  refine ⟨?_, by rw [hm]; have := h.len; omega, by rw [hm]; exact h.most, fun f hf => h.room f (hmem f hf), fun f hf => h.pages f (hmem f hf), ?_, fun f hf => by rw [hn]; exact h.old f (hmem f hf), ?_, ?_, fun f hf => by rw [ht]; exact h.past f (hmem f hf), by rw [hk, hm]; have := h.peak; omega⟩
  · exact (hs.map Fr.key).nodup h.keys
  · exact (flatMap_sublist (·.pins) hs).nodup h.pins
  · rw [ht, hn]
    refine ⟨h.tick.1, ?_⟩
    have : q.pins ≤ p.pins := by
      unfold Pl.pins
      exact sum_sublist (fun f : Fr => f.pins.length) hs
    have := h.tick.2
    omega
  · -- frames that none holds differ in when they were left
    have hpw : (p.fs.filter fun f => f.pins.isEmpty).Pairwise (fun f g => f.left ≠ g.left) := by
      rw [List.pairwise_filter, List.pairwise_iff_getElem]
      intro i j hi hj hij hfi hfj e
      have := h.lefts i j _ _ (List.getElem?_eq_getElem hi) (List.getElem?_eq_getElem hj) (List.isEmpty_iff.1 hfi) (List.isEmpty_iff.1 hfj) e
      omega
    have hpw2 : (q.fs.filter fun f => f.pins.isEmpty).Pairwise (fun f g => f.left ≠ g.left) := hpw.sublist (hs.filter _)
    rw [List.pairwise_filter, List.pairwise_iff_getElem] at hpw2
    intro i j f g hi hj hfp hgp e
    obtain ⟨hi', rfl⟩ := List.getElem?_eq_some_iff.1 hi
    obtain ⟨hj', rfl⟩ := List.getElem?_eq_some_iff.1 hj
    rcases Nat.lt_trichotomy i j with q1 | q1 | q1
    · exact absurd e (hpw2 i j hi' hj' q1 (List.isEmpty_iff.2 hfp) (List.isEmpty_iff.2 hgp))
    · exact q1
    · exact absurd e.symm (hpw2 j i hj' hi' q1 (List.isEmpty_iff.2 hgp) (List.isEmpty_iff.2 hfp))
theorem Pl.WF.drop {p : Pl} (h : p.WF) (i : Nat) : (p.drop i).WF := h.sub (List.eraseIdx_sublist _ _) rfl rfl rfl rfl
theorem Pl.WF.forget {p : Pl} (h : p.WF) (n : ByteArray) : (p.forget n).WF := h.sub List.filter_sublist rfl rfl rfl rfl

theorem Pl.put_len (p : Pl) (i : Nat) : (p.put i).1.fs.length = p.fs.length := by
  unfold Pl.put
  split
  · show (p.fs.modify i _).length = _; rw [List.length_modify]
  · rfl
theorem Pl.put_same (p : Pl) (i : Nat) : (p.put i).1.most = p.most ∧ (p.put i).1.next = p.next ∧ (p.put i).1.tick = p.tick ∧ (p.put i).1.peak = p.peak ∧ (p.put i).1.wrong = p.wrong := by
  unfold Pl.put; split <;> exact ⟨rfl, rfl, rfl, rfl, rfl⟩
theorem Pl.room_same (p : Pl) : p.room.1.most = p.most ∧ p.room.1.next = p.next ∧ p.room.1.tick = p.tick ∧ p.room.1.peak = p.peak ∧ p.room.1.wrong = p.wrong := by
  unfold Pl.room
  split
  · exact ⟨rfl, rfl, rfl, rfl, rfl⟩
  · split
    · exact ⟨rfl, rfl, rfl, rfl, rfl⟩
    · split
      · split
        · exact p.put_same _
        · exact p.put_same _
      · exact ⟨rfl, rfl, rfl, rfl, rfl⟩
theorem Pl.WF.roomed {p : Pl} (h : p.WF) : p.room.1.WF ∧ (p.room.2 = 0 → p.room.1.fs.length < p.most) := by
  unfold Pl.room
  split
  · rename_i q; exact ⟨h, fun _ => q⟩
  · split
    · exact ⟨h, fun q => by cases q⟩
    · rename_i i hi
      obtain ⟨f, hf, _, _⟩ := Pl.best_some hi
      have hil := (List.getElem?_eq_some_iff.1 hf).1
      have hlen := h.len
      split
      · split
        · refine ⟨(h.put hf).drop i, fun _ => ?_⟩
          show ((p.put i).1.fs.eraseIdx i).length < p.most
          rw [List.length_eraseIdx_of_lt (by rw [Pl.put_len]; exact hil), Pl.put_len]; omega
        · rename_i q
          exact ⟨h.put hf, fun q' => absurd q' q⟩
      · refine ⟨h.drop i, fun _ => ?_⟩
        show (p.fs.eraseIdx i).length < p.most
        rw [List.length_eraseIdx_of_lt hil]; omega

theorem flatMap_pin {h : Int} : ∀ (l : List Fr) (i : Nat) (f : Fr), l[i]? = some f → ((l.modify i (Fr.pin h)).flatMap (·.pins)).Perm (h :: l.flatMap (·.pins))
  | [], i, f, e => by simp at e
  | a :: l, 0, f, e => by
    simp only [List.modify_zero_cons, List.flatMap_cons, Fr.pin, List.append_assoc, List.singleton_append]
    exact List.perm_middle
  | a :: l, i + 1, f, e => by
    simp only [List.getElem?_cons_succ] at e
    simp only [List.modify_succ_cons, List.flatMap_cons]
    exact ((flatMap_pin l i f e).append_left a.pins).trans List.perm_middle
theorem Pl.WF.pinAt {p : Pl} (h : p.WF) {i : Nat} {f : Fr} (hf : p.fs[i]? = some f) (hn : p.next < 9223372036854775807) : (p.pinAt i).WF := by
  have hm := List.mem_of_getElem? hf
  have ht := h.tick
  have hw : w64 (p.next + 1) = p.next + 1 := by unfold w64; exact wrap64 (by omega) (by omega)
  refine ⟨?_, ?_, h.most, ?_, ?_, ?_, ?_, ?_, ?_, ?_, ?_⟩
  · show ((p.fs.modify i _).map Fr.key).Nodup
    rw [map_modify_same Fr.key _ p.fs i f hf rfl]; exact h.keys
  · show (p.fs.modify i _).length ≤ p.most
    rw [List.length_modify]; exact h.len
  · intro g hg
    rcases mem_modify hf hg with q | q
    · exact h.room g q
    · subst q; exact h.room f hm
  · intro g hg
    rcases mem_modify hf hg with q | q
    · exact h.pages g q
    · subst q; exact h.pages f hm
  · show ((p.fs.modify i _).flatMap (·.pins)).Nodup
    rw [(flatMap_pin p.fs i f hf).nodup_iff, List.nodup_cons]
    refine ⟨fun hx => ?_, h.pins⟩
    obtain ⟨g, hg, hgp⟩ := List.mem_flatMap.1 hx
    have := (h.old g hg _ hgp).2; omega
  · intro g hg x hx
    show 1 ≤ x ∧ x < w64 (p.next + 1)
    rw [hw]
    rcases mem_modify hf hg with q | q
    · have := h.old g q x hx; omega
    · subst q
      rcases List.mem_append.1 hx with r | r
      · have := h.old f hm x r; omega
      · simp at r; omega
  · show 0 ≤ p.tick ∧ p.tick + (((p.fs.modify i (Fr.pin p.next)).map fun f => f.pins.length).sum : Nat) < w64 (p.next + 1)
    rw [hw]
    have := sum_modify (fun f : Fr => f.pins.length) (Fr.pin p.next) p.fs i f hf
    simp only [Fr.pin, List.length_append, List.length_singleton] at this
    unfold Pl.pins at ht
    exact ⟨ht.1, by omega⟩
  · intro a b x y hx hy hxp hyp hxy
    have ne : ∀ (j : Nat) (g : Fr), (p.fs.modify i (Fr.pin p.next))[j]? = some g → g.pins = [] → p.fs[j]? = some g := by
      intro j g hj hg
      by_cases e : i = j
      · subst e; rw [modify_same hf] at hj; cases hj; simp [Fr.pin] at hg
      · rw [modify_other e] at hj; exact hj
    exact h.lefts a b x y (ne a x hx hxp) (ne b y hy hyp) hxp hyp hxy
  · intro g hg
    rcases mem_modify hf hg with q | q
    · exact h.past g q
    · subst q; exact h.past f hm
  · show (p.fs.modify i _).length ≤ p.peak ∧ _
    rw [List.length_modify]; exact h.peak

theorem Pl.add_at (p : Pl) (f : Fr) : (p.add f).fs[p.fs.length]? = some f := by simp [Pl.add]
/-- All but that a frame that none holds was left at another time than all others. -/
theorem Pl.WF.take {p : Pl} (h : p.WF) {f : Fr} (hl : p.fs.length < p.most) (hn : p.next < 9223372036854775807) (hk : p.find f.name f.page = none) (hb : f.b.length ≤ 504) (hpg : f.page < 1048577) (hnm : f.name.size ≤ 9223372036854775807) (hp : f.pins = []) (hlf : f.left = 0) : (p.take f).WF := by
  have ht := h.tick
  have hw : w64 (p.next + 1) = p.next + 1 := by unfold w64; exact wrap64 (by omega) (by omega)
  have e : (p.take f).fs = p.fs ++ [Fr.pin p.next f] := by
    show (p.fs ++ [f]).modify p.fs.length (Fr.pin p.next) = _
    have ha : (p.fs ++ [f])[p.fs.length]? = some f := p.add_at f
    rw [modify_set ha]
    simp
  have mem : ∀ g ∈ (p.take f).fs, g ∈ p.fs ∨ g = Fr.pin p.next f := fun g hg => by
    rw [e] at hg; simpa using hg
  have hnx : (p.take f).next = p.next + 1 := hw
  have hpk := h.peak
  refine ⟨?_, ?_, h.most, ?_, ?_, ?_, ?_, ?_, ?_, ?_, ?_⟩
  · rw [e, List.map_append, List.nodup_append]
    refine ⟨h.keys, by simp, fun a ha b hb2 => ?_⟩
    obtain ⟨g, hg, rfl⟩ := List.mem_map.1 ha
    simp only [List.map_cons, List.map_nil, List.mem_singleton] at hb2
    subst hb2
    intro eq
    have e1 : g.name = f.name := congrArg Prod.fst eq
    have e2 : g.page = f.page := congrArg Prod.snd eq
    exact Pl.find_none hk g hg e1 (by omega)
  · rw [e]; show _ ≤ p.most; simp; omega
  · intro g hg
    rcases mem g hg with q | q
    · exact h.room g q
    · subst q; exact hb
  · intro g hg
    rcases mem g hg with q | q
    · exact h.pages g q
    · subst q; exact ⟨hpg, hnm⟩
  · rw [e, List.flatMap_append, List.nodup_append]
    refine ⟨h.pins, by simp [Fr.pin, hp], fun a ha b hb2 => ?_⟩
    obtain ⟨g, hg, hga⟩ := List.mem_flatMap.1 ha
    simp [Fr.pin, hp] at hb2
    have := (h.old g hg a hga).2; omega
  · intro g hg x hx
    rw [hnx]
    rcases mem g hg with q | q
    · have := h.old g q x hx; omega
    · subst q
      simp [Fr.pin, hp] at hx
      omega
  · rw [hnx]
    refine ⟨ht.1, ?_⟩
    have : (p.take f).pins = p.pins + 1 := by
      unfold Pl.pins; rw [e]; simp [Fr.pin, hp]
    show p.tick + _ < _
    rw [this]; omega
  · intro a b x y hx hy hxp hyp hxy
    rw [e] at hx hy
    have ne : ∀ (j : Nat) (g : Fr), (p.fs ++ [Fr.pin p.next f])[j]? = some g → g.pins = [] → p.fs[j]? = some g := by
      intro j g hj hg
      rw [List.getElem?_append] at hj
      split at hj
      · exact hj
      · have : g = Fr.pin p.next f := by have := List.mem_of_getElem? hj; simpa using this
        subst this; simp [Fr.pin] at hg
    exact h.lefts a b x y (ne a x hx hxp) (ne b y hy hyp) hxp hyp hxy
  · intro g hg
    rcases mem g hg with q | q
    · exact h.past g q
    · subst q
      show 0 ≤ f.left ∧ f.left ≤ p.tick
      rw [hlf]; exact ⟨Int.le_refl _, ht.1⟩
  · rw [e]; show _ ≤ max p.peak (p.fs.length + 1) ∧ max p.peak (p.fs.length + 1) ≤ p.most
    simp only [List.length_append, List.length_singleton]
    omega

theorem filter_one {h : Int} {l : List Int} (hd : l.Nodup) (hm : h ∈ l) : (l.filter fun x => decide (x ≠ h)).length + 1 = l.length := by
  induction l with
  | nil => cases hm
  | cons a l ih =>
    rw [List.nodup_cons] at hd
    rw [List.filter_cons]
    by_cases e : a = h
    · subst e
      have : l.filter (fun x => decide (x ≠ a)) = l := by
        rw [List.filter_eq_self]
        intro x hx
        have : x ≠ a := fun e => hd.1 (e ▸ hx)
        simp [this]
      rw [this]; simp
    · have hm' : h ∈ l := by
        rcases List.mem_cons.1 hm with q | q
        · exact absurd q.symm e
        · exact q
      have := ih hd.2 hm'
      simp only [ne_eq, e, not_false_eq_true, decide_true, if_true, List.length_cons]
      simp only [ne_eq] at this
      omega
theorem flat_nodup {α β : Type} {u : α → List β} : ∀ {l : List α}, (l.flatMap u).Nodup → ∀ {i : Nat} {x : α}, l[i]? = some x → (u x).Nodup
  | [], _, i, x, h => by simp at h
  | a :: l, hd, 0, x, h => by
    rw [List.flatMap_cons, List.nodup_append] at hd
    simp at h; subst h; exact hd.1
  | a :: l, hd, i + 1, x, h => by
    rw [List.flatMap_cons, List.nodup_append] at hd
    exact flat_nodup hd.2.1 (by simpa using h)
theorem flatMap_sub {α β : Type} (u : α → List β) (g : α → α) (hg : ∀ x, (u (g x)).Sublist (u x)) : ∀ (l : List α) (i : Nat), ((l.modify i g).flatMap u).Sublist (l.flatMap u)
  | [], i => by simp
  | a :: l, 0 => by
    simp only [List.modify_zero_cons, List.flatMap_cons]
    exact (hg a).append (List.Sublist.refl _)
  | a :: l, i + 1 => by
    simp only [List.modify_succ_cons, List.flatMap_cons]
    exact (List.Sublist.refl _).append (flatMap_sub u g hg l i)
theorem Pl.WF.unpin {p : Pl} (hw : p.WF) (h : Int) (hn : p.next < 9223372036854775807) : (p.unpin h).1.WF := by
  unfold Pl.unpin
  split
  · exact hw
  · split
    · rename_i i hi
      obtain ⟨f, hf, hm⟩ := Pl.held_some hi
      have hfm := List.mem_of_getElem? hf
      have ht := hw.tick
      have hpins := filter_one (flat_nodup hw.pins hf) hm
      have hfl : f.pins.length ≤ p.pins := le_sum (fun f : Fr => f.pins.length) p.fs i f hf
      have hwt : w64 (p.tick + 1) = p.tick + 1 := by unfold w64; exact wrap64 (by omega) (by omega)
      rw [hwt]
      have get : ∀ (j : Nat) (g : Fr), (p.fs.modify i (Fr.unpin h (p.tick + 1)))[j]? = some g → (j = i ∧ g = Fr.unpin h (p.tick + 1) f) ∨ (j ≠ i ∧ p.fs[j]? = some g) := by
        intro j g hj
        by_cases e : i = j
        · subst e; rw [modify_same hf] at hj; cases hj; exact .inl ⟨rfl, rfl⟩
        · rw [modify_other e] at hj; exact .inr ⟨fun q => e q.symm, hj⟩
      refine ⟨?_, ?_, hw.most, ?_, ?_, ?_, ?_, ?_, ?_, ?_, ?_⟩
      · show ((p.fs.modify i _).map Fr.key).Nodup
        rw [map_modify_same Fr.key _ p.fs i f hf rfl]; exact hw.keys
      · show (p.fs.modify i _).length ≤ p.most
        rw [List.length_modify]; exact hw.len
      · intro g hg
        rcases mem_modify hf hg with q | q
        · exact hw.room g q
        · subst q; exact hw.room f hfm
      · intro g hg
        rcases mem_modify hf hg with q | q
        · exact hw.pages g q
        · subst q; exact hw.pages f hfm
      · exact (flatMap_sub (·.pins) (Fr.unpin h (p.tick + 1)) (fun x => List.filter_sublist) p.fs i).nodup hw.pins
      · intro g hg x hx
        rcases mem_modify hf hg with q | q
        · exact hw.old g q x hx
        · subst q; exact hw.old f hfm x (List.mem_filter.1 hx).1
      · show 0 ≤ p.tick + 1 ∧ p.tick + 1 + (((p.fs.modify i (Fr.unpin h (p.tick + 1))).map fun f => f.pins.length).sum : Nat) < p.next
        have := sum_modify (fun f : Fr => f.pins.length) (Fr.unpin h (p.tick + 1)) p.fs i f hf
        simp only [Fr.unpin] at this
        unfold Pl.pins at ht
        constructor
        · omega
        · omega
      · intro a b x y hx hy hxp hyp hxy
        rcases get a x hx with ⟨q1, q2⟩ | ⟨q1, q2⟩
        · rcases get b y hy with ⟨r1, r2⟩ | ⟨r1, r2⟩
          · omega
          · have := hw.past y (List.mem_of_getElem? r2)
            rw [q2] at hxy
            simp only [Fr.unpin] at hxy
            omega
        · rcases get b y hy with ⟨r1, r2⟩ | ⟨r1, r2⟩
          · have := hw.past x (List.mem_of_getElem? q2)
            rw [r2] at hxy
            simp only [Fr.unpin] at hxy
            omega
          · exact hw.lefts a b x y q2 r2 hxp hyp hxy
      · intro g hg
        show 0 ≤ g.left ∧ g.left ≤ p.tick + 1
        rcases mem_modify hf hg with q | q
        · have := hw.past g q; omega
        · subst q; simp only [Fr.unpin]; omega
      · show (p.fs.modify i _).length ≤ p.peak ∧ _
        rw [List.length_modify]; exact hw.peak
    · exact hw
theorem Pl.WF.set {p : Pl} (hw : p.WF) (h : Int) (k : UInt8) (b : List UInt8) : (p.set h k b).1.WF := by
  unfold Pl.set
  split
  · exact hw
  · split
    · rename_i i hi
      obtain ⟨f, hf, hm⟩ := Pl.held_some hi
      split
      · exact hw
      · exact hw.turn hf rfl rfl rfl (by simp only [Fr.set]; omega)
    · exact hw
theorem Pl.WF.flushL {n : ByteArray} : ∀ (l : List Nat) {p : Pl}, p.WF → (Pl.flushL n l p).1.WF
  | [], p, h => h
  | k :: l, p, h => by
    unfold Pl.flushL
    split
    · rename_i i hi
      obtain ⟨f, hf, _⟩ := Pl.find_some hi
      split
      · split
        · exact Pl.WF.flushL l (h.put hf)
        · exact h.put hf
      · exact Pl.WF.flushL l h
    · exact Pl.WF.flushL l h
theorem pl0_wf {d : Dk} {m : Nat} (h1 : 8 ≤ m) (h2 : m ≤ 4096) : (pl0 d m).WF := by
  refine ⟨by simp [pl0], by simp [pl0], ⟨h1, h2⟩, ?_, ?_, by simp [pl0], ?_, ?_, ?_, ?_, by simp [pl0]⟩
  · intro f hf; simp [pl0] at hf
  · intro f hf; simp [pl0] at hf
  · intro f hf; simp [pl0] at hf
  · simp [pl0, Pl.pins]
  · intro i j f g hi; simp [pl0] at hi
  · intro f hf; simp [pl0] at hf

end Go.Proofs.YtbgpkpbejldlcaaGreatDoor

/-
  The pool in memory: its frames and its two maps.
-/
namespace Go.Proofs.YtbgpkpbejldlcaaGreatDoor
open Go.MapKept

/-- A frame's places. -/
structure FrG where
  p : Nat
  b : Sl
def FrG.fp (g : FrG) (b : Nat) : Prop := b = g.p ∨ ownB g.b b
def frC (g : FrG) (f : Fr) : Array Value := #[.string f.name, .int .i64 (f.page : Int), .int .u8 (f.kind.toNat : Int), g.b.v, .bool f.dirty, .int .i64 (f.pins.length : Int), .int .i64 f.left]
structure FrAt (H : Heap) (g : FrG) (f : Fr) : Prop where
  row : RowT H g.p ty_pool_frame (frC g f)
  b : SlE EB ty_uint8 H g.b f.b

theorem FrAt.lt {H : Heap} {g : FrG} {f : Fr} (h : FrAt H g f) : ∀ b, g.fp b → b < H.size := by
  rintro b (rfl | hb)
  · exact obj_lt h.row
  · exact h.b.lt b hb
theorem FrAt.keep {H H' : Heap} {g : FrG} {f : Fr} (h : FrAt H g f) (k : ∀ b, g.fp b → b < H.size → H'[b]? = H[b]?) : FrAt H' g f :=
  ⟨(k _ (.inl rfl) (obj_lt h.row)).trans h.row, h.b.keep fun b hb => k b (.inr hb)⟩
theorem FrAt.obj {H : Heap} {g : FrG} {f : Fr} (h : FrAt H g f) : ∀ b, g.fp b → ∃ cs t, H[b]? = some (.cells cs t (0, 0)) ∧ (t = ty_pool_frame ∨ t = ty_uint8) := by
  rintro b (rfl | hb)
  · exact ⟨_, _, h.row, .inl rfl⟩
  · obtain ⟨c, q⟩ := h.b.obj b hb; exact ⟨c, _, q, .inr rfl⟩

def keyV (n : ByteArray) (g : Int) : Value := .agg #[.string n, .int .i64 g]
theorem keyV_inj {n m : ByteArray} {g k : Int} (h : keyV n g = keyV m k) : n = m ∧ g = k := by
  unfold keyV at h
  simp at h
  exact h
abbrev FZ := Fr × FrG
def kvF (zs : List FZ) : List (Value × Value) := zs.map fun z => (keyV z.1.name (z.1.page : Int), ptrV z.2.p)
def kvP (z : FZ) : List (Value × Value) := z.1.pins.map fun h => (Value.int .i64 h, ptrV z.2.p)
def kvH (zs : List FZ) : List (Value × Value) := zs.flatMap kvP

/-- A pool's places. -/
structure PG where
  mf : Nat
  ef : Array MapEntry
  cf : Nat
  mh : Nat
  eh : Array MapEntry
  ch : Nat
  zs : List FZ
def PG.fs (x : PG) : List Fr := x.zs.map (·.1)
def PG.fp (x : PG) (b : Nat) : Prop := b = x.mf ∨ b = x.mh ∨ ∃ z ∈ x.zs, z.2.fp b

/-- Is 'kt' a struct of a text and an integer? -/
def spotB (P : Program) (kt : TypeId) : Bool :=
  match P.underlying kt with
  | some (.struct fs) => (match fs.toList with
    | [f0, f1] => (match P.underlying f0.type with | some .string => true | _ => false) && (match P.underlying f1.type with | some (.int .i64) => true | _ => false)
      && Nat.beq f0.offset 0 && Nat.beq f1.offset 1 && Nat.beq (P.cellsOf f0.type) 1 && Nat.beq (P.cellsOf f1.type) 1 && (f0.name != "_") && (f1.name != "_") && Nat.beq (P.cellsOf kt) 2 && P.keyType kt && Nat.blt 0 P.types.size
    | _ => false)
  | _ => false
theorem spot_key {P : Program} {kt : TypeId} (h : spotB P kt = true) {n : ByteArray} {g : Int} (hn : n.size ≤ 9223372036854775807) (h0 : -9223372036854775808 ≤ g) (h1 : g ≤ 9223372036854775807) : KeyW P kt (keyV n g) := by
  unfold spotB at h
  split at h
  · rename_i fs hu
    split at h
    · rename_i f0 f1 hfs
      simp only [Bool.and_eq_true, bne_iff_ne, ne_eq] at h
      obtain ⟨⟨⟨⟨⟨⟨⟨⟨⟨⟨a1, a2⟩, a3⟩, a4⟩, a5⟩, a6⟩, a7⟩, a8⟩, a9⟩, a10⟩, a11⟩ := h
      have e3 := Nat.eq_of_beq_eq_true a3
      have e4 := Nat.eq_of_beq_eq_true a4
      have e5 := Nat.eq_of_beq_eq_true a5
      have e6 := Nat.eq_of_beq_eq_true a6
      have e9 := Nat.eq_of_beq_eq_true a9
      have hpos : 0 < P.types.size := blt_t.1 a11
      obtain ⟨m, hm⟩ : ∃ m, P.types.size = m + 1 := ⟨P.types.size - 1, by omega⟩
      split at a1
      · rename_i u0
        split at a2
        · rename_i u1
          have hform : Value.formed P kt (keyV n g) = true := by
            unfold keyV Value.formed
            simp only [hu, e9]
            rfl
          have hwf : (Lit.int .i64 g).wf = true := by
            unfold Lit.wf
            simp only [Bool.and_eq_true, decide_eq_true_eq]
            exact ⟨by show (-9223372036854775808 : Int) ≤ g; exact h0, by show g ≤ (9223372036854775807 : Int); exact h1⟩
          have hall : fs.all (fun f => f.name != "_") = true := by
            rw [← Array.all_toList, hfs]
            simp [a7, a8]
          have l0 : P.keyLits (m + 1) f0.type [.string n] = some [.string n.data.toList] := by
            unfold Program.keyLits
            simp only [u0]
            rw [if_pos (by unfold maxLen; omega)]
          have l1 : P.keyLits (m + 1) f1.type [.int .i64 g] = some [.int .i64 g] := by
            unfold Program.keyLits
            simp only [u1]
            rw [if_pos ⟨trivial, hwf⟩]
          refine ⟨.string (keyBytes [.string n.data.toList, .int .i64 g]), ?_⟩
          unfold Go.keyOf
          simp only [hu]
          rw [if_pos (by rw [a10, hform]; rfl), hm]
          unfold Program.keyLits
          simp only [hu]
          have hc2 : (keyV n g).cells.toList = [.string n, .int .i64 g] := rfl
          rw [hc2, if_pos ⟨by rw [e9]; rfl, hall⟩, hfs]
          simp [List.mapM_cons, e3, e4, e5, e6, l0, l1]
        · cases a2
      · cases a1
    · cases h
  · cases h

theorem keySpot : WideMaps.KeyLaw Tryz.prog ty_pool_spot := Go.deep_law_gate (by kernel_rfl) (Nat.le_of_ble_eq_true (by kernel_rfl)) (Nat.le_of_ble_eq_true (by kernel_rfl)) (by kernel_rfl) (by kernel_rfl)
theorem keyW_spot {n : ByteArray} {g : Int} (hn : n.size ≤ 9223372036854775807) (h0 : -9223372036854775808 ≤ g) (h1 : g ≤ 9223372036854775807) : KeyW Tryz.prog ty_pool_spot (keyV n g) := spot_key (by kernel_rfl) hn h0 h1

/-- The frames of a pool. -/
structure FramesAt (H : Heap) (x : PG) : Prop where
  fmap : MapW Tryz.prog ty_pool_spot H x.mf x.ef x.cf
  hmap : MapAt (.int .i64) H x.mh x.eh x.ch
  ne : x.mf ≠ x.mh
  size : x.ef.size = x.zs.length
  entF : ∀ k v, HasE x.ef k v ↔ (k, v) ∈ kvF x.zs
  entH : ∀ k v, HasE x.eh k v ↔ (k, v) ∈ kvH x.zs
  each : ∀ z ∈ x.zs, FrAt H z.2 z.1
  apart : ∀ (i j : Nat) (z z' : FZ), x.zs[i]? = some z → x.zs[j]? = some z' → i ≠ j → ∀ b, z.2.fp b → ¬ z'.2.fp b

theorem FramesAt.lt {H : Heap} {x : PG} (h : FramesAt H x) : ∀ b, x.fp b → b < H.size := by
  rintro b (rfl | rfl | ⟨z, hz, hb⟩)
  · exact h.fmap.lt
  · exact h.hmap.lt
  · exact (h.each z hz).lt b hb
theorem FramesAt.keep {H H' : Heap} {x : PG} (h : FramesAt H x) (k : ∀ b, x.fp b → b < H.size → H'[b]? = H[b]?) : FramesAt H' x :=
  ⟨⟨(k _ (.inl rfl) h.fmap.lt).trans h.fmap.obj, h.fmap.stamped, h.fmap.keys⟩, h.hmap.keep (k _ (.inr (.inl rfl)) h.hmap.lt), h.ne, h.size, h.entF, h.entH,
    fun z hz => (h.each z hz).keep fun b hb => k b (.inr (.inr ⟨z, hz, hb⟩)), h.apart⟩
/-- A block of a frame is no map. -/
theorem FramesAt.off {H : Heap} {x : PG} (h : FramesAt H x) {z : FZ} (hz : z ∈ x.zs) : ¬ z.2.fp x.mf ∧ ¬ z.2.fp x.mh := by
  constructor
  · intro hb
    obtain ⟨cs, t, e, _⟩ := (h.each z hz).obj _ hb
    rw [h.fmap.obj] at e; cases e
  · intro hb
    obtain ⟨cs, t, e, _⟩ := (h.each z hz).obj _ hb
    rw [h.hmap.obj] at e; cases e
theorem FramesAt.at {H : Heap} {x : PG} (_h : FramesAt H x) {i : Nat} {f : Fr} (hf : x.fs[i]? = some f) : ∃ g, x.zs[i]? = some (f, g) := by
  unfold PG.fs at hf
  rw [List.getElem?_map, Option.map_eq_some_iff] at hf
  obtain ⟨⟨f', g⟩, h1, rfl⟩ := hf
  exact ⟨g, h1⟩

theorem mem_set' {α : Type} {l : List α} {i : Nat} {a y : α} (hy : y ∈ l.set i a) : (∃ j, j ≠ i ∧ l[j]? = some y) ∨ y = a := by
  obtain ⟨j, hj⟩ := List.mem_iff_getElem?.1 hy
  by_cases e : i = j
  · subst e
    have hl : i < l.length := by have := (List.getElem?_eq_some_iff.1 hj).1; simpa using this
    rw [List.getElem?_set, if_pos rfl, if_pos hl] at hj; cases hj; exact .inr rfl
  · rw [List.getElem?_set, if_neg e] at hj; exact .inl ⟨j, fun q => e q.symm, hj⟩
theorem set_apart {H : Heap} {x : PG} (h : FramesAt H x) {i : Nat} {z z' : FZ} (hz : x.zs[i]? = some z) (hb : ∀ b, z'.2.fp b → z.2.fp b ∨ H.size ≤ b) :
    ∀ (a c : Nat) (u v : FZ), (x.zs.set i z')[a]? = some u → (x.zs.set i z')[c]? = some v → a ≠ c → ∀ b, u.2.fp b → ¬ v.2.fp b := by
  have hil := (List.getElem?_eq_some_iff.1 hz).1
  intro a c u v h1 h2 hac b hb1 hb2
  rw [List.getElem?_set] at h1 h2
  by_cases hia : i = a
  · subst hia
    rw [if_neg hac] at h2
    rw [if_pos rfl, if_pos hil] at h1
    cases h1
    have hbl := (h.each v (List.mem_of_getElem? h2)).lt b hb2
    rcases hb b hb1 with q | q
    · exact h.apart i c z v hz h2 hac b q hb2
    · omega
  · rw [if_neg hia] at h1
    have hbl := (h.each u (List.mem_of_getElem? h1)).lt b hb1
    by_cases hic : i = c
    · subst hic
      rw [if_pos rfl, if_pos hil] at h2
      cases h2
      rcases hb b hb2 with q | q
      · exact h.apart a i u z h1 hz hac b hb1 q
      · omega
    · rw [if_neg hic] at h2
      exact h.apart a c u v h1 h2 hac b hb1 hb2

/-- A frame is turned: its key and its block stay; the handles' map may be another. -/
theorem FramesAt.set {H H' : Heap} {x : PG} (h : FramesAt H x) {i : Nat} {z z' : FZ} {eh' : Array MapEntry} {ch' : Nat} (hz : x.zs[i]? = some z) (hn : z'.1.name = z.1.name) (hpg : z'.1.page = z.1.page) (hp : z'.2.p = z.2.p)
    (hq : FrAt H' z'.2 z'.1) (hh : MapAt (.int .i64) H' x.mh eh' ch') (hent : ∀ k v, HasE eh' k v ↔ (k, v) ∈ kvH (x.zs.set i z'))
    (hm : ∀ b, x.fp b → ¬ z.2.fp b → b ≠ x.mh → b < H.size → H'[b]? = H[b]?) (hb : ∀ b, z'.2.fp b → z.2.fp b ∨ H.size ≤ b) :
    FramesAt H' { x with zs := x.zs.set i z', eh := eh', ch := ch' } ∧ (∀ b, PG.fp { x with zs := x.zs.set i z', eh := eh', ch := ch' } b → x.fp b ∨ H.size ≤ b) := by
  have hzm := List.mem_of_getElem? hz
  have hoff := h.off hzm
  refine ⟨⟨⟨(hm _ (.inl rfl) hoff.1 h.ne h.fmap.lt).trans h.fmap.obj, h.fmap.stamped, h.fmap.keys⟩, hh, h.ne, by simp [h.size], ?_, hent, ?_, set_apart h hz hb⟩, ?_⟩
  · intro k v
    have : kvF (x.zs.set i z') = kvF x.zs := by
      unfold kvF
      rw [show x.zs.set i z' = x.zs.modify i (fun _ => z') from (modify_set (g := fun _ => z') hz).symm]
      exact map_modify_same _ _ _ _ _ hz (by simp only [hn, hpg, hp])
    rw [this]; exact h.entF k v
  · intro u hu
    rcases mem_set' hu with ⟨j, hji, hj⟩ | rfl
    · have hum := List.mem_of_getElem? hj
      exact (h.each u hum).keep fun b hb1 hl => hm b (.inr (.inr ⟨u, hum, hb1⟩)) (fun q => h.apart j i u z hj hz hji b hb1 q) (fun e => (h.off hum).2 (e ▸ hb1)) hl
    · exact hq
  · rintro b (e | e | ⟨u, hu, hb1⟩)
    · exact .inl (.inl e)
    · exact .inl (.inr (.inl e))
    · rcases mem_set' hu with ⟨j, _, hj⟩ | rfl
      · exact .inl (.inr (.inr ⟨u, List.mem_of_getElem? hj, hb1⟩))
      · exact (hb b hb1).imp (fun q => .inr (.inr ⟨z, hzm, q⟩)) id
/-- A frame is turned, its handles stay. -/
theorem FramesAt.turn {H H' : Heap} {x : PG} (h : FramesAt H x) {i : Nat} {z z' : FZ} (hz : x.zs[i]? = some z) (hn : z'.1.name = z.1.name) (hpg : z'.1.page = z.1.page) (hpi : z'.1.pins = z.1.pins) (hp : z'.2.p = z.2.p)
    (hq : FrAt H' z'.2 z'.1) (hm : ∀ b, x.fp b → ¬ z.2.fp b → b < H.size → H'[b]? = H[b]?) (hb : ∀ b, z'.2.fp b → z.2.fp b ∨ H.size ≤ b) :
    FramesAt H' { x with zs := x.zs.set i z' } ∧ (∀ b, PG.fp { x with zs := x.zs.set i z' } b → x.fp b ∨ H.size ≤ b) := by
  have hzm := List.mem_of_getElem? hz
  have hoff := h.off hzm
  refine h.set hz hn hpg hp hq (h.hmap.keep (hm _ (.inr (.inl rfl)) hoff.2 h.hmap.lt)) (fun k v => ?_) (fun b h1 h2 _ h4 => hm b h1 h2 h4) hb
  have : kvH (x.zs.set i z') = kvH x.zs := by
    unfold kvH
    rw [show x.zs.set i z' = x.zs.modify i (fun _ => z') from (modify_set (g := fun _ => z') hz).symm]
    exact flatMap_modify _ _ _ _ _ hz (by simp only [kvP, hpi, hp])
  rw [this]; exact h.entH k v

theorem kvF_append (l r : List FZ) : kvF (l ++ r) = kvF l ++ kvF r := by simp [kvF]
theorem kvH_append (l r : List FZ) : kvH (l ++ r) = kvH l ++ kvH r := by simp [kvH]
theorem kvP_nil {z : FZ} (h : z.1.pins = []) : kvP z = [] := by simp [kvP, h]
/-- A frame more. -/
theorem FramesAt.push {H H' : Heap} {x : PG} (h : FramesAt H x) {z : FZ} {ef' : Array MapEntry} {cf' : Nat} (hq : FrAt H' z.2 z.1) (hp : z.1.pins = []) (hf : MapW Tryz.prog ty_pool_spot H' x.mf ef' cf')
    (hent : ∀ k v, HasE ef' k v ↔ HasE x.ef k v ∨ (k = keyV z.1.name (z.1.page : Int) ∧ v = ptrV z.2.p)) (hs : ef'.size = x.ef.size + 1)
    (hm : ∀ b, x.fp b → b ≠ x.mf → b < H.size → H'[b]? = H[b]?) (hg : ∀ b, z.2.fp b → H.size ≤ b) : FramesAt H' { x with zs := x.zs ++ [z], ef := ef', cf := cf' } := by
  have old : ∀ u ∈ x.zs, FrAt H' u.2 u.1 := fun u hu => (h.each u hu).keep fun b hb hl => hm b (.inr (.inr ⟨u, hu, hb⟩)) (fun e => (h.off hu).1 (e ▸ hb)) hl
  refine ⟨hf, h.hmap.keep (hm _ (.inr (.inl rfl)) h.ne.symm h.hmap.lt), h.ne, by simp [hs, h.size], ?_, ?_, ?_, ?_⟩
  · intro k v
    rw [hent k v, kvF_append, List.mem_append, h.entF k v]
    simp [kvF]
  · intro k v
    rw [kvH_append, h.entH k v]
    simp [kvH, kvP_nil hp]
  · intro u hu
    rcases List.mem_append.1 hu with q | q
    · exact old u q
    · simp at q; subst q; exact hq
  · intro i j u v h1 h2 hij b hb1 hb2
    have ex : ∀ (i : Nat) (u : FZ), (x.zs ++ [z])[i]? = some u → (x.zs[i]? = some u) ∨ (i = x.zs.length ∧ u = z) := by
      intro i u h1
      by_cases hi : i < x.zs.length
      · rw [List.getElem?_append_left hi] at h1; exact .inl h1
      · rw [List.getElem?_append_right (by omega)] at h1
        have : i = x.zs.length := by
          have := (List.getElem?_eq_some_iff.1 h1).1; simp at this; omega
        subst this
        simp at h1
        exact .inr ⟨rfl, h1.symm⟩
    rcases ex i u h1 with q1 | ⟨e1, rfl⟩ <;> rcases ex j v h2 with q2 | ⟨e2, rfl⟩
    · exact h.apart i j u v q1 q2 hij b hb1 hb2
    · have := (h.each u (List.mem_of_getElem? q1)).lt b hb1
      have := hg b hb2; omega
    · have := (h.each v (List.mem_of_getElem? q2)).lt b hb2
      have := hg b hb1; omega
    · omega

theorem erase_back {α : Type} {l : List α} {i j : Nat} {a : α} (ha : (l.eraseIdx i)[j]? = some a) : ∃ j', j' ≠ i ∧ l[j']? = some a ∧ j' = if j < i then j else j + 1 := by
  rw [List.getElem?_eraseIdx] at ha
  split at ha
  · rename_i q; exact ⟨j, by omega, ha, by rw [if_pos q]⟩
  · rename_i q; exact ⟨j + 1, by omega, ha, by rw [if_neg q]⟩
theorem mem_erase {α : Type} {l : List α} {i : Nat} {a : α} : a ∈ l.eraseIdx i ↔ ∃ j, j ≠ i ∧ l[j]? = some a := List.mem_eraseIdx_iff_getElem?
/-- A frame less, of which there is no handle. -/
theorem FramesAt.erase {H H' : Heap} {x : PG} (h : FramesAt H x) {i : Nat} {z : FZ} {ef' : Array MapEntry} (hz : x.zs[i]? = some z) (hp : z.1.pins = []) (hk : (x.fs.map Fr.key).Nodup) (hf : MapW Tryz.prog ty_pool_spot H' x.mf ef' x.cf)
    (hent : ∀ k v, HasE ef' k v ↔ HasE x.ef k v ∧ k ≠ keyV z.1.name (z.1.page : Int)) (hs : ∀ u, HasE x.ef (keyV z.1.name (z.1.page : Int)) u → ef'.size + 1 = x.ef.size)
    (hm : ∀ b, x.fp b → b ≠ x.mf → b < H.size → H'[b]? = H[b]?) : FramesAt H' { x with zs := x.zs.eraseIdx i, ef := ef' } := by
  have old : ∀ u ∈ x.zs, FrAt H' u.2 u.1 := fun u hu => (h.each u hu).keep fun b hb hl => hm b (.inr (.inr ⟨u, hu, hb⟩)) (fun e => (h.off hu).1 (e ▸ hb)) hl
  have hil := (List.getElem?_eq_some_iff.1 hz).1
  have hzm := List.mem_of_getElem? hz
  have hsz := hs _ ((h.entF _ _).2 (List.mem_map.2 ⟨z, hzm, rfl⟩))
  have inj : ∀ (j : Nat) (u : FZ), x.zs[j]? = some u → u.1.name = z.1.name → u.1.page = z.1.page → j = i := by
    intro j u hj e1 e2
    have hjl := (List.getElem?_eq_some_iff.1 hj).1
    refine (List.getElem?_inj (l := x.fs.map Fr.key) (by simpa [PG.fs] using hjl) hk).1 ?_
    simp [PG.fs, hj, hz, Fr.key, e1, e2]
  refine ⟨hf, h.hmap.keep (hm _ (.inr (.inl rfl)) h.ne.symm h.hmap.lt), h.ne, ?_, ?_, ?_, ?_, ?_⟩
  · simp only; rw [List.length_eraseIdx_of_lt hil]; have := h.size; omega
  · intro k v
    rw [hent k v, h.entF k v]
    unfold kvF
    simp only [List.mem_map]
    constructor
    · rintro ⟨⟨u, hu, e⟩, hne⟩
      refine ⟨u, ?_, e⟩
      obtain ⟨j, hj⟩ := List.mem_iff_getElem?.1 hu
      refine mem_erase.2 ⟨j, fun q => ?_, hj⟩
      subst q; rw [hz] at hj; cases hj
      simp only [Prod.mk.injEq] at e
      exact hne e.1.symm
    · rintro ⟨u, hu, e⟩
      obtain ⟨j, hji, hj⟩ := mem_erase.1 hu
      refine ⟨⟨u, List.mem_of_getElem? hj, e⟩, fun q => hji ?_⟩
      simp only [Prod.mk.injEq] at e
      have := keyV_inj (e.1.trans q)
      exact inj j u hj this.1 (by omega)
  · intro k v
    rw [h.entH k v]
    unfold kvH
    simp only [List.mem_flatMap]
    constructor
    · rintro ⟨u, hu, e⟩
      refine ⟨u, ?_, e⟩
      obtain ⟨j, hj⟩ := List.mem_iff_getElem?.1 hu
      refine mem_erase.2 ⟨j, fun q => ?_, hj⟩
      subst q; rw [hz] at hj; cases hj
      rw [kvP_nil hp] at e; cases e
    · rintro ⟨u, hu, e⟩
      obtain ⟨j, hji, hj⟩ := mem_erase.1 hu
      exact ⟨u, List.mem_of_getElem? hj, e⟩
  · intro u hu
    exact old u (List.mem_of_mem_eraseIdx hu)
  · intro a c u v h1 h2 hac
    obtain ⟨j1, n1, q1, e1⟩ := erase_back h1
    obtain ⟨j2, n2, q2, e2⟩ := erase_back h2
    refine h.apart j1 j2 u v q1 q2 ?_
    rw [e1, e2]
    split <;> split <;> omega

/-- What stands at the head of a pool. -/
def headP (dp : Nat) (x : PG) (s : Pl) : Array Value := #[ptrV dp, .int .i64 (s.most : Int), .map (some x.mf), .map (some x.mh), .int .i64 s.next, .int .i64 s.tick, .int .i64 (s.peak : Int), .int .i64 s.wrong]
structure PoolG (x : PG) (H : Heap) (p dp : Nat) (s : Pl) : Prop where
  head : RowT H p ty_pool_Pool (headP dp x s)
  frames : FramesAt H x
  fs : s.fs = x.fs
  wf : s.WF
def PG.all (x : PG) (p b : Nat) : Prop := b = p ∨ x.fp b
theorem PoolG.off {x : PG} {H : Heap} {p : Nat} {cs : Array Value} (hd : RowT H p ty_pool_Pool cs) (h : FramesAt H x) : ¬ x.fp p := by
  rintro (e | e | ⟨z, hz, hb⟩)
  · have := h.fmap.obj; rw [← e, hd] at this; cases this
  · have := h.hmap.obj; rw [← e, hd] at this; cases this
  · obtain ⟨c, t, e, ht⟩ := (h.each z hz).obj _ hb
    have := cells_ty hd e
    rw [← this] at ht
    exact absurd ht (by decide)
theorem PoolG.lt {x : PG} {H : Heap} {p dp : Nat} {s : Pl} (h : PoolG x H p dp s) : ∀ b, x.all p b → b < H.size := by
  rintro b (rfl | hb)
  · exact obj_lt h.head
  · exact h.frames.lt b hb
theorem PoolG.keep {x : PG} {H H' : Heap} {p dp : Nat} {s : Pl} (h : PoolG x H p dp s) (k : ∀ b, x.all p b → b < H.size → H'[b]? = H[b]?) : PoolG x H' p dp s :=
  ⟨(k p (.inl rfl) (obj_lt h.head)).trans h.head, h.frames.keep fun b hb => k b (.inr hb), h.fs, h.wf⟩
theorem PoolG.setD {x : PG} {H : Heap} {p dp : Nat} {s : Pl} (h : PoolG x H p dp s) (d : Dk) : PoolG x H p dp (s.setD d) := ⟨h.head, h.frames, h.fs, h.wf.setD d⟩
theorem PoolG.at {x : PG} {H : Heap} {p dp : Nat} {s : Pl} (h : PoolG x H p dp s) {i : Nat} {f : Fr} (hf : s.fs[i]? = some f) : ∃ g, x.zs[i]? = some (f, g) ∧ FrAt H g f := by
  rw [h.fs] at hf
  obtain ⟨g, hg⟩ := h.frames.at hf
  exact ⟨g, hg, h.frames.each _ (List.mem_of_getElem? hg)⟩
theorem PoolG.n {x : PG} {H : Heap} {p dp : Nat} {s : Pl} (h : PoolG x H p dp s) : x.ef.size = s.fs.length := by rw [h.fs, h.frames.size]; simp [PG.fs]

/-- A pool and its disk. -/
structure PoolD (x : PG) (D : Nat → Prop) (H : Heap) (p dp : Nat) (s : Pl) : Prop where
  pool : PoolG x H p dp s
  disk : DiskAt D H dp s.d
  apart : ∀ b, D b → ¬ x.all p b
  glob : ¬ D gSteps ∧ ¬ x.all p gSteps
/-- At block 'p' lies the pool 's', over the disk at block 'dp', in the blocks 'F'. -/
def PoolAt (F : Nat → Prop) (H : Heap) (p dp : Nat) (s : Pl) : Prop := ∃ x D, PoolD x D H p dp s ∧ ∀ b, F b ↔ D b ∨ x.all p b

theorem PoolD.lt {x : PG} {D : Nat → Prop} {H : Heap} {p dp : Nat} {s : Pl} (h : PoolD x D H p dp s) : ∀ b, D b ∨ x.all p b → b < H.size := by
  rintro b (hb | hb)
  · exact h.disk.lt b hb
  · exact h.pool.lt b hb
theorem PoolAt.lt {F : Nat → Prop} {H : Heap} {p dp : Nat} {s : Pl} (h : PoolAt F H p dp s) : ∀ b, F b → b < H.size := by
  obtain ⟨x, D, g, hF⟩ := h
  exact fun b hb => g.lt b ((hF b).1 hb)
theorem PoolAt.keep {F : Nat → Prop} {H H' : Heap} {p dp : Nat} {s : Pl} (h : PoolAt F H p dp s) (k : ∀ b, F b → b < H.size → H'[b]? = H[b]?) : PoolAt F H' p dp s := by
  obtain ⟨x, D, g, hF⟩ := h
  exact ⟨x, D, ⟨g.pool.keep fun b hb => k b ((hF b).2 (.inr hb)), g.disk.keep fun b hb => k b ((hF b).2 (.inl hb)), g.apart, g.glob⟩, hF⟩
theorem PoolAt.wf {F : Nat → Prop} {H : Heap} {p dp : Nat} {s : Pl} (h : PoolAt F H p dp s) : s.WF := by obtain ⟨x, D, g, hF⟩ := h; exact g.pool.wf
theorem PoolAt.dwf {F : Nat → Prop} {H : Heap} {p dp : Nat} {s : Pl} (h : PoolAt F H p dp s) : s.d.WF := by obtain ⟨x, D, g, hF⟩ := h; exact g.disk.wf

/-- Two owners side by side: the one makes a step. -/
theorem Step.side {D D' P : Nat → Prop} {H H' : Heap} (h : Step D D' H H') (ha : ∀ b, D b → ¬ P b) (hl : ∀ b, P b → b < H.size) : (∀ b, D' b → ¬ P b) ∧ Step (fun b => D b ∨ P b) (fun b => D' b ∨ P b) H H' := by
  refine ⟨fun b hb hp => ?_, h.mod.mono fun b _ q => .inl q, ?_⟩
  · rcases h.own b hb with q | q
    · exact ha b q hp
    · have := hl b hp; omega
  · rintro b (q | q)
    · exact (h.own b q).imp .inl id
    · exact .inl (.inr q)
/-- The disk of a pool makes a step. -/
theorem PoolD.stepD {x : PG} {D D' : Nat → Prop} {H H' : Heap} {p dp : Nat} {s : Pl} {d : Dk} (hg : Gl H) (h : PoolD x D H p dp s) (hd : DiskAt D' H' dp d) (hs : Step D D' H H') :
    PoolD x D' H' p dp (s.setD d) ∧ Step (fun b => D b ∨ x.all p b) (fun b => D' b ∨ x.all p b) H H' := by
  obtain ⟨q1, q2⟩ := hs.side h.apart h.pool.lt
  exact ⟨⟨(h.pool.keep fun b hb hl => hs.mod.same b hl fun q => h.apart b q hb).setD d, hd, q1, fun q => by
    rcases hs.own _ q with r | r
    · exact h.glob.1 r
    · have := hg.lt; omega, h.glob.2⟩, q2⟩
/-- The pool itself makes a step. -/
theorem PoolD.stepP {x x' : PG} {D : Nat → Prop} {H H' : Heap} {p dp : Nat} {s s' : Pl} (hg : Gl H) (h : PoolD x D H p dp s) (hp : PoolG x' H' p dp s') (hd : s'.d = s.d) (hm : Mod (x.all p) H H') (ho : ∀ b, x'.fp b → x.fp b ∨ H.size ≤ b) :
    PoolD x' D H' p dp s' ∧ Step (fun b => D b ∨ x.all p b) (fun b => D b ∨ x'.all p b) H H' := by
  have hl := h.disk.lt
  refine ⟨⟨hp, by rw [hd]; exact h.disk.keep fun b hb hbl => hm.same b hbl (h.apart b hb), ?_, h.glob.1, ?_⟩, hm.mono fun b _ q => .inr q, ?_⟩
  · rintro b hb (q | q)
    · exact h.apart b hb (.inl q)
    · rcases ho b q with r | r
      · exact h.apart b hb (.inr r)
      · have := hl b hb; omega
  · rintro (q | q)
    · exact h.glob.2 (.inl q)
    · rcases ho _ q with r | r
      · exact h.glob.2 (.inr r)
      · have := hg.lt; omega
  · rintro b (q | q | q)
    · exact .inl (.inl q)
    · exact .inl (.inr (.inl q))
    · exact (ho b q).imp (fun r => .inr (.inr r)) id
theorem PoolAt.glob {F : Nat → Prop} {H : Heap} {p dp : Nat} {s : Pl} (h : PoolAt F H p dp s) : ¬ F gSteps := by
  obtain ⟨x, D, g, hF⟩ := h
  intro q
  rcases (hF _).1 q with r | r
  · exact g.glob.1 r
  · exact g.glob.2 r
theorem PoolD.gl {x : PG} {D : Nat → Prop} {H H' : Heap} {p dp : Nat} {s : Pl} (hg : Gl H) (h : PoolD x D H p dp s) (hm : Mod (fun b => D b ∨ x.all p b) H H') : Gl H' :=
  hg.mod hm fun r => r.elim h.glob.1 h.glob.2
/-- The end of a call. -/
theorem PoolD.out {x x' : PG} {D D' : Nat → Prop} {F : Nat → Prop} {H H' : Heap} {p dp : Nat} {s : Pl} (h : PoolD x' D' H' p dp s) (hF : ∀ b, F b ↔ D b ∨ x.all p b) (hs : Step (fun b => D b ∨ x.all p b) (fun b => D' b ∨ x'.all p b) H H') :
    ∃ F', PoolAt F' H' p dp s ∧ Step F F' H H' :=
  ⟨fun b => D' b ∨ x'.all p b, ⟨x', D', h, fun _ => Iff.rfl⟩, hs.mod.mono fun b _ q => (hF b).2 q, fun b hb => (hs.own b hb).imp (hF b).2 id⟩

end Go.Proofs.YtbgpkpbejldlcaaGreatDoor

/-
  The pool: a frame is written; the best frame; room; a handle more; a frame more.
-/
namespace Go.Proofs.YtbgpkpbejldlcaaGreatDoor
open Go.MapKept

theorem ready_pool_none {H : Heap} {K : Int → Heap → Prop} (hK : K 1 H) : pool_Pool_ready.sp none H K := by
  refine pool_Pool_ready.of ?_
  unfold pool_Pool_ready.vc
  exact hK
theorem ready_pool {x : PG} {H : Heap} {p dp : Nat} {s : Pl} {K : Int → Heap → Prop} (h : PoolG x H p dp s) (hK : K s.wrong H) : pool_Pool_ready.sp (at0 p) H K := by
  refine pool_Pool_ready.of ?_
  unfold pool_Pool_ready.vc
  exact h.head.ld (c := cInt .i64) (i := 7) (x := s.wrong) rfl hK

/-- What stands at the head is turned. -/
theorem PoolG.turnHead {x : PG} {H H' : Heap} {p dp : Nat} {s s' : Pl} (h : PoolG x H p dp s) (hr : RowT H' p ty_pool_Pool (headP dp x s')) (hm : Mod (fun b => b = p) H H') (hf : s'.fs = s.fs) (hw : s'.WF) : PoolG x H' p dp s' :=
  ⟨hr, h.frames.keep fun b hb hl => hm.same b hl fun e => PoolG.off h.head h.frames (e ▸ hb), hf.trans h.fs, hw⟩

theorem met_ok {x : PG} {D : Nat → Prop} {H : Heap} {p dp : Nat} {s : Pl} {e : Int} {K : Int → Heap → Prop} (hg : Gl H) (h : PoolD x D H p dp s)
    (hK : ∀ H', PoolD x D H' p dp (s.met e) → Step (fun b => D b ∨ x.all p b) (fun b => D b ∨ x.all p b) H H' → K e H') : pool_Pool_met.sp (at0 p) e H K := by
  refine pool_Pool_met.of ?_
  unfold pool_Pool_met.vc
  simp only [optK_eq]
  have hw := h.pool.wf.met e
  have bads : bad e = true → st H (Addr.add ⟨p, 0, none⟩ 7) (.int .i64 e) fun H1 => K e H1 := by
    intro hb
    have em : s.met e = { s with wrong := e } := by unfold Pl.met; rw [if_pos hb]
    refine h.pool.head.st (i := 7) (by decide : 7 < 8) (by rfl) fun H' r m z => ?_
    have hp : PoolG x H' p dp (s.met e) := h.pool.turnHead (by rw [em]; exact r) m (by rw [em]) hw
    obtain ⟨q1, q2⟩ := h.stepP hg hp (by rw [em]) (m.mono fun b _ q => .inl q) (fun b q => .inl q)
    exact hK H' q1 q2
  have good : bad e = false → K e H := by
    intro hb
    have em : s.met e = s := by unfold Pl.met; rw [hb]; rfl
    exact hK H (by rw [em]; exact h) (.refl _ _)
  refine br_mk (fun h4 => br_t h4 (bads (by simp [bad] at h4 ⊢; exact .inl (.inl h4)))) (fun h4 => ?_)
  refine br_mk (fun h5 => br_t h5 (bads (by simp [bad] at h5 ⊢; exact .inl (.inr h5)))) (fun h5 => ?_)
  refine br_mk (fun h6 => bads (by simp [bad] at h6 ⊢; exact .inr h6)) (fun h6 => good (by simp [bad] at h4 h5 h6 ⊢; exact ⟨⟨h4, h5⟩, h6⟩))

/-! ### A frame is written -/

theorem writeF_ok {D : Nat → Prop} {H : Heap} {p dp : Nat} {d : Dk} {g : FrG} {f : Fr} {cs : Array Value} {K : Int → Heap → Prop} (hg : Gl H) (hd : DiskAt D H dp d) (hp : RowT H p ty_pool_Pool cs) (hp0 : cs[0]? = some (ptrV dp))
    (hf : FrAt H g f) (hb : f.b.length ≤ 504) (hfD : ∀ b, g.fp b → ¬ D b) (hlogs : d.logs < 68719476736)
    (hK0 : (d.write f.name f.page f.sealF).2 ≠ 0 → ∀ D' H', DiskAt D' H' dp (d.write f.name f.page f.sealF).1 → Step D D' H H' → K (d.write f.name f.page f.sealF).2 H')
    (hK1 : (d.write f.name f.page f.sealF).2 = 0 → ∀ D' H1 H2, DiskAt D' H1 dp (d.write f.name f.page f.sealF).1 → Step D D' H H1 → FrAt H2 g f.clean → Mod (fun b => b = g.p) H1 H2 → H2.size = H1.size → K 0 H2) :
    pool_Pool_write.sp (at0 p) (at0 g.p) H K := by
  refine pool_Pool_write.of ?_
  unfold pool_Pool_write.vc
  simp only [optK_eq, add_add, Nat.reduceAdd]
  refine hf.row.ld (c := cInt .u8) (i := 2) (x := (f.kind.toNat : Int)) rfl ?_
  refine hf.row.ld (c := cSl) (i := 3) (x := g.b) rfl ?_
  refine Seal_ok hg (SlB_byts hf.b) hb fun r H1 o1 m1 f1 => br_f rfl ?_
  have p1 : RowT H1 p ty_pool_Pool cs := hp.ext m1
  have hf1 : FrAt H1 g f := hf.keep fun b _ hl => m1.same b hl id
  have hd1 : DiskAt D H1 dp d := hd.keep fun b _ hl => m1.same b hl id
  refine p1.ld (c := cPtr) (i := 0) (x := at0 dp) hp0 ?_
  refine hf1.row.ld (c := cStr) (i := 0) (x := f.name) rfl ?_
  refine hf1.row.ld (c := cInt .i64) (i := 1) (x := (f.page : Int)) rfl ?_
  have hlt := hd.lt
  refine Write_ok hd1 (SlB_byts o1) (fun ad ha hD => ?_) hlogs fun D' H2 a2 S2 => ?_
  · have := f1 ad.block ⟨ad, ha, rfl⟩
    have := hlt _ hD; omega
  have S02 : Step D D' H H2 := ⟨⟨Nat.le_trans m1.size S2.mod.size, fun b hb hn => (S2.mod.same b (by have := m1.size; omega) hn).trans (m1.same b hb id)⟩, fun b hb => (S2.own b hb).imp id (fun q => Nat.le_trans m1.size q)⟩
  have hf2 : FrAt H2 g f := hf1.keep fun b hb hl => S2.mod.same b hl (hfD b hb)
  show br ((d.write f.name f.page f.sealF).2 == 0) _ _
  refine br_mk (fun hz => ?_) (fun hz => ?_)
  · have hz' : (d.write f.name f.page f.sealF).2 = 0 := by simpa using hz
    refine hf2.row.st (i := 4) (by decide : 4 < 7) (by rfl) fun H3 r3 m3 z3 => ?_
    have := hK1 hz' D' H2 H3 a2 S02 ⟨r3, hf2.b.keep fun b hb hl => m3.same b hl fun e => ?_⟩ m3 z3
    · show K (d.write f.name f.page f.sealF).2 H3
      rw [hz']; exact this
    · obtain ⟨c, q⟩ := hf2.b.obj b hb
      rw [e] at q
      exact absurd (cells_ty hf2.row q) (by decide)
  · have hz' : (d.write f.name f.page f.sealF).2 ≠ 0 := by simpa using hz
    exact hK0 hz' D' H2 a2 S02

theorem put_ok' {x : PG} {D : Nat → Prop} {H : Heap} {p dp : Nat} {s : Pl} {i : Nat} {f : Fr} {g : FrG} {K : Int → Heap → Prop} (hg : Gl H) (h : PoolD x D H p dp s) (hz : x.zs[i]? = some (f, g)) (hlogs : s.d.logs < 68719476736)
    (hK0 : (s.put i).2 ≠ 0 → ∀ D' H', PoolD x D' H' p dp (s.put i).1 → Step (fun b => D b ∨ x.all p b) (fun b => D' b ∨ x.all p b) H H' → K (s.put i).2 H')
    (hK1 : (s.put i).2 = 0 → ∀ D' H', PoolD { x with zs := x.zs.set i (f.clean, g) } D' H' p dp (s.put i).1 → Step (fun b => D b ∨ x.all p b) (fun b => D' b ∨ PG.all { x with zs := x.zs.set i (f.clean, g) } p b) H H' → K 0 H') :
    pool_Pool_write.sp (at0 p) (at0 g.p) H K := by
  have hzm := List.mem_of_getElem? hz
  have hfs : s.fs[i]? = some f := by rw [h.pool.fs]; simp [PG.fs, hz]
  have hfr := Pl.frame_eq hfs
  have hA := h.pool.frames.each _ hzm
  unfold Pl.put at hK0 hK1
  rw [hfr] at hK0 hK1
  refine writeF_ok (f := f) (d := s.d) hg h.disk h.pool.head rfl hA (h.pool.wf.room f (List.mem_of_getElem? hfs)) (fun b hb hD => h.apart b hD (.inr (.inr (.inr ⟨_, hzm, hb⟩)))) hlogs (fun hne D' H' a S => ?_) (fun he D' H1 H2 a S hf2 m2 z2 => ?_)
  · rw [if_neg hne] at hK0
    obtain ⟨q1, q2⟩ := h.stepD hg a S
    exact hK0 hne D' H' q1 q2
  · rw [if_pos he] at hK1
    obtain ⟨q1, q2⟩ := h.stepD hg a S
    have hg1 : Gl H1 := h.gl hg q2.mod
    have hfp : ∀ b, g.fp b → x.all p b := fun b hb => .inr (.inr (.inr ⟨_, hzm, hb⟩))
    obtain ⟨t1, t2⟩ := q1.pool.frames.turn (H' := H2) (z' := (f.clean, g)) hz rfl rfl rfl rfl hf2 (fun b _ hn hl => m2.same b hl fun e => hn (e ▸ .inl rfl)) (fun b hb => .inl hb)
    have hp2 : PoolG { x with zs := x.zs.set i (f.clean, g) } H2 p dp ((s.setD (s.d.write f.name f.page f.sealF).1).turn i Fr.clean) := by
      refine ⟨m2.at q1.pool.head fun e => PoolG.off q1.pool.head q1.pool.frames (e ▸ .inr (.inr ⟨_, hzm, .inl rfl⟩)), t1, ?_, ?_⟩
      · show s.fs.modify i Fr.clean = (x.zs.set i (f.clean, g)).map (·.1)
        rw [modify_set hfs, h.pool.fs]
        simp [PG.fs, List.map_set]
      · exact (h.pool.wf.setD _).turn hfs rfl rfl rfl (h.pool.wf.room f (List.mem_of_getElem? hfs))
    obtain ⟨u1, u2⟩ := q1.stepP hg1 hp2 rfl (m2.mono fun b _ e => hfp b (.inl e)) t2
    exact hK1 rfl D' H2 u1 (q2.trans u2)

/-! ### The best frame -/

theorem FramesAt.ptr {H : Heap} {x : PG} (h : FramesAt H x) {z z' : FZ} (hz : z ∈ x.zs) (hz' : z' ∈ x.zs) (e : z.2.p = z'.2.p) : z = z' := by
  obtain ⟨i, hi⟩ := List.mem_iff_getElem?.1 hz
  obtain ⟨j, hj⟩ := List.mem_iff_getElem?.1 hz'
  by_cases hij : i = j
  · subst hij; rw [hi] at hj; exact Option.some.inj hj
  · exact absurd (.inl e) (h.apart i j z z' hi hj hij z.2.p (.inl rfl))
theorem FramesAt.entry {H : Heap} {x : PG} (h : FramesAt H x) {e : MapEntry} (he : e ∈ x.ef.toList) : ∃ z ∈ x.zs, e.key = keyV z.1.name (z.1.page : Int) ∧ e.val = ptrV z.2.p := by
  have := (h.entF e.key e.val).1 ⟨e, he, rfl, rfl⟩
  obtain ⟨z, hz, q⟩ := List.mem_map.1 this
  simp only [Prod.mk.injEq] at q
  exact ⟨z, hz, q.1.symm, q.2.symm⟩
theorem FramesAt.entryOf {H : Heap} {x : PG} (h : FramesAt H x) {z : FZ} (hz : z ∈ x.zs) : ∃ e ∈ x.ef.toList, e.key = keyV z.1.name (z.1.page : Int) ∧ e.val = ptrV z.2.p := by
  obtain ⟨e, he, h1, h2⟩ := (h.entF _ _).2 (List.mem_map.2 ⟨z, hz, rfl⟩)
  exact ⟨e, he, h1, h2⟩
def bestZ (x : PG) (l : List MapEntry) (b : Option Addr) : Prop :=
  match b with
  | none => ∀ e ∈ l, ∀ z ∈ x.zs, e.val = ptrV z.2.p → z.1.pins ≠ []
  | some a => ∃ z ∈ x.zs, a = ⟨z.2.p, 0, none⟩ ∧ z.1.pins = [] ∧ ∀ e ∈ l, ∀ z' ∈ x.zs, e.val = ptrV z'.2.p → z'.1.pins = [] → z.1.left ≤ z'.1.left

theorem mapSpot : ∃ (et : TypeId) (inf : TypeInfo), Tryz.prog.underlying ty_maparr_pool_spot_ptr_pool_frame = some (.map ty_pool_spot et) ∧ Tryz.prog.info? et = some inf ∧ inf.zero = some (.pointer none) := by
  obtain ⟨D, hD⟩ := Option.isSome_iff_exists.1 (by kernel_rfl : (Tryz.prog.underlying ty_pool_spot).isSome = true)
  obtain ⟨et, inf, h1, _, h3, h4⟩ := MapPT_of (P := Tryz.prog) (t := ty_maparr_pool_spot_ptr_pool_frame) (kt := ty_pool_spot) (by kernel_rfl) hD
  exact ⟨et, inf, h1, h3, h4⟩

theorem first_ok {x : PG} {H : Heap} {p dp : Nat} {s : Pl} {K : Option Addr → Heap → Prop} (h : PoolG x H p dp s) (hN : s.best = none → ∀ H', Ext H H' → K none H')
    (hS : ∀ i f g, s.best = some i → x.zs[i]? = some (f, g) → ∀ H', Ext H H' → K (at0 g.p) H') : pool_Pool_first.sp (at0 p) H K := by
  refine pool_Pool_first.of ?_
  unfold pool_Pool_first.vc
  simp only [optK_eq]
  refine h.head.ld (c := cMap) (i := 2) (x := some x.mf) rfl ?_
  obtain ⟨et, inf, hu, _⟩ := mapSpot
  have hF := h.frames
  refine doT_rangeW hu hF.fmap fun H1 hit e1 => ?_
  have hsz := obj_lt hit
  have hF1 : FramesAt H1 x := hF.keep fun b _ hl => e1.same b hl id
  refine map_rangeW (it := H.size) (fun l b A => bestZ x l b ∧ Mod (fun k => k = H.size) H1 A) hF1.fmap hit ⟨(by intro e he; cases he), .refl _ _⟩ (fun l b A A' q m _ => ⟨q.1, q.2.trans m⟩) ?_ ?_
  · rintro l e b A next ⟨hI, hM⟩ he _ _ _ _ _ hnext
    obtain ⟨z, hz, _, hv⟩ := hF.entry he
    have hA : FramesAt A x := hF1.keep fun c hc hl => hM.same c hl fun q => by have := hF.lt c hc; omega
    have hz1 := hA.each z hz
    refine ⟨at0 z.2.p, by rw [hv]; rfl, ?_⟩
    refine pool_Pool_room_c1.of ?_
    unfold pool_Pool_room_c1.vc
    simp only [optK_eq]
    refine hz1.row.ld (c := cInt .i64) (i := 5) (x := (z.1.pins.length : Int)) rfl ?_
    have same : ∀ z' ∈ x.zs, e.val = ptrV z'.2.p → z' = z := fun z' hz' hv' => hF.ptr hz' hz (by rw [hv] at hv'; exact (ptrV_inj hv').symm)
    refine br_mk (fun hp => ?_) (fun hp => ?_)
    · have hp0 : z.1.pins = [] := by
        have : (z.1.pins.length : Int) = 0 := by simpa using hp
        exact List.eq_nil_of_length_eq_zero (by omega)
      cases b with
      | none =>
        refine br_t rfl (hnext _ _ ⟨⟨z, hz, rfl, hp0, ?_⟩, hM⟩ rfl rfl)
        intro e' he' z' hz' hv' hp'
        rcases List.mem_append.1 he' with q | q
        · exact absurd hp' (hI e' q z' hz' hv')
        · simp at q; subst q; rw [same z' hz' hv']; exact Int.le_refl _
      | some a =>
        obtain ⟨y, hy, rfl, hyp, hyl⟩ := hI
        have hy1 := hA.each y hy
        refine br_f rfl ?_
        refine pool_Pool_room_c2.of ?_
        unfold pool_Pool_room_c2.vc
        simp only [optK_eq]
        refine hz1.row.ld (c := cInt .i64) (i := 6) (x := z.1.left) rfl ?_
        refine hy1.row.ld (c := cInt .i64) (i := 6) (x := y.1.left) rfl ?_
        refine br_mk (fun hlt => ?_) (fun hlt => ?_)
        · have hlt : z.1.left < y.1.left := by simpa using hlt
          refine hnext _ _ ⟨⟨z, hz, rfl, hp0, ?_⟩, hM⟩ rfl rfl
          intro e' he' z' hz' hv' hp'
          rcases List.mem_append.1 he' with q | q
          · have := hyl e' q z' hz' hv' hp'; omega
          · simp at q; subst q; rw [same z' hz' hv']; exact Int.le_refl _
        · have hlt : ¬ z.1.left < y.1.left := by simpa using hlt
          refine hnext _ _ ⟨⟨y, hy, rfl, hyp, ?_⟩, hM⟩ rfl rfl
          intro e' he' z' hz' hv' hp'
          rcases List.mem_append.1 he' with q | q
          · exact hyl e' q z' hz' hv' hp'
          · simp at q; subst q; rw [same z' hz' hv']; omega
    · have hp0 : z.1.pins ≠ [] := by
        intro q; rw [q] at hp; simp at hp
      refine hnext _ _ ⟨?_, hM⟩ rfl rfl
      cases b with
      | none =>
        intro e' he' z' hz' hv'
        rcases List.mem_append.1 he' with q | q
        · exact hI e' q z' hz' hv'
        · simp at q; subst q; rw [same z' hz' hv']; exact hp0
      | some a =>
        obtain ⟨y, hy, rfl, hyp, hyl⟩ := hI
        refine ⟨y, hy, rfl, hyp, ?_⟩
        intro e' he' z' hz' hv' hp'
        rcases List.mem_append.1 he' with q | q
        · exact hyl e' q z' hz' hv' hp'
        · simp at q; subst q; rw [same z' hz' hv'] at hp'; exact absurd hp' hp0
  · rintro l b A ⟨hI, hM⟩ hperm _
    have hE : Ext H A := ⟨by have := e1.size; have := hM.size; omega, fun c hc _ => (hM.same c (by omega) (by omega)).trans (e1.same c hc id)⟩
    cases b with
    | none =>
      refine hN ?_ A hE
      cases hb : s.best with
      | none => rfl
      | some i =>
        obtain ⟨f, hf, hp, _⟩ := Pl.best_some hb
        obtain ⟨g, hg, _⟩ := h.at hf
        have hzm := List.mem_of_getElem? hg
        obtain ⟨e, he, _, hv⟩ := hF.entryOf hzm
        exact absurd hp (hI e (hperm.mem_iff.2 he) _ hzm hv)
    | some a =>
      obtain ⟨z, hz, rfl, hp, hl⟩ := hI
      obtain ⟨i, hi⟩ := List.mem_iff_getElem?.1 hz
      have hfs : s.fs[i]? = some z.1 := by rw [h.fs]; simp [PG.fs, hi]
      refine hS i z.1 z.2 (Pl.best_eq h.wf hfs hp fun f' hf' hp' => ?_) hi A hE
      obtain ⟨j, hj⟩ := List.mem_iff_getElem?.1 hf'
      obtain ⟨g', hg', _⟩ := h.at hj
      have hzm := List.mem_of_getElem? hg'
      obtain ⟨e, he, _, hv⟩ := hF.entryOf hzm
      exact hl e (hperm.mem_iff.2 he) _ hzm hv hp'

end Go.Proofs.YtbgpkpbejldlcaaGreatDoor

/-
  The pool: room is made; a handle more; a frame more; a page is read.
-/
namespace Go.Proofs.YtbgpkpbejldlcaaGreatDoor
open Go.MapKept

theorem map_erase {α β : Type} (u : α → β) : ∀ (l : List α) (i : Nat), (l.eraseIdx i).map u = (l.map u).eraseIdx i
  | [], i => by simp
  | a :: l, 0 => by simp
  | a :: l, i + 1 => by simp [map_erase u l i]
theorem FrAt.at_ld {H : Heap} {g : FrG} {f : Fr} {K : (ByteArray × Int) → Prop} (h : FrAt H g f) (hK : K (f.name, (f.page : Int))) : ldA (cAgg [cStr, (cInt .i64)]) 2 H (Addr.add ⟨g.p, 0, none⟩ 0) K := by
  refine ⟨(f.name, (f.page : Int)), ?_, hK⟩
  refine RowT.hRow (o := 0) (ds := #[.string f.name, .int .i64 (f.page : Int)]) h.row rfl fun i hi => ?_
  have : i = 0 ∨ i = 1 := by omega
  rcases this with rfl | rfl <;> rfl
theorem PoolG.lenF {x : PG} {H : Heap} {p dp : Nat} {s : Pl} {K : Nat → Prop} (h : PoolG x H p dp s) (hK : K s.fs.length) : lenM H (some x.mf) K :=
  ⟨s.fs.length, ⟨x.ef, x.cf, h.frames.fmap.obj, h.n⟩, hK⟩
theorem Pl.WF.key {s : Pl} (h : s.WF) {i : Nat} {f : Fr} (hf : s.fs[i]? = some f) : KeyW Tryz.prog ty_pool_spot (keyV f.name (f.page : Int)) := by
  have := h.pages f (List.mem_of_getElem? hf)
  exact keyW_spot this.2 (by omega) (by omega)

/-- A frame that none holds is forgotten. -/
theorem del_ok {x : PG} {D : Nat → Prop} {H : Heap} {p dp : Nat} {s : Pl} {i : Nat} {f : Fr} {g : FrG} {ty : TypeId} {K : Value → Heap → Prop} (hg : Gl H) (h : PoolD x D H p dp s) (hz : x.zs[i]? = some (f, g)) (hp : f.pins = [])
    (hK : ∀ ef' v H', PoolD { x with zs := x.zs.eraseIdx i, ef := ef' } D H' p dp (s.drop i) → Step (fun b => D b ∨ x.all p b) (fun b => D b ∨ PG.all { x with zs := x.zs.eraseIdx i, ef := ef' } p b) H H' → Mod (fun b => b = x.mf) H H' → K v H') :
    doT cRaw Tryz.prog (Builtin.delete_ #[ty_maparr_pool_spot_ptr_pool_frame, ty_pool_spot] ty #[(.map (some x.mf)), (.agg #[(.string f.name), (.int .i64 (f.page : Int))])]) H K := by
  have hfs : s.fs[i]? = some f := by rw [h.pool.fs]; simp [PG.fs, hz]
  obtain ⟨et, inf, hu, _⟩ := mapSpot
  have hkey := h.pool.wf.key hfs
  refine doT_deleteW (k := keyV f.name (f.page : Int)) hu keySpot h.pool.frames.fmap hkey fun ef' H' m' it sz mo z' => ?_
  have hF := h.pool.frames.erase hz hp (by have := h.pool.wf.keys; rw [h.pool.fs] at this; exact this) m' it sz (fun b _ hne hl => mo.same b hl hne)
  have hpm : p ≠ x.mf := fun e => PoolG.off h.pool.head h.pool.frames (.inl e)
  have hp' : PoolG { x with zs := x.zs.eraseIdx i, ef := ef' } H' p dp (s.drop i) := by
    refine ⟨mo.at h.pool.head hpm, hF, ?_, h.pool.wf.drop i⟩
    show s.fs.eraseIdx i = (x.zs.eraseIdx i).map (·.1)
    rw [h.pool.fs, map_erase]; rfl
  obtain ⟨q1, q2⟩ := h.stepP hg hp' rfl (mo.mono fun b _ e => .inr (.inl e)) (by
    rintro b (e | e | ⟨z, hz', hb⟩)
    · exact .inl (.inl e)
    · exact .inl (.inr (.inl e))
    · exact .inl (.inr (.inr ⟨z, List.mem_of_mem_eraseIdx hz', hb⟩)))
  exact hK ef' _ H' q1 q2 mo

theorem room_ok {x : PG} {D : Nat → Prop} {H : Heap} {p dp : Nat} {s : Pl} {K : Int → Heap → Prop} (hg : Gl H) (h : PoolD x D H p dp s) (hlogs : s.d.logs < 68719476736)
    (hK : ∀ x' D' H', PoolD x' D' H' p dp s.room.1 → Step (fun b => D b ∨ x.all p b) (fun b => D' b ∨ x'.all p b) H H' → K s.room.2 H') : pool_Pool_room.sp (at0 p) H K := by
  refine pool_Pool_room.of ?_
  unfold pool_Pool_room.vc
  simp only [optK_eq]
  refine h.pool.head.ld (c := cMap) (i := 2) (x := some x.mf) rfl ?_
  refine h.pool.lenF ?_
  refine h.pool.head.ld (c := cInt .i64) (i := 1) (x := (s.most : Int)) rfl ?_
  refine br_mk (fun hc => ?_) (fun hc => ?_)
  · have e : s.room = (s, 0) := by unfold Pl.room; rw [if_pos (by simpa using hc)]
    rw [e] at hK
    exact hK x D H h (.refl _ _)
  have hlen : ¬ s.fs.length < s.most := by simpa using hc
  refine first_ok h.pool (fun hN H1 e1 => ?_) (fun i f g hb hz H1 e1 => ?_)
  · have e : s.room = (s, 31) := by unfold Pl.room; rw [if_neg hlen, hN]
    rw [e] at hK
    refine br_t rfl (hK x D H1 ⟨h.pool.keep fun b _ hl => e1.same b hl id, h.disk.keep fun b _ hl => e1.same b hl id, h.apart, h.glob⟩ ⟨Ext.mod e1, fun b q => .inl q⟩)
  · have h1 : PoolD x D H1 p dp s := ⟨h.pool.keep fun b _ hl => e1.same b hl id, h.disk.keep fun b _ hl => e1.same b hl id, h.apart, h.glob⟩
    have S1 : Step (fun b => D b ∨ x.all p b) (fun b => D b ∨ x.all p b) H H1 := ⟨Ext.mod e1, fun b q => .inl q⟩
    have hg1 : Gl H1 := hg.mod e1 id
    have hzm := List.mem_of_getElem? hz
    have hfs : s.fs[i]? = some f := by rw [h.pool.fs]; simp [PG.fs, hz]
    have hfr := Pl.frame_eq hfs
    obtain ⟨f0, hf0, hp0, _⟩ := Pl.best_some hb
    rw [hfs] at hf0; cases hf0
    have hA := h1.pool.frames.each _ hzm
    refine br_f rfl ?_
    simp only [optK_eq]
    refine hA.row.ld (c := cBool) (i := 4) (x := f.dirty) rfl ?_
    have er : s.room = (if f.dirty then (if (s.put i).2 = 0 then ((s.put i).1.drop i, 0) else s.put i) else (s.drop i, 0)) := by
      unfold Pl.room; rw [if_neg hlen, hb]; simp only [hfr]
    cases hd : f.dirty with
    | true =>
      rw [hd, if_pos rfl] at er
      refine br_t rfl ?_
      refine put_ok' hg1 h1 hz hlogs (fun hne D' H2 h2 S2 => ?_) (fun he D' H2 h2 S2 => ?_)
      · rw [if_neg hne] at er
        rw [er] at hK
        exact br_t (by simpa using hne) (hK x D' H2 h2 (S1.trans S2))
      · rw [if_pos he] at er
        rw [er] at hK
        refine br_f rfl ?_
        have hil := (List.getElem?_eq_some_iff.1 hz).1
        have hz2 : (x.zs.set i (f.clean, g))[i]? = some (f.clean, g) := by simp [hil]
        have hA2 := h2.pool.frames.each _ (List.mem_of_getElem? hz2)
        refine h2.pool.head.ld (c := cMap) (i := 2) (x := some x.mf) rfl ?_
        refine FrAt.at_ld hA2 ?_
        have hg2 : Gl H2 := h1.gl hg1 S2.mod
        refine del_ok (x := { x with zs := x.zs.set i (f.clean, g) }) hg2 h2 hz2 hp0 fun ef' v H3 h3 S3 _ => ?_
        exact hK _ D' H3 h3 ((S1.trans S2).trans S3)
    | false =>
      rw [hd, if_neg (by simp)] at er
      rw [er] at hK
      refine br_f rfl ?_
      refine h1.pool.head.ld (c := cMap) (i := 2) (x := some x.mf) rfl ?_
      refine FrAt.at_ld hA ?_
      refine del_ok hg1 h1 hz hp0 fun ef' v H3 h3 S3 _ => ?_
      exact hK _ D H3 h3 (S1.trans S3)

/-! ### A handle more -/

theorem mapHand : MapPT Tryz.prog ty_maparr_int_ptr_pool_frame ty_int (.int .i64) := MapPT_of (by kernel_rfl) (by kernel_rfl)

theorem kvH_pin {h : Int} : ∀ (zs : List FZ) (i : Nat) (f : Fr) (g : FrG), zs[i]? = some (f, g) → ∀ k v, (k, v) ∈ kvH (zs.set i (Fr.pin h f, g)) ↔ (k, v) ∈ kvH zs ∨ (k = .int .i64 h ∧ v = ptrV g.p)
  | [], i, f, g, e, k, v => by simp at e
  | a :: l, 0, f, g, e, k, v => by
    simp at e; subst e
    simp only [List.set_cons_zero, kvH, List.flatMap_cons, List.mem_append, kvP, Fr.pin, List.map_append, List.map_cons, List.map_nil, List.mem_singleton, Prod.mk.injEq]
    constructor
    · rintro ((q | q) | q)
      · exact .inl (.inl q)
      · exact .inr q
      · exact .inl (.inr q)
    · rintro ((q | q) | q)
      · exact .inl (.inl q)
      · exact .inr q
      · exact .inl (.inr q)
  | a :: l, i + 1, f, g, e, k, v => by
    have ih := kvH_pin (h := h) l i f g (by simpa using e) k v
    simp only [List.set_cons_succ, kvH, List.flatMap_cons, List.mem_append] at ih ⊢
    rw [ih, or_assoc]

theorem pinAt_ok {x : PG} {D : Nat → Prop} {H : Heap} {p dp : Nat} {s : Pl} {i : Nat} {f : Fr} {g : FrG} {K : Int → Heap → Prop} (hg : Gl H) (h : PoolD x D H p dp s) (hz : x.zs[i]? = some (f, g)) (hn : s.next < 9223372036854775807)
    (hwf : (s.pinAt i).WF) (hpl : (f.pins.length : Int) < 9223372036854775807)
    (hK : ∀ x' H', PoolD x' D H' p dp (s.pinAt i) → Step (fun b => D b ∨ x.all p b) (fun b => D b ∨ x'.all p b) H H' → K s.next H') : pool_Pool_pin.sp (at0 p) (at0 g.p) H K := by
  refine pool_Pool_pin.of ?_
  unfold pool_Pool_pin.vc
  simp only [optK_eq]
  have hzm := List.mem_of_getElem? hz
  have hfs : s.fs[i]? = some f := by rw [h.pool.fs]; simp [PG.fs, hz]
  have hA := h.pool.frames.each _ hzm
  refine hA.row.ld (c := cInt .i64) (i := 5) (x := (f.pins.length : Int)) rfl ?_
  refine hA.row.st (i := 5) (by decide : 5 < 7) (by rfl) fun H1 r1 m1 z1 => ?_
  have hpg : p ≠ g.p := fun e => PoolG.off h.pool.head h.pool.frames (e ▸ .inr (.inr ⟨_, hzm, .inl rfl⟩))
  have hd1 : RowT H1 p ty_pool_Pool (headP dp x s) := m1.at h.pool.head hpg
  refine hd1.ld (c := cMap) (i := 3) (x := some x.mh) rfl ?_
  refine hd1.ld (c := cInt .i64) (i := 4) (x := s.next) rfl ?_
  obtain ⟨et, inf, hu, hd, hi', hzz⟩ := mapHand
  have hoff := h.pool.frames.off hzm
  have hgm : g.p ≠ x.mh := fun e => hoff.2 (.inl e.symm)
  have hh1 : MapAt (.int .i64) H1 x.mh x.eh x.ch := h.pool.frames.hmap.keep (m1.same _ h.pool.frames.hmap.lt (fun e => hgm e.symm))
  have hno : ∀ u, ¬ HasE x.eh (.int .i64 s.next) u := by
    intro u hu'
    have := (h.pool.frames.entH _ _).1 hu'
    obtain ⟨z, hz', hk⟩ := List.mem_flatMap.1 this
    obtain ⟨q, hq, e⟩ := List.mem_map.1 hk
    simp only [Prod.mk.injEq, Value.int.injEq, true_and] at e
    have hzf : z.1 ∈ s.fs := by rw [h.pool.fs]; exact List.mem_map.2 ⟨z, hz', rfl⟩
    have := (h.pool.wf.old _ hzf _ hq).2
    omega
  refine doU_insert hu hd hh1 (k := .int .i64 s.next) (show IntKind.i64 = IntKind.i64 from rfl) hno fun H2 hm2 m2 z2 => ?_
  have hpm : p ≠ x.mh := fun e => PoolG.off h.pool.head h.pool.frames (.inr (.inl e))
  have hd2 : RowT H2 p ty_pool_Pool (headP dp x s) := m2.at hd1 hpm
  refine hd2.ld (c := cInt .i64) (i := 4) (x := s.next) rfl ?_
  refine hd2.st (i := 4) (by decide : 4 < 8) (by rfl) fun H3 r3 m3 z3 => ?_
  refine r3.ld (c := cInt .i64) (i := 4) (x := w64 (s.next + 1)) rfl ?_
  have ht := h.pool.wf.tick
  have hw : w64 (s.next + 1) = s.next + 1 := by unfold w64; exact wrap64 (by omega) (by omega)
  have er : IntKind.i64.wrap (w64 (s.next + 1) - 1) = s.next := by
    have e1 : w64 (s.next + 1) - 1 = s.next := by omega
    rw [e1]; exact wrap64 (by omega) (by omega)
  rw [er]
  have hm13 : Mod (fun b => b = g.p ∨ b = x.mh ∨ b = p) H H3 := ((m1.mono fun b _ e => .inl e).trans (m2.mono fun b _ e => .inr (.inl e))).trans (m3.mono fun b _ e => .inr (.inr e))
  have ew : IntKind.i64.wrap ((f.pins.length : Int) + 1) = (((Fr.pin s.next f).pins.length : Nat) : Int) := by
    rw [wrap64 (by omega) (by omega)]; simp [Fr.pin]
  have hq : FrAt H3 g (Fr.pin s.next f) := by
    refine ⟨?_, hA.b.keep fun b hb hl => hm13.same b hl ?_⟩
    · have := m3.at (m2.at r1 hgm) (fun e => hpg e.symm)
      rw [ew] at this
      exact this
    · obtain ⟨c, q⟩ := hA.b.obj b hb
      rintro (e | e | e)
      · rw [e] at q; exact absurd (cells_ty hA.row q) (by decide)
      · rw [e, h.pool.frames.hmap.obj] at q; cases q
      · rw [e] at q; exact absurd (cells_ty h.pool.head q) (by decide)
  have hF := h.pool.frames.set (H' := H3) (z' := (Fr.pin s.next f, g)) hz rfl rfl rfl hq (hm2.keep (m3.same _ hm2.lt (fun e => hpm e.symm))) (fun k v => by
    rw [HasE_push, h.pool.frames.entH, kvH_pin x.zs i f g hz]
    exact Iff.rfl) (fun b hb hn1 hn2 hl => hm13.same b hl (by
      rintro (e | e | e)
      · exact hn1 (.inl e)
      · exact hn2 e
      · exact PoolG.off h.pool.head h.pool.frames (e ▸ hb))) (fun b hb => .inl hb)
  have hp3 : PoolG { x with zs := x.zs.set i (Fr.pin s.next f, g), eh := x.eh.push { key := .int .i64 s.next, val := ptrV g.p, born := x.ch }, ch := x.ch + 1 } H3 p dp (s.pinAt i) := by
    refine ⟨r3, hF.1, ?_, hwf⟩
    show s.fs.modify i (Fr.pin s.next) = (x.zs.set i (Fr.pin s.next f, g)).map (·.1)
    rw [modify_set hfs, h.pool.fs]
    simp [PG.fs, List.map_set]
  obtain ⟨q1, q2⟩ := h.stepP hg hp3 rfl (hm13.mono fun b _ e => by
    rcases e with e | e | e
    · exact .inr (.inr (.inr ⟨_, hzm, .inl e⟩))
    · exact .inr (.inr (.inl e))
    · exact .inl e) hF.2
  exact hK _ H3 q1 q2

end Go.Proofs.YtbgpkpbejldlcaaGreatDoor

/-
  The pool: a frame more; a page is read into a frame.
-/
namespace Go.Proofs.YtbgpkpbejldlcaaGreatDoor
open Go.MapKept

/-- What stands for a pool on its way to hold a frame more. -/
structure NewAt (x : PG) (D : Nat → Prop) (H : Heap) (p : Nat) (g : FrG) (f : Fr) : Prop where
  fr : FrAt H g f
  off : ∀ b, g.fp b → ¬ D b ∧ ¬ x.all p b ∧ b ≠ gSteps

theorem take_ok {x : PG} {D : Nat → Prop} {H : Heap} {p dp : Nat} {s : Pl} {f : Fr} {g : FrG} {K : Int → Heap → Prop} (hg : Gl H) (h : PoolD x D H p dp s) (hN : NewAt x D H p g f)
    (hl : s.fs.length < s.most) (hn : s.next < 9223372036854775807) (hk : s.find f.name f.page = none) (hb : f.b.length ≤ 504) (hpg : f.page < 1048577) (hnm : f.name.size ≤ 9223372036854775807) (hp : f.pins = []) (hlf : f.left = 0)
    (hK : ∀ x' H', PoolD x' D H' p dp (s.take f) → Step (fun b => (D b ∨ x.all p b) ∨ g.fp b) (fun b => D b ∨ x'.all p b) H H' → K s.next H') : pool_Pool_take.sp (at0 p) (at0 g.p) H K := by
  refine pool_Pool_take.of ?_
  unfold pool_Pool_take.vc
  simp only [optK_eq]
  have hw := h.pool.wf.take hl hn hk hb hpg hnm hp hlf
  have hlen := h.pool.wf.len
  have hmost := h.pool.wf.most
  refine h.pool.head.ld (c := cMap) (i := 2) (x := some x.mf) rfl ?_
  refine FrAt.at_ld hN.fr ?_
  obtain ⟨et, inf, hu, _⟩ := mapSpot
  have hno : ∀ u, ¬ HasE x.ef (keyV f.name (f.page : Int)) u := by
    intro u hu'
    obtain ⟨z, hz, e⟩ := List.mem_map.1 ((h.pool.frames.entF _ _).1 hu')
    simp only [Prod.mk.injEq] at e
    have := keyV_inj e.1
    have hzf : z.1 ∈ s.fs := by rw [h.pool.fs]; exact List.mem_map.2 ⟨z, hz, rfl⟩
    exact Pl.find_none hk _ hzf this.1 this.2
  refine doU_insertW (k := keyV f.name (f.page : Int)) hu keySpot h.pool.frames.fmap (keyW_spot hnm (by omega) (by omega)) hno fun H1 fm1 m1 z1 => ?_
  have hpm : p ≠ x.mf := fun e => PoolG.off h.pool.head h.pool.frames (.inl e)
  have hd1 : RowT H1 p ty_pool_Pool (headP dp x s) := m1.at h.pool.head hpm
  refine hd1.ld (c := cInt .i64) (i := 6) (x := (s.peak : Int)) rfl ?_
  refine hd1.ld (c := cMap) (i := 2) (x := some x.mf) rfl ?_
  have hsz := h.pool.n
  refine ⟨s.fs.length + 1, ⟨_, _, fm1.obj, by simp [hsz]⟩, ?_⟩
  have ep : (if ((s.fs.length + 1 : Nat) : Int) > (s.peak : Int) then ((s.fs.length + 1 : Nat) : Int) else (s.peak : Int)) = ((max s.peak (s.fs.length + 1) : Nat) : Int) := by
    split <;> omega
  simp only [ep]
  refine hd1.st (i := 6) (by decide : 6 < 8) (by rfl) fun H2 r2 m2 z2 => ?_
  have hgoff := hN.off
  have hm12 : Mod (fun b => b = x.mf ∨ b = p) H H2 := (m1.mono fun b _ e => .inl e).trans (m2.mono fun b _ e => .inr e)
  have hq2 : FrAt H2 g f := hN.fr.keep fun b hb hl => hm12.same b hl (by
    rintro (e | e)
    · exact (hgoff b hb).2.1 (.inr (.inl e))
    · exact (hgoff b hb).2.1 (.inl e))
  -- the frame is pushed
  obtain ⟨ef', hef⟩ : ∃ e : Array MapEntry, e = x.ef.push { key := keyV f.name (f.page : Int), val := ptrV g.p, born := x.cf } := ⟨_, rfl⟩
  have hapart : ∀ (i : Nat) (z : FZ), x.zs[i]? = some z → ∀ b, z.2.fp b → ¬ g.fp b := fun i z hz b hb hgb => (hgoff b hgb).2.1 (.inr (.inr (.inr ⟨z, List.mem_of_getElem? hz, hb⟩)))
  have hF : FramesAt H2 { x with zs := x.zs ++ [(f, g)], ef := ef', cf := x.cf + 1 } := by
    have F0 := h.pool.frames
    have hpo := PoolG.off h.pool.head h.pool.frames
    have old : ∀ u ∈ x.zs, FrAt H2 u.2 u.1 := fun u hu => (F0.each u hu).keep fun b hb hl => hm12.same b hl (by
      rintro (e | e)
      · exact (F0.off hu).1 (e ▸ hb)
      · exact hpo (e ▸ .inr (.inr ⟨u, hu, hb⟩)))
    refine ⟨?_, F0.hmap.keep (hm12.same _ F0.hmap.lt (by
      rintro (e | e)
      · exact F0.ne e.symm
      · exact hpo (e ▸ .inr (.inl rfl)))), F0.ne, by rw [hef]; simp [F0.size], ?_, ?_, ?_, ?_⟩
    · have := fm1.mod m2 (fun e => hpm e.symm)
      rw [hef]; exact this
    · intro k v
      rw [kvF_append, List.mem_append, hef, HasE_push, F0.entF k v]
      simp [kvF]
    · intro k v
      rw [kvH_append, F0.entH k v]
      simp [kvH, kvP_nil (z := (f, g)) hp]
    · intro u hu
      rcases List.mem_append.1 hu with q | q
      · exact old u q
      · simp at q; subst q; exact hq2
    · intro i j u v h1 h2 hij b hb1 hb2
      have ex : ∀ (i : Nat) (u : FZ), (x.zs ++ [(f, g)])[i]? = some u → (x.zs[i]? = some u) ∨ (i = x.zs.length ∧ u = (f, g)) := by
        intro i u h1
        by_cases hi : i < x.zs.length
        · rw [List.getElem?_append_left hi] at h1; exact .inl h1
        · rw [List.getElem?_append_right (by omega)] at h1
          have : i = x.zs.length := by
            have := (List.getElem?_eq_some_iff.1 h1).1; simp at this; omega
          subst this
          simp at h1
          exact .inr ⟨rfl, h1.symm⟩
      rcases ex i u h1 with q1 | ⟨e1, rfl⟩ <;> rcases ex j v h2 with q2 | ⟨e2, rfl⟩
      · exact F0.apart i j u v q1 q2 hij b hb1 hb2
      · exact hapart i u q1 b hb1 hb2
      · exact hapart j v q2 b hb2 hb1
      · omega
  -- what holds in between
  have hw2 : (s.add f).fs.length ≤ s.most := by simp [Pl.add]; omega
  have hp2 : RowT H2 p ty_pool_Pool (headP dp { x with zs := x.zs ++ [(f, g)], ef := ef', cf := x.cf + 1 } (s.add f)) := r2
  have hz : (x.zs ++ [(f, g)])[x.zs.length]? = some (f, g) := by simp
  have hxl : x.zs.length = s.fs.length := by rw [h.pool.fs]; simp [PG.fs]
  -- the pin, over the blocks themselves
  refine pool_Pool_pin.of ?_
  unfold pool_Pool_pin.vc
  simp only [optK_eq]
  have hzm : ((f, g) : FZ) ∈ x.zs ++ [(f, g)] := by simp
  refine hq2.row.ld (c := cInt .i64) (i := 5) (x := (f.pins.length : Int)) rfl ?_
  refine hq2.row.st (i := 5) (by decide : 5 < 7) (by rfl) fun H3 r3 m3 z3 => ?_
  have hpg' : p ≠ g.p := fun e => (hgoff g.p (.inl rfl)).2.1 (.inl e.symm)
  have hd3 : RowT H3 p ty_pool_Pool (headP dp { x with zs := x.zs ++ [(f, g)], ef := ef', cf := x.cf + 1 } (s.add f)) := m3.at hp2 hpg'
  refine hd3.ld (c := cMap) (i := 3) (x := some x.mh) rfl ?_
  refine hd3.ld (c := cInt .i64) (i := 4) (x := s.next) rfl ?_
  obtain ⟨et', inf', hu', hd', _, _⟩ := mapHand
  have hgm : g.p ≠ x.mh := fun e => (hgoff g.p (.inl rfl)).2.1 (.inr (.inr (.inl e)))
  have hh3 : MapAt (.int .i64) H3 x.mh x.eh x.ch := hF.hmap.keep (m3.same _ hF.hmap.lt (fun e => hgm e.symm))
  have hno' : ∀ u, ¬ HasE x.eh (.int .i64 s.next) u := by
    intro u hu'
    have := (h.pool.frames.entH _ _).1 hu'
    obtain ⟨z, hz', hk⟩ := List.mem_flatMap.1 this
    obtain ⟨q, hq, e⟩ := List.mem_map.1 hk
    simp only [Prod.mk.injEq, Value.int.injEq, true_and] at e
    have hzf : z.1 ∈ s.fs := by rw [h.pool.fs]; exact List.mem_map.2 ⟨z, hz', rfl⟩
    have := (h.pool.wf.old _ hzf _ hq).2
    omega
  refine doU_insert hu' hd' hh3 (k := .int .i64 s.next) (show IntKind.i64 = IntKind.i64 from rfl) hno' fun H4 hm4 m4 z4 => ?_
  have hpmh : p ≠ x.mh := fun e => PoolG.off h.pool.head h.pool.frames (.inr (.inl e))
  have hd4 : RowT H4 p ty_pool_Pool (headP dp { x with zs := x.zs ++ [(f, g)], ef := ef', cf := x.cf + 1 } (s.add f)) := m4.at hd3 hpmh
  refine hd4.ld (c := cInt .i64) (i := 4) (x := s.next) rfl ?_
  refine hd4.st (i := 4) (by decide : 4 < 8) (by rfl) fun H5 r5 m5 z5 => ?_
  refine r5.ld (c := cInt .i64) (i := 4) (x := w64 (s.next + 1)) rfl ?_
  have ht := h.pool.wf.tick
  have hww : w64 (s.next + 1) = s.next + 1 := by unfold w64; exact wrap64 (by omega) (by omega)
  have er : IntKind.i64.wrap (w64 (s.next + 1) - 1) = s.next := by
    have e1 : w64 (s.next + 1) - 1 = s.next := by omega
    rw [e1]; exact wrap64 (by omega) (by omega)
  rw [er]
  have hm35 : Mod (fun b => b = g.p ∨ b = x.mh ∨ b = p) H2 H5 := ((m3.mono fun b _ e => .inl e).trans (m4.mono fun b _ e => .inr (.inl e))).trans (m5.mono fun b _ e => .inr (.inr e))
  have hq : FrAt H5 g (Fr.pin s.next f) := by
    refine ⟨?_, hq2.b.keep fun b hb hl => hm35.same b hl ?_⟩
    · have := m5.at (m4.at r3 hgm) (fun e => hpg' e.symm)
      have e0 : IntKind.i64.wrap (((f.pins.length : Nat) : Int) + 1) = (((Fr.pin s.next f).pins.length : Nat) : Int) := by
        rw [hp]; simp [Fr.pin, hp]; rfl
      rw [e0] at this
      exact this
    · obtain ⟨c, q⟩ := hq2.b.obj b hb
      rintro (e | e | e)
      · rw [e] at q; exact absurd (cells_ty hq2.row q) (by decide)
      · rw [e, hF.hmap.obj] at q; cases q
      · rw [e] at q; exact absurd (cells_ty hp2 q) (by decide)
  have hF5 := hF.set (H' := H5) (z' := (Fr.pin s.next f, g)) hz rfl rfl rfl hq (hm4.keep (m5.same _ hm4.lt (fun e => hpmh e.symm))) (fun k v => by
    rw [HasE_push, hF.entH, kvH_pin _ x.zs.length f g hz]
    exact Iff.rfl) (fun b hb hn1 hn2 hl => hm35.same b hl (by
      rintro (e | e | e)
      · exact hn1 (.inl e)
      · exact hn2 e
      · exact PoolG.off hp2 hF (e ▸ hb))) (fun b hb => .inl hb)
  have hfin : PoolG { x with zs := (x.zs ++ [(f, g)]).set x.zs.length (Fr.pin s.next f, g), ef := ef', cf := x.cf + 1, eh := x.eh.push { key := .int .i64 s.next, val := ptrV g.p, born := x.ch }, ch := x.ch + 1 } H5 p dp (s.take f) := by
    refine ⟨r5, hF5.1, ?_, hw⟩
    show (s.fs ++ [f]).modify s.fs.length (Fr.pin s.next) = ((x.zs ++ [(f, g)]).set x.zs.length (Fr.pin s.next f, g)).map (·.1)
    rw [modify_set (a := f) (by simp), h.pool.fs]
    simp [PG.fs]
  have hm05 : Mod (fun b => x.all p b ∨ g.fp b) H H5 := by
    refine (hm12.mono fun b _ e => ?_).trans (hm35.mono fun b _ e => ?_)
    · rcases e with e | e
      · exact .inl (.inr (.inl e))
      · exact .inl (.inl e)
    · rcases e with e | e | e
      · exact .inr (.inl e)
      · exact .inl (.inr (.inr (.inl e)))
      · exact .inl (.inl e)
  have own : ∀ b, PG.all { x with zs := (x.zs ++ [(f, g)]).set x.zs.length (Fr.pin s.next f, g), ef := ef', cf := x.cf + 1, eh := x.eh.push { key := .int .i64 s.next, val := ptrV g.p, born := x.ch }, ch := x.ch + 1 } p b → x.all p b ∨ g.fp b := by
    rintro b (e | e | e | ⟨u, hu, hub⟩)
    · exact .inl (.inl e)
    · exact .inl (.inr (.inl e))
    · exact .inl (.inr (.inr (.inl e)))
    · rcases mem_set' hu with ⟨j, _, hj⟩ | rfl
      · rcases List.mem_append.1 (List.mem_of_getElem? hj) with q | q
        · exact .inl (.inr (.inr (.inr ⟨u, q, hub⟩)))
        · simp at q; subst q; exact .inr hub
      · exact .inr hub
  refine hK _ H5 ⟨hfin, h.disk.keep fun b hb hl => hm05.same b hl ?_, ?_, h.glob.1, ?_⟩ ⟨hm05.mono fun b _ e => e.imp .inr id, ?_⟩
  · rintro (e | e)
    · exact h.apart b hb e
    · exact (hgoff b e).1 hb
  · intro b hb hx
    rcases own b hx with e | e
    · exact h.apart b hb e
    · exact (hgoff b e).1 hb
  · intro hx
    rcases own _ hx with e | e
    · exact h.glob.2 e
    · exact (hgoff _ e).2.2 rfl
  · rintro b (e | e)
    · exact .inl (.inl (.inl e))
    · rcases own b e with q | q
      · exact .inl (.inl (.inr q))
      · exact .inl (.inr q)

end Go.Proofs.YtbgpkpbejldlcaaGreatDoor
