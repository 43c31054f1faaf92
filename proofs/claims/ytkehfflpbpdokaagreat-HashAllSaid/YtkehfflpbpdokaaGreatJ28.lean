/-
 The pool in plain words: what it holds, and what each call makes of it.
-/
import Derived.Test.YtkehfflpbpdokaaGreatDkm
import Derived.Test.YtkehfflpbpdokaaGreatDkb
import Derived.Test.YtkehfflpbpdokaaGreatPga
import Derived.Test.YtkehfflpbpdokaaGreatPgb
import Derived.Test.YtkehfflpbpdokaaGreatFxo
namespace Go.Proofs.YtkehfflpbpdokaaGreat
structure Fr where
 name : ByteArray
 page : Nat
 kind : UInt8
 b : List UInt8
 dirty : Bool
 pins : List Int
 left : Int
def fr0 : Fr := ⟨ByteArray.empty, 0, 0, [], false, [], 0⟩
def Fr.sealF [Tab] (f : Fr) : List UInt8 := sealP f.kind f.b
structure Pl where
 d : Dk
 most : Nat
 fs : List Fr
 next : Int
 tick : Int
 peak : Nat
 wrong : Int
def Pl.frame (p : Pl) (i : Nat) : Fr := p.fs.getD i fr0
def Pl.find (p : Pl) (n : ByteArray) (g : Int) : Option Nat := p.fs.findIdx? fun f => f.name.toList == n.toList && decide ((f.page : Int) = g)
def Pl.held (p : Pl) (h : Int) : Option Nat := p.fs.findIdx? fun f => f.pins.contains h
def bad (e : Int) : Bool := e == 4 || e == 5 || e == 20
def Pl.met (p : Pl) (e : Int) : Pl := if bad e then { p with wrong := e } else p
def Pl.out (r : Pl × Int) : Pl × Int := (r.1.met r.2, r.2)
def Pl.setD (p : Pl) (d : Dk) : Pl := { p with d := d }
def Pl.drop (p : Pl) (i : Nat) : Pl := { p with fs := p.fs.eraseIdx i }
def Pl.turn (p : Pl) (i : Nat) (u : Fr → Fr) : Pl := { p with fs := p.fs.modify i u }
def Fr.clean (f : Fr) : Fr := { f with dirty := false }
def Pl.put [Tab] (p : Pl) (i : Nat) : Pl × Int :=
 if (p.d.write (p.frame i).name (p.frame i).page (p.frame i).sealF).2 = 0 then ((p.setD (p.d.write (p.frame i).name (p.frame i).page (p.frame i).sealF).1).turn i Fr.clean, 0)
 else (p.setD (p.d.write (p.frame i).name (p.frame i).page (p.frame i).sealF).1, (p.d.write (p.frame i).name (p.frame i).page (p.frame i).sealF).2)
def lessB (f : Fr) (b : Option (Nat × Int)) : Bool := match b with | none => true | some x => decide (f.left < x.2)
def bestF : List Fr → Nat → Option (Nat × Int) → Option (Nat × Int)
 | [], _, b => b
 | f :: l, i, b => bestF l (i + 1) (if f.pins.isEmpty && lessB f b then some (i, f.left) else b)
def Pl.best (p : Pl) : Option Nat := (bestF p.fs 0 none).map (·.1)
def Pl.room [Tab] (p : Pl) : Pl × Int :=
 if p.fs.length < p.most then (p, 0) else
 match p.best with
 | none => (p, 31)
 | some i => if (p.frame i).dirty then (if (p.put i).2 = 0 then ((p.put i).1.drop i, 0) else p.put i) else (p.drop i, 0)
def Fr.pin (h : Int) (f : Fr) : Fr := { f with pins := f.pins ++ [h] }
def Pl.pinAt (p : Pl) (i : Nat) : Pl := { p with fs := p.fs.modify i (Fr.pin p.next), next := w64 (p.next + 1) }
def Pl.add (p : Pl) (f : Fr) : Pl := { p with fs := p.fs ++ [f], peak := max p.peak (p.fs.length + 1) }
def Pl.take (p : Pl) (f : Fr) : Pl := (p.add f).pinAt p.fs.length
def Pl.load [Tab] (p : Pl) (n : ByteArray) (g : Int) : Pl × Option Fr × Int :=
 if (p.d.len n).2 ≠ 0 then (p, none, (p.d.len n).2)
 else if g < 0 ∨ g ≥ (p.d.len n).1 then (p, none, 12)
 else if p.room.2 ≠ 0 then (p.room.1, none, p.room.2)
 else if (p.room.1.d.read n g).2 ≠ 0 then (p.room.1, none, (p.room.1.d.read n g).2)
 else match openP (p.room.1.d.read n g).1 with
  | none => (p.room.1, none, 20)
  | some (k, b) => (p.room.1, some ⟨n, g.toNat, k, b, false, [], 0⟩, 0)
def Pl.pin [Tab] (p : Pl) (n : ByteArray) (g : Int) : Pl × Int × Int :=
 if p.wrong ≠ 0 then (p, 0, p.wrong) else
 match p.find n g with
 | some i => (p.pinAt i, p.next, 0)
 | none =>
   match p.load n g with
   | (q, some f, _) => (q.take f, q.next, 0)
   | (q, none, e) => (q.met e, 0, e)
def Pl.fresh [Tab] (p : Pl) (n : ByteArray) : Pl × Int × Int × Int :=
 if p.wrong ≠ 0 then (p, 0, 0, p.wrong)
 else if (p.d.len n).2 ≠ 0 then (p.met (p.d.len n).2, 0, 0, (p.d.len n).2)
 else if p.room.2 ≠ 0 then (p.room.1.met p.room.2, 0, 0, p.room.2)
 else if (p.room.1.d.write n (p.d.len n).1 (sealP 0 [])).2 ≠ 0 then ((p.room.1.setD (p.room.1.d.write n (p.d.len n).1 (sealP 0 [])).1).met (p.room.1.d.write n (p.d.len n).1 (sealP 0 [])).2, 0, 0, (p.room.1.d.write n (p.d.len n).1 (sealP 0 [])).2)
 else ((p.room.1.setD (p.room.1.d.write n (p.d.len n).1 (sealP 0 [])).1).take ⟨n, (p.d.len n).1, 0, [], false, [], 0⟩, p.room.1.next, (p.d.len n).1, 0)
def Pl.get (p : Pl) (h : Int) : UInt8 × List UInt8 × Int :=
 if p.wrong ≠ 0 then (0, [], p.wrong) else match p.held h with
 | some i => ((p.frame i).kind, (p.frame i).b, 0)
 | none => (0, [], 32)
def Fr.set (k : UInt8) (b : List UInt8) (f : Fr) : Fr := { f with kind := k, b := b, dirty := true }
def Pl.set (p : Pl) (h : Int) (k : UInt8) (b : List UInt8) : Pl × Int :=
 if p.wrong ≠ 0 then (p, p.wrong) else match p.held h with
 | some i => if b.length > 504 then (p, 2) else (p.turn i (Fr.set k b), 0)
 | none => (p, 32)
def Fr.unpin (h t : Int) (f : Fr) : Fr := { f with pins := f.pins.filter (fun x => decide (x ≠ h)), left := t }
def Pl.unpin (p : Pl) (h : Int) : Pl × Int :=
 if p.wrong ≠ 0 then (p, p.wrong) else match p.held h with
 | some i => ({ p with fs := p.fs.modify i (Fr.unpin h (w64 (p.tick + 1))), tick := w64 (p.tick + 1) }, 0)
 | none => (p, 32)
def Pl.pagesOf (p : Pl) (n : ByteArray) : List Nat := ((p.fs.filter fun f => f.name.toList == n.toList).map (·.page)).mergeSort fun a b => decide (a ≤ b)
def Pl.forget (p : Pl) (n : ByteArray) : Pl := { p with fs := p.fs.filter fun f => !(f.name.toList == n.toList) }
def Pl.dropF (p : Pl) (n : ByteArray) : Pl × Int :=
 if p.wrong ≠ 0 then (p, p.wrong)
 else if (p.d.len n).2 ≠ 0 then Pl.out (p, (p.d.len n).2)
 else if p.fs.any (fun f => f.name.toList == n.toList && !f.pins.isEmpty) then (p, 31)
 else Pl.out ((p.forget n).setD (p.d.remove n).1, (p.d.remove n).2)
def pl0 (d : Dk) (m : Nat) : Pl := ⟨d, m, [], 1, 0, 0, 0⟩
def Fr.key (f : Fr) : ByteArray × Nat := (f.name, f.page)
def Pl.pins (p : Pl) : Nat := (p.fs.map fun f => f.pins.length).sum
structure Pl.WF (p : Pl) : Prop where
 keys : (p.fs.map Fr.key).Nodup
 len : p.fs.length ≤ p.most
 most : 8 ≤ p.most ∧ p.most ≤ 4096
 room : ∀ f ∈ p.fs, f.b.length ≤ 504
 pages : ∀ f ∈ p.fs, f.page < 1048577 ∧ f.name.size ≤ 9223372036854775807
 pins : (p.fs.flatMap (·.pins)).Nodup
 old : ∀ f ∈ p.fs, ∀ h ∈ f.pins, 1 ≤ h ∧ h < p.next
 tick : 0 ≤ p.tick ∧ p.tick + p.pins < p.next
 lefts : ∀ (i j : Nat) (f g : Fr), p.fs[i]? = some f → p.fs[j]? = some g → f.pins = [] → g.pins = [] → f.left = g.left → i = j
 past : ∀ f ∈ p.fs, 0 ≤ f.left ∧ f.left ≤ p.tick
 peak : p.fs.length ≤ p.peak ∧ p.peak ≤ p.most
theorem findIdx_uniq {α : Type} {l : List α} {q : α → Bool} {i : Nat} {x : α} (hx : l[i]? = some x) (hq : q x = true) (hu : ∀ j y, l[j]? = some y → q y = true → j = i) : l.findIdx? q = some i := by
 obtain ⟨hi, rfl⟩ := List.getElem?_eq_some_iff.1 hx
 rw [List.findIdx?_eq_some_iff_getElem]
 refine ⟨hi, hq, fun j hj => ?_⟩
 cases h : q l[j] with
 | false => simp
 | true => have := hu j _ (List.getElem?_eq_getElem (by omega)) h; omega
theorem findIdx_get {α : Type} {l : List α} {q : α → Bool} {i : Nat} (h : l.findIdx? q = some i) : ∃ x, l[i]? = some x ∧ q x = true := by
 rw [List.findIdx?_eq_some_iff_getElem] at h
 obtain ⟨h1, h2, _⟩ := h
 exact ⟨l[i], List.getElem?_eq_getElem h1, h2⟩
theorem Pl.frame_eq {p : Pl} {i : Nat} {f : Fr} (h : p.fs[i]? = some f) : p.frame i = f := by simp [Pl.frame, h]
theorem Pl.find_some {p : Pl} {n : ByteArray} {g : Int} {i : Nat} (h : p.find n g = some i) : ∃ f, p.fs[i]? = some f ∧ f.name = n ∧ (f.page : Int) = g := by
 obtain ⟨f, h1, h2⟩ := findIdx_get h
 simp only [Bool.and_eq_true, beq_iff_eq, decide_eq_true_eq] at h2
 exact ⟨f, h1, ba_eq h2.1, h2.2⟩
theorem Pl.find_none {p : Pl} {n : ByteArray} {g : Int} (h : p.find n g = none) : ∀ f ∈ p.fs, f.name = n → (f.page : Int) ≠ g := by
 unfold Pl.find at h
 rw [List.findIdx?_eq_none_iff] at h
 intro f hf e e2
 have := h f hf
 rw [e] at this
 simp [e2] at this
theorem key_inj {p : Pl} (h : (p.fs.map Fr.key).Nodup) {i j : Nat} {f g : Fr} (hi : p.fs[i]? = some f) (hj : p.fs[j]? = some g) (e1 : f.name = g.name) (e2 : f.page = g.page) : i = j := by
 have hi' := (List.getElem?_eq_some_iff.1 hi).1
 refine (List.getElem?_inj (l := p.fs.map Fr.key) (by simpa using hi') h).1 ?_
 rw [List.getElem?_map, List.getElem?_map, hi, hj]
 simp [Fr.key, e1, e2]
theorem Pl.find_eq {p : Pl} (hw : p.WF) {i : Nat} {f : Fr} (h : p.fs[i]? = some f) : p.find f.name f.page = some i := by
 refine findIdx_uniq h (by simp) fun j g hj hg => ?_
 simp only [Bool.and_eq_true, beq_iff_eq, decide_eq_true_eq] at hg
 exact key_inj hw.keys hj h (ba_eq hg.1) (by omega)
theorem Pl.held_some {p : Pl} {h : Int} {i : Nat} (e : p.held h = some i) : ∃ f, p.fs[i]? = some f ∧ h ∈ f.pins := by
 obtain ⟨f, h1, h2⟩ := findIdx_get e
 exact ⟨f, h1, by simpa using h2⟩
theorem flat_inj {α β : Type} {u : α → List β} : ∀ {l : List α}, (l.flatMap u).Nodup → ∀ {i j : Nat} {f g : α} {x : β}, l[i]? = some f → l[j]? = some g → x ∈ u f → x ∈ u g → i = j
 | [], _, i, j, f, g, x, hi, _, _, _ => by simp at hi
 | a :: l, h, i, j, f, g, x, hi, hj, hf, hg => by
   rw [List.flatMap_cons, List.nodup_append] at h
   obtain ⟨h1, h2, h3⟩ := h
   match i, j with
   | 0, 0 => rfl
   | 0, j + 1 =>
     simp only [List.getElem?_cons_zero, Option.some.injEq, List.getElem?_cons_succ] at hi hj
     subst hi
     exact absurd rfl (h3 x hf x (List.mem_flatMap.2 ⟨g, List.mem_of_getElem? hj, hg⟩))
   | i + 1, 0 =>
     simp only [List.getElem?_cons_zero, Option.some.injEq, List.getElem?_cons_succ] at hi hj
     subst hj
     exact absurd rfl (h3 x hg x (List.mem_flatMap.2 ⟨f, List.mem_of_getElem? hi, hf⟩))
   | i + 1, j + 1 =>
     simp only [List.getElem?_cons_succ] at hi hj
     rw [flat_inj h2 hi hj hf hg]
theorem Pl.held_eq {p : Pl} (hw : p.WF) {i : Nat} {f : Fr} {h : Int} (e : p.fs[i]? = some f) (hm : h ∈ f.pins) : p.held h = some i :=
 findIdx_uniq e (by simpa using hm) fun _ _ hj hg => flat_inj hw.pins hj e (by simpa using hg) hm
def bestOk (l : List Fr) (b : Option (Nat × Int)) : Prop :=
 match b with
 | none => ∀ f ∈ l, f.pins ≠ []
 | some (i, t) => ∃ f, l[i]? = some f ∧ f.pins = [] ∧ f.left = t ∧ ∀ g ∈ l, g.pins = [] → t ≤ g.left
theorem bestF_ok : ∀ (r l : List Fr) (b : Option (Nat × Int)), bestOk l b → bestOk (l ++ r) (bestF r l.length b)
 | [], l, b, h => by simpa [bestF] using h
 | f :: r, l, b, h => by
   unfold bestF
   have key : bestOk (l ++ [f]) (if f.pins.isEmpty && lessB f b then some (l.length, f.left) else b) := by
    cases hp : f.pins.isEmpty with
    | false =>
      have hne : f.pins ≠ [] := by intro e; rw [e] at hp; cases hp
      rw [Bool.false_and, if_neg (by simp)]
      cases b with
      | none =>
        intro g hg
        rcases List.mem_append.1 hg with q | q
        ·exact h g q
        ·simp at q; subst q; exact hne
      | some it =>
        obtain ⟨i, t⟩ := it
        obtain ⟨g, h1, h2, h3, h4⟩ := h
        refine ⟨g, ?_, h2, h3, fun x hx hxp => ?_⟩
        ·rw [List.getElem?_append_left (List.getElem?_eq_some_iff.1 h1).1]; exact h1
        ·rcases List.mem_append.1 hx with q | q
         ·exact h4 x q hxp
         ·simp at q; subst q; exact absurd hxp hne
    | true =>
      have he : f.pins = [] := List.isEmpty_iff.1 hp
      cases b with
      | none =>
        rw [Bool.true_and, show lessB f none = true from rfl, if_pos rfl]
        refine ⟨f, by simp, he, rfl, fun x hx hxp => ?_⟩
        rcases List.mem_append.1 hx with q | q
        ·exact absurd hxp (h x q)
        ·simp at q; subst q; exact Int.le_refl _
      | some it =>
        obtain ⟨i, t⟩ := it
        obtain ⟨g, h1, h2, h3, h4⟩ := h
        rw [Bool.true_and]
        by_cases hlt : f.left < t
        ·rw [show lessB f (some (i, t)) = true from by simp [lessB, hlt], if_pos rfl]
         refine ⟨f, by simp, he, rfl, fun x hx hxp => ?_⟩
         rcases List.mem_append.1 hx with q | q
         ·have := h4 x q hxp; omega
         ·simp at q; subst q; exact Int.le_refl _
        ·rw [show lessB f (some (i, t)) = false from by simp [lessB, hlt], if_neg (by simp)]
         refine ⟨g, ?_, h2, h3, fun x hx hxp => ?_⟩
         ·rw [List.getElem?_append_left (List.getElem?_eq_some_iff.1 h1).1]; exact h1
         ·rcases List.mem_append.1 hx with q | q
          ·exact h4 x q hxp
          ·simp at q; subst q; omega
   have := bestF_ok r (l ++ [f]) _ key
   rw [List.length_append, List.length_singleton, List.append_assoc, List.singleton_append] at this
   exact this
theorem Pl.best_ok (p : Pl) : bestOk p.fs (bestF p.fs 0 none) := by
 have := bestF_ok p.fs [] none (by intro f hf; cases hf)
 simpa using this
theorem Pl.best_none {p : Pl} (h : p.best = none) : ∀ f ∈ p.fs, f.pins ≠ [] := by
 have := p.best_ok
 unfold Pl.best at h
 rw [Option.map_eq_none_iff] at h
 rw [h] at this
 exact this
theorem Pl.best_some {p : Pl} {i : Nat} (h : p.best = some i) : ∃ f, p.fs[i]? = some f ∧ f.pins = [] ∧ ∀ g ∈ p.fs, g.pins = [] → f.left ≤ g.left := by
 have := p.best_ok
 unfold Pl.best at h
 rw [Option.map_eq_some_iff] at h
 obtain ⟨⟨j, t⟩, h1, rfl⟩ := h
 rw [h1] at this
 obtain ⟨f, q1, q2, q3, q4⟩ := this
 exact ⟨f, q1, q2, fun g hg hp => by rw [q3]; exact q4 g hg hp⟩
theorem Pl.best_eq {p : Pl} (hw : p.WF) {i : Nat} {f : Fr} (hf : p.fs[i]? = some f) (hp : f.pins = []) (hb : ∀ g ∈ p.fs, g.pins = [] → f.left ≤ g.left) : p.best = some i := by
 cases h : p.best with
 | none => exact absurd hp (Pl.best_none h f (List.mem_of_getElem? hf))
 | some j =>
   obtain ⟨g, h1, h2, h3⟩ := Pl.best_some h
   have e1 := hb g (List.mem_of_getElem? h1) h2
   have e2 := h3 f (List.mem_of_getElem? hf) hp
   rw [hw.lefts j i g f h1 hf h2 hp (by omega)]
theorem Pl.WF.frames [Tab] {p q : Pl} (h : p.WF) (hf : q.fs = p.fs) (hm : q.most = p.most) (hn : q.next = p.next) (ht : q.tick = p.tick) (hk : q.peak = p.peak) : q.WF := by
 obtain ⟨d, most, fs, next, tick, peak, wrong⟩ := q
 obtain ⟨d', most', fs', next', tick', peak', wrong'⟩ := p
 simp only at hf hm hn ht hk
 subst hf; subst hm; subst hn; subst ht; subst hk
 exact ⟨h.keys, h.len, h.most, h.room, h.pages, h.pins, h.old, h.tick, h.lefts, h.past, h.peak⟩
theorem Pl.WF.setD [Tab] {p : Pl} (h : p.WF) (d : Dk) : (p.setD d).WF := h.frames rfl rfl rfl rfl rfl
theorem Pl.WF.met [Tab] {p : Pl} (h : p.WF) (e : Int) : (p.met e).WF := by
 unfold Pl.met
 split
 ·exact h.frames rfl rfl rfl rfl rfl
 ·exact h
theorem flatMap_modify {α β : Type} (u : α → List β) (g : α → α) : ∀ (l : List α) (i : Nat) (x : α), l[i]? = some x → u (g x) = u x → (l.modify i g).flatMap u = l.flatMap u
 | [], i, x, h, _ => by simp at h
 | a :: l, 0, x, h, e => by simp at h; subst h; simp [e]
 | a :: l, i + 1, x, h, e => by
   simp only [List.getElem?_cons_succ] at h
   simp [flatMap_modify u g l i x h e]
theorem map_modify_same {α β : Type} (u : α → β) (g : α → α) (l : List α) (i : Nat) (x : α) (h : l[i]? = some x) (e : u (g x) = u x) : (l.modify i g).map u = l.map u := by
 have := flatMap_modify (fun y => [u y]) g l i x h (by simp [e])
 simpa [List.flatMap_singleton', List.map_eq_flatMap] using this
theorem mem_modify {α : Type} {l : List α} {i : Nat} {g : α → α} {x y : α} (hx : l[i]? = some x) (hy : y ∈ l.modify i g) : y ∈ l ∨ y = g x := by
 obtain ⟨j, hj⟩ := List.mem_iff_getElem?.1 hy
 by_cases e : i = j
 ·subst e; rw [modify_same hx] at hj; cases hj; exact .inr rfl
 ·rw [modify_other e] at hj; exact .inl (List.mem_of_getElem? hj)
theorem Pl.WF.turn [Tab] {p : Pl} (h : p.WF) {i : Nat} {f : Fr} {u : Fr → Fr} (hf : p.fs[i]? = some f) (hk : (u f).key = f.key) (hp : (u f).pins = f.pins) (hl : (u f).left = f.left) (hb : (u f).b.length ≤ 504) : (p.turn i u).WF := by
 have hm := List.mem_of_getElem? hf
 have get : ∀ (j : Nat) (g : Fr), (p.fs.modify i u)[j]? = some g → ∃ g', p.fs[j]? = some g' ∧ g.pins = g'.pins ∧ g.left = g'.left := by
  intro j g hj
  by_cases e : i = j
  ·subst e; rw [modify_same hf] at hj; cases hj; exact ⟨f, hf, hp, hl⟩
  ·rw [modify_other e] at hj; exact ⟨g, hj, rfl, rfl⟩
 refine ⟨?_, ?_, h.most, ?_, ?_, ?_, ?_, ?_, ?_, ?_, ?_⟩
 ·show ((p.fs.modify i u).map Fr.key).Nodup
  rw [map_modify_same Fr.key u p.fs i f hf hk]; exact h.keys
 ·show (p.fs.modify i u).length ≤ p.most
  rw [List.length_modify]; exact h.len
 ·intro g hg
  rcases mem_modify hf hg with q | q
  ·exact h.room g q
  ·subst q; exact hb
 ·intro g hg
  rcases mem_modify hf hg with q | q
  ·exact h.pages g q
  ·subst q
   have e1 : (u f).page = f.page := congrArg Prod.snd hk
   have e2 : (u f).name = f.name := congrArg Prod.fst hk
   rw [e1, e2]; exact h.pages f hm
 ·show ((p.fs.modify i u).flatMap (·.pins)).Nodup
  rw [flatMap_modify (·.pins) u p.fs i f hf hp]; exact h.pins
 ·intro g hg
  rcases mem_modify hf hg with q | q
  ·exact h.old g q
  ·subst q; rw [hp]; exact h.old f hm
 ·refine ⟨h.tick.1, ?_⟩
  have e : (p.turn i u).pins = p.pins := by
   show ((p.fs.modify i u).map fun f => f.pins.length).sum = _
   rw [map_modify_same (fun f => f.pins.length) u p.fs i f hf (by rw [hp])]; rfl
  rw [e]; exact h.tick.2
 ·intro a b x y hx hy hxp hyp hxy
  obtain ⟨x', q1, q2, q3⟩ := get a x hx
  obtain ⟨y', r1, r2, r3⟩ := get b y hy
  exact h.lefts a b x' y' q1 r1 (by rw [← q2]; exact hxp) (by rw [← r2]; exact hyp) (by rw [← q3, ← r3]; exact hxy)
 ·intro g hg
  rcases mem_modify hf hg with q | q
  ·exact h.past g q
  ·subst q; rw [hl]; exact h.past f hm
 ·show (p.fs.modify i u).length ≤ p.peak ∧ _
  rw [List.length_modify]; exact h.peak
theorem Pl.WF.put [Tab] {p : Pl} (h : p.WF) {i : Nat} {f : Fr} (hf : p.fs[i]? = some f) : (p.put i).1.WF := by
 unfold Pl.put
 split
 ·exact (h.setD _).turn hf rfl rfl rfl (h.room f (List.mem_of_getElem? hf))
 ·exact h.setD _
theorem flatMap_sublist {α β : Type} (u : α → List β) {l r : List α} (h : l.Sublist r) : (l.flatMap u).Sublist (r.flatMap u) := by
 induction h with
 | slnil => simp
 | cons a _ ih => rw [List.flatMap_cons]; exact ih.trans (List.sublist_append_right _ _)
 | cons_cons a _ ih => rw [List.flatMap_cons, List.flatMap_cons]; exact (List.Sublist.refl _).append ih
theorem sum_sublist {α : Type} (u : α → Nat) {l r : List α} (h : l.Sublist r) : (l.map u).sum ≤ (r.map u).sum := by
 induction h with
 | slnil => simp
 | cons a _ ih => rw [List.map_cons, List.sum_cons]; omega
 | cons_cons a _ ih => rw [List.map_cons, List.sum_cons, List.map_cons, List.sum_cons]; omega
theorem Pl.WF.sub [Tab] {p q : Pl} (h : p.WF) (hs : q.fs.Sublist p.fs) (hm : q.most = p.most) (hn : q.next = p.next) (ht : q.tick = p.tick) (hk : q.peak = p.peak) : q.WF := by
 have hmem : ∀ f ∈ q.fs, f ∈ p.fs := fun f hf => hs.subset hf
 have hlen := hs.length_le
 refine ⟨?_, by rw [hm]; have := h.len; omega, by rw [hm]; exact h.most, fun f hf => h.room f (hmem f hf), fun f hf => h.pages f (hmem f hf), ?_, fun f hf => by rw [hn]; exact h.old f (hmem f hf), ?_, ?_, fun f hf => by rw [ht]; exact h.past f (hmem f hf), by rw [hk, hm]; have := h.peak; omega⟩
 ·exact (hs.map Fr.key).nodup h.keys
 ·exact (flatMap_sublist (·.pins) hs).nodup h.pins
 ·rw [ht, hn]
  refine ⟨h.tick.1, ?_⟩
  have : q.pins ≤ p.pins := by
   unfold Pl.pins
   exact sum_sublist (fun f : Fr => f.pins.length) hs
  have := h.tick.2
  omega
 ·-- frames that none holds differ in when they were left
  have hpw : (p.fs.filter fun f => f.pins.isEmpty).Pairwise (fun f g => f.left ≠ g.left) := by
   rw [List.pairwise_filter, List.pairwise_iff_getElem]
   intro i j hi hj hij hfi hfj e
   have := h.lefts i j _ _ (List.getElem?_eq_getElem hi) (List.getElem?_eq_getElem hj) (List.isEmpty_iff.1 hfi) (List.isEmpty_iff.1 hfj) e
   omega
  have hpw2 : (q.fs.filter fun f => f.pins.isEmpty).Pairwise (fun f g => f.left ≠ g.left) := hpw.sublist (hs.filter _)
  rw [List.pairwise_filter, List.pairwise_iff_getElem] at hpw2
  intro i j f g hi hj hfp hgp e
  obtain ⟨hi', rfl⟩ := List.getElem?_eq_some_iff.1 hi
  obtain ⟨hj', rfl⟩ := List.getElem?_eq_some_iff.1 hj
  rcases Nat.lt_trichotomy i j with q1 | q1 | q1
  ·exact absurd e (hpw2 i j hi' hj' q1 (List.isEmpty_iff.2 hfp) (List.isEmpty_iff.2 hgp))
  ·exact q1
  ·exact absurd e.symm (hpw2 j i hj' hi' q1 (List.isEmpty_iff.2 hgp) (List.isEmpty_iff.2 hfp))
theorem Pl.WF.drop [Tab] {p : Pl} (h : p.WF) (i : Nat) : (p.drop i).WF := h.sub (List.eraseIdx_sublist _ _) rfl rfl rfl rfl
theorem Pl.WF.forget [Tab] {p : Pl} (h : p.WF) (n : ByteArray) : (p.forget n).WF := h.sub List.filter_sublist rfl rfl rfl rfl
theorem Pl.put_len [Tab] (p : Pl) (i : Nat) : (p.put i).1.fs.length = p.fs.length := by
 unfold Pl.put
 split
 ·show (p.fs.modify i _).length = _; rw [List.length_modify]
 ·rfl
theorem Pl.put_same [Tab] (p : Pl) (i : Nat) : (p.put i).1.most = p.most ∧ (p.put i).1.next = p.next ∧ (p.put i).1.tick = p.tick ∧ (p.put i).1.peak = p.peak ∧ (p.put i).1.wrong = p.wrong := by
 unfold Pl.put; split <;> exact ⟨rfl, rfl, rfl, rfl, rfl⟩
theorem Pl.room_same [Tab] (p : Pl) : p.room.1.most = p.most ∧ p.room.1.next = p.next ∧ p.room.1.tick = p.tick ∧ p.room.1.peak = p.peak ∧ p.room.1.wrong = p.wrong := by
 unfold Pl.room
 split
 ·exact ⟨rfl, rfl, rfl, rfl, rfl⟩
 ·split
  ·exact ⟨rfl, rfl, rfl, rfl, rfl⟩
  ·split
   ·split
    ·exact p.put_same _
    ·exact p.put_same _
   ·exact ⟨rfl, rfl, rfl, rfl, rfl⟩
theorem Pl.WF.roomed [Tab] {p : Pl} (h : p.WF) : p.room.1.WF ∧ (p.room.2 = 0 → p.room.1.fs.length < p.most) := by
 unfold Pl.room
 split
 ·rename_i q; exact ⟨h, fun _ => q⟩
 ·split
  ·exact ⟨h, fun q => by cases q⟩
  ·rename_i i hi
   obtain ⟨f, hf, _, _⟩ := Pl.best_some hi
   have hil := (List.getElem?_eq_some_iff.1 hf).1
   have hlen := h.len
   split
   ·split
    ·refine ⟨(h.put hf).drop i, fun _ => ?_⟩
     show ((p.put i).1.fs.eraseIdx i).length < p.most
     rw [List.length_eraseIdx_of_lt (by rw [Pl.put_len]; exact hil), Pl.put_len]; omega
    ·rename_i q
     exact ⟨h.put hf, fun q' => absurd q' q⟩
   ·refine ⟨h.drop i, fun _ => ?_⟩
    show (p.fs.eraseIdx i).length < p.most
    rw [List.length_eraseIdx_of_lt hil]; omega
theorem flatMap_pin [Tab] {h : Int} : ∀ (l : List Fr) (i : Nat) (f : Fr), l[i]? = some f → ((l.modify i (Fr.pin h)).flatMap (·.pins)).Perm (h :: l.flatMap (·.pins))
 | [], i, f, e => by simp at e
 | a :: l, 0, f, e => by
   simp only [List.modify_zero_cons, List.flatMap_cons, Fr.pin, List.append_assoc, List.singleton_append]
   exact List.perm_middle
 | a :: l, i + 1, f, e => by
   simp only [List.getElem?_cons_succ] at e
   simp only [List.modify_succ_cons, List.flatMap_cons]
   exact ((flatMap_pin l i f e).append_left a.pins).trans List.perm_middle
theorem Pl.WF.pinAt [Tab] {p : Pl} (h : p.WF) {i : Nat} {f : Fr} (hf : p.fs[i]? = some f) (hn : p.next < 9223372036854775807) : (p.pinAt i).WF := by
 have hm := List.mem_of_getElem? hf
 have ht := h.tick
 have hw : w64 (p.next + 1) = p.next + 1 := by unfold w64; exact wrap64 (by omega) (by omega)
 refine ⟨?_, ?_, h.most, ?_, ?_, ?_, ?_, ?_, ?_, ?_, ?_⟩
 ·show ((p.fs.modify i _).map Fr.key).Nodup
  rw [map_modify_same Fr.key _ p.fs i f hf rfl]; exact h.keys
 ·show (p.fs.modify i _).length ≤ p.most
  rw [List.length_modify]; exact h.len
 ·intro g hg
  rcases mem_modify hf hg with q | q
  ·exact h.room g q
  ·subst q; exact h.room f hm
 ·intro g hg
  rcases mem_modify hf hg with q | q
  ·exact h.pages g q
  ·subst q; exact h.pages f hm
 ·show ((p.fs.modify i _).flatMap (·.pins)).Nodup
  rw [(flatMap_pin p.fs i f hf).nodup_iff, List.nodup_cons]
  refine ⟨fun hx => ?_, h.pins⟩
  obtain ⟨g, hg, hgp⟩ := List.mem_flatMap.1 hx
  have := (h.old g hg _ hgp).2; omega
 ·intro g hg x hx
  show 1 ≤ x ∧ x < w64 (p.next + 1)
  rw [hw]
  rcases mem_modify hf hg with q | q
  ·have := h.old g q x hx; omega
  ·subst q
   rcases List.mem_append.1 hx with r | r
   ·have := h.old f hm x r; omega
   ·simp at r; omega
 ·show 0 ≤ p.tick ∧ p.tick + (((p.fs.modify i (Fr.pin p.next)).map fun f => f.pins.length).sum : Nat) < w64 (p.next + 1)
  rw [hw]
  have := sum_modify (fun f : Fr => f.pins.length) (Fr.pin p.next) p.fs i f hf
  simp only [Fr.pin, List.length_append, List.length_singleton] at this
  unfold Pl.pins at ht
  exact ⟨ht.1, by omega⟩
 ·intro a b x y hx hy hxp hyp hxy
  have ne : ∀ (j : Nat) (g : Fr), (p.fs.modify i (Fr.pin p.next))[j]? = some g → g.pins = [] → p.fs[j]? = some g := by
   intro j g hj hg
   by_cases e : i = j
   ·subst e; rw [modify_same hf] at hj; cases hj; simp [Fr.pin] at hg
   ·rw [modify_other e] at hj; exact hj
  exact h.lefts a b x y (ne a x hx hxp) (ne b y hy hyp) hxp hyp hxy
 ·intro g hg
  rcases mem_modify hf hg with q | q
  ·exact h.past g q
  ·subst q; exact h.past f hm
 ·show (p.fs.modify i _).length ≤ p.peak ∧ _
  rw [List.length_modify]; exact h.peak
theorem Pl.add_at (p : Pl) (f : Fr) : (p.add f).fs[p.fs.length]? = some f := by simp [Pl.add]
theorem Pl.WF.take [Tab] {p : Pl} (h : p.WF) {f : Fr} (hl : p.fs.length < p.most) (hn : p.next < 9223372036854775807) (hk : p.find f.name f.page = none) (hb : f.b.length ≤ 504) (hpg : f.page < 1048577) (hnm : f.name.size ≤ 9223372036854775807) (hp : f.pins = []) (hlf : f.left = 0) : (p.take f).WF := by
 have ht := h.tick
 have hw : w64 (p.next + 1) = p.next + 1 := by unfold w64; exact wrap64 (by omega) (by omega)
 have e : (p.take f).fs = p.fs ++ [Fr.pin p.next f] := by
  show (p.fs ++ [f]).modify p.fs.length (Fr.pin p.next) = _
  have ha : (p.fs ++ [f])[p.fs.length]? = some f := p.add_at f
  rw [modify_set ha]
  simp
 have mem : ∀ g ∈ (p.take f).fs, g ∈ p.fs ∨ g = Fr.pin p.next f := fun g hg => by
  rw [e] at hg; simpa using hg
 have hnx : (p.take f).next = p.next + 1 := hw
 have hpk := h.peak
 refine ⟨?_, ?_, h.most, ?_, ?_, ?_, ?_, ?_, ?_, ?_, ?_⟩
 ·rw [e, List.map_append, List.nodup_append]
  refine ⟨h.keys, by simp, fun a ha b hb2 => ?_⟩
  obtain ⟨g, hg, rfl⟩ := List.mem_map.1 ha
  simp only [List.map_cons, List.map_nil, List.mem_singleton] at hb2
  subst hb2
  intro eq
  have e1 : g.name = f.name := congrArg Prod.fst eq
  have e2 : g.page = f.page := congrArg Prod.snd eq
  exact Pl.find_none hk g hg e1 (by omega)
 ·rw [e]; show _ ≤ p.most; simp; omega
 ·intro g hg
  rcases mem g hg with q | q
  ·exact h.room g q
  ·subst q; exact hb
 ·intro g hg
  rcases mem g hg with q | q
  ·exact h.pages g q
  ·subst q; exact ⟨hpg, hnm⟩
 ·rw [e, List.flatMap_append, List.nodup_append]
  refine ⟨h.pins, by simp [Fr.pin, hp], fun a ha b hb2 => ?_⟩
  obtain ⟨g, hg, hga⟩ := List.mem_flatMap.1 ha
  simp [Fr.pin, hp] at hb2
  have := (h.old g hg a hga).2; omega
 ·intro g hg x hx
  rw [hnx]
  rcases mem g hg with q | q
  ·have := h.old g q x hx; omega
  ·subst q
   simp [Fr.pin, hp] at hx
   omega
 ·rw [hnx]
  refine ⟨ht.1, ?_⟩
  have : (p.take f).pins = p.pins + 1 := by
   unfold Pl.pins; rw [e]; simp [Fr.pin, hp]
  show p.tick + _ < _
  rw [this]; omega
 ·intro a b x y hx hy hxp hyp hxy
  rw [e] at hx hy
  have ne : ∀ (j : Nat) (g : Fr), (p.fs ++ [Fr.pin p.next f])[j]? = some g → g.pins = [] → p.fs[j]? = some g := by
   intro j g hj hg
   rw [List.getElem?_append] at hj
   split at hj
   ·exact hj
   ·have : g = Fr.pin p.next f := by have := List.mem_of_getElem? hj; simpa using this
    subst this; simp [Fr.pin] at hg
  exact h.lefts a b x y (ne a x hx hxp) (ne b y hy hyp) hxp hyp hxy
 ·intro g hg
  rcases mem g hg with q | q
  ·exact h.past g q
  ·subst q
   show 0 ≤ f.left ∧ f.left ≤ p.tick
   rw [hlf]; exact ⟨Int.le_refl _, ht.1⟩
 ·rw [e]; show _ ≤ max p.peak (p.fs.length + 1) ∧ max p.peak (p.fs.length + 1) ≤ p.most
  simp only [List.length_append, List.length_singleton]
  omega
theorem filter_one {h : Int} {l : List Int} (hd : l.Nodup) (hm : h ∈ l) : (l.filter fun x => decide (x ≠ h)).length + 1 = l.length := by
 induction l with
 | nil => cases hm
 | cons a l ih =>
   rw [List.nodup_cons] at hd
   rw [List.filter_cons]
   by_cases e : a = h
   ·subst e
    have : l.filter (fun x => decide (x ≠ a)) = l := by
     rw [List.filter_eq_self]
     intro x hx
     have : x ≠ a := fun e => hd.1 (e ▸ hx)
     simp [this]
    rw [this]; simp
   ·have hm' : h ∈ l := by
     rcases List.mem_cons.1 hm with q | q
     ·exact absurd q.symm e
     ·exact q
    have := ih hd.2 hm'
    simp only [ne_eq, e, not_false_eq_true, decide_true, if_true, List.length_cons]
    simp only [ne_eq] at this
    omega
theorem flat_nodup {α β : Type} {u : α → List β} : ∀ {l : List α}, (l.flatMap u).Nodup → ∀ {i : Nat} {x : α}, l[i]? = some x → (u x).Nodup
 | [], _, i, x, h => by simp at h
 | a :: l, hd, 0, x, h => by
   rw [List.flatMap_cons, List.nodup_append] at hd
   simp at h; subst h; exact hd.1
 | a :: l, hd, i + 1, x, h => by
   rw [List.flatMap_cons, List.nodup_append] at hd
   exact flat_nodup hd.2.1 (by simpa using h)
theorem flatMap_sub {α β : Type} (u : α → List β) (g : α → α) (hg : ∀ x, (u (g x)).Sublist (u x)) : ∀ (l : List α) (i : Nat), ((l.modify i g).flatMap u).Sublist (l.flatMap u)
 | [], i => by simp
 | a :: l, 0 => by
   simp only [List.modify_zero_cons, List.flatMap_cons]
   exact (hg a).append (List.Sublist.refl _)
 | a :: l, i + 1 => by
   simp only [List.modify_succ_cons, List.flatMap_cons]
   exact (List.Sublist.refl _).append (flatMap_sub u g hg l i)
theorem Pl.WF.unpin [Tab] {p : Pl} (hw : p.WF) (h : Int) (hn : p.next < 9223372036854775807) : (p.unpin h).1.WF := by
 unfold Pl.unpin
 split
 ·exact hw
 ·split
  ·rename_i i hi
   obtain ⟨f, hf, hm⟩ := Pl.held_some hi
   have hfm := List.mem_of_getElem? hf
   have ht := hw.tick
   have hpins := filter_one (flat_nodup hw.pins hf) hm
   have hfl : f.pins.length ≤ p.pins := le_sum (fun f : Fr => f.pins.length) p.fs i f hf
   have hwt : w64 (p.tick + 1) = p.tick + 1 := by unfold w64; exact wrap64 (by omega) (by omega)
   rw [hwt]
   have get : ∀ (j : Nat) (g : Fr), (p.fs.modify i (Fr.unpin h (p.tick + 1)))[j]? = some g → (j = i ∧ g = Fr.unpin h (p.tick + 1) f) ∨ (j ≠ i ∧ p.fs[j]? = some g) := by
    intro j g hj
    by_cases e : i = j
    ·subst e; rw [modify_same hf] at hj; cases hj; exact .inl ⟨rfl, rfl⟩
    ·rw [modify_other e] at hj; exact .inr ⟨fun q => e q.symm, hj⟩
   refine ⟨?_, ?_, hw.most, ?_, ?_, ?_, ?_, ?_, ?_, ?_, ?_⟩
   ·show ((p.fs.modify i _).map Fr.key).Nodup
    rw [map_modify_same Fr.key _ p.fs i f hf rfl]; exact hw.keys
   ·show (p.fs.modify i _).length ≤ p.most
    rw [List.length_modify]; exact hw.len
   ·intro g hg
    rcases mem_modify hf hg with q | q
    ·exact hw.room g q
    ·subst q; exact hw.room f hfm
   ·intro g hg
    rcases mem_modify hf hg with q | q
    ·exact hw.pages g q
    ·subst q; exact hw.pages f hfm
   ·exact (flatMap_sub (·.pins) (Fr.unpin h (p.tick + 1)) (fun x => List.filter_sublist) p.fs i).nodup hw.pins
   ·intro g hg x hx
    rcases mem_modify hf hg with q | q
    ·exact hw.old g q x hx
    ·subst q; exact hw.old f hfm x (List.mem_filter.1 hx).1
   ·show 0 ≤ p.tick + 1 ∧ p.tick + 1 + (((p.fs.modify i (Fr.unpin h (p.tick + 1))).map fun f => f.pins.length).sum : Nat) < p.next
    have := sum_modify (fun f : Fr => f.pins.length) (Fr.unpin h (p.tick + 1)) p.fs i f hf
    simp only [Fr.unpin] at this
    unfold Pl.pins at ht
    constructor
    ·omega
    ·omega
   ·intro a b x y hx hy hxp hyp hxy
    rcases get a x hx with ⟨q1, q2⟩ | ⟨q1, q2⟩
    ·rcases get b y hy with ⟨r1, r2⟩ | ⟨r1, r2⟩
     ·omega
     ·have := hw.past y (List.mem_of_getElem? r2)
      rw [q2] at hxy
      simp only [Fr.unpin] at hxy
      omega
    ·rcases get b y hy with ⟨r1, r2⟩ | ⟨r1, r2⟩
     ·have := hw.past x (List.mem_of_getElem? q2)
      rw [r2] at hxy
      simp only [Fr.unpin] at hxy
      omega
     ·exact hw.lefts a b x y q2 r2 hxp hyp hxy
   ·intro g hg
    show 0 ≤ g.left ∧ g.left ≤ p.tick + 1
    rcases mem_modify hf hg with q | q
    ·have := hw.past g q; omega
    ·subst q; simp only [Fr.unpin]; omega
   ·show (p.fs.modify i _).length ≤ p.peak ∧ _
    rw [List.length_modify]; exact hw.peak
  ·exact hw
theorem Pl.WF.set [Tab] {p : Pl} (hw : p.WF) (h : Int) (k : UInt8) (b : List UInt8) : (p.set h k b).1.WF := by
 unfold Pl.set
 split
 ·exact hw
 ·split
  ·rename_i i hi
   obtain ⟨f, hf, hm⟩ := Pl.held_some hi
   split
   ·exact hw
   ·exact hw.turn hf rfl rfl rfl (by simp only [Fr.set]; omega)
  ·exact hw
theorem pl0_wf {d : Dk} {m : Nat} (h1 : 8 ≤ m) (h2 : m ≤ 4096) : (pl0 d m).WF := by
 refine ⟨by simp [pl0], by simp [pl0], ⟨h1, h2⟩, ?_, ?_, by simp [pl0], ?_, ?_, ?_, ?_, by simp [pl0]⟩
 ·intro f hf; simp [pl0] at hf
 ·intro f hf; simp [pl0] at hf
 ·intro f hf; simp [pl0] at hf
 ·simp [pl0, Pl.pins]
 ·intro i j f g hi; simp [pl0] at hi
 ·intro f hf; simp [pl0] at hf
open Go.MapKept
structure FrG where
 p : Nat
 b : Sl
def FrG.fp (g : FrG) (b : Nat) : Prop := b = g.p ∨ ownB g.b b
def frC (g : FrG) (f : Fr) : Array Value := #[.string f.name, .int .i64 (f.page : Int), .int .u8 (f.kind.toNat : Int), g.b.v, .bool f.dirty, .int .i64 (f.pins.length : Int), .int .i64 f.left]
structure FrAt (H : Heap) (g : FrG) (f : Fr) : Prop where
 row : RowT H g.p Yau (frC g f)
 b : SlE EB YaL H g.b f.b
theorem FrAt.lt [Tab] {H : Heap} {g : FrG} {f : Fr} (h : FrAt H g f) : ∀ b, g.fp b → b < H.size := by
 rintro b (rfl | hb)
 ·exact obj_lt h.row
 ·exact h.b.lt b hb
theorem FrAt.keep [Tab] {H H' : Heap} {g : FrG} {f : Fr} (h : FrAt H g f) (k : ∀ b, g.fp b → b < H.size → H'[b]? = H[b]?) : FrAt H' g f :=
 ⟨(k _ (.inl rfl) (obj_lt h.row)).trans h.row, h.b.keep fun b hb => k b (.inr hb)⟩
theorem FrAt.obj {H : Heap} {g : FrG} {f : Fr} (h : FrAt H g f) : ∀ b, g.fp b → ∃ cs t, H[b]? = some (.cells cs t (0, 0)) ∧ (t = Yau ∨ t = YaL) := by
 rintro b (rfl | hb)
 ·exact ⟨_, _, h.row, .inl rfl⟩
 ·obtain ⟨c, q⟩ := h.b.obj b hb; exact ⟨c, _, q, .inr rfl⟩
def keyV (n : ByteArray) (g : Int) : Value := .agg #[.string n, .int .i64 g]
theorem keyV_inj {n m : ByteArray} {g k : Int} (h : keyV n g = keyV m k) : n = m ∧ g = k := by
 unfold keyV at h
 simp at h
 exact h
abbrev FZ := Fr × FrG
def kvF (zs : List FZ) : List (Value × Value) := zs.map fun z => (keyV z.1.name (z.1.page : Int), ptrV z.2.p)
def kvP (z : FZ) : List (Value × Value) := z.1.pins.map fun h => (Value.int .i64 h, ptrV z.2.p)
def kvH (zs : List FZ) : List (Value × Value) := zs.flatMap kvP
structure PG where
 mf : Nat
 ef : Array MapEntry
 cf : Nat
 mh : Nat
 eh : Array MapEntry
 ch : Nat
 zs : List FZ
def PG.fs (x : PG) : List Fr := x.zs.map (·.1)
def PG.fp (x : PG) (b : Nat) : Prop := b = x.mf ∨ b = x.mh ∨ ∃ z ∈ x.zs, z.2.fp b
def spotB (P : Program) (kt : TypeId) : Bool :=
 match P.underlying kt with
 | some (.struct fs) => (match fs.toList with
   | [f0, f1] => (match P.underlying f0.type with | some .string => true | _ => false) && (match P.underlying f1.type with | some (.int .i64) => true | _ => false)
     && Nat.beq f0.offset 0 && Nat.beq f1.offset 1 && Nat.beq (P.cellsOf f0.type) 1 && Nat.beq (P.cellsOf f1.type) 1 && (f0.name != "_") && (f1.name != "_") && Nat.beq (P.cellsOf kt) 2 && P.keyType kt && Nat.blt 0 P.types.size
   | _ => false)
 | _ => false
theorem spot_key {P : Program} {kt : TypeId} (h : spotB P kt = true) {n : ByteArray} {g : Int} (hn : n.size ≤ 9223372036854775807) (h0 : -9223372036854775808 ≤ g) (h1 : g ≤ 9223372036854775807) : KeyW P kt (keyV n g) := by
 unfold spotB at h
 split at h
 ·rename_i fs hu
  split at h
  ·rename_i f0 f1 hfs
   simp only [Bool.and_eq_true, bne_iff_ne, ne_eq] at h
   obtain ⟨⟨⟨⟨⟨⟨⟨⟨⟨⟨a1, a2⟩, a3⟩, a4⟩, a5⟩, a6⟩, a7⟩, a8⟩, a9⟩, a10⟩, a11⟩ := h
   have e3 := Nat.eq_of_beq_eq_true a3
   have e4 := Nat.eq_of_beq_eq_true a4
   have e5 := Nat.eq_of_beq_eq_true a5
   have e6 := Nat.eq_of_beq_eq_true a6
   have e9 := Nat.eq_of_beq_eq_true a9
   have hpos : 0 < P.types.size := blt_t.1 a11
   obtain ⟨m, hm⟩ : ∃ m, P.types.size = m + 1 := ⟨P.types.size - 1, by omega⟩
   split at a1
   ·rename_i u0
    split at a2
    ·rename_i u1
     have hform : Value.formed P kt (keyV n g) = true := by
      unfold keyV Value.formed
      simp only [hu, e9]
      rfl
     have hwf : (Lit.int .i64 g).wf = true := by
      unfold Lit.wf
      simp only [Bool.and_eq_true, decide_eq_true_eq]
      exact ⟨by show (-9223372036854775808 : Int) ≤ g; exact h0, by show g ≤ (9223372036854775807 : Int); exact h1⟩
     have hall : fs.all (fun f => f.name != "_") = true := by
      rw [← Array.all_toList, hfs]
      simp [a7, a8]
     have l0 : P.keyLits (m + 1) f0.type [.string n] = some [.string n.data.toList] := by
      unfold Program.keyLits
      simp only [u0]
      rw [if_pos (by unfold maxLen; omega)]
     have l1 : P.keyLits (m + 1) f1.type [.int .i64 g] = some [.int .i64 g] := by
      unfold Program.keyLits
      simp only [u1]
      rw [if_pos ⟨trivial, hwf⟩]
     refine ⟨.string (keyBytes [.string n.data.toList, .int .i64 g]), ?_⟩
     unfold Go.keyOf
     simp only [hu]
     rw [if_pos (by rw [a10, hform]; rfl), hm]
     unfold Program.keyLits
     simp only [hu]
     have hc2 : (keyV n g).cells.toList = [.string n, .int .i64 g] := rfl
     rw [hc2, if_pos ⟨by rw [e9]; rfl, hall⟩, hfs]
     simp [List.mapM_cons, e3, e4, e5, e6, l0, l1]
    ·cases a2
   ·cases a1
  ·cases h
 ·cases h
theorem keySpot : WideMaps.KeyLaw Tryz.prog YaC := Go.deep_law_gate (by kernel_rfl) (Nat.le_of_ble_eq_true (by kernel_rfl)) (Nat.le_of_ble_eq_true (by kernel_rfl)) (by kernel_rfl) (by kernel_rfl)
theorem keyW_spot {n : ByteArray} {g : Int} (hn : n.size ≤ 9223372036854775807) (h0 : -9223372036854775808 ≤ g) (h1 : g ≤ 9223372036854775807) : KeyW Tryz.prog YaC (keyV n g) := spot_key (by kernel_rfl) hn h0 h1
structure FramesAt (H : Heap) (x : PG) : Prop where
 fmap : MapW Tryz.prog YaC H x.mf x.ef x.cf
 hmap : MapAt (.int .i64) H x.mh x.eh x.ch
 ne : x.mf ≠ x.mh
 size : x.ef.size = x.zs.length
 entF : ∀ k v, HasE x.ef k v ↔ (k, v) ∈ kvF x.zs
 entH : ∀ k v, HasE x.eh k v ↔ (k, v) ∈ kvH x.zs
 each : ∀ z ∈ x.zs, FrAt H z.2 z.1
 apart : ∀ (i j : Nat) (z z' : FZ), x.zs[i]? = some z → x.zs[j]? = some z' → i ≠ j → ∀ b, z.2.fp b → ¬ z'.2.fp b
theorem FramesAt.lt [Tab] {H : Heap} {x : PG} (h : FramesAt H x) : ∀ b, x.fp b → b < H.size := by
 rintro b (rfl | rfl | ⟨z, hz, hb⟩)
 ·exact h.fmap.lt
 ·exact h.hmap.lt
 ·exact (h.each z hz).lt b hb
theorem FramesAt.keep [Tab] {H H' : Heap} {x : PG} (h : FramesAt H x) (k : ∀ b, x.fp b → b < H.size → H'[b]? = H[b]?) : FramesAt H' x :=
 ⟨⟨(k _ (.inl rfl) h.fmap.lt).trans h.fmap.obj, h.fmap.stamped, h.fmap.keys⟩, h.hmap.keep (k _ (.inr (.inl rfl)) h.hmap.lt), h.ne, h.size, h.entF, h.entH,
   fun z hz => (h.each z hz).keep fun b hb => k b (.inr (.inr ⟨z, hz, hb⟩)), h.apart⟩
theorem FramesAt.off {H : Heap} {x : PG} (h : FramesAt H x) {z : FZ} (hz : z ∈ x.zs) : ¬ z.2.fp x.mf ∧ ¬ z.2.fp x.mh := by
 constructor
 ·intro hb
  obtain ⟨cs, t, e, _⟩ := (h.each z hz).obj _ hb
  rw [h.fmap.obj] at e; cases e
 ·intro hb
  obtain ⟨cs, t, e, _⟩ := (h.each z hz).obj _ hb
  rw [h.hmap.obj] at e; cases e
theorem FramesAt.at {H : Heap} {x : PG} (_h : FramesAt H x) {i : Nat} {f : Fr} (hf : x.fs[i]? = some f) : ∃ g, x.zs[i]? = some (f, g) := by
 unfold PG.fs at hf
 rw [List.getElem?_map, Option.map_eq_some_iff] at hf
 obtain ⟨⟨f', g⟩, h1, rfl⟩ := hf
 exact ⟨g, h1⟩
theorem mem_set' [Tab] {α : Type} {l : List α} {i : Nat} {a y : α} (hy : y ∈ l.set i a) : (∃ j, j ≠ i ∧ l[j]? = some y) ∨ y = a := by
 obtain ⟨j, hj⟩ := List.mem_iff_getElem?.1 hy
 by_cases e : i = j
 ·subst e
  have hl : i < l.length := by have := (List.getElem?_eq_some_iff.1 hj).1; simpa using this
  rw [List.getElem?_set, if_pos rfl, if_pos hl] at hj; cases hj; exact .inr rfl
 ·rw [List.getElem?_set, if_neg e] at hj; exact .inl ⟨j, fun q => e q.symm, hj⟩
theorem set_apart [Tab] {H : Heap} {x : PG} (h : FramesAt H x) {i : Nat} {z z' : FZ} (hz : x.zs[i]? = some z) (hb : ∀ b, z'.2.fp b → z.2.fp b ∨ H.size ≤ b) :
  ∀ (a c : Nat) (u v : FZ), (x.zs.set i z')[a]? = some u → (x.zs.set i z')[c]? = some v → a ≠ c → ∀ b, u.2.fp b → ¬ v.2.fp b := by
 have hil := (List.getElem?_eq_some_iff.1 hz).1
 intro a c u v h1 h2 hac b hb1 hb2
 rw [List.getElem?_set] at h1 h2
 by_cases hia : i = a
 ·subst hia
  rw [if_neg hac] at h2
  rw [if_pos rfl, if_pos hil] at h1
  cases h1
  have hbl := (h.each v (List.mem_of_getElem? h2)).lt b hb2
  rcases hb b hb1 with q | q
  ·exact h.apart i c z v hz h2 hac b q hb2
  ·omega
 ·rw [if_neg hia] at h1
  have hbl := (h.each u (List.mem_of_getElem? h1)).lt b hb1
  by_cases hic : i = c
  ·subst hic
   rw [if_pos rfl, if_pos hil] at h2
   cases h2
   rcases hb b hb2 with q | q
   ·exact h.apart a i u z h1 hz hac b hb1 q
   ·omega
  ·rw [if_neg hic] at h2
   exact h.apart a c u v h1 h2 hac b hb1 hb2
theorem FramesAt.set [Tab] {H H' : Heap} {x : PG} (h : FramesAt H x) {i : Nat} {z z' : FZ} {eh' : Array MapEntry} {ch' : Nat} (hz : x.zs[i]? = some z) (hn : z'.1.name = z.1.name) (hpg : z'.1.page = z.1.page) (hp : z'.2.p = z.2.p)
  (hq : FrAt H' z'.2 z'.1) (hh : MapAt (.int .i64) H' x.mh eh' ch') (hent : ∀ k v, HasE eh' k v ↔ (k, v) ∈ kvH (x.zs.set i z'))
  (hm : ∀ b, x.fp b → ¬ z.2.fp b → b ≠ x.mh → b < H.size → H'[b]? = H[b]?) (hb : ∀ b, z'.2.fp b → z.2.fp b ∨ H.size ≤ b) :
  FramesAt H' { x with zs := x.zs.set i z', eh := eh', ch := ch' } ∧ (∀ b, PG.fp { x with zs := x.zs.set i z', eh := eh', ch := ch' } b → x.fp b ∨ H.size ≤ b) := by
 have hzm := List.mem_of_getElem? hz
 have hoff := h.off hzm
 refine ⟨⟨⟨(hm _ (.inl rfl) hoff.1 h.ne h.fmap.lt).trans h.fmap.obj, h.fmap.stamped, h.fmap.keys⟩, hh, h.ne, by simp [h.size], ?_, hent, ?_, set_apart h hz hb⟩, ?_⟩
 ·intro k v
  have : kvF (x.zs.set i z') = kvF x.zs := by
   unfold kvF
   rw [show x.zs.set i z' = x.zs.modify i (fun _ => z') from (modify_set (g := fun _ => z') hz).symm]
   exact map_modify_same _ _ _ _ _ hz (by simp only [hn, hpg, hp])
  rw [this]; exact h.entF k v
 ·intro u hu
  rcases mem_set' hu with ⟨j, hji, hj⟩ | rfl
  ·have hum := List.mem_of_getElem? hj
   exact (h.each u hum).keep fun b hb1 hl => hm b (.inr (.inr ⟨u, hum, hb1⟩)) (fun q => h.apart j i u z hj hz hji b hb1 q) (fun e => (h.off hum).2 (e ▸ hb1)) hl
  ·exact hq
 ·rintro b (e | e | ⟨u, hu, hb1⟩)
  ·exact .inl (.inl e)
  ·exact .inl (.inr (.inl e))
  ·rcases mem_set' hu with ⟨j, _, hj⟩ | rfl
   ·exact .inl (.inr (.inr ⟨u, List.mem_of_getElem? hj, hb1⟩))
   ·exact (hb b hb1).imp (fun q => .inr (.inr ⟨z, hzm, q⟩)) id
theorem FramesAt.turn [Tab] {H H' : Heap} {x : PG} (h : FramesAt H x) {i : Nat} {z z' : FZ} (hz : x.zs[i]? = some z) (hn : z'.1.name = z.1.name) (hpg : z'.1.page = z.1.page) (hpi : z'.1.pins = z.1.pins) (hp : z'.2.p = z.2.p)
  (hq : FrAt H' z'.2 z'.1) (hm : ∀ b, x.fp b → ¬ z.2.fp b → b < H.size → H'[b]? = H[b]?) (hb : ∀ b, z'.2.fp b → z.2.fp b ∨ H.size ≤ b) :
  FramesAt H' { x with zs := x.zs.set i z' } ∧ (∀ b, PG.fp { x with zs := x.zs.set i z' } b → x.fp b ∨ H.size ≤ b) := by
 have hzm := List.mem_of_getElem? hz
 have hoff := h.off hzm
 refine h.set hz hn hpg hp hq (h.hmap.keep (hm _ (.inr (.inl rfl)) hoff.2 h.hmap.lt)) (fun k v => ?_) (fun b h1 h2 _ h4 => hm b h1 h2 h4) hb
 have : kvH (x.zs.set i z') = kvH x.zs := by
  unfold kvH
  rw [show x.zs.set i z' = x.zs.modify i (fun _ => z') from (modify_set (g := fun _ => z') hz).symm]
  exact flatMap_modify _ _ _ _ _ hz (by simp only [kvP, hpi, hp])
 rw [this]; exact h.entH k v
theorem kvF_append (l r : List FZ) : kvF (l ++ r) = kvF l ++ kvF r := by simp [kvF]
theorem kvH_append (l r : List FZ) : kvH (l ++ r) = kvH l ++ kvH r := by simp [kvH]
theorem kvP_nil {z : FZ} (h : z.1.pins = []) : kvP z = [] := by simp [kvP, h]
theorem erase_back {α : Type} {l : List α} {i j : Nat} {a : α} (ha : (l.eraseIdx i)[j]? = some a) : ∃ j', j' ≠ i ∧ l[j']? = some a ∧ j' = if j < i then j else j + 1 := by
 rw [List.getElem?_eraseIdx] at ha
 split at ha
 ·rename_i q; exact ⟨j, by omega, ha, by rw [if_pos q]⟩
 ·rename_i q; exact ⟨j + 1, by omega, ha, by rw [if_neg q]⟩
theorem mem_erase {α : Type} {l : List α} {i : Nat} {a : α} : a ∈ l.eraseIdx i ↔ ∃ j, j ≠ i ∧ l[j]? = some a := List.mem_eraseIdx_iff_getElem?
theorem FramesAt.erase [Tab] {H H' : Heap} {x : PG} (h : FramesAt H x) {i : Nat} {z : FZ} {ef' : Array MapEntry} (hz : x.zs[i]? = some z) (hp : z.1.pins = []) (hk : (x.fs.map Fr.key).Nodup) (hf : MapW Tryz.prog YaC H' x.mf ef' x.cf)
  (hent : ∀ k v, HasE ef' k v ↔ HasE x.ef k v ∧ k ≠ keyV z.1.name (z.1.page : Int)) (hs : ∀ u, HasE x.ef (keyV z.1.name (z.1.page : Int)) u → ef'.size + 1 = x.ef.size)
  (hm : ∀ b, x.fp b → b ≠ x.mf → b < H.size → H'[b]? = H[b]?) : FramesAt H' { x with zs := x.zs.eraseIdx i, ef := ef' } := by
 have old : ∀ u ∈ x.zs, FrAt H' u.2 u.1 := fun u hu => (h.each u hu).keep fun b hb hl => hm b (.inr (.inr ⟨u, hu, hb⟩)) (fun e => (h.off hu).1 (e ▸ hb)) hl
 have hil := (List.getElem?_eq_some_iff.1 hz).1
 have hzm := List.mem_of_getElem? hz
 have hsz := hs _ ((h.entF _ _).2 (List.mem_map.2 ⟨z, hzm, rfl⟩))
 have inj : ∀ (j : Nat) (u : FZ), x.zs[j]? = some u → u.1.name = z.1.name → u.1.page = z.1.page → j = i := by
  intro j u hj e1 e2
  have hjl := (List.getElem?_eq_some_iff.1 hj).1
  refine (List.getElem?_inj (l := x.fs.map Fr.key) (by simpa [PG.fs] using hjl) hk).1 ?_
  simp [PG.fs, hj, hz, Fr.key, e1, e2]
 refine ⟨hf, h.hmap.keep (hm _ (.inr (.inl rfl)) h.ne.symm h.hmap.lt), h.ne, ?_, ?_, ?_, ?_, ?_⟩
 ·simp only; rw [List.length_eraseIdx_of_lt hil]; have := h.size; omega
 ·intro k v
  rw [hent k v, h.entF k v]
  unfold kvF
  simp only [List.mem_map]
  constructor
  ·rintro ⟨⟨u, hu, e⟩, hne⟩
   refine ⟨u, ?_, e⟩
   obtain ⟨j, hj⟩ := List.mem_iff_getElem?.1 hu
   refine mem_erase.2 ⟨j, fun q => ?_, hj⟩
   subst q; rw [hz] at hj; cases hj
   simp only [Prod.mk.injEq] at e
   exact hne e.1.symm
  ·rintro ⟨u, hu, e⟩
   obtain ⟨j, hji, hj⟩ := mem_erase.1 hu
   refine ⟨⟨u, List.mem_of_getElem? hj, e⟩, fun q => hji ?_⟩
   simp only [Prod.mk.injEq] at e
   have := keyV_inj (e.1.trans q)
   exact inj j u hj this.1 (by omega)
 ·intro k v
  rw [h.entH k v]
  unfold kvH
  simp only [List.mem_flatMap]
  constructor
  ·rintro ⟨u, hu, e⟩
   refine ⟨u, ?_, e⟩
   obtain ⟨j, hj⟩ := List.mem_iff_getElem?.1 hu
   refine mem_erase.2 ⟨j, fun q => ?_, hj⟩
   subst q; rw [hz] at hj; cases hj
   rw [kvP_nil hp] at e; cases e
  ·rintro ⟨u, hu, e⟩
   obtain ⟨j, hji, hj⟩ := mem_erase.1 hu
   exact ⟨u, List.mem_of_getElem? hj, e⟩
 ·intro u hu
  exact old u (List.mem_of_mem_eraseIdx hu)
 ·intro a c u v h1 h2 hac
  obtain ⟨j1, n1, q1, e1⟩ := erase_back h1
  obtain ⟨j2, n2, q2, e2⟩ := erase_back h2
  refine h.apart j1 j2 u v q1 q2 ?_
  rw [e1, e2]
  split <;> split <;> omega
def headP (dp : Nat) (x : PG) (s : Pl) : Array Value := #[ptrV dp, .int .i64 (s.most : Int), .map (some x.mf), .map (some x.mh), .int .i64 s.next, .int .i64 s.tick, .int .i64 (s.peak : Int), .int .i64 s.wrong]
structure PoolG (x : PG) (H : Heap) (p dp : Nat) (s : Pl) : Prop where
 head : RowT H p YaD (headP dp x s)
 frames : FramesAt H x
 fs : s.fs = x.fs
 wf : s.WF
def PG.all (x : PG) (p b : Nat) : Prop := b = p ∨ x.fp b
theorem PoolG.off {x : PG} {H : Heap} {p : Nat} {cs : Array Value} (hd : RowT H p YaD cs) (h : FramesAt H x) : ¬ x.fp p := by
 rintro (e | e | ⟨z, hz, hb⟩)
 ·have := h.fmap.obj; rw [← e, hd] at this; cases this
 ·have := h.hmap.obj; rw [← e, hd] at this; cases this
 ·obtain ⟨c, t, e, ht⟩ := (h.each z hz).obj _ hb
  have := cells_ty hd e
  rw [← this] at ht
  exact absurd ht (by decide)
theorem PoolG.lt [Tab] {x : PG} {H : Heap} {p dp : Nat} {s : Pl} (h : PoolG x H p dp s) : ∀ b, x.all p b → b < H.size := by
 rintro b (rfl | hb)
 ·exact obj_lt h.head
 ·exact h.frames.lt b hb
theorem PoolG.keep [Tab] {x : PG} {H H' : Heap} {p dp : Nat} {s : Pl} (h : PoolG x H p dp s) (k : ∀ b, x.all p b → b < H.size → H'[b]? = H[b]?) : PoolG x H' p dp s :=
 ⟨(k p (.inl rfl) (obj_lt h.head)).trans h.head, h.frames.keep fun b hb => k b (.inr hb), h.fs, h.wf⟩
theorem PoolG.setD [Tab] {x : PG} {H : Heap} {p dp : Nat} {s : Pl} (h : PoolG x H p dp s) (d : Dk) : PoolG x H p dp (s.setD d) := ⟨h.head, h.frames, h.fs, h.wf.setD d⟩
theorem PoolG.at [Tab] {x : PG} {H : Heap} {p dp : Nat} {s : Pl} (h : PoolG x H p dp s) {i : Nat} {f : Fr} (hf : s.fs[i]? = some f) : ∃ g, x.zs[i]? = some (f, g) ∧ FrAt H g f := by
 rw [h.fs] at hf
 obtain ⟨g, hg⟩ := h.frames.at hf
 exact ⟨g, hg, h.frames.each _ (List.mem_of_getElem? hg)⟩
theorem PoolG.n [Tab] {x : PG} {H : Heap} {p dp : Nat} {s : Pl} (h : PoolG x H p dp s) : x.ef.size = s.fs.length := by rw [h.fs, h.frames.size]; simp [PG.fs]
structure PoolD (x : PG) (D : Nat → Prop) (H : Heap) (p dp : Nat) (s : Pl) : Prop where
 pool : PoolG x H p dp s
 disk : DiskAt D H dp s.d
 apart : ∀ b, D b → ¬ x.all p b
 glob : ¬ D gSteps ∧ ¬ x.all p gSteps
def PoolAt (F : Nat → Prop) (H : Heap) (p dp : Nat) (s : Pl) : Prop := ∃ x D, PoolD x D H p dp s ∧ ∀ b, F b ↔ D b ∨ x.all p b
theorem PoolD.lt [Tab] {x : PG} {D : Nat → Prop} {H : Heap} {p dp : Nat} {s : Pl} (h : PoolD x D H p dp s) : ∀ b, D b ∨ x.all p b → b < H.size := by
 rintro b (hb | hb)
 ·exact h.disk.lt b hb
 ·exact h.pool.lt b hb
theorem PoolAt.lt [Tab] {F : Nat → Prop} {H : Heap} {p dp : Nat} {s : Pl} (h : PoolAt F H p dp s) : ∀ b, F b → b < H.size := by
 obtain ⟨x, D, g, hF⟩ := h
 exact fun b hb => g.lt b ((hF b).1 hb)
theorem PoolAt.keep [Tab] {F : Nat → Prop} {H H' : Heap} {p dp : Nat} {s : Pl} (h : PoolAt F H p dp s) (k : ∀ b, F b → b < H.size → H'[b]? = H[b]?) : PoolAt F H' p dp s := by
 obtain ⟨x, D, g, hF⟩ := h
 exact ⟨x, D, ⟨g.pool.keep fun b hb => k b ((hF b).2 (.inr hb)), g.disk.keep fun b hb => k b ((hF b).2 (.inl hb)), g.apart, g.glob⟩, hF⟩
theorem Step.side [Tab] {D D' P : Nat → Prop} {H H' : Heap} (h : Step D D' H H') (ha : ∀ b, D b → ¬ P b) (hl : ∀ b, P b → b < H.size) : (∀ b, D' b → ¬ P b) ∧ Step (fun b => D b ∨ P b) (fun b => D' b ∨ P b) H H' := by
 refine ⟨fun b hb hp => ?_, h.mod.mono fun b _ q => .inl q, ?_⟩
 ·rcases h.own b hb with q | q
  ·exact ha b q hp
  ·have := hl b hp; omega
 ·rintro b (q | q)
  ·exact (h.own b q).imp .inl id
  ·exact .inl (.inr q)
theorem PoolD.stepD [Tab] {x : PG} {D D' : Nat → Prop} {H H' : Heap} {p dp : Nat} {s : Pl} {d : Dk} (hg : Gl H) (h : PoolD x D H p dp s) (hd : DiskAt D' H' dp d) (hs : Step D D' H H') :
  PoolD x D' H' p dp (s.setD d) ∧ Step (fun b => D b ∨ x.all p b) (fun b => D' b ∨ x.all p b) H H' := by
 obtain ⟨q1, q2⟩ := hs.side h.apart h.pool.lt
 exact ⟨⟨(h.pool.keep fun b hb hl => hs.mod.same b hl fun q => h.apart b q hb).setD d, hd, q1, fun q => by
  rcases hs.own _ q with r | r
  ·exact h.glob.1 r
  ·have := hg.lt; omega, h.glob.2⟩, q2⟩
theorem PoolD.stepP [Tab] {x x' : PG} {D : Nat → Prop} {H H' : Heap} {p dp : Nat} {s s' : Pl} (hg : Gl H) (h : PoolD x D H p dp s) (hp : PoolG x' H' p dp s') (hd : s'.d = s.d) (hm : Mod (x.all p) H H') (ho : ∀ b, x'.fp b → x.fp b ∨ H.size ≤ b) :
  PoolD x' D H' p dp s' ∧ Step (fun b => D b ∨ x.all p b) (fun b => D b ∨ x'.all p b) H H' := by
 have hl := h.disk.lt
 refine ⟨⟨hp, by rw [hd]; exact h.disk.keep fun b hb hbl => hm.same b hbl (h.apart b hb), ?_, h.glob.1, ?_⟩, hm.mono fun b _ q => .inr q, ?_⟩
 ·rintro b hb (q | q)
  ·exact h.apart b hb (.inl q)
  ·rcases ho b q with r | r
   ·exact h.apart b hb (.inr r)
   ·have := hl b hb; omega
 ·rintro (q | q)
  ·exact h.glob.2 (.inl q)
  ·rcases ho _ q with r | r
   ·exact h.glob.2 (.inr r)
   ·have := hg.lt; omega
 ·rintro b (q | q | q)
  ·exact .inl (.inl q)
  ·exact .inl (.inr (.inl q))
  ·exact (ho b q).imp (fun r => .inr (.inr r)) id
theorem PoolAt.glob {F : Nat → Prop} {H : Heap} {p dp : Nat} {s : Pl} (h : PoolAt F H p dp s) : ¬ F gSteps := by
 obtain ⟨x, D, g, hF⟩ := h
 intro q
 rcases (hF _).1 q with r | r
 ·exact g.glob.1 r
 ·exact g.glob.2 r
theorem PoolD.gl [Tab] {x : PG} {D : Nat → Prop} {H H' : Heap} {p dp : Nat} {s : Pl} (hg : Gl H) (h : PoolD x D H p dp s) (hm : Mod (fun b => D b ∨ x.all p b) H H') : Gl H' :=
 hg.mod hm fun r => r.elim h.glob.1 h.glob.2
theorem PoolD.out [Tab] {x x' : PG} {D D' : Nat → Prop} {F : Nat → Prop} {H H' : Heap} {p dp : Nat} {s : Pl} (h : PoolD x' D' H' p dp s) (hF : ∀ b, F b ↔ D b ∨ x.all p b) (hs : Step (fun b => D b ∨ x.all p b) (fun b => D' b ∨ x'.all p b) H H') :
  ∃ F', PoolAt F' H' p dp s ∧ Step F F' H H' :=
 ⟨fun b => D' b ∨ x'.all p b, ⟨x', D', h, fun _ => Iff.rfl⟩, hs.mod.mono fun b _ q => (hF b).2 q, fun b hb => (hs.own b hb).imp (hF b).2 id⟩
theorem ready_pool {x : PG} {H : Heap} {p dp : Nat} {s : Pl} {K : Int → Heap → Prop} (h : PoolG x H p dp s) (hK : K s.wrong H) : Zct.sp (at0 p) H K := by
 refine Zct.of ?_
 unfold Zct.vc
 exact h.head.ld (c := cInt .i64) (i := 7) (x := s.wrong) rfl hK
theorem PoolG.turnHead [Tab] {x : PG} {H H' : Heap} {p dp : Nat} {s s' : Pl} (h : PoolG x H p dp s) (hr : RowT H' p YaD (headP dp x s')) (hm : Mod (fun b => b = p) H H') (hf : s'.fs = s.fs) (hw : s'.WF) : PoolG x H' p dp s' :=
 ⟨hr, h.frames.keep fun b hb hl => hm.same b hl fun e => PoolG.off h.head h.frames (e ▸ hb), hf.trans h.fs, hw⟩
theorem met_ok [Tab] {x : PG} {D : Nat → Prop} {H : Heap} {p dp : Nat} {s : Pl} {e : Int} {K : Int → Heap → Prop} (hg : Gl H) (h : PoolD x D H p dp s)
  (hK : ∀ H', PoolD x D H' p dp (s.met e) → Step (fun b => D b ∨ x.all p b) (fun b => D b ∨ x.all p b) H H' → K e H') : ZcP.sp (at0 p) e H K := by
 refine ZcP.of ?_
 unfold ZcP.vc
 simp only [optK_eq]
 have hw := h.pool.wf.met e
 have bads : bad e = true → st H (Addr.add ⟨p, 0, none⟩ 7) (.int .i64 e) fun H1 => K e H1 := by
  intro hb
  have em : s.met e = { s with wrong := e } := by unfold Pl.met; rw [if_pos hb]
  refine h.pool.head.st (i := 7) (by decide : 7 < 8) (by rfl) fun H' r m z => ?_
  have hp : PoolG x H' p dp (s.met e) := h.pool.turnHead (by rw [em]; exact r) m (by rw [em]) hw
  obtain ⟨q1, q2⟩ := h.stepP hg hp (by rw [em]) (m.mono fun b _ q => .inl q) (fun b q => .inl q)
  exact hK H' q1 q2
 have good : bad e = false → K e H := by
  intro hb
  have em : s.met e = s := by unfold Pl.met; rw [hb]; rfl
  exact hK H (by rw [em]; exact h) (.refl _ _)
 refine br_mk (fun h4 => br_t h4 (bads (by simp [bad] at h4 ⊢; exact .inl (.inl h4)))) (fun h4 => ?_)
 refine br_mk (fun h5 => br_t h5 (bads (by simp [bad] at h5 ⊢; exact .inl (.inr h5)))) (fun h5 => ?_)
 refine br_mk (fun h6 => bads (by simp [bad] at h6 ⊢; exact .inr h6)) (fun h6 => good (by simp [bad] at h4 h5 h6 ⊢; exact ⟨⟨h4, h5⟩, h6⟩))
theorem writeF_ok [Tab] {D : Nat → Prop} {H : Heap} {p dp : Nat} {d : Dk} {g : FrG} {f : Fr} {cs : Array Value} {K : Int → Heap → Prop} (hg : Gl H) (hd : DiskAt D H dp d) (hp : RowT H p YaD cs) (hp0 : cs[0]? = some (ptrV dp))
  (hf : FrAt H g f) (hb : f.b.length ≤ 504) (hfD : ∀ b, g.fp b → ¬ D b) (hlogs : d.logs < 68719476736)
  (hK0 : (d.write f.name f.page f.sealF).2 ≠ 0 → ∀ D' H', DiskAt D' H' dp (d.write f.name f.page f.sealF).1 → Step D D' H H' → K (d.write f.name f.page f.sealF).2 H')
  (hK1 : (d.write f.name f.page f.sealF).2 = 0 → ∀ D' H1 H2, DiskAt D' H1 dp (d.write f.name f.page f.sealF).1 → Step D D' H H1 → FrAt H2 g f.clean → Mod (fun b => b = g.p) H1 H2 → H2.size = H1.size → K 0 H2) :
  ZcC.sp (at0 p) (at0 g.p) H K := by
 refine ZcC.of ?_
 unfold ZcC.vc
 simp only [optK_eq, add_add, Nat.reduceAdd]
 refine hf.row.ld (c := cInt .u8) (i := 2) (x := (f.kind.toNat : Int)) rfl ?_
 refine hf.row.ld (c := cSl) (i := 3) (x := g.b) rfl ?_
 refine Seal_ok hg (SlB_byts hf.b) hb fun r H1 o1 m1 f1 => br_f rfl ?_
 have p1 : RowT H1 p YaD cs := hp.ext m1
 have hf1 : FrAt H1 g f := hf.keep fun b _ hl => m1.same b hl id
 have hd1 : DiskAt D H1 dp d := hd.keep fun b _ hl => m1.same b hl id
 refine p1.ld (c := cPtr) (i := 0) (x := at0 dp) hp0 ?_
 refine hf1.row.ld (c := cStr) (i := 0) (x := f.name) rfl ?_
 refine hf1.row.ld (c := cInt .i64) (i := 1) (x := (f.page : Int)) rfl ?_
 have hlt := hd.lt
 refine Write_ok hd1 (SlB_byts o1) (fun ad ha hD => ?_) hlogs fun D' H2 a2 S2 => ?_
 ·have := f1 ad.block ⟨ad, ha, rfl⟩
  have := hlt _ hD; omega
 have S02 : Step D D' H H2 := ⟨⟨Nat.le_trans m1.size S2.mod.size, fun b hb hn => (S2.mod.same b (by have := m1.size; omega) hn).trans (m1.same b hb id)⟩, fun b hb => (S2.own b hb).imp id (fun q => Nat.le_trans m1.size q)⟩
 have hf2 : FrAt H2 g f := hf1.keep fun b hb hl => S2.mod.same b hl (hfD b hb)
 show br ((d.write f.name f.page f.sealF).2 == 0) _ _
 refine br_mk (fun hz => ?_) (fun hz => ?_)
 ·have hz' : (d.write f.name f.page f.sealF).2 = 0 := by simpa using hz
  refine hf2.row.st (i := 4) (by decide : 4 < 7) (by rfl) fun H3 r3 m3 z3 => ?_
  have := hK1 hz' D' H2 H3 a2 S02 ⟨r3, hf2.b.keep fun b hb hl => m3.same b hl fun e => ?_⟩ m3 z3
  ·show K (d.write f.name f.page f.sealF).2 H3
   rw [hz']; exact this
  ·obtain ⟨c, q⟩ := hf2.b.obj b hb
   rw [e] at q
   exact absurd (cells_ty hf2.row q) (by decide)
 ·have hz' : (d.write f.name f.page f.sealF).2 ≠ 0 := by simpa using hz
  exact hK0 hz' D' H2 a2 S02
theorem put_ok' [Tab] {x : PG} {D : Nat → Prop} {H : Heap} {p dp : Nat} {s : Pl} {i : Nat} {f : Fr} {g : FrG} {K : Int → Heap → Prop} (hg : Gl H) (h : PoolD x D H p dp s) (hz : x.zs[i]? = some (f, g)) (hlogs : s.d.logs < 68719476736)
  (hK0 : (s.put i).2 ≠ 0 → ∀ D' H', PoolD x D' H' p dp (s.put i).1 → Step (fun b => D b ∨ x.all p b) (fun b => D' b ∨ x.all p b) H H' → K (s.put i).2 H')
  (hK1 : (s.put i).2 = 0 → ∀ D' H', PoolD { x with zs := x.zs.set i (f.clean, g) } D' H' p dp (s.put i).1 → Step (fun b => D b ∨ x.all p b) (fun b => D' b ∨ PG.all { x with zs := x.zs.set i (f.clean, g) } p b) H H' → K 0 H') :
  ZcC.sp (at0 p) (at0 g.p) H K := by
 have hzm := List.mem_of_getElem? hz
 have hfs : s.fs[i]? = some f := by rw [h.pool.fs]; simp [PG.fs, hz]
 have hfr := Pl.frame_eq hfs
 have hA := h.pool.frames.each _ hzm
 unfold Pl.put at hK0 hK1
 rw [hfr] at hK0 hK1
 refine writeF_ok (f := f) (d := s.d) hg h.disk h.pool.head rfl hA (h.pool.wf.room f (List.mem_of_getElem? hfs)) (fun b hb hD => h.apart b hD (.inr (.inr (.inr ⟨_, hzm, hb⟩)))) hlogs (fun hne D' H' a S => ?_) (fun he D' H1 H2 a S hf2 m2 z2 => ?_)
 ·rw [if_neg hne] at hK0
  obtain ⟨q1, q2⟩ := h.stepD hg a S
  exact hK0 hne D' H' q1 q2
 ·rw [if_pos he] at hK1
  obtain ⟨q1, q2⟩ := h.stepD hg a S
  have hg1 : Gl H1 := h.gl hg q2.mod
  have hfp : ∀ b, g.fp b → x.all p b := fun b hb => .inr (.inr (.inr ⟨_, hzm, hb⟩))
  obtain ⟨t1, t2⟩ := q1.pool.frames.turn (H' := H2) (z' := (f.clean, g)) hz rfl rfl rfl rfl hf2 (fun b _ hn hl => m2.same b hl fun e => hn (e ▸ .inl rfl)) (fun b hb => .inl hb)
  have hp2 : PoolG { x with zs := x.zs.set i (f.clean, g) } H2 p dp ((s.setD (s.d.write f.name f.page f.sealF).1).turn i Fr.clean) := by
   refine ⟨m2.at q1.pool.head fun e => PoolG.off q1.pool.head q1.pool.frames (e ▸ .inr (.inr ⟨_, hzm, .inl rfl⟩)), t1, ?_, ?_⟩
   ·show s.fs.modify i Fr.clean = (x.zs.set i (f.clean, g)).map (·.1)
    rw [modify_set hfs, h.pool.fs]
    simp [PG.fs, List.map_set]
   ·exact (h.pool.wf.setD _).turn hfs rfl rfl rfl (h.pool.wf.room f (List.mem_of_getElem? hfs))
  obtain ⟨u1, u2⟩ := q1.stepP hg1 hp2 rfl (m2.mono fun b _ e => hfp b (.inl e)) t2
  exact hK1 rfl D' H2 u1 (q2.trans u2)
theorem FramesAt.ptr {H : Heap} {x : PG} (h : FramesAt H x) {z z' : FZ} (hz : z ∈ x.zs) (hz' : z' ∈ x.zs) (e : z.2.p = z'.2.p) : z = z' := by
 obtain ⟨i, hi⟩ := List.mem_iff_getElem?.1 hz
 obtain ⟨j, hj⟩ := List.mem_iff_getElem?.1 hz'
 by_cases hij : i = j
 ·subst hij; rw [hi] at hj; exact Option.some.inj hj
 ·exact absurd (.inl e) (h.apart i j z z' hi hj hij z.2.p (.inl rfl))
theorem FramesAt.entry {H : Heap} {x : PG} (h : FramesAt H x) {e : MapEntry} (he : e ∈ x.ef.toList) : ∃ z ∈ x.zs, e.key = keyV z.1.name (z.1.page : Int) ∧ e.val = ptrV z.2.p := by
 have := (h.entF e.key e.val).1 ⟨e, he, rfl, rfl⟩
 obtain ⟨z, hz, q⟩ := List.mem_map.1 this
 simp only [Prod.mk.injEq] at q
 exact ⟨z, hz, q.1.symm, q.2.symm⟩
theorem FramesAt.entryOf {H : Heap} {x : PG} (h : FramesAt H x) {z : FZ} (hz : z ∈ x.zs) : ∃ e ∈ x.ef.toList, e.key = keyV z.1.name (z.1.page : Int) ∧ e.val = ptrV z.2.p := by
 obtain ⟨e, he, h1, h2⟩ := (h.entF _ _).2 (List.mem_map.2 ⟨z, hz, rfl⟩)
 exact ⟨e, he, h1, h2⟩
def bestZ (x : PG) (l : List MapEntry) (b : Option Addr) : Prop :=
 match b with
 | none => ∀ e ∈ l, ∀ z ∈ x.zs, e.val = ptrV z.2.p → z.1.pins ≠ []
 | some a => ∃ z ∈ x.zs, a = ⟨z.2.p, 0, none⟩ ∧ z.1.pins = [] ∧ ∀ e ∈ l, ∀ z' ∈ x.zs, e.val = ptrV z'.2.p → z'.1.pins = [] → z.1.left ≤ z'.1.left
theorem mapSpot : ∃ (et : TypeId) (inf : TypeInfo), Tryz.prog.underlying Yaa = some (.map YaC et) ∧ Tryz.prog.info? et = some inf ∧ inf.zero = some (.pointer none) := by
 obtain ⟨D, hD⟩ := Option.isSome_iff_exists.1 (by kernel_rfl : (Tryz.prog.underlying YaC).isSome = true)
 obtain ⟨et, inf, h1, _, h3, h4⟩ := MapPT_of (P := Tryz.prog) (t := Yaa) (kt := YaC) (by kernel_rfl) hD
 exact ⟨et, inf, h1, h3, h4⟩
theorem first_ok [Tab] {x : PG} {H : Heap} {p dp : Nat} {s : Pl} {K : Option Addr → Heap → Prop} (h : PoolG x H p dp s) (hN : s.best = none → ∀ H', Ext H H' → K none H')
  (hS : ∀ i f g, s.best = some i → x.zs[i]? = some (f, g) → ∀ H', Ext H H' → K (at0 g.p) H') : Zcn.sp (at0 p) H K := by
 refine Zcn.of ?_
 unfold Zcn.vc
 simp only [optK_eq]
 refine h.head.ld (c := cMap) (i := 2) (x := some x.mf) rfl ?_
 obtain ⟨et, inf, hu, _⟩ := mapSpot
 have hF := h.frames
 refine doT_rangeW hu hF.fmap fun H1 hit e1 => ?_
 have hsz := obj_lt hit
 have hF1 : FramesAt H1 x := hF.keep fun b _ hl => e1.same b hl id
 refine map_rangeW (it := H.size) (fun l b A => bestZ x l b ∧ Mod (fun k => k = H.size) H1 A) hF1.fmap hit ⟨(by intro e he; cases he), .refl _ _⟩ (fun l b A A' q m _ => ⟨q.1, q.2.trans m⟩) ?_ ?_
 ·rintro l e b A next ⟨hI, hM⟩ he _ _ _ _ _ hnext
  obtain ⟨z, hz, _, hv⟩ := hF.entry he
  have hA : FramesAt A x := hF1.keep fun c hc hl => hM.same c hl fun q => by have := hF.lt c hc; omega
  have hz1 := hA.each z hz
  refine ⟨at0 z.2.p, by rw [hv]; rfl, ?_⟩
  refine ZbR.of ?_
  unfold ZbR.vc
  simp only [optK_eq]
  refine hz1.row.ld (c := cInt .i64) (i := 5) (x := (z.1.pins.length : Int)) rfl ?_
  have same : ∀ z' ∈ x.zs, e.val = ptrV z'.2.p → z' = z := fun z' hz' hv' => hF.ptr hz' hz (by rw [hv] at hv'; exact (ptrV_inj hv').symm)
  refine br_mk (fun hp => ?_) (fun hp => ?_)
  ·have hp0 : z.1.pins = [] := by
    have : (z.1.pins.length : Int) = 0 := by simpa using hp
    exact List.eq_nil_of_length_eq_zero (by omega)
   cases b with
   | none =>
     refine br_t rfl (hnext _ _ ⟨⟨z, hz, rfl, hp0, ?_⟩, hM⟩ rfl rfl)
     intro e' he' z' hz' hv' hp'
     rcases List.mem_append.1 he' with q | q
     ·exact absurd hp' (hI e' q z' hz' hv')
     ·simp at q; subst q; rw [same z' hz' hv']; exact Int.le_refl _
   | some a =>
     obtain ⟨y, hy, rfl, hyp, hyl⟩ := hI
     have hy1 := hA.each y hy
     refine br_f rfl ?_
     refine ZbJ.of ?_
     unfold ZbJ.vc
     simp only [optK_eq]
     refine hz1.row.ld (c := cInt .i64) (i := 6) (x := z.1.left) rfl ?_
     refine hy1.row.ld (c := cInt .i64) (i := 6) (x := y.1.left) rfl ?_
     refine br_mk (fun hlt => ?_) (fun hlt => ?_)
     ·have hlt : z.1.left < y.1.left := by simpa using hlt
      refine hnext _ _ ⟨⟨z, hz, rfl, hp0, ?_⟩, hM⟩ rfl rfl
      intro e' he' z' hz' hv' hp'
      rcases List.mem_append.1 he' with q | q
      ·have := hyl e' q z' hz' hv' hp'; omega
      ·simp at q; subst q; rw [same z' hz' hv']; exact Int.le_refl _
     ·have hlt : ¬ z.1.left < y.1.left := by simpa using hlt
      refine hnext _ _ ⟨⟨y, hy, rfl, hyp, ?_⟩, hM⟩ rfl rfl
      intro e' he' z' hz' hv' hp'
      rcases List.mem_append.1 he' with q | q
      ·exact hyl e' q z' hz' hv' hp'
      ·simp at q; subst q; rw [same z' hz' hv']; omega
  ·have hp0 : z.1.pins ≠ [] := by
    intro q; rw [q] at hp; simp at hp
   refine hnext _ _ ⟨?_, hM⟩ rfl rfl
   cases b with
   | none =>
     intro e' he' z' hz' hv'
     rcases List.mem_append.1 he' with q | q
     ·exact hI e' q z' hz' hv'
     ·simp at q; subst q; rw [same z' hz' hv']; exact hp0
   | some a =>
     obtain ⟨y, hy, rfl, hyp, hyl⟩ := hI
     refine ⟨y, hy, rfl, hyp, ?_⟩
     intro e' he' z' hz' hv' hp'
     rcases List.mem_append.1 he' with q | q
     ·exact hyl e' q z' hz' hv' hp'
     ·simp at q; subst q; rw [same z' hz' hv'] at hp'; exact absurd hp' hp0
 ·rintro l b A ⟨hI, hM⟩ hperm _
  have hE : Ext H A := ⟨by have := e1.size; have := hM.size; omega, fun c hc _ => (hM.same c (by omega) (by omega)).trans (e1.same c hc id)⟩
  cases b with
  | none =>
    refine hN ?_ A hE
    cases hb : s.best with
    | none => rfl
    | some i =>
      obtain ⟨f, hf, hp, _⟩ := Pl.best_some hb
      obtain ⟨g, hg, _⟩ := h.at hf
      have hzm := List.mem_of_getElem? hg
      obtain ⟨e, he, _, hv⟩ := hF.entryOf hzm
      exact absurd hp (hI e (hperm.mem_iff.2 he) _ hzm hv)
  | some a =>
    obtain ⟨z, hz, rfl, hp, hl⟩ := hI
    obtain ⟨i, hi⟩ := List.mem_iff_getElem?.1 hz
    have hfs : s.fs[i]? = some z.1 := by rw [h.fs]; simp [PG.fs, hi]
    refine hS i z.1 z.2 (Pl.best_eq h.wf hfs hp fun f' hf' hp' => ?_) hi A hE
    obtain ⟨j, hj⟩ := List.mem_iff_getElem?.1 hf'
    obtain ⟨g', hg', _⟩ := h.at hj
    have hzm := List.mem_of_getElem? hg'
    obtain ⟨e, he, _, hv⟩ := hF.entryOf hzm
    exact hl e (hperm.mem_iff.2 he) _ hzm hv hp'
theorem map_erase {α β : Type} (u : α → β) : ∀ (l : List α) (i : Nat), (l.eraseIdx i).map u = (l.map u).eraseIdx i
 | [], i => by simp
 | a :: l, 0 => by simp
 | a :: l, i + 1 => by simp [map_erase u l i]
theorem FrAt.at_ld {H : Heap} {g : FrG} {f : Fr} {K : (ByteArray × Int) → Prop} (h : FrAt H g f) (hK : K (f.name, (f.page : Int))) : ldA (cAgg [cStr, (cInt .i64)]) 2 H (Addr.add ⟨g.p, 0, none⟩ 0) K := by
 refine ⟨(f.name, (f.page : Int)), ?_, hK⟩
 refine RowT.hRow (o := 0) (ds := #[.string f.name, .int .i64 (f.page : Int)]) h.row rfl fun i hi => ?_
 have : i = 0 ∨ i = 1 := by omega
 rcases this with rfl | rfl <;> rfl
theorem PoolG.lenF [Tab] {x : PG} {H : Heap} {p dp : Nat} {s : Pl} {K : Nat → Prop} (h : PoolG x H p dp s) (hK : K s.fs.length) : lenM H (some x.mf) K :=
 ⟨s.fs.length, ⟨x.ef, x.cf, h.frames.fmap.obj, h.n⟩, hK⟩
theorem Pl.WF.key {s : Pl} (h : s.WF) {i : Nat} {f : Fr} (hf : s.fs[i]? = some f) : KeyW Tryz.prog YaC (keyV f.name (f.page : Int)) := by
 have := h.pages f (List.mem_of_getElem? hf)
 exact keyW_spot this.2 (by omega) (by omega)
theorem del_ok [Tab] {x : PG} {D : Nat → Prop} {H : Heap} {p dp : Nat} {s : Pl} {i : Nat} {f : Fr} {g : FrG} {ty : TypeId} {K : Value → Heap → Prop} (hg : Gl H) (h : PoolD x D H p dp s) (hz : x.zs[i]? = some (f, g)) (hp : f.pins = [])
  (hK : ∀ ef' v H', PoolD { x with zs := x.zs.eraseIdx i, ef := ef' } D H' p dp (s.drop i) → Step (fun b => D b ∨ x.all p b) (fun b => D b ∨ PG.all { x with zs := x.zs.eraseIdx i, ef := ef' } p b) H H' → Mod (fun b => b = x.mf) H H' → K v H') :
  doT cRaw Tryz.prog (Builtin.delete_ #[Yaa, YaC] ty #[(.map (some x.mf)), (.agg #[(.string f.name), (.int .i64 (f.page : Int))])]) H K := by
 have hfs : s.fs[i]? = some f := by rw [h.pool.fs]; simp [PG.fs, hz]
 obtain ⟨et, inf, hu, _⟩ := mapSpot
 have hkey := h.pool.wf.key hfs
 refine doT_deleteW (k := keyV f.name (f.page : Int)) hu keySpot h.pool.frames.fmap hkey fun ef' H' m' it sz mo z' => ?_
 have hF := h.pool.frames.erase hz hp (by have := h.pool.wf.keys; rw [h.pool.fs] at this; exact this) m' it sz (fun b _ hne hl => mo.same b hl hne)
 have hpm : p ≠ x.mf := fun e => PoolG.off h.pool.head h.pool.frames (.inl e)
 have hp' : PoolG { x with zs := x.zs.eraseIdx i, ef := ef' } H' p dp (s.drop i) := by
  refine ⟨mo.at h.pool.head hpm, hF, ?_, h.pool.wf.drop i⟩
  show s.fs.eraseIdx i = (x.zs.eraseIdx i).map (·.1)
  rw [h.pool.fs, map_erase]; rfl
 obtain ⟨q1, q2⟩ := h.stepP hg hp' rfl (mo.mono fun b _ e => .inr (.inl e)) (by
  rintro b (e | e | ⟨z, hz', hb⟩)
  ·exact .inl (.inl e)
  ·exact .inl (.inr (.inl e))
  ·exact .inl (.inr (.inr ⟨z, List.mem_of_mem_eraseIdx hz', hb⟩)))
 exact hK ef' _ H' q1 q2 mo
theorem room_ok [Tab] {x : PG} {D : Nat → Prop} {H : Heap} {p dp : Nat} {s : Pl} {K : Int → Heap → Prop} (hg : Gl H) (h : PoolD x D H p dp s) (hlogs : s.d.logs < 68719476736)
  (hK : ∀ x' D' H', PoolD x' D' H' p dp s.room.1 → Step (fun b => D b ∨ x.all p b) (fun b => D' b ∨ x'.all p b) H H' → K s.room.2 H') : ZcE.sp (at0 p) H K := by
 refine ZcE.of ?_
 unfold ZcE.vc
 simp only [optK_eq]
 refine h.pool.head.ld (c := cMap) (i := 2) (x := some x.mf) rfl ?_
 refine h.pool.lenF ?_
 refine h.pool.head.ld (c := cInt .i64) (i := 1) (x := (s.most : Int)) rfl ?_
 refine br_mk (fun hc => ?_) (fun hc => ?_)
 ·have e : s.room = (s, 0) := by unfold Pl.room; rw [if_pos (by simpa using hc)]
  rw [e] at hK
  exact hK x D H h (.refl _ _)
 have hlen : ¬ s.fs.length < s.most := by simpa using hc
 refine first_ok h.pool (fun hN H1 e1 => ?_) (fun i f g hb hz H1 e1 => ?_)
 ·have e : s.room = (s, 31) := by unfold Pl.room; rw [if_neg hlen, hN]
  rw [e] at hK
  refine br_t rfl (hK x D H1 ⟨h.pool.keep fun b _ hl => e1.same b hl id, h.disk.keep fun b _ hl => e1.same b hl id, h.apart, h.glob⟩ ⟨Ext.mod e1, fun b q => .inl q⟩)
 ·have h1 : PoolD x D H1 p dp s := ⟨h.pool.keep fun b _ hl => e1.same b hl id, h.disk.keep fun b _ hl => e1.same b hl id, h.apart, h.glob⟩
  have S1 : Step (fun b => D b ∨ x.all p b) (fun b => D b ∨ x.all p b) H H1 := ⟨Ext.mod e1, fun b q => .inl q⟩
  have hg1 : Gl H1 := hg.mod e1 id
  have hzm := List.mem_of_getElem? hz
  have hfs : s.fs[i]? = some f := by rw [h.pool.fs]; simp [PG.fs, hz]
  have hfr := Pl.frame_eq hfs
  obtain ⟨f0, hf0, hp0, _⟩ := Pl.best_some hb
  rw [hfs] at hf0; cases hf0
  have hA := h1.pool.frames.each _ hzm
  refine br_f rfl ?_
  simp only [optK_eq]
  refine hA.row.ld (c := cBool) (i := 4) (x := f.dirty) rfl ?_
  have er : s.room = (if f.dirty then (if (s.put i).2 = 0 then ((s.put i).1.drop i, 0) else s.put i) else (s.drop i, 0)) := by
   unfold Pl.room; rw [if_neg hlen, hb]; simp only [hfr]
  cases hd : f.dirty with
  | true =>
    rw [hd, if_pos rfl] at er
    refine br_t rfl ?_
    refine put_ok' hg1 h1 hz hlogs (fun hne D' H2 h2 S2 => ?_) (fun he D' H2 h2 S2 => ?_)
    ·rw [if_neg hne] at er
     rw [er] at hK
     exact br_t (by simpa using hne) (hK x D' H2 h2 (S1.trans S2))
    ·rw [if_pos he] at er
     rw [er] at hK
     refine br_f rfl ?_
     have hil := (List.getElem?_eq_some_iff.1 hz).1
     have hz2 : (x.zs.set i (f.clean, g))[i]? = some (f.clean, g) := by simp [hil]
     have hA2 := h2.pool.frames.each _ (List.mem_of_getElem? hz2)
     refine h2.pool.head.ld (c := cMap) (i := 2) (x := some x.mf) rfl ?_
     refine FrAt.at_ld hA2 ?_
     have hg2 : Gl H2 := h1.gl hg1 S2.mod
     refine del_ok (x := { x with zs := x.zs.set i (f.clean, g) }) hg2 h2 hz2 hp0 fun ef' v H3 h3 S3 _ => ?_
     exact hK _ D' H3 h3 ((S1.trans S2).trans S3)
  | false =>
    rw [hd, if_neg (by simp)] at er
    rw [er] at hK
    refine br_f rfl ?_
    refine h1.pool.head.ld (c := cMap) (i := 2) (x := some x.mf) rfl ?_
    refine FrAt.at_ld hA ?_
    refine del_ok hg1 h1 hz hp0 fun ef' v H3 h3 S3 _ => ?_
    exact hK _ D H3 h3 (S1.trans S3)
theorem mapHand : MapPT Tryz.prog Yad YaM (.int .i64) := MapPT_of (by kernel_rfl) (by kernel_rfl)
theorem kvH_pin [Tab] {h : Int} : ∀ (zs : List FZ) (i : Nat) (f : Fr) (g : FrG), zs[i]? = some (f, g) → ∀ k v, (k, v) ∈ kvH (zs.set i (Fr.pin h f, g)) ↔ (k, v) ∈ kvH zs ∨ (k = .int .i64 h ∧ v = ptrV g.p)
 | [], i, f, g, e, k, v => by simp at e
 | a :: l, 0, f, g, e, k, v => by
   simp at e; subst e
   simp only [List.set_cons_zero, kvH, List.flatMap_cons, List.mem_append, kvP, Fr.pin, List.map_append, List.map_cons, List.map_nil, List.mem_singleton, Prod.mk.injEq]
   constructor
   ·rintro ((q | q) | q)
    ·exact .inl (.inl q)
    ·exact .inr q
    ·exact .inl (.inr q)
   ·rintro ((q | q) | q)
    ·exact .inl (.inl q)
    ·exact .inr q
    ·exact .inl (.inr q)
 | a :: l, i + 1, f, g, e, k, v => by
   have ih := kvH_pin (h := h) l i f g (by simpa using e) k v
   simp only [List.set_cons_succ, kvH, List.flatMap_cons, List.mem_append] at ih ⊢
   rw [ih, or_assoc]
theorem pinAt_ok [Tab] {x : PG} {D : Nat → Prop} {H : Heap} {p dp : Nat} {s : Pl} {i : Nat} {f : Fr} {g : FrG} {K : Int → Heap → Prop} (hg : Gl H) (h : PoolD x D H p dp s) (hz : x.zs[i]? = some (f, g)) (hn : s.next < 9223372036854775807)
  (hwf : (s.pinAt i).WF) (hpl : (f.pins.length : Int) < 9223372036854775807)
  (hK : ∀ x' H', PoolD x' D H' p dp (s.pinAt i) → Step (fun b => D b ∨ x.all p b) (fun b => D b ∨ x'.all p b) H H' → K s.next H') : ZcR.sp (at0 p) (at0 g.p) H K := by
 refine ZcR.of ?_
 unfold ZcR.vc
 simp only [optK_eq]
 have hzm := List.mem_of_getElem? hz
 have hfs : s.fs[i]? = some f := by rw [h.pool.fs]; simp [PG.fs, hz]
 have hA := h.pool.frames.each _ hzm
 refine hA.row.ld (c := cInt .i64) (i := 5) (x := (f.pins.length : Int)) rfl ?_
 refine hA.row.st (i := 5) (by decide : 5 < 7) (by rfl) fun H1 r1 m1 z1 => ?_
 have hpg : p ≠ g.p := fun e => PoolG.off h.pool.head h.pool.frames (e ▸ .inr (.inr ⟨_, hzm, .inl rfl⟩))
 have hd1 : RowT H1 p YaD (headP dp x s) := m1.at h.pool.head hpg
 refine hd1.ld (c := cMap) (i := 3) (x := some x.mh) rfl ?_
 refine hd1.ld (c := cInt .i64) (i := 4) (x := s.next) rfl ?_
 obtain ⟨et, inf, hu, hd, hi', hzz⟩ := mapHand
 have hoff := h.pool.frames.off hzm
 have hgm : g.p ≠ x.mh := fun e => hoff.2 (.inl e.symm)
 have hh1 : MapAt (.int .i64) H1 x.mh x.eh x.ch := h.pool.frames.hmap.keep (m1.same _ h.pool.frames.hmap.lt (fun e => hgm e.symm))
 have hno : ∀ u, ¬ HasE x.eh (.int .i64 s.next) u := by
  intro u hu'
  have := (h.pool.frames.entH _ _).1 hu'
  obtain ⟨z, hz', hk⟩ := List.mem_flatMap.1 this
  obtain ⟨q, hq, e⟩ := List.mem_map.1 hk
  simp only [Prod.mk.injEq, Value.int.injEq, true_and] at e
  have hzf : z.1 ∈ s.fs := by rw [h.pool.fs]; exact List.mem_map.2 ⟨z, hz', rfl⟩
  have := (h.pool.wf.old _ hzf _ hq).2
  omega
 refine doU_insert hu hd hh1 (k := .int .i64 s.next) (show IntKind.i64 = IntKind.i64 from rfl) hno fun H2 hm2 m2 z2 => ?_
 have hpm : p ≠ x.mh := fun e => PoolG.off h.pool.head h.pool.frames (.inr (.inl e))
 have hd2 : RowT H2 p YaD (headP dp x s) := m2.at hd1 hpm
 refine hd2.ld (c := cInt .i64) (i := 4) (x := s.next) rfl ?_
 refine hd2.st (i := 4) (by decide : 4 < 8) (by rfl) fun H3 r3 m3 z3 => ?_
 refine r3.ld (c := cInt .i64) (i := 4) (x := w64 (s.next + 1)) rfl ?_
 have ht := h.pool.wf.tick
 have hw : w64 (s.next + 1) = s.next + 1 := by unfold w64; exact wrap64 (by omega) (by omega)
 have er : IntKind.i64.wrap (w64 (s.next + 1) - 1) = s.next := by
  have e1 : w64 (s.next + 1) - 1 = s.next := by omega
  rw [e1]; exact wrap64 (by omega) (by omega)
 rw [er]
 have hm13 : Mod (fun b => b = g.p ∨ b = x.mh ∨ b = p) H H3 := ((m1.mono fun b _ e => .inl e).trans (m2.mono fun b _ e => .inr (.inl e))).trans (m3.mono fun b _ e => .inr (.inr e))
 have ew : IntKind.i64.wrap ((f.pins.length : Int) + 1) = (((Fr.pin s.next f).pins.length : Nat) : Int) := by
  rw [wrap64 (by omega) (by omega)]; simp [Fr.pin]
 have hq : FrAt H3 g (Fr.pin s.next f) := by
  refine ⟨?_, hA.b.keep fun b hb hl => hm13.same b hl ?_⟩
  ·have := m3.at (m2.at r1 hgm) (fun e => hpg e.symm)
   rw [ew] at this
   exact this
  ·obtain ⟨c, q⟩ := hA.b.obj b hb
   rintro (e | e | e)
   ·rw [e] at q; exact absurd (cells_ty hA.row q) (by decide)
   ·rw [e, h.pool.frames.hmap.obj] at q; cases q
   ·rw [e] at q; exact absurd (cells_ty h.pool.head q) (by decide)
 have hF := h.pool.frames.set (H' := H3) (z' := (Fr.pin s.next f, g)) hz rfl rfl rfl hq (hm2.keep (m3.same _ hm2.lt (fun e => hpm e.symm))) (fun k v => by
  rw [HasE_push, h.pool.frames.entH, kvH_pin x.zs i f g hz]
  exact Iff.rfl) (fun b hb hn1 hn2 hl => hm13.same b hl (by
   rintro (e | e | e)
   ·exact hn1 (.inl e)
   ·exact hn2 e
   ·exact PoolG.off h.pool.head h.pool.frames (e ▸ hb))) (fun b hb => .inl hb)
 have hp3 : PoolG { x with zs := x.zs.set i (Fr.pin s.next f, g), eh := x.eh.push { key := .int .i64 s.next, val := ptrV g.p, born := x.ch }, ch := x.ch + 1 } H3 p dp (s.pinAt i) := by
  refine ⟨r3, hF.1, ?_, hwf⟩
  show s.fs.modify i (Fr.pin s.next) = (x.zs.set i (Fr.pin s.next f, g)).map (·.1)
  rw [modify_set hfs, h.pool.fs]
  simp [PG.fs, List.map_set]
 obtain ⟨q1, q2⟩ := h.stepP hg hp3 rfl (hm13.mono fun b _ e => by
  rcases e with e | e | e
  ·exact .inr (.inr (.inr ⟨_, hzm, .inl e⟩))
  ·exact .inr (.inr (.inl e))
  ·exact .inl e) hF.2
 exact hK _ H3 q1 q2
structure NewAt (x : PG) (D : Nat → Prop) (H : Heap) (p : Nat) (g : FrG) (f : Fr) : Prop where
 fr : FrAt H g f
 off : ∀ b, g.fp b → ¬ D b ∧ ¬ x.all p b ∧ b ≠ gSteps
theorem take_ok [Tab] {x : PG} {D : Nat → Prop} {H : Heap} {p dp : Nat} {s : Pl} {f : Fr} {g : FrG} {K : Int → Heap → Prop} (hg : Gl H) (h : PoolD x D H p dp s) (hN : NewAt x D H p g f)
  (hl : s.fs.length < s.most) (hn : s.next < 9223372036854775807) (hk : s.find f.name f.page = none) (hb : f.b.length ≤ 504) (hpg : f.page < 1048577) (hnm : f.name.size ≤ 9223372036854775807) (hp : f.pins = []) (hlf : f.left = 0)
  (hK : ∀ x' H', PoolD x' D H' p dp (s.take f) → Step (fun b => (D b ∨ x.all p b) ∨ g.fp b) (fun b => D b ∨ x'.all p b) H H' → K s.next H') : ZcJ.sp (at0 p) (at0 g.p) H K := by
 refine ZcJ.of ?_
 unfold ZcJ.vc
 simp only [optK_eq]
 have hw := h.pool.wf.take hl hn hk hb hpg hnm hp hlf
 have hlen := h.pool.wf.len
 have hmost := h.pool.wf.most
 refine h.pool.head.ld (c := cMap) (i := 2) (x := some x.mf) rfl ?_
 refine FrAt.at_ld hN.fr ?_
 obtain ⟨et, inf, hu, _⟩ := mapSpot
 have hno : ∀ u, ¬ HasE x.ef (keyV f.name (f.page : Int)) u := by
  intro u hu'
  obtain ⟨z, hz, e⟩ := List.mem_map.1 ((h.pool.frames.entF _ _).1 hu')
  simp only [Prod.mk.injEq] at e
  have := keyV_inj e.1
  have hzf : z.1 ∈ s.fs := by rw [h.pool.fs]; exact List.mem_map.2 ⟨z, hz, rfl⟩
  exact Pl.find_none hk _ hzf this.1 this.2
 refine doU_insertW (k := keyV f.name (f.page : Int)) hu keySpot h.pool.frames.fmap (keyW_spot hnm (by omega) (by omega)) hno fun H1 fm1 m1 z1 => ?_
 have hpm : p ≠ x.mf := fun e => PoolG.off h.pool.head h.pool.frames (.inl e)
 have hd1 : RowT H1 p YaD (headP dp x s) := m1.at h.pool.head hpm
 refine hd1.ld (c := cInt .i64) (i := 6) (x := (s.peak : Int)) rfl ?_
 refine hd1.ld (c := cMap) (i := 2) (x := some x.mf) rfl ?_
 have hsz := h.pool.n
 refine ⟨s.fs.length + 1, ⟨_, _, fm1.obj, by simp [hsz]⟩, ?_⟩
 have ep : (if ((s.fs.length + 1 : Nat) : Int) > (s.peak : Int) then ((s.fs.length + 1 : Nat) : Int) else (s.peak : Int)) = ((max s.peak (s.fs.length + 1) : Nat) : Int) := by
  split <;> omega
 simp only [ep]
 refine hd1.st (i := 6) (by decide : 6 < 8) (by rfl) fun H2 r2 m2 z2 => ?_
 have hgoff := hN.off
 have hm12 : Mod (fun b => b = x.mf ∨ b = p) H H2 := (m1.mono fun b _ e => .inl e).trans (m2.mono fun b _ e => .inr e)
 have hq2 : FrAt H2 g f := hN.fr.keep fun b hb hl => hm12.same b hl (by
  rintro (e | e)
  ·exact (hgoff b hb).2.1 (.inr (.inl e))
  ·exact (hgoff b hb).2.1 (.inl e))
 -- the frame is pushed
 obtain ⟨ef', hef⟩ : ∃ e : Array MapEntry, e = x.ef.push { key := keyV f.name (f.page : Int), val := ptrV g.p, born := x.cf } := ⟨_, rfl⟩
 have hapart : ∀ (i : Nat) (z : FZ), x.zs[i]? = some z → ∀ b, z.2.fp b → ¬ g.fp b := fun i z hz b hb hgb => (hgoff b hgb).2.1 (.inr (.inr (.inr ⟨z, List.mem_of_getElem? hz, hb⟩)))
 have hF : FramesAt H2 { x with zs := x.zs ++ [(f, g)], ef := ef', cf := x.cf + 1 } := by
  have F0 := h.pool.frames
  have hpo := PoolG.off h.pool.head h.pool.frames
  have old : ∀ u ∈ x.zs, FrAt H2 u.2 u.1 := fun u hu => (F0.each u hu).keep fun b hb hl => hm12.same b hl (by
   rintro (e | e)
   ·exact (F0.off hu).1 (e ▸ hb)
   ·exact hpo (e ▸ .inr (.inr ⟨u, hu, hb⟩)))
  refine ⟨?_, F0.hmap.keep (hm12.same _ F0.hmap.lt (by
   rintro (e | e)
   ·exact F0.ne e.symm
   ·exact hpo (e ▸ .inr (.inl rfl)))), F0.ne, by rw [hef]; simp [F0.size], ?_, ?_, ?_, ?_⟩
  ·have := fm1.mod m2 (fun e => hpm e.symm)
   rw [hef]; exact this
  ·intro k v
   rw [kvF_append, List.mem_append, hef, HasE_push, F0.entF k v]
   simp [kvF]
  ·intro k v
   rw [kvH_append, F0.entH k v]
   simp [kvH, kvP_nil (z := (f, g)) hp]
  ·intro u hu
   rcases List.mem_append.1 hu with q | q
   ·exact old u q
   ·simp at q; subst q; exact hq2
  ·intro i j u v h1 h2 hij b hb1 hb2
   have ex : ∀ (i : Nat) (u : FZ), (x.zs ++ [(f, g)])[i]? = some u → (x.zs[i]? = some u) ∨ (i = x.zs.length ∧ u = (f, g)) := by
    intro i u h1
    by_cases hi : i < x.zs.length
    ·rw [List.getElem?_append_left hi] at h1; exact .inl h1
    ·rw [List.getElem?_append_right (by omega)] at h1
     have : i = x.zs.length := by
      have := (List.getElem?_eq_some_iff.1 h1).1; simp at this; omega
     subst this
     simp at h1
     exact .inr ⟨rfl, h1.symm⟩
   rcases ex i u h1 with q1 | ⟨e1, rfl⟩ <;> rcases ex j v h2 with q2 | ⟨e2, rfl⟩
   ·exact F0.apart i j u v q1 q2 hij b hb1 hb2
   ·exact hapart i u q1 b hb1 hb2
   ·exact hapart j v q2 b hb2 hb1
   ·omega
 -- what holds in between
 have hw2 : (s.add f).fs.length ≤ s.most := by simp [Pl.add]; omega
 have hp2 : RowT H2 p YaD (headP dp { x with zs := x.zs ++ [(f, g)], ef := ef', cf := x.cf + 1 } (s.add f)) := r2
 have hz : (x.zs ++ [(f, g)])[x.zs.length]? = some (f, g) := by simp
 have hxl : x.zs.length = s.fs.length := by rw [h.pool.fs]; simp [PG.fs]
 -- the pin, over the blocks themselves
 refine ZcR.of ?_
 unfold ZcR.vc
 simp only [optK_eq]
 have hzm : ((f, g) : FZ) ∈ x.zs ++ [(f, g)] := by simp
 refine hq2.row.ld (c := cInt .i64) (i := 5) (x := (f.pins.length : Int)) rfl ?_
 refine hq2.row.st (i := 5) (by decide : 5 < 7) (by rfl) fun H3 r3 m3 z3 => ?_
 have hpg' : p ≠ g.p := fun e => (hgoff g.p (.inl rfl)).2.1 (.inl e.symm)
 have hd3 : RowT H3 p YaD (headP dp { x with zs := x.zs ++ [(f, g)], ef := ef', cf := x.cf + 1 } (s.add f)) := m3.at hp2 hpg'
 refine hd3.ld (c := cMap) (i := 3) (x := some x.mh) rfl ?_
 refine hd3.ld (c := cInt .i64) (i := 4) (x := s.next) rfl ?_
 obtain ⟨et', inf', hu', hd', _, _⟩ := mapHand
 have hgm : g.p ≠ x.mh := fun e => (hgoff g.p (.inl rfl)).2.1 (.inr (.inr (.inl e)))
 have hh3 : MapAt (.int .i64) H3 x.mh x.eh x.ch := hF.hmap.keep (m3.same _ hF.hmap.lt (fun e => hgm e.symm))
 have hno' : ∀ u, ¬ HasE x.eh (.int .i64 s.next) u := by
  intro u hu'
  have := (h.pool.frames.entH _ _).1 hu'
  obtain ⟨z, hz', hk⟩ := List.mem_flatMap.1 this
  obtain ⟨q, hq, e⟩ := List.mem_map.1 hk
  simp only [Prod.mk.injEq, Value.int.injEq, true_and] at e
  have hzf : z.1 ∈ s.fs := by rw [h.pool.fs]; exact List.mem_map.2 ⟨z, hz', rfl⟩
  have := (h.pool.wf.old _ hzf _ hq).2
  omega
 refine doU_insert hu' hd' hh3 (k := .int .i64 s.next) (show IntKind.i64 = IntKind.i64 from rfl) hno' fun H4 hm4 m4 z4 => ?_
 have hpmh : p ≠ x.mh := fun e => PoolG.off h.pool.head h.pool.frames (.inr (.inl e))
 have hd4 : RowT H4 p YaD (headP dp { x with zs := x.zs ++ [(f, g)], ef := ef', cf := x.cf + 1 } (s.add f)) := m4.at hd3 hpmh
 refine hd4.ld (c := cInt .i64) (i := 4) (x := s.next) rfl ?_
 refine hd4.st (i := 4) (by decide : 4 < 8) (by rfl) fun H5 r5 m5 z5 => ?_
 refine r5.ld (c := cInt .i64) (i := 4) (x := w64 (s.next + 1)) rfl ?_
 have ht := h.pool.wf.tick
 have hww : w64 (s.next + 1) = s.next + 1 := by unfold w64; exact wrap64 (by omega) (by omega)
 have er : IntKind.i64.wrap (w64 (s.next + 1) - 1) = s.next := by
  have e1 : w64 (s.next + 1) - 1 = s.next := by omega
  rw [e1]; exact wrap64 (by omega) (by omega)
 rw [er]
 have hm35 : Mod (fun b => b = g.p ∨ b = x.mh ∨ b = p) H2 H5 := ((m3.mono fun b _ e => .inl e).trans (m4.mono fun b _ e => .inr (.inl e))).trans (m5.mono fun b _ e => .inr (.inr e))
 have hq : FrAt H5 g (Fr.pin s.next f) := by
  refine ⟨?_, hq2.b.keep fun b hb hl => hm35.same b hl ?_⟩
  ·have := m5.at (m4.at r3 hgm) (fun e => hpg' e.symm)
   have e0 : IntKind.i64.wrap (((f.pins.length : Nat) : Int) + 1) = (((Fr.pin s.next f).pins.length : Nat) : Int) := by
    rw [hp]; simp [Fr.pin, hp]; rfl
   rw [e0] at this
   exact this
  ·obtain ⟨c, q⟩ := hq2.b.obj b hb
   rintro (e | e | e)
   ·rw [e] at q; exact absurd (cells_ty hq2.row q) (by decide)
   ·rw [e, hF.hmap.obj] at q; cases q
   ·rw [e] at q; exact absurd (cells_ty hp2 q) (by decide)
 have hF5 := hF.set (H' := H5) (z' := (Fr.pin s.next f, g)) hz rfl rfl rfl hq (hm4.keep (m5.same _ hm4.lt (fun e => hpmh e.symm))) (fun k v => by
  rw [HasE_push, hF.entH, kvH_pin _ x.zs.length f g hz]
  exact Iff.rfl) (fun b hb hn1 hn2 hl => hm35.same b hl (by
   rintro (e | e | e)
   ·exact hn1 (.inl e)
   ·exact hn2 e
   ·exact PoolG.off hp2 hF (e ▸ hb))) (fun b hb => .inl hb)
 have hfin : PoolG { x with zs := (x.zs ++ [(f, g)]).set x.zs.length (Fr.pin s.next f, g), ef := ef', cf := x.cf + 1, eh := x.eh.push { key := .int .i64 s.next, val := ptrV g.p, born := x.ch }, ch := x.ch + 1 } H5 p dp (s.take f) := by
  refine ⟨r5, hF5.1, ?_, hw⟩
  show (s.fs ++ [f]).modify s.fs.length (Fr.pin s.next) = ((x.zs ++ [(f, g)]).set x.zs.length (Fr.pin s.next f, g)).map (·.1)
  rw [modify_set (a := f) (by simp), h.pool.fs]
  simp [PG.fs]
 have hm05 : Mod (fun b => x.all p b ∨ g.fp b) H H5 := by
  refine (hm12.mono fun b _ e => ?_).trans (hm35.mono fun b _ e => ?_)
  ·rcases e with e | e
   ·exact .inl (.inr (.inl e))
   ·exact .inl (.inl e)
  ·rcases e with e | e | e
   ·exact .inr (.inl e)
   ·exact .inl (.inr (.inr (.inl e)))
   ·exact .inl (.inl e)
 have own : ∀ b, PG.all { x with zs := (x.zs ++ [(f, g)]).set x.zs.length (Fr.pin s.next f, g), ef := ef', cf := x.cf + 1, eh := x.eh.push { key := .int .i64 s.next, val := ptrV g.p, born := x.ch }, ch := x.ch + 1 } p b → x.all p b ∨ g.fp b := by
  rintro b (e | e | e | ⟨u, hu, hub⟩)
  ·exact .inl (.inl e)
  ·exact .inl (.inr (.inl e))
  ·exact .inl (.inr (.inr (.inl e)))
  ·rcases mem_set' hu with ⟨j, _, hj⟩ | rfl
   ·rcases List.mem_append.1 (List.mem_of_getElem? hj) with q | q
    ·exact .inl (.inr (.inr (.inr ⟨u, q, hub⟩)))
    ·simp at q; subst q; exact .inr hub
   ·exact .inr hub
 refine hK _ H5 ⟨hfin, h.disk.keep fun b hb hl => hm05.same b hl ?_, ?_, h.glob.1, ?_⟩ ⟨hm05.mono fun b _ e => e.imp .inr id, ?_⟩
 ·rintro (e | e)
  ·exact h.apart b hb e
  ·exact (hgoff b e).1 hb
 ·intro b hb hx
  rcases own b hx with e | e
  ·exact h.apart b hb e
  ·exact (hgoff b e).1 hb
 ·intro hx
  rcases own _ hx with e | e
  ·exact h.glob.2 e
  ·exact (hgoff _ e).2.2 rfl
 ·rintro b (e | e)
  ·exact .inl (.inl (.inl e))
  ·rcases own b e with q | q
   ·exact .inl (.inl (.inr q))
   ·exact .inl (.inr q)
end Go.Proofs.YtkehfflpbpdokaaGreat
namespace Go.Proofs.YtkehfflpbpdokaaGreat
theorem Dk.change_logs (s : Dk) : s.change.1.logs = s.logs := by unfold Dk.logs; rw [s.change_files]
theorem Dk.step_logs {s : Dk} {f : Dk → Dk} {n : Nat} (h : ∀ t : Dk, t.files = s.files → (f t).logs ≤ n) (h0 : s.logs ≤ n) : (s.step f).1.logs ≤ n := by
 unfold Dk.step
 split
 ·exact h _ s.change_files
 ·show s.change.1.logs ≤ n
  rw [s.change_logs]; exact h0
theorem Dk.logs_eq {s t : Dk} (h : t.files = s.files) : t.logs = s.logs := by unfold Dk.logs; rw [h]
theorem Dk.drop_logs (s : Dk) (n : ByteArray) : (s.drop n).logs ≤ s.logs := by
 unfold Dk.drop
 split
 ·rename_i i hi
  obtain ⟨f, hf, _⟩ := Dk.idx_some hi
  have := sum_erase (fun f : Fl => f.log.length) s.files i f hf
  unfold Dk.logs
  simp only
  omega
 ·exact Nat.le_refl _
theorem Dk.remove_logs (s : Dk) (n : ByteArray) : (s.remove n).1.logs ≤ s.logs := by
 unfold Dk.remove
 split
 ·exact Nat.le_refl _
 ·split
  ·exact Nat.le_refl _
  ·exact Dk.step_logs (fun t ht => Nat.le_trans (t.drop_logs n) (by rw [Dk.logs_eq ht]; exact Nat.le_refl _)) (Nat.le_refl _)
theorem Dk.write_logs (s : Dk) (n : ByteArray) (p : Int) (b : List UInt8) : (s.write n p b).1.logs ≤ s.logs + 1 := by
 unfold Dk.write
 split
 ·exact Nat.le_succ _
 ·split
  ·split
   ·exact Nat.le_succ _
   ·rename_i i hi
    split
    ·exact Nat.le_succ _
    ·split
     ·exact Nat.le_succ _
     ·refine Dk.step_logs (fun t ht => ?_) (Nat.le_succ _)
      obtain ⟨f, hf, _⟩ := Dk.idx_some hi
      rw [← ht] at hf
      show ((t.files.modify i _).map fun f => f.log.length).sum ≤ _
      have := sum_modify (fun f : Fl => f.log.length) (fun f => { f with log := f.log ++ [⟨t.next, p.toNat, ⟨b, by assumption⟩⟩] }) t.files i f hf
      have h3 : (t.files.map fun f => f.log.length).sum = s.logs := by rw [ht]; rfl
      simp only [List.length_append, List.length_cons, List.length_nil] at this
      omega
  ·exact Nat.le_succ _
theorem Pl.put_logs [Tab] (s : Pl) (i : Nat) : (s.put i).1.d.logs ≤ s.d.logs + 1 := by
 unfold Pl.put
 split <;> exact s.d.write_logs _ _ _
theorem Pl.room_logs [Tab] (s : Pl) : s.room.1.d.logs ≤ s.d.logs + 1 := by
 unfold Pl.room
 split
 ·exact Nat.le_succ _
 ·split
  ·exact Nat.le_succ _
  ·split
   ·split
    ·exact s.put_logs _
    ·exact s.put_logs _
   ·exact Nat.le_succ _
def Dk.size (s : Dk) (n : ByteArray) : Nat := match s.idx n with | some i => (s.file i).pages.length | none => 0
def Pl.Fit (s : Pl) : Prop := ∀ f ∈ s.fs, f.page < s.d.size f.name
theorem Dk.len_size {s : Dk} {n : ByteArray} (h : (s.len n).2 = 0) : (s.len n).1 = s.size n := by
 unfold Dk.len Dk.open at h ⊢
 unfold Dk.size
 by_cases hd : s.down = true
 ·rw [if_pos hd] at h; cases h
 ·rw [if_neg hd] at h ⊢
  cases hi : s.idx n with
  | none => rw [hi] at h; first | done | cases h
  | some i => rfl
theorem Pl.Fit.new {s : Pl} (h : s.Fit) {n : ByteArray} (hl : (s.d.len n).2 = 0) : s.find n (s.d.len n).1 = none := by
 unfold Pl.find
 rw [List.findIdx?_eq_none_iff]
 intro f hf
 cases hq : f.name.toList == n.toList with
 | false => rfl
 | true =>
   have e : f.name = n := ba_eq (by simpa using hq)
   have := h f hf
   rw [e, ← Dk.len_size hl] at this
   show (true && decide ((f.page : Int) = _)) = false
   rw [Bool.true_and]; exact decide_eq_false (by omega)
theorem Fl.addW_pages (f : Fl) (w : Wr) : (({ f with log := f.log ++ [w] } : Fl)).pages = putP f.pages w := by simp [Fl.pages]
structure Live (d : Dk) (n : ByteArray) (pg : List Pg) (q : Nat) : Prop where
 up : d.down = false
 calm : d.crash = none
 file : ∃ f, d.files = [f] ∧ f.name = n ∧ f.pages = pg
 quota : d.quota = q
def putAt (pg : List Pg) (k : Nat) (b : Pg) : List Pg := putP pg ⟨0, k, b⟩
theorem putAt_length (pg : List Pg) (k : Nat) (b : Pg) : (putAt pg k b).length = max pg.length (k + 1) := putP_length _ _
theorem putAt_get {pg : List Pg} {k : Nat} {b : Pg} (hk : k ≤ pg.length) (j : Nat) : (putAt pg k b)[j]? = if j = k then some b else pg[j]? := by
 unfold putAt putP
 simp only
 by_cases e : j = k
 ·subst e
  rw [if_pos rfl, List.getElem?_set, if_pos rfl, if_pos (by simp; omega)]
 ·rw [if_neg e, List.getElem?_set, if_neg (fun q => e q.symm)]
  by_cases hj : j < pg.length
  ·rw [List.getElem?_append_left hj]
  ·rw [List.getElem?_append_right (by omega), List.getElem?_eq_none (by simp; omega), List.getElem?_eq_none (by omega)]
structure Told [Tab] (p : Pl) (n : ByteArray) (N q : Nat) (T : Nat → UInt8 × List UInt8) (pg : List Pg) : Prop where
 wrong : p.wrong = 0
 disk : Live p.d n pg q
 len : pg.length = N
 mine : ∀ f ∈ p.fs, f.name = n ∧ f.page < N ∧ T f.page = (f.kind, f.b)
 rest : ∀ (k : Nat) (b : Pg), pg[k]? = some b → (∀ f ∈ p.fs, f.page = k → f.dirty = false) → openP b.1 = some (T k)
theorem modify_erase {α : Type} (u : α → α) : ∀ (l : List α) (i : Nat), (l.modify i u).eraseIdx i = l.eraseIdx i
 | [], i => by simp
 | a :: l, 0 => by simp
 | a :: l, i + 1 => by simp [modify_erase u l i]
theorem Pl.room_free [Tab] {p : Pl} (h : p.fs.length < p.most) : p.room = (p, 0) := by unfold Pl.room; rw [if_pos h]
theorem modify_last {α : Type} (l : List α) (a : α) (u : α → α) : (l ++ [a]).modify l.length u = l ++ [u a] := by
 have ha : (l ++ [a])[l.length]? = some a := by simp
 rw [modify_set ha]; simp
theorem Pl.take_fs [Tab] (p : Pl) (f : Fr) : (p.take f).fs = p.fs ++ [Fr.pin p.next f] := modify_last p.fs f _
def setT (T : Nat → UInt8 × List UInt8) (k : Nat) (v : UInt8 × List UInt8) : Nat → UInt8 × List UInt8 := fun j => if j = k then v else T j
theorem setT_same (T : Nat → UInt8 × List UInt8) (k : Nat) (v : UInt8 × List UInt8) : setT T k v k = v := if_pos rfl
theorem setT_other {T : Nat → UInt8 × List UInt8} {k j : Nat} {v : UInt8 × List UInt8} (h : j ≠ k) : setT T k v j = T j := if_neg h
open Go.MapKept
theorem PoolD.ext [Tab] {x : PG} {D : Nat → Prop} {H H' : Heap} {p dp : Nat} {s : Pl} (h : PoolD x D H p dp s) (e : Ext H H') : PoolD x D H' p dp s :=
 ⟨h.pool.keep fun b _ hl => e.same b hl id, h.disk.keep fun b _ hl => e.same b hl id, h.apart, h.glob⟩
theorem Step.ext [Tab] {F : Nat → Prop} {H H' : Heap} (e : Ext H H') : Step F F H H' := ⟨Ext.mod e, fun _ q => .inl q⟩
theorem Step.behind [Tab] {F G : Nat → Prop} {A B C : Heap} (h : Step F G A B) (e : Ext B C) : Step F G A C := h.trans (Step.ext e)
theorem PoolNew_ok [Tab] {D : Nat → Prop} {H : Heap} {dp : Nat} {d : Dk} {m : Nat} {K : (Option Addr × Int) → Heap → Prop} (hg : Gl H) (hd : DiskAt D H dp d) (hD : ¬ D gSteps) (h8 : 8 ≤ m) (hm : m ≤ 4096)
  (hK : ∀ F p H', PoolAt F H' p dp (pl0 d m) → Ext H H' → (∀ b, F b → D b ∨ H.size ≤ b) → K (at0 p, 0) H') : Zdl.sp (at0 dp) (m : Int) H K := by
 refine Zdl.of ?_
 unfold Zdl.vc
 refine br_f rfl (br_f (by simp; omega) (br_f (by simp; omega) ?_))
 refine newM_map (d := .int .i64) fun H1 s1 m1 e1 => ?_
 refine newM_map (d := .int .i64) fun H2 s2 m2 e2 => ?_
 refine newC_rowT fun H3 s3 r3 e3 => ?_
 have hl := hd.lt
 have hgl := hg.lt
 have e03 : Ext H H3 := (e1.trans e2).trans e3
 have hx : PoolG ⟨H.size, #[], 0, H1.size, #[], 0, []⟩ H3 H2.size dp (pl0 d m) := by
  refine ⟨r3, ⟨?_, ?_, by simp only; omega, rfl, ?_, ?_, by simp, by simp⟩, rfl, pl0_wf h8 hm⟩
  ·exact ⟨(e2.trans e3).at m1.obj id, stamped_empty 0, by simp⟩
  ·exact m2.keep (e3.same _ m2.lt id)
  ·intro k v
   constructor
   ·rintro ⟨e, he, _⟩; simp at he
   ·intro q; simp [kvF] at q
  ·intro k v
   constructor
   ·rintro ⟨e, he, _⟩; simp at he
   ·intro q; simp [kvH] at q
 have hall : ∀ b, PG.all ⟨H.size, #[], 0, H1.size, #[], 0, []⟩ H2.size b → H.size ≤ b := by
  rintro b (e | e | e | ⟨z, hz, _⟩)
  ·omega
  ·simp only at e; omega
  ·simp only at e; omega
  ·simp at hz
 refine hK _ H2.size H3 ⟨_, D, ⟨hx, hd.keep fun b _ hl => e03.same b hl id, fun b hb hx => ?_, hD, fun hx => ?_⟩, fun b => Iff.rfl⟩ e03 ?_
 ·have := hall b hx; have := hl b hb; omega
 ·have := hall _ hx; omega
 ·rintro b (q | q)
  ·exact .inl q
  ·exact .inr (hall b q)
theorem lookF_ok [Tab] {x : PG} {H : Heap} {p dp : Nat} {s : Pl} {n : ByteArray} {k : Int} {K : (Option Addr × Bool) → Prop} (h : PoolG x H p dp s) (hn : n.size ≤ 9223372036854775807) (h0 : -9223372036854775808 ≤ k) (h1 : k ≤ 9223372036854775807)
  (hF : ∀ i f g, s.find n k = some i → x.zs[i]? = some (f, g) → f.name = n → (f.page : Int) = k → K (at0 g.p, true)) (hN : s.find n k = none → K (none, false)) :
  rdV (cTup [cPtr, cBool]) Tryz.prog (Instr.lookup Yaa (.map (some x.mf)) (.agg #[(.string n), (.int .i64 k)]) true) H K := by
 obtain ⟨et, inf, hu, hi, hz⟩ := mapSpot
 refine rdV_lookupW (k := keyV n k) hu keySpot hi hz h.frames.fmap (keyW_spot hn h0 h1) ?_ ?_
 ·intro v hv
  obtain ⟨z, hzm, e⟩ := List.mem_map.1 ((h.frames.entF _ _).1 hv)
  simp only [Prod.mk.injEq] at e
  obtain ⟨e1, e2⟩ := keyV_inj e.1
  obtain ⟨i, hi⟩ := List.mem_iff_getElem?.1 hzm
  have hfs : s.fs[i]? = some z.1 := by rw [h.fs]; simp [PG.fs, hi]
  refine ⟨(at0 z.2.p, true), by rw [← e.2]; rfl, hF i z.1 z.2 ?_ hi e1 e2⟩
  rw [← e1, ← e2]
  exact Pl.find_eq h.wf hfs
 ·intro hno
  refine ⟨(none, false), rfl, hN ?_⟩
  cases hx : s.find n k with
  | none => rfl
  | some i =>
    obtain ⟨f, hf, e1, e2⟩ := Pl.find_some hx
    obtain ⟨g, hg, _⟩ := h.at hf
    refine absurd ((h.frames.entF (keyV n k) (ptrV g.p)).2 (List.mem_map.2 ⟨(f, g), List.mem_of_getElem? hg, ?_⟩)) (hno _)
    simp only [e1, e2]
theorem lookH_ok [Tab] {x : PG} {H : Heap} {p dp : Nat} {s : Pl} {k : Int} {K : (Option Addr × Bool) → Prop} (h : PoolG x H p dp s)
  (hF : ∀ i f g, s.held k = some i → x.zs[i]? = some (f, g) → k ∈ f.pins → K (at0 g.p, true)) (hN : s.held k = none → K (none, false)) :
  rdV (cTup [cPtr, cBool]) Tryz.prog (Instr.lookup Yad (.map (some x.mh)) (.int .i64 k) true) H K := by
 obtain ⟨et, inf, hu, hd, hi, hz⟩ := mapHand
 refine rdV_lookup hu hd hi hz h.frames.hmap (k := .int .i64 k) (show IntKind.i64 = IntKind.i64 from rfl) ?_ ?_
 ·intro v hv
  obtain ⟨z, hzm, hk⟩ := List.mem_flatMap.1 ((h.frames.entH _ _).1 hv)
  obtain ⟨q, hq, e⟩ := List.mem_map.1 hk
  simp only [Prod.mk.injEq, Value.int.injEq, true_and] at e
  obtain ⟨i, hi⟩ := List.mem_iff_getElem?.1 hzm
  have hfs : s.fs[i]? = some z.1 := by rw [h.fs]; simp [PG.fs, hi]
  rw [e.1] at hq
  exact ⟨(at0 z.2.p, true), by rw [← e.2]; rfl, hF i z.1 z.2 (Pl.held_eq h.wf hfs hq) hi hq⟩
 ·intro hno
  refine ⟨(none, false), rfl, hN ?_⟩
  cases hx : s.held k with
  | none => rfl
  | some i =>
    obtain ⟨f, hf, hm⟩ := Pl.held_some hx
    obtain ⟨g, hg, _⟩ := h.at hf
    exact absurd ((h.frames.entH (.int .i64 k) (ptrV g.p)).2 (List.mem_flatMap.2 ⟨(f, g), List.mem_of_getElem? hg, List.mem_map.2 ⟨k, hm, rfl⟩⟩)) (hno _)
theorem Dk.len_le {s : Dk} (h : s.WF) (n : ByteArray) : (s.len n).1 ≤ 1048576 := by
 have h1 := h.used; have h2 := h.most; have h3 := h.quota
 unfold Dk.len
 split
 ·rename_i i e hi
  have : (s.file i).pages.length ≤ s.used := by
   unfold Dk.open at hi
   split at hi
   ·cases hi
   ·split at hi
    ·rename_i j hj
     cases hi
     obtain ⟨f, hf, _⟩ := Dk.idx_some hj
     rw [Dk.file_eq hf]; exact Dk.pages_le hf
    ·cases hi
  show (s.file i).pages.length ≤ _
  omega
 ·exact Nat.zero_le _
theorem Dk.read_len (s : Dk) (n : ByteArray) (k : Int) : (s.read n k).1.length ≤ 512 ∧ ((s.read n k).2 = 0 → (s.read n k).1.length = 512) := by
 unfold Dk.read Dk.open
 split
 ·rename_i i e hi
  split
  ·exact ⟨by simp, fun q => by cases q⟩
  ·split
   ·rename_i pg _; exact ⟨by rw [pg.2]; exact Nat.le_refl _, fun _ => pg.2⟩
   ·exact ⟨by simp, fun q => by cases q⟩
 ·rename_i e hi
  refine ⟨by simp, fun q => ?_⟩
  split at hi
  ·simp at hi; subst hi; cases q
  ·split at hi
   ·cases hi
   ·simp at hi; subst hi; cases q
theorem Pl.room_keys [Tab] (s : Pl) : ∀ f ∈ s.room.1.fs, ∃ f' ∈ s.fs, f'.key = f.key := by
 have hput : ∀ i, ∀ f ∈ (s.put i).1.fs, ∃ f' ∈ s.fs, f'.key = f.key := by
  intro i f hf
  unfold Pl.put at hf
  split at hf
  ·have hf : f ∈ s.fs.modify i Fr.clean := hf
   obtain ⟨j, hj⟩ := List.mem_iff_getElem?.1 hf
   rw [List.getElem?_modify] at hj
   cases hx : s.fs[j]? with
   | none => rw [hx] at hj; cases hj
   | some y =>
     rw [hx] at hj
     have hj' : (if i = j then y.clean else y) = f := Option.some.inj hj
     refine ⟨y, List.mem_of_getElem? hx, ?_⟩
     rw [← hj']; split <;> rfl
  ·exact ⟨f, hf, rfl⟩
 intro f hf
 unfold Pl.room at hf
 split at hf
 ·exact ⟨f, hf, rfl⟩
 ·split at hf
  ·exact ⟨f, hf, rfl⟩
  ·rename_i i _
   split at hf
   ·split at hf
    ·exact hput i f (List.mem_of_mem_eraseIdx hf)
    ·exact hput i f hf
   ·exact ⟨f, List.mem_of_mem_eraseIdx hf, rfl⟩
theorem Pl.find_none_of {s : Pl} {n : ByteArray} {k : Int} (h : ∀ f ∈ s.fs, f.name = n → (f.page : Int) ≠ k) : s.find n k = none := by
 unfold Pl.find
 rw [List.findIdx?_eq_none_iff]
 intro f hf
 cases hq : f.name.toList == n.toList with
 | false => rfl
 | true =>
   have := h f hf (ba_eq (by simpa using hq))
   show (true && decide ((f.page : Int) = k)) = false
   rw [Bool.true_and]; exact decide_eq_false this
theorem Pl.room_find [Tab] {s : Pl} {n : ByteArray} {k : Int} (h : s.find n k = none) : s.room.1.find n k = none := by
 refine Pl.find_none_of fun f hf e1 e2 => ?_
 obtain ⟨f', hf', hk⟩ := s.room_keys f hf
 have h1 : f'.name = f.name := congrArg Prod.fst hk
 have h2 : f'.page = f.page := congrArg Prod.snd hk
 exact Pl.find_none h f' hf' (h1.trans e1) (by rw [h2]; exact e2)
theorem Pl.load_some [Tab] {s : Pl} (hd : s.d.WF) {n : ByteArray} {k : Int} {f : Fr} (h : (s.load n k).2.1 = some f) :
  (s.load n k).1 = s.room.1 ∧ (s.load n k).2.2 = 0 ∧ s.room.2 = 0 ∧ f.name = n ∧ (f.page : Int) = k ∧ f.b.length ≤ 504 ∧ f.pins = [] ∧ f.left = 0 ∧ f.page < 1048577 := by
 have hl := Dk.len_le hd n
 unfold Pl.load at h ⊢
 by_cases h1 : (s.d.len n).2 ≠ 0
 ·rw [if_pos h1] at h; cases h
 rw [if_neg h1] at h ⊢
 by_cases h2 : k < 0 ∨ k ≥ ((s.d.len n).1 : Int)
 ·rw [if_pos h2] at h; cases h
 rw [if_neg h2] at h ⊢
 by_cases h3 : s.room.2 ≠ 0
 ·rw [if_pos h3] at h; cases h
 rw [if_neg h3] at h ⊢
 by_cases h4 : (s.room.1.d.read n k).2 ≠ 0
 ·rw [if_pos h4] at h; cases h
 rw [if_neg h4] at h ⊢
 cases ho : openP (s.room.1.d.read n k).1 with
 | none => rw [ho] at h; cases h
 | some kb =>
   rw [ho] at h
   simp only [Option.some.injEq] at h
   subst h
   have hlen : kb.2.length ≤ 504 := by
    unfold openP at ho
    split at ho
    ·rename_i q; cases ho; simp; omega
    ·cases ho
   exact ⟨rfl, rfl, by omega, rfl, by simp only; omega, hlen, rfl, rfl, by simp only; omega⟩
theorem Pl.load_none [Tab] {s : Pl} {n : ByteArray} {k : Int} (h : (s.load n k).2.1 = none) : (s.load n k).2.2 ≠ 0 := by
 unfold Pl.load at h ⊢
 split
 ·rename_i h1; exact h1
 ·rename_i h1
  rw [if_neg h1] at h
  split
  ·show (12 : Int) ≠ 0; decide
  ·rename_i h2
   rw [if_neg h2] at h
   split
   ·rename_i h3; exact h3
   ·rename_i h3
    rw [if_neg h3] at h
    split
    ·rename_i h4; exact h4
    ·rename_i h4
     rw [if_neg h4] at h
     split
     ·show (20 : Int) ≠ 0; decide
     ·rename_i kb hk; rw [hk] at h; cases h
theorem load_ok [Tab] {x : PG} {D : Nat → Prop} {H : Heap} {p dp : Nat} {s : Pl} {n : ByteArray} {k : Int} {K : (Option Addr × Int) → Heap → Prop} (hg : Gl H) (h : PoolD x D H p dp s) (hlogs : s.d.logs < 68719476736)
  (hE : (s.load n k).2.1 = none → ∀ q x' D' H', PoolD x' D' H' p dp (s.load n k).1 → Step (fun b => D b ∨ x.all p b) (fun b => D' b ∨ x'.all p b) H H' → K (q, (s.load n k).2.2) H')
  (hS : ∀ f, (s.load n k).2.1 = some f → ∀ g x' D' H', PoolD x' D' H' p dp s.room.1 → Step (fun b => D b ∨ x.all p b) (fun b => D' b ∨ x'.all p b) H H' → NewAt x' D' H' p g f → (∀ b, g.fp b → H.size ≤ b) → K (at0 g.p, 0) H') :
  ZcG.sp (at0 p) n k H K := by
 refine ZcG.of ?_
 unfold ZcG.vc
 simp only [optK_eq]
 refine newC_rowT fun H1 s1 r1 e1 => ?_
 have h1 := h.ext e1
 have hg1 : Gl H1 := hg.mod e1 id
 refine h1.pool.head.ld (c := cPtr) (i := 0) (x := at0 dp) rfl ?_
 refine r1.ld (c := cStr) (i := 0) (x := n) rfl ?_
 refine Len_ok h1.disk ?_
 unfold Pl.load at hE hS
 refine br_mk (fun hz => ?_) (fun hz => ?_)
 ·have hz' : (s.d.len n).2 ≠ 0 := by simpa using hz
  rw [if_pos hz'] at hE
  exact hE rfl _ x D H1 h1 (.ext e1)
 have hz' : ¬ (s.d.len n).2 ≠ 0 := by simpa using hz
 rw [if_neg hz'] at hE hS
 refine r1.ld (c := cInt .i64) (i := 1) (x := k) rfl ?_
 refine br_mk (fun hk => ?_) (fun hk => ?_)
 ·have hk' : k < 0 := by simpa using hk
  rw [if_pos (.inl hk')] at hE
  exact hE rfl _ x D H1 h1 (.ext e1)
 refine r1.ld (c := cInt .i64) (i := 1) (x := k) rfl ?_
 refine br_mk (fun hk2 => ?_) (fun hk2 => ?_)
 ·have hk' : k ≥ ((s.d.len n).1 : Int) := by simpa using hk2
  rw [if_pos (.inr hk')] at hE
  exact hE rfl _ x D H1 h1 (.ext e1)
 have hk0 : 0 ≤ k := by simp at hk; omega
 have hkk : ¬ (k < 0 ∨ k ≥ ((s.d.len n).1 : Int)) := by simp at hk hk2; omega
 rw [if_neg hkk] at hE hS
 refine room_ok hg1 h1 hlogs fun x2 D2 H2 h2 S2 => ?_
 have S02 := (Step.ext (F := fun b => D b ∨ x.all p b) e1).trans S2
 have hg2 : Gl H2 := h1.gl hg1 S2.mod
 have hvoff : ¬ (D H.size ∨ x.all p H.size) := fun q => by have := h.lt _ q; omega
 have r2 : RowT H2 H.size YaC #[.string n, .int .i64 k] := S2.mod.at r1 hvoff
 refine br_mk (fun hz2 => ?_) (fun hz2 => ?_)
 ·have hz2' : s.room.2 ≠ 0 := by simpa using hz2
  rw [if_pos hz2'] at hE
  exact hE rfl _ x2 D2 H2 h2 S02
 have hz2' : ¬ s.room.2 ≠ 0 := by simpa using hz2
 rw [if_neg hz2'] at hE hS
 refine h2.pool.head.ld (c := cPtr) (i := 0) (x := at0 dp) rfl ?_
 refine r2.ld (c := cStr) (i := 0) (x := n) rfl ?_
 refine r2.ld (c := cInt .i64) (i := 1) (x := k) rfl ?_
 refine Read_ok h2.disk fun r H3 o3 e3 f3 => ?_
 have hrl := s.room.1.d.read_len n k
 refine br_mk (fun hz3 => ?_) (fun hz3 => ?_)
 ·have hz3' : (s.room.1.d.read n k).2 ≠ 0 := by simpa using hz3
  rw [if_pos hz3'] at hE
  exact hE rfl _ x2 D2 H3 (h2.ext e3) (S02.behind e3)
 have hz3' : ¬ (s.room.1.d.read n k).2 ≠ 0 := by simpa using hz3
 rw [if_neg hz3'] at hE hS
 have r3 := r2.ext e3
 refine RowT.ldA (x := (n, k)) r3 rfl rfl ?_
 refine newC_rowT fun H4 s4 r4 e4 => ?_
 have e34 : Ext H2 H4 := e3.trans e4
 have hg4 : Gl H4 := hg2.mod e34 id
 have z02 := S02.mod.size
 have z24 := e34.size
 have z3 := e3.size
 have o4 : SlE EB YaL H4 r (s.room.1.d.read n k).1 := o3.keep fun b _ hl => e4.same b hl id
 have h512 : (s.room.1.d.read n k).1.length = 512 := hrl.2 (by omega)
 have fin : ∀ (H5 : Heap) (kd : Int) (sl : Sl) (er : Int), Ext H4 H5 → (∀ H6, RowT H6 H3.size Yau #[.string n, .int .i64 k, .int .u8 kd, sl.v, .bool false, .int .i64 0, .int .i64 0] → Mod (fun b => b = H3.size) H5 H6 → H6.size = H5.size → K (some ⟨H3.size, 0, none⟩, er) H6) →
   st H5 (Addr.add ⟨H3.size, 0, none⟩ 2) (.int .u8 kd) fun H7 => st H7 (Addr.add ⟨H3.size, 0, none⟩ 3) sl.v fun H8 => K (some ⟨H3.size, 0, none⟩, er) H8 := by
  intro H5 kd sl er e45 hK
  refine RowT.st (r4.ext e45) (i := 2) (by decide : 2 < 7) (by rfl) fun H7 r7 m7 z7 => ?_
  refine RowT.st r7 (i := 3) (by decide : 3 < 7) (by rfl) fun H8 r8 m8 z8 => ?_
  exact hK H8 r8 (m7.trans m8) (by omega)
 have stays : ∀ (H5 H6 : Heap), Ext H4 H5 → Mod (fun b => b = H3.size) H5 H6 → PoolD x2 D2 H6 p dp s.room.1 ∧ Step (fun b => D b ∨ x.all p b) (fun b => D2 b ∨ x2.all p b) H H6 := by
  intro H5 H6 e45 m56
  have e26 : Ext H2 H6 := ⟨by have := e45.size; have := m56.size; omega, fun b hb _ => (m56.same b (by have := e45.size; omega) (by omega)).trans ((e34.trans e45).same b hb id)⟩
  exact ⟨h2.ext e26, S02.behind e26⟩
 refine Open_ok hg4 (SlB_byts o4) (by omega) o4.cap (fun q => absurd h512 q) (fun _ ho => ?_) (fun kd b s' H5 _ ho hbl o5 e45 f5 => ?_)
 ·rw [ho] at hE
  refine fin H4 0 (Sl.mk none 0 0) 20 (.refl _ _) fun H6 r6 m6 z6 => ?_
  obtain ⟨q1, q2⟩ := stays H4 H6 (.refl _ _) m6
  exact hE rfl _ x2 D2 H6 q1 q2
 ·rw [ho] at hS
  refine fin H5 _ s' 0 e45 fun H6 r6 m6 z6 => ?_
  obtain ⟨q1, q2⟩ := stays H5 H6 e45 m6
  have hfb : ∀ b, FrG.fp ⟨H3.size, s'⟩ b → H3.size ≤ b := by
   rintro b (e | hb)
   ·exact Nat.le_of_eq e.symm
   ·have := f5 b hb; omega
  have z45 := e45.size
  refine hS _ rfl ⟨H3.size, s'⟩ x2 D2 H6 q1 q2 ⟨⟨?_, o5.keep fun b hb hl => m6.same b hl ?_⟩, fun b hb => ?_⟩ (fun b hb => by have := hfb b hb; omega)
  ·have ek : ((k.toNat : Nat) : Int) = k := by omega
   unfold frC
   simp only [ek]
   exact r6
  ·have := f5 b hb; omega
  ·have h3 := hfb b hb
   refine ⟨fun q => ?_, fun q => ?_, fun q => ?_⟩
   ·have := h2.lt b (.inl q); omega
   ·have := h2.lt b (.inr q); omega
   ·have := hg2.lt; omega
theorem PoolAt.ext [Tab] {F : Nat → Prop} {H H' : Heap} {p dp : Nat} {s : Pl} (h : PoolAt F H p dp s) (e : Ext H H') : PoolAt F H' p dp s := h.keep fun b _ hl => e.same b hl id
theorem Step.ahead [Tab] {F G : Nat → Prop} {A B C : Heap} (e : Ext A B) (h : Step F G B C) : Step F G A C := (Step.ext e).trans h
theorem zc_spot : (zc Tryz.prog YaC).size = 2 := by kernel_rfl
theorem Pin_ok [Tab] {F : Nat → Prop} {H : Heap} {p dp : Nat} {s : Pl} {n : ByteArray} {k : Int} {K : (Int × Int) → Heap → Prop} (hg : Gl H) (h : PoolAt F H p dp s) (hn : n.size ≤ 9223372036854775807) (h0 : -9223372036854775808 ≤ k) (h1 : k ≤ 9223372036854775807)
  (hlogs : s.d.logs < 68719476736) (hnx : s.next < 9223372036854775807) (hK : ∀ F' H', PoolAt F' H' p dp (s.pin n k).1 → Step F F' H H' → K ((s.pin n k).2.1, (s.pin n k).2.2) H') : ZcT.sp (at0 p) n k H K := by
 have h00 := h
 obtain ⟨x, D, hd, hF⟩ := h
 refine ZcT.of ?_
 unfold ZcT.vc
 simp only [optK_eq]
 refine ready_pool hd.pool ?_
 unfold Pl.pin at hK
 refine br_mk (fun hw => ?_) (fun hw => ?_)
 ·have hw' : s.wrong ≠ 0 := by simpa using hw
  rw [if_pos hw'] at hK
  exact hK F H h00 (.refl _ _)
 have hw' : ¬ s.wrong ≠ 0 := by simpa using hw
 rw [if_neg hw'] at hK
 refine newC_rowT fun H1 s1 r1 e1 => ?_
 have hs2 := zc_spot
 refine RowT.stAll r1 (cs := #[.string n, .int .i64 k]) (by kernel_rfl) hs2 (by intro v hv; simp at hv; rcases hv with rfl | rfl <;> rfl) fun H2 r2 m2 z2 => ?_
 have e2 : Ext H H2 := ⟨by have := e1.size; have := m2.size; omega, fun b hb _ => (m2.same b (by omega) (by omega)).trans (e1.same b hb id)⟩
 have hd2 := hd.ext e2
 have hg2 : Gl H2 := hg.mod e2 id
 refine hd2.pool.head.ld (c := cMap) (i := 2) (x := some x.mf) rfl ?_
 refine RowT.ldA (x := (n, k)) r2 rfl rfl ?_
 refine lookF_ok hd2.pool hn h0 h1 (fun i f g hi hz _ _ => ?_) (fun hi => ?_)
 ·rw [hi] at hK
  have hfs : s.fs[i]? = some f := by rw [hd.pool.fs]; simp [PG.fs, hz]
  have hpl : f.pins.length ≤ s.pins := le_sum (fun f : Fr => f.pins.length) s.fs i f hfs
  have ht := hd.pool.wf.tick
  refine br_t rfl ?_
  refine pinAt_ok hg2 hd2 hz hnx (hd.pool.wf.pinAt hfs hnx) (by omega) fun x' H3 h3 S3 => ?_
  obtain ⟨F', q1, q2⟩ := h3.out (x := x) (D := D) (F := F) (H := H2) hF S3
  exact hK F' H3 q1 (q2.ahead e2)
 ·rw [hi] at hK
  refine br_f rfl ?_
  refine RowT.ldA (x := (n, k)) r2 rfl rfl ?_
  refine load_ok hg2 hd2 hlogs (fun hno q x' D' H3 h3 S3 => ?_) (fun f hf g x' D' H3 h3 S3 hN hfp => ?_)
  ·have hne := Pl.load_none hno
   obtain ⟨q', hq'⟩ : ∃ q', s.load n k = q' := ⟨_, rfl⟩
   obtain ⟨t, fo, e⟩ := q'
   rw [hq'] at hno hne h3 hK ⊢
   simp only at hno hne h3 hK ⊢
   subst hno
   simp only at hK
   refine br_t (by simpa using hne) ?_
   have hg3 : Gl H3 := hd2.gl hg2 S3.mod
   refine met_ok hg3 h3 fun H4 h4 S4 => ?_
   obtain ⟨F', q1, q2⟩ := h4.out (x := x) (D := D) (F := F) (H := H2) hF (S3.trans S4)
   exact hK F' H4 q1 (q2.ahead e2)
  ·obtain ⟨a1, a2, a3, a4, a5, a6, a7, a8, a9⟩ := Pl.load_some hd.disk.wf hf
   obtain ⟨q', hq'⟩ : ∃ q', s.load n k = q' := ⟨_, rfl⟩
   obtain ⟨t, fo, e⟩ := q'
   rw [hq'] at hf a1 a2 hK
   simp only at hf a1 a2 hK
   subst hf
   simp only at hK
   rw [a1] at hK
   refine br_f rfl ?_
   have hg3 : Gl H3 := hd2.gl hg2 S3.mod
   have hrs := s.room_same
   have hrw := hd.pool.wf.roomed
   refine take_ok hg3 h3 hN (by rw [hrs.1]; exact hrw.2 a3) (by rw [hrs.2.1]; exact hnx) (by rw [a4, a5]; exact Pl.room_find hi) a6 a9 (by rw [a4]; exact hn) a7 a8 fun x4 H4 h4 S4 => ?_
   have S24 : Step (fun b => D b ∨ x.all p b) (fun b => D' b ∨ x4.all p b) H2 H4 := by
    refine ⟨S3.mod.trans' S4.mod fun b hb q => ?_, fun b hb => ?_⟩
    ·rcases q with q | q
     ·exact (S3.own b q).resolve_right (by omega)
     ·have := hfp b q; omega
    ·rcases S4.own b hb with q | q
     ·rcases q with q | q
      ·exact S3.own b q
      ·exact .inr (hfp b q)
     ·exact .inr (Nat.le_trans S3.mod.size q)
   obtain ⟨F', q1, q2⟩ := h4.out (x := x) (D := D) (F := F) (H := H2) hF S24
   exact hK F' H4 q1 (q2.ahead e2)
theorem Fresh_ok [Tab] {F : Nat → Prop} {H : Heap} {p dp : Nat} {s : Pl} {n : ByteArray} {K : (Int × Int × Int) → Heap → Prop} (hg : Gl H) (h : PoolAt F H p dp s) (hn : n.size ≤ 9223372036854775807)
  (hlogs : s.d.logs < 68719476735) (hnx : s.next < 9223372036854775807) (hfit : s.Fit)
  (hK : ∀ F' H', PoolAt F' H' p dp (s.fresh n).1 → Step F F' H H' → K ((s.fresh n).2.1, (s.fresh n).2.2.1, (s.fresh n).2.2.2) H') : Zcp.sp (at0 p) n H K := by
 have h00 := h
 obtain ⟨x, D, hd, hF⟩ := h
 refine Zcp.of ?_
 unfold Zcp.vc
 simp only [optK_eq]
 refine ready_pool hd.pool ?_
 unfold Pl.fresh at hK
 refine br_mk (fun hw => ?_) (fun hw => ?_)
 ·have hw' : s.wrong ≠ 0 := by simpa using hw
  rw [if_pos hw'] at hK
  exact hK F H h00 (.refl _ _)
 have hw' : ¬ s.wrong ≠ 0 := by simpa using hw
 rw [if_neg hw'] at hK
 refine hd.pool.head.ld (c := cPtr) (i := 0) (x := at0 dp) rfl ?_
 refine Len_ok hd.disk ?_
 have fail : ∀ (e : Int) (x' : PG) (D' : Nat → Prop) (H1 : Heap) (s' : Pl), PoolD x' D' H1 p dp s' → Step (fun b => D b ∨ x.all p b) (fun b => D' b ∨ x'.all p b) H H1 → (∀ F' H', PoolAt F' H' p dp (s'.met e) → Step F F' H H' → K (0, 0, e) H') →
   ZcP.sp (at0 p) e H1 fun r H2 => K (0, 0, r) H2 := by
  intro e x' D' H1 s' h1 S1 hk
  refine met_ok (hd.gl hg S1.mod) h1 fun H2 h2 S2 => ?_
  obtain ⟨F', q1, q2⟩ := h2.out (x := x) (D := D) (F := F) (H := H) hF (S1.trans S2)
  exact hk F' H2 q1 q2
 refine br_mk (fun hz => ?_) (fun hz => ?_)
 ·have hz' : (s.d.len n).2 = 0 := by simpa using hz
  rw [if_neg (by simpa using hz')] at hK
  refine room_ok hg hd (by omega) fun x1 D1 H1 h1 S1 => ?_
  have hg1 : Gl H1 := hd.gl hg S1.mod
  refine newC_rowT fun H2 s2 r2 e2 => ?_
  have h2 := h1.ext e2
  have S2 := S1.behind e2
  have hg2 : Gl H2 := hg1.mod e2 id
  refine br_mk (fun hr => ?_) (fun hr => ?_)
  ·have hr' : s.room.2 = 0 := by simpa using hr
   rw [if_neg (by simpa using hr')] at hK
   have hA : FrAt H2 ⟨H1.size, Sl.mk none 0 0⟩ ⟨n, (s.d.len n).1, 0, [], false, [], 0⟩ := ⟨r2, SlE.nil _ _ _⟩
   have hfp : ∀ b, FrG.fp ⟨H1.size, Sl.mk none 0 0⟩ b → b = H1.size := by
    rintro b (e | ⟨ad, q, _⟩)
    ·exact e
    ·cases q
   have hoff1 : ∀ b, D1 b ∨ x1.all p b → b < H1.size := h1.lt
   have hlg : s.room.1.d.logs < 68719476736 := by
    have : s.room.1.d.logs ≤ s.d.logs + 1 := s.room_logs
    omega
   refine writeF_ok (f := ⟨n, (s.d.len n).1, 0, [], false, [], 0⟩) hg2 h2.disk h2.pool.head rfl hA (by simp) (fun b hb q => by have := hfp b hb; have := hoff1 b (.inl q); omega) hlg (fun hne D3 H3 a3 S3 => ?_) (fun he D3 H3 H4 a3 S3 hf4 m4 z4 => ?_)
   ·have hne' : (s.room.1.d.write n ((s.d.len n).1 : Int) (sealP 0 [])).2 ≠ 0 := hne
    rw [if_pos hne'] at hK
    obtain ⟨q1, q2⟩ := h2.stepD hg2 a3 S3
    refine br_t (by simpa using hne) ?_
    exact fail _ x1 D3 H3 _ q1 (S2.trans q2) hK
   ·have he' : ¬ (s.room.1.d.write n ((s.d.len n).1 : Int) (sealP 0 [])).2 ≠ 0 := fun q => q he
    rw [if_neg he'] at hK
    obtain ⟨q1, q2⟩ := h2.stepD hg2 a3 S3
    refine br_f rfl ?_
    have hl4 : ∀ b, b < H1.size → H4[b]? = H3[b]? := fun b hb => m4.same b (by have := e2.size; have := S3.mod.size; omega) (by show b ≠ H1.size; omega)
    have hin : ∀ b, D3 b ∨ x1.all p b → b ≠ H1.size := by
     intro b q e
     subst e
     rcases q with q | q
     ·rcases S3.own _ q with r | r
      ·have := hoff1 _ (.inl r); omega
      ·have := e2.size; omega
     ·have := hoff1 _ (.inr q); omega
    have q4 : PoolD x1 D3 H4 p dp (s.room.1.setD (s.room.1.d.write n ((s.d.len n).1 : Int) (sealP 0 [])).1) :=
     ⟨q1.pool.keep fun b hb hl => m4.same b hl (hin b (.inr hb)), q1.disk.keep fun b hb hl => m4.same b hl (hin b (.inl hb)), q1.apart, q1.glob⟩
    have S4 : Step (fun b => D b ∨ x.all p b) (fun b => D3 b ∨ x1.all p b) H H4 := by
     have S3' := S2.trans q2
     refine ⟨S3'.mod.trans' m4 fun b hb q => ?_, S3'.own⟩
     have : b = H1.size := q
     have := S1.mod.size; omega
    have hg4 : Gl H4 := hd.gl hg S4.mod
    have hNew : NewAt x1 D3 H4 p ⟨H1.size, Sl.mk none 0 0⟩ ⟨n, (s.d.len n).1, 0, [], false, [], 0⟩ := by
     refine ⟨hf4, fun b hb => ?_⟩
     have eb := hfp b hb
     refine ⟨fun q => hin b (.inl q) eb, fun q => hin b (.inr q) eb, fun q => ?_⟩
     have := hg1.lt; omega
    have hrs := s.room_same
    have hrw := hd.pool.wf.roomed
    have hle := Dk.len_le hd.disk.wf n
    obtain ⟨f, hf⟩ : ∃ f : Fr, f = ⟨n, (s.d.len n).1, 0, [], false, [], 0⟩ := ⟨_, rfl⟩
    rw [← hf] at hNew hK
    have c1 : f.name = n := by rw [hf]
    have c2 : f.page = (s.d.len n).1 := by rw [hf]
    have c3 : f.b = [] := by rw [hf]
    have c4 : f.pins = [] := by rw [hf]
    have c5 : f.left = 0 := by rw [hf]
    have d1 : (s.room.1.setD (s.room.1.d.write n ((s.d.len n).1 : Int) (sealP 0 [])).1).fs.length < (s.room.1.setD (s.room.1.d.write n ((s.d.len n).1 : Int) (sealP 0 [])).1).most := by
     show _ < s.room.1.most; rw [hrs.1]; exact hrw.2 hr'
    have d2 : (s.room.1.setD (s.room.1.d.write n ((s.d.len n).1 : Int) (sealP 0 [])).1).next < 9223372036854775807 := by
     show s.room.1.next < _; rw [hrs.2.1]; exact hnx
    have d3 : (s.room.1.setD (s.room.1.d.write n ((s.d.len n).1 : Int) (sealP 0 [])).1).find f.name f.page = none := by
     rw [c1, c2]; exact Pl.room_find (hfit.new hz')
    have d4 : f.b.length ≤ 504 := by rw [c3]; exact Nat.zero_le _
    have d5 : f.page < 1048577 := by rw [c2]; omega
    have d6 : f.name.size ≤ 9223372036854775807 := by rw [c1]; exact hn
    show ZcJ.sp (at0 p) (at0 H1.size) H4 (fun r H7 => K (r, ((s.d.len n).1 : Int), 0) H7)
    refine take_ok (g := ⟨H1.size, Sl.mk none 0 0⟩) (K := fun r H7 => K (r, ((s.d.len n).1 : Int), 0) H7) hg4 q4 hNew d1 d2 d3 d4 d5 d6 c4 c5 fun x5 H5 h5 S5 => ?_
    have S45 : Step (fun b => D b ∨ x.all p b) (fun b => D3 b ∨ x5.all p b) H H5 := by
     refine ⟨S4.mod.trans' S5.mod fun b hb q => ?_, fun b hb => ?_⟩
     ·rcases q with q | q
      ·exact (S4.own b q).resolve_right (by omega)
      ·have := hfp b q; have := S1.mod.size; omega
     ·rcases S5.own b hb with q | q
      ·rcases q with q | q
       ·exact S4.own b q
       ·have := hfp b q; have := S1.mod.size; exact .inr (by omega)
      ·exact .inr (Nat.le_trans S4.mod.size q)
    obtain ⟨F', t1, t2⟩ := h5.out (x := x) (D := D) (F := F) (H := H) hF S45
    exact hK F' H5 t1 t2
  ·have hr' : s.room.2 ≠ 0 := by simpa using hr
   rw [if_pos hr'] at hK
   refine br_t (by simpa using hr') ?_
   exact fail _ x1 D1 H2 _ h2 S2 hK
 ·have hz' : (s.d.len n).2 ≠ 0 := by simpa using hz
  rw [if_pos hz'] at hK
  refine newC_rowT fun H2 s2 r2 e2 => ?_
  refine br_f hz ?_
  have ht : ((s.d.len n).2 != 0) = true := by simpa using hz'
  refine br_t ht ?_
  exact fail _ x D H2 s (hd.ext e2) (Step.ext e2) hK
theorem held_ok [Tab] {x : PG} {H : Heap} {p dp : Nat} {s : Pl} {k : Int} {K : (Option Addr × Int) → Heap → Prop} (h : PoolG x H p dp s) (hW : s.wrong ≠ 0 → K (none, s.wrong) H)
  (hN : s.wrong = 0 → s.held k = none → K (none, 32) H) (hF : ∀ i f g, s.wrong = 0 → s.held k = some i → x.zs[i]? = some (f, g) → k ∈ f.pins → K (at0 g.p, 0) H) : ZcM.sp (at0 p) k H K := by
 refine ZcM.of ?_
 unfold ZcM.vc
 simp only [optK_eq]
 refine ready_pool h ?_
 refine br_mk (fun hw => hW (by simpa using hw)) (fun hw => ?_)
 have hw' : s.wrong = 0 := by simpa using hw
 refine h.head.ld (c := cMap) (i := 3) (x := some x.mh) rfl ?_
 exact lookH_ok h (fun i f g hi hz hk => hF i f g hw' hi hz hk) (fun hi => hN hw' hi)
theorem Get_ok [Tab] {F : Nat → Prop} {H : Heap} {p dp : Nat} {s : Pl} {k : Int} {K : (Int × Sl × Int) → Heap → Prop} (h : PoolAt F H p dp s)
  (hK : ∀ sl H', SlE EB YaL H' sl (s.get k).2.1 → Ext H H' → (∀ b, ownB sl b → H.size ≤ b) → K (((s.get k).1.toNat : Int), sl, (s.get k).2.2) H') : ZcQ.sp (at0 p) k H K := by
 obtain ⟨x, D, hd, hF⟩ := h
 refine ZcQ.of ?_
 unfold ZcQ.vc
 unfold Pl.get at hK
 have nil : ∀ b, ownB (Sl.mk none 0 0) b → H.size ≤ b := by rintro b ⟨ad, q, _⟩; cases q
 refine held_ok hd.pool (fun hw => ?_) (fun hw hh => ?_) (fun i f g hw hh hz hk => ?_)
 ·rw [if_pos hw] at hK
  exact br_t (by simpa using hw) (hK _ H (SlE.nil _ _ _) (.refl _ _) nil)
 ·rw [if_neg (fun q => q hw), hh] at hK
  exact br_t rfl (hK _ H (SlE.nil _ _ _) (.refl _ _) nil)
 ·have hfs : s.fs[i]? = some f := by rw [hd.pool.fs]; simp [PG.fs, hz]
  rw [if_neg (fun q => q hw), hh] at hK
  simp only [Pl.frame_eq hfs] at hK
  have hA := hd.pool.frames.each _ (List.mem_of_getElem? hz)
  refine br_f rfl ⟨fun H' => Ext H H', .refl _ _, ?_⟩
  simp only [optK_eq]
  refine ⟨(f.kind.toNat : Int), fun H' e => ?_, ?_⟩
  ·rw [add_lit0]
   exact RowT.cell (RowT.ext hA.row e) rfl
  ·refine hA.row.ld (c := cSl) (i := 3) (x := g.b) rfl ?_
   have hroom := hd.pool.wf.room f (List.mem_of_getElem? hfs)
   refine CloneByte_ok (SlB_byts hA.b) (by show f.b.length ≤ _; omega) fun sl H' o m fr => ⟨m, hK sl H' o m fr⟩
theorem PoolD.turnF [Tab] {x : PG} {D : Nat → Prop} {H H' : Heap} {p dp : Nat} {s : Pl} {i : Nat} {f : Fr} {g g' : FrG} {u : Fr → Fr} (hg : Gl H) (h : PoolD x D H p dp s) (hz : x.zs[i]? = some (f, g)) (hk : (u f).key = f.key) (hpi : (u f).pins = f.pins) (hl : (u f).left = f.left) (hb5 : (u f).b.length ≤ 504) (hp : g'.p = g.p)
  (hq : FrAt H' g' (u f)) (hm : Mod (fun b => b = g.p) H H') (hb : ∀ b, g'.fp b → g.fp b ∨ H.size ≤ b) :
  PoolD { x with zs := x.zs.set i (u f, g') } D H' p dp (s.turn i u) ∧ Step (fun b => D b ∨ x.all p b) (fun b => D b ∨ PG.all { x with zs := x.zs.set i (u f, g') } p b) H H' := by
 have hzm := List.mem_of_getElem? hz
 have hfs : s.fs[i]? = some f := by rw [h.pool.fs]; simp [PG.fs, hz]
 have h1 : (u f).name = f.name := congrArg Prod.fst hk
 have h2 : (u f).page = f.page := congrArg Prod.snd hk
 obtain ⟨t1, t2⟩ := h.pool.frames.turn (H' := H') (z' := (u f, g')) hz h1 h2 hpi hp hq (fun b _ hn hl => hm.same b hl fun e => hn (e ▸ .inl rfl)) hb
 have hp2 : PoolG { x with zs := x.zs.set i (u f, g') } H' p dp (s.turn i u) := by
  refine ⟨hm.at h.pool.head fun e => PoolG.off h.pool.head h.pool.frames (e ▸ .inr (.inr ⟨_, hzm, .inl rfl⟩)), t1, ?_, h.pool.wf.turn hfs hk hpi hl hb5⟩
  show s.fs.modify i u = (x.zs.set i (u f, g')).map (·.1)
  rw [modify_set hfs, h.pool.fs]
  simp [PG.fs, List.map_set]
 exact h.stepP hg hp2 rfl (hm.mono fun b _ e => .inr (.inr (.inr ⟨_, hzm, .inl e⟩))) t2
theorem Put_ok [Tab] {F : Nat → Prop} {H : Heap} {p dp : Nat} {s : Pl} {k : Int} {kd : UInt8} {b : Sl} {l : List UInt8} {K : Int → Heap → Prop} (hg : Gl H) (h : PoolAt F H p dp s) (hb : Byts H b l)
  (hK : ∀ F' H', PoolAt F' H' p dp (s.set k kd l).1 → Step F F' H H' → K (s.set k kd l).2 H') : ZcU.sp (at0 p) k (kd.toNat : Int) b H K := by
 have h00 := h
 obtain ⟨x, D, hd, hF⟩ := h
 refine ZcU.of ?_
 unfold ZcU.vc
 unfold Pl.set at hK
 have hn := hb.n
 refine held_ok hd.pool (fun hw => ?_) (fun hw hh => ?_) (fun i f g hw hh hz hk => ?_)
 ·rw [if_pos hw] at hK
  exact br_t (by simpa using hw) (hK F H h00 (.refl _ _))
 ·rw [if_neg (fun q => q hw), hh] at hK
  exact br_t rfl (hK F H h00 (.refl _ _))
 ·rw [if_neg (fun q => q hw), hh] at hK
  simp only at hK
  refine br_f rfl (br_mk (fun hl => ?_) (fun hl => ?_))
  ·have hl' : l.length > 504 := by rw [hn] at hl; simp at hl; omega
   rw [if_pos hl'] at hK
   exact hK F H h00 (.refl _ _)
  ·have hl' : ¬ l.length > 504 := by rw [hn] at hl; simp at hl; omega
   rw [if_neg hl'] at hK
   refine CloneByte_ok hb (by omega) fun sl H1 o1 m1 f1 => ?_
   have hd1 := hd.ext m1
   have hg1 : Gl H1 := hg.mod m1 id
   have hzm := List.mem_of_getElem? hz
   have hA := hd1.pool.frames.each _ hzm
   simp only [optK_eq]
   refine hA.row.st (i := 2) (by decide : 2 < 7) (by rfl) fun H2 r2 m2 z2 => ?_
   refine r2.st (i := 3) (by decide : 3 < 7) (by rfl) fun H3 r3 m3 z3 => ?_
   refine r3.st (i := 4) (by decide : 4 < 7) (by rfl) fun H4 r4 m4 z4 => ?_
   have m14 : Mod (fun b => b = g.p) H1 H4 := (m2.trans m3).trans m4
   have m04 : Mod (fun b => b = g.p) H H4 := (Ext.mod m1).trans m14
   have hgH : g.p < H.size := obj_lt (hd.pool.frames.each _ hzm).row
   have hq : FrAt H4 ⟨g.p, sl⟩ (Fr.set kd l f) := by
    refine ⟨r4, o1.keep fun b hb hl => m14.same b hl fun e => ?_⟩
    have hb1 := f1 b hb
    have : b = g.p := e
    omega
   obtain ⟨q1, q2⟩ := hd.turnF (g' := ⟨g.p, sl⟩) (u := Fr.set kd l) hg hz rfl rfl rfl (by show l.length ≤ 504; omega) rfl hq m04 (by
    rintro b (e | hb)
    ·exact .inl (.inl e)
    ·exact .inr (f1 b hb))
   obtain ⟨F', t1, t2⟩ := q1.out (x := x) (D := D) (F := F) (H := H) hF q2
   exact hK F' H4 t1 t2
theorem kvH_unpin [Tab] {h t : Int} {zs : List FZ} {i : Nat} {f : Fr} {g : FrG} (hz : zs[i]? = some (f, g)) (hd : ((zs.map (·.1)).flatMap (·.pins)).Nodup) (hh : h ∈ f.pins) : ∀ k v, (k, v) ∈ kvH (zs.set i (Fr.unpin h t f, g)) ↔ (k, v) ∈ kvH zs ∧ k ≠ .int .i64 h := by
 intro k v
 have hil := (List.getElem?_eq_some_iff.1 hz).1
 have other : ∀ j (z : FZ), zs[j]? = some z → h ∈ z.1.pins → j = i := by
  intro j z hj hm
  exact flat_inj hd (i := j) (j := i) (f := z.1) (g := f) (by simp [hj]) (by simp [hz]) hm hh
 unfold kvH
 simp only [List.mem_flatMap]
 constructor
 ·rintro ⟨z, hzs, e⟩
  rcases mem_set' hzs with ⟨j, hji, hj⟩ | rfl
  ·refine ⟨⟨z, List.mem_of_getElem? hj, e⟩, fun q => ?_⟩
   obtain ⟨y, hy, e2⟩ := List.mem_map.1 e
   simp only [Prod.mk.injEq] at e2
   rw [q] at e2
   simp only [Value.int.injEq, true_and] at e2
   rw [e2.1] at hy
   exact hji (other j z hj hy)
  ·obtain ⟨y, hy, e2⟩ := List.mem_map.1 e
   have hy' := List.mem_filter.1 hy
   simp only [Prod.mk.injEq] at e2
   refine ⟨⟨(f, g), List.mem_of_getElem? hz, List.mem_map.2 ⟨y, hy'.1, by simp only [Prod.mk.injEq]; exact e2⟩⟩, fun q => ?_⟩
   rw [q] at e2
   simp only [Value.int.injEq, true_and] at e2
   have := hy'.2
   rw [e2.1] at this
   simp at this
 ·rintro ⟨⟨z, hzm, e⟩, hne⟩
  obtain ⟨j, hj⟩ := List.mem_iff_getElem?.1 hzm
  by_cases hij : i = j
  ·subst hij
   rw [hz] at hj; cases hj
   refine ⟨(Fr.unpin h t f, g), List.mem_iff_getElem?.2 ⟨i, by simp [hil]⟩, ?_⟩
   obtain ⟨y, hy, e2⟩ := List.mem_map.1 e
   refine List.mem_map.2 ⟨y, List.mem_filter.2 ⟨hy, ?_⟩, e2⟩
   simp only [Prod.mk.injEq] at e2
   have : y ≠ h := fun q => hne (by rw [← e2.1, q])
   simp [this]
  ·exact ⟨z, List.mem_iff_getElem?.2 ⟨j, by rw [List.getElem?_set, if_neg hij]; exact hj⟩, e⟩
theorem Unpin_ok [Tab] {F : Nat → Prop} {H : Heap} {p dp : Nat} {s : Pl} {k : Int} {K : Int → Heap → Prop} (hg : Gl H) (h : PoolAt F H p dp s) (hnx : s.next < 9223372036854775807)
  (hK : ∀ F' H', PoolAt F' H' p dp (s.unpin k).1 → Step F F' H H' → K (s.unpin k).2 H') : Zco.sp (at0 p) k H K := by
 have h00 := h
 obtain ⟨x, D, hd, hF⟩ := h
 refine Zco.of ?_
 unfold Zco.vc
 have hwf := hd.pool.wf.unpin k hnx
 unfold Pl.unpin at hK hwf
 refine held_ok hd.pool (fun hw => ?_) (fun hw hh => ?_) (fun i f g hw hh hz hk => ?_)
 ·rw [if_pos hw] at hK
  exact br_t (by simpa using hw) (hK F H h00 (.refl _ _))
 ·rw [if_neg (fun q => q hw), hh] at hK
  exact br_t rfl (hK F H h00 (.refl _ _))
 ·rw [if_neg (fun q => q hw), hh] at hK hwf
  simp only at hK hwf
  refine br_f rfl ?_
  simp only [optK_eq]
  have hzm := List.mem_of_getElem? hz
  have hfs : s.fs[i]? = some f := by rw [hd.pool.fs]; simp [PG.fs, hz]
  have hfl : f.pins.length ≤ s.pins := le_sum (fun f : Fr => f.pins.length) s.fs i f hfs
  have ht := hd.pool.wf.tick
  have hA := hd.pool.frames.each _ hzm
  have hoff := hd.pool.frames.off hzm
  refine hd.pool.head.ld (c := cMap) (i := 3) (x := some x.mh) rfl ?_
  obtain ⟨et, inf, hu, hdd, _, _⟩ := mapHand
  refine doT_delete hu hdd hd.pool.frames.hmap (k := .int .i64 k) (show IntKind.i64 = IntKind.i64 from rfl) fun es' H1 hm1 it _ mo1 z1 => ?_
  have hpm : p ≠ x.mh := fun e => PoolG.off hd.pool.head hd.pool.frames (.inr (.inl e))
  have hd1 : RowT H1 p YaD (headP dp x s) := mo1.at hd.pool.head hpm
  refine hd1.ld (c := cInt .i64) (i := 5) (x := s.tick) rfl ?_
  refine hd1.st (i := 5) (by decide : 5 < 8) (by rfl) fun H2 r2 m2 z2 => ?_
  have hgm : g.p ≠ x.mh := fun e => hoff.2 (.inl e.symm)
  have hpg : p ≠ g.p := fun e => PoolG.off hd.pool.head hd.pool.frames (e ▸ .inr (.inr ⟨_, hzm, .inl rfl⟩))
  have hA2 : RowT H2 g.p Yau (frC g f) := m2.at (mo1.at hA.row hgm) (fun e => hpg e.symm)
  refine hA2.ld (c := cInt .i64) (i := 5) (x := (f.pins.length : Int)) rfl ?_
  refine r2.ld (c := cInt .i64) (i := 5) (x := w64 (s.tick + 1)) rfl ?_
  refine hA2.st (i := 5) (by decide : 5 < 7) (by rfl) fun H3 r3 m3 z3 => ?_
  refine r3.st (i := 6) (by decide : 6 < 7) (by rfl) fun H4 r4 m4 z4 => ?_
  have hm04 : Mod (fun b => b = g.p ∨ b = x.mh ∨ b = p) H H4 := (((mo1.mono fun b _ e => .inr (.inl e)).trans (m2.mono fun b _ e => .inr (.inr e))).trans (m3.mono fun b _ e => .inl e)).trans (m4.mono fun b _ e => .inl e)
  have hlen := filter_one (flat_nodup hd.pool.wf.pins hfs) hk
  have ew : IntKind.i64.wrap ((f.pins.length : Int) - 1) = (((Fr.unpin k (w64 (s.tick + 1)) f).pins.length : Nat) : Int) := by
   show _ = (((f.pins.filter fun x => decide (x ≠ k)).length : Nat) : Int)
   rw [wrap64 (by omega) (by omega)]; omega
  have hq : FrAt H4 g (Fr.unpin k (w64 (s.tick + 1)) f) := by
   refine ⟨?_, hA.b.keep fun b hb hl => hm04.same b hl ?_⟩
   ·rw [ew] at r4; exact r4
   ·obtain ⟨c, q⟩ := hA.b.obj b hb
    rintro (e | e | e)
    ·rw [e] at q; exact absurd (cells_ty hA.row q) (by decide)
    ·rw [e, hd.pool.frames.hmap.obj] at q; cases q
    ·rw [e] at q; exact absurd (cells_ty hd.pool.head q) (by decide)
  have hpins := hd.pool.wf.pins
  rw [hd.pool.fs] at hpins
  have m24 : Mod (fun b => b = g.p) H2 H4 := m3.trans m4
  obtain ⟨t1, t2⟩ := hd.pool.frames.set (H' := H4) (z' := (Fr.unpin k (w64 (s.tick + 1)) f, g)) (eh' := es') (ch' := x.ch) hz rfl rfl rfl hq (hm1.keep ((m24.same _ (by have := hm1.lt; omega) (fun e => hgm e.symm)).trans (m2.same _ hm1.lt (fun e => hpm e.symm)))) (fun a v => by
   rw [it, hd.pool.frames.entH, kvH_unpin hz hpins hk]) (fun b hb hn1 hn2 hl => hm04.same b hl (by
    rintro (e | e | e)
    ·exact hn1 (.inl e)
    ·exact hn2 e
    ·exact PoolG.off hd.pool.head hd.pool.frames (e ▸ hb))) (fun b hb => .inl hb)
  have hp4 : PoolG { x with zs := x.zs.set i (Fr.unpin k (w64 (s.tick + 1)) f, g), eh := es', ch := x.ch } H4 p dp { s with fs := s.fs.modify i (Fr.unpin k (w64 (s.tick + 1))), tick := w64 (s.tick + 1) } := by
   refine ⟨m24.at r2 hpg, t1, ?_, hwf⟩
   show s.fs.modify i _ = (x.zs.set i _).map (·.1)
   rw [modify_set hfs, hd.pool.fs]
   simp [PG.fs, List.map_set]
  obtain ⟨q1, q2⟩ := hd.stepP hg hp4 rfl (hm04.mono fun b _ e => by
   rcases e with e | e | e
   ·exact .inr (.inr (.inr ⟨_, hzm, .inl e⟩))
   ·exact .inr (.inr (.inl e))
   ·exact .inl e) t2
  obtain ⟨F', t3, t4⟩ := q1.out (x := x) (D := D) (F := F) (H := H) hF q2
  exact hK F' H4 t3 t4
theorem Frames_ok {F : Nat → Prop} {H : Heap} {p dp : Nat} {s : Pl} {K : Int → Heap → Prop} (h : PoolAt F H p dp s) (hK : K (s.most : Int) H) : Zcc.sp (at0 p) H K := by
 obtain ⟨x, D, hd, hF⟩ := h
 refine Zcc.of ?_
 unfold Zcc.vc
 refine br_f rfl ?_
 exact hd.pool.head.ld (c := cInt .i64) (i := 1) (x := (s.most : Int)) rfl hK
theorem PDisk_ok {F : Nat → Prop} {H : Heap} {p dp : Nat} {s : Pl} {K : Option Addr → Heap → Prop} (h : PoolAt F H p dp s) (hK : K (at0 dp) H) : ZcD.sp (at0 p) H K := by
 obtain ⟨x, D, hd, hF⟩ := h
 refine ZcD.of ?_
 unfold ZcD.vc
 refine br_f rfl ?_
 exact hd.pool.head.ld (c := cPtr) (i := 0) (x := at0 dp) rfl hK
theorem PoolAt.disk [Tab] {F : Nat → Prop} {H : Heap} {p dp : Nat} {s : Pl} (hg : Gl H) (h : PoolAt F H p dp s) : ∃ D, DiskAt D H dp s.d ∧ (∀ b, D b → F b) ∧ ∀ D' H' d, DiskAt D' H' dp d → Step D D' H H' → ∃ F', PoolAt F' H' p dp (s.setD d) ∧ Step F F' H H' := by
 obtain ⟨x, D, hd, hF⟩ := h
 refine ⟨D, hd.disk, fun b hb => (hF b).2 (.inl hb), fun D' H' d hd' hS => ?_⟩
 obtain ⟨q1, q2⟩ := hd.stepD hg hd' hS
 exact q1.out (x := x) (D := D) (F := F) (H := H) hF q2
theorem kvF_nodup {zs : List FZ} (h : ((zs.map (·.1)).map Fr.key).Nodup) : (kvF zs).Nodup := by
 have e : (zs.map (·.1)).map Fr.key = zs.map fun z => (z.1.name, z.1.page) := by simp [Fr.key]
 rw [e] at h
 unfold kvF
 unfold List.Nodup at h ⊢
 rw [List.pairwise_map] at h ⊢
 refine h.imp fun {a b} hne q => hne ?_
 simp only [Prod.mk.injEq] at q
 have := keyV_inj q.1
 simp only [Prod.mk.injEq]
 exact ⟨this.1, by omega⟩
theorem PoolG.perm [Tab] {x : PG} {H : Heap} {p dp : Nat} {s : Pl} (h : PoolG x H p dp s) : (x.ef.toList.map fun e => (e.key, e.val)).Perm (kvF x.zs) := by
 have hk := h.wf.keys
 rw [h.fs] at hk
 have hst := h.frames.fmap.stamped
 have hnd : (x.ef.toList.map fun e => (e.key, e.val)).Nodup := by
  have := hst.2.2
  unfold List.Nodup at this ⊢
  rw [List.pairwise_map] at this ⊢
  exact this.imp fun hne q => hne (congrArg Prod.fst q)
 rw [List.perm_ext_iff_of_nodup hnd (kvF_nodup hk)]
 rintro ⟨k, v⟩
 rw [← h.frames.entF k v]
 constructor
 ·intro q
  obtain ⟨e, he, q2⟩ := List.mem_map.1 q
  simp only [Prod.mk.injEq] at q2
  exact ⟨e, he, q2.1, q2.2⟩
 ·rintro ⟨e, he, q1, q2⟩
  exact List.mem_map.2 ⟨e, he, by rw [q1, q2]⟩
end Go.Proofs.YtkehfflpbpdokaaGreat
