/-
 The disk in plain words: what a disk is, and what each call makes of it.
-/
import Derived.Test.YtkehfflpbpdokaaGreatFxk
namespace Go.Proofs.YtkehfflpbpdokaaGreat
abbrev Pg := { l : List UInt8 // l.length = 512 }
def pg0 : Pg := ⟨List.replicate 512 0, List.length_replicate⟩
structure Wr where
 no : Int
 page : Nat
 b : Pg
structure Fl where
 name : ByteArray
 synced : List Pg
 log : List Wr
structure Dk where
 files : List Fl
 most : Nat
 quota : Nat
 ops : Int
 next : Int
 crash : Option (Int × Int)
 down : Bool
def putP (l : List Pg) (w : Wr) : List Pg := (l ++ List.replicate (w.page + 1 - l.length) pg0).set w.page w.b
def Fl.pages (f : Fl) : List Pg := f.log.foldl putP f.synced
def Dk.idx (s : Dk) (n : ByteArray) : Option Nat := s.files.findIdx? fun f => f.name.toList == n.toList
def Dk.used (s : Dk) : Nat := (s.files.map fun f => f.pages.length).sum
def Dk.file (s : Dk) (i : Nat) : Fl := s.files.getD i ⟨ByteArray.empty, [], []⟩
def w64 (x : Int) : Int := IntKind.i64.wrap x
def Dk.upd (t : Dk) (i : Nat) (u : Fl → Fl) : Dk := { t with files := t.files.modify i u }
def Dk.addW (t : Dk) (i : Nat) (w : Wr) : Dk := ⟨t.files.modify i (fun f => { f with log := f.log ++ [w] }), t.most, t.quota, t.ops, w64 (t.next + 1), t.crash, t.down⟩
def Dk.setMost (t : Dk) (m : Nat) : Dk := ⟨t.files, m, t.quota, t.ops, t.next, t.crash, t.down⟩
def named (n : ByteArray) : Bool := decide (1 ≤ n.size) && decide (n.size ≤ 100)
def Dk.change (s : Dk) : Dk × Int :=
 match s.crash with
 | none => ({ s with ops := w64 (s.ops + 1) }, 0)
 | some (i, k) => if i = 0 then ({ s with down := true }, 4) else ({ s with crash := some (w64 (i - 1), k), ops := w64 (s.ops + 1) }, 0)
def Dk.step (s : Dk) (f : Dk → Dk) : Dk × Int := if s.change.2 = 0 then (f s.change.1, 0) else s.change
def Dk.open (s : Dk) (n : ByteArray) : Option Nat × Int :=
 if s.down then (none, 4) else match s.idx n with | some i => (some i, 0) | none => (none, 11)
def Dk.create (s : Dk) (n : ByteArray) : Dk × Int :=
 if s.down then (s, 4) else if named n = false then (s, 2) else if (s.idx n).isSome then (s, 10) else if s.files.length = 4096 then (s, 3)
 else s.step fun t => { t with files := t.files ++ [⟨n, [], []⟩] }
def Dk.drop (s : Dk) (n : ByteArray) : Dk := match s.idx n with | some i => { s with files := s.files.eraseIdx i } | none => s
def Dk.remove (s : Dk) (n : ByteArray) : Dk × Int :=
 if s.down then (s, 4) else if (s.idx n).isNone then (s, 11) else s.step fun t => t.drop n
def Dk.write (s : Dk) (n : ByteArray) (page : Int) (b : List UInt8) : Dk × Int :=
 if s.down then (s, 4) else if h : b.length = 512 then
  match s.idx n with
  | none => (s, 11)
  | some i =>
    if page < 0 ∨ page > (s.file i).pages.length then (s, 12)
    else if page = (s.file i).pages.length ∧ s.used ≥ s.quota then (s, 5)
    else s.step fun t => (t.addW i ⟨t.next, page.toNat, ⟨b, h⟩⟩).setMost (max t.most (t.addW i ⟨t.next, page.toNat, ⟨b, h⟩⟩).used)
 else (s, 2)
def Dk.read (s : Dk) (n : ByteArray) (page : Int) : List UInt8 × Int :=
 match s.open n with
 | (some i, _) => if page < 0 then ([], 12) else match ((s.file i).pages)[page.toNat]? with | some p => (p.1, 0) | none => ([], 12)
 | (none, e) => ([], e)
def Dk.len (s : Dk) (n : ByteArray) : Nat × Int :=
 match s.open n with
 | (some i, _) => ((s.file i).pages.length, 0)
 | (none, e) => (0, e)
def dk0 (q : Int) : Dk := ⟨[], 0, (min (max q 0) 1048576).toNat, 0, 0, none, false⟩
def names (s : Dk) : List ByteArray := s.files.map (·.name)
structure Dk.WF (s : Dk) : Prop where
 nodup : (s.files.map fun f => f.name.toList).Nodup
 used : s.used ≤ s.most
 most : s.most ≤ s.quota
 quota : s.quota ≤ 1048576
 files : s.files.length ≤ 4096
 down : s.down = true → s.crash.isSome
 cin : ∀ i k, s.crash = some (i, k) → 0 ≤ i ∧ i ≤ 9223372036854775807
def Dk.logs (s : Dk) : Nat := (s.files.map fun f => f.log.length).sum
theorem putP_length (l : List Pg) (w : Wr) : (putP l w).length = max l.length (w.page + 1) := by
 simp [putP]; omega
theorem sum_erase {α : Type} (f : α → Nat) : ∀ (l : List α) (i : Nat) (x : α), l[i]? = some x → ((l.eraseIdx i).map f).sum + f x = (l.map f).sum
 | [], i, x, h => by simp at h
 | a :: l, 0, x, h => by simp at h; subst h; simp; omega
 | a :: l, i + 1, x, h => by
   have := sum_erase f l i x (by simpa using h)
   simp only [List.eraseIdx_cons_succ, List.map_cons, List.sum_cons]; omega
theorem sum_modify {α : Type} (f : α → Nat) (g : α → α) : ∀ (l : List α) (i : Nat) (x : α), l[i]? = some x → ((l.modify i g).map f).sum + f x = (l.map f).sum + f (g x)
 | [], i, x, h => by simp at h
 | a :: l, 0, x, h => by simp at h; subst h; simp; omega
 | a :: l, i + 1, x, h => by
   have := sum_modify f g l i x (by simpa using h)
   simp only [List.modify_succ_cons, List.map_cons, List.sum_cons]; omega
theorem le_sum {α : Type} (f : α → Nat) (l : List α) (i : Nat) (x : α) (h : l[i]? = some x) : f x ≤ (l.map f).sum := by
 have := sum_erase f l i x h; omega
theorem modify_same {α : Type} {l : List α} {i : Nat} {a : α} {g : α → α} (h : l[i]? = some a) : (l.modify i g)[i]? = some (g a) := by
 rw [List.getElem?_modify, h]; simp
theorem modify_other {α : Type} {l : List α} {i j : Nat} {g : α → α} (h : i ≠ j) : (l.modify i g)[j]? = l[j]? := by
 rw [List.getElem?_modify]; simp [h]
theorem modify_set {α : Type} {l : List α} {i : Nat} {a : α} {g : α → α} (h : l[i]? = some a) : l.modify i g = l.set i (g a) := by
 have hi := (List.getElem?_eq_some_iff.1 h).1
 apply List.ext_getElem?
 intro j
 by_cases hij : i = j
 ·subst hij; rw [modify_same h]; simp [hi]
 ·rw [modify_other hij, List.getElem?_set, if_neg hij]
theorem ba_eq {a b : ByteArray} (h : a.toList = b.toList) : a = b := by
 rw [ByteArray.toList_eq, ByteArray.toList_eq] at h
 exact ByteArray.ext (Array.toList_inj.1 h)
theorem ba_iff {a b : ByteArray} : a.toList = b.toList ↔ a = b := ⟨ba_eq, fun h => by rw [h]⟩
theorem Dk.idx_some {s : Dk} {n : ByteArray} {i : Nat} (h : s.idx n = some i) : ∃ f, s.files[i]? = some f ∧ f.name = n := by
 unfold Dk.idx at h
 rw [List.findIdx?_eq_some_iff_getElem] at h
 obtain ⟨h1, h2, _⟩ := h
 exact ⟨s.files[i], List.getElem?_eq_getElem h1, ba_eq (by simpa using h2)⟩
theorem Dk.idx_none {s : Dk} {n : ByteArray} (h : s.idx n = none) : ∀ f ∈ s.files, f.name ≠ n := by
 unfold Dk.idx at h
 rw [List.findIdx?_eq_none_iff] at h
 intro f hf e
 have := h f hf
 rw [e] at this; simp at this
theorem Dk.WF.inj {s : Dk} (h : s.WF) {i j : Nat} {f g : Fl} (hi : s.files[i]? = some f) (hj : s.files[j]? = some g) (e : f.name = g.name) : i = j := by
 have h1 := h.nodup
 have hi' := (List.getElem?_eq_some_iff.1 hi).1
 refine (List.getElem?_inj (l := s.files.map fun f => f.name.toList) (by simpa using hi') h1).1 ?_
 rw [List.getElem?_map, List.getElem?_map, hi, hj]; simp [e]
theorem Dk.idx_eq {s : Dk} (hw : s.WF) {i : Nat} {f : Fl} (h : s.files[i]? = some f) : s.idx f.name = some i := by
 cases hx : s.idx f.name with
 | none => exact absurd rfl (Dk.idx_none hx f (List.mem_of_getElem? h))
 | some j =>
   obtain ⟨g, hg, he⟩ := Dk.idx_some hx
   rw [hw.inj hg h he]
theorem Dk.file_eq {s : Dk} {i : Nat} {f : Fl} (h : s.files[i]? = some f) : s.file i = f := by simp [Dk.file, h]
theorem Dk.used_modify {s : Dk} {i : Nat} {f : Fl} {g : Fl → Fl} (hf : s.files[i]? = some f) : (s.upd i g).used + f.pages.length = s.used + (g f).pages.length :=
 sum_modify (fun f : Fl => f.pages.length) g s.files i f hf
theorem Dk.pages_le {s : Dk} {i : Nat} {f : Fl} (hf : s.files[i]? = some f) : f.pages.length ≤ s.used := le_sum (fun f : Fl => f.pages.length) s.files i f hf
theorem Dk.log_le {s : Dk} {i : Nat} {f : Fl} (hf : s.files[i]? = some f) : f.log.length ≤ s.logs := le_sum (fun f : Fl => f.log.length) s.files i f hf
theorem Dk.WF.modify {s t : Dk} (h : s.WF) {i : Nat} {f : Fl} {g : Fl → Fl} (hf : s.files[i]? = some f) (hn : (g f).name = f.name) (ht : t.files = s.files.modify i g) (hu : t.used ≤ t.most) (hm : t.most ≤ t.quota) (hq : t.quota = s.quota) (hc : t.crash = s.crash) (hd : t.down = s.down) : t.WF := by
 refine ⟨?_, hu, hm, by rw [hq]; exact h.quota, by rw [ht]; simp; exact h.files, by rw [hd, hc]; exact h.down, by rw [hc]; exact h.cin⟩
 rw [ht]
 have : (s.files.modify i g).map (fun f => f.name.toList) = s.files.map (fun f => f.name.toList) := by
  rw [modify_set hf]
  apply List.ext_getElem?
  intro j
  rw [List.getElem?_map, List.getElem?_map]
  by_cases hij : i = j
  ·subst hij
   have hi := (List.getElem?_eq_some_iff.1 hf).1
   rw [hf]; simp [hi, hn]
  ·rw [List.getElem?_set, if_neg hij]
 rw [this]; exact h.nodup
end Go.Proofs.YtkehfflpbpdokaaGreat
