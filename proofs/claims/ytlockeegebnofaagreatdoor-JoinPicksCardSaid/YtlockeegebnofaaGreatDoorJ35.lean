/-
 Trees of rows in pages, in plain words.
-/
import Derived.Test.YtlockeegebnofaaGreatDoorRows
import Derived.Test.YtlockeegebnofaaGreatDoorFxh
import Derived.Test.YtlockeegebnofaaGreatDoorJ32
import Derived.Test.YtlockeegebnofaaGreatDoorFxw
namespace Go.Proofs.YtlockeegebnofaaGreatDoor
structure Nd where
 kids : List Nat
 rows : List (List Int)
structure Span where
 low : Option (List Int)
 high : Option (List Int)
def span0 : Span := ⟨none, none⟩
def rises (ls : List (List Int)) : Bool := (List.range (ls.length - 1)).all fun i => decide (cmpL (ls.getD i []) (ls.getD (i + 1) []) < 0)
def Span.ge (s : Span) (l : List Int) : Bool := match s.low with | none => true | some a => decide (cmpL l a ≥ 0)
def Span.lt (s : Span) (l : List Int) : Bool := match s.high with | none => true | some a => decide (cmpL l a < 0)
def Span.holds (s : Span) (ls : List (List Int)) : Bool := rises ls && (ls.isEmpty || (s.ge (ls.getD 0 []) && s.lt (ls.getD (ls.length - 1) [])))
def Span.of (s : Span) (n : Nd) (i : Nat) : Span :=
 ⟨if 0 < i then some (n.rows.getD (i - 1) []) else s.low, if i < n.rows.length then some (n.rows.getD i []) else s.high⟩
def be4 (n : Nat) : List UInt8 := [UInt8.ofNat (n / 16777216), UInt8.ofNat (n / 65536), UInt8.ofNat (n / 256), UInt8.ofNat n]
def of4 (b : List UInt8) : Nat := (((b.getD 0 0).toNat * 256 + (b.getD 1 0).toNat) * 256 + (b.getD 2 0).toNat) * 256 + (b.getD 3 0).toNat
def kidsOf (b : List UInt8) (k : Nat) : List Nat := (List.range k).map fun i => of4 (b.drop (2 + 4 * i))
def num2 (b : List UInt8) : Nat := (b.getD 0 0).toNat * 256 + (b.getD 1 0).toNat
def nodeFin (w : Int) (depth : Nat) (s : Span) (kids : List Nat) (b : List UInt8) : Option Nd :=
 if getOK (u8i b) w = false ∨ (kids ≠ [] ∧ (getL (u8i b) w).length + 1 ≠ kids.length) then none
 else if s.holds (getL (u8i b) w) = false ∨ (getL (u8i b) w = [] ∧ 1 < depth) then none
 else some ⟨kids, getL (u8i b) w⟩
def nodeOf (w : Int) (depth above : Nat) (s : Span) (kb : UInt8 × List UInt8) : Option Nd :=
 if kb.1 = 3 ∧ above = 0 then nodeFin w depth s [] kb.2
 else if kb.1 = 4 ∧ 0 < above ∧ 2 ≤ kb.2.length then
  if num2 kb.2 < 2 ∨ kb.2.length < 2 + 4 * num2 kb.2 then none else nodeFin w depth s (kidsOf kb.2 (num2 kb.2)) (kb.2.drop (2 + 4 * num2 kb.2))
 else none
structure St where
 N : Nat
 T : Nat → UInt8 × List UInt8
def St.node (x : St) (w : Int) (depth above page : Nat) (s : Span) : Option Nd := if page < x.N then nodeOf w depth above s (x.T page) else none
def sameAt (ls : List (List Int)) (l : List Int) : Bool := decide (below l ls < ls.length) && decide (ls.getD (below l ls) [] = l)
def Nd.child (n : Nd) (l : List Int) : Nat := if sameAt n.rows l then below l n.rows + 1 else below l n.rows
def goK (f : Nat → Nat × Option (Option (List Int))) : Nat → Nat → Nat × Option (Option (List Int))
 | _, 0 => (0, some none)
 | i, k + 1 => if (f i).2 = some none then ((f i).1 + (goK f (i + 1) k).1, (goK f (i + 1) k).2) else f i
def leafAt (ls : List (List Int)) (low : List Int) (strict : Bool) : Option (List Int) := ls[below low ls + (if sameAt ls low && strict then 1 else 0)]?
def St.find (x : St) (w : Int) (depth : Nat) (low : List Int) (strict : Bool) : Nat → Nat → Span → Nat × Option (Option (List Int))
 | 0, page, s => match x.node w depth 0 page s with
   | none => (1, none)
   | some n => (1, some (leafAt n.rows low strict))
 | a + 1, page, s => match x.node w depth (a + 1) page s with
   | none => (1, none)
   | some n =>
     (1 + (goK (fun i => x.find w depth low strict a (n.kids.getD i 0) (s.of n i)) (n.child low) (n.kids.length - n.child low)).1,
      (goK (fun i => x.find w depth low strict a (n.kids.getD i 0) (s.of n i)) (n.child low) (n.kids.length - n.child low)).2)
def Nd.bytes (n : Nd) : List UInt8 := (if n.kids = [] then [] else UInt8.ofNat (n.kids.length / 256) :: UInt8.ofNat n.kids.length :: n.kids.flatMap be4) ++ n.rows.flatMap fun l => bytesI (putL l)
def Nd.page (n : Nd) : UInt8 × List UInt8 := (if n.kids = [] then 3 else 4, n.bytes)
def St.put (x : St) (page : Nat) (n : Nd) : St := { x with T := setT x.T page n.page }
def St.more (x : St) (n : Nd) : St := ⟨x.N + 1, setT x.T x.N n.page⟩
def fanL (w : Int) : Int := Int.tdiv (502 + sizeL w) (4 + sizeL w)
def Nd.full (n : Nd) (w : Int) (above : Nat) : Bool := (decide (above = 0) && decide ((n.rows.length : Int) > roomL w)) || decide ((n.kids.length : Int) > fanL w)
inductive AddR where
 | store
 | quota
 | ok (fresh : Bool) (m : Option (Nat × List Int)) (x : St)
def Nd.left (n : Nd) : Nd := ⟨n.kids.take (n.rows.length / 2 + 1), n.rows.take (n.rows.length / 2)⟩
def Nd.right (n : Nd) : Nd := if n.kids = [] then ⟨[], n.rows.drop (n.rows.length / 2)⟩ else ⟨n.kids.drop (n.rows.length / 2 + 1), n.rows.drop (n.rows.length / 2 + 1)⟩
def Nd.up (n : Nd) : List Int := n.rows.getD (n.rows.length / 2) []
def St.fin (x : St) (w : Int) (q above page : Nat) (n : Nd) : AddR :=
 if n.full w above then (if x.N < q then .ok true (some (x.N, n.up)) ((x.more n.right).put page n.left) else .quota) else .ok true none (x.put page n)
def St.add (x : St) (w : Int) (q depth : Nat) (l : List Int) : Nat → Nat → Span → AddR
 | 0, page, s => match x.node w depth 0 page s with
   | none => .store
   | some n => if sameAt n.rows l then .ok false none x else x.fin w q 0 page ⟨n.kids, insAt (below l n.rows) l n.rows⟩
 | a + 1, page, s => match x.node w depth (a + 1) page s with
   | none => .store
   | some n => match x.add w q depth l a (n.kids.getD (n.child l) 0) (s.of n (n.child l)) with
     | .ok _ (some m) x' => x'.fin w q (a + 1) page ⟨insAt (n.child l + 1) m.1 n.kids, insAt (n.child l) m.2 n.rows⟩
     | r => r
theorem nodeFin_some {w : Int} {depth : Nat} {s : Span} {kids : List Nat} {b : List UInt8} {n : Nd} (h : nodeFin w depth s kids b = some n) :
  n.kids = kids ∧ n.rows = getL (u8i b) w ∧ getOK (u8i b) w = true ∧ (kids ≠ [] → n.rows.length + 1 = kids.length) ∧ s.holds n.rows = true ∧ (1 < depth → n.rows ≠ []) := by
 unfold nodeFin at h
 split at h
 ·cases h
 ·rename_i h1
  split at h
  ·cases h
  ·rename_i h2
   cases h
   refine ⟨rfl, rfl, ?_, fun hk => ?_, ?_, fun hd e => h2 (.inr ⟨e, hd⟩)⟩
   ·cases hq : getOK (u8i b) w with
    | true => rfl
    | false => exact absurd (.inl hq) h1
   ·apply Decidable.byContradiction
    exact fun q => h1 (.inr ⟨hk, q⟩)
   ·cases hq : s.holds (getL (u8i b) w) with
    | true => rfl
    | false => exact absurd (.inl hq) h2
structure Nd.Ok (n : Nd) (w : Int) (depth above : Nat) (s : Span) : Prop where
 leaf : above = 0 → n.kids = []
 inner : 0 < above → n.kids.length = n.rows.length + 1 ∧ 1 ≤ n.rows.length ∧ 2 + 4 * n.kids.length ≤ 504
 holds : s.holds n.rows = true
 some_ : 1 < depth → n.rows ≠ []
 cols : ∀ l ∈ n.rows, l.length = w.toNat
 size : n.rows.length ≤ 504
 kids : ∀ k ∈ n.kids, k < 4294967296
 fit : (2 + 4 * n.kids.length) * (if n.kids = [] then 0 else 1) + n.rows.length * (sizeL w).toNat ≤ 504
 width : sizeL w ≠ 0
theorem of4_lt (b : List UInt8) : of4 b < 4294967296 := by
 have h0 := (b.getD 0 0).toNat_lt; have h1 := (b.getD 1 0).toNat_lt; have h2 := (b.getD 2 0).toNat_lt; have h3 := (b.getD 3 0).toNat_lt
 unfold of4; omega
theorem getL_len {b : List Int} {w : Int} (h : getOK b w = true) : (getL b w).length * (sizeL w).toNat = b.length ∧ sizeL w ≠ 0 ∧ ∀ l ∈ getL b w, l.length = w.toNat := by
 have hok := h
 unfold getOK at h
 simp only [Bool.and_eq_true, decide_eq_true_eq] at h
 obtain ⟨⟨h1, h2⟩, _⟩ := h
 have hs := sizeL_cases w
 obtain ⟨m, hm⟩ : ∃ m : Nat, sizeL w = (m : Int) := ⟨(sizeL w).toNat, by omega⟩
 have hm0 : 0 < m := by omega
 have he : getL b w = rowsOf b w (b.length / (sizeL w).toNat) := by unfold getL; rw [if_pos hok]
 refine ⟨?_, h1, fun l hl => ?_⟩
 ·rw [he]
  unfold rowsOf
  rw [List.length_map, List.length_range]
  rw [hm] at h2 ⊢
  rw [Int.toNat_natCast]
  exact (tmod_zero hm0 h2).symm
 ·rw [he] at hl
  unfold rowsOf at hl
  obtain ⟨k, _, rfl⟩ := List.mem_map.1 hl
  exact rowOf_length _ _
theorem nodeOf_ok {w : Int} {depth above : Nat} {s : Span} {kb : UInt8 × List UInt8} {n : Nd} (hb : kb.2.length ≤ 504) (h : nodeOf w depth above s kb = some n) : n.Ok w depth above s := by
 unfold nodeOf at h
 split at h
 ·rename_i hc
  obtain ⟨e1, e2, e3, _, e5, e6⟩ := nodeFin_some h
  obtain ⟨g1, g2, g3⟩ := getL_len e3
  rw [← e2, u8i_length] at g1
  rw [← e2] at g3
  have hs := sizeL_cases w
  have h0 : 0 < (sizeL w).toNat := by omega
  have hm : n.rows.length * 1 ≤ n.rows.length * (sizeL w).toNat := Nat.mul_le_mul_left _ h0
  refine ⟨fun _ => e1, fun q => by omega, e5, e6, g3, by omega, by rw [e1]; simp, ?_, g2⟩
  rw [if_pos e1]; omega
 ·split at h
  ·rename_i hc
   split at h
   ·cases h
   ·rename_i hn
    obtain ⟨e1, e2, e3, e4, e5, e6⟩ := nodeFin_some h
    obtain ⟨g1, g2, g3⟩ := getL_len e3
    rw [← e2, u8i_length, List.length_drop] at g1
    rw [← e2] at g3
    have hs := sizeL_cases w
    have h0 : 0 < (sizeL w).toNat := by omega
    have hm : n.rows.length * 1 ≤ n.rows.length * (sizeL w).toNat := Nat.mul_le_mul_left _ h0
    have hkl : (kidsOf kb.2 (num2 kb.2)).length = num2 kb.2 := by simp [kidsOf]
    have hk0 : kidsOf kb.2 (num2 kb.2) ≠ [] := fun q => by rw [q] at hkl; simp at hkl; omega
    have e4 := e4 hk0
    rw [hkl] at e4
    have hkl2 : n.kids.length = num2 kb.2 := by rw [e1, hkl]
    have hn2 : ¬ num2 kb.2 < 2 := fun q => hn (.inl q)
    have hn3 : ¬ kb.2.length < 2 + 4 * num2 kb.2 := fun q => hn (.inr q)
    refine ⟨fun q => by omega, fun _ => ⟨by omega, by omega, by omega⟩, e5, e6, g3, by omega, ?_, ?_, g2⟩
    ·rw [e1]
     intro k hk
     obtain ⟨i, _, rfl⟩ := List.mem_map.1 hk
     exact of4_lt _
    ·rw [if_neg (by rw [e1]; exact hk0)]; omega
  ·cases h
theorem below_leT (l : List Int) (ls : List (List Int)) : below l ls ≤ ls.length := List.Sublist.length_le (List.takeWhile_sublist _)
theorem child_le {n : Nd} {l : List Int} : n.child l ≤ n.rows.length := by
 unfold Nd.child
 split
 ·rename_i h
  unfold sameAt at h
  simp only [Bool.and_eq_true, decide_eq_true_eq] at h
  omega
 ·exact below_leT _ _
def Pl.over (p : Pl) (n : ByteArray) (k : Int) (kd : UInt8) (b : List UInt8) : Pl × Int :=
 if (p.pin n k).2.2 ≠ 0 then ((p.pin n k).1, (p.pin n k).2.2) else Pl.leave ((p.pin n k).1.set (p.pin n k).2.1 kd b) (p.pin n k).2.1
structure Store (n : ByteArray) (q : Nat) (I : Pl → St → Nat → Prop) (B C : Pl → Int → Prop) : Prop where
 name : n.size ≤ 9223372036854775807
 small : q ≤ 1048576
 pre : ∀ {s x m}, I s x m → s.d.logs ≤ 2 * m ∧ 0 ≤ s.next ∧ s.next ≤ m ∧ s.Fit ∧ x.N ≤ 1048576 ∧ ∀ k, (x.T k).2.length ≤ 504
 look : ∀ {s x m k}, I s x m → m < 30000000000 → k < x.N → ((s.look n (k : Int)).2 = ((x.T k).1, (x.T k).2, 0) ∧ I (s.look n (k : Int)).1 x (m + 1)) ∨ C (s.look n (k : Int)).1 (s.look n (k : Int)).2.2.2
 far : ∀ {s x m k}, I s x m → m < 30000000000 → x.N ≤ k → ((s.look n (k : Int)).2.2.2 = 12 ∧ I (s.look n (k : Int)).1 x (m + 1)) ∨ C (s.look n (k : Int)).1 (s.look n (k : Int)).2.2.2
 more : ∀ {s x m kd b}, I s x m → m < 30000000000 → b.length ≤ 504 → kd ≠ 0 → x.N < q →
  ((s.more n kd b).2 = 0 ∧ (s.fresh n).2.2.1 = x.N ∧ I (s.more n kd b).1 ⟨x.N + 1, setT x.T x.N (kd, b)⟩ (m + 1)) ∨ C (s.more n kd b).1 (s.more n kd b).2
 full : ∀ {s x m kd b}, I s x m → m < 30000000000 → b.length ≤ 504 → kd ≠ 0 → ¬ x.N < q → B (s.more n kd b).1 (s.more n kd b).2 ∨ C (s.more n kd b).1 (s.more n kd b).2
 over : ∀ {s x m k kd b}, I s x m → m < 30000000000 → b.length ≤ 504 → k < x.N → ((s.over n (k : Int) kd b).2 = 0 ∧ I (s.over n (k : Int) kd b).1 { x with T := setT x.T k (kd, b) } (m + 1)) ∨ C (s.over n (k : Int) kd b).1 (s.over n (k : Int) kd b).2
 up : ∀ {s x m k}, I s x m → m ≤ k → I s x k
 errB : ∀ {s e}, B s e → e ≠ 0 ∧ e ≠ 12
 errC : ∀ {s e}, C s e → e ≠ 0 ∧ e ≠ 12
theorem Pl.leave_d' (r : Pl × Int) (h : Int) : (Pl.leave r h).1.d = r.1.d := by
 unfold Pl.leave; split
 ·exact Pl.unpin_d _ _
 ·rfl
section
variable {s : Pl} {n : ByteArray} {g : Int} {k : UInt8} {b : List UInt8}
theorem Pl.look_logs' : (s.look n g).1.d.logs ≤ s.d.logs + 1 := by
 have a := s.pin_logs n g
 unfold Pl.look
 split
 ·exact a
 ·split
  ·exact a
  ·rw [Pl.unpin_d]; exact a
theorem Pl.more_logs' : (s.more n k b).1.d.logs ≤ s.d.logs + 2 := by
 have a := s.fresh_logs n
 unfold Pl.more
 split
 ·exact a
 ·rw [Pl.leave_d']
  split
  ·exact a
  ·rw [Pl.set_d]; exact a
theorem Pl.over_logs' : (s.over n g k b).1.d.logs ≤ s.d.logs + 1 := by
 have a := s.pin_logs n g
 unfold Pl.over
 split
 ·exact a
 ·rw [Pl.leave_d', Pl.set_d]; exact a
end
theorem setT_room {T : Nat → UInt8 × List UInt8} (h : ∀ k, (T k).2.length ≤ 504) {j : Nat} {v : UInt8 × List UInt8} (hv : v.2.length ≤ 504) : ∀ k, (setT T j v k).2.length ≤ 504 := by
 intro k
 by_cases e : k = j
 ·subst e; rw [setT_same]; exact hv
 ·rw [setT_other e]; exact h k
abbrev Files := ByteArray → Option St
open Classical in
noncomputable def setF (M : Files) (n : ByteArray) (x : Option St) : Files := fun m => if m = n then x else M m
theorem setF_same (M : Files) (n : ByteArray) (x : Option St) : setF M n x n = x := by unfold setF; rw [if_pos rfl]
theorem setF_other {M : Files} {n m : ByteArray} {x : Option St} (h : m ≠ n) : setF M n x m = M m := by unfold setF; rw [if_neg h]
theorem setF_set (M : Files) (n : ByteArray) (x y : Option St) : setF (setF M n x) n y = setF M n y := by
 funext m
 by_cases h : m = n
 ·subst h; rw [setF_same, setF_same]
 ·rw [setF_other h, setF_other h, setF_other h]
theorem setF_id {M : Files} {n : ByteArray} {x : Option St} (h : M n = x) : setF M n x = M := by
 funext m
 by_cases e : m = n
 ·subst e; rw [setF_same, h]
 ·rw [setF_other e]
def Cl (l : List Fr) (n : ByteArray) (k : Nat) : Prop := ∀ g ∈ l, g.name = n → g.page = k → g.dirty = false
structure ToldM (p : Pl) (M : Files) (Q U : Nat) : Prop where
 wrong : p.wrong = 0
 up : p.d.down = false
 calm : p.d.crash = none
 quota : p.d.quota = Q
 used : p.d.used = U
 nodup : (p.d.files.map fun f => f.name.toList).Nodup
 file : ∀ (i : Nat) (f : Fl), p.d.files[i]? = some f → ∃ x, M f.name = some x ∧ f.pages.length = x.N ∧ ∀ (k : Nat) (b : Pg), f.pages[k]? = some b → Cl p.fs f.name k → openP b.1 = some (x.T k)
 there : ∀ n x, M n = some x → ∃ (i : Nat) (f : Fl), p.d.files[i]? = some f ∧ f.name = n
 mine : ∀ g ∈ p.fs, ∃ x, M g.name = some x ∧ g.page < x.N ∧ x.T g.page = (g.kind, g.b)
theorem idx_at {d : Dk} (hn : (d.files.map fun f => f.name.toList).Nodup) {i : Nat} {f : Fl} (hf : d.files[i]? = some f) : d.idx f.name = some i := by
 unfold Dk.idx
 refine findIdx_uniq hf (by simp) fun j y hj hy => ?_
 have e : y.name.toList = f.name.toList := by simpa using hy
 have hi := (List.getElem?_eq_some_iff.1 hf).1
 have hj' := (List.getElem?_eq_some_iff.1 hj).1
 refine ((List.getElem?_inj (l := d.files.map fun f => f.name.toList) (by simpa using hi) hn).1 ?_).symm
 rw [List.getElem?_map, List.getElem?_map, hf, hj]
 simp [e]
theorem write_at {d : Dk} (hu : d.down = false) (hc : d.crash = none) {n : ByteArray} {i : Nat} {f : Fl} (hx : d.idx n = some i) (hf : d.files[i]? = some f) {k : Nat} {b : List UInt8} (hb : b.length = 512) (hk : k ≤ f.pages.length) (hq : k = f.pages.length → d.used < d.quota) :
  ∃ d', d.write n k b = (d', 0) ∧ d'.down = false ∧ d'.crash = none ∧ d'.quota = d.quota ∧ d'.files = d.files.modify i (fun f => { f with log := f.log ++ [⟨d.next, k, ⟨b, hb⟩⟩] }) ∧ d'.used = d.used + (if k = f.pages.length then 1 else 0) := by
 have hch : d.change = ({ d with ops := w64 (d.ops + 1) }, 0) := by unfold Dk.change; rw [hc]
 have hfi : d.file i = f := Dk.file_eq hf
 have e : d.write n k b = d.step fun t => (t.addW i ⟨t.next, k, ⟨b, hb⟩⟩).setMost (max t.most (t.addW i ⟨t.next, k, ⟨b, hb⟩⟩).used) := by
  unfold Dk.write
  rw [if_neg (by rw [hu]; simp), dif_pos hb, hx]
  simp only [hfi]
  rw [if_neg (by omega), if_neg (by rintro ⟨q1, q2⟩; have := hq (by omega); omega), Int.toNat_natCast]
 have hstep : ∀ F : Dk → Dk, d.step F = (F { d with ops := w64 (d.ops + 1) }, 0) := fun F => by unfold Dk.step; rw [hch, if_pos rfl]
 rw [e, hstep]
 refine ⟨_, rfl, hu, hc, rfl, rfl, ?_⟩
 have hp : ({ f with log := f.log ++ [⟨d.next, k, ⟨b, hb⟩⟩] } : Fl).pages.length = max f.pages.length (k + 1) := by rw [Fl.addW_pages]; exact putP_length _ _
 have hs : ((d.files.modify i (fun f => { f with log := f.log ++ [⟨d.next, k, ⟨b, hb⟩⟩] })).map (fun f : Fl => f.pages.length)).sum + f.pages.length = (d.files.map (fun f : Fl => f.pages.length)).sum + max f.pages.length (k + 1) := by
  rw [← hp]; exact sum_modify (fun f : Fl => f.pages.length) _ d.files i f hf
 show ((d.files.modify i (fun f => { f with log := f.log ++ [⟨d.next, k, ⟨b, hb⟩⟩] })).map (fun f : Fl => f.pages.length)).sum = (d.files.map (fun f : Fl => f.pages.length)).sum + (if k = f.pages.length then 1 else 0)
 generalize ((d.files.modify i (fun f => { f with log := f.log ++ [⟨d.next, k, ⟨b, hb⟩⟩] })).map (fun f : Fl => f.pages.length)).sum = S at *
 generalize (d.files.map (fun f : Fl => f.pages.length)).sum = S0 at *
 split
 ·omega
 ·omega
section
variable {p p' : Pl} {M : Files} {Q U : Nat} {n : ByteArray} {x : St}
theorem ToldM.at (h : ToldM p M Q U) (hM : M n = some x) : ∃ (i : Nat) (f : Fl), p.d.idx n = some i ∧ p.d.files[i]? = some f ∧ f.name = n ∧ f.pages.length = x.N ∧ ∀ (k : Nat) (b : Pg), f.pages[k]? = some b → Cl p.fs n k → openP b.1 = some (x.T k) := by
 obtain ⟨i, f, h1, h2⟩ := h.there n x hM
 subst h2
 obtain ⟨y, y1, y2, y3⟩ := h.file i f h1
 rw [hM] at y1
 cases y1
 exact ⟨i, f, idx_at h.nodup h1, h1, rfl, y2, y3⟩
theorem ToldM.len (h : ToldM p M Q U) (hM : M n = some x) : p.d.len n = (x.N, 0) := by
 obtain ⟨i, f, h1, h2, h3, h4, _⟩ := h.at hM
 unfold Dk.len Dk.open
 rw [if_neg (by rw [h.up]; simp), h1]
 simp only [Dk.file_eq h2, h4]
theorem ToldM.size (h : ToldM p M Q U) (hM : M n = some x) : p.d.size n = x.N := by
 obtain ⟨i, f, h1, h2, h3, h4, _⟩ := h.at hM
 unfold Dk.size; rw [h1]; simp only [Dk.file_eq h2, h4]
theorem ToldM.fit (h : ToldM p M Q U) : p.Fit := by
 intro f hf
 obtain ⟨x, h1, h2, _⟩ := h.mine f hf
 rw [h.size h1]; exact h2
theorem ToldM.chg (h : ToldM p M Q U) (hd : p'.d = p.d) (hw : p'.wrong = p.wrong) (hm : ∀ g ∈ p'.fs, ∃ x, M g.name = some x ∧ g.page < x.N ∧ x.T g.page = (g.kind, g.b)) (hc : ∀ n k, Cl p'.fs n k → Cl p.fs n k) : ToldM p' M Q U :=
 ⟨by rw [hw]; exact h.wrong, by rw [hd]; exact h.up, by rw [hd]; exact h.calm, by rw [hd]; exact h.quota, by rw [hd]; exact h.used, by rw [hd]; exact h.nodup, fun i f hf => by
  rw [hd] at hf
  obtain ⟨x, a, b, c⟩ := h.file i f hf
  exact ⟨x, a, b, fun k b hk hcl => c k b hk (hc _ _ hcl)⟩, fun n x hx => by rw [hd]; exact h.there n x hx, hm⟩
theorem ToldM.put (h : ToldM p M Q U) (hw : p.WF) {i : Nat} {g : Fr} (hg : p.fs[i]? = some g) :
  (p.put i).2 = 0 ∧ (p.put i).1.fs = p.fs.modify i Fr.clean ∧ ToldM (p.put i).1 M Q U := by
 have hgm := List.mem_of_getElem? hg
 obtain ⟨x, h1, h2, h3⟩ := h.mine g hgm
 have hb := hw.room g hgm
 have hs : g.sealF.length = 512 := sealP_length hb
 obtain ⟨j, f, a1, a2, a3, a4, a5⟩ := h.at h1
 obtain ⟨d', w1, w2, w3, w4, w5, w6⟩ := write_at h.up h.calm a1 a2 (k := g.page) hs (by omega) (by omega)
 have e : p.put i = ((p.setD d').turn i Fr.clean, 0) := by
  unfold Pl.put; rw [Pl.frame_eq hg, w1, if_pos rfl]
 rw [e]
 have hcl : ∀ m k, (m ≠ g.name ∨ k ≠ g.page) → Cl (p.fs.modify i Fr.clean) m k → Cl p.fs m k := by
  intro m k hne hc g' hg' e1 e2
  obtain ⟨j', hj'⟩ := List.mem_iff_getElem?.1 hg'
  by_cases q : i = j'
  ·subst q
   rw [hg] at hj'; cases hj'
   rcases hne with u | u
   ·exact absurd e1.symm u
   ·exact absurd e2.symm u
  ·exact hc g' (List.mem_of_getElem? (by rw [modify_other q]; exact hj')) e1 e2
 refine ⟨rfl, rfl, h.wrong, w2, w3, w4.trans h.quota, ?_, ?_, fun j' f' hf' => ?_, fun m y hy => ?_, fun g' hg' => ?_⟩
 ·show d'.used = U
  rw [w6, if_neg (by omega), h.used, Nat.add_zero]
 ·show (d'.files.map _).Nodup
  rw [w5, map_modify_all (fun f : Fl => f.name.toList) (fun f => { f with log := f.log ++ [⟨p.d.next, g.page, ⟨g.sealF, hs⟩⟩] }) (fun _ => rfl)]
  exact h.nodup
 ·have hf' : d'.files[j']? = some f' := hf'
  rw [w5] at hf'
  by_cases q : j = j'
  ·subst q
   rw [modify_same a2] at hf'
   cases hf'
   refine ⟨x, by show M f.name = _; rw [a3]; exact h1, ?_, fun k b hk hc => ?_⟩
   ·rw [Fl.addW_pages]
    show (putAt f.pages g.page ⟨g.sealF, hs⟩).length = _
    rw [putAt_length]; omega
   ·rw [Fl.addW_pages] at hk
    have hk : (putAt f.pages g.page ⟨g.sealF, hs⟩)[k]? = some b := hk
    rw [putAt_get (by omega)] at hk
    split at hk
    ·rename_i ek; cases hk; subst ek
     rw [h3]; exact openP_sealP hb
    ·rename_i ek
     exact a5 k b hk (hcl g.name k (.inr ek) (by rw [← a3]; exact hc))
  ·rw [modify_other q] at hf'
   obtain ⟨y, b1, b2, b3⟩ := h.file j' f' hf'
   refine ⟨y, b1, b2, fun k b hk hc => b3 k b hk (hcl _ k (.inl fun e => q ?_) hc)⟩
   have := idx_at h.nodup hf'
   rw [e, a1] at this
   exact Option.some.inj this
 ·obtain ⟨j', f', b1, b2⟩ := h.there m y hy
  show ∃ (i : Nat) (f : Fl), d'.files[i]? = some f ∧ f.name = m
  rw [w5]
  by_cases q : j = j'
  ·subst q
   exact ⟨j, _, modify_same b1, b2⟩
  ·exact ⟨j', f', by rw [modify_other q]; exact b1, b2⟩
 ·have hg' : g' ∈ p.fs.modify i Fr.clean := hg'
  rcases mem_modify hg hg' with r | r
  ·exact h.mine g' r
  ·subst r; exact h.mine g hgm
theorem ToldM.erase (h : ToldM p M Q U) {i : Nat} {g : Fr} (hg : p.fs[i]? = some g) (hd : g.dirty = false) : ToldM (p.drop i) M Q U := by
 refine h.chg rfl rfl (fun g' hg' => h.mine g' (List.mem_of_mem_eraseIdx hg')) fun m k hc g' hg' e1 e2 => ?_
 obtain ⟨j, hj⟩ := List.mem_iff_getElem?.1 hg'
 by_cases e : j = i
 ·subst e; rw [hg] at hj; cases hj; exact hd
 ·exact hc g' (mem_erase.2 ⟨j, e, hj⟩) e1 e2
theorem ToldM.make (h : ToldM p M Q U) (hw : p.WF) (hl : ¬ p.fs.length < p.most) {g : Fr} (hg : g ∈ p.fs) (hgp : g.pins = []) :
  ∃ i f, p.fs[i]? = some f ∧ f.pins = [] ∧ p.room.2 = 0 ∧ p.room.1.fs = p.fs.eraseIdx i ∧ ToldM p.room.1 M Q U := by
 cases hb : p.best with
 | none => exact absurd hgp (Pl.best_none hb g hg)
 | some i =>
   obtain ⟨f, h1, h2, _⟩ := Pl.best_some hb
   have e : p.room = if (p.frame i).dirty then (if (p.put i).2 = 0 then ((p.put i).1.drop i, 0) else p.put i) else (p.drop i, 0) := by
    unfold Pl.room; rw [if_neg hl, hb]
   rw [e, Pl.frame_eq h1]
   cases hd : f.dirty with
   | true =>
     obtain ⟨w1, w2, w4⟩ := h.put hw h1
     rw [if_pos rfl, if_pos w1]
     refine ⟨i, f, h1, h2, rfl, ?_, w4.erase (g := f.clean) (by rw [w2]; exact modify_same h1) rfl⟩
     show (p.put i).1.fs.eraseIdx i = _
     rw [w2, modify_erase]
   | false =>
     rw [if_neg (by simp)]
     exact ⟨i, f, h1, h2, rfl, rfl, h.erase h1 hd⟩
theorem ToldM.roomy (h : ToldM p M Q U) (hw : p.WF) (hg : p.fs.length < p.most ∨ ∃ g ∈ p.fs, g.pins = []) :
  p.room.2 = 0 ∧ ToldM p.room.1 M Q U ∧ (∀ g ∈ p.room.1.fs, g ∈ p.fs) ∧ (∀ g ∈ p.fs, g.pins ≠ [] → g ∈ p.room.1.fs) := by
 by_cases hl : p.fs.length < p.most
 ·rw [Pl.room_free hl]; exact ⟨rfl, h, fun _ q => q, fun _ q _ => q⟩
 ·obtain ⟨g, hgm, hgp⟩ := hg.resolve_left hl
  obtain ⟨i, f, h1, h2, h3, h4, h5⟩ := h.make hw hl hgm hgp
  refine ⟨h3, h5, fun x hx => by rw [h4] at hx; exact List.mem_of_mem_eraseIdx hx, fun x hx hxp => ?_⟩
  rw [h4]
  obtain ⟨j, hj⟩ := List.mem_iff_getElem?.1 hx
  refine mem_erase.2 ⟨j, ?_, hj⟩
  rintro rfl
  rw [h1] at hj; cases hj; exact hxp h2
theorem ToldM.take (h : ToldM p M Q U) {f : Fr} (hM : M f.name = some x) (hp : f.page < x.N) (hT : x.T f.page = (f.kind, f.b)) : ToldM (p.take f) M Q U := by
 refine h.chg rfl rfl (fun g hg => ?_) fun m k hc g hg e1 e2 => hc g (by rw [Pl.take_fs]; exact List.mem_append_left _ hg) e1 e2
 rw [Pl.take_fs] at hg
 rcases List.mem_append.1 hg with r | r
 ·exact h.mine g r
 ·simp at r; subst r; exact ⟨x, hM, hp, hT⟩
end
theorem change_at {d : Dk} (hc : d.crash = none) : d.change = ({ d with ops := w64 (d.ops + 1) }, 0) := by unfold Dk.change; rw [hc]
section
variable {p p' : Pl} {M : Files} {Q U : Nat} {n : ByteArray} {x : St}
theorem ToldM.fresh (h : ToldM p M Q U) (hM : M n = some x) (hw : p.WF) (hg : p.fs.length < p.most ∨ ∃ g ∈ p.fs, g.pins = []) (hN : U < Q) :
  (p.fresh n).2 = (p.next, (x.N : Int), 0) ∧ (p.fresh n).1.fs = p.room.1.fs ++ [⟨n, x.N, 0, [], false, [p.next], 0⟩] ∧ (p.fresh n).1.next = w64 (p.next + 1) ∧ (p.fresh n).1.most = p.most ∧ (p.fresh n).1.tick = p.tick ∧
  ToldM (p.fresh n).1 (setF M n (some ⟨x.N + 1, setT x.T x.N (0, [])⟩)) Q (U + 1) ∧ (x.N < 1048577 → n.size ≤ 9223372036854775807 → p.next < 9223372036854775807 → (p.fresh n).1.WF) := by
 obtain ⟨h1, h2, h3, _⟩ := h.roomy hw hg
 have hs : (sealP 0 []).length = 512 := sealP_length (by simp)
 obtain ⟨j, f, a1, a2, a3, a4, a5⟩ := h2.at hM
 obtain ⟨d', w1, w2, w3, w4, w5, w6⟩ := write_at h2.up h2.calm a1 a2 (k := x.N) hs (by omega) (by rw [h2.used, h2.quota]; omega)
 have hrs := p.room_same
 have hlen := h.len hM
 have e : p.fresh n = ((p.room.1.setD d').take ⟨n, x.N, 0, [], false, [], 0⟩, p.room.1.next, (x.N : Int), 0) := by
  unfold Pl.fresh
  rw [if_neg (by rw [h.wrong]; simp), hlen]
  simp only
  rw [if_neg (by simp), if_neg (by rw [h1]; simp), if_neg (by rw [w1]; simp), w1]
 rw [e]
 have hnx : (p.room.1.setD d').next = p.next := hrs.2.1
 have nocl : ∀ g ∈ p.room.1.fs, g.name = n → g.page < x.N := fun g hg hgn => by
  obtain ⟨y, b1, b2, _⟩ := h2.mine g hg
  rw [hgn, hM] at b1; cases b1; exact b2
 have ht : ToldM (p.room.1.setD d') (setF M n (some ⟨x.N + 1, setT x.T x.N (0, [])⟩)) Q (U + 1) := by
  refine ⟨h2.wrong, w2, w3, w4.trans h2.quota, ?_, ?_, fun j' f' hf' => ?_, fun m y hy => ?_, fun g hgm => ?_⟩
  ·show d'.used = U + 1
   rw [w6, if_pos a4.symm, h2.used]
  ·show (d'.files.map _).Nodup
   rw [w5, map_modify_all (fun f : Fl => f.name.toList) (fun f => { f with log := f.log ++ [⟨p.room.1.d.next, x.N, ⟨sealP 0 [], hs⟩⟩] }) (fun _ => rfl)]
   exact h2.nodup
  ·have hf' : d'.files[j']? = some f' := hf'
   rw [w5] at hf'
   by_cases q : j = j'
   ·subst q
    rw [modify_same a2] at hf'
    cases hf'
    refine ⟨_, by show setF M n _ f.name = _; rw [a3, setF_same], ?_, fun k b hk hc => ?_⟩
    ·rw [Fl.addW_pages]
     show (putAt f.pages x.N ⟨sealP 0 [], hs⟩).length = x.N + 1
     rw [putAt_length]; omega
    ·rw [Fl.addW_pages] at hk
     have hk : (putAt f.pages x.N ⟨sealP 0 [], hs⟩)[k]? = some b := hk
     rw [putAt_get (by omega)] at hk
     show openP b.1 = some (setT x.T x.N (0, []) k)
     split at hk
     ·rename_i ek; cases hk; subst ek
      rw [setT_same]; exact openP_sealP (by simp)
     ·rename_i ek
      rw [setT_other ek]
      exact a5 k b hk (by rw [← a3]; exact hc)
   ·rw [modify_other q] at hf'
    obtain ⟨y, b1, b2, b3⟩ := h2.file j' f' hf'
    have hne : f'.name ≠ n := fun e => q (by
     have := idx_at h2.nodup hf'
     rw [e, a1] at this
     exact Option.some.inj this)
    exact ⟨y, by rw [setF_other hne]; exact b1, b2, b3⟩
  ·have key : ∀ m y, M m = some y → ∃ (i : Nat) (f : Fl), d'.files[i]? = some f ∧ f.name = m := fun m y hy => by
    obtain ⟨j', f', b1, b2⟩ := h2.there m y hy
    rw [w5]
    by_cases q : j = j'
    ·subst q
     exact ⟨j, _, modify_same b1, b2⟩
    ·exact ⟨j', f', by rw [modify_other q]; exact b1, b2⟩
   by_cases q : m = n
   ·subst q; exact key m x hM
   ·rw [setF_other q] at hy
    exact key m y hy
  ·have hgm : g ∈ p.room.1.fs := hgm
   obtain ⟨y, b1, b2, b3⟩ := h2.mine g hgm
   by_cases q : g.name = n
   ·rw [q, hM] at b1; cases b1
    exact ⟨_, by rw [q, setF_same], by show g.page < x.N + 1; omega, by show setT x.T x.N (0, []) g.page = _; rw [setT_other (by omega)]; exact b3⟩
   ·exact ⟨y, by rw [setF_other q]; exact b1, b2, b3⟩
 refine ⟨by rw [hrs.2.1], ?_, ?_, hrs.1, hrs.2.2.1, ht.take (f := ⟨n, x.N, 0, [], false, [], 0⟩) (setF_same _ _ _) (Nat.lt_succ_self _) (setT_same _ _ _), fun hb hsz hx => ?_⟩
 ·rw [Pl.take_fs, hnx]; rfl
 ·show w64 ((p.room.1.setD d').next + 1) = _
  rw [hnx]
 ·obtain ⟨v1, v2⟩ := hw.roomed
  have hno : p.room.1.find n (x.N : Int) = none := Pl.find_none_of fun g hg hgn => by have := nocl g hg hgn; omega
  exact (v1.setD _).take (by show p.room.1.fs.length < p.room.1.most; rw [hrs.1]; exact v2 h1) (by show p.room.1.next < _; rw [hrs.2.1]; exact hx) hno (by simp) hb hsz rfl rfl
theorem ToldM.turn (h : ToldM p M Q U) {i : Nat} {f : Fr} {u : Fr → Fr} (hf : p.fs[i]? = some f) (hd : p'.d = p.d) (hw : p'.wrong = p.wrong) (hfs : p'.fs = p.fs.modify i u)
  (hu : (u f).name = f.name ∧ (u f).page = f.page ∧ (u f).kind = f.kind ∧ (u f).b = f.b ∧ (u f).dirty = f.dirty) : ToldM p' M Q U := by
 obtain ⟨u1, u2, u3, u4, u5⟩ := hu
 refine h.chg hd hw (fun g hg => ?_) fun m k hc g hg e1 e2 => ?_
 ·rw [hfs] at hg
  rcases mem_modify hf hg with r | r
  ·exact h.mine g r
  ·subst r; rw [u1, u2, u3, u4]; exact h.mine f (List.mem_of_getElem? hf)
 ·obtain ⟨j, hj⟩ := List.mem_iff_getElem?.1 hg
  by_cases e : i = j
  ·subst e
   rw [hf] at hj; cases hj
   rw [← u5]
   exact hc (u f) (by rw [hfs]; exact List.mem_of_getElem? (modify_same hf)) (by rw [u1]; exact e1) (by rw [u2]; exact e2)
  ·exact hc g (by rw [hfs]; exact List.mem_of_getElem? (by rw [modify_other e]; exact hj)) e1 e2
theorem ToldM.pin_in (h : ToldM p M Q U) {k : Nat} {i : Nat} {f : Fr} (hi : p.find n k = some i) (hf : p.fs[i]? = some f) :
  p.pin n k = (p.pinAt i, p.next, 0) ∧ ToldM (p.pinAt i) M Q U := by
 refine ⟨?_, h.turn hf rfl rfl rfl ⟨rfl, rfl, rfl, rfl, rfl⟩⟩
 unfold Pl.pin
 rw [if_neg (by rw [h.wrong]; simp), hi]
theorem ToldM.pin_out (h : ToldM p M Q U) (hM : M n = some x) (hw : p.WF) {k : Nat} (hi : p.find n k = none) (hk : k < x.N) (hg : p.fs.length < p.most ∨ ∃ g ∈ p.fs, g.pins = []) :
  (p.pin n k).2 = (p.next, 0) ∧ (p.pin n k).1.fs = p.room.1.fs ++ [⟨n, k, (x.T k).1, (x.T k).2, false, [p.next], 0⟩] ∧ (p.pin n k).1.next = w64 (p.next + 1) ∧ (p.pin n k).1.most = p.most ∧ ToldM (p.pin n k).1 M Q U ∧
  (x.N ≤ 1048576 → n.size ≤ 9223372036854775807 → p.next < 9223372036854775807 → (p.pin n k).1.WF) := by
 obtain ⟨h1, h2, h3, _⟩ := h.roomy hw hg
 have hrs := p.room_same
 have hlen := h.len hM
 have hno : ∀ g ∈ p.room.1.fs, g.name = n → g.page ≠ k := fun g hgm hgn e => Pl.find_none hi g (h3 g hgm) hgn (by omega)
 obtain ⟨j, f, a1, a2, a3, a4, a5⟩ := h2.at hM
 obtain ⟨b, hb⟩ : ∃ b, f.pages[k]? = some b := ⟨_, List.getElem?_eq_getElem (by omega)⟩
 have ho := a5 k b hb fun g hgm hgn e => absurd e (hno g hgm hgn)
 have hrd : p.room.1.d.read n k = (b.1, 0) := by
  unfold Dk.read Dk.open
  rw [if_neg (by rw [h2.up]; simp), a1]
  simp only [Dk.file_eq a2]
  rw [if_neg (by omega), Int.toNat_natCast, hb]
 have el : p.load n k = (p.room.1, some ⟨n, k, (x.T k).1, (x.T k).2, false, [], 0⟩, 0) := by
  unfold Pl.load
  rw [hlen]
  simp only
  rw [if_neg (by simp), if_neg (by omega), if_neg (by rw [h1]; simp), hrd]
  simp only
  rw [if_neg (by simp), ho]
  simp
 have e : p.pin n k = (p.room.1.take ⟨n, k, (x.T k).1, (x.T k).2, false, [], 0⟩, p.room.1.next, 0) := by
  unfold Pl.pin
  rw [if_neg (by rw [h.wrong]; simp), hi, el]
 rw [e]
 refine ⟨by rw [hrs.2.1], ?_, ?_, hrs.1, h2.take (f := ⟨n, k, (x.T k).1, (x.T k).2, false, [], 0⟩) hM hk rfl, fun hN hsz hx => ?_⟩
 ·rw [Pl.take_fs, hrs.2.1]; rfl
 ·show w64 (p.room.1.next + 1) = _
  rw [hrs.2.1]
 ·obtain ⟨v1, v2⟩ := hw.roomed
  have hfind : p.room.1.find n (k : Int) = none := Pl.find_none_of fun g hg hgn => by have := hno g hg hgn; omega
  exact v1.take (by rw [hrs.1]; exact v2 h1) (by rw [hrs.2.1]; omega) hfind (openP_room ho) (by simp only; omega) hsz rfl rfl
theorem ToldM.get (h : ToldM p M Q U) (hw : p.WF) {f : Fr} {c : Int} (hf : f ∈ p.fs) (hM : M f.name = some x) (hx : c ∈ f.pins) : p.get c = ((x.T f.page).1, (x.T f.page).2, 0) := by
 obtain ⟨i, hi⟩ := List.mem_iff_getElem?.1 hf
 obtain ⟨y, b1, b2, b3⟩ := h.mine f hf
 rw [hM] at b1; cases b1
 unfold Pl.get
 rw [if_neg (by rw [h.wrong]; simp), Pl.held_eq hw hi hx]
 simp only [Pl.frame_eq hi, b3]
theorem ToldM.set (h : ToldM p M Q U) (hw : p.WF) {i : Nat} {f : Fr} {c : Int} (hf : p.fs[i]? = some f) (hM : M f.name = some x) (hx : c ∈ f.pins) {k : UInt8} {b : List UInt8} (hb : b.length ≤ 504) :
  p.set c k b = (p.turn i (Fr.set k b), 0) ∧ ToldM (p.turn i (Fr.set k b)) (setF M f.name (some { x with T := setT x.T f.page (k, b) })) Q U := by
 constructor
 ·unfold Pl.set
  rw [if_neg (by rw [h.wrong]; simp), Pl.held_eq hw hf hx]
  simp only
  rw [if_neg (by omega)]
 ·have hcl : ∀ m j, (m ≠ f.name ∨ j ≠ f.page) → Cl (p.fs.modify i (Fr.set k b)) m j → Cl p.fs m j := by
   intro m j hne hc g hg e1 e2
   obtain ⟨a, ha⟩ := List.mem_iff_getElem?.1 hg
   by_cases q : i = a
   ·subst q
    rw [hf] at ha; cases ha
    rcases hne with u | u
    ·exact absurd e1.symm u
    ·exact absurd e2.symm u
   ·exact hc g (List.mem_of_getElem? (by rw [modify_other q]; exact ha)) e1 e2
  refine ⟨h.wrong, h.up, h.calm, h.quota, h.used, h.nodup, fun j g hg => ?_, fun m y hy => ?_, fun g hg => ?_⟩
  ·obtain ⟨y, b1, b2, b3⟩ := h.file j g hg
   by_cases q : g.name = f.name
   ·rw [q, hM] at b1; cases b1
    refine ⟨{ x with T := setT x.T f.page (k, b) }, by rw [q, setF_same], b2, fun a c hc hcc => ?_⟩
    show openP c.1 = some (setT x.T f.page (k, b) a)
    by_cases e : a = f.page
    ·subst e
     have := hcc (Fr.set k b f) (List.mem_of_getElem? (modify_same hf)) q.symm rfl
     cases this
    ·rw [setT_other e]
     exact b3 a c hc (hcl _ _ (.inr e) hcc)
   ·exact ⟨y, by rw [setF_other q]; exact b1, b2, fun a c hc hcc => b3 a c hc (hcl _ _ (.inl q) hcc)⟩
  ·by_cases q : m = f.name
   ·subst q; exact h.there _ x hM
   ·rw [setF_other q] at hy; exact h.there m y hy
  ·have hg : g ∈ p.fs.modify i (Fr.set k b) := hg
   rw [modify_set hf] at hg
   rcases mem_set' hg with ⟨j, hji, hj⟩ | r
   ·obtain ⟨y, b1, b2, b3⟩ := h.mine g (List.mem_of_getElem? hj)
    by_cases q : g.name = f.name
    ·rw [q, hM] at b1; cases b1
     have hne : g.page ≠ f.page := fun e => hji (key_inj hw.keys hj hf q e)
     exact ⟨{ x with T := setT x.T f.page (k, b) }, by rw [q, setF_same], b2, by show setT x.T f.page (k, b) g.page = _; rw [setT_other hne]; exact b3⟩
    ·exact ⟨y, by rw [setF_other q]; exact b1, b2, b3⟩
   ·subst r
    obtain ⟨y, b1, b2, _⟩ := h.mine f (List.mem_of_getElem? hf)
    rw [hM] at b1; cases b1
    exact ⟨_, setF_same _ _ _, b2, setT_same _ _ _⟩
theorem ToldM.unpin (h : ToldM p M Q U) (hw : p.WF) {i : Nat} {f : Fr} {c : Int} (hf : p.fs[i]? = some f) (hx : c ∈ f.pins) :
  p.unpin c = ({ p with fs := p.fs.modify i (Fr.unpin c (w64 (p.tick + 1))), tick := w64 (p.tick + 1) }, 0) ∧ ToldM (p.unpin c).1 M Q U := by
 have e : p.unpin c = ({ p with fs := p.fs.modify i (Fr.unpin c (w64 (p.tick + 1))), tick := w64 (p.tick + 1) }, 0) := by
  unfold Pl.unpin
  rw [if_neg (by rw [h.wrong]; simp), Pl.held_eq hw hf hx]
 refine ⟨e, ?_⟩
 rw [e]
 exact h.turn hf rfl rfl rfl ⟨rfl, rfl, rfl, rfl, rfl⟩
theorem ToldM.create (h : ToldM p M Q U) (hM : M n = none) (hn : named n = true) (hl : p.d.files.length < 4096) (T0 : Nat → UInt8 × List UInt8) :
  (p.d.create n).2 = 0 ∧ ToldM (p.setD (p.d.create n).1) (setF M n (some ⟨0, T0⟩)) Q U ∧ (p.d.create n).1.files.length = p.d.files.length + 1 ∧ (p.d.create n).1.logs = p.d.logs := by
 have hx : p.d.idx n = none := by
  unfold Dk.idx
  rw [List.findIdx?_eq_none_iff]
  intro f hf
  obtain ⟨i, hi⟩ := List.mem_iff_getElem?.1 hf
  obtain ⟨x, a, _⟩ := h.file i f hi
  have : ¬ f.name.toList = n.toList := fun q => by
   have e : f.name = n := ba_eq q
   rw [e, hM] at a; cases a
  simpa using this
 have hch := change_at h.calm
 have e : p.d.create n = ({ p.d with files := p.d.files ++ [⟨n, [], []⟩], ops := w64 (p.d.ops + 1) }, 0) := by
  unfold Dk.create
  rw [if_neg (by rw [h.up]; simp), if_neg (by rw [hn]; simp), if_neg (by rw [hx]; simp), if_neg (by omega)]
  unfold Dk.step
  rw [hch, if_pos rfl]
 rw [e]
 have hne : ∀ f ∈ p.d.files, f.name ≠ n := fun f hf q => by
  obtain ⟨i, hi⟩ := List.mem_iff_getElem?.1 hf
  obtain ⟨x, a, _⟩ := h.file i f hi
  rw [q, hM] at a; cases a
 have hnx : ∀ m x, M m = some x → m ≠ n := fun m x hx2 q => by subst q; rw [hM] at hx2; cases hx2
 refine ⟨rfl, ⟨h.wrong, h.up, h.calm, h.quota, ?_, ?_, fun i f hf => ?_, fun m y hy => ?_, fun g hg => ?_⟩, by simp, by simp [Dk.logs]⟩
 ·have := h.used
  show ((p.d.files ++ [(⟨n, [], []⟩ : Fl)]).map fun f : Fl => f.pages.length).sum = U
  unfold Dk.used at this
  rw [List.map_append, List.sum_append, this]
  simp [Fl.pages]
 ·show ((p.d.files ++ [(⟨n, [], []⟩ : Fl)]).map fun f : Fl => f.name.toList).Nodup
  rw [List.map_append, List.nodup_append]
  refine ⟨h.nodup, by simp, fun a ha b hb => ?_⟩
  obtain ⟨f, hf, rfl⟩ := List.mem_map.1 ha
  have hb : b = n.toList := by simpa using hb
  rw [hb]
  exact fun q => hne f hf (ba_eq q)
 ·have hf : (p.d.files ++ [(⟨n, [], []⟩ : Fl)])[i]? = some f := hf
  rw [List.getElem?_append] at hf
  split at hf
  ·obtain ⟨x, a, b, c⟩ := h.file i f hf
   exact ⟨x, by rw [setF_other (hne f (List.mem_of_getElem? hf))]; exact a, b, c⟩
  ·have : i - p.d.files.length = 0 := by
    have := (List.getElem?_eq_some_iff.1 hf).1
    simp at this; omega
   rw [this] at hf
   have hf : f = ⟨n, [], []⟩ := by simpa using hf.symm
   subst hf
   exact ⟨_, setF_same _ _ _, rfl, fun k b hk => by simp [Fl.pages] at hk⟩
 ·show ∃ (i : Nat) (f : Fl), (p.d.files ++ [(⟨n, [], []⟩ : Fl)])[i]? = some f ∧ f.name = m
  by_cases q : m = n
  ·subst q
   exact ⟨p.d.files.length, ⟨m, [], []⟩, by simp, rfl⟩
  ·rw [setF_other q] at hy
   obtain ⟨i, f, a, b⟩ := h.there m y hy
   exact ⟨i, f, by rw [List.getElem?_append_left (List.getElem?_eq_some_iff.1 a).1]; exact a, b⟩
 ·obtain ⟨y, a, b⟩ := h.mine g hg
  exact ⟨y, by rw [setF_other (hnx _ _ a)]; exact a, b⟩
end
structure CalmM (p : Pl) (M : Files) (Q U : Nat) : Prop where
 told : ToldM p M Q U
 wf : p.WF
 free : ∀ f ∈ p.fs, f.pins = []
section
variable {p : Pl} {M : Files} {Q U : Nat} {n : ByteArray} {x : St}
theorem CalmM.roomy (h : CalmM p M Q U) : p.fs.length < p.most ∨ ∃ g ∈ p.fs, g.pins = [] := by
 by_cases hl : p.fs.length < p.most
 ·exact .inl hl
 ·right
  have := h.wf.most
  match hf : p.fs with
  | [] => rw [hf] at hl; simp at hl; omega
  | f :: _ => exact ⟨f, List.mem_cons_self, h.free f (by rw [hf]; exact List.mem_cons_self)⟩
theorem CalmM.give (hw : p.WF) (t : ToldM p M Q U) {i : Nat} {f : Fr} {c : Int} (hf : p.fs[i]? = some f) (hx : f.pins = [c]) (hl : ∀ j g, j ≠ i → p.fs[j]? = some g → g.pins = []) (hn : p.next < 9223372036854775807) :
  (p.unpin c).2 = 0 ∧ CalmM (p.unpin c).1 M Q U ∧ (p.unpin c).1.next = p.next ∧ (p.unpin c).1.most = p.most := by
 obtain ⟨u1, u2⟩ := t.unpin hw hf (c := c) (by rw [hx]; simp)
 refine ⟨by rw [u1], ⟨u2, hw.unpin c hn, ?_⟩, by rw [u1], by rw [u1]⟩
 rw [u1]
 intro g hg
 obtain ⟨j, hj⟩ := List.mem_iff_getElem?.1 hg
 have hj : (p.fs.modify i (Fr.unpin c (w64 (p.tick + 1))))[j]? = some g := hj
 by_cases e : i = j
 ·subst e
  rw [modify_same hf] at hj
  cases hj; simp [Fr.unpin, hx]
 ·rw [modify_other e] at hj
  exact hl j g (fun q => e q.symm) hj
theorem last_free {l : List Fr} {f : Fr} {fs : List Fr} (hf : fs = l ++ [f]) (hl : ∀ g ∈ l, g.pins = []) : fs[l.length]? = some f ∧ ∀ j g, j ≠ l.length → fs[j]? = some g → g.pins = [] := by
 subst hf
 refine ⟨by simp, fun j g hj hg => ?_⟩
 rcases Nat.lt_or_ge j l.length with hlt | hge
 ·rw [List.getElem?_append_left hlt] at hg
  exact hl g (List.mem_of_getElem? hg)
 ·rw [List.getElem?_append_right hge] at hg
  obtain ⟨m, hm⟩ : ∃ m, j - l.length = m + 1 := ⟨j - l.length - 1, by omega⟩
  rw [hm] at hg; simp at hg
theorem CalmM.more (h : CalmM p M Q U) (hM : M n = some x) (hN : U < Q) (hb0 : x.N < 1048577) (hs : n.size ≤ 9223372036854775807) (h0 : 0 ≤ p.next) (h1 : p.next < 1099511627776) {k : UInt8} {b : List UInt8} (hb : b.length ≤ 504) (hk : k ≠ 0) :
  (p.more n k b).2 = 0 ∧ (p.fresh n).2.2.1 = x.N ∧ CalmM (p.more n k b).1 (setF M n (some ⟨x.N + 1, setT x.T x.N (k, b)⟩)) Q (U + 1) ∧ (p.more n k b).1.next = p.next + 1 ∧ (p.more n k b).1.most = p.most := by
 obtain ⟨r1, r2, r3, r4, _, r6, r7⟩ := h.told.fresh hM h.wf h.roomy hN
 obtain ⟨_, _, hsub, _⟩ := h.told.roomy h.wf h.roomy
 have hfree : ∀ g ∈ p.room.1.fs, g.pins = [] := fun g hg => h.free g (hsub g hg)
 have hnx : (p.fresh n).1.next = p.next + 1 := by rw [r3]; exact w64_up h0 h1
 have hwf : (p.fresh n).1.WF := r7 hb0 hs (by omega)
 generalize p.room.1.fs = l at r2 hfree
 unfold Pl.more
 rw [r1]
 generalize (p.fresh n).1 = s at *
 simp only
 rw [if_neg (by simp), if_neg hk]
 obtain ⟨hi, hl⟩ := last_free r2 hfree
 obtain ⟨s1, s2⟩ := r6.set hwf hi (c := p.next) (k := k) (b := b) (setF_same _ _ _) (by simp) hb
 have hw2 := hwf.set p.next k b
 rw [s1] at hw2 ⊢
 have e2 : (s.turn l.length (Fr.set k b)).fs = l ++ [⟨n, x.N, k, b, true, [p.next], 0⟩] := by
  show s.fs.modify _ _ = _
  rw [r2, modify_last]; rfl
 have et : setT (setT x.T x.N (0, [])) x.N (k, b) = setT x.T x.N (k, b) := by
  funext j
  by_cases e : j = x.N
  ·subst e; rw [setT_same, setT_same]
  ·rw [setT_other e, setT_other e, setT_other e]
 rw [setF_set] at s2
 have s2' : ToldM (s.turn l.length (Fr.set k b)) (setF M n (some ⟨x.N + 1, setT (setT x.T x.N (0, [])) x.N (k, b)⟩)) Q (U + 1) := s2
 rw [et] at s2'
 obtain ⟨i2, l2⟩ := last_free e2 hfree
 obtain ⟨b1, b2, b3, b4⟩ := CalmM.give (c := p.next) hw2 s2' i2 rfl l2 (by show s.next < _; omega)
 exact ⟨b1, by first | trivial | rfl, b2, b3.trans hnx, b4.trans r4⟩
theorem CalmM.pin (h : CalmM p M Q U) (hM : M n = some x) (hb0 : x.N ≤ 1048576) (hs : n.size ≤ 9223372036854775807) (h0 : 0 ≤ p.next) (h1 : p.next < 1099511627776) {k : Nat} (hk : k < x.N) :
  (p.pin n k).2 = (p.next, 0) ∧ (p.pin n k).1.WF ∧ ToldM (p.pin n k).1 M Q U ∧ (p.pin n k).1.next = p.next + 1 ∧ (p.pin n k).1.most = p.most ∧
  ∃ (i : Nat) (f : Fr), (p.pin n k).1.fs[i]? = some f ∧ f.pins = [p.next] ∧ f.name = n ∧ f.page = k ∧ ∀ j g, j ≠ i → (p.pin n k).1.fs[j]? = some g → g.pins = [] := by
 have t := h.told
 have hnx : w64 (p.next + 1) = p.next + 1 := w64_up h0 h1
 cases hi : p.find n (k : Int) with
 | some i =>
   obtain ⟨f, hf, hfn, hfk⟩ := Pl.find_some hi
   obtain ⟨r1, r2⟩ := t.pin_in hi hf
   rw [r1]
   refine ⟨rfl, h.wf.pinAt hf (by omega), r2, hnx, rfl, i, Fr.pin p.next f, modify_same hf, ?_, hfn, by show f.page = k; omega, fun j g hj hg => ?_⟩
   ·show f.pins ++ [p.next] = _
    rw [h.free f (List.mem_of_getElem? hf)]; rfl
   ·have hg : (p.fs.modify i (Fr.pin p.next))[j]? = some g := hg
    rw [modify_other (fun e => hj e.symm)] at hg
    exact h.free g (List.mem_of_getElem? hg)
 | none =>
   obtain ⟨r1, r2, r3, r4, r5, r6⟩ := t.pin_out hM h.wf hi hk h.roomy
   obtain ⟨_, _, hsub, _⟩ := t.roomy h.wf h.roomy
   obtain ⟨i2, l2⟩ := last_free r2 fun g hg => h.free g (hsub g hg)
   exact ⟨r1, r6 hb0 hs (by omega), r5, r3.trans hnx, r4, _, _, i2, rfl, rfl, rfl, l2⟩
theorem CalmM.look (h : CalmM p M Q U) (hM : M n = some x) (hb0 : x.N ≤ 1048576) (hs : n.size ≤ 9223372036854775807) (h0 : 0 ≤ p.next) (h1 : p.next < 1099511627776) {k : Nat} (hk : k < x.N) :
  (p.look n k).2 = ((x.T k).1, (x.T k).2, 0) ∧ CalmM (p.look n k).1 M Q U ∧ (p.look n k).1.next = p.next + 1 ∧ (p.look n k).1.most = p.most := by
 obtain ⟨r1, r2, t, r4, r5, i, f, r6, r7, rn, r8, r9⟩ := h.pin hM hb0 hs h0 h1 hk
 unfold Pl.look
 rw [r1]
 generalize (p.pin n k).1 = s at *
 have g1 := t.get r2 (c := p.next) (List.mem_of_getElem? r6) (by rw [rn]; exact hM) (by rw [r7]; simp)
 obtain ⟨b1, b2, b3, b4⟩ := CalmM.give r2 t r6 r7 r9 (by omega)
 simp only
 rw [if_neg (by simp), g1]
 simp only
 rw [if_neg (by simp), b1, r8]
 exact ⟨rfl, b2, b3.trans r4, b4.trans r5⟩
theorem CalmM.over (h : CalmM p M Q U) (hM : M n = some x) (hb0 : x.N ≤ 1048576) (hs : n.size ≤ 9223372036854775807) (h0 : 0 ≤ p.next) (h1 : p.next < 1099511627776) {k : Nat} (hk : k < x.N) {kd : UInt8} {b : List UInt8} (hb : b.length ≤ 504) :
  (p.over n (k : Int) kd b).2 = 0 ∧ CalmM (p.over n (k : Int) kd b).1 (setF M n (some { x with T := setT x.T k (kd, b) })) Q U ∧ (p.over n (k : Int) kd b).1.next = p.next + 1 ∧ (p.over n (k : Int) kd b).1.most = p.most := by
 obtain ⟨r1, r2, t, r4, r5, i, f, r6, r7, rn, r8, r9⟩ := h.pin hM hb0 hs h0 h1 hk
 unfold Pl.over
 rw [r1]
 simp only
 rw [if_neg (by simp)]
 generalize (p.pin n k).1 = s at *
 obtain ⟨s1, s2⟩ := t.set r2 r6 (c := p.next) (k := kd) (b := b) (by rw [rn]; exact hM) (by rw [r7]; simp) hb
 have hw2 := r2.set p.next kd b
 rw [s1] at hw2 ⊢
 rw [r8, rn] at s2
 have e1 : Pl.leave (s.turn i (Fr.set kd b), 0) p.next = (s.turn i (Fr.set kd b)).unpin p.next := if_pos rfl
 rw [e1]
 have e6 : (s.turn i (Fr.set kd b)).fs[i]? = some (Fr.set kd b f) := modify_same r6
 obtain ⟨b1, b2, b3, b4⟩ := CalmM.give (c := p.next) hw2 s2 e6 (by simpa [Fr.set] using r7) (fun j g hj hg => r9 j g hj (by
  have hg : (s.fs.modify i (Fr.set kd b))[j]? = some g := hg
  rw [modify_other (fun e => hj e.symm)] at hg; exact hg)) (by show s.next < _; omega)
 exact ⟨b1, b2, b3.trans r4, b4.trans r5⟩
theorem CalmM.far (h : CalmM p M Q U) (hM : M n = some x) {k : Nat} (hk : x.N ≤ k) : p.look n (k : Int) = (p, 0, [], 12) := by
 have t := h.told
 have hf : p.find n (k : Int) = none := Pl.find_none_of fun g hg hgn => by
  obtain ⟨y, b1, b2, _⟩ := t.mine g hg
  rw [hgn, hM] at b1; cases b1
  omega
 have hl : p.load n (k : Int) = (p, none, 12) := by
  unfold Pl.load
  rw [t.len hM]
  simp only
  rw [if_neg (by simp), if_pos (by omega)]
 have e : p.pin n (k : Int) = (p, 0, 12) := by
  unfold Pl.pin
  rw [if_neg (by rw [t.wrong]; simp), hf]
  simp only [hl]
  rfl
 unfold Pl.look
 rw [e]
 simp only
 rw [if_pos (by decide)]
theorem CalmM.full (h : CalmM p M Q U) (hM : M n = some x) (hN : U = Q) {k : UInt8} {b : List UInt8} : (p.more n k b).2 = 5 := by
 obtain ⟨h1, h2, h3, _⟩ := h.told.roomy h.wf h.roomy
 have hs5 : (sealP 0 []).length = 512 := sealP_length (by simp)
 obtain ⟨j, f, a1, a2, a3, a4, a5⟩ := h2.at hM
 have hwr : p.room.1.d.write n (x.N : Int) (sealP 0 []) = (p.room.1.d, 5) := by
  unfold Dk.write
  rw [if_neg (by rw [h2.up]; simp), dif_pos hs5, a1]
  simp only [Dk.file_eq a2]
  rw [if_neg (by omega), if_pos (by rw [h2.used, h2.quota]; omega)]
 have e : p.fresh n = ((p.room.1.setD p.room.1.d).met 5, 0, 0, 5) := by
  unfold Pl.fresh
  rw [if_neg (by rw [h.told.wrong]; simp), h.told.len hM]
  simp only
  rw [if_neg (by simp), if_neg (by rw [h1]; simp), if_pos (by rw [hwr]; simp), hwr]
 unfold Pl.more
 rw [e]
 simp only
 rw [if_pos (by decide)]
end
structure ManyI (n : ByteArray) (Mo : Files) (Q R most : Nat) (s : Pl) (x : St) (m : Nat) : Prop where
 calm : CalmM s (setF Mo n (some x)) Q (x.N + R)
 lo : 0 ≤ s.next
 hi : s.next ≤ m
 logs : s.d.logs ≤ 2 * m
 le : x.N + R ≤ Q
 room : ∀ k, (x.T k).2.length ≤ 504
 most : s.most = most
theorem many_store {n : ByteArray} {Mo : Files} {Q R most : Nat} (hn : n.size ≤ 9223372036854775807) (hq : Q ≤ 1048576) : Store n (Q - R) (ManyI n Mo Q R most) (fun _ e => e = 5) (fun _ _ => False) where
 name := hn
 small := by omega
 pre {s x m} h := ⟨h.logs, h.lo, h.hi, h.calm.told.fit, by have := h.le; omega, h.room⟩
 look {s x m k} h hm hk := by
  have lo := h.lo; have hi := h.hi; have le := h.le
  obtain ⟨a1, a2, a3, a4⟩ := h.calm.look (setF_same _ _ _) (by omega) hn lo (by omega) hk
  exact .inl ⟨a1, a2, by omega, by omega, by have := Pl.look_logs' (s := s) (n := n) (g := (k : Int)); have := h.logs; omega, le, h.room, a4.trans h.most⟩
 far {s x m k} h hm hk := by
  have e := h.calm.far (setF_same _ _ _) hk
  rw [e]
  exact .inl ⟨rfl, h.calm, h.lo, by have := h.hi; show s.next ≤ _; omega, by have := h.logs; show s.d.logs ≤ _; omega, h.le, h.room, h.most⟩
 more {s x m kd b} h hm hb hk hN := by
  have lo := h.lo; have hi := h.hi; have le := h.le
  obtain ⟨a1, a2, a3, a4, a5⟩ := h.calm.more (setF_same _ _ _) (by omega) (by omega) hn lo (by omega) (k := kd) (b := b) hb hk
  rw [setF_set] at a3
  exact .inl ⟨a1, a2, ⟨by show CalmM _ _ _ (x.N + 1 + R); rw [show x.N + 1 + R = x.N + R + 1 by omega]; exact a3, by omega, by omega, by have := Pl.more_logs' (s := s) (n := n) (k := kd) (b := b); have := h.logs; omega, by show x.N + 1 + R ≤ Q; omega, setT_room h.room hb, a5.trans h.most⟩⟩
 full {s x m kd b} h hm hb hk hN := .inl (h.calm.full (setF_same _ _ _) (by have := h.le; omega))
 over {s x m k kd b} h hm hb hk := by
  have lo := h.lo; have hi := h.hi; have le := h.le
  obtain ⟨a1, a2, a3, a4⟩ := h.calm.over (setF_same _ _ _) (by omega) hn lo (by omega) hk (kd := kd) (b := b) hb
  rw [setF_set] at a2
  have hl := Pl.over_logs' (s := s) (n := n) (g := (k : Int)) (k := kd) (b := b)
  have hg := h.logs
  exact .inl ⟨a1, a2, by omega, by omega, by omega, le, setT_room h.room hb, a4.trans h.most⟩
 up {s x m k} h hk := ⟨h.calm, h.lo, by have := h.hi; omega, by have := h.logs; omega, h.le, h.room, h.most⟩
 errB h := by rw [h]; decide
 errC h := h.elim
open Go.ChangeShapes Go.WideShapes Go.ChangeAt Go.RowKit
end Go.Proofs.YtlockeegebnofaaGreatDoor
namespace Go.Proofs.YtlockeegebnofaaGreatDoor
theorem byteL_lit (n : Int) (k : Nat) (d : Int) (hd : (2 : Int) ^ (min (56 - 8 * (k : Int)).toNat IntKind.u64.bits) = d) (h0 : 0 ≤ d) : byteL n k = n / d % 256 := by
 unfold byteL ishr
 rw [IntKind.wrap_u8, hd, Int.fdiv_eq_ediv_of_nonneg _ h0]
theorem wordL_bytes {n : Int} (h0 : 0 ≤ n) (h1 : n < 18446744073709551616) : ∃ b0 b1 b2 b3 b4 b5 b6 b7 : Int, wordL n = [b0, b1, b2, b3, b4, b5, b6, b7] ∧
  (0 ≤ b0 ∧ b0 < 256) ∧ (0 ≤ b1 ∧ b1 < 256) ∧ (0 ≤ b2 ∧ b2 < 256) ∧ (0 ≤ b3 ∧ b3 < 256) ∧ (0 ≤ b4 ∧ b4 < 256) ∧ (0 ≤ b5 ∧ b5 < 256) ∧ (0 ≤ b6 ∧ b6 < 256) ∧ (0 ≤ b7 ∧ b7 < 256) ∧
  n = b0 * 72057594037927936 + b1 * 281474976710656 + b2 * 1099511627776 + b3 * 4294967296 + b4 * 16777216 + b5 * 65536 + b6 * 256 + b7 := by
 refine ⟨byteL n 0, byteL n 1, byteL n 2, byteL n 3, byteL n 4, byteL n 5, byteL n 6, byteL n 7, rfl, byteL_range n 0, byteL_range n 1, byteL_range n 2, byteL_range n 3, byteL_range n 4, byteL_range n 5, byteL_range n 6, byteL_range n 7, ?_⟩
 rw [byteL_lit n 0 72057594037927936 (by decide) (by decide), byteL_lit n 1 281474976710656 (by decide) (by decide), byteL_lit n 2 1099511627776 (by decide) (by decide), byteL_lit n 3 4294967296 (by decide) (by decide),
  byteL_lit n 4 16777216 (by decide) (by decide), byteL_lit n 5 65536 (by decide) (by decide), byteL_lit n 6 256 (by decide) (by decide), byteL_lit n 7 1 (by decide) (by decide)]
 omega
theorem wstep_small {w b : Int} (h0 : 0 ≤ w) (h1 : w < 72057594037927936) (h2 : 0 ≤ b) (h3 : b < 256) : wstep w b = w * 256 + b := by
 unfold wstep
 simp only [u64_wrap]
 omega
theorem wordOf_wordL {n : Int} (h0 : 0 ≤ n) (h1 : n < 18446744073709551616) : wordOf (wordL n) = n := by
 obtain ⟨b0, b1, b2, b3, b4, b5, b6, b7, e, r0, r1, r2, r3, r4, r5, r6, r7, hs⟩ := wordL_bytes h0 h1
 rw [e]
 unfold wordOf
 simp only [List.foldl_cons, List.foldl_nil]
 rw [wstep_small (w := 0) (by omega) (by omega) r0.1 r0.2, wstep_small (by omega) (by omega) r1.1 r1.2, wstep_small (by omega) (by omega) r2.1 r2.2, wstep_small (by omega) (by omega) r3.1 r3.2,
  wstep_small (by omega) (by omega) r4.1 r4.2, wstep_small (by omega) (by omega) r5.1 r5.2, wstep_small (by omega) (by omega) r6.1 r6.2, wstep_small (by omega) (by omega) r7.1 r7.2]
 omega
def fitsL (l : List Int) : Prop := ∀ x ∈ l, 0 ≤ x ∧ x < 18446744073709551616
theorem chunk_flat {n : Nat} : ∀ (L : List (List Int)), (∀ l ∈ L, l.length = n) → ∀ k (hk : k < L.length), ((L.flatten).drop (k * n)).take n = L[k]
 | [], _, k, hk => by simp at hk
 | l :: L, h, 0, _ => by
   have := h l List.mem_cons_self
   simp [← this]
 | l :: L, h, k + 1, hk => by
   have h1 := h l List.mem_cons_self
   have ih := chunk_flat L (fun x hx => h x (List.mem_cons_of_mem _ hx)) k (by simpa using hk)
   rw [List.flatten_cons, Nat.succ_mul, Nat.add_comm, List.drop_append, List.drop_of_length_le (by omega), List.nil_append]
   have : n + k * n - l.length = k * n := by omega
   rw [this]
   simpa using ih
theorem flat_len {n : Nat} : ∀ (L : List (List Int)), (∀ l ∈ L, l.length = n) → L.flatten.length = L.length * n
 | [], _ => by simp
 | l :: L, h => by
   rw [List.flatten_cons, List.length_append, h l List.mem_cons_self, flat_len L (fun x hx => h x (List.mem_cons_of_mem _ hx))]
   simp [Nat.succ_mul]; omega
theorem rowOf_put {l : List Int} {w : Nat} (hl : l.length = w) (hf : fitsL l) : rowOf (putL l) w = l := by
 by_cases h : l = []
 ·subst h; simp at hl; subst hl; rfl
 ·unfold putL
  rw [if_neg h]
  apply List.ext_getElem
  ·simp [rowOf, hl]
  ·intro j h1 h2
   simp only [rowOf, List.getElem_map, List.getElem_range]
   have := chunk_flat (n := 8) (l.map wordL) (by intro x hx; obtain ⟨y, _, rfl⟩ := List.mem_map.1 hx; exact wordL_length y) j (by simpa using h2)
   rw [← List.flatMap_def] at this
   rw [Nat.mul_comm, this]
   simp only [List.getElem_map]
   exact wordOf_wordL (hf _ (List.getElem_mem h2)).1 (hf _ (List.getElem_mem h2)).2
theorem put_len {l : List Int} {w : Nat} (hl : l.length = w) (hw : w ≤ 16) : (putL l).length = (sizeL w).toNat ∧ 0 < (sizeL w).toNat := by
 unfold putL sizeL
 by_cases h : l = []
 ·subst h; simp at hl; subst hl; simp
 ·have : 0 < l.length := List.length_pos_iff.2 h
  rw [if_neg h, if_neg (by omega), if_neg (by omega), flat_length]
  omega
theorem read_again {L : List (List Int)} {w : Nat} (hw : w ≤ 16) (hl : ∀ l ∈ L, l.length = w) (hf : ∀ l ∈ L, fitsL l) : getL (L.flatMap putL) w = L ∧ getE (L.flatMap putL) w = 0 := by
 have hlen : ∀ l ∈ L.map putL, l.length = (sizeL w).toNat := by
  intro l h
  obtain ⟨x, hx, rfl⟩ := List.mem_map.1 h
  exact (put_len (hl x hx) hw).1
 have hn0 : 0 < (sizeL w).toNat := (put_len (l := List.replicate w 0) (by simp) hw).2
 have htot : (L.flatMap putL).length = L.length * (sizeL w).toNat := by
  rw [List.flatMap_def, flat_len _ hlen]; simp
 have hok : getOK (L.flatMap putL) w = true := by
  refine getOK_good (by omega) ?_ ?_
  ·have e : sizeL w = (((sizeL w).toNat : Nat) : Int) := by omega
   rw [e, htot, ← Int.ofNat_tmod, Nat.mul_mod_left]; rfl
  ·intro h0 k hk
   have h0' : w = 0 := by omega
   subst h0'
   have : ∀ x ∈ L.flatMap putL, x = 0 := by
    intro x hx
    obtain ⟨l, h1, h2⟩ := List.mem_flatMap.1 hx
    have : l = [] := List.eq_nil_of_length_eq_zero (hl l h1)
    subst this
    simpa [putL] using h2
   simp only [List.getD, List.getElem?_eq_getElem hk, Option.getD_some]
   exact this _ (List.getElem_mem hk)
 unfold getL getE
 rw [hok, if_pos rfl, if_pos rfl, htot, Nat.mul_div_cancel _ hn0]
 refine ⟨?_, rfl⟩
 apply List.ext_getElem
 ·simp [rowsOf]
 ·intro k h1 h2
  simp only [rowsOf, List.getElem_map, List.getElem_range]
  have := chunk_flat (L.map putL) hlen k (by simpa using h2)
  rw [← List.flatMap_def] at this
  unfold chunkOf
  rw [this]
  simp only [List.getElem_map, Int.toNat_natCast]
  exact rowOf_put (hl _ (List.getElem_mem h2)) (hf _ (List.getElem_mem h2))
theorem cmpT : ∀ {a b c : List Int}, cmpL a b < 0 → cmpL b c < 0 → cmpL a c < 0
 | [], [], _, h, _ => by simp [cmpL] at h
 | [], _ :: _, [], _, h => by simp [cmpL] at h
 | [], _ :: _, _ :: _, _, _ => by simp [cmpL]
 | _ :: _, [], _, h, _ => by simp [cmpL] at h
 | _ :: _, _ :: _, [], _, h => by simp [cmpL] at h
 | x :: a, y :: b, z :: c, h1, h2 => by
   simp only [cmpL] at h1 h2 ⊢
   have ih := @cmpT a b c
   split at h1
   ·split at h2
    ·rw [if_pos (by omega)]; decide
    ·split at h2
     ·omega
     ·rw [if_pos (by omega)]; decide
   ·split at h1
    ·omega
    ·split at h2
     ·rw [if_pos (by omega)]; decide
     ·split at h2
      ·omega
      ·rw [if_neg (by omega), if_neg (by omega)]; exact ih h1 h2
theorem cmpGt {a b : List Int} : 0 < cmpL a b ↔ cmpL b a < 0 := by rw [cmpL_swap b a]; omega
theorem cmpSelf (a : List Int) : cmpL a a = 0 := cmpL_zero.2 rfl
theorem cmpGeT {a b c : List Int} (h : cmpL a b ≥ 0) (k : cmpL c b < 0) : cmpL c a < 0 := by
 rcases cmpL_cases a b with q | q | q
 ·omega
 ·rw [cmpL_zero.1 q]; exact k
 ·exact cmpT k (cmpGt.1 (by omega))
theorem getDo {ls : List (List Int)} {i : Nat} (h : i < ls.length) : ls.getD i [] = ls[i] := by rw [List.getD, List.getElem?_eq_getElem h]; rfl
theorem rises_iff {ls : List (List Int)} : rises ls = true ↔ ∀ i, i + 1 < ls.length → cmpL (ls.getD i []) (ls.getD (i + 1) []) < 0 := by
 unfold rises
 rw [List.all_eq_true]
 constructor
 ·intro h i hi
  simpa using h i (List.mem_range.2 (by omega))
 ·intro h i hi
  have := List.mem_range.1 hi
  simpa using h i (by omega)
theorem rises_lt {ls : List (List Int)} (h : rises ls = true) : ∀ {i j : Nat}, i < j → j < ls.length → cmpL (ls.getD i []) (ls.getD j []) < 0 := by
 have h' := rises_iff.1 h
 intro i j hij
 induction j with
 | zero => omega
 | succ j ih =>
   intro hj
   by_cases e : i = j
   ·subst e; exact h' i hj
   ·exact cmpT (ih (by omega) (by omega)) (h' j hj)
def DownT (ll : List Int) (ls : List (List Int)) : Prop := ∀ i j, i ≤ j → j < ls.length → cmpL (ls.getD j []) ll < 0 → cmpL (ls.getD i []) ll < 0
theorem rises_down {ls : List (List Int)} (h : rises ls = true) (ll : List Int) : DownT ll ls := by
 intro i j hij hj hc
 rcases Nat.lt_or_ge i j with q | q
 ·exact cmpT (rises_lt h q hj) hc
 ·rwa [show i = j by omega]
theorem belowT {ll : List Int} : ∀ {ls : List (List Int)} {n : Nat}, n ≤ ls.length → (∀ x, x < n → cmpL (ls.getD x []) ll < 0) → (n < ls.length → ¬ cmpL (ls.getD n []) ll < 0) → below ll ls = n
 | [], n, h, _, _ => by simp at h; subst h; rfl
 | a :: ls, 0, _, _, h3 => by
   have := h3 (by simp)
   unfold below
   rw [List.takeWhile_cons, if_neg (by simpa using this)]; rfl
 | a :: ls, n + 1, h1, h2, h3 => by
   have h0 : cmpL a ll < 0 := h2 0 (by omega)
   have ih := @belowT ll ls n (by simpa using h1) (fun x hx => h2 (x + 1) (by omega)) (fun hx => h3 (by simpa using hx))
   unfold below at ih ⊢
   rw [List.takeWhile_cons, if_pos (by simpa using h0), List.length_cons, ih]
theorem below_lo {ll : List Int} : ∀ {ls : List (List Int)} {x : Nat}, x < below ll ls → cmpL (ls.getD x []) ll < 0
 | [], x, h => by simp [below] at h
 | a :: ls, x, h => by
   unfold below at h
   rw [List.takeWhile_cons] at h
   split at h
   ·rename_i ha
    cases x with
    | zero => simpa using ha
    | succ x => exact @below_lo ll ls x (by unfold below; simpa using h)
   ·simp at h
theorem below_hi {ll : List Int} : ∀ {ls : List (List Int)}, below ll ls < ls.length → ¬ cmpL (ls.getD (below ll ls) []) ll < 0
 | [], h => by simp [below] at h
 | a :: ls, h => by
   by_cases ha : cmpL a ll < 0
   ·have e : below ll (a :: ls) = below ll ls + 1 := by
     unfold below
     rw [List.takeWhile_cons, if_pos (by simpa using ha)]; rfl
    rw [e] at h ⊢
    exact @below_hi ll ls (by simpa using h)
   ·have e : below ll (a :: ls) = 0 := by
     unfold below
     rw [List.takeWhile_cons, if_neg (by simpa using ha)]; rfl
    rw [e]; exact ha
theorem sameAt_iff {ls : List (List Int)} {l : List Int} : sameAt ls l = true ↔ below l ls < ls.length ∧ ls.getD (below l ls) [] = l := by
 unfold sameAt; simp
theorem child_gt {n : Nd} {l : List Int} (h : rises n.rows = true) {j : Nat} (h1 : n.child l ≤ j) (h2 : j < n.rows.length) : cmpL l (n.rows.getD j []) < 0 := by
 unfold Nd.child at h1
 split at h1
 ·rename_i hs
  obtain ⟨q1, q2⟩ := sameAt_iff.1 hs
  have := rises_lt h (i := below l n.rows) (j := j) (by omega) h2
  rwa [q2] at this
 ·rename_i hs
  have key : cmpL l (n.rows.getD (below l n.rows) []) < 0 := by
   have hlt : below l n.rows < n.rows.length := by omega
   have h3 := below_hi hlt
   rcases cmpL_cases (n.rows.getD (below l n.rows) []) l with q | q | q
   ·omega
   ·exact absurd (sameAt_iff.2 ⟨hlt, cmpL_zero.1 q⟩) hs
   ·exact cmpGt.1 (by omega)
  rcases Nat.lt_or_ge (below l n.rows) j with q | q
  ·exact cmpT key (rises_lt h q h2)
  ·rwa [show j = below l n.rows by omega]
theorem child_zero {n : Nd} {l : List Int} (h : ∀ j, j < n.rows.length → cmpL l (n.rows.getD j []) < 0) : below l n.rows = 0 ∧ sameAt n.rows l = false ∧ n.child l = 0 := by
 have hb : below l n.rows = 0 := belowT (Nat.zero_le _) (fun x hx => by omega) fun h0 q => by
  have := h 0 h0
  have := cmpGt.2 this
  omega
 have hs : sameAt n.rows l = false := by
  cases hq : sameAt n.rows l with
  | false => rfl
  | true =>
    obtain ⟨q1, q2⟩ := sameAt_iff.1 hq
    have := h _ q1
    rw [q2, cmpSelf] at this; omega
 refine ⟨hb, hs, ?_⟩
 unfold Nd.child
 rw [hs, hb]; rfl
theorem holds_ge {s : Span} {ls : List (List Int)} (h : s.holds ls = true) {a : List Int} (ha : s.low = some a) {j : Nat} (hj : j < ls.length) : cmpL (ls.getD j []) a ≥ 0 := by
 unfold Span.holds at h
 simp only [Bool.and_eq_true, Bool.or_eq_true] at h
 obtain ⟨h1, h2⟩ := h
 have h0 : cmpL (ls.getD 0 []) a ≥ 0 := by
  rcases h2 with q | ⟨q, _⟩
  ·have : ls = [] := by simpa using q
   rw [this] at hj; simp at hj
  ·unfold Span.ge at q
   rw [ha] at q; simpa using q
 rcases Nat.eq_zero_or_pos j with q | q
 ·rwa [q]
 ·have := rises_lt h1 q hj
  rcases cmpL_cases (ls.getD j []) a with r | r | r
  ·have := cmpGeT h0 (show cmpL (ls.getD j []) a < 0 by omega)
   have h3 := cmpGt.2 ‹cmpL (ls.getD 0 []) (ls.getD j []) < 0›
   omega
  ·omega
  ·omega
theorem holds_rises {s : Span} {ls : List (List Int)} (h : s.holds ls = true) : rises ls = true := by
 unfold Span.holds at h
 simp only [Bool.and_eq_true] at h
 exact h.1
section
variable {x : St} {w : Int} {depth : Nat} {low : List Int} {strict : Bool}
theorem node_ok (hT : ∀ k, (x.T k).2.length ≤ 504) {above page : Nat} {s : Span} {n : Nd} (h : x.node w depth above page s = some n) : n.Ok w depth above s := by
 unfold St.node at h
 split at h
 ·exact nodeOf_ok (hT _) h
 ·cases h
theorem find_first (hT : ∀ k, (x.T k).2.length ≤ 504) (hd : 1 < depth) : ∀ (a page : Nat) (s : Span) (b : List Int), s.low = some b → cmpL low b < 0 →
  (x.find w depth low strict a page s).1 ≤ a + 1 ∧ (x.find w depth low strict a page s).2 ≠ some none
 | 0, page, s, b, hb, hc => by
   unfold St.find
   cases hn : x.node w depth 0 page s with
   | none => exact ⟨Nat.le_refl _, by simp⟩
   | some n =>
     have ok := node_ok hT hn
     have hne := ok.some_ hd
     have h0 : 0 < n.rows.length := List.length_pos_iff.2 hne
     obtain ⟨z1, z2, z3⟩ := child_zero (n := n) (l := low) fun j hj => cmpGeT (holds_ge ok.holds hb hj) hc
     refine ⟨Nat.le_refl _, ?_⟩
     show some (leafAt n.rows low strict) ≠ some none
     unfold leafAt
     rw [z1, z2]
     simp only [Bool.false_and, Bool.false_eq_true, if_false, Nat.add_zero]
     rw [List.getElem?_eq_getElem h0]
     simp
 | a + 1, page, s, b, hb, hc => by
   unfold St.find
   cases hn : x.node w depth (a + 1) page s with
   | none => exact ⟨by simp, by simp⟩
   | some n =>
     have ok := node_ok hT hn
     obtain ⟨i1, i2, i3⟩ := ok.inner (Nat.succ_pos _)
     obtain ⟨z1, z2, z3⟩ := child_zero (n := n) (l := low) fun j hj => cmpGeT (holds_ge ok.holds hb hj) hc
     have hs : (s.of n 0).low = some b := by unfold Span.of; simp [hb]
     obtain ⟨r1, r2⟩ := find_first hT hd a (n.kids.getD 0 0) (s.of n 0) b hs hc
     simp only
     rw [z3, Nat.sub_zero, i1]
     unfold goK
     rw [if_neg r2]
     exact ⟨by omega, r2⟩
theorem find_cost (hT : ∀ k, (x.T k).2.length ≤ 504) : ∀ (a page : Nat) (s : Span), a < depth → (x.find w depth low strict a page s).1 ≤ (a + 1) * (a + 1)
 | 0, page, s, _ => by
   unfold St.find
   cases x.node w depth 0 page s <;> exact Nat.le_refl _
 | a + 1, page, s, ha => by
   unfold St.find
   cases hn : x.node w depth (a + 1) page s with
   | none => exact Nat.le_trans (Nat.le_add_left 1 (a + 1)) (Nat.le_mul_of_pos_right _ (by omega))
   | some n =>
     have ok := node_ok hT hn
     obtain ⟨i1, i2, i3⟩ := ok.inner (Nat.succ_pos _)
     have hc := child_le (n := n) (l := low)
     have ih := find_cost hT a (n.kids.getD (n.child low) 0) (s.of n (n.child low)) (by omega)
     simp only
     have e2 : (a + 1 + 1) * (a + 1 + 1) = (a + 1) * (a + 1) + (2 * a + 3) := by
      rw [Nat.mul_add, Nat.add_mul, Nat.add_mul]; omega
     have hk : n.kids.length - n.child low = (n.rows.length - n.child low) + 1 := by omega
     rw [hk]
     unfold goK
     split
     ·rcases Nat.eq_zero_or_pos (n.rows.length - n.child low) with q | q
      ·rw [q]
       unfold goK
       simp only
       omega
      ·obtain ⟨m, hm⟩ : ∃ m, n.rows.length - n.child low = m + 1 := ⟨n.rows.length - n.child low - 1, by omega⟩
       rw [hm]
       have hlow : (s.of n (n.child low + 1)).low = some (n.rows.getD (n.child low) []) := by unfold Span.of; simp
       obtain ⟨r1, r2⟩ := find_first (strict := strict) hT (show 1 < depth by omega) a (n.kids.getD (n.child low + 1) 0) (s.of n (n.child low + 1)) _ hlow (child_gt (holds_rises ok.holds) (Nat.le_refl _) (by omega))
       unfold goK
       rw [if_neg r2]
       simp only
       omega
     ·omega
theorem goK_nextT {f : Nat → Nat × Option (Option (List Int))} {i k : Nat} (h : (f i).2 = some none) : goK f i (k + 1) = ((f i).1 + (goK f (i + 1) k).1, (goK f (i + 1) k).2) := by
 conv => lhs; unfold goK
 rw [if_pos h]
theorem goK_stopT {f : Nat → Nat × Option (Option (List Int))} {i k : Nat} (h : (f i).2 ≠ some none) : goK f i (k + 1) = f i := by
 unfold goK
 rw [if_neg h]
theorem goK_in {f : Nat → Nat × Option (Option (List Int))} {y : List Int} : ∀ (k i : Nat), (goK f i k).2 = some (some y) → ∃ j, (f j).2 = some (some y)
 | 0, i, h => by unfold goK at h; cases h
 | k + 1, i, h => by
   unfold goK at h
   split at h
   ·exact goK_in k (i + 1) h
   ·exact ⟨i, h⟩
theorem find_len {ll : List Int} (hT : ∀ k, (x.T k).2.length ≤ 504) : ∀ (a page : Nat) (s : Span) {y : List Int}, (x.find w depth ll strict a page s).2 = some (some y) → y.length = w.toNat
 | 0, page, s, y, h => by
   unfold St.find at h
   cases hn : x.node w depth 0 page s with
   | none => rw [hn] at h; cases h
   | some n =>
     rw [hn] at h
     simp only [Option.some.injEq] at h
     unfold leafAt at h
     exact (node_ok hT hn).cols y (List.mem_of_getElem? h)
 | a + 1, page, s, y, h => by
   unfold St.find at h
   cases hn : x.node w depth (a + 1) page s with
   | none => rw [hn] at h; cases h
   | some n =>
     rw [hn] at h
     obtain ⟨j, hj⟩ := goK_in _ _ h
     exact find_len hT a _ _ hj
end
theorem be4_length (n : Nat) : (be4 n).length = 4 := rfl
theorem of4_be4 {n : Nat} (h : n < 4294967296) (r : List UInt8) : of4 (be4 n ++ r) = n := by
 have e : ∀ k : Nat, (UInt8.ofNat k).toNat = k % 256 := fun k => UInt8.toNat_ofNat'
 show (((UInt8.ofNat (n / 16777216)).toNat * 256 + (UInt8.ofNat (n / 65536)).toNat) * 256 + (UInt8.ofNat (n / 256)).toNat) * 256 + (UInt8.ofNat n).toNat = n
 rw [e, e, e, e]
 omega
theorem flat4_length : ∀ (l : List Nat), (l.flatMap be4).length = 4 * l.length
 | [] => rfl
 | a :: l => by rw [List.flatMap_cons, List.length_append, be4_length, flat4_length l]; simp; omega
theorem of4_flat {r : List UInt8} : ∀ {l : List Nat} {i : Nat}, (∀ k ∈ l, k < 4294967296) → i < l.length → of4 ((l.flatMap be4 ++ r).drop (4 * i)) = l.getD i 0
 | [], i, _, h => by simp at h
 | a :: l, 0, h, _ => by
   rw [List.flatMap_cons, List.append_assoc]
   exact of4_be4 (h a List.mem_cons_self) _
 | a :: l, i + 1, h, hi => by
   have e : 4 * (i + 1) = (be4 a).length + 4 * i := by rw [be4_length]; omega
   rw [List.flatMap_cons, List.append_assoc, e, ← List.drop_drop, List.drop_left]
   exact of4_flat (fun k hk => h k (List.mem_cons_of_mem _ hk)) (by simpa using hi)
theorem u8i_append (a b : List UInt8) : u8i (a ++ b) = u8i a ++ u8i b := by simp [u8i]
def rowsY (ls : List (List Int)) : List UInt8 := ls.flatMap fun l => bytesI (putL l)
theorem u8i_rowsY : ∀ (ls : List (List Int)), u8i (rowsY ls) = ls.flatMap putL
 | [] => rfl
 | a :: ls => by
   unfold rowsY
   rw [List.flatMap_cons, u8i_append, u8i_bytesI (putL_range a), List.flatMap_cons]
   exact congrArg _ (u8i_rowsY ls)
theorem putL_len8 {l : List Int} {W : Nat} (hl : l.length = W) (hW : W ≤ 16) : (putL l).length = (sizeL W).toNat := (put_len hl hW).1
theorem rowsY_length {W : Nat} (hW : W ≤ 16) : ∀ {ls : List (List Int)}, (∀ l ∈ ls, l.length = W) → (rowsY ls).length = ls.length * (sizeL W).toNat
 | [], _ => by simp [rowsY]
 | a :: ls, h => by
   have ih := rowsY_length hW (ls := ls) fun l hl => h l (List.mem_cons_of_mem _ hl)
   have e : rowsY (a :: ls) = bytesI (putL a) ++ rowsY ls := by unfold rowsY; rw [List.flatMap_cons]
   rw [e, List.length_append, bytesI_length, putL_len8 (h a List.mem_cons_self) hW, ih, List.length_cons, Nat.add_mul]
   omega
theorem sizeL_nat {W : Nat} (hW : W ≤ 16) : sizeL (W : Int) ≠ 0 ∧ (sizeL (W : Int)).toNat = (if W = 0 then 1 else 8 * W) := by
 unfold sizeL
 rw [if_neg (by omega)]
 by_cases h : W = 0
 ·subst h; exact ⟨by decide, rfl⟩
 ·rw [if_neg (by omega), if_neg h]; omega
theorem fan_room {W : Nat} (hW : W ≤ 16) :
  (∀ k : Nat, ¬ ((k : Int) > fanL W) ↔ 2 + 4 * k + (k - 1) * (sizeL W).toNat ≤ 504 ∨ k ≤ 1) ∧ (∀ k : Nat, ¬ ((k : Int) > roomL W) ↔ k * (sizeL W).toNat ≤ 504) ∧ 3 ≤ roomL (W : Int) ∧ 4 ≤ fanL (W : Int) := by
 have h : ∀ W : Nat, W ≤ 16 → W = 0 ∨ W = 1 ∨ W = 2 ∨ W = 3 ∨ W = 4 ∨ W = 5 ∨ W = 6 ∨ W = 7 ∨ W = 8 ∨ W = 9 ∨ W = 10 ∨ W = 11 ∨ W = 12 ∨ W = 13 ∨ W = 14 ∨ W = 15 ∨ W = 16 := by omega
 have key : ∀ (s f r : Nat), sizeL (W : Int) = s → fanL (W : Int) = f → roomL (W : Int) = r → (∀ k : Nat, ¬ (k > f) ↔ 2 + 4 * k + (k - 1) * s ≤ 504 ∨ k ≤ 1) → (∀ k : Nat, ¬ (k > r) ↔ k * s ≤ 504) → 3 ≤ r → 4 ≤ f →
   (∀ k : Nat, ¬ ((k : Int) > fanL W) ↔ 2 + 4 * k + (k - 1) * (sizeL W).toNat ≤ 504 ∨ k ≤ 1) ∧ (∀ k : Nat, ¬ ((k : Int) > roomL W) ↔ k * (sizeL W).toNat ≤ 504) ∧ 3 ≤ roomL (W : Int) ∧ 4 ≤ fanL (W : Int) := by
  intro s f r h1 h2 h3 h4 h5 h6 h7
  rw [h1, h2, h3]
  refine ⟨fun k => ?_, fun k => ?_, by omega, by omega⟩
  ·rw [Int.toNat_natCast, ← h4 k]; omega
  ·rw [Int.toNat_natCast, ← h5 k]; omega
 rcases h W hW with e | e | e | e | e | e | e | e | e | e | e | e | e | e | e | e | e <;> subst e
 ·exact key 1 100 504 (by decide) (by decide) (by decide) (by omega) (by omega) (by decide) (by decide)
 ·exact key 8 42 63 (by decide) (by decide) (by decide) (by omega) (by omega) (by decide) (by decide)
 ·exact key 16 25 31 (by decide) (by decide) (by decide) (by omega) (by omega) (by decide) (by decide)
 ·exact key 24 18 21 (by decide) (by decide) (by decide) (by omega) (by omega) (by decide) (by decide)
 ·exact key 32 14 15 (by decide) (by decide) (by decide) (by omega) (by omega) (by decide) (by decide)
 ·exact key 40 12 12 (by decide) (by decide) (by decide) (by omega) (by omega) (by decide) (by decide)
 ·exact key 48 10 10 (by decide) (by decide) (by decide) (by omega) (by omega) (by decide) (by decide)
 ·exact key 56 9 9 (by decide) (by decide) (by decide) (by omega) (by omega) (by decide) (by decide)
 ·exact key 64 8 7 (by decide) (by decide) (by decide) (by omega) (by omega) (by decide) (by decide)
 ·exact key 72 7 7 (by decide) (by decide) (by decide) (by omega) (by omega) (by decide) (by decide)
 ·exact key 80 6 6 (by decide) (by decide) (by decide) (by omega) (by omega) (by decide) (by decide)
 ·exact key 88 6 5 (by decide) (by decide) (by decide) (by omega) (by omega) (by decide) (by decide)
 ·exact key 96 5 5 (by decide) (by decide) (by decide) (by omega) (by omega) (by decide) (by decide)
 ·exact key 104 5 4 (by decide) (by decide) (by decide) (by omega) (by omega) (by decide) (by decide)
 ·exact key 112 5 4 (by decide) (by decide) (by decide) (by omega) (by omega) (by decide) (by decide)
 ·exact key 120 5 4 (by decide) (by decide) (by decide) (by omega) (by omega) (by decide) (by decide)
 ·exact key 128 4 3 (by decide) (by decide) (by decide) (by omega) (by omega) (by decide) (by decide)
theorem Nd.bytes_length {n : Nd} {W : Nat} (hW : W ≤ 16) (h : ∀ l ∈ n.rows, l.length = W) : n.bytes.length = (2 + 4 * n.kids.length) * (if n.kids = [] then 0 else 1) + n.rows.length * (sizeL (W : Int)).toNat := by
 have hr := rowsY_length hW h
 unfold Nd.bytes
 rw [List.length_append]
 change _ + (rowsY n.rows).length = _
 rw [hr]
 by_cases hk : n.kids = []
 ·rw [if_pos hk, if_pos hk]; simp
 ·rw [if_neg hk, if_neg hk, List.length_cons, List.length_cons, flat4_length]; omega
structure Nd.Fine (n : Nd) (W depth above : Nat) (s : Span) : Prop where
 leaf : above = 0 → n.kids = []
 inner : 0 < above → n.kids.length = n.rows.length + 1 ∧ 1 ≤ n.rows.length
 holds : s.holds n.rows = true
 some_ : 1 < depth → n.rows ≠ []
 cols : ∀ l ∈ n.rows, l.length = W ∧ fitsL l
 kids : ∀ k ∈ n.kids, k < 4294967296
 fit : n.bytes.length ≤ 504
theorem Nd.Fine.read {n : Nd} {W depth above : Nat} {s : Span} (hW : W ≤ 16) (h : n.Fine W depth above s) : nodeOf W depth above s n.page = some n := by
 obtain ⟨ks, rs⟩ := n
 obtain ⟨r1, r2⟩ := read_again hW (fun l hl => (h.cols l hl).1) fun l hl => (h.cols l hl).2
 have hok : getOK (rs.flatMap putL) W = true := by
  unfold getE at r2
  cases hq : getOK (rs.flatMap putL) W with
  | true => rfl
  | false => rw [hq] at r2; simp at r2
 have fin : ∀ kids, (kids ≠ [] → rs.length + 1 = kids.length) → nodeFin W depth s kids (rowsY rs) = some ⟨kids, rs⟩ := by
  intro kids hk
  unfold nodeFin
  rw [u8i_rowsY, r1, hok]
  rw [if_neg (by
   rintro (q | ⟨q1, q2⟩)
   ·cases q
   ·exact q2 (hk q1))]
  rw [if_neg (by
   rintro (q | ⟨q1, q2⟩)
   ·rw [h.holds] at q; cases q
   ·exact h.some_ q2 q1)]
 unfold Nd.page Nd.bytes
 by_cases hk : ks = []
 ·subst hk
  have ha : above = 0 := by
   rcases Nat.eq_zero_or_pos above with q | q
   ·exact q
   ·have := (h.inner q).1; simp at this
  simp only [if_pos]
  unfold nodeOf
  rw [if_pos ⟨rfl, ha⟩]
  exact fin [] (fun q => absurd rfl q)
 ·have ha : 0 < above := by
   rcases Nat.eq_zero_or_pos above with q | q
   ·exact absurd (h.leaf q) hk
   ·exact q
  obtain ⟨i1, i2⟩ := h.inner ha
  simp only at i1 i2
  have hfit := h.fit
  rw [Nd.bytes_length hW fun l hl => (h.cols l hl).1, if_neg hk] at hfit
  simp only at hfit
  have hb : num2 (UInt8.ofNat (ks.length / 256) :: UInt8.ofNat ks.length :: ks.flatMap be4 ++ rowsY rs) = ks.length := by
   have e : ∀ k : Nat, (UInt8.ofNat k).toNat = k % 256 := fun k => UInt8.toNat_ofNat'
   show (UInt8.ofNat (ks.length / 256)).toNat * 256 + (UInt8.ofNat ks.length).toNat = _
   rw [e, e]; omega
  have hl : (UInt8.ofNat (ks.length / 256) :: UInt8.ofNat ks.length :: ks.flatMap be4 ++ rowsY rs).length = 2 + 4 * ks.length + (rowsY rs).length := by
   rw [List.length_append, List.length_cons, List.length_cons, flat4_length]; omega
  have hd : (UInt8.ofNat (ks.length / 256) :: UInt8.ofNat ks.length :: ks.flatMap be4 ++ rowsY rs).drop (2 + 4 * ks.length) = rowsY rs := by
   rw [← List.drop_drop]
   show ((ks.flatMap be4 ++ rowsY rs).drop (4 * ks.length)) = _
   rw [← flat4_length, List.drop_left]
  have hks : kidsOf (UInt8.ofNat (ks.length / 256) :: UInt8.ofNat ks.length :: ks.flatMap be4 ++ rowsY rs) ks.length = ks := by
   unfold kidsOf
   apply List.ext_getElem
   ·simp
   ·intro i h1 h2
    rw [List.getElem_map, List.getElem_range, ← List.drop_drop]
    show of4 ((ks.flatMap be4 ++ rowsY rs).drop (4 * i)) = _
    rw [of4_flat h.kids h2, List.getD, List.getElem?_eq_getElem h2]; rfl
  simp only [if_neg hk]
  change nodeOf W depth above s (4, UInt8.ofNat (ks.length / 256) :: UInt8.ofNat ks.length :: ks.flatMap be4 ++ rowsY rs) = _
  unfold nodeOf
  simp only
  rw [if_neg (by rintro ⟨q, _⟩; revert q; decide), if_pos ⟨by first | rfl | trivial, ha, by rw [hl]; omega⟩, hb, if_neg (by rw [hl]; omega), hd, hks]
  exact fin ks (fun _ => i1.symm)
def ltR (a b : List Int) : Prop := cmpL a b < 0
theorem ltR_irr (a : List Int) : ¬ ltR a a := by unfold ltR; rw [cmpSelf]; omega
theorem ltR_trans {a b c : List Int} (h : ltR a b) (k : ltR b c) : ltR a c := cmpT h k
theorem ltR_tri (a b : List Int) : ltR a b ∨ a = b ∨ ltR b a := by
 rcases cmpL_cases a b with q | q | q
 ·exact .inl (by unfold ltR; omega)
 ·exact .inr (.inl (cmpL_zero.1 q))
 ·exact .inr (.inr (cmpGt.1 (by omega)))
theorem le_lt {a b c : List Int} (h : ¬ ltR b a) (k : ltR b c) : ltR a c := by
 rcases ltR_tri a b with q | q | q
 ·exact ltR_trans q k
 ·subst q; exact k
 ·exact absurd q h
theorem lt_le {a b c : List Int} (h : ltR a b) (k : ¬ ltR c b) : ltR a c := by
 rcases ltR_tri b c with q | q | q
 ·exact ltR_trans h q
 ·subst q; exact h
 ·exact absurd q k
theorem ge_iff {a b : List Int} : cmpL a b ≥ 0 ↔ ¬ ltR a b := by unfold ltR; omega
def Asc (L : List (List Int)) : Prop := L.Pairwise ltR
theorem asc_rises {L : List (List Int)} : rises L = true ↔ Asc L := by
 unfold Asc
 rw [List.pairwise_iff_getElem]
 constructor
 ·intro h i j hi hj hij
  have := rises_lt h hij hj
  rw [getDo hi, getDo hj] at this; exact this
 ·intro h
  rw [rises_iff]
  intro i hi
  rw [getDo (by omega), getDo hi]
  exact h i (i + 1) (by omega) hi (by omega)
def Span.Has (s : Span) (l : List Int) : Prop := (∀ a, s.low = some a → ¬ ltR l a) ∧ ∀ a, s.high = some a → ltR l a
theorem holds_iff {s : Span} {L : List (List Int)} : s.holds L = true ↔ Asc L ∧ ∀ l ∈ L, s.Has l := by
 constructor
 ·intro h
  have hr := holds_rises h
  refine ⟨asc_rises.1 hr, fun l hl => ?_⟩
  obtain ⟨i, hi, rfl⟩ := List.mem_iff_getElem.1 hl
  refine ⟨fun a ha => ?_, fun a ha => ?_⟩
  ·have := holds_ge h ha hi
   rw [getDo hi] at this
   exact ge_iff.1 this
  ·unfold Span.holds at h
   simp only [Bool.and_eq_true, Bool.or_eq_true] at h
   rcases h.2 with q | ⟨_, q⟩
   ·have : L = [] := by simpa using q
    rw [this] at hi; simp at hi
   ·unfold Span.lt at q
    rw [ha] at q
    have q : cmpL (L.getD (L.length - 1) []) a < 0 := by simpa using q
    rw [getDo (by omega)] at q
    rcases Nat.lt_or_ge i (L.length - 1) with u | u
    ·have := rises_lt hr u (by omega)
     rw [getDo hi, getDo (by omega)] at this
     exact cmpT this q
    ·have : i = L.length - 1 := by omega
     subst this; exact q
 ·rintro ⟨h1, h2⟩
  unfold Span.holds
  rw [asc_rises.2 h1, Bool.true_and]
  rcases Nat.eq_zero_or_pos L.length with q | q
  ·rw [List.eq_nil_of_length_eq_zero q]; rfl
  ·rw [Bool.or_eq_true, Bool.and_eq_true]
   right
   constructor
   ·unfold Span.ge
    cases hl : s.low with
    | none => rfl
    | some a =>
      rw [getDo q]
      have := (h2 _ (List.getElem_mem q)).1 a hl
      simp only [decide_eq_true_eq]
      exact ge_iff.2 this
   ·unfold Span.lt
    cases hl : s.high with
    | none => rfl
    | some a =>
      rw [getDo (by omega)]
      have := (h2 _ (List.getElem_mem (show L.length - 1 < L.length by omega))).2 a hl
      simpa [ltR] using this
def Kin (R : Nat → Span → List (List Int) → List Nat → Prop) (s : Span) (n : Nd) (Ls : List (List (List Int))) (Ps : List (List Nat)) : Prop :=
 n.kids.length = n.rows.length + 1 ∧ Ls.length = n.kids.length ∧ Ps.length = n.kids.length ∧ ∀ i, i < n.kids.length → R (n.kids.getD i 0) (s.of n i) (Ls.getD i []) (Ps.getD i [])
def Tn (x : St) (W depth : Nat) : Nat → Nat → Span → List (List Int) → List Nat → Prop
 | 0, page, s, L, P => ∃ n, x.node W depth 0 page s = some n ∧ n.Fine W depth 0 s ∧ L = n.rows ∧ P = [page]
 | a + 1, page, s, L, P => ∃ n Ls Ps, x.node W depth (a + 1) page s = some n ∧ n.Fine W depth (a + 1) s ∧ Kin (Tn x W depth a) s n Ls Ps ∧ L = Ls.flatten ∧ P = page :: Ps.flatten
def Body (x : St) (W depth : Nat) : Nat → Span → Nd → List (List Int) → List Nat → Prop
 | 0, _, n, L, Q => n.kids = [] ∧ L = n.rows ∧ Q = []
 | a + 1, s, n, L, Q => ∃ Ls Ps, Kin (Tn x W depth a) s n Ls Ps ∧ L = Ls.flatten ∧ Q = Ps.flatten
theorem Tn_iff {x : St} {W depth a page : Nat} {s : Span} {L : List (List Int)} {P : List Nat} : Tn x W depth a page s L P ↔ ∃ n Q, x.node W depth a page s = some n ∧ n.Fine W depth a s ∧ Body x W depth a s n L Q ∧ P = page :: Q := by
 cases a with
 | zero =>
   constructor
   ·rintro ⟨n, h1, h2, h3, h4⟩
    exact ⟨n, [], h1, h2, ⟨h2.leaf rfl, h3, rfl⟩, h4⟩
   ·rintro ⟨n, Q, h1, h2, ⟨_, h3, h4⟩, h5⟩
    exact ⟨n, h1, h2, h3, by rw [h5, h4]⟩
 | succ a =>
   constructor
   ·rintro ⟨n, Ls, Ps, h1, h2, h3, h4, h5⟩
    exact ⟨n, _, h1, h2, ⟨Ls, Ps, h3, h4, rfl⟩, h5⟩
   ·rintro ⟨n, Q, h1, h2, ⟨Ls, Ps, h3, h4, h5⟩, h6⟩
    exact ⟨n, Ls, Ps, h1, h2, h3, h4, by rw [h6, h5]⟩
section
variable {x x' : St} {W depth : Nat}
theorem Tn.page {a page : Nat} {s : Span} {L : List (List Int)} {P : List Nat} (h : Tn x W depth a page s L P) : page ∈ P ∧ page < x.N := by
 obtain ⟨n, Q, h1, _, _, h4⟩ := Tn_iff.1 h
 refine ⟨by rw [h4]; exact List.mem_cons_self, ?_⟩
 unfold St.node at h1
 split at h1
 ·assumption
 ·cases h1
theorem node_congr {a page : Nat} {s : Span} {w : Int} (hN : x.N ≤ x'.N) (hp : x'.T page = x.T page) {n : Nd} (h : x.node w depth a page s = some n) : x'.node w depth a page s = some n := by
 unfold St.node at h ⊢
 split at h
 ·rw [if_pos (by omega), hp]; exact h
 ·cases h
theorem mem_flat {α : Type} {Ls : List (List α)} {i : Nat} {a : α} (h : a ∈ Ls.getD i []) : a ∈ Ls.flatten := by
 by_cases hi : i < Ls.length
 ·rw [List.getD, List.getElem?_eq_getElem hi] at h
  exact List.mem_flatten.2 ⟨_, List.getElem_mem hi, h⟩
 ·rw [List.getD, List.getElem?_eq_none (by omega)] at h
  cases h
theorem Tn.congr : ∀ {a page : Nat} {s : Span} {L : List (List Int)} {P : List Nat}, Tn x W depth a page s L P → x.N ≤ x'.N → (∀ p ∈ P, x'.T p = x.T p) → Tn x' W depth a page s L P
 | 0, page, s, L, P, ⟨n, h1, h2, h3, h4⟩, hN, hp => ⟨n, node_congr hN (hp page (by rw [h4]; exact List.mem_cons_self)) h1, h2, h3, h4⟩
 | a + 1, page, s, L, P, ⟨n, Ls, Ps, h1, h2, h3, h4, h5⟩, hN, hp => ⟨n, Ls, Ps, node_congr hN (hp page (by rw [h5]; exact List.mem_cons_self)) h1, h2,
     ⟨h3.1, h3.2.1, h3.2.2.1, fun i hi => Tn.congr (h3.2.2.2 i hi) hN fun p hpm => hp p (by rw [h5]; exact List.mem_cons_of_mem _ (mem_flat hpm))⟩, h4, h5⟩
theorem of_has {s : Span} {n : Nd} {i : Nat} {l : List Int} (hn : s.holds n.rows = true) (hi : i ≤ n.rows.length) (h : (s.of n i).Has l) : s.Has l := by
 obtain ⟨h1, h2⟩ := holds_iff.1 hn
 refine ⟨fun a ha => ?_, fun a ha => ?_⟩
 ·by_cases h0 : 0 < i
  ·have e : (s.of n i).low = some (n.rows.getD (i - 1) []) := if_pos h0
   have h3 := h.1 _ e
   have h4 := (h2 (n.rows.getD (i - 1) []) (by rw [getDo (by omega)]; exact List.getElem_mem _)).1 a ha
   intro q
   exact h3 (lt_le q h4)
  ·have e : (s.of n i).low = s.low := if_neg h0
   exact h.1 a (e.trans ha)
 ·by_cases h0 : i < n.rows.length
  ·have e : (s.of n i).high = some (n.rows.getD i []) := if_pos h0
   have h3 := h.2 _ e
   have h4 := (h2 (n.rows.getD i []) (by rw [getDo h0]; exact List.getElem_mem _)).2 a ha
   exact ltR_trans h3 h4
  ·have e : (s.of n i).high = s.high := if_neg h0
   exact h.2 a (e.trans ha)
theorem of_apart {s : Span} {n : Nd} {i j : Nat} {a b : List Int} (hn : s.holds n.rows = true) (hij : i < j) (hj : j ≤ n.rows.length) (ha : (s.of n i).Has a) (hb : (s.of n j).Has b) : ltR a b := by
 have e1 : (s.of n i).high = some (n.rows.getD i []) := if_pos (by omega)
 have e2 : (s.of n j).low = some (n.rows.getD (j - 1) []) := if_pos (by omega)
 have h1 := ha.2 _ e1
 have h2 := hb.1 _ e2
 have hr := holds_rises hn
 rcases Nat.lt_or_ge i (j - 1) with q | q
 ·exact lt_le (ltR_trans h1 (rises_lt hr q (by omega))) h2
 ·have : j - 1 = i := by omega
  rw [this] at h2
  exact lt_le h1 h2
theorem flat_asc {Ls : List (List (List Int))} (h1 : ∀ i, i < Ls.length → Asc (Ls.getD i [])) (h2 : ∀ i j, i < j → j < Ls.length → ∀ a ∈ Ls.getD i [], ∀ b ∈ Ls.getD j [], ltR a b) : Asc Ls.flatten := by
 unfold Asc
 rw [List.pairwise_flatten]
 refine ⟨fun l hl => ?_, ?_⟩
 ·obtain ⟨i, hi, rfl⟩ := List.mem_iff_getElem.1 hl
  have := h1 i hi
  rwa [List.getD, List.getElem?_eq_getElem hi] at this
 ·rw [List.pairwise_iff_getElem]
  intro i j hi hj hij a ha b hb
  refine h2 i j hij hj a ?_ b ?_
  ·rw [List.getD, List.getElem?_eq_getElem hi]; exact ha
  ·rw [List.getD, List.getElem?_eq_getElem hj]; exact hb
theorem mem_flatI {α : Type} {Ls : List (List α)} {a : α} (h : a ∈ Ls.flatten) : ∃ i, i < Ls.length ∧ a ∈ Ls.getD i [] := by
 obtain ⟨l, hl, ha⟩ := List.mem_flatten.1 h
 obtain ⟨i, hi, rfl⟩ := List.mem_iff_getElem.1 hl
 exact ⟨i, hi, by rw [List.getD, List.getElem?_eq_getElem hi]; exact ha⟩
theorem Tn.rows : ∀ {a page : Nat} {s : Span} {L : List (List Int)} {P : List Nat}, Tn x W depth a page s L P → Asc L ∧ ∀ l ∈ L, s.Has l ∧ l.length = W ∧ fitsL l
 | 0, page, s, L, P, ⟨n, h1, h2, h3, h4⟩ => by
   subst h3
   obtain ⟨q1, q2⟩ := holds_iff.1 h2.holds
   exact ⟨q1, fun l hl => ⟨q2 l hl, h2.cols l hl⟩⟩
 | a + 1, page, s, L, P, ⟨n, Ls, Ps, h1, h2, ⟨k1, k2, k3, k4⟩, h4, h5⟩ => by
   subst h4
   have ih : ∀ i, i < n.kids.length → _ := fun i hi => Tn.rows (k4 i hi)
   refine ⟨flat_asc (fun i hi => (ih i (by omega)).1) fun i j hij hj a ha b hb => ?_, fun l hl => ?_⟩
   ·exact of_apart h2.holds hij (by omega) ((ih i (by omega)).2 a ha).1 ((ih j (by omega)).2 b hb).1
   ·obtain ⟨i, hi, hm⟩ := mem_flatI hl
    have := (ih i (by omega)).2 l hm
    exact ⟨of_has h2.holds (by omega) this.1, this.2⟩
theorem flat_sizes : ∀ {Ps : List (List Nat)} {Ls : List (List (List Int))} {m : Nat}, Ps.length = Ls.length → (∀ i, i < Ps.length → (Ps.getD i []).length + 1 ≤ 2 * (Ls.getD i []).length ∧ m ≤ (Ls.getD i []).length) → Ps.flatten.length + Ps.length ≤ 2 * Ls.flatten.length ∧ Ls.length * m ≤ Ls.flatten.length
 | [], [], m, _, _ => by simp
 | [], _ :: _, _, h, _ => by simp at h
 | _ :: _, [], _, h, _ => by simp at h
 | P :: Ps, L :: Ls, m, h, hk => by
   have h0 := hk 0 (by simp)
   have ih := flat_sizes (Ps := Ps) (Ls := Ls) (m := m) (by simpa using h) fun i hi => by simpa using hk (i + 1) (by simpa using hi)
   simp only [List.getD_cons_zero] at h0
   simp only [List.flatten_cons, List.length_append, List.length_cons, Nat.add_mul]
   omega
theorem Tn.sizes (hd : 1 < depth) : ∀ {a page : Nat} {s : Span} {L : List (List Int)} {P : List Nat}, Tn x W depth a page s L P → P.length + 1 ≤ 2 * L.length ∧ 2 ^ a ≤ L.length
 | 0, page, s, L, P, ⟨n, h1, h2, h3, h4⟩ => by
   subst h3; subst h4
   have := List.length_pos_iff.2 (h2.some_ hd)
   simp; omega
 | a + 1, page, s, L, P, ⟨n, Ls, Ps, h1, h2, ⟨k1, k2, k3, k4⟩, h4, h5⟩ => by
   subst h4; subst h5
   have i2 := (h2.inner (Nat.succ_pos _)).2
   obtain ⟨q1, q2⟩ := flat_sizes (Ps := Ps) (Ls := Ls) (m := 2 ^ a) (by omega) fun i hi => Tn.sizes hd (k4 i (by omega))
   have q3 : 2 * 2 ^ a ≤ Ls.length * 2 ^ a := Nat.mul_le_mul_right _ (by omega)
   rw [List.length_cons, Nat.pow_succ]
   omega
end
def pq (low : List Int) (strict : Bool) (r : List Int) : Bool := if strict then decide (cmpL low r < 0) else !decide (cmpL r low < 0)
theorem pq_below {low r : List Int} {strict : Bool} (h : ltR r low) : pq low strict r = false := by
 unfold pq
 cases strict with
 | true =>
   have : ¬ cmpL low r < 0 := fun q => ltR_irr r (ltR_trans h q)
   simpa using this
 | false => have : cmpL r low < 0 := h
            simp [this]
theorem pq_above {low r : List Int} {strict : Bool} (h : ltR low r) : pq low strict r = true := by
 unfold pq
 cases strict with
 | true => have : cmpL low r < 0 := h
           simp [this]
 | false =>
   have : ¬ cmpL r low < 0 := fun q => ltR_irr r (ltR_trans q h)
   simpa using this
theorem head_drop {p : List Int → Bool} : ∀ {l : List (List Int)} {j : Nat}, j ≤ l.length → (∀ i, i < j → p (l.getD i []) = false) → (∀ i, j ≤ i → i < l.length → p (l.getD i []) = true) → l.filter p = l.drop j
 | [], j, h, _, _ => by simp
 | a :: l, 0, _, _, h3 => by
   have h0 := h3 0 (Nat.le_refl _) (by simp)
   have ih := head_drop (p := p) (l := l) (j := 0) (Nat.zero_le _) (fun i hi => by omega) fun i _ hi => by simpa using h3 (i + 1) (by omega) (by simpa using hi)
   simp only [List.getD_cons_zero] at h0
   rw [List.filter_cons, h0, if_pos rfl, ih]; rfl
 | a :: l, j + 1, h, h2, h3 => by
   have h0 := h2 0 (by omega)
   simp only [List.getD_cons_zero] at h0
   have ih := head_drop (p := p) (l := l) (j := j) (by simpa using h) (fun i hi => by simpa using h2 (i + 1) (by omega)) fun i hi hl => by simpa using h3 (i + 1) (by omega) (by simpa using hl)
   rw [List.filter_cons, h0, if_neg (by simp), ih]; rfl
theorem leaf_head {rows : List (List Int)} {low : List Int} {strict : Bool} (h : rises rows = true) : leafAt rows low strict = (rows.filter (pq low strict)).head? := by
 have hb := below_leT low rows
 have key : ∀ j : Nat, below low rows + (if sameAt rows low && strict then 1 else 0) = j → rows.filter (pq low strict) = rows.drop j := by
  intro j hj
  refine head_drop ?_ (fun i hi => ?_) fun i hi hl => ?_
  ·cases hs : sameAt rows low with
   | false => rw [hs] at hj; simp at hj; omega
   | true =>
     have := (sameAt_iff.1 hs).1
     split at hj <;> omega
  ·by_cases q : i < below low rows
   ·exact pq_below (below_lo q)
   ·cases hs : sameAt rows low with
    | false => rw [hs] at hj; simp at hj; omega
    | true =>
      cases hst : strict with
      | false => rw [hs, hst] at hj; simp at hj; omega
      | true =>
        rw [hs, hst] at hj
        have hib : i = below low rows := by simp at hj; omega
        rw [hib, (sameAt_iff.1 hs).2]
        unfold pq
        have : ¬ cmpL low low < 0 := ltR_irr low
        simpa using this
  ·have hbi : below low rows ≤ i := by omega
   have h1 : ¬ ltR (rows.getD i []) low := by
    intro q
    rcases Nat.lt_or_ge (below low rows) i with u | u
    ·have := rises_down h low (below low rows) i (by omega) hl q
     exact below_hi (ll := low) (ls := rows) (by omega) this
    ·have : i = below low rows := by omega
     rw [this] at q
     exact below_hi (ll := low) (ls := rows) (by omega) q
   cases hst : strict with
   | false =>
     unfold pq
     have : ¬ cmpL (rows.getD i []) low < 0 := h1
     simpa using this
   | true =>
     refine pq_above ?_
     rcases ltR_tri low (rows.getD i []) with u | u | u
     ·exact u
     ·exfalso
      cases hs : sameAt rows low with
      | true =>
        rw [hs, hst] at hj
        have hlt : below low rows < i := by simp at hj; omega
        have := rises_lt h hlt hl
        rw [(sameAt_iff.1 hs).2, ← u] at this
        exact ltR_irr low this
      | false =>
        rcases Nat.lt_or_ge (below low rows) i with v | v
        ·have := rises_lt h v hl
         rw [← u] at this
         exact below_hi (ll := low) (ls := rows) (by omega) this
        ·have e : i = below low rows := by omega
         have := (sameAt_iff (ls := rows) (l := low)).2 ⟨by omega, by rw [← e]; exact u.symm⟩
         rw [this] at hs; cases hs
     ·exact absurd u h1
 unfold leafAt
 rw [key _ rfl, List.head?_drop]
theorem goK_head {f : Nat → Nat × Option (Option (List Int))} {p : List Int → Bool} {Ls : List (List (List Int))} : ∀ (k i : Nat), i + k = Ls.length → (∀ j, i ≤ j → j < Ls.length → (f j).2 = some (((Ls.getD j []).filter p).head?)) → (goK f i k).2 = some (((Ls.drop i).flatten.filter p).head?)
 | 0, i, h, _ => by
   unfold goK
   rw [List.drop_of_length_le (by omega)]; rfl
 | k + 1, i, h, hf => by
   have h0 := hf i (Nat.le_refl _) (by omega)
   have ed : Ls.drop i = Ls.getD i [] :: Ls.drop (i + 1) := by
    rw [List.drop_eq_getElem_cons (by omega), List.getD, List.getElem?_eq_getElem (by omega)]; rfl
   rw [ed, List.flatten_cons, List.filter_append, List.head?_append]
   by_cases hn : (f i).2 = some none
   ·rw [goK_nextT hn, goK_head k (i + 1) (by omega) fun j hj hl => hf j (by omega) hl]
    rw [h0] at hn
    have : ((Ls.getD i []).filter p).head? = none := by simpa using hn
    rw [this]; rfl
   ·rw [goK_stopT hn, h0]
    rw [h0] at hn
    cases hq : ((Ls.getD i []).filter p).head? with
    | none => rw [hq] at hn; exact absurd rfl hn
    | some y => rfl
theorem Tn.find {x : St} {W depth : Nat} {low : List Int} {strict : Bool} : ∀ {a page : Nat} {s : Span} {L : List (List Int)} {P : List Nat}, Tn x W depth a page s L P → (x.find W depth low strict a page s).2 = some ((L.filter (pq low strict)).head?)
 | 0, page, s, L, P, ⟨n, h1, h2, h3, h4⟩ => by
   unfold St.find
   rw [h1, h3]
   show some (leafAt n.rows low strict) = _
   rw [leaf_head (holds_rises h2.holds)]
 | a + 1, page, s, L, P, ⟨n, Ls, Ps, h1, h2, ⟨k1, k2, k3, k4⟩, h4, h5⟩ => by
   unfold St.find
   rw [h1]
   show (goK _ _ _).2 = _
   have hc := child_le (n := n) (l := low)
   have hr := holds_rises h2.holds
   rw [goK_head (p := pq low strict) (Ls := Ls) (n.kids.length - n.child low) (n.child low) (by omega) fun j hj hl => Tn.find (k4 j (by omega)), h4]
   have ed : Ls.flatten = (Ls.take (n.child low)).flatten ++ (Ls.drop (n.child low)).flatten := by rw [← List.flatten_append, List.take_append_drop]
   rw [ed, List.filter_append]
   have e0 : ((Ls.take (n.child low)).flatten).filter (pq low strict) = [] := by
    rw [List.filter_eq_nil_iff]
    intro y hy
    obtain ⟨i, hi, hm⟩ := mem_flatI hy
    rw [List.length_take] at hi
    have hm : y ∈ Ls.getD i [] := by
     rw [List.getD, List.getElem?_take, if_pos (by omega)] at hm
     exact hm
    have hy := ((k4 i (by omega)).rows.2 y hm).1
    have e1 : (s.of n i).high = some (n.rows.getD i []) := if_pos (by omega)
    have h6 := hy.2 _ e1
    have h7 : ¬ ltR low (n.rows.getD i []) := by
     intro q
     by_cases hb : i < below low n.rows
     ·exact ltR_irr low (ltR_trans q (below_lo hb))
     ·have hci : i < n.child low := by omega
      unfold Nd.child at hci
      split at hci
      ·rename_i hs
       obtain ⟨s1, s2⟩ := sameAt_iff.1 hs
       have : i = below low n.rows := by omega
       rw [this, s2] at q
       exact ltR_irr low q
      ·omega
    rw [pq_below (lt_le h6 h7)]; simp
   rw [e0]; rfl
open Go.MapKept
theorem shrT (n k : Nat) (hk : k ≤ 64) : ishr .i64 (n : Int) (k : Int) = ((n / 2 ^ k : Nat) : Int) := by
 unfold ishr
 have : min (k : Int).toNat IntKind.i64.bits = k := by
  show min (k : Int).toNat 64 = k
  omega
 rw [this, Int.fdiv_eq_ediv_of_nonneg _ (Int.pow_nonneg (by decide)), Int.natCast_ediv, Int.natCast_pow]
 rfl
theorem orT {k r b : Nat} (hb : b < 2 ^ k) (h : 2 ^ k * r + b < 9223372036854775808) : ior .i64 ((2 ^ k * r : Nat) : Int) (b : Int) = ((2 ^ k * r + b : Nat) : Int) := by
 unfold ior
 have hor := Nat.two_pow_add_eq_or_of_lt (i := k) (b := b) hb r
 have hb64 : IntKind.i64.bits = 64 := rfl
 have e3 : (BitVec.ofInt IntKind.i64.bits ((2 ^ k * r : Nat) : Int) ||| BitVec.ofInt IntKind.i64.bits ((b : Nat) : Int)).toNat = 2 ^ k * r + b := by
  rw [BitVec.ofInt_natCast, BitVec.ofInt_natCast, BitVec.toNat_or, BitVec.toNat_ofNat, BitVec.toNat_ofNat, hb64, Nat.mod_eq_of_lt (by omega), Nat.mod_eq_of_lt (by omega)]
  exact hor.symm
 rw [e3]
 exact wrap64 (by omega) (by omega)
theorem shlT {x k : Nat} (hk : k ≤ 24) (hx : x < 256) : ishl .i64 (IntKind.i64.wrap (x : Int)) (k : Int) = ((2 ^ k * x : Nat) : Int) := by
 unfold ishl
 have : min (k : Int).toNat IntKind.i64.bits = k := by
  show min (k : Int).toNat 64 = k
  omega
 have hp : 2 ^ k ≤ 2 ^ 24 := Nat.pow_le_pow_right (by decide) hk
 have hm : 2 ^ k * x ≤ 2 ^ 24 * 255 := Nat.mul_le_mul hp (by omega)
 have e1 : ((x : Int) * 2 ^ k) = ((2 ^ k * x : Nat) : Int) := by rw [Int.natCast_mul, Int.natCast_pow, Int.mul_comm]; rfl
 rw [this, wrap64 (x := (x : Int)) (by omega) (by omega), e1]
 exact wrap64 (by omega) (by omega)
theorem or_fourT {a b c d : Nat} (ha : a < 256) (hb : b < 256) (hc : c < 256) (hd : d < 256) :
  ior .i64 (ior .i64 (ior .i64 (ishl .i64 (IntKind.i64.wrap (a : Int)) 24) (ishl .i64 (IntKind.i64.wrap (b : Int)) 16)) (ishl .i64 (IntKind.i64.wrap (c : Int)) 8)) (IntKind.i64.wrap (d : Int)) = ((((a * 256 + b) * 256 + c) * 256 + d : Nat) : Int) := by
 have s1 := shlT (k := 24) (by decide) ha
 have s2 := shlT (k := 16) (by decide) hb
 have s3 := shlT (k := 8) (by decide) hc
 have s4 : IntKind.i64.wrap (d : Int) = (d : Int) := wrap64 (by omega) (by omega)
 have h24 : (2 : Nat) ^ 24 = 16777216 := by decide
 have h16 : (2 : Nat) ^ 16 = 65536 := by decide
 have h8 : (2 : Nat) ^ 8 = 256 := by decide
 rw [h24] at s1; rw [h16] at s2; rw [h8] at s3
 rw [show ((24 : Int)) = ((24 : Nat) : Int) from rfl, show ((16 : Int)) = ((16 : Nat) : Int) from rfl, show ((8 : Int)) = ((8 : Nat) : Int) from rfl, s1, s2, s3, s4]
 have o1 := orT (k := 24) (r := a) (b := 65536 * b) (by rw [h24]; omega) (by rw [h24]; omega)
 rw [h24] at o1
 rw [o1]
 have o2 := orT (k := 16) (r := 256 * a + b) (b := 256 * c) (by rw [h16]; omega) (by rw [h16]; omega)
 rw [h16] at o2
 rw [show (16777216 * a + 65536 * b : Nat) = 65536 * (256 * a + b) by omega, o2]
 have o3 := orT (k := 8) (r := 65536 * a + 256 * b + c) (b := d) (by rw [h8]; omega) (by rw [h8]; omega)
 rw [h8] at o3
 rw [show (65536 * (256 * a + b) + 256 * c : Nat) = 256 * (65536 * a + 256 * b + c) by omega, o3]
 congr 1
 omega
theorem or_twoT {a b : Nat} (ha : a < 256) (hb : b < 256) : ior .i64 (ishl .i64 (IntKind.i64.wrap (a : Int)) 8) (IntKind.i64.wrap (b : Int)) = ((a * 256 + b : Nat) : Int) := by
 have h8 : (2 : Nat) ^ 8 = 256 := by decide
 have s1 := shlT (k := 8) (by decide) ha
 rw [h8] at s1
 have o3 := orT (k := 8) (r := a) (b := b) (by rw [h8]; omega) (by rw [h8]; omega)
 rw [h8] at o3
 rw [show ((8 : Int)) = ((8 : Nat) : Int) from rfl, s1, wrap64 (x := (b : Int)) (by omega) (by omega), o3]
 congr 1; omega
theorem u8iD (b : List UInt8) (i : Nat) : (u8i b).getD i 0 = ((b.getD i 0).toNat : Int) := by
 unfold u8i
 simp only [List.getD, List.getElem?_map]
 cases b[i]? <;> rfl
theorem tnumber_ok {sl : Sl} {b : List UInt8} {H : Heap} {K : Int → Heap → Prop} (h : Byts H sl b) (hl : 4 ≤ b.length) (hK : K (of4 b : Int) H) : Zdv.sp sl H K := by
 refine Zdv.of ?_
 unfold Zdv.vc
 have hu : (u8i b).length = b.length := u8i_length b
 refine ints_get h (j := 0) rfl (by omega) fun ad0 a0 => ?_
 refine ints_get h (j := 1) rfl (by omega) fun ad1 a1 => ?_
 refine ints_get h (j := 2) rfl (by omega) fun ad2 a2 => ?_
 refine ints_get h (j := 3) rfl (by omega) fun ad3 a3 => ?_
 rw [u8iD, u8iD, u8iD, u8iD, or_fourT (UInt8.toNat_lt _) (UInt8.toNat_lt _) (UInt8.toNat_lt _) (UInt8.toNat_lt _)]
 exact hK
theorem tbytes_ok {n : Nat} {H : Heap} {K : Sl → Heap → Prop} (hK : ∀ p H', Byts H' ⟨some p, 4, 4⟩ (be4 n) → Ext H H' → p.block = H.size → K ⟨some p, 4, 4⟩ H') : ZdF.sp (n : Int) H K := by
 refine ZdF.of ?_
 unfold ZdF.vc
 have e24 : ishr .i64 (n : Int) 24 = ((n / 16777216 : Nat) : Int) := shrT n 24 (by decide)
 have e16 : ishr .i64 (n : Int) 16 = ((n / 65536 : Nat) : Int) := shrT n 16 (by decide)
 have e8 : ishr .i64 (n : Int) 8 = ((n / 256 : Nat) : Int) := shrT n 8 (by decide)
 rw [e24, e16, e8, wrap8, wrap8, wrap8, wrap8]
 have ev : #[Value.int .u8 ((UInt8.ofNat (n / 16777216)).toNat : Int), Value.int .u8 ((UInt8.ofNat (n / 65536)).toNat : Int), Value.int .u8 ((UInt8.ofNat (n / 256)).toNat : Int), Value.int .u8 ((UInt8.ofNat n).toNat : Int)] = ((u8i (be4 n)).map (Value.int .u8)).toArray := rfl
 rw [ev]
 exact newC_ints _ fun p H' z q a e => hK p H' (a 4) e q
structure Tr where
 name : ByteArray
 width : Int
 root : Int
 depth : Int
 count : Int
 wrong : Int
 gone : Bool
def treV (p : Nat) (t : Tr) : List Value := [.pointer (at0 p), .string t.name, .int .i64 t.width, .int .i64 t.root, .int .i64 t.depth, .int .i64 t.count, .int .i64 t.wrong, .bool t.gone]
abbrev TreeB (H : Heap) (k p : Nat) (t : Tr) : Prop := RowT H k YaD (treV p t).toArray
section
variable {H : Heap} {k p dp : Nat} {t : Tr} {F : Nat → Prop} {s : Pl} {n : ByteArray} {q : Nat} {I : Pl → St → Nat → Prop} {B C : Pl → Int → Prop} {x : St} {m : Nat}
set_option maxHeartbeats 1000000 in
theorem tlook_raw {g : Int} {K : (Int × Sl × Int) → Heap → Prop} (hg : Gl H) (h : TreeB H k p t) (hp : PoolAt F H p dp s) (hk : ¬ F k) (hg0 : 0 ≤ g ∧ g ≤ 9223372036854775807)
  (hn : t.name.size ≤ 9223372036854775807) (hlogs : s.d.logs < 68719470000) (hnx : s.next < 1099511627776) (h0 : 0 ≤ s.next)
  (hK : ∀ F' H' sl, PoolAt F' H' p dp (s.look t.name g).1 → Step F F' H H' → SlE EB YaS H' sl (s.look t.name g).2.2.1 → (∀ q, ownB sl q → H.size ≤ q ∧ ¬ F' q) → K (((s.look t.name g).2.1.toNat : Int), sl, (s.look t.name g).2.2.2) H') : ZcF.sp (at0 k) g H K := by
 have hkl := obj_lt h
 refine ZcF.of ?_
 unfold ZcF.vc
 simp only [optK_eq, at0]
 refine RowT.ld (c := cPtr) (i := 0) (x := at0 p) h rfl ?_
 refine RowT.ld (c := cStr) (i := 1) (x := t.name) h rfl ?_
 refine Pin_ok hg hp hn (by omega) hg0.2 (by omega) (by omega) fun F1 H1 p1 S1 => ?_
 have hg1 : Gl H1 := hg.mod S1.mod hp.glob
 have h1 : TreeB H1 k p t := h.mod S1.mod hk
 have hnx1 : (s.pin t.name g).1.next ≤ s.next + 1 := s.pin_next h0 hnx
 unfold Pl.look at hK
 generalize hs1 : (s.pin t.name g).1 = s1 at *
 generalize hr : (s.pin t.name g).2.1 = hd at *
 generalize he : (s.pin t.name g).2.2 = e at *
 refine br_mk (fun hc => ?_) (fun hc => ?_)
 ·have e0 : e ≠ 0 := by simpa using hc
  rw [if_pos e0] at hK
  exact hK F1 H1 _ p1 S1 (SlE.nil _ _ _) (fun q ⟨ad, ha, _⟩ => by cases ha)
 ·have e0 : ¬ e ≠ 0 := by simpa using hc
  rw [if_neg e0] at hK
  refine RowT.ld (c := cPtr) (i := 0) (x := at0 p) h1 rfl ?_
  refine Get_ok p1 fun sl H2 o2 e2 f2 => ?_
  have p2 := p1.ext e2
  have hg2 : Gl H2 := hg1.mod e2 id
  have h2 : TreeB H2 k p t := h1.ext e2
  have S2 : Step F F1 H H2 := S1.trans ⟨e2.mod, fun b hb => .inl hb⟩
  have hz1 := S1.mod.size
  generalize hs2 : s1.get hd = r at *
  refine br_mk (fun hc2 => ?_) (fun hc2 => ?_)
  ·have e3 : ¬ r.2.2 ≠ 0 := by simpa using hc2
   rw [if_neg e3] at hK
   refine RowT.ld (c := cPtr) (i := 0) (x := at0 p) h2 rfl ?_
   refine Unpin_ok hg2 p2 (by omega) fun F3 H3 p3 S3 => ?_
   have hlt := o2.lt
   refine hK F3 H3 sl p3 (S2.trans S3) (o2.keep fun q hq hl => S3.mod.same q hl fun r => by have := p1.lt q r; have := f2 q hq; omega) (fun q hq => ?_)
   have q1 := f2 q hq
   refine ⟨by omega, fun r => ?_⟩
   rcases S3.own q r with r | r
   ·have := p1.lt q r; omega
   ·have := hlt q hq; omega
  ·have e3 : r.2.2 ≠ 0 := by simpa using hc2
   rw [if_pos e3] at hK
   refine hK F1 H2 sl p2 S2 o2 (fun q hq => ?_)
   have q1 := f2 q hq
   exact ⟨by omega, fun r => by have := p1.lt q r; omega⟩
theorem tlook_ok {g : Nat} {K : (Int × Sl × Int) → Heap → Prop} (S : Store t.name q I B C) (hI : I s x m) (hm : m < 30000000000) (hg : Gl H) (h : TreeB H k p t) (hp : PoolAt F H p dp s) (hk : ¬ F k) (hg0 : g ≤ 1000000000000)
  (hK1 : g < x.N → ∀ F' H' s' sl, PoolAt F' H' p dp s' → Step F F' H H' → I s' x (m + 1) → SlE EB YaS H' sl (x.T g).2 → (∀ q, ownB sl q → H.size ≤ q ∧ ¬ F' q) → K (((x.T g).1.toNat : Int), sl, 0) H')
  (hK2 : x.N ≤ g → ∀ F' H' s' v sl, PoolAt F' H' p dp s' → Step F F' H H' → I s' x (m + 1) → K (v, sl, 12) H')
  (hK3 : ∀ F' H' s' v sl e, PoolAt F' H' p dp s' → Step F F' H H' → C s' e → K (v, sl, e) H') : ZcF.sp (at0 k) (g : Int) H K := by
 obtain ⟨b1, b2, b3, b4, b5, b6⟩ := S.pre hI
 refine tlook_raw hg h hp hk (by omega) S.name (by omega) (by omega) b2 fun F' H' sl p1 S1 o1 f1 => ?_
 rcases Nat.lt_or_ge g x.N with hgn | hgn
 ·rcases S.look hI hm hgn with ⟨e, hI'⟩ | hC
  ·rw [e] at o1 ⊢
   exact hK1 hgn F' H' _ sl p1 S1 hI' o1 f1
  ·exact hK3 F' H' _ _ sl _ p1 S1 hC
 ·rcases S.far hI hm hgn with ⟨e, hI'⟩ | hC
  ·rw [e]
   exact hK2 hgn F' H' _ _ sl p1 S1 hI'
  ·exact hK3 F' H' _ _ sl _ p1 S1 hC
end
theorem midT {i j : Nat} (h : i + j < 4611686018427387904) : IntKind.i64.wrap (ishr .u64 (IntKind.u64.wrap (IntKind.i64.wrap ((i : Int) + (j : Int)))) 1) = (((i + j) / 2 : Nat) : Int) := by
 have e1 : IntKind.i64.wrap ((i : Int) + (j : Int)) = ((i + j : Nat) : Int) := by rw [wrap64 (by omega) (by omega)]; omega
 have e2 : IntKind.u64.wrap ((i + j : Nat) : Int) = ((i + j : Nat) : Int) := by rw [IntKind.wrap_u64]; omega
 rw [e1, e2]
 have e3 : ishr .u64 ((i + j : Nat) : Int) 1 = (((i + j) / 2 : Nat) : Int) := by
  unfold ishr
  rw [show (min (1 : Int).toNat IntKind.u64.bits) = 1 from rfl, Int.fdiv_eq_ediv_of_nonneg _ (by decide)]
  rfl
 rw [e3, wrap64 (by omega) (by omega)]
def Off (F : Nat → Prop) (H : Heap) (s : Sl) : Prop := ∀ ad, s.a = some ad → ad.block < H.size ∧ ¬ F ad.block
theorem Off.step {F F' : Nat → Prop} {H H' : Heap} {s : Sl} (h : Off F H s) (S : Step F F' H H') : Off F' H' s := fun ad ha => by
 obtain ⟨h1, h2⟩ := h ad ha
 refine ⟨Nat.lt_of_lt_of_le h1 S.mod.size, fun q => ?_⟩
 rcases S.own _ q with r | r
 ·exact h2 r
 ·omega
theorem Step.ofExt {F : Nat → Prop} {H H' : Heap} (e : Ext H H') : Step F F H H' := ⟨e.mod, fun _ h => .inl h⟩
theorem Step.with {F F' : Nat → Prop} {H H' : Heap} (S : Step F F' H H') (nb : Nat) : Step (fun b => F b ∨ b = nb) (fun b => F' b ∨ b = nb) H H' :=
 ⟨S.mod.mono fun _ _ h => .inl h, fun b hb => by
  rcases hb with q | q
  ·exact (S.own b q).imp .inl id
  ·exact .inl (.inr q)⟩
theorem Off.ints {F F' : Nat → Prop} {H H' : Heap} {s : Sl} {k : IntKind} {l : List Int} (h : Off F H s) (hi : Ints k H s l) (S : Step F F' H H') : Ints k H' s l := hi.mod S.mod fun ad ha => (h ad ha).2
theorem Off.mono {F G : Nat → Prop} {H : Heap} {s : Sl} (h : Off F H s) (hs : ∀ b, b < H.size → G b → F b) : Off G H s := fun ad ha => ⟨(h ad ha).1, fun q => (h ad ha).2 (hs _ (h ad ha).1 q)⟩
def OffI (F : Nat → Prop) (H : Heap) (s : Sl) (l : List Int) : Prop := l ≠ [] → Off F H s
theorem Off.toI {F : Nat → Prop} {H : Heap} {s : Sl} (h : Off F H s) (l : List Int) : OffI F H s l := fun _ => h
theorem OffI.step {F F' : Nat → Prop} {H H' : Heap} {s : Sl} {l : List Int} (h : OffI F H s l) (S : Step F F' H H') : OffI F' H' s l := fun u => (h u).step S
theorem OffI.ints {F F' : Nat → Prop} {H H' : Heap} {s : Sl} {k : IntKind} {l : List Int} (h : OffI F H s l) (hi : Ints k H s l) (S : Step F F' H H') : Ints k H' s l := by
 by_cases e : l = []
 ·subst e; exact ⟨hi.len, Reads.nil _ _⟩
 ·exact (h e).ints hi S
structure RowsN (F : Nat → Prop) (H : Heap) (s : Sl) (ls : List (List Int)) : Prop where
 len : s.n = ls.length
 off : Off F H s
 at' : ∀ i (h : i < ls.length), ∃ ad r, s.a = some ad ∧ hCell H (ad.add i) = some (Sl.v r) ∧ Off F H r ∧ Ints .u64 H r ls[i]
theorem RowsN.step {F F' : Nat → Prop} {H H' : Heap} {s : Sl} {ls : List (List Int)} (h : RowsN F H s ls) (S : Step F F' H H') : RowsN F' H' s ls := ⟨h.len, h.off.step S, fun i hi => by
 obtain ⟨ad, r, q1, q2, q4, q5⟩ := h.at' i hi
 exact ⟨ad, r, q1, S.mod.cell q2 (by rw [add_block]; exact (h.off ad q1).2), q4.step S, q4.ints q5 S⟩⟩
theorem RowsN.mono {F G : Nat → Prop} {H : Heap} {s : Sl} {ls : List (List Int)} (h : RowsN F H s ls) (hs : ∀ b, b < H.size → G b → F b) : RowsN G H s ls := ⟨h.len, h.off.mono hs, fun i hi => by
 obtain ⟨ad, r, q1, q2, q4, q5⟩ := h.at' i hi
 exact ⟨ad, r, q1, q2, q4.mono hs, q5⟩⟩
theorem RowsOwn.rowsN {F : Nat → Prop} {H : Heap} {base : Nat} {s : Sl} {rs : List Sl} {ls : List (List Int)} (h : RowsOwn H base s rs ls) (hF : ∀ b, base ≤ b → ¬ F b) : RowsN F H s ls := by
 obtain ⟨b1, b2⟩ := h.block
 refine ⟨h.n, fun ad ha => ?_, fun i hi => ?_⟩
 ·have := b1 _ ⟨ad, ha, rfl⟩
  exact ⟨this.2, hF _ this.1⟩
 ·have hir : i < rs.length := by rw [h.len]; exact hi
  obtain ⟨ad, ha, hc⟩ := h.out.reads.at (i := i) (by simpa using hir)
  exact ⟨ad, rs[i], ha, by simpa using hc, fun ad' ha' => by
   have := b2 _ (List.getElem_mem hir) _ ⟨ad', ha', rfl⟩
   exact ⟨this.2, hF _ this.1⟩, (h.row i _ _ (List.getElem?_eq_getElem hir) (List.getElem?_eq_getElem hi)).ints⟩
theorem RowsN.ld {F : Nat → Prop} {H : Heap} {s : Sl} {ls : List (List Int)} (h : RowsN F H s ls) {i : Nat} (hi : i < ls.length) {K : Addr → Sl → Prop} (hK : ∀ ad r, s.a = some ad → Off F H r → Ints .u64 H r (ls.getD i []) → K ad r) :
  optK s.a fun a => (0 ≤ (i : Int) ∧ (i : Int) < (s.n : Int)) ∧ ld cSl H (a.add ((i : Int).toNat * 1)) fun x => K a x := by
 obtain ⟨ad, r, e, hc, ho, hr⟩ := h.at' i hi
 rw [getDo hi] at hK
 refine optK_mk ad e ⟨⟨by omega, by rw [h.len]; omega⟩, r, ?_, hK ad r e ho hr⟩
 simp only [Int.toNat_natCast, Nat.mul_one]
 exact hc
theorem RowsN.ldX {F : Nat → Prop} {H A : Heap} {s : Sl} {ls : List (List Int)} (h : RowsN F H s ls) (e' : Ext H A) {i : Nat} (hi : i < ls.length) {K : Addr → Sl → Prop} (hK : ∀ ad r, s.a = some ad → hCell H (ad.add i) = some (Sl.v r) → Off F H r → Ints .u64 H r (ls.getD i []) → K ad r) :
  optK s.a fun a => (0 ≤ (i : Int) ∧ (i : Int) < (s.n : Int)) ∧ Go.Proofs.YtlockeegebnofaaGreatDoor.ld cSl A (a.add ((i : Int).toNat * 1)) fun x => K a x := by
 obtain ⟨ad, r, e, hc, ho, hr⟩ := h.at' i hi
 rw [getDo hi] at hK
 refine optK_mk ad e ⟨⟨by omega, by rw [h.len]; omega⟩, r, ?_, hK ad r e hc ho hr⟩
 simp only [Int.toNat_natCast, Nat.mul_one]
 exact e'.cell hc id
def LowAt (F : Nat → Prop) (H : Heap) (a : Sl) (o : Option (List Int)) : Prop := match o with | none => a.a = none | some l => a.a ≠ none ∧ Off F H a ∧ Ints .u64 H a l
structure SpanAt (F : Nat → Prop) (H : Heap) (a b : Sl) (sp : Span) : Prop where
 low : LowAt F H a sp.low
 high : LowAt F H b sp.high
theorem LowAt.step {F F' : Nat → Prop} {H H' : Heap} {a : Sl} {o : Option (List Int)} (h : LowAt F H a o) (S : Step F F' H H') : LowAt F' H' a o := by
 unfold LowAt at h ⊢
 cases o with
 | none => exact h
 | some l => exact ⟨h.1, h.2.1.step S, h.2.1.ints h.2.2 S⟩
theorem SpanAt.step {F F' : Nat → Prop} {H H' : Heap} {a b : Sl} {sp : Span} (h : SpanAt F H a b sp) (S : Step F F' H H') : SpanAt F' H' a b sp := ⟨h.low.step S, h.high.step S⟩
section
variable {F : Nat → Prop} {H : Heap} {a b sl : Sl} {sp : Span} {ls : List (List Int)}
theorem tup_ok {pb : Nat} {t : TypeId} {K : Bool → Heap → Prop} (hp : RowT H pb t #[a.v, b.v]) (hb : LowAt F H b sp.high) (hr : RowsN F H sl ls) (hc : ∀ l ∈ ls, l.length ≤ 16) (h0 : 0 < ls.length) (hn : ls.length ≤ 1000000) (hK : K (sp.lt (ls.getD (ls.length - 1) [])) H) :
  ld cSl H (Addr.add ⟨pb, 0, none⟩ 1) fun (x_3 : Sl) => br x_3.a.isNone (K true H) (optK sl.a fun a_2 => (0 ≤ (IntKind.i64.wrap ((sl.n : Int) - (1 : Int))) ∧ (IntKind.i64.wrap ((sl.n : Int) - (1 : Int))) < (sl.n : Int)) ∧ ld cSl H (a_2.add ((IntKind.i64.wrap ((sl.n : Int) - (1 : Int))).toNat * 1)) fun (x_4 : Sl) => ld cSl H (Addr.add ⟨pb, 0, none⟩ 1) fun (x_5 : Sl) => Zeb.sp x_4 x_5 H fun (r_1 : Int) H4 => K (decide (r_1 < (0 : Int))) H4) := by
 refine RowT.ld (c := cSl) (i := 1) (x := b) hp rfl ?_
 unfold LowAt at hb
 unfold Span.lt at hK
 cases hh : sp.high with
 | none =>
   rw [hh] at hb hK
   exact br_t (by rw [hb]; rfl) hK
 | some l =>
   rw [hh] at hb hK
   refine br_f (by cases q : b.a with | none => exact absurd q hb.1 | some _ => rfl) ?_
   have e1 : IntKind.i64.wrap ((sl.n : Int) - 1) = ((ls.length - 1 : Nat) : Int) := by rw [hr.len, wrap64 (by omega) (by omega)]; omega
   rw [e1]
   refine hr.ld (by omega) fun ad x ha ho hi => ?_
   refine RowT.ld (c := cSl) (i := 1) (x := b) hp rfl ?_
   have hlen : (ls.getD (ls.length - 1) []).length ≤ 16 := by rw [getDo (by omega)]; exact hc _ (List.getElem_mem _)
   exact rowCmp_ok hi hb.2.2 (by omega) hK
theorem tholds_ok {K : Bool → Heap → Prop} (hs : SpanAt F H a b sp) (hr : RowsN F H sl ls) (hc : ∀ l ∈ ls, l.length ≤ 16) (hn : ls.length ≤ 1000000) (hK : ∀ H', Ext H H' → K (sp.holds ls) H') : Zcj.sp a b sl H K := by
 refine Zcj.of ?_
 unfold Zcj.vc
 refine newC_rowT fun H1 z1 r1 e1 => ?_
 have hs1 := hs.step (.ofExt e1)
 have hr1 := hr.step (.ofExt e1)
 have hcol : ∀ i, i < ls.length → (ls.getD i []).length ≤ 16 := fun i hi => by rw [getDo hi]; exact hc _ (List.getElem_mem _)
 have hln := hr.len
 unfold Span.holds at hK
 have hK := hK H1 e1
 refine loop_upto ls.length (fun m z A => A = H1 ∧ z = ((m + 1 : Nat) : Int) ∧ ∀ j, j + 1 ≤ m → j + 1 < ls.length → cmpL (ls.getD j []) (ls.getD (j + 1) []) < 0) ⟨rfl, rfl, fun j hj => by omega⟩ ?_
 rintro m z A next hm ⟨rfl, rfl, hlo⟩ hnext
 refine br_mk (fun hcc => ?_) (fun hcc => ?_)
 ·have hlt : m + 1 < ls.length := by have : ((m + 1 : Nat) : Int) < (sl.n : Int) := by simpa using hcc
                                     omega
  have e2 : IntKind.i64.wrap (((m + 1 : Nat) : Int) - 1) = (m : Int) := by rw [wrap64 (by omega) (by omega)]; omega
  rw [e2]
  refine hr1.ld (by omega) fun ad x ha ho hi => ?_
  refine hr1.ld hlt fun ad2 x2 ha2 ho2 hi2 => ?_
  refine rowCmp_ok hi hi2 (by have := hcol m (by omega); omega) ?_
  refine br_mk (fun hc2 => ?_) (fun hc2 => ?_)
  ·have hge : cmpL (ls.getD m []) (ls.getD (m + 1) []) ≥ 0 := by simpa using hc2
   have hf : rises ls = false := by
    cases q : rises ls with
    | false => rfl
    | true => have := rises_iff.1 q m hlt; omega
   rw [hf] at hK
   exact hK
  ·have hlt2 : cmpL (ls.getD m []) (ls.getD (m + 1) []) < 0 := by have : ¬ cmpL (ls.getD m []) (ls.getD (m + 1) []) ≥ 0 := by simpa using hc2
                                                                  omega
   refine hnext (by omega) _ _ ⟨rfl, by rw [succ64 _ (by omega)], fun j hj hj2 => ?_⟩
   rcases Nat.lt_or_ge (j + 1) (m + 1) with q | q
   ·exact hlo j (by omega) hj2
   ·rw [show j = m by omega]; exact hlt2
 ·have hge : ¬ m + 1 < ls.length := by have : ¬ ((m + 1 : Nat) : Int) < (sl.n : Int) := by simpa using hcc
                                       omega
  have ht : rises ls = true := rises_iff.2 fun i hi => hlo i (by omega) hi
  rw [ht, Bool.true_and] at hK
  refine br_mk (fun hc2 => ?_) (fun hc2 => ?_)
  ·have e0 : ls = [] := List.eq_nil_of_length_eq_zero (by have : (sl.n : Int) = 0 := by simpa using hc2
                                                          omega)
   subst e0
   exact hK
  ·have h0 : 0 < ls.length := by have : ¬ (sl.n : Int) = 0 := by simpa using hc2
                                 omega
   have he : ls.isEmpty = false := by cases ls with | nil => simp at h0 | cons _ _ => rfl
   rw [he, Bool.false_or] at hK
   refine RowT.ld (c := cSl) (i := 0) (x := a) r1 rfl ?_
   have hlow := hs1.low
   unfold LowAt at hlow
   unfold Span.ge at hK
   cases hl : sp.low with
   | none =>
     rw [hl] at hlow hK
     refine br_t (by rw [hlow]; rfl) ?_
     exact tup_ok r1 hs1.high hr1 hc h0 hn hK
   | some l =>
     rw [hl] at hlow hK
     refine br_f (by cases q : a.a with | none => exact absurd q hlow.1 | some _ => rfl) ?_
     refine hr1.ld (i := 0) h0 fun ad x ha ho hi => ?_
     refine RowT.ld (c := cSl) (i := 0) (x := a) r1 rfl ?_
     refine rowCmp_ok hi hlow.2.2 (by have := hcol 0 h0; omega) ?_
     refine br_mk (fun hc3 => ?_) (fun hc3 => ?_)
     ·have hge2 : cmpL (ls.getD 0 []) l ≥ 0 := by simpa using hc3
      simp only [hge2, decide_true, Bool.true_and] at hK
      exact tup_ok r1 hs1.high hr1 hc h0 hn hK
     ·have hge2 : ¬ cmpL (ls.getD 0 []) l ≥ 0 := by simpa using hc3
      simp only [hge2, decide_false, Bool.false_and] at hK
      exact hK
structure NodeR (F : Nat → Prop) (H : Heap) (nb : Nat) (page : Int) (sk sr : Sl) (n : Nd) : Prop where
 row : RowT H nb YaC #[.int .i64 page, sk.v, sr.v]
 off : ¬ F nb
 kids : Ints .i64 H sk (n.kids.map Int.ofNat)
 kidsO : Off (fun b => F b ∨ b = nb) H sk
 rows : RowsN (fun b => F b ∨ b = nb) H sr n.rows
theorem NodeR.step {F F' : Nat → Prop} {H H' : Heap} {nb : Nat} {page : Int} {sk sr : Sl} {n : Nd} (h : NodeR F H nb page sk sr n) (S : Step F F' H H') : NodeR F' H' nb page sk sr n :=
 ⟨h.row.mod S.mod h.off, fun q => (S.own _ q).elim h.off fun r => by have := obj_lt h.row; omega, h.kidsO.ints h.kids (S.with nb), h.kidsO.step (S.with nb), h.rows.step (S.with nb)⟩
theorem zc_span : zc Tryz.prog YaA = #[.slice none 0 0, .slice none 0 0] := by kernel_rfl
theorem size_span : sizeB Tryz.prog YaA 2 = true := by kernel_rfl
set_option maxHeartbeats 1000000 in
theorem tof_ok {nb : Nat} {page : Int} {sk sr : Sl} {n : Nd} {i : Nat} {K : Sl × Sl → Heap → Prop} (hs : SpanAt F H a b sp) (hn : NodeR F H nb page sk sr n) (hnn : ∀ j, j < n.rows.length → ∀ ad r, sr.a = some ad → hCell H (ad.add j) = some (Sl.v r) → r.a ≠ none) (hi : i ≤ n.rows.length) (hbig : n.rows.length ≤ 1000000)
  (hK : ∀ x y H', Ext H H' → SpanAt F H' x y (sp.of n i) → K (x, y) H') : Zdg.sp a b (at0 nb) (i : Int) H K := by
 refine Zdg.of ?_
 unfold Zdg.vc
 rw [zc_span]
 refine newC_rowT fun H1 z1 r1 e1 => ?_
 refine newC_rowT fun H2 z2 r2 e2 => ?_
 simp only [optK_eq, at0]
 have e02 := e1.trans e2
 have n2 := hn.row.ext e02
 have r12 := r1.ext e2
 have hne : H.size ≠ H1.size := by omega
 refine ⟨fun _ A => ∃ x, RowT A H.size YaA #[x.v, b.v] ∧ Mod (fun q => q = H.size) H2 A ∧ LowAt F H x (sp.of n i).low, ?_, ?_⟩
 ·refine br_mk (fun hc => ?_) (fun hc => ?_)
  ·have h0 : 0 < i := by have : (i : Int) > 0 := by simpa using hc
                         omega
   refine RowT.ld (c := cSl) (i := 2) (x := sr) n2 rfl ?_
   have e3 : IntKind.i64.wrap ((i : Int) - 1) = ((i - 1 : Nat) : Int) := by rw [wrap64 (by omega) (by omega)]; omega
   rw [e3]
   refine hn.rows.ldX e02 (by omega) fun ad x ha hx ho hi2 => ?_
   refine RowT.st r12 (i := 0) (by simp) rfl fun H4 r4 m4 z4 => ?_
   refine ⟨x, r4, m4, ?_⟩
   have el : (sp.of n i).low = some (n.rows.getD (i - 1) []) := if_pos h0
   rw [el]
   exact ⟨hnn _ (by omega) _ _ ha hx, ho.mono fun _ _ q => .inl q, hi2⟩
  ·have h0 : ¬ 0 < i := by have : ¬ (i : Int) > 0 := by simpa using hc
                           omega
   refine ⟨a, r12, .refl _ _, ?_⟩
   have el : (sp.of n i).low = sp.low := if_neg h0
   rw [el]; exact hs.low
 ·rintro _ H3 ⟨x, r3, m3, l3⟩
  have e03 : Ext H H3 := ((Ext.mod (F := fun q => q = H.size) e02).trans m3).ext fun q hq => by omega
  have n3 := hn.row.ext e03
  have r23 : RowT H3 H1.size YaA #[.slice none 0 0, .slice none 0 0] := r2.mod m3 (by omega)
  refine ⟨fun _ A => ∃ y, RowT A H.size YaA #[x.v, y.v] ∧ Mod (fun q => q = H.size) H3 A ∧ LowAt F H y (sp.of n i).high, ?_, ?_⟩
  ·refine RowT.ld (c := cSl) (i := 2) (x := sr) n3 rfl ?_
   have hln := hn.rows.len
   refine br_mk (fun hc => ?_) (fun hc => ?_)
   ·have h0 : i < n.rows.length := by have : (i : Int) < (sr.n : Int) := by simpa using hc
                                      omega
    refine RowT.ld (c := cSl) (i := 2) (x := sr) n3 rfl ?_
    refine hn.rows.ldX e03 h0 fun ad y ha hy ho hi2 => ?_
    refine RowT.st r3 (i := 1) (by simp) rfl fun H4 r4 m4 z4 => ?_
    refine ⟨y, r4, m4, ?_⟩
    have el : (sp.of n i).high = some (n.rows.getD i []) := if_pos h0
    rw [el]
    exact ⟨hnn _ h0 _ _ ha hy, ho.mono fun _ _ q => .inl q, hi2⟩
   ·have h0 : ¬ i < n.rows.length := by have : ¬ (i : Int) < (sr.n : Int) := by simpa using hc
                                        omega
    refine ⟨b, r3, .refl _ _, ?_⟩
    have el : (sp.of n i).high = sp.high := if_neg h0
    rw [el]; exact hs.high
  ·rintro _ H5 ⟨y, r5, m5, l5⟩
   have e05 : Ext H H5 := ((Ext.mod (F := fun q => q = H.size) e03).trans m5).ext fun q hq => by omega
   have r25 := r23.mod m5 (by omega)
   refine RowT.ldA (c := cAgg [cSl, cSl]) (x := (x, y)) r5 rfl rfl ?_
   refine RowT.stAll r25 size_span rfl (by simp [Value.oneCell', Sl.v]) fun H7 r7 m7 z7 => ?_
   have e07 : Ext H H7 := ((Ext.mod (F := fun q => q = H1.size) e05).trans m7).ext fun q hq => by omega
   refine RowT.ldA (c := cAgg [cSl, cSl]) (x := (x, y)) r7 rfl rfl ?_
   exact hK x y H7 e07 ⟨l3.step (.ofExt e07), l5.step (.ofExt e07)⟩
theorem tbin_ok {low : Sl} {ll : List Int} {K : (Int × Bool) → Heap → Prop} (h : RowsN F H sl ls) (hl : Ints .u64 H low ll) (hd : rises ls = true) (hc : ∀ l ∈ ls, l.length ≤ 16) (hn : ls.length ≤ 1000000)
  (hK : K ((below ll ls : Int), sameAt ls ll) H) : Zac.sp sl low H K := by
 refine Zac.of ?_
 unfold Zac.vc
 have hd := rises_down hd ll
 refine loop_upto ls.length (fun m z A => A = H ∧ ∃ i j : Nat, z = ((i : Int), (j : Int)) ∧ i ≤ j ∧ j ≤ ls.length ∧ j - i + m ≤ ls.length ∧ (∀ x, x < i → cmpL (ls.getD x []) ll < 0) ∧ ∀ x, j ≤ x → x < ls.length → ¬ cmpL (ls.getD x []) ll < 0) ?_ ?_
 ·refine ⟨rfl, 0, ls.length, ?_, Nat.zero_le _, Nat.le_refl _, by omega, fun x hx => by omega, fun x h1 h2 => by omega⟩
  rw [h.len]; rfl
 rintro m _ A next hm ⟨rfl, i, j, rfl, hij, hjN, hmn, hlo, hhi⟩ hnext
 refine br_mk (fun hcc => ?_) (fun hcc => ?_)
 ·have hlt : i < j := by have : (i : Int) < (j : Int) := by simpa using hcc
                         omega
  have hmid := midT (i := i) (j := j) (by omega)
  simp only
  rw [hmid]
  have hh2 : (i + j) / 2 < ls.length := by omega
  refine h.ld hh2 fun ad x ha _ hx => ?_
  have hcol := hc _ (List.getElem_mem hh2)
  rw [← getDo hh2] at hcol
  refine rowCmp_ok hx hl (by omega) ?_
  refine br_mk (fun hc2 => ?_) (fun hc2 => ?_)
  ·have e : cmpL (ls.getD ((i + j) / 2) []) ll < 0 := by simpa using hc2
   refine hnext (by omega) _ _ ⟨rfl, (i + j) / 2 + 1, j, ?_, by omega, hjN, by omega, fun y hy => hd y ((i + j) / 2) (by omega) hh2 e, hhi⟩
   rw [succ64 _ (by omega)]
  ·have e : ¬ cmpL (ls.getD ((i + j) / 2) []) ll < 0 := by simpa using hc2
   exact hnext (by omega) _ _ ⟨rfl, i, (i + j) / 2, rfl, by omega, by omega, by omega, hlo, fun y h1 h2 q => e (hd ((i + j) / 2) y h1 h2 q)⟩
 ·have hge : ¬ i < j := by have : ¬ (i : Int) < (j : Int) := by simpa using hcc
                           omega
  have eij : i = j := by omega
  subst eij
  have eb : below ll ls = i := belowT hjN hlo fun hx => hhi i (Nat.le_refl _) hx
  refine br_mk (fun hc2 => ?_) (fun hc2 => ?_)
  ·have hil : i < ls.length := by have : (i : Int) < (sl.n : Int) := by simpa using hc2
                                  rw [h.len] at this; omega
   refine h.ld hil fun ad x ha _ hx => ?_
   have hcol := hc _ (List.getElem_mem hil)
   rw [← getDo hil] at hcol
   refine rowCmp_ok hx hl (by omega) ?_
   have es : sameAt ls ll = (cmpL (ls.getD i []) ll == 0) := by
    unfold sameAt
    rw [eb, Bool.eq_iff_iff]
    simp [hil, cmpL_zero]
   rw [← es, ← eb]
   exact hK
  ·have hil : ¬ i < ls.length := by have : ¬ (i : Int) < (sl.n : Int) := by simpa using hc2
                                    rw [h.len] at this; omega
   have es : sameAt ls ll = false := by
    unfold sameAt
    rw [eb]
    simp [hil]
   rw [es, eb] at hK
   exact hK
theorem tchild_ok {nb : Nat} {page : Int} {sk sr low : Sl} {n : Nd} {ll : List Int} {K : Int → Heap → Prop} (hn : NodeR F H nb page sk sr n) (hl : Ints .u64 H low ll) (hd : rises n.rows = true) (hc : ∀ l ∈ n.rows, l.length ≤ 16) (hbig : n.rows.length ≤ 1000000)
  (hK : K (n.child ll : Int) H) : Zcm.sp (at0 nb) low H K := by
 refine Zcm.of ?_
 unfold Zcm.vc
 simp only [optK_eq, at0]
 refine RowT.ld (c := cSl) (i := 2) (x := sr) hn.row rfl ?_
 refine tbin_ok hn.rows hl hd hc hbig ?_
 unfold Nd.child at hK
 have := below_leT ll n.rows
 cases hs : sameAt n.rows ll with
 | true =>
   rw [hs, if_pos rfl] at hK
   refine br_t rfl ?_
   rw [succ64 _ (by omega)]
   exact hK
 | false =>
   rw [hs, if_neg (by simp)] at hK
   exact br_f rfl hK
end
structure NodeO (F : Nat → Prop) (H : Heap) (base nb : Nat) (page : Int) (sk sr : Sl) (rs : List Sl) (n : Nd) : Prop where
 row : RowT H nb YaC #[.int .i64 page, sk.v, sr.v]
 kids : Owns H 0 YaT 1 sk ((n.kids.map Int.ofNat).map (Value.int .i64))
 rows : RowsOwn H 0 sr rs n.rows
 nn : ∀ x ∈ rs, x.a ≠ none
 nb : base ≤ nb ∧ ¬ F nb
 sk : ∀ b, ownB sk b → base ≤ b ∧ ¬ F b
 sr : ∀ b, ownB sr b → base ≤ b ∧ ¬ F b
 rs : ∀ x ∈ rs, ∀ b, ownB x b → base ≤ b ∧ ¬ F b
section
variable {F : Nat → Prop} {H : Heap} {base nb : Nat} {page : Int} {sk sr : Sl} {rs : List Sl} {n : Nd}
theorem NodeO.skN (h : NodeO F H base nb page sk sr rs n) : ¬ ownB sk nb := fun q => by
 obtain ⟨cur, hc⟩ := h.kids.obj _ q
 exact absurd (cells_ty hc h.row) (by decide)
theorem NodeO.srN (h : NodeO F H base nb page sk sr rs n) : ¬ ownB sr nb := fun q => by
 obtain ⟨cur, hc⟩ := h.rows.out.obj _ q
 exact absurd (cells_ty hc h.row) (by decide)
theorem NodeO.rsN (h : NodeO F H base nb page sk sr rs n) : ∀ x ∈ rs, ¬ ownB x nb := fun x hx q => by
 obtain ⟨l, hl⟩ := h.rows.rowAt hx
 obtain ⟨cur, hc⟩ := hl.obj _ q
 exact absurd (cells_ty hc h.row) (by decide)
theorem NodeO.read (h : NodeO F H base nb page sk sr rs n) : NodeR F H nb page sk sr n := by
 refine ⟨h.row, h.nb.2, h.kids.ints, fun ad ha => ⟨(h.kids.block _ ⟨ad, ha, rfl⟩).2, fun q => ?_⟩, ⟨h.rows.n, fun ad ha => ⟨(h.rows.block.1 _ ⟨ad, ha, rfl⟩).2, fun q => ?_⟩, fun i hi => ?_⟩⟩
 ·rcases q with q | q
  ·exact (h.sk _ ⟨ad, ha, rfl⟩).2 q
  ·exact h.skN ⟨ad, ha, q⟩
 ·rcases q with q | q
  ·exact (h.sr _ ⟨ad, ha, rfl⟩).2 q
  ·exact h.srN ⟨ad, ha, q⟩
 ·have hir : i < rs.length := by rw [h.rows.len]; exact hi
  obtain ⟨ad, ha, hc⟩ := h.rows.out.reads.at (i := i) (by simpa using hir)
  refine ⟨ad, rs[i], ha, by simpa using hc, fun ad' ha' => ?_, (h.rows.row i _ _ (List.getElem?_eq_getElem hir) (List.getElem?_eq_getElem hi)).ints⟩
  refine ⟨(h.rows.block.2 _ (List.getElem_mem hir) _ ⟨ad', ha', rfl⟩).2, fun q => ?_⟩
  rcases q with q | q
  ·exact (h.rs _ (List.getElem_mem hir) _ ⟨ad', ha', rfl⟩).2 q
  ·exact h.rsN _ (List.getElem_mem hir) ⟨ad', ha', q⟩
theorem NodeO.nnAt (h : NodeO F H base nb page sk sr rs n) : ∀ j, j < n.rows.length → ∀ ad r, sr.a = some ad → hCell H (ad.add j) = some (Sl.v r) → r.a ≠ none := by
 intro j hj ad r ha hc
 have hjr : j < rs.length := by rw [h.rows.len]; exact hj
 obtain ⟨ad', ha', hc'⟩ := h.rows.out.reads.at (i := j) (by simpa using hjr)
 rw [ha] at ha'; cases ha'
 rw [hc] at hc'
 simp only [List.getElem_map, Option.some.injEq, Sl.v, Value.slice.injEq] at hc'
 rw [hc'.1]
 exact h.nn _ (List.getElem_mem hjr)
theorem NodeO.step {F' : Nat → Prop} {H' : Heap} (h : NodeO F H base nb page sk sr rs n) (S : Step F F' H H') : NodeO F' H' base nb page sk sr rs n := by
 have k1 : ∀ b, b < H.size → ¬ F b → ¬ F' b := fun b hb hF q => (S.own b q).elim hF fun r => by omega
 refine ⟨h.row.mod S.mod h.nb.2, h.kids.mod S.mod fun b hb => (h.sk b hb).2, h.rows.mod S.mod (fun b hb => (h.sr b hb).2) fun x hx b hb => (h.rs x hx b hb).2, h.nn, ⟨h.nb.1, k1 _ (obj_lt h.row) h.nb.2⟩, fun b hb => ⟨(h.sk b hb).1, k1 b (h.kids.block b hb).2 (h.sk b hb).2⟩, fun b hb => ⟨(h.sr b hb).1, k1 b (h.rows.block.1 b hb).2 (h.sr b hb).2⟩, fun x hx b hb => ⟨(h.rs x hx b hb).1, k1 b (h.rows.block.2 x hx b hb).2 (h.rs x hx b hb).2⟩⟩
end
def nilT : Sl := ⟨none, 0, 0⟩
theorem nilT_own (b : Nat) : ¬ ownB nilT b := fun ⟨_, h, _⟩ => by cases h
theorem kidsOf_length (b : List UInt8) (k : Nat) : (kidsOf b k).length = k := by simp [kidsOf]
theorem kidsOf_succ (b : List UInt8) (k : Nat) : kidsOf b (k + 1) = kidsOf b k ++ [of4 (b.drop (2 + 4 * k))] := by
 unfold kidsOf
 rw [List.range_succ, List.map_append]; rfl
theorem getL_fits {b : List Int} {w : Int} (h : getOK b w = true) : ∀ l ∈ getL b w, l.length ≤ 16 := by
 obtain ⟨h1, h2, h3⟩ := getL_len h
 intro l hl
 rw [h3 l hl]
 unfold sizeL at h2
 split at h2
 ·exact absurd rfl h2
 ·omega
section
variable {H : Heap} {k p dp : Nat} {t : Tr} {F : Nat → Prop} {s : Pl} {q : Nat} {I : Pl → St → Nat → Prop} {B C : Pl → Int → Prop} {x : St} {m : Nat} {a b : Sl} {sp : Span}
set_option maxHeartbeats 2000000 in
theorem tnode_ok {page above depth : Nat} {K : (Option Addr × Int) → Heap → Prop} (S : Store t.name q I B C) (hI : I s x m) (hm : m < 30000000000) (hg : Gl H) (h : TreeB H k p t) (hp : PoolAt F H p dp s) (hk : ¬ F k) (hpg : page ≤ 1000000000000)
  (hs : SpanAt F H a b sp) (hd : t.depth = (depth : Int))
  (hK1 : ∀ n, x.node t.width depth above page sp = some n → ∀ F' H' s' nb sk sr rs, PoolAt F' H' p dp s' → Step F F' H H' → I s' x (m + 1) → NodeO F' H' H.size nb (page : Int) sk sr rs n → K (at0 nb, 0) H')
  (hK2 : x.node t.width depth above page sp = none → ∀ F' H' s', PoolAt F' H' p dp s' → Step F F' H H' → I s' x (m + 1) → K (none, 280) H')
  (hK3 : ∀ F' H' s' e, PoolAt F' H' p dp s' → Step F F' H H' → C s' e → K (none, e) H') : ZcJ.sp (at0 k) (page : Int) (above : Int) a b H K := by
 refine ZcJ.of ?_
 unfold ZcJ.vc
 refine newC_rowT fun H1 z1 r1 e1 => ?_
 have hFlt : ∀ b, F b → b < H.size := fun b hb => hp.lt b hb
 have hkl := obj_lt h
 have T1 : Step F F H H1 := .ofExt e1
 refine tlook_ok S hI hm (hg.mod e1 id) (h.ext e1) (hp.ext e1) hk hpg (fun hgn F' H2 s' sl p2 S2 I2 o2 f2 => ?_) (fun hgn F' H2 s' v sl p2 S2 I2 => ?_) (fun F' H2 s' v sl e p2 S2 hC => ?_)
 rotate_left
 ·refine br_t rfl ?_
  exact hK2 (by unfold St.node; rw [if_neg (by omega)]) F' H2 s' p2 (T1.trans S2) I2
 ·obtain ⟨c1, c2⟩ := S.errC hC
  refine br_f (by simpa using c2) ?_
  refine br_t (by simpa using c1) ?_
  exact hK3 F' H2 s' e p2 (T1.trans S2) hC
 have T2 := T1.trans S2
 refine br_f rfl ?_
 refine br_f rfl ?_
 dsimp only
 have hx : x.node t.width depth above page sp = nodeOf t.width depth above sp (x.T page) := by unfold St.node; rw [if_pos hgn]
 rw [hx] at hK1 hK2
 have hlen : (x.T page).2.length ≤ 504 := (S.pre hI).2.2.2.2.2 page
 generalize x.T page = kb at *
 refine newC_rowT fun H3 z3 r3 e3 => ?_
 have hz2 := S2.mod.size
 have hFp : ¬ F H.size := fun u => by have := hFlt _ u; omega
 have rp2 : RowT H2 H.size YaA #[a.v, b.v] := r1.mod S2.mod hFp
 have hF' : ∀ c, H2.size ≤ c → ¬ F' c := fun c hc u => by have := p2.lt c u; omega
 have hs2 : SpanAt F' H2 a b sp := hs.step T2
 have ht2 : TreeB H2 k p t := (h.ext e1).mod S2.mod hk
 have hsn : sl.n = kb.2.length := SlE.n o2 (by decide)
 have hcap := o2.cap
 have by2 : Byts H2 sl kb.2 := SlB_byts o2
 have hkd : ∀ v : UInt8, ((kb.1.toNat : Int) == (v.toNat : Int)) = decide (kb.1 = v) := fun v => by
  rw [Bool.eq_iff_iff]
  simp only [beq_iff_eq, decide_eq_true_eq]
  exact ⟨fun e => UInt8.toNat_inj.1 (by omega), fun e => by rw [e]⟩
 refine ⟨fun z A => ∃ kids bb sk, nodeOf t.width depth above sp kb = nodeFin t.width depth sp kids bb ∧ Byts A z bb ∧ z.n ≤ z.c ∧ bb.length ≤ 504 ∧ kids.length ≤ 126 ∧ RowT A H2.size YaC #[.int .i64 (page : Int), sk.v, .slice none 0 0] ∧
  Owns A 0 YaT 1 sk ((kids.map Int.ofNat).map (Value.int .i64)) ∧ Ext H2 A ∧ ∀ c, ownB sk c → H2.size < c, ?_, ?_⟩
 ·have h3 : ((kb.1.toNat : Int) == 3) = decide (kb.1 = 3) := hkd 3
  have h4 : ((kb.1.toNat : Int) == 4) = decide (kb.1 = 4) := hkd 4
  unfold nodeOf
  refine br_mk (fun hc => ?_) (fun hc => ?_)
  ·rw [h3] at hc
   simp only [Bool.and_eq_true, decide_eq_true_eq, beq_iff_eq] at hc
   exact ⟨[], kb.2, nilT, if_pos ⟨hc.1, by omega⟩, by2.keep fun ad _ hl => e3.same _ hl id, hcap, hlen, by simp, r3, Owns.nil _ _ _ _, e3, fun c u => absurd u (nilT_own c)⟩
  ·rw [h3] at hc
   have hc1 : ¬ (kb.1 = 3 ∧ above = 0) := fun u => by simp [u.1, u.2] at hc
   rw [if_neg hc1]
   refine br_mk (fun hc2 => ?_) (fun hc2 => ?_)
   ·rw [h4] at hc2
    simp only [Bool.and_eq_true, decide_eq_true_eq] at hc2
    obtain ⟨⟨c1, c2⟩, c3⟩ := hc2
    have hl2 : 2 ≤ kb.2.length := by omega
    have hc5 : kb.1 = 4 ∧ 0 < above ∧ 2 ≤ kb.2.length := ⟨c1, by omega, hl2⟩
    rw [if_pos hc5]
    have by3 : Byts H3 sl kb.2 := by2.keep fun ad _ hl => e3.same _ hl id
    have hu : (u8i kb.2).length = kb.2.length := u8i_length _
    refine ints_get by3 (j := 0) rfl (by omega) fun ad0 a0 => ?_
    refine ints_get by3 (j := 1) rfl (by omega) fun ad1 a1 => ?_
    rw [u8iD, u8iD, or_twoT (UInt8.toNat_lt _) (UInt8.toNat_lt _)]
    have en : (kb.2.getD 0 0).toNat * 256 + (kb.2.getD 1 0).toNat = num2 kb.2 := rfl
    rw [en]
    have hb0 := (kb.2.getD 0 0).toNat_lt
    have hb1 := (kb.2.getD 1 0).toNat_lt
    have hnum : num2 kb.2 ≤ 65535 := by unfold num2; omega
    have ew : ∀ i : Nat, i ≤ 65535 → IntKind.i64.wrap ((2 : Int) + (IntKind.i64.wrap ((4 : Int) * (i : Int)))) = ((2 + 4 * i : Nat) : Int) := fun i hi => by
     rw [wrap64 (x := 4 * (i : Int)) (by omega) (by omega), wrap64 (by omega) (by omega)]; omega
    rw [ew _ hnum]
    refine br_mk (fun hc6 => ?_) (fun hc6 => ?_)
    ·have : num2 kb.2 < 2 ∨ kb.2.length < 2 + 4 * num2 kb.2 := by
      simp only [Bool.or_eq_true, decide_eq_true_eq] at hc6
      omega
     refine hK2 ?_ F' H3 s' (p2.ext e3) (T2.trans (.ofExt e3)) I2
     unfold nodeOf
     rw [if_neg hc1, if_pos hc5, if_pos this]
    ·have hn6 : ¬ (num2 kb.2 < 2 ∨ kb.2.length < 2 + 4 * num2 kb.2) := fun u => by
      simp only [Bool.or_eq_false_iff, decide_eq_false_iff_not] at hc6
      omega
     have hn7 : 2 ≤ num2 kb.2 := by omega
     have hn8 : 2 + 4 * num2 kb.2 ≤ kb.2.length := by omega
     rw [if_neg hn6]
     generalize num2 kb.2 = N at *
     refine loop_upto N (fun i z A => z = (i : Int) ∧ ∃ sk, RowT A H2.size YaC #[.int .i64 (page : Int), sk.v, .slice none 0 0] ∧ Owns A 0 YaT 1 sk (((kidsOf kb.2 i).map Int.ofNat).map (Value.int .i64)) ∧ Ext H2 A ∧ ∀ c, ownB sk c → H2.size < c) ⟨rfl, nilT, r3, Owns.nil _ _ _ _, e3, fun c u => absurd u (nilT_own c)⟩ ?_
     rintro i z A next hi ⟨rfl, sk, rA, oA, eA, fA⟩ hnext
     have byA : Byts A sl kb.2 := by2.keep fun ad _ hl => eA.same _ hl id
     have hskN : ¬ ownB sk H2.size := fun u => by have := fA _ u; omega
     refine br_mk (fun hc7 => ?_) (fun hc7 => ?_)
     ·have hlt : i < N := by simpa using hc7
      rw [ew i (by omega)]
      refine ⟨fun D => RowT D H2.size YaC #[.int .i64 (page : Int), sk.v, .slice none 0 0], rA, ?_⟩
      refine RowT.ldC (c := cSl) (i := 1) (x := sk) (cs := fun _ => #[.int .i64 (page : Int), sk.v, .slice none 0 0]) (fun _ hG => hG) (fun _ _ => rfl) ?_
      refine ⟨by omega, ?_⟩
      have hdr : Byts A (Sl.mk (slA sl.a sl.c (((2 + 4 * i : Nat) : Int)).toNat 1) (sl.n - (((2 + 4 * i : Nat) : Int)).toNat) (sl.c - (((2 + 4 * i : Nat) : Int)).toNat)) (kb.2.drop (2 + 4 * i)) := byA.drop hcap (2 + 4 * i)
      refine tnumber_ok hdr (by rw [List.length_drop]; omega) ?_
      have hkl : (kidsOf kb.2 i).length = i := kidsOf_length _ _
      have hskn : sk.n = i := by have := oA.1; simp [hkl] at this; omega
      refine ⟨rA, ?_, ?_⟩
      ·exact rA.ext (Mod.push _ _ _)
      refine elIntR.push (base := 0) oA rfl (by omega) (by omega) (Nat.zero_le _) fun sk' A2 n2 o2' m2 b2 _ => ?_
      have rA2 : RowT A2 H2.size YaC #[.int .i64 (page : Int), sk.v, .slice none 0 0] := rA.mod m2 hskN
      refine RowT.st rA2 (i := 1) (by simp) rfl fun A3 rA3 m3 z3' => ?_
      have hz := eA.size
      have f3 : ∀ c, ownB sk' c → H2.size < c := fun c u => by
       rcases b2 c u with v | v
       ·exact fA c v
       ·have := obj_lt rA; omega
      refine hnext hlt _ _ ⟨succ64 i (by omega), sk', rA3, ?_, ?_, f3⟩
      ·rw [kidsOf_succ, List.map_append, List.map_append]
       exact o2'.mod m3 fun c u => by have := f3 c u; omega
      ·have : Mod (fun c => ownB sk c ∨ c = H2.size) H2 A3 := ((Ext.mod eA).trans (m2.mono fun _ _ u => .inl u)).trans (m3.mono fun _ _ u => .inr u)
       exact this.ext fun c u => by
        rcases u with v | v
        ·have := fA c v; omega
        ·omega
     ·have hge : i = N := by have : ¬ i < N := by simpa using hc7
                             omega
      subst hge
      refine ⟨by omega, kidsOf kb.2 i, kb.2.drop (2 + 4 * i), sk, rfl, byA.drop hcap (2 + 4 * i), ?_, by rw [List.length_drop]; omega, by rw [kidsOf_length]; omega, rA, oA, eA, fA⟩
      show sl.n - _ ≤ sl.c - _
      omega
   ·rw [h4] at hc2
    have hc5 : ¬ (kb.1 = 4 ∧ 0 < above ∧ 2 ≤ kb.2.length) := fun ⟨u1, u2, u3⟩ => by
     have : ¬ (decide (kb.1 = 4) && decide ((above : Int) > 0) && decide ((sl.n : Int) ≥ 2)) = true := by rw [hc2]; simp
     apply this
     simp only [Bool.and_eq_true, decide_eq_true_eq]
     exact ⟨⟨u1, by omega⟩, by omega⟩
    refine hK2 ?_ F' H3 s' (p2.ext e3) (T2.trans (.ofExt e3)) I2
    unfold nodeOf
    rw [if_neg hc1, if_neg hc5]
 ·rintro z A ⟨kids, bb, sk, hno, hby, hzc, hbl, hkl, rA, oA, eA, fA⟩
  rw [hno] at hK1 hK2
  unfold at0
  simp only [optK_eq]
  have tA : TreeB A k p t := ht2.ext eA
  have hnil : ∀ A', Ext H2 A' → nodeFin t.width depth sp kids bb = none → K (none, 280) A' := fun A' eA' hno' => hK2 hno' F' A' s' (p2.ext eA') (T2.trans (.ofExt eA')) I2
  have hskn : sk.n = kids.length := by have := oA.1; simp at this; omega
  refine ⟨fun _ A' => ∃ sr rs, getOK (u8i bb) t.width = true ∧ (kids ≠ [] → (getL (u8i bb) t.width).length + 1 = kids.length) ∧ RowT A' H2.size YaC #[.int .i64 (page : Int), sk.v, sr.v] ∧ Owns A' 0 YaT 1 sk ((kids.map Int.ofNat).map (Value.int .i64)) ∧
   RowsOwn A' A.size sr rs (getL (u8i bb) t.width) ∧ (∀ x ∈ rs, x.a ≠ none) ∧ Ext H2 A', ?_, ?_⟩
  ·refine RowT.ld (c := cInt .i64) (i := 2) (x := t.width) tA rfl ?_
   refine rowGet_nn hby hzc (fun x hx => ?_) (by rw [u8i_length]; omega) fun sr rs A2 ro e2 nn => ?_
   ·unfold u8i at hx
    obtain ⟨c, _, rfl⟩ := List.mem_map.1 hx
    have := c.toNat_lt; omega
   have eA2 := eA.trans e2
   refine RowT.st (rA.ext e2) (i := 2) (by simp) rfl fun A3 r3 m3 z3 => ?_
   have hzA := eA.size
   have hAn := obj_lt rA
   have eA3 : Ext H2 A3 := ((Ext.mod (F := fun c => c = H2.size) eA2).trans m3).ext fun c u => by omega
   have hbl2 := ro.block
   have roA3 : RowsOwn A3 A.size sr rs (getL (u8i bb) t.width) := ro.mod m3 (fun c u v => by have := (hbl2.1 c u).1; omega) fun y hy c u v => by have := (hbl2.2 y hy c u).1; omega
   have oA3 : Owns A3 0 YaT 1 sk ((kids.map Int.ofNat).map (Value.int .i64)) := (oA.ext e2).mod m3 fun c u v => by have := fA c u; omega
   unfold getE
   cases hok : getOK (u8i bb) t.width with
   | false =>
     refine br_t rfl ?_
     refine hnil A3 eA3 ?_
     unfold nodeFin
     rw [if_pos (.inl hok)]
   | true =>
     refine br_f rfl ?_
     refine RowT.ld (c := cSl) (i := 1) (x := sk) r3 rfl ?_
     refine br_mk (fun hc => ?_) (fun hc => ?_)
     ·have hk0 : kids ≠ [] := fun u => by subst u; simp [hskn] at hc
      refine RowT.ld (c := cSl) (i := 2) (x := sr) r3 rfl ?_
      refine RowT.ld (c := cSl) (i := 1) (x := sk) r3 rfl ?_
      have hkp : 0 < kids.length := List.length_pos_iff.2 hk0
      rw [hskn, ro.n]
      have ew : IntKind.i64.wrap ((kids.length : Int) - 1) = ((kids.length - 1 : Nat) : Int) := by rw [wrap64 (by omega) (by omega)]; omega
      rw [ew]
      refine br_mk (fun hc2 => ?_) (fun hc2 => ?_)
      ·have hne : ((getL (u8i bb) t.width).length : Int) ≠ ((kids.length - 1 : Nat) : Int) := by simpa using hc2
       refine hnil A3 eA3 ?_
       unfold nodeFin
       rw [if_pos (.inr ⟨hk0, by omega⟩)]
      ·have heq : ((getL (u8i bb) t.width).length : Int) = ((kids.length - 1 : Nat) : Int) := by simpa using hc2
       exact ⟨sr, rs, rfl, fun _ => by omega, r3, oA3, roA3, nn, eA3⟩
     ·have hk0 : kids = [] := List.eq_nil_of_length_eq_zero (by have : ¬ ((sk.n : Int) > 0) := by simpa using hc
                                                                omega)
      exact ⟨sr, rs, rfl, fun u => absurd hk0 u, r3, oA3, roA3, nn, eA3⟩
  ·rintro _ A3 ⟨sr, rs, hok, hkl2, r3, oA3, roA3, nn, eA3⟩
   obtain ⟨g1, g2, g3⟩ := getL_len hok
   have hfits := getL_fits hok
   rw [u8i_length] at g1
   have hs0 := sizeL_cases t.width
   have hlr : (getL (u8i bb) t.width).length ≤ 504 := by
    have hm1 : (getL (u8i bb) t.width).length * 1 ≤ (getL (u8i bb) t.width).length * (sizeL t.width).toNat := Nat.mul_le_mul_left _ (by omega)
    omega
   refine RowT.ldA (c := cAgg [cSl, cSl]) (x := (a, b)) (rp2.ext eA3) rfl rfl ?_
   refine RowT.ld (c := cSl) (i := 2) (x := sr) r3 rfl ?_
   have hzA := eA.size
   have rN : RowsN F' A3 sr (getL (u8i bb) t.width) := roA3.rowsN fun c hc => hF' c (by omega)
   refine tholds_ok (hs2.step (.ofExt eA3)) rN hfits (by omega) fun A4 e4 => ?_
   have eA4 := eA3.trans e4
   have fin1 : ∀ b1, (sp.holds (getL (u8i bb) t.width) = b1) → nodeFin t.width depth sp kids bb = if b1 = false ∨ (getL (u8i bb) t.width = [] ∧ 1 < depth) then none else some ⟨kids, getL (u8i bb) t.width⟩ := fun b1 hb1 => by
    unfold nodeFin
    rw [if_neg (by
     rintro (u | ⟨u1, u2⟩)
     ·rw [hok] at u; cases u
     ·exact u2 (hkl2 u1)), hb1]
   have good : ∀ A', Ext H2 A' → A' = A4 → nodeFin t.width depth sp kids bb = some ⟨kids, getL (u8i bb) t.width⟩ → K (some ⟨H2.size, 0, none⟩, 0) A' := fun A' eA' hA' hsome => by
    subst hA'
    refine hK1 _ hsome F' A' s' H2.size sk sr rs (p2.ext eA') (T2.trans (.ofExt eA')) I2 ⟨r3.ext e4, oA3.ext e4, ?_, nn, ⟨by omega, hF' _ (by omega)⟩, fun c u => ?_, fun c u => ?_, fun y hy c u => ?_⟩
    ·exact ⟨(roA3.ext e4).out.base0, roA3.len, fun i y l q1 q2 => ((roA3.ext e4).row i y l q1 q2).base0, roA3.apart⟩
    ·have := fA c u; exact ⟨by omega, hF' c (by omega)⟩
    ·have := (roA3.block.1 c u).1; exact ⟨by omega, hF' c (by omega)⟩
    ·have := (roA3.block.2 y hy c u).1; exact ⟨by omega, hF' c (by omega)⟩
   cases hb1 : sp.holds (getL (u8i bb) t.width) with
   | false =>
     refine br_t rfl ?_
     refine hnil A4 eA4 ?_
     rw [fin1 _ hb1, if_pos (.inl rfl)]
   | true =>
     refine br_f rfl ?_
     refine RowT.ld (c := cSl) (i := 2) (x := sr) (r3.ext e4) rfl ?_
     rw [roA3.n]
     refine br_mk (fun hc => ?_) (fun hc => ?_)
     ·have h00 : ((getL (u8i bb) t.width).length : Int) = 0 := by simpa using hc
      have h0 : getL (u8i bb) t.width = [] := List.eq_nil_of_length_eq_zero (by omega)
      refine RowT.ld (c := cInt .i64) (i := 4) (x := t.depth) (ht2.ext eA4) rfl ?_
      rw [hd]
      refine br_mk (fun hc2 => ?_) (fun hc2 => ?_)
      ·refine hnil A4 eA4 ?_
       rw [fin1 _ hb1, if_pos (.inr ⟨h0, by have : (depth : Int) > 1 := by simpa using hc2
                                            omega⟩)]
      ·refine good A4 eA4 rfl ?_
       rw [fin1 _ hb1, if_neg (by
        rintro (u | ⟨_, u⟩)
        ·cases u
        ·have : ¬ (depth : Int) > 1 := by simpa using hc2
         omega)]
     ·refine good A4 eA4 rfl ?_
      rw [fin1 _ hb1, if_neg (by
       rintro (u | ⟨u, _⟩)
       ·cases u
       ·rw [u] at hc; simp at hc)]
end
def FindK (K : Sl × Int → Heap → Prop) (base : Nat) (F : Nat → Prop) (H : Heap) : Option (Option (List Int)) → Prop
 | none => K (nilT, 280) H
 | some none => K (nilT, 0) H
 | some (some l) => ∀ sl, sl.a ≠ none → Owns H 0 YaP 1 sl (l.map (Value.int .u64)) → (∀ b, ownB sl b → base ≤ b ∧ ¬ F b) → K (sl, 0) H
theorem goK_cost {f : Nat → Nat × Option (Option (List Int))} {i k : Nat} : (f i).1 ≤ (goK f i (k + 1)).1 := by
 unfold goK
 split
 ·exact Nat.le_add_right _ _
 ·exact Nat.le_refl _
theorem goK_next {f : Nat → Nat × Option (Option (List Int))} {i k : Nat} (h : (f i).2 = some none) : goK f i (k + 1) = ((f i).1 + (goK f (i + 1) k).1, (goK f (i + 1) k).2) := by
 conv => lhs; unfold goK
 rw [if_pos h]
theorem goK_stop {f : Nat → Nat × Option (Option (List Int))} {i k : Nat} (h : (f i).2 ≠ some none) : goK f i (k + 1) = f i := by
 unfold goK
 rw [if_neg h]
section
variable {k p dp : Nat} {t : Tr} {q : Nat} {I : Pl → St → Nat → Prop} {B C : Pl → Int → Prop} {x : St} {low : Sl} {ll : List Int} {strict : Bool}
theorem tcopy_ok {H3 : Heap} {F : Nat → Prop} {sr : Sl} {ls : List (List Int)} {nb : Nat} {page : Value} {sk : Value} {i W : Nat} {K : Sl × Int → Heap → Prop} (hr : RowsN F H3 sr ls) (hn : RowT H3 nb YaC #[page, sk, sr.v]) (ht : TreeB H3 k p t) (hw : t.width = (W : Int)) (hW : W ≤ 16)
  (hi : i < ls.length) (hc : (ls.getD i []).length ≤ 16)
  (hK : ∀ sl A, sl.a ≠ none → Owns A 0 YaP 1 sl ((ls.getD i []).map (Value.int .u64)) → Ext H3 A → (∀ b, ownB sl b → H3.size ≤ b) → K (sl, 0) A) :
  ∃ G : Heap → Prop, G H3 ∧ optK (some (⟨k, 0, none⟩ : Addr)) fun a_2 => ld (cInt .i64) H3 (a_2.add 2) fun (x_3 : Int) => doT cSl Tryz.prog (Instr.makeSlice YaK (.int .i64 (0 : Int)) (.int .i64 (IntKind.i64.wrap (x_3 + (1 : Int))))) H3 fun (sl : Sl) H4 => G H4 ∧ optK (some (⟨nb, 0, none⟩ : Addr)) fun a_3 => ldC cSl G (a_3.add 2) fun (x_4 : Sl) => optK x_4.a fun a_4 => (0 ≤ (i : Int) ∧ (i : Int) < (x_4.n : Int)) ∧ ldC cSl G (a_4.add ((i : Int).toNat * 1)) fun (x_5 : Sl) => doT cSl Tryz.prog (Builtin.append_ #[YaK, YaK] YaK #[sl.v, x_5.v]) H4 fun (s : Sl) H5 => K (s, (0 : Int)) H5 := by
 refine ⟨fun D => Ext H3 D, .refl _ _, ?_⟩
 simp only [optK_eq]
 refine RowT.ld (c := cInt .i64) (i := 2) (x := t.width) ht rfl ?_
 rw [hw]
 have ew : IntKind.i64.wrap ((W : Int) + 1) = ((W + 1 : Nat) : Int) := succ64 W (by omega)
 rw [ew]
 refine elU64.make (base := 0) (by omega) (by omega) (by omega) (by omega) (Nat.zero_le _) ?_
 intro sl H4 n4 o4 e4 b4 nn4
 refine ⟨e4, ?_⟩
 refine RowT.ldC (c := cSl) (i := 2) (x := sr) (cs := fun _ => #[page, sk, sr.v]) (fun D hD => hn.ext hD) (fun _ _ => rfl) ?_
 obtain ⟨ad, r, q1, q2, q4, q5⟩ := hr.at' i hi
 refine optK_mk ad q1 ⟨⟨by omega, by rw [hr.len]; omega⟩, r, fun D hD => ?_, ?_⟩
 ·simp only [Int.toNat_natCast, Nat.mul_one]
  exact hD.cell q2 id
 rw [← getDo hi] at q5
 have hr4 := (q5.ext e4)
 have hrl := q5.len
 refine elU64.append (base := 0) (s := sl) (x := r) (ws := (ls.getD i []).map (Value.int .u64)) o4 (by rw [List.length_map]; exact hrl.symm) hr4.reads (intsOne _ _) (by simp only [Int.toNat_zero] at n4; omega) (by simp only [Int.toNat_zero] at n4; omega) (Nat.zero_le _) ?_
 intro s' H6 n6 o6 m6 b6 nn6
 have e6 : Ext H3 H6 := ((Ext.mod (F := ownB sl) e4).trans m6).ext b4
 refine hK s' H6 (fun u => nn4 (nn6.1 u).1) (by simpa using o6) e6 fun c hc => ?_
 rcases b6 c hc with u | u
 ·exact b4 c u
 ·have := e4.size; omega
set_option maxHeartbeats 2000000 in
theorem tfind_ok {W depth : Nat} (S : Store t.name q I B C) (hw : t.width = (W : Int)) (hW : W ≤ 16) (hd : t.depth = (depth : Int)) : ∀ (above page : Nat) (sp : Span) (a b : Sl) (F : Nat → Prop) (H : Heap) (s : Pl) (m : Nat) (K : (Sl × Int) → Heap → Prop),
  I s x m → m + (x.find t.width depth ll strict above page sp).1 ≤ 30000000000 → above ≤ 1000000 → Gl H → TreeB H k p t → PoolAt F H p dp s → ¬ F k → page ≤ 1000000000000 → SpanAt F H a b sp → Ints .u64 H low ll → OffI F H low ll →
  (∀ F' H' s', PoolAt F' H' p dp s' → Step F F' H H' → I s' x (m + (x.find t.width depth ll strict above page sp).1) → FindK K H.size F' H' (x.find t.width depth ll strict above page sp).2) →
  (∀ F' H' s' e, PoolAt F' H' p dp s' → Step F F' H H' → C s' e → K (nilT, e) H') → ZcG.sp (at0 k) (page : Int) (above : Int) a b low strict H K := by
 intro above
 induction above with
 | zero =>
   intro page sp a b F H s m K hI hm _ hg ht hp hk hpg hs hl hlo hK1 hK3
   refine ZcG.of ?_
   unfold ZcG.vc
   have hT := (S.pre hI).2.2.2.2.2
   refine newC_rowT fun H1 z1 r1 e1 => ?_
   have hkl := obj_lt ht
   have T1 : Step F F H H1 := .ofExt e1
   refine RowT.ldA (c := cAgg [cSl, cSl]) (x := (a, b)) r1 rfl rfl ?_
   unfold St.find at hm hK1
   have hm1 : m < 30000000000 := by
    cases hn : x.node t.width depth 0 page sp <;> rw [hn] at hm <;> simp only at hm <;> omega
   refine tnode_ok (above := 0) S hI hm1 (hg.mod e1 id) (ht.ext e1) (hp.ext e1) hk hpg (hs.step T1) hd (fun n hn F' H2 s' nb sk sr rs p2 S2 I2 o2 => ?_) (fun hn F' H2 s' p2 S2 I2 => ?_) (fun F' H2 s' e p2 S2 hC => ?_)
   rotate_left
   ·refine br_t rfl ?_
    rw [hn] at hK1
    exact hK1 F' H2 s' p2 (T1.trans S2) I2
   ·obtain ⟨c1, c2⟩ := S.errC hC
    refine br_t (by simpa using c1) ?_
    exact hK3 F' H2 s' e p2 (T1.trans S2) hC
   refine br_f rfl ?_
   refine br_t rfl ?_
   rw [hn] at hK1
   have T2 := T1.trans S2
   have nr := o2.read
   have ok := node_ok hT hn
   have hlen := ok.size
   have hcols : ∀ l ∈ n.rows, l.length ≤ 16 := fun l hl2 => by rw [ok.cols l hl2, hw]; simpa using hW
   have t2 : TreeB H2 k p t := (ht.ext e1).mod S2.mod hk
   unfold at0
   simp only [optK_eq]
   refine RowT.ld (c := cSl) (i := 2) (x := sr) nr.row rfl ?_
   have hl2 : Ints .u64 H2 low ll := hlo.ints hl T2
   refine tbin_ok nr.rows hl2 (holds_rises ok.holds) hcols (by omega) ?_
   have hK2 := hK1 F' H2 s' p2 T2 I2
   have hble := below_leT ll n.rows
   have hln := nr.rows.len
   have good : ∀ i : Nat, below ll n.rows + (if sameAt n.rows ll && strict then 1 else 0) = i → br ((i : Int) == (sr.n : Int)) (K (nilT, (0 : Int)) H2) (∃ G : Heap → Prop, G H2 ∧ optK (some (⟨k, 0, none⟩ : Addr)) fun a_2 => ld (cInt .i64) H2 (a_2.add 2) fun (x_3 : Int) => doT cSl Tryz.prog (Instr.makeSlice YaK (.int .i64 (0 : Int)) (.int .i64 (IntKind.i64.wrap (x_3 + (1 : Int))))) H2 fun (sl : Sl) H4 => G H4 ∧ optK (some (⟨nb, 0, none⟩ : Addr)) fun a_3 => ldC cSl G (a_3.add 2) fun (x_4 : Sl) => optK x_4.a fun a_4 => (0 ≤ (i : Int) ∧ (i : Int) < (x_4.n : Int)) ∧ ldC cSl G (a_4.add ((i : Int).toNat * 1)) fun (x_5 : Sl) => doT cSl Tryz.prog (Builtin.append_ #[YaK, YaK] YaK #[sl.v, x_5.v]) H4 fun (s : Sl) H5 => K (s, (0 : Int)) H5) := by
    intro i hi
    have hile : i ≤ n.rows.length := by
     cases hsa : sameAt n.rows ll with
     | false => rw [hsa] at hi; simp at hi; omega
     | true =>
       have := (sameAt_iff.1 hsa).1
       split at hi <;> omega
    have hleaf : leafAt n.rows ll strict = n.rows[i]? := by unfold leafAt; rw [hi]
    simp only at hK1 hK2
    rw [hleaf] at hK1 hK2
    refine br_mk (fun hc => ?_) (fun hc => ?_)
    ·have e0 : i = n.rows.length := by have : (i : Int) = (sr.n : Int) := by simpa using hc
                                       omega
     rw [e0, List.getElem?_eq_none (Nat.le_refl _)] at hK2
     exact hK2
    ·have e0 : i < n.rows.length := by have : ¬ (i : Int) = (sr.n : Int) := by simpa using hc
                                       omega
     rw [List.getElem?_eq_getElem e0] at hK1
     refine tcopy_ok nr.rows nr.row t2 hw hW e0 (by rw [getDo e0]; exact hcols _ (List.getElem_mem _)) fun sl A nn o e bb => ?_
     refine hK1 F' A s' (p2.ext e) (T2.trans (.ofExt e)) I2 sl nn (by rw [← getDo e0]; exact o) fun c hc => ?_
     have := bb c hc
     have hz1 := T2.mod.size
     exact ⟨by omega, fun u => by have := p2.lt c u; omega⟩
   refine br_mk (fun hc => ?_) (fun hc => ?_)
   ·have hsa : sameAt n.rows ll = true := by simp only [Bool.and_eq_true] at hc; exact hc.1
    have hst : strict = true := by simp only [Bool.and_eq_true] at hc; exact hc.2
    have hbl := (sameAt_iff.1 hsa).1
    refine RowT.ld (c := cSl) (i := 2) (x := sr) nr.row rfl ?_
    simp only
    rw [succ64 _ (by omega)]
    exact good (below ll n.rows + 1) (by rw [hsa, hst]; rfl)
   ·refine RowT.ld (c := cSl) (i := 2) (x := sr) nr.row rfl ?_
    exact good (below ll n.rows) (by rw [hc]; rfl)
 | succ above ih =>
   intro page sp a b F H s m K hI hm hab hg ht hp hk hpg hs hl hlo hK1 hK3
   refine ZcG.of ?_
   unfold ZcG.vc
   have hT := (S.pre hI).2.2.2.2.2
   refine newC_rowT fun H1 z1 r1 e1 => ?_
   have hkl := obj_lt ht
   have T1 : Step F F H H1 := .ofExt e1
   refine RowT.ldA (c := cAgg [cSl, cSl]) (x := (a, b)) r1 rfl rfl ?_
   unfold St.find at hm hK1
   have hm1 : m < 30000000000 := by
    cases hn : x.node t.width depth (above + 1) page sp <;> rw [hn] at hm <;> simp only at hm <;> omega
   refine tnode_ok (above := above + 1) S hI hm1 (hg.mod e1 id) (ht.ext e1) (hp.ext e1) hk hpg (hs.step T1) hd (fun n hn F' H2 s' nb sk sr rs p2 S2 I2 o2 => ?_) (fun hn F' H2 s' p2 S2 I2 => ?_) (fun F' H2 s' e p2 S2 hC => ?_)
   rotate_left
   ·refine br_t rfl ?_
    rw [hn] at hK1
    exact hK1 F' H2 s' p2 (T1.trans S2) I2
   ·obtain ⟨c1, c2⟩ := S.errC hC
    refine br_t (by simpa using c1) ?_
    exact hK3 F' H2 s' e p2 (T1.trans S2) hC
   refine br_f rfl ?_
   refine br_f (by simp only [beq_eq_false_iff_ne, ne_eq]; omega) ?_
   rw [hn] at hK1 hm
   simp only at hK1 hm
   have T2 := T1.trans S2
   have nr := o2.read
   have ok := node_ok hT hn
   have hlen := ok.size
   obtain ⟨i1, i2, i3⟩ := ok.inner (Nat.succ_pos _)
   have hcols : ∀ l ∈ n.rows, l.length ≤ 16 := fun l hl2 => by rw [ok.cols l hl2, hw]; simpa using hW
   have t2 : TreeB H2 k p t := (ht.ext e1).mod S2.mod hk
   unfold at0
   simp only [optK_eq]
   have hl2 : Ints .u64 H2 low ll := hlo.ints hl T2
   refine tchild_ok nr hl2 (holds_rises ok.holds) hcols (by omega) ?_
   have hcl := child_le (n := n) (l := ll)
   have hs2 : SpanAt F' H2 a b sp := hs.step T2
   have rp2 : RowT H2 H.size YaA #[a.v, b.v] := r1.mod S2.mod fun u => by have := hp.lt _ u; omega
   have hnp : ¬ F' H.size := fun u => (S2.own _ u).elim (fun v => by have := hp.lt _ v; omega) fun v => by omega
   have hkF : ¬ F' k := fun u => (T2.own _ u).elim hk fun v => by omega
   have hg2 : Gl H2 := hg.mod T2.mod hp.glob
   have hlo2 : OffI F' H2 low ll := hlo.step T2
   generalize hc0 : n.child ll = c0 at *
   obtain ⟨g, hgdef⟩ : ∃ g, g = fun i => x.find t.width depth ll strict above (n.kids.getD i 0) (sp.of n i) := ⟨_, rfl⟩
   rw [← hgdef] at hK1 hm
   obtain ⟨N, hN⟩ : ∃ N, n.kids.length = c0 + N := ⟨n.kids.length - c0, by omega⟩
   have hsub : n.kids.length - c0 = N := by omega
   rw [hsub] at hK1 hm
   refine loop_upto N (fun j z A => z = ((c0 + j : Nat) : Int) ∧ j ≤ N ∧ ∃ F1 s1 cost, PoolAt F1 A p dp s1 ∧ Step F' F1 H2 A ∧ I s1 x (m + 1 + cost) ∧ goK g c0 N = (cost + (goK g (c0 + j) (N - j)).1, (goK g (c0 + j) (N - j)).2)) ⟨rfl, Nat.zero_le _, F', s', 0, p2, .refl _ _, I2, by simp⟩ ?_
   rintro j z A next hj ⟨rfl, _, F1, s1, cost, pA, SA, IA, hgo⟩ hnext
   have nA := nr.step SA
   refine RowT.ld (c := cSl) (i := 1) (x := sk) nA.row rfl ?_
   have hkn : sk.n = c0 + N := by have := nA.kids.len; simp at this; omega
   refine br_mk (fun hc => ?_) (fun hc => ?_)
   ·have hlt : j < N := by have : ((c0 + j : Nat) : Int) < (sk.n : Int) := by simpa using hc
                           omega
    refine ⟨fun D => Ext A D, .refl _ _, ?_⟩
    refine RowT.ldC (c := cSl) (i := 1) (x := sk) (cs := fun _ => #[.int .i64 (page : Int), sk.v, sr.v]) (fun D hD => nA.row.ext hD) (fun _ _ => rfl) ?_
    obtain ⟨ad, q1, q2⟩ := nA.kids.at (i := c0 + j) (by simp; omega)
    have hkid : (List.map Int.ofNat n.kids)[c0 + j]'(by simp; omega) = ((n.kids.getD (c0 + j) 0 : Nat) : Int) := by
     simp [List.getD, List.getElem?_eq_getElem (show c0 + j < n.kids.length by omega)]
    rw [hkid] at q2
    refine optK_mk ad q1 ⟨⟨by omega, by omega⟩, ((n.kids.getD (c0 + j) 0 : Nat) : Int), fun D hD => ?_, ?_⟩
    ·simp only [Int.toNat_natCast, Nat.mul_one]
     exact hD.cell q2 id
    refine RowT.ldA (c := cAgg [cSl, cSl]) (x := (a, b)) (rp2.mod SA.mod hnp) rfl rfl ?_
    refine tof_ok (hs2.step SA) nA (o2.step SA).nnAt (by omega) (by omega) fun u v A2 e2 s2 => ?_
    refine ⟨e2, ?_⟩
    have eab : IntKind.i64.wrap (((above + 1 : Nat) : Int) - 1) = (above : Int) := by rw [wrap64 (by omega) (by omega)]; omega
    rw [eab]
    obtain ⟨M, hM⟩ : ∃ M, N - j = M + 1 := ⟨N - j - 1, by omega⟩
    have hM2 : N - (j + 1) = M := by omega
    rw [hM] at hgo
    have hcost := goK_cost (f := g) (i := c0 + j) (k := M)
    have hgj : g (c0 + j) = x.find t.width depth ll strict above (n.kids.getD (c0 + j) 0) (sp.of n (c0 + j)) := by rw [hgdef]
    have htot : (goK g c0 N).1 = cost + (goK g (c0 + j) (M + 1)).1 := by rw [hgo]
    have TA := T2.trans SA
    have TA2 : Step F F1 H A2 := TA.trans (.ofExt e2)
    have S2A : Step F' F1 H2 A2 := SA.trans (.ofExt e2)
    have hz2 := S2A.mod.size
    have hz1 := T2.mod.size
    refine ih (n.kids.getD (c0 + j) 0) (sp.of n (c0 + j)) u v F1 A2 s1 (m + 1 + cost) _ IA (by rw [← hgj]; omega) (by omega) (hg2.mod S2A.mod p2.glob) (t2.mod S2A.mod hkF) (pA.ext e2) (fun w => (S2A.own _ w).elim hkF fun w => by omega) ?_ s2 (hlo2.ints hl2 S2A) (hlo2.step S2A) (fun F3 A3 s3 p3 S3 I3 => ?_) (fun F3 A3 s3 e p3 S3 hC => ?_)
    ·have : n.kids.getD (c0 + j) 0 < 4294967296 := by
      have hlt2 : c0 + j < n.kids.length := by omega
      simp only [List.getD, List.getElem?_eq_getElem hlt2, Option.getD_some]
      exact ok.kids _ (List.getElem_mem hlt2)
     omega
    ·rw [← hgj] at I3 ⊢
     have T3 := TA2.trans S3
     cases hr : (g (c0 + j)).2 with
     | none =>
       unfold FindK
       dsimp only
       refine br_t rfl ?_
       have e5 := goK_stop (f := g) (i := c0 + j) (k := M) (by rw [hr]; simp)
       rw [e5] at hgo htot
       have := hK1 F3 A3 s3 p3 T3 (by rw [hgo]; simp only; have e6 : m + (1 + (cost + (g (c0 + j)).1)) = m + 1 + cost + (g (c0 + j)).1 := by omega
                                      rw [e6]; exact I3)
       rw [hgo, hr] at this
       exact this
     | some o =>
       cases o with
       | none =>
         unfold FindK
         dsimp only
         refine br_f rfl ?_
         rw [goK_next hr] at hgo
         refine hnext hlt _ _ ⟨succ64 _ (by omega), by omega, F3, s3, cost + (g (c0 + j)).1, p3, S2A.trans S3, ?_, ?_⟩
         ·have e6 : m + 1 + (cost + (g (c0 + j)).1) = m + 1 + cost + (g (c0 + j)).1 := by omega
          rw [e6]; exact I3
         ·rw [hgo, hM2]
          simp only [Nat.add_assoc]
       | some l =>
         unfold FindK
         intro sl nn o5 f5
         dsimp only
         refine br_t (by cases q9 : sl.a with | none => exact absurd q9 nn | some _ => rfl) ?_
         have e5 := goK_stop (f := g) (i := c0 + j) (k := M) (by rw [hr]; simp)
         rw [e5] at hgo htot
         have := hK1 F3 A3 s3 p3 T3 (by rw [hgo]; simp only; have e6 : m + (1 + (cost + (g (c0 + j)).1)) = m + 1 + cost + (g (c0 + j)).1 := by omega
                                        rw [e6]; exact I3)
         rw [hgo, hr] at this
         exact this sl nn o5 fun c hc5 => ⟨by have := (f5 c hc5).1; omega, (f5 c hc5).2⟩
    ·refine br_t (by have := (S.errC hC).1; simp [nilT, this]) ?_
     exact hK3 F3 A3 s3 e p3 (TA2.trans S3) hC
   ·have hge : j = N := by have : ¬ ((c0 + j : Nat) : Int) < (sk.n : Int) := by simpa using hc
                           omega
    subst hge
    have e5 : goK g (c0 + j) (j - j) = (0, some none) := by rw [Nat.sub_self]; unfold goK; rfl
    rw [e5] at hgo
    have := hK1 F1 A s1 pA (T2.trans SA) (by rw [hgo]; simp only; have e6 : m + (1 + (cost + 0)) = m + 1 + cost := by omega
                                             rw [e6]; exact IA)
    rw [hgo] at this
    exact this
end
theorem Owns.emptyB {H : Heap} {t : TypeId} {K : Addr → Heap → Prop} (hK : ∀ H', Owns H' 0 t 1 ⟨some ⟨H.size, 0, none⟩, 0, 0⟩ [] → Ext H H' → K ⟨H.size, 0, none⟩ H') : newC H #[] t K :=
 hK _ (Owns.fresh (Nat.zero_le _) (Nat.le_refl _) (by unfold maxLen; omega) rfl rfl rfl) (Mod.push _ _ _)
def Nd.pre (n : Nd) : List UInt8 := if n.kids = [] then [] else UInt8.ofNat (n.kids.length / 256) :: UInt8.ofNat n.kids.length :: n.kids.flatMap be4
theorem Nd.bytes_pre (n : Nd) : n.bytes = n.pre ++ rowsY n.rows := rfl
theorem appB {H : Heap} {s x : Sl} {bb cc : List UInt8} {K : Sl → Heap → Prop} (h : Owns H 0 YaS 1 s ((u8i bb).map (Value.int .u8))) (hx : Byts H x cc) (hb : bb.length + cc.length ≤ 1000000)
  (hK : ∀ (s' : Sl) (H' : Heap), Owns H' 0 YaS 1 s' ((u8i (bb ++ cc)).map (Value.int .u8)) → Mod (ownB s) H H' → (∀ b, ownB s' b → ownB s b ∨ H.size ≤ b) → K s' H') :
  doT cSl Tryz.prog (Builtin.append_ #[YaL, YaL] YaL #[s.v, x.v]) H K := by
 have hsn := h.1
 simp only [Nat.mul_one, List.length_map, u8i_length] at hsn
 have hxn := hx.n
 refine elU8.append (base := 0) (s := s) (x := x) (ws := (u8i cc).map (Value.int .u8)) h (by simp; omega) hx.reads (intsOne _ _) (by omega) (by omega) (Nat.zero_le _) ?_
 intro s' H' n1 o1 m1 b1 _
 refine hK s' H' ?_ m1 b1
 rw [u8i_append, List.map_append]; exact o1
section
variable {H : Heap} {k p dp : Nat} {t : Tr} {F : Nat → Prop} {s : Pl} {q : Nat} {I : Pl → St → Nat → Prop} {B C : Pl → Int → Prop} {x : St} {m : Nat} {nb : Nat} {page : Int} {sk sr : Sl} {n : Nd}
set_option maxHeartbeats 2000000 in
theorem twrite_raw {K : Int → Heap → Prop} (hg : Gl H) (h : TreeB H k p t) (hp : PoolAt F H p dp s) (hk : ¬ F k) (hkn : k ≠ nb) (hn : NodeR F H nb page sk sr n) (hfit : n.bytes.length ≤ 504) (hkl : n.kids.length ≤ 504) (hrl : n.rows.length ≤ 504) (hcols : ∀ l ∈ n.rows, l.length ≤ 16)
  (hpg : page = -1 ∨ (0 ≤ page ∧ page ≤ 1000000000000))
  (hnm : t.name.size ≤ 9223372036854775807) (hlogs : s.d.logs < 68719470000) (hnx : s.next < 1099511627776) (h0 : 0 ≤ s.next) (hft : s.Fit)
  (hK1 : page = -1 → ∀ F' H', PoolAt F' H' p dp (s.more t.name n.page.1 n.page.2).1 → Step (fun b => F b ∨ b = nb) (fun b => F' b ∨ b = nb) H H' → NodeR F' H' nb (s.fresh t.name).2.2.1 sk sr n → K (s.more t.name n.page.1 n.page.2).2 H')
  (hK2 : page ≠ -1 → ∀ F' H', PoolAt F' H' p dp (s.over t.name page n.page.1 n.page.2).1 → Step (fun b => F b ∨ b = nb) (fun b => F' b ∨ b = nb) H H' → NodeR F' H' nb page sk sr n → K (s.over t.name page n.page.1 n.page.2).2 H') : Zcc.sp (at0 k) (at0 nb) H K := by
 refine Zcc.of ?_
 unfold Zcc.vc
 have hkl0 := obj_lt h
 refine ⟨fun z A => ∃ F1 s1 pg, PoolAt F1 A p dp s1 ∧ NodeR F1 A nb pg sk sr n ∧ TreeB A k p t ∧ ¬ F1 k ∧ Gl A ∧ s1.next < 9223372036854775807 ∧ (z.2 ≠ 0 → K z.2 A) ∧
  (z.2 = 0 → ∀ F' H', PoolAt F' H' p dp (Pl.leave (s1.set z.1 n.page.1 n.page.2) z.1).1 → Step F1 F' A H' → NodeR F' H' nb pg sk sr n → K (Pl.leave (s1.set z.1 n.page.1 n.page.2) z.1).2 H'), ?_, ?_⟩
 ·simp only [optK_eq, at0]
  refine RowT.ld (c := cInt .i64) (i := 0) (x := page) hn.row rfl ?_
  refine br_mk (fun hc => ?_) (fun hc => ?_)
  ·have e0 : page = -1 := by have : page < 0 := by simpa using hc
                             omega
   refine RowT.ld (c := cPtr) (i := 0) (x := at0 p) h rfl ?_
   refine RowT.ld (c := cStr) (i := 1) (x := t.name) h rfl ?_
   refine Fresh_ok hg hp hnm (by omega) (by omega) hft fun F1 H1 p1 S1 => ?_
   have n1 := hn.step S1
   have hK1 := hK1 e0
   unfold Pl.more at hK1
   have hnx1 : (s.fresh t.name).1.next ≤ s.next + 1 := s.fresh_next h0 hnx
   generalize (s.fresh t.name).1 = s1 at *
   generalize (s.fresh t.name).2.1 = hd at *
   generalize (s.fresh t.name).2.2.1 = pg at *
   generalize (s.fresh t.name).2.2.2 = e at *
   refine RowT.st n1.row (i := 0) (by simp) rfl fun H2 r2 m2 z2 => ?_
   have hkF1 : ¬ F1 k := fun u => (S1.own _ u).elim hk fun u => by omega
   have mN : Step (fun b => F1 b ∨ b = nb) (fun b => F1 b ∨ b = nb) H1 H2 := ⟨m2.mono fun _ _ u => .inr u, fun _ u => .inl u⟩
   have n2 : NodeR F1 H2 nb pg sk sr n := ⟨r2, n1.off, n1.kidsO.ints n1.kids mN, n1.kidsO.step mN, n1.rows.step mN⟩
   have p2 : PoolAt F1 H2 p dp s1 := p1.keep fun b hb hl => m2.same b hl fun u => n1.off (u ▸ hb)
   have t2 : TreeB H2 k p t := (h.mod S1.mod hk).mod m2 hkn
   have g2 : Gl H2 := (hg.mod S1.mod hp.glob).keep (m2.same _ (hg.mod S1.mod hp.glob).lt fun u => by
    have q1 := n1.row
    have q2 := (hg.mod S1.mod hp.glob) 0 (by decide)
    rw [u] at q2
    have := hCell_of (o := 0) q1 (v := .int .i64 page) rfl
    rw [this] at q2; cases q2)
   have S2 : Step (fun b => F b ∨ b = nb) (fun b => F1 b ∨ b = nb) H H2 := (S1.with nb).trans mN
   refine ⟨F1, s1, pg, p2, n2, t2, hkF1, g2, by omega, fun he => ?_, fun he F' H' p3 S3 n3 => ?_⟩
   ·have he : e ≠ 0 := he
    rw [if_pos he] at hK1
    exact hK1 F1 H2 p2 S2 n2
   ·have he : ¬ e ≠ 0 := by simpa using he
    have hkd : n.page.1 ≠ 0 := by unfold Nd.page; simp only; split <;> decide
    rw [if_neg he, if_neg hkd] at hK1
    exact hK1 F' H' p3 (S2.trans (S3.with nb)) n3
  ·have e0 : page ≠ -1 := fun u => by subst u; simp at hc
   have e1 : 0 ≤ page ∧ page ≤ 1000000000000 := hpg.resolve_left e0
   refine RowT.ld (c := cPtr) (i := 0) (x := at0 p) h rfl ?_
   refine RowT.ld (c := cStr) (i := 1) (x := t.name) h rfl ?_
   refine RowT.ld (c := cInt .i64) (i := 0) (x := page) hn.row rfl ?_
   refine Pin_ok hg hp hnm (by omega) (by omega) (by omega) (by omega) fun F1 H1 p1 S1 => ?_
   have n1 := hn.step S1
   have hK2 := hK2 e0
   unfold Pl.over at hK2
   have hnx1 : (s.pin t.name page).1.next ≤ s.next + 1 := s.pin_next h0 hnx
   generalize (s.pin t.name page).1 = s1 at *
   generalize (s.pin t.name page).2.1 = hd at *
   generalize (s.pin t.name page).2.2 = e at *
   have hkF1 : ¬ F1 k := fun u => (S1.own _ u).elim hk fun u => by omega
   refine ⟨F1, s1, page, p1, n1, h.mod S1.mod hk, hkF1, hg.mod S1.mod hp.glob, by omega, fun he => ?_, fun he F' H' p3 S3 n3 => ?_⟩
   ·have he : e ≠ 0 := he
    rw [if_pos he] at hK2
    exact hK2 F1 H1 p1 (S1.with nb) n1
   ·have he : ¬ e ≠ 0 := by simpa using he
    rw [if_neg he] at hK2
    exact hK2 F' H' p3 ((S1.with nb).trans (S3.with nb)) n3
 ·rintro ⟨hd, e⟩ H1 ⟨F1, s1, pg, p1, n1, t1, hkF1, g1, hnx1, c1, c2⟩
  dsimp only at c1 c2 ⊢
  refine br_mk (fun hc => c1 (by simpa using hc)) (fun hc => ?_)
  have c2 := c2 (by simpa using hc)
  clear c1 hK1 hK2
  refine Owns.emptyB fun H5 o5 e5 => ?_
  have hkln : sk.n = n.kids.length := by have := n1.kids.len; simpa using this
  refine ⟨fun z A => z.1 = (n.page.1.toNat : Int) ∧ Owns A 0 YaS 1 z.2 ((u8i n.pre).map (Value.int .u8)) ∧ Ext H1 A ∧ ∀ c, ownB z.2 c → H1.size ≤ c, ?_, ?_⟩
  ·simp only [optK_eq, at0]
   refine RowT.ld (c := cSl) (i := 1) (x := sk) (n1.row.ext e5) rfl ?_
   have f5 : ∀ c, ownB (Sl.mk (some ⟨H1.size, 0, none⟩) 0 0) c → H1.size ≤ c := by
    rintro c ⟨ad, ha, rfl⟩
    cases ha; exact Nat.le_refl _
   refine br_mk (fun hc => ?_) (fun hc => ?_)
   ·have hk0 : n.kids ≠ [] := fun u => by rw [u] at hkln; simp [hkln] at hc
    refine RowT.ld (c := cSl) (i := 1) (x := sk) (n1.row.ext e5) rfl ?_
    refine RowT.ld (c := cSl) (i := 1) (x := sk) (n1.row.ext e5) rfl ?_
    have e8 : ishr .i64 (sk.n : Int) 8 = ((n.kids.length / 256 : Nat) : Int) := by rw [hkln]; exact shrT _ 8 (by decide)
    rw [e8, hkln, wrap8, wrap8]
    have ev : #[Value.int .u8 ((UInt8.ofNat (n.kids.length / 256)).toNat : Int), Value.int .u8 ((UInt8.ofNat n.kids.length).toNat : Int)] = ((u8i [UInt8.ofNat (n.kids.length / 256), UInt8.ofNat n.kids.length]).map (Value.int .u8)).toArray := rfl
    rw [ev]
    refine newC_ints _ fun pp H7 z7 q7 a7 e7 => ?_
    refine appB (s := ⟨some ⟨H1.size, 0, none⟩, 0, 0⟩) (bb := []) (x := ⟨some pp, 2, 2⟩) (o5.ext e7) (a7 2) (by simp) fun b8 H8 o8 m8 f8 => ?_
    have e18 : Ext H1 H8 := ((Ext.mod (e5.trans e7)).trans m8).ext f5
    have hz := (e5.trans e7).size
    have g8 : ∀ c, ownB b8 c → H1.size ≤ c := fun c u => by
     rcases f8 c u with v | v
     ·exact f5 c v
     ·omega
    refine RowT.ld (c := cSl) (i := 1) (x := sk) (n1.row.ext e18) rfl ?_
    refine loop_upto n.kids.length (fun i z A => z.2 = (i : Int) ∧ Owns A 0 YaS 1 z.1 ((u8i ([UInt8.ofNat (n.kids.length / 256), UInt8.ofNat n.kids.length] ++ (n.kids.take i).flatMap be4)).map (Value.int .u8)) ∧ Ext H1 A ∧ ∀ c, ownB z.1 c → H1.size ≤ c)
     ⟨rfl, by simpa using o8, e18, g8⟩ ?_
    rintro i ⟨bs, _⟩ A next hi ⟨rfl, oA, eA, fA⟩ hnext
    dsimp only at oA fA ⊢
    refine br_mk (fun hc2 => ?_) (fun hc2 => ?_)
    ·have hlt : i < n.kids.length := by have : (i : Int) < (sk.n : Int) := by simpa using hc2
                                        omega
     refine ints_get (n1.kids.ext eA) rfl (by simpa using hlt) fun ad _ => ?_
     have hkid : (List.map Int.ofNat n.kids).getD i 0 = ((n.kids.getD i 0 : Nat) : Int) := by
      simp [List.getD, List.getElem?_eq_getElem hlt]
     rw [hkid]
     refine tbytes_ok fun pq H9 b9 e9 q9 => ?_
     have hfl : ([UInt8.ofNat (n.kids.length / 256), UInt8.ofNat n.kids.length] ++ (n.kids.take i).flatMap be4).length ≤ 10000 := by
      rw [List.length_append, flat4_length]; simp; omega
     refine appB (oA.ext e9) b9 (by rw [be4_length]; omega) fun b10 H10 o10 m10 f10 => ?_
     have hzA := eA.size
     have hz9 := e9.size
     refine hnext hlt _ _ ⟨succ64 i (by omega), ?_, ((Ext.mod (eA.trans e9)).trans m10).ext fA, fun c u => ?_⟩
     ·have et : n.kids.take (i + 1) = n.kids.take i ++ [n.kids.getD i 0] := by
       rw [List.take_succ_eq_append_getElem hlt]; simp [List.getD, List.getElem?_eq_getElem hlt]
      rw [et, List.flatMap_append, ← List.append_assoc]
      simpa using o10
     ·rcases f10 c u with v | v
      ·exact fA c v
      ·omega
    ·have hge : i = n.kids.length := by have : ¬ (i : Int) < (sk.n : Int) := by simpa using hc2
                                        omega
     subst hge
     rw [List.take_of_length_le (Nat.le_refl _)] at oA
     refine ⟨?_, ?_, eA, fA⟩
     ·unfold Nd.page; simp only; rw [if_neg hk0]; rfl
     ·unfold Nd.pre; rw [if_neg hk0]; exact oA
   ·have hk0 : n.kids = [] := List.eq_nil_of_length_eq_zero (by have : ¬ ((sk.n : Int) > 0) := by simpa using hc
                                                                omega)
    refine ⟨?_, ?_, e5, f5⟩
    ·unfold Nd.page; simp only; rw [if_pos hk0]; rfl
    ·unfold Nd.pre; rw [if_pos hk0]; exact o5
  ·rintro ⟨kd, bs⟩ H6 ⟨rfl, o6, e6, f6⟩
   dsimp only at o6 f6 ⊢
   simp only [optK_eq, at0]
   refine RowT.ld (c := cSl) (i := 2) (x := sr) (n1.row.ext e6) rfl ?_
   have hrln := n1.rows.len
   have hpre : n.pre.length + (rowsY n.rows).length ≤ 504 := by
    rw [Nd.bytes_pre, List.length_append] at hfit; exact hfit
   refine loop_upto n.rows.length (fun i z A => z.2 = (i : Int) ∧ Owns A 0 YaS 1 z.1 ((u8i (n.pre ++ rowsY (n.rows.take i))).map (Value.int .u8)) ∧ Ext H1 A ∧ ∀ c, ownB z.1 c → H1.size ≤ c)
    ⟨rfl, by simpa [rowsY] using o6, e6, f6⟩ ?_
   rintro i ⟨bs2, _⟩ A next hi ⟨rfl, oA, eA, fA⟩ hnext
   dsimp only at oA fA ⊢
   refine br_mk (fun hc2 => ?_) (fun hc2 => ?_)
   ·have hlt : i < n.rows.length := by have : (i : Int) < (sr.n : Int) := by simpa using hc2
                                       omega
    refine (n1.rows.step (.ofExt eA)).ld hlt fun ad r _ _ hr => ?_
    have hcl : (n.rows.getD i []).length ≤ 16 := by rw [getDo hlt]; exact hcols _ (List.getElem_mem _)
    have et : n.rows.take (i + 1) = n.rows.take i ++ [n.rows.getD i []] := by
     rw [List.take_succ_eq_append_getElem hlt, getDo hlt]
    have ey : rowsY (n.rows.take (i + 1)) = rowsY (n.rows.take i) ++ bytesI (putL (n.rows.getD i [])) := by
     rw [et]; unfold rowsY; rw [List.flatMap_append]; simp
    have hsum : (rowsY (n.rows.take (i + 1))).length ≤ (rowsY n.rows).length := by
     have : n.rows = n.rows.take (i + 1) ++ n.rows.drop (i + 1) := (List.take_append_drop _ _).symm
     conv => rhs; rw [this]
     unfold rowsY
     rw [List.flatMap_append, List.length_append]; omega
    rw [ey, List.length_append] at hsum
    refine rowPut_ok hr (by omega) fun sb H9 o9 e9 => ?_
    have b9 : Byts H9 sb (bytesI (putL (n.rows.getD i []))) := by
     have := o9.ints
     unfold Byts
     rw [u8i_bytesI (putL_range _)]
     exact this
    refine appB (oA.ext e9) b9 (by rw [List.length_append]; omega) fun b10 H10 o10 m10 f10 => ?_
    have hzA := eA.size
    have hz9 := e9.size
    refine hnext hlt _ _ ⟨succ64 i (by omega), ?_, ((Ext.mod (eA.trans e9)).trans m10).ext fA, fun c u => ?_⟩
    ·rw [ey, ← List.append_assoc]; exact o10
    ·rcases f10 c u with v | v
     ·exact fA c v
     ·omega
   ·have hge : i = n.rows.length := by have : ¬ (i : Int) < (sr.n : Int) := by simpa using hc2
                                       omega
    subst hge
    rw [List.take_of_length_le (Nat.le_refl _), ← Nd.bytes_pre] at oA
    have SA : Step F1 F1 H1 A := .ofExt eA
    refine RowT.ld (c := cPtr) (i := 0) (x := at0 p) (t1.ext eA) rfl ?_
    refine Put_ok (l := n.page.2) (kd := n.page.1) (g1.mod eA id) (p1.ext eA) oA.ints fun F2 H2 p2 S2 => ?_
    have hg2 : Gl H2 := (g1.mod eA id).mod S2.mod p1.glob
    have hn2 : (s1.set hd n.page.1 n.page.2).1.next = s1.next := s1.set_next hd n.page.1 n.page.2
    have n2 := (n1.step SA).step S2
    generalize s1.set hd n.page.1 n.page.2 = s2 at *
    refine br_mk (fun hc3 => ?_) (fun hc3 => ?_)
    ·have e2 : s2.2 = 0 := by simpa using hc3
     refine RowT.ld (c := cPtr) (i := 0) (x := at0 p) ((t1.ext eA).mod S2.mod hkF1) rfl ?_
     refine Unpin_ok hg2 p2 (by omega) fun F3 H3 p3 S3 => ?_
     have el : Pl.leave s2 hd = s2.1.unpin hd := if_pos e2
     rw [el] at c2
     exact c2 F3 H3 p3 ((SA.trans S2).trans S3) (n2.step S3)
    ·have e2 : s2.2 ≠ 0 := by simpa using hc3
     have el : Pl.leave s2 hd = s2 := if_neg e2
     rw [el] at c2
     exact c2 F2 H2 p2 (SA.trans S2) n2
theorem twrite_new {K : Int → Heap → Prop} (S : Store t.name q I B C) (hI : I s x m) (hm : m < 30000000000) (hg : Gl H) (h : TreeB H k p t) (hp : PoolAt F H p dp s) (hk : ¬ F k) (hkn : k ≠ nb) (hn : NodeR F H nb (-1) sk sr n) (hfit : n.bytes.length ≤ 504) (hkl : n.kids.length ≤ 504) (hrl : n.rows.length ≤ 504) (hcols : ∀ l ∈ n.rows, l.length ≤ 16)
  (hK1 : x.N < q → ∀ F' H' s', PoolAt F' H' p dp s' → Step (fun b => F b ∨ b = nb) (fun b => F' b ∨ b = nb) H H' → I s' (x.more n) (m + 1) → NodeR F' H' nb (x.N : Int) sk sr n → K 0 H')
  (hKB : ¬ x.N < q → ∀ F' H' s' e, PoolAt F' H' p dp s' → Step (fun b => F b ∨ b = nb) (fun b => F' b ∨ b = nb) H H' → ¬ F' nb → B s' e → K e H')
  (hKC : ∀ F' H' s' e, PoolAt F' H' p dp s' → Step (fun b => F b ∨ b = nb) (fun b => F' b ∨ b = nb) H H' → ¬ F' nb → C s' e → K e H') : Zcc.sp (at0 k) (at0 nb) H K := by
 obtain ⟨b1, b2, b3, b4, b5, b6⟩ := S.pre hI
 have hkd : n.page.1 ≠ 0 := by unfold Nd.page; simp only; split <;> decide
 refine twrite_raw hg h hp hk hkn hn hfit hkl hrl hcols (.inl rfl) S.name (by omega) (by omega) b2 b4 (fun _ F' H' p1 S1 n1 => ?_) fun u => absurd rfl u
 by_cases hN : x.N < q
 ·rcases S.more hI hm hfit hkd hN with ⟨a1, a2, a3⟩ | hC
  ·rw [a2] at n1
   change K (s.more t.name n.page.1 n.bytes).2 H'
   rw [a1]
   exact hK1 hN F' H' _ p1 S1 a3 n1
  ·exact hKC F' H' _ _ p1 S1 n1.off hC
 ·rcases S.full hI hm hfit hkd hN with hB | hC
  ·exact hKB hN F' H' _ _ p1 S1 n1.off hB
  ·exact hKC F' H' _ _ p1 S1 n1.off hC
theorem twrite_old {K : Int → Heap → Prop} {g : Nat} (S : Store t.name q I B C) (hI : I s x m) (hm : m < 30000000000) (hg : Gl H) (h : TreeB H k p t) (hp : PoolAt F H p dp s) (hk : ¬ F k) (hkn : k ≠ nb) (hn : NodeR F H nb (g : Int) sk sr n) (hgN : g < x.N) (hfit : n.bytes.length ≤ 504) (hkl : n.kids.length ≤ 504) (hrl : n.rows.length ≤ 504) (hcols : ∀ l ∈ n.rows, l.length ≤ 16)
  (hK1 : ∀ F' H' s', PoolAt F' H' p dp s' → Step (fun b => F b ∨ b = nb) (fun b => F' b ∨ b = nb) H H' → I s' (x.put g n) (m + 1) → NodeR F' H' nb (g : Int) sk sr n → K 0 H')
  (hKC : ∀ F' H' s' e, PoolAt F' H' p dp s' → Step (fun b => F b ∨ b = nb) (fun b => F' b ∨ b = nb) H H' → ¬ F' nb → C s' e → K e H') : Zcc.sp (at0 k) (at0 nb) H K := by
 obtain ⟨b1, b2, b3, b4, b5, b6⟩ := S.pre hI
 refine twrite_raw hg h hp hk hkn hn hfit hkl hrl hcols (.inr ⟨by omega, by omega⟩) S.name (by omega) (by omega) b2 b4 (fun u => by omega) fun _ F' H' p1 S1 n1 => ?_
 rcases S.over hI hm hfit hgN (kd := n.page.1) with ⟨a1, a3⟩ | hC
 ·change K (s.over t.name (g : Int) n.page.1 n.bytes).2 H'
  rw [a1]
  exact hK1 F' H' _ p1 S1 a3 n1
 ·exact hKC F' H' _ _ p1 S1 n1.off hC
end
theorem Step.or {F F' : Nat → Prop} {H H' : Heap} (S : Step F F' H H') (X : Nat → Prop) : Step (fun b => F b ∨ X b) (fun b => F' b ∨ X b) H H' :=
 ⟨S.mod.mono fun _ _ h => .inl h, fun b hb => by
  rcases hb with q | q
  ·exact (S.own b q).imp .inl id
  ·exact .inl (.inr q)⟩
theorem Step.into {F F' G G' : Nat → Prop} {H H' : Heap} (S : Step F F' H H') (h1 : ∀ b, b < H.size → F b → G b) (h2 : ∀ b, G' b → F' b ∨ G b ∨ H.size ≤ b) : Step G G' H H' :=
 ⟨S.mod.mono h1, fun b hb => by
  rcases h2 b hb with q | q | q
  ·rcases S.own b q with r | r
   ·rcases Nat.lt_or_ge b H.size with u | u
    ·exact .inl (h1 b u r)
    ·exact .inr u
   ·exact .inr r
  ·exact .inl q
  ·exact .inr q⟩
structure RowOk (F : Nat → Prop) (H : Heap) (r : Sl) (l : List Int) : Prop where
 off : Off F H r
 ints : Ints .u64 H r l
theorem RowOk.step {F F' : Nat → Prop} {H H' : Heap} {r : Sl} {l : List Int} (h : RowOk F H r l) (S : Step F F' H H') : RowOk F' H' r l := ⟨h.off.step S, h.off.ints h.ints S⟩
theorem RowOk.mono {F G : Nat → Prop} {H : Heap} {r : Sl} {l : List Int} (h : RowOk F H r l) (hs : ∀ b, b < H.size → G b → F b) : RowOk G H r l := ⟨h.off.mono hs, h.ints⟩
theorem slA_block' {a : Option Addr} {c i n : Nat} {ad : Addr} (h : slA a c i n = some ad) : ∃ a0, a = some a0 ∧ a0.block = ad.block := by
 unfold slA at h
 split at h
 ·exact ⟨ad, h, rfl⟩
 ·cases a with
  | none => simp at h
  | some a0 =>
    simp at h
    exact ⟨a0, rfl, by rw [← h, add_block]⟩
theorem Off.cut {F : Nat → Prop} {H : Heap} {s : Sl} (h : Off F H s) {c i n m k : Nat} : Off F H ⟨slA s.a c i n, m, k⟩ := fun ad ha => by
 obtain ⟨a0, q1, q2⟩ := slA_block' ha
 have := h a0 q1
 rw [q2] at this; exact this
theorem RowsN.drop {F : Nat → Prop} {H : Heap} {s : Sl} {ls : List (List Int)} (h : RowsN F H s ls) (hc : s.n ≤ s.c) {i : Nat} (hi : i ≤ ls.length) : RowsN F H ⟨slA s.a s.c i 1, s.n - i, s.c - i⟩ (ls.drop i) := by
 have hln := h.len
 refine ⟨by rw [List.length_drop]; show s.n - i = _; omega, h.off.cut, fun j hj => ?_⟩
 rw [List.length_drop] at hj
 obtain ⟨ad, r, q1, q2, q4, q5⟩ := h.at' (i + j) (by omega)
 refine ⟨ad.add i, r, ?_, by rw [add_add]; exact q2, q4, ?_⟩
 ·show slA s.a s.c i 1 = _
  unfold slA
  rw [if_neg (by omega), q1, Nat.mul_one]; rfl
 ·rw [List.getElem_drop]; exact q5
theorem RowsN.take {F : Nat → Prop} {H : Heap} {s : Sl} {ls : List (List Int)} (h : RowsN F H s ls) {i c d : Nat} (hi : i ≤ ls.length) : RowsN F H ⟨slA s.a d 0 1, i, c⟩ (ls.take i) := by
 refine ⟨by rw [List.length_take]; show i = _; omega, h.off.cut, fun j hj => ?_⟩
 rw [List.length_take] at hj
 obtain ⟨ad, r, q1, q2, q4, q5⟩ := h.at' j (by omega)
 refine ⟨ad, r, by show slA s.a d 0 1 = _; rw [slA_zero, q1], q2, q4, ?_⟩
 rw [List.getElem_take]; exact q5
theorem IntsD {k : IntKind} {H : Heap} {s : Sl} {l : List Int} (h : Ints k H s l) (hc : s.n ≤ s.c) {i : Nat} (hi : i ≤ l.length) : Ints k H ⟨slA s.a s.c i 1, s.n - i, s.c - i⟩ (l.drop i) := by
 have hln := h.len
 refine ⟨by rw [List.length_drop]; show s.n - i = _; omega, fun j v hv => ?_⟩
 rw [List.map_drop, List.getElem?_drop] at hv
 obtain ⟨ad, q1, q2⟩ := h.reads _ v hv
 have hj : i + j < l.length := by have := (List.getElem?_eq_some_iff.1 hv).1; simpa using this
 refine ⟨ad.add i, ?_, by rw [add_add]; exact q2⟩
 show slA s.a s.c i 1 = _
 unfold slA
 rw [if_neg (by omega), q1, Nat.mul_one]; rfl
theorem IntsT {k : IntKind} {H : Heap} {s : Sl} {l : List Int} (h : Ints k H s l) {i c d : Nat} (hi : i ≤ l.length) : Ints k H ⟨slA s.a d 0 1, i, c⟩ (l.take i) := by
 refine ⟨by rw [List.length_take]; show i = _; omega, ?_⟩
 show Reads H (slA s.a d 0 1) _
 rw [slA_zero, List.map_take]
 exact h.reads.take i
section
variable {H : Heap} {k p dp : Nat} {t : Tr} {F : Nat → Prop} {s : Pl} {q : Nat} {I : Pl → St → Nat → Prop} {B C : Pl → Int → Prop} {x : St} {m : Nat} {nb : Nat} {page : Int} {sk sr : Sl} {n : Nd} {W : Nat}
theorem tfan_ok {K : Int → Heap → Prop} (h : TreeB H k p t) (hw : t.width = (W : Int)) (hW : W ≤ 16) (hK : ∀ H', Ext H H' → K (fanL W) H') : ZcQ.sp (at0 k) H K := by
 refine ZcQ.of ?_
 unfold ZcQ.vc
 simp only [optK_eq, at0]
 refine RowT.ld (c := cInt .i64) (i := 2) (x := t.width) h rfl ?_
 rw [hw]
 refine elU64.make (base := 0) (by omega) (Int.le_refl _) (by omega) (by omega) (Nat.zero_le _) ?_
 intro sl H1 n1 o1 e1 b1 _
 have o1' : Owns H1 0 YaP 1 sl ((List.replicate W (0 : Int)).map (Value.int .u64)) := by
  rw [List.map_replicate]; simpa using o1
 refine rowPut_ok o1'.ints (by simp; omega) fun sb H2 o2 e2 => ?_
 obtain ⟨p1, p2⟩ := put_len (l := List.replicate W (0 : Int)) (w := W) (by simp) hW
 have hs := sizeL_cases (W : Int)
 have hn : (sb.n : Int) = sizeL W := by
  have := o2.ints.len
  rw [p1] at this; omega
 rw [hn]
 have w1 : IntKind.i64.wrap ((4 : Int) + sizeL W) = 4 + sizeL W := wrap64 (by omega) (by omega)
 have w2 : IntKind.i64.wrap ((502 : Int) + sizeL W) = 502 + sizeL W := wrap64 (by omega) (by omega)
 rw [w1, w2]
 refine ⟨by omega, ?_⟩
 have hf : IntKind.i64.wrap (Int.tdiv (502 + sizeL W) (4 + sizeL W)) = fanL W := by
  have h1 := Int.tdiv_nonneg (a := 502 + sizeL (W : Int)) (b := 4 + sizeL W) (by omega) (by omega)
  have h2 := Int.tdiv_le_self (a := 502 + sizeL (W : Int)) (4 + sizeL W) (by omega)
  unfold fanL
  exact wrap64 (by omega) (by omega)
 rw [hf]
 exact hK H2 (e1.trans e2)
theorem NodeR.mono {F G : Nat → Prop} (h : NodeR F H nb page sk sr n) (hs : ∀ b, b < H.size → G b → F b) : NodeR G H nb page sk sr n :=
 ⟨h.row, fun u => h.off (hs _ (obj_lt h.row) u), h.kids, h.kidsO.mono fun b hb u => u.imp (hs b hb) id, h.rows.mono fun b hb u => u.imp (hs b hb) id⟩
set_option maxHeartbeats 2000000 in
theorem tsplit_ok {X : Nat → Prop} {K : (Option Addr × Sl × Int) → Heap → Prop} (S : Store t.name q I B C) (hI : I s x m) (hm : m < 30000000000) (hg : Gl H) (h : TreeB H k p t) (hp : PoolAt F H p dp s) (hk : ¬ F k) (hkn : k ≠ nb)
  (hn : NodeR (fun b => F b ∨ X b) H nb page sk sr n) (hck : sk.n ≤ sk.c) (hcr : sr.n ≤ sr.c) (h1 : 1 ≤ n.rows.length) (hin : n.kids = [] ∨ n.kids.length = n.rows.length + 1)
  (hfit : n.right.bytes.length ≤ 504) (hkl : n.kids.length ≤ 504) (hrl : n.rows.length ≤ 600) (hrl2 : n.right.rows.length ≤ 504) (hcols : ∀ l ∈ n.rows, l.length ≤ 16)
  (hK1 : x.N < q → ∀ F' H' s' mb v1 v2 up skl srl, PoolAt F' H' p dp s' → Step (fun b => F b ∨ b = nb) (fun b => F' b ∨ b = nb) H H' → I s' (x.more n.right) (m + 1) → NodeR (fun b => F' b ∨ X b) H' nb page skl srl n.left →
   RowT H' mb YaC #[.int .i64 (x.N : Int), v1, v2] → ¬ F' mb → mb ≠ nb → H.size ≤ mb → RowOk (fun b => (F' b ∨ X b) ∨ b = nb) H' up n.up → K (some ⟨mb, 0, none⟩, up, 0) H')
  (hKB : ¬ x.N < q → ∀ F' H' s' e o up, PoolAt F' H' p dp s' → Step (fun b => F b ∨ b = nb) (fun b => F' b ∨ b = nb) H H' → B s' e → K (o, up, e) H')
  (hKC : ∀ F' H' s' e o up, PoolAt F' H' p dp s' → Step (fun b => F b ∨ b = nb) (fun b => F' b ∨ b = nb) H H' → C s' e → K (o, up, e) H') : ZbZ.sp (at0 k) (at0 nb) H K := by
 refine ZbZ.of ?_
 unfold ZbZ.vc
 simp only [optK_eq, at0]
 have hrln := hn.rows.len
 have hkln : sk.n = n.kids.length := by have := hn.kids.len; simpa using this
 have hkb := obj_lt h
 have hnbl := obj_lt hn.row
 refine RowT.ld (c := cSl) (i := 2) (x := sr) hn.row rfl ?_
 have ehalf : IntKind.i64.wrap (Int.tdiv (sr.n : Int) 2) = ((n.rows.length / 2 : Nat) : Int) := by
  rw [hrln, show (2 : Int) = ((2 : Nat) : Int) from rfl, ← Int.ofNat_tdiv, wrap64 (by omega) (by omega)]
 rw [ehalf]
 refine newC_rowT fun H1 z1 r1 e1 => ?_
 have n1 := hn.step (.ofExt e1)
 refine RowT.ld (c := cSl) (i := 2) (x := sr) n1.row rfl ?_
 have hup := hn.rows.at' (n.rows.length / 2) (by omega)
 obtain ⟨ad, up, q1, q2, q4, q5⟩ := hup
 refine optK_mk ad q1 ⟨⟨by omega, by omega⟩, up, ?_, ?_⟩
 ·simp only [Int.toNat_natCast, Nat.mul_one]
  exact e1.cell q2 id
 have eup : n.up = n.rows[n.rows.length / 2]'(by omega) := by unfold Nd.up; rw [getDo]
 have upOk : RowOk (fun b => (F b ∨ X b) ∨ b = nb) H up n.up := ⟨q4, by rw [eup]; exact q5⟩
 have hmb : ∀ F' : Nat → Prop, (∀ b, F' b → F b) → ¬ F' H.size := fun F' hF u => by have := hp.lt _ (hF _ u); omega
 have hmn : H.size ≠ nb := by omega
 have hkm : k ≠ H.size := by omega
 -- the step that makes the new node one of those that may be written
 have SX : Step (fun b => F b ∨ X b) (fun b => (F b ∨ X b) ∨ b = H.size) H H1 := ⟨Ext.mod e1, fun b u => u.elim .inl fun v => .inr (by omega)⟩
 have nX := hn.step SX
 have upX := upOk.step (SX.with nb)
 have fin : ∀ (H5 : Heap) (sk' sr' skm srm : Sl), Mod (fun b => b = nb ∨ b = H.size) H1 H5 → H5.size = H1.size → RowT H5 H.size YaC #[.int .i64 (-1), skm.v, srm.v] → RowT H5 nb YaC #[.int .i64 page, sk'.v, sr'.v] →
   Ints .i64 H1 skm (n.right.kids.map Int.ofNat) → Off (fun b => ((F b ∨ X b) ∨ b = H.size) ∨ b = nb) H1 skm → RowsN (fun b => ((F b ∨ X b) ∨ b = H.size) ∨ b = nb) H1 srm n.right.rows →
   Ints .i64 H1 sk' (n.left.kids.map Int.ofNat) → Off (fun b => ((F b ∨ X b) ∨ b = H.size) ∨ b = nb) H1 sk' → RowsN (fun b => ((F b ∨ X b) ∨ b = H.size) ∨ b = nb) H1 sr' n.left.rows →
   Zcc.sp (some ⟨k, 0, none⟩) (some ⟨H.size, 0, none⟩) H5 fun (r : Int) H6 => K (some ⟨H.size, 0, none⟩, up, r) H6 := by
  intro H5 sk' sr' skm srm m5 z5 rm rn km kmo rmm kl klo rll
  have S5 : Step (fun b => ((F b ∨ X b) ∨ b = H.size) ∨ b = nb) (fun b => ((F b ∨ X b) ∨ b = H.size) ∨ b = nb) H1 H5 := ⟨m5.mono fun b _ u => u.elim .inr fun v => .inl (.inr v), fun b u => .inl u⟩
  have p5 : PoolAt F H5 p dp s := (hp.ext e1).keep fun b hb hl => m5.same b hl fun u => by
   rcases u with u | u
   ·exact hn.off (.inl (u ▸ hb))
   ·have := hp.lt b hb; omega
  have t5 : TreeB H5 k p t := (h.ext e1).mod m5 fun u => u.elim hkn hkm
  have hgl := hg.lt
  have g5 : Gl H5 := (Gl.mod hg e1 id).keep (m5.same _ (Gl.mod hg e1 id).lt fun u => by
   rcases u with u | u
   ·have w2 := hg 0 (by decide)
    rw [u] at w2
    have := hCell_of (o := 0) hn.row (v := .int .i64 page) rfl
    rw [this] at w2; cases w2
   ·omega)
  have nm : NodeR F H5 H.size (-1) skm srm n.right := ⟨rm, hmb F fun _ u => u, kmo.ints km S5, (kmo.step S5).mono fun b _ u => u.elim (fun v => .inl (.inl (.inl v))) fun v => .inl (.inr v), (rmm.step S5).mono fun b _ u => u.elim (fun v => .inl (.inl (.inl v))) fun v => .inl (.inr v)⟩
  have nl : NodeR (fun b => (F b ∨ X b) ∨ b = H.size) H5 nb page sk' sr' n.left := ⟨rn, fun u => u.elim hn.off fun v => hmn v.symm, klo.ints kl S5, klo.step S5, rll.step S5⟩
  have S05 : Step (fun b => F b ∨ b = nb) (fun b => F b ∨ b = nb) H H5 := ⟨⟨by have := e1.size; omega, fun b hb hnF => by
   rw [m5.same b (by omega) (fun u => by
    rcases u with u | u
    ·exact hnF (.inr u)
    ·omega)]
   exact e1.same b hb id⟩, fun b u => .inl u⟩
  have hkr : n.right.kids.length ≤ 504 := by
   unfold Nd.right
   split
   ·simp
   ·show (n.kids.drop _).length ≤ _; rw [List.length_drop]; omega
  have hcr : ∀ l ∈ n.right.rows, l.length ≤ 16 := fun l hl => hcols l (by
   unfold Nd.right at hl
   split at hl <;> exact List.mem_of_mem_drop hl)
  have T2 : ∀ {F' : Nat → Prop} {H' : Heap}, ¬ F' H.size → Step (fun b => F b ∨ b = H.size) (fun b => F' b ∨ b = H.size) H5 H' → Step (fun b => F b ∨ b = nb) (fun b => F' b ∨ b = nb) H H' := fun {F' H'} hF' S6 => by
   have hz := e1.size
   refine ⟨⟨by have := S6.mod.size; omega, fun b hb hnF => ?_⟩, fun b hb => ?_⟩
   ·rw [S6.mod.same b (by omega) fun u => by
     rcases u with u | u
     ·exact hnF (.inl u)
     ·omega]
    exact S05.mod.same b hb hnF
   ·rcases hb with u | u
    ·rcases S6.own b (.inl u) with v | v
     ·rcases v with v | v
      ·exact .inl (.inl v)
      ·exact .inr (by omega)
     ·exact .inr (by omega)
    ·exact .inl (.inr u)
  refine twrite_new S hI hm g5 t5 p5 hk hkm nm hfit hkr hrl2 hcr (fun hN F' H6 s' p6 S6 I6 n6 => ?_) (fun hN F' H6 s' e p6 S6 hmF hB => hKB hN F' H6 s' e _ _ p6 (T2 hmF S6) hB) (fun F' H6 s' e p6 S6 hmF hC => hKC F' H6 s' e _ _ p6 (T2 hmF S6) hC)
  have hmF : ¬ F' H.size := n6.off
  have S6X : Step (fun b => (F b ∨ X b) ∨ b = H.size) (fun b => (F' b ∨ X b) ∨ b = H.size) H5 H6 := S6.into (fun b _ u => u.elim (fun v => .inl (.inl v)) .inr) fun b u => by
   rcases u with (u | u) | u
   ·exact .inl (.inl u)
   ·exact .inr (.inl (.inl (.inr u)))
   ·exact .inl (.inr u)
  refine hK1 hN F' H6 s' H.size _ _ up sk' sr' p6 (T2 hmF S6) I6 ((nl.step S6X).mono fun b _ u => .inl u) n6.row hmF hmn (Nat.le_refl _) ?_
  exact ((upX.step S5).step (S6X.with nb)).mono fun b _ u => u.elim (fun v => .inl (.inl v)) .inr
 have hw1 : IntKind.i64.wrap (((n.rows.length / 2 : Nat) : Int) + 1) = ((n.rows.length / 2 + 1 : Nat) : Int) := succ64 _ (by omega)
 rw [hw1]
 simp only [Int.toNat_natCast, Nat.sub_zero]
 have hh : n.rows.length / 2 < n.rows.length := by omega
 clear q2 q5 eup
 generalize hhalf : n.rows.length / 2 = half at *
 refine RowT.ld (c := cSl) (i := 1) (x := sk) n1.row rfl ?_
 refine br_mk (fun hc => ?_) (fun hc => ?_)
 ·have hk0 : n.kids ≠ [] := fun u => by rw [u] at hkln; simp [hkln] at hc
  have hkr := hin.resolve_left hk0
  refine RowT.ld (c := cSl) (i := 2) (x := sr) n1.row rfl ?_
  refine ⟨by omega, ?_⟩
  refine RowT.ld (c := cSl) (i := 1) (x := sk) n1.row rfl ?_
  refine ⟨by omega, ?_⟩
  refine RowT.st r1 (i := 2) (by simp) rfl fun H2 r2 m2 z2 => ?_
  refine RowT.st r2 (i := 1) (by simp) rfl fun H3 r3 m3 z3 => ?_
  have rn3 : RowT H3 nb YaC #[.int .i64 page, sk.v, sr.v] := (n1.row.mod m2 (Ne.symm hmn)).mod m3 (Ne.symm hmn)
  refine RowT.ld (c := cSl) (i := 1) (x := sk) rn3 rfl ?_
  refine ⟨by omega, by omega, ?_⟩
  refine RowT.st rn3 (i := 1) (by simp) rfl fun H4 r4 m4 z4 => ?_
  refine RowT.ld (c := cSl) (i := 2) (x := sr) r4 rfl ?_
  refine ⟨by omega, by omega, ?_⟩
  refine RowT.st r4 (i := 2) (by simp) rfl fun H5 r5 m5 z5 => ?_
  have mall : Mod (fun b => b = nb ∨ b = H.size) H1 H5 := (((m2.mono fun _ _ u => .inr u).trans (m3.mono fun _ _ u => .inr u)).trans (m4.mono fun _ _ u => .inl u)).trans (m5.mono fun _ _ u => .inl u)
  have er : n.right = ⟨n.kids.drop (half + 1), n.rows.drop (half + 1)⟩ := by unfold Nd.right; rw [if_neg hk0, hhalf]
  have el : n.left = ⟨n.kids.take (half + 1), n.rows.take half⟩ := by unfold Nd.left; rw [hhalf]
  refine fin H5 ⟨slA sk.a (half + 1) 0 1, half + 1, half + 1⟩ ⟨slA sr.a half 0 1, half, half⟩ ⟨slA sk.a sk.c (half + 1) 1, sk.n - (half + 1), sk.c - (half + 1)⟩ ⟨slA sr.a sr.c (half + 1) 1, sr.n - (half + 1), sr.c - (half + 1)⟩ mall (by omega) (((r3.mod m4 hmn).mod m5 hmn)) r5 ?_ nX.kidsO.cut ?_ ?_ nX.kidsO.cut ?_
  ·rw [er]; simp only [List.map_drop]; exact IntsD nX.kids hck (by simp; omega)
  ·rw [er]; exact nX.rows.drop hcr (by omega)
  ·rw [el]; simp only [List.map_take]; exact IntsT nX.kids (by simp; omega)
  ·rw [el]; exact nX.rows.take (by omega)
 ·have hk0 : n.kids = [] := List.eq_nil_of_length_eq_zero (by have : ¬ ((sk.n : Int) > 0) := by simpa using hc
                                                              omega)
  refine RowT.ld (c := cSl) (i := 2) (x := sr) n1.row rfl ?_
  refine ⟨by omega, ?_⟩
  refine RowT.st r1 (i := 2) (by simp) rfl fun H2 r2 m2 z2 => ?_
  have rn2 : RowT H2 nb YaC #[.int .i64 page, sk.v, sr.v] := n1.row.mod m2 (Ne.symm hmn)
  refine RowT.ld (c := cSl) (i := 2) (x := sr) rn2 rfl ?_
  refine ⟨by omega, by omega, ?_⟩
  refine RowT.st rn2 (i := 2) (by simp) rfl fun H5 r5 m5 z5 => ?_
  have mall : Mod (fun b => b = nb ∨ b = H.size) H1 H5 := (m2.mono fun _ _ u => .inr u).trans (m5.mono fun _ _ u => .inl u)
  have er : n.right = ⟨[], n.rows.drop half⟩ := by unfold Nd.right; rw [if_pos hk0, hhalf]
  have el : n.left = ⟨[], n.rows.take half⟩ := by unfold Nd.left; rw [hhalf, hk0]; rfl
  refine fin H5 sk ⟨slA sr.a half 0 1, half, half⟩ ⟨none, 0, 0⟩ ⟨slA sr.a sr.c half 1, sr.n - half, sr.c - half⟩ mall (by omega) (r2.mod m5 hmn) r5 ?_ (fun ad u => by cases u) ?_ ?_ nX.kidsO ?_
  ·rw [er]; exact ⟨rfl, Reads.nil _ _⟩
  ·rw [er]; exact nX.rows.drop hcr (by omega)
  ·rw [el]; have := nX.kids; rw [hk0] at this; exact this
  ·rw [el]; exact nX.rows.take (by omega)
end
theorem int_kind : Tryz.prog.underlying YaT = some (.int .i64) := by kernel_rfl
theorem ovl_rows (args : Array Value) (w : World) : (callFunc 154 args).run Tryz.prog w = ((Extern.SlicesOverlaps.overlaps #[Yat, Yat] #[4] args).run Tryz.prog w).andThen fun v w' => .ok (.value v) w' :=
 run_callFunc_extern Tryz.func154 (by kernel_rfl) (by kernel_rfl) (by kernel_rfl) (by kernel_rfl) args w
theorem ovl_ints (args : Array Value) (w : World) : (callFunc 156 args).run Tryz.prog w = ((Extern.SlicesOverlaps.overlaps #[YaQ, YaQ] #[4] args).run Tryz.prog w).andThen fun v w' => .ok (.value v) w' :=
 run_callFunc_extern Tryz.func156 (by kernel_rfl) (by kernel_rfl) (by kernel_rfl) (by kernel_rfl) args w
theorem insRows_ok {H : Heap} {s : Sl} {i : Nat} {l : Sl} {p : Addr} {xs : List Value} {K : Sl → Heap → Prop} (h : Owns H 0 YaK 1 s xs) (h1 : ∀ u ∈ xs, u.oneCell' = true) (hp : VarT H p YaK l.v) (hpo : ¬ ownB s p.block) (hi : i ≤ xs.length) (hn : xs.length ≤ 1000000)
  (hK : ∀ (s' : Sl) (H' : Heap), s'.n = xs.length + 1 → Owns H' 0 YaK 1 s' (insAt i l.v xs) → Mod (ownB s) H H' → (∀ b, ownB s' b → ownB s b ∨ H.size ≤ b) → K s' H') :
  Zaw.sp s (i : Int) ⟨some p, 1, 1⟩ H K := by
 refine Zaw.of ?_
 exact ins_ok (ovl := 154) (rot := fun a b c d => ZaP.sp a b c d) elRow (by decide) int_kind ovl_rows h h1 rfl hp hpo hi hn (Nat.zero_le _) hK
theorem insInts_ok {H : Heap} {s : Sl} {i : Nat} {x : Int} {p : Addr} {xs : List Value} {K : Sl → Heap → Prop} (h : Owns H 0 YaT 1 s xs) (h1 : ∀ u ∈ xs, u.oneCell' = true) (hp : VarT H p YaT (.int .i64 x)) (hpo : ¬ ownB s p.block) (hi : i ≤ xs.length) (hn : xs.length ≤ 1000000)
  (hK : ∀ (s' : Sl) (H' : Heap), s'.n = xs.length + 1 → Owns H' 0 YaT 1 s' (insAt i (.int .i64 x) xs) → Mod (ownB s) H H' → (∀ b, ownB s' b → ownB s b ∨ H.size ≤ b) → K s' H') :
  Zbn.sp s (i : Int) ⟨some p, 1, 1⟩ H K := by
 refine Zbn.of ?_
 exact ins_ok (ovl := 156) (rot := fun a b c d => Zbu.sp a b c d) elIntR (by decide) int_kind ovl_ints h h1 rfl hp hpo hi hn (Nat.zero_le _) hK
section
variable {α : Type}
theorem insAt_length (i : Nat) (a : α) (l : List α) : (insAt i a l).length = l.length + 1 := by
 unfold insAt
 rw [List.length_append, List.length_cons, List.length_take, List.length_drop]; omega
theorem insAt_get {i : Nat} {a : α} {l : List α} (hi : i ≤ l.length) (j : Nat) : (insAt i a l)[j]? = if j < i then l[j]? else if j = i then some a else l[j - 1]? := by
 unfold insAt
 have hl : (l.take i).length = i := by simp; omega
 by_cases h1 : j < i
 ·rw [if_pos h1, List.getElem?_append_left (by omega), List.getElem?_take, if_pos h1]
 ·rw [if_neg h1, List.getElem?_append_right (by omega), hl]
  by_cases h2 : j = i
  ·subst h2; simp
  ·rw [if_neg h2]
   obtain ⟨d, hd⟩ : ∃ d, j - i = d + 1 := ⟨j - i - 1, by omega⟩
   rw [hd, List.getElem?_cons_succ, List.getElem?_drop]
   congr 1; omega
theorem insAt_map {β : Type} (f : α → β) (i : Nat) (a : α) (l : List α) : insAt i (f a) (l.map f) = (insAt i a l).map f := by
 unfold insAt
 simp
theorem insAt_mem {i : Nat} {a b : α} {l : List α} : b ∈ insAt i a l ↔ b ∈ l ∨ b = a := by
 unfold insAt
 rw [List.mem_append, List.mem_cons]
 constructor
 ·rintro (h | h | h)
  ·exact .inl (List.mem_of_mem_take h)
  ·exact .inr h
  ·exact .inl (List.mem_of_mem_drop h)
 ·rintro (h | h)
  ·rw [← List.take_append_drop i l, List.mem_append] at h
   exact h.imp id .inr
  ·exact .inr (.inl h)
end
structure RowsQ (F : Nat → Prop) (H : Heap) (s : Sl) (rs : List Sl) (ls : List (List Int)) : Prop where
 out : Owns H 0 YaK 1 s (rs.map Sl.v)
 outF : ∀ b, ownB s b → ¬ F b
 len : rs.length = ls.length
 row : ∀ (i : Nat) (r : Sl) (l : List Int), rs[i]? = some r → ls[i]? = some l → RowOk (fun b => F b ∨ ownB s b) H r l
theorem RowsQ.toN {F : Nat → Prop} {H : Heap} {s : Sl} {rs : List Sl} {ls : List (List Int)} (h : RowsQ F H s rs ls) : RowsN F H s ls := by
 have hn := h.out.1
 have hl := h.len
 simp only [List.length_map, Nat.mul_one] at hn
 refine ⟨by omega, fun ad ha => ⟨(h.out.block _ ⟨ad, ha, rfl⟩).2, h.outF _ ⟨ad, ha, rfl⟩⟩, fun i hi => ?_⟩
 have hir : i < rs.length := by omega
 obtain ⟨ad, ha, hc⟩ := h.out.reads.at (i := i) (by simpa using hir)
 have hr := h.row i _ _ (List.getElem?_eq_getElem hir) (List.getElem?_eq_getElem hi)
 exact ⟨ad, rs[i], ha, by simpa using hc, hr.off.mono fun _ _ u => .inl u, hr.ints⟩
theorem NodeO.q {F X : Nat → Prop} {H : Heap} {base nb : Nat} {page : Int} {sk sr : Sl} {rs : List Sl} {n : Nd} (h : NodeO F H base nb page sk sr rs n) (hX : ∀ b, X b → b < base ∨ b = nb) : RowsQ (fun b => F b ∨ X b) H sr rs n.rows := by
 refine ⟨h.rows.out, fun b hb u => ?_, h.rows.len, fun i r l h1 h2 => ⟨fun ad ha => ⟨?_, fun u => ?_⟩, (h.rows.row i r l h1 h2).ints⟩⟩
 ·have := h.sr b hb
  rcases u with u | u
  ·exact this.2 u
  ·rcases hX b u with v | v
   ·omega
   ·subst v; exact h.srN hb
 ·exact (h.rows.block.2 r (List.mem_of_getElem? h1) _ ⟨ad, ha, rfl⟩).2
 ·have hr := List.mem_of_getElem? h1
  have := h.rs r hr _ ⟨ad, ha, rfl⟩
  rcases u with (u | u) | u
  ·exact this.2 u
  ·rcases hX _ u with v | v
   ·omega
   ·exact h.rsN r hr ⟨ad, ha, v⟩
  ·exact (h.rows.row i r l h1 h2).apart h.rows.out (by decide) _ ⟨ad, ha, rfl⟩ u
theorem RowsQ.ins {F : Nat → Prop} {H : Heap} {s : Sl} {rs : List Sl} {ls : List (List Int)} {i : Nat} {l : Sl} {ll : List Int} {K : Sl → Heap → Prop} (h : RowsQ F H s rs ls) (hl : RowOk (fun b => F b ∨ ownB s b) H l ll) (hF : ∀ b, F b → b < H.size) (hi : i ≤ ls.length) (hn : ls.length ≤ 1000000)
  (hK : ∀ s' H', RowsQ F H' s' (insAt i l rs) (insAt i ll ls) → Mod (ownB s) H H' → (∀ b, ownB s' b → ownB s b ∨ H.size ≤ b) → K s' H') :
  newC H #[l.v] YaK fun p H1 => Zaw.sp s (i : Int) ⟨some p, 1, 1⟩ H1 K := by
 refine newC_varT fun p H1 hp z1 v1 e1 => ?_
 have hlen := h.len
 refine insRows_ok (h.out.ext e1) (by
  intro u hu
  obtain ⟨r, _, rfl⟩ := List.mem_map.1 hu
  rfl) v1 (fun u => by have := (h.out.block _ u).2; omega) (by simp; omega) (by simp; omega) fun s' H' n1 o1 m1 b1 => ?_
 rw [insAt_map] at o1
 have hown : ∀ b, ownB s' b → ownB s b ∨ H.size ≤ b := fun b hb => (b1 b hb).imp id fun u => by omega
 have mAll : Mod (ownB s) H H' := (Ext.mod e1).trans m1
 refine hK s' H' ⟨o1, fun b hb u => ?_, by rw [insAt_length, insAt_length, hlen], fun j r lj h1 h2 => ?_⟩ mAll hown
 ·rcases hown b hb with v | v
  ·exact h.outF b v u
  ·have := hF b u; omega
 ·have key : RowOk (fun b => F b ∨ ownB s b) H r lj := by
   rw [insAt_get (by omega)] at h1 h2
   split at h1
   ·rename_i hj
    rw [if_pos hj] at h2
    exact h.row j r lj h1 h2
   ·rename_i hj
    rw [if_neg hj] at h2
    split at h1
    ·rename_i hj2
     rw [if_pos hj2] at h2
     cases h1; cases h2
     exact hl
    ·rename_i hj2
     rw [if_neg hj2] at h2
     exact h.row (j - 1) r lj h1 h2
  exact key.step ⟨mAll.mono fun _ _ u => .inr u, fun b hb => by
   rcases hb with u | u
   ·exact .inl (.inl u)
   ·exact (hown b u).imp .inr id⟩
theorem half_fits {W : Nat} {n : Nd} (hW : W ≤ 16) (hc : ∀ l ∈ n.rows, l.length = W) (h1 : 1 ≤ n.rows.length)
  (h : (n.kids = [] ∧ (n.rows.length - 1) * (sizeL (W : Int)).toNat ≤ 504) ∨ (n.kids.length = n.rows.length + 1 ∧ 2 + 4 * (n.kids.length - 1) + (n.rows.length - 1) * (sizeL (W : Int)).toNat ≤ 504)) :
  (∀ above, (0 < above → n.kids ≠ []) → (above = 0 → n.kids = []) → n.full W above = false → n.bytes.length ≤ 504) ∧ (∀ above, n.full W above = true → 2 ≤ n.rows.length → n.left.bytes.length ≤ 504 ∧ n.right.bytes.length ≤ 504) := by
 obtain ⟨f1, f2, f3, f4⟩ := fan_room hW
 obtain ⟨s1, s2⟩ := sizeL_nat hW
 have hs := sizeL_cases (W : Int)
 have hsz : 1 ≤ (sizeL (W : Int)).toNat := by omega
 generalize hz : (sizeL (W : Int)).toNat = z at *
 refine ⟨fun above ha ha0 hf => ?_, fun above hf h2 => ?_⟩
 ·rw [Nd.bytes_length hW hc, hz]
  unfold Nd.full at hf
  simp only [Bool.or_eq_false_iff, Bool.and_eq_false_iff, decide_eq_false_iff_not] at hf
  obtain ⟨g1, g2⟩ := hf
  by_cases hk : n.kids = []
  ·rw [if_pos hk]
   have hab : above = 0 := by
    rcases Nat.eq_zero_or_pos above with u | u
    ·exact u
    ·exact absurd hk (ha u)
   have := (f2 n.rows.length).1 (g1.resolve_left (by omega))
   omega
  ·rw [if_neg hk]
   have hr := (h.resolve_left fun u => hk u.1).1
   rcases (f1 n.kids.length).1 g2 with u | u
   ·have e : n.kids.length - 1 = n.rows.length := by omega
    rw [e] at u; omega
   ·omega
 ·have hl : ∀ l ∈ n.left.rows, l.length = W := fun l hm => hc l (List.mem_of_mem_take hm)
  have hr : ∀ l ∈ n.right.rows, l.length = W := fun l hm => hc l (by
   unfold Nd.right at hm
   split at hm <;> exact List.mem_of_mem_drop hm)
  rw [Nd.bytes_length hW hl, Nd.bytes_length hW hr, hz]
  have half1 : 1 ≤ n.rows.length / 2 := by omega
  have half2 : n.rows.length / 2 ≤ n.rows.length - 1 := by omega
  have hmul : n.rows.length / 2 * z ≤ (n.rows.length - 1) * z := Nat.mul_le_mul_right _ half2
  by_cases hk : n.kids = []
  ·have e1 : n.left = ⟨[], n.rows.take (n.rows.length / 2)⟩ := by unfold Nd.left; rw [hk]; rfl
   have e2 : n.right = ⟨[], n.rows.drop (n.rows.length / 2)⟩ := by unfold Nd.right; rw [if_pos hk]
   have hm2 : (n.rows.length - n.rows.length / 2) * z ≤ (n.rows.length - 1) * z := Nat.mul_le_mul_right _ (by omega)
   have h0 : (n.rows.length - 1) * z ≤ 504 := by
    rcases h with u | u
    ·exact u.2
    ·rw [hk] at u; simp at u
   rw [e1, e2]
   simp only [if_pos, List.length_take, List.length_drop, Nat.mul_zero, Nat.zero_add]
   rw [Nat.min_eq_left (by omega)]
   omega
  ·obtain ⟨u1, u2⟩ := h.resolve_left fun u => hk u.1
   have e2 : n.right = ⟨n.kids.drop (n.rows.length / 2 + 1), n.rows.drop (n.rows.length / 2 + 1)⟩ := by unfold Nd.right; rw [if_neg hk]
   have hm2 : (n.rows.length - (n.rows.length / 2 + 1)) * z ≤ (n.rows.length - 1) * z := Nat.mul_le_mul_right _ (by omega)
   rw [e2]
   unfold Nd.left
   simp only [List.length_take, List.length_drop]
   rw [Nat.min_eq_left (by omega), Nat.min_eq_left (by omega)]
   constructor <;> split <;> omega
end Go.Proofs.YtlockeegebnofaaGreatDoor
