/-
  Trees of rows in pages, in plain words.
-/
import Derived.Test.YtmdiinakfpgdjaaDoorRows
import Derived.Test.YtmdiinakfpgdjaaDoorVc
import Derived.Test.YtmdiinakfpgdjaaDoorFxk
import Derived.Test.YtmdiinakfpgdjaaDoorFxh
import Derived.Test.YtmdiinakfpgdjaaDoorJ35
import Derived.Test.YtmdiinakfpgdjaaDoorFxw
namespace Go.Proofs.YtmdiinakfpgdjaaDoor

/-- A node: kids (none: a leaf), rows. -/
structure Nd where
  kids : List Nat
  rows : List (List Int)
structure Span where
  low : Option (List Int)
  high : Option (List Int)
def span0 : Span := ⟨none, none⟩
def rises (ls : List (List Int)) : Bool := (List.range (ls.length - 1)).all fun i => decide (cmpL (ls.getD i []) (ls.getD (i + 1) []) < 0)
def Span.ge (s : Span) (l : List Int) : Bool := match s.low with | none => true | some a => decide (cmpL l a ≥ 0)
def Span.lt (s : Span) (l : List Int) : Bool := match s.high with | none => true | some a => decide (cmpL l a < 0)
def Span.holds (s : Span) (ls : List (List Int)) : Bool := rises ls && (ls.isEmpty || (s.ge (ls.getD 0 []) && s.lt (ls.getD (ls.length - 1) [])))
def Span.of (s : Span) (n : Nd) (i : Nat) : Span :=
  ⟨if 0 < i then some (n.rows.getD (i - 1) []) else s.low, if i < n.rows.length then some (n.rows.getD i []) else s.high⟩
def be4 (n : Nat) : List UInt8 := [UInt8.ofNat (n / 16777216), UInt8.ofNat (n / 65536), UInt8.ofNat (n / 256), UInt8.ofNat n]
def of4 (b : List UInt8) : Nat := (((b.getD 0 0).toNat * 256 + (b.getD 1 0).toNat) * 256 + (b.getD 2 0).toNat) * 256 + (b.getD 3 0).toNat
def kidsOf (b : List UInt8) (k : Nat) : List Nat := (List.range k).map fun i => of4 (b.drop (2 + 4 * i))
def num2 (b : List UInt8) : Nat := (b.getD 0 0).toNat * 256 + (b.getD 1 0).toNat
def nodeFin (w : Int) (depth : Nat) (s : Span) (kids : List Nat) (b : List UInt8) : Option Nd :=
  if getOK (u8i b) w = false ∨ (kids ≠ [] ∧ (getL (u8i b) w).length + 1 ≠ kids.length) then none
  else if s.holds (getL (u8i b) w) = false ∨ (getL (u8i b) w = [] ∧ 1 < depth) then none
  else some ⟨kids, getL (u8i b) w⟩
def nodeOf (w : Int) (depth above : Nat) (s : Span) (kb : UInt8 × List UInt8) : Option Nd :=
  if kb.1 = 3 ∧ above = 0 then nodeFin w depth s [] kb.2
  else if kb.1 = 4 ∧ 0 < above ∧ 2 ≤ kb.2.length then
    if num2 kb.2 < 2 ∨ kb.2.length < 2 + 4 * num2 kb.2 then none else nodeFin w depth s (kidsOf kb.2 (num2 kb.2)) (kb.2.drop (2 + 4 * num2 kb.2))
  else none
/-- The pages of a file. -/
structure St where
  N : Nat
  T : Nat → UInt8 × List UInt8
def St.node (x : St) (w : Int) (depth above page : Nat) (s : Span) : Option Nd := if page < x.N then nodeOf w depth above s (x.T page) else none
def sameAt (ls : List (List Int)) (l : List Int) : Bool := decide (below l ls < ls.length) && decide (ls.getD (below l ls) [] = l)
def Nd.child (n : Nd) (l : List Int) : Nat := if sameAt n.rows l then below l n.rows + 1 else below l n.rows
/-- Kids are gone through, until one tells a row (or an error); with how many pages were looked at. -/
def goK (f : Nat → Nat × Option (Option (List Int))) : Nat → Nat → Nat × Option (Option (List Int))
  | _, 0 => (0, some none)
  | i, k + 1 => if (f i).2 = some none then ((f i).1 + (goK f (i + 1) k).1, (goK f (i + 1) k).2) else f i
def leafAt (ls : List (List Int)) (low : List Int) (strict : Bool) : Option (List Int) := ls[below low ls + (if sameAt ls low && strict then 1 else 0)]?
def St.find (x : St) (w : Int) (depth : Nat) (low : List Int) (strict : Bool) : Nat → Nat → Span → Nat × Option (Option (List Int))
  | 0, page, s => match x.node w depth 0 page s with
    | none => (1, none)
    | some n => (1, some (leafAt n.rows low strict))
  | a + 1, page, s => match x.node w depth (a + 1) page s with
    | none => (1, none)
    | some n =>
      (1 + (goK (fun i => x.find w depth low strict a (n.kids.getD i 0) (s.of n i)) (n.child low) (n.kids.length - n.child low)).1,
       (goK (fun i => x.find w depth low strict a (n.kids.getD i 0) (s.of n i)) (n.child low) (n.kids.length - n.child low)).2)
def Nd.bytes (n : Nd) : List UInt8 := (if n.kids = [] then [] else UInt8.ofNat (n.kids.length / 256) :: UInt8.ofNat n.kids.length :: n.kids.flatMap be4) ++ n.rows.flatMap fun l => bytesI (putL l)
def Nd.page (n : Nd) : UInt8 × List UInt8 := (if n.kids = [] then 3 else 4, n.bytes)
def St.put (x : St) (page : Nat) (n : Nd) : St := { x with T := setT x.T page n.page }
def St.more (x : St) (n : Nd) : St := ⟨x.N + 1, setT x.T x.N n.page⟩
def fanL (w : Int) : Int := Int.tdiv (502 + sizeL w) (4 + sizeL w)
def Nd.full (n : Nd) (w : Int) (above : Nat) : Bool := (decide (above = 0) && decide ((n.rows.length : Int) > roomL w)) || decide ((n.kids.length : Int) > fanL w)
inductive AddR where
  | store
  | quota
  | ok (fresh : Bool) (m : Option (Nat × List Int)) (x : St)
def Nd.left (n : Nd) : Nd := ⟨n.kids.take (n.rows.length / 2 + 1), n.rows.take (n.rows.length / 2)⟩
def Nd.right (n : Nd) : Nd := if n.kids = [] then ⟨[], n.rows.drop (n.rows.length / 2)⟩ else ⟨n.kids.drop (n.rows.length / 2 + 1), n.rows.drop (n.rows.length / 2 + 1)⟩
def Nd.up (n : Nd) : List Int := n.rows.getD (n.rows.length / 2) []
/-- A node that took a row is written; cut, if it is too full. -/
def St.fin (x : St) (w : Int) (q above page : Nat) (n : Nd) : AddR :=
  if n.full w above then (if x.N < q then .ok true (some (x.N, n.up)) ((x.more n.right).put page n.left) else .quota) else .ok true none (x.put page n)

def St.add (x : St) (w : Int) (q depth : Nat) (l : List Int) : Nat → Nat → Span → AddR
  | 0, page, s => match x.node w depth 0 page s with
    | none => .store
    | some n => if sameAt n.rows l then .ok false none x else x.fin w q 0 page ⟨n.kids, insAt (below l n.rows) l n.rows⟩
  | a + 1, page, s => match x.node w depth (a + 1) page s with
    | none => .store
    | some n => match x.add w q depth l a (n.kids.getD (n.child l) 0) (s.of n (n.child l)) with
      | .ok _ (some m) x' => x'.fin w q (a + 1) page ⟨insAt (n.child l + 1) m.1 n.kids, insAt (n.child l) m.2 n.rows⟩
      | r => r

/-! ### What is known of nodes -/
theorem nodeFin_some {w : Int} {depth : Nat} {s : Span} {kids : List Nat} {b : List UInt8} {n : Nd} (h : nodeFin w depth s kids b = some n) :
    n.kids = kids ∧ n.rows = getL (u8i b) w ∧ getOK (u8i b) w = true ∧ (kids ≠ [] → n.rows.length + 1 = kids.length) ∧ s.holds n.rows = true ∧ (1 < depth → n.rows ≠ []) := by
  unfold nodeFin at h
  split at h
  · cases h
  · rename_i h1
    split at h
    · cases h
    · rename_i h2
      cases h
      refine ⟨rfl, rfl, ?_, fun hk => ?_, ?_, fun hd e => h2 (.inr ⟨e, hd⟩)⟩
      · cases hq : getOK (u8i b) w with
        | true => rfl
        | false => exact absurd (.inl hq) h1
      · apply Decidable.byContradiction
        exact fun q => h1 (.inr ⟨hk, q⟩)
      · cases hq : s.holds (getL (u8i b) w) with
        | true => rfl
        | false => exact absurd (.inl hq) h2
/-- What holds of a node that was read. -/
structure Nd.Ok (n : Nd) (w : Int) (depth above : Nat) (s : Span) : Prop where
  leaf : above = 0 → n.kids = []
  inner : 0 < above → n.kids.length = n.rows.length + 1 ∧ 1 ≤ n.rows.length ∧ 2 + 4 * n.kids.length ≤ 504
  holds : s.holds n.rows = true
  some_ : 1 < depth → n.rows ≠ []
  cols : ∀ l ∈ n.rows, l.length = w.toNat
  size : n.rows.length ≤ 504
  kids : ∀ k ∈ n.kids, k < 4294967296
  fit : (2 + 4 * n.kids.length) * (if n.kids = [] then 0 else 1) + n.rows.length * (sizeL w).toNat ≤ 504
  width : sizeL w ≠ 0
theorem of4_lt (b : List UInt8) : of4 b < 4294967296 := by
  have h0 := (b.getD 0 0).toNat_lt; have h1 := (b.getD 1 0).toNat_lt; have h2 := (b.getD 2 0).toNat_lt; have h3 := (b.getD 3 0).toNat_lt
  unfold of4; omega
theorem getL_len {b : List Int} {w : Int} (h : getOK b w = true) : (getL b w).length * (sizeL w).toNat = b.length ∧ sizeL w ≠ 0 ∧ ∀ l ∈ getL b w, l.length = w.toNat := by
  have hok := h
  unfold getOK at h
  simp only [Bool.and_eq_true, decide_eq_true_eq] at h
  obtain ⟨⟨h1, h2⟩, _⟩ := h
  have hs := sizeL_cases w
  obtain ⟨m, hm⟩ : ∃ m : Nat, sizeL w = (m : Int) := ⟨(sizeL w).toNat, by omega⟩
  have hm0 : 0 < m := by omega
  have he : getL b w = rowsOf b w (b.length / (sizeL w).toNat) := by unfold getL; rw [if_pos hok]
  refine ⟨?_, h1, fun l hl => ?_⟩
  · rw [he]
    unfold rowsOf
    rw [List.length_map, List.length_range]
    rw [hm] at h2 ⊢
    rw [Int.toNat_natCast]
    exact (tmod_zero hm0 h2).symm
  · rw [he] at hl
    unfold rowsOf at hl
    obtain ⟨k, _, rfl⟩ := List.mem_map.1 hl
    exact rowOf_length _ _
theorem nodeOf_ok {w : Int} {depth above : Nat} {s : Span} {kb : UInt8 × List UInt8} {n : Nd} (hb : kb.2.length ≤ 504) (h : nodeOf w depth above s kb = some n) : n.Ok w depth above s := by
  unfold nodeOf at h
  split at h
  · rename_i hc
    obtain ⟨e1, e2, e3, _, e5, e6⟩ := nodeFin_some h
    obtain ⟨g1, g2, g3⟩ := getL_len e3
    rw [← e2, u8i_length] at g1
    rw [← e2] at g3
    have hs := sizeL_cases w
    have h0 : 0 < (sizeL w).toNat := by omega
    have hm : n.rows.length * 1 ≤ n.rows.length * (sizeL w).toNat := Nat.mul_le_mul_left _ h0
    refine ⟨fun _ => e1, fun q => by omega, e5, e6, g3, by omega, by rw [e1]; simp, ?_, g2⟩
    rw [if_pos e1]; omega
  · split at h
    · rename_i hc
      split at h
      · cases h
      · rename_i hn
        obtain ⟨e1, e2, e3, e4, e5, e6⟩ := nodeFin_some h
        obtain ⟨g1, g2, g3⟩ := getL_len e3
        rw [← e2, u8i_length, List.length_drop] at g1
        rw [← e2] at g3
        have hs := sizeL_cases w
        have h0 : 0 < (sizeL w).toNat := by omega
        have hm : n.rows.length * 1 ≤ n.rows.length * (sizeL w).toNat := Nat.mul_le_mul_left _ h0
        have hkl : (kidsOf kb.2 (num2 kb.2)).length = num2 kb.2 := by simp [kidsOf]
        have hk0 : kidsOf kb.2 (num2 kb.2) ≠ [] := fun q => by rw [q] at hkl; simp at hkl; omega
        have e4 := e4 hk0
        rw [hkl] at e4
        have hkl2 : n.kids.length = num2 kb.2 := by rw [e1, hkl]
        have hn2 : ¬ num2 kb.2 < 2 := fun q => hn (.inl q)
        have hn3 : ¬ kb.2.length < 2 + 4 * num2 kb.2 := fun q => hn (.inr q)
        refine ⟨fun q => by omega, fun _ => ⟨by omega, by omega, by omega⟩, e5, e6, g3, by omega, ?_, ?_, g2⟩
        · rw [e1]
          intro k hk
          obtain ⟨i, _, rfl⟩ := List.mem_map.1 hk
          exact of4_lt _
        · rw [if_neg (by rw [e1]; exact hk0)]; omega
    · cases h
theorem below_leT (l : List Int) (ls : List (List Int)) : below l ls ≤ ls.length := List.Sublist.length_le (List.takeWhile_sublist _)
theorem child_le {n : Nd} {l : List Int} : n.child l ≤ n.rows.length := by
  unfold Nd.child
  split
  · rename_i h
    unfold sameAt at h
    simp only [Bool.and_eq_true, decide_eq_true_eq] at h
    omega
  · exact below_leT _ _
end Go.Proofs.YtmdiinakfpgdjaaDoor

/-
  A file's pages over a pool: what each call makes of them, whatever the disk; over one file on a disk that stays up.
-/
namespace Go.Proofs.YtmdiinakfpgdjaaDoor

/-- A page that lies there is put anew. -/
def Pl.over (p : Pl) (n : ByteArray) (k : Int) (kd : UInt8) (b : List UInt8) : Pl × Int :=
  if (p.pin n k).2.2 ≠ 0 then ((p.pin n k).1, (p.pin n k).2.2) else Pl.leave ((p.pin n k).1.set (p.pin n k).2.1 kd b) (p.pin n k).2.1

/-- A file's pages over a pool. I: all is well, after so many calls; B: the disk is full; C: it is down. -/
structure Store (n : ByteArray) (q : Nat) (I : Pl → St → Nat → Prop) (B C : Pl → Int → Prop) : Prop where
  name : n.size ≤ 9223372036854775807
  small : q ≤ 1048576
  pre : ∀ {s x m}, I s x m → s.d.logs ≤ 2 * m ∧ 0 ≤ s.next ∧ s.next ≤ m ∧ s.Fit ∧ x.N ≤ 1048576 ∧ ∀ k, (x.T k).2.length ≤ 504
  look : ∀ {s x m k}, I s x m → m < 30000000000 → k < x.N → ((s.look n (k : Int)).2 = ((x.T k).1, (x.T k).2, 0) ∧ I (s.look n (k : Int)).1 x (m + 1)) ∨ C (s.look n (k : Int)).1 (s.look n (k : Int)).2.2.2
  far : ∀ {s x m k}, I s x m → m < 30000000000 → x.N ≤ k → ((s.look n (k : Int)).2.2.2 = 12 ∧ I (s.look n (k : Int)).1 x (m + 1)) ∨ C (s.look n (k : Int)).1 (s.look n (k : Int)).2.2.2
  more : ∀ {s x m kd b}, I s x m → m < 30000000000 → b.length ≤ 504 → kd ≠ 0 → x.N < q →
    ((s.more n kd b).2 = 0 ∧ (s.fresh n).2.2.1 = x.N ∧ I (s.more n kd b).1 ⟨x.N + 1, setT x.T x.N (kd, b)⟩ (m + 1)) ∨ C (s.more n kd b).1 (s.more n kd b).2
  full : ∀ {s x m kd b}, I s x m → m < 30000000000 → b.length ≤ 504 → kd ≠ 0 → ¬ x.N < q → B (s.more n kd b).1 (s.more n kd b).2 ∨ C (s.more n kd b).1 (s.more n kd b).2
  over : ∀ {s x m k kd b}, I s x m → m < 30000000000 → b.length ≤ 504 → k < x.N → ((s.over n (k : Int) kd b).2 = 0 ∧ I (s.over n (k : Int) kd b).1 { x with T := setT x.T k (kd, b) } (m + 1)) ∨ C (s.over n (k : Int) kd b).1 (s.over n (k : Int) kd b).2
  up : ∀ {s x m k}, I s x m → m ≤ k → I s x k
  errB : ∀ {s e}, B s e → e ≠ 0 ∧ e ≠ 12
  errC : ∀ {s e}, C s e → e ≠ 0 ∧ e ≠ 12

theorem Pl.leave_d' (r : Pl × Int) (h : Int) : (Pl.leave r h).1.d = r.1.d := by
  unfold Pl.leave; split
  · exact Pl.unpin_d _ _
  · rfl
section
variable {s : Pl} {n : ByteArray} {g : Int} {k : UInt8} {b : List UInt8}
theorem Pl.look_logs' : (s.look n g).1.d.logs ≤ s.d.logs + 1 := by
  have a := s.pin_logs n g
  unfold Pl.look
  split
  · exact a
  · split
    · exact a
    · rw [Pl.unpin_d]; exact a
theorem Pl.more_logs' : (s.more n k b).1.d.logs ≤ s.d.logs + 2 := by
  have a := s.fresh_logs n
  unfold Pl.more
  split
  · exact a
  · rw [Pl.leave_d']
    split
    · exact a
    · rw [Pl.set_d]; exact a
theorem Pl.over_logs' : (s.over n g k b).1.d.logs ≤ s.d.logs + 1 := by
  have a := s.pin_logs n g
  unfold Pl.over
  split
  · exact a
  · rw [Pl.leave_d', Pl.set_d]; exact a
end

/-- One file on a disk that stays up. -/
structure CalmI (n : ByteArray) (q most : Nat) (s : Pl) (x : St) (m : Nat) : Prop where
  calm : Calm s n x.N q x.T
  lo : 0 ≤ s.next
  hi : s.next ≤ m
  logs : s.d.logs ≤ 2 * m
  le : x.N ≤ q
  room : ∀ k, (x.T k).2.length ≤ 504
  most : s.most = most
structure FullB (q : Nat) (s : Pl) (e : Int) : Prop where
  err : e = 5
  free : ∀ f ∈ s.fs, f.pins = []
  used : s.d.used = q
  quota : s.d.quota = q
  up : s.d.down = false
  next : s.next < 1099511627776

theorem setT_room {T : Nat → UInt8 × List UInt8} (h : ∀ k, (T k).2.length ≤ 504) {j : Nat} {v : UInt8 × List UInt8} (hv : v.2.length ≤ 504) : ∀ k, (setT T j v k).2.length ≤ 504 := by
  intro k
  by_cases e : k = j
  · subst e; rw [setT_same]; exact hv
  · rw [setT_other e]; exact h k

theorem Calm.more_five {p : Pl} {n : ByteArray} {N q : Nat} {T : Nat → UInt8 × List UInt8} (h : Calm p n N q T) (hN : N = q) (hx : p.next < 1099511627776) {k : UInt8} {b : List UInt8} : FullB q (p.more n k b).1 (p.more n k b).2 := by
  obtain ⟨pg, t⟩ := h.told
  obtain ⟨h1, ⟨pg1, h2⟩, h3, _⟩ := t.roomy h.wf h.roomy
  have hs5 : (sealP 0 []).length = 512 := sealP_length (by simp)
  have hwr : p.room.1.d.write n (N : Int) (sealP 0 []) = (p.room.1.d, 5) := by
    unfold Dk.write
    rw [if_neg (by rw [h2.disk.up]; simp), dif_pos hs5, h2.disk.idx]
    simp only [h2.disk.pages]
    rw [if_neg (by rw [h2.len]; omega), if_pos (by rw [h2.disk.used, h2.disk.quota, h2.len]; omega)]
  have e : p.fresh n = ((p.room.1.setD p.room.1.d).met 5, 0, 0, 5) := by
    unfold Pl.fresh
    rw [if_neg (by rw [t.wrong]; simp), h.len]
    simp only
    rw [if_neg (by simp), if_neg (by rw [h1]; simp), if_pos (by rw [hwr]; simp)]
    rw [hwr]
  unfold Pl.more
  rw [e]
  simp only
  rw [if_pos (by decide)]
  obtain ⟨m1, m2, m3, _⟩ := (p.room.1.setD p.room.1.d).met_d 5
  have hrs := p.room_same
  refine ⟨rfl, ?_, ?_, ?_, ?_, ?_⟩
  · intro f hf
    simp only [m2] at hf
    exact h.free f (h3 f hf)
  · simp only [m1]; show p.room.1.d.used = q; rw [h2.disk.used, h2.len, hN]
  · simp only [m1]; exact h2.disk.quota
  · simp only [m1]; exact h2.disk.up
  · simp only [m3]; show p.room.1.next < _; rw [hrs.2.1]; exact hx
theorem Calm.far {p : Pl} {n : ByteArray} {N q : Nat} {T : Nat → UInt8 × List UInt8} (h : Calm p n N q T) {k : Nat} (hk : N ≤ k) : p.look n (k : Int) = (p, 0, [], 12) := by
  obtain ⟨pg, t⟩ := h.told
  have hf : p.find n (k : Int) = none := by
    unfold Pl.find
    rw [List.findIdx?_eq_none_iff]
    intro g hg
    have := (t.mine g hg).2.1
    have : ¬ ((g.page : Int) = (k : Int)) := by omega
    simp [this]
  have hl : p.load n (k : Int) = (p, none, 12) := by
    unfold Pl.load
    rw [h.len]
    simp only
    rw [if_neg (by simp), if_pos (by omega)]
  have e : p.pin n (k : Int) = (p, 0, 12) := by
    unfold Pl.pin
    rw [if_neg (by rw [t.wrong]; simp), hf]
    simp only [hl]
    rfl
  unfold Pl.look
  rw [e]
  simp only
  rw [if_pos (by decide)]

theorem calm_store {n : ByteArray} {q most : Nat} (hn : n.size ≤ 9223372036854775807) (hq : q ≤ 1048576) : Store n q (CalmI n q most) (FullB q) (fun _ _ => False) where
  name := hn
  small := hq
  pre h := ⟨h.logs, h.lo, h.hi, h.calm.fit, Nat.le_trans h.le hq, h.room⟩
  look {s x m k} h hm hk := by
    have lo := h.lo; have hi := h.hi
    obtain ⟨a1, a2, a3, a4⟩ := h.calm.look hq hn lo (by omega) hk h.le
    exact .inl ⟨a1, a2, by omega, by omega, by have := Pl.look_logs' (s := s) (n := n) (g := (k : Int)); have := h.logs; omega, h.le, h.room, a4.trans h.most⟩
  far {s x m k} h hm hk := by
    have e := h.calm.far hk
    rw [e]
    exact .inl ⟨rfl, h.calm, h.lo, by have := h.hi; show s.next ≤ _; omega, by have := h.logs; show s.d.logs ≤ _; omega, h.le, h.room, h.most⟩
  more {s x m kd b} h hm hb hk hN := by
    have lo := h.lo; have hi := h.hi
    obtain ⟨a1, a2, a3, a4⟩ := h.calm.more hN hq hn lo (by omega) (k := kd) (b := b) hb
    rw [if_neg hk] at a2
    obtain ⟨pg, t⟩ := h.calm.told
    obtain ⟨r1, _⟩ := t.fresh h.calm.wf h.calm.roomy hN
    exact .inl ⟨a1, by rw [r1], a2, by omega, by omega, by have := Pl.more_logs' (s := s) (n := n) (k := kd) (b := b); have := h.logs; omega, hN, setT_room h.room hb, a4.trans h.most⟩
  full {s x m kd b} h hm hb hk hN := .inl (h.calm.more_five (by have := h.le; omega) (by have := h.hi; omega))
  over {s x m k kd b} h hm hb hk := by
    have lo := h.lo; have hi := h.hi
    obtain ⟨a0, a1, a2, a3, a4⟩ := h.calm.turn hq hn lo (by omega) hk h.le (kd := kd) (b := b) hb
    have e : s.over n (k : Int) kd b = Pl.leave ((s.pin n k).1.set s.next kd b) s.next := by
      unfold Pl.over
      rw [a0]
      simp only
      rw [if_neg (by simp)]
    have hl := Pl.over_logs' (s := s) (n := n) (g := (k : Int)) (k := kd) (b := b)
    have hg := h.logs
    rw [e] at hl ⊢
    exact .inl ⟨a1, a2, by omega, by omega, by omega, h.le, setT_room h.room hb, a4.trans h.most⟩
  up {s x m k} h hk := ⟨h.calm, h.lo, by have := h.hi; omega, by have := h.logs; omega, h.le, h.room, h.most⟩
  errB h := by rw [h.err]; decide
  errC h := h.elim
end Go.Proofs.YtmdiinakfpgdjaaDoor

/-
  What the given statements on rows share: the program's own facts; integers that fit.
-/
namespace Go.Proofs.YtmdiinakfpgdjaaDoor
open Go.ChangeShapes Go.WideShapes Go.ChangeAt Go.RowKit

end Go.Proofs.YtmdiinakfpgdjaaDoor

/-
  Rows: their bytes stand to one another as they do; laid one behind the other, and read again.
-/
namespace Go.Proofs.YtmdiinakfpgdjaaDoor

/-! ### Bytes as texts -/

/-! ### A word's bytes -/

theorem byteL_lit (n : Int) (k : Nat) (d : Int) (hd : (2 : Int) ^ (min (56 - 8 * (k : Int)).toNat IntKind.u64.bits) = d) (h0 : 0 ≤ d) : byteL n k = n / d % 256 := by
  unfold byteL ishr
  rw [IntKind.wrap_u8, hd, Int.fdiv_eq_ediv_of_nonneg _ h0]

/-- A word is what its bytes come to. -/
theorem wordL_bytes {n : Int} (h0 : 0 ≤ n) (h1 : n < 18446744073709551616) : ∃ b0 b1 b2 b3 b4 b5 b6 b7 : Int, wordL n = [b0, b1, b2, b3, b4, b5, b6, b7] ∧
    (0 ≤ b0 ∧ b0 < 256) ∧ (0 ≤ b1 ∧ b1 < 256) ∧ (0 ≤ b2 ∧ b2 < 256) ∧ (0 ≤ b3 ∧ b3 < 256) ∧ (0 ≤ b4 ∧ b4 < 256) ∧ (0 ≤ b5 ∧ b5 < 256) ∧ (0 ≤ b6 ∧ b6 < 256) ∧ (0 ≤ b7 ∧ b7 < 256) ∧
    n = b0 * 72057594037927936 + b1 * 281474976710656 + b2 * 1099511627776 + b3 * 4294967296 + b4 * 16777216 + b5 * 65536 + b6 * 256 + b7 := by
  refine ⟨byteL n 0, byteL n 1, byteL n 2, byteL n 3, byteL n 4, byteL n 5, byteL n 6, byteL n 7, rfl, byteL_range n 0, byteL_range n 1, byteL_range n 2, byteL_range n 3, byteL_range n 4, byteL_range n 5, byteL_range n 6, byteL_range n 7, ?_⟩
  rw [byteL_lit n 0 72057594037927936 (by decide) (by decide), byteL_lit n 1 281474976710656 (by decide) (by decide), byteL_lit n 2 1099511627776 (by decide) (by decide), byteL_lit n 3 4294967296 (by decide) (by decide),
    byteL_lit n 4 16777216 (by decide) (by decide), byteL_lit n 5 65536 (by decide) (by decide), byteL_lit n 6 256 (by decide) (by decide), byteL_lit n 7 1 (by decide) (by decide)]
  omega

theorem wstep_small {w b : Int} (h0 : 0 ≤ w) (h1 : w < 72057594037927936) (h2 : 0 ≤ b) (h3 : b < 256) : wstep w b = w * 256 + b := by
  unfold wstep
  simp only [u64_wrap]
  omega

theorem wordOf_wordL {n : Int} (h0 : 0 ≤ n) (h1 : n < 18446744073709551616) : wordOf (wordL n) = n := by
  obtain ⟨b0, b1, b2, b3, b4, b5, b6, b7, e, r0, r1, r2, r3, r4, r5, r6, r7, hs⟩ := wordL_bytes h0 h1
  rw [e]
  unfold wordOf
  simp only [List.foldl_cons, List.foldl_nil]
  rw [wstep_small (w := 0) (by omega) (by omega) r0.1 r0.2, wstep_small (by omega) (by omega) r1.1 r1.2, wstep_small (by omega) (by omega) r2.1 r2.2, wstep_small (by omega) (by omega) r3.1 r3.2,
    wstep_small (by omega) (by omega) r4.1 r4.2, wstep_small (by omega) (by omega) r5.1 r5.2, wstep_small (by omega) (by omega) r6.1 r6.2, wstep_small (by omega) (by omega) r7.1 r7.2]
  omega

def fitsL (l : List Int) : Prop := ∀ x ∈ l, 0 ≤ x ∧ x < 18446744073709551616

/-! ### Laid one behind the other -/

theorem chunk_flat {n : Nat} : ∀ (L : List (List Int)), (∀ l ∈ L, l.length = n) → ∀ k (hk : k < L.length), ((L.flatten).drop (k * n)).take n = L[k]
  | [], _, k, hk => by simp at hk
  | l :: L, h, 0, _ => by
    have := h l List.mem_cons_self
    simp [← this]
  | l :: L, h, k + 1, hk => by
    have h1 := h l List.mem_cons_self
    have ih := chunk_flat L (fun x hx => h x (List.mem_cons_of_mem _ hx)) k (by simpa using hk)
    rw [List.flatten_cons, Nat.succ_mul, Nat.add_comm, List.drop_append, List.drop_of_length_le (by omega), List.nil_append]
    have : n + k * n - l.length = k * n := by omega
    rw [this]
    simpa using ih

theorem flat_len {n : Nat} : ∀ (L : List (List Int)), (∀ l ∈ L, l.length = n) → L.flatten.length = L.length * n
  | [], _ => by simp
  | l :: L, h => by
    rw [List.flatten_cons, List.length_append, h l List.mem_cons_self, flat_len L (fun x hx => h x (List.mem_cons_of_mem _ hx))]
    simp [Nat.succ_mul]; omega

theorem rowOf_put {l : List Int} {w : Nat} (hl : l.length = w) (hf : fitsL l) : rowOf (putL l) w = l := by
  by_cases h : l = []
  · subst h; simp at hl; subst hl; rfl
  · unfold putL
    rw [if_neg h]
    apply List.ext_getElem
    · simp [rowOf, hl]
    · intro j h1 h2
      simp only [rowOf, List.getElem_map, List.getElem_range]
      have := chunk_flat (n := 8) (l.map wordL) (by intro x hx; obtain ⟨y, _, rfl⟩ := List.mem_map.1 hx; exact wordL_length y) j (by simpa using h2)
      rw [← List.flatMap_def] at this
      rw [Nat.mul_comm, this]
      simp only [List.getElem_map]
      exact wordOf_wordL (hf _ (List.getElem_mem h2)).1 (hf _ (List.getElem_mem h2)).2

theorem put_len {l : List Int} {w : Nat} (hl : l.length = w) (hw : w ≤ 16) : (putL l).length = (sizeL w).toNat ∧ 0 < (sizeL w).toNat := by
  unfold putL sizeL
  by_cases h : l = []
  · subst h; simp at hl; subst hl; simp
  · have : 0 < l.length := List.length_pos_iff.2 h
    rw [if_neg h, if_neg (by omega), if_neg (by omega), flat_length]
    omega

theorem read_again {L : List (List Int)} {w : Nat} (hw : w ≤ 16) (hl : ∀ l ∈ L, l.length = w) (hf : ∀ l ∈ L, fitsL l) : getL (L.flatMap putL) w = L ∧ getE (L.flatMap putL) w = 0 := by
  have hlen : ∀ l ∈ L.map putL, l.length = (sizeL w).toNat := by
    intro l h
    obtain ⟨x, hx, rfl⟩ := List.mem_map.1 h
    exact (put_len (hl x hx) hw).1
  have hn0 : 0 < (sizeL w).toNat := (put_len (l := List.replicate w 0) (by simp) hw).2
  have htot : (L.flatMap putL).length = L.length * (sizeL w).toNat := by
    rw [List.flatMap_def, flat_len _ hlen]; simp
  have hok : getOK (L.flatMap putL) w = true := by
    refine getOK_good (by omega) ?_ ?_
    · have e : sizeL w = (((sizeL w).toNat : Nat) : Int) := by omega
      rw [e, htot, ← Int.ofNat_tmod, Nat.mul_mod_left]; rfl
    · intro h0 k hk
      have h0' : w = 0 := by omega
      subst h0'
      have : ∀ x ∈ L.flatMap putL, x = 0 := by
        intro x hx
        obtain ⟨l, h1, h2⟩ := List.mem_flatMap.1 hx
        have : l = [] := List.eq_nil_of_length_eq_zero (hl l h1)
        subst this
        simpa [putL] using h2
      simp only [List.getD, List.getElem?_eq_getElem hk, Option.getD_some]
      exact this _ (List.getElem_mem hk)
  unfold getL getE
  rw [hok, if_pos rfl, if_pos rfl, htot, Nat.mul_div_cancel _ hn0]
  refine ⟨?_, rfl⟩
  apply List.ext_getElem
  · simp [rowsOf]
  · intro k h1 h2
    simp only [rowsOf, List.getElem_map, List.getElem_range]
    have := chunk_flat (L.map putL) hlen k (by simpa using h2)
    rw [← List.flatMap_def] at this
    unfold chunkOf
    rw [this]
    simp only [List.getElem_map, Int.toNat_natCast]
    exact rowOf_put (hl _ (List.getElem_mem h2)) (hf _ (List.getElem_mem h2))

end Go.Proofs.YtmdiinakfpgdjaaDoor

/-
  Trees: plain laws: rows that rise, how many pages a search looks at, how long a node's bytes are.
-/
namespace Go.Proofs.YtmdiinakfpgdjaaDoor

theorem cmpT : ∀ {a b c : List Int}, cmpL a b < 0 → cmpL b c < 0 → cmpL a c < 0
  | [], [], _, h, _ => by simp [cmpL] at h
  | [], _ :: _, [], _, h => by simp [cmpL] at h
  | [], _ :: _, _ :: _, _, _ => by simp [cmpL]
  | _ :: _, [], _, h, _ => by simp [cmpL] at h
  | _ :: _, _ :: _, [], _, h => by simp [cmpL] at h
  | x :: a, y :: b, z :: c, h1, h2 => by
    simp only [cmpL] at h1 h2 ⊢
    have ih := @cmpT a b c
    split at h1
    · split at h2
      · rw [if_pos (by omega)]; decide
      · split at h2
        · omega
        · rw [if_pos (by omega)]; decide
    · split at h1
      · omega
      · split at h2
        · rw [if_pos (by omega)]; decide
        · split at h2
          · omega
          · rw [if_neg (by omega), if_neg (by omega)]; exact ih h1 h2
theorem cmpGt {a b : List Int} : 0 < cmpL a b ↔ cmpL b a < 0 := by rw [cmpL_swap b a]; omega
theorem cmpSelf (a : List Int) : cmpL a a = 0 := cmpL_zero.2 rfl
theorem cmpGeT {a b c : List Int} (h : cmpL a b ≥ 0) (k : cmpL c b < 0) : cmpL c a < 0 := by
  rcases cmpL_cases a b with q | q | q
  · omega
  · rw [cmpL_zero.1 q]; exact k
  · exact cmpT k (cmpGt.1 (by omega))
theorem getDo {ls : List (List Int)} {i : Nat} (h : i < ls.length) : ls.getD i [] = ls[i] := by rw [List.getD, List.getElem?_eq_getElem h]; rfl
theorem rises_iff {ls : List (List Int)} : rises ls = true ↔ ∀ i, i + 1 < ls.length → cmpL (ls.getD i []) (ls.getD (i + 1) []) < 0 := by
  unfold rises
  rw [List.all_eq_true]
  constructor
  · intro h i hi
    simpa using h i (List.mem_range.2 (by omega))
  · intro h i hi
    have := List.mem_range.1 hi
    simpa using h i (by omega)
theorem rises_lt {ls : List (List Int)} (h : rises ls = true) : ∀ {i j : Nat}, i < j → j < ls.length → cmpL (ls.getD i []) (ls.getD j []) < 0 := by
  have h' := rises_iff.1 h
  intro i j hij
  induction j with
  | zero => omega
  | succ j ih =>
    intro hj
    by_cases e : i = j
    · subst e; exact h' i hj
    · exact cmpT (ih (by omega) (by omega)) (h' j hj)
/-- What is below stands ahead of what is not. -/
def DownT (ll : List Int) (ls : List (List Int)) : Prop := ∀ i j, i ≤ j → j < ls.length → cmpL (ls.getD j []) ll < 0 → cmpL (ls.getD i []) ll < 0
theorem rises_down {ls : List (List Int)} (h : rises ls = true) (ll : List Int) : DownT ll ls := by
  intro i j hij hj hc
  rcases Nat.lt_or_ge i j with q | q
  · exact cmpT (rises_lt h q hj) hc
  · rwa [show i = j by omega]
theorem belowT {ll : List Int} : ∀ {ls : List (List Int)} {n : Nat}, n ≤ ls.length → (∀ x, x < n → cmpL (ls.getD x []) ll < 0) → (n < ls.length → ¬ cmpL (ls.getD n []) ll < 0) → below ll ls = n
  | [], n, h, _, _ => by simp at h; subst h; rfl
  | a :: ls, 0, _, _, h3 => by
    have := h3 (by simp)
    unfold below
    rw [List.takeWhile_cons, if_neg (by simpa using this)]; rfl
  | a :: ls, n + 1, h1, h2, h3 => by
    have h0 : cmpL a ll < 0 := h2 0 (by omega)
    have ih := @belowT ll ls n (by simpa using h1) (fun x hx => h2 (x + 1) (by omega)) (fun hx => h3 (by simpa using hx))
    unfold below at ih ⊢
    rw [List.takeWhile_cons, if_pos (by simpa using h0), List.length_cons, ih]
theorem below_hi {ll : List Int} : ∀ {ls : List (List Int)}, below ll ls < ls.length → ¬ cmpL (ls.getD (below ll ls) []) ll < 0
  | [], h => by simp [below] at h
  | a :: ls, h => by
    by_cases ha : cmpL a ll < 0
    · have e : below ll (a :: ls) = below ll ls + 1 := by
        unfold below
        rw [List.takeWhile_cons, if_pos (by simpa using ha)]; rfl
      rw [e] at h ⊢
      exact @below_hi ll ls (by simpa using h)
    · have e : below ll (a :: ls) = 0 := by
        unfold below
        rw [List.takeWhile_cons, if_neg (by simpa using ha)]; rfl
      rw [e]; exact ha
theorem sameAt_iff {ls : List (List Int)} {l : List Int} : sameAt ls l = true ↔ below l ls < ls.length ∧ ls.getD (below l ls) [] = l := by
  unfold sameAt; simp
/-- From the child's place on all rows are above. -/
theorem child_gt {n : Nd} {l : List Int} (h : rises n.rows = true) {j : Nat} (h1 : n.child l ≤ j) (h2 : j < n.rows.length) : cmpL l (n.rows.getD j []) < 0 := by
  unfold Nd.child at h1
  split at h1
  · rename_i hs
    obtain ⟨q1, q2⟩ := sameAt_iff.1 hs
    have := rises_lt h (i := below l n.rows) (j := j) (by omega) h2
    rwa [q2] at this
  · rename_i hs
    have key : cmpL l (n.rows.getD (below l n.rows) []) < 0 := by
      have hlt : below l n.rows < n.rows.length := by omega
      have h3 := below_hi hlt
      rcases cmpL_cases (n.rows.getD (below l n.rows) []) l with q | q | q
      · omega
      · exact absurd (sameAt_iff.2 ⟨hlt, cmpL_zero.1 q⟩) hs
      · exact cmpGt.1 (by omega)
    rcases Nat.lt_or_ge (below l n.rows) j with q | q
    · exact cmpT key (rises_lt h q h2)
    · rwa [show j = below l n.rows by omega]
/-- Below the place all rows are below, or the same. -/
theorem child_zero {n : Nd} {l : List Int} (h : ∀ j, j < n.rows.length → cmpL l (n.rows.getD j []) < 0) : below l n.rows = 0 ∧ sameAt n.rows l = false ∧ n.child l = 0 := by
  have hb : below l n.rows = 0 := belowT (Nat.zero_le _) (fun x hx => by omega) fun h0 q => by
    have := h 0 h0
    have := cmpGt.2 this
    omega
  have hs : sameAt n.rows l = false := by
    cases hq : sameAt n.rows l with
    | false => rfl
    | true =>
      obtain ⟨q1, q2⟩ := sameAt_iff.1 hq
      have := h _ q1
      rw [q2, cmpSelf] at this; omega
  refine ⟨hb, hs, ?_⟩
  unfold Nd.child
  rw [hs, hb]; rfl
theorem holds_ge {s : Span} {ls : List (List Int)} (h : s.holds ls = true) {a : List Int} (ha : s.low = some a) {j : Nat} (hj : j < ls.length) : cmpL (ls.getD j []) a ≥ 0 := by
  unfold Span.holds at h
  simp only [Bool.and_eq_true, Bool.or_eq_true] at h
  obtain ⟨h1, h2⟩ := h
  have h0 : cmpL (ls.getD 0 []) a ≥ 0 := by
    rcases h2 with q | ⟨q, _⟩
    · have : ls = [] := by simpa using q
      rw [this] at hj; simp at hj
    · unfold Span.ge at q
      rw [ha] at q; simpa using q
  rcases Nat.eq_zero_or_pos j with q | q
  · rwa [q]
  · have := rises_lt h1 q hj
    rcases cmpL_cases (ls.getD j []) a with r | r | r
    · have := cmpGeT h0 (show cmpL (ls.getD j []) a < 0 by omega)
      have h3 := cmpGt.2 ‹cmpL (ls.getD 0 []) (ls.getD j []) < 0›
      omega
    · omega
    · omega
theorem holds_rises {s : Span} {ls : List (List Int)} (h : s.holds ls = true) : rises ls = true := by
  unfold Span.holds at h
  simp only [Bool.and_eq_true] at h
  exact h.1

section
variable {x : St} {w : Int} {depth : Nat} {low : List Int} {strict : Bool}
theorem node_ok (hT : ∀ k, (x.T k).2.length ≤ 504) {above page : Nat} {s : Span} {n : Nd} (h : x.node w depth above page s = some n) : n.Ok w depth above s := by
  unfold St.node at h
  split at h
  · exact nodeOf_ok (hT _) h
  · cases h
/-- A search among rows that are all above ends in the first leaf. -/
theorem find_first (hT : ∀ k, (x.T k).2.length ≤ 504) (hd : 1 < depth) : ∀ (a page : Nat) (s : Span) (b : List Int), s.low = some b → cmpL low b < 0 →
    (x.find w depth low strict a page s).1 ≤ a + 1 ∧ (x.find w depth low strict a page s).2 ≠ some none
  | 0, page, s, b, hb, hc => by
    unfold St.find
    cases hn : x.node w depth 0 page s with
    | none => exact ⟨Nat.le_refl _, by simp⟩
    | some n =>
      have ok := node_ok hT hn
      have hne := ok.some_ hd
      have h0 : 0 < n.rows.length := List.length_pos_iff.2 hne
      obtain ⟨z1, z2, z3⟩ := child_zero (n := n) (l := low) fun j hj => cmpGeT (holds_ge ok.holds hb hj) hc
      refine ⟨Nat.le_refl _, ?_⟩
      show some (leafAt n.rows low strict) ≠ some none
      unfold leafAt
      rw [z1, z2]
      simp only [Bool.false_and, Bool.false_eq_true, if_false, Nat.add_zero]
      rw [List.getElem?_eq_getElem h0]
      simp
  | a + 1, page, s, b, hb, hc => by
    unfold St.find
    cases hn : x.node w depth (a + 1) page s with
    | none => exact ⟨by simp, by simp⟩
    | some n =>
      have ok := node_ok hT hn
      obtain ⟨i1, i2, i3⟩ := ok.inner (Nat.succ_pos _)
      obtain ⟨z1, z2, z3⟩ := child_zero (n := n) (l := low) fun j hj => cmpGeT (holds_ge ok.holds hb hj) hc
      have hs : (s.of n 0).low = some b := by unfold Span.of; simp [hb]
      obtain ⟨r1, r2⟩ := find_first hT hd a (n.kids.getD 0 0) (s.of n 0) b hs hc
      simp only
      rw [z3, Nat.sub_zero, i1]
      unfold goK
      rw [if_neg r2]
      exact ⟨by omega, r2⟩
theorem find_cost (hT : ∀ k, (x.T k).2.length ≤ 504) : ∀ (a page : Nat) (s : Span), a < depth → (x.find w depth low strict a page s).1 ≤ (a + 1) * (a + 1)
  | 0, page, s, _ => by
    unfold St.find
    cases x.node w depth 0 page s <;> exact Nat.le_refl _
  | a + 1, page, s, ha => by
    unfold St.find
    cases hn : x.node w depth (a + 1) page s with
    | none => exact Nat.le_trans (Nat.le_add_left 1 (a + 1)) (Nat.le_mul_of_pos_right _ (by omega))
    | some n =>
      have ok := node_ok hT hn
      obtain ⟨i1, i2, i3⟩ := ok.inner (Nat.succ_pos _)
      have hc := child_le (n := n) (l := low)
      have ih := find_cost hT a (n.kids.getD (n.child low) 0) (s.of n (n.child low)) (by omega)
      simp only
      have e2 : (a + 1 + 1) * (a + 1 + 1) = (a + 1) * (a + 1) + (2 * a + 3) := by
        rw [Nat.mul_add, Nat.add_mul, Nat.add_mul]; omega
      have hk : n.kids.length - n.child low = (n.rows.length - n.child low) + 1 := by omega
      rw [hk]
      unfold goK
      split
      · rcases Nat.eq_zero_or_pos (n.rows.length - n.child low) with q | q
        · rw [q]
          unfold goK
          simp only
          omega
        · obtain ⟨m, hm⟩ : ∃ m, n.rows.length - n.child low = m + 1 := ⟨n.rows.length - n.child low - 1, by omega⟩
          rw [hm]
          have hlow : (s.of n (n.child low + 1)).low = some (n.rows.getD (n.child low) []) := by unfold Span.of; simp
          obtain ⟨r1, r2⟩ := find_first (strict := strict) hT (show 1 < depth by omega) a (n.kids.getD (n.child low + 1) 0) (s.of n (n.child low + 1)) _ hlow (child_gt (holds_rises ok.holds) (Nat.le_refl _) (by omega))
          unfold goK
          rw [if_neg r2]
          simp only
          omega
      · omega
theorem goK_in {f : Nat → Nat × Option (Option (List Int))} {y : List Int} : ∀ (k i : Nat), (goK f i k).2 = some (some y) → ∃ j, (f j).2 = some (some y)
  | 0, i, h => by unfold goK at h; cases h
  | k + 1, i, h => by
    unfold goK at h
    split at h
    · exact goK_in k (i + 1) h
    · exact ⟨i, h⟩
/-- What a search tells is as wide as the tree. -/
theorem find_len {ll : List Int} (hT : ∀ k, (x.T k).2.length ≤ 504) : ∀ (a page : Nat) (s : Span) {y : List Int}, (x.find w depth ll strict a page s).2 = some (some y) → y.length = w.toNat
  | 0, page, s, y, h => by
    unfold St.find at h
    cases hn : x.node w depth 0 page s with
    | none => rw [hn] at h; cases h
    | some n =>
      rw [hn] at h
      simp only [Option.some.injEq] at h
      unfold leafAt at h
      exact (node_ok hT hn).cols y (List.mem_of_getElem? h)
  | a + 1, page, s, y, h => by
    unfold St.find at h
    cases hn : x.node w depth (a + 1) page s with
    | none => rw [hn] at h; cases h
    | some n =>
      rw [hn] at h
      obtain ⟨j, hj⟩ := goK_in _ _ h
      exact find_len hT a _ _ hj
end
end Go.Proofs.YtmdiinakfpgdjaaDoor

/-
  Trees: what a tree has in memory; numbers of four bytes; a page looked at: the walk.
-/
namespace Go.Proofs.YtmdiinakfpgdjaaDoor
open Go.MapKept

theorem shrT (n k : Nat) (hk : k ≤ 64) : ishr .i64 (n : Int) (k : Int) = ((n / 2 ^ k : Nat) : Int) := by
  unfold ishr
  have : min (k : Int).toNat IntKind.i64.bits = k := by
    show min (k : Int).toNat 64 = k
    omega
  rw [this, Int.fdiv_eq_ediv_of_nonneg _ (Int.pow_nonneg (by decide)), Int.natCast_ediv, Int.natCast_pow]
  rfl
theorem orT {k r b : Nat} (hb : b < 2 ^ k) (h : 2 ^ k * r + b < 9223372036854775808) : ior .i64 ((2 ^ k * r : Nat) : Int) (b : Int) = ((2 ^ k * r + b : Nat) : Int) := by
  unfold ior
  have hor := Nat.two_pow_add_eq_or_of_lt (i := k) (b := b) hb r
  have hb64 : IntKind.i64.bits = 64 := rfl
  have e3 : (BitVec.ofInt IntKind.i64.bits ((2 ^ k * r : Nat) : Int) ||| BitVec.ofInt IntKind.i64.bits ((b : Nat) : Int)).toNat = 2 ^ k * r + b := by
    rw [BitVec.ofInt_natCast, BitVec.ofInt_natCast, BitVec.toNat_or, BitVec.toNat_ofNat, BitVec.toNat_ofNat, hb64, Nat.mod_eq_of_lt (by omega), Nat.mod_eq_of_lt (by omega)]
    exact hor.symm
  rw [e3]
  exact wrap64 (by omega) (by omega)
theorem shlT {x k : Nat} (hk : k ≤ 24) (hx : x < 256) : ishl .i64 (IntKind.i64.wrap (x : Int)) (k : Int) = ((2 ^ k * x : Nat) : Int) := by
  unfold ishl
  have : min (k : Int).toNat IntKind.i64.bits = k := by
    show min (k : Int).toNat 64 = k
    omega
  have hp : 2 ^ k ≤ 2 ^ 24 := Nat.pow_le_pow_right (by decide) hk
  have hm : 2 ^ k * x ≤ 2 ^ 24 * 255 := Nat.mul_le_mul hp (by omega)
  have e1 : ((x : Int) * 2 ^ k) = ((2 ^ k * x : Nat) : Int) := by rw [Int.natCast_mul, Int.natCast_pow, Int.mul_comm]; rfl
  rw [this, wrap64 (x := (x : Int)) (by omega) (by omega), e1]
  exact wrap64 (by omega) (by omega)
theorem or_fourT {a b c d : Nat} (ha : a < 256) (hb : b < 256) (hc : c < 256) (hd : d < 256) :
    ior .i64 (ior .i64 (ior .i64 (ishl .i64 (IntKind.i64.wrap (a : Int)) 24) (ishl .i64 (IntKind.i64.wrap (b : Int)) 16)) (ishl .i64 (IntKind.i64.wrap (c : Int)) 8)) (IntKind.i64.wrap (d : Int)) = ((((a * 256 + b) * 256 + c) * 256 + d : Nat) : Int) := by
  have s1 := shlT (k := 24) (by decide) ha
  have s2 := shlT (k := 16) (by decide) hb
  have s3 := shlT (k := 8) (by decide) hc
  have s4 : IntKind.i64.wrap (d : Int) = (d : Int) := wrap64 (by omega) (by omega)
  have h24 : (2 : Nat) ^ 24 = 16777216 := by decide
  have h16 : (2 : Nat) ^ 16 = 65536 := by decide
  have h8 : (2 : Nat) ^ 8 = 256 := by decide
  rw [h24] at s1; rw [h16] at s2; rw [h8] at s3
  rw [show ((24 : Int)) = ((24 : Nat) : Int) from rfl, show ((16 : Int)) = ((16 : Nat) : Int) from rfl, show ((8 : Int)) = ((8 : Nat) : Int) from rfl, s1, s2, s3, s4]
  have o1 := orT (k := 24) (r := a) (b := 65536 * b) (by rw [h24]; omega) (by rw [h24]; omega)
  rw [h24] at o1
  rw [o1]
  have o2 := orT (k := 16) (r := 256 * a + b) (b := 256 * c) (by rw [h16]; omega) (by rw [h16]; omega)
  rw [h16] at o2
  rw [show (16777216 * a + 65536 * b : Nat) = 65536 * (256 * a + b) by omega, o2]
  have o3 := orT (k := 8) (r := 65536 * a + 256 * b + c) (b := d) (by rw [h8]; omega) (by rw [h8]; omega)
  rw [h8] at o3
  rw [show (65536 * (256 * a + b) + 256 * c : Nat) = 256 * (65536 * a + 256 * b + c) by omega, o3]
  congr 1
  omega
theorem or_twoT {a b : Nat} (ha : a < 256) (hb : b < 256) : ior .i64 (ishl .i64 (IntKind.i64.wrap (a : Int)) 8) (IntKind.i64.wrap (b : Int)) = ((a * 256 + b : Nat) : Int) := by
  have h8 : (2 : Nat) ^ 8 = 256 := by decide
  have s1 := shlT (k := 8) (by decide) ha
  rw [h8] at s1
  have o3 := orT (k := 8) (r := a) (b := b) (by rw [h8]; omega) (by rw [h8]; omega)
  rw [h8] at o3
  rw [show ((8 : Int)) = ((8 : Nat) : Int) from rfl, s1, wrap64 (x := (b : Int)) (by omega) (by omega), o3]
  congr 1; omega
theorem u8iD (b : List UInt8) (i : Nat) : (u8i b).getD i 0 = ((b.getD i 0).toNat : Int) := by
  unfold u8i
  simp only [List.getD, List.getElem?_map]
  cases b[i]? <;> rfl
theorem tnumber_ok {sl : Sl} {b : List UInt8} {H : Heap} {K : Int → Heap → Prop} (h : Byts H sl b) (hl : 4 ≤ b.length) (hK : K (of4 b : Int) H) : tree_number.sp sl H K := by
  refine tree_number.of ?_
  unfold tree_number.vc
  have hu : (u8i b).length = b.length := u8i_length b
  refine ints_get h (j := 0) rfl (by omega) fun ad0 a0 => ?_
  refine ints_get h (j := 1) rfl (by omega) fun ad1 a1 => ?_
  refine ints_get h (j := 2) rfl (by omega) fun ad2 a2 => ?_
  refine ints_get h (j := 3) rfl (by omega) fun ad3 a3 => ?_
  rw [u8iD, u8iD, u8iD, u8iD, or_fourT (UInt8.toNat_lt _) (UInt8.toNat_lt _) (UInt8.toNat_lt _) (UInt8.toNat_lt _)]
  exact hK
theorem tbytes_ok {n : Nat} {H : Heap} {K : Sl → Heap → Prop} (hK : ∀ p H', Byts H' ⟨some p, 4, 4⟩ (be4 n) → Ext H H' → p.block = H.size → K ⟨some p, 4, 4⟩ H') : tree_bytes.sp (n : Int) H K := by
  refine tree_bytes.of ?_
  unfold tree_bytes.vc
  have e24 : ishr .i64 (n : Int) 24 = ((n / 16777216 : Nat) : Int) := shrT n 24 (by decide)
  have e16 : ishr .i64 (n : Int) 16 = ((n / 65536 : Nat) : Int) := shrT n 16 (by decide)
  have e8 : ishr .i64 (n : Int) 8 = ((n / 256 : Nat) : Int) := shrT n 8 (by decide)
  rw [e24, e16, e8, wrap8, wrap8, wrap8, wrap8]
  have ev : #[Value.int .u8 ((UInt8.ofNat (n / 16777216)).toNat : Int), Value.int .u8 ((UInt8.ofNat (n / 65536)).toNat : Int), Value.int .u8 ((UInt8.ofNat (n / 256)).toNat : Int), Value.int .u8 ((UInt8.ofNat n).toNat : Int)] = ((u8i (be4 n)).map (Value.int .u8)).toArray := rfl
  rw [ev]
  exact newC_ints _ fun p H' z q a e => hK p H' (a 4) e q

/-! ### A tree in memory -/

structure Tr where
  name : ByteArray
  width : Int
  root : Int
  depth : Int
  count : Int
  wrong : Int
  gone : Bool
def treV (p : Nat) (t : Tr) : List Value := [.pointer (at0 p), .string t.name, .int .i64 t.width, .int .i64 t.root, .int .i64 t.depth, .int .i64 t.count, .int .i64 t.wrong, .bool t.gone]
abbrev TreeB (H : Heap) (k p : Nat) (t : Tr) : Prop := RowT H k ty_tree_Tree (treV p t).toArray

section
variable {H : Heap} {k p dp : Nat} {t : Tr} {F : Nat → Prop} {s : Pl} {n : ByteArray} {q : Nat} {I : Pl → St → Nat → Prop} {B C : Pl → Int → Prop} {x : St} {m : Nat}

set_option maxHeartbeats 1000000 in
/-- A page is looked at. -/
theorem tlook_raw {g : Int} {K : (Int × Sl × Int) → Heap → Prop} (hg : Gl H) (h : TreeB H k p t) (hp : PoolAt F H p dp s) (hk : ¬ F k) (hg0 : 0 ≤ g ∧ g ≤ 9223372036854775807)
    (hn : t.name.size ≤ 9223372036854775807) (hlogs : s.d.logs < 68719470000) (hnx : s.next < 1099511627776) (h0 : 0 ≤ s.next)
    (hK : ∀ F' H' sl, PoolAt F' H' p dp (s.look t.name g).1 → Step F F' H H' → SlE EB ty_uint8 H' sl (s.look t.name g).2.2.1 → (∀ q, ownB sl q → H.size ≤ q ∧ ¬ F' q) → K (((s.look t.name g).2.1.toNat : Int), sl, (s.look t.name g).2.2.2) H') : tree_Tree_look.sp (at0 k) g H K := by
  have hkl := obj_lt h
  refine tree_Tree_look.of ?_
  unfold tree_Tree_look.vc
  simp only [optK_eq, at0]
  refine RowT.ld (c := cPtr) (i := 0) (x := at0 p) h rfl ?_
  refine RowT.ld (c := cStr) (i := 1) (x := t.name) h rfl ?_
  refine Pin_ok hg hp hn (by omega) hg0.2 (by omega) (by omega) fun F1 H1 p1 S1 => ?_
  have hg1 : Gl H1 := hg.mod S1.mod hp.glob
  have h1 : TreeB H1 k p t := h.mod S1.mod hk
  have hnx1 : (s.pin t.name g).1.next ≤ s.next + 1 := s.pin_next h0 hnx
  unfold Pl.look at hK
  generalize hs1 : (s.pin t.name g).1 = s1 at *
  generalize hr : (s.pin t.name g).2.1 = hd at *
  generalize he : (s.pin t.name g).2.2 = e at *
  refine br_mk (fun hc => ?_) (fun hc => ?_)
  · have e0 : e ≠ 0 := by simpa using hc
    rw [if_pos e0] at hK
    exact hK F1 H1 _ p1 S1 (SlE.nil _ _ _) (fun q ⟨ad, ha, _⟩ => by cases ha)
  · have e0 : ¬ e ≠ 0 := by simpa using hc
    rw [if_neg e0] at hK
    refine RowT.ld (c := cPtr) (i := 0) (x := at0 p) h1 rfl ?_
    refine Get_ok p1 fun sl H2 o2 e2 f2 => ?_
    have p2 := p1.ext e2
    have hg2 : Gl H2 := hg1.mod e2 id
    have h2 : TreeB H2 k p t := h1.ext e2
    have S2 : Step F F1 H H2 := S1.trans ⟨e2.mod, fun b hb => .inl hb⟩
    have hz1 := S1.mod.size
    generalize hs2 : s1.get hd = r at *
    refine br_mk (fun hc2 => ?_) (fun hc2 => ?_)
    · have e3 : ¬ r.2.2 ≠ 0 := by simpa using hc2
      rw [if_neg e3] at hK
      refine RowT.ld (c := cPtr) (i := 0) (x := at0 p) h2 rfl ?_
      refine Unpin_ok hg2 p2 (by omega) fun F3 H3 p3 S3 => ?_
      have hlt := o2.lt
      refine hK F3 H3 sl p3 (S2.trans S3) (o2.keep fun q hq hl => S3.mod.same q hl fun r => by have := p1.lt q r; have := f2 q hq; omega) (fun q hq => ?_)
      have q1 := f2 q hq
      refine ⟨by omega, fun r => ?_⟩
      rcases S3.own q r with r | r
      · have := p1.lt q r; omega
      · have := hlt q hq; omega
    · have e3 : r.2.2 ≠ 0 := by simpa using hc2
      rw [if_pos e3] at hK
      refine hK F1 H2 sl p2 S2 o2 (fun q hq => ?_)
      have q1 := f2 q hq
      exact ⟨by omega, fun r => by have := p1.lt q r; omega⟩
theorem tlook_ok {g : Nat} {K : (Int × Sl × Int) → Heap → Prop} (S : Store t.name q I B C) (hI : I s x m) (hm : m < 30000000000) (hg : Gl H) (h : TreeB H k p t) (hp : PoolAt F H p dp s) (hk : ¬ F k) (hg0 : g ≤ 1000000000000)
    (hK1 : g < x.N → ∀ F' H' s' sl, PoolAt F' H' p dp s' → Step F F' H H' → I s' x (m + 1) → SlE EB ty_uint8 H' sl (x.T g).2 → (∀ q, ownB sl q → H.size ≤ q ∧ ¬ F' q) → K (((x.T g).1.toNat : Int), sl, 0) H')
    (hK2 : x.N ≤ g → ∀ F' H' s' v sl, PoolAt F' H' p dp s' → Step F F' H H' → I s' x (m + 1) → K (v, sl, 12) H')
    (hK3 : ∀ F' H' s' v sl e, PoolAt F' H' p dp s' → Step F F' H H' → C s' e → K (v, sl, e) H') : tree_Tree_look.sp (at0 k) (g : Int) H K := by
  obtain ⟨b1, b2, b3, b4, b5, b6⟩ := S.pre hI
  refine tlook_raw hg h hp hk (by omega) S.name (by omega) (by omega) b2 fun F' H' sl p1 S1 o1 f1 => ?_
  rcases Nat.lt_or_ge g x.N with hgn | hgn
  · rcases S.look hI hm hgn with ⟨e, hI'⟩ | hC
    · rw [e] at o1 ⊢
      exact hK1 hgn F' H' _ sl p1 S1 hI' o1 f1
    · exact hK3 F' H' _ _ sl _ p1 S1 hC
  · rcases S.far hI hm hgn with ⟨e, hI'⟩ | hC
    · rw [e]
      exact hK2 hgn F' H' _ _ sl p1 S1 hI'
    · exact hK3 F' H' _ _ sl _ p1 S1 hC
end
end Go.Proofs.YtmdiinakfpgdjaaDoor

/-
  Trees: where a node's rows must lie; a row's place; a node that is read: the walk.
-/
namespace Go.Proofs.YtmdiinakfpgdjaaDoor
open Go.MapKept

theorem midT {i j : Nat} (h : i + j < 4611686018427387904) : IntKind.i64.wrap (ishr .u64 (IntKind.u64.wrap (IntKind.i64.wrap ((i : Int) + (j : Int)))) 1) = (((i + j) / 2 : Nat) : Int) := by
  have e1 : IntKind.i64.wrap ((i : Int) + (j : Int)) = ((i + j : Nat) : Int) := by rw [wrap64 (by omega) (by omega)]; omega
  have e2 : IntKind.u64.wrap ((i + j : Nat) : Int) = ((i + j : Nat) : Int) := by rw [IntKind.wrap_u64]; omega
  rw [e1, e2]
  have e3 : ishr .u64 ((i + j : Nat) : Int) 1 = (((i + j) / 2 : Nat) : Int) := by
    unfold ishr
    rw [show (min (1 : Int).toNat IntKind.u64.bits) = 1 from rfl, Int.fdiv_eq_ediv_of_nonneg _ (by decide)]
    rfl
  rw [e3, wrap64 (by omega) (by omega)]

/-- A slice's block is none of F's. -/
def Off (F : Nat → Prop) (H : Heap) (s : Sl) : Prop := ∀ ad, s.a = some ad → ad.block < H.size ∧ ¬ F ad.block
theorem Off.step {F F' : Nat → Prop} {H H' : Heap} {s : Sl} (h : Off F H s) (S : Step F F' H H') : Off F' H' s := fun ad ha => by
  obtain ⟨h1, h2⟩ := h ad ha
  refine ⟨Nat.lt_of_lt_of_le h1 S.mod.size, fun q => ?_⟩
  rcases S.own _ q with r | r
  · exact h2 r
  · omega
theorem Step.ofExt {F : Nat → Prop} {H H' : Heap} (e : Ext H H') : Step F F H H' := ⟨e.mod, fun _ h => .inl h⟩
theorem Step.with {F F' : Nat → Prop} {H H' : Heap} (S : Step F F' H H') (nb : Nat) : Step (fun b => F b ∨ b = nb) (fun b => F' b ∨ b = nb) H H' :=
  ⟨S.mod.mono fun _ _ h => .inl h, fun b hb => by
    rcases hb with q | q
    · exact (S.own b q).imp .inl id
    · exact .inl (.inr q)⟩
theorem Off.ints {F F' : Nat → Prop} {H H' : Heap} {s : Sl} {k : IntKind} {l : List Int} (h : Off F H s) (hi : Ints k H s l) (S : Step F F' H H') : Ints k H' s l := hi.mod S.mod fun ad ha => (h ad ha).2
theorem Off.mono {F G : Nat → Prop} {H : Heap} {s : Sl} (h : Off F H s) (hs : ∀ b, b < H.size → G b → F b) : Off G H s := fun ad ha => ⟨(h ad ha).1, fun q => (h ad ha).2 (hs _ (h ad ha).1 q)⟩

/-- .. or nothing is read there. -/
def OffI (F : Nat → Prop) (H : Heap) (s : Sl) (l : List Int) : Prop := l ≠ [] → Off F H s
theorem Off.toI {F : Nat → Prop} {H : Heap} {s : Sl} (h : Off F H s) (l : List Int) : OffI F H s l := fun _ => h
theorem OffI.step {F F' : Nat → Prop} {H H' : Heap} {s : Sl} {l : List Int} (h : OffI F H s l) (S : Step F F' H H') : OffI F' H' s l := fun u => (h u).step S
theorem OffI.ints {F F' : Nat → Prop} {H H' : Heap} {s : Sl} {k : IntKind} {l : List Int} (h : OffI F H s l) (hi : Ints k H s l) (S : Step F F' H H') : Ints k H' s l := by
  by_cases e : l = []
  · subst e; exact ⟨hi.len, Reads.nil _ _⟩
  · exact (h e).ints hi S
/-- A slice reads as rows. -/
structure RowsN (F : Nat → Prop) (H : Heap) (s : Sl) (ls : List (List Int)) : Prop where
  len : s.n = ls.length
  off : Off F H s
  at' : ∀ i (h : i < ls.length), ∃ ad r, s.a = some ad ∧ hCell H (ad.add i) = some (Sl.v r) ∧ Off F H r ∧ Ints .u64 H r ls[i]
theorem RowsN.step {F F' : Nat → Prop} {H H' : Heap} {s : Sl} {ls : List (List Int)} (h : RowsN F H s ls) (S : Step F F' H H') : RowsN F' H' s ls := ⟨h.len, h.off.step S, fun i hi => by
  obtain ⟨ad, r, q1, q2, q4, q5⟩ := h.at' i hi
  exact ⟨ad, r, q1, S.mod.cell q2 (by rw [add_block]; exact (h.off ad q1).2), q4.step S, q4.ints q5 S⟩⟩
theorem RowsN.mono {F G : Nat → Prop} {H : Heap} {s : Sl} {ls : List (List Int)} (h : RowsN F H s ls) (hs : ∀ b, b < H.size → G b → F b) : RowsN G H s ls := ⟨h.len, h.off.mono hs, fun i hi => by
  obtain ⟨ad, r, q1, q2, q4, q5⟩ := h.at' i hi
  exact ⟨ad, r, q1, q2, q4.mono hs, q5⟩⟩
theorem RowsOwn.rowsN {F : Nat → Prop} {H : Heap} {base : Nat} {s : Sl} {rs : List Sl} {ls : List (List Int)} (h : RowsOwn H base s rs ls) (hF : ∀ b, base ≤ b → ¬ F b) : RowsN F H s ls := by
  obtain ⟨b1, b2⟩ := h.block
  refine ⟨h.n, fun ad ha => ?_, fun i hi => ?_⟩
  · have := b1 _ ⟨ad, ha, rfl⟩
    exact ⟨this.2, hF _ this.1⟩
  · have hir : i < rs.length := by rw [h.len]; exact hi
    obtain ⟨ad, ha, hc⟩ := h.out.reads.at (i := i) (by simpa using hir)
    exact ⟨ad, rs[i], ha, by simpa using hc, fun ad' ha' => by
      have := b2 _ (List.getElem_mem hir) _ ⟨ad', ha', rfl⟩
      exact ⟨this.2, hF _ this.1⟩, (h.row i _ _ (List.getElem?_eq_getElem hir) (List.getElem?_eq_getElem hi)).ints⟩
theorem RowsN.ld {F : Nat → Prop} {H : Heap} {s : Sl} {ls : List (List Int)} (h : RowsN F H s ls) {i : Nat} (hi : i < ls.length) {K : Addr → Sl → Prop} (hK : ∀ ad r, s.a = some ad → Off F H r → Ints .u64 H r (ls.getD i []) → K ad r) :
    optK s.a fun a => (0 ≤ (i : Int) ∧ (i : Int) < (s.n : Int)) ∧ ld cSl H (a.add ((i : Int).toNat * 1)) fun x => K a x := by
  obtain ⟨ad, r, e, hc, ho, hr⟩ := h.at' i hi
  rw [getDo hi] at hK
  refine optK_mk ad e ⟨⟨by omega, by rw [h.len]; omega⟩, r, ?_, hK ad r e ho hr⟩
  simp only [Int.toNat_natCast, Nat.mul_one]
  exact hc

theorem RowsN.ldX {F : Nat → Prop} {H A : Heap} {s : Sl} {ls : List (List Int)} (h : RowsN F H s ls) (e' : Ext H A) {i : Nat} (hi : i < ls.length) {K : Addr → Sl → Prop} (hK : ∀ ad r, s.a = some ad → hCell H (ad.add i) = some (Sl.v r) → Off F H r → Ints .u64 H r (ls.getD i []) → K ad r) :
    optK s.a fun a => (0 ≤ (i : Int) ∧ (i : Int) < (s.n : Int)) ∧ Go.Proofs.YtmdiinakfpgdjaaDoor.ld cSl A (a.add ((i : Int).toNat * 1)) fun x => K a x := by
  obtain ⟨ad, r, e, hc, ho, hr⟩ := h.at' i hi
  rw [getDo hi] at hK
  refine optK_mk ad e ⟨⟨by omega, by rw [h.len]; omega⟩, r, ?_, hK ad r e hc ho hr⟩
  simp only [Int.toNat_natCast, Nat.mul_one]
  exact e'.cell hc id

/-! ### Spans -/

def LowAt (F : Nat → Prop) (H : Heap) (a : Sl) (o : Option (List Int)) : Prop := match o with | none => a.a = none | some l => a.a ≠ none ∧ Off F H a ∧ Ints .u64 H a l
structure SpanAt (F : Nat → Prop) (H : Heap) (a b : Sl) (sp : Span) : Prop where
  low : LowAt F H a sp.low
  high : LowAt F H b sp.high
theorem LowAt.step {F F' : Nat → Prop} {H H' : Heap} {a : Sl} {o : Option (List Int)} (h : LowAt F H a o) (S : Step F F' H H') : LowAt F' H' a o := by
  unfold LowAt at h ⊢
  cases o with
  | none => exact h
  | some l => exact ⟨h.1, h.2.1.step S, h.2.1.ints h.2.2 S⟩
theorem SpanAt.step {F F' : Nat → Prop} {H H' : Heap} {a b : Sl} {sp : Span} (h : SpanAt F H a b sp) (S : Step F F' H H') : SpanAt F' H' a b sp := ⟨h.low.step S, h.high.step S⟩
section
variable {F : Nat → Prop} {H : Heap} {a b sl : Sl} {sp : Span} {ls : List (List Int)}
theorem tup_ok {pb : Nat} {t : TypeId} {K : Bool → Heap → Prop} (hp : RowT H pb t #[a.v, b.v]) (hb : LowAt F H b sp.high) (hr : RowsN F H sl ls) (hc : ∀ l ∈ ls, l.length ≤ 16) (h0 : 0 < ls.length) (hn : ls.length ≤ 1000000) (hK : K (sp.lt (ls.getD (ls.length - 1) [])) H) :
    ld cSl H (Addr.add ⟨pb, 0, none⟩ 1) fun (x_3 : Sl) => br x_3.a.isNone (K true H) (optK sl.a fun a_2 => (0 ≤ (IntKind.i64.wrap ((sl.n : Int) - (1 : Int))) ∧ (IntKind.i64.wrap ((sl.n : Int) - (1 : Int))) < (sl.n : Int)) ∧ ld cSl H (a_2.add ((IntKind.i64.wrap ((sl.n : Int) - (1 : Int))).toNat * 1)) fun (x_4 : Sl) => ld cSl H (Addr.add ⟨pb, 0, none⟩ 1) fun (x_5 : Sl) => row_Cmp.sp x_4 x_5 H fun (r_1 : Int) H4 => K (decide (r_1 < (0 : Int))) H4) := by
  refine RowT.ld (c := cSl) (i := 1) (x := b) hp rfl ?_
  unfold LowAt at hb
  unfold Span.lt at hK
  cases hh : sp.high with
  | none =>
    rw [hh] at hb hK
    exact br_t (by rw [hb]; rfl) hK
  | some l =>
    rw [hh] at hb hK
    refine br_f (by cases q : b.a with | none => exact absurd q hb.1 | some _ => rfl) ?_
    have e1 : IntKind.i64.wrap ((sl.n : Int) - 1) = ((ls.length - 1 : Nat) : Int) := by rw [hr.len, wrap64 (by omega) (by omega)]; omega
    rw [e1]
    refine hr.ld (by omega) fun ad x ha ho hi => ?_
    refine RowT.ld (c := cSl) (i := 1) (x := b) hp rfl ?_
    have hlen : (ls.getD (ls.length - 1) []).length ≤ 16 := by rw [getDo (by omega)]; exact hc _ (List.getElem_mem _)
    exact rowCmp_ok hi hb.2.2 (by omega) hK
theorem tholds_ok {K : Bool → Heap → Prop} (hs : SpanAt F H a b sp) (hr : RowsN F H sl ls) (hc : ∀ l ∈ ls, l.length ≤ 16) (hn : ls.length ≤ 1000000) (hK : ∀ H', Ext H H' → K (sp.holds ls) H') : tree_span_holds.sp a b sl H K := by
  refine tree_span_holds.of ?_
  unfold tree_span_holds.vc
  refine newC_rowT fun H1 z1 r1 e1 => ?_
  have hs1 := hs.step (.ofExt e1)
  have hr1 := hr.step (.ofExt e1)
  have hcol : ∀ i, i < ls.length → (ls.getD i []).length ≤ 16 := fun i hi => by rw [getDo hi]; exact hc _ (List.getElem_mem _)
  have hln := hr.len
  unfold Span.holds at hK
  have hK := hK H1 e1
  refine loop_upto ls.length (fun m z A => A = H1 ∧ z = ((m + 1 : Nat) : Int) ∧ ∀ j, j + 1 ≤ m → j + 1 < ls.length → cmpL (ls.getD j []) (ls.getD (j + 1) []) < 0) ⟨rfl, rfl, fun j hj => by omega⟩ ?_
  rintro m z A next hm ⟨rfl, rfl, hlo⟩ hnext
  refine br_mk (fun hcc => ?_) (fun hcc => ?_)
  · have hlt : m + 1 < ls.length := by have : ((m + 1 : Nat) : Int) < (sl.n : Int) := by simpa using hcc
                                       omega
    have e2 : IntKind.i64.wrap (((m + 1 : Nat) : Int) - 1) = (m : Int) := by rw [wrap64 (by omega) (by omega)]; omega
    rw [e2]
    refine hr1.ld (by omega) fun ad x ha ho hi => ?_
    refine hr1.ld hlt fun ad2 x2 ha2 ho2 hi2 => ?_
    refine rowCmp_ok hi hi2 (by have := hcol m (by omega); omega) ?_
    refine br_mk (fun hc2 => ?_) (fun hc2 => ?_)
    · have hge : cmpL (ls.getD m []) (ls.getD (m + 1) []) ≥ 0 := by simpa using hc2
      have hf : rises ls = false := by
        cases q : rises ls with
        | false => rfl
        | true => have := rises_iff.1 q m hlt; omega
      rw [hf] at hK
      exact hK
    · have hlt2 : cmpL (ls.getD m []) (ls.getD (m + 1) []) < 0 := by have : ¬ cmpL (ls.getD m []) (ls.getD (m + 1) []) ≥ 0 := by simpa using hc2
                                                                     omega
      refine hnext (by omega) _ _ ⟨rfl, by rw [succ64 _ (by omega)], fun j hj hj2 => ?_⟩
      rcases Nat.lt_or_ge (j + 1) (m + 1) with q | q
      · exact hlo j (by omega) hj2
      · rw [show j = m by omega]; exact hlt2
  · have hge : ¬ m + 1 < ls.length := by have : ¬ ((m + 1 : Nat) : Int) < (sl.n : Int) := by simpa using hcc
                                         omega
    have ht : rises ls = true := rises_iff.2 fun i hi => hlo i (by omega) hi
    rw [ht, Bool.true_and] at hK
    refine br_mk (fun hc2 => ?_) (fun hc2 => ?_)
    · have e0 : ls = [] := List.eq_nil_of_length_eq_zero (by have : (sl.n : Int) = 0 := by simpa using hc2
                                                             omega)
      subst e0
      exact hK
    · have h0 : 0 < ls.length := by have : ¬ (sl.n : Int) = 0 := by simpa using hc2
                                    omega
      have he : ls.isEmpty = false := by cases ls with | nil => simp at h0 | cons _ _ => rfl
      rw [he, Bool.false_or] at hK
      refine RowT.ld (c := cSl) (i := 0) (x := a) r1 rfl ?_
      have hlow := hs1.low
      unfold LowAt at hlow
      unfold Span.ge at hK
      cases hl : sp.low with
      | none =>
        rw [hl] at hlow hK
        refine br_t (by rw [hlow]; rfl) ?_
        exact tup_ok r1 hs1.high hr1 hc h0 hn hK
      | some l =>
        rw [hl] at hlow hK
        refine br_f (by cases q : a.a with | none => exact absurd q hlow.1 | some _ => rfl) ?_
        refine hr1.ld (i := 0) h0 fun ad x ha ho hi => ?_
        refine RowT.ld (c := cSl) (i := 0) (x := a) r1 rfl ?_
        refine rowCmp_ok hi hlow.2.2 (by have := hcol 0 h0; omega) ?_
        refine br_mk (fun hc3 => ?_) (fun hc3 => ?_)
        · have hge2 : cmpL (ls.getD 0 []) l ≥ 0 := by simpa using hc3
          simp only [hge2, decide_true, Bool.true_and] at hK
          exact tup_ok r1 hs1.high hr1 hc h0 hn hK
        · have hge2 : ¬ cmpL (ls.getD 0 []) l ≥ 0 := by simpa using hc3
          simp only [hge2, decide_false, Bool.false_and] at hK
          exact hK

/-! ### A node in memory -/

/-- A node's cells: what may be read of it. -/
structure NodeR (F : Nat → Prop) (H : Heap) (nb : Nat) (page : Int) (sk sr : Sl) (n : Nd) : Prop where
  row : RowT H nb ty_tree_node #[.int .i64 page, sk.v, sr.v]
  off : ¬ F nb
  kids : Ints .i64 H sk (n.kids.map Int.ofNat)
  kidsO : Off (fun b => F b ∨ b = nb) H sk
  rows : RowsN (fun b => F b ∨ b = nb) H sr n.rows
theorem NodeR.step {F F' : Nat → Prop} {H H' : Heap} {nb : Nat} {page : Int} {sk sr : Sl} {n : Nd} (h : NodeR F H nb page sk sr n) (S : Step F F' H H') : NodeR F' H' nb page sk sr n :=
  ⟨h.row.mod S.mod h.off, fun q => (S.own _ q).elim h.off fun r => by have := obj_lt h.row; omega, h.kidsO.ints h.kids (S.with nb), h.kidsO.step (S.with nb), h.rows.step (S.with nb)⟩
theorem zc_span : zc Tryd.prog ty_tree_span = #[.slice none 0 0, .slice none 0 0] := by kernel_rfl
theorem size_span : sizeB Tryd.prog ty_tree_span 2 = true := by kernel_rfl

set_option maxHeartbeats 1000000 in
/-- The span of a node's child. -/
theorem tof_ok {nb : Nat} {page : Int} {sk sr : Sl} {n : Nd} {i : Nat} {K : Sl × Sl → Heap → Prop} (hs : SpanAt F H a b sp) (hn : NodeR F H nb page sk sr n) (hnn : ∀ j, j < n.rows.length → ∀ ad r, sr.a = some ad → hCell H (ad.add j) = some (Sl.v r) → r.a ≠ none) (hi : i ≤ n.rows.length) (hbig : n.rows.length ≤ 1000000)
    (hK : ∀ x y H', Ext H H' → SpanAt F H' x y (sp.of n i) → K (x, y) H') : tree_span_of.sp a b (at0 nb) (i : Int) H K := by
  refine tree_span_of.of ?_
  unfold tree_span_of.vc
  rw [zc_span]
  refine newC_rowT fun H1 z1 r1 e1 => ?_
  refine newC_rowT fun H2 z2 r2 e2 => ?_
  simp only [optK_eq, at0]
  have e02 := e1.trans e2
  have n2 := hn.row.ext e02
  have r12 := r1.ext e2
  have hne : H.size ≠ H1.size := by omega
  refine ⟨fun _ A => ∃ x, RowT A H.size ty_tree_span #[x.v, b.v] ∧ Mod (fun q => q = H.size) H2 A ∧ LowAt F H x (sp.of n i).low, ?_, ?_⟩
  · refine br_mk (fun hc => ?_) (fun hc => ?_)
    · have h0 : 0 < i := by have : (i : Int) > 0 := by simpa using hc
                            omega
      refine RowT.ld (c := cSl) (i := 2) (x := sr) n2 rfl ?_
      have e3 : IntKind.i64.wrap ((i : Int) - 1) = ((i - 1 : Nat) : Int) := by rw [wrap64 (by omega) (by omega)]; omega
      rw [e3]
      refine hn.rows.ldX e02 (by omega) fun ad x ha hx ho hi2 => ?_
      refine RowT.st r12 (i := 0) (by simp) rfl fun H4 r4 m4 z4 => ?_
      refine ⟨x, r4, m4, ?_⟩
      have el : (sp.of n i).low = some (n.rows.getD (i - 1) []) := if_pos h0
      rw [el]
      exact ⟨hnn _ (by omega) _ _ ha hx, ho.mono fun _ _ q => .inl q, hi2⟩
    · have h0 : ¬ 0 < i := by have : ¬ (i : Int) > 0 := by simpa using hc
                              omega
      refine ⟨a, r12, .refl _ _, ?_⟩
      have el : (sp.of n i).low = sp.low := if_neg h0
      rw [el]; exact hs.low
  · rintro _ H3 ⟨x, r3, m3, l3⟩
    have e03 : Ext H H3 := ((Ext.mod (F := fun q => q = H.size) e02).trans m3).ext fun q hq => by omega
    have n3 := hn.row.ext e03
    have r23 : RowT H3 H1.size ty_tree_span #[.slice none 0 0, .slice none 0 0] := r2.mod m3 (by omega)
    refine ⟨fun _ A => ∃ y, RowT A H.size ty_tree_span #[x.v, y.v] ∧ Mod (fun q => q = H.size) H3 A ∧ LowAt F H y (sp.of n i).high, ?_, ?_⟩
    · refine RowT.ld (c := cSl) (i := 2) (x := sr) n3 rfl ?_
      have hln := hn.rows.len
      refine br_mk (fun hc => ?_) (fun hc => ?_)
      · have h0 : i < n.rows.length := by have : (i : Int) < (sr.n : Int) := by simpa using hc
                                          omega
        refine RowT.ld (c := cSl) (i := 2) (x := sr) n3 rfl ?_
        refine hn.rows.ldX e03 h0 fun ad y ha hy ho hi2 => ?_
        refine RowT.st r3 (i := 1) (by simp) rfl fun H4 r4 m4 z4 => ?_
        refine ⟨y, r4, m4, ?_⟩
        have el : (sp.of n i).high = some (n.rows.getD i []) := if_pos h0
        rw [el]
        exact ⟨hnn _ h0 _ _ ha hy, ho.mono fun _ _ q => .inl q, hi2⟩
      · have h0 : ¬ i < n.rows.length := by have : ¬ (i : Int) < (sr.n : Int) := by simpa using hc
                                            omega
        refine ⟨b, r3, .refl _ _, ?_⟩
        have el : (sp.of n i).high = sp.high := if_neg h0
        rw [el]; exact hs.high
    · rintro _ H5 ⟨y, r5, m5, l5⟩
      have e05 : Ext H H5 := ((Ext.mod (F := fun q => q = H.size) e03).trans m5).ext fun q hq => by omega
      have r25 := r23.mod m5 (by omega)
      refine RowT.ldA (c := cAgg [cSl, cSl]) (x := (x, y)) r5 rfl rfl ?_
      refine RowT.stAll r25 size_span rfl (by simp [Value.oneCell', Sl.v]) fun H7 r7 m7 z7 => ?_
      have e07 : Ext H H7 := ((Ext.mod (F := fun q => q = H1.size) e05).trans m7).ext fun q hq => by omega
      refine RowT.ldA (c := cAgg [cSl, cSl]) (x := (x, y)) r7 rfl rfl ?_
      exact hK x y H7 e07 ⟨l3.step (.ofExt e07), l5.step (.ofExt e07)⟩

/-! ### A row's place -/

theorem tbin_ok {low : Sl} {ll : List Int} {K : (Int × Bool) → Heap → Prop} (h : RowsN F H sl ls) (hl : Ints .u64 H low ll) (hd : rises ls = true) (hc : ∀ l ∈ ls, l.length ≤ 16) (hn : ls.length ≤ 1000000)
    (hK : K ((below ll ls : Int), sameAt ls ll) H) : slices_BinarySearchFunc_sl_sl_uint64_sl_uint64_sl_uint64.sp sl low H K := by
  refine slices_BinarySearchFunc_sl_sl_uint64_sl_uint64_sl_uint64.of ?_
  unfold slices_BinarySearchFunc_sl_sl_uint64_sl_uint64_sl_uint64.vc
  have hd := rises_down hd ll
  refine loop_upto ls.length (fun m z A => A = H ∧ ∃ i j : Nat, z = ((i : Int), (j : Int)) ∧ i ≤ j ∧ j ≤ ls.length ∧ j - i + m ≤ ls.length ∧ (∀ x, x < i → cmpL (ls.getD x []) ll < 0) ∧ ∀ x, j ≤ x → x < ls.length → ¬ cmpL (ls.getD x []) ll < 0) ?_ ?_
  · refine ⟨rfl, 0, ls.length, ?_, Nat.zero_le _, Nat.le_refl _, by omega, fun x hx => by omega, fun x h1 h2 => by omega⟩
    rw [h.len]; rfl
  rintro m _ A next hm ⟨rfl, i, j, rfl, hij, hjN, hmn, hlo, hhi⟩ hnext
  refine br_mk (fun hcc => ?_) (fun hcc => ?_)
  · have hlt : i < j := by have : (i : Int) < (j : Int) := by simpa using hcc
                           omega
    have hmid := midT (i := i) (j := j) (by omega)
    simp only
    rw [hmid]
    have hh2 : (i + j) / 2 < ls.length := by omega
    refine h.ld hh2 fun ad x ha _ hx => ?_
    have hcol := hc _ (List.getElem_mem hh2)
    rw [← getDo hh2] at hcol
    refine rowCmp_ok hx hl (by omega) ?_
    refine br_mk (fun hc2 => ?_) (fun hc2 => ?_)
    · have e : cmpL (ls.getD ((i + j) / 2) []) ll < 0 := by simpa using hc2
      refine hnext (by omega) _ _ ⟨rfl, (i + j) / 2 + 1, j, ?_, by omega, hjN, by omega, fun y hy => hd y ((i + j) / 2) (by omega) hh2 e, hhi⟩
      rw [succ64 _ (by omega)]
    · have e : ¬ cmpL (ls.getD ((i + j) / 2) []) ll < 0 := by simpa using hc2
      exact hnext (by omega) _ _ ⟨rfl, i, (i + j) / 2, rfl, by omega, by omega, by omega, hlo, fun y h1 h2 q => e (hd ((i + j) / 2) y h1 h2 q)⟩
  · have hge : ¬ i < j := by have : ¬ (i : Int) < (j : Int) := by simpa using hcc
                             omega
    have eij : i = j := by omega
    subst eij
    have eb : below ll ls = i := belowT hjN hlo fun hx => hhi i (Nat.le_refl _) hx
    refine br_mk (fun hc2 => ?_) (fun hc2 => ?_)
    · have hil : i < ls.length := by have : (i : Int) < (sl.n : Int) := by simpa using hc2
                                     rw [h.len] at this; omega
      refine h.ld hil fun ad x ha _ hx => ?_
      have hcol := hc _ (List.getElem_mem hil)
      rw [← getDo hil] at hcol
      refine rowCmp_ok hx hl (by omega) ?_
      have es : sameAt ls ll = (cmpL (ls.getD i []) ll == 0) := by
        unfold sameAt
        rw [eb, Bool.eq_iff_iff]
        simp [hil, cmpL_zero]
      rw [← es, ← eb]
      exact hK
    · have hil : ¬ i < ls.length := by have : ¬ (i : Int) < (sl.n : Int) := by simpa using hc2
                                       rw [h.len] at this; omega
      have es : sameAt ls ll = false := by
        unfold sameAt
        rw [eb]
        simp [hil]
      rw [es, eb] at hK
      exact hK
theorem tchild_ok {nb : Nat} {page : Int} {sk sr low : Sl} {n : Nd} {ll : List Int} {K : Int → Heap → Prop} (hn : NodeR F H nb page sk sr n) (hl : Ints .u64 H low ll) (hd : rises n.rows = true) (hc : ∀ l ∈ n.rows, l.length ≤ 16) (hbig : n.rows.length ≤ 1000000)
    (hK : K (n.child ll : Int) H) : tree_node_child.sp (at0 nb) low H K := by
  refine tree_node_child.of ?_
  unfold tree_node_child.vc
  simp only [optK_eq, at0]
  refine RowT.ld (c := cSl) (i := 2) (x := sr) hn.row rfl ?_
  refine tbin_ok hn.rows hl hd hc hbig ?_
  unfold Nd.child at hK
  have := below_leT ll n.rows
  cases hs : sameAt n.rows ll with
  | true =>
    rw [hs, if_pos rfl] at hK
    refine br_t rfl ?_
    rw [succ64 _ (by omega)]
    exact hK
  | false =>
    rw [hs, if_neg (by simp)] at hK
    exact br_f rfl hK
end
end Go.Proofs.YtmdiinakfpgdjaaDoor

/-
  Trees: a node that is read: the walk.
-/
namespace Go.Proofs.YtmdiinakfpgdjaaDoor
open Go.MapKept

/-- A node that was read, in memory of its own. -/
structure NodeO (F : Nat → Prop) (H : Heap) (base nb : Nat) (page : Int) (sk sr : Sl) (rs : List Sl) (n : Nd) : Prop where
  row : RowT H nb ty_tree_node #[.int .i64 page, sk.v, sr.v]
  kids : Owns H 0 ty_int 1 sk ((n.kids.map Int.ofNat).map (Value.int .i64))
  rows : RowsOwn H 0 sr rs n.rows
  nn : ∀ x ∈ rs, x.a ≠ none
  nb : base ≤ nb ∧ ¬ F nb
  sk : ∀ b, ownB sk b → base ≤ b ∧ ¬ F b
  sr : ∀ b, ownB sr b → base ≤ b ∧ ¬ F b
  rs : ∀ x ∈ rs, ∀ b, ownB x b → base ≤ b ∧ ¬ F b

section
variable {F : Nat → Prop} {H : Heap} {base nb : Nat} {page : Int} {sk sr : Sl} {rs : List Sl} {n : Nd}
theorem NodeO.skN (h : NodeO F H base nb page sk sr rs n) : ¬ ownB sk nb := fun q => by
  obtain ⟨cur, hc⟩ := h.kids.obj _ q
  exact absurd (cells_ty hc h.row) (by decide)
theorem NodeO.srN (h : NodeO F H base nb page sk sr rs n) : ¬ ownB sr nb := fun q => by
  obtain ⟨cur, hc⟩ := h.rows.out.obj _ q
  exact absurd (cells_ty hc h.row) (by decide)
theorem NodeO.rsN (h : NodeO F H base nb page sk sr rs n) : ∀ x ∈ rs, ¬ ownB x nb := fun x hx q => by
  obtain ⟨l, hl⟩ := h.rows.rowAt hx
  obtain ⟨cur, hc⟩ := hl.obj _ q
  exact absurd (cells_ty hc h.row) (by decide)
theorem NodeO.read (h : NodeO F H base nb page sk sr rs n) : NodeR F H nb page sk sr n := by
  refine ⟨h.row, h.nb.2, h.kids.ints, fun ad ha => ⟨(h.kids.block _ ⟨ad, ha, rfl⟩).2, fun q => ?_⟩, ⟨h.rows.n, fun ad ha => ⟨(h.rows.block.1 _ ⟨ad, ha, rfl⟩).2, fun q => ?_⟩, fun i hi => ?_⟩⟩
  · rcases q with q | q
    · exact (h.sk _ ⟨ad, ha, rfl⟩).2 q
    · exact h.skN ⟨ad, ha, q⟩
  · rcases q with q | q
    · exact (h.sr _ ⟨ad, ha, rfl⟩).2 q
    · exact h.srN ⟨ad, ha, q⟩
  · have hir : i < rs.length := by rw [h.rows.len]; exact hi
    obtain ⟨ad, ha, hc⟩ := h.rows.out.reads.at (i := i) (by simpa using hir)
    refine ⟨ad, rs[i], ha, by simpa using hc, fun ad' ha' => ?_, (h.rows.row i _ _ (List.getElem?_eq_getElem hir) (List.getElem?_eq_getElem hi)).ints⟩
    refine ⟨(h.rows.block.2 _ (List.getElem_mem hir) _ ⟨ad', ha', rfl⟩).2, fun q => ?_⟩
    rcases q with q | q
    · exact (h.rs _ (List.getElem_mem hir) _ ⟨ad', ha', rfl⟩).2 q
    · exact h.rsN _ (List.getElem_mem hir) ⟨ad', ha', q⟩
theorem NodeO.nnAt (h : NodeO F H base nb page sk sr rs n) : ∀ j, j < n.rows.length → ∀ ad r, sr.a = some ad → hCell H (ad.add j) = some (Sl.v r) → r.a ≠ none := by
  intro j hj ad r ha hc
  have hjr : j < rs.length := by rw [h.rows.len]; exact hj
  obtain ⟨ad', ha', hc'⟩ := h.rows.out.reads.at (i := j) (by simpa using hjr)
  rw [ha] at ha'; cases ha'
  rw [hc] at hc'
  simp only [List.getElem_map, Option.some.injEq, Sl.v, Value.slice.injEq] at hc'
  rw [hc'.1]
  exact h.nn _ (List.getElem_mem hjr)
theorem NodeO.step {F' : Nat → Prop} {H' : Heap} (h : NodeO F H base nb page sk sr rs n) (S : Step F F' H H') : NodeO F' H' base nb page sk sr rs n := by
  have k1 : ∀ b, b < H.size → ¬ F b → ¬ F' b := fun b hb hF q => (S.own b q).elim hF fun r => by omega
  refine ⟨h.row.mod S.mod h.nb.2, h.kids.mod S.mod fun b hb => (h.sk b hb).2, h.rows.mod S.mod (fun b hb => (h.sr b hb).2) fun x hx b hb => (h.rs x hx b hb).2, h.nn, ⟨h.nb.1, k1 _ (obj_lt h.row) h.nb.2⟩, fun b hb => ⟨(h.sk b hb).1, k1 b (h.kids.block b hb).2 (h.sk b hb).2⟩, fun b hb => ⟨(h.sr b hb).1, k1 b (h.rows.block.1 b hb).2 (h.sr b hb).2⟩, fun x hx b hb => ⟨(h.rs x hx b hb).1, k1 b (h.rows.block.2 x hx b hb).2 (h.rs x hx b hb).2⟩⟩
end

def nilT : Sl := ⟨none, 0, 0⟩
theorem nilT_own (b : Nat) : ¬ ownB nilT b := fun ⟨_, h, _⟩ => by cases h
theorem kidsOf_length (b : List UInt8) (k : Nat) : (kidsOf b k).length = k := by simp [kidsOf]
theorem kidsOf_succ (b : List UInt8) (k : Nat) : kidsOf b (k + 1) = kidsOf b k ++ [of4 (b.drop (2 + 4 * k))] := by
  unfold kidsOf
  rw [List.range_succ, List.map_append]; rfl
theorem getL_fits {b : List Int} {w : Int} (h : getOK b w = true) : ∀ l ∈ getL b w, l.length ≤ 16 := by
  obtain ⟨h1, h2, h3⟩ := getL_len h
  intro l hl
  rw [h3 l hl]
  unfold sizeL at h2
  split at h2
  · exact absurd rfl h2
  · omega

section
variable {H : Heap} {k p dp : Nat} {t : Tr} {F : Nat → Prop} {s : Pl} {q : Nat} {I : Pl → St → Nat → Prop} {B C : Pl → Int → Prop} {x : St} {m : Nat} {a b : Sl} {sp : Span}

set_option maxHeartbeats 2000000 in
theorem tnode_ok {page above depth : Nat} {K : (Option Addr × Int) → Heap → Prop} (S : Store t.name q I B C) (hI : I s x m) (hm : m < 30000000000) (hg : Gl H) (h : TreeB H k p t) (hp : PoolAt F H p dp s) (hk : ¬ F k) (hpg : page ≤ 1000000000000)
    (hs : SpanAt F H a b sp) (hd : t.depth = (depth : Int))
    (hK1 : ∀ n, x.node t.width depth above page sp = some n → ∀ F' H' s' nb sk sr rs, PoolAt F' H' p dp s' → Step F F' H H' → I s' x (m + 1) → NodeO F' H' H.size nb (page : Int) sk sr rs n → K (at0 nb, 0) H')
    (hK2 : x.node t.width depth above page sp = none → ∀ F' H' s', PoolAt F' H' p dp s' → Step F F' H H' → I s' x (m + 1) → K (none, 280) H')
    (hK3 : ∀ F' H' s' e, PoolAt F' H' p dp s' → Step F F' H H' → C s' e → K (none, e) H') : tree_Tree_node.sp (at0 k) (page : Int) (above : Int) a b H K := by
  refine tree_Tree_node.of ?_
  unfold tree_Tree_node.vc
  refine newC_rowT fun H1 z1 r1 e1 => ?_
  have hFlt : ∀ b, F b → b < H.size := fun b hb => hp.lt b hb
  have hkl := obj_lt h
  have T1 : Step F F H H1 := .ofExt e1
  refine tlook_ok S hI hm (hg.mod e1 id) (h.ext e1) (hp.ext e1) hk hpg (fun hgn F' H2 s' sl p2 S2 I2 o2 f2 => ?_) (fun hgn F' H2 s' v sl p2 S2 I2 => ?_) (fun F' H2 s' v sl e p2 S2 hC => ?_)
  rotate_left
  · refine br_t rfl ?_
    exact hK2 (by unfold St.node; rw [if_neg (by omega)]) F' H2 s' p2 (T1.trans S2) I2
  · obtain ⟨c1, c2⟩ := S.errC hC
    refine br_f (by simpa using c2) ?_
    refine br_t (by simpa using c1) ?_
    exact hK3 F' H2 s' e p2 (T1.trans S2) hC
  have T2 := T1.trans S2
  refine br_f rfl ?_
  refine br_f rfl ?_
  dsimp only
  have hx : x.node t.width depth above page sp = nodeOf t.width depth above sp (x.T page) := by unfold St.node; rw [if_pos hgn]
  rw [hx] at hK1 hK2
  have hlen : (x.T page).2.length ≤ 504 := (S.pre hI).2.2.2.2.2 page
  generalize x.T page = kb at *
  refine newC_rowT fun H3 z3 r3 e3 => ?_
  have hz2 := S2.mod.size
  have hFp : ¬ F H.size := fun u => by have := hFlt _ u; omega
  have rp2 : RowT H2 H.size ty_tree_span #[a.v, b.v] := r1.mod S2.mod hFp
  have hF' : ∀ c, H2.size ≤ c → ¬ F' c := fun c hc u => by have := p2.lt c u; omega
  have hs2 : SpanAt F' H2 a b sp := hs.step T2
  have ht2 : TreeB H2 k p t := (h.ext e1).mod S2.mod hk
  have hsn : sl.n = kb.2.length := SlE.n o2 (by decide)
  have hcap := o2.cap
  have by2 : Byts H2 sl kb.2 := SlB_byts o2
  have hkd : ∀ v : UInt8, ((kb.1.toNat : Int) == (v.toNat : Int)) = decide (kb.1 = v) := fun v => by
    rw [Bool.eq_iff_iff]
    simp only [beq_iff_eq, decide_eq_true_eq]
    exact ⟨fun e => UInt8.toNat_inj.1 (by omega), fun e => by rw [e]⟩
  refine ⟨fun z A => ∃ kids bb sk, nodeOf t.width depth above sp kb = nodeFin t.width depth sp kids bb ∧ Byts A z bb ∧ z.n ≤ z.c ∧ bb.length ≤ 504 ∧ kids.length ≤ 126 ∧ RowT A H2.size ty_tree_node #[.int .i64 (page : Int), sk.v, .slice none 0 0] ∧
    Owns A 0 ty_int 1 sk ((kids.map Int.ofNat).map (Value.int .i64)) ∧ Ext H2 A ∧ ∀ c, ownB sk c → H2.size < c, ?_, ?_⟩
  · have h3 : ((kb.1.toNat : Int) == 3) = decide (kb.1 = 3) := hkd 3
    have h4 : ((kb.1.toNat : Int) == 4) = decide (kb.1 = 4) := hkd 4
    unfold nodeOf
    refine br_mk (fun hc => ?_) (fun hc => ?_)
    · rw [h3] at hc
      simp only [Bool.and_eq_true, decide_eq_true_eq, beq_iff_eq] at hc
      exact ⟨[], kb.2, nilT, if_pos ⟨hc.1, by omega⟩, by2.keep fun ad _ hl => e3.same _ hl id, hcap, hlen, by simp, r3, Owns.nil _ _ _ _, e3, fun c u => absurd u (nilT_own c)⟩
    · rw [h3] at hc
      have hc1 : ¬ (kb.1 = 3 ∧ above = 0) := fun u => by simp [u.1, u.2] at hc
      rw [if_neg hc1]
      refine br_mk (fun hc2 => ?_) (fun hc2 => ?_)
      · rw [h4] at hc2
        simp only [Bool.and_eq_true, decide_eq_true_eq] at hc2
        obtain ⟨⟨c1, c2⟩, c3⟩ := hc2
        have hl2 : 2 ≤ kb.2.length := by omega
        have hc5 : kb.1 = 4 ∧ 0 < above ∧ 2 ≤ kb.2.length := ⟨c1, by omega, hl2⟩
        rw [if_pos hc5]
        have by3 : Byts H3 sl kb.2 := by2.keep fun ad _ hl => e3.same _ hl id
        have hu : (u8i kb.2).length = kb.2.length := u8i_length _
        refine ints_get by3 (j := 0) rfl (by omega) fun ad0 a0 => ?_
        refine ints_get by3 (j := 1) rfl (by omega) fun ad1 a1 => ?_
        rw [u8iD, u8iD, or_twoT (UInt8.toNat_lt _) (UInt8.toNat_lt _)]
        have en : (kb.2.getD 0 0).toNat * 256 + (kb.2.getD 1 0).toNat = num2 kb.2 := rfl
        rw [en]
        have hb0 := (kb.2.getD 0 0).toNat_lt
        have hb1 := (kb.2.getD 1 0).toNat_lt
        have hnum : num2 kb.2 ≤ 65535 := by unfold num2; omega
        have ew : ∀ i : Nat, i ≤ 65535 → IntKind.i64.wrap ((2 : Int) + (IntKind.i64.wrap ((4 : Int) * (i : Int)))) = ((2 + 4 * i : Nat) : Int) := fun i hi => by
          rw [wrap64 (x := 4 * (i : Int)) (by omega) (by omega), wrap64 (by omega) (by omega)]; omega
        rw [ew _ hnum]
        refine br_mk (fun hc6 => ?_) (fun hc6 => ?_)
        · have : num2 kb.2 < 2 ∨ kb.2.length < 2 + 4 * num2 kb.2 := by
            simp only [Bool.or_eq_true, decide_eq_true_eq] at hc6
            omega
          refine hK2 ?_ F' H3 s' (p2.ext e3) (T2.trans (.ofExt e3)) I2
          unfold nodeOf
          rw [if_neg hc1, if_pos hc5, if_pos this]
        · have hn6 : ¬ (num2 kb.2 < 2 ∨ kb.2.length < 2 + 4 * num2 kb.2) := fun u => by
            simp only [Bool.or_eq_false_iff, decide_eq_false_iff_not] at hc6
            omega
          have hn7 : 2 ≤ num2 kb.2 := by omega
          have hn8 : 2 + 4 * num2 kb.2 ≤ kb.2.length := by omega
          rw [if_neg hn6]
          generalize num2 kb.2 = N at *
          refine loop_upto N (fun i z A => z = (i : Int) ∧ ∃ sk, RowT A H2.size ty_tree_node #[.int .i64 (page : Int), sk.v, .slice none 0 0] ∧ Owns A 0 ty_int 1 sk (((kidsOf kb.2 i).map Int.ofNat).map (Value.int .i64)) ∧ Ext H2 A ∧ ∀ c, ownB sk c → H2.size < c) ⟨rfl, nilT, r3, Owns.nil _ _ _ _, e3, fun c u => absurd u (nilT_own c)⟩ ?_
          rintro i z A next hi ⟨rfl, sk, rA, oA, eA, fA⟩ hnext
          have byA : Byts A sl kb.2 := by2.keep fun ad _ hl => eA.same _ hl id
          have hskN : ¬ ownB sk H2.size := fun u => by have := fA _ u; omega
          refine br_mk (fun hc7 => ?_) (fun hc7 => ?_)
          · have hlt : i < N := by simpa using hc7
            rw [ew i (by omega)]
            refine ⟨fun D => RowT D H2.size ty_tree_node #[.int .i64 (page : Int), sk.v, .slice none 0 0], rA, ?_⟩
            refine RowT.ldC (c := cSl) (i := 1) (x := sk) (cs := fun _ => #[.int .i64 (page : Int), sk.v, .slice none 0 0]) (fun _ hG => hG) (fun _ _ => rfl) ?_
            refine ⟨by omega, ?_⟩
            have hdr : Byts A (Sl.mk (slA sl.a sl.c (((2 + 4 * i : Nat) : Int)).toNat 1) (sl.n - (((2 + 4 * i : Nat) : Int)).toNat) (sl.c - (((2 + 4 * i : Nat) : Int)).toNat)) (kb.2.drop (2 + 4 * i)) := byA.drop hcap (2 + 4 * i)
            refine tnumber_ok hdr (by rw [List.length_drop]; omega) ?_
            have hkl : (kidsOf kb.2 i).length = i := kidsOf_length _ _
            have hskn : sk.n = i := by have := oA.1; simp [hkl] at this; omega
            refine ⟨rA, ?_, ?_⟩
            · exact rA.ext (Mod.push _ _ _)
            refine elIntR.push (base := 0) oA rfl (by omega) (by omega) (Nat.zero_le _) fun sk' A2 n2 o2' m2 b2 _ => ?_
            have rA2 : RowT A2 H2.size ty_tree_node #[.int .i64 (page : Int), sk.v, .slice none 0 0] := rA.mod m2 hskN
            refine RowT.st rA2 (i := 1) (by simp) rfl fun A3 rA3 m3 z3' => ?_
            have hz := eA.size
            have f3 : ∀ c, ownB sk' c → H2.size < c := fun c u => by
              rcases b2 c u with v | v
              · exact fA c v
              · have := obj_lt rA; omega
            refine hnext hlt _ _ ⟨succ64 i (by omega), sk', rA3, ?_, ?_, f3⟩
            · rw [kidsOf_succ, List.map_append, List.map_append]
              exact o2'.mod m3 fun c u => by have := f3 c u; omega
            · have : Mod (fun c => ownB sk c ∨ c = H2.size) H2 A3 := ((Ext.mod eA).trans (m2.mono fun _ _ u => .inl u)).trans (m3.mono fun _ _ u => .inr u)
              exact this.ext fun c u => by
                rcases u with v | v
                · have := fA c v; omega
                · omega
          · have hge : i = N := by have : ¬ i < N := by simpa using hc7
                                   omega
            subst hge
            refine ⟨by omega, kidsOf kb.2 i, kb.2.drop (2 + 4 * i), sk, rfl, byA.drop hcap (2 + 4 * i), ?_, by rw [List.length_drop]; omega, by rw [kidsOf_length]; omega, rA, oA, eA, fA⟩
            show sl.n - _ ≤ sl.c - _
            omega
      · rw [h4] at hc2
        have hc5 : ¬ (kb.1 = 4 ∧ 0 < above ∧ 2 ≤ kb.2.length) := fun ⟨u1, u2, u3⟩ => by
          have : ¬ (decide (kb.1 = 4) && decide ((above : Int) > 0) && decide ((sl.n : Int) ≥ 2)) = true := by rw [hc2]; simp
          apply this
          simp only [Bool.and_eq_true, decide_eq_true_eq]
          exact ⟨⟨u1, by omega⟩, by omega⟩
        refine hK2 ?_ F' H3 s' (p2.ext e3) (T2.trans (.ofExt e3)) I2
        unfold nodeOf
        rw [if_neg hc1, if_neg hc5]
  · rintro z A ⟨kids, bb, sk, hno, hby, hzc, hbl, hkl, rA, oA, eA, fA⟩
    rw [hno] at hK1 hK2
    unfold at0
    simp only [optK_eq]
    have tA : TreeB A k p t := ht2.ext eA
    have hnil : ∀ A', Ext H2 A' → nodeFin t.width depth sp kids bb = none → K (none, 280) A' := fun A' eA' hno' => hK2 hno' F' A' s' (p2.ext eA') (T2.trans (.ofExt eA')) I2
    have hskn : sk.n = kids.length := by have := oA.1; simp at this; omega
    refine ⟨fun _ A' => ∃ sr rs, getOK (u8i bb) t.width = true ∧ (kids ≠ [] → (getL (u8i bb) t.width).length + 1 = kids.length) ∧ RowT A' H2.size ty_tree_node #[.int .i64 (page : Int), sk.v, sr.v] ∧ Owns A' 0 ty_int 1 sk ((kids.map Int.ofNat).map (Value.int .i64)) ∧
      RowsOwn A' A.size sr rs (getL (u8i bb) t.width) ∧ (∀ x ∈ rs, x.a ≠ none) ∧ Ext H2 A', ?_, ?_⟩
    · refine RowT.ld (c := cInt .i64) (i := 2) (x := t.width) tA rfl ?_
      refine rowGet_nn hby hzc (fun x hx => ?_) (by rw [u8i_length]; omega) fun sr rs A2 ro e2 nn => ?_
      · unfold u8i at hx
        obtain ⟨c, _, rfl⟩ := List.mem_map.1 hx
        have := c.toNat_lt; omega
      have eA2 := eA.trans e2
      refine RowT.st (rA.ext e2) (i := 2) (by simp) rfl fun A3 r3 m3 z3 => ?_
      have hzA := eA.size
      have hAn := obj_lt rA
      have eA3 : Ext H2 A3 := ((Ext.mod (F := fun c => c = H2.size) eA2).trans m3).ext fun c u => by omega
      have hbl2 := ro.block
      have roA3 : RowsOwn A3 A.size sr rs (getL (u8i bb) t.width) := ro.mod m3 (fun c u v => by have := (hbl2.1 c u).1; omega) fun y hy c u v => by have := (hbl2.2 y hy c u).1; omega
      have oA3 : Owns A3 0 ty_int 1 sk ((kids.map Int.ofNat).map (Value.int .i64)) := (oA.ext e2).mod m3 fun c u v => by have := fA c u; omega
      unfold getE
      cases hok : getOK (u8i bb) t.width with
      | false =>
        refine br_t rfl ?_
        refine hnil A3 eA3 ?_
        unfold nodeFin
        rw [if_pos (.inl hok)]
      | true =>
        refine br_f rfl ?_
        refine RowT.ld (c := cSl) (i := 1) (x := sk) r3 rfl ?_
        refine br_mk (fun hc => ?_) (fun hc => ?_)
        · have hk0 : kids ≠ [] := fun u => by subst u; simp [hskn] at hc
          refine RowT.ld (c := cSl) (i := 2) (x := sr) r3 rfl ?_
          refine RowT.ld (c := cSl) (i := 1) (x := sk) r3 rfl ?_
          have hkp : 0 < kids.length := List.length_pos_iff.2 hk0
          rw [hskn, ro.n]
          have ew : IntKind.i64.wrap ((kids.length : Int) - 1) = ((kids.length - 1 : Nat) : Int) := by rw [wrap64 (by omega) (by omega)]; omega
          rw [ew]
          refine br_mk (fun hc2 => ?_) (fun hc2 => ?_)
          · have hne : ((getL (u8i bb) t.width).length : Int) ≠ ((kids.length - 1 : Nat) : Int) := by simpa using hc2
            refine hnil A3 eA3 ?_
            unfold nodeFin
            rw [if_pos (.inr ⟨hk0, by omega⟩)]
          · have heq : ((getL (u8i bb) t.width).length : Int) = ((kids.length - 1 : Nat) : Int) := by simpa using hc2
            exact ⟨sr, rs, rfl, fun _ => by omega, r3, oA3, roA3, nn, eA3⟩
        · have hk0 : kids = [] := List.eq_nil_of_length_eq_zero (by have : ¬ ((sk.n : Int) > 0) := by simpa using hc
                                                                    omega)
          exact ⟨sr, rs, rfl, fun u => absurd hk0 u, r3, oA3, roA3, nn, eA3⟩
    · rintro _ A3 ⟨sr, rs, hok, hkl2, r3, oA3, roA3, nn, eA3⟩
      obtain ⟨g1, g2, g3⟩ := getL_len hok
      have hfits := getL_fits hok
      rw [u8i_length] at g1
      have hs0 := sizeL_cases t.width
      have hlr : (getL (u8i bb) t.width).length ≤ 504 := by
        have hm1 : (getL (u8i bb) t.width).length * 1 ≤ (getL (u8i bb) t.width).length * (sizeL t.width).toNat := Nat.mul_le_mul_left _ (by omega)
        omega
      refine RowT.ldA (c := cAgg [cSl, cSl]) (x := (a, b)) (rp2.ext eA3) rfl rfl ?_
      refine RowT.ld (c := cSl) (i := 2) (x := sr) r3 rfl ?_
      have hzA := eA.size
      have rN : RowsN F' A3 sr (getL (u8i bb) t.width) := roA3.rowsN fun c hc => hF' c (by omega)
      refine tholds_ok (hs2.step (.ofExt eA3)) rN hfits (by omega) fun A4 e4 => ?_
      have eA4 := eA3.trans e4
      have fin1 : ∀ b1, (sp.holds (getL (u8i bb) t.width) = b1) → nodeFin t.width depth sp kids bb = if b1 = false ∨ (getL (u8i bb) t.width = [] ∧ 1 < depth) then none else some ⟨kids, getL (u8i bb) t.width⟩ := fun b1 hb1 => by
        unfold nodeFin
        rw [if_neg (by
          rintro (u | ⟨u1, u2⟩)
          · rw [hok] at u; cases u
          · exact u2 (hkl2 u1)), hb1]
      have good : ∀ A', Ext H2 A' → A' = A4 → nodeFin t.width depth sp kids bb = some ⟨kids, getL (u8i bb) t.width⟩ → K (some ⟨H2.size, 0, none⟩, 0) A' := fun A' eA' hA' hsome => by
        subst hA'
        refine hK1 _ hsome F' A' s' H2.size sk sr rs (p2.ext eA') (T2.trans (.ofExt eA')) I2 ⟨r3.ext e4, oA3.ext e4, ?_, nn, ⟨by omega, hF' _ (by omega)⟩, fun c u => ?_, fun c u => ?_, fun y hy c u => ?_⟩
        · exact ⟨(roA3.ext e4).out.base0, roA3.len, fun i y l q1 q2 => ((roA3.ext e4).row i y l q1 q2).base0, roA3.apart⟩
        · have := fA c u; exact ⟨by omega, hF' c (by omega)⟩
        · have := (roA3.block.1 c u).1; exact ⟨by omega, hF' c (by omega)⟩
        · have := (roA3.block.2 y hy c u).1; exact ⟨by omega, hF' c (by omega)⟩
      cases hb1 : sp.holds (getL (u8i bb) t.width) with
      | false =>
        refine br_t rfl ?_
        refine hnil A4 eA4 ?_
        rw [fin1 _ hb1, if_pos (.inl rfl)]
      | true =>
        refine br_f rfl ?_
        refine RowT.ld (c := cSl) (i := 2) (x := sr) (r3.ext e4) rfl ?_
        rw [roA3.n]
        refine br_mk (fun hc => ?_) (fun hc => ?_)
        · have h00 : ((getL (u8i bb) t.width).length : Int) = 0 := by simpa using hc
          have h0 : getL (u8i bb) t.width = [] := List.eq_nil_of_length_eq_zero (by omega)
          refine RowT.ld (c := cInt .i64) (i := 4) (x := t.depth) (ht2.ext eA4) rfl ?_
          rw [hd]
          refine br_mk (fun hc2 => ?_) (fun hc2 => ?_)
          · refine hnil A4 eA4 ?_
            rw [fin1 _ hb1, if_pos (.inr ⟨h0, by have : (depth : Int) > 1 := by simpa using hc2
                                                 omega⟩)]
          · refine good A4 eA4 rfl ?_
            rw [fin1 _ hb1, if_neg (by
              rintro (u | ⟨_, u⟩)
              · cases u
              · have : ¬ (depth : Int) > 1 := by simpa using hc2
                omega)]
        · refine good A4 eA4 rfl ?_
          rw [fin1 _ hb1, if_neg (by
            rintro (u | ⟨u, _⟩)
            · cases u
            · rw [u] at hc; simp at hc)]
end
end Go.Proofs.YtmdiinakfpgdjaaDoor

/-
  Trees: the least row that is not below: the walk.
-/
namespace Go.Proofs.YtmdiinakfpgdjaaDoor
open Go.MapKept

/-- What a search tells. -/
def FindK (K : Sl × Int → Heap → Prop) (base : Nat) (F : Nat → Prop) (H : Heap) : Option (Option (List Int)) → Prop
  | none => K (nilT, 280) H
  | some none => K (nilT, 0) H
  | some (some l) => ∀ sl, sl.a ≠ none → Owns H 0 ty_uint64 1 sl (l.map (Value.int .u64)) → (∀ b, ownB sl b → base ≤ b ∧ ¬ F b) → K (sl, 0) H

theorem goK_cost {f : Nat → Nat × Option (Option (List Int))} {i k : Nat} : (f i).1 ≤ (goK f i (k + 1)).1 := by
  unfold goK
  split
  · exact Nat.le_add_right _ _
  · exact Nat.le_refl _
theorem goK_next {f : Nat → Nat × Option (Option (List Int))} {i k : Nat} (h : (f i).2 = some none) : goK f i (k + 1) = ((f i).1 + (goK f (i + 1) k).1, (goK f (i + 1) k).2) := by
  conv => lhs; unfold goK
  rw [if_pos h]
theorem goK_stop {f : Nat → Nat × Option (Option (List Int))} {i k : Nat} (h : (f i).2 ≠ some none) : goK f i (k + 1) = f i := by
  unfold goK
  rw [if_neg h]

section
variable {k p dp : Nat} {t : Tr} {q : Nat} {I : Pl → St → Nat → Prop} {B C : Pl → Int → Prop} {x : St} {low : Sl} {ll : List Int} {strict : Bool}

theorem tcopy_ok {H3 : Heap} {F : Nat → Prop} {sr : Sl} {ls : List (List Int)} {nb : Nat} {page : Value} {sk : Value} {i W : Nat} {K : Sl × Int → Heap → Prop} (hr : RowsN F H3 sr ls) (hn : RowT H3 nb ty_tree_node #[page, sk, sr.v]) (ht : TreeB H3 k p t) (hw : t.width = (W : Int)) (hW : W ≤ 16)
    (hi : i < ls.length) (hc : (ls.getD i []).length ≤ 16)
    (hK : ∀ sl A, sl.a ≠ none → Owns A 0 ty_uint64 1 sl ((ls.getD i []).map (Value.int .u64)) → Ext H3 A → (∀ b, ownB sl b → H3.size ≤ b) → K (sl, 0) A) :
    ∃ G : Heap → Prop, G H3 ∧ optK (some (⟨k, 0, none⟩ : Addr)) fun a_2 => ld (cInt .i64) H3 (a_2.add 2) fun (x_3 : Int) => doT cSl Tryd.prog (Instr.makeSlice ty_sl_uint64 (.int .i64 (0 : Int)) (.int .i64 (IntKind.i64.wrap (x_3 + (1 : Int))))) H3 fun (sl : Sl) H4 => G H4 ∧ optK (some (⟨nb, 0, none⟩ : Addr)) fun a_3 => ldC cSl G (a_3.add 2) fun (x_4 : Sl) => optK x_4.a fun a_4 => (0 ≤ (i : Int) ∧ (i : Int) < (x_4.n : Int)) ∧ ldC cSl G (a_4.add ((i : Int).toNat * 1)) fun (x_5 : Sl) => doT cSl Tryd.prog (Builtin.append_ #[ty_sl_uint64, ty_sl_uint64] ty_sl_uint64 #[sl.v, x_5.v]) H4 fun (s : Sl) H5 => K (s, (0 : Int)) H5 := by
  refine ⟨fun D => Ext H3 D, .refl _ _, ?_⟩
  simp only [optK_eq]
  refine RowT.ld (c := cInt .i64) (i := 2) (x := t.width) ht rfl ?_
  rw [hw]
  have ew : IntKind.i64.wrap ((W : Int) + 1) = ((W + 1 : Nat) : Int) := succ64 W (by omega)
  rw [ew]
  refine elU64.make (base := 0) (by omega) (by omega) (by omega) (by omega) (Nat.zero_le _) ?_
  intro sl H4 n4 o4 e4 b4 nn4
  refine ⟨e4, ?_⟩
  refine RowT.ldC (c := cSl) (i := 2) (x := sr) (cs := fun _ => #[page, sk, sr.v]) (fun D hD => hn.ext hD) (fun _ _ => rfl) ?_
  obtain ⟨ad, r, q1, q2, q4, q5⟩ := hr.at' i hi
  refine optK_mk ad q1 ⟨⟨by omega, by rw [hr.len]; omega⟩, r, fun D hD => ?_, ?_⟩
  · simp only [Int.toNat_natCast, Nat.mul_one]
    exact hD.cell q2 id
  rw [← getDo hi] at q5
  have hr4 := (q5.ext e4)
  have hrl := q5.len
  refine elU64.append (base := 0) (s := sl) (x := r) (ws := (ls.getD i []).map (Value.int .u64)) o4 (by rw [List.length_map]; exact hrl.symm) hr4.reads (intsOne _ _) (by simp only [Int.toNat_zero] at n4; omega) (by simp only [Int.toNat_zero] at n4; omega) (Nat.zero_le _) ?_
  intro s' H6 n6 o6 m6 b6 nn6
  have e6 : Ext H3 H6 := ((Ext.mod (F := ownB sl) e4).trans m6).ext b4
  refine hK s' H6 (fun u => nn4 (nn6.1 u).1) (by simpa using o6) e6 fun c hc => ?_
  rcases b6 c hc with u | u
  · exact b4 c u
  · have := e4.size; omega

set_option maxHeartbeats 2000000 in
theorem tfind_ok {W depth : Nat} (S : Store t.name q I B C) (hw : t.width = (W : Int)) (hW : W ≤ 16) (hd : t.depth = (depth : Int)) : ∀ (above page : Nat) (sp : Span) (a b : Sl) (F : Nat → Prop) (H : Heap) (s : Pl) (m : Nat) (K : (Sl × Int) → Heap → Prop),
    I s x m → m + (x.find t.width depth ll strict above page sp).1 ≤ 30000000000 → above ≤ 1000000 → Gl H → TreeB H k p t → PoolAt F H p dp s → ¬ F k → page ≤ 1000000000000 → SpanAt F H a b sp → Ints .u64 H low ll → OffI F H low ll →
    (∀ F' H' s', PoolAt F' H' p dp s' → Step F F' H H' → I s' x (m + (x.find t.width depth ll strict above page sp).1) → FindK K H.size F' H' (x.find t.width depth ll strict above page sp).2) →
    (∀ F' H' s' e, PoolAt F' H' p dp s' → Step F F' H H' → C s' e → K (nilT, e) H') → tree_Tree_find.sp (at0 k) (page : Int) (above : Int) a b low strict H K := by
  intro above
  induction above with
  | zero =>
    intro page sp a b F H s m K hI hm _ hg ht hp hk hpg hs hl hlo hK1 hK3
    refine tree_Tree_find.of ?_
    unfold tree_Tree_find.vc
    have hT := (S.pre hI).2.2.2.2.2
    refine newC_rowT fun H1 z1 r1 e1 => ?_
    have hkl := obj_lt ht
    have T1 : Step F F H H1 := .ofExt e1
    refine RowT.ldA (c := cAgg [cSl, cSl]) (x := (a, b)) r1 rfl rfl ?_
    unfold St.find at hm hK1
    have hm1 : m < 30000000000 := by
      cases hn : x.node t.width depth 0 page sp <;> rw [hn] at hm <;> simp only at hm <;> omega
    refine tnode_ok (above := 0) S hI hm1 (hg.mod e1 id) (ht.ext e1) (hp.ext e1) hk hpg (hs.step T1) hd (fun n hn F' H2 s' nb sk sr rs p2 S2 I2 o2 => ?_) (fun hn F' H2 s' p2 S2 I2 => ?_) (fun F' H2 s' e p2 S2 hC => ?_)
    rotate_left
    · refine br_t rfl ?_
      rw [hn] at hK1
      exact hK1 F' H2 s' p2 (T1.trans S2) I2
    · obtain ⟨c1, c2⟩ := S.errC hC
      refine br_t (by simpa using c1) ?_
      exact hK3 F' H2 s' e p2 (T1.trans S2) hC
    refine br_f rfl ?_
    refine br_t rfl ?_
    rw [hn] at hK1
    have T2 := T1.trans S2
    have nr := o2.read
    have ok := node_ok hT hn
    have hlen := ok.size
    have hcols : ∀ l ∈ n.rows, l.length ≤ 16 := fun l hl2 => by rw [ok.cols l hl2, hw]; simpa using hW
    have t2 : TreeB H2 k p t := (ht.ext e1).mod S2.mod hk
    unfold at0
    simp only [optK_eq]
    refine RowT.ld (c := cSl) (i := 2) (x := sr) nr.row rfl ?_
    have hl2 : Ints .u64 H2 low ll := hlo.ints hl T2
    refine tbin_ok nr.rows hl2 (holds_rises ok.holds) hcols (by omega) ?_
    have hK2 := hK1 F' H2 s' p2 T2 I2
    have hble := below_leT ll n.rows
    have hln := nr.rows.len
    have good : ∀ i : Nat, below ll n.rows + (if sameAt n.rows ll && strict then 1 else 0) = i → br ((i : Int) == (sr.n : Int)) (K (nilT, (0 : Int)) H2) (∃ G : Heap → Prop, G H2 ∧ optK (some (⟨k, 0, none⟩ : Addr)) fun a_2 => ld (cInt .i64) H2 (a_2.add 2) fun (x_3 : Int) => doT cSl Tryd.prog (Instr.makeSlice ty_sl_uint64 (.int .i64 (0 : Int)) (.int .i64 (IntKind.i64.wrap (x_3 + (1 : Int))))) H2 fun (sl : Sl) H4 => G H4 ∧ optK (some (⟨nb, 0, none⟩ : Addr)) fun a_3 => ldC cSl G (a_3.add 2) fun (x_4 : Sl) => optK x_4.a fun a_4 => (0 ≤ (i : Int) ∧ (i : Int) < (x_4.n : Int)) ∧ ldC cSl G (a_4.add ((i : Int).toNat * 1)) fun (x_5 : Sl) => doT cSl Tryd.prog (Builtin.append_ #[ty_sl_uint64, ty_sl_uint64] ty_sl_uint64 #[sl.v, x_5.v]) H4 fun (s : Sl) H5 => K (s, (0 : Int)) H5) := by
      intro i hi
      have hile : i ≤ n.rows.length := by
        cases hsa : sameAt n.rows ll with
        | false => rw [hsa] at hi; simp at hi; omega
        | true =>
          have := (sameAt_iff.1 hsa).1
          split at hi <;> omega
      have hleaf : leafAt n.rows ll strict = n.rows[i]? := by unfold leafAt; rw [hi]
      simp only at hK1 hK2
      rw [hleaf] at hK1 hK2
      refine br_mk (fun hc => ?_) (fun hc => ?_)
      · have e0 : i = n.rows.length := by have : (i : Int) = (sr.n : Int) := by simpa using hc
                                          omega
        rw [e0, List.getElem?_eq_none (Nat.le_refl _)] at hK2
        exact hK2
      · have e0 : i < n.rows.length := by have : ¬ (i : Int) = (sr.n : Int) := by simpa using hc
                                          omega
        rw [List.getElem?_eq_getElem e0] at hK1
        refine tcopy_ok nr.rows nr.row t2 hw hW e0 (by rw [getDo e0]; exact hcols _ (List.getElem_mem _)) fun sl A nn o e bb => ?_
        refine hK1 F' A s' (p2.ext e) (T2.trans (.ofExt e)) I2 sl nn (by rw [← getDo e0]; exact o) fun c hc => ?_
        have := bb c hc
        have hz1 := T2.mod.size
        exact ⟨by omega, fun u => by have := p2.lt c u; omega⟩
    refine br_mk (fun hc => ?_) (fun hc => ?_)
    · have hsa : sameAt n.rows ll = true := by simp only [Bool.and_eq_true] at hc; exact hc.1
      have hst : strict = true := by simp only [Bool.and_eq_true] at hc; exact hc.2
      have hbl := (sameAt_iff.1 hsa).1
      refine RowT.ld (c := cSl) (i := 2) (x := sr) nr.row rfl ?_
      simp only
      rw [succ64 _ (by omega)]
      exact good (below ll n.rows + 1) (by rw [hsa, hst]; rfl)
    · refine RowT.ld (c := cSl) (i := 2) (x := sr) nr.row rfl ?_
      exact good (below ll n.rows) (by rw [hc]; rfl)
  | succ above ih =>
    intro page sp a b F H s m K hI hm hab hg ht hp hk hpg hs hl hlo hK1 hK3
    refine tree_Tree_find.of ?_
    unfold tree_Tree_find.vc
    have hT := (S.pre hI).2.2.2.2.2
    refine newC_rowT fun H1 z1 r1 e1 => ?_
    have hkl := obj_lt ht
    have T1 : Step F F H H1 := .ofExt e1
    refine RowT.ldA (c := cAgg [cSl, cSl]) (x := (a, b)) r1 rfl rfl ?_
    unfold St.find at hm hK1
    have hm1 : m < 30000000000 := by
      cases hn : x.node t.width depth (above + 1) page sp <;> rw [hn] at hm <;> simp only at hm <;> omega
    refine tnode_ok (above := above + 1) S hI hm1 (hg.mod e1 id) (ht.ext e1) (hp.ext e1) hk hpg (hs.step T1) hd (fun n hn F' H2 s' nb sk sr rs p2 S2 I2 o2 => ?_) (fun hn F' H2 s' p2 S2 I2 => ?_) (fun F' H2 s' e p2 S2 hC => ?_)
    rotate_left
    · refine br_t rfl ?_
      rw [hn] at hK1
      exact hK1 F' H2 s' p2 (T1.trans S2) I2
    · obtain ⟨c1, c2⟩ := S.errC hC
      refine br_t (by simpa using c1) ?_
      exact hK3 F' H2 s' e p2 (T1.trans S2) hC
    refine br_f rfl ?_
    refine br_f (by simp only [beq_eq_false_iff_ne, ne_eq]; omega) ?_
    rw [hn] at hK1 hm
    simp only at hK1 hm
    have T2 := T1.trans S2
    have nr := o2.read
    have ok := node_ok hT hn
    have hlen := ok.size
    obtain ⟨i1, i2, i3⟩ := ok.inner (Nat.succ_pos _)
    have hcols : ∀ l ∈ n.rows, l.length ≤ 16 := fun l hl2 => by rw [ok.cols l hl2, hw]; simpa using hW
    have t2 : TreeB H2 k p t := (ht.ext e1).mod S2.mod hk
    unfold at0
    simp only [optK_eq]
    have hl2 : Ints .u64 H2 low ll := hlo.ints hl T2
    refine tchild_ok nr hl2 (holds_rises ok.holds) hcols (by omega) ?_
    have hcl := child_le (n := n) (l := ll)
    have hs2 : SpanAt F' H2 a b sp := hs.step T2
    have rp2 : RowT H2 H.size ty_tree_span #[a.v, b.v] := r1.mod S2.mod fun u => by have := hp.lt _ u; omega
    have hnp : ¬ F' H.size := fun u => (S2.own _ u).elim (fun v => by have := hp.lt _ v; omega) fun v => by omega
    have hkF : ¬ F' k := fun u => (T2.own _ u).elim hk fun v => by omega
    have hg2 : Gl H2 := hg.mod T2.mod hp.glob
    have hlo2 : OffI F' H2 low ll := hlo.step T2
    generalize hc0 : n.child ll = c0 at *
    obtain ⟨g, hgdef⟩ : ∃ g, g = fun i => x.find t.width depth ll strict above (n.kids.getD i 0) (sp.of n i) := ⟨_, rfl⟩
    rw [← hgdef] at hK1 hm
    obtain ⟨N, hN⟩ : ∃ N, n.kids.length = c0 + N := ⟨n.kids.length - c0, by omega⟩
    have hsub : n.kids.length - c0 = N := by omega
    rw [hsub] at hK1 hm
    refine loop_upto N (fun j z A => z = ((c0 + j : Nat) : Int) ∧ j ≤ N ∧ ∃ F1 s1 cost, PoolAt F1 A p dp s1 ∧ Step F' F1 H2 A ∧ I s1 x (m + 1 + cost) ∧ goK g c0 N = (cost + (goK g (c0 + j) (N - j)).1, (goK g (c0 + j) (N - j)).2)) ⟨rfl, Nat.zero_le _, F', s', 0, p2, .refl _ _, I2, by simp⟩ ?_
    rintro j z A next hj ⟨rfl, _, F1, s1, cost, pA, SA, IA, hgo⟩ hnext
    have nA := nr.step SA
    refine RowT.ld (c := cSl) (i := 1) (x := sk) nA.row rfl ?_
    have hkn : sk.n = c0 + N := by have := nA.kids.len; simp at this; omega
    refine br_mk (fun hc => ?_) (fun hc => ?_)
    · have hlt : j < N := by have : ((c0 + j : Nat) : Int) < (sk.n : Int) := by simpa using hc
                             omega
      refine ⟨fun D => Ext A D, .refl _ _, ?_⟩
      refine RowT.ldC (c := cSl) (i := 1) (x := sk) (cs := fun _ => #[.int .i64 (page : Int), sk.v, sr.v]) (fun D hD => nA.row.ext hD) (fun _ _ => rfl) ?_
      obtain ⟨ad, q1, q2⟩ := nA.kids.at (i := c0 + j) (by simp; omega)
      have hkid : (List.map Int.ofNat n.kids)[c0 + j]'(by simp; omega) = ((n.kids.getD (c0 + j) 0 : Nat) : Int) := by
        simp [List.getD, List.getElem?_eq_getElem (show c0 + j < n.kids.length by omega)]
      rw [hkid] at q2
      refine optK_mk ad q1 ⟨⟨by omega, by omega⟩, ((n.kids.getD (c0 + j) 0 : Nat) : Int), fun D hD => ?_, ?_⟩
      · simp only [Int.toNat_natCast, Nat.mul_one]
        exact hD.cell q2 id
      refine RowT.ldA (c := cAgg [cSl, cSl]) (x := (a, b)) (rp2.mod SA.mod hnp) rfl rfl ?_
      refine tof_ok (hs2.step SA) nA (o2.step SA).nnAt (by omega) (by omega) fun u v A2 e2 s2 => ?_
      refine ⟨e2, ?_⟩
      have eab : IntKind.i64.wrap (((above + 1 : Nat) : Int) - 1) = (above : Int) := by rw [wrap64 (by omega) (by omega)]; omega
      rw [eab]
      obtain ⟨M, hM⟩ : ∃ M, N - j = M + 1 := ⟨N - j - 1, by omega⟩
      have hM2 : N - (j + 1) = M := by omega
      rw [hM] at hgo
      have hcost := goK_cost (f := g) (i := c0 + j) (k := M)
      have hgj : g (c0 + j) = x.find t.width depth ll strict above (n.kids.getD (c0 + j) 0) (sp.of n (c0 + j)) := by rw [hgdef]
      have htot : (goK g c0 N).1 = cost + (goK g (c0 + j) (M + 1)).1 := by rw [hgo]
      have TA := T2.trans SA
      have TA2 : Step F F1 H A2 := TA.trans (.ofExt e2)
      have S2A : Step F' F1 H2 A2 := SA.trans (.ofExt e2)
      have hz2 := S2A.mod.size
      have hz1 := T2.mod.size
      refine ih (n.kids.getD (c0 + j) 0) (sp.of n (c0 + j)) u v F1 A2 s1 (m + 1 + cost) _ IA (by rw [← hgj]; omega) (by omega) (hg2.mod S2A.mod p2.glob) (t2.mod S2A.mod hkF) (pA.ext e2) (fun w => (S2A.own _ w).elim hkF fun w => by omega) ?_ s2 (hlo2.ints hl2 S2A) (hlo2.step S2A) (fun F3 A3 s3 p3 S3 I3 => ?_) (fun F3 A3 s3 e p3 S3 hC => ?_)
      · have : n.kids.getD (c0 + j) 0 < 4294967296 := by
          have hlt2 : c0 + j < n.kids.length := by omega
          simp only [List.getD, List.getElem?_eq_getElem hlt2, Option.getD_some]
          exact ok.kids _ (List.getElem_mem hlt2)
        omega
      · rw [← hgj] at I3 ⊢
        have T3 := TA2.trans S3
        cases hr : (g (c0 + j)).2 with
        | none =>
          unfold FindK
          dsimp only
          refine br_t rfl ?_
          have e5 := goK_stop (f := g) (i := c0 + j) (k := M) (by rw [hr]; simp)
          rw [e5] at hgo htot
          have := hK1 F3 A3 s3 p3 T3 (by rw [hgo]; simp only; have e6 : m + (1 + (cost + (g (c0 + j)).1)) = m + 1 + cost + (g (c0 + j)).1 := by omega
                                         rw [e6]; exact I3)
          rw [hgo, hr] at this
          exact this
        | some o =>
          cases o with
          | none =>
            unfold FindK
            dsimp only
            refine br_f rfl ?_
            rw [goK_next hr] at hgo
            refine hnext hlt _ _ ⟨succ64 _ (by omega), by omega, F3, s3, cost + (g (c0 + j)).1, p3, S2A.trans S3, ?_, ?_⟩
            · have e6 : m + 1 + (cost + (g (c0 + j)).1) = m + 1 + cost + (g (c0 + j)).1 := by omega
              rw [e6]; exact I3
            · rw [hgo, hM2]
              simp only [Nat.add_assoc]
          | some l =>
            unfold FindK
            intro sl nn o5 f5
            dsimp only
            refine br_t (by cases q9 : sl.a with | none => exact absurd q9 nn | some _ => rfl) ?_
            have e5 := goK_stop (f := g) (i := c0 + j) (k := M) (by rw [hr]; simp)
            rw [e5] at hgo htot
            have := hK1 F3 A3 s3 p3 T3 (by rw [hgo]; simp only; have e6 : m + (1 + (cost + (g (c0 + j)).1)) = m + 1 + cost + (g (c0 + j)).1 := by omega
                                           rw [e6]; exact I3)
            rw [hgo, hr] at this
            exact this sl nn o5 fun c hc5 => ⟨by have := (f5 c hc5).1; omega, (f5 c hc5).2⟩
      · refine br_t (by have := (S.errC hC).1; simp [nilT, this]) ?_
        exact hK3 F3 A3 s3 e p3 (TA2.trans S3) hC
    · have hge : j = N := by have : ¬ ((c0 + j : Nat) : Int) < (sk.n : Int) := by simpa using hc
                             omega
      subst hge
      have e5 : goK g (c0 + j) (j - j) = (0, some none) := by rw [Nat.sub_self]; unfold goK; rfl
      rw [e5] at hgo
      have := hK1 F1 A s1 pA (T2.trans SA) (by rw [hgo]; simp only; have e6 : m + (1 + (cost + 0)) = m + 1 + cost := by omega
                                               rw [e6]; exact IA)
      rw [hgo] at this
      exact this
end
end Go.Proofs.YtmdiinakfpgdjaaDoor

/-
  Trees: a node's bytes are read again as the node; sizes.
-/
namespace Go.Proofs.YtmdiinakfpgdjaaDoor

theorem be4_length (n : Nat) : (be4 n).length = 4 := rfl
theorem of4_be4 {n : Nat} (h : n < 4294967296) (r : List UInt8) : of4 (be4 n ++ r) = n := by
  have e : ∀ k : Nat, (UInt8.ofNat k).toNat = k % 256 := fun k => UInt8.toNat_ofNat'
  show (((UInt8.ofNat (n / 16777216)).toNat * 256 + (UInt8.ofNat (n / 65536)).toNat) * 256 + (UInt8.ofNat (n / 256)).toNat) * 256 + (UInt8.ofNat n).toNat = n
  rw [e, e, e, e]
  omega
theorem flat4_length : ∀ (l : List Nat), (l.flatMap be4).length = 4 * l.length
  | [] => rfl
  | a :: l => by rw [List.flatMap_cons, List.length_append, be4_length, flat4_length l]; simp; omega
theorem of4_flat {r : List UInt8} : ∀ {l : List Nat} {i : Nat}, (∀ k ∈ l, k < 4294967296) → i < l.length → of4 ((l.flatMap be4 ++ r).drop (4 * i)) = l.getD i 0
  | [], i, _, h => by simp at h
  | a :: l, 0, h, _ => by
    rw [List.flatMap_cons, List.append_assoc]
    exact of4_be4 (h a List.mem_cons_self) _
  | a :: l, i + 1, h, hi => by
    have e : 4 * (i + 1) = (be4 a).length + 4 * i := by rw [be4_length]; omega
    rw [List.flatMap_cons, List.append_assoc, e, ← List.drop_drop, List.drop_left]
    exact of4_flat (fun k hk => h k (List.mem_cons_of_mem _ hk)) (by simpa using hi)
theorem u8i_append (a b : List UInt8) : u8i (a ++ b) = u8i a ++ u8i b := by simp [u8i]
def rowsY (ls : List (List Int)) : List UInt8 := ls.flatMap fun l => bytesI (putL l)
theorem u8i_rowsY : ∀ (ls : List (List Int)), u8i (rowsY ls) = ls.flatMap putL
  | [] => rfl
  | a :: ls => by
    unfold rowsY
    rw [List.flatMap_cons, u8i_append, u8i_bytesI (putL_range a), List.flatMap_cons]
    exact congrArg _ (u8i_rowsY ls)
theorem putL_len8 {l : List Int} {W : Nat} (hl : l.length = W) (hW : W ≤ 16) : (putL l).length = (sizeL W).toNat := (put_len hl hW).1
theorem rowsY_length {W : Nat} (hW : W ≤ 16) : ∀ {ls : List (List Int)}, (∀ l ∈ ls, l.length = W) → (rowsY ls).length = ls.length * (sizeL W).toNat
  | [], _ => by simp [rowsY]
  | a :: ls, h => by
    have ih := rowsY_length hW (ls := ls) fun l hl => h l (List.mem_cons_of_mem _ hl)
    have e : rowsY (a :: ls) = bytesI (putL a) ++ rowsY ls := by unfold rowsY; rw [List.flatMap_cons]
    rw [e, List.length_append, bytesI_length, putL_len8 (h a List.mem_cons_self) hW, ih, List.length_cons, Nat.add_mul]
    omega
theorem sizeL_nat {W : Nat} (hW : W ≤ 16) : sizeL (W : Int) ≠ 0 ∧ (sizeL (W : Int)).toNat = (if W = 0 then 1 else 8 * W) := by
  unfold sizeL
  rw [if_neg (by omega)]
  by_cases h : W = 0
  · subst h; exact ⟨by decide, rfl⟩
  · rw [if_neg (by omega), if_neg h]; omega
theorem fan_room {W : Nat} (hW : W ≤ 16) :
    (∀ k : Nat, ¬ ((k : Int) > fanL W) ↔ 2 + 4 * k + (k - 1) * (sizeL W).toNat ≤ 504 ∨ k ≤ 1) ∧ (∀ k : Nat, ¬ ((k : Int) > roomL W) ↔ k * (sizeL W).toNat ≤ 504) ∧ 3 ≤ roomL (W : Int) ∧ 4 ≤ fanL (W : Int) := by
  have h : ∀ W : Nat, W ≤ 16 → W = 0 ∨ W = 1 ∨ W = 2 ∨ W = 3 ∨ W = 4 ∨ W = 5 ∨ W = 6 ∨ W = 7 ∨ W = 8 ∨ W = 9 ∨ W = 10 ∨ W = 11 ∨ W = 12 ∨ W = 13 ∨ W = 14 ∨ W = 15 ∨ W = 16 := by omega
  have key : ∀ (s f r : Nat), sizeL (W : Int) = s → fanL (W : Int) = f → roomL (W : Int) = r → (∀ k : Nat, ¬ (k > f) ↔ 2 + 4 * k + (k - 1) * s ≤ 504 ∨ k ≤ 1) → (∀ k : Nat, ¬ (k > r) ↔ k * s ≤ 504) → 3 ≤ r → 4 ≤ f →
      (∀ k : Nat, ¬ ((k : Int) > fanL W) ↔ 2 + 4 * k + (k - 1) * (sizeL W).toNat ≤ 504 ∨ k ≤ 1) ∧ (∀ k : Nat, ¬ ((k : Int) > roomL W) ↔ k * (sizeL W).toNat ≤ 504) ∧ 3 ≤ roomL (W : Int) ∧ 4 ≤ fanL (W : Int) := by
    intro s f r h1 h2 h3 h4 h5 h6 h7
    rw [h1, h2, h3]
    refine ⟨fun k => ?_, fun k => ?_, by omega, by omega⟩
    · rw [Int.toNat_natCast, ← h4 k]; omega
    · rw [Int.toNat_natCast, ← h5 k]; omega
  rcases h W hW with e | e | e | e | e | e | e | e | e | e | e | e | e | e | e | e | e <;> subst e
  · exact key 1 100 504 (by decide) (by decide) (by decide) (by omega) (by omega) (by decide) (by decide)
  · exact key 8 42 63 (by decide) (by decide) (by decide) (by omega) (by omega) (by decide) (by decide)
  · exact key 16 25 31 (by decide) (by decide) (by decide) (by omega) (by omega) (by decide) (by decide)
  · exact key 24 18 21 (by decide) (by decide) (by decide) (by omega) (by omega) (by decide) (by decide)
  · exact key 32 14 15 (by decide) (by decide) (by decide) (by omega) (by omega) (by decide) (by decide)
  · exact key 40 12 12 (by decide) (by decide) (by decide) (by omega) (by omega) (by decide) (by decide)
  · exact key 48 10 10 (by decide) (by decide) (by decide) (by omega) (by omega) (by decide) (by decide)
  · exact key 56 9 9 (by decide) (by decide) (by decide) (by omega) (by omega) (by decide) (by decide)
  · exact key 64 8 7 (by decide) (by decide) (by decide) (by omega) (by omega) (by decide) (by decide)
  · exact key 72 7 7 (by decide) (by decide) (by decide) (by omega) (by omega) (by decide) (by decide)
  · exact key 80 6 6 (by decide) (by decide) (by decide) (by omega) (by omega) (by decide) (by decide)
  · exact key 88 6 5 (by decide) (by decide) (by decide) (by omega) (by omega) (by decide) (by decide)
  · exact key 96 5 5 (by decide) (by decide) (by decide) (by omega) (by omega) (by decide) (by decide)
  · exact key 104 5 4 (by decide) (by decide) (by decide) (by omega) (by omega) (by decide) (by decide)
  · exact key 112 5 4 (by decide) (by decide) (by decide) (by omega) (by omega) (by decide) (by decide)
  · exact key 120 5 4 (by decide) (by decide) (by decide) (by omega) (by omega) (by decide) (by decide)
  · exact key 128 4 3 (by decide) (by decide) (by decide) (by omega) (by omega) (by decide) (by decide)
theorem Nd.bytes_length {n : Nd} {W : Nat} (hW : W ≤ 16) (h : ∀ l ∈ n.rows, l.length = W) : n.bytes.length = (2 + 4 * n.kids.length) * (if n.kids = [] then 0 else 1) + n.rows.length * (sizeL (W : Int)).toNat := by
  have hr := rowsY_length hW h
  unfold Nd.bytes
  rw [List.length_append]
  change _ + (rowsY n.rows).length = _
  rw [hr]
  by_cases hk : n.kids = []
  · rw [if_pos hk, if_pos hk]; simp
  · rw [if_neg hk, if_neg hk, List.length_cons, List.length_cons, flat4_length]; omega

/-- A node that may be written. -/
structure Nd.Fine (n : Nd) (W depth above : Nat) (s : Span) : Prop where
  leaf : above = 0 → n.kids = []
  inner : 0 < above → n.kids.length = n.rows.length + 1 ∧ 1 ≤ n.rows.length
  holds : s.holds n.rows = true
  some_ : 1 < depth → n.rows ≠ []
  cols : ∀ l ∈ n.rows, l.length = W ∧ fitsL l
  kids : ∀ k ∈ n.kids, k < 4294967296
  fit : n.bytes.length ≤ 504
theorem Nd.Fine.read {n : Nd} {W depth above : Nat} {s : Span} (hW : W ≤ 16) (h : n.Fine W depth above s) : nodeOf W depth above s n.page = some n := by
  obtain ⟨ks, rs⟩ := n
  obtain ⟨r1, r2⟩ := read_again hW (fun l hl => (h.cols l hl).1) fun l hl => (h.cols l hl).2
  have hok : getOK (rs.flatMap putL) W = true := by
    unfold getE at r2
    cases hq : getOK (rs.flatMap putL) W with
    | true => rfl
    | false => rw [hq] at r2; simp at r2
  have fin : ∀ kids, (kids ≠ [] → rs.length + 1 = kids.length) → nodeFin W depth s kids (rowsY rs) = some ⟨kids, rs⟩ := by
    intro kids hk
    unfold nodeFin
    rw [u8i_rowsY, r1, hok]
    rw [if_neg (by
      rintro (q | ⟨q1, q2⟩)
      · cases q
      · exact q2 (hk q1))]
    rw [if_neg (by
      rintro (q | ⟨q1, q2⟩)
      · rw [h.holds] at q; cases q
      · exact h.some_ q2 q1)]
  unfold Nd.page Nd.bytes
  by_cases hk : ks = []
  · subst hk
    have ha : above = 0 := by
      rcases Nat.eq_zero_or_pos above with q | q
      · exact q
      · have := (h.inner q).1; simp at this
    simp only [if_pos]
    unfold nodeOf
    rw [if_pos ⟨rfl, ha⟩]
    exact fin [] (fun q => absurd rfl q)
  · have ha : 0 < above := by
      rcases Nat.eq_zero_or_pos above with q | q
      · exact absurd (h.leaf q) hk
      · exact q
    obtain ⟨i1, i2⟩ := h.inner ha
    simp only at i1 i2
    have hfit := h.fit
    rw [Nd.bytes_length hW fun l hl => (h.cols l hl).1, if_neg hk] at hfit
    simp only at hfit
    have hb : num2 (UInt8.ofNat (ks.length / 256) :: UInt8.ofNat ks.length :: ks.flatMap be4 ++ rowsY rs) = ks.length := by
      have e : ∀ k : Nat, (UInt8.ofNat k).toNat = k % 256 := fun k => UInt8.toNat_ofNat'
      show (UInt8.ofNat (ks.length / 256)).toNat * 256 + (UInt8.ofNat ks.length).toNat = _
      rw [e, e]; omega
    have hl : (UInt8.ofNat (ks.length / 256) :: UInt8.ofNat ks.length :: ks.flatMap be4 ++ rowsY rs).length = 2 + 4 * ks.length + (rowsY rs).length := by
      rw [List.length_append, List.length_cons, List.length_cons, flat4_length]; omega
    have hd : (UInt8.ofNat (ks.length / 256) :: UInt8.ofNat ks.length :: ks.flatMap be4 ++ rowsY rs).drop (2 + 4 * ks.length) = rowsY rs := by
      rw [← List.drop_drop]
      show ((ks.flatMap be4 ++ rowsY rs).drop (4 * ks.length)) = _
      rw [← flat4_length, List.drop_left]
    have hks : kidsOf (UInt8.ofNat (ks.length / 256) :: UInt8.ofNat ks.length :: ks.flatMap be4 ++ rowsY rs) ks.length = ks := by
      unfold kidsOf
      apply List.ext_getElem
      · simp
      · intro i h1 h2
        rw [List.getElem_map, List.getElem_range, ← List.drop_drop]
        show of4 ((ks.flatMap be4 ++ rowsY rs).drop (4 * i)) = _
        rw [of4_flat h.kids h2, List.getD, List.getElem?_eq_getElem h2]; rfl
    simp only [if_neg hk]
    change nodeOf W depth above s (4, UInt8.ofNat (ks.length / 256) :: UInt8.ofNat ks.length :: ks.flatMap be4 ++ rowsY rs) = _
    unfold nodeOf
    simp only
    rw [if_neg (by rintro ⟨q, _⟩; revert q; decide), if_pos ⟨by first | rfl | trivial, ha, by rw [hl]; omega⟩, hb, if_neg (by rw [hl]; omega), hd, hks]
    exact fin ks (fun _ => i1.symm)
end Go.Proofs.YtmdiinakfpgdjaaDoor

/-
  Trees: a node is written: the walk.
-/
namespace Go.Proofs.YtmdiinakfpgdjaaDoor
open Go.MapKept

theorem Owns.emptyB {H : Heap} {t : TypeId} {K : Addr → Heap → Prop} (hK : ∀ H', Owns H' 0 t 1 ⟨some ⟨H.size, 0, none⟩, 0, 0⟩ [] → Ext H H' → K ⟨H.size, 0, none⟩ H') : newC H #[] t K :=
  hK _ (Owns.fresh (Nat.zero_le _) (Nat.le_refl _) (by unfold maxLen; omega) rfl rfl rfl) (Mod.push _ _ _)
def Nd.pre (n : Nd) : List UInt8 := if n.kids = [] then [] else UInt8.ofNat (n.kids.length / 256) :: UInt8.ofNat n.kids.length :: n.kids.flatMap be4
theorem Nd.bytes_pre (n : Nd) : n.bytes = n.pre ++ rowsY n.rows := rfl

/-- More bytes. -/
theorem appB {H : Heap} {s x : Sl} {bb cc : List UInt8} {K : Sl → Heap → Prop} (h : Owns H 0 ty_uint8 1 s ((u8i bb).map (Value.int .u8))) (hx : Byts H x cc) (hb : bb.length + cc.length ≤ 1000000)
    (hK : ∀ (s' : Sl) (H' : Heap), Owns H' 0 ty_uint8 1 s' ((u8i (bb ++ cc)).map (Value.int .u8)) → Mod (ownB s) H H' → (∀ b, ownB s' b → ownB s b ∨ H.size ≤ b) → K s' H') :
    doT cSl Tryd.prog (Builtin.append_ #[ty_sl_uint8, ty_sl_uint8] ty_sl_uint8 #[s.v, x.v]) H K := by
  have hsn := h.1
  simp only [Nat.mul_one, List.length_map, u8i_length] at hsn
  have hxn := hx.n
  refine elU8.append (base := 0) (s := s) (x := x) (ws := (u8i cc).map (Value.int .u8)) h (by simp; omega) hx.reads (intsOne _ _) (by omega) (by omega) (Nat.zero_le _) ?_
  intro s' H' n1 o1 m1 b1 _
  refine hK s' H' ?_ m1 b1
  rw [u8i_append, List.map_append]; exact o1

section
variable {H : Heap} {k p dp : Nat} {t : Tr} {F : Nat → Prop} {s : Pl} {q : Nat} {I : Pl → St → Nat → Prop} {B C : Pl → Int → Prop} {x : St} {m : Nat} {nb : Nat} {page : Int} {sk sr : Sl} {n : Nd}

set_option maxHeartbeats 2000000 in
/-- A node is written: what its page was makes no difference but where. -/
theorem twrite_raw {K : Int → Heap → Prop} (hg : Gl H) (h : TreeB H k p t) (hp : PoolAt F H p dp s) (hk : ¬ F k) (hkn : k ≠ nb) (hn : NodeR F H nb page sk sr n) (hfit : n.bytes.length ≤ 504) (hkl : n.kids.length ≤ 504) (hrl : n.rows.length ≤ 504) (hcols : ∀ l ∈ n.rows, l.length ≤ 16)
    (hpg : page = -1 ∨ (0 ≤ page ∧ page ≤ 1000000000000))
    (hnm : t.name.size ≤ 9223372036854775807) (hlogs : s.d.logs < 68719470000) (hnx : s.next < 1099511627776) (h0 : 0 ≤ s.next) (hft : s.Fit)
    (hK1 : page = -1 → ∀ F' H', PoolAt F' H' p dp (s.more t.name n.page.1 n.page.2).1 → Step (fun b => F b ∨ b = nb) (fun b => F' b ∨ b = nb) H H' → NodeR F' H' nb (s.fresh t.name).2.2.1 sk sr n → K (s.more t.name n.page.1 n.page.2).2 H')
    (hK2 : page ≠ -1 → ∀ F' H', PoolAt F' H' p dp (s.over t.name page n.page.1 n.page.2).1 → Step (fun b => F b ∨ b = nb) (fun b => F' b ∨ b = nb) H H' → NodeR F' H' nb page sk sr n → K (s.over t.name page n.page.1 n.page.2).2 H') : tree_Tree_write.sp (at0 k) (at0 nb) H K := by
  refine tree_Tree_write.of ?_
  unfold tree_Tree_write.vc
  have hkl0 := obj_lt h
  refine ⟨fun z A => ∃ F1 s1 pg, PoolAt F1 A p dp s1 ∧ NodeR F1 A nb pg sk sr n ∧ TreeB A k p t ∧ ¬ F1 k ∧ Gl A ∧ s1.next < 9223372036854775807 ∧ (z.2 ≠ 0 → K z.2 A) ∧
    (z.2 = 0 → ∀ F' H', PoolAt F' H' p dp (Pl.leave (s1.set z.1 n.page.1 n.page.2) z.1).1 → Step F1 F' A H' → NodeR F' H' nb pg sk sr n → K (Pl.leave (s1.set z.1 n.page.1 n.page.2) z.1).2 H'), ?_, ?_⟩
  · simp only [optK_eq, at0]
    refine RowT.ld (c := cInt .i64) (i := 0) (x := page) hn.row rfl ?_
    refine br_mk (fun hc => ?_) (fun hc => ?_)
    · have e0 : page = -1 := by have : page < 0 := by simpa using hc
                                omega
      refine RowT.ld (c := cPtr) (i := 0) (x := at0 p) h rfl ?_
      refine RowT.ld (c := cStr) (i := 1) (x := t.name) h rfl ?_
      refine Fresh_ok hg hp hnm (by omega) (by omega) hft fun F1 H1 p1 S1 => ?_
      have n1 := hn.step S1
      have hK1 := hK1 e0
      unfold Pl.more at hK1
      have hnx1 : (s.fresh t.name).1.next ≤ s.next + 1 := s.fresh_next h0 hnx
      generalize (s.fresh t.name).1 = s1 at *
      generalize (s.fresh t.name).2.1 = hd at *
      generalize (s.fresh t.name).2.2.1 = pg at *
      generalize (s.fresh t.name).2.2.2 = e at *
      refine RowT.st n1.row (i := 0) (by simp) rfl fun H2 r2 m2 z2 => ?_
      have hkF1 : ¬ F1 k := fun u => (S1.own _ u).elim hk fun u => by omega
      have mN : Step (fun b => F1 b ∨ b = nb) (fun b => F1 b ∨ b = nb) H1 H2 := ⟨m2.mono fun _ _ u => .inr u, fun _ u => .inl u⟩
      have n2 : NodeR F1 H2 nb pg sk sr n := ⟨r2, n1.off, n1.kidsO.ints n1.kids mN, n1.kidsO.step mN, n1.rows.step mN⟩
      have p2 : PoolAt F1 H2 p dp s1 := p1.keep fun b hb hl => m2.same b hl fun u => n1.off (u ▸ hb)
      have t2 : TreeB H2 k p t := (h.mod S1.mod hk).mod m2 hkn
      have g2 : Gl H2 := (hg.mod S1.mod hp.glob).keep (m2.same _ (hg.mod S1.mod hp.glob).lt fun u => by
        have q1 := n1.row
        have q2 := (hg.mod S1.mod hp.glob) 0 (by decide)
        rw [u] at q2
        have := hCell_of (o := 0) q1 (v := .int .i64 page) rfl
        rw [this] at q2; cases q2)
      have S2 : Step (fun b => F b ∨ b = nb) (fun b => F1 b ∨ b = nb) H H2 := (S1.with nb).trans mN
      refine ⟨F1, s1, pg, p2, n2, t2, hkF1, g2, by omega, fun he => ?_, fun he F' H' p3 S3 n3 => ?_⟩
      · have he : e ≠ 0 := he
        rw [if_pos he] at hK1
        exact hK1 F1 H2 p2 S2 n2
      · have he : ¬ e ≠ 0 := by simpa using he
        have hkd : n.page.1 ≠ 0 := by unfold Nd.page; simp only; split <;> decide
        rw [if_neg he, if_neg hkd] at hK1
        exact hK1 F' H' p3 (S2.trans (S3.with nb)) n3
    · have e0 : page ≠ -1 := fun u => by subst u; simp at hc
      have e1 : 0 ≤ page ∧ page ≤ 1000000000000 := hpg.resolve_left e0
      refine RowT.ld (c := cPtr) (i := 0) (x := at0 p) h rfl ?_
      refine RowT.ld (c := cStr) (i := 1) (x := t.name) h rfl ?_
      refine RowT.ld (c := cInt .i64) (i := 0) (x := page) hn.row rfl ?_
      refine Pin_ok hg hp hnm (by omega) (by omega) (by omega) (by omega) fun F1 H1 p1 S1 => ?_
      have n1 := hn.step S1
      have hK2 := hK2 e0
      unfold Pl.over at hK2
      have hnx1 : (s.pin t.name page).1.next ≤ s.next + 1 := s.pin_next h0 hnx
      generalize (s.pin t.name page).1 = s1 at *
      generalize (s.pin t.name page).2.1 = hd at *
      generalize (s.pin t.name page).2.2 = e at *
      have hkF1 : ¬ F1 k := fun u => (S1.own _ u).elim hk fun u => by omega
      refine ⟨F1, s1, page, p1, n1, h.mod S1.mod hk, hkF1, hg.mod S1.mod hp.glob, by omega, fun he => ?_, fun he F' H' p3 S3 n3 => ?_⟩
      · have he : e ≠ 0 := he
        rw [if_pos he] at hK2
        exact hK2 F1 H1 p1 (S1.with nb) n1
      · have he : ¬ e ≠ 0 := by simpa using he
        rw [if_neg he] at hK2
        exact hK2 F' H' p3 ((S1.with nb).trans (S3.with nb)) n3
  · rintro ⟨hd, e⟩ H1 ⟨F1, s1, pg, p1, n1, t1, hkF1, g1, hnx1, c1, c2⟩
    dsimp only at c1 c2 ⊢
    refine br_mk (fun hc => c1 (by simpa using hc)) (fun hc => ?_)
    have c2 := c2 (by simpa using hc)
    clear c1 hK1 hK2
    refine Owns.emptyB fun H5 o5 e5 => ?_
    have hkln : sk.n = n.kids.length := by have := n1.kids.len; simpa using this
    refine ⟨fun z A => z.1 = (n.page.1.toNat : Int) ∧ Owns A 0 ty_uint8 1 z.2 ((u8i n.pre).map (Value.int .u8)) ∧ Ext H1 A ∧ ∀ c, ownB z.2 c → H1.size ≤ c, ?_, ?_⟩
    · simp only [optK_eq, at0]
      refine RowT.ld (c := cSl) (i := 1) (x := sk) (n1.row.ext e5) rfl ?_
      have f5 : ∀ c, ownB (Sl.mk (some ⟨H1.size, 0, none⟩) 0 0) c → H1.size ≤ c := by
        rintro c ⟨ad, ha, rfl⟩
        cases ha; exact Nat.le_refl _
      refine br_mk (fun hc => ?_) (fun hc => ?_)
      · have hk0 : n.kids ≠ [] := fun u => by rw [u] at hkln; simp [hkln] at hc
        refine RowT.ld (c := cSl) (i := 1) (x := sk) (n1.row.ext e5) rfl ?_
        refine RowT.ld (c := cSl) (i := 1) (x := sk) (n1.row.ext e5) rfl ?_
        have e8 : ishr .i64 (sk.n : Int) 8 = ((n.kids.length / 256 : Nat) : Int) := by rw [hkln]; exact shrT _ 8 (by decide)
        rw [e8, hkln, wrap8, wrap8]
        have ev : #[Value.int .u8 ((UInt8.ofNat (n.kids.length / 256)).toNat : Int), Value.int .u8 ((UInt8.ofNat n.kids.length).toNat : Int)] = ((u8i [UInt8.ofNat (n.kids.length / 256), UInt8.ofNat n.kids.length]).map (Value.int .u8)).toArray := rfl
        rw [ev]
        refine newC_ints _ fun pp H7 z7 q7 a7 e7 => ?_
        refine appB (s := ⟨some ⟨H1.size, 0, none⟩, 0, 0⟩) (bb := []) (x := ⟨some pp, 2, 2⟩) (o5.ext e7) (a7 2) (by simp) fun b8 H8 o8 m8 f8 => ?_
        have e18 : Ext H1 H8 := ((Ext.mod (e5.trans e7)).trans m8).ext f5
        have hz := (e5.trans e7).size
        have g8 : ∀ c, ownB b8 c → H1.size ≤ c := fun c u => by
          rcases f8 c u with v | v
          · exact f5 c v
          · omega
        refine RowT.ld (c := cSl) (i := 1) (x := sk) (n1.row.ext e18) rfl ?_
        refine loop_upto n.kids.length (fun i z A => z.2 = (i : Int) ∧ Owns A 0 ty_uint8 1 z.1 ((u8i ([UInt8.ofNat (n.kids.length / 256), UInt8.ofNat n.kids.length] ++ (n.kids.take i).flatMap be4)).map (Value.int .u8)) ∧ Ext H1 A ∧ ∀ c, ownB z.1 c → H1.size ≤ c)
          ⟨rfl, by simpa using o8, e18, g8⟩ ?_
        rintro i ⟨bs, _⟩ A next hi ⟨rfl, oA, eA, fA⟩ hnext
        dsimp only at oA fA ⊢
        refine br_mk (fun hc2 => ?_) (fun hc2 => ?_)
        · have hlt : i < n.kids.length := by have : (i : Int) < (sk.n : Int) := by simpa using hc2
                                             omega
          refine ints_get (n1.kids.ext eA) rfl (by simpa using hlt) fun ad _ => ?_
          have hkid : (List.map Int.ofNat n.kids).getD i 0 = ((n.kids.getD i 0 : Nat) : Int) := by
            simp [List.getD, List.getElem?_eq_getElem hlt]
          rw [hkid]
          refine tbytes_ok fun pq H9 b9 e9 q9 => ?_
          have hfl : ([UInt8.ofNat (n.kids.length / 256), UInt8.ofNat n.kids.length] ++ (n.kids.take i).flatMap be4).length ≤ 10000 := by
            rw [List.length_append, flat4_length]; simp; omega
          refine appB (oA.ext e9) b9 (by rw [be4_length]; omega) fun b10 H10 o10 m10 f10 => ?_
          have hzA := eA.size
          have hz9 := e9.size
          refine hnext hlt _ _ ⟨succ64 i (by omega), ?_, ((Ext.mod (eA.trans e9)).trans m10).ext fA, fun c u => ?_⟩
          · have et : n.kids.take (i + 1) = n.kids.take i ++ [n.kids.getD i 0] := by
              rw [List.take_succ_eq_append_getElem hlt]; simp [List.getD, List.getElem?_eq_getElem hlt]
            rw [et, List.flatMap_append, ← List.append_assoc]
            simpa using o10
          · rcases f10 c u with v | v
            · exact fA c v
            · omega
        · have hge : i = n.kids.length := by have : ¬ (i : Int) < (sk.n : Int) := by simpa using hc2
                                             omega
          subst hge
          rw [List.take_of_length_le (Nat.le_refl _)] at oA
          refine ⟨?_, ?_, eA, fA⟩
          · unfold Nd.page; simp only; rw [if_neg hk0]; rfl
          · unfold Nd.pre; rw [if_neg hk0]; exact oA
      · have hk0 : n.kids = [] := List.eq_nil_of_length_eq_zero (by have : ¬ ((sk.n : Int) > 0) := by simpa using hc
                                                                    omega)
        refine ⟨?_, ?_, e5, f5⟩
        · unfold Nd.page; simp only; rw [if_pos hk0]; rfl
        · unfold Nd.pre; rw [if_pos hk0]; exact o5
    · rintro ⟨kd, bs⟩ H6 ⟨rfl, o6, e6, f6⟩
      dsimp only at o6 f6 ⊢
      simp only [optK_eq, at0]
      refine RowT.ld (c := cSl) (i := 2) (x := sr) (n1.row.ext e6) rfl ?_
      have hrln := n1.rows.len
      have hpre : n.pre.length + (rowsY n.rows).length ≤ 504 := by
        rw [Nd.bytes_pre, List.length_append] at hfit; exact hfit
      refine loop_upto n.rows.length (fun i z A => z.2 = (i : Int) ∧ Owns A 0 ty_uint8 1 z.1 ((u8i (n.pre ++ rowsY (n.rows.take i))).map (Value.int .u8)) ∧ Ext H1 A ∧ ∀ c, ownB z.1 c → H1.size ≤ c)
        ⟨rfl, by simpa [rowsY] using o6, e6, f6⟩ ?_
      rintro i ⟨bs2, _⟩ A next hi ⟨rfl, oA, eA, fA⟩ hnext
      dsimp only at oA fA ⊢
      refine br_mk (fun hc2 => ?_) (fun hc2 => ?_)
      · have hlt : i < n.rows.length := by have : (i : Int) < (sr.n : Int) := by simpa using hc2
                                           omega
        refine (n1.rows.step (.ofExt eA)).ld hlt fun ad r _ _ hr => ?_
        have hcl : (n.rows.getD i []).length ≤ 16 := by rw [getDo hlt]; exact hcols _ (List.getElem_mem _)
        have et : n.rows.take (i + 1) = n.rows.take i ++ [n.rows.getD i []] := by
          rw [List.take_succ_eq_append_getElem hlt, getDo hlt]
        have ey : rowsY (n.rows.take (i + 1)) = rowsY (n.rows.take i) ++ bytesI (putL (n.rows.getD i [])) := by
          rw [et]; unfold rowsY; rw [List.flatMap_append]; simp
        have hsum : (rowsY (n.rows.take (i + 1))).length ≤ (rowsY n.rows).length := by
          have : n.rows = n.rows.take (i + 1) ++ n.rows.drop (i + 1) := (List.take_append_drop _ _).symm
          conv => rhs; rw [this]
          unfold rowsY
          rw [List.flatMap_append, List.length_append]; omega
        rw [ey, List.length_append] at hsum
        refine rowPut_ok hr (by omega) fun sb H9 o9 e9 => ?_
        have b9 : Byts H9 sb (bytesI (putL (n.rows.getD i []))) := by
          have := o9.ints
          unfold Byts
          rw [u8i_bytesI (putL_range _)]
          exact this
        refine appB (oA.ext e9) b9 (by rw [List.length_append]; omega) fun b10 H10 o10 m10 f10 => ?_
        have hzA := eA.size
        have hz9 := e9.size
        refine hnext hlt _ _ ⟨succ64 i (by omega), ?_, ((Ext.mod (eA.trans e9)).trans m10).ext fA, fun c u => ?_⟩
        · rw [ey, ← List.append_assoc]; exact o10
        · rcases f10 c u with v | v
          · exact fA c v
          · omega
      · have hge : i = n.rows.length := by have : ¬ (i : Int) < (sr.n : Int) := by simpa using hc2
                                           omega
        subst hge
        rw [List.take_of_length_le (Nat.le_refl _), ← Nd.bytes_pre] at oA
        have SA : Step F1 F1 H1 A := .ofExt eA
        refine RowT.ld (c := cPtr) (i := 0) (x := at0 p) (t1.ext eA) rfl ?_
        refine Put_ok (l := n.page.2) (kd := n.page.1) (g1.mod eA id) (p1.ext eA) oA.ints fun F2 H2 p2 S2 => ?_
        have hg2 : Gl H2 := (g1.mod eA id).mod S2.mod p1.glob
        have hn2 : (s1.set hd n.page.1 n.page.2).1.next = s1.next := s1.set_next hd n.page.1 n.page.2
        have n2 := (n1.step SA).step S2
        generalize s1.set hd n.page.1 n.page.2 = s2 at *
        refine br_mk (fun hc3 => ?_) (fun hc3 => ?_)
        · have e2 : s2.2 = 0 := by simpa using hc3
          refine RowT.ld (c := cPtr) (i := 0) (x := at0 p) ((t1.ext eA).mod S2.mod hkF1) rfl ?_
          refine Unpin_ok hg2 p2 (by omega) fun F3 H3 p3 S3 => ?_
          have el : Pl.leave s2 hd = s2.1.unpin hd := if_pos e2
          rw [el] at c2
          exact c2 F3 H3 p3 ((SA.trans S2).trans S3) (n2.step S3)
        · have e2 : s2.2 ≠ 0 := by simpa using hc3
          have el : Pl.leave s2 hd = s2 := if_neg e2
          rw [el] at c2
          exact c2 F2 H2 p2 (SA.trans S2) n2

/-- A node that has no page yet. -/
theorem twrite_new {K : Int → Heap → Prop} (S : Store t.name q I B C) (hI : I s x m) (hm : m < 30000000000) (hg : Gl H) (h : TreeB H k p t) (hp : PoolAt F H p dp s) (hk : ¬ F k) (hkn : k ≠ nb) (hn : NodeR F H nb (-1) sk sr n) (hfit : n.bytes.length ≤ 504) (hkl : n.kids.length ≤ 504) (hrl : n.rows.length ≤ 504) (hcols : ∀ l ∈ n.rows, l.length ≤ 16)
    (hK1 : x.N < q → ∀ F' H' s', PoolAt F' H' p dp s' → Step (fun b => F b ∨ b = nb) (fun b => F' b ∨ b = nb) H H' → I s' (x.more n) (m + 1) → NodeR F' H' nb (x.N : Int) sk sr n → K 0 H')
    (hKB : ¬ x.N < q → ∀ F' H' s' e, PoolAt F' H' p dp s' → Step (fun b => F b ∨ b = nb) (fun b => F' b ∨ b = nb) H H' → ¬ F' nb → B s' e → K e H')
    (hKC : ∀ F' H' s' e, PoolAt F' H' p dp s' → Step (fun b => F b ∨ b = nb) (fun b => F' b ∨ b = nb) H H' → ¬ F' nb → C s' e → K e H') : tree_Tree_write.sp (at0 k) (at0 nb) H K := by
  obtain ⟨b1, b2, b3, b4, b5, b6⟩ := S.pre hI
  have hkd : n.page.1 ≠ 0 := by unfold Nd.page; simp only; split <;> decide
  refine twrite_raw hg h hp hk hkn hn hfit hkl hrl hcols (.inl rfl) S.name (by omega) (by omega) b2 b4 (fun _ F' H' p1 S1 n1 => ?_) fun u => absurd rfl u
  by_cases hN : x.N < q
  · rcases S.more hI hm hfit hkd hN with ⟨a1, a2, a3⟩ | hC
    · rw [a2] at n1
      change K (s.more t.name n.page.1 n.bytes).2 H'
      rw [a1]
      exact hK1 hN F' H' _ p1 S1 a3 n1
    · exact hKC F' H' _ _ p1 S1 n1.off hC
  · rcases S.full hI hm hfit hkd hN with hB | hC
    · exact hKB hN F' H' _ _ p1 S1 n1.off hB
    · exact hKC F' H' _ _ p1 S1 n1.off hC
/-- A node that lies there. -/
theorem twrite_old {K : Int → Heap → Prop} {g : Nat} (S : Store t.name q I B C) (hI : I s x m) (hm : m < 30000000000) (hg : Gl H) (h : TreeB H k p t) (hp : PoolAt F H p dp s) (hk : ¬ F k) (hkn : k ≠ nb) (hn : NodeR F H nb (g : Int) sk sr n) (hgN : g < x.N) (hfit : n.bytes.length ≤ 504) (hkl : n.kids.length ≤ 504) (hrl : n.rows.length ≤ 504) (hcols : ∀ l ∈ n.rows, l.length ≤ 16)
    (hK1 : ∀ F' H' s', PoolAt F' H' p dp s' → Step (fun b => F b ∨ b = nb) (fun b => F' b ∨ b = nb) H H' → I s' (x.put g n) (m + 1) → NodeR F' H' nb (g : Int) sk sr n → K 0 H')
    (hKC : ∀ F' H' s' e, PoolAt F' H' p dp s' → Step (fun b => F b ∨ b = nb) (fun b => F' b ∨ b = nb) H H' → ¬ F' nb → C s' e → K e H') : tree_Tree_write.sp (at0 k) (at0 nb) H K := by
  obtain ⟨b1, b2, b3, b4, b5, b6⟩ := S.pre hI
  refine twrite_raw hg h hp hk hkn hn hfit hkl hrl hcols (.inr ⟨by omega, by omega⟩) S.name (by omega) (by omega) b2 b4 (fun u => by omega) fun _ F' H' p1 S1 n1 => ?_
  rcases S.over hI hm hfit hgN (kd := n.page.1) with ⟨a1, a3⟩ | hC
  · change K (s.over t.name (g : Int) n.page.1 n.bytes).2 H'
    rw [a1]
    exact hK1 F' H' _ p1 S1 a3 n1
  · exact hKC F' H' _ _ p1 S1 n1.off hC
end
end Go.Proofs.YtmdiinakfpgdjaaDoor

/-
  Trees: how many children have room; a node that is too full is cut: the walk.
-/
namespace Go.Proofs.YtmdiinakfpgdjaaDoor
open Go.MapKept

theorem Step.or {F F' : Nat → Prop} {H H' : Heap} (S : Step F F' H H') (X : Nat → Prop) : Step (fun b => F b ∨ X b) (fun b => F' b ∨ X b) H H' :=
  ⟨S.mod.mono fun _ _ h => .inl h, fun b hb => by
    rcases hb with q | q
    · exact (S.own b q).imp .inl id
    · exact .inl (.inr q)⟩
theorem Step.into {F F' G G' : Nat → Prop} {H H' : Heap} (S : Step F F' H H') (h1 : ∀ b, b < H.size → F b → G b) (h2 : ∀ b, G' b → F' b ∨ G b ∨ H.size ≤ b) : Step G G' H H' :=
  ⟨S.mod.mono h1, fun b hb => by
    rcases h2 b hb with q | q | q
    · rcases S.own b q with r | r
      · rcases Nat.lt_or_ge b H.size with u | u
        · exact .inl (h1 b u r)
        · exact .inr u
      · exact .inr r
    · exact .inl q
    · exact .inr q⟩
/-- A row that may be read. -/
structure RowOk (F : Nat → Prop) (H : Heap) (r : Sl) (l : List Int) : Prop where
  off : Off F H r
  ints : Ints .u64 H r l
theorem RowOk.step {F F' : Nat → Prop} {H H' : Heap} {r : Sl} {l : List Int} (h : RowOk F H r l) (S : Step F F' H H') : RowOk F' H' r l := ⟨h.off.step S, h.off.ints h.ints S⟩
theorem RowOk.mono {F G : Nat → Prop} {H : Heap} {r : Sl} {l : List Int} (h : RowOk F H r l) (hs : ∀ b, b < H.size → G b → F b) : RowOk G H r l := ⟨h.off.mono hs, h.ints⟩

theorem slA_block' {a : Option Addr} {c i n : Nat} {ad : Addr} (h : slA a c i n = some ad) : ∃ a0, a = some a0 ∧ a0.block = ad.block := by
  unfold slA at h
  split at h
  · exact ⟨ad, h, rfl⟩
  · cases a with
    | none => simp at h
    | some a0 =>
      simp at h
      exact ⟨a0, rfl, by rw [← h, add_block]⟩
theorem Off.cut {F : Nat → Prop} {H : Heap} {s : Sl} (h : Off F H s) {c i n m k : Nat} : Off F H ⟨slA s.a c i n, m, k⟩ := fun ad ha => by
  obtain ⟨a0, q1, q2⟩ := slA_block' ha
  have := h a0 q1
  rw [q2] at this; exact this
theorem RowsN.drop {F : Nat → Prop} {H : Heap} {s : Sl} {ls : List (List Int)} (h : RowsN F H s ls) (hc : s.n ≤ s.c) {i : Nat} (hi : i ≤ ls.length) : RowsN F H ⟨slA s.a s.c i 1, s.n - i, s.c - i⟩ (ls.drop i) := by
  have hln := h.len
  refine ⟨by rw [List.length_drop]; show s.n - i = _; omega, h.off.cut, fun j hj => ?_⟩
  rw [List.length_drop] at hj
  obtain ⟨ad, r, q1, q2, q4, q5⟩ := h.at' (i + j) (by omega)
  refine ⟨ad.add i, r, ?_, by rw [add_add]; exact q2, q4, ?_⟩
  · show slA s.a s.c i 1 = _
    unfold slA
    rw [if_neg (by omega), q1, Nat.mul_one]; rfl
  · rw [List.getElem_drop]; exact q5
theorem RowsN.take {F : Nat → Prop} {H : Heap} {s : Sl} {ls : List (List Int)} (h : RowsN F H s ls) {i c d : Nat} (hi : i ≤ ls.length) : RowsN F H ⟨slA s.a d 0 1, i, c⟩ (ls.take i) := by
  refine ⟨by rw [List.length_take]; show i = _; omega, h.off.cut, fun j hj => ?_⟩
  rw [List.length_take] at hj
  obtain ⟨ad, r, q1, q2, q4, q5⟩ := h.at' j (by omega)
  refine ⟨ad, r, by show slA s.a d 0 1 = _; rw [slA_zero, q1], q2, q4, ?_⟩
  rw [List.getElem_take]; exact q5
theorem IntsD {k : IntKind} {H : Heap} {s : Sl} {l : List Int} (h : Ints k H s l) (hc : s.n ≤ s.c) {i : Nat} (hi : i ≤ l.length) : Ints k H ⟨slA s.a s.c i 1, s.n - i, s.c - i⟩ (l.drop i) := by
  have hln := h.len
  refine ⟨by rw [List.length_drop]; show s.n - i = _; omega, fun j v hv => ?_⟩
  rw [List.map_drop, List.getElem?_drop] at hv
  obtain ⟨ad, q1, q2⟩ := h.reads _ v hv
  have hj : i + j < l.length := by have := (List.getElem?_eq_some_iff.1 hv).1; simpa using this
  refine ⟨ad.add i, ?_, by rw [add_add]; exact q2⟩
  show slA s.a s.c i 1 = _
  unfold slA
  rw [if_neg (by omega), q1, Nat.mul_one]; rfl
theorem IntsT {k : IntKind} {H : Heap} {s : Sl} {l : List Int} (h : Ints k H s l) {i c d : Nat} (hi : i ≤ l.length) : Ints k H ⟨slA s.a d 0 1, i, c⟩ (l.take i) := by
  refine ⟨by rw [List.length_take]; show i = _; omega, ?_⟩
  show Reads H (slA s.a d 0 1) _
  rw [slA_zero, List.map_take]
  exact h.reads.take i

section
variable {H : Heap} {k p dp : Nat} {t : Tr} {F : Nat → Prop} {s : Pl} {q : Nat} {I : Pl → St → Nat → Prop} {B C : Pl → Int → Prop} {x : St} {m : Nat} {nb : Nat} {page : Int} {sk sr : Sl} {n : Nd} {W : Nat}

theorem tfan_ok {K : Int → Heap → Prop} (h : TreeB H k p t) (hw : t.width = (W : Int)) (hW : W ≤ 16) (hK : ∀ H', Ext H H' → K (fanL W) H') : tree_Tree_fan.sp (at0 k) H K := by
  refine tree_Tree_fan.of ?_
  unfold tree_Tree_fan.vc
  simp only [optK_eq, at0]
  refine RowT.ld (c := cInt .i64) (i := 2) (x := t.width) h rfl ?_
  rw [hw]
  refine elU64.make (base := 0) (by omega) (Int.le_refl _) (by omega) (by omega) (Nat.zero_le _) ?_
  intro sl H1 n1 o1 e1 b1 _
  have o1' : Owns H1 0 ty_uint64 1 sl ((List.replicate W (0 : Int)).map (Value.int .u64)) := by
    rw [List.map_replicate]; simpa using o1
  refine rowPut_ok o1'.ints (by simp; omega) fun sb H2 o2 e2 => ?_
  obtain ⟨p1, p2⟩ := put_len (l := List.replicate W (0 : Int)) (w := W) (by simp) hW
  have hs := sizeL_cases (W : Int)
  have hn : (sb.n : Int) = sizeL W := by
    have := o2.ints.len
    rw [p1] at this; omega
  rw [hn]
  have w1 : IntKind.i64.wrap ((4 : Int) + sizeL W) = 4 + sizeL W := wrap64 (by omega) (by omega)
  have w2 : IntKind.i64.wrap ((502 : Int) + sizeL W) = 502 + sizeL W := wrap64 (by omega) (by omega)
  rw [w1, w2]
  refine ⟨by omega, ?_⟩
  have hf : IntKind.i64.wrap (Int.tdiv (502 + sizeL W) (4 + sizeL W)) = fanL W := by
    have h1 := Int.tdiv_nonneg (a := 502 + sizeL (W : Int)) (b := 4 + sizeL W) (by omega) (by omega)
    have h2 := Int.tdiv_le_self (a := 502 + sizeL (W : Int)) (4 + sizeL W) (by omega)
    unfold fanL
    exact wrap64 (by omega) (by omega)
  rw [hf]
  exact hK H2 (e1.trans e2)

theorem NodeR.mono {F G : Nat → Prop} (h : NodeR F H nb page sk sr n) (hs : ∀ b, b < H.size → G b → F b) : NodeR G H nb page sk sr n :=
  ⟨h.row, fun u => h.off (hs _ (obj_lt h.row) u), h.kids, h.kidsO.mono fun b hb u => u.imp (hs b hb) id, h.rows.mono fun b hb u => u.imp (hs b hb) id⟩

set_option maxHeartbeats 2000000 in
/-- A node that is too full is cut. -/
theorem tsplit_ok {X : Nat → Prop} {K : (Option Addr × Sl × Int) → Heap → Prop} (S : Store t.name q I B C) (hI : I s x m) (hm : m < 30000000000) (hg : Gl H) (h : TreeB H k p t) (hp : PoolAt F H p dp s) (hk : ¬ F k) (hkn : k ≠ nb)
    (hn : NodeR (fun b => F b ∨ X b) H nb page sk sr n) (hck : sk.n ≤ sk.c) (hcr : sr.n ≤ sr.c) (h1 : 1 ≤ n.rows.length) (hin : n.kids = [] ∨ n.kids.length = n.rows.length + 1)
    (hfit : n.right.bytes.length ≤ 504) (hkl : n.kids.length ≤ 504) (hrl : n.rows.length ≤ 600) (hrl2 : n.right.rows.length ≤ 504) (hcols : ∀ l ∈ n.rows, l.length ≤ 16)
    (hK1 : x.N < q → ∀ F' H' s' mb v1 v2 up skl srl, PoolAt F' H' p dp s' → Step (fun b => F b ∨ b = nb) (fun b => F' b ∨ b = nb) H H' → I s' (x.more n.right) (m + 1) → NodeR (fun b => F' b ∨ X b) H' nb page skl srl n.left →
      RowT H' mb ty_tree_node #[.int .i64 (x.N : Int), v1, v2] → ¬ F' mb → mb ≠ nb → H.size ≤ mb → RowOk (fun b => (F' b ∨ X b) ∨ b = nb) H' up n.up → K (some ⟨mb, 0, none⟩, up, 0) H')
    (hKB : ¬ x.N < q → ∀ F' H' s' e o up, PoolAt F' H' p dp s' → Step (fun b => F b ∨ b = nb) (fun b => F' b ∨ b = nb) H H' → B s' e → K (o, up, e) H')
    (hKC : ∀ F' H' s' e o up, PoolAt F' H' p dp s' → Step (fun b => F b ∨ b = nb) (fun b => F' b ∨ b = nb) H H' → C s' e → K (o, up, e) H') : tree_Tree_split.sp (at0 k) (at0 nb) H K := by
  refine tree_Tree_split.of ?_
  unfold tree_Tree_split.vc
  simp only [optK_eq, at0]
  have hrln := hn.rows.len
  have hkln : sk.n = n.kids.length := by have := hn.kids.len; simpa using this
  have hkb := obj_lt h
  have hnbl := obj_lt hn.row
  refine RowT.ld (c := cSl) (i := 2) (x := sr) hn.row rfl ?_
  have ehalf : IntKind.i64.wrap (Int.tdiv (sr.n : Int) 2) = ((n.rows.length / 2 : Nat) : Int) := by
    rw [hrln, show (2 : Int) = ((2 : Nat) : Int) from rfl, ← Int.ofNat_tdiv, wrap64 (by omega) (by omega)]
  rw [ehalf]
  refine newC_rowT fun H1 z1 r1 e1 => ?_
  have n1 := hn.step (.ofExt e1)
  refine RowT.ld (c := cSl) (i := 2) (x := sr) n1.row rfl ?_
  have hup := hn.rows.at' (n.rows.length / 2) (by omega)
  obtain ⟨ad, up, q1, q2, q4, q5⟩ := hup
  refine optK_mk ad q1 ⟨⟨by omega, by omega⟩, up, ?_, ?_⟩
  · simp only [Int.toNat_natCast, Nat.mul_one]
    exact e1.cell q2 id
  have eup : n.up = n.rows[n.rows.length / 2]'(by omega) := by unfold Nd.up; rw [getDo]
  have upOk : RowOk (fun b => (F b ∨ X b) ∨ b = nb) H up n.up := ⟨q4, by rw [eup]; exact q5⟩
  have hmb : ∀ F' : Nat → Prop, (∀ b, F' b → F b) → ¬ F' H.size := fun F' hF u => by have := hp.lt _ (hF _ u); omega
  have hmn : H.size ≠ nb := by omega
  have hkm : k ≠ H.size := by omega
  -- the step that makes the new node one of those that may be written
  have SX : Step (fun b => F b ∨ X b) (fun b => (F b ∨ X b) ∨ b = H.size) H H1 := ⟨Ext.mod e1, fun b u => u.elim .inl fun v => .inr (by omega)⟩
  have nX := hn.step SX
  have upX := upOk.step (SX.with nb)
  have fin : ∀ (H5 : Heap) (sk' sr' skm srm : Sl), Mod (fun b => b = nb ∨ b = H.size) H1 H5 → H5.size = H1.size → RowT H5 H.size ty_tree_node #[.int .i64 (-1), skm.v, srm.v] → RowT H5 nb ty_tree_node #[.int .i64 page, sk'.v, sr'.v] →
      Ints .i64 H1 skm (n.right.kids.map Int.ofNat) → Off (fun b => ((F b ∨ X b) ∨ b = H.size) ∨ b = nb) H1 skm → RowsN (fun b => ((F b ∨ X b) ∨ b = H.size) ∨ b = nb) H1 srm n.right.rows →
      Ints .i64 H1 sk' (n.left.kids.map Int.ofNat) → Off (fun b => ((F b ∨ X b) ∨ b = H.size) ∨ b = nb) H1 sk' → RowsN (fun b => ((F b ∨ X b) ∨ b = H.size) ∨ b = nb) H1 sr' n.left.rows →
      tree_Tree_write.sp (some ⟨k, 0, none⟩) (some ⟨H.size, 0, none⟩) H5 fun (r : Int) H6 => K (some ⟨H.size, 0, none⟩, up, r) H6 := by
    intro H5 sk' sr' skm srm m5 z5 rm rn km kmo rmm kl klo rll
    have S5 : Step (fun b => ((F b ∨ X b) ∨ b = H.size) ∨ b = nb) (fun b => ((F b ∨ X b) ∨ b = H.size) ∨ b = nb) H1 H5 := ⟨m5.mono fun b _ u => u.elim .inr fun v => .inl (.inr v), fun b u => .inl u⟩
    have p5 : PoolAt F H5 p dp s := (hp.ext e1).keep fun b hb hl => m5.same b hl fun u => by
      rcases u with u | u
      · exact hn.off (.inl (u ▸ hb))
      · have := hp.lt b hb; omega
    have t5 : TreeB H5 k p t := (h.ext e1).mod m5 fun u => u.elim hkn hkm
    have hgl := hg.lt
    have g5 : Gl H5 := (Gl.mod hg e1 id).keep (m5.same _ (Gl.mod hg e1 id).lt fun u => by
      rcases u with u | u
      · have w2 := hg 0 (by decide)
        rw [u] at w2
        have := hCell_of (o := 0) hn.row (v := .int .i64 page) rfl
        rw [this] at w2; cases w2
      · omega)
    have nm : NodeR F H5 H.size (-1) skm srm n.right := ⟨rm, hmb F fun _ u => u, kmo.ints km S5, (kmo.step S5).mono fun b _ u => u.elim (fun v => .inl (.inl (.inl v))) fun v => .inl (.inr v), (rmm.step S5).mono fun b _ u => u.elim (fun v => .inl (.inl (.inl v))) fun v => .inl (.inr v)⟩
    have nl : NodeR (fun b => (F b ∨ X b) ∨ b = H.size) H5 nb page sk' sr' n.left := ⟨rn, fun u => u.elim hn.off fun v => hmn v.symm, klo.ints kl S5, klo.step S5, rll.step S5⟩
    have S05 : Step (fun b => F b ∨ b = nb) (fun b => F b ∨ b = nb) H H5 := ⟨⟨by have := e1.size; omega, fun b hb hnF => by
      rw [m5.same b (by omega) (fun u => by
        rcases u with u | u
        · exact hnF (.inr u)
        · omega)]
      exact e1.same b hb id⟩, fun b u => .inl u⟩
    have hkr : n.right.kids.length ≤ 504 := by
      unfold Nd.right
      split
      · simp
      · show (n.kids.drop _).length ≤ _; rw [List.length_drop]; omega
    have hcr : ∀ l ∈ n.right.rows, l.length ≤ 16 := fun l hl => hcols l (by
      unfold Nd.right at hl
      split at hl <;> exact List.mem_of_mem_drop hl)
    have T2 : ∀ {F' : Nat → Prop} {H' : Heap}, ¬ F' H.size → Step (fun b => F b ∨ b = H.size) (fun b => F' b ∨ b = H.size) H5 H' → Step (fun b => F b ∨ b = nb) (fun b => F' b ∨ b = nb) H H' := fun {F' H'} hF' S6 => by
      have hz := e1.size
      refine ⟨⟨by have := S6.mod.size; omega, fun b hb hnF => ?_⟩, fun b hb => ?_⟩
      · rw [S6.mod.same b (by omega) fun u => by
          rcases u with u | u
          · exact hnF (.inl u)
          · omega]
        exact S05.mod.same b hb hnF
      · rcases hb with u | u
        · rcases S6.own b (.inl u) with v | v
          · rcases v with v | v
            · exact .inl (.inl v)
            · exact .inr (by omega)
          · exact .inr (by omega)
        · exact .inl (.inr u)
    refine twrite_new S hI hm g5 t5 p5 hk hkm nm hfit hkr hrl2 hcr (fun hN F' H6 s' p6 S6 I6 n6 => ?_) (fun hN F' H6 s' e p6 S6 hmF hB => hKB hN F' H6 s' e _ _ p6 (T2 hmF S6) hB) (fun F' H6 s' e p6 S6 hmF hC => hKC F' H6 s' e _ _ p6 (T2 hmF S6) hC)
    have hmF : ¬ F' H.size := n6.off
    have S6X : Step (fun b => (F b ∨ X b) ∨ b = H.size) (fun b => (F' b ∨ X b) ∨ b = H.size) H5 H6 := S6.into (fun b _ u => u.elim (fun v => .inl (.inl v)) .inr) fun b u => by
      rcases u with (u | u) | u
      · exact .inl (.inl u)
      · exact .inr (.inl (.inl (.inr u)))
      · exact .inl (.inr u)
    refine hK1 hN F' H6 s' H.size _ _ up sk' sr' p6 (T2 hmF S6) I6 ((nl.step S6X).mono fun b _ u => .inl u) n6.row hmF hmn (Nat.le_refl _) ?_
    exact ((upX.step S5).step (S6X.with nb)).mono fun b _ u => u.elim (fun v => .inl (.inl v)) .inr
  have hw1 : IntKind.i64.wrap (((n.rows.length / 2 : Nat) : Int) + 1) = ((n.rows.length / 2 + 1 : Nat) : Int) := succ64 _ (by omega)
  rw [hw1]
  simp only [Int.toNat_natCast, Nat.sub_zero]
  have hh : n.rows.length / 2 < n.rows.length := by omega
  clear q2 q5 eup
  generalize hhalf : n.rows.length / 2 = half at *
  refine RowT.ld (c := cSl) (i := 1) (x := sk) n1.row rfl ?_
  refine br_mk (fun hc => ?_) (fun hc => ?_)
  · have hk0 : n.kids ≠ [] := fun u => by rw [u] at hkln; simp [hkln] at hc
    have hkr := hin.resolve_left hk0
    refine RowT.ld (c := cSl) (i := 2) (x := sr) n1.row rfl ?_
    refine ⟨by omega, ?_⟩
    refine RowT.ld (c := cSl) (i := 1) (x := sk) n1.row rfl ?_
    refine ⟨by omega, ?_⟩
    refine RowT.st r1 (i := 2) (by simp) rfl fun H2 r2 m2 z2 => ?_
    refine RowT.st r2 (i := 1) (by simp) rfl fun H3 r3 m3 z3 => ?_
    have rn3 : RowT H3 nb ty_tree_node #[.int .i64 page, sk.v, sr.v] := (n1.row.mod m2 (Ne.symm hmn)).mod m3 (Ne.symm hmn)
    refine RowT.ld (c := cSl) (i := 1) (x := sk) rn3 rfl ?_
    refine ⟨by omega, by omega, ?_⟩
    refine RowT.st rn3 (i := 1) (by simp) rfl fun H4 r4 m4 z4 => ?_
    refine RowT.ld (c := cSl) (i := 2) (x := sr) r4 rfl ?_
    refine ⟨by omega, by omega, ?_⟩
    refine RowT.st r4 (i := 2) (by simp) rfl fun H5 r5 m5 z5 => ?_
    have mall : Mod (fun b => b = nb ∨ b = H.size) H1 H5 := (((m2.mono fun _ _ u => .inr u).trans (m3.mono fun _ _ u => .inr u)).trans (m4.mono fun _ _ u => .inl u)).trans (m5.mono fun _ _ u => .inl u)
    have er : n.right = ⟨n.kids.drop (half + 1), n.rows.drop (half + 1)⟩ := by unfold Nd.right; rw [if_neg hk0, hhalf]
    have el : n.left = ⟨n.kids.take (half + 1), n.rows.take half⟩ := by unfold Nd.left; rw [hhalf]
    refine fin H5 ⟨slA sk.a (half + 1) 0 1, half + 1, half + 1⟩ ⟨slA sr.a half 0 1, half, half⟩ ⟨slA sk.a sk.c (half + 1) 1, sk.n - (half + 1), sk.c - (half + 1)⟩ ⟨slA sr.a sr.c (half + 1) 1, sr.n - (half + 1), sr.c - (half + 1)⟩ mall (by omega) (((r3.mod m4 hmn).mod m5 hmn)) r5 ?_ nX.kidsO.cut ?_ ?_ nX.kidsO.cut ?_
    · rw [er]; simp only [List.map_drop]; exact IntsD nX.kids hck (by simp; omega)
    · rw [er]; exact nX.rows.drop hcr (by omega)
    · rw [el]; simp only [List.map_take]; exact IntsT nX.kids (by simp; omega)
    · rw [el]; exact nX.rows.take (by omega)
  · have hk0 : n.kids = [] := List.eq_nil_of_length_eq_zero (by have : ¬ ((sk.n : Int) > 0) := by simpa using hc
                                                                omega)
    refine RowT.ld (c := cSl) (i := 2) (x := sr) n1.row rfl ?_
    refine ⟨by omega, ?_⟩
    refine RowT.st r1 (i := 2) (by simp) rfl fun H2 r2 m2 z2 => ?_
    have rn2 : RowT H2 nb ty_tree_node #[.int .i64 page, sk.v, sr.v] := n1.row.mod m2 (Ne.symm hmn)
    refine RowT.ld (c := cSl) (i := 2) (x := sr) rn2 rfl ?_
    refine ⟨by omega, by omega, ?_⟩
    refine RowT.st rn2 (i := 2) (by simp) rfl fun H5 r5 m5 z5 => ?_
    have mall : Mod (fun b => b = nb ∨ b = H.size) H1 H5 := (m2.mono fun _ _ u => .inr u).trans (m5.mono fun _ _ u => .inl u)
    have er : n.right = ⟨[], n.rows.drop half⟩ := by unfold Nd.right; rw [if_pos hk0, hhalf]
    have el : n.left = ⟨[], n.rows.take half⟩ := by unfold Nd.left; rw [hhalf, hk0]; rfl
    refine fin H5 sk ⟨slA sr.a half 0 1, half, half⟩ ⟨none, 0, 0⟩ ⟨slA sr.a sr.c half 1, sr.n - half, sr.c - half⟩ mall (by omega) (r2.mod m5 hmn) r5 ?_ (fun ad u => by cases u) ?_ ?_ nX.kidsO ?_
    · rw [er]; exact ⟨rfl, Reads.nil _ _⟩
    · rw [er]; exact nX.rows.drop hcr (by omega)
    · rw [el]; have := nX.kids; rw [hk0] at this; exact this
    · rw [el]; exact nX.rows.take (by omega)
end
end Go.Proofs.YtmdiinakfpgdjaaDoor

/-
  Trees: an element is put into a node's rows, and into its children; what fits in a page.
-/
namespace Go.Proofs.YtmdiinakfpgdjaaDoor
open Go.MapKept

/-! ### slices.Insert -/

theorem int_kind : Tryd.prog.underlying ty_int = some (.int .i64) := by kernel_rfl
theorem ovl_rows (args : Array Value) (w : World) : (callFunc 75 args).run Tryd.prog w = ((Extern.SlicesOverlaps.overlaps #[ty_sl_sl_uint64, ty_sl_sl_uint64] #[4] args).run Tryd.prog w).andThen fun v w' => .ok (.value v) w' :=
  run_callFunc_extern Tryd.func75 (by kernel_rfl) (by kernel_rfl) (by kernel_rfl) (by kernel_rfl) args w
theorem ovl_ints (args : Array Value) (w : World) : (callFunc 77 args).run Tryd.prog w = ((Extern.SlicesOverlaps.overlaps #[ty_sl_int, ty_sl_int] #[4] args).run Tryd.prog w).andThen fun v w' => .ok (.value v) w' :=
  run_callFunc_extern Tryd.func77 (by kernel_rfl) (by kernel_rfl) (by kernel_rfl) (by kernel_rfl) args w
theorem insRows_ok {H : Heap} {s : Sl} {i : Nat} {l : Sl} {p : Addr} {xs : List Value} {K : Sl → Heap → Prop} (h : Owns H 0 ty_sl_uint64 1 s xs) (h1 : ∀ u ∈ xs, u.oneCell' = true) (hp : VarT H p ty_sl_uint64 l.v) (hpo : ¬ ownB s p.block) (hi : i ≤ xs.length) (hn : xs.length ≤ 1000000)
    (hK : ∀ (s' : Sl) (H' : Heap), s'.n = xs.length + 1 → Owns H' 0 ty_sl_uint64 1 s' (insAt i l.v xs) → Mod (ownB s) H H' → (∀ b, ownB s' b → ownB s b ∨ H.size ≤ b) → K s' H') :
    slices_Insert_sl_sl_uint64_sl_uint64.sp s (i : Int) ⟨some p, 1, 1⟩ H K := by
  refine slices_Insert_sl_sl_uint64_sl_uint64.of ?_
  exact ins_ok (ovl := 75) (rot := fun a b c d => slices_rotateRight_sl_uint64.sp a b c d) elRow (by decide) int_kind ovl_rows h h1 rfl hp hpo hi hn (Nat.zero_le _) hK
theorem insInts_ok {H : Heap} {s : Sl} {i : Nat} {x : Int} {p : Addr} {xs : List Value} {K : Sl → Heap → Prop} (h : Owns H 0 ty_int 1 s xs) (h1 : ∀ u ∈ xs, u.oneCell' = true) (hp : VarT H p ty_int (.int .i64 x)) (hpo : ¬ ownB s p.block) (hi : i ≤ xs.length) (hn : xs.length ≤ 1000000)
    (hK : ∀ (s' : Sl) (H' : Heap), s'.n = xs.length + 1 → Owns H' 0 ty_int 1 s' (insAt i (.int .i64 x) xs) → Mod (ownB s) H H' → (∀ b, ownB s' b → ownB s b ∨ H.size ≤ b) → K s' H') :
    slices_Insert_sl_int_int.sp s (i : Int) ⟨some p, 1, 1⟩ H K := by
  refine slices_Insert_sl_int_int.of ?_
  exact ins_ok (ovl := 77) (rot := fun a b c d => slices_rotateRight_int.sp a b c d) elIntR (by decide) int_kind ovl_ints h h1 rfl hp hpo hi hn (Nat.zero_le _) hK

section
variable {α : Type}
theorem insAt_length (i : Nat) (a : α) (l : List α) : (insAt i a l).length = l.length + 1 := by
  unfold insAt
  rw [List.length_append, List.length_cons, List.length_take, List.length_drop]; omega
theorem insAt_get {i : Nat} {a : α} {l : List α} (hi : i ≤ l.length) (j : Nat) : (insAt i a l)[j]? = if j < i then l[j]? else if j = i then some a else l[j - 1]? := by
  unfold insAt
  have hl : (l.take i).length = i := by simp; omega
  by_cases h1 : j < i
  · rw [if_pos h1, List.getElem?_append_left (by omega), List.getElem?_take, if_pos h1]
  · rw [if_neg h1, List.getElem?_append_right (by omega), hl]
    by_cases h2 : j = i
    · subst h2; simp
    · rw [if_neg h2]
      obtain ⟨d, hd⟩ : ∃ d, j - i = d + 1 := ⟨j - i - 1, by omega⟩
      rw [hd, List.getElem?_cons_succ, List.getElem?_drop]
      congr 1; omega
theorem insAt_map {β : Type} (f : α → β) (i : Nat) (a : α) (l : List α) : insAt i (f a) (l.map f) = (insAt i a l).map f := by
  unfold insAt
  simp
theorem insAt_mem {i : Nat} {a b : α} {l : List α} : b ∈ insAt i a l ↔ b ∈ l ∨ b = a := by
  unfold insAt
  rw [List.mem_append, List.mem_cons]
  constructor
  · rintro (h | h | h)
    · exact .inl (List.mem_of_mem_take h)
    · exact .inr h
    · exact .inl (List.mem_of_mem_drop h)
  · rintro (h | h)
    · rw [← List.take_append_drop i l, List.mem_append] at h
      exact h.imp id .inr
    · exact .inr (.inl h)
end

/-- Rows in a slice of one's own; the rows lie anywhere else. -/
structure RowsQ (F : Nat → Prop) (H : Heap) (s : Sl) (rs : List Sl) (ls : List (List Int)) : Prop where
  out : Owns H 0 ty_sl_uint64 1 s (rs.map Sl.v)
  outF : ∀ b, ownB s b → ¬ F b
  len : rs.length = ls.length
  row : ∀ (i : Nat) (r : Sl) (l : List Int), rs[i]? = some r → ls[i]? = some l → RowOk (fun b => F b ∨ ownB s b) H r l
theorem RowsQ.toN {F : Nat → Prop} {H : Heap} {s : Sl} {rs : List Sl} {ls : List (List Int)} (h : RowsQ F H s rs ls) : RowsN F H s ls := by
  have hn := h.out.1
  have hl := h.len
  simp only [List.length_map, Nat.mul_one] at hn
  refine ⟨by omega, fun ad ha => ⟨(h.out.block _ ⟨ad, ha, rfl⟩).2, h.outF _ ⟨ad, ha, rfl⟩⟩, fun i hi => ?_⟩
  have hir : i < rs.length := by omega
  obtain ⟨ad, ha, hc⟩ := h.out.reads.at (i := i) (by simpa using hir)
  have hr := h.row i _ _ (List.getElem?_eq_getElem hir) (List.getElem?_eq_getElem hi)
  exact ⟨ad, rs[i], ha, by simpa using hc, hr.off.mono fun _ _ u => .inl u, hr.ints⟩
theorem NodeO.q {F X : Nat → Prop} {H : Heap} {base nb : Nat} {page : Int} {sk sr : Sl} {rs : List Sl} {n : Nd} (h : NodeO F H base nb page sk sr rs n) (hX : ∀ b, X b → b < base ∨ b = nb) : RowsQ (fun b => F b ∨ X b) H sr rs n.rows := by
  refine ⟨h.rows.out, fun b hb u => ?_, h.rows.len, fun i r l h1 h2 => ⟨fun ad ha => ⟨?_, fun u => ?_⟩, (h.rows.row i r l h1 h2).ints⟩⟩
  · have := h.sr b hb
    rcases u with u | u
    · exact this.2 u
    · rcases hX b u with v | v
      · omega
      · subst v; exact h.srN hb
  · exact (h.rows.block.2 r (List.mem_of_getElem? h1) _ ⟨ad, ha, rfl⟩).2
  · have hr := List.mem_of_getElem? h1
    have := h.rs r hr _ ⟨ad, ha, rfl⟩
    rcases u with (u | u) | u
    · exact this.2 u
    · rcases hX _ u with v | v
      · omega
      · exact h.rsN r hr ⟨ad, ha, v⟩
    · exact (h.rows.row i r l h1 h2).apart h.rows.out (by decide) _ ⟨ad, ha, rfl⟩ u
/-- A row is put in. -/
theorem RowsQ.ins {F : Nat → Prop} {H : Heap} {s : Sl} {rs : List Sl} {ls : List (List Int)} {i : Nat} {l : Sl} {ll : List Int} {K : Sl → Heap → Prop} (h : RowsQ F H s rs ls) (hl : RowOk (fun b => F b ∨ ownB s b) H l ll) (hF : ∀ b, F b → b < H.size) (hi : i ≤ ls.length) (hn : ls.length ≤ 1000000)
    (hK : ∀ s' H', RowsQ F H' s' (insAt i l rs) (insAt i ll ls) → Mod (ownB s) H H' → (∀ b, ownB s' b → ownB s b ∨ H.size ≤ b) → K s' H') :
    newC H #[l.v] ty_sl_uint64 fun p H1 => slices_Insert_sl_sl_uint64_sl_uint64.sp s (i : Int) ⟨some p, 1, 1⟩ H1 K := by
  refine newC_varT fun p H1 hp z1 v1 e1 => ?_
  have hlen := h.len
  refine insRows_ok (h.out.ext e1) (by
    intro u hu
    obtain ⟨r, _, rfl⟩ := List.mem_map.1 hu
    rfl) v1 (fun u => by have := (h.out.block _ u).2; omega) (by simp; omega) (by simp; omega) fun s' H' n1 o1 m1 b1 => ?_
  rw [insAt_map] at o1
  have hown : ∀ b, ownB s' b → ownB s b ∨ H.size ≤ b := fun b hb => (b1 b hb).imp id fun u => by omega
  have mAll : Mod (ownB s) H H' := (Ext.mod e1).trans m1
  refine hK s' H' ⟨o1, fun b hb u => ?_, by rw [insAt_length, insAt_length, hlen], fun j r lj h1 h2 => ?_⟩ mAll hown
  · rcases hown b hb with v | v
    · exact h.outF b v u
    · have := hF b u; omega
  · have key : RowOk (fun b => F b ∨ ownB s b) H r lj := by
      rw [insAt_get (by omega)] at h1 h2
      split at h1
      · rename_i hj
        rw [if_pos hj] at h2
        exact h.row j r lj h1 h2
      · rename_i hj
        rw [if_neg hj] at h2
        split at h1
        · rename_i hj2
          rw [if_pos hj2] at h2
          cases h1; cases h2
          exact hl
        · rename_i hj2
          rw [if_neg hj2] at h2
          exact h.row (j - 1) r lj h1 h2
    exact key.step ⟨mAll.mono fun _ _ u => .inr u, fun b hb => by
      rcases hb with u | u
      · exact .inl (.inl u)
      · exact (hown b u).imp .inr id⟩

/-! ### What fits -/

theorem half_fits {W : Nat} {n : Nd} (hW : W ≤ 16) (hc : ∀ l ∈ n.rows, l.length = W) (h1 : 1 ≤ n.rows.length)
    (h : (n.kids = [] ∧ (n.rows.length - 1) * (sizeL (W : Int)).toNat ≤ 504) ∨ (n.kids.length = n.rows.length + 1 ∧ 2 + 4 * (n.kids.length - 1) + (n.rows.length - 1) * (sizeL (W : Int)).toNat ≤ 504)) :
    (∀ above, (0 < above → n.kids ≠ []) → (above = 0 → n.kids = []) → n.full W above = false → n.bytes.length ≤ 504) ∧ (∀ above, n.full W above = true → 2 ≤ n.rows.length → n.left.bytes.length ≤ 504 ∧ n.right.bytes.length ≤ 504) := by
  obtain ⟨f1, f2, f3, f4⟩ := fan_room hW
  obtain ⟨s1, s2⟩ := sizeL_nat hW
  have hs := sizeL_cases (W : Int)
  have hsz : 1 ≤ (sizeL (W : Int)).toNat := by omega
  generalize hz : (sizeL (W : Int)).toNat = z at *
  refine ⟨fun above ha ha0 hf => ?_, fun above hf h2 => ?_⟩
  · rw [Nd.bytes_length hW hc, hz]
    unfold Nd.full at hf
    simp only [Bool.or_eq_false_iff, Bool.and_eq_false_iff, decide_eq_false_iff_not] at hf
    obtain ⟨g1, g2⟩ := hf
    by_cases hk : n.kids = []
    · rw [if_pos hk]
      have hab : above = 0 := by
        rcases Nat.eq_zero_or_pos above with u | u
        · exact u
        · exact absurd hk (ha u)
      have := (f2 n.rows.length).1 (g1.resolve_left (by omega))
      omega
    · rw [if_neg hk]
      have hr := (h.resolve_left fun u => hk u.1).1
      rcases (f1 n.kids.length).1 g2 with u | u
      · have e : n.kids.length - 1 = n.rows.length := by omega
        rw [e] at u; omega
      · omega
  · have hl : ∀ l ∈ n.left.rows, l.length = W := fun l hm => hc l (List.mem_of_mem_take hm)
    have hr : ∀ l ∈ n.right.rows, l.length = W := fun l hm => hc l (by
      unfold Nd.right at hm
      split at hm <;> exact List.mem_of_mem_drop hm)
    rw [Nd.bytes_length hW hl, Nd.bytes_length hW hr, hz]
    have half1 : 1 ≤ n.rows.length / 2 := by omega
    have half2 : n.rows.length / 2 ≤ n.rows.length - 1 := by omega
    have hmul : n.rows.length / 2 * z ≤ (n.rows.length - 1) * z := Nat.mul_le_mul_right _ half2
    by_cases hk : n.kids = []
    · have e1 : n.left = ⟨[], n.rows.take (n.rows.length / 2)⟩ := by unfold Nd.left; rw [hk]; rfl
      have e2 : n.right = ⟨[], n.rows.drop (n.rows.length / 2)⟩ := by unfold Nd.right; rw [if_pos hk]
      have hm2 : (n.rows.length - n.rows.length / 2) * z ≤ (n.rows.length - 1) * z := Nat.mul_le_mul_right _ (by omega)
      have h0 : (n.rows.length - 1) * z ≤ 504 := by
        rcases h with u | u
        · exact u.2
        · rw [hk] at u; simp at u
      rw [e1, e2]
      simp only [if_pos, List.length_take, List.length_drop, Nat.mul_zero, Nat.zero_add]
      rw [Nat.min_eq_left (by omega)]
      omega
    · obtain ⟨u1, u2⟩ := h.resolve_left fun u => hk u.1
      have e2 : n.right = ⟨n.kids.drop (n.rows.length / 2 + 1), n.rows.drop (n.rows.length / 2 + 1)⟩ := by unfold Nd.right; rw [if_neg hk]
      have hm2 : (n.rows.length - (n.rows.length / 2 + 1)) * z ≤ (n.rows.length - 1) * z := Nat.mul_le_mul_right _ (by omega)
      rw [e2]
      unfold Nd.left
      simp only [List.length_take, List.length_drop]
      rw [Nat.min_eq_left (by omega), Nat.min_eq_left (by omega)]
      constructor <;> split <;> omega
end Go.Proofs.YtmdiinakfpgdjaaDoor

/-
  Trees: a row is put in: the walk.
-/
namespace Go.Proofs.YtmdiinakfpgdjaaDoor
open Go.MapKept

theorem St.fin_N {x : St} {w : Int} {q above page : Nat} {n : Nd} {f : Bool} {o : Option (Nat × List Int)} {x' : St} (h : x.fin w q above page n = .ok f o x') : x.N ≤ x'.N := by
  unfold St.fin at h
  split at h
  · split at h
    · cases h; exact Nat.le_succ _
    · cases h
  · cases h; exact Nat.le_refl _
theorem St.add_N {x : St} {w : Int} {q depth : Nat} {l : List Int} : ∀ {above page : Nat} {s : Span} {f : Bool} {o : Option (Nat × List Int)} {x' : St}, x.add w q depth l above page s = .ok f o x' → x.N ≤ x'.N
  | 0, page, s, f, o, x', h => by
    unfold St.add at h
    split at h
    · cases h
    · split at h
      · cases h; exact Nat.le_refl _
      · exact St.fin_N h
  | above + 1, page, s, f, o, x', h => by
    unfold St.add at h
    split at h
    · cases h
    · split at h
      · rename_i hr
        exact Nat.le_trans (St.add_N hr) (St.fin_N h)
      · exact St.add_N h
theorem Step.drop {F F1 F2 : Nat → Prop} {H A B : Heap} {nb : Nat} (S : Step F F1 H A) (hn : H.size ≤ nb) (T : Step (fun b => F1 b ∨ b = nb) (fun b => F2 b ∨ b = nb) A B) : Step F F2 H B := by
  have hz := S.mod.size
  refine ⟨⟨by have := T.mod.size; omega, fun b hb hF => ?_⟩, fun b hb => ?_⟩
  · rw [T.mod.same b (by omega) fun u => by
      rcases u with u | u
      · rcases S.own b u with v | v
        · exact hF v
        · omega
      · omega]
    exact S.mod.same b hb hF
  · rcases T.own b (.inl hb) with u | u
    · rcases u with u | u
      · exact S.own b u
      · exact .inr (by omega)
    · exact .inr (by omega)
def lbB (l : Sl) (b : Nat) : Prop := ∃ ad, l.a = some ad ∧ ad.block = b

section
variable {k p dp : Nat} {t : Tr} {q : Nat} {I : Pl → St → Nat → Prop} {B C : Pl → Int → Prop} {ll : List Int} {l : Sl}

/-- What a call that put a row in answers. -/
def AddK (K : (Bool × Option Addr × Sl × Int) → Heap → Prop) (W base : Nat) (l : Sl) (F : Nat → Prop) (H : Heap) (fresh : Bool) : Option (Nat × List Int) → Prop
  | none => K (fresh, none, nilT, 0) H
  | some (pg, ul) => ul.length = W → ∀ mb v1 v2 up, RowT H mb ty_tree_node #[.int .i64 (pg : Int), v1, v2] → ¬ F mb → base ≤ mb → RowOk (fun b => F b ∨ (b < base ∧ ¬ lbB l b)) H up ul → K (fresh, some ⟨mb, 0, none⟩, up, 0) H

set_option maxHeartbeats 4000000 in
/-- The end of a call: the node is written, cut if it is too full. -/
theorem tfin_ok {W above page base : Nat} {F : Nat → Prop} {H : Heap} {s : Pl} {x : St} {m nb : Nat} {sk sr : Sl} {n : Nd} {K : (Bool × Option Addr × Sl × Int) → Heap → Prop} (S : Store t.name q I B C) (hw : t.width = (W : Int)) (hW : W ≤ 16)
    (hI : I s x m) (hm : m + 2 ≤ 30000000000) (hg : Gl H) (ht : TreeB H k p t) (hp : PoolAt F H p dp s) (hk : ¬ F k) (hkb : k < base) (hnb : base ≤ nb) (hbH : base ≤ H.size)
    (hn : NodeR (fun b => F b ∨ (b < base ∧ ¬ lbB l b)) H nb (page : Int) sk sr n) (hck : sk.n ≤ sk.c) (hcr : sr.n ≤ sr.c) (hpx : page < x.N) (hcols : ∀ r ∈ n.rows, r.length = W) (h1 : 1 ≤ n.rows.length)
    (hshape : (above = 0 ∧ n.kids = [] ∧ (n.rows.length - 1) * (sizeL (W : Int)).toNat ≤ 504) ∨ (0 < above ∧ n.kids.length = n.rows.length + 1 ∧ 2 + 4 * (n.kids.length - 1) + (n.rows.length - 1) * (sizeL (W : Int)).toNat ≤ 504))
    (hK1 : ∀ fresh o x', x.fin t.width q above page n = .ok fresh o x' → ∀ F' H' s', PoolAt F' H' p dp s' → Step (fun b => F b ∨ b = nb) (fun b => F' b ∨ b = nb) H H' → I s' x' (m + 2) → AddK K W base l F' H' fresh o)
    (hKB : x.fin t.width q above page n = .quota → ∀ F' H' s' e f o up, PoolAt F' H' p dp s' → Step (fun b => F b ∨ b = nb) (fun b => F' b ∨ b = nb) H H' → B s' e → K (f, o, up, e) H')
    (hKC : ∀ F' H' s' e f o up, PoolAt F' H' p dp s' → Step (fun b => F b ∨ b = nb) (fun b => F' b ∨ b = nb) H H' → C s' e → K (f, o, up, e) H') :
    cut (Option Addr × Sl) (fun J_1 => ∃ G_2 : Heap → Prop, G_2 H ∧ br ((above : Int) == (0 : Int)) (optK (at0 nb) fun a_10 => ldC cSl G_2 (a_10.add 2) fun (x_9 : Sl) => optK (at0 k) fun a_11 => ld (cInt .i64) H (a_11.add 2) fun (x_10 : Int) => row_Room.sp x_10 H fun (r_7 : Int) H18 => G_2 H18 ∧ br (decide ((x_9.n : Int) > r_7)) (tree_Tree_split.sp (at0 k) (at0 nb) H18 fun (r_8 : (Option Addr × Sl × Int)) H19 => br (r_8.2.2 != (0 : Int)) (K (false, none, (Sl.mk none 0 0), r_8.2.2) H19) (J_1 (r_8.1, r_8.2.1) H19)) (optK (at0 nb) fun a_12 => ldC cSl G_2 (a_12.add 1) fun (x_11 : Sl) => tree_Tree_fan.sp (at0 k) H18 fun (r_9 : Int) H20 => G_2 H20 ∧ br (decide ((x_11.n : Int) > r_9)) (tree_Tree_split.sp (at0 k) (at0 nb) H20 fun (r_10 : (Option Addr × Sl × Int)) H21 => br (r_10.2.2 != (0 : Int)) (K (false, none, (Sl.mk none 0 0), r_10.2.2) H21) (J_1 (r_10.1, r_10.2.1) H21)) (J_1 (none, (Sl.mk none 0 0)) H20))) (optK (at0 nb) fun a_13 => ldC cSl G_2 (a_13.add 1) fun (x_12 : Sl) => tree_Tree_fan.sp (at0 k) H fun (r_11 : Int) H22 => G_2 H22 ∧ br (decide ((x_12.n : Int) > r_11)) (tree_Tree_split.sp (at0 k) (at0 nb) H22 fun (r_12 : (Option Addr × Sl × Int)) H23 => br (r_12.2.2 != (0 : Int)) (K (false, none, (Sl.mk none 0 0), r_12.2.2) H23) (J_1 (r_12.1, r_12.2.1) H23)) (J_1 (none, (Sl.mk none 0 0)) H22))) fun (z_1 : (Option Addr × Sl)) H17 => tree_Tree_write.sp (at0 k) (at0 nb) H17 fun (r_13 : Int) H24 => K (true, z_1.1, z_1.2, r_13) H24 := by
  have hrln := hn.rows.len
  have hkln : sk.n = n.kids.length := by have := hn.kids.len; simpa using this
  have hkn : k ≠ nb := by omega
  have hsz := sizeL_cases (W : Int)
  obtain ⟨f1, f2, f3, f4⟩ := fan_room hW
  obtain ⟨s1, s2⟩ := sizeL_nat hW
  have hmul : n.rows.length - 1 ≤ (n.rows.length - 1) * (sizeL (W : Int)).toNat := Nat.le_mul_of_pos_right _ (by omega)
  have hrows : n.rows.length ≤ 505 := by rcases hshape with ⟨_, _, u⟩ | ⟨_, _, u⟩ <;> omega
  have hkids : n.kids.length ≤ 504 := by
    rcases hshape with ⟨_, u, _⟩ | ⟨_, _, u⟩
    · rw [u]; simp
    · omega
  have hin : n.kids = [] ∨ n.kids.length = n.rows.length + 1 := by rcases hshape with ⟨_, u, _⟩ | ⟨_, u, _⟩; exact .inl u; exact .inr u
  have hab : (0 < above → n.kids ≠ []) ∧ (above = 0 → n.kids = []) := by
    rcases hshape with ⟨u, v, _⟩ | ⟨u, v, _⟩
    · exact ⟨fun w => by omega, fun _ => v⟩
    · exact ⟨fun _ w => by rw [w] at v; simp at v, fun w => by omega⟩
  obtain ⟨hf1, hf2⟩ := half_fits hW hcols h1 (by rcases hshape with ⟨_, u⟩ | ⟨_, u⟩; exact .inl u; exact .inr u)
  have hcol16 : ∀ r ∈ n.rows, r.length ≤ 16 := fun r hr => by rw [hcols r hr]; exact hW
  unfold St.fin at hK1 hKB
  rw [hw] at hK1 hKB
  -- the new node, cut off
  have hsplit : ∀ (J : Option Addr × Sl → Heap → Prop) (A : Heap), Ext H A → n.full W above = true →
      (x.N < q → ∀ F' H' s' mb v1 v2 up skl srl, PoolAt F' H' p dp s' → Step (fun b => F b ∨ b = nb) (fun b => F' b ∨ b = nb) H H' → I s' (x.more n.right) (m + 1) → NodeR (fun b => F' b ∨ (b < base ∧ ¬ lbB l b)) H' nb (page : Int) skl srl n.left →
        RowT H' mb ty_tree_node #[.int .i64 (x.N : Int), v1, v2] → ¬ F' mb → mb ≠ nb → base ≤ mb → RowOk (fun b => (F' b ∨ (b < base ∧ ¬ lbB l b)) ∨ b = nb) H' up n.up → J (some ⟨mb, 0, none⟩, up) H') →
      tree_Tree_split.sp (at0 k) (at0 nb) A fun (r_8 : (Option Addr × Sl × Int)) H19 => br (r_8.2.2 != (0 : Int)) (K (false, none, (Sl.mk none 0 0), r_8.2.2) H19) (J (r_8.1, r_8.2.1) H19) := by
    intro J A eA hf hJ
    have h2 : 2 ≤ n.rows.length := by
      unfold Nd.full at hf
      simp only [Bool.or_eq_true, Bool.and_eq_true, decide_eq_true_eq] at hf
      rcases hf with ⟨_, u⟩ | u
      · omega
      · rcases hin with v | v
        · rw [v] at u; simp at u; omega
        · omega
    have hq := hf2 above hf h2
    have hrr : n.right.rows.length ≤ 504 := by
      unfold Nd.right
      split
      · show (n.rows.drop _).length ≤ _; rw [List.length_drop]; omega
      · show (n.rows.drop _).length ≤ _; rw [List.length_drop]; omega
    have hzA := eA.size
    have SA : Step (fun b => F b ∨ b = nb) (fun b => F b ∨ b = nb) H A := .ofExt eA
    refine tsplit_ok (X := fun b => b < base ∧ ¬ lbB l b) S hI (by omega) (hg.mod eA id) (ht.ext eA) (hp.ext eA) hk hkn (hn.step (.ofExt eA)) hck hcr h1 hin hq.2 hkids (by omega) hrr hcol16 (fun hN F' H' s' mb v1 v2 up skl srl p1 S1 I1 n1 r1 c1 c2 c3 u1 => ?_) (fun hN F' H' s' e o up p1 S1 hB => ?_) (fun F' H' s' e o up p1 S1 hC => ?_)
    · refine br_f rfl ?_
      exact hJ hN F' H' s' mb v1 v2 up skl srl p1 (SA.trans S1) I1 n1 r1 c1 c2 (by omega) u1
    · refine br_t (by have := (S.errB hB).1; simpa using this) ?_
      refine hKB ?_ F' H' s' e _ _ _ p1 (SA.trans S1) hB
      rw [if_pos hf, if_neg hN]
    · refine br_t (by have := (S.errC hC).1; simpa using this) ?_
      exact hKC F' H' s' e _ _ _ p1 (SA.trans S1) hC
  obtain ⟨JJ, hJJ⟩ : ∃ JJ : Option Addr × Sl → Heap → Prop, ∀ z A, JJ z A ↔ ((n.full W above = true ∧ x.N < q ∧ ∃ F' s' mb v1 v2 up skl srl, z = (some (⟨mb, 0, none⟩ : Addr), up) ∧ PoolAt F' A p dp s' ∧ Step (fun b => F b ∨ b = nb) (fun b => F' b ∨ b = nb) H A ∧ I s' (x.more n.right) (m + 1) ∧ NodeR (fun b => F' b ∨ (b < base ∧ ¬ lbB l b)) A nb (page : Int) skl srl n.left ∧
        RowT A mb ty_tree_node #[.int .i64 (x.N : Int), v1, v2] ∧ ¬ F' mb ∧ mb ≠ nb ∧ base ≤ mb ∧ RowOk (fun b => (F' b ∨ (b < base ∧ ¬ lbB l b)) ∨ b = nb) A up n.up) ∨ (n.full W above = false ∧ z = (none, nilT) ∧ Ext H A)) := ⟨_, fun _ _ => Iff.rfl⟩
  refine ⟨JJ, ?_, ?_⟩
  · refine ⟨fun D => Ext H D, .refl _ _, ?_⟩
    have hfanT : ∀ (A : Heap), Ext H A → (decide (above = 0) && decide ((n.rows.length : Int) > roomL W)) = false →
        optK (at0 nb) fun a_12 => ldC cSl (fun D => Ext H D) (a_12.add 1) fun (x_11 : Sl) => tree_Tree_fan.sp (at0 k) A fun (r_9 : Int) H20 => Ext H H20 ∧ br (decide ((x_11.n : Int) > r_9)) (tree_Tree_split.sp (at0 k) (at0 nb) H20 fun (r_10 : (Option Addr × Sl × Int)) H21 => br (r_10.2.2 != (0 : Int)) (K (false, none, (Sl.mk none 0 0), r_10.2.2) H21) (JJ (r_10.1, r_10.2.1) H21)) (JJ (none, (Sl.mk none 0 0)) H20) := by
      intro A eA hr
      unfold at0
      simp only [optK_eq]
      refine RowT.ldC (c := cSl) (i := 1) (x := sk) (cs := fun _ => #[.int .i64 (page : Int), sk.v, sr.v]) (fun D hD => hn.row.ext hD) (fun _ _ => rfl) ?_
      refine tfan_ok (ht.ext eA) hw hW fun A2 e2 => ?_
      have eA2 := eA.trans e2
      refine ⟨eA2, ?_⟩
      refine br_mk (fun hc => ?_) (fun hc => ?_)
      · have hf : n.full W above = true := by
          unfold Nd.full
          rw [hr, Bool.false_or, ← hkln]; exact hc
        exact hsplit JJ A2 eA2 hf fun hN F' H' s' mb v1 v2 up skl srl p1 S1 I1 n1 r1 c1 c2 c3 u1 => (hJJ _ _).2 (.inl ⟨hf, hN, F', s', mb, v1, v2, up, skl, srl, rfl, p1, S1, I1, n1, r1, c1, c2, c3, u1⟩)
      · have hf : n.full W above = false := by
          unfold Nd.full
          rw [hr, Bool.false_or, ← hkln]; exact hc
        exact (hJJ _ _).2 (.inr ⟨hf, rfl, eA2⟩)
    refine br_mk (fun hc => ?_) (fun hc => ?_)
    · have ha0 : above = 0 := by have : (above : Int) = 0 := by simpa using hc
                                 omega
      unfold at0
      simp only [optK_eq]
      refine RowT.ldC (c := cSl) (i := 2) (x := sr) (cs := fun _ => #[.int .i64 (page : Int), sk.v, sr.v]) (fun D hD => hn.row.ext hD) (fun _ _ => rfl) ?_
      refine RowT.ld (c := cInt .i64) (i := 2) (x := t.width) ht rfl ?_
      rw [hw]
      refine rowRoom_ok ?_
      refine ⟨.refl _ _, ?_⟩
      refine br_mk (fun hc2 => ?_) (fun hc2 => ?_)
      · have hf : n.full W above = true := by
          unfold Nd.full
          rw [ha0, ← hrln, hc2]; rfl
        exact hsplit JJ H (.refl _ _) hf fun hN F' H' s' mb v1 v2 up skl srl p1 S1 I1 n1 r1 c1 c2 c3 u1 => (hJJ _ _).2 (.inl ⟨hf, hN, F', s', mb, v1, v2, up, skl, srl, rfl, p1, S1, I1, n1, r1, c1, c2, c3, u1⟩)
      · exact hfanT H (.refl _ _) (by rw [← hrln, hc2]; simp)
    · have ha0 : above ≠ 0 := fun u => by subst u; simp at hc
      exact hfanT H (.refl _ _) (by simp [ha0])
  · intro z A hz
    rcases (hJJ z A).1 hz with (⟨hf, hN, F', s', mb, v1, v2, up, skl, srl, rfl, p1, S1, I1, n1, r1, c1, c2, c3, u1⟩ | ⟨hf, rfl, eA⟩)
    · have h2 : 2 ≤ n.rows.length := by
        unfold Nd.full at hf
        simp only [Bool.or_eq_true, Bool.and_eq_true, decide_eq_true_eq] at hf
        rcases hf with ⟨_, u⟩ | u
        · omega
        · rcases hin with v | v
          · rw [v] at u; simp at u; omega
          · omega
      have hq := hf2 above hf h2
      have hkF : ¬ F' k := fun u => by
        rcases S1.own k (.inl u) with v | v
        · rcases v with v | v
          · exact hk v
          · exact hkn v
        · omega
      have htA : TreeB A k p t := ht.mod S1.mod fun u => u.elim hk hkn
      have hgA : Gl A := hg.mod S1.mod fun u => u.elim hp.glob fun v => by
        have q2 := hg 0 (by decide)
        rw [v] at q2
        have := hCell_of (o := 0) hn.row (v := .int .i64 (page : Int)) rfl
        rw [this] at q2; cases q2
      have hlk : n.left.kids.length ≤ 504 := by show (n.kids.take _).length ≤ _; rw [List.length_take]; omega
      have hlr : n.left.rows.length ≤ 504 := by show (n.rows.take _).length ≤ _; rw [List.length_take]; omega
      refine twrite_old S I1 (by omega) hgA htA p1 hkF hkn (n1.mono fun b _ u => .inl u) (by show page < x.N + 1; omega) hq.1 hlk hlr (fun r hr => hcol16 r (List.mem_of_mem_take hr)) (fun F3 H3 s3 p3 S3 I3 n3 => ?_) (fun F3 H3 s3 e p3 S3 c4 hC => ?_)
      · have := hK1 true (some (x.N, n.up)) ((x.more n.right).put page n.left) (by rw [if_pos hf, if_pos hN]) F3 H3 s3 p3 (S1.trans S3) I3
        have hul : n.up.length = W := by
          unfold Nd.up
          rw [getDo (by omega)]
          exact hcols _ (List.getElem_mem _)
        have r3 : RowT H3 mb ty_tree_node #[.int .i64 (x.N : Int), v1, v2] := r1.mod S3.mod fun u => u.elim c1 c2
        have c5 : ¬ F3 mb := fun u => by
          rcases S3.own mb (.inl u) with v | v
          · exact v.elim c1 c2
          · have := obj_lt r1; omega
        have S3X : Step (fun b => (F' b ∨ (b < base ∧ ¬ lbB l b)) ∨ b = nb) (fun b => (F3 b ∨ (b < base ∧ ¬ lbB l b)) ∨ b = nb) A H3 := S3.into (fun b _ u => u.elim (fun v => .inl (.inl v)) .inr) fun b u => by
          rcases u with (u | u) | u
          · exact .inl (.inl u)
          · exact .inr (.inl (.inl (.inr u)))
          · exact .inl (.inr u)
        exact this hul mb v1 v2 up r3 c5 c3 ((u1.step S3X).mono fun b _ u => .inl u)
      · exact hKC F3 H3 s3 e _ _ _ p3 (S1.trans S3) hC
    · have SA : Step (fun b => F b ∨ b = nb) (fun b => F b ∨ b = nb) H A := .ofExt eA
      have hfit := hf1 above hab.1 hab.2 hf
      have hr5 : n.rows.length ≤ 504 := by
        have hb := Nd.bytes_length hW hcols
        have hmul2 : n.rows.length ≤ n.rows.length * (sizeL (W : Int)).toNat := Nat.le_mul_of_pos_right _ (by omega)
        omega
      refine twrite_old S hI (by omega) (hg.mod eA id) (ht.ext eA) (hp.ext eA) hk hkn ((hn.step (.ofExt eA)).mono fun b _ u => .inl u) hpx hfit hkids hr5 hcol16 (fun F3 H3 s3 p3 S3 I3 n3 => ?_) (fun F3 H3 s3 e p3 S3 c4 hC => ?_)
      · exact hK1 true none (x.put page n) (by rw [if_neg (by rw [hf]; simp)]) F3 H3 s3 p3 (SA.trans S3) (S.up I3 (by omega))
      · exact hKC F3 H3 s3 e _ _ _ p3 (SA.trans S3) hC
end
end Go.Proofs.YtmdiinakfpgdjaaDoor

/-
  Trees: a row is put in below a node: the walk.
-/
namespace Go.Proofs.YtmdiinakfpgdjaaDoor
open Go.MapKept

section
variable {k p dp : Nat} {t : Tr} {q : Nat} {I : Pl → St → Nat → Prop} {B C : Pl → Int → Prop} {x : St} {ll : List Int} {l : Sl}

theorem node_shape {W depth above : Nat} {w : Int} {n : Nd} {s : Span} (hw : w = (W : Int)) (ok : n.Ok w depth above s) : n.kids = [] ∧ above = 0 ∧ n.rows.length * (sizeL (W : Int)).toNat ≤ 504 ∨ 0 < above ∧ n.kids.length = n.rows.length + 1 ∧ 2 + 4 * n.kids.length + n.rows.length * (sizeL (W : Int)).toNat ≤ 504 := by
  have hf := ok.fit
  rw [hw] at hf
  rcases Nat.eq_zero_or_pos above with h | h
  · have hk := ok.leaf h
    rw [if_pos hk] at hf
    exact .inl ⟨hk, h, by omega⟩
  · obtain ⟨i1, i2, i3⟩ := ok.inner h
    have hk : n.kids ≠ [] := fun u => by rw [u] at i1; simp at i1
    rw [if_neg hk] at hf
    exact .inr ⟨h, i1, by omega⟩

set_option maxHeartbeats 1000000 in
/-- A row is put into a node's rows. -/
theorem NodeO.insRow {F : Nat → Prop} {H : Heap} {base z nb i : Nat} {page : Int} {sk sr l0 l1 : Sl} {l1l : List Int} {rs : List Sl} {n : Nd} {Q : Heap → Prop} (o : NodeO F H base nb page sk sr rs n) (hz : z ≤ base) (hF : ∀ b, F b → b < H.size) (hzH : z ≤ H.size)
    (lOk : RowOk (fun c => F c ∨ (c < z ∧ ¬ lbB l0 c)) H l1 l1l) (hln : ∀ ad, l1.a = some ad → ¬ ownB sr ad.block ∧ ad.block ≠ nb ∧ ¬ ownB sk ad.block) (hi : i ≤ n.rows.length) (hbig : n.rows.length ≤ 1000000)
    (hQ : ∀ A sr', RowT A nb ty_tree_node #[.int .i64 page, sk.v, sr'.v] → RowsN (fun c => ((F c ∨ (c < z ∧ ¬ lbB l0 c)) ∨ c = nb) ∨ ownB sk c) A sr' (insAt i l1l n.rows) → sr'.n ≤ sr'.c → Owns A 0 ty_int 1 sk ((n.kids.map Int.ofNat).map (Value.int .i64)) → Mod (fun c => ownB sr c ∨ c = nb) H A → Q A) :
    newC H #[l1.v] ty_sl_uint64 fun p_1 H5 => slices_Insert_sl_sl_uint64_sl_uint64.sp sr (i : Int) (Sl.mk (some p_1) 1 1) H5 fun (r_2 : Sl) H6 => st H6 (Addr.add ⟨nb, 0, none⟩ 2) r_2.v fun H7 => Q H7 := by
  have hnb := o.nb
  have hX : ∀ c, (c < z ∧ ¬ lbB l0 c) → c < base ∨ c = nb := fun c u => .inl (by omega)
  have qr := o.q (X := fun c => c < z ∧ ¬ lbB l0 c) hX
  have hlq : RowOk (fun c => (F c ∨ (c < z ∧ ¬ lbB l0 c)) ∨ ownB sr c) H l1 l1l := by
    refine ⟨fun ad ha => ⟨(lOk.off ad ha).1, fun u => ?_⟩, lOk.ints⟩
    rcases u with u | u
    · exact (lOk.off ad ha).2 u
    · exact (hln ad ha).1 u
  refine qr.ins hlq (fun c u => ?_) hi hbig fun sr' A qa ma ba => ?_
  · rcases u with u | u
    · exact hF c u
    · omega
  have hnA : ¬ ownB sr nb := o.srN
  have rA : RowT A nb ty_tree_node #[.int .i64 page, sk.v, sr.v] := o.row.mod ma hnA
  refine RowT.st rA (i := 2) (by simp) rfl fun A2 rA2 mA2 zA2 => ?_
  have hzA := ma.size
  have qn := qa.toN
  have hcap := qa.out.cap
  have hskA : ∀ c, ownB sk c → ¬ ownB sr c := o.kids.apart o.rows.out (by decide)
  have kidsA2 : Owns A2 0 ty_int 1 sk ((n.kids.map Int.ofNat).map (Value.int .i64)) := (o.kids.mod ma hskA).mod mA2 fun c u v => o.skN (v ▸ u)
  have hsr'nb : ∀ c, ownB sr' c → c ≠ nb := fun c u v => by
    obtain ⟨cur, hcu⟩ := qa.out.obj _ u
    rw [v] at hcu
    exact absurd (cells_ty hcu rA) (by decide)
  have hrow : ∀ j (hj : j < (insAt i l1l n.rows).length), ∃ ad r, sr'.a = some ad ∧ hCell A (ad.add j) = some (Sl.v r) ∧ Off (fun c => ((F c ∨ (c < z ∧ ¬ lbB l0 c)) ∨ c = nb) ∨ ownB sk c) A r ∧ Ints .u64 A r ((insAt i l1l n.rows)[j]) := by
    intro j hj
    have hir : j < (insAt i l1 rs).length := by rw [qa.len]; exact hj
    obtain ⟨ad, ha, hc'⟩ := qa.out.reads.at (i := j) (by simpa using hir)
    have hr := qa.row j _ _ (List.getElem?_eq_getElem hir) (List.getElem?_eq_getElem hj)
    refine ⟨ad, _, ha, by simpa using hc', fun ad' ha' => ⟨(hr.off ad' ha').1, fun u => ?_⟩, hr.ints⟩
    have hm : (insAt i l1 rs)[j] ∈ rs ∨ (insAt i l1 rs)[j] = l1 := insAt_mem.1 (List.getElem_mem hir)
    rcases u with (u | u) | u
    · exact (hr.off ad' ha').2 (.inl u)
    · rcases hm with v | v
      · exact o.rsN _ v ⟨ad', ha', u⟩
      · rw [v] at ha'
        exact (hln ad' ha').2.1 u
    · rcases hm with v | v
      · obtain ⟨lv, hlv⟩ := o.rows.rowAt v
        exact hlv.apart o.kids (by decide) _ ⟨ad', ha', rfl⟩ u
      · rw [v] at ha'
        exact (hln ad' ha').2.2 u
  have qn2 : RowsN (fun c => ((F c ∨ (c < z ∧ ¬ lbB l0 c)) ∨ c = nb) ∨ ownB sk c) A2 sr' (insAt i l1l n.rows) := by
    refine ⟨qn.len, fun ad ha => ⟨by have := (qn.off ad ha).1; omega, fun u => ?_⟩, fun j hj => ?_⟩
    · rcases u with (u | u) | u
      · exact (qn.off ad ha).2 u
      · exact hsr'nb _ ⟨ad, ha, rfl⟩ u
      · exact qa.out.apart (o.kids.mod ma hskA) (by decide) _ ⟨ad, ha, rfl⟩ u
    · obtain ⟨ad, r, w1, w2, w3, w4⟩ := hrow j hj
      refine ⟨ad, r, w1, mA2.cell w2 (by rw [add_block]; exact hsr'nb _ ⟨ad, w1, rfl⟩), fun ad' ha' => ⟨by have := (w3 ad' ha').1; omega, (w3 ad' ha').2⟩, w4.mod mA2 fun ad' ha' u => (w3 ad' ha').2 (.inl (.inr u))⟩
  exact hQ A2 sr' rA2 qn2 hcap kidsA2 ((ma.mono fun _ _ u => .inl u).trans (mA2.mono fun _ _ u => .inr u))

set_option maxHeartbeats 4000000 in
theorem tadd_ok {W depth : Nat} (S : Store t.name q I B C) (hw : t.width = (W : Int)) (hW : W ≤ 16) (hd : t.depth = (depth : Int)) (hlw : ll.length = W) : ∀ (above page : Nat) (sp : Span) (a b : Sl) (F : Nat → Prop) (H : Heap) (s : Pl) (m : Nat) (K : (Bool × Option Addr × Sl × Int) → Heap → Prop),
    I s x m → m + 3 * (above + 1) ≤ 30000000000 → above ≤ 1000000 → Gl H → TreeB H k p t → PoolAt F H p dp s → ¬ F k → page ≤ 1000000000000 → SpanAt F H a b sp → RowOk F H l ll →
    (∀ fresh o x', x.add t.width q depth ll above page sp = .ok fresh o x' → ∀ F' H' s', PoolAt F' H' p dp s' → Step F F' H H' → I s' x' (m + 3 * (above + 1)) → AddK K W H.size l F' H' fresh o) →
    (x.add t.width q depth ll above page sp = .store → ∀ F' H' s', PoolAt F' H' p dp s' → Step F F' H H' → I s' x (m + 3 * (above + 1)) → K (false, none, nilT, 280) H') →
    (x.add t.width q depth ll above page sp = .quota → ∀ F' H' s' e f o up, PoolAt F' H' p dp s' → Step F F' H H' → B s' e → K (f, o, up, e) H') →
    (∀ F' H' s' e f o up, PoolAt F' H' p dp s' → Step F F' H H' → C s' e → K (f, o, up, e) H') → tree_Tree_add.sp (at0 k) (page : Int) (above : Int) a b l H K := by
  intro above
  induction above with
  | zero =>
    intro page sp a b F H s m K hI hm _ hg ht hp hk hpg hs hl hK1 hK2 hKB hKC
    refine tree_Tree_add.of ?_
    unfold tree_Tree_add.vc
    have hT := (S.pre hI).2.2.2.2.2
    refine newC_rowT fun H1 z1 r1 e1 => ?_
    have hkl := obj_lt ht
    have T1 : Step F F H H1 := .ofExt e1
    refine RowT.ldA (c := cAgg [cSl, cSl]) (x := (a, b)) r1 rfl rfl ?_
    unfold St.add at hK1 hK2 hKB
    refine tnode_ok (above := 0) S hI (by omega) (hg.mod e1 id) (ht.ext e1) (hp.ext e1) hk hpg (hs.step T1) hd (fun n hn F2 H2 s2 nb sk sr rs p2 S2 I2 o2 => ?_) (fun hn F2 H2 s2 p2 S2 I2 => ?_) (fun F2 H2 s2 e p2 S2 hC => ?_)
    rotate_left
    · refine br_t rfl ?_
      rw [hn] at hK2
      exact hK2 rfl F2 H2 s2 p2 (T1.trans S2) (S.up I2 (by omega))
    · refine br_t (by have := (S.errC hC).1; simpa using this) ?_
      exact hKC F2 H2 s2 e _ _ _ p2 (T1.trans S2) hC
    refine br_f rfl ?_
    rw [hn] at hK1 hKB
    simp only at hK1 hKB
    have T2 := T1.trans S2
    have hx : page < x.N := by
      unfold St.node at hn
      split at hn
      · assumption
      · cases hn
    have ok := node_ok hT hn
    have hsize := ok.size
    have hk0 := ok.leaf rfl
    have hcols : ∀ r ∈ n.rows, r.length ≤ 16 := fun r hr => by rw [ok.cols r hr, hw]; simpa using hW
    have t2 : TreeB H2 k p t := (ht.ext e1).mod S2.mod hk
    have hg2 : Gl H2 := hg.mod T2.mod hp.glob
    have hkF : ¬ F2 k := fun u => (T2.own _ u).elim hk fun v => by omega
    have hz2 := T2.mod.size
    have hnb := o2.nb
    have l2 : RowOk F2 H2 l ll := hl.step T2
    have nr := o2.read
    refine ⟨fun _ A => sameAt n.rows ll = false ∧ ∃ sk' sr', NodeR (fun b => F2 b ∨ (b < H.size ∧ ¬ lbB l b)) A nb (page : Int) sk' sr' ⟨n.kids, insAt (below ll n.rows) ll n.rows⟩ ∧ sk'.n ≤ sk'.c ∧ sr'.n ≤ sr'.c ∧ Step F F2 H A ∧ PoolAt F2 A p dp s2, ?_, ?_⟩
    · refine br_t rfl ?_
      unfold at0
      simp only [optK_eq]
      refine RowT.ld (c := cSl) (i := 2) (x := sr) nr.row rfl ?_
      refine tbin_ok nr.rows l2.ints (holds_rises ok.holds) hcols (by omega) ?_
      refine br_mk (fun hc => ?_) (fun hc => ?_)
      · have hc : sameAt n.rows ll = true := hc
        have := hK1 false none x (by rw [if_pos hc]) F2 H2 s2 p2 T2 (S.up I2 (by omega))
        exact this
      · have hc : sameAt n.rows ll = false := hc
        refine RowT.ld (c := cSl) (i := 2) (x := sr) nr.row rfl ?_
        have hlX : RowOk (fun c => F2 c ∨ (c < H.size ∧ ¬ lbB l c)) H2 l ll := ⟨fun ad ha => ⟨(l2.off ad ha).1, fun u => u.elim (l2.off ad ha).2 fun v => v.2 ⟨ad, ha, rfl⟩⟩, l2.ints⟩
        refine o2.insRow (z := H.size) (l0 := l) (by omega) (fun c u => p2.lt c u) (by omega) hlX (fun ad ha => ?_) (below_leT _ _) (by omega) fun A sr' rA qA hcap kA mA => ?_
        · have := (hl.off ad ha).1
          exact ⟨fun u => by have := (o2.sr _ u).1; omega, by omega, fun u => by have := (o2.sk _ u).1; omega⟩
        have mAF : ∀ c, ownB sr c ∨ c = nb → H.size ≤ c ∧ ¬ F2 c := fun c u => by
          rcases u with u | u
          · have := o2.sr c u; exact ⟨by omega, this.2⟩
          · subst u; exact ⟨by omega, hnb.2⟩
        have hzA := mA.size
        have pA : PoolAt F2 A p dp s2 := p2.keep fun c hc2 hl2 => mA.same c hl2 fun u => (mAF c u).2 hc2
        have SA : Step F F2 H A := ⟨⟨by omega, fun c hc2 hn2 => (mA.same c (by omega) fun u => by have := (mAF c u).1; omega).trans (T2.mod.same c hc2 hn2)⟩, T2.own⟩
        refine ⟨hc, sk, sr', ⟨rA, fun u => ?_, kA.ints, fun ad ha => ⟨(kA.block _ ⟨ad, ha, rfl⟩).2, fun u => ?_⟩, qA.mono fun _ _ u => .inl u⟩, kA.cap, hcap, SA, pA⟩
        · rcases u with u | u
          · exact hnb.2 u
          · have := u.1; omega
        · rcases u with (u | u) | u
          · exact (o2.sk _ ⟨ad, ha, rfl⟩).2 u
          · have := (o2.sk _ ⟨ad, ha, rfl⟩).1; have := u.1; omega
          · exact o2.skN ⟨ad, ha, u⟩
    · rintro _ A ⟨hsm, sk', sr', nA, hck, hcr, SA, pA⟩
      rw [if_neg (by rw [hsm]; simp)] at hK1 hKB
      have hkA : ¬ F2 k := hkF
      have hsh := node_shape hw ok
      refine tfin_ok (above := 0) (base := H.size) (l := l) S hw hW I2 (by omega) (hg.mod SA.mod hp.glob) (ht.mod SA.mod hk) pA hkA hkl (by omega) SA.mod.size nA hck hcr hx (fun r hr => ?_) ?_ ?_ (fun fresh o x' hf F3 H3 s3 p3 S3 I3 => ?_) (fun hf F3 H3 s3 e f o up p3 S3 hB => ?_) (fun F3 H3 s3 e f o up p3 S3 hC => ?_)
      · rcases insAt_mem.1 hr with u | u
        · rw [ok.cols r u, hw]; simp
        · rw [u]; exact hlw
      · show 1 ≤ (insAt _ _ _).length; rw [insAt_length]; omega
      · refine .inl ⟨rfl, hk0, ?_⟩
        show ((insAt _ _ _).length - 1) * _ ≤ _
        rw [insAt_length, Nat.add_sub_cancel]
        rcases hsh with ⟨_, _, u⟩ | ⟨u, _⟩
        · exact u
        · omega
      · exact hK1 fresh o x' hf F3 H3 s3 p3 (SA.drop (by omega) S3) (S.up I3 (by omega))
      · exact hKB hf F3 H3 s3 e f o up p3 (SA.drop (by omega) S3) hB
      · exact hKC F3 H3 s3 e f o up p3 (SA.drop (by omega) S3) hC
  | succ above ih =>
    intro page sp a b F H s m K hI hm hab hg ht hp hk hpg hs hl hK1 hK2 hKB hKC
    refine tree_Tree_add.of ?_
    unfold tree_Tree_add.vc
    have hT := (S.pre hI).2.2.2.2.2
    refine newC_rowT fun H1 z1 r1 e1 => ?_
    have hkl := obj_lt ht
    have T1 : Step F F H H1 := .ofExt e1
    refine RowT.ldA (c := cAgg [cSl, cSl]) (x := (a, b)) r1 rfl rfl ?_
    unfold St.add at hK1 hK2 hKB
    refine tnode_ok (above := above + 1) S hI (by omega) (hg.mod e1 id) (ht.ext e1) (hp.ext e1) hk hpg (hs.step T1) hd (fun n hn F2 H2 s2 nb sk sr rs p2 S2 I2 o2 => ?_) (fun hn F2 H2 s2 p2 S2 I2 => ?_) (fun F2 H2 s2 e p2 S2 hC => ?_)
    rotate_left
    · refine br_t rfl ?_
      rw [hn] at hK2
      exact hK2 rfl F2 H2 s2 p2 (T1.trans S2) (S.up I2 (by omega))
    · refine br_t (by have := (S.errC hC).1; simpa using this) ?_
      exact hKC F2 H2 s2 e _ _ _ p2 (T1.trans S2) hC
    refine br_f rfl ?_
    rw [hn] at hK1 hK2 hKB
    simp only at hK1 hK2 hKB
    have T2 := T1.trans S2
    have hx : page < x.N := by
      unfold St.node at hn
      split at hn
      · assumption
      · cases hn
    have ok := node_ok hT hn
    have hsize := ok.size
    obtain ⟨i1, i2, i3⟩ := ok.inner (Nat.succ_pos _)
    have hcols : ∀ r ∈ n.rows, r.length ≤ 16 := fun r hr => by rw [ok.cols r hr, hw]; simpa using hW
    have t2 : TreeB H2 k p t := (ht.ext e1).mod S2.mod hk
    have hg2 : Gl H2 := hg.mod T2.mod hp.glob
    have hkF : ¬ F2 k := fun u => (T2.own _ u).elim hk fun v => by omega
    have hz2 := T2.mod.size
    have hnb := o2.nb
    have l2 : RowOk F2 H2 l ll := hl.step T2
    have nr := o2.read
    have hcl := child_le (n := n) (l := ll)
    have hs2 : SpanAt F2 H2 a b sp := hs.step T2
    have rp2 : RowT H2 H.size ty_tree_span #[a.v, b.v] := r1.mod S2.mod fun u => by have := hp.lt _ u; omega
    generalize hc0 : n.child ll = c0 at *
    generalize hsub : x.add t.width q depth ll above (n.kids.getD c0 0) (sp.of n c0) = r at *
    refine ⟨fun _ A => ∃ f pg ul x', r = .ok f (some (pg, ul)) x' ∧ ul.length = W ∧ ∃ F3 s3 sk' sr', NodeR (fun b => F3 b ∨ (b < H.size ∧ ¬ lbB l b)) A nb (page : Int) sk' sr' ⟨insAt (c0 + 1) pg n.kids, insAt c0 ul n.rows⟩ ∧ sk'.n ≤ sk'.c ∧ sr'.n ≤ sr'.c ∧ Step F F3 H A ∧ PoolAt F3 A p dp s3 ∧ I s3 x' (m + 1 + 3 * (above + 1)), ?_, ?_⟩
    · refine br_f (by simp only [beq_eq_false_iff_ne, ne_eq]; omega) ?_
      refine tchild_ok nr l2.ints (holds_rises ok.holds) hcols (by omega) ?_
      rw [hc0]
      unfold at0
      simp only [optK_eq]
      refine ⟨fun D => Ext H2 D, .refl _ _, ?_⟩
      refine RowT.ldC (c := cSl) (i := 1) (x := sk) (cs := fun _ => #[.int .i64 (page : Int), sk.v, sr.v]) (fun D hD => nr.row.ext hD) (fun _ _ => rfl) ?_
      have hkn : sk.n = n.kids.length := by have := nr.kids.len; simpa using this
      obtain ⟨ad, q1, q2⟩ := nr.kids.at (i := c0) (by simp; omega)
      have hkid : (List.map Int.ofNat n.kids)[c0]'(by simp; omega) = ((n.kids.getD c0 0 : Nat) : Int) := by
        simp [List.getD, List.getElem?_eq_getElem (show c0 < n.kids.length by omega)]
      rw [hkid] at q2
      refine optK_mk ad q1 ⟨⟨by omega, by omega⟩, ((n.kids.getD c0 0 : Nat) : Int), fun D hD => ?_, ?_⟩
      · simp only [Int.toNat_natCast, Nat.mul_one]
        exact hD.cell q2 id
      refine RowT.ldA (c := cAgg [cSl, cSl]) (x := (a, b)) rp2 rfl rfl ?_
      refine tof_ok hs2 nr o2.nnAt (by omega) (by omega) fun u v A2 e2 s2' => ?_
      refine ⟨e2, ?_⟩
      have eab : IntKind.i64.wrap (((above + 1 : Nat) : Int) - 1) = (above : Int) := by rw [wrap64 (by omega) (by omega)]; omega
      rw [eab]
      have hzA := e2.size
      have TA2 : Step F F2 H A2 := T2.trans (.ofExt e2)
      have hkidlt : n.kids.getD c0 0 ≤ 1000000000000 := by
        have : n.kids.getD c0 0 < 4294967296 := by
          have hlt2 : c0 < n.kids.length := by omega
          simp only [List.getD, List.getElem?_eq_getElem hlt2, Option.getD_some]
          exact ok.kids _ (List.getElem_mem hlt2)
        omega
      refine ih (n.kids.getD c0 0) (sp.of n c0) u v F2 A2 s2 (m + 1) _ I2 (by omega) (by omega) (hg2.mod e2 id) (t2.ext e2) (p2.ext e2) hkF hkidlt s2' (l2.step (.ofExt e2)) (fun f o x' hr F3 A3 s3 p3 S3 I3 => ?_) (fun hr F3 A3 s3 p3 S3 I3 => ?_) (fun hr F3 A3 s3 e f o up p3 S3 hB => ?_) (fun F3 A3 s3 e f o up p3 S3 hC => ?_)
      rotate_left
      · refine br_t rfl ?_
        rw [hsub] at hr
        rw [hr] at hK2
        exact hK2 rfl F3 A3 s3 p3 (TA2.trans S3) (S.up I3 (by omega))
      · refine br_t (by have := (S.errB hB).1; simpa using this) ?_
        rw [hsub] at hr
        rw [hr] at hKB
        exact hKB rfl F3 A3 s3 e _ _ _ p3 (TA2.trans S3) hB
      · refine br_t (by have := (S.errC hC).1; simpa using this) ?_
        exact hKC F3 A3 s3 e _ _ _ p3 (TA2.trans S3) hC
      rw [hsub] at hr
      have T3 := TA2.trans S3
      cases o with
      | none =>
        unfold AddK
        dsimp only
        refine br_f rfl ?_
        refine br_t rfl ?_
        rw [hr] at hK1
        exact hK1 f none x' rfl F3 A3 s3 p3 T3 (S.up I3 (by omega))
      | some pu =>
        obtain ⟨pg, ul⟩ := pu
        unfold AddK
        intro hul mb v1 v2 up rmb hmbF hmbz upOk
        dsimp only
        refine br_f rfl ?_
        refine br_f rfl ?_
        have S23 : Step F2 F3 H2 A3 := (Step.ofExt e2).trans S3
        have o3 := o2.step S23
        have hz3 := S23.mod.size
        refine RowT.ld (c := cSl) (i := 2) (x := sr) o3.row rfl ?_
        have hupX : RowOk (fun c => F3 c ∨ (c < H.size ∧ ¬ lbB l c)) A3 up ul := upOk.mono fun c _ u => u.imp id fun v => ⟨by omega, v.2⟩
        have hlb : ∀ c, lbB l c → c < H.size := fun c ⟨ad, ha, hb⟩ => by have := (hl.off ad ha).1; omega
        refine o3.insRow (z := H.size) (l0 := l) (by omega) (fun c u => p3.lt c u) (by omega) hupX (fun ad ha => ?_) hcl (by omega) fun A sr' rA qA hcap kA mA => ?_
        · have hof := (upOk.off ad ha).2
          refine ⟨fun u => ?_, fun u => ?_, fun u => ?_⟩
          · have h1 := (o2.sr _ u).1
            have h2 := (o2.rows.out.block _ u).2
            exact hof (.inr ⟨by omega, fun w => by have := hlb _ w; omega⟩)
          · have h2 := obj_lt o2.row
            exact hof (.inr ⟨by omega, fun w => by have := hlb _ w; omega⟩)
          · have h1 := (o2.sk _ u).1
            have h2 := (o2.kids.block _ u).2
            exact hof (.inr ⟨by omega, fun w => by have := hlb _ w; omega⟩)
        have hmbn : mb ≠ nb := fun u => by have := obj_lt o2.row; omega
        have hmbsr : ¬ ownB sr mb := fun u => by have := (o2.rows.out.block _ u).2; omega
        have rmbA := rmb.mod mA fun u => u.elim hmbsr hmbn
        refine ⟨fun D => Ext A D, .refl _ _, ?_⟩
        refine RowT.ldC (c := cSl) (i := 1) (x := sk) (cs := fun _ => #[.int .i64 (page : Int), sk.v, sr'.v]) (fun D hD => rA.ext hD) (fun _ _ => rfl) ?_
        refine RowT.ld (c := cInt .i64) (i := 0) (x := (pg : Int)) rmbA rfl ?_
        rw [succ64 _ (by omega)]
        refine newC_varT fun pp A4 hpp z4 v4 e4 => ?_
        refine ⟨e4, ?_⟩
        have hskA := (kA.block)
        refine insInts_ok (kA.ext e4) (intsOne _ _) v4 (fun u => by have := (kA.block _ u).2; omega) (by simp; omega) (by simp; omega) fun sk' A5 n5 o5 m5 b5 => ?_
        have hsknb : ¬ ownB sk nb := fun u => by
          obtain ⟨cur, hc⟩ := kA.obj _ u
          exact absurd (cells_ty hc rA) (by decide)
        have rA5 : RowT A5 nb ty_tree_node #[.int .i64 (page : Int), sk.v, sr'.v] := (rA.ext e4).mod m5 hsknb
        refine RowT.st rA5 (i := 1) (by simp) rfl fun A6 r6 m6 z6 => ?_
        have hmA := mA.size
        have hm4 := e4.size
        have hm5 := m5.size
        -- what lies where
        have mAF : ∀ c, ownB sr c ∨ c = nb → H.size ≤ c ∧ ¬ F3 c := fun c u => by
          rcases u with u | u
          · have := o3.sr c u; exact ⟨by omega, this.2⟩
          · subst u; exact ⟨by omega, o3.nb.2⟩
        have mSK : ∀ c, ownB sk c → H.size ≤ c ∧ ¬ F3 c := fun c u => by
          have := o3.sk c u; exact ⟨by omega, this.2⟩
        have pA : PoolAt F3 A p dp s3 := p3.keep fun c hc2 hl2 => mA.same c hl2 fun u => (mAF c u).2 hc2
        have pA5 : PoolAt F3 A5 p dp s3 := (pA.ext e4).keep fun c hc2 hl2 => m5.same c hl2 fun u => (mSK c u).2 hc2
        have pA6 : PoolAt F3 A6 p dp s3 := pA5.keep fun c hc2 hl2 => m6.same c hl2 fun u => o3.nb.2 (u ▸ hc2)
        have S6 : Step F F3 H A6 := ⟨⟨by have := T3.mod.size; omega, fun c hc2 hn2 => by
          have hcz := T3.mod.size
          rw [m6.same c (by omega) (by omega), m5.same c (by omega) (fun u => by have := (mSK c u).1; omega), e4.same c (by omega) id, mA.same c (by omega) fun u => by have := (mAF c u).1; omega]
          exact T3.mod.same c hc2 hn2⟩, T3.own⟩
        have hsk'nb : ∀ c, ownB sk' c → c ≠ nb := fun c u v => by
          obtain ⟨cur, hc⟩ := o5.obj _ u
          rw [v] at hc
          exact absurd (cells_ty hc rA5) (by decide)
        have hsk'F : ∀ c, ownB sk' c → H.size ≤ c ∧ ¬ F3 c := fun c u => by
          rcases b5 c u with w | w
          · exact mSK c w
          · exact ⟨by have := T3.mod.size; omega, fun w2 => by have := pA.lt c w2; omega⟩
        have SA6 : Step (fun c => ((F3 c ∨ (c < H.size ∧ ¬ lbB l c)) ∨ c = nb) ∨ ownB sk c) (fun c => ((F3 c ∨ (c < H.size ∧ ¬ lbB l c)) ∨ c = nb) ∨ ownB sk c) A A6 := ⟨(((Ext.mod e4).trans (m5.mono fun _ _ u => .inr u)).trans (m6.mono fun _ _ u => .inl (.inr u))), fun c u => .inl u⟩
        have hkids6 : Owns A6 0 ty_int 1 sk' (((insAt (c0 + 1) pg n.kids).map Int.ofNat).map (Value.int .i64)) := by
          rw [← insAt_map, ← insAt_map]
          exact o5.mod m6 fun c u v => hsk'nb c u v
        refine ⟨f, pg, ul, x', hr, hul, F3, s3, sk', sr', ⟨r6, fun u => ?_, hkids6.ints, fun ad ha => ⟨(hkids6.block _ ⟨ad, ha, rfl⟩).2, fun u => ?_⟩, (qA.step SA6).mono fun _ _ u => .inl u⟩, hkids6.cap, hcap, S6, pA6, I3⟩
        · rcases u with u | u
          · exact o3.nb.2 u
          · have := u.1; omega
        · rcases u with (u | u) | u
          · exact (hsk'F _ ⟨ad, ha, rfl⟩).2 u
          · have := (hsk'F _ ⟨ad, ha, rfl⟩).1; have := u.1; omega
          · exact hsk'nb _ ⟨ad, ha, rfl⟩ u
    · rintro _ A ⟨f, pg, ul, x', hr, hul, F3, s3, sk', sr', nA, hck, hcr, SA, pA, IA⟩
      rw [hr] at hK1 hKB
      simp only at hK1 hKB
      have hkA : ¬ F3 k := fun u => (SA.own _ u).elim hk fun v => by omega
      have hxN : x.N ≤ x'.N := by
        rw [hr] at hsub
        exact St.add_N hsub
      have hsh := node_shape hw ok
      refine tfin_ok (above := above + 1) (base := H.size) (l := l) S hw hW IA (by omega) (hg.mod SA.mod hp.glob) (ht.mod SA.mod hk) pA hkA hkl (by omega) SA.mod.size nA hck hcr (by omega) (fun r hr => ?_) ?_ ?_ (fun fresh o x2 hf F4 H4 s4 p4 S4 I4 => ?_) (fun hf F4 H4 s4 e f o up p4 S4 hB => ?_) (fun F4 H4 s4 e f o up p4 S4 hC => ?_)
      · rcases insAt_mem.1 hr with u | u
        · rw [ok.cols r u, hw]; simp
        · rw [u]; exact hul
      · show 1 ≤ (insAt _ _ _).length; rw [insAt_length]; omega
      · refine .inr ⟨Nat.succ_pos _, ?_, ?_⟩
        · show (insAt _ _ _).length = (insAt _ _ _).length + 1
          rw [insAt_length, insAt_length]; omega
        · show 2 + 4 * ((insAt _ _ _).length - 1) + ((insAt _ _ _).length - 1) * _ ≤ _
          rw [insAt_length, insAt_length, Nat.add_sub_cancel, Nat.add_sub_cancel]
          rcases hsh with ⟨u, _⟩ | ⟨_, _, u⟩
          · rw [u] at i1; simp at i1
          · exact u
      · exact hK1 fresh o x2 hf F4 H4 s4 p4 (SA.drop (by omega) S4) (S.up I4 (by omega))
      · exact hKB hf F4 H4 s4 e f o up p4 (SA.drop (by omega) S4) hB
      · exact hKC F4 H4 s4 e f o up p4 (SA.drop (by omega) S4) hC
end
end Go.Proofs.YtmdiinakfpgdjaaDoor

/-
  Pick: a number brought into a range.
-/
namespace Go.Proofs.YtmdiinakfpgdjaaDoor

end Go.Proofs.YtmdiinakfpgdjaaDoor
