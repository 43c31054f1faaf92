/-
  RunsPages: for every input the law returns true, and its arguments read as before; the table of the page's sum is laid as the program's text lays it. No condition beside that.
-/
import Derived.Test.YtbgpkpbejldlcaaGreatDoorPkp
import Derived.Test.YtbgpkpbejldlcaaGreatDoorFxn
import Derived.Test.YtbgpkpbejldlcaaGreatDoorFxt
import Derived.Test.YtbgpkpbejldlcaaGreatDoorDlg
import Derived.Test.YtbgpkpbejldlcaaGreatDoorJ40
import Derived.Test.YtbgpkpbejldlcaaGreatDoorDkl
/-
  A disk that was made since some heap: what a statement that makes its calls in a row walks by.
-/
namespace Go.Proofs.YtbgpkpbejldlcaaGreatDoor
open Go.MapKept

/-- A disk that was made since 'H'. -/
def TD (H A : Heap) (d : Nat) (s : Dk) : Prop := Ext H A ∧ ∃ F, DiskAt F A d s ∧ ∀ b, F b → H.size ≤ b

section
variable {H A : Heap} {d : Nat} {s : Dk} {n : ByteArray}
theorem TD.ext {B : Heap} (t : TD H A d s) (e : Ext A B) : TD H B d s := by
  obtain ⟨h1, F, h2, h3⟩ := t
  exact ⟨h1.trans e, F, h2.keep fun b _ hl => e.same b hl id, h3⟩
theorem TD.wf (t : TD H A d s) : s.WF := by
  obtain ⟨h1, F, h2, h3⟩ := t; exact h2.wf
theorem TD.go (t : TD H A d s) : ∃ F, DiskAt F A d s ∧ ∀ (s' : Dk) (F' : Nat → Prop) (B : Heap), DiskAt F' B d s' → Step F F' A B → TD H B d s' := by
  obtain ⟨h1, F, h2, h3⟩ := t
  refine ⟨F, h2, fun s' F' B h4 S => ⟨⟨Nat.le_trans h1.size S.mod.size, fun b hb _ => (S.mod.same b (Nat.lt_of_lt_of_le hb h1.size) fun q => by have := h3 b q; omega).trans (h1.same b hb id)⟩, F', h4, fun b hb => ?_⟩⟩
  rcases S.own b hb with q | q
  · exact h3 b q
  · exact Nat.le_trans h1.size q
theorem TD.new {q : Int} {K : Option Addr → Heap → Prop} (e : Ext H A) (hq : q ≤ 9223372036854775807) (hK : ∀ d B, TD H B d (dk0 q) → Ext A B → K (at0 d) B) : disk_New.sp q A K :=
  New_ok hq fun F d B h e2 f => hK d B ⟨e.trans e2, F, h, fun b hb => Nat.le_trans e.size (f b hb)⟩ e2
theorem TD.create {K : Int → Heap → Prop} {e : Int} (t : TD H A d s) (hr : (s.create n).2 = e) (hK : ∀ B, TD H B d (s.create n).1 → K e B) : disk_Disk_Create.sp (at0 d) n A K := by
  obtain ⟨F, h1, h2⟩ := t.go
  subst hr
  exact Create_ok h1 fun F' B h3 S => hK B (h2 _ F' B h3 S)
theorem TD.sync {K : Int → Heap → Prop} {e : Int} (t : TD H A d s) (hr : (s.sync n).2 = e) (hK : ∀ B, TD H B d (s.sync n).1 → K e B) : disk_Disk_Sync.sp (at0 d) n A K := by
  obtain ⟨F, h1, h2⟩ := t.go
  subst hr
  exact Sync_ok h1 fun F' B h3 S => hK B (h2 _ F' B h3 S)
theorem TD.crash {i k : Int} {K : Unit → Heap → Prop} (t : TD H A d s) (hi : i ≤ 9223372036854775807) (hK : ∀ B, TD H B d (s.setCrash i k) → K () B) : disk_Disk_Crash.sp (at0 d) i k A K := by
  obtain ⟨F, h1, h2⟩ := t.go
  exact Crash_ok h1 hi fun F' B h3 S => hK B (h2 _ F' B h3 S)
theorem TD.restart {K : Unit → Heap → Prop} (t : TD H A d s) (hl : s.logs < 68719476736) (hK : ∀ B, TD H B d s.restart → K () B) : disk_Disk_Restart.sp (at0 d) A K := by
  obtain ⟨F, h1, h2⟩ := t.go
  exact Restart_ok h1 hl fun F' B h3 S => hK B (h2 _ F' B h3 S)
/-- A page is written out of a slice that was made since, or ahead of all. -/
theorem TD.write {A0 : Heap} {page e : Int} {p3 : Sl} {b : List UInt8} {K : Int → Heap → Prop} (t : TD H A0 d s) (e0 : Ext A0 A) (hb : Byts A p3 b) (hp : ∀ ad, p3.a = some ad → A0.size ≤ ad.block ∨ ad.block < H.size) (hl : s.logs < 68719476736) (hr : (s.write n page b).2 = e)
    (hK : ∀ B, TD H B d (s.write n page b).1 → K e B) : disk_Disk_Write.sp (at0 d) n page p3 A K := by
  obtain ⟨h1, F, h2, h3⟩ := t
  have hlt := h2.lt
  have t2 : TD H A d s := TD.ext ⟨h1, F, h2, h3⟩ e0
  subst hr
  refine Write_ok (h2.keep fun b _ hl => e0.same b hl id) hb (fun ad ha hF => ?_) hl fun F' B h4 S => hK B ?_
  · have := hlt _ hF
    have := h3 _ hF
    rcases hp ad ha with q | q <;> omega
  · have z1 := h1.size; have z0 := e0.size
    refine ⟨⟨by have := S.mod.size; omega, fun b hb _ => (S.mod.same b (by omega) fun q => by have := h3 b q; omega).trans ((e0.same b (by omega) id).trans (h1.same b hb id))⟩, F', h4, fun b hb => ?_⟩
    rcases S.own b hb with q | q
    · exact h3 b q
    · omega
theorem TD.read {page e : Int} {b : List UInt8} {K : (Sl × Int) → Heap → Prop} (t : TD H A d s) (hr : s.read n page = (b, e)) (hK : ∀ r B, SlE EB ty_uint8 B r b → Ext A B → (∀ q, ownB r q → A.size ≤ q) → TD H B d s → K (r, e) B) : disk_Disk_Read.sp (at0 d) n page A K := by
  obtain ⟨F, h1, _⟩ := t.go
  refine Read_ok h1 fun r B o e1 f => ?_
  rw [hr] at o ⊢
  exact hK r B o e1 f (t.ext e1)
theorem TD.len {k : Nat} {e : Int} {K : (Int × Int) → Heap → Prop} (t : TD H A d s) (hr : s.len n = (k, e)) (hK : K ((k : Int), e) A) : disk_Disk_Len.sp (at0 d) n A K := by
  obtain ⟨F, h1, _⟩ := t.go
  refine Len_ok h1 ?_
  rw [hr]; exact hK
theorem TD.used {K : Int → Heap → Prop} (t : TD H A d s) (hK : K s.used A) : disk_Disk_Used.sp (at0 d) A K := by
  obtain ⟨F, h1, _⟩ := t.go; exact Used_ok h1 hK
end
end Go.Proofs.YtbgpkpbejldlcaaGreatDoor

/-
  Runs: what is made and opened, in plain words; a run of two rows (works).
-/
namespace Go.Proofs.YtbgpkpbejldlcaaGreatDoor
open Go.MapKept

theorem calm0 {q : Int} {n : ByteArray} (h0 : 0 ≤ q) (hq : q ≤ 1048576) (hn : named n = true) : Calm (pl0 ((dk0 q).create n).1 8) n 0 q.toNat (fun _ => (0, [])) :=
  ⟨⟨_, pl0_told (create_live h0 hq hn).1⟩, pl0_wf (by omega) (by omega), by intro f hf; cases hf⟩
theorem made_on {q : Int} {n : ByteArray} {W : Nat} {rs : List (List Int)} (h0 : 0 ≤ q) (hq : q ≤ 1048576) (hn : named n = true) (hs : n.size ≤ 9223372036854775807) (h1 : 1 ≤ W) (h2 : W ≤ 16) :
    (1 ≤ q → (rnMake (pl0 (dk0 q) 8) n W).2 = (some (rw0 n W), 0) ∧ RunOn (rnMake (pl0 (dk0 q) 8) n W).1 (rw0 n W) n W (504 / (8 * W)) rs q.toNat 0) ∧ (q = 0 → (rnMake (pl0 (dk0 q) 8) n W).2 = (none, 5)) := by
  obtain ⟨r1, r2, r3, r4⟩ := roomL_width h1 h2
  generalize 504 / (8 * W) = room at *
  have hc := create_live h0 hq hn
  have C := calm0 h0 hq hn
  have e : rnMake (pl0 (dk0 q) 8) n W = if ((pl0 ((dk0 q).create n).1 8).more n 0 []).2 ≠ 0 then (((pl0 ((dk0 q).create n).1 8).more n 0 []).1, none, ((pl0 ((dk0 q).create n).1 8).more n 0 []).2) else (((pl0 ((dk0 q).create n).1 8).more n 0 []).1, some (rw0 n W), 0) := by
    unfold rnMake
    rw [if_neg (by rw [r1]; omega)]
    have : ((pl0 (dk0 q) 8).d.create n).2 = 0 := hc.2.2.1
    rw [if_neg (by rw [this]; simp)]
    rfl
  rw [e]
  refine ⟨fun hq1 => ?_, fun hq0 => ?_⟩
  · obtain ⟨a1, a2, a3, a4⟩ := C.more (k := 0) (b := []) (by omega) (by omega) hs (by show (0 : Int) ≤ 1; omega) (by show (1 : Int) < _; omega) (by simp)
    rw [if_neg (by rw [a1]; simp)]
    rw [if_pos rfl] at a2
    have hmod : 0 % room = 0 := Nat.zero_mod _
    have hdiv : 0 / room = 0 := Nat.zero_div _
    refine ⟨rfl, ⟨⟨_, by rw [hdiv]; exact a2, fun k hk => ?_⟩, rfl, rfl, hmod.symm, ?_, fun q => by omega, Nat.zero_le _, ?_, .inl a4⟩⟩
    · rw [hdiv] at hk
      have : k = 0 := by omega
      subst this
      exact setT_same _ _ _
    · show [] = _
      rw [hmod]; simp [rowsB]
    · rw [a3]; show (0 : Int) ≤ 1 + 1 ∧ (1 : Int) + 1 ≤ 2 + 0; omega
  · have a := C.more_full (k := 0) (b := []) (by omega)
    rw [if_pos (by rw [a]; decide), a]
theorem word_back {x : Int} (h : 0 ≤ x ∧ x < 18446744073709551616) : wordOf (u8i (bytesI (putL [x]))) = x := by
  rw [u8i_bytesI (putL_range _)]
  have h8 : (putL [x]).length = 8 := by simp [putL, wordL]
  have a := getL_one h8
  obtain ⟨b, _⟩ := read_again (L := [[x]]) (w := 1) (by omega) (by simp) (fun l hl => by simp at hl; subst hl; intro y hy; simp at hy; subst hy; exact h)
  have e : [[x]].flatMap putL = putL [x] := by simp
  rw [e] at b
  have c := a.symm.trans b
  simpa using c
def rr0 (n : ByteArray) (W : Nat) (m : Nat) : RR := ⟨⟨n, W, 0, false⟩, m, 0, none, []⟩
theorem opened_on {p : Pl} {n : ByteArray} {W q : Nat} {rs : List (List Int)} (h : Ran p n W (504 / (8 * W)) rs q) (h1 : 1 ≤ W) (h2 : W ≤ 16) (hs : n.size ≤ 9223372036854775807) (hq : q ≤ 1048576) (hqN : 1 + pagesN rs.length (504 / (8 * W)) ≤ q) (hbig : rs.length ≤ 1000000)
    (h0 : 0 ≤ p.next) (hnx : p.next < 1099511627776) :
    (rnOpen p n W).2 = (some (rr0 n W rs.length), 0) ∧ Ran (rnOpen p n W).1 n W (504 / (8 * W)) rs q ∧ RdOn (rr0 n W rs.length) n W (504 / (8 * W)) rs ∧ (rnOpen p n W).1.next ≤ p.next + 1 ∧ p.next ≤ (rnOpen p n W).1.next ∧ ((p.look n 0).1.d.len n).1 < 4611686018427387904 ∧ (rr0 n W rs.length).Ok := by
  obtain ⟨r1, r2, r3, r4⟩ := roomL_width h1 h2
  generalize 504 / (8 * W) = room at *
  obtain ⟨T, c1, c2, c3⟩ := h.calm
  obtain ⟨l1, l2, l3, l4⟩ := c1.look (k := 0) hq hs h0 hnx (by omega) hqN
  rw [c2] at l1
  have e0 : ((0 : Nat) : Int) = 0 := rfl
  rw [e0] at l1 l2 l3
  have hl := l2.len
  have hN := pagesN_le (n := rs.length) (show 0 < room by omega)
  have hw : wordOf (u8i ((headB W rs.length).drop 1)) = (rs.length : Int) := word_back (by omega)
  have hW : ((headB W rs.length).getD 0 0).toNat = W := by
    show (UInt8.ofNat (W : Int).toNat).toNat = W
    rw [Int.toNat_natCast, UInt8.toNat_ofNat']; omega
  have h9 : (headB W rs.length).length = 9 := by simp [headB, putL, wordL]
  have e : rnOpen p n W = ((p.look n 0).1, some (rr0 n W rs.length), 0) := by
    unfold rnOpen
    rw [if_neg (by rw [r1]; omega), l1, if_neg (by simp)]
    simp only
    rw [if_neg (fun q => q ⟨by first | trivial | rfl, h9, by rw [hW]⟩), hl]
    simp only
    rw [if_neg (by simp), hw, if_pos ⟨by omega, by rw [r1, Int.toNat_natCast, Int.toNat_natCast]⟩]
    rfl
  rw [e]
  refine ⟨rfl, ⟨T, l2, c2, c3⟩, ⟨rfl, rfl, Nat.zero_le _, fun j hj => (by cases hj), fun l hl => (by cases hl)⟩, by rw [l3]; exact Int.le_refl _, by rw [l3]; omega, by rw [hl]; omega, (rnOpen_ok (s := p) (n := n) (W := W) (by rw [e])).1⟩

theorem Ints.keepB {k : IntKind} {H H' : Heap} {s : Sl} {l : List Int} (h : Ints k H s l) (e : ∀ ad, s.a = some ad → H'[ad.block]? = H[ad.block]?) : Ints k H' s l :=
  ⟨h.len, fun i v hv => by
    obtain ⟨ad, ha, hc⟩ := h.reads i v hv
    exact ⟨ad, ha, (hCell_congr (by rw [add_block]; exact e ad ha)).trans hc⟩⟩
theorem Pl.look_logs (s : Pl) (n : ByteArray) (g : Int) : (s.look n g).1.d.logs ≤ s.d.logs + 1 := by
  have a := s.pin_logs n g
  unfold Pl.look
  split
  · exact a
  · split
    · exact a
    · simp only
      rw [Pl.unpin_d]; exact a
theorem rnOpen_logs (s : Pl) (n : ByteArray) (W : Int) : (rnOpen s n W).1.d.logs ≤ s.d.logs + 1 := by
  have a := s.look_logs n 0
  unfold rnOpen
  split
  · exact Nat.le_succ _
  · split
    · exact a
    · split
      · exact a
      · split
        · exact a
        · split <;> exact a
theorem RR.load_logs (r : RR) (s : Pl) (j : Nat) : (r.load s j).1.d.logs ≤ s.d.logs + 1 := by
  have := s.look_logs r.b.name ((j : Int) + 1)
  unfold RR.load
  split
  · exact Nat.le_succ _
  · split
    · exact this
    · split <;> exact this
theorem RR.next_logs (r : RR) (s : Pl) : (r.next s).1.d.logs ≤ s.d.logs + 1 := by
  have := r.load_logs s (r.at_ / r.b.room)
  unfold RR.next
  split
  · exact Nat.le_succ _
  · split
    · exact Nat.le_succ _
    · split <;> exact this
theorem RR.srch_logs (ll : List Int) : ∀ (f i j : Nat) (s : Pl) (r : RR), (RR.srch ll f i j s r).1.d.logs ≤ s.d.logs + f
  | 0, _, _, _, _ => Nat.le_refl _
  | f + 1, i, j, s, r => by
    have := r.load_logs s ((i + j) / 2)
    unfold RR.srch
    split
    · split
      · simp only; omega
      · split
        · have a := RR.srch_logs ll f ((i + j) / 2 + 1) j (r.load s ((i + j) / 2)).1 (r.load s ((i + j) / 2)).2.1; omega
        · have a := RR.srch_logs ll f i ((i + j) / 2) (r.load s ((i + j) / 2)).1 (r.load s ((i + j) / 2)).2.1; omega
    · exact Nat.le_add_right _ _
theorem RR.find_logs (r : RR) (s : Pl) (ll : List Int) : (r.find s ll).1.d.logs ≤ s.d.logs + pagesN r.rows r.b.room := RR.srch_logs ll _ _ _ s r
theorem RR.seek_logs (r : RR) (s : Pl) (ll : List Int) : (r.seek s ll).1.d.logs ≤ s.d.logs + pagesN r.rows r.b.room + 1 := by
  have a := r.find_logs s ll
  unfold RR.seek
  split
  · simp only; omega
  · split
    · simp only; omega
    · split
      · simp only; omega
      · have b := (r.find s ll).2.1.load_logs (r.find s ll).1 (r.find s ll).2.2.1
        unfold RR.goto
        split
        · simp only; omega
        · split
          · omega
          · simp only; omega

/-! ### A run of two rows -/

def two57 : List (List Int) := [[5], [7]]
theorem rise57 : Rise 1 two57 := by
  refine ⟨by decide, ?_, ?_⟩
  · intro l hl x hx
    simp [two57] at hl
    rcases hl with rfl | rfl <;> (simp at hx; omega)
  · intro i hi
    have : i = 0 := by simp [two57] at hi; omega
    subst this; decide
theorem RunOn.again {p : Pl} {w : RW} {n : ByteArray} {W room : Nat} {rs : List (List Int)} {q i : Nat} (h : RunOn p w n W room rs q i) (hi : 0 < i) (hl : (rs.getD (i - 1) []).length = W) : w.add p (rs.getD (i - 1) []) = (p, w, 70) := by
  unfold RW.add
  rw [if_neg (by rw [h.ready]; simp), if_neg (by rw [h.b, hl]; simp), if_pos ⟨by rw [h.rows]; exact hi, by rw [h.last hi, cmpL_self]; exact Int.le_refl _⟩]

set_option maxHeartbeats 1000000 in
theorem rworks_ok {H : Heap} {K : Bool → Heap → Prop} (hg : Gl H) (hK : ∀ B, Ext H B → K true B) : fathomlaw07_works.sp H K := by
  refine fathomlaw07_works.of ?_
  unfold fathomlaw07_works.vc
  have hsz : nmF.size ≤ 9223372036854775807 := by decide
  refine New_ok (by decide) fun F1 d H1 a1 e1 f1 => ?_
  refine TP.new (m := 8) hg e1 a1 f1 (by decide) (by decide) fun p H2 t2 => ?_
  obtain ⟨m1, _⟩ := made_on (q := 9) (n := nmF) (W := 1) (rs := two57) (by decide) (by decide) nmF_named hsz (by decide) (by decide)
  obtain ⟨m2, m3⟩ := m1 (by decide)
  have mb := rnMake_bounds (s := pl0 (dk0 9) 8) (n := nmF) (W := 1) (by decide) (by decide)
  have z1 : (pl0 (dk0 9) 8).d.logs = 0 := rfl
  have z2 : (pl0 (dk0 9) 8).next = 1 := rfl
  rw [z1, z2] at mb
  refine TP.make (n := nmF) (W := 1) t2 hg hsz (by rw [z1]; decide) (by decide) (by decide) (fun f hf => by cases hf) m2 (fun q => by cases q) fun w q k H3 t3 => ?_
  cases q
  refine br_f rfl (br_f rfl ?_)
  have m3' : RunOn (rnMake (pl0 (dk0 9) 8) nmF 1).1 (rw0 nmF 1) nmF 1 (504 / (8 * 1)) two57 9 0 := m3
  have t3' : TW H H3 k p d (rnMake (pl0 (dk0 9) 8) nmF 1).1 (rw0 nmF 1) := t3
  generalize (rnMake (pl0 (dk0 9) 8) nmF 1).1 = s3 at *
  have fits : ∀ {s : Pl} {w : RW} {i : Nat}, RunOn s w nmF 1 (504 / (8 * 1)) two57 9 i → s.Fit ∧ 0 ≤ s.next := fun h => by
    obtain ⟨T, c, _⟩ := h.calm
    exact ⟨c.fit, h.next.1⟩
  -- the first row
  refine newC_rowT fun H4 z4 r4 x4 => ?_
  have A1 := (m3'.add (by decide) (by decide) rise57 (by decide) hsz (by decide) (by decide)).1 (by decide)
  have g1 : two57.getD 0 [] = [5] := rfl
  rw [g1] at A1
  have b1 := RW.add_bounds (s := s3) (w := rw0 nmF 1) (l := [5]) (fits m3').2 (by omega)
  refine TW.add t3' x4 hg (wordInts r4) (fun ad ha => by cases ha; exact .inl (Nat.le_refl _)) (by simp) (by simp [rw0]) (by simp [rw0]) (by simp [rw0]) hsz (by omega) (by omega) (fits m3').1 A1.1 fun H5 t5 => ?_
  refine br_f rfl ?_
  have A1' := A1.2
  generalize ((rw0 nmF 1).add s3 [5]).1 = s5 at *
  generalize ((rw0 nmF 1).add s3 [5]).2.1 = w5 at *
  -- the same again
  refine newC_rowT fun H6 z6 r6 x6 => ?_
  have e70 : w5.add s5 [5] = (s5, w5, 70) := A1'.again (by decide) (by decide)
  have w5b := A1'.b
  refine TW.add t5 x6 hg (wordInts r6) (fun ad ha => by cases ha; exact .inl (Nat.le_refl _)) (by simp) (by rw [A1'.wait]; decide) (by rw [A1'.rows]; decide) (by rw [A1'.n]; decide) (by rw [w5b]; exact hsz) (by omega) (by omega) (fits A1').1 (e := 70) (by rw [e70]) fun H7 t7 => ?_
  rw [e70] at t7
  have t7' : TW H H7 k p d s5 w5 := t7
  refine br_f rfl ?_
  -- the second row
  refine newC_rowT fun H8 z8 r8 x8 => ?_
  have A2 := (A1'.add (by decide) (by decide) rise57 (by decide) hsz (by decide) (by decide)).1 (by decide)
  have g2 : two57.getD (0 + 1) [] = [7] := rfl
  rw [g2] at A2
  have b2 := RW.add_bounds (s := s5) (w := w5) (l := [7]) (fits A1').2 (by omega)
  refine TW.add t7' x8 hg (wordInts r8) (fun ad ha => by cases ha; exact .inl (Nat.le_refl _)) (by simp) (by rw [A1'.wait]; decide) (by rw [A1'.rows]; decide) (by rw [A1'.n]; decide) (by rw [w5b]; exact hsz) (by omega) (by omega) (fits A1').1 A2.1 fun H9 t9 => ?_
  refine br_f rfl ?_
  have A2' := A2.2
  generalize (w5.add s5 [7]).1 = s9 at *
  generalize (w5.add s5 [7]).2.1 = w9 at *
  have w9b := A2'.b
  -- the end
  have A3 : RunOn s9 w9 nmF 1 (504 / (8 * 1)) two57 9 two57.length := A2'
  obtain ⟨c1, c2, c3, fl, c4, _, c5, _, _⟩ := (A3.close (by decide) (by decide) rise57 hsz (by decide) (by decide)).1 (by decide)
  refine TW.close t9 hg (by rw [A3.rows]; decide) (by rw [w9b]; decide) (by rw [w9b]; exact hsz) (by omega) (by omega) (fits A2').1 c1 fun H10 t10 => ?_
  have t10p := t10.pool
  have l10 : (w9.close s9).1.d.logs = 0 := by unfold Dk.logs; rw [c4]; simp [c5]
  generalize (w9.close s9).1 = s10 at *
  have h10 : 0 ≤ s10.next := by have := t10p.wf.tick; omega
  have hlen2 : two57.length = 2 := rfl
  rw [hlen2] at c3
  obtain ⟨o1, o2, o3, o4, o5, o6, o7⟩ := opened_on c2 (by decide) (by decide) hsz (by decide) (by decide) (by decide) h10 (by omega)
  have ol := rnOpen_logs s10 nmF ((1 : Nat) : Int)
  refine TP.open (n := nmF) (W := ((1 : Nat) : Int)) t10p hg hsz (by omega) (by omega) o6 o1 (fun q => by cases q) fun r q k' H11 t11 => ?_
  cases q
  generalize (rnOpen s10 nmF ((1 : Nat) : Int)).1 = s11 at *
  refine br_f rfl (br_f rfl ?_)
  refine newC_rowT fun H12 z12 r12 x12 => ?_
  obtain ⟨k1, k2, k3, k4, k5, k6, k7, k8, k9, k10⟩ := o2.seek o3 (by decide) (by decide) rise57 hsz (by decide) (by decide) (by omega) (by rw [hlen2]; omega) (ll := [6]) (by decide)
  have hl2 : ((two57.length : Nat) : Int) = 2 := rfl
  rw [hl2] at k6 k9
  have fl1 := RR.find_logs (rr0 nmF 1 two57.length) s11 [6]
  have fl2 := RR.seek_logs (rr0 nmF 1 two57.length) s11 [6]
  have hNp : pagesN (rr0 nmF 1 two57.length).rows (rr0 nmF 1 two57.length).b.room = 1 := by decide
  rw [hNp] at fl1 fl2
  refine TR.seek t11 x12 hg o7 (wordInts r12) (fun ad ha => by cases ha; exact .inl (Nat.le_refl _)) (by simp) hsz (by omega) (by omega) ⟨by omega, by omega⟩ (fun _ q _ => k10 (by rw [k7] at q; rw [hNp] at q; exact q)) k1 fun H13 t13 => ?_
  refine br_f rfl ?_
  have hb : below [6] two57 = 1 := by decide
  rw [hb] at k4
  have q13 : 0 ≤ ((rr0 nmF 1 two57.length).seek s11 [6]).1.next := by omega
  generalize ((rr0 nmF 1 two57.length).seek s11 [6]).1 = s13 at *
  generalize ((rr0 nmF 1 two57.length).seek s11 [6]).2.1 = r13 at *
  have ok13 : ∀ {r : RR}, RdOn r nmF 1 (504 / (8 * 1)) two57 → r.Ok := fun {r} h => by
    refine ⟨by rw [h.room (by decide) (by decide)]; decide, by rw [h.rows]; exact h.at_, fun j hj => ?_, by rw [h.rows]; decide, h.cols⟩
    · obtain ⟨_, j2⟩ := h.page j hj
      rw [j2, h.room (by decide) (by decide), h.rows, pageR_len]
  obtain ⟨n1, n2, n3, n4, n5, n6⟩ := (k2.next k3 (by decide) (by decide) rise57 hsz (by decide) (by decide) q13 (by omega)).1 (by rw [k4]; decide)
  have nl := RR.next_logs r13 s13
  rw [k4] at n1
  refine TR.next t13 hg (ok13 k3) (by rw [k3.b]; exact hsz) (by omega) (by omega) n1 fun l H14 t14 i14 _ => ?_
  rw [k4] at n4
  have q14 : 0 ≤ (r13.next s13).1.next := by omega
  generalize (r13.next s13).1 = s14 at *
  generalize (r13.next s13).2.1 = r14 at *
  have nn := (n2.next n3 (by decide) (by decide) rise57 hsz (by decide) (by decide) q14 (by omega)).2 (by rw [n4]; decide)
  refine TR.next t14 hg (ok13 n3) (by rw [n3.b]; exact hsz) (by omega) (by omega) (row := []) (ok := false) (e := 0) (by rw [nn]) fun l2 H15 t15 i15 x15 => ?_
  rw [nn] at t15
  have i15' : Ints .u64 H15 l [7] := i14.keepB fun ad ha => x15 _ (.inr ⟨ad, ha, rfl⟩)
  have hl1 : l.n = 1 := i14.len
  refine br_t (by rw [hl1]; rfl) ?_
  refine ints_get i15' (i := 0) (j := 0) rfl (by simp) fun ad ha => ?_
  refine br_t rfl ?_
  have t15p := t15.pool
  obtain ⟨D, d1, _⟩ := TP.disk t15p hg
  refine Used_ok d1 ?_
  obtain ⟨T, cT, _⟩ := n2.calm
  obtain ⟨pg, tT⟩ := cT.told
  have hused : s14.d.used = 2 := by
    rw [tT.disk.used, tT.len]; rfl
  rw [hused]
  refine br_t rfl ?_
  refine newC_rowT fun H16 z16 r16 x16 => ?_
  refine refCmp_ok (i15'.ext x16) (wordInts r16) (by simp) ?_
  rw [cmpL_self]
  exact hK H16 (t15.at.trans x16)
end Go.Proofs.YtbgpkpbejldlcaaGreatDoor

/-
  RunsNone: writers and readers that are not there: the walk.
-/
namespace Go.Proofs.YtbgpkpbejldlcaaGreatDoor

theorem rclose_none {H : Heap} {K : (Int × Int) → Heap → Prop} (hK : K (0, 1) H) : runs_Writer_Close.sp none H K := by
  refine runs_Writer_Close.of ?_
  unfold runs_Writer_Close.vc
  exact br_t rfl hK
theorem radd_none {l : Sl} {H : Heap} {K : Int → Heap → Prop} (hK : K 1 H) : runs_Writer_Add.sp none l H K := by
  refine runs_Writer_Add.of ?_
  unfold runs_Writer_Add.vc
  exact br_t rfl hK
theorem rnext_none {H : Heap} {K : (Sl × Bool × Int) → Heap → Prop} (hK : K (Sl.mk none 0 0, false, 1) H) : runs_Reader_Next.sp none H K := by
  refine runs_Reader_Next.of ?_
  unfold runs_Reader_Next.vc
  exact br_t rfl hK
theorem rrows_none {H : Heap} {K : Int → Heap → Prop} (hK : K 0 H) : runs_Reader_Rows.sp none H K := by
  refine runs_Reader_Rows.of ?_
  unfold runs_Reader_Rows.vc
  exact br_t rfl hK
theorem rstop_none {H : Heap} {K : Unit → Heap → Prop} (hK : K () H) : runs_Reader_Close.sp none H K := by
  refine runs_Reader_Close.of ?_
  unfold runs_Reader_Close.vc
  exact br_f rfl hK
theorem rseek_none {l : Sl} {H : Heap} {K : Int → Heap → Prop} (hK : ∀ H', Ext H H' → K 1 H') : runs_Reader_Seek.sp none l H K := by
  refine runs_Reader_Seek.of ?_
  unfold runs_Reader_Seek.vc
  refine newC_varT fun c A1 hc1 z1 v1 e1 => ?_
  refine newC_varT fun c1 A2 hc2 z2 v2 e2 => ?_
  refine (v1.ext e2).ld (c := cPtr) (x := none) ?_
  exact br_t rfl (hK A2 (e1.trans e2))
theorem RunsNone_ok {name : ByteArray} {width : Int} {l : Sl} {H : Heap} {K : Bool → Heap → Prop} (hg : Gl H) (hK : ∀ B, Ext H B → K true B) : fathomlaw07_RunsNone.sp name width l H K := by
  refine fathomlaw07_RunsNone.of ?_
  unfold fathomlaw07_RunsNone.vc
  refine rclose_none (rnext_none ?_)
  refine rmake_none fun H1 e1 => ?_
  refine ropen_none fun H2 e2 => ?_
  refine rstop_none ?_
  refine br_t rfl (br_t rfl (br_t rfl ?_))
  refine rrows_none (br_t rfl ?_)
  refine radd_none (br_t rfl ?_)
  refine rseek_none fun H3 e3 => ?_
  refine br_t rfl ?_
  have e := (e1.trans e2).trans e3
  exact rworks_ok (hg.mod e id) fun B eB => hK B (e.trans eB)
end Go.Proofs.YtbgpkpbejldlcaaGreatDoor

/-
  Rows of a width out of numbers, each above the one ahead: in plain words.
-/
namespace Go.Proofs.YtbgpkpbejldlcaaGreatDoor

def upTo (a : Int) (st : List Int) : Int := st.foldl (fun s x => s + 1 + x.emod 50) a
/-- The row of a number. -/
def numR (W : Nat) (x : Int) : List Int := if W = 1 then [x] else x / 9 :: (List.replicate (W - 2) 0 ++ [x % 9])
def riseL (W : Nat) : Int → List Int → List (List Int)
  | _, [] => []
  | a, x :: st => numR W (a + 1 + x.emod 50) :: riseL W (a + 1 + x.emod 50) st
theorem riseL_length (W : Nat) : ∀ (st : List Int) (a : Int), (riseL W a st).length = st.length
  | [], _ => rfl
  | x :: st, a => by simp [riseL, riseL_length W st]
theorem numR_length {W : Nat} (h : 1 ≤ W) (x : Int) : (numR W x).length = W := by
  unfold numR; split
  · rename_i e; subst e; rfl
  · simp; omega
theorem cmpL_zeros (k : Nat) (a b : List Int) : cmpL (List.replicate k 0 ++ a) (List.replicate k 0 ++ b) = cmpL a b := by
  induction k with
  | zero => rfl
  | succ k ih => rw [List.replicate_succ, List.cons_append, List.cons_append]; simp [cmpL, ih]
theorem numR_less {W : Nat} {x y : Int} (h0 : 0 ≤ x) (h : x < y) : cmpL (numR W x) (numR W y) < 0 := by
  unfold numR
  split
  · simp only [cmpL]; rw [if_pos h]; decide
  · simp only [cmpL]
    rw [cmpL_zeros]
    simp only [cmpL]
    split
    · decide
    · rw [if_neg (by omega), if_pos (by omega)]; decide
theorem numR_fits {W : Nat} {x : Int} (h0 : 0 ≤ x) (h1 : x < 18446744073709551616) : fitsL (numR W x) := by
  unfold numR fitsL
  split
  · intro y hy; simp at hy; omega
  · intro y hy
    simp at hy
    rcases hy with rfl | ⟨_, rfl⟩ | rfl <;> omega
theorem riseL_rise {W : Nat} (hW : 1 ≤ W) : ∀ (st : List Int) (a : Int), (∀ x ∈ st, 0 ≤ x) → 0 ≤ a → a + 50 * st.length < 18446744073709551616 →
    (∀ l ∈ riseL W a st, l.length = W) ∧ (∀ l ∈ riseL W a st, fitsL l) ∧ (∀ i, i + 1 < (riseL W a st).length → cmpL ((riseL W a st).getD i []) ((riseL W a st).getD (i + 1) []) < 0)
  | [], _, _, _, _ => by simp [riseL]
  | x :: st, a, hx, ha, hb => by
    have h1 := hx x List.mem_cons_self
    have hm0 := Int.emod_nonneg x (show (50 : Int) ≠ 0 by decide)
    have hm1 := Int.emod_lt_of_pos x (show (0 : Int) < 50 by decide)
    have hm0' : 0 ≤ x.emod 50 := hm0
    have hm1' : x.emod 50 < 50 := hm1
    have hlen : ((x :: st).length : Int) = st.length + 1 := by simp
    rw [hlen] at hb
    obtain ⟨i1, i2, i3⟩ := riseL_rise hW st (a + 1 + x.emod 50) (fun y hy => hx y (List.mem_cons_of_mem _ hy)) (by omega) (by omega)
    unfold riseL
    refine ⟨fun l hl => ?_, fun l hl => ?_, fun i hi => ?_⟩
    · rcases List.mem_cons.1 hl with q | q
      · subst q; exact numR_length hW _
      · exact i1 l q
    · rcases List.mem_cons.1 hl with q | q
      · subst q; exact numR_fits (by omega) (by omega)
      · exact i2 l q
    · cases i with
      | zero =>
        cases st with
        | nil => simp [riseL] at hi
        | cons y st =>
          have h2 := hx y (by simp)
          have hy0 : 0 ≤ y.emod 50 := Int.emod_nonneg y (show (50 : Int) ≠ 0 by decide)
          show cmpL (numR W _) (numR W _) < 0
          exact numR_less (by omega) (by omega)
      | succ i => exact i3 i (by simpa using hi)
theorem rise_of {W : Nat} (hW : 1 ≤ W) {st : List Int} (hx : ∀ x ∈ st, 0 ≤ x) (hl : st.length ≤ 300) : Rise W (riseL W 0 st) := by
  obtain ⟨a, b, c⟩ := riseL_rise hW st 0 hx (Int.le_refl _) (by omega)
  exact ⟨a, b, c⟩
theorem upTo_snoc (a : Int) (st : List Int) (x : Int) : upTo a (st ++ [x]) = upTo a st + 1 + x.emod 50 := by simp [upTo]
theorem riseL_snoc (W : Nat) : ∀ (st : List Int) (a x : Int), riseL W a (st ++ [x]) = riseL W a st ++ [numR W (upTo a st + 1 + x.emod 50)]
  | [], _, _ => rfl
  | y :: st, a, x => by
    have := riseL_snoc W st (a + 1 + y.emod 50) x
    show _ :: riseL W _ (st ++ [x]) = _ :: _
    rw [this]; rfl
end Go.Proofs.YtbgpkpbejldlcaaGreatDoor

/-
  Rows of a width out of numbers, each above the one ahead: the walk.
-/
namespace Go.Proofs.YtbgpkpbejldlcaaGreatDoor
open Go.MapKept

theorem numR_made {W : Nat} (hW : 1 ≤ W) (x a b : Int) (ha : a = x / 9) (hb : b = x % 9) :
    (if W = 1 then ((((List.replicate W (0 : Int)).set 0 a).set (W - 1) 0).set 0 x) else (((List.replicate W (0 : Int)).set 0 a).set (W - 1) b)) = numR W x := by
  subst ha hb
  unfold numR
  split
  · rename_i e; subst e; rfl
  · rename_i e
    obtain ⟨k, rfl⟩ : ∃ k, W = k + 2 := ⟨W - 2, by omega⟩
    have e1 : (List.replicate (k + 2) (0 : Int)).set 0 (x / 9) = x / 9 :: List.replicate (k + 1) 0 := rfl
    rw [e1, show k + 2 - 1 = k + 1 from rfl, List.set_cons_succ]
    congr 1
    rw [List.replicate_succ']
    show (List.replicate k (0 : Int) ++ [0]).set k (x % 9) = List.replicate (k + 2 - 2) (0 : Int) ++ [x % 9]
    rw [List.set_append_right _ _ (by simp)]
    simp
theorem upTo_bound : ∀ (st : List Int) (a : Int), (∀ x ∈ st, 0 ≤ x) → a ≤ upTo a st ∧ upTo a st ≤ a + 50 * st.length
  | [], a, _ => by simp [upTo]
  | x :: st, a, hx => by
    have h1 := hx x List.mem_cons_self
    have hm0 : 0 ≤ x.emod 50 := Int.emod_nonneg x (show (50 : Int) ≠ 0 by decide)
    have hm1 : x.emod 50 < 50 := Int.emod_lt_of_pos x (show (0 : Int) < 50 by decide)
    have := upTo_bound st (a + 1 + x.emod 50) fun y hy => hx y (List.mem_cons_of_mem _ hy)
    have e : upTo a (x :: st) = upTo (a + 1 + x.emod 50) st := rfl
    rw [e, List.length_cons]
    omega

set_option maxHeartbeats 1000000 in
theorem rising_ok {steps : Sl} {st : List Int} {W : Nat} {H : Heap} {K : Sl → Heap → Prop} (h : Ints .u64 H steps st) (hst : ∀ x ∈ st, 0 ≤ x ∧ x < 18446744073709551616) (hl : st.length ≤ 300) (hW : 1 ≤ W) (hW2 : W ≤ 16)
    (hK : ∀ s rs H', RowsOwn H' H.size s rs (riseL W 0 st) → Ext H H' → K s H') : fathomlaw07_rising.sp steps (W : Int) H K := by
  refine fathomlaw07_rising.of ?_
  unfold fathomlaw07_rising.vc
  have hn := h.len
  refine loop_upto st.length (fun i z A => ∃ rs, RowsOwn A H.size z.1 rs (riseL W 0 (st.take i)) ∧ Ext H A ∧ z.2.1 = upTo 0 (st.take i) ∧ z.2.2 = (i : Int)) ⟨[], RowsOwn.nil _ _, .refl _ _, rfl, rfl⟩ ?_
  rintro i ⟨out, sum, _⟩ A next hi ⟨rs, ro, eA, rfl, rfl⟩ hnext
  simp only
  refine br_mk (fun hc => ?_) (fun hc => ?_)
  · have hlt : i < st.length := by have : (i : Int) < (steps.n : Int) := by simpa using hc
                                   omega
    refine ints_get (h.ext eA) (i := (i : Int)) (j := i) rfl hlt fun ad ha => ?_
    have hxi : st.getD i 0 = st[i] := by rw [List.getD, List.getElem?_eq_getElem hlt]; rfl
    have hx0 := hst _ (List.getElem_mem hlt)
    rw [hxi]
    generalize hxx : st[i] = x at *
    have hb := upTo_bound (st.take i) 0 fun y hy => (hst y (List.mem_of_mem_take hy)).1
    have hbl : (st.take i).length = i := by rw [List.length_take]; omega
    rw [hbl] at hb
    have hsn : upTo 0 (st.take (i + 1)) = upTo 0 (st.take i) + 1 + x.emod 50 := by
      rw [List.take_add_one, List.getElem?_eq_getElem hlt, hxx]; exact upTo_snoc _ _ _
    have hrn : riseL W 0 (st.take (i + 1)) = riseL W 0 (st.take i) ++ [numR W (upTo 0 (st.take i) + 1 + x.emod 50)] := by
      rw [List.take_add_one, List.getElem?_eq_getElem hlt, hxx]; exact riseL_snoc W _ 0 x
    have hm0 : 0 ≤ x.emod 50 := Int.emod_nonneg x (show (50 : Int) ≠ 0 by decide)
    have hm1 : x.emod 50 < 50 := Int.emod_lt_of_pos x (show (0 : Int) < 50 by decide)
    have hmod : Int.tmod x 50 = x.emod 50 := Int.tmod_eq_emod_of_nonneg hx0.1
    have hu : IntKind.u64.wrap (IntKind.u64.wrap (upTo 0 (st.take i) + 1) + Int.tmod x 50) = upTo 0 (st.take i) + 1 + x.emod 50 := by
      rw [hmod, u64_wrap, u64_wrap]; omega
    rw [hu]
    generalize hS : upTo 0 (st.take i) + 1 + x.emod 50 = S at *
    have hS0 : 0 ≤ S ∧ S < 1000000 := by omega
    have hq : IntKind.u64.wrap (Int.tdiv S 9) = S / 9 := by
      rw [u64_wrap, Int.tdiv_eq_ediv_of_nonneg hS0.1]; omega
    have hr : Int.tmod S 9 = S % 9 := Int.tmod_eq_emod_of_nonneg hS0.1
    rw [hq, hr]
    have hw1 : IntKind.i64.wrap ((W : Int) - 1) = ((W - 1 : Nat) : Int) := by rw [wrap64 (by omega) (by omega)]; omega
    rw [hw1]
    refine elU64.make (base := H.size) (by omega) (Int.le_refl _) (by omega) (by omega) eA.size fun l A1 ln o1 e1 f1 _ => ?_
    rw [Int.toNat_natCast] at ln o1
    have fin : ∀ (A4 : Heap), Owns A4 H.size ty_uint64 1 l ((numR W S).map (Value.int .u64)) → Mod (ownB l) A1 A4 → newC A4 #[l.v] ty_sl_uint64 fun p H1 => doT cSl Tryz.prog (Builtin.append_ #[ty_sl_sl_uint64, ty_sl_sl_uint64] ty_sl_sl_uint64 #[out.v, (.slice (some p) 1 1)]) H1 fun (o : Sl) H2 => next (o, S, IntKind.i64.wrap ((i : Int) + 1)) H2 := by
      intro A4 o4 m4
      have z0 := eA.size
      have z1 := e1.size
      have z4 := m4.size
      have ro4 : RowsOwn A4 H.size out rs (riseL W 0 (st.take i)) := (ro.ext e1).mod m4 (fun b hb q => by have := (ro.block.1 b hb).2; have := f1 b q; omega) fun x hx b hb q => by have := (ro.block.2 x hx b hb).2; have := f1 b q; omega
      refine ro4.push (ty := ty_sl_sl_uint64) o4 (fun r' hr' b hb hb' => by have := (ro.block.2 r' hr' b hb').2; have := f1 b hb; omega) (by rw [ro.n, riseL_length, hbl]; omega) (by omega) fun s' H' _ r5 m5 => ?_
      refine hnext hlt _ _ ⟨rs ++ [l], by rw [hrn]; exact r5, ⟨by have := m5.size; omega, fun b hb _ => ?_⟩, hsn.symm, succ64 i (by omega)⟩
      exact (m5.same b (by omega) (fun q => by have := (ro.block.1 b q).1; omega)).trans ((m4.same b (by omega) (fun q => by have := f1 b q; omega)).trans ((e1.same b (by omega) id).trans (eA.same b hb id)))
    have hnum := numR_made hW S (S / 9) (S % 9) rfl rfl
    have o1' : Owns A1 H.size ty_uint64 1 l ((List.replicate W (0 : Int)).map (Value.int .u64)) := by simpa using o1
    refine Owns.st o1' (i := 0) (by omega) (by omega) rfl fun A2 o2 m2 z2 => ?_
    have e2 : ((List.replicate W (0 : Int)).map (Value.int .u64)).set (0 : Int).toNat (.int .u64 (S / 9)) = ((List.replicate W (0 : Int)).set 0 (S / 9)).map (Value.int .u64) := by simp [List.map_set]
    rw [e2] at o2
    refine ints_get o2.ints (i := ((W - 1 : Nat) : Int)) (j := W - 1) rfl (by simp; omega) fun a2 ha2 => ?_
    have hv : IntKind.u64.wrap (IntKind.u64.wrap (((List.replicate W (0 : Int)).set 0 (S / 9)).getD (W - 1) 0 * IntKind.u64.wrap (if ((W - 1 : Nat) : Int) < 1 then ((W - 1 : Nat) : Int) else 1)) + IntKind.u64.wrap (S % 9 * IntKind.u64.wrap (if ((W - 1 : Nat) : Int) < 1 then ((W - 1 : Nat) : Int) else 1))) = if W = 1 then 0 else S % 9 := by
      by_cases hw : W = 1
      · subst hw
        rw [if_pos rfl]
        simp [u64_wrap]
      · rw [if_neg hw, if_neg (by omega)]
        have eg : ((List.replicate W (0 : Int)).set 0 (S / 9)).getD (W - 1) 0 = 0 := by
          rw [List.getD, List.getElem?_set_ne (by omega), List.getElem?_replicate]
          split <;> rfl
        rw [eg]
        simp only [u64_wrap]
        omega
    rw [hv]
    refine Owns.st o2 (i := ((W - 1 : Nat) : Int)) (by omega) (by omega) rfl fun A3 o3 m3 z3 => ?_
    rw [Int.toNat_natCast] at o3
    have e3 : (((List.replicate W (0 : Int)).set 0 (S / 9)).map (Value.int .u64)).set (W - 1) (.int .u64 (if W = 1 then 0 else S % 9)) = (((List.replicate W (0 : Int)).set 0 (S / 9)).set (W - 1) (if W = 1 then 0 else S % 9)).map (Value.int .u64) := by simp [List.map_set]
    rw [e3] at o3
    have m13 := m2.trans m3
    refine br_mk (fun hc => ?_) (fun hc => ?_)
    · have hw : W = 1 := by have : (W : Int) = 1 := by simpa using hc
                            omega
      rw [if_pos hw] at hnum o3
      refine Owns.st o3 (i := 0) (by omega) (by omega) rfl fun A4 o4 m4 z4 => ?_
      have e4 : ((((List.replicate W (0 : Int)).set 0 (S / 9)).set (W - 1) 0).map (Value.int .u64)).set (0 : Int).toNat (.int .u64 S) = (numR W S).map (Value.int .u64) := by rw [← hnum]; simp [List.map_set]
      rw [e4] at o4
      exact fin A4 o4 (m13.trans m4)
    · have hw : ¬ W = 1 := fun q => by rw [q] at hc; simp at hc
      rw [if_neg hw] at hnum o3
      rw [hnum] at o3
      exact fin A3 o3 m13
  · have hge : i = st.length := by have : ¬ (i : Int) < (steps.n : Int) := by simpa using hc
                                   omega
    subst hge
    rw [List.take_length] at ro
    exact hK out rs A ro eA
end Go.Proofs.YtbgpkpbejldlcaaGreatDoor

/-
  RunsPages: one round: a run of all rows over a disk of some quota: the walk.
-/
namespace Go.Proofs.YtbgpkpbejldlcaaGreatDoor
open Go.MapKept

/-- What a round ends with: all is well and the disk holds just so many pages, or there was no room. -/
def roundE (W : Nat) (rs : List (List Int)) (Q : Nat) : Int := if 1 + pagesN rs.length (504 / (8 * W)) ≤ Q then 0 else 5

/-- Where the adds stand behind 'm' rounds. -/
structure AddsAt (H A : Heap) (k p d : Nat) (W Q : Nat) (rs : List (List Int)) (e : Int) (m : Nat) : Prop where
  at_ : (e = 0 ∧ ∃ s w, TW H A k p d s w ∧ RunOn s w nmF W (504 / (8 * W)) rs Q m ∧ s.d.logs ≤ 2 + 2 * m ∧ 1 + m / (504 / (8 * W)) ≤ Q) ∨ (e = 5 ∧ Q < 1 + pagesN rs.length (504 / (8 * W)) ∧ Ext H A)

theorem div_pages {m n room : Nat} (hr : 1 ≤ room) (h : m ≤ n) : m / room ≤ pagesN n room := by
  unfold pagesN
  exact Nat.div_le_div_right (by omega)

section
variable {H A : Heap} {k p d : Nat} {W Q : Nat} {rs : List (List Int)}
/-- One add. -/
theorem adds_step {l : Sl} {m : Nat} {s : Pl} {w : RW} {K : Int → Heap → Prop} (hg : Gl H) (hW : 1 ≤ W) (hW2 : W ≤ 16) (hr : Rise W rs) (hq : Q ≤ 1048576) (hl : rs.length ≤ 300) (hm : m < rs.length)
    (t : TW H A k p d s w) (h : RunOn s w nmF W (504 / (8 * W)) rs Q m) (hlg : s.d.logs ≤ 2 + 2 * m) (hN : 1 + m / (504 / (8 * W)) ≤ Q) (hi : Ints .u64 A l (rs.getD m [])) (hb : ∀ ad, l.a = some ad → ad.block < H.size)
    (hK : ∀ e B, AddsAt H B k p d W Q rs e (m + 1) → K e B) : runs_Writer_Add.sp (at0 k) l A K := by
  have hsz : nmF.size ≤ 9223372036854775807 := by decide
  obtain ⟨r1, r2, r3, r4⟩ := roomL_width hW hW2
  obtain ⟨a1, a2⟩ := h.add hW hW2 hr hm hsz hq (by omega)
  obtain ⟨T, c, _⟩ := h.calm
  have hlen : (rs.getD m []).length = W := by
    rw [List.getD, List.getElem?_eq_getElem hm]; exact hr.len _ (List.getElem_mem hm)
  have hnx := h.next
  have ab := RW.add_bounds (s := s) (w := w) (l := rs.getD m []) hnx.1 (by omega)
  have hwait : w.wait.length ≤ 1000000 := by
    rw [h.wait, rowsB_length hW (L := (rs.drop (m / (504 / (8 * W)) * (504 / (8 * W)))).take (m % (504 / (8 * W)))) (fun x hx => hr.len x (List.mem_of_mem_drop (List.mem_of_mem_take hx)))]
    have h1 : ((rs.drop (m / (504 / (8 * W)) * (504 / (8 * W)))).take (m % (504 / (8 * W)))).length ≤ 300 := by
      rw [List.length_take, List.length_drop]; omega
    calc _ ≤ 300 * 128 := Nat.mul_le_mul h1 (by omega)
      _ ≤ 1000000 := by decide
  have hpl := div_pages (m := m + 1) (n := rs.length) (room := 504 / (8 * W)) (by omega) (by omega)
  refine TW.add t (.refl _ _) hg hi (fun ad ha => .inr (hb ad ha)) (by omega) hwait (by rw [h.rows]; omega) (by rw [h.n]; have := Nat.mod_lt m (show 0 < 504 / (8 * W) by omega); omega) (by rw [h.b]; exact hsz) (by omega) (by omega) c.fit rfl fun B tB => hK _ B ?_
  by_cases hc : 1 + (m + 1) / (504 / (8 * W)) ≤ Q
  · obtain ⟨b1, b2⟩ := a1 hc
    exact ⟨.inl ⟨b1, _, _, tB, b2, by omega, hc⟩⟩
  · have e5 := a2 (by omega) hN
    exact ⟨.inr ⟨e5, by omega, tB.pool.1⟩⟩
/-- The end of a round. -/
theorem adds_close {s : Pl} {w : RW} {K : (Int × Int) → Heap → Prop} (hg : Gl H) (hW : 1 ≤ W) (hW2 : W ≤ 16) (hr : Rise W rs) (hq : Q ≤ 1048576) (hl : rs.length ≤ 300)
    (t : TW H A k p d s w) (h : RunOn s w nmF W (504 / (8 * W)) rs Q rs.length) (hlg : s.d.logs ≤ 2 + 2 * rs.length) (hN : 1 + rs.length / (504 / (8 * W)) ≤ Q)
    (hK : ∀ n e B s', e = roundE W rs Q → (e = 0 → s'.d.used = 1 + pagesN rs.length (504 / (8 * W))) → TP H B p d s' → K (n, e) B) : runs_Writer_Close.sp (at0 k) A K := by
  have hsz : nmF.size ≤ 9223372036854775807 := by decide
  obtain ⟨c1, c2⟩ := h.close hW hW2 hr hsz hq (by omega)
  obtain ⟨T, c, _⟩ := h.calm
  have hnx := h.next
  refine TW.close (m := (w.close s).2.2.1) (e := (w.close s).2.2.2) t hg (by rw [h.rows]; omega) (by rw [h.b]; simp only; omega) (by rw [h.b]; exact hsz) (by omega) (by omega) c.fit rfl fun B tB => ?_
  by_cases hc : 1 + pagesN rs.length (504 / (8 * W)) ≤ Q
  · obtain ⟨d1, d2, _⟩ := c1 hc
    refine hK _ _ B _ (by rw [d1]; exact (if_pos hc).symm) (fun _ => ?_) tB.pool
    obtain ⟨T', cT, _⟩ := d2.calm
    obtain ⟨pg, tT⟩ := cT.told
    rw [tT.disk.used, tT.len]
  · have d1 := c2 (by omega) hN
    exact hK _ _ B _ (by rw [d1]; exact (if_neg hc).symm) (fun q => by rw [d1] at q; cases q) tB.pool
end
end Go.Proofs.YtbgpkpbejldlcaaGreatDoor

/-
  RunsPages: the walk.
-/
namespace Go.Proofs.YtbgpkpbejldlcaaGreatDoor
open Go.MapKept

theorem make_any {H A : Heap} {p d W Q : Nat} {rs : List (List Int)} {K : (Option Addr × Int) → Heap → Prop} (hg : Gl H) (hW : 1 ≤ W) (hW2 : W ≤ 16) (hq : Q ≤ 1048576) (t : TP H A p d (pl0 (dk0 (Q : Int)) 8))
    (hK : ∀ r B k, (r.2 = 0 → r.1 = at0 k) → AddsAt H B k p d W Q rs r.2 0 → K r B) : runs_Make.sp (at0 p) nmF (W : Int) A K := by
  have hsz : nmF.size ≤ 9223372036854775807 := by decide
  obtain ⟨m1, m0⟩ := made_on (q := (Q : Int)) (n := nmF) (W := W) (rs := rs) (by omega) (by omega) nmF_named hsz hW hW2
  have mb := rnMake_bounds (s := pl0 (dk0 (Q : Int)) 8) (n := nmF) (W := (W : Int)) (by show (0 : Int) ≤ 1; decide) (by show (1 : Int) < _; decide)
  have z1 : (pl0 (dk0 (Q : Int)) 8).d.logs = 0 := rfl
  have z2 : (pl0 (dk0 (Q : Int)) 8).next = 1 := rfl
  rw [z1, z2] at mb
  by_cases h1 : 1 ≤ Q
  · obtain ⟨m2, m3⟩ := m1 (by omega)
    rw [Int.toNat_natCast] at m3
    refine TP.make t hg hsz (by rw [z1]; decide) (by rw [z2]; decide) (by rw [z2]; decide) (fun f hf => by cases hf) m2 (fun q => by cases q) fun w q k B tB => ?_
    cases q
    exact hK _ B k (fun _ => rfl) ⟨.inl ⟨rfl, _, _, tB, m3, by omega, by rw [Nat.zero_div]; omega⟩⟩
  · have m2 := m0 (by omega)
    refine TP.make t hg hsz (by rw [z1]; decide) (by rw [z2]; decide) (by rw [z2]; decide) (fun f hf => by cases hf) m2 (fun _ B tB => ?_) fun w q => by cases q
    exact hK _ B 0 (fun q => by cases q) ⟨.inr ⟨rfl, by omega, tB.1⟩⟩

set_option maxHeartbeats 1000000 in
theorem RunsPages_ok {steps : Sl} {st : List Int} {width : Int} {H : Heap} {K : Bool → Heap → Prop} (hg : Gl H) (h : Ints .u64 H steps st) (hst : ∀ x ∈ st, 0 ≤ x ∧ x < 18446744073709551616) (hK : ∀ B, Ext H B → K true B) : fathomlaw07_RunsPages.sp steps width H K := by
  refine fathomlaw07_RunsPages.of ?_
  unfold fathomlaw07_RunsPages.vc
  refine rPick_ok (by decide) ?_
  rw [if_neg (by decide)]
  obtain ⟨W, hWe, hW, hW2⟩ : ∃ W : Nat, IntKind.i64.wrap (1 + width.emod 16) = (W : Int) ∧ 1 ≤ W ∧ W ≤ 16 := by
    have h0 : 0 ≤ width.emod 16 := Int.emod_nonneg width (show (16 : Int) ≠ 0 by decide)
    have h1 : width.emod 16 < 16 := Int.emod_lt_of_pos width (show (0 : Int) < 16 by decide)
    refine ⟨(1 + width.emod 16).toNat, ?_, by omega, by omega⟩
    rw [wrap64 (by omega) (by omega)]; omega
  rw [hWe]
  have hn := h.len
  refine br_mk (fun hc => hK _ (.refl _ _)) (fun hc => ?_)
  have hl : st.length ≤ 300 := by have : ¬ (steps.n : Int) > 300 := by simpa using hc
                                  omega
  refine rising_ok h hst hl hW hW2 fun rows rs1 H2 ro e2 => ?_
  have hr := rise_of hW (fun x hx => (hst x hx).1) hl
  have hlen := riseL_length W st 0
  generalize riseL W 0 st = rs at *
  obtain ⟨r1, r2, r3, r4⟩ := roomL_width hW hW2
  refine rowRoom_ok ?_
  rw [r1]
  have hNle := pagesN_le (n := rs.length) (show 0 < 504 / (8 * W) by omega)
  have hrz : ((504 / (8 * W) : Nat) : Int) ≠ 0 := by
    intro q
    have : 504 / (8 * W) = 0 := Int.ofNat.inj q
    omega
  refine br_f (by simpa using hrz) ⟨hrz, ?_⟩
  have hwant : IntKind.i64.wrap (1 + IntKind.i64.wrap (Int.tdiv (IntKind.i64.wrap (IntKind.i64.wrap ((rows.n : Int) + ((504 / (8 * W) : Nat) : Int)) - 1)) ((504 / (8 * W) : Nat) : Int))) = ((1 + pagesN rs.length (504 / (8 * W)) : Nat) : Int) := by
    rw [ro.n]
    generalize 504 / (8 * W) = room at *
    rw [show IntKind.i64.wrap ((rs.length : Int) + (room : Int)) = ((rs.length + room : Nat) : Int) from by rw [wrap64 (by omega) (by omega)]; omega]
    rw [show IntKind.i64.wrap (((rs.length + room : Nat) : Int) - 1) = ((rs.length + room - 1 : Nat) : Int) from by rw [wrap64 (by omega) (by omega)]; omega]
    rw [show Int.tdiv ((rs.length + room - 1 : Nat) : Int) (room : Int) = ((pagesN rs.length room : Nat) : Int) from rfl]
    rw [wrap64 (x := ((pagesN rs.length room : Nat) : Int)) (by omega) (by omega), wrap64 (by omega) (by omega)]; omega
  rw [hwant]
  generalize hN1 : 1 + pagesN rs.length (504 / (8 * W)) = N1 at *
  rw [show IntKind.i64.wrap ((N1 : Int) - 1) = ((N1 - 1 : Nat) : Int) from by rw [wrap64 (by omega) (by omega)]; omega]
  refine newC_rowT fun H4 z4 r4' e4 => ?_
  have e04 : Ext H H4 := e2.trans e4
  refine loop_upto 2 (fun q z A => z = (q : Int) ∧ Ext H4 A) ⟨rfl, .refl _ _⟩ ?_
  rintro q _ A next hq ⟨rfl, eA⟩ hnext
  have gA : Gl A := (hg.mod e04 id).mod eA id
  refine br_mk (fun hc => ?_) (fun hc => ?_)
  · have hq2 : q < 2 := by have : (q : Int) < 2 := by simpa using hc
                           omega
    refine ⟨⟨by omega, by omega⟩, ?_⟩
    obtain ⟨Q, hQ⟩ : ∃ Q : Nat, Q = if q = 0 then N1 else N1 - 1 := ⟨_, rfl⟩
    have hcell : (#[(.int .i64 (N1 : Int)), (.int .i64 ((N1 - 1 : Nat) : Int))] : Array Value)[q]? = some (.int .i64 (Q : Int)) := by
      have : q = 0 ∨ q = 1 := by omega
      rcases this with rfl | rfl
      · rw [hQ]; rfl
      · rw [hQ]; rfl
    rw [Int.toNat_natCast, Nat.mul_one]
    refine RowT.ld (c := cInt .i64) (i := q) (x := (Q : Int)) (r4'.ext eA) hcell ?_
    have hQb : Q ≤ 1048576 := by rw [hQ]; split <;> omega
    refine New_ok (by omega) fun F1 d A1 a1 x1 f1 => ?_
    refine TP.new (m := 8) gA x1 a1 f1 (by decide) (by decide) fun p A2 t2 => ?_
    refine make_any (rs := rs) gA hW hW2 hQb t2 fun r A3 k hk0 hA => ?_
    obtain ⟨wp, e0⟩ := r
    refine loop_upto rs.length (fun m z B => z.2 = (m : Int) ∧ (z.1 = 0 → wp = at0 k) ∧ AddsAt A B k p d W Q rs z.1 m) ⟨rfl, hk0, hA⟩ ?_
    rintro m ⟨e, _⟩ B nxt hm ⟨rfl, hk, hB⟩ hnxt
    simp only at hk hB ⊢
    refine ⟨fun _ B' => B' = B ∧ m < rs.length ∧ e = 0, ?_, ?_⟩
    · refine br_mk (fun hc => ?_) (fun hc => ?_)
      · rw [ro.n] at hc
        simp only [Bool.and_eq_true, decide_eq_true_eq, beq_iff_eq] at hc
        exact ⟨rfl, by omega, hc.2⟩
      · refine ⟨fun e3 B' => e3 = roundE W rs Q ∧ (e3 = 0 → ∃ s', TP A B' p d s' ∧ s'.d.used = N1) ∧ Ext A B', ?_, ?_⟩
        · refine br_mk (fun hc2 => ?_) (fun hc2 => ?_)
          · have e00 : e = 0 := by simpa using hc2
            have hml : m = rs.length := by
              rw [ro.n] at hc
              simp only [e00, Bool.and_eq_false_iff, decide_eq_false_iff_not] at hc
              rcases hc with q | q
              · omega
              · simp at q
            rcases hB.at_ with ⟨_, s, w, t, on, lg, hN⟩ | ⟨q, _⟩
            · subst hml
              rw [hk e00]
              exact adds_close gA hW hW2 hr hQb (by omega) t on lg hN fun n e B' s' q1 q2 tp => ⟨q1, fun q => ⟨s', tp, by rw [q2 q, hN1]⟩, tp.1⟩
            · omega
          · have e00 : e ≠ 0 := by simpa using hc2
            rcases hB.at_ with ⟨q, _⟩ | ⟨q, q2, q3⟩
            · exact absurd q e00
            · exact ⟨by rw [q]; exact (if_neg (by omega)).symm, fun u => absurd u e00, q3⟩
        · rintro e3 B' ⟨q1, q2, q3⟩
          have hq01 : q = 0 ∨ q = 1 := by omega
          rcases hq01 with rfl | rfl
          · rw [if_pos rfl] at hQ
            have e30 : e3 = 0 := by rw [q1]; exact if_pos (by omega)
            obtain ⟨s', tp, hu⟩ := q2 e30
            refine br_t (by rw [hQ]; simp) ?_
            refine br_f (by rw [e30]; rfl) ?_
            obtain ⟨D, d1, _⟩ := TP.disk tp gA
            refine Used_ok d1 ?_
            rw [hu, hQ]
            refine br_f (by simp) ?_
            exact hnext (by omega) _ _ ⟨succ64 0 (by omega), eA.trans q3⟩
          · rw [if_neg (by decide)] at hQ
            have e35 : e3 = 5 := by rw [q1]; exact if_neg (by omega)
            have hne : ¬ ((Q : Int) = (N1 : Int)) := by omega
            refine br_f (by simp [hne]) ?_
            refine br_f (by rw [e35]; simp) ?_
            exact hnext (by omega) _ _ ⟨succ64 1 (by omega), eA.trans q3⟩
    · rintro _ B' ⟨rfl, hml, rfl⟩
      rcases hB.at_ with ⟨_, s, w, t, on, lg, hN⟩ | ⟨q, _⟩
      · have x2 : Ext H2 B' := (e4.trans eA).trans t.pool.1
        obtain ⟨ad, x, ha, hcell, hx⟩ := ro.rows.at' m hml
        refine optK_mk ad ha ⟨⟨by omega, by rw [ro.n]; omega⟩, x, ?_, ?_⟩
        · rw [Int.toNat_natCast, Nat.mul_one]
          exact x2.cell hcell id
        · have eg : rs.getD m [] = rs[m] := getD_of hml
          rw [hk rfl]
          refine adds_step (rs := rs) gA hW hW2 hr hQb (by omega) hml t on lg hN (by rw [eg]; exact hx.ext x2) (fun ad2 ha2 => ?_) fun e2 B2 hA2 => hnxt hml _ _ ⟨succ64 m (by omega), fun _ => hk rfl, hA2⟩
          obtain ⟨ad3, ha3, hc3⟩ := hx.at (i := 0) (by rw [hr.len _ (List.getElem_mem hml)]; omega)
          rw [ha2] at ha3; cases ha3
          have := hCell_lt hc3
          rw [add_block] at this
          have := e4.size; have := eA.size; omega
      · omega
  · exact rworks_ok gA fun B eB => hK B ((e04.trans eA).trans eB)
end Go.Proofs.YtbgpkpbejldlcaaGreatDoor

/-
  RunsPages: for every input the law returns true, and its arguments read as before; the table of the page's sum is laid as the program's text lays it. No condition beside that.
-/
namespace Go.Proofs.YtbgpkpbejldlcaaGreatDoor
open Go.ChangeShapes Go.WideShapes Go.ChangeAt Go.RowKit

theorem wide_str {P : Program} {w : World} {r : Reach} {base : Nat} {t : TypeId} {v : Value} (h : Value.okWide P w r base t v) (ht : P.underlying t = some .string) : ∃ s, v = .string s ∧ (s.size : Int) ≤ 9223372036854775807 := by
  unfold Value.okWide at h
  rw [ht] at h
  exact cell_str h ht

set_option maxRecDepth 100000 in
theorem runsPages_lifted (os : Os) (started : os.Started) (H : Type) (enc : TypeId × Value → H) :
    ReturnsInHanded {} Tryz.checked os 3 .any (fun w args => (Rows.runsPagesSpec.pre enc Tryz.prog Tryz.f3 [] false w args ∧ laidMetH Tryz.prog laidS w) ∧ sizedMet enc Tryz.prog Tryz.f3 (OpenSpec.ofChange Rows.runsPagesSpec) false w args)
      (Rows.runsPagesSpec.post enc Tryz.prog Tryz.f3 false true false false) := by
  refine returnsInHanded_of_change_and (C := Tryz.checked) (X := fun w _ => laidMetH Tryz.prog laidS w) (fun _ _ _ hh h => h.of_heap hh) pprog_own started (by kernel_rfl) Tryz.func3
    (ChangeSpec.witness_shaped (enc := enc) (C := Tryz.checked) (os := os) (X := fun w _ => laidMetH Tryz.prog laidS w) false (World.doorLaid Tryz.prog 400 os) #[.slice none 0 0, .int .i64 0] 8 rfl (World.shaped_of_RefB (by kernel_rfl) (by kernel_rfl)) (by kernel_rfl) (by kernel_rfl) (by kernel_rfl) (door_met os _)) ?_
  intro W base args ds gs before hval0 hW _ _ hL _
  have hval : ∀ (j : Nat) t v, Tryz.f3.params[j]? = some t → args[j]? = some v → Value.okWide Tryz.prog W .any base t v := hval0
  have hW' := hW
  obtain ⟨p, q, hA0, hV, rfl, hfz, hnd⟩ := hW
  have hA : DataW.TrodAll enc Tryz.prog W 0 (fun _ => true) true Tryz.f3.params.toList args.toList ds p := hA0
  rw [Tryz.params3] at hA hval
  obtain ⟨v0, v1, d0, d1, p0, p1, rfl, rfl, rfl, h0, h1⟩ := trodAll_two hA
  obtain ⟨rfl, rfl⟩ := trodVars_none hV
  obtain ⟨l, ll, rfl, il, cl, wl⟩ := open_sl_ints (k := .u64) (e := ty_uint64) (by kernel_rfl) (by kernel_rfl) (by kernel_rfl) (hval 0 ty_sl_uint64 v0 rfl rfl) h0
  obtain ⟨width, rfl, _⟩ := wide_int (k := .i64) (hval 1 ty_int v1 rfl rfl) (by kernel_rfl)
  have hspec := RunsPages_ok (steps := l) (st := ll) (width := width) (H := W.heap) (K := fun b H' => b = true ∧ Ext W.heap H') (gl_of_laid hL) il (fun x hx => fits_u64 (wl x hx)) (fun H' e => ⟨rfl, e⟩)
  refine (hspec W rfl).mono fun e W' ⟨v, he, ⟨x, hx, hb, hext⟩, hal⟩ => ?_
  subst he; subst hx; subst hb
  exact ⟨_, rfl, law_post pprog_laidOut (by decide +kernel) rfl (by kernel_rfl) rfl rfl rfl rfl hW' hext hal⟩

theorem runsPages_row : Rows.RunsPagesSaid :=
  OpenClaim.holds_of_wide 3 Tryz.f3 rfl rfl rfl rfl rfl rfl rfl ⟨rfl, rfl, rfl, rfl, rfl⟩ rfl rfl rfl rfl rfl (by kernel_rfl) Tryz.func3 (by kernel_rfl)
    (of_decide_eq_true (by kernel_rfl)) (by unfold Func.isWrapper; first | (rw [if_pos (by decide +kernel)]; kernel_rfl) | (rw [if_neg (by decide +kernel)]; exact ⟨rfl, rfl⟩))
    (fun os started H enc _ => runsPages_lifted os started H enc)

/-- The card: the table tied to the program's text. -/
theorem runsPages_holds : Rows.RunsPagesCardSaid :=
  Claim7.holds_tied_plain_at .later [] [.data] true _ false
    runsPages_row (fun _ h => by cases h) (by kernel_rfl) (fun _ h => by cases h) runsPages_row_tie rfl ⟨rfl, rfl⟩ (by kernel_rfl) rfl
    (fun f fn hf hfn => by
      obtain rfl : f = 3 := Option.some.inj ((show Tryz.prog.funcNamed "fathom/fathomlaw07.RunsPages" = some 3 by kernel_rfl).symm.trans hf) |>.symm
      obtain rfl : fn = Tryz.f3 := (Option.some.inj (Tryz.func3.symm.trans hfn)).symm
      exact ⟨by kernel_rfl, fun j t ht => by
        rw [Tryz.params3] at ht
        have hm : t ∈ [ty_sl_uint64, ty_int] := by simpa using Array.mem_of_getElem? ht
        have hall : ([ty_sl_uint64, ty_int].all fun u => !Tryz.prog.wantsStandIn u) = true := by kernel_rfl
        exact (show Tryz.prog.wantsStandIn t = false by simpa using List.all_eq_true.1 hall t hm)⟩)
    (by kernel_rfl)
#print axioms runsPages_holds
end Go.Proofs.YtbgpkpbejldlcaaGreatDoor
