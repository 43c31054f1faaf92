/-
  RunsBack: for every input the law returns true, and its arguments read as before; the table of the page's sum is laid as the program's text lays it. No condition beside that.
-/
import Derived.Test.YtbgpkpbejldlcaaGreatDoorPkp
import Derived.Test.YtbgpkpbejldlcaaGreatDoorFxn
import Derived.Test.YtbgpkpbejldlcaaGreatDoorFxt
import Derived.Test.YtbgpkpbejldlcaaGreatDoorDlg
import Derived.Test.YtbgpkpbejldlcaaGreatDoorJ40
import Derived.Test.YtbgpkpbejldlcaaGreatDoorDkl
/-
  A disk that was made since some heap: what a statement that makes its calls in a row walks by.
-/
namespace Go.Proofs.YtbgpkpbejldlcaaGreatDoor
open Go.MapKept

/-- A disk that was made since 'H'. -/
def TD (H A : Heap) (d : Nat) (s : Dk) : Prop := Ext H A ∧ ∃ F, DiskAt F A d s ∧ ∀ b, F b → H.size ≤ b

section
variable {H A : Heap} {d : Nat} {s : Dk} {n : ByteArray}
theorem TD.ext {B : Heap} (t : TD H A d s) (e : Ext A B) : TD H B d s := by
  obtain ⟨h1, F, h2, h3⟩ := t
  exact ⟨h1.trans e, F, h2.keep fun b _ hl => e.same b hl id, h3⟩
theorem TD.wf (t : TD H A d s) : s.WF := by
  obtain ⟨h1, F, h2, h3⟩ := t; exact h2.wf
theorem TD.go (t : TD H A d s) : ∃ F, DiskAt F A d s ∧ ∀ (s' : Dk) (F' : Nat → Prop) (B : Heap), DiskAt F' B d s' → Step F F' A B → TD H B d s' := by
  obtain ⟨h1, F, h2, h3⟩ := t
  refine ⟨F, h2, fun s' F' B h4 S => ⟨⟨Nat.le_trans h1.size S.mod.size, fun b hb _ => (S.mod.same b (Nat.lt_of_lt_of_le hb h1.size) fun q => by have := h3 b q; omega).trans (h1.same b hb id)⟩, F', h4, fun b hb => ?_⟩⟩
  rcases S.own b hb with q | q
  · exact h3 b q
  · exact Nat.le_trans h1.size q
theorem TD.new {q : Int} {K : Option Addr → Heap → Prop} (e : Ext H A) (hq : q ≤ 9223372036854775807) (hK : ∀ d B, TD H B d (dk0 q) → Ext A B → K (at0 d) B) : disk_New.sp q A K :=
  New_ok hq fun F d B h e2 f => hK d B ⟨e.trans e2, F, h, fun b hb => Nat.le_trans e.size (f b hb)⟩ e2
theorem TD.create {K : Int → Heap → Prop} {e : Int} (t : TD H A d s) (hr : (s.create n).2 = e) (hK : ∀ B, TD H B d (s.create n).1 → K e B) : disk_Disk_Create.sp (at0 d) n A K := by
  obtain ⟨F, h1, h2⟩ := t.go
  subst hr
  exact Create_ok h1 fun F' B h3 S => hK B (h2 _ F' B h3 S)
theorem TD.sync {K : Int → Heap → Prop} {e : Int} (t : TD H A d s) (hr : (s.sync n).2 = e) (hK : ∀ B, TD H B d (s.sync n).1 → K e B) : disk_Disk_Sync.sp (at0 d) n A K := by
  obtain ⟨F, h1, h2⟩ := t.go
  subst hr
  exact Sync_ok h1 fun F' B h3 S => hK B (h2 _ F' B h3 S)
theorem TD.crash {i k : Int} {K : Unit → Heap → Prop} (t : TD H A d s) (hi : i ≤ 9223372036854775807) (hK : ∀ B, TD H B d (s.setCrash i k) → K () B) : disk_Disk_Crash.sp (at0 d) i k A K := by
  obtain ⟨F, h1, h2⟩ := t.go
  exact Crash_ok h1 hi fun F' B h3 S => hK B (h2 _ F' B h3 S)
theorem TD.restart {K : Unit → Heap → Prop} (t : TD H A d s) (hl : s.logs < 68719476736) (hK : ∀ B, TD H B d s.restart → K () B) : disk_Disk_Restart.sp (at0 d) A K := by
  obtain ⟨F, h1, h2⟩ := t.go
  exact Restart_ok h1 hl fun F' B h3 S => hK B (h2 _ F' B h3 S)
/-- A page is written out of a slice that was made since, or ahead of all. -/
theorem TD.write {A0 : Heap} {page e : Int} {p3 : Sl} {b : List UInt8} {K : Int → Heap → Prop} (t : TD H A0 d s) (e0 : Ext A0 A) (hb : Byts A p3 b) (hp : ∀ ad, p3.a = some ad → A0.size ≤ ad.block ∨ ad.block < H.size) (hl : s.logs < 68719476736) (hr : (s.write n page b).2 = e)
    (hK : ∀ B, TD H B d (s.write n page b).1 → K e B) : disk_Disk_Write.sp (at0 d) n page p3 A K := by
  obtain ⟨h1, F, h2, h3⟩ := t
  have hlt := h2.lt
  have t2 : TD H A d s := TD.ext ⟨h1, F, h2, h3⟩ e0
  subst hr
  refine Write_ok (h2.keep fun b _ hl => e0.same b hl id) hb (fun ad ha hF => ?_) hl fun F' B h4 S => hK B ?_
  · have := hlt _ hF
    have := h3 _ hF
    rcases hp ad ha with q | q <;> omega
  · have z1 := h1.size; have z0 := e0.size
    refine ⟨⟨by have := S.mod.size; omega, fun b hb _ => (S.mod.same b (by omega) fun q => by have := h3 b q; omega).trans ((e0.same b (by omega) id).trans (h1.same b hb id))⟩, F', h4, fun b hb => ?_⟩
    rcases S.own b hb with q | q
    · exact h3 b q
    · omega
theorem TD.read {page e : Int} {b : List UInt8} {K : (Sl × Int) → Heap → Prop} (t : TD H A d s) (hr : s.read n page = (b, e)) (hK : ∀ r B, SlE EB ty_uint8 B r b → Ext A B → (∀ q, ownB r q → A.size ≤ q) → TD H B d s → K (r, e) B) : disk_Disk_Read.sp (at0 d) n page A K := by
  obtain ⟨F, h1, _⟩ := t.go
  refine Read_ok h1 fun r B o e1 f => ?_
  rw [hr] at o ⊢
  exact hK r B o e1 f (t.ext e1)
theorem TD.len {k : Nat} {e : Int} {K : (Int × Int) → Heap → Prop} (t : TD H A d s) (hr : s.len n = (k, e)) (hK : K ((k : Int), e) A) : disk_Disk_Len.sp (at0 d) n A K := by
  obtain ⟨F, h1, _⟩ := t.go
  refine Len_ok h1 ?_
  rw [hr]; exact hK
theorem TD.used {K : Int → Heap → Prop} (t : TD H A d s) (hK : K s.used A) : disk_Disk_Used.sp (at0 d) A K := by
  obtain ⟨F, h1, _⟩ := t.go; exact Used_ok h1 hK
end
end Go.Proofs.YtbgpkpbejldlcaaGreatDoor

/-
  Runs: what is made and opened, in plain words; a run of two rows (works).
-/
namespace Go.Proofs.YtbgpkpbejldlcaaGreatDoor
open Go.MapKept

theorem calm0 {q : Int} {n : ByteArray} (h0 : 0 ≤ q) (hq : q ≤ 1048576) (hn : named n = true) : Calm (pl0 ((dk0 q).create n).1 8) n 0 q.toNat (fun _ => (0, [])) :=
  ⟨⟨_, pl0_told (create_live h0 hq hn).1⟩, pl0_wf (by omega) (by omega), by intro f hf; cases hf⟩
theorem made_on {q : Int} {n : ByteArray} {W : Nat} {rs : List (List Int)} (h0 : 0 ≤ q) (hq : q ≤ 1048576) (hn : named n = true) (hs : n.size ≤ 9223372036854775807) (h1 : 1 ≤ W) (h2 : W ≤ 16) :
    (1 ≤ q → (rnMake (pl0 (dk0 q) 8) n W).2 = (some (rw0 n W), 0) ∧ RunOn (rnMake (pl0 (dk0 q) 8) n W).1 (rw0 n W) n W (504 / (8 * W)) rs q.toNat 0) ∧ (q = 0 → (rnMake (pl0 (dk0 q) 8) n W).2 = (none, 5)) := by
  obtain ⟨r1, r2, r3, r4⟩ := roomL_width h1 h2
  generalize 504 / (8 * W) = room at *
  have hc := create_live h0 hq hn
  have C := calm0 h0 hq hn
  have e : rnMake (pl0 (dk0 q) 8) n W = if ((pl0 ((dk0 q).create n).1 8).more n 0 []).2 ≠ 0 then (((pl0 ((dk0 q).create n).1 8).more n 0 []).1, none, ((pl0 ((dk0 q).create n).1 8).more n 0 []).2) else (((pl0 ((dk0 q).create n).1 8).more n 0 []).1, some (rw0 n W), 0) := by
    unfold rnMake
    rw [if_neg (by rw [r1]; omega)]
    have : ((pl0 (dk0 q) 8).d.create n).2 = 0 := hc.2.2.1
    rw [if_neg (by rw [this]; simp)]
    rfl
  rw [e]
  refine ⟨fun hq1 => ?_, fun hq0 => ?_⟩
  · obtain ⟨a1, a2, a3, a4⟩ := C.more (k := 0) (b := []) (by omega) (by omega) hs (by show (0 : Int) ≤ 1; omega) (by show (1 : Int) < _; omega) (by simp)
    rw [if_neg (by rw [a1]; simp)]
    rw [if_pos rfl] at a2
    have hmod : 0 % room = 0 := Nat.zero_mod _
    have hdiv : 0 / room = 0 := Nat.zero_div _
    refine ⟨rfl, ⟨⟨_, by rw [hdiv]; exact a2, fun k hk => ?_⟩, rfl, rfl, hmod.symm, ?_, fun q => by omega, Nat.zero_le _, ?_, .inl a4⟩⟩
    · rw [hdiv] at hk
      have : k = 0 := by omega
      subst this
      exact setT_same _ _ _
    · show [] = _
      rw [hmod]; simp [rowsB]
    · rw [a3]; show (0 : Int) ≤ 1 + 1 ∧ (1 : Int) + 1 ≤ 2 + 0; omega
  · have a := C.more_full (k := 0) (b := []) (by omega)
    rw [if_pos (by rw [a]; decide), a]
theorem word_back {x : Int} (h : 0 ≤ x ∧ x < 18446744073709551616) : wordOf (u8i (bytesI (putL [x]))) = x := by
  rw [u8i_bytesI (putL_range _)]
  have h8 : (putL [x]).length = 8 := by simp [putL, wordL]
  have a := getL_one h8
  obtain ⟨b, _⟩ := read_again (L := [[x]]) (w := 1) (by omega) (by simp) (fun l hl => by simp at hl; subst hl; intro y hy; simp at hy; subst hy; exact h)
  have e : [[x]].flatMap putL = putL [x] := by simp
  rw [e] at b
  have c := a.symm.trans b
  simpa using c
def rr0 (n : ByteArray) (W : Nat) (m : Nat) : RR := ⟨⟨n, W, 0, false⟩, m, 0, none, []⟩
theorem opened_on {p : Pl} {n : ByteArray} {W q : Nat} {rs : List (List Int)} (h : Ran p n W (504 / (8 * W)) rs q) (h1 : 1 ≤ W) (h2 : W ≤ 16) (hs : n.size ≤ 9223372036854775807) (hq : q ≤ 1048576) (hqN : 1 + pagesN rs.length (504 / (8 * W)) ≤ q) (hbig : rs.length ≤ 1000000)
    (h0 : 0 ≤ p.next) (hnx : p.next < 1099511627776) :
    (rnOpen p n W).2 = (some (rr0 n W rs.length), 0) ∧ Ran (rnOpen p n W).1 n W (504 / (8 * W)) rs q ∧ RdOn (rr0 n W rs.length) n W (504 / (8 * W)) rs ∧ (rnOpen p n W).1.next ≤ p.next + 1 ∧ p.next ≤ (rnOpen p n W).1.next ∧ ((p.look n 0).1.d.len n).1 < 4611686018427387904 ∧ (rr0 n W rs.length).Ok := by
  obtain ⟨r1, r2, r3, r4⟩ := roomL_width h1 h2
  generalize 504 / (8 * W) = room at *
  obtain ⟨T, c1, c2, c3⟩ := h.calm
  obtain ⟨l1, l2, l3, l4⟩ := c1.look (k := 0) hq hs h0 hnx (by omega) hqN
  rw [c2] at l1
  have e0 : ((0 : Nat) : Int) = 0 := rfl
  rw [e0] at l1 l2 l3
  have hl := l2.len
  have hN := pagesN_le (n := rs.length) (show 0 < room by omega)
  have hw : wordOf (u8i ((headB W rs.length).drop 1)) = (rs.length : Int) := word_back (by omega)
  have hW : ((headB W rs.length).getD 0 0).toNat = W := by
    show (UInt8.ofNat (W : Int).toNat).toNat = W
    rw [Int.toNat_natCast, UInt8.toNat_ofNat']; omega
  have h9 : (headB W rs.length).length = 9 := by simp [headB, putL, wordL]
  have e : rnOpen p n W = ((p.look n 0).1, some (rr0 n W rs.length), 0) := by
    unfold rnOpen
    rw [if_neg (by rw [r1]; omega), l1, if_neg (by simp)]
    simp only
    rw [if_neg (fun q => q ⟨by first | trivial | rfl, h9, by rw [hW]⟩), hl]
    simp only
    rw [if_neg (by simp), hw, if_pos ⟨by omega, by rw [r1, Int.toNat_natCast, Int.toNat_natCast]⟩]
    rfl
  rw [e]
  refine ⟨rfl, ⟨T, l2, c2, c3⟩, ⟨rfl, rfl, Nat.zero_le _, fun j hj => (by cases hj), fun l hl => (by cases hl)⟩, by rw [l3]; exact Int.le_refl _, by rw [l3]; omega, by rw [hl]; omega, (rnOpen_ok (s := p) (n := n) (W := W) (by rw [e])).1⟩

theorem Ints.keepB {k : IntKind} {H H' : Heap} {s : Sl} {l : List Int} (h : Ints k H s l) (e : ∀ ad, s.a = some ad → H'[ad.block]? = H[ad.block]?) : Ints k H' s l :=
  ⟨h.len, fun i v hv => by
    obtain ⟨ad, ha, hc⟩ := h.reads i v hv
    exact ⟨ad, ha, (hCell_congr (by rw [add_block]; exact e ad ha)).trans hc⟩⟩
theorem Pl.look_logs (s : Pl) (n : ByteArray) (g : Int) : (s.look n g).1.d.logs ≤ s.d.logs + 1 := by
  have a := s.pin_logs n g
  unfold Pl.look
  split
  · exact a
  · split
    · exact a
    · simp only
      rw [Pl.unpin_d]; exact a
theorem rnOpen_logs (s : Pl) (n : ByteArray) (W : Int) : (rnOpen s n W).1.d.logs ≤ s.d.logs + 1 := by
  have a := s.look_logs n 0
  unfold rnOpen
  split
  · exact Nat.le_succ _
  · split
    · exact a
    · split
      · exact a
      · split
        · exact a
        · split <;> exact a
theorem RR.load_logs (r : RR) (s : Pl) (j : Nat) : (r.load s j).1.d.logs ≤ s.d.logs + 1 := by
  have := s.look_logs r.b.name ((j : Int) + 1)
  unfold RR.load
  split
  · exact Nat.le_succ _
  · split
    · exact this
    · split <;> exact this
theorem RR.next_logs (r : RR) (s : Pl) : (r.next s).1.d.logs ≤ s.d.logs + 1 := by
  have := r.load_logs s (r.at_ / r.b.room)
  unfold RR.next
  split
  · exact Nat.le_succ _
  · split
    · exact Nat.le_succ _
    · split <;> exact this
theorem RR.srch_logs (ll : List Int) : ∀ (f i j : Nat) (s : Pl) (r : RR), (RR.srch ll f i j s r).1.d.logs ≤ s.d.logs + f
  | 0, _, _, _, _ => Nat.le_refl _
  | f + 1, i, j, s, r => by
    have := r.load_logs s ((i + j) / 2)
    unfold RR.srch
    split
    · split
      · simp only; omega
      · split
        · have a := RR.srch_logs ll f ((i + j) / 2 + 1) j (r.load s ((i + j) / 2)).1 (r.load s ((i + j) / 2)).2.1; omega
        · have a := RR.srch_logs ll f i ((i + j) / 2) (r.load s ((i + j) / 2)).1 (r.load s ((i + j) / 2)).2.1; omega
    · exact Nat.le_add_right _ _
theorem RR.find_logs (r : RR) (s : Pl) (ll : List Int) : (r.find s ll).1.d.logs ≤ s.d.logs + pagesN r.rows r.b.room := RR.srch_logs ll _ _ _ s r
theorem RR.seek_logs (r : RR) (s : Pl) (ll : List Int) : (r.seek s ll).1.d.logs ≤ s.d.logs + pagesN r.rows r.b.room + 1 := by
  have a := r.find_logs s ll
  unfold RR.seek
  split
  · simp only; omega
  · split
    · simp only; omega
    · split
      · simp only; omega
      · have b := (r.find s ll).2.1.load_logs (r.find s ll).1 (r.find s ll).2.2.1
        unfold RR.goto
        split
        · simp only; omega
        · split
          · omega
          · simp only; omega

/-! ### A run of two rows -/

def two57 : List (List Int) := [[5], [7]]
theorem rise57 : Rise 1 two57 := by
  refine ⟨by decide, ?_, ?_⟩
  · intro l hl x hx
    simp [two57] at hl
    rcases hl with rfl | rfl <;> (simp at hx; omega)
  · intro i hi
    have : i = 0 := by simp [two57] at hi; omega
    subst this; decide
theorem RunOn.again {p : Pl} {w : RW} {n : ByteArray} {W room : Nat} {rs : List (List Int)} {q i : Nat} (h : RunOn p w n W room rs q i) (hi : 0 < i) (hl : (rs.getD (i - 1) []).length = W) : w.add p (rs.getD (i - 1) []) = (p, w, 70) := by
  unfold RW.add
  rw [if_neg (by rw [h.ready]; simp), if_neg (by rw [h.b, hl]; simp), if_pos ⟨by rw [h.rows]; exact hi, by rw [h.last hi, cmpL_self]; exact Int.le_refl _⟩]

set_option maxHeartbeats 1000000 in
theorem rworks_ok {H : Heap} {K : Bool → Heap → Prop} (hg : Gl H) (hK : ∀ B, Ext H B → K true B) : fathomlaw07_works.sp H K := by
  refine fathomlaw07_works.of ?_
  unfold fathomlaw07_works.vc
  have hsz : nmF.size ≤ 9223372036854775807 := by decide
  refine New_ok (by decide) fun F1 d H1 a1 e1 f1 => ?_
  refine TP.new (m := 8) hg e1 a1 f1 (by decide) (by decide) fun p H2 t2 => ?_
  obtain ⟨m1, _⟩ := made_on (q := 9) (n := nmF) (W := 1) (rs := two57) (by decide) (by decide) nmF_named hsz (by decide) (by decide)
  obtain ⟨m2, m3⟩ := m1 (by decide)
  have mb := rnMake_bounds (s := pl0 (dk0 9) 8) (n := nmF) (W := 1) (by decide) (by decide)
  have z1 : (pl0 (dk0 9) 8).d.logs = 0 := rfl
  have z2 : (pl0 (dk0 9) 8).next = 1 := rfl
  rw [z1, z2] at mb
  refine TP.make (n := nmF) (W := 1) t2 hg hsz (by rw [z1]; decide) (by decide) (by decide) (fun f hf => by cases hf) m2 (fun q => by cases q) fun w q k H3 t3 => ?_
  cases q
  refine br_f rfl (br_f rfl ?_)
  have m3' : RunOn (rnMake (pl0 (dk0 9) 8) nmF 1).1 (rw0 nmF 1) nmF 1 (504 / (8 * 1)) two57 9 0 := m3
  have t3' : TW H H3 k p d (rnMake (pl0 (dk0 9) 8) nmF 1).1 (rw0 nmF 1) := t3
  generalize (rnMake (pl0 (dk0 9) 8) nmF 1).1 = s3 at *
  have fits : ∀ {s : Pl} {w : RW} {i : Nat}, RunOn s w nmF 1 (504 / (8 * 1)) two57 9 i → s.Fit ∧ 0 ≤ s.next := fun h => by
    obtain ⟨T, c, _⟩ := h.calm
    exact ⟨c.fit, h.next.1⟩
  -- the first row
  refine newC_rowT fun H4 z4 r4 x4 => ?_
  have A1 := (m3'.add (by decide) (by decide) rise57 (by decide) hsz (by decide) (by decide)).1 (by decide)
  have g1 : two57.getD 0 [] = [5] := rfl
  rw [g1] at A1
  have b1 := RW.add_bounds (s := s3) (w := rw0 nmF 1) (l := [5]) (fits m3').2 (by omega)
  refine TW.add t3' x4 hg (wordInts r4) (fun ad ha => by cases ha; exact .inl (Nat.le_refl _)) (by simp) (by simp [rw0]) (by simp [rw0]) (by simp [rw0]) hsz (by omega) (by omega) (fits m3').1 A1.1 fun H5 t5 => ?_
  refine br_f rfl ?_
  have A1' := A1.2
  generalize ((rw0 nmF 1).add s3 [5]).1 = s5 at *
  generalize ((rw0 nmF 1).add s3 [5]).2.1 = w5 at *
  -- the same again
  refine newC_rowT fun H6 z6 r6 x6 => ?_
  have e70 : w5.add s5 [5] = (s5, w5, 70) := A1'.again (by decide) (by decide)
  have w5b := A1'.b
  refine TW.add t5 x6 hg (wordInts r6) (fun ad ha => by cases ha; exact .inl (Nat.le_refl _)) (by simp) (by rw [A1'.wait]; decide) (by rw [A1'.rows]; decide) (by rw [A1'.n]; decide) (by rw [w5b]; exact hsz) (by omega) (by omega) (fits A1').1 (e := 70) (by rw [e70]) fun H7 t7 => ?_
  rw [e70] at t7
  have t7' : TW H H7 k p d s5 w5 := t7
  refine br_f rfl ?_
  -- the second row
  refine newC_rowT fun H8 z8 r8 x8 => ?_
  have A2 := (A1'.add (by decide) (by decide) rise57 (by decide) hsz (by decide) (by decide)).1 (by decide)
  have g2 : two57.getD (0 + 1) [] = [7] := rfl
  rw [g2] at A2
  have b2 := RW.add_bounds (s := s5) (w := w5) (l := [7]) (fits A1').2 (by omega)
  refine TW.add t7' x8 hg (wordInts r8) (fun ad ha => by cases ha; exact .inl (Nat.le_refl _)) (by simp) (by rw [A1'.wait]; decide) (by rw [A1'.rows]; decide) (by rw [A1'.n]; decide) (by rw [w5b]; exact hsz) (by omega) (by omega) (fits A1').1 A2.1 fun H9 t9 => ?_
  refine br_f rfl ?_
  have A2' := A2.2
  generalize (w5.add s5 [7]).1 = s9 at *
  generalize (w5.add s5 [7]).2.1 = w9 at *
  have w9b := A2'.b
  -- the end
  have A3 : RunOn s9 w9 nmF 1 (504 / (8 * 1)) two57 9 two57.length := A2'
  obtain ⟨c1, c2, c3, fl, c4, _, c5, _, _⟩ := (A3.close (by decide) (by decide) rise57 hsz (by decide) (by decide)).1 (by decide)
  refine TW.close t9 hg (by rw [A3.rows]; decide) (by rw [w9b]; decide) (by rw [w9b]; exact hsz) (by omega) (by omega) (fits A2').1 c1 fun H10 t10 => ?_
  have t10p := t10.pool
  have l10 : (w9.close s9).1.d.logs = 0 := by unfold Dk.logs; rw [c4]; simp [c5]
  generalize (w9.close s9).1 = s10 at *
  have h10 : 0 ≤ s10.next := by have := t10p.wf.tick; omega
  have hlen2 : two57.length = 2 := rfl
  rw [hlen2] at c3
  obtain ⟨o1, o2, o3, o4, o5, o6, o7⟩ := opened_on c2 (by decide) (by decide) hsz (by decide) (by decide) (by decide) h10 (by omega)
  have ol := rnOpen_logs s10 nmF ((1 : Nat) : Int)
  refine TP.open (n := nmF) (W := ((1 : Nat) : Int)) t10p hg hsz (by omega) (by omega) o6 o1 (fun q => by cases q) fun r q k' H11 t11 => ?_
  cases q
  generalize (rnOpen s10 nmF ((1 : Nat) : Int)).1 = s11 at *
  refine br_f rfl (br_f rfl ?_)
  refine newC_rowT fun H12 z12 r12 x12 => ?_
  obtain ⟨k1, k2, k3, k4, k5, k6, k7, k8, k9, k10⟩ := o2.seek o3 (by decide) (by decide) rise57 hsz (by decide) (by decide) (by omega) (by rw [hlen2]; omega) (ll := [6]) (by decide)
  have hl2 : ((two57.length : Nat) : Int) = 2 := rfl
  rw [hl2] at k6 k9
  have fl1 := RR.find_logs (rr0 nmF 1 two57.length) s11 [6]
  have fl2 := RR.seek_logs (rr0 nmF 1 two57.length) s11 [6]
  have hNp : pagesN (rr0 nmF 1 two57.length).rows (rr0 nmF 1 two57.length).b.room = 1 := by decide
  rw [hNp] at fl1 fl2
  refine TR.seek t11 x12 hg o7 (wordInts r12) (fun ad ha => by cases ha; exact .inl (Nat.le_refl _)) (by simp) hsz (by omega) (by omega) ⟨by omega, by omega⟩ (fun _ q _ => k10 (by rw [k7] at q; rw [hNp] at q; exact q)) k1 fun H13 t13 => ?_
  refine br_f rfl ?_
  have hb : below [6] two57 = 1 := by decide
  rw [hb] at k4
  have q13 : 0 ≤ ((rr0 nmF 1 two57.length).seek s11 [6]).1.next := by omega
  generalize ((rr0 nmF 1 two57.length).seek s11 [6]).1 = s13 at *
  generalize ((rr0 nmF 1 two57.length).seek s11 [6]).2.1 = r13 at *
  have ok13 : ∀ {r : RR}, RdOn r nmF 1 (504 / (8 * 1)) two57 → r.Ok := fun {r} h => by
    refine ⟨by rw [h.room (by decide) (by decide)]; decide, by rw [h.rows]; exact h.at_, fun j hj => ?_, by rw [h.rows]; decide, h.cols⟩
    · obtain ⟨_, j2⟩ := h.page j hj
      rw [j2, h.room (by decide) (by decide), h.rows, pageR_len]
  obtain ⟨n1, n2, n3, n4, n5, n6⟩ := (k2.next k3 (by decide) (by decide) rise57 hsz (by decide) (by decide) q13 (by omega)).1 (by rw [k4]; decide)
  have nl := RR.next_logs r13 s13
  rw [k4] at n1
  refine TR.next t13 hg (ok13 k3) (by rw [k3.b]; exact hsz) (by omega) (by omega) n1 fun l H14 t14 i14 _ => ?_
  rw [k4] at n4
  have q14 : 0 ≤ (r13.next s13).1.next := by omega
  generalize (r13.next s13).1 = s14 at *
  generalize (r13.next s13).2.1 = r14 at *
  have nn := (n2.next n3 (by decide) (by decide) rise57 hsz (by decide) (by decide) q14 (by omega)).2 (by rw [n4]; decide)
  refine TR.next t14 hg (ok13 n3) (by rw [n3.b]; exact hsz) (by omega) (by omega) (row := []) (ok := false) (e := 0) (by rw [nn]) fun l2 H15 t15 i15 x15 => ?_
  rw [nn] at t15
  have i15' : Ints .u64 H15 l [7] := i14.keepB fun ad ha => x15 _ (.inr ⟨ad, ha, rfl⟩)
  have hl1 : l.n = 1 := i14.len
  refine br_t (by rw [hl1]; rfl) ?_
  refine ints_get i15' (i := 0) (j := 0) rfl (by simp) fun ad ha => ?_
  refine br_t rfl ?_
  have t15p := t15.pool
  obtain ⟨D, d1, _⟩ := TP.disk t15p hg
  refine Used_ok d1 ?_
  obtain ⟨T, cT, _⟩ := n2.calm
  obtain ⟨pg, tT⟩ := cT.told
  have hused : s14.d.used = 2 := by
    rw [tT.disk.used, tT.len]; rfl
  rw [hused]
  refine br_t rfl ?_
  refine newC_rowT fun H16 z16 r16 x16 => ?_
  refine refCmp_ok (i15'.ext x16) (wordInts r16) (by simp) ?_
  rw [cmpL_self]
  exact hK H16 (t15.at.trans x16)
end Go.Proofs.YtbgpkpbejldlcaaGreatDoor

/-
  RunsNone: writers and readers that are not there: the walk.
-/
namespace Go.Proofs.YtbgpkpbejldlcaaGreatDoor

theorem rclose_none {H : Heap} {K : (Int × Int) → Heap → Prop} (hK : K (0, 1) H) : runs_Writer_Close.sp none H K := by
  refine runs_Writer_Close.of ?_
  unfold runs_Writer_Close.vc
  exact br_t rfl hK
theorem radd_none {l : Sl} {H : Heap} {K : Int → Heap → Prop} (hK : K 1 H) : runs_Writer_Add.sp none l H K := by
  refine runs_Writer_Add.of ?_
  unfold runs_Writer_Add.vc
  exact br_t rfl hK
theorem rnext_none {H : Heap} {K : (Sl × Bool × Int) → Heap → Prop} (hK : K (Sl.mk none 0 0, false, 1) H) : runs_Reader_Next.sp none H K := by
  refine runs_Reader_Next.of ?_
  unfold runs_Reader_Next.vc
  exact br_t rfl hK
theorem rrows_none {H : Heap} {K : Int → Heap → Prop} (hK : K 0 H) : runs_Reader_Rows.sp none H K := by
  refine runs_Reader_Rows.of ?_
  unfold runs_Reader_Rows.vc
  exact br_t rfl hK
theorem rstop_none {H : Heap} {K : Unit → Heap → Prop} (hK : K () H) : runs_Reader_Close.sp none H K := by
  refine runs_Reader_Close.of ?_
  unfold runs_Reader_Close.vc
  exact br_f rfl hK
theorem rseek_none {l : Sl} {H : Heap} {K : Int → Heap → Prop} (hK : ∀ H', Ext H H' → K 1 H') : runs_Reader_Seek.sp none l H K := by
  refine runs_Reader_Seek.of ?_
  unfold runs_Reader_Seek.vc
  refine newC_varT fun c A1 hc1 z1 v1 e1 => ?_
  refine newC_varT fun c1 A2 hc2 z2 v2 e2 => ?_
  refine (v1.ext e2).ld (c := cPtr) (x := none) ?_
  exact br_t rfl (hK A2 (e1.trans e2))
theorem RunsNone_ok {name : ByteArray} {width : Int} {l : Sl} {H : Heap} {K : Bool → Heap → Prop} (hg : Gl H) (hK : ∀ B, Ext H B → K true B) : fathomlaw07_RunsNone.sp name width l H K := by
  refine fathomlaw07_RunsNone.of ?_
  unfold fathomlaw07_RunsNone.vc
  refine rclose_none (rnext_none ?_)
  refine rmake_none fun H1 e1 => ?_
  refine ropen_none fun H2 e2 => ?_
  refine rstop_none ?_
  refine br_t rfl (br_t rfl (br_t rfl ?_))
  refine rrows_none (br_t rfl ?_)
  refine radd_none (br_t rfl ?_)
  refine rseek_none fun H3 e3 => ?_
  refine br_t rfl ?_
  have e := (e1.trans e2).trans e3
  exact rworks_ok (hg.mod e id) fun B eB => hK B (e.trans eB)
end Go.Proofs.YtbgpkpbejldlcaaGreatDoor

/-
  Rows of a width out of numbers, each above the one ahead: in plain words.
-/
namespace Go.Proofs.YtbgpkpbejldlcaaGreatDoor

def upTo (a : Int) (st : List Int) : Int := st.foldl (fun s x => s + 1 + x.emod 50) a
/-- The row of a number. -/
def numR (W : Nat) (x : Int) : List Int := if W = 1 then [x] else x / 9 :: (List.replicate (W - 2) 0 ++ [x % 9])
def riseL (W : Nat) : Int → List Int → List (List Int)
  | _, [] => []
  | a, x :: st => numR W (a + 1 + x.emod 50) :: riseL W (a + 1 + x.emod 50) st
theorem riseL_length (W : Nat) : ∀ (st : List Int) (a : Int), (riseL W a st).length = st.length
  | [], _ => rfl
  | x :: st, a => by simp [riseL, riseL_length W st]
theorem numR_length {W : Nat} (h : 1 ≤ W) (x : Int) : (numR W x).length = W := by
  unfold numR; split
  · rename_i e; subst e; rfl
  · simp; omega
theorem cmpL_zeros (k : Nat) (a b : List Int) : cmpL (List.replicate k 0 ++ a) (List.replicate k 0 ++ b) = cmpL a b := by
  induction k with
  | zero => rfl
  | succ k ih => rw [List.replicate_succ, List.cons_append, List.cons_append]; simp [cmpL, ih]
theorem numR_less {W : Nat} {x y : Int} (h0 : 0 ≤ x) (h : x < y) : cmpL (numR W x) (numR W y) < 0 := by
  unfold numR
  split
  · simp only [cmpL]; rw [if_pos h]; decide
  · simp only [cmpL]
    rw [cmpL_zeros]
    simp only [cmpL]
    split
    · decide
    · rw [if_neg (by omega), if_pos (by omega)]; decide
theorem numR_fits {W : Nat} {x : Int} (h0 : 0 ≤ x) (h1 : x < 18446744073709551616) : fitsL (numR W x) := by
  unfold numR fitsL
  split
  · intro y hy; simp at hy; omega
  · intro y hy
    simp at hy
    rcases hy with rfl | ⟨_, rfl⟩ | rfl <;> omega
theorem riseL_rise {W : Nat} (hW : 1 ≤ W) : ∀ (st : List Int) (a : Int), (∀ x ∈ st, 0 ≤ x) → 0 ≤ a → a + 50 * st.length < 18446744073709551616 →
    (∀ l ∈ riseL W a st, l.length = W) ∧ (∀ l ∈ riseL W a st, fitsL l) ∧ (∀ i, i + 1 < (riseL W a st).length → cmpL ((riseL W a st).getD i []) ((riseL W a st).getD (i + 1) []) < 0)
  | [], _, _, _, _ => by simp [riseL]
  | x :: st, a, hx, ha, hb => by
    have h1 := hx x List.mem_cons_self
    have hm0 := Int.emod_nonneg x (show (50 : Int) ≠ 0 by decide)
    have hm1 := Int.emod_lt_of_pos x (show (0 : Int) < 50 by decide)
    have hm0' : 0 ≤ x.emod 50 := hm0
    have hm1' : x.emod 50 < 50 := hm1
    have hlen : ((x :: st).length : Int) = st.length + 1 := by simp
    rw [hlen] at hb
    obtain ⟨i1, i2, i3⟩ := riseL_rise hW st (a + 1 + x.emod 50) (fun y hy => hx y (List.mem_cons_of_mem _ hy)) (by omega) (by omega)
    unfold riseL
    refine ⟨fun l hl => ?_, fun l hl => ?_, fun i hi => ?_⟩
    · rcases List.mem_cons.1 hl with q | q
      · subst q; exact numR_length hW _
      · exact i1 l q
    · rcases List.mem_cons.1 hl with q | q
      · subst q; exact numR_fits (by omega) (by omega)
      · exact i2 l q
    · cases i with
      | zero =>
        cases st with
        | nil => simp [riseL] at hi
        | cons y st =>
          have h2 := hx y (by simp)
          have hy0 : 0 ≤ y.emod 50 := Int.emod_nonneg y (show (50 : Int) ≠ 0 by decide)
          show cmpL (numR W _) (numR W _) < 0
          exact numR_less (by omega) (by omega)
      | succ i => exact i3 i (by simpa using hi)
theorem rise_of {W : Nat} (hW : 1 ≤ W) {st : List Int} (hx : ∀ x ∈ st, 0 ≤ x) (hl : st.length ≤ 300) : Rise W (riseL W 0 st) := by
  obtain ⟨a, b, c⟩ := riseL_rise hW st 0 hx (Int.le_refl _) (by omega)
  exact ⟨a, b, c⟩
theorem upTo_snoc (a : Int) (st : List Int) (x : Int) : upTo a (st ++ [x]) = upTo a st + 1 + x.emod 50 := by simp [upTo]
theorem riseL_snoc (W : Nat) : ∀ (st : List Int) (a x : Int), riseL W a (st ++ [x]) = riseL W a st ++ [numR W (upTo a st + 1 + x.emod 50)]
  | [], _, _ => rfl
  | y :: st, a, x => by
    have := riseL_snoc W st (a + 1 + y.emod 50) x
    show _ :: riseL W _ (st ++ [x]) = _ :: _
    rw [this]; rfl
end Go.Proofs.YtbgpkpbejldlcaaGreatDoor

/-
  Rows of a width out of numbers, each above the one ahead: the walk.
-/
namespace Go.Proofs.YtbgpkpbejldlcaaGreatDoor
open Go.MapKept

theorem numR_made {W : Nat} (hW : 1 ≤ W) (x a b : Int) (ha : a = x / 9) (hb : b = x % 9) :
    (if W = 1 then ((((List.replicate W (0 : Int)).set 0 a).set (W - 1) 0).set 0 x) else (((List.replicate W (0 : Int)).set 0 a).set (W - 1) b)) = numR W x := by
  subst ha hb
  unfold numR
  split
  · rename_i e; subst e; rfl
  · rename_i e
    obtain ⟨k, rfl⟩ : ∃ k, W = k + 2 := ⟨W - 2, by omega⟩
    have e1 : (List.replicate (k + 2) (0 : Int)).set 0 (x / 9) = x / 9 :: List.replicate (k + 1) 0 := rfl
    rw [e1, show k + 2 - 1 = k + 1 from rfl, List.set_cons_succ]
    congr 1
    rw [List.replicate_succ']
    show (List.replicate k (0 : Int) ++ [0]).set k (x % 9) = List.replicate (k + 2 - 2) (0 : Int) ++ [x % 9]
    rw [List.set_append_right _ _ (by simp)]
    simp
theorem upTo_bound : ∀ (st : List Int) (a : Int), (∀ x ∈ st, 0 ≤ x) → a ≤ upTo a st ∧ upTo a st ≤ a + 50 * st.length
  | [], a, _ => by simp [upTo]
  | x :: st, a, hx => by
    have h1 := hx x List.mem_cons_self
    have hm0 : 0 ≤ x.emod 50 := Int.emod_nonneg x (show (50 : Int) ≠ 0 by decide)
    have hm1 : x.emod 50 < 50 := Int.emod_lt_of_pos x (show (0 : Int) < 50 by decide)
    have := upTo_bound st (a + 1 + x.emod 50) fun y hy => hx y (List.mem_cons_of_mem _ hy)
    have e : upTo a (x :: st) = upTo (a + 1 + x.emod 50) st := rfl
    rw [e, List.length_cons]
    omega

set_option maxHeartbeats 1000000 in
theorem rising_ok {steps : Sl} {st : List Int} {W : Nat} {H : Heap} {K : Sl → Heap → Prop} (h : Ints .u64 H steps st) (hst : ∀ x ∈ st, 0 ≤ x ∧ x < 18446744073709551616) (hl : st.length ≤ 300) (hW : 1 ≤ W) (hW2 : W ≤ 16)
    (hK : ∀ s rs H', RowsOwn H' H.size s rs (riseL W 0 st) → Ext H H' → K s H') : fathomlaw07_rising.sp steps (W : Int) H K := by
  refine fathomlaw07_rising.of ?_
  unfold fathomlaw07_rising.vc
  have hn := h.len
  refine loop_upto st.length (fun i z A => ∃ rs, RowsOwn A H.size z.1 rs (riseL W 0 (st.take i)) ∧ Ext H A ∧ z.2.1 = upTo 0 (st.take i) ∧ z.2.2 = (i : Int)) ⟨[], RowsOwn.nil _ _, .refl _ _, rfl, rfl⟩ ?_
  rintro i ⟨out, sum, _⟩ A next hi ⟨rs, ro, eA, rfl, rfl⟩ hnext
  simp only
  refine br_mk (fun hc => ?_) (fun hc => ?_)
  · have hlt : i < st.length := by have : (i : Int) < (steps.n : Int) := by simpa using hc
                                   omega
    refine ints_get (h.ext eA) (i := (i : Int)) (j := i) rfl hlt fun ad ha => ?_
    have hxi : st.getD i 0 = st[i] := by rw [List.getD, List.getElem?_eq_getElem hlt]; rfl
    have hx0 := hst _ (List.getElem_mem hlt)
    rw [hxi]
    generalize hxx : st[i] = x at *
    have hb := upTo_bound (st.take i) 0 fun y hy => (hst y (List.mem_of_mem_take hy)).1
    have hbl : (st.take i).length = i := by rw [List.length_take]; omega
    rw [hbl] at hb
    have hsn : upTo 0 (st.take (i + 1)) = upTo 0 (st.take i) + 1 + x.emod 50 := by
      rw [List.take_add_one, List.getElem?_eq_getElem hlt, hxx]; exact upTo_snoc _ _ _
    have hrn : riseL W 0 (st.take (i + 1)) = riseL W 0 (st.take i) ++ [numR W (upTo 0 (st.take i) + 1 + x.emod 50)] := by
      rw [List.take_add_one, List.getElem?_eq_getElem hlt, hxx]; exact riseL_snoc W _ 0 x
    have hm0 : 0 ≤ x.emod 50 := Int.emod_nonneg x (show (50 : Int) ≠ 0 by decide)
    have hm1 : x.emod 50 < 50 := Int.emod_lt_of_pos x (show (0 : Int) < 50 by decide)
    have hmod : Int.tmod x 50 = x.emod 50 := Int.tmod_eq_emod_of_nonneg hx0.1
    have hu : IntKind.u64.wrap (IntKind.u64.wrap (upTo 0 (st.take i) + 1) + Int.tmod x 50) = upTo 0 (st.take i) + 1 + x.emod 50 := by
      rw [hmod, u64_wrap, u64_wrap]; omega
    rw [hu]
    generalize hS : upTo 0 (st.take i) + 1 + x.emod 50 = S at *
    have hS0 : 0 ≤ S ∧ S < 1000000 := by omega
    have hq : IntKind.u64.wrap (Int.tdiv S 9) = S / 9 := by
      rw [u64_wrap, Int.tdiv_eq_ediv_of_nonneg hS0.1]; omega
    have hr : Int.tmod S 9 = S % 9 := Int.tmod_eq_emod_of_nonneg hS0.1
    rw [hq, hr]
    have hw1 : IntKind.i64.wrap ((W : Int) - 1) = ((W - 1 : Nat) : Int) := by rw [wrap64 (by omega) (by omega)]; omega
    rw [hw1]
    refine elU64.make (base := H.size) (by omega) (Int.le_refl _) (by omega) (by omega) eA.size fun l A1 ln o1 e1 f1 _ => ?_
    rw [Int.toNat_natCast] at ln o1
    have fin : ∀ (A4 : Heap), Owns A4 H.size ty_uint64 1 l ((numR W S).map (Value.int .u64)) → Mod (ownB l) A1 A4 → newC A4 #[l.v] ty_sl_uint64 fun p H1 => doT cSl Tryz.prog (Builtin.append_ #[ty_sl_sl_uint64, ty_sl_sl_uint64] ty_sl_sl_uint64 #[out.v, (.slice (some p) 1 1)]) H1 fun (o : Sl) H2 => next (o, S, IntKind.i64.wrap ((i : Int) + 1)) H2 := by
      intro A4 o4 m4
      have z0 := eA.size
      have z1 := e1.size
      have z4 := m4.size
      have ro4 : RowsOwn A4 H.size out rs (riseL W 0 (st.take i)) := (ro.ext e1).mod m4 (fun b hb q => by have := (ro.block.1 b hb).2; have := f1 b q; omega) fun x hx b hb q => by have := (ro.block.2 x hx b hb).2; have := f1 b q; omega
      refine ro4.push (ty := ty_sl_sl_uint64) o4 (fun r' hr' b hb hb' => by have := (ro.block.2 r' hr' b hb').2; have := f1 b hb; omega) (by rw [ro.n, riseL_length, hbl]; omega) (by omega) fun s' H' _ r5 m5 => ?_
      refine hnext hlt _ _ ⟨rs ++ [l], by rw [hrn]; exact r5, ⟨by have := m5.size; omega, fun b hb _ => ?_⟩, hsn.symm, succ64 i (by omega)⟩
      exact (m5.same b (by omega) (fun q => by have := (ro.block.1 b q).1; omega)).trans ((m4.same b (by omega) (fun q => by have := f1 b q; omega)).trans ((e1.same b (by omega) id).trans (eA.same b hb id)))
    have hnum := numR_made hW S (S / 9) (S % 9) rfl rfl
    have o1' : Owns A1 H.size ty_uint64 1 l ((List.replicate W (0 : Int)).map (Value.int .u64)) := by simpa using o1
    refine Owns.st o1' (i := 0) (by omega) (by omega) rfl fun A2 o2 m2 z2 => ?_
    have e2 : ((List.replicate W (0 : Int)).map (Value.int .u64)).set (0 : Int).toNat (.int .u64 (S / 9)) = ((List.replicate W (0 : Int)).set 0 (S / 9)).map (Value.int .u64) := by simp [List.map_set]
    rw [e2] at o2
    refine ints_get o2.ints (i := ((W - 1 : Nat) : Int)) (j := W - 1) rfl (by simp; omega) fun a2 ha2 => ?_
    have hv : IntKind.u64.wrap (IntKind.u64.wrap (((List.replicate W (0 : Int)).set 0 (S / 9)).getD (W - 1) 0 * IntKind.u64.wrap (if ((W - 1 : Nat) : Int) < 1 then ((W - 1 : Nat) : Int) else 1)) + IntKind.u64.wrap (S % 9 * IntKind.u64.wrap (if ((W - 1 : Nat) : Int) < 1 then ((W - 1 : Nat) : Int) else 1))) = if W = 1 then 0 else S % 9 := by
      by_cases hw : W = 1
      · subst hw
        rw [if_pos rfl]
        simp [u64_wrap]
      · rw [if_neg hw, if_neg (by omega)]
        have eg : ((List.replicate W (0 : Int)).set 0 (S / 9)).getD (W - 1) 0 = 0 := by
          rw [List.getD, List.getElem?_set_ne (by omega), List.getElem?_replicate]
          split <;> rfl
        rw [eg]
        simp only [u64_wrap]
        omega
    rw [hv]
    refine Owns.st o2 (i := ((W - 1 : Nat) : Int)) (by omega) (by omega) rfl fun A3 o3 m3 z3 => ?_
    rw [Int.toNat_natCast] at o3
    have e3 : (((List.replicate W (0 : Int)).set 0 (S / 9)).map (Value.int .u64)).set (W - 1) (.int .u64 (if W = 1 then 0 else S % 9)) = (((List.replicate W (0 : Int)).set 0 (S / 9)).set (W - 1) (if W = 1 then 0 else S % 9)).map (Value.int .u64) := by simp [List.map_set]
    rw [e3] at o3
    have m13 := m2.trans m3
    refine br_mk (fun hc => ?_) (fun hc => ?_)
    · have hw : W = 1 := by have : (W : Int) = 1 := by simpa using hc
                            omega
      rw [if_pos hw] at hnum o3
      refine Owns.st o3 (i := 0) (by omega) (by omega) rfl fun A4 o4 m4 z4 => ?_
      have e4 : ((((List.replicate W (0 : Int)).set 0 (S / 9)).set (W - 1) 0).map (Value.int .u64)).set (0 : Int).toNat (.int .u64 S) = (numR W S).map (Value.int .u64) := by rw [← hnum]; simp [List.map_set]
      rw [e4] at o4
      exact fin A4 o4 (m13.trans m4)
    · have hw : ¬ W = 1 := fun q => by rw [q] at hc; simp at hc
      rw [if_neg hw] at hnum o3
      rw [hnum] at o3
      exact fin A3 o3 m13
  · have hge : i = st.length := by have : ¬ (i : Int) < (steps.n : Int) := by simpa using hc
                                   omega
    subst hge
    rw [List.take_length] at ro
    exact hK out rs A ro eA
end Go.Proofs.YtbgpkpbejldlcaaGreatDoor

/-
  RunsPages: one round: a run of all rows over a disk of some quota: the walk.
-/
namespace Go.Proofs.YtbgpkpbejldlcaaGreatDoor
open Go.MapKept

/-- What a round ends with: all is well and the disk holds just so many pages, or there was no room. -/
def roundE (W : Nat) (rs : List (List Int)) (Q : Nat) : Int := if 1 + pagesN rs.length (504 / (8 * W)) ≤ Q then 0 else 5

/-- Where the adds stand behind 'm' rounds. -/
structure AddsAt (H A : Heap) (k p d : Nat) (W Q : Nat) (rs : List (List Int)) (e : Int) (m : Nat) : Prop where
  at_ : (e = 0 ∧ ∃ s w, TW H A k p d s w ∧ RunOn s w nmF W (504 / (8 * W)) rs Q m ∧ s.d.logs ≤ 2 + 2 * m ∧ 1 + m / (504 / (8 * W)) ≤ Q) ∨ (e = 5 ∧ Q < 1 + pagesN rs.length (504 / (8 * W)) ∧ Ext H A)

theorem div_pages {m n room : Nat} (hr : 1 ≤ room) (h : m ≤ n) : m / room ≤ pagesN n room := by
  unfold pagesN
  exact Nat.div_le_div_right (by omega)

section
variable {H A : Heap} {k p d : Nat} {W Q : Nat} {rs : List (List Int)}
/-- One add. -/
theorem adds_step {l : Sl} {m : Nat} {s : Pl} {w : RW} {K : Int → Heap → Prop} (hg : Gl H) (hW : 1 ≤ W) (hW2 : W ≤ 16) (hr : Rise W rs) (hq : Q ≤ 1048576) (hl : rs.length ≤ 300) (hm : m < rs.length)
    (t : TW H A k p d s w) (h : RunOn s w nmF W (504 / (8 * W)) rs Q m) (hlg : s.d.logs ≤ 2 + 2 * m) (hN : 1 + m / (504 / (8 * W)) ≤ Q) (hi : Ints .u64 A l (rs.getD m [])) (hb : ∀ ad, l.a = some ad → ad.block < H.size)
    (hK : ∀ e B, AddsAt H B k p d W Q rs e (m + 1) → K e B) : runs_Writer_Add.sp (at0 k) l A K := by
  have hsz : nmF.size ≤ 9223372036854775807 := by decide
  obtain ⟨r1, r2, r3, r4⟩ := roomL_width hW hW2
  obtain ⟨a1, a2⟩ := h.add hW hW2 hr hm hsz hq (by omega)
  obtain ⟨T, c, _⟩ := h.calm
  have hlen : (rs.getD m []).length = W := by
    rw [List.getD, List.getElem?_eq_getElem hm]; exact hr.len _ (List.getElem_mem hm)
  have hnx := h.next
  have ab := RW.add_bounds (s := s) (w := w) (l := rs.getD m []) hnx.1 (by omega)
  have hwait : w.wait.length ≤ 1000000 := by
    rw [h.wait, rowsB_length hW (L := (rs.drop (m / (504 / (8 * W)) * (504 / (8 * W)))).take (m % (504 / (8 * W)))) (fun x hx => hr.len x (List.mem_of_mem_drop (List.mem_of_mem_take hx)))]
    have h1 : ((rs.drop (m / (504 / (8 * W)) * (504 / (8 * W)))).take (m % (504 / (8 * W)))).length ≤ 300 := by
      rw [List.length_take, List.length_drop]; omega
    calc _ ≤ 300 * 128 := Nat.mul_le_mul h1 (by omega)
      _ ≤ 1000000 := by decide
  have hpl := div_pages (m := m + 1) (n := rs.length) (room := 504 / (8 * W)) (by omega) (by omega)
  refine TW.add t (.refl _ _) hg hi (fun ad ha => .inr (hb ad ha)) (by omega) hwait (by rw [h.rows]; omega) (by rw [h.n]; have := Nat.mod_lt m (show 0 < 504 / (8 * W) by omega); omega) (by rw [h.b]; exact hsz) (by omega) (by omega) c.fit rfl fun B tB => hK _ B ?_
  by_cases hc : 1 + (m + 1) / (504 / (8 * W)) ≤ Q
  · obtain ⟨b1, b2⟩ := a1 hc
    exact ⟨.inl ⟨b1, _, _, tB, b2, by omega, hc⟩⟩
  · have e5 := a2 (by omega) hN
    exact ⟨.inr ⟨e5, by omega, tB.pool.1⟩⟩
/-- The end of a round. -/
theorem adds_close {s : Pl} {w : RW} {K : (Int × Int) → Heap → Prop} (hg : Gl H) (hW : 1 ≤ W) (hW2 : W ≤ 16) (hr : Rise W rs) (hq : Q ≤ 1048576) (hl : rs.length ≤ 300)
    (t : TW H A k p d s w) (h : RunOn s w nmF W (504 / (8 * W)) rs Q rs.length) (hlg : s.d.logs ≤ 2 + 2 * rs.length) (hN : 1 + rs.length / (504 / (8 * W)) ≤ Q)
    (hK : ∀ n e B s', e = roundE W rs Q → (e = 0 → s'.d.used = 1 + pagesN rs.length (504 / (8 * W))) → TP H B p d s' → K (n, e) B) : runs_Writer_Close.sp (at0 k) A K := by
  have hsz : nmF.size ≤ 9223372036854775807 := by decide
  obtain ⟨c1, c2⟩ := h.close hW hW2 hr hsz hq (by omega)
  obtain ⟨T, c, _⟩ := h.calm
  have hnx := h.next
  refine TW.close (m := (w.close s).2.2.1) (e := (w.close s).2.2.2) t hg (by rw [h.rows]; omega) (by rw [h.b]; simp only; omega) (by rw [h.b]; exact hsz) (by omega) (by omega) c.fit rfl fun B tB => ?_
  by_cases hc : 1 + pagesN rs.length (504 / (8 * W)) ≤ Q
  · obtain ⟨d1, d2, _⟩ := c1 hc
    refine hK _ _ B _ (by rw [d1]; exact (if_pos hc).symm) (fun _ => ?_) tB.pool
    obtain ⟨T', cT, _⟩ := d2.calm
    obtain ⟨pg, tT⟩ := cT.told
    rw [tT.disk.used, tT.len]
  · have d1 := c2 (by omega) hN
    exact hK _ _ B _ (by rw [d1]; exact (if_neg hc).symm) (fun q => by rw [d1] at q; cases q) tB.pool
end
end Go.Proofs.YtbgpkpbejldlcaaGreatDoor

/-
  RunsPages: the walk.
-/
namespace Go.Proofs.YtbgpkpbejldlcaaGreatDoor
open Go.MapKept

theorem make_any {H A : Heap} {p d W Q : Nat} {rs : List (List Int)} {K : (Option Addr × Int) → Heap → Prop} (hg : Gl H) (hW : 1 ≤ W) (hW2 : W ≤ 16) (hq : Q ≤ 1048576) (t : TP H A p d (pl0 (dk0 (Q : Int)) 8))
    (hK : ∀ r B k, (r.2 = 0 → r.1 = at0 k) → AddsAt H B k p d W Q rs r.2 0 → K r B) : runs_Make.sp (at0 p) nmF (W : Int) A K := by
  have hsz : nmF.size ≤ 9223372036854775807 := by decide
  obtain ⟨m1, m0⟩ := made_on (q := (Q : Int)) (n := nmF) (W := W) (rs := rs) (by omega) (by omega) nmF_named hsz hW hW2
  have mb := rnMake_bounds (s := pl0 (dk0 (Q : Int)) 8) (n := nmF) (W := (W : Int)) (by show (0 : Int) ≤ 1; decide) (by show (1 : Int) < _; decide)
  have z1 : (pl0 (dk0 (Q : Int)) 8).d.logs = 0 := rfl
  have z2 : (pl0 (dk0 (Q : Int)) 8).next = 1 := rfl
  rw [z1, z2] at mb
  by_cases h1 : 1 ≤ Q
  · obtain ⟨m2, m3⟩ := m1 (by omega)
    rw [Int.toNat_natCast] at m3
    refine TP.make t hg hsz (by rw [z1]; decide) (by rw [z2]; decide) (by rw [z2]; decide) (fun f hf => by cases hf) m2 (fun q => by cases q) fun w q k B tB => ?_
    cases q
    exact hK _ B k (fun _ => rfl) ⟨.inl ⟨rfl, _, _, tB, m3, by omega, by rw [Nat.zero_div]; omega⟩⟩
  · have m2 := m0 (by omega)
    refine TP.make t hg hsz (by rw [z1]; decide) (by rw [z2]; decide) (by rw [z2]; decide) (fun f hf => by cases hf) m2 (fun _ B tB => ?_) fun w q => by cases q
    exact hK _ B 0 (fun q => by cases q) ⟨.inr ⟨rfl, by omega, tB.1⟩⟩

set_option maxHeartbeats 1000000 in
theorem RunsPages_ok {steps : Sl} {st : List Int} {width : Int} {H : Heap} {K : Bool → Heap → Prop} (hg : Gl H) (h : Ints .u64 H steps st) (hst : ∀ x ∈ st, 0 ≤ x ∧ x < 18446744073709551616) (hK : ∀ B, Ext H B → K true B) : fathomlaw07_RunsPages.sp steps width H K := by
  refine fathomlaw07_RunsPages.of ?_
  unfold fathomlaw07_RunsPages.vc
  refine rPick_ok (by decide) ?_
  rw [if_neg (by decide)]
  obtain ⟨W, hWe, hW, hW2⟩ : ∃ W : Nat, IntKind.i64.wrap (1 + width.emod 16) = (W : Int) ∧ 1 ≤ W ∧ W ≤ 16 := by
    have h0 : 0 ≤ width.emod 16 := Int.emod_nonneg width (show (16 : Int) ≠ 0 by decide)
    have h1 : width.emod 16 < 16 := Int.emod_lt_of_pos width (show (0 : Int) < 16 by decide)
    refine ⟨(1 + width.emod 16).toNat, ?_, by omega, by omega⟩
    rw [wrap64 (by omega) (by omega)]; omega
  rw [hWe]
  have hn := h.len
  refine br_mk (fun hc => hK _ (.refl _ _)) (fun hc => ?_)
  have hl : st.length ≤ 300 := by have : ¬ (steps.n : Int) > 300 := by simpa using hc
                                  omega
  refine rising_ok h hst hl hW hW2 fun rows rs1 H2 ro e2 => ?_
  have hr := rise_of hW (fun x hx => (hst x hx).1) hl
  have hlen := riseL_length W st 0
  generalize riseL W 0 st = rs at *
  obtain ⟨r1, r2, r3, r4⟩ := roomL_width hW hW2
  refine rowRoom_ok ?_
  rw [r1]
  have hNle := pagesN_le (n := rs.length) (show 0 < 504 / (8 * W) by omega)
  have hrz : ((504 / (8 * W) : Nat) : Int) ≠ 0 := by
    intro q
    have : 504 / (8 * W) = 0 := Int.ofNat.inj q
    omega
  refine br_f (by simpa using hrz) ⟨hrz, ?_⟩
  have hwant : IntKind.i64.wrap (1 + IntKind.i64.wrap (Int.tdiv (IntKind.i64.wrap (IntKind.i64.wrap ((rows.n : Int) + ((504 / (8 * W) : Nat) : Int)) - 1)) ((504 / (8 * W) : Nat) : Int))) = ((1 + pagesN rs.length (504 / (8 * W)) : Nat) : Int) := by
    rw [ro.n]
    generalize 504 / (8 * W) = room at *
    rw [show IntKind.i64.wrap ((rs.length : Int) + (room : Int)) = ((rs.length + room : Nat) : Int) from by rw [wrap64 (by omega) (by omega)]; omega]
    rw [show IntKind.i64.wrap (((rs.length + room : Nat) : Int) - 1) = ((rs.length + room - 1 : Nat) : Int) from by rw [wrap64 (by omega) (by omega)]; omega]
    rw [show Int.tdiv ((rs.length + room - 1 : Nat) : Int) (room : Int) = ((pagesN rs.length room : Nat) : Int) from rfl]
    rw [wrap64 (x := ((pagesN rs.length room : Nat) : Int)) (by omega) (by omega), wrap64 (by omega) (by omega)]; omega
  rw [hwant]
  generalize hN1 : 1 + pagesN rs.length (504 / (8 * W)) = N1 at *
  rw [show IntKind.i64.wrap ((N1 : Int) - 1) = ((N1 - 1 : Nat) : Int) from by rw [wrap64 (by omega) (by omega)]; omega]
  refine newC_rowT fun H4 z4 r4' e4 => ?_
  have e04 : Ext H H4 := e2.trans e4
  refine loop_upto 2 (fun q z A => z = (q : Int) ∧ Ext H4 A) ⟨rfl, .refl _ _⟩ ?_
  rintro q _ A next hq ⟨rfl, eA⟩ hnext
  have gA : Gl A := (hg.mod e04 id).mod eA id
  refine br_mk (fun hc => ?_) (fun hc => ?_)
  · have hq2 : q < 2 := by have : (q : Int) < 2 := by simpa using hc
                           omega
    refine ⟨⟨by omega, by omega⟩, ?_⟩
    obtain ⟨Q, hQ⟩ : ∃ Q : Nat, Q = if q = 0 then N1 else N1 - 1 := ⟨_, rfl⟩
    have hcell : (#[(.int .i64 (N1 : Int)), (.int .i64 ((N1 - 1 : Nat) : Int))] : Array Value)[q]? = some (.int .i64 (Q : Int)) := by
      have : q = 0 ∨ q = 1 := by omega
      rcases this with rfl | rfl
      · rw [hQ]; rfl
      · rw [hQ]; rfl
    rw [Int.toNat_natCast, Nat.mul_one]
    refine RowT.ld (c := cInt .i64) (i := q) (x := (Q : Int)) (r4'.ext eA) hcell ?_
    have hQb : Q ≤ 1048576 := by rw [hQ]; split <;> omega
    refine New_ok (by omega) fun F1 d A1 a1 x1 f1 => ?_
    refine TP.new (m := 8) gA x1 a1 f1 (by decide) (by decide) fun p A2 t2 => ?_
    refine make_any (rs := rs) gA hW hW2 hQb t2 fun r A3 k hk0 hA => ?_
    obtain ⟨wp, e0⟩ := r
    refine loop_upto rs.length (fun m z B => z.2 = (m : Int) ∧ (z.1 = 0 → wp = at0 k) ∧ AddsAt A B k p d W Q rs z.1 m) ⟨rfl, hk0, hA⟩ ?_
    rintro m ⟨e, _⟩ B nxt hm ⟨rfl, hk, hB⟩ hnxt
    simp only at hk hB ⊢
    refine ⟨fun _ B' => B' = B ∧ m < rs.length ∧ e = 0, ?_, ?_⟩
    · refine br_mk (fun hc => ?_) (fun hc => ?_)
      · rw [ro.n] at hc
        simp only [Bool.and_eq_true, decide_eq_true_eq, beq_iff_eq] at hc
        exact ⟨rfl, by omega, hc.2⟩
      · refine ⟨fun e3 B' => e3 = roundE W rs Q ∧ (e3 = 0 → ∃ s', TP A B' p d s' ∧ s'.d.used = N1) ∧ Ext A B', ?_, ?_⟩
        · refine br_mk (fun hc2 => ?_) (fun hc2 => ?_)
          · have e00 : e = 0 := by simpa using hc2
            have hml : m = rs.length := by
              rw [ro.n] at hc
              simp only [e00, Bool.and_eq_false_iff, decide_eq_false_iff_not] at hc
              rcases hc with q | q
              · omega
              · simp at q
            rcases hB.at_ with ⟨_, s, w, t, on, lg, hN⟩ | ⟨q, _⟩
            · subst hml
              rw [hk e00]
              exact adds_close gA hW hW2 hr hQb (by omega) t on lg hN fun n e B' s' q1 q2 tp => ⟨q1, fun q => ⟨s', tp, by rw [q2 q, hN1]⟩, tp.1⟩
            · omega
          · have e00 : e ≠ 0 := by simpa using hc2
            rcases hB.at_ with ⟨q, _⟩ | ⟨q, q2, q3⟩
            · exact absurd q e00
            · exact ⟨by rw [q]; exact (if_neg (by omega)).symm, fun u => absurd u e00, q3⟩
        · rintro e3 B' ⟨q1, q2, q3⟩
          have hq01 : q = 0 ∨ q = 1 := by omega
          rcases hq01 with rfl | rfl
          · rw [if_pos rfl] at hQ
            have e30 : e3 = 0 := by rw [q1]; exact if_pos (by omega)
            obtain ⟨s', tp, hu⟩ := q2 e30
            refine br_t (by rw [hQ]; simp) ?_
            refine br_f (by rw [e30]; rfl) ?_
            obtain ⟨D, d1, _⟩ := TP.disk tp gA
            refine Used_ok d1 ?_
            rw [hu, hQ]
            refine br_f (by simp) ?_
            exact hnext (by omega) _ _ ⟨succ64 0 (by omega), eA.trans q3⟩
          · rw [if_neg (by decide)] at hQ
            have e35 : e3 = 5 := by rw [q1]; exact if_neg (by omega)
            have hne : ¬ ((Q : Int) = (N1 : Int)) := by omega
            refine br_f (by simp [hne]) ?_
            refine br_f (by rw [e35]; simp) ?_
            exact hnext (by omega) _ _ ⟨succ64 1 (by omega), eA.trans q3⟩
    · rintro _ B' ⟨rfl, hml, rfl⟩
      rcases hB.at_ with ⟨_, s, w, t, on, lg, hN⟩ | ⟨q, _⟩
      · have x2 : Ext H2 B' := (e4.trans eA).trans t.pool.1
        obtain ⟨ad, x, ha, hcell, hx⟩ := ro.rows.at' m hml
        refine optK_mk ad ha ⟨⟨by omega, by rw [ro.n]; omega⟩, x, ?_, ?_⟩
        · rw [Int.toNat_natCast, Nat.mul_one]
          exact x2.cell hcell id
        · have eg : rs.getD m [] = rs[m] := getD_of hml
          rw [hk rfl]
          refine adds_step (rs := rs) gA hW hW2 hr hQb (by omega) hml t on lg hN (by rw [eg]; exact hx.ext x2) (fun ad2 ha2 => ?_) fun e2 B2 hA2 => hnxt hml _ _ ⟨succ64 m (by omega), fun _ => hk rfl, hA2⟩
          obtain ⟨ad3, ha3, hc3⟩ := hx.at (i := 0) (by rw [hr.len _ (List.getElem_mem hml)]; omega)
          rw [ha2] at ha3; cases ha3
          have := hCell_lt hc3
          rw [add_block] at this
          have := e4.size; have := eA.size; omega
      · omega
  · exact rworks_ok gA fun B eB => hK B ((e04.trans eA).trans eB)
end Go.Proofs.YtbgpkpbejldlcaaGreatDoor

/-
  RunsBack: a run behind a crash, in plain words.
-/
namespace Go.Proofs.YtbgpkpbejldlcaaGreatDoor
open Go.MapKept

/-- A crash at the first change behind a sync: what was synced is there again. -/
theorem Live.crashed {d : Dk} {n m : ByteArray} {pg : List Pg} {q : Nat} {k : Int} (h : Live d n pg q) (hs : ∃ f, d.files = [f] ∧ f.name = n ∧ f.synced = pg ∧ f.log = []) (hm : named m = true) (hne : n ≠ m) :
    Live ((d.setCrash 0 k).create m).1.restart n pg q ∧ ((d.setCrash 0 k).create m).1.logs = d.logs ∧ ((d.setCrash 0 k).create m).1.restart.logs = 0 := by
  obtain ⟨f, h1, h2, h3, h4⟩ := hs
  have e1 : d.setCrash 0 k = { d with crash := some (0, k) } := by
    unfold Dk.setCrash; rw [if_neg (by rw [h.up]; simp)]; rfl
  have hidx : ({ d with crash := some (0, k) } : Dk).idx m = none := by
    unfold Dk.idx
    rw [List.findIdx?_eq_none_iff]
    intro g hg
    have hg : g ∈ d.files := hg
    rw [h1] at hg
    simp at hg; subst hg
    have : ¬ g.name.toList = m.toList := fun q => hne (h2 ▸ ba_eq q)
    simpa using this
  have e2 : (({ d with crash := some (0, k) } : Dk).create m).1 = { d with crash := some (0, k), down := true } := by
    unfold Dk.create
    rw [if_neg (by show ¬ d.down = true; rw [h.up]; simp), if_neg (by rw [hm]; simp), if_neg (by rw [hidx]; simp), if_neg (by show ¬ d.files.length = 4096; rw [h1]; simp)]
    rfl
  rw [e1, e2]
  have e3 : ({ d with crash := some (0, k), down := true } : Dk).restart = { d with files := [⟨f.name, f.synced, []⟩], down := false, crash := none } := by
    unfold Dk.restart
    rw [if_pos rfl]
    have : d.files.map (({ d with crash := some (0, k), down := true } : Dk).after) = [⟨f.name, f.synced, []⟩] := by
      rw [h1]
      simp only [List.map_cons, List.map_nil, Dk.after, h4, List.filter_nil, List.foldl_nil]
    show ({ d with files := d.files.map _, down := false, crash := none } : Dk) = _
    rw [this]
  rw [e3]
  exact ⟨⟨rfl, rfl, ⟨⟨f.name, f.synced, []⟩, rfl, h2, h3⟩, h.quota⟩, rfl, by simp [Dk.logs]⟩

/-- A pool over a disk that holds a run. -/
theorem ran_again {d : Dk} {n : ByteArray} {pg : List Pg} {q m W room : Nat} {rs : List (List Int)} (h : Live d n pg q) (hl : pg.length = 1 + pagesN rs.length room)
    (ho : ∀ (k : Nat) (b : Pg), pg[k]? = some b → openP b.1 = some (if k = 0 then (2, headB W rs.length) else (1, rowsB (pageR rs room (k - 1))))) (h8 : 8 ≤ m) (hm : m ≤ 4096) : Ran (pl0 d m) n W room rs q :=
  ⟨⟨fun k => if k = 0 then (2, headB W rs.length) else (1, rowsB (pageR rs room (k - 1))), ⟨⟨pg, ⟨rfl, h, hl, by intro f hf; simp [pl0] at hf, fun k b hk _ => ho k b hk⟩⟩, pl0_wf h8 hm, by intro f hf; simp [pl0] at hf⟩, if_pos rfl, fun k _ => by
    show (if k + 1 = 0 then _ else _) = _
    rw [if_neg (by omega)]; rfl⟩⟩

theorem calm0M {q : Int} {n : ByteArray} {m : Nat} (h0 : 0 ≤ q) (hq : q ≤ 1048576) (hn : named n = true) (h8 : 8 ≤ m) (hm : m ≤ 4096) : Calm (pl0 ((dk0 q).create n).1 m) n 0 q.toNat (fun _ => (0, [])) :=
  ⟨⟨_, pl0_told (create_live h0 hq hn).1⟩, pl0_wf h8 hm, by intro f hf; cases hf⟩
theorem made_onM {q : Int} {n : ByteArray} {W m : Nat} {rs : List (List Int)} (h0 : 0 ≤ q) (hq : q ≤ 1048576) (hn : named n = true) (hs : n.size ≤ 9223372036854775807) (h1 : 1 ≤ W) (h2 : W ≤ 16) (h8 : 8 ≤ m) (hm : m ≤ 4096) (hq1 : 1 ≤ q) :
    (rnMake (pl0 (dk0 q) m) n W).2 = (some (rw0 n W), 0) ∧ RunOn (rnMake (pl0 (dk0 q) m) n W).1 (rw0 n W) n W (504 / (8 * W)) rs q.toNat 0 := by
  obtain ⟨r1, r2, r3, r4⟩ := roomL_width h1 h2
  generalize 504 / (8 * W) = room at *
  have hc := create_live h0 hq hn
  have C := calm0M h0 hq hn h8 hm
  have e : rnMake (pl0 (dk0 q) m) n W = if ((pl0 ((dk0 q).create n).1 m).more n 0 []).2 ≠ 0 then (((pl0 ((dk0 q).create n).1 m).more n 0 []).1, none, ((pl0 ((dk0 q).create n).1 m).more n 0 []).2) else (((pl0 ((dk0 q).create n).1 m).more n 0 []).1, some (rw0 n W), 0) := by
    unfold rnMake
    rw [if_neg (by rw [r1]; omega)]
    have : ((pl0 (dk0 q) m).d.create n).2 = 0 := hc.2.2.1
    rw [if_neg (by rw [this]; simp)]
    rfl
  rw [e]
  obtain ⟨a1, a2, a3, a4⟩ := C.more (k := 0) (b := []) (by omega) (by omega) hs (by show (0 : Int) ≤ 1; omega) (by show (1 : Int) < _; omega) (by simp)
  rw [if_neg (by rw [a1]; simp)]
  rw [if_pos rfl] at a2
  have hmod : 0 % room = 0 := Nat.zero_mod _
  have hdiv : 0 / room = 0 := Nat.zero_div _
  refine ⟨rfl, ⟨⟨_, by rw [hdiv]; exact a2, fun k hk => ?_⟩, rfl, rfl, hmod.symm, ?_, fun q => by omega, Nat.zero_le _, ?_, ?_⟩⟩
  · rw [hdiv] at hk
    have : k = 0 := by omega
    subst this
    exact setT_same _ _ _
  · show [] = _
    rw [hmod]; simp [rowsB]
  · rw [a3]; show (0 : Int) ≤ 1 + 1 ∧ (1 : Int) + 1 ≤ 2 + 0; omega
  · rw [a4]; exact .inr h8

section
variable {H A : Heap} {k p d : Nat} {W Q : Nat} {rs : List (List Int)}
/-- The end of a run, and what its disk holds then. -/
theorem back_close {s : Pl} {w : RW} {K : (Int × Int) → Heap → Prop} (hg : Gl H) (hW : 1 ≤ W) (hW2 : W ≤ 16) (hr : Rise W rs) (hq : Q ≤ 1048576) (hl : rs.length ≤ 300)
    (t : TW H A k p d s w) (h : RunOn s w nmF W (504 / (8 * W)) rs Q rs.length) (hlg : s.d.logs ≤ 2 + 2 * rs.length) (hN : 1 + pagesN rs.length (504 / (8 * W)) ≤ Q)
    (hK : ∀ B s' pg, Live s'.d nmF pg Q → (∃ f, s'.d.files = [f] ∧ f.name = nmF ∧ f.synced = pg ∧ f.log = []) → pg.length = 1 + pagesN rs.length (504 / (8 * W)) →
      (∀ (k : Nat) (b : Pg), pg[k]? = some b → openP b.1 = some (if k = 0 then (2, headB W rs.length) else (1, rowsB (pageR rs (504 / (8 * W)) (k - 1))))) → TP H B p d s' → K ((rs.length : Int), 0) B) : runs_Writer_Close.sp (at0 k) A K := by
  have hsz : nmF.size ≤ 9223372036854775807 := by decide
  obtain ⟨c1, _⟩ := h.close hW hW2 hr hsz hq (by omega)
  obtain ⟨T, c, _⟩ := h.calm
  have hnx := h.next
  obtain ⟨d1, d2, _, f, d3, d4, d5, d6, d7⟩ := c1 hN
  refine TW.close t hg (by rw [h.rows]; omega) (by rw [h.b]; simp only; omega) (by rw [h.b]; exact hsz) (by omega) (by omega) c.fit d1 fun B tB => ?_
  obtain ⟨T', cT, _⟩ := d2.calm
  obtain ⟨pg, tT⟩ := cT.told
  obtain ⟨g, g1, g2, g3⟩ := tT.disk.file
  have hfg : f = g := by rw [d3] at g1; simpa using g1
  subst hfg
  have hsy : f.synced = pg := by
    rw [← g3]; unfold Fl.pages; rw [d5]; rfl
  exact hK B _ pg tT.disk ⟨f, d3, d4, hsy, d5⟩ (by rw [← hsy]; exact d6) (fun k b hk => d7 k b (by rw [hsy]; exact hk)) tB.pool
end
end Go.Proofs.YtbgpkpbejldlcaaGreatDoor

/-
  A run is read from where its reader stands to its end: the walk.
-/
namespace Go.Proofs.YtbgpkpbejldlcaaGreatDoor
open Go.MapKept

/-- Rows that lie in an older heap; their list lies there too, or among the blocks 'X'. -/
structure RowsIn (H A : Heap) (X : Nat → Prop) (s : Sl) (L : List (List Int)) : Prop where
  len : s.n = L.length
  at' : ∀ i (h : i < L.length), ∃ ad r, s.a = some ad ∧ (X ad.block ∨ ad.block < H.size) ∧ hCell A (ad.add i) = some (Sl.v r) ∧ Ints .u64 H r L[i]

theorem RowsIn.keep {H A B : Heap} {X : Nat → Prop} {s : Sl} {L : List (List Int)} (h : RowsIn H A X s L) (eA : Ext H A) (eB : Ext H B) (x : ∀ b, X b → B[b]? = A[b]?) : RowsIn H B X s L := by
  refine ⟨h.len, fun i hi => ?_⟩
  obtain ⟨ad, r, h1, h2, h3, h4⟩ := h.at' i hi
  refine ⟨ad, r, h1, h2, ?_, h4⟩
  rw [← h3]
  refine hCell_congr ?_
  rw [add_block]
  rcases h2 with q | q
  · exact x _ q
  · exact (eB.same _ q id).trans (eA.same _ q id).symm

/-- What a reader stands on. -/
structure ReadOn (H A : Heap) (X : Nat → Prop) (k p d W Q : Nat) (rs : List (List Int)) (m lg : Nat) (nx : Int) : Prop where
  at_ : ∃ s r, TR H A X k p d s r ∧ Ran s nmF W (504 / (8 * W)) rs Q ∧ RdOn r nmF W (504 / (8 * W)) rs ∧ r.at_ = m ∧ s.d.logs ≤ lg ∧ 0 ≤ s.next ∧ s.next ≤ nx

theorem RdOn.ok {r : RR} {n : ByteArray} {W : Nat} {rs : List (List Int)} (h : RdOn r n W (504 / (8 * W)) rs) (h1 : 1 ≤ W) (h2 : W ≤ 16) (hbig : rs.length ≤ 1000000) : r.Ok := by
  have hrm := h.room h1 h2
  have r2 := (roomL_width h1 h2).2.1
  refine ⟨by rw [hrm]; omega, by rw [h.rows]; exact h.at_, fun j hj => ?_, by rw [h.rows]; omega, h.cols⟩
  obtain ⟨_, j2⟩ := h.page j hj
  rw [j2, hrm, h.rows, pageR_len]

theorem ReadOn.weak {H A : Heap} {X : Nat → Prop} {k p d W Q : Nat} {rs : List (List Int)} {m lg lg' : Nat} {nx nx' : Int} (h : ReadOn H A X k p d W Q rs m lg nx) (h1 : lg ≤ lg') (h2 : nx ≤ nx') : ReadOn H A X k p d W Q rs m lg' nx' := by
  obtain ⟨s, r, a, b, c, e, f, g, i⟩ := h.at_
  exact ⟨s, r, a, b, c, e, by omega, g, by omega⟩

theorem rows_in {H : Heap} {X : Nat → Prop} {s : Sl} {L : List (List Int)} (h : Rows H s L) : RowsIn H H X s L := by
  refine ⟨h.len, fun i hi => ?_⟩
  obtain ⟨ad, r, h1, h2, h3⟩ := h.at' i hi
  exact ⟨ad, r, h1, .inr (by have := hCell_lt h2; rwa [add_block] at this), h2, h3⟩

section
variable {H A : Heap} {X : Nat → Prop} {k p d W Q : Nat} {rs : List (List Int)} {m lg : Nat} {nx : Int}
theorem ReadOn.more {B : Heap} {X' : Nat → Prop} (h : ReadOn H A X k p d W Q rs m lg nx) (e : Ext A B) (hx : ∀ b, X' b → X b ∨ (A.size ≤ b ∧ b < B.size)) : ReadOn H B X' k p d W Q rs m lg nx := by
  obtain ⟨s, r, a, b⟩ := h.at_
  exact ⟨s, r, a.more e hx, b⟩
theorem TR.rowsN {s : Pl} {r : RR} {K : Int → Heap → Prop} (t : TR H A X k p d s r) (hK : K (r.rows : Int) A) : runs_Reader_Rows.sp (at0 k) A K := by
  obtain ⟨h0, F, si, rs, h1, h2⟩ := t
  refine runs_Reader_Rows.of ?_
  unfold runs_Reader_Rows.vc
  unfold at0
  refine br_f rfl ?_
  simp only [optK_eq]
  exact RowT.ld (c := cInt .i64) (i := 6 + 0) (x := (r.rows : Int)) h1.rd.row (BRow.tail (j := 0) rfl) hK
theorem next_on {K : (Sl × Bool × Int) → Heap → Prop} (hg : Gl H) (hW : 1 ≤ W) (hW2 : W ≤ 16) (hr : Rise W rs) (hq : Q ≤ 1048576) (hl : rs.length ≤ 300) (hN : 1 + pagesN rs.length (504 / (8 * W)) ≤ Q)
    (h : ReadOn H A X k p d W Q rs m lg nx) (hlg : lg ≤ 1000000) (hnx : nx ≤ 1000000)
    (hK1 : m < rs.length → ∀ l B, Ints .u64 B l (rs.getD m []) → Ext H B → (∀ b, X b → B[b]? = A[b]?) → ReadOn H B X k p d W Q rs (m + 1) (lg + 1) (nx + 1) → K (l, true, 0) B)
    (hK0 : m = rs.length → ∀ l B, l.n = 0 → Ext H B → (∀ b, X b → B[b]? = A[b]?) → ReadOn H B X k p d W Q rs m (lg + 1) (nx + 1) → K (l, false, 0) B) : runs_Reader_Next.sp (at0 k) A K := by
  have hsz : nmF.size ≤ 9223372036854775807 := by decide
  obtain ⟨s, r, t, ran, on, ha, h1, h2, h3⟩ := h.at_
  have hat := on.at_
  obtain ⟨n1, n2⟩ := ran.next on hW hW2 hr hsz hq hN h2 (by omega)
  have nl := RR.next_logs r s
  by_cases hc : r.at_ < rs.length
  · obtain ⟨a1, a2, a3, a4, a5, a6⟩ := n1 hc
    refine TR.next t hg (on.ok hW hW2 (by omega)) (by rw [on.b]; exact hsz) (by omega) (by omega) a1 fun l B tB iB xB => ?_
    subst ha
    exact hK1 hc l B iB tB.at xB ⟨_, _, tB.more (.refl _ _) (fun b hb => .inl (.inl hb)), a2, a3, a4, by omega, by omega, by omega⟩
  · have he : r.at_ = rs.length := by omega
    have a1 := n2 he
    refine TR.next t hg (on.ok hW hW2 (by omega)) (by rw [on.b]; exact hsz) (by omega) (by omega) (row := []) (ok := false) (e := 0) (by rw [a1]) fun l B tB iB xB => ?_
    rw [a1] at tB
    subst ha
    exact hK0 he l B iB.len tB.at xB ⟨_, _, tB.more (.refl _ _) (fun b hb => .inl (.inl hb)), ran, on, rfl, by show s.d.logs ≤ _; omega, h2, by show s.next ≤ _; omega⟩

theorem reads_ok {rows : Sl} {K : Bool → Heap → Prop} (hg : Gl H) (hW : 1 ≤ W) (hW2 : W ≤ 16) (hr : Rise W rs) (hq : Q ≤ 1048576) (hl : rs.length ≤ 300) (hN : 1 + pagesN rs.length (504 / (8 * W)) ≤ Q)
    (h : ReadOn H A X k p d W Q rs m lg nx) (hlg : lg ≤ 100000) (hnx : nx ≤ 100000) (eA : Ext H A) (hm : m ≤ rs.length) (ro : RowsIn H A X rows (rs.drop m))
    (hK : ∀ B, Ext H B → (∀ b, X b → B[b]? = A[b]?) → ReadOn H B X k p d W Q rs rs.length (lg + 301) (nx + 301) → K true B) : fathomlaw07_reads.sp (at0 k) rows A K := by
  refine fathomlaw07_reads.of ?_
  unfold fathomlaw07_reads.vc
  have hn := ro.len
  rw [List.length_drop] at hn
  refine loop_upto (rs.length - m) (fun i z B => z = (i : Int) ∧ Ext H B ∧ (∀ b, X b → B[b]? = A[b]?) ∧ ReadOn H B X k p d W Q rs (m + i) (lg + i) (nx + i)) ⟨rfl, eA, fun _ _ => rfl, by simpa using h⟩ ?_
  rintro i _ B next hi ⟨rfl, eB, xB, hB⟩ hnext
  refine br_mk (fun hc => ?_) (fun hc => ?_)
  · have hlt : i < rs.length - m := by have : (i : Int) < (rows.n : Int) := by simpa using hc
                                       omega
    refine next_on hg hW hW2 hr hq hl hN hB (by omega) (by omega) (fun hc2 l C iC eC xC hC => ?_) (fun hc2 => by omega)
    refine br_f rfl ?_
    have roC := ro.keep eA eC fun b hb => (xC b hb).trans (xB b hb)
    have hld : i < (rs.drop m).length := by rw [List.length_drop]; exact hlt
    obtain ⟨ad, x, ha, hb, hcell, hx⟩ := roC.at' i hld
    refine optK_mk ad ha ⟨⟨by omega, by omega⟩, x, ?_, ?_⟩
    · rw [Int.toNat_natCast, Nat.mul_one]; exact hcell
    · have hget : (rs.drop m)[i] = rs.getD (m + i) [] := by
        rw [List.getElem_drop, List.getD, List.getElem?_eq_getElem (by omega)]; rfl
      rw [hget] at hx
      have hlen : (rs.getD (m + i) []).length = W := by
        rw [List.getD, List.getElem?_eq_getElem (by omega)]; exact hr.len _ (List.getElem_mem _)
      refine SameRow_ok iC (hx.ext eC) (by omega) ?_
      refine br_f (by simp) ?_
      refine hnext hlt _ _ ⟨succ64 i (by omega), eC, fun b hb => (xC b hb).trans (xB b hb), ?_⟩
      exact hC.weak (by omega) (by omega)
  · have hge : i = rs.length - m := by have : ¬ (i : Int) < (rows.n : Int) := by simpa using hc
                                       omega
    refine next_on hg hW hW2 hr hq hl hN hB (by omega) (by omega) (fun hc2 => by omega) (fun hc2 l C iC eC xC hC => ?_)
    have hz : ((((l.n : Int) == (0 : Int)) && (!false)) && ((0 : Int) == (0 : Int))) = true := by rw [iC]; rfl
    simp only [hz]
    have e1 : m + i = rs.length := by omega
    rw [e1] at hC
    exact hK C eC (fun b hb => (xC b hb).trans (xB b hb)) (hC.weak (by omega) (by omega))

/-- A row is sought; the blocks beside stay as they are. -/
theorem TR.seekX {r : RR} {s : Pl} {low : Sl} {ll : List Int} {K : Int → Heap → Prop} {e : Int} (t : TR H A X k p d s r) (hg : Gl H) (hok : r.Ok) (hl : Ints .u64 A low ll) (hp : ∀ ad, low.a = some ad → ll ≠ [] → ad.block < H.size) (hlow : ll.length ≤ 1000000)
    (hn : r.b.name.size ≤ 9223372036854775807) (hlogs : s.d.logs + 528482304 < 68719460000) (hnx : s.next + 528482304 < 1099511620000)
    (hfb : (r.find s ll).1.d.logs < 68719470000 ∧ (r.find s ll).1.next < 1099511627776)
    (hdown : (r.find s ll).2.2.2 = 0 → (r.find s ll).2.2.1 ≠ pagesN r.rows r.b.room → ((r.find s ll).2.1.load (r.find s ll).1 (r.find s ll).2.2.1).2.2 = 0 → Down ll ((r.find s ll).2.1.load (r.find s ll).1 (r.find s ll).2.2.1).2.1.ins)
    (hr : (r.seek s ll).2.2 = e) (hK : ∀ B, TR H B X k p d (r.seek s ll).1 (r.seek s ll).2.1 → (∀ b, X b → B[b]? = A[b]?) → K e B) : runs_Reader_Seek.sp (at0 k) low A K := by
  have hgA := t.gl hg
  have z0 := t.at.size
  obtain ⟨h0, F, si, rs, h1, h2⟩ := t
  have hgl := hg.lt
  have hF : ∀ b, F b → H.size ≤ b ∧ b < A.size := fun b hb => ⟨(h1.own b hb).elim id id, h1.pool.lt b hb⟩
  have hkk : k < A.size := obj_lt h1.rd.row
  subst hr
  refine rseek_ok hgA h1.pool.glob (by omega) h1.start hok hl (fun ad ha hne => ⟨fun q => ?_, fun q => ?_⟩) hlow hn hlogs hnx hfb hdown fun F' si' rs' B g => ?_
  · have := hF _ q; have := hp ad ha hne; omega
  · have := hp ad ha hne; omega
  · exact hK B (TR.goes h0 h1 h2 g).1 (TR.goes h0 h1 h2 g).2
theorem seek_on {low : Sl} {ll : List Int} {K : Int → Heap → Prop} (hg : Gl H) (hW : 1 ≤ W) (hW2 : W ≤ 16) (hr : Rise W rs) (hq : Q ≤ 1048576) (hl : rs.length ≤ 300) (hN : 1 + pagesN rs.length (504 / (8 * W)) ≤ Q)
    (h : ReadOn H A X k p d W Q rs m lg nx) (hlg : lg ≤ 100000) (hnx : nx ≤ 100000) (hi : Ints .u64 H low ll) (hll : ll.length ≤ W)
    (hK : ∀ B, Ext H B → (∀ b, X b → B[b]? = A[b]?) → ReadOn H B X k p d W Q rs (below ll rs) (lg + 301) (nx + 301) → K 0 B) : runs_Reader_Seek.sp (at0 k) low A K := by
  have hsz : nmF.size ≤ 9223372036854775807 := by decide
  obtain ⟨s, r, t, ran, on, ha, h1, h2, h3⟩ := h.at_
  obtain ⟨k1, k2, k3, k4, k5, k6, k7, k8, k9, k10⟩ := ran.seek on hW hW2 hr hsz hq hN h2 (by omega) hll
  have eA := t.at
  have fl1 := RR.find_logs r s ll
  have fl2 := RR.seek_logs r s ll
  have hrm := on.room hW hW2
  have r2 := (roomL_width hW hW2).2.1
  have hNle := pagesN_le (n := rs.length) (show 0 < 504 / (8 * W) by omega)
  rw [hrm, on.rows] at fl1 fl2
  refine TR.seekX t hg (on.ok hW hW2 (by omega)) (hi.ext eA) (fun ad ha hne => by
    obtain ⟨ad', ha', hc⟩ := hi.at (i := 0) (List.length_pos_iff.2 hne)
    rw [ha] at ha'; cases ha'
    have := hCell_lt hc
    rwa [add_block] at this) (by omega) (by rw [on.b]; exact hsz) (by omega) (by omega) ⟨by omega, by omega⟩ (fun _ q _ => k10 (by rw [k7, hrm, on.rows] at q; exact q)) k1 fun B tB xB => ?_
  exact hK B tB.at xB ⟨_, _, tB, k2, k3, k4, by omega, by omega, by omega⟩
end
end Go.Proofs.YtbgpkpbejldlcaaGreatDoor

/-
  RunsBack: rows are read again behind a crash; behind Seek just those that are not below: the walk.
-/
namespace Go.Proofs.YtbgpkpbejldlcaaGreatDoor
open Go.MapKept

theorem filter_down {ll : List Int} : ∀ {ls : List (List Int)}, Down ll ls → (ls.filter fun l => decide (0 ≤ cmpL l ll)) = ls.drop (below ll ls)
  | [], _ => by simp
  | a :: ls, hd => by
    have hd' : Down ll ls := fun x y h1 h2 h3 => hd (x + 1) (y + 1) (by omega) (by simpa using h2) h3
    have ih := filter_down hd'
    unfold below at ih ⊢
    rw [List.takeWhile_cons, List.filter_cons]
    by_cases ha : cmpL a ll < 0
    · rw [if_neg (by simp; omega), if_pos (by simpa using ha), List.length_cons, List.drop_succ_cons]
      exact ih
    · rw [if_pos (by simp; omega), if_neg (by simpa using ha), List.length_nil, List.drop_zero]
      congr 1
      rw [List.filter_eq_self]
      intro x hx
      obtain ⟨i, hi, rfl⟩ := List.getElem_of_mem hx
      have : ¬ cmpL ls[i] ll < 0 := fun q => ha (hd 0 (i + 1) (Nat.zero_le _) (by simpa using hi) (by
        show cmpL ((a :: ls).getD (i + 1) []) ll < 0
        rw [List.getD_cons_succ, List.getD, List.getElem?_eq_getElem hi]; exact q))
      simp; omega

theorem below_nil {W : Nat} {rs : List (List Int)} (hW : 1 ≤ W) (hr : Rise W rs) : below [] rs = 0 := by
  unfold below
  cases rs with
  | nil => rfl
  | cons a l =>
    have ha := hr.len a List.mem_cons_self
    match a, ha with
    | [], ha => simp at ha; omega
    | x :: a, _ => rw [List.takeWhile_cons]; simp [cmpL]

/-- Slices' heads in a list of their own. -/
theorem heads_in {H A : Heap} {base : Nat} {s : Sl} {xs : List Sl} {L : List (List Int)} (h : Owns A base ty_sl_uint64 1 s (xs.map Sl.v)) (hl : xs.length = L.length) (hi : ∀ i (hx : i < xs.length) (hL : i < L.length), Ints .u64 H xs[i] L[i]) : RowsIn H A (ownB s) s L := by
  have hn : s.n = xs.length := by have := h.1; simp at this; omega
  refine ⟨by omega, fun i hi2 => ?_⟩
  have hix : i < xs.length := by omega
  obtain ⟨ad, ha, hc⟩ := h.reads.at (i := i) (by simpa using hix)
  exact ⟨ad, xs[i], ha, .inl ⟨ad, ha, rfl⟩, by simpa using hc, hi i hix hi2⟩

/-- The rows that are not below, picked. -/
structure Picked (H A B : Heap) (s : Sl) (L : List (List Int)) (m : Nat) (ll : List Int) : Prop where
  own : ∃ xs : List Sl, Owns B A.size ty_sl_uint64 1 s (xs.map Sl.v) ∧ xs.length = ((L.take m).filter fun l => decide (0 ≤ cmpL l ll)).length ∧
    ∀ i (hx : i < xs.length) (hL : i < ((L.take m).filter fun l => decide (0 ≤ cmpL l ll)).length), Ints .u64 H xs[i] ((L.take m).filter fun l => decide (0 ≤ cmpL l ll))[i]
  ext : Ext A B

set_option maxHeartbeats 1000000 in
theorem RunsBack_ok {steps low : Sl} {st ll : List Int} {width frames keep : Int} {H : Heap} {K : Bool → Heap → Prop} (hg : Gl H) (h : Ints .u64 H steps st) (hst : ∀ x ∈ st, 0 ≤ x ∧ x < 18446744073709551616) (hlow : Ints .u64 H low ll)
    (hK : ∀ B, Ext H B → K true B) : fathomlaw07_RunsBack.sp steps width frames low keep H K := by
  refine fathomlaw07_RunsBack.of ?_
  unfold fathomlaw07_RunsBack.vc
  have hsz : nmF.size ≤ 9223372036854775807 := by decide
  refine rPick_ok (by decide) ?_
  rw [if_neg (by decide)]
  obtain ⟨W, hWe, hW, hW2⟩ : ∃ W : Nat, IntKind.i64.wrap (1 + width.emod 16) = (W : Int) ∧ 1 ≤ W ∧ W ≤ 16 := by
    have h0 : 0 ≤ width.emod 16 := Int.emod_nonneg width (show (16 : Int) ≠ 0 by decide)
    have h1 : width.emod 16 < 16 := Int.emod_lt_of_pos width (show (0 : Int) < 16 by decide)
    refine ⟨(1 + width.emod 16).toNat, ?_, by omega, by omega⟩
    rw [wrap64 (by omega) (by omega)]; omega
  rw [hWe]
  have hn := h.len
  have hln := hlow.len
  refine br_mk (fun hc => hK _ (.refl _ _)) (fun hc => ?_)
  simp only [Bool.or_eq_false_iff, decide_eq_false_iff_not] at hc
  have hl : st.length ≤ 300 := by have := hc.1; omega
  have hll : ll.length ≤ W := by have := hc.2; omega
  refine rising_ok h hst hl hW hW2 fun rows rs1 H2 ro e2 => ?_
  have hr := rise_of hW (fun x hx => (hst x hx).1) hl
  have hlen := riseL_length W st 0
  generalize riseL W 0 st = rs at *
  have g2 : Gl H2 := hg.mod e2 id
  have z2 := e2.size
  obtain ⟨r1, r2, r3, r4⟩ := roomL_width hW hW2
  have hNle := pagesN_le (n := rs.length) (show 0 < 504 / (8 * W) by omega)
  refine New_ok (by decide) fun F1 d A1 a1 x1 f1 => ?_
  refine rPick_ok (by decide) ?_
  rw [if_neg (by decide)]
  obtain ⟨M, hMe, hM, hM2⟩ : ∃ M : Nat, IntKind.i64.wrap (8 + frames.emod 12) = (M : Int) ∧ 8 ≤ M ∧ M ≤ 4096 := by
    have h0 : 0 ≤ frames.emod 12 := Int.emod_nonneg frames (show (12 : Int) ≠ 0 by decide)
    have h1 : frames.emod 12 < 12 := Int.emod_lt_of_pos frames (show (0 : Int) < 12 by decide)
    refine ⟨(8 + frames.emod 12).toNat, ?_, by omega, by omega⟩
    rw [wrap64 (by omega) (by omega)]; omega
  rw [hMe]
  refine TP.new (m := M) g2 x1 a1 f1 hM hM2 fun p A2 t2 => ?_
  obtain ⟨m2, m3⟩ := made_onM (q := 1000) (n := nmF) (W := W) (m := M) (rs := rs) (by decide) (by decide) nmF_named hsz hW hW2 hM hM2 (by decide)
  have mb := rnMake_bounds (s := pl0 (dk0 1000) M) (n := nmF) (W := (W : Int)) (by show (0 : Int) ≤ 1; decide) (by show (1 : Int) < _; decide)
  have z1 : (pl0 (dk0 1000) M).d.logs = 0 := rfl
  have zz : (pl0 (dk0 1000) M).next = 1 := rfl
  rw [z1, zz] at mb
  refine TP.make (n := nmF) (W := (W : Int)) t2 g2 hsz (by rw [z1]; decide) (by rw [zz]; decide) (by rw [zz]; decide) (fun f hf => by cases hf) m2 (fun q => by cases q) fun w q k A3 t3 => ?_
  cases q
  refine br_f rfl ?_
  have hA0 : AddsAt H2 A3 k p d W 1000 rs 0 0 := ⟨.inl ⟨rfl, _, _, t3, m3, by omega, by rw [Nat.zero_div]; omega⟩⟩
  refine loop_upto rs.length (fun m z B => z = (m : Int) ∧ AddsAt H2 B k p d W 1000 rs 0 m) ⟨rfl, hA0⟩ ?_
  rintro m _ B nxt hm ⟨rfl, hB⟩ hnxt
  refine br_mk (fun hc => ?_) (fun hc => ?_)
  · rw [ro.n] at hc
    have hml : m < rs.length := by simpa using hc
    rcases hB.at_ with ⟨_, s, w, t, on, lg, hN⟩ | ⟨q, _⟩
    · obtain ⟨ad, x, ha, hcell, hx⟩ := ro.rows.at' m hml
      have x2 : Ext H2 B := t.pool.1
      refine optK_mk ad ha ⟨⟨by omega, by rw [ro.n]; omega⟩, x, ?_, ?_⟩
      · rw [Int.toNat_natCast, Nat.mul_one]
        exact x2.cell hcell id
      · have eg : rs.getD m [] = rs[m] := getD_of hml
        refine adds_step (rs := rs) g2 hW hW2 hr (by decide) (by omega) hml t on lg hN (by rw [eg]; exact hx.ext x2) (fun ad2 ha2 => ?_) fun e2 B2 hA2 => ?_
        · obtain ⟨ad3, ha3, hc3⟩ := hx.at (i := 0) (by rw [hr.len _ (List.getElem_mem hml)]; omega)
          rw [ha2] at ha3; cases ha3
          have := hCell_lt hc3
          rwa [add_block] at this
        · have he2 : e2 = 0 := by
            rcases hA2.at_ with ⟨q, _⟩ | ⟨_, q, _⟩
            · exact q
            · omega
          subst he2
          exact br_f rfl (hnxt hml _ _ ⟨succ64 m (by omega), hA2⟩)
    · cases q
  have hml : m = rs.length := by
    rw [ro.n] at hc
    have : ¬ (m : Int) < (rs.length : Int) := by simpa using hc
    omega
  subst hml
  rcases hB.at_ with hX | ⟨q, _⟩
  case inr => cases q
  obtain ⟨_, s, w, t, on, lg, hN⟩ := hX
  refine back_close g2 hW hW2 hr (by decide) (by omega) t on lg (by omega) fun B4 s4 pg live sy hpl hop t4 => ?_
  refine br_f (by rw [ro.n]; simp) ?_
  obtain ⟨D, d1, d2⟩ := t4.disk g2
  refine Crash_ok d1 (by decide) fun D1 C1 a1 S1 => ?_
  refine Create_ok (n := ByteArray.mk #[103]) a1 fun D2 C2 a2 S2 => ?_
  obtain ⟨lv, ll1, ll2⟩ := live.crashed (k := keep) sy (m := ByteArray.mk #[103]) (by decide) (by decide)
  have hlg4 : s4.d.logs = 0 := by
    obtain ⟨f, f1, f2, f3, f4⟩ := sy
    unfold Dk.logs; rw [f1]; simp [f4]
  refine Restart_ok a2 (by rw [ll1, hlg4]; decide) fun D3 C3 a3 S3 => ?_
  have t5 := d2 _ _ _ a3 ((S1.trans S2).trans S3)
  obtain ⟨D5, d5, f5⟩ : ∃ D5, DiskAt D5 C3 d (((s4.d.setCrash 0 keep).create (ByteArray.mk #[103])).1.restart) ∧ ∀ b, D5 b → H2.size ≤ b := by
    obtain ⟨F, pa, hF⟩ := t5.2
    obtain ⟨D5, q1, q2, _⟩ := pa.disk (t5.gl g2)
    exact ⟨D5, q1, fun b hb => hF b (q2 b hb)⟩
  generalize ((s4.d.setCrash 0 keep).create (ByteArray.mk #[103])).1.restart = dk at *
  refine TP.new (m := 8) g2 t5.1 d5 f5 (by decide) (by decide) fun q C4 t6 => ?_
  have ran := ran_again (m := 8) (W := W) (rs := rs) lv hpl hop (by decide) (by decide)
  have lg6 : (pl0 dk 8).d.logs = 0 := ll2
  have nx6 : (pl0 dk 8).next = 1 := rfl
  obtain ⟨o1, o2, o3, o4, o5, o6, o7⟩ := opened_on ran hW hW2 hsz (by decide) (by omega) (by omega) (by rw [nx6]; decide) (by rw [nx6]; decide)
  have ol := rnOpen_logs (pl0 dk 8) nmF (W : Int)
  rw [nx6] at o4 o5
  rw [lg6] at ol
  refine TP.open (n := nmF) (W := (W : Int)) t6 g2 hsz (by rw [lg6]; decide) (by rw [nx6]; decide) o6 o1 (fun q => by cases q) fun r q' k' C5 t7 => ?_
  cases q'
  refine br_f rfl ?_
  refine t7.rowsN ?_
  refine br_f (by rw [ro.n]; simp [rr0]) ?_
  have R7 : ReadOn H2 C5 (fun _ => False) k' q d W 1000 rs 0 1 2 := ⟨_, _, t7, o2, o3, rfl, by omega, by omega, by omega⟩
  have e7 := t7.at
  have hrow : ∀ {X : Nat → Prop} {B : Heap}, Ext H2 B → RowsIn H2 B X rows rs := fun {X B} e => by
    refine ⟨ro.rows.len, fun i hi => ?_⟩
    obtain ⟨ad, r, h1, h2, h3⟩ := ro.rows.at' i hi
    exact ⟨ad, r, h1, .inr (by have := hCell_lt h2; rwa [add_block] at this), e.cell h2 id, h3⟩
  refine reads_ok g2 hW hW2 hr (by decide) (by omega) (by omega) R7 (by decide) (by decide) e7 (Nat.zero_le _) (hrow e7) fun C6 e8 _ R8 => ?_
  refine br_f rfl ?_
  -- the rows that are not below
  refine loop_upto rs.length (fun i z B => z.2 = (i : Int) ∧ Picked H2 C6 B z.1 rs i ll) ⟨rfl, ⟨⟨[], Owns.nil _ _ _ _, by simp, fun i hx => by simp at hx⟩, .refl _ _⟩⟩ ?_
  rintro i ⟨out, _⟩ B next hi ⟨rfl, hP⟩ hnext
  simp only at hP ⊢
  have e9 := e8.trans hP.ext
  refine br_mk (fun hc => ?_) (fun hc => ?_)
  · rw [ro.n] at hc
    have hil : i < rs.length := by simpa using hc
    obtain ⟨ad, x, ha, hcell, hx⟩ := ro.rows.at' i hil
    have cellB : hCell B (ad.add ((i : Int).toNat * 1)) = some x.v := by
      rw [Int.toNat_natCast, Nat.mul_one]; exact e9.cell hcell id
    refine optK_mk ad ha ⟨⟨by omega, by rw [ro.n]; omega⟩, x, cellB, ?_⟩
    have hlw := hr.len _ (List.getElem_mem hil)
    refine rowCmp_ok (hx.ext e9) (hlow.ext (e2.trans e9)) (by omega) ?_
    have ht : rs.take (i + 1) = rs.take i ++ [rs[i]] := by rw [List.take_add_one, List.getElem?_eq_getElem hil]; rfl
    obtain ⟨xs, p1, p2, p3⟩ := hP.own
    have hxn : xs.length ≤ rs.length := by
      rw [p2]; refine Nat.le_trans (List.length_filter_le _ _) ?_
      rw [List.length_take]; omega
    refine br_mk (fun hc2 => ?_) (fun hc2 => ?_)
    · have h0 : 0 ≤ cmpL rs[i] ll := by simpa using hc2
      have hf : ((rs.take (i + 1)).filter fun l => decide (0 ≤ cmpL l ll)) = ((rs.take i).filter fun l => decide (0 ≤ cmpL l ll)) ++ [rs[i]] := by
        rw [ht, List.filter_append, List.filter_cons, if_pos (by simpa using h0)]; rfl
      refine optK_mk ad ha ⟨⟨by omega, by rw [ro.n]; omega⟩, x, cellB, ?_⟩
      have hon : out.n = xs.length := by have := p1.1; simp at this; omega
      refine elRow.push (base := C6.size) p1 rfl (by omega) (by omega) hP.ext.size fun s' D n1 o1 m1 b1 _ => ?_
      refine hnext hil _ _ ⟨succ64 i (by omega), ⟨⟨xs ++ [x], by simpa using o1, by rw [hf]; simp [p2], fun j hj hL => ?_⟩, ⟨Nat.le_trans hP.ext.size m1.size, fun b hb _ => (m1.same b (Nat.lt_of_lt_of_le hb hP.ext.size) fun q => by have := (p1.block b q).1; omega).trans (hP.ext.same b hb id)⟩⟩⟩
      simp only [hf]
      by_cases hjx : j < xs.length
      · rw [List.getElem_append_left hjx, List.getElem_append_left (by omega)]
        exact p3 j hjx (by omega)
      · have hje : j = xs.length := by simp at hj; omega
        subst hje
        rw [List.getElem_append_right (by omega), List.getElem_append_right (by omega)]
        simpa [p2] using hx
    · have h0 : ¬ 0 ≤ cmpL rs[i] ll := by simpa using hc2
      have hf : ((rs.take (i + 1)).filter fun l => decide (0 ≤ cmpL l ll)) = ((rs.take i).filter fun l => decide (0 ≤ cmpL l ll)) := by
        rw [ht, List.filter_append, List.filter_cons, if_neg (by simpa using h0)]; simp
      exact hnext hil _ _ ⟨succ64 i (by omega), ⟨⟨xs, p1, by rw [hf]; exact p2, fun j hj hL => by simp only [hf] at hL ⊢; exact p3 j hj hL⟩, hP.ext⟩⟩
  have hie : i = rs.length := by
    rw [ro.n] at hc
    have : ¬ (i : Int) < (rs.length : Int) := by simpa using hc
    omega
  subst hie
  obtain ⟨xs, p1, p2, p3⟩ := hP.own
  rw [List.take_length, filter_down (hr.down ll)] at p2
  have p3' : ∀ i (hx : i < xs.length) (hL : i < (rs.drop (below ll rs)).length), Ints .u64 H2 xs[i] (rs.drop (below ll rs))[i] := by
    intro i hx hL
    have := p3 i hx (by rw [List.take_length, filter_down (hr.down ll)]; exact hL)
    simp only [List.take_length, filter_down (hr.down ll)] at this
    exact this
  have R9 : ReadOn H2 B (ownB out) k' q d W 1000 rs rs.length (1 + 301) (2 + 301) := R8.more hP.ext fun b hb => .inr (p1.block b hb)
  have in9 := heads_in p1 p2 p3'
  refine seek_on g2 hW hW2 hr (by decide) (by omega) (by omega) R9 (by decide) (by decide) (hlow.ext e2) hll fun C7 e10 x10 R10 => ?_
  refine br_t rfl ?_
  refine reads_ok g2 hW hW2 hr (by decide) (by omega) (by omega) R10 (by decide) (by decide) e10 (below_le _ _) (in9.keep e9 e10 x10) fun C8 e11 x11 R11 => ?_
  refine br_t rfl ?_
  refine seek_on (low := Sl.mk none 0 0) (ll := []) g2 hW hW2 hr (by decide) (by omega) (by omega) R11 (by decide) (by decide) ⟨rfl, fun i v hv => by simp at hv⟩ (Nat.zero_le _) fun C9 e12 x12 R12 => ?_
  refine br_t rfl ?_
  rw [below_nil hW hr] at R12
  refine reads_ok g2 hW hW2 hr (by decide) (by omega) (by omega) R12 (by decide) (by decide) e12 (Nat.zero_le _) (hrow e12) fun C10 e13 x13 R13 => ?_
  refine br_t rfl ?_
  obtain ⟨s13, r13, t13, ran13, _, _, _, n13, n13'⟩ := R13.at_
  obtain ⟨T13, c13, _⟩ := ran13.calm
  have hpin : s13.pinned = 0 := by
    unfold Pl.pinned
    rw [List.length_eq_zero_iff, List.filter_eq_nil_iff]
    intro f hf
    rw [c13.free f hf]; simp
  obtain ⟨F13, pa13, _⟩ := t13.pool.go
  refine Pinned_ok pa13 (by omega) fun C11 e14 => ?_
  rw [hpin]
  refine br_t rfl ?_
  have e15 := e13.trans e14
  exact rworks_ok (g2.mod e15 id) fun B eB => hK B ((e2.trans e15).trans eB)
end Go.Proofs.YtbgpkpbejldlcaaGreatDoor

/-
  RunsBack: for every input the law returns true, and its arguments read as before; the table of the page's sum is laid as the program's text lays it. No condition beside that.
-/
namespace Go.Proofs.YtbgpkpbejldlcaaGreatDoor
open Go.ChangeShapes Go.WideShapes Go.ChangeAt Go.RowKit

theorem wide_str {P : Program} {w : World} {r : Reach} {base : Nat} {t : TypeId} {v : Value} (h : Value.okWide P w r base t v) (ht : P.underlying t = some .string) : ∃ s, v = .string s ∧ (s.size : Int) ≤ 9223372036854775807 := by
  unfold Value.okWide at h
  rw [ht] at h
  exact cell_str h ht

set_option maxRecDepth 100000 in
theorem runsBack_lifted (os : Os) (started : os.Started) (H : Type) (enc : TypeId × Value → H) :
    ReturnsInHanded {} Tryz.checked os 5 .any (fun w args => (Rows.runsBackSpec.pre enc Tryz.prog Tryz.f5 [] false w args ∧ laidMetH Tryz.prog laidS w) ∧ sizedMet enc Tryz.prog Tryz.f5 (OpenSpec.ofChange Rows.runsBackSpec) false w args)
      (Rows.runsBackSpec.post enc Tryz.prog Tryz.f5 false true false false) := by
  refine returnsInHanded_of_change_and (C := Tryz.checked) (X := fun w _ => laidMetH Tryz.prog laidS w) (fun _ _ _ hh h => h.of_heap hh) pprog_own started (by kernel_rfl) Tryz.func5
    (ChangeSpec.witness_shaped (enc := enc) (C := Tryz.checked) (os := os) (X := fun w _ => laidMetH Tryz.prog laidS w) false (World.doorLaid Tryz.prog 400 os) #[.slice none 0 0, .int .i64 0, .int .i64 0, .slice none 0 0, .int .u64 0] 8 rfl (World.shaped_of_RefB (by kernel_rfl) (by kernel_rfl)) (by kernel_rfl) (by kernel_rfl) (by kernel_rfl) (door_met os _)) ?_
  intro W base args ds gs before hval0 hW _ _ hL _
  have hval : ∀ (j : Nat) t v, Tryz.f5.params[j]? = some t → args[j]? = some v → Value.okWide Tryz.prog W .any base t v := hval0
  have hW' := hW
  obtain ⟨p, q, hA0, hV, rfl, hfz, hnd⟩ := hW
  have hA : DataW.TrodAll enc Tryz.prog W 0 (fun _ => true) true Tryz.f5.params.toList args.toList ds p := hA0
  rw [Tryz.params5] at hA hval
  obtain ⟨v0, v1, v2, v3, v4, d0, d1, d2, d3, d4, p0, p1, p2, p3, p4, rfl, rfl, rfl, h0, h1, h2, h3, h4⟩ := trodAll_five hA
  obtain ⟨rfl, rfl⟩ := trodVars_none hV
  obtain ⟨l, ll, rfl, il, cl, wl⟩ := open_sl_ints (k := .u64) (e := ty_uint64) (by kernel_rfl) (by kernel_rfl) (by kernel_rfl) (hval 0 ty_sl_uint64 v0 rfl rfl) h0
  obtain ⟨width, rfl, _⟩ := wide_int (k := .i64) (hval 1 ty_int v1 rfl rfl) (by kernel_rfl)
  obtain ⟨frames, rfl, _⟩ := wide_int (k := .i64) (hval 2 ty_int v2 rfl rfl) (by kernel_rfl)
  obtain ⟨low, lw, rfl, iw, _, _⟩ := open_sl_ints (k := .u64) (e := ty_uint64) (by kernel_rfl) (by kernel_rfl) (by kernel_rfl) (hval 3 ty_sl_uint64 v3 rfl rfl) h3
  obtain ⟨keep, rfl, _⟩ := wide_int (k := .u64) (hval 4 ty_uint64 v4 rfl rfl) (by kernel_rfl)
  have hspec := RunsBack_ok (steps := l) (st := ll) (width := width) (frames := frames) (low := low) (ll := lw) (keep := keep) (H := W.heap) (K := fun b H' => b = true ∧ Ext W.heap H') (gl_of_laid hL) il (fun x hx => fits_u64 (wl x hx)) iw (fun H' e => ⟨rfl, e⟩)
  refine (hspec W rfl).mono fun e W' ⟨v, he, ⟨x, hx, hb, hext⟩, hal⟩ => ?_
  subst he; subst hx; subst hb
  exact ⟨_, rfl, law_post pprog_laidOut (by decide +kernel) rfl (by kernel_rfl) rfl rfl rfl rfl hW' hext hal⟩

theorem runsBack_row : Rows.RunsBackSaid :=
  OpenClaim.holds_of_wide 5 Tryz.f5 rfl rfl rfl rfl rfl rfl rfl ⟨rfl, rfl, rfl, rfl, rfl⟩ rfl rfl rfl rfl rfl (by kernel_rfl) Tryz.func5 (by kernel_rfl)
    (of_decide_eq_true (by kernel_rfl)) (by unfold Func.isWrapper; first | (rw [if_pos (by decide +kernel)]; kernel_rfl) | (rw [if_neg (by decide +kernel)]; exact ⟨rfl, rfl⟩))
    (fun os started H enc _ => runsBack_lifted os started H enc)

/-- The card: the table tied to the program's text. -/
theorem runsBack_holds : Rows.RunsBackCardSaid :=
  Claim7.holds_tied_plain_at .later [] [.data] true _ false
    runsBack_row (fun _ h => by cases h) (by kernel_rfl) (fun _ h => by cases h) runsBack_row_tie rfl ⟨rfl, rfl⟩ (by kernel_rfl) rfl
    (fun f fn hf hfn => by
      obtain rfl : f = 5 := Option.some.inj ((show Tryz.prog.funcNamed "fathom/fathomlaw07.RunsBack" = some 5 by kernel_rfl).symm.trans hf) |>.symm
      obtain rfl : fn = Tryz.f5 := (Option.some.inj (Tryz.func5.symm.trans hfn)).symm
      exact ⟨by kernel_rfl, fun j t ht => by
        rw [Tryz.params5] at ht
        have hm : t ∈ [ty_sl_uint64, ty_int, ty_int, ty_sl_uint64, ty_uint64] := by simpa using Array.mem_of_getElem? ht
        have hall : ([ty_sl_uint64, ty_int, ty_int, ty_sl_uint64, ty_uint64].all fun u => !Tryz.prog.wantsStandIn u) = true := by kernel_rfl
        exact (show Tryz.prog.wantsStandIn t = false by simpa using List.all_eq_true.1 hall t hm)⟩)
    (by kernel_rfl)
#print axioms runsBack_holds
end Go.Proofs.YtbgpkpbejldlcaaGreatDoor
