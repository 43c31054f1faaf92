/-
  The pool's calls in a row: what a statement that makes them walks by; works.
-/
import Derived.Test.YtbhddkmfhampbaaDoorPkk
import Derived.Test.YtbhddkmfhampbaaDoorPtp
import Derived.Test.YtbhddkmfhampbaaDoorPra
import Derived.Test.YtbhddkmfhampbaaDoorFpk
namespace Go.Proofs.YtbhddkmfhampbaaDoor
open Go.MapKept

/-- A pool that was made since 'H'. -/
def TP (H A : Heap) (p dp : Nat) (s : Pl) : Prop := Ext H A ∧ ∃ F, PoolAt F A p dp s ∧ ∀ b, F b → H.size ≤ b

variable {H A : Heap} {p dp : Nat} {s : Pl} {n : ByteArray}
theorem TP.ext {B : Heap} (t : TP H A p dp s) (e : Ext A B) : TP H B p dp s := by
  obtain ⟨h1, F, h2, h3⟩ := t
  exact ⟨h1.trans e, F, h2.ext e, h3⟩
theorem TP.gl (t : TP H A p dp s) (hg : Gl H) : Gl A := hg.mod t.1 id
theorem TP.wf (t : TP H A p dp s) : s.WF := by
  obtain ⟨h1, F, h2, h3⟩ := t; exact h2.wf
theorem TP.go (t : TP H A p dp s) : ∃ F, PoolAt F A p dp s ∧ ∀ (s' : Pl) (F' : Nat → Prop) (B : Heap), PoolAt F' B p dp s' → Step F F' A B → TP H B p dp s' := by
  obtain ⟨h1, F, h2, h3⟩ := t
  refine ⟨F, h2, fun s' F' B h4 S => ⟨⟨Nat.le_trans h1.size S.mod.size, fun b hb _ => (S.mod.same b (Nat.lt_of_lt_of_le hb h1.size) fun q => by have := h3 b q; omega).trans (h1.same b hb id)⟩, F', h4, fun b hb => ?_⟩⟩
  rcases S.own b hb with q | q
  · exact h3 b q
  · exact Nat.le_trans h1.size q
theorem TP.disk (t : TP H A p dp s) (hg : Gl H) : ∃ D, DiskAt D A dp s.d ∧ ∀ (d : Dk) (D' : Nat → Prop) (B : Heap), DiskAt D' B dp d → Step D D' A B → TP H B p dp (s.setD d) := by
  have hgA := t.gl hg
  obtain ⟨F, h1, h2⟩ := t.go
  obtain ⟨D, q1, q2, q3⟩ := h1.disk hgA
  refine ⟨D, q1, fun d D' B h4 S => ?_⟩
  obtain ⟨F', r1, r2⟩ := q3 D' B d h4 S
  exact h2 _ F' B r1 r2

theorem TP.fresh {K : (Int × Int × Int) → Heap → Prop} {r : Int × Int × Int} (t : TP H A p dp s) (hg : Gl H) (hn : n.size ≤ 9223372036854775807) (hl : s.d.logs < 68719470000) (hx : s.next < 9223372036854775807) (hf : s.Fit) (hr : (s.fresh n).2 = r)
    (hK : ∀ B, TP H B p dp (s.fresh n).1 → K r B) : pool_Pool_Fresh.sp (at0 p) n A K := by
  have hgA := t.gl hg
  obtain ⟨F, h1, h2⟩ := t.go
  refine Fresh_ok hgA h1 hn (by omega) hx hf fun F' B h3 S => ?_
  subst hr
  exact hK B (h2 _ F' B h3 S)
theorem TP.pin {K : (Int × Int) → Heap → Prop} {k : Int} {r : Int × Int} (t : TP H A p dp s) (hg : Gl H) (hn : n.size ≤ 9223372036854775807) (h0 : -9223372036854775808 ≤ k) (h1 : k ≤ 9223372036854775807) (hl : s.d.logs < 68719470000) (hx : s.next < 9223372036854775807) (hr : (s.pin n k).2 = r)
    (hK : ∀ B, TP H B p dp (s.pin n k).1 → K r B) : pool_Pool_Pin.sp (at0 p) n k A K := by
  have hgA := t.gl hg
  obtain ⟨F, h2, h3⟩ := t.go
  refine Pin_ok hgA h2 hn h0 h1 (by omega) hx fun F' B h4 S => ?_
  subst hr
  exact hK B (h3 _ F' B h4 S)
theorem TP.get {K : (Int × Sl × Int) → Heap → Prop} {k e : Int} {a : UInt8} {b : List UInt8} (t : TP H A p dp s) (hr : s.get k = (a, b, e))
    (hK : ∀ sl B, SlE EB ty_uint8 B sl b → TP H B p dp s → Ext A B → K ((a.toNat : Int), sl, e) B) : pool_Pool_Get.sp (at0 p) k A K := by
  have t0 := t
  obtain ⟨h1, F, h2, h3⟩ := t
  refine Get_ok h2 fun sl B o e1 f => ?_
  rw [hr] at o ⊢
  exact hK sl B o (t0.ext e1) e1
theorem TP.put {K : Int → Heap → Prop} {k e : Int} {kd : UInt8} {b : Sl} {l : List UInt8} (t : TP H A p dp s) (hg : Gl H) (hb : Byts A b l) (hr : (s.set k kd l).2 = e)
    (hK : ∀ B, TP H B p dp (s.set k kd l).1 → K e B) : pool_Pool_Put.sp (at0 p) k (kd.toNat : Int) b A K := by
  have hgA := t.gl hg
  obtain ⟨F, h2, h3⟩ := t.go
  refine Put_ok hgA h2 hb fun F' B h4 S => ?_
  rw [hr]
  exact hK B (h3 _ F' B h4 S)
theorem TP.unpin {K : Int → Heap → Prop} {k e : Int} (t : TP H A p dp s) (hg : Gl H) (hx : s.next < 9223372036854775807) (hr : (s.unpin k).2 = e)
    (hK : ∀ B, TP H B p dp (s.unpin k).1 → K e B) : pool_Pool_Unpin.sp (at0 p) k A K := by
  have hgA := t.gl hg
  obtain ⟨F, h2, h3⟩ := t.go
  refine Unpin_ok hgA h2 hx fun F' B h4 S => ?_
  rw [hr]
  exact hK B (h3 _ F' B h4 S)
theorem TP.flush {K : Int → Heap → Prop} {e : Int} (t : TP H A p dp s) (hg : Gl H) (hl : s.d.logs < 68719470000) (hr : (s.flush n).2 = e)
    (hK : ∀ B, TP H B p dp (s.flush n).1 → K e B) : pool_Pool_Flush.sp (at0 p) n A K := by
  have hgA := t.gl hg
  obtain ⟨F, h2, h3⟩ := t.go
  refine Flush_ok hgA h2 hl fun F' B h4 S => ?_
  rw [hr]
  exact hK B (h3 _ F' B h4 S)
theorem TP.dropF {K : Int → Heap → Prop} {e : Int} (t : TP H A p dp s) (hg : Gl H) (hr : (s.dropF n).2 = e)
    (hK : ∀ B, TP H B p dp (s.dropF n).1 → K e B) : pool_Pool_Drop.sp (at0 p) n A K := by
  have hgA := t.gl hg
  obtain ⟨F, h2, h3⟩ := t.go
  refine Drop_ok hgA h2 fun F' B h4 S => ?_
  rw [hr]
  exact hK B (h3 _ F' B h4 S)
theorem TP.new {D : Nat → Prop} {d : Dk} {m : Nat} {K : (Option Addr × Int) → Heap → Prop} (hg : Gl H) (e : Ext H A) (hd : DiskAt D A dp d) (hD : ∀ b, D b → H.size ≤ b) (h8 : 8 ≤ m) (hm : m ≤ 4096)
    (hK : ∀ p B, TP H B p dp (pl0 d m) → K (at0 p, 0) B) : pool_New.sp (at0 dp) (m : Int) A K := by
  refine PoolNew_ok (hg.mod e id) hd (fun q => by have := hD _ q; have := hg.lt; omega) h8 hm fun F p B h1 e1 f1 => ?_
  refine hK p B ⟨e.trans e1, F, h1, fun b hb => ?_⟩
  rcases f1 b hb with q | q
  · exact hD b q
  · exact Nat.le_trans e.size q

/-! ### A new disk of one file -/

def nmF : ByteArray := ByteArray.mk #[102]
theorem nmF_named : named nmF = true := by decide
theorem create_live {q : Int} (h0 : 0 ≤ q) (hq : q ≤ 1048576) {n : ByteArray} (hn : named n = true) : Live ((dk0 q).create n).1 n [] q.toNat ∧ ((dk0 q).create n).1.ops = 1 ∧ ((dk0 q).create n).2 = 0 ∧ ((dk0 q).create n).1.logs = 0 := by
  have e : (dk0 q).create n = ({ dk0 q with files := [⟨n, [], []⟩], ops := w64 (0 + 1) }, 0) := by
    unfold Dk.create
    rw [if_neg (by simp [dk0]), if_neg (by rw [hn]; simp), if_neg (by simp [dk0, Dk.idx]), if_neg (by simp [dk0])]
    rfl
  rw [e]
  refine ⟨⟨rfl, rfl, ⟨_, rfl, rfl, rfl⟩, ?_⟩, by show w64 (0 + 1) = 1; decide, rfl, rfl⟩
  show (min (max q 0) 1048576).toNat = q.toNat
  congr 1; omega
theorem pl0_told {d : Dk} {n : ByteArray} {q m : Nat} {T : Nat → UInt8 × List UInt8} (h : Live d n [] q) : Told (pl0 d m) n 0 q T [] :=
  ⟨rfl, h, rfl, by intro f hf; simp [pl0] at hf, by intro k b hk; simp at hk⟩

/-- One frame that is dirty is written, and no more. -/
theorem flush_one {p : Pl} {n : ByteArray} {N q : Nat} {T : Nat → UInt8 × List UInt8} {pg : List Pg} (h : Told p n N q T pg) (hw : p.WF) {f : Fr} (hf : p.fs = [f]) (hd : f.dirty = true) : (p.flush n).1.d.ops = w64 (w64 (p.d.ops + 1) + 1) := by
  have hi : p.fs[0]? = some f := by rw [hf]; rfl
  have hn := (h.mine f (by rw [hf]; simp)).1
  have epg : p.pagesOf n = [f.page] := by
    unfold Pl.pagesOf
    rw [hf]; simp [hn]
  have hfind : p.find n f.page = some 0 := by rw [← hn]; exact Pl.find_eq hw hi
  obtain ⟨w1, w2, w3, pg', w4⟩ := h.put hw hi
  have efl : Pl.flushL n (p.pagesOf n) p = ((p.put 0).1, 0) := by
    rw [epg]
    unfold Pl.flushL
    rw [hfind]
    simp only [Pl.frame_eq hi, hd]
    rw [if_pos trivial, if_pos w1]; rfl
  obtain ⟨s1, s2, s3, s4⟩ := w4.disk.sync
  have e : (p.flush n).1.d = ((p.put 0).1.d.sync n).1 := by
    unfold Pl.flush
    rw [if_neg (by rw [h.wrong]; simp), h.disk.len]
    simp only
    rw [if_neg (by simp), efl, if_neg (by simp), Pl.out_d]
    rfl
  rw [e, s3, w3]

theorem pworks_ok {K : Bool → Heap → Prop} (hg : Gl H) (hK : ∀ B, Ext H B → K true B) : fathomlaw03_works.sp H K := by
  refine fathomlaw03_works.of ?_
  unfold fathomlaw03_works.vc
  obtain ⟨c1, c2, c3, c4⟩ := create_live (q := 20) (by decide) (by decide) nmF_named
  refine New_ok (by decide) fun F1 d H1 a1 e1 f1 => ?_
  refine Create_ok (n := nmF) a1 fun F2 H2 a2 S2 => ?_
  have e2 : Ext H H2 := ⟨Nat.le_trans e1.size S2.mod.size, fun b hb _ => (S2.mod.same b (Nat.lt_of_lt_of_le hb e1.size) fun q => by have := f1 b q; omega).trans (e1.same b hb id)⟩
  have f2 : ∀ b, F2 b → H.size ≤ b := fun b hb => by
    rcases S2.own b hb with q | q
    · exact f1 b q
    · exact Nat.le_trans e1.size q
  refine TP.new (m := 8) hg e2 a2 f2 (by decide) (by decide) fun p H3 t3 => ?_
  refine br_f rfl (br_f rfl ?_)
  obtain ⟨s0, hs0⟩ : ∃ s0, s0 = pl0 ((dk0 20).create nmF).1 8 := ⟨_, rfl⟩
  rw [← hs0] at t3
  have told0 : Told s0 nmF 0 20 (fun _ => (0, [])) [] := by rw [hs0]; exact pl0_told c1
  have x0 : s0.fs = [] := by rw [hs0]; rfl
  have x1 : s0.next = 1 := by rw [hs0]; rfl
  have x2 : s0.most = 8 := by rw [hs0]; rfl
  have x3 : s0.d.logs = 0 := by rw [hs0]; exact c4
  have x4 : s0.d.ops = 1 := by rw [hs0]; exact c2
  have hfree : s0.fs.length < s0.most := by rw [x0, x2]; decide
  obtain ⟨r1, r2, r3, r4, r5, r6, pg1, r7⟩ := told0.fresh t3.wf (.inl hfree) (by decide)
  rw [Pl.room_free hfree, x0, x1] at r2
  rw [Pl.room_free hfree, x4] at r6
  rw [x1] at r1 r3
  refine TP.fresh (n := nmF) t3 hg (by decide) (by omega) (by omega) told0.fit r1 fun H4 t4 => ?_
  have l4 := s0.fresh_logs nmF
  refine newC_rowT fun H5 z5 r5' e5 => ?_
  have t5 := t4.ext e5
  have hb5 : Byts H5 (Sl.mk (some ⟨H4.size, 0, none⟩) 3 3) [1, 2, 3] := RowB.byts (l := [1, 2, 3]) (o := 0) r5' (by simp)
  have hat : (s0.fresh nmF).1.fs[0]? = some ⟨nmF, 0, 0, [], false, [1], 0⟩ := by rw [r2]; rfl
  obtain ⟨u1, u2⟩ := r7.set t5.wf (x := 1) (k := 5) (b := [1, 2, 3]) hat (by simp) (by simp)
  refine TP.put (kd := 5) t5 hg hb5 (congrArg Prod.snd u1) fun H6 t6 => ?_
  rw [u1] at t6
  obtain ⟨s2, hs2⟩ : ∃ s2, s2 = (s0.fresh nmF).1.turn 0 (Fr.set 5 [1, 2, 3]) := ⟨_, rfl⟩
  rw [← hs2] at u2
  have t6 : TP H H6 p d s2 := by rw [hs2]; exact t6
  have y0 : s2.fs = [⟨nmF, 0, 5, [1, 2, 3], true, [1], 0⟩] := by
    rw [hs2]
    show (s0.fresh nmF).1.fs.modify 0 _ = _
    rw [r2]; rfl
  have y1 : s2.next = 2 := by
    rw [hs2]; show (s0.fresh nmF).1.next = 2
    rw [r3]; decide
  have y2 : s2.d = (s0.fresh nmF).1.d := by rw [hs2]; rfl
  obtain ⟨v1, v2⟩ := u2.unpin t6.wf (i := 0) (f := ⟨nmF, 0, 5, [1, 2, 3], true, [1], 0⟩) (x := 1) (by rw [y0]; rfl) (by simp)
  refine TP.unpin t6 hg (by omega) (congrArg Prod.snd v1) fun H7 t7 => ?_
  have w0 : ∃ lf, (s2.unpin 1).1.fs = [⟨nmF, 0, 5, [1, 2, 3], true, [], lf⟩] := ⟨w64 (s2.tick + 1), by rw [v1]; show s2.fs.modify 0 _ = _; rw [y0]; rfl⟩
  have w1 : (s2.unpin 1).1.next = 2 := by rw [v1]; exact y1
  have w2 : (s2.unpin 1).1.d = (s0.fresh nmF).1.d := by rw [s2.unpin_d, y2]
  obtain ⟨s3, hs3⟩ : ∃ s3, s3 = (s2.unpin 1).1 := ⟨_, rfl⟩
  rw [← hs3] at v2 t7 w0 w1 w2
  obtain ⟨lf, w0⟩ := w0
  have hops := flush_one v2 t7.wf w0 rfl
  obtain ⟨q1, ⟨pg2, q2, _⟩, q3, q4, q5⟩ := v2.flush t7.wf
  have l7 := s3.flush_logs nmF
  have l7' : s3.d.logs ≤ 2 := by rw [w2]; omega
  refine TP.flush (n := nmF) t7 hg (by omega) q1 fun H8 t8 => ?_
  have l8 : s3.fs.length = 1 := by rw [w0]; rfl
  have hnx8 : (s3.flush nmF).1.next = 2 := by
    have e : (s3.flush nmF).1.next = s3.next := s3.flush_next nmF
    rw [e]; exact w1
  obtain ⟨s4, hs4⟩ : ∃ s4, s4 = (s3.flush nmF).1 := ⟨_, rfl⟩
  rw [← hs4] at q2 q3 t8 hnx8 l7 hops
  have w3 : s4.fs = [⟨nmF, 0, 5, [1, 2, 3], false, [], lf⟩] := by rw [q3, w0]; rfl
  have hi4 : s4.find nmF ((0 : Nat) : Int) = some 0 := Pl.find_eq (f := ⟨nmF, 0, 5, [1, 2, 3], false, [], lf⟩) t8.wf (by rw [w3]; rfl)
  obtain ⟨g1, g2⟩ := q2.pin_in (k := 0) hi4 (f := ⟨nmF, 0, 5, [1, 2, 3], false, [], lf⟩) (by rw [w3]; rfl)
  refine TP.pin (n := nmF) (k := 0) (r := (2, 0)) t8 hg (by decide) (by decide) (by decide) (by omega) (by omega) (by
    have := congrArg Prod.snd g1
    rw [hnx8] at this; exact this) fun H9 t9 => ?_
  have e9 : (s4.pin nmF 0).1 = s4.pinAt 0 := congrArg Prod.fst g1
  rw [e9] at t9
  have hfs5 : (s4.pinAt 0).fs = [⟨nmF, 0, 5, [1, 2, 3], false, [2], lf⟩] := by
    show s4.fs.modify 0 (Fr.pin s4.next) = _
    rw [w3, hnx8]; rfl
  have hget := g2.get t9.wf (f := ⟨nmF, 0, 5, [1, 2, 3], false, [2], lf⟩) (x := 2) (by rw [hfs5]; simp) (by simp)
  refine TP.get (a := 5) (b := [1, 2, 3]) (e := 0) t9 (hget.trans rfl) fun sl H10 o10 t10 e10 => ?_
  refine br_t rfl ?_
  refine strB_eq (SlB_byts o10) ?_
  refine br_t (beq_iff_eq.2 rfl) ?_
  obtain ⟨D, hD, _⟩ := t10.disk hg
  refine Ops_ok hD ?_
  have ho : (s4.pinAt 0).d.ops = 4 := by
    show s4.d.ops = 4
    rw [hops, w2, r6]; decide
  rw [ho]
  refine br_t rfl ?_
  obtain ⟨h1, F, h2, h3⟩ := t10
  refine Resident_ok h2 ?_
  rw [hfs5]
  exact hK H10 h1

end Go.Proofs.YtbhddkmfhampbaaDoor
