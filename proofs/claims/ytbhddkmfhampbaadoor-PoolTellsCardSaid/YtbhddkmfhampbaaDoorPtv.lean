/-
  PoolTells: the walk.
-/
import Derived.Test.YtbhddkmfhampbaaDoorPpw
import Derived.Test.YtbhddkmfhampbaaDoorPtt
import Derived.Test.YtbhddkmfhampbaaDoorDkt
namespace Go.Proofs.YtbhddkmfhampbaaDoor
open Go.MapKept

/-- What stays where it is. -/
def Kp (Q : Nat → Prop) (A B : Heap) : Prop := ∀ b, Q b → B[b]? = A[b]?
/-- A pool that was made since 'H', beside other blocks that were. -/
def TQ (Q : Nat → Prop) (H A : Heap) (p dp : Nat) (s : Pl) : Prop := Ext H A ∧ (∃ F, PoolAt F A p dp s ∧ ∀ b, F b → H.size ≤ b ∧ ¬ Q b) ∧ ∀ b, Q b → H.size ≤ b ∧ b < A.size

section
variable {Q : Nat → Prop} {H A : Heap} {p dp : Nat} {s : Pl} {n : ByteArray}
theorem TQ.of (t : TP H A p dp s) (hQ : ∀ b, ¬ Q b) : TQ Q H A p dp s := by
  obtain ⟨h1, F, h2, h3⟩ := t
  exact ⟨h1, ⟨F, h2, fun b hb => ⟨h3 b hb, hQ b⟩⟩, fun b hb => absurd hb (hQ b)⟩
theorem TQ.ext {B : Heap} (t : TQ Q H A p dp s) (e : Ext A B) : TQ Q H B p dp s ∧ Kp Q A B := by
  obtain ⟨h1, ⟨F, h2, h3⟩, h4⟩ := t
  exact ⟨⟨h1.trans e, ⟨F, h2.ext e, h3⟩, fun b hb => ⟨(h4 b hb).1, Nat.lt_of_lt_of_le (h4 b hb).2 e.size⟩⟩, fun b hb => e.same b (h4 b hb).2 id⟩
theorem TQ.gl (t : TQ Q H A p dp s) (hg : Gl H) : Gl A := hg.mod t.1 id
theorem TQ.wf (t : TQ Q H A p dp s) : s.WF := by
  obtain ⟨h1, ⟨F, h2, h3⟩, h4⟩ := t; exact h2.wf
theorem TQ.go (t : TQ Q H A p dp s) : ∃ F, PoolAt F A p dp s ∧ ∀ (s' : Pl) (F' : Nat → Prop) (B : Heap), PoolAt F' B p dp s' → Step F F' A B → TQ Q H B p dp s' ∧ Kp Q A B := by
  obtain ⟨h1, ⟨F, h2, h3⟩, h4⟩ := t
  refine ⟨F, h2, fun s' F' B h5 S => ⟨⟨⟨Nat.le_trans h1.size S.mod.size, fun b hb _ => (S.mod.same b (Nat.lt_of_lt_of_le hb h1.size) fun q => by have := (h3 b q).1; omega).trans (h1.same b hb id)⟩, ⟨F', h5, fun b hb => ?_⟩, fun b hb => ⟨(h4 b hb).1, Nat.lt_of_lt_of_le (h4 b hb).2 S.mod.size⟩⟩, fun b hb => S.mod.same b (h4 b hb).2 fun q => (h3 b q).2 hb⟩⟩
  rcases S.own b hb with q | q
  · exact h3 b q
  · exact ⟨Nat.le_trans h1.size q, fun r => by have := (h4 b r).2; omega⟩
/-- The blocks beside it are turned. -/
theorem TQ.beside {Q' : Nat → Prop} {B : Heap} (t : TQ Q H A p dp s) (m : Mod Q A B) (h : ∀ b, Q' b → Q b ∨ A.size ≤ b) (hl : ∀ b, Q' b → b < B.size) : TQ Q' H B p dp s := by
  obtain ⟨h1, ⟨F, h2, h3⟩, h4⟩ := t
  refine ⟨⟨Nat.le_trans h1.size m.size, fun b hb _ => (m.same b (Nat.lt_of_lt_of_le hb h1.size) fun q => by have := (h4 b q).1; omega).trans (h1.same b hb id)⟩, ⟨F, h2.keep fun b hb hbl => m.same b hbl (h3 b hb).2, fun b hb => ⟨(h3 b hb).1, fun q => ?_⟩⟩, fun b hb => ⟨?_, hl b hb⟩⟩
  · rcases h b q with r | r
    · exact (h3 b hb).2 r
    · have := h2.lt b hb; omega
  · rcases h b hb with r | r
    · exact (h4 b r).1
    · exact Nat.le_trans h1.size r
theorem TQ.disk (t : TQ Q H A p dp s) (hg : Gl H) : ∃ D, DiskAt D A dp s.d ∧ ∀ b, D b → H.size ≤ b ∧ ¬ Q b := by
  have hgA := t.gl hg
  obtain ⟨h1, ⟨F, h2, h3⟩, h4⟩ := t
  obtain ⟨D, q1, q2, _⟩ := h2.disk hgA
  exact ⟨D, q1, fun b hb => h3 b (q2 b hb)⟩

theorem TQ.fresh {K : (Int × Int × Int) → Heap → Prop} {r : Int × Int × Int} (t : TQ Q H A p dp s) (hg : Gl H) (hn : n.size ≤ 9223372036854775807) (hl : s.d.logs < 68719470000) (hx : s.next < 9223372036854775807) (hf : s.Fit) (hr : (s.fresh n).2 = r)
    (hK : ∀ B, TQ Q H B p dp (s.fresh n).1 → Kp Q A B → K r B) : pool_Pool_Fresh.sp (at0 p) n A K := by
  have hgA := t.gl hg
  obtain ⟨F, h1, h2⟩ := t.go
  refine Fresh_ok hgA h1 hn (by omega) hx hf fun F' B h3 S => ?_
  subst hr
  obtain ⟨q1, q2⟩ := h2 _ F' B h3 S
  exact hK B q1 q2
theorem TQ.pin {K : (Int × Int) → Heap → Prop} {k : Int} {r : Int × Int} (t : TQ Q H A p dp s) (hg : Gl H) (hn : n.size ≤ 9223372036854775807) (h0 : -9223372036854775808 ≤ k) (h1 : k ≤ 9223372036854775807) (hl : s.d.logs < 68719470000) (hx : s.next < 9223372036854775807) (hr : (s.pin n k).2 = r)
    (hK : ∀ B, TQ Q H B p dp (s.pin n k).1 → Kp Q A B → K r B) : pool_Pool_Pin.sp (at0 p) n k A K := by
  have hgA := t.gl hg
  obtain ⟨F, h2, h3⟩ := t.go
  refine Pin_ok hgA h2 hn h0 h1 (by omega) hx fun F' B h4 S => ?_
  subst hr
  obtain ⟨q1, q2⟩ := h3 _ F' B h4 S
  exact hK B q1 q2
theorem TQ.get {K : (Int × Sl × Int) → Heap → Prop} {k e : Int} {a : UInt8} {b : List UInt8} (t : TQ Q H A p dp s) (hr : s.get k = (a, b, e))
    (hK : ∀ sl B, SlE EB ty_uint8 B sl b → TQ Q H B p dp s → Kp Q A B → K ((a.toNat : Int), sl, e) B) : pool_Pool_Get.sp (at0 p) k A K := by
  have t0 := t
  obtain ⟨h1, ⟨F, h2, h3⟩, h4⟩ := t
  refine Get_ok h2 fun sl B o e1 f => ?_
  rw [hr] at o ⊢
  obtain ⟨q1, q2⟩ := t0.ext e1
  exact hK sl B o q1 q2
theorem TQ.put {K : Int → Heap → Prop} {k e : Int} {kd : UInt8} {b : Sl} {l : List UInt8} (t : TQ Q H A p dp s) (hg : Gl H) (hb : Byts A b l) (hr : (s.set k kd l).2 = e)
    (hK : ∀ B, TQ Q H B p dp (s.set k kd l).1 → Kp Q A B → K e B) : pool_Pool_Put.sp (at0 p) k (kd.toNat : Int) b A K := by
  have hgA := t.gl hg
  obtain ⟨F, h2, h3⟩ := t.go
  refine Put_ok hgA h2 hb fun F' B h4 S => ?_
  rw [hr]
  obtain ⟨q1, q2⟩ := h3 _ F' B h4 S
  exact hK B q1 q2
theorem TQ.unpin {K : Int → Heap → Prop} {k e : Int} (t : TQ Q H A p dp s) (hg : Gl H) (hx : s.next < 9223372036854775807) (hr : (s.unpin k).2 = e)
    (hK : ∀ B, TQ Q H B p dp (s.unpin k).1 → Kp Q A B → K e B) : pool_Pool_Unpin.sp (at0 p) k A K := by
  have hgA := t.gl hg
  obtain ⟨F, h2, h3⟩ := t.go
  refine Unpin_ok hgA h2 hx fun F' B h4 S => ?_
  rw [hr]
  obtain ⟨q1, q2⟩ := h3 _ F' B h4 S
  exact hK B q1 q2
theorem TQ.flush {K : Int → Heap → Prop} {e : Int} (t : TQ Q H A p dp s) (hg : Gl H) (hl : s.d.logs < 68719470000) (hr : (s.flush n).2 = e)
    (hK : ∀ B, TQ Q H B p dp (s.flush n).1 → Kp Q A B → K e B) : pool_Pool_Flush.sp (at0 p) n A K := by
  have hgA := t.gl hg
  obtain ⟨F, h2, h3⟩ := t.go
  refine Flush_ok hgA h2 hl fun F' B h4 S => ?_
  rw [hr]
  obtain ⟨q1, q2⟩ := h3 _ F' B h4 S
  exact hK B q1 q2
end

theorem SlE.kp {A B : Heap} {s : Sl} {l : List UInt8} (o : SlE EB ty_uint8 A s l) (k : Kp (ownB s) A B) : SlE EB ty_uint8 B s l := o.keep fun b hb _ => k b hb

theorem PoolTells_ok {frames pages : Int} {order : Sl} {xs : List Int} {H : Heap} {K : Bool → Heap → Prop} (hg : Gl H) (ho : Ints .i64 H order xs) (hK : ∀ B, Ext H B → K true B) : fathomlaw03_PoolTells.sp frames pages order H K := by
  refine fathomlaw03_PoolTells.of ?_
  unfold fathomlaw03_PoolTells.vc
  refine PickN_ok (by decide) ?_
  rw [if_neg (by decide)]
  refine PickN_ok (by decide) ?_
  rw [if_neg (by decide)]
  obtain ⟨m, hm8, hm27, em⟩ : ∃ m : Nat, 8 ≤ m ∧ m ≤ 27 ∧ IntKind.i64.wrap ((8 : Int) + frames.emod 20) = (m : Int) := by
    have h1 := Int.emod_nonneg frames (show (20 : Int) ≠ 0 by decide)
    have h2 := Int.emod_lt_of_pos frames (show (0 : Int) < 20 by decide)
    have e : frames % 20 = frames.emod 20 := rfl
    refine ⟨(8 + frames.emod 20).toNat, by omega, by omega, ?_⟩
    rw [wrap64 (by omega) (by omega)]; omega
  obtain ⟨P, hP1, hP60, eP⟩ : ∃ P : Nat, 1 ≤ P ∧ P ≤ 60 ∧ IntKind.i64.wrap ((1 : Int) + pages.emod 60) = (P : Int) := by
    have h1 := Int.emod_nonneg pages (show (60 : Int) ≠ 0 by decide)
    have h2 := Int.emod_lt_of_pos pages (show (0 : Int) < 60 by decide)
    have e : pages % 60 = pages.emod 60 := rfl
    refine ⟨(1 + pages.emod 60).toNat, by omega, by omega, ?_⟩
    rw [wrap64 (by omega) (by omega)]; omega
  simp only [em, eP]
  have hol := ho.len
  refine br_mk (fun _ => hK H (.refl _ _)) (fun hc0 => ?_)
  have hxl : xs.length ≤ 400 := by simp at hc0; omega
  obtain ⟨c1, c2, c3, c4⟩ := create_live (q := (P : Int)) (by omega) (by omega) nmF_named
  rw [Int.toNat_natCast] at c1
  refine New_ok (by omega) fun F1 d H1 a1 e1 f1 => ?_
  refine Create_ok (n := nmF) a1 fun F2 H2 a2 S2 => ?_
  have e2 : Ext H H2 := ⟨Nat.le_trans e1.size S2.mod.size, fun b hb _ => (S2.mod.same b (Nat.lt_of_lt_of_le hb e1.size) fun q => by have := f1 b q; omega).trans (e1.same b hb id)⟩
  have f2 : ∀ b, F2 b → H.size ≤ b := fun b hb => by
    rcases S2.own b hb with q | q
    · exact f1 b q
    · exact Nat.le_trans e1.size q
  refine TP.new (m := m) hg e2 a2 f2 hm8 (by omega) fun p H3 t3 => ?_
  refine br_f rfl ?_
  have none_own : ∀ b, ¬ ownB (Sl.mk none 0 0) b := by rintro b ⟨ad, q, _⟩; cases q
  refine loop_upto P (fun i z A => z.2 = (i : Int) ∧ ∃ s pg L, TQ (ownB z.1) H A p d s ∧ Told s nmF i P (tellT L) pg ∧ Idle s ∧ s.next = (i : Int) + 1 ∧ s.most = m ∧ s.d.logs ≤ 2 * i ∧ L.length = i ∧ SlE EB ty_uint8 A z.1 L)
    ⟨rfl, _, [], [], TQ.of t3 none_own, pl0_told c1, (by intro f hf; simp [pl0] at hf), rfl, rfl, (by show Dk.logs ((dk0 (P : Int)).create nmF).1 ≤ _; rw [c4]; omega), rfl, SlE.nil _ _ _⟩ ?_
  rintro i ⟨l1, z2⟩ A next hi ⟨hz, s, pg, L, t, ht, hid, hnx, hmo, hlg, hLl, o⟩ hnext
  simp only at hz t o hnext ⊢
  subst hz
  refine br_mk (fun hc => ?_) (fun hc => ?_)
  · have hlt : i < P := by simpa using hc
    obtain ⟨q1, q2, q3, q4, pg', q5⟩ := ht.fresh_one t.wf hid hlt
    rw [hnx] at q1 q2 q3
    refine TQ.fresh (n := nmF) t hg (by decide) (by omega) (by omega) ht.fit q1 fun B tB kB => ?_
    refine br_f (by simp) ?_
    obtain ⟨u1, u2, u3, u4, u5⟩ := q5.unpin_one tB.wf q2
    have hnx2 : w64 ((i : Int) + 1 + 1) = (i : Int) + 1 + 1 := by unfold w64; exact wrap64 (by omega) (by omega)
    refine TQ.unpin tB hg (by rw [q3, hnx2]; omega) u1 fun C tC kC => ?_
    refine br_f rfl ?_
    have oC := (o.kp kB).kp kC
    refine SlE.push (E := EB) elByte (x := 0) oC rfl (by omega) (by omega) fun l2 D oD gD _ => ?_
    have lB := s.fresh_logs nmF
    refine hnext hlt _ _ ⟨succ64 i (by omega), _, pg', L ++ [0], tC.beside gD.1 gD.2 oD.lt, u5.congr fun k _ => ?_, u2, ?_, ?_, ?_, by simp [hLl], oD⟩
    · rw [← hLl]; exact tellT_snoc L k
    · rw [u3, q3, hnx2]; omega
    · rw [u4, q4, hmo]
    · rw [Pl.unpin_d]; omega
  · have hge : i = P := by simp at hc; omega
    subst hge
    refine loop_upto xs.length (fun j z A => z = (j : Int) ∧ ∃ s pg L, TQ (ownB l1) H A p d s ∧ Told s nmF i i (tellT L) pg ∧ Idle s ∧ s.next = (i : Int) + 1 + j ∧ s.most = m ∧ s.d.logs ≤ 2 * i + j ∧ L.length = i ∧ SlE EB ty_uint8 A l1 L) ⟨rfl, s, pg, L, t, ht, hid, by omega, hmo, by omega, hLl, o⟩ ?_
    clear hnext o hLl hlg hmo hnx hid ht t
    rintro j _ A next hj ⟨rfl, s, pg, L, t, ht, hid, hnx, hmo, hlg, hLl, o⟩ hnext
    refine br_mk (fun hc2 => ?_) (fun hc2 => ?_)
    · have hlt : j < xs.length := by rw [hol] at hc2; simpa using hc2
      refine ints_get (ho.ext t.1) rfl hlt fun ad _ => ?_
      refine PickN_ok (by omega) ?_
      rw [if_neg (by omega)]
      obtain ⟨kk, hkk, ek⟩ : ∃ kk : Nat, kk < i ∧ (xs.getD j 0).emod (i : Int) = (kk : Int) := by
        have h1 := Int.emod_nonneg (xs.getD j 0) (show (i : Int) ≠ 0 by omega)
        have h2 := Int.emod_lt_of_pos (xs.getD j 0) (show (0 : Int) < (i : Int) by omega)
        have e : (xs.getD j 0) % (i : Int) = (xs.getD j 0).emod (i : Int) := rfl
        exact ⟨((xs.getD j 0).emod (i : Int)).toNat, by omega, by omega⟩
      simp only [ek]
      have hkL : kk < L.length := by omega
      obtain ⟨q1, q2, q3, q4, pg', q5⟩ := ht.pin_one t.wf hid hkk
      rw [hnx] at q1 q2 q3
      have hw1 : w64 ((i : Int) + 1 + j + 1) = (i : Int) + 1 + j + 1 := by unfold w64; exact wrap64 (by omega) (by omega)
      rw [hw1] at q3
      refine TQ.pin (n := nmF) (k := (kk : Int)) t hg (by decide) (by omega) (by omega) (by omega) (by omega) q1 fun B tB kB => ?_
      have lB := s.pin_logs nmF (kk : Int)
      obtain ⟨s1, hs1⟩ : ∃ s1, s1 = (s.pin nmF (kk : Int)).1 := ⟨_, rfl⟩
      rw [← hs1] at q2 q3 q4 q5 tB lB
      have hget := q5.get_one tB.wf q2
      rw [tellT_at hkL] at hget
      refine TQ.get tB hget fun sl C oC tC kC => ?_
      refine br_f rfl ?_
      have o3 := (o.kp kB).kp kC
      refine byte_of (SlB_byts o3) (i := kk) hkL rfl fun ad1 _ => ?_
      refine br_f (by simp) ?_
      refine byte_of (SlB_byts o3) (i := kk) hkL rfl fun ad2 _ => ?_
      have hsn := oC.n (by decide)
      have hb255 := (L[kk]).toNat_lt
      refine br_f ?_ ?_
      · rw [hsn, wrap64 (by omega) (by omega)]; simp
      obtain ⟨F, pa, _⟩ := tC.go
      refine Resident_ok pa ?_
      have hwl := tC.wf.len
      refine br_f (by rw [q4, hmo] at hwl; simpa using hwl) ?_
      have fin : ∀ (s2 : Pl) (L2 : List UInt8) (pg2 : List Pg) (D : Heap), TQ (ownB l1) H D p d s2 → Told s2 nmF i i (tellT L2) pg2 → One s2 kk ((i : Int) + 1 + j) → s2.next = (i : Int) + 1 + j + 1 → s2.most = m → s2.d.logs ≤ 2 * i + j + 1 → L2.length = i → SlE EB ty_uint8 D l1 L2 →
          pool_Pool_Unpin.sp (at0 p) ((i : Int) + 1 + j) D fun (r : Int) E => br (r != (0 : Int)) (K false E) (next (IntKind.i64.wrap ((j : Int) + (1 : Int))) E) := by
        intro s2 L2 pg2 D t2 ht2 h1 hn2 hm2 hl2 hL2 o2
        obtain ⟨u1, u2, u3, u4, u5⟩ := ht2.unpin_one t2.wf h1
        refine TQ.unpin t2 hg (by omega) u1 fun E tE kE => ?_
        refine br_f rfl ?_
        refine hnext hlt _ _ ⟨succ64 j (by omega), _, pg2, L2, tE, u5, u2, ?_, ?_, ?_, hL2, o2.kp kE⟩
        · rw [u3, hn2]; omega
        · rw [u4, hm2]
        · rw [Pl.unpin_d]; omega
      refine br_mk (fun h3 => ?_) (fun h3 => ?_)
      · have h250 : Int.tmod (j : Int) 250 = ((j % 250 : Nat) : Int) := by
          rw [Int.tmod_eq_emod_of_nonneg (by omega)]; omega
        have hmod := Nat.mod_lt j (show 0 < 250 by decide)
        have eb : IntKind.u8.wrap (IntKind.i64.wrap (Int.tmod (j : Int) (250 : Int) + (1 : Int))) = ((UInt8.ofNat (j % 250 + 1)).toNat : Int) := by
          rw [h250, wrap64 (by omega) (by omega), show ((j % 250 : Nat) : Int) + 1 = ((j % 250 + 1 : Nat) : Int) by omega, wrap8]
        obtain ⟨c, hc⟩ : ∃ c, c = UInt8.ofNat (j % 250 + 1) := ⟨_, rfl⟩
        rw [← hc] at eb
        simp only [eb]
        have hln := o3.n (by decide)
        obtain ⟨ad3, ha3⟩ := RdE.addr o3.rd (by decide) (by omega)
        rw [ha3]
        refine ⟨⟨by omega, by omega⟩, ?_⟩
        rw [Int.toNat_natCast]
        show st C (Addr.add (Addr.add ad3 (kk * 1)) 0) (.int .u8 (c.toNat : Int)) _
        refine SlE.st (i := kk) (j := 0) (x := L[kk]) (y := c) o3 ha3 (List.getElem?_eq_getElem hkL) (by decide) rfl rfl rfl fun D oD mD zD => ?_
        have tD := tC.beside mD (fun b hb => .inl hb) oD.lt
        refine ⟨fun A' => SlE EB ty_uint8 A' l1 (L.set kk c), oD, ?_⟩
        have hcL : (L.set kk c)[kk]? = some c := by simp [hkL]
        have hln2 := oD.n (by decide)
        simp only [List.length_set] at hln2
        refine ⟨⟨by omega, by omega⟩, ⟨(c.toNat : Int), fun A' hA' => ?_, ?_⟩⟩
        · obtain ⟨ad4, h4, h5⟩ := RdE.cell hA'.rd (j := 0) hcL rfl
          rw [ha3] at h4; cases h4
          exact h5
        refine ⟨⟨by omega, by omega⟩, ?_⟩
        refine RdE.ld (E := EB) (c := cInt .u8) (y := (c.toNat : Int)) oD.rd ha3 hcL (j := 0) rfl (n := kk * 1) rfl ?_
        have hc255 := c.toNat_lt
        refine elByte1.make (base := 0) (by omega) (Int.le_refl _) (by omega) (by omega) (Nat.zero_le _) fun sl2 E hn oE eE fE _ => ?_
        rw [Int.toNat_natCast] at oE
        obtain ⟨tE, kE⟩ := tD.ext eE
        have oLE := oD.kp kE
        refine ⟨oLE, ?_⟩
        have hby : SlE EB ty_uint8 E sl2 (List.replicate c.toNat 0) := SlB_of (by rw [pgV_rep]; exact oE)
        obtain ⟨u1, u2, u3, u4, u5⟩ := q5.set_one tE.wf q2 (c := c) (b := List.replicate c.toNat 0) (by simp; omega)
        refine TQ.put (kd := c) tE hg (SlB_byts hby) u1 fun G2 tG kG => ?_
        refine br_f rfl ?_
        refine fin _ (L.set kk c) pg' G2 tG (u5.congr fun k _ => tellT_set L hkL c k) u2 (by rw [u3, q3]) (by rw [u4, q4, hmo]) (by rw [Pl.set_d]; omega) (by simp [hLl]) (oLE.kp kG)
      · exact fin s1 L pg' C tC q5 q2 q3 (by rw [q4, hmo]) (by omega) hLl o3
    · have hge : j = xs.length := by rw [hol] at hc2; simp at hc2; omega
      obtain ⟨r1, ⟨pg2, r2, r3⟩, r4, r5, r6⟩ := ht.flush t.wf
      refine TQ.flush (n := nmF) t hg (by omega) r1 fun B tB kB => ?_
      refine br_f rfl ?_
      have hid2 : Idle (s.flush nmF).1 := hid.clean r4
      have hnx2 := s.flush_next nmF
      obtain ⟨F, pa, _⟩ := tB.go
      refine Pinned_ok pa (by rw [hnx2]; omega) fun C eC => ?_
      rw [hid2.pinned]
      refine br_f rfl ?_
      obtain ⟨tC, kC⟩ := tB.ext eC
      obtain ⟨F3, pa3, _⟩ := tC.go
      refine Peak_ok pa3 ?_
      have hpk := tC.wf.peak.2
      refine br_f (by rw [r6, hmo] at hpk; simpa using hpk) ?_
      obtain ⟨D, hD, hDo⟩ := tC.disk hg
      have lflush := s.flush_logs nmF
      have hwl := t.wf.len
      refine Crash_ok hD (by decide) fun D1 C1 a1 S1 => ?_
      refine Remove_ok (n := nmF) a1 fun D2 C2 a2 S2 => ?_
      have hlr : ((((s.flush nmF).1.d.setCrash 0 0).remove nmF).1).logs < 68719476736 := by
        have := ((s.flush nmF).1.d.setCrash 0 0).remove_logs nmF
        have e := (s.flush nmF).1.d.setCrash_logs 0 0
        omega
      refine Restart_ok a2 hlr fun D3 C3 a3 S3 => ?_
      have hlive := r2.disk.crash r3
      have S := (S1.trans S2).trans S3
      have e3 : Ext H C3 := ⟨Nat.le_trans tC.1.size S.mod.size, fun b hb _ => (S.mod.same b (Nat.lt_of_lt_of_le hb tC.1.size) fun q => by have := (hDo b q).1; omega).trans (tC.1.same b hb id)⟩
      have o5 : SlE EB ty_uint8 C3 l1 L := ((o.kp kB).kp kC).keep fun b hb hl => S.mod.same b hl fun q => (hDo b q).2 hb
      refine loop_upto i (fun k z A => z = (k : Int) ∧ Ext C3 A) ⟨rfl, .refl _ _⟩ ?_
      rintro k _ A5 next5 hk ⟨rfl, e5⟩ hnext5
      have g5 : Gl A5 := hg.mod (e3.trans e5) id
      refine br_mk (fun hc5 => ?_) (fun hc5 => ?_)
      · have hlt5 : k < i := by simpa using hc5
        have a5 := a3.keep (H' := A5) fun b _ hl => e5.same b hl id
        refine Read_ok (n := nmF) a5 fun sl A6 o6 e6 f6 => ?_
        obtain ⟨bp, hbp⟩ : ∃ bp, pg2[k]? = some bp := ⟨_, List.getElem?_eq_getElem (by rw [r2.len]; exact hlt5)⟩
        rw [hlive.read hbp] at o6 ⊢
        have hopen := r2.rest k bp hbp (fun f hf _ => by
          rw [r4] at hf
          obtain ⟨g, _, rfl⟩ := List.mem_map.1 hf
          rfl)
        have hkL : k < L.length := by omega
        rw [tellT_at hkL] at hopen
        refine Open_ok (g5.mod e6 id) (SlB_byts o6) (by rw [bp.2]; decide) o6.cap (fun q => absurd bp.2 q) (fun _ q => by rw [hopen] at q; cases q) fun kd b sl2 A7 _ ho7 hb7 o7 e7 f7 => ?_
        rw [hopen] at ho7
        cases ho7
        refine br_f rfl ?_
        have o8 : SlE EB ty_uint8 A7 l1 L := o5.ext ((e5.trans e6).trans e7)
        refine byte_of (SlB_byts o8) (i := k) hkL rfl fun ad1 _ => ?_
        refine br_f (by simp) ?_
        refine byte_of (SlB_byts o8) (i := k) hkL rfl fun ad2 _ => ?_
        have hsn := o7.n (by decide)
        have hb255 := (L[k]).toNat_lt
        refine br_f ?_ ?_
        · rw [hsn, wrap64 (by omega) (by omega)]; simp
        exact hnext5 hlt5 _ _ ⟨succ64 k (by omega), (e5.trans e6).trans e7⟩
      · exact pworks_ok g5 fun B5 eB => hK B5 ((e3.trans e5).trans eB)

end Go.Proofs.YtbhddkmfhampbaaDoor
