/-
  Both disks at once: a call of each; what they tell.
-/
import Derived.Test.YtnmaojkkfbajcaaGreatDrf
import Derived.Test.YtnmaojkkfbajcaaGreatDkw
namespace Go.Proofs.YtnmaojkkfbajcaaGreat
open Go.MapKept

theorem Pick_ok {i n : Int} {H : Heap} {K : Int → Heap → Prop} (h2 : n ≤ 9223372036854775807)
    (hK : K (if n < 1 then 0 else i.emod n) H) : fathomkit_Pick.sp i n H K := by
  refine fathomkit_Pick.of ?_
  unfold fathomkit_Pick.vc
  refine br_mk (fun h => ?_) (fun h => ?_)
  · have : n < 1 := by simpa using h
    simpa [this] using hK
  · have hn : 1 ≤ n := by simpa using h
    refine ⟨by omega, ?_⟩
    rw [if_neg (by omega)] at hK
    refine br_mk (fun h => ?_) (fun h => ?_)
    · have hneg : i.tmod n < 0 := by simpa using h
      have e : i.emod n = i.tmod n + n := by
        rw [Int.tmod_eq_emod] at hneg ⊢
        split at hneg
        · have := Int.emod_nonneg i (show n ≠ 0 by omega)
          omega
        · rename_i h3
          rw [if_neg h3]
          have : (n.natAbs : Int) = n := by omega
          have e2 : i % n = i.emod n := rfl
          omega
      have hb1 : -n < i.tmod n := by
        rw [Int.tmod_eq_emod]
        have := Int.emod_nonneg i (show n ≠ 0 by omega)
        split <;> omega
      rw [wrap64 (by omega) (by omega), ← e]
      exact hK
    · have hpos : 0 ≤ i.tmod n := by simpa using h
      have e : i.emod n = i.tmod n := by
        rw [Int.tmod_eq_emod] at hpos ⊢
        split
        · simp; rfl
        · rename_i h3
          rw [if_neg h3] at hpos
          have := Int.emod_lt_of_pos i (show 0 < n by omega)
          have : (n.natAbs : Int) = n := by omega
          omega
      rw [← e]; exact hK

theorem SameTexts_ok {a b : Sl} {L : List (List UInt8)} {H : Heap} {K : Bool → Heap → Prop} (ha : SlE EN ty_string H a L) (hb : SlE EN ty_string H b L) (hl : L.length < 4611686018427387904) (hK : K true H) : fathomkit_SameTexts.sp a b H K := by
  refine fathomkit_SameTexts.of ?_
  unfold fathomkit_SameTexts.vc
  have an := ha.n (by decide)
  have bn := hb.n (by decide)
  refine br_f (by simp; omega) ?_
  refine loop_upto L.length (fun k i H1 => i = (k : Int) ∧ H1 = H) ⟨rfl, rfl⟩ ?_
  rintro k _ H1 next hk ⟨rfl, rfl⟩ hnext
  refine br_mk (fun hc => ?_) (fun _ => hK)
  have hlt : k < L.length := by rw [an] at hc; simpa using hc
  refine text_ld ha hlt ?_
  refine text_ld hb hlt ?_
  refine br_f (by simp) (hnext hlt _ _ ⟨succ64 k (by omega), rfl⟩)

/-- Both disks, in the blocks 'G'. -/
def Both (G : Nat → Prop) (H : Heap) (d m : Nat) (s : Dk) : Prop := ∃ F1 F2, DiskAt F1 H d s ∧ RefAt F2 H m s ∧ (∀ b, F1 b → ¬ F2 b) ∧ ∀ b, G b ↔ F1 b ∨ F2 b

theorem Both.lt {G : Nat → Prop} {H : Heap} {d m : Nat} {s : Dk} (h : Both G H d m s) : ∀ b, G b → b < H.size := by
  obtain ⟨F1, F2, h1, h2, _, hG⟩ := h
  intro b hb
  rcases (hG b).1 hb with q | q
  · exact h1.lt b q
  · exact h2.lt b q
theorem Both.keep {G : Nat → Prop} {H H' : Heap} {d m : Nat} {s : Dk} (h : Both G H d m s) (k : ∀ b, G b → b < H.size → H'[b]? = H[b]?) : Both G H' d m s := by
  obtain ⟨F1, F2, h1, h2, h3, hG⟩ := h
  exact ⟨F1, F2, h1.keep fun b hb => k b ((hG b).2 (.inl hb)), h2.keep fun b hb => k b ((hG b).2 (.inr hb)), h3, hG⟩
theorem Both.wf {G : Nat → Prop} {H : Heap} {d m : Nat} {s : Dk} (h : Both G H d m s) : s.WF := by
  obtain ⟨F1, F2, h1, _⟩ := h; exact h1.wf

/-- One call of each. -/
theorem both_step {G : Nat → Prop} {H : Heap} {d m : Nat} {s : Dk} (s' : Dk) (h : Both G H d m s) : ∃ F1 F2, DiskAt F1 H d s ∧ RefAt F2 H m s ∧ (∀ b, F1 b → G b) ∧ (∀ b, F2 b → G b) ∧ (∀ F1' H1, DiskAt F1' H1 d s' → Step F1 F1' H H1 → RefAt F2 H1 m s ∧
    (∀ F2' H2, RefAt F2' H2 m s' → Step F2 F2' H1 H2 → ∃ G', Both G' H2 d m s' ∧ Step G G' H H2)) := by
  obtain ⟨F1, F2, h1, h2, h3, hG⟩ := h
  refine ⟨F1, F2, h1, h2, fun b hb => (hG b).2 (.inl hb), fun b hb => (hG b).2 (.inr hb), fun F1' H1 a1 t1 => ⟨h2.keep fun b hb hl => t1.mod.same b hl fun h => h3 b h hb, fun F2' H2 a2 t2 => ?_⟩⟩
  have l2 := h2.lt
  have l1' := a1.lt
  have dj : ∀ b, F1' b → ¬ F2 b := fun b hb hf => by
    rcases t1.own b hb with q | q
    · exact h3 b q hf
    · have := l2 b hf; omega
  refine ⟨fun b => F1' b ∨ F2' b, ⟨F1', F2', a1.keep fun b hb hl => t2.mod.same b hl (dj b hb), a2, fun b hb hf => ?_, fun _ => Iff.rfl⟩, ?_, ?_⟩
  · rcases t2.own b hf with q | q
    · exact dj b hb q
    · have := l1' b hb; omega
  · have z := t1.mod.size
    exact (t1.mod.mono fun b _ e => (hG b).2 (.inl e)).trans (t2.mod.mono fun b _ e => (hG b).2 (.inr e))
  · have z := t1.mod.size
    rintro b (q | q)
    · exact (t1.own b q).imp (fun q => (hG b).2 (.inl q)) id
    · exact (t2.own b q).imp (fun q => (hG b).2 (.inr q)) (fun q => by omega)

/-! ### How many writes are unsynced -/

theorem Dk.change_logs (s : Dk) : s.change.1.logs = s.logs := by unfold Dk.logs; rw [s.change_files]
theorem Dk.step_logs {s : Dk} {f : Dk → Dk} {n : Nat} (h : ∀ t : Dk, t.files = s.files → (f t).logs ≤ n) (h0 : s.logs ≤ n) : (s.step f).1.logs ≤ n := by
  unfold Dk.step
  split
  · exact h _ s.change_files
  · show s.change.1.logs ≤ n
    rw [s.change_logs]; exact h0
theorem Dk.logs_eq {s t : Dk} (h : t.files = s.files) : t.logs = s.logs := by unfold Dk.logs; rw [h]
theorem Dk.create_logs (s : Dk) (n : ByteArray) : (s.create n).1.logs ≤ s.logs := by
  unfold Dk.create
  split
  · exact Nat.le_refl _
  · split
    · exact Nat.le_refl _
    · split
      · exact Nat.le_refl _
      · split
        · exact Nat.le_refl _
        · refine Dk.step_logs (fun t ht => ?_) (Nat.le_refl _)
          unfold Dk.logs
          simp [ht]
theorem Dk.drop_logs (s : Dk) (n : ByteArray) : (s.drop n).logs ≤ s.logs := by
  unfold Dk.drop
  split
  · rename_i i hi
    obtain ⟨f, hf, _⟩ := Dk.idx_some hi
    have := sum_erase (fun f : Fl => f.log.length) s.files i f hf
    unfold Dk.logs
    simp only
    omega
  · exact Nat.le_refl _
theorem Dk.setName_logs (s : Dk) (n m : ByteArray) : (s.setName n m).logs = s.logs := by
  unfold Dk.setName
  split
  · rename_i i hi
    obtain ⟨f, hf, _⟩ := Dk.idx_some hi
    have := sum_modify (fun f : Fl => f.log.length) (fun f => { f with name := m }) s.files i f hf
    unfold Dk.logs
    simp only at this ⊢
    omega
  · rfl
theorem Dk.rename_logs (s : Dk) (n m : ByteArray) : (s.rename n m).1.logs ≤ s.logs := by
  unfold Dk.rename
  split
  · exact Nat.le_refl _
  · split
    · exact Nat.le_refl _
    · split
      · exact Nat.le_refl _
      · refine Dk.step_logs (fun t ht => ?_) (Nat.le_refl _)
        split
        · rw [Dk.logs_eq ht]; exact Nat.le_refl _
        · rw [Dk.setName_logs]
          exact Nat.le_trans (t.drop_logs m) (by rw [Dk.logs_eq ht]; exact Nat.le_refl _)
theorem Dk.remove_logs (s : Dk) (n : ByteArray) : (s.remove n).1.logs ≤ s.logs := by
  unfold Dk.remove
  split
  · exact Nat.le_refl _
  · split
    · exact Nat.le_refl _
    · exact Dk.step_logs (fun t ht => Nat.le_trans (t.drop_logs n) (by rw [Dk.logs_eq ht]; exact Nat.le_refl _)) (Nat.le_refl _)
theorem Dk.write_logs (s : Dk) (n : ByteArray) (p : Int) (b : List UInt8) : (s.write n p b).1.logs ≤ s.logs + 1 := by
  unfold Dk.write
  split
  · exact Nat.le_succ _
  · split
    · split
      · exact Nat.le_succ _
      · rename_i i hi
        split
        · exact Nat.le_succ _
        · split
          · exact Nat.le_succ _
          · refine Dk.step_logs (fun t ht => ?_) (Nat.le_succ _)
            obtain ⟨f, hf, _⟩ := Dk.idx_some hi
            rw [← ht] at hf
            show ((t.files.modify i _).map fun f => f.log.length).sum ≤ _
            have := sum_modify (fun f : Fl => f.log.length) (fun f => { f with log := f.log ++ [⟨t.next, p.toNat, ⟨b, by assumption⟩⟩] }) t.files i f hf
            have h3 : (t.files.map fun f => f.log.length).sum = s.logs := by rw [ht]; rfl
            simp only [List.length_append, List.length_cons, List.length_nil] at this
            omega
    · exact Nat.le_succ _
theorem Dk.sync_logs (s : Dk) (n : ByteArray) : (s.sync n).1.logs ≤ s.logs := by
  unfold Dk.sync
  split
  · exact Nat.le_refl _
  · split
    · exact Nat.le_refl _
    · rename_i i hi
      refine Dk.step_logs (fun t ht => ?_) (Nat.le_refl _)
      obtain ⟨f, hf, _⟩ := Dk.idx_some hi
      rw [← ht] at hf
      show ((t.files.modify i _).map fun f => f.log.length).sum ≤ _
      have := sum_modify (fun f : Fl => f.log.length) (fun f => { f with synced := f.pages, log := [] }) t.files i f hf
      have h3 : (t.files.map fun f => f.log.length).sum = s.logs := by rw [ht]; rfl
      simp only [List.length_nil] at this
      omega
theorem Dk.restart_logs (s : Dk) : s.restart.logs ≤ s.logs := by
  unfold Dk.restart
  split
  · unfold Dk.logs
    simp only [List.map_map]
    refine sum_map_le _ _ _ fun f _ => ?_
    show ([] : List Wr).length ≤ _
    exact Nat.zero_le _
  · exact Nat.le_refl _
theorem Dk.setCrash_logs (s : Dk) (i k : Int) : (s.setCrash i k).logs = s.logs := by
  unfold Dk.setCrash; split <;> rfl

def Dk.play (s : Dk) (r : Int) (x1 x2 : ByteArray) (x3 x4 : Int) (x5 : Bool) (x6 : Int) : Dk :=
  if r = 0 then (s.create x1).1 else if r = 1 then (s.write x1 x3 (fillB x4 x5)).1 else if r = 2 then s else if r = 3 then s else if r = 4 then (s.sync x1).1 else if r = 5 then (s.rename x1 x2).1
  else if r = 6 then (s.remove x1).1 else if r = 7 then s.setCrash x3 x6 else s.restart
theorem Dk.play_logs (s : Dk) (r : Int) (x1 x2 : ByteArray) (x3 x4 : Int) (x5 : Bool) (x6 : Int) : (s.play r x1 x2 x3 x4 x5 x6).logs ≤ s.logs + 1 := by
  unfold Dk.play
  repeat' split
  · have := s.create_logs x1; omega
  · exact s.write_logs _ _ _
  · omega
  · omega
  · have := s.sync_logs x1; omega
  · have := s.rename_logs x1 x2; omega
  · have := s.remove_logs x1; omega
  · have := s.setCrash_logs x3 x6; omega
  · have := s.restart_logs; omega

theorem Step.pre {G G' : Nat → Prop} {A B C : Heap} (h : Mod (fun _ => False) A B) (k : Step G G' B C) : Step G G' A C := (⟨Ext.mod h, fun _ q => .inl q⟩ : Step G G A B).trans k

set_option maxHeartbeats 1000000 in
theorem plays_ok {G : Nat → Prop} {d m : Nat} {s : Dk} {x : Int} {x1 x2 : ByteArray} {x3 x4 x6 : Int} {x5 : Bool} {H : Heap} {K : Bool → Heap → Prop} (h : Both G H d m s) (hl : s.logs < 34359738368) (h4 : 0 ≤ x4 ∧ x4 < 256) (h3 : x3 ≤ 9223372036854775807)
    (hK : ∀ G' H', Both G' H' d m (s.play (x.emod 11) x1 x2 x3 x4 x5 x6) → Step G G' H H' → K true H') : fathomlaw01_plays.sp (at0 d) (at0 m) x x1 x2 x3 x4 x5 x6 H K := by
  refine fathomlaw01_plays.of ?_
  unfold fathomlaw01_plays.vc
  refine newC_rowT fun H1 z1 r1 m1 => ?_
  have hlt := h.lt
  have h1 : Both G H1 d m s := h.keep fun b hb hbl => m1.same b hbl id
  obtain ⟨p, hp⟩ : ∃ p, p = H.size := ⟨_, rfl⟩
  rw [← hp] at r1
  rw [← hp]
  have hpG : ¬ G p := fun hb => by have := hlt p hb; omega
  have hpl := obj_lt r1
  refine r1.ld (c := cInt .i64) (i := 0) (x := x) rfl ?_
  refine Pick_ok (by omega) ?_
  rw [if_neg (by omega)]
  generalize x.emod 11 = r at *
  have rowK : ∀ {F : Nat → Prop} {A : Heap}, (∀ b, F b → G b) → Mod F H1 A → RowT A p ty_fathomlaw01_Step #[(.int .i64 x), (.string x1), (.string x2), (.int .i64 x3), (.int .u8 x4), (.bool x5), (.int .u64 x6)] := fun hs hm => r1.mod hm fun hb => hpG (hs _ hb)
  have cell1 : ∀ A, RowT A p ty_fathomlaw01_Step #[(.int .i64 x), (.string x1), (.string x2), (.int .i64 x3), (.int .u8 x4), (.bool x5), (.int .u64 x6)] → hCell A (Addr.add ⟨p, 0, none⟩ 1) = some (.string x1) := fun A hA => by rw [add_lit0]; exact hA.cell rfl
  have cell2 : ∀ A, RowT A p ty_fathomlaw01_Step #[(.int .i64 x), (.string x1), (.string x2), (.int .i64 x3), (.int .u8 x4), (.bool x5), (.int .u64 x6)] → hCell A (Addr.add ⟨p, 0, none⟩ 2) = some (.string x2) := fun A hA => by rw [add_lit0]; exact hA.cell rfl
  -- Create
  refine br_mk (fun hr => ?_) (fun hr0 => ?_)
  · have e : r = 0 := by simpa using hr
    have ep : s.play r x1 x2 x3 x4 x5 x6 = (s.create x1).1 := by unfold Dk.play; rw [if_pos e]
    rw [ep] at hK
    obtain ⟨F1, F2, a1, a2, g1, g2, go⟩ := both_step (s.create x1).1 h1
    refine ⟨fun A => RowT A p ty_fathomlaw01_Step #[(.int .i64 x), (.string x1), (.string x2), (.int .i64 x3), (.int .u8 x4), (.bool x5), (.int .u64 x6)], r1, ?_⟩
    refine r1.ld (c := cStr) (i := 1) (x := x1) rfl ?_
    refine Create_ok a1 fun F1' H3 b1 t1 => ⟨rowK g1 t1.mod, ⟨x1, cell1, ?_⟩⟩
    obtain ⟨a2', go2⟩ := go F1' H3 b1 t1
    refine RCreate_ok a2' fun F2' H4 b2 t2 => ?_
    obtain ⟨G', c1, c2⟩ := go2 F2' H4 b2 t2
    rw [beq_self_eq_true]
    exact hK G' H4 c1 (Step.pre m1 c2)
  have n0 : r ≠ 0 := by simpa using hr0
  -- Write
  refine br_mk (fun hr => ?_) (fun hr1 => ?_)
  · have e : r = 1 := by simpa using hr
    have ep : s.play r x1 x2 x3 x4 x5 x6 = (s.write x1 x3 (fillB x4 x5)).1 := by unfold Dk.play; rw [if_neg n0, if_pos e]
    rw [ep] at hK
    refine r1.ldA (c := cAgg [(cInt .i64), cStr, cStr, (cInt .i64), (cInt .u8), cBool, (cInt .u64)]) (x := (x, x1, x2, x3, x4, x5, x6)) rfl rfl ?_
    refine bytes_ok h4 fun bs H5 o5 m5 f5 => ?_
    have h5 : Both G H5 d m s := h1.keep fun b hb hbl => m5.same b hbl id
    have r5 := r1.ext m5
    refine r5.ld (c := cStr) (i := 1) (x := x1) rfl ?_
    refine r5.ld (c := cInt .i64) (i := 3) (x := x3) rfl ?_
    obtain ⟨F1, F2, a1, a2, g1, g2, go⟩ := both_step (s.write x1 x3 (fillB x4 x5)).1 h5
    have bG : ∀ q, ownB bs q → ¬ G q := fun q hq hg => by have := f5 q hq; have := hlt q hg; omega
    have blt := o5.lt
    refine Write_ok a1 (SlB_byts o5) (fun ad ha hb => bG _ ⟨ad, ha, rfl⟩ (g1 _ hb)) (by omega) fun F1' H6 b1 t1 => ?_
    have r6 : RowT H6 p ty_fathomlaw01_Step #[(.int .i64 x), (.string x1), (.string x2), (.int .i64 x3), (.int .u8 x4), (.bool x5), (.int .u64 x6)] := r5.mod t1.mod fun hb => hpG (g1 _ hb)
    refine r6.ld (c := cStr) (i := 1) (x := x1) rfl ?_
    refine r6.ld (c := cInt .i64) (i := 3) (x := x3) rfl ?_
    obtain ⟨a2', go2⟩ := go F1' H6 b1 t1
    have o6 : SlE EB ty_uint8 H6 bs (fillB x4 x5) := o5.keep fun q hq hql => t1.mod.same q hql fun hb => bG q hq (g1 _ hb)
    refine RWrite_ok a2' (SlB_byts o6) (fun ad ha hb => bG _ ⟨ad, ha, rfl⟩ (g2 _ hb)) (by omega) fun F2' H7 b2 t2 => ?_
    obtain ⟨G', c1, c2⟩ := go2 F2' H7 b2 t2
    have o7 : SlE EB ty_uint8 H7 bs (fillB x4 x5) := o6.keep fun q hq hql => t2.mod.same q hql fun hb => bG q hq (g2 _ hb)
    have r7 : RowT H7 p ty_fathomlaw01_Step #[(.int .i64 x), (.string x1), (.string x2), (.int .i64 x3), (.int .u8 x4), (.bool x5), (.int .u64 x6)] := r6.mod t2.mod fun hb => hpG (g2 _ hb)
    refine ⟨fun A => Byts A bs (fillB x4 x5), SlB_byts o7, ⟨strB (fillB x4 x5), fun A hA => hA.strAt, ?_⟩⟩
    refine r7.ldA (c := cAgg [(cInt .i64), cStr, cStr, (cInt .i64), (cInt .u8), cBool, (cInt .u64)]) (x := (x, x1, x2, x3, x4, x5, x6)) rfl rfl ?_
    refine bytes_ok h4 fun b8 H8 o8 m8 f8 => ⟨(SlB_byts o7).keep fun ad ha hl => m8.same _ hl id, ?_⟩
    refine strB_eq (SlB_byts o8) ?_
    have o78 : SlE EB ty_uint8 H8 bs (fillB x4 x5) := o7.ext m8
    have hbn := o78.n (by decide)
    have hfl : (fillB x4 x5).length < 1000 := by unfold fillB; simp; split <;> omega
    have c1lt := c1.lt
    refine spoil_ok (SlB_to o78) (by omega) rfl fun H9 m9 => ?_
    rw [beq_self_eq_true, beq_self_eq_true]
    have bG' : ∀ q, ownB bs q → ¬ G' q := fun q hq hg => by
      rcases c2.own q hg with h | h
      · exact bG q hq h
      · have := blt q hq; omega
    refine hK G' H9 (c1.keep fun b hb hbl => (m9.same b (by have := m8.size; omega) fun hh => bG' b hh hb).trans (m8.same b hbl id)) (Step.pre m1 ⟨?_, fun b hb => (c2.own b hb).imp id fun h => by have := m5.size; omega⟩)
    have z8 := m8.size
    have z7 := c2.mod.size
    have z5 := m5.size
    exact ⟨by have := m9.size; omega, fun b hb hn => (m9.same b (by omega) fun hh => by have := f5 b hh; omega).trans ((m8.same b (by omega) id).trans ((c2.mod.same b (by omega) hn).trans (m5.same b hb id)))⟩
  have n1 : r ≠ 1 := by simpa using hr1
  -- Read
  refine br_mk (fun hr => ?_) (fun hr2 => ?_)
  · have e : r = 2 := by simpa using hr
    have ep : s.play r x1 x2 x3 x4 x5 x6 = s := by unfold Dk.play; rw [if_neg n0, if_neg n1, if_pos e]
    rw [ep] at hK
    obtain ⟨F1, F2, a1, a2, dj, hG⟩ := h1
    refine r1.ld (c := cStr) (i := 1) (x := x1) rfl ?_
    refine r1.ld (c := cInt .i64) (i := 3) (x := x3) rfl ?_
    refine Read_ok a1 fun l H3 o3 m3 f3 => ?_
    have r3 := r1.ext m3
    refine r3.ld (c := cStr) (i := 1) (x := x1) rfl ?_
    refine r3.ld (c := cInt .i64) (i := 3) (x := x3) rfl ?_
    refine RRead_ok (a2.keep fun b hb hbl => m3.same b hbl id) (by omega) fun l4 H4 o4 m4 f4 => ?_
    have o34 : SlE EB ty_uint8 H4 l (s.read x1 x3).1 := o3.ext m4
    refine br_t (by simp) ?_
    refine strB_eq (SlB_byts o34) ?_
    refine strB_eq o4 ?_
    have hbn := o34.n (by decide)
    have hrl : (s.read x1 x3).1.length ≤ 512 := by
      unfold Dk.read
      split
      · split
        · simp
        · split
          · rename_i pg _; rw [pg.2]; exact Nat.le_refl _
          · simp
      · simp
    refine spoil_ok (SlB_to o34) (by show l.n < _; omega) rfl fun H5 m5 => ?_
    rw [beq_self_eq_true]
    have z3 := m3.size; have z4 := m4.size
    have same : ∀ b, b < H1.size → H5[b]? = H1[b]? := fun b hb => (m5.same b (by omega) fun hh => by have := f3 b hh; omega).trans ((m4.same b (by omega) id).trans (m3.same b hb id))
    refine hK G H5 ⟨F1, F2, a1.keep fun b _ hbl => same b hbl, a2.keep fun b _ hbl => same b hbl, dj, hG⟩ (Step.pre m1 ⟨⟨by have := m5.size; omega, fun b hb _ => same b hb⟩, fun b hb => .inl hb⟩)
  have n2 : r ≠ 2 := by simpa using hr2
  -- Len
  refine br_mk (fun hr => ?_) (fun hr3 => ?_)
  · have e : r = 3 := by simpa using hr
    have ep : s.play r x1 x2 x3 x4 x5 x6 = s := by unfold Dk.play; rw [if_neg n0, if_neg n1, if_neg n2, if_pos e]
    rw [ep] at hK
    have h1' := h1
    obtain ⟨F1, F2, a1, a2, dj, hG⟩ := h1
    refine r1.ld (c := cStr) (i := 1) (x := x1) rfl ?_
    refine Len_ok a1 ?_
    refine r1.ld (c := cStr) (i := 1) (x := x1) rfl ?_
    refine RLen_ok a2 (by omega) fun H3 m3 => ?_
    rw [beq_self_eq_true, beq_self_eq_true]
    exact hK G H3 (h1'.keep fun b hb hbl => m3.same b hbl id) (Step.pre m1 ⟨Ext.mod m3, fun b hb => .inl hb⟩)
  have n3 : r ≠ 3 := by simpa using hr3
  -- Sync
  refine br_mk (fun hr => ?_) (fun hr4 => ?_)
  · have e : r = 4 := by simpa using hr
    have ep : s.play r x1 x2 x3 x4 x5 x6 = (s.sync x1).1 := by unfold Dk.play; rw [if_neg n0, if_neg n1, if_neg n2, if_neg n3, if_pos e]
    rw [ep] at hK
    obtain ⟨F1, F2, a1, a2, g1, g2, go⟩ := both_step (s.sync x1).1 h1
    refine ⟨fun A => RowT A p ty_fathomlaw01_Step #[(.int .i64 x), (.string x1), (.string x2), (.int .i64 x3), (.int .u8 x4), (.bool x5), (.int .u64 x6)], r1, ?_⟩
    refine r1.ld (c := cStr) (i := 1) (x := x1) rfl ?_
    refine Sync_ok a1 fun F1' H3 b1 t1 => ⟨rowK g1 t1.mod, ⟨x1, cell1, ?_⟩⟩
    obtain ⟨a2', go2⟩ := go F1' H3 b1 t1
    refine RSync_ok a2' (by omega) fun F2' H4 b2 t2 => ?_
    obtain ⟨G', c1, c2⟩ := go2 F2' H4 b2 t2
    rw [beq_self_eq_true]
    exact hK G' H4 c1 (Step.pre m1 c2)
  have n4 : r ≠ 4 := by simpa using hr4
  -- Rename
  refine br_mk (fun hr => ?_) (fun hr5 => ?_)
  · have e : r = 5 := by simpa using hr
    have ep : s.play r x1 x2 x3 x4 x5 x6 = (s.rename x1 x2).1 := by unfold Dk.play; rw [if_neg n0, if_neg n1, if_neg n2, if_neg n3, if_neg n4, if_pos e]
    rw [ep] at hK
    obtain ⟨F1, F2, a1, a2, g1, g2, go⟩ := both_step (s.rename x1 x2).1 h1
    refine ⟨fun A => RowT A p ty_fathomlaw01_Step #[(.int .i64 x), (.string x1), (.string x2), (.int .i64 x3), (.int .u8 x4), (.bool x5), (.int .u64 x6)], r1, ?_⟩
    refine r1.ld (c := cStr) (i := 1) (x := x1) rfl ?_
    refine ⟨x2, cell2, ?_⟩
    refine Rename_ok a1 fun F1' H3 b1 t1 => ⟨rowK g1 t1.mod, ⟨x1, cell1, ⟨x2, cell2, ?_⟩⟩⟩
    obtain ⟨a2', go2⟩ := go F1' H3 b1 t1
    refine RRename_ok a2' fun F2' H4 b2 t2 => ?_
    obtain ⟨G', c1, c2⟩ := go2 F2' H4 b2 t2
    rw [beq_self_eq_true]
    exact hK G' H4 c1 (Step.pre m1 c2)
  have n5 : r ≠ 5 := by simpa using hr5
  -- Remove
  refine br_mk (fun hr => ?_) (fun hr6 => ?_)
  · have e : r = 6 := by simpa using hr
    have ep : s.play r x1 x2 x3 x4 x5 x6 = (s.remove x1).1 := by unfold Dk.play; rw [if_neg n0, if_neg n1, if_neg n2, if_neg n3, if_neg n4, if_neg n5, if_pos e]
    rw [ep] at hK
    obtain ⟨F1, F2, a1, a2, g1, g2, go⟩ := both_step (s.remove x1).1 h1
    refine ⟨fun A => RowT A p ty_fathomlaw01_Step #[(.int .i64 x), (.string x1), (.string x2), (.int .i64 x3), (.int .u8 x4), (.bool x5), (.int .u64 x6)], r1, ?_⟩
    refine r1.ld (c := cStr) (i := 1) (x := x1) rfl ?_
    refine Remove_ok a1 fun F1' H3 b1 t1 => ⟨rowK g1 t1.mod, ⟨x1, cell1, ?_⟩⟩
    obtain ⟨a2', go2⟩ := go F1' H3 b1 t1
    refine RRemove_ok a2' fun F2' H4 b2 t2 => ?_
    obtain ⟨G', c1, c2⟩ := go2 F2' H4 b2 t2
    rw [beq_self_eq_true]
    exact hK G' H4 c1 (Step.pre m1 c2)
  have n6 : r ≠ 6 := by simpa using hr6
  -- Crash, Restart
  refine br_mk (fun hr => ?_) (fun hr7 => ?_)
  · have e : r = 7 := by simpa using hr
    have ep : s.play r x1 x2 x3 x4 x5 x6 = s.setCrash x3 x6 := by unfold Dk.play; rw [if_neg n0, if_neg n1, if_neg n2, if_neg n3, if_neg n4, if_neg n5, if_neg n6, if_pos e]
    rw [ep] at hK
    obtain ⟨F1, F2, a1, a2, g1, g2, go⟩ := both_step (s.setCrash x3 x6) h1
    refine r1.ld (c := cInt .i64) (i := 3) (x := x3) rfl ?_
    refine r1.ld (c := cInt .u64) (i := 6) (x := x6) rfl ?_
    refine Crash_ok a1 h3 fun F1' H3 b1 t1 => ?_
    obtain ⟨a2', go2⟩ := go F1' H3 b1 t1
    have r3 := rowK g1 t1.mod
    refine r3.ld (c := cInt .i64) (i := 3) (x := x3) rfl ?_
    refine r3.ld (c := cInt .u64) (i := 6) (x := x6) rfl ?_
    refine RCrash_ok a2' h3 fun F2' H4 b2 t2 => ?_
    obtain ⟨G', c1, c2⟩ := go2 F2' H4 b2 t2
    exact hK G' H4 c1 (Step.pre m1 c2)
  · have n7 : r ≠ 7 := by simpa using hr7
    have ep : s.play r x1 x2 x3 x4 x5 x6 = s.restart := by unfold Dk.play; rw [if_neg n0, if_neg n1, if_neg n2, if_neg n3, if_neg n4, if_neg n5, if_neg n6, if_neg n7]
    rw [ep] at hK
    obtain ⟨F1, F2, a1, a2, g1, g2, go⟩ := both_step s.restart h1
    refine Restart_ok a1 (by omega) fun F1' H3 b1 t1 => ?_
    obtain ⟨a2', go2⟩ := go F1' H3 b1 t1
    refine RRestart_ok a2' (by omega) fun F2' H4 b2 t2 => ?_
    obtain ⟨G', c1, c2⟩ := go2 F2' H4 b2 t2
    exact hK G' H4 c1 (Step.pre m1 c2)

theorem tells_ok {G : Nat → Prop} {d m : Nat} {s : Dk} {H : Heap} {K : Bool → Heap → Prop} (h : Both G H d m s) (hl : s.logs < 34359738368) (hK : ∀ H', Mod (fun _ => False) H H' → K true H') : fathomlaw01_tells.sp (at0 d) (at0 m) H K := by
  refine fathomlaw01_tells.of ?_
  unfold fathomlaw01_tells.vc
  simp only [optK_eq]
  obtain ⟨F1, F2, a1, a2, dj, hG⟩ := h
  have a2' := a2
  obtain ⟨fl, gs, cin, kp, g, hF2⟩ := a2'
  have hll : s.list.length ≤ 4096 := by
    unfold Dk.list
    split
    · simp
    · rw [(List.mergeSort_perm _ _).length_eq]; simp; exact g.wf.files
  refine List_ok a1 fun l H1 o1 m1 f1 => ?_
  refine ⟨fun A => RowT A m ty_fathomref01_Disk (headR fl s.most s.quota s.ops s.next s.crash.isSome cin kp s.down), g.head.ext m1, ?_⟩
  refine RList_ok (a2.keep fun b hb hbl => m1.same b hbl id) fun l2 H2 o2 m2 f2 => ⟨(g.head.ext m1).ext m2, ?_⟩
  refine SameTexts_ok (o1.ext m2) o2 (by omega) ⟨(g.head.ext m1).ext m2, br_t rfl ?_⟩
  have m02 : Mod (fun _ => False) H H2 := m1.trans m2
  have b1 : DiskAt F1 H2 d s := a1.keep fun b hb hbl => m02.same b hbl id
  have b2 : RefAt F2 H2 m s := a2.keep fun b hb hbl => m02.same b hbl id
  refine Used_ok b1 ⟨g.head.ext m02, ?_⟩
  refine RUsed_ok b2 (by omega) fun H3 m3 => ?_
  have c1 : DiskAt F1 H3 d s := b1.keep fun b hb hbl => m3.same b hbl id
  have m03 : Mod (fun _ => False) H H3 := m02.trans m3
  have gh := g.head.ext m03
  refine ⟨gh, br_t (by simp) ?_⟩
  refine Most_ok c1 ⟨gh, ⟨(s.most : Int), fun A hA => by rw [add_lit0]; exact hA.cell rfl, br_t (by simp) ?_⟩⟩
  refine Quota_ok c1 ⟨gh, ⟨(s.quota : Int), fun A hA => by rw [add_lit0]; exact hA.cell rfl, br_t (by simp) ?_⟩⟩
  refine Ops_ok c1 ⟨gh, ⟨s.ops, fun A hA => by rw [add_lit0]; exact hA.cell rfl, br_t (by simp) ?_⟩⟩
  refine Down_ok c1 ⟨gh, ⟨s.down, fun A hA => by rw [add_lit0]; exact hA.cell rfl, ?_⟩⟩
  have o3 : SlE EN ty_string H3 l s.list := (o1.ext m2).ext m3
  have hn := o3.n (by decide)
  refine spoil_ok (e := ty_string) o3 (by omega) rfl fun H4 m4 => ?_
  rw [beq_self_eq_true]
  exact hK H4 ⟨by have := m03.size; have := m4.size; omega, fun b hb _ => (m4.same b (by have := m03.size; omega) fun hh => by have := f1 b hh; omega).trans (m03.same b hb id)⟩

end Go.Proofs.YtnmaojkkfbajcaaGreat
