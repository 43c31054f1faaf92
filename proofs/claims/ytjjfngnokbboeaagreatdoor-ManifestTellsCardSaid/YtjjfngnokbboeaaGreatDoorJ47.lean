/-
  ManifestTells: for every input the law returns true, and its arguments read as before; the laid variables are laid as the program's text lays them. No condition beside that.
-/
import Derived.Carry
import Derived.Test.YtjjfngnokbboeaaGreatDoorJ38
import Derived.Test.YtjjfngnokbboeaaGreatDoorJ43
import Derived.Test.YtjjfngnokbboeaaGreatDoorJ45
import Derived.Test.YtjjfngnokbboeaaGreatDoorJ46
/-
  Both disks at once: a call of each; what they tell.
-/
namespace Go.Proofs.YtjjfngnokbboeaaGreatDoor
open Go.MapKept

theorem Pick_ok {i n : Int} {H : Heap} {K : Int → Heap → Prop} (h2 : n ≤ 9223372036854775807)
    (hK : K (if n < 1 then 0 else i.emod n) H) : fathomkit_Pick.sp i n H K := by
  refine fathomkit_Pick.of ?_
  unfold fathomkit_Pick.vc
  refine br_mk (fun h => ?_) (fun h => ?_)
  · have : n < 1 := by simpa using h
    simpa [this] using hK
  · have hn : 1 ≤ n := by simpa using h
    refine ⟨by omega, ?_⟩
    rw [if_neg (by omega)] at hK
    refine br_mk (fun h => ?_) (fun h => ?_)
    · have hneg : i.tmod n < 0 := by simpa using h
      have e : i.emod n = i.tmod n + n := by
        rw [Int.tmod_eq_emod] at hneg ⊢
        split at hneg
        · have := Int.emod_nonneg i (show n ≠ 0 by omega)
          omega
        · rename_i h3
          rw [if_neg h3]
          have : (n.natAbs : Int) = n := by omega
          have e2 : i % n = i.emod n := rfl
          omega
      have hb1 : -n < i.tmod n := by
        rw [Int.tmod_eq_emod]
        have := Int.emod_nonneg i (show n ≠ 0 by omega)
        split <;> omega
      rw [wrap64 (by omega) (by omega), ← e]
      exact hK
    · have hpos : 0 ≤ i.tmod n := by simpa using h
      have e : i.emod n = i.tmod n := by
        rw [Int.tmod_eq_emod] at hpos ⊢
        split
        · simp; rfl
        · rename_i h3
          rw [if_neg h3] at hpos
          have := Int.emod_lt_of_pos i (show 0 < n by omega)
          have : (n.natAbs : Int) = n := by omega
          omega
      rw [← e]; exact hK

theorem SameTexts_ok {a b : Sl} {L : List (List UInt8)} {H : Heap} {K : Bool → Heap → Prop} (ha : SlE EN ty_string H a L) (hb : SlE EN ty_string H b L) (hl : L.length < 4611686018427387904) (hK : K true H) : fathomkit_SameTexts.sp a b H K := by
  refine fathomkit_SameTexts.of ?_
  unfold fathomkit_SameTexts.vc
  have an := ha.n (by decide)
  have bn := hb.n (by decide)
  refine br_f (by simp; omega) ?_
  refine loop_upto L.length (fun k i H1 => i = (k : Int) ∧ H1 = H) ⟨rfl, rfl⟩ ?_
  rintro k _ H1 next hk ⟨rfl, rfl⟩ hnext
  refine br_mk (fun hc => ?_) (fun _ => hK)
  have hlt : k < L.length := by rw [an] at hc; simpa using hc
  refine text_ld ha hlt ?_
  refine text_ld hb hlt ?_
  refine br_f (by simp) (hnext hlt _ _ ⟨succ64 k (by omega), rfl⟩)

/-- Both disks, in the blocks 'G'. -/
def Both (G : Nat → Prop) (H : Heap) (d m : Nat) (s : Dk) : Prop := ∃ F1 F2, DiskAt F1 H d s ∧ RefAt F2 H m s ∧ (∀ b, F1 b → ¬ F2 b) ∧ ∀ b, G b ↔ F1 b ∨ F2 b

theorem Both.lt {G : Nat → Prop} {H : Heap} {d m : Nat} {s : Dk} (h : Both G H d m s) : ∀ b, G b → b < H.size := by
  obtain ⟨F1, F2, h1, h2, _, hG⟩ := h
  intro b hb
  rcases (hG b).1 hb with q | q
  · exact h1.lt b q
  · exact h2.lt b q
theorem Both.keep {G : Nat → Prop} {H H' : Heap} {d m : Nat} {s : Dk} (h : Both G H d m s) (k : ∀ b, G b → b < H.size → H'[b]? = H[b]?) : Both G H' d m s := by
  obtain ⟨F1, F2, h1, h2, h3, hG⟩ := h
  exact ⟨F1, F2, h1.keep fun b hb => k b ((hG b).2 (.inl hb)), h2.keep fun b hb => k b ((hG b).2 (.inr hb)), h3, hG⟩
theorem Both.wf {G : Nat → Prop} {H : Heap} {d m : Nat} {s : Dk} (h : Both G H d m s) : s.WF := by
  obtain ⟨F1, F2, h1, _⟩ := h; exact h1.wf

/-- One call of each. -/
theorem both_step {G : Nat → Prop} {H : Heap} {d m : Nat} {s : Dk} (s' : Dk) (h : Both G H d m s) : ∃ F1 F2, DiskAt F1 H d s ∧ RefAt F2 H m s ∧ (∀ b, F1 b → G b) ∧ (∀ b, F2 b → G b) ∧ (∀ F1' H1, DiskAt F1' H1 d s' → Step F1 F1' H H1 → RefAt F2 H1 m s ∧
    (∀ F2' H2, RefAt F2' H2 m s' → Step F2 F2' H1 H2 → ∃ G', Both G' H2 d m s' ∧ Step G G' H H2)) := by
  obtain ⟨F1, F2, h1, h2, h3, hG⟩ := h
  refine ⟨F1, F2, h1, h2, fun b hb => (hG b).2 (.inl hb), fun b hb => (hG b).2 (.inr hb), fun F1' H1 a1 t1 => ⟨h2.keep fun b hb hl => t1.mod.same b hl fun h => h3 b h hb, fun F2' H2 a2 t2 => ?_⟩⟩
  have l2 := h2.lt
  have l1' := a1.lt
  have dj : ∀ b, F1' b → ¬ F2 b := fun b hb hf => by
    rcases t1.own b hb with q | q
    · exact h3 b q hf
    · have := l2 b hf; omega
  refine ⟨fun b => F1' b ∨ F2' b, ⟨F1', F2', a1.keep fun b hb hl => t2.mod.same b hl (dj b hb), a2, fun b hb hf => ?_, fun _ => Iff.rfl⟩, ?_, ?_⟩
  · rcases t2.own b hf with q | q
    · exact dj b hb q
    · have := l1' b hb; omega
  · have z := t1.mod.size
    exact (t1.mod.mono fun b _ e => (hG b).2 (.inl e)).trans (t2.mod.mono fun b _ e => (hG b).2 (.inr e))
  · have z := t1.mod.size
    rintro b (q | q)
    · exact (t1.own b q).imp (fun q => (hG b).2 (.inl q)) id
    · exact (t2.own b q).imp (fun q => (hG b).2 (.inr q)) (fun q => by omega)

/-! ### How many writes are unsynced -/

def Dk.play (s : Dk) (r : Int) (x1 x2 : ByteArray) (x3 x4 : Int) (x5 : Bool) (x6 : Int) : Dk :=
  if r = 0 then (s.create x1).1 else if r = 1 then (s.write x1 x3 (fillB x4 x5)).1 else if r = 2 then s else if r = 3 then s else if r = 4 then (s.sync x1).1 else if r = 5 then (s.rename x1 x2).1
  else if r = 6 then (s.remove x1).1 else if r = 7 then s.setCrash x3 x6 else s.restart
theorem Dk.play_logs (s : Dk) (r : Int) (x1 x2 : ByteArray) (x3 x4 : Int) (x5 : Bool) (x6 : Int) : (s.play r x1 x2 x3 x4 x5 x6).logs ≤ s.logs + 1 := by
  unfold Dk.play
  repeat' split
  · have := s.create_logs x1; omega
  · exact s.write_logs _ _ _
  · omega
  · omega
  · have := s.sync_logs x1; omega
  · have := s.rename_logs x1 x2; omega
  · have := s.remove_logs x1; omega
  · have := s.setCrash_logs x3 x6; omega
  · have := s.restart_logs; omega

theorem Step.pre {G G' : Nat → Prop} {A B C : Heap} (h : Mod (fun _ => False) A B) (k : Step G G' B C) : Step G G' A C := (⟨Ext.mod h, fun _ q => .inl q⟩ : Step G G A B).trans k

end Go.Proofs.YtjjfngnokbboeaaGreatDoor

/-
  ManifestTells: both disks, one call of each; do they hold the same?
-/
namespace Go.Proofs.YtjjfngnokbboeaaGreatDoor
open Go.MapKept

/-- A page out of bytes: cut, or with noughts behind. -/
def pageOf (b : List UInt8) : List UInt8 := b.take 512 ++ List.replicate (512 - b.length) 0
theorem doT_copyMin {P : Program} {dT sT ty elem t : TypeId} {H : Heap} {b o dl dc : Nat} {x : Sl} {cur : Array Value} {cs : List Value} {K : Int → Heap → Prop} (hu : P.underlying dT = some (.slice elem)) (hs : (P.info? elem).map (·.size) = some 1)
    (h : RowT H b t cur) (hx : Reads H x.a cs) (hn : cs.length = Nat.min x.n dl) (hfit : o + cs.length ≤ cur.size) (h1 : ∀ v ∈ cs, v.oneCell' = true)
    (hK : ∀ H', RowT H' b t (cur.toList.take o ++ cs ++ cur.toList.drop (o + cs.length)).toArray → Mod (fun k => k = b) H H' → H'.size = H.size → K (cs.length : Int) H') :
    doT (cInt .i64) P (Builtin.copy_ #[dT, sT] ty #[.slice (some ⟨b, o, none⟩) dl dc, x.v]) H K := by
  intro w hw
  subst hw
  obtain ⟨xa, xn, xc⟩ := x
  simp only [Sl.v] at *
  by_cases hz : cs = []
  · subst hz
    have hr := run_copy_none (P := P) w dT sT ty elem (some ⟨b, o, none⟩) xa dl dc xn xc hu hs hn.symm
    refine ⟨_, w, hr, ⟨0, rfl, ?_⟩, .refl w⟩
    refine hK w.heap ?_ (.refl _ _) rfl
    have e : (cur.toList.take o ++ [] ++ cur.toList.drop (o + ([] : List Value).length)).toArray = cur := by simp
    rw [e]; exact h
  · have hpos : 0 < cs.length := List.length_pos_iff.2 hz
    obtain ⟨ad, rfl, _⟩ := hx.at hpos
    have hsrc : ∀ j v, cs[j]? = some v → w.cell? (ad.add j) = some v := fun j v hv => by
      obtain ⟨ad', e, hc⟩ := hx j v hv
      cases e; exact hc
    have hr := run_copy_row (P := P) w dT sT ty elem b o dl dc ad xn xc cur t cs hu hs h hn hsrc hfit h1
    refine ⟨_, _, hr, ⟨(cs.length : Int), rfl, hK _ (setRow_heap w b cur _ t _ h) ⟨by simp [World.setRow], fun k _ hk => setRow_other w b k _ hk⟩ (by simp [World.setRow])⟩, (.of_le rfl (Nat.le_refl _))⟩
theorem makePage {H : Heap} {K : Sl → Heap → Prop} (hK : ∀ H', H'.size = H.size + 1 → RowT H' H.size ty_uint8 (pgV (List.replicate 512 0)).toArray → Ext H H' → K ⟨some ⟨H.size, 0, none⟩, 512, 512⟩ H') :
    doT cSl Tryz.prog (Instr.makeSlice ty_sl_uint8 (.int .i64 (512 : Int)) (.int .i64 (512 : Int))) H K := by
  obtain ⟨inf, h1, h2, h3, h4, h5, h6⟩ := elByte1
  refine doT_make h1 h2 h3 (by decide) (by decide) (by rw [h6]; decide) (by decide) ?_
  refine hK _ (by simp) ?_ (Mod.push _ _ _)
  have e : (madeCells (Value.int .u8 0).cells ((512 : Int).toNat * inf.size)) = (pgV (List.replicate 512 0)).toArray := by
    apply Array.toList_inj.1
    rw [madeCells_one _ h4, h5, pgV_rep]
    exact (List.toList_toArray).symm
  rw [e]
  exact Array.getElem?_push_size
theorem copyPage {H : Heap} {q : Nat} {x : Sl} {b : List UInt8} {K : Int → Heap → Prop} (h : RowT H q ty_uint8 (pgV (List.replicate 512 0)).toArray) (hb : Byts H x b)
    (hK : ∀ k H', RowT H' q ty_uint8 (pgV (pageOf b)).toArray → Mod (fun k => k = q) H H' → H'.size = H.size → K k H') :
    doT (cInt .i64) Tryz.prog (Builtin.copy_ #[ty_sl_uint8, ty_sl_uint8] ty_int #[(Sl.mk (some ⟨q, 0, none⟩) 512 512).v, x.v]) H K := by
  have hx : Reads H x.a (pgV (b.take 512)) := by
    have := hb.cells.take 512
    have e : (pgV b).take 512 = pgV (b.take 512) := by simp [pgV]
    rw [e] at this; exact this
  refine doT_copyMin (t := ty_uint8) elByteI szByte h hx (by rw [pgV, List.length_map, List.length_take, hb.n]; exact Nat.min_comm _ _) (by rw [List.size_toArray, pgV, pgV, List.length_map, List.length_map, List.length_take, List.length_replicate]; omega) (fun v hv => by obtain ⟨y, _, rfl⟩ := List.mem_map.1 hv; rfl) fun H' r m s => hK _ H' ?_ m s
  have e : (((pgV (List.replicate 512 0)).toArray.toList.take 0 ++ pgV (b.take 512) ++ (pgV (List.replicate 512 0)).toArray.toList.drop (0 + (pgV (b.take 512)).length)).toArray) = (pgV (pageOf b)).toArray := by
    congr 1
    unfold pageOf
    rw [List.take_zero, List.nil_append]
    simp only [pgV, List.map_append, List.map_replicate, List.drop_replicate, List.length_map, List.length_take, Nat.zero_add]
    congr 2
    omega
  rw [e] at r; exact r
theorem pageOf_length (b : List UInt8) : (pageOf b).length = 512 := by unfold pageOf; rw [List.length_append, List.length_take, List.length_replicate]; omega
theorem rowP {H : Heap} {q : Nat} {b : List UInt8} (h : RowT H q ty_uint8 (pgV (pageOf b)).toArray) : Byts H (Sl.mk (some ⟨q, 0, none⟩) 512 512) (pageOf b) := by
  have := RowB.byts (o := 0) (n := 512) (c := 512) (l := pageOf b) h (by rw [pageOf_length]; omega)
  have e : ((pageOf b).drop 0).take 512 = pageOf b := List.take_of_length_le (by rw [List.drop_zero, pageOf_length]; omega)
  rw [e] at this; exact this
def Dk.disks (s : Dk) (r : Int) (n : ByteArray) (N keep : Int) (b : List UInt8) : Dk :=
  if r = 4 then (s.create n).1 else if r = 5 then (s.write n N (pageOf b)).1 else if r = 6 then (s.sync n).1 else if r = 7 then (s.remove n).1 else if r = 8 then s.setCrash N keep else s.restart
theorem Dk.disks_logs (s : Dk) (r : Int) (n : ByteArray) (N keep : Int) (b : List UInt8) : (s.disks r n N keep b).logs ≤ s.logs + 1 := by
  unfold Dk.disks
  repeat' split
  · have := s.create_logs n; omega
  · exact s.write_logs _ _ _
  · have := s.sync_logs n; omega
  · have := s.remove_logs n; omega
  · have := s.setCrash_logs N keep; omega
  · have := s.restart_logs; omega

set_option maxHeartbeats 1000000 in
theorem disks_ok {G : Nat → Prop} {d m : Nat} {s : Dk} {x : Int} {n : ByteArray} {N keep : Int} {xb : Sl} {b : List UInt8} {o nx : Int} {it tt : ByteArray} {rs : Sl} {H : Heap} {K : Bool → Heap → Prop} (h : Both G H d m s) (hl : s.logs < 34359738368) (hb : Byts H xb b) (hN : N ≤ 9223372036854775807)
    (hK : ∀ G' H', Both G' H' d m (s.disks (x.emod 10) n N keep b) → Step G G' H H' → K true H') : fathomlaw28_disks.sp (at0 d) (at0 m) x n N keep xb o nx it tt rs H K := by
  refine fathomlaw28_disks.of ?_
  unfold fathomlaw28_disks.vc
  refine newC_rowT fun H1 z1 r1 m1 => ?_
  have hlt := h.lt
  refine makePage fun H2 z2 r2 m2 => ?_
  have hp : H.size < H1.size := by omega
  have r12 := r1.ext m2
  refine r12.ld (c := cSl) (i := 4) (x := xb) rfl ?_
  have hb2 : Byts H2 xb b := hb.keep fun ad _ hl => (Mod.trans m1 m2 : Ext H H2).same _ hl id
  refine copyPage r2 hb2 fun _ H3 r3 m3 z3 => ?_
  have e03 : Ext H H3 := ((Ext.mod (F := fun b => b = H1.size) (Mod.trans m1 m2)).trans m3).ext fun b hb => by omega
  have row := r12.mod m3 (by omega)
  have hB : Both G H3 d m s := h.keep fun b hb hbl => e03.same b hbl id
  have bP := rowP r3
  generalize hq : H.size = p at *
  generalize hq1 : H1.size = p1 at *
  have hpG : ¬ G p := fun hb => by have := hlt p hb; omega
  have hpG1 : ¬ G p1 := fun hb => by have := hlt p1 hb; omega
  refine row.ld (c := cInt .i64) (i := 0) (x := x) rfl ?_
  refine Pick_ok (by decide) ?_
  rw [if_neg (by decide)]
  generalize x.emod 10 = r at *
  have rowK : ∀ {F : Nat → Prop} {A : Heap}, (∀ b, F b → G b) → Mod F H3 A → RowT A p ty_fathomlaw28_Op #[.int .i64 x, .string n, .int .i64 N, .int .u64 keep, xb.v, .int .u8 o, .int .i64 nx, .string it, .string tt, rs.v] := fun hs hm => row.mod hm fun hb => hpG (hs _ hb)
  have cell1 : ∀ A, RowT A p ty_fathomlaw28_Op #[.int .i64 x, .string n, .int .i64 N, .int .u64 keep, xb.v, .int .u8 o, .int .i64 nx, .string it, .string tt, rs.v] → hCell A (Addr.add ⟨p, 0, none⟩ 1) = some (.string n) := fun A hA => by rw [add_lit0]; exact hA.cell rfl
  have cell2 : ∀ A, RowT A p ty_fathomlaw28_Op #[.int .i64 x, .string n, .int .i64 N, .int .u64 keep, xb.v, .int .u8 o, .int .i64 nx, .string it, .string tt, rs.v] → hCell A (Addr.add ⟨p, 0, none⟩ 2) = some (.int .i64 N) := fun A hA => by rw [add_lit0]; exact hA.cell rfl
  have fin : ∀ G' H', Both G' H' d m (s.disks r n N keep b) → Step G G' H3 H' → K true H' := fun G' H' q1 q2 => hK G' H' q1 (Step.pre e03 q2)
  clear hK
  refine br_mk (fun hr => ?_) (fun hr4 => ?_)
  · have e : r = 4 := by simpa using hr
    have ep : s.disks r n N keep b = (s.create n).1 := by unfold Dk.disks; rw [if_pos e]
    rw [ep] at fin
    obtain ⟨F1, F2, a1, a2, g1, g2, go⟩ := both_step (s.create n).1 hB
    refine ⟨fun A => RowT A p ty_fathomlaw28_Op _, row, ?_⟩
    refine row.ld (c := cStr) (i := 1) (x := n) rfl ?_
    refine Create_ok a1 fun F1' H4 b1 t1 => ⟨rowK g1 t1.mod, ⟨n, cell1, ?_⟩⟩
    obtain ⟨a2', go2⟩ := go F1' H4 b1 t1
    refine RCreate_ok a2' fun F2' H5 b2 t2 => ?_
    obtain ⟨G', c1, c2⟩ := go2 F2' H5 b2 t2
    rw [beq_self_eq_true]
    exact fin G' H5 c1 c2
  have n4 : r ≠ 4 := by simpa using hr4
  refine br_mk (fun hr => ?_) (fun hr5 => ?_)
  · have e : r = 5 := by simpa using hr
    have ep : s.disks r n N keep b = (s.write n N (pageOf b)).1 := by unfold Dk.disks; rw [if_neg n4, if_pos e]
    rw [ep] at fin
    obtain ⟨F1, F2, a1, a2, g1, g2, go⟩ := both_step (s.write n N (pageOf b)).1 hB
    refine ⟨fun A => RowT A p ty_fathomlaw28_Op _, row, ?_⟩
    refine row.ld (c := cStr) (i := 1) (x := n) rfl ?_
    refine ⟨N, cell2, ?_⟩
    refine Write_ok a1 bP (fun ad ha hb => by cases ha; exact hpG1 (g1 _ hb)) (by omega) fun F1' H4 b1 t1 => ⟨rowK g1 t1.mod, ⟨n, cell1, N, cell2, ?_⟩⟩
    obtain ⟨a2', go2⟩ := go F1' H4 b1 t1
    have bP4 : Byts H4 _ (pageOf b) := bP.keep fun ad ha hl => t1.mod.same _ hl fun hb => by cases ha; exact hpG1 (g1 _ hb)
    refine RWrite_ok a2' bP4 (fun ad ha hb => by cases ha; exact hpG1 (g2 _ hb)) (by omega) fun F2' H5 b2 t2 => ?_
    obtain ⟨G', c1, c2⟩ := go2 F2' H5 b2 t2
    rw [beq_self_eq_true]
    exact fin G' H5 c1 c2
  have n5 : r ≠ 5 := by simpa using hr5
  refine br_mk (fun hr => ?_) (fun hr6 => ?_)
  · have e : r = 6 := by simpa using hr
    have ep : s.disks r n N keep b = (s.sync n).1 := by unfold Dk.disks; rw [if_neg n4, if_neg n5, if_pos e]
    rw [ep] at fin
    obtain ⟨F1, F2, a1, a2, g1, g2, go⟩ := both_step (s.sync n).1 hB
    refine ⟨fun A => RowT A p ty_fathomlaw28_Op _, row, ?_⟩
    refine row.ld (c := cStr) (i := 1) (x := n) rfl ?_
    refine Sync_ok a1 fun F1' H4 b1 t1 => ⟨rowK g1 t1.mod, ⟨n, cell1, ?_⟩⟩
    obtain ⟨a2', go2⟩ := go F1' H4 b1 t1
    refine RSync_ok a2' (by omega) fun F2' H5 b2 t2 => ?_
    obtain ⟨G', c1, c2⟩ := go2 F2' H5 b2 t2
    rw [beq_self_eq_true]
    exact fin G' H5 c1 c2
  have n6 : r ≠ 6 := by simpa using hr6
  refine br_mk (fun hr => ?_) (fun hr7 => ?_)
  · have e : r = 7 := by simpa using hr
    have ep : s.disks r n N keep b = (s.remove n).1 := by unfold Dk.disks; rw [if_neg n4, if_neg n5, if_neg n6, if_pos e]
    rw [ep] at fin
    obtain ⟨F1, F2, a1, a2, g1, g2, go⟩ := both_step (s.remove n).1 hB
    refine ⟨fun A => RowT A p ty_fathomlaw28_Op _, row, ?_⟩
    refine row.ld (c := cStr) (i := 1) (x := n) rfl ?_
    refine Remove_ok a1 fun F1' H4 b1 t1 => ⟨rowK g1 t1.mod, ⟨n, cell1, ?_⟩⟩
    obtain ⟨a2', go2⟩ := go F1' H4 b1 t1
    refine RRemove_ok a2' fun F2' H5 b2 t2 => ?_
    obtain ⟨G', c1, c2⟩ := go2 F2' H5 b2 t2
    rw [beq_self_eq_true]
    exact fin G' H5 c1 c2
  have n7 : r ≠ 7 := by simpa using hr7
  refine br_mk (fun hr => ?_) (fun hr8 => ?_)
  · have e : r = 8 := by simpa using hr
    have ep : s.disks r n N keep b = s.setCrash N keep := by unfold Dk.disks; rw [if_neg n4, if_neg n5, if_neg n6, if_neg n7, if_pos e]
    rw [ep] at fin
    obtain ⟨F1, F2, a1, a2, g1, g2, go⟩ := both_step (s.setCrash N keep) hB
    refine row.ld (c := cInt .i64) (i := 2) (x := N) rfl ?_
    refine row.ld (c := cInt .u64) (i := 3) (x := keep) rfl ?_
    refine Crash_ok a1 hN fun F1' H4 b1 t1 => ?_
    obtain ⟨a2', go2⟩ := go F1' H4 b1 t1
    have r4 := rowK g1 t1.mod
    refine r4.ld (c := cInt .i64) (i := 2) (x := N) rfl ?_
    refine r4.ld (c := cInt .u64) (i := 3) (x := keep) rfl ?_
    refine RCrash_ok a2' hN fun F2' H5 b2 t2 => ?_
    obtain ⟨G', c1, c2⟩ := go2 F2' H5 b2 t2
    exact fin G' H5 c1 c2
  · have n8 : r ≠ 8 := by simpa using hr8
    have ep : s.disks r n N keep b = s.restart := by unfold Dk.disks; rw [if_neg n4, if_neg n5, if_neg n6, if_neg n7, if_neg n8]
    rw [ep] at fin
    obtain ⟨F1, F2, a1, a2, g1, g2, go⟩ := both_step s.restart hB
    refine Restart_ok a1 (by omega) fun F1' H4 b1 t1 => ?_
    obtain ⟨a2', go2⟩ := go F1' H4 b1 t1
    refine RRestart_ok a2' (by omega) fun F2' H5 b2 t2 => ?_
    obtain ⟨G', c1, c2⟩ := go2 F2' H5 b2 t2
    exact fin G' H5 c1 c2
end Go.Proofs.YtjjfngnokbboeaaGreatDoor

/-
  ManifestTells: the walk.
-/
namespace Go.Proofs.YtjjfngnokbboeaaGreatDoor
open Go.MapKept

theorem Dk.len_err {s : Dk} {n : ByteArray} (h : (s.len n).2 ≠ 0) : (s.len n).1 = 0 := by
  unfold Dk.len at h ⊢
  split
  · rename_i q; rw [q] at h; simp at h
  · rfl
theorem sameDisk_ok {G : Nat → Prop} {d m : Nat} {s : Dk} {H : Heap} {K : Bool → Heap → Prop} (h : Both G H d m s) (hl : s.logs < 34359738368) (hK : ∀ H', Ext H H' → K true H') : fathomlaw28_sameDisk.sp (at0 d) (at0 m) H K := by
  have hw := h.wf
  refine fathomlaw28_sameDisk.of ?_
  unfold fathomlaw28_sameDisk.vc
  simp only [optK_eq]
  obtain ⟨F1, F2, a1, a2, dj, hG⟩ := h
  have a2' := a2
  obtain ⟨fl, gs, cin, kp, g, hF2⟩ := a2'
  have hll : s.list.length ≤ 4096 := list_le hw
  refine List_ok a1 fun l H1 o1 m1 f1 => ?_
  refine RList_ok (a2.keep fun b hb hbl => m1.same b hbl id) fun l2 H2 o2 m2 f2 => ⟨fun A => RowT A m ty_fathomref01_Disk (headR fl s.most s.quota s.ops s.next s.crash.isSome cin kp s.down), (g.head.ext m1).ext m2, ?_⟩
  have m02 : Ext H H2 := Mod.trans m1 m2
  refine SameTexts_ok (o1.ext m2) o2 (by omega) ⟨g.head.ext m02, br_f rfl ?_⟩
  have b1 : DiskAt F1 H2 d s := a1.keep fun b hb hbl => m02.same b hbl id
  have b2 : RefAt F2 H2 m s := a2.keep fun b hb hbl => m02.same b hbl id
  refine Used_ok b1 ⟨g.head.ext m02, ?_⟩
  refine RUsed_ok b2 (by omega) fun H3 m3 => ?_
  have c1 : DiskAt F1 H3 d s := b1.keep fun b hb hbl => m3.same b hbl id
  have c2 : RefAt F2 H3 m s := b2.keep fun b hb hbl => m3.same b hbl id
  have m03 : Ext H H3 := Mod.trans m02 m3
  have gh := g.head.ext m03
  refine ⟨gh, br_f (by simp) ?_⟩
  refine Ops_ok c1 ⟨gh, ⟨s.ops, fun A hA => by rw [add_lit0]; exact hA.cell rfl, br_f (by simp) ?_⟩⟩
  refine Down_ok c1 ⟨gh, ⟨s.down, fun A hA => by rw [add_lit0]; exact hA.cell rfl, br_f (by simp) ?_⟩⟩
  refine Most_ok c1 ⟨gh, ⟨(s.most : Int), fun A hA => by rw [add_lit0]; exact hA.cell rfl, br_f (by simp) ?_⟩⟩
  have o3 : SlE EN ty_string H3 l s.list := (o1.ext m2).ext m3
  have hn := o3.n (by decide)
  refine loop_upto s.list.length (fun i z A => z = (i : Int) ∧ Ext H3 A) ⟨rfl, .refl _ _⟩ ?_
  rintro i _ A next hi ⟨rfl, eA⟩ hnext
  refine br_mk (fun hc => ?_) (fun _ => hK A (Mod.trans m03 eA))
  have hlt : i < s.list.length := by have : (i : Int) < (l.n : Int) := by simpa using hc
                                     omega
  refine text_ld (o3.ext eA) hlt ?_
  refine Len_ok (c1.keep fun b _ hl => eA.same b hl id) ?_
  refine text_ld (o3.ext eA) hlt ?_
  refine RLen_ok (c2.keep fun b _ hl => eA.same b hl id) (by omega) fun A1 e1 => ?_
  refine br_f (by simp) ?_
  have eA1 : Ext H3 A1 := Mod.trans eA e1
  refine loop_upto (s.len (strB s.list[i])).1 (fun j z B => z = (j : Int) ∧ Ext H3 B) ⟨rfl, eA1⟩ ?_
  rintro j _ B next2 hj ⟨rfl, eB⟩ hnext2
  refine br_mk (fun hc2 => ?_) (fun _ => hnext hlt _ _ ⟨succ64 i (by omega), eB⟩)
  have hjl : j < (s.len (strB s.list[i])).1 := by have : (j : Int) < ((s.len (strB s.list[i])).1 : Int) := by simpa using hc2
                                                  omega
  have h0 : (s.len (strB s.list[i])).2 = 0 := by
    apply Decidable.byContradiction
    intro q
    rw [Dk.len_err q] at hjl; omega
  obtain ⟨q1, q2, q3, q4⟩ := Dk.opened hw h0
  have hp : (s.pgs (strB s.list[i]))[j]? = some ((s.pgs (strB s.list[i]))[j]'(by omega)) := List.getElem?_eq_getElem _
  have hr := q2 j _ hp
  have hpl := q3 _ (List.mem_of_getElem? hp)
  generalize (s.pgs (strB s.list[i]))[j]'(by omega) = pg at hr hpl
  refine text_ld (o3.ext eB) hlt ?_
  refine Read_ok (c1.keep fun b _ hl => eB.same b hl id) fun r B1 p1 e2 f3 => ?_
  refine text_ld ((o3.ext eB).ext e2) hlt ?_
  refine RRead_ok ((c2.keep fun b _ hl => eB.same b hl id).keep fun b _ hl => e2.same b hl id) (by omega) fun r' B2 p2 e3 f4 => ?_
  rw [hr] at p1 p2 ⊢
  refine br_f rfl ?_
  refine strB_eq (SlB_byts (p1.ext e3)) ?_
  refine strB_eq p2 ?_
  refine br_f (by simp) ?_
  exact hnext2 hjl _ _ ⟨succ64 j (by omega), Mod.trans (Mod.trans eB e2) e3⟩
theorem sweep_logs (f : Option Mf) : ∀ (l : List (List UInt8)) (s : Dk), (Dk.sweep f l s).1.logs ≤ s.logs
  | [], s => Nat.le_refl _
  | n :: l, s => by
    rw [sweep_cons]
    have h1 := s.remove_logs (baOf n)
    split
    · exact sweep_logs f l s
    · split
      · exact h1
      · have := sweep_logs f l (s.remove (baOf n)).1
        omega
theorem recover_logs (s : Dk) : s.recover.2.logs ≤ s.logs := by
  unfold Dk.recover
  have := sweep_logs s.foundM s.list s
  split
  · exact Nat.le_refl _
  · split
    · exact this
    · exact this
theorem recover_rels (s : Dk) : s.recover.1.1.rels.length ≤ 1000 ∧ ∀ x ∈ s.recover.1.1.rels, svOK x = true := by
  have no : mf0.rels.length ≤ 1000 ∧ ∀ x ∈ mf0.rels, svOK x = true := ⟨by decide, by decide⟩
  unfold Dk.recover
  split
  · exact no
  · split
    · exact no
    · show (s.foundM.getD mf0).rels.length ≤ 1000 ∧ ∀ x ∈ (s.foundM.getD mf0).rels, svOK x = true
      unfold Dk.foundM
      split
      · have := decR_ok (s.getM nmM).1
        unfold decR at this
        cases hq : decM (s.getM nmM).1 with
        | none => exact no
        | some m => rw [hq] at this; exact this
      · exact no
theorem enc_len {m : Mf} (hy : mayM m = true) (hs : m.terms.size + m.rels.length + thick m.rels ≤ 20000) : (encM m).length ≤ 24000 := by
  have h1 := rels_len hy
  have h2 : m.input.size ≤ 100 := by
    unfold mayM at hy
    simp only [Bool.and_eq_true, decide_eq_true_eq] at hy
    omega
  rw [encM_length]; omega
theorem commit_logs {s : Dk} {m : Mf} (hs : m.terms.size + m.rels.length + thick m.rels ≤ 20000) : (s.commit m).1.logs ≤ s.logs + 50 := by
  unfold Dk.commit
  split
  · exact Nat.le_add_right _ _
  · rename_i hy
    have := enc_len (by simpa using hy) hs
    have h1 := putM_logs s nmN (encM m)
    split
    · omega
    · have := (s.putM nmN (encM m)).1.rename_logs nmN nmM
      omega
theorem RowT.ldAt {c : Cod} {H : Heap} {b o n : Nat} {t : TypeId} {cs ds : Array Value} {x : c.α} {K : c.α → Prop} (h : RowT H b t cs) (hx : c.enc x = .agg ds) (hn : ds.size = n) (hd : ∀ i, i < n → cs[o + i]? = ds[i]?) (hK : K x) : Go.Proofs.YtjjfngnokbboeaaGreatDoor.ldA c n H (Addr.add ⟨b, 0, none⟩ o) K :=
  ⟨x, by rw [add_lit0, hx]; exact h.hRow hn hd, hK⟩
theorem RowT.ldAtC {c : Cod} {G : Heap → Prop} {b o n : Nat} {t : TypeId} {cs ds : Array Value} {x : c.α} {K : c.α → Prop} (h : ∀ H, G H → RowT H b t cs) (hx : c.enc x = .agg ds) (hn : ds.size = n) (hd : ∀ i, i < n → cs[o + i]? = ds[i]?) (hK : K x) : Go.Proofs.YtjjfngnokbboeaaGreatDoor.ldAC c n G (Addr.add ⟨b, 0, none⟩ o) K :=
  ⟨x, fun H' hg => by rw [add_lit0, hx]; exact (h H' hg).hRow hn hd, hK⟩

abbrev OpV := Int × ByteArray × Int × Int × Sl × Int × Int × ByteArray × ByteArray × Sl
def EOp : Enc OpV := ⟨10, fun x => [.int .i64 x.1, .string x.2.1, .int .i64 x.2.2.1, .int .u64 x.2.2.2.1, x.2.2.2.2.1.v, .int .u8 x.2.2.2.2.2.1, .int .i64 x.2.2.2.2.2.2.1, .string x.2.2.2.2.2.2.2.1, .string x.2.2.2.2.2.2.2.2.1, x.2.2.2.2.2.2.2.2.2.v], fun _ => rfl, fun x u hu => by
  simp at hu; rcases hu with rfl | rfl | rfl | rfl | rfl | rfl | rfl | rfl | rfl | rfl <;> rfl⟩
/-- A call's bytes and manifest lie in memory. -/
def OpV.fine (H : Heap) (x : OpV) : Prop := x.2.2.1 ≤ 9223372036854775807 ∧ (∃ b, Byts H x.2.2.2.2.1 b) ∧ (0 ≤ x.2.2.2.2.2.1 ∧ x.2.2.2.2.2.1 < 256) ∧ ∃ l, Rels H x.2.2.2.2.2.2.2.2.2 l
theorem zc_op : (zc Tryz.prog ty_fathomlaw28_Op).size = 10 := by kernel_rfl
theorem size_op : sizeB Tryz.prog ty_fathomlaw28_Op 10 = true := by kernel_rfl

set_option maxRecDepth 100000 in
set_option maxHeartbeats 4000000 in
theorem ManifestTells_ok {ops : Sl} {xs : List OpV} {quota : Int} {H : Heap} {R : Bool → Heap → Prop} (hx : RdE EOp H ops.a xs) (hn : ops.n = xs.length) (hf : ∀ x ∈ xs, OpV.fine H x) (hg : Gl H) (hR : ∀ H', Ext H H' → R true H') : fathomlaw28_ManifestTells.sp ops quota H R := by
  have hgl := hg.lt
  refine fathomlaw28_ManifestTells.of ?_
  unfold fathomlaw28_ManifestTells.vc
  have wk : ∀ A, Ext H A → fathomlaw28_works.sp A R := fun A e => mworks_ok (hg.mod e id) fun H' e' => hR H' (Mod.trans e e')
  refine br_mk (fun _ => wk H (.refl _ _)) (fun hle => ?_)
  have hle : xs.length ≤ 60 := by
    have : ¬ ((ops.n : Int) > 60) := by simpa using hle
    omega
  refine Pick_ok (by decide) ?_
  rw [if_neg (by decide)]
  have hq : quota.emod 200 ≤ 9223372036854775807 := by
    have := Int.emod_lt_of_pos quota (show (0 : Int) < 200 by decide)
    have e2 : quota % 200 = quota.emod 200 := rfl
    omega
  refine New_ok hq fun F1 d H3 a1 e3 f3 => ?_
  refine Pick_ok (by decide) ?_
  rw [if_neg (by decide)]
  refine RNew_ok hq fun F2 m H5 a2 e5 f5 => ?_
  have e05 : Ext H H5 := Mod.trans e3 e5
  have z3 := e3.size
  have l1 := a1.lt
  have hB : Both (fun b => F1 b ∨ F2 b) H5 d m (dk0 (quota.emod 200)) := ⟨F1, F2, a1.keep fun b _ hl => e5.same b hl id, a2, fun b h1 h2 => by have := l1 b h1; have := f5 b h2; omega, fun _ => Iff.rfl⟩
  refine loop_upto xs.length (fun k z A => z = (k : Int) ∧ ∃ G s, Both G A d m s ∧ s.logs ≤ 100 * k ∧ Ext H A ∧ ∀ q, G q → H.size ≤ q) ⟨rfl, _, _, hB, Nat.le_refl _, e05, fun q hq => hq.elim (f3 q) fun h => by have := f5 q h; omega⟩ ?_
  rintro k _ A next hk ⟨rfl, G, s, bA, hlog, eA, hG⟩ hnext
  refine br_mk (fun hc => ?_) (fun hc => ?_)
  · have hlt : k < xs.length := by have : (k : Int) < (ops.n : Int) := by simpa using hc
                                   omega
    have hxA : RdE EOp A ops.a xs := RdE.keep hx fun ad _ hl => eA.same _ hl id
    obtain ⟨ad, ha⟩ := hxA.addr (by decide) (by omega)
    have hxk : xs[k]? = some xs[k] := List.getElem?_eq_getElem hlt
    have hfk := hf _ (List.getElem_mem hlt)
    generalize xs[k] = x at hxk hfk
    obtain ⟨k0, n, N, keep, sb, o, nx, it, tt, rs⟩ := x
    obtain ⟨hN, ⟨b, hb⟩, ho, l, hr⟩ := hfk
    simp only at hN hb ho hr
    refine optK_mk ad ha ⟨⟨by omega, by omega⟩, ?_⟩
    rw [Int.toNat_natCast]
    refine RdE.ldA (E := EOp) (c := cAgg [(cInt .i64), cStr, (cInt .i64), (cInt .u64), cSl, (cInt .u8), (cInt .i64), cStr, cStr, cSl]) (y := (k0, n, N, keep, sb, o, nx, it, tt, rs)) hxA ha hxk rfl rfl rfl ?_
    refine newC_rowT fun H7 z7 r7 e7 => ?_
    refine r7.stAll (cs := #[.int .i64 k0, .string n, .int .i64 N, .int .u64 keep, sb.v, .int .u8 o, .int .i64 nx, .string it, .string tt, rs.v]) size_op zc_op (by intro v hv; simp at hv; rcases hv with rfl | rfl | rfl | rfl | rfl | rfl | rfl | rfl | rfl | rfl <;> rfl) fun H8 r8 m8 z8 => ?_
    have e8 : Ext A H8 := ((Ext.mod (F := fun b => b = A.size) e7).trans m8).ext fun b hb => by omega
    have e08 : Ext H H8 := Mod.trans eA e8
    generalize hp : A.size = p at *
    refine r8.ld (c := cSl) (i := 4) (x := sb) rfl ?_
    refine br_mk (fun _ => wk H8 e08) (fun hsb => ?_)
    have hbl : b.length ≤ 20000 := by
      have : ¬ ((sb.n : Int) > 20000) := by simpa using hsb
      have := hb.n
      omega
    refine r8.ldAt (c := cAgg [(cInt .u8), (cInt .i64), cStr, cStr, cSl]) (x := (o, nx, it, tt, rs)) (ds := #[.int .u8 o, .int .i64 nx, .string it, .string tt, rs.v]) rfl rfl (fun i hi => by
      match i, hi with
      | 0, _ => rfl
      | 1, _ => rfl
      | 2, _ => rfl
      | 3, _ => rfl
      | 4, _ => rfl) ?_
    refine size_ok (m := ⟨o, nx, it, tt, l⟩) (hr.ext e08) fun z H10 e10 hz => ?_
    refine br_mk (fun _ => wk H10 (Mod.trans e08 e10)) (fun hz0 => ?_)
    have sm := hz (by have : ¬ z > 20000 := by simpa using hz0
                      omega)
    simp only at sm
    have r10 := r8.ext e10
    have e010 : Ext H H10 := Mod.trans e08 e10
    have eA10 : Ext A H10 := Mod.trans e8 e10
    have bB : Both G H10 d m s := bA.keep fun q _ hl => eA10.same q hl id
    have hpG : ¬ G p := fun q => by have := bA.lt p q; omega
    clear r7 m8 e7
    refine r10.ld (c := cInt .i64) (i := 0) (x := k0) rfl ?_
    refine Pick_ok (by decide) ?_
    rw [if_neg (by decide)]
    have bl : s.logs ≤ 10000 := by omega
    have z010 := e010.size
    have go : ∀ (G' : Nat → Prop) (B : Heap) (s' : Dk), Both G' B d m s' → Step G G' H10 B → s'.logs ≤ s.logs + 100 → fathomlaw28_sameDisk.sp (at0 d) (at0 m) B fun (r : Bool) H15 => br (!r) (R false H15) (next (IntKind.i64.wrap ((k : Int) + (1 : Int))) H15) := by
      intro G' B s' b' S' hl'
      refine sameDisk_ok b' (by omega) fun C eC => br_f rfl ?_
      have eB : Ext H B := ⟨by have := S'.mod.size; omega, fun q hq _ => (S'.mod.same q (by omega) fun hh => by have := hG q hh; omega).trans (e010.same q hq id)⟩
      exact hnext hlt _ _ ⟨succ64 k (by omega), G', s', b'.keep fun q _ hl => eC.same q hl id, by omega, Mod.trans eB eC, fun q hq => (S'.own q hq).elim (hG q) fun h => by omega⟩
    have rowK : ∀ {F : Nat → Prop} {B : Heap}, (∀ q, F q → G q) → Mod F H10 B → RowT B p ty_fathomlaw28_Op #[.int .i64 k0, .string n, .int .i64 N, .int .u64 keep, sb.v, .int .u8 o, .int .i64 nx, .string it, .string tt, rs.v] := fun hs hm => r10.mod hm fun hh => hpG (hs _ hh)
    have hbH : Byts H10 sb b := hb.keep fun ad _ hl => e010.same _ hl id
    have hbF : ∀ {F : Nat → Prop}, (∀ q, F q → G q) → b ≠ [] → ∀ ad, sb.a = some ad → ¬ F ad.block := fun hs hne ad ha hh => by
      obtain ⟨a0, ha0, hl⟩ := hb.addr (List.length_pos_iff.2 hne)
      rw [ha] at ha0; cases ha0
      have := hG _ (hs _ hh); omega
    have g10 := hg.mod e010 id
    have nG : ∀ {F : Nat → Prop}, (∀ q, F q → G q) → ¬ F gSteps := fun hs hh => by have := hG _ (hs _ hh); omega
    have hmm : ∀ {F : Nat → Prop} {B : Heap}, (∀ q, F q → G q) → Mod F H10 B → Ext H B := fun hs hm => ⟨by have := hm.size; omega, fun q hq _ => (hm.same q (by omega) fun hh => by have := hG q (hs q hh); omega).trans (e010.same q hq id)⟩
    have hdA : ∀ i, i < 5 → (#[Value.int .i64 k0, .string n, .int .i64 N, .int .u64 keep, sb.v, .int .u8 o, .int .i64 nx, .string it, .string tt, rs.v] : Array Value)[5 + i]? = (#[Value.int .u8 o, .int .i64 nx, .string it, .string tt, rs.v] : Array Value)[i]? := fun i hi => by
      match i, hi with
      | 0, _ => rfl
      | 1, _ => rfl
      | 2, _ => rfl
      | 3, _ => rfl
      | 4, _ => rfl
    refine br_mk (fun _ => ?_) (fun _ => ?_)
    · obtain ⟨F1, F2, a1, a2, g1, g2, go1⟩ := both_step (s.putM n b).1 bB
      refine ⟨fun B => RowT B p ty_fathomlaw28_Op _, r10, ?_⟩
      refine r10.ld (c := cStr) (i := 1) (x := n) rfl ?_
      refine ⟨sb, fun B hB => by rw [add_lit0]; exact hB.cell rfl, ?_⟩
      refine Put_ok a1 hbH (hbF g1) (by omega) (by omega) g10 (nG g1) fun F1' H13 b1 t1 => ⟨rowK g1 t1.mod, n, fun B hB => by rw [add_lit0]; exact hB.cell rfl, sb, fun B hB => by rw [add_lit0]; exact hB.cell rfl, ?_⟩
      obtain ⟨a2', go2⟩ := go1 F1' H13 b1 t1
      refine RPut_ok a2' (hb.keep fun ad _ hl => (hmm g1 t1.mod).same _ hl id) (hbF g2) (by omega) (by omega) fun F2' H14 b2 t2 => ?_
      obtain ⟨G', c1, c2⟩ := go2 F2' H14 b2 t2
      refine br_f (by simp) ?_
      have := putM_logs s n b
      exact go G' H14 _ c1 c2 (by omega)
    refine br_mk (fun _ => ?_) (fun _ => ?_)
    · have bB' := bB
      obtain ⟨F1, F2, a1, a2, dj, hGG⟩ := bB'
      refine r10.ld (c := cStr) (i := 1) (x := n) rfl ?_
      refine Get_ok a1 g10 fun r H16 b16 l16 c16 f16 e16 => ?_
      refine (r10.ext e16).ld (c := cStr) (i := 1) (x := n) rfl ?_
      refine RGet_ok (a2.keep fun q _ hl => e16.same q hl id) (by omega) fun r' H17 b17 l17 c17 e17 => ?_
      refine strB_eq (b16.keep fun ad _ hl => e17.same _ hl id) ?_
      refine strB_eq b17 ?_
      refine br_f (by simp) ?_
      have e1017 : Ext H10 H17 := Mod.trans e16 e17
      exact go G H17 s (bB.keep fun q _ hl => e1017.same q hl id) ⟨Ext.mod e1017, fun q hq => .inl hq⟩ (by omega)
    refine br_mk (fun _ => ?_) (fun _ => ?_)
    · obtain ⟨F1, F2, a1, a2, g1, g2, go1⟩ := both_step (s.commit ⟨o, nx, it, tt, l⟩).1 bB
      have hll : l.length < 4611686018427387904 := by omega
      have hel : mayM ⟨o, nx, it, tt, l⟩ = true → (encM ⟨o, nx, it, tt, l⟩).length ≤ 900000 := fun hy => by
        have := enc_len hy (by show tt.size + l.length + thick l ≤ 20000; omega)
        omega
      refine ⟨fun B => RowT B p ty_fathomlaw28_Op _, r10, ?_⟩
      refine r10.ldAt (c := cAgg [(cInt .u8), (cInt .i64), cStr, cStr, cSl]) (x := (o, nx, it, tt, rs)) rfl rfl hdA ?_
      refine Commit_ok (m := ⟨o, nx, it, tt, l⟩) a1 (hr.ext e010) hll ho (by omega) hel g10 (nG g1) fun F1' H13 b1 t1 => ⟨rowK g1 t1.mod, ?_⟩
      refine RowT.ldAtC (c := cAgg [(cInt .u8), (cInt .i64), cStr, cStr, cSl]) (x := (o, nx, it, tt, rs)) (fun _ h => h) rfl rfl hdA ?_
      obtain ⟨a2', go2⟩ := go1 F1' H13 b1 t1
      refine RCommit_ok (m := ⟨o, nx, it, tt, l⟩) a2' (hr.ext (hmm g1 t1.mod)) hll ho (by omega) hel fun F2' H14 b2 t2 => ?_
      obtain ⟨G', c1, c2⟩ := go2 F2' H14 b2 t2
      refine br_f (by simp) ?_
      have := commit_logs (s := s) (m := ⟨o, nx, it, tt, l⟩) (by show tt.size + l.length + thick l ≤ 20000; omega)
      exact go G' H14 _ c1 c2 (by omega)
    refine br_mk (fun _ => ?_) (fun _ => ?_)
    · obtain ⟨F1, F2, a1, a2, g1, g2, go1⟩ := both_step s.recover.2 bB
      refine Recover_ok a1 g10 fun F1' H22 rs1 b1 t1 o1 w1 => ?_
      obtain ⟨a2', go2⟩ := go1 F1' H22 b1 t1
      rw [zc_mf]
      refine newC_rowT fun H23 z23 r23 e23 => ?_
      refine mf_put (s := rs1) r23 rfl fun H24 r24 m24 z24 => ?_
      have e24 : Ext H22 H24 := ((Ext.mod (F := fun b => b = H22.size) e23).trans m24).ext fun b hb => by omega
      have b1' := b1.keep fun q _ hl => e24.same q hl id
      have t1' : Step F1 F1' H10 H24 := ⟨t1.mod.trans' e24 fun _ _ q => q.elim, t1.own⟩
      obtain ⟨a2'', go3⟩ := go1 F1' H24 b1' t1'
      have l2 := a2''.lt
      have l22 := a2'.lt
      refine RRecover_ok a2'' (by omega) fun F2' H25 rs2 b2 t2 o2 => ?_
      obtain ⟨G', c1, c2⟩ := go3 F2' H25 b2 t2
      refine newC_rowT fun H26 z26 r26 e26 => ?_
      refine mf_put (s := rs2) r26 rfl fun H27 r27 m27 z27 => ?_
      have e27 : Ext H25 H27 := ((Ext.mod (F := fun b => b = H25.size) e26).trans m27).ext fun b hb => by omega
      have q24 : ¬ F2 H22.size := fun q => by have := l22 _ q; omega
      have r24' := (r24.mod t2.mod q24).ext e27
      refine mf_ld r24' ?_
      refine mf_ld r27 ?_
      obtain ⟨y1, y2⟩ := recover_rels s
      have o1' : SlE ESv ty_api_Saved H27 rs1 s.recover.1.1.rels := (Owns.mod (o1.ext e24) t2.mod fun q hq hh => by
        have := (w1 q hq).1
        have := bB.lt q (g2 q hh)
        omega).ext e27
      refine SameM_ok (a := s.recover.1.1) (b := s.recover.1.1) (SlE.rels o1') (SlE.rels (o2.ext e27)) y1 y2 y2 fun H28 e28 => ?_
      rw [decide_eq_true (rfl : s.recover.1.1 = s.recover.1.1)]
      refine br_f (by simp) ?_
      have e2528 : Ext H25 H28 := Mod.trans e27 e28
      have := recover_logs s
      exact go G' H28 _ (c1.keep fun q _ hl => e2528.same q hl id) ⟨c2.mod.trans' e2528 fun _ _ q => q.elim, c2.own⟩ (by omega)
    · refine r10.ldA (c := cAgg [(cInt .i64), cStr, (cInt .i64), (cInt .u64), cSl, (cInt .u8), (cInt .i64), cStr, cStr, cSl]) (x := (k0, n, N, keep, sb, o, nx, it, tt, rs)) rfl rfl ?_
      refine disks_ok bB (by omega) hbH hN fun G' H30 c1 c2 => br_f rfl ?_
      have := s.disks_logs (k0.emod 10) n N keep b
      exact go G' H30 _ c1 c2 (show (s.disks (k0.emod 10) n N keep b).logs ≤ s.logs + 100 by omega)
  · obtain ⟨F1, F2, a1, a2, g1, g2, go1⟩ := both_step s.restart bA
    refine Restart_ok a1 (by omega) fun F1' H32 b1 t1 => ?_
    obtain ⟨a2', go2⟩ := go1 F1' H32 b1 t1
    refine RRestart_ok a2' (by omega) fun F2' H33 b2 t2 => ?_
    obtain ⟨G', c1, c2⟩ := go2 F2' H33 b2 t2
    have := s.restart_logs
    refine sameDisk_ok c1 (by omega) fun C eC => br_t rfl ?_
    refine wk C (Mod.trans ?_ eC)
    exact ⟨by have := eA.size; have := c2.mod.size; omega, fun q hq _ => (c2.mod.same q (by have := eA.size; omega) fun hh => by have := hG q hh; omega).trans (eA.same q hq id)⟩
end Go.Proofs.YtjjfngnokbboeaaGreatDoor

/-
  ManifestTells: for every input the law returns true, and its arguments read as before; the laid variables are laid as the program's text lays them. No condition beside that.
-/
namespace Go.Proofs.YtjjfngnokbboeaaGreatDoor
open Go.ChangeShapes Go.WideShapes Go.ChangeAt Go.RowKit

/-- The fields of a call: type and place. -/
def opFields : List (TypeId × Nat) := [(ty_int, 0), (ty_string, 1), (ty_int, 2), (26, 3), (ty_sl_uint8, 4), (ty_api_Manifest, 5)]
theorem op_fields : ∃ fs, Tryz.prog.underlying ty_fathomlaw28_Op = some (.struct fs) ∧ fs.toList.map (fun f => (f.type, f.offset)) = opFields := by
  have hb : (match Tryz.prog.underlying ty_fathomlaw28_Op with | some (.struct fs) => (fs.toList.map (fun f => (f.type, f.offset))) == opFields | _ => false) = true := by kernel_rfl
  split at hb
  · rename_i fs q; exact ⟨fs, q, by simpa using hb⟩
  · cases hb
set_option maxRecDepth 100000 in
/-- Cells: a slice of bytes. -/
theorem cells_bytes {H : Type} {enc : TypeId × Value → H} {W : World} {cs0 : List Value} {y0 : DataW H × List MemPlace} {fuel0 : Nat} (hf : DataW.trod enc Tryz.prog W 0 (fun _ => true) true fuel0 ty_sl_uint8 cs0 = some y0) :
    ∃ (s : Sl) (b : List UInt8), cs0 = [Sl.v s] ∧ Byts W.heap s b := by
  obtain ⟨s, xs, e, hrd, hn, _, _⟩ := cells_structs (E := EB) (fine := fun _ => True) (e := ty_uint8) (by kernel_rfl) (by kernel_rfl) (by decide) (by
    intro a cs fuel y hlen _ hy
    obtain ⟨x, e, _, w⟩ := DataW.trod_int (k := .u8) (by kernel_rfl) hy
    obtain ⟨w1, w2⟩ := fits_u8 w
    refine ⟨UInt8.ofNat x.toNat, trivial, ?_⟩
    rw [e]
    have : ((UInt8.ofNat x.toNat).toNat : Int) = x := by rw [UInt8.toNat_ofNat']; omega
    show _ = [Value.int .u8 ((UInt8.ofNat x.toNat).toNat : Int)]
    rw [this]) hf
  refine ⟨s, xs, e, ?_, ?_⟩
  · rw [hn]; simp [u8i]
  · rw [u8i_vals, ← EB_all]; exact hrd
set_option maxRecDepth 100000 in
/-- Cells: a manifest. -/
theorem cells_mf {H : Type} {enc : TypeId × Value → H} {W : World} {cs : List Value} {y : DataW H × List MemPlace} {fuel : Nat} (hf : DataW.trod enc Tryz.prog W 0 (fun _ => true) true fuel ty_api_Manifest cs = some y) (hlen : cs.length = 5) :
    ∃ (o nx : Int) (it tt : ByteArray) (rs : Sl) (l : List Sv), cs = [.int .u8 o, .int .i64 nx, .string it, .string tt, rs.v] ∧ (0 ≤ o ∧ o < 256) ∧ Rels W.heap rs l := by
  obtain ⟨fs, hst, hfs⟩ := mf_fields
  obtain ⟨k, fld⟩ := trod_field hst hfs hf
  have c1 : ∀ t ∈ ([ty_uint8, ty_int, ty_string, ty_sl_api_Saved] : List TypeId), Tryz.prog.cellsOf t = 1 := by
    have hb : ([ty_uint8, ty_int, ty_string, ty_sl_api_Saved] : List TypeId).all (fun t => Nat.beq (Tryz.prog.cellsOf t) 1) = true := by kernel_rfl
    intro t ht
    exact Nat.eq_of_beq_eq_true (List.all_eq_true.1 hb t ht)
  match cs, hlen with
  | [v0, v1, v2, v3, v4], _ =>
    obtain ⟨y0, g0⟩ := fld 0 ty_uint8 0 rfl
    obtain ⟨y1, g1⟩ := fld 1 ty_int 1 rfl
    obtain ⟨y2, g2⟩ := fld 2 ty_string 2 rfl
    obtain ⟨y3, g3⟩ := fld 3 ty_string 3 rfl
    obtain ⟨y4, g4⟩ := fld 4 ty_sl_api_Saved 4 rfl
    rw [c1 _ (by simp)] at g0 g1 g2 g3 g4
    obtain ⟨x0, e0, _, w0⟩ := DataW.trod_int (k := .u8) (by kernel_rfl) g0
    obtain ⟨x1, e1, _⟩ := DataW.trod_int (k := .i64) (by kernel_rfl) g1
    obtain ⟨x2, e2, _⟩ := DataW.trod_string (by kernel_rfl) g2
    obtain ⟨x3, e3, _⟩ := DataW.trod_string (by kernel_rfl) g3
    obtain ⟨s, xs, e4, hrd, hn, hcap, _⟩ := cells_structs (E := ESv) (fine := fun _ => True) (e := ty_api_Saved) (by kernel_rfl) (by kernel_rfl) (by decide) (by
      intro a cs fuel y hlen _ hy
      obtain ⟨fs, hst, hfs⟩ := svd_fields
      obtain ⟨k, fld⟩ := trod_field hst hfs hy
      have c1 : ∀ t ∈ ([ty_int, ty_string] : List TypeId), Tryz.prog.cellsOf t = 1 := by
        have hb : ([ty_int, ty_string] : List TypeId).all (fun t => Nat.beq (Tryz.prog.cellsOf t) 1) = true := by kernel_rfl
        intro t ht
        exact Nat.eq_of_beq_eq_true (List.all_eq_true.1 hb t ht)
      match cs, hlen with
      | [v0, v1, v2], _ =>
        obtain ⟨y0, g0⟩ := fld 0 ty_string 0 rfl
        obtain ⟨y1, g1⟩ := fld 1 ty_string 1 rfl
        obtain ⟨y2, g2⟩ := fld 2 ty_int 2 rfl
        rw [c1 _ (by simp)] at g0 g1 g2
        obtain ⟨x0, e0, _⟩ := DataW.trod_string (by kernel_rfl) g0
        obtain ⟨x1, e1, _⟩ := DataW.trod_string (by kernel_rfl) g1
        obtain ⟨x2, e2, _⟩ := DataW.trod_int (k := .i64) (by kernel_rfl) g2
        simp at e0 e1 e2
        subst e0 e1 e2
        exact ⟨⟨x0, x1, x2⟩, trivial, rfl⟩) g4
    simp at e0 e1 e2 e3 e4
    subst e0 e1 e2 e3 e4
    exact ⟨x0, x1, x2, x3, s, xs, rfl, fits_u8 w0, hrd, hn⟩

set_option maxRecDepth 100000 in
/-- An argument: a slice of calls. -/
theorem open_ops {H : Type} {enc : TypeId × Value → H} {r : Reach} {b0 : Nat} {W : World} {v : Value} {d : DataW H} {ps : List MemPlace}
    (hval : Value.okWide Tryz.prog W r b0 42 v) (h : DataW.Trod enc Tryz.prog W 0 (fun _ => true) true 42 v d ps) :
    ∃ (s : Sl) (xs : List OpV), v = Sl.v s ∧ RdE EOp W.heap s.a xs ∧ s.n = xs.length ∧ s.n ≤ s.c ∧ ∀ x ∈ xs, OpV.fine W.heap x := by
  refine open_structs (E := EOp) (fine := OpV.fine W.heap) (e := ty_fathomlaw28_Op) (by kernel_rfl) (by kernel_rfl) (by decide) ?_ hval h
  intro a cs fuel y hlen _ hy
  obtain ⟨fs, hst, hfs⟩ := op_fields
  obtain ⟨k, fld⟩ := trod_field hst hfs hy
  have c1 : ∀ t ∈ ([ty_int, ty_string, 26, ty_sl_uint8] : List TypeId), Tryz.prog.cellsOf t = 1 := by
    have hb : ([ty_int, ty_string, 26, ty_sl_uint8] : List TypeId).all (fun t => Nat.beq (Tryz.prog.cellsOf t) 1) = true := by kernel_rfl
    intro t ht
    exact Nat.eq_of_beq_eq_true (List.all_eq_true.1 hb t ht)
  have c5 : Tryz.prog.cellsOf ty_api_Manifest = 5 := by kernel_rfl
  match cs, hlen with
  | [v0, v1, v2, v3, v4, v5, v6, v7, v8, v9], _ =>
    obtain ⟨y0, g0⟩ := fld 0 ty_int 0 rfl
    obtain ⟨y1, g1⟩ := fld 1 ty_string 1 rfl
    obtain ⟨y2, g2⟩ := fld 2 ty_int 2 rfl
    obtain ⟨y3, g3⟩ := fld 3 26 3 rfl
    obtain ⟨y4, g4⟩ := fld 4 ty_sl_uint8 4 rfl
    obtain ⟨y5, g5⟩ := fld 5 ty_api_Manifest 5 rfl
    rw [c1 _ (by simp)] at g0 g1 g2 g3 g4
    rw [c5] at g5
    obtain ⟨x0, e0, _⟩ := DataW.trod_int (k := .i64) (by kernel_rfl) g0
    obtain ⟨x1, e1, _⟩ := DataW.trod_string (by kernel_rfl) g1
    obtain ⟨x2, e2, _, w2⟩ := DataW.trod_int (k := .i64) (by kernel_rfl) g2
    obtain ⟨x3, e3, _⟩ := DataW.trod_int (k := .u64) (by kernel_rfl) g3
    obtain ⟨s4, b4, e4, hb⟩ := cells_bytes g4
    obtain ⟨o, nx, it, tt, rs, l, e5, ho, hr⟩ := cells_mf g5 rfl
    simp at e0 e1 e2 e3 e4 e5
    obtain ⟨e5, e6, e7, e8, e9⟩ := e5
    subst e0 e1 e2 e3 e4 e5 e6 e7 e8 e9
    exact ⟨(x0, x1, x2, x3, s4, o, nx, it, tt, rs), ⟨(fits_i64 w2).2, ⟨b4, hb⟩, ho, l, hr⟩, rfl⟩

set_option maxRecDepth 100000 in
theorem manifestTells_lifted (os : Os) (started : os.Started) (H : Type) (enc : TypeId × Value → H) :
    ReturnsInHanded {} Tryz.checked os 4 .any (fun w args => (Rows.manifestTellsSpec.pre enc Tryz.prog Tryz.f4 [] false w args ∧ laidMetH Tryz.prog laidM w) ∧ sizedMet enc Tryz.prog Tryz.f4 (OpenSpec.ofChange Rows.manifestTellsSpec) false w args)
      (Rows.manifestTellsSpec.post enc Tryz.prog Tryz.f4 false true false false) := by
  refine returnsInHanded_of_change_and (C := Tryz.checked) (X := fun w _ => laidMetH Tryz.prog laidM w) (fun _ _ _ hh h => h.of_heap hh) pprog_own started (by kernel_rfl) Tryz.func4
    (ChangeSpec.witness_shaped (enc := enc) (C := Tryz.checked) (os := os) (X := fun w _ => laidMetH Tryz.prog laidM w) false (World.doorLaid Tryz.prog 400 os) #[.slice none 0 0, .int .i64 0] 8 rfl (World.shaped_of_RefB (by kernel_rfl) (by kernel_rfl)) (by kernel_rfl) (by kernel_rfl) (by kernel_rfl) (door_met os _)) ?_
  intro W base args ds gs before hval0 hW _ _ hL _
  have hval : ∀ (j : Nat) t v, Tryz.f4.params[j]? = some t → args[j]? = some v → Value.okWide Tryz.prog W .any base t v := hval0
  have hW' := hW
  obtain ⟨p, q, hA0, hV, rfl, hfz, hnd⟩ := hW
  have hA : DataW.TrodAll enc Tryz.prog W 0 (fun _ => true) true Tryz.f4.params.toList args.toList ds p := hA0
  rw [Tryz.params4] at hA hval
  obtain ⟨v0, v1, d0, d1, p0, p1, rfl, rfl, rfl, h0, h1⟩ := trodAll_two hA
  obtain ⟨rfl, rfl⟩ := trodVars_none hV
  obtain ⟨s, xs, rfl, hx, hlen, _, hfine⟩ := open_ops (hval 0 42 v0 rfl rfl) h0
  obtain ⟨quota, rfl, hq⟩ := wide_int (k := .i64) (hval 1 ty_int v1 rfl rfl) (by kernel_rfl)
  have hspec := ManifestTells_ok (ops := s) (xs := xs) (quota := quota) (H := W.heap) (R := fun b H' => b = true ∧ Ext W.heap H') hx hlen hfine (gl_of_laid hL) (fun H' e => ⟨rfl, e⟩)
  refine (hspec W rfl).mono fun e W' ⟨v, he, ⟨x, hx, hb, hext⟩, hal⟩ => ?_
  subst he; subst hx; subst hb
  exact ⟨_, rfl, law_post pprog_laidOut (by decide +kernel) rfl (by kernel_rfl) rfl rfl rfl rfl hW' hext hal⟩

theorem manifestTells_row : Rows.ManifestTellsSaid :=
  OpenClaim.holds_of_wide 4 Tryz.f4 rfl rfl rfl rfl rfl rfl rfl ⟨rfl, rfl, rfl, rfl, rfl⟩ rfl rfl rfl rfl rfl (by kernel_rfl) Tryz.func4 (by kernel_rfl)
    (of_decide_eq_true (by kernel_rfl)) (by unfold Func.isWrapper; first | (rw [if_pos (by decide +kernel)]; kernel_rfl) | (rw [if_neg (by decide +kernel)]; exact ⟨rfl, rfl⟩))
    (fun os started H enc _ => manifestTells_lifted os started H enc)

/-- The card: the laid variables tied to the program's text. -/
theorem manifestTells_holds : Rows.ManifestTellsCardSaid :=
  Claim7.holds_tied_plain_at .later [] [.data, .sentinel] true _ false
    manifestTells_row (fun _ h => by cases h) (by kernel_rfl) (fun _ h => by cases h) manifestTells_row_tie rfl ⟨rfl, rfl⟩ (by kernel_rfl) rfl
    (fun f fn hf hfn => by
      obtain rfl : f = 4 := Option.some.inj ((show Tryz.prog.funcNamed "fathom/fathomlaw28.ManifestTells" = some 4 by kernel_rfl).symm.trans hf) |>.symm
      obtain rfl : fn = Tryz.f4 := (Option.some.inj (Tryz.func4.symm.trans hfn)).symm
      exact ⟨by kernel_rfl, fun j t ht => by
        rw [Tryz.params4] at ht
        have hm : t ∈ [42, ty_int] := by simpa using Array.mem_of_getElem? ht
        have hall : ([42, ty_int].all fun u => !Tryz.prog.wantsStandIn u) = true := by kernel_rfl
        exact (show Tryz.prog.wantsStandIn t = false by simpa using List.all_eq_true.1 hall t hm)⟩)
    (by kernel_rfl)
#print axioms manifestTells_holds
end Go.Proofs.YtjjfngnokbboeaaGreatDoor
