/-
  DiskKeeps: what was synced survives; where all is kept nothing is lost.
-/
import Derived.Test.YtnmaojkkfbajcaaGreatDmf
namespace Go.Proofs.YtnmaojkkfbajcaaGreat
open Go.MapKept

theorem Step.fresh {G G' : Nat → Prop} {A B : Heap} {n : Nat} (h : Step G G' A B) (hG : ∀ b, G b → n ≤ b) (hn : n ≤ A.size) : ∀ b, G' b → n ≤ b := fun b hb => by
  rcases h.own b hb with q | q
  · exact hG b q
  · omega
theorem Dk.mem_list {s : Dk} (hd : s.down = false) {n : List UInt8} : n ∈ s.list ↔ ∃ f ∈ s.files, f.name.toList = n := by
  unfold Dk.list
  rw [hd]
  simp only [Bool.false_eq_true, if_false, List.mem_mergeSort, List.mem_map]
theorem list_of_view {s t : Dk} (hv : s.view = t.view) (hd : s.down = t.down) : s.list = t.list := by rw [s.list_view, t.list_view, hv, hd]

set_option maxHeartbeats 2000000 in
theorem DiskKeeps_ok {quota keep : Int} {script : Sl} {xs : List StepV} {H : Heap} {K : Bool → Heap → Prop} (hq : quota ≤ 9223372036854775807) (hx : RdE EStep H script.a xs) (hn : script.n = xs.length) (hf : ∀ x ∈ xs, StepV.fine x)
    (hK : ∀ H', Mod (fun _ => False) H H' → K true H') : fathomlaw01_DiskKeeps.sp quota script keep H K := by
  refine fathomlaw01_DiskKeeps.of ?_
  unfold fathomlaw01_DiskKeeps.vc
  refine br_mk (fun _ => hK H (.refl _ _)) (fun hl => ?_)
  have hl' : xs.length ≤ 60 := by
    have : ¬ ((script.n : Int) > 60) := by simpa using hl
    omega
  refine New_ok hq fun F0 d H1 a0 m1 f0 => ?_
  have hlog0 : (dk0 quota).logs = 0 := rfl
  refine run_ok a0 hx hn hf m1 f0 (by omega) fun F1 H2 a1 t1 => ?_
  have hcalm := runs_calm xs (dk0_calm quota)
  have hnm := Dk.runs_nm xs (dk0_nm quota)
  have hlen := Dk.runs_len xs (dk0 quota)
  have hlen0 : (dk0 quota).files.length = 0 := rfl
  have hlogs := (dk0 quota).runs_logs xs
  generalize (dk0 quota).runs xs = s at *
  have z1 := m1.size
  have mH2 := m1.grow t1.mod f0
  have zH2 := mH2.size
  have f1 := t1.fresh f0 z1
  have lt1 := a1.lt
  have hll : s.list.length ≤ 60 := by
    unfold Dk.list
    split
    · simp
    · rw [(List.mergeSort_perm _ _).length_eq]; simp; omega
  -- the copy
  refine Copy_ok a1 (by omega) fun W0 p H3 w3 m3 fw0 => ?_
  refine files_ok w3 hnm fun H4 m4 => ?_
  have w4 : DiskAt W0 H4 p s := w3.keep fun b hb hbl => m4.same b hbl id
  have M4 : Mod (fun _ => False) H2 H4 := m3.trans m4
  refine Crash_ok w4 (by omega) fun W1 H5 w5 t5 => ?_
  rw [Dk.setCrash0 hcalm] at w5
  have M5 := M4.grow t5.mod fw0
  have fw1 := t5.fresh fw0 M4.size
  refine own_ok w5 fun j H6 hj hjn m6 => ?_
  have hls : (s.withC (some (0, 18446744073709551615))).list = s.list := rfl
  rw [hls] at hj hjn
  have w6 : DiskAt W1 H6 p _ := w5.keep fun b hb hbl => m6.same b hbl id
  have M6 := M5.trans m6
  refine Create_ok w6 fun W2 H7 w7 t7 => ?_
  have ec := own_create (s := s.withC (some (0, 18446744073709551615))) (k := 18446744073709551615) (j := j) hcalm.down rfl hj (by omega) (by show s.files.length < 4096; omega)
  rw [ec] at w7 ⊢
  have M7 := M6.grow t7.mod fw1
  have fw2 := t7.fresh fw1 M6.size
  refine br_f (by simp) ?_
  have hlW : ({ s.withC (some (0, 18446744073709551615)) with down := true } : Dk).logs = s.logs := rfl
  refine Restart_ok w7 (by rw [hlW]; omega) fun W3 H8 w8 t8 => ?_
  rw [fall_restart] at w8
  have M8 := M7.grow t8.mod fw2
  refine files_ok w8 (fall_nm hnm) fun H9 m9 => ?_
  have M9 := M8.trans m9
  have ht : (s.fall 18446744073709551615).text = s.text := Dk.text_view (fall_all s) (by rw [hcalm.down]; rfl)
  rw [ht]
  refine br_f (by simp) ?_
  -- the disk itself
  have a9 : DiskAt F1 H9 d s := a1.keep fun b hb hbl => M9.same b hbl id
  refine List_ok a9 fun l H10 o10 m10 f10 => ?_
  have hln := o10.n (by decide)
  have z9 := M9.size
  have z10 := m10.size
  refine loop_upto s.list.length (fun k i A => i = (k : Int) ∧ ∃ F' t, DiskAt F' A d t ∧ Step F1 F' H10 A ∧ t.view = s.view ∧ t.Calm ∧ t.files.length = s.files.length ∧ t.Nm ∧ t.logs ≤ 60 ∧ ∀ (i : Nat) (f : Fl), t.files[i]? = some f → f.name.toList ∈ s.list.take k → f.log = [])
    ⟨rfl, F1, s, a9.keep fun b hb hbl => m10.same b hbl id, .refl _ _, rfl, hcalm, rfl, hnm, by omega, by simp⟩ ?_
  rintro k _ A next hk ⟨rfl, F', t, b0, tS, hv, tc, tl, tn, tlog, hlg⟩ hnext
  have hll2 : t.list = s.list := list_of_view hv (by rw [tc.down, hcalm.down])
  refine br_mk (fun hc => ?_) (fun hc => ?_)
  · have hlt : k < s.list.length := by rw [hln] at hc; simpa using hc
    have oA : SlE EN ty_string A l s.list := o10.keep fun b hb hbl => tS.mod.same b hbl fun h => by have := f10 b hb; have := lt1 b h; omega
    refine text_ld oA hlt ?_
    have hmem : s.list[k] ∈ t.list := by rw [hll2]; exact List.getElem_mem hlt
    obtain ⟨f, hfm, hfe⟩ := (Dk.mem_list tc.down).1 hmem
    obtain ⟨i, hi⟩ := List.mem_iff_getElem?.1 hfm
    have en : strB s.list[k] = f.name := by rw [← hfe, strB_toL]
    rw [en]
    have hlg2 := t.sync_logs f.name
    refine Sync_ok b0 fun F2 A2 b2 t2 => ?_
    rw [sync_calm tc b0.wf hi] at b2 hlg2 ⊢
    refine br_f (by simp) (hnext hlt _ _ ⟨succ64 k (by omega), F2, _, b2, tS.trans t2, ?_, ⟨tc.crash, tc.down⟩, by simpa using tl, ?_, Nat.le_trans hlg2 tlog, ?_⟩)
    · show List.map _ (t.files.modify i _) = _
      rw [sync_view]; exact hv
    · intro g hg
      rcases mem_modify hg with q | ⟨g0, q, rfl⟩
      · exact tn g q
      · exact tn g0 q
    · intro q g hg hgn
      have hg' : (t.files.modify i fun f => { f with synced := f.pages, log := [] })[q]? = some g := hg
      rw [List.getElem?_modify] at hg'
      obtain ⟨g0, h0, e⟩ := Option.map_eq_some_iff.1 hg'
      by_cases hqi : i = q
      · rw [if_pos hqi] at e; rw [← e]
      · rw [if_neg hqi] at e
        have e' : g0 = g := e
        subst e'
        rw [List.take_add_one, List.getElem?_eq_getElem hlt, List.mem_append] at hgn
        rcases hgn with h | h
        · exact hlg q g0 h0 h
        · have h' : g0.name.toList = s.list[k] := by simpa using h
          exact absurd (b0.wf.inj hi h0 (ba_eq (by rw [hfe, h']))) hqi
  · have hge : k = s.list.length := by
      have : ¬ ((k : Int) < (l.n : Int)) := by simpa using hc
      omega
    have hsync : ∀ f ∈ t.files, f.log = [] := fun f hfm => by
      obtain ⟨i, hi⟩ := List.mem_iff_getElem?.1 hfm
      refine hlg i f hi ?_
      rw [hge, List.take_length, ← hll2]
      exact (Dk.mem_list tc.down).2 ⟨f, hfm, rfl⟩
    have mA : Mod (fun _ => False) H A := ((mH2.trans M9).trans m10).grow tS.mod f1
    have fF' := tS.fresh f1 (by omega)
    refine Crash_ok b0 (by omega) fun F3 B1 c1 u1 => ?_
    rw [Dk.setCrash0 tc] at c1
    have N1 := mA.grow u1.mod fF'
    have g3 := u1.fresh fF' mA.size
    refine own_ok c1 fun j2 B2 hj2 hjn2 n2 => ?_
    have hls2 : (t.withC (some (0, keep))).list = s.list := hll2
    have hj2' : ownN j2 ∉ (t.withC (some (0, keep))).list := hj2
    rw [hls2] at hjn2
    have c2 : DiskAt F3 B2 d _ := c1.keep fun b hb hbl => n2.same b hbl id
    have N2 := N1.trans n2
    refine Create_ok c2 fun F4 B3 c3 u3 => ?_
    have ec2 := own_create (s := t.withC (some (0, keep))) (k := keep) (j := j2) tc.down rfl hj2' (by omega) (by show t.files.length < 4096; omega)
    rw [ec2] at c3 ⊢
    have N3 := N2.grow u3.mod g3
    have g4 := u3.fresh g3 N2.size
    refine br_f (by simp) ?_
    refine List_ok c3 fun l2 B4 o4 n4 _ => ?_
    have hl0 : ({ t.withC (some (0, keep)) with down := true } : Dk).list = [] := rfl
    rw [hl0] at o4
    have hn0 := o4.n (by decide)
    refine br_f (by simp [hn0]) ?_
    have N4 := N3.trans n4
    have hlW2 : ({ t.withC (some (0, keep)) with down := true } : Dk).logs = t.logs := rfl
    refine Restart_ok (c3.keep fun b hb hbl => n4.same b hbl id) (by rw [hlW2]; omega) fun F5 B5 c5 u5 => ?_
    rw [fall_restart] at c5
    have N5 := N4.grow u5.mod g4
    refine files_ok c5 (fall_nm tn) fun B6 n6 => ?_
    have ht2 : (t.fall keep).text = s.text := Dk.text_view ((fall_synced hsync).trans hv) (by rw [hcalm.down]; rfl)
    rw [ht2]
    refine br_t (by simp) ?_
    exact works_ok fun B7 n7 => hK B7 ((N5.trans n6).trans n7)

end Go.Proofs.YtnmaojkkfbajcaaGreat
