/-
  DiskQuota: the pages of all files are never more than the quota; Used and Most tell them.
-/
import Derived.Test.YtnmaojkkfbajcaaGreatDmg
namespace Go.Proofs.YtnmaojkkfbajcaaGreat
open Go.MapKept

theorem Dk.change_most (s : Dk) : s.change.1.most = s.most := by
  unfold Dk.change
  split
  · rfl
  · split <;> rfl
theorem Dk.step_most {s : Dk} {f : Dk → Dk} (hf : ∀ t, (f t).most = t.most) : (s.step f).1.most = s.most := by
  unfold Dk.step
  split
  · show (f s.change.1).most = _
    rw [hf, s.change_most]
  · exact s.change_most
theorem Dk.drop_most (t : Dk) (n : ByteArray) : (t.drop n).most = t.most := by unfold Dk.drop; split <;> rfl
theorem Dk.setName_most (t : Dk) (n m : ByteArray) : (t.setName n m).most = t.most := by unfold Dk.setName; split <;> rfl
theorem Dk.run1_most (s : Dk) (x : StepV) : (s.run1 x).most = s.most ∨ (s.run1 x).most = max s.most (s.run1 x).used := by
  unfold Dk.run1
  split
  · left
    unfold Dk.create
    repeat' split
    all_goals first | rfl | exact Dk.step_most fun _ => rfl
  · split
    · unfold Dk.write
      split
      · exact .inl rfl
      · split
        · split
          · exact .inl rfl
          · split
            · exact .inl rfl
            · split
              · exact .inl rfl
              · unfold Dk.step
                split
                · right
                  show max s.change.1.most _ = _
                  rw [s.change_most]; rfl
                · exact .inl s.change_most
        · exact .inl rfl
    · left
      split
      · unfold Dk.sync
        repeat' split
        all_goals first | rfl | exact Dk.step_most fun _ => rfl
      · split
        · unfold Dk.rename
          repeat' split
          all_goals first | rfl | exact Dk.step_most fun t => rfl | exact Dk.step_most fun t => by rw [Dk.setName_most, Dk.drop_most]
        · split
          · unfold Dk.remove
            repeat' split
            all_goals first | rfl | exact Dk.step_most fun t => t.drop_most _
          · rfl

theorem one_slice {A : Heap} {script : Sl} {xs : List StepV} {k : Nat} (hx : RdE EStep A script.a xs) (hk : k < xs.length) (hc : xs.length ≤ script.c) : RdE EStep A (slA script.a script.c (k : Int).toNat 7) [xs[k]] := by
  have h1 := RdE.take (i := 1) (RdE.drop (c := script.c) (i := k) hx hc)
  have e : (xs.drop k).take 1 = [xs[k]] := by
    rw [List.drop_eq_getElem_cons hk]; rfl
  rw [e] at h1
  rw [Int.toNat_natCast]
  exact h1

set_option maxHeartbeats 2000000 in
theorem DiskQuota_ok {quota keep : Int} {script : Sl} {xs : List StepV} {H : Heap} {K : Bool → Heap → Prop} (hq : quota ≤ 9223372036854775807) (hx : RdE EStep H script.a xs) (hn : script.n = xs.length) (hcap : script.n ≤ script.c) (hf : ∀ x ∈ xs, StepV.fine x)
    (hK : ∀ H', Mod (fun _ => False) H H' → K true H') : fathomlaw01_DiskQuota.sp quota script keep H K := by
  refine fathomlaw01_DiskQuota.of ?_
  unfold fathomlaw01_DiskQuota.vc
  refine br_mk (fun _ => hK H (.refl _ _)) (fun hl => ?_)
  have hl' : xs.length ≤ 60 := by
    have : ¬ ((script.n : Int) > 60) := by simpa using hl
    omega
  refine New_ok hq fun F0 d H1 a0 m1 f0 => ?_
  refine loop_upto xs.length (fun k z A => z.2 = (k : Int) ∧ ∃ F' t, DiskAt F' A d t ∧ (∀ b, F' b → H.size ≤ b) ∧ Mod (fun _ => False) H A ∧ t.Calm ∧ t.Nm ∧ t.files.length ≤ k ∧ t.logs ≤ k ∧ z.1 = (t.most : Int))
    ⟨rfl, F0, dk0 quota, a0, f0, m1, dk0_calm quota, dk0_nm quota, Nat.le_refl _, Nat.le_refl _, rfl⟩ ?_
  rintro k ⟨z1, z2⟩ A next hk ⟨hz2, F1, t, a1, f1, mA, tc, tn, tl, tg, hz1⟩ hnext
  simp only at hz1 hz2
  subst hz1; subst hz2
  refine br_mk (fun hc => ?_) (fun hc => ?_)
  · have hlt : k < xs.length := by rw [hn] at hc; simpa using hc
    have hw : IntKind.i64.wrap ((k : Int) + 1) = ((k + 1 : Nat) : Int) := succ64 k (by omega)
    simp only [hw]
    refine ⟨⟨by omega, by omega⟩, ⟨by omega, by omega⟩, ?_⟩
    have hzA := mA.size
    refine run_ok (xs := [xs[k]]) a1 (one_slice hx hlt (by omega)) (by simp) (by intro x hx; simp at hx; subst hx; exact hf _ (List.getElem_mem hlt)) mA f1 (by simp; omega) fun F2 H3 a3 t3 => ?_
    have e1 : t.runs [xs[k]] = t.run1 xs[k] := rfl
    rw [e1] at a3
    have hm := t.run1_most xs[k]
    have uc := run1_calm tc xs[k]
    have un := Dk.run1_nm (x := xs[k]) tn
    have ul := t.run1_len xs[k]
    have ug := t.run1_logs xs[k]
    generalize t.run1 xs[k] = u at *
    have m3 := mA.grow t3.mod f1
    have f3 := t3.fresh f1 hzA
    have w1 := a3.wf.used; have w2 := a3.wf.most; have w3 := a3.wf.quota
    have hmost : (if (u.used : Int) > (t.most : Int) then (u.used : Int) else (t.most : Int)) = (u.most : Int) := by
      split
      · rcases hm with h | h <;> omega
      · rcases hm with h | h <;> omega
    refine pages_ok a3 fun H4 m4 => ?_
    rw [Dk.total_eq a3.wf uc.down]
    have a4 : DiskAt F2 H4 d u := a3.keep fun b hb hbl => m4.same b hbl id
    refine Used_ok a4 (br_f (by simp) ?_)
    refine Most_ok a4 (br_f (by rw [hmost]; simp) ?_)
    refine Quota_ok a4 (br_f (by simp; omega) ?_)
    have mm4 := m3.trans m4
    refine br_mk (fun _ => ?_) (fun _ => ?_)
    · refine Crash_ok a4 (by omega) fun F5 H5 a5 t5 => ?_
      rw [Dk.setCrash0 uc] at a5
      have mm5 := mm4.grow t5.mod f3
      have f5 := t5.fresh f3 mm4.size
      have hll : u.list.length ≤ 61 := by
        unfold Dk.list
        split
        · simp
        · rw [(List.mergeSort_perm _ _).length_eq]; simp; omega
      refine own_ok a5 fun j H6 hj hjn m6 => ?_
      have hls : (u.withC (some (0, keep))).list = u.list := rfl
      have hj' : ownN j ∉ (u.withC (some (0, keep))).list := hj
      rw [hls] at hjn
      have mm6 := mm5.trans m6
      refine Create_ok (a5.keep fun b hb hbl => m6.same b hbl id) fun F7 H7 a7 t7 => ?_
      have ec := own_create (s := u.withC (some (0, keep))) (k := keep) (j := j) uc.down rfl hj' (by omega) (by show u.files.length < 4096; omega)
      rw [ec] at a7
      have mm7 := mm6.grow t7.mod f5
      have f7 := t7.fresh f5 mm6.size
      have hlW : ({ u.withC (some (0, keep)) with down := true } : Dk).logs = u.logs := rfl
      refine Restart_ok a7 (by rw [hlW]; omega) fun F8 H8 a8 t8 => ?_
      rw [fall_restart] at a8
      have mm8 := mm7.grow t8.mod f7
      have f8 := t8.fresh f7 mm7.size
      have hfu := fall_used u keep
      have hfl := fall_logs u keep
      have hfn := fall_len u keep
      have hfm : (u.fall keep).most = u.most := rfl
      refine Used_ok a8 ?_
      refine pages_ok a8 fun H9 m9 => ?_
      rw [Dk.total_eq a8.wf (u.fall_calm keep).down]
      refine br_f (by simp) ?_
      have a9 : DiskAt F8 H9 d (u.fall keep) := a8.keep fun b hb hbl => m9.same b hbl id
      refine Used_ok a9 (br_f (by simp; omega) ?_)
      refine Most_ok a9 (br_f (by rw [hmost, hfm]; simp) ?_)
      refine hnext hlt _ _ ⟨rfl, F8, u.fall keep, a9, f8, mm8.trans m9, u.fall_calm keep, fall_nm un, by omega, by omega, ?_⟩
      simp only; rw [hmost, hfm]
    · refine hnext hlt _ _ ⟨rfl, F2, u, a4, f3, mm4, uc, un, by omega, by omega, ?_⟩
      simp only; rw [hmost]
  · exact works_ok fun B e => hK B (mA.trans e)

end Go.Proofs.YtnmaojkkfbajcaaGreat
