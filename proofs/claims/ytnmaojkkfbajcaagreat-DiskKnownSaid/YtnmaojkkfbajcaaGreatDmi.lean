/-
  DiskCrashes: up to a crash all is done as without one; the change that it meets, and what follows, is not.
-/
import Derived.Test.YtnmaojkkfbajcaaGreatDmh
namespace Go.Proofs.YtnmaojkkfbajcaaGreat
open Go.MapKept

/-- One call on a disk, and on its twin on which a crash is laid. -/
theorem twin {t : Dk} (tc : t.Calm) {r keep : Int} (h0 : 0 ≤ t.ops) (hr : t.ops ≤ r) (hb : r < 9223372036854775000) (x : StepV) :
    (t.run1 x).Calm ∧ 0 ≤ (t.run1 x).ops ∧ (t.run1 x).ops ≤ t.ops + 1 ∧
    (((t.run1 x).ops ≤ r ∧ (t.withC (some (r - t.ops, keep))).run1 x = (t.run1 x).withC (some (r - (t.run1 x).ops, keep))) ∨
     (r < (t.run1 x).ops ∧ t.ops = r ∧ (t.withC (some (r - t.ops, keep))).run1 x = { t.withC (some (0, keep)) with down := true })) := by
  refine ⟨run1_calm tc x, ?_⟩
  rcases run1_acts x tc.down with e | ⟨f, hf, e⟩
  · have en := e none
    rw [withC_calm tc] at en
    rw [en]
    exact ⟨h0, by omega, .inl ⟨hr, e _⟩⟩
  · have en := e none
    rw [withC_calm tc, step_calm tc] at en
    have ho : (t.run1 x).ops = t.ops + 1 := by
      rw [en, hf.ops]
      exact wrap64 (by omega) (by omega)
    refine ⟨by omega, by omega, ?_⟩
    rw [e]
    by_cases hre : t.ops = r
    · refine .inr ⟨by omega, hre, ?_⟩
      have : r - t.ops = 0 := by omega
      rw [this]
      unfold Dk.step Dk.change Dk.withC
      simp
    · refine .inl ⟨by omega, ?_⟩
      unfold Dk.step Dk.change
      simp only [Dk.withC]
      have hne : ¬ (r - t.ops = 0) := by omega
      simp only [if_neg hne, if_true]
      have e1 : w64 (r - t.ops - 1) = r - (t.run1 x).ops := by
        rw [ho]
        have : w64 (r - t.ops - 1) = r - t.ops - 1 := wrap64 (by omega) (by omega)
        omega
      rw [e1, en]
      exact hf.withC { t with ops := w64 (t.ops + 1) } _

set_option maxHeartbeats 4000000 in
theorem DiskCrashes_ok {quota p keep : Int} {script : Sl} {xs : List StepV} {H : Heap} {K : Bool → Heap → Prop} (hq : quota ≤ 9223372036854775807) (hx : RdE EStep H script.a xs) (hn : script.n = xs.length) (hcap : script.n ≤ script.c) (hf : ∀ x ∈ xs, StepV.fine x)
    (hK : ∀ H', Mod (fun _ => False) H H' → K true H') : fathomlaw01_DiskCrashes.sp quota script p keep H K := by
  refine fathomlaw01_DiskCrashes.of ?_
  unfold fathomlaw01_DiskCrashes.vc
  refine br_mk (fun _ => hK H (.refl _ _)) (fun hl => ?_)
  have hl' : xs.length ≤ 60 := by
    have : ¬ ((script.n : Int) > 60) := by simpa using hl
    omega
  refine Pick_ok (by omega) ?_
  rw [if_neg (by omega)]
  have hr0 : 0 ≤ p.emod 60 := Int.emod_nonneg _ (by decide)
  have hr1 : p.emod 60 < 60 := Int.emod_lt_of_pos _ (by decide)
  generalize p.emod 60 = r at *
  refine New_ok hq fun F0 da H1 a0 m1 f0 => ?_
  refine New_ok hq fun G0 db H2 b0 m2 g0 => ?_
  have lt0 := a0.lt
  have z1 := m1.size
  refine Crash_ok b0 (by omega) fun G1 H3 b1 t1 => ?_
  have eC : (dk0 quota).setCrash r keep = (dk0 quota).withC (some (r - (dk0 quota).ops, keep)) := by
    unfold Dk.setCrash Dk.withC
    have h1 : (dk0 quota).down = false := rfl
    have h2 : (dk0 quota).ops = 0 := rfl
    rw [h1, h2]
    simp only [Bool.false_eq_true, if_false]
    have : max r 0 = r - 0 := by omega
    rw [this]
  rw [eC] at b1
  have a3 : DiskAt F0 H3 da (dk0 quota) := (a0.keep fun b hb hbl => m2.same b hbl id).keep fun b hb hbl => t1.mod.same b hbl fun h => by have := g0 b h; have := lt0 b hb; omega
  have g0H : ∀ b, G0 b → H.size ≤ b := fun b hb => by have := g0 b hb; omega
  have M3 := (m1.trans m2).grow t1.mod g0H
  have g1H := t1.fresh g0H (m1.trans m2).size
  have dj0 : ∀ b, F0 b → ¬ G1 b := fun b hb h => by
    have h1 := lt0 b hb
    rcases t1.own b h with q | q
    · have := g0 b q; omega
    · have := m2.size; omega
  refine loop_upto xs.length (fun k i A => i = (k : Int) ∧ ∃ FA FB t, DiskAt FA A da t ∧ DiskAt FB A db (t.withC (some (r - t.ops, keep))) ∧ (∀ b, FA b → ¬ FB b) ∧ (∀ b, FA b → H.size ≤ b) ∧ (∀ b, FB b → H.size ≤ b) ∧ Mod (fun _ => False) H A ∧ t.Calm ∧ t.Nm ∧ t.files.length ≤ k ∧ t.logs ≤ k ∧ 0 ≤ t.ops ∧ t.ops ≤ r)
    ⟨rfl, F0, G1, dk0 quota, a3, b1, dj0, f0, g1H, M3, dk0_calm quota, dk0_nm quota, Nat.le_refl _, Nat.le_refl _, by show (0 : Int) ≤ 0; omega, hr0⟩ ?_
  rintro k _ A next hk ⟨rfl, FA, FB, t, a, b, dj, fa, fb, mA, tc, tn, tl, tg, to, tr⟩ hnext
  refine br_mk (fun hc => ?_) (fun hc => ?_)
  · have hlt : k < xs.length := by rw [hn] at hc; simpa using hc
    have hw : IntKind.i64.wrap ((k : Int) + 1) = ((k + 1 : Nat) : Int) := succ64 k (by omega)
    simp only [hw]
    have lta := a.lt; have ltb := b.lt
    have hzA := mA.size
    refine Copy_ok a (by omega) fun FK pk A1 c1 n1 fk => ?_
    have zn1 := n1.size
    refine ⟨⟨by omega, by omega⟩, ⟨by omega, by omega⟩, ?_⟩
    have a1 : DiskAt FA A1 da t := a.keep fun q hq hql => n1.same q hql id
    have hfx : ∀ x ∈ [xs[k]], StepV.fine x := by intro x hx; simp at hx; subst hx; exact hf _ (List.getElem_mem hlt)
    refine run_ok (xs := [xs[k]]) a1 (one_slice hx hlt (by omega)) (by simp) hfx (mA.trans n1) fa (by simp; omega) fun FA2 A2 a2 t2 => ?_
    have eu : t.runs [xs[k]] = t.run1 xs[k] := rfl
    rw [eu] at a2
    have zt2 := t2.mod.size
    have mA2 := (mA.trans n1).grow t2.mod fa
    have fa2 := t2.fresh fa (by omega)
    have b2 : DiskAt FB A2 db _ := (b.keep fun q hq hql => n1.same q hql id).keep fun q hq hql => t2.mod.same q hql fun h => dj q h hq
    have c2 : DiskAt FK A2 pk t := c1.keep fun q hq hql => t2.mod.same q hql fun h => by have := lta q h; have := fk q hq; omega
    refine ⟨⟨by omega, by omega⟩, ⟨by omega, by omega⟩, ?_⟩
    have hlW : (t.withC (some (r - t.ops, keep))).logs = t.logs := rfl
    refine run_ok (xs := [xs[k]]) b2 (one_slice hx hlt (by omega)) (by simp) hfx mA2 fb (by simp; omega) fun FB2 A3 b3 t3 => ?_
    have ev : (t.withC (some (r - t.ops, keep))).runs [xs[k]] = (t.withC (some (r - t.ops, keep))).run1 xs[k] := rfl
    rw [ev] at b3
    have lta2 := a2.lt
    have djA : ∀ q, FA2 q → ¬ FB q := fun q hq h => by
      rcases t2.own q hq with h1 | h1
      · exact dj q h1 h
      · have := ltb q h; omega
    have a3 : DiskAt FA2 A3 da _ := a2.keep fun q hq hql => t3.mod.same q hql fun h => djA q hq h
    have c3 : DiskAt FK A3 pk t := c2.keep fun q hq hql => t3.mod.same q hql fun h => by have := ltb q h; have := fk q hq; omega
    have mA3 := mA2.grow t3.mod fb
    have fb3 := t3.fresh fb mA2.size
    have dj3 : ∀ q, FA2 q → ¬ FB2 q := fun q hq h => by
      rcases t3.own q h with h1 | h1
      · exact djA q hq h1
      · have := lta2 q hq; omega
    obtain ⟨uc, uo, uo2, htw⟩ := twin (keep := keep) tc to tr (by omega) xs[k]
    have un := Dk.run1_nm (x := xs[k]) tn
    have ul := t.run1_len xs[k]
    have ug := t.run1_logs xs[k]
    generalize t.run1 xs[k] = u at *
    generalize hv : (t.withC (some (r - t.ops, keep))).run1 xs[k] = v at *
    refine Ops_ok a3 ?_
    rcases htw with ⟨hur, rfl⟩ | ⟨hur, htr, rfl⟩
    · refine br_f (by simp; omega) ?_
      refine Down_ok b3 (br_f uc.down ?_)
      refine Ops_ok a3 (Ops_ok b3 (br_f (by simp [Dk.withC]) ?_))
      refine files_ok a3 un fun A4 n4 => ?_
      have b4 : DiskAt FB2 A4 db _ := b3.keep fun q hq hql => n4.same q hql id
      refine files_ok b4 un fun A5 n5 => ?_
      have et : (u.withC (some (r - u.ops, keep))).text = u.text := rfl
      rw [et]
      refine br_f (by simp) ?_
      exact hnext hlt _ _ ⟨rfl, FA2, FB2, u, (a3.keep fun q hq hql => n4.same q hql id).keep fun q hq hql => n5.same q hql id, b4.keep fun q hq hql => n5.same q hql id, dj3, fa2, fb3, (mA3.trans n4).trans n5, uc, un, by omega, by omega, uo, hur⟩
    · refine br_t (by simpa using hur) ?_
      refine Down_ok b3 (br_f rfl ?_)
      refine Ops_ok b3 (br_f (by simp [Dk.withC, htr]) ?_)
      refine Ops_ok c3 (br_f (by simp [htr]) ?_)
      have ltb3 := b3.lt
      refine Crash_ok c3 (by omega) fun K1 B1 d1 u1 => ?_
      rw [Dk.setCrash0 tc] at d1
      have fkH : ∀ q, FK q → A.size ≤ q := fk
      have djK : ∀ q, FB2 q → ¬ FK q := fun q hq h => by
        have h2 := fk q h
        rcases t3.own q hq with h1 | h1
        · have := ltb q h1; omega
        · have := c2.lt q h; omega
      have b4 : DiskAt FB2 B1 db _ := b3.keep fun q hq hql => u1.mod.same q hql fun h => djK q hq h
      have fkHH : ∀ q, FK q → H.size ≤ q := fun q hq => by have := fk q hq; omega
      have M1 := mA3.grow u1.mod fkHH
      have fk1 := u1.fresh fkHH mA3.size
      have djK1 : ∀ q, FB2 q → ¬ K1 q := fun q hq h => by
        rcases u1.own q h with h1 | h1
        · exact djK q hq h1
        · have := ltb3 q hq; omega
      have hll : t.list.length ≤ 61 := by
        unfold Dk.list
        split
        · simp
        · rw [(List.mergeSort_perm _ _).length_eq]; simp; omega
      refine own_ok d1 fun j B2 hj hjn m2 => ?_
      have hls : (t.withC (some (0, keep))).list = t.list := rfl
      have hj' : ownN j ∉ (t.withC (some (0, keep))).list := hj
      rw [hls] at hjn
      refine Create_ok (d1.keep fun q hq hql => m2.same q hql id) fun K3 B3 d3 u3 => ?_
      have ec := own_create (s := t.withC (some (0, keep))) (k := keep) (j := j) tc.down rfl hj' (by omega) (by show t.files.length < 4096; omega)
      rw [ec] at d3
      have b5 : DiskAt FB2 B3 db _ := (b4.keep fun q hq hql => m2.same q hql id).keep fun q hq hql => u3.mod.same q hql fun h => djK1 q hq h
      have M3 := (M1.trans m2).grow u3.mod fk1
      have fk3 := u3.fresh fk1 (M1.trans m2).size
      have ltb4 := b4.lt
      have djK3 : ∀ q, FB2 q → ¬ K3 q := fun q hq h => by
        rcases u3.own q h with h1 | h1
        · exact djK1 q hq h1
        · have := ltb4 q hq; have := m2.size; omega
      have hlW2 : ({ t.withC (some (0, keep)) with down := true } : Dk).logs = t.logs := rfl
      refine Restart_ok d3 (by rw [hlW2]; omega) fun K4 B4 d4 u4 => ?_
      rw [fall_restart] at d4
      have b6 : DiskAt FB2 B4 db _ := b5.keep fun q hq hql => u4.mod.same q hql fun h => djK3 q hq h
      have M4 := M3.grow u4.mod fk3
      have ltb6 := b6.lt
      have ltd4 := d4.lt
      have ltb5 := b5.lt
      have djK4 : ∀ q, K4 q → ¬ FB2 q := fun q hq h => by
        rcases u4.own q hq with h1 | h1
        · exact djK3 q h h1
        · have := ltb5 q h; omega
      refine Restart_ok b6 (by rw [hlW2]; omega) fun FB5 B5 b7 u5 => ?_
      rw [fall_restart] at b7
      have d5 : DiskAt K4 B5 pk _ := d4.keep fun q hq hql => u5.mod.same q hql fun h => djK4 q hq h
      have M5 := M4.grow u5.mod fb3
      refine files_ok d5 (fall_nm tn) fun B6 n6 => ?_
      have b8 : DiskAt FB5 B6 db _ := b7.keep fun q hq hql => n6.same q hql id
      refine files_ok b8 (fall_nm tn) fun B7 n7 => ?_
      refine br_t (by simp) ?_
      refine Used_ok (b8.keep fun q hq hql => n7.same q hql id) ?_
      refine Used_ok ((d5.keep fun q hq hql => n6.same q hql id).keep fun q hq hql => n7.same q hql id) ?_
      refine br_t (by simp) ?_
      exact works_ok fun B8 n8 => hK B8 (((M5.trans n6).trans n7).trans n8)
  · exact works_ok fun B e => hK B (mA.trans e)

end Go.Proofs.YtnmaojkkfbajcaaGreat
