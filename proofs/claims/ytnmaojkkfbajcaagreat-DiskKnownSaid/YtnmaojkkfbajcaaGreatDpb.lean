/-
  DiskPlays: whatever the script, both disks tell the same.
-/
import Derived.Test.YtnmaojkkfbajcaaGreatDpa
namespace Go.Proofs.YtnmaojkkfbajcaaGreat
open Go.MapKept

abbrev StepV := Int × ByteArray × ByteArray × Int × Int × Bool × Int
def EStep : Enc StepV := ⟨7, fun x => [.int .i64 x.1, .string x.2.1, .string x.2.2.1, .int .i64 x.2.2.2.1, .int .u8 x.2.2.2.2.1, .bool x.2.2.2.2.2.1, .int .u64 x.2.2.2.2.2.2], fun _ => rfl, fun x u hu => by simp at hu; rcases hu with rfl | rfl | rfl | rfl | rfl | rfl | rfl <;> rfl⟩
/-- A step whose numbers are of their kinds. -/
def StepV.fine (x : StepV) : Prop := (0 ≤ x.2.2.2.2.1 ∧ x.2.2.2.2.1 < 256) ∧ x.2.2.2.1 ≤ 9223372036854775807

theorem Mod.grow {G : Nat → Prop} {H A B : Heap} (h : Mod (fun _ => False) H A) (k : Mod G A B) (hG : ∀ b, G b → H.size ≤ b) : Mod (fun _ => False) H B :=
  ⟨Nat.le_trans h.size k.size, fun b hb _ => (k.same b (Nat.lt_of_lt_of_le hb h.size) fun hh => by have := hG b hh; omega).trans (h.same b hb id)⟩

/-- A pair, out of the blocks 'H' had. -/
def Pair (k : Nat) (H A : Heap) (G : Nat → Prop) (a b : Option Addr) : Prop := ∃ d m s, a = at0 d ∧ b = at0 m ∧ Both G A d m s ∧ s.logs ≤ k ∧ ∀ q, G q → H.size ≤ q
theorem Pair.ext {k : Nat} {H A B : Heap} {G : Nat → Prop} {a b : Option Addr} (h : Pair k H A G a b) (e : Mod (fun _ => False) A B) : Pair k H B G a b := by
  obtain ⟨d, m, s, h1, h2, h3, h4⟩ := h
  exact ⟨d, m, s, h1, h2, h3.keep fun q _ hl => e.same q hl id, h4⟩
theorem Pair.lt {k : Nat} {H A : Heap} {G : Nat → Prop} {a b : Option Addr} (h : Pair k H A G a b) : ∀ q, G q → q < A.size := by
  obtain ⟨d, m, s, h1, h2, h3, h4⟩ := h
  exact h3.lt
theorem Pair.mono {k k' : Nat} {H A : Heap} {G : Nat → Prop} {a b : Option Addr} (h : Pair k H A G a b) (hk : k ≤ k') : Pair k' H A G a b := by
  obtain ⟨d, m, s, h1, h2, h3, h4, h5⟩ := h
  exact ⟨d, m, s, h1, h2, h3, by omega, h5⟩
theorem Pair.some {k : Nat} {H A : Heap} {G : Nat → Prop} {a b : Option Addr} (h : Pair k H A G a b) : a.isNone = false := by
  obtain ⟨d, m, s, rfl, h2, h3, h4⟩ := h; rfl
theorem Pair.tells {k : Nat} {H A : Heap} {G : Nat → Prop} {a b : Option Addr} {K : Bool → Heap → Prop} (h : Pair k H A G a b) (hk : k ≤ 200) (hK : ∀ B, Mod (fun _ => False) A B → K true B) : fathomlaw01_tells.sp a b A K := by
  obtain ⟨d, m, s, rfl, rfl, h3, h4, h5⟩ := h
  exact tells_ok h3 (by omega) hK

/-- A pair may be set aside. -/
def Left (k : Nat) (H A : Heap) (G : Nat → Prop) (a b : Option Addr) : Prop := a = none ∨ ∃ G2, Pair k H A G2 a b ∧ ∀ q, G q → ¬ G2 q
theorem Left.ext {k : Nat} {H A B : Heap} {G : Nat → Prop} {a b : Option Addr} (h : Left k H A G a b) (e : Mod (fun _ => False) A B) : Left k H B G a b :=
  h.imp id fun ⟨G2, h1, h2⟩ => ⟨G2, h1.ext e, h2⟩
theorem Left.mono {k k' : Nat} {H A : Heap} {G : Nat → Prop} {a b : Option Addr} (h : Left k H A G a b) (hk : k ≤ k') : Left k' H A G a b :=
  h.imp id fun ⟨G2, h1, h2⟩ => ⟨G2, h1.mono hk, h2⟩
theorem Left.step {k : Nat} {H A B : Heap} {G G' : Nat → Prop} {a b : Option Addr} (h : Left k H A G a b) (e : Step G G' A B) : Left k H B G' a b := by
  refine h.imp id fun ⟨G2, h1, h2⟩ => ⟨G2, ?_, fun q hq h3 => ?_⟩
  · obtain ⟨d, m, s, h5, h6, h7, h8⟩ := h1
    exact ⟨d, m, s, h5, h6, h7.keep fun q hq hl => e.mod.same q hl fun hh => h2 q hh hq, h8⟩
  · rcases e.own q hq with h4 | h4
    · exact h2 q h4 h3
    · have := h1.lt q h3; omega
/-- The pair set aside is told of, if there is one. -/
theorem Left.tells {k : Nat} {H A : Heap} {G : Nat → Prop} {a b : Option Addr} {N : Heap → Prop} {F : Heap → Prop} (h : Left k H A G a b) (hk : k ≤ 200) (hN : ∀ B, Mod (fun _ => False) A B → N B) :
    br (!a.isNone) (fathomlaw01_tells.sp a b A fun r B => br (!r) (F B) (N B)) (N A) := by
  rcases h with rfl | ⟨G2, h1, _⟩
  · exact br_f rfl (hN A (.refl _ _))
  · refine br_t (by rw [h1.some]; rfl) (h1.tells hk fun B e => br_f rfl (hN B e))

/-- What holds at the head of each round. -/
def Held (k : Nat) (H A : Heap) (d m a b : Option Addr) (i : Int) : Prop := i = (k : Int) ∧ Mod (fun _ => False) H A ∧ ∃ G, Pair k H A G d m ∧ Left k H A G a b

section
variable {xs : List StepV} {p1 : Sl} {H A : Heap} {k : Nat} {d m a b : Option Addr} {i : Int} {F : Heap → Prop} {N : (Option Addr × Option Addr × Option Addr × Option Addr × Int) → Heap → Prop}

/-- A round in which the pair is played on. -/
theorem round_ok (hx : RdE EStep H p1.a xs) (hn : p1.n = xs.length) (hl : xs.length ≤ 120) (hf : ∀ x ∈ xs, StepV.fine x) (hk : k < xs.length) (h : Held k H A d m a b i) {r : Int} (hnext : ∀ d' m' a' b' i' A', Held (k + 1) H A' d' m' a' b' i' → N (d', m', a', b', i') A') :
    br (decide (r < (9 : Int))) (optK p1.a fun a_1 => (0 ≤ i ∧ i < (p1.n : Int)) ∧ ldA (cAgg [(cInt .i64), cStr, cStr, (cInt .i64), (cInt .u8), cBool, (cInt .u64)]) 7 A (a_1.add (i.toNat * 7)) fun (x_1 : (Int × ByteArray × ByteArray × Int × Int × Bool × Int)) => fathomlaw01_plays.sp d m x_1.1 x_1.2.1 x_1.2.2.1 x_1.2.2.2.1 x_1.2.2.2.2.1 x_1.2.2.2.2.2.1 x_1.2.2.2.2.2.2 A fun (r_9 : Bool) H11 => br (!r_9) (F H11) (fathomlaw01_tells.sp d m H11 fun (r_10 : Bool) H12 => br (!r_10) (F H12) (br (!a.isNone) (fathomlaw01_tells.sp a b H12 fun (r_11 : Bool) H13 => br (!r_11) (F H13) (N (d, m, a, b, IntKind.i64.wrap (i + (1 : Int))) H13)) (N (d, m, a, b, IntKind.i64.wrap (i + (1 : Int))) H12))))
      (fathomlaw01_tells.sp d m A fun (r_12 : Bool) H14 => br (!r_12) (F H14) (br (!a.isNone) (fathomlaw01_tells.sp a b H14 fun (r_13 : Bool) H15 => br (!r_13) (F H15) (N (d, m, a, b, IntKind.i64.wrap (i + (1 : Int))) H15)) (N (d, m, a, b, IntKind.i64.wrap (i + (1 : Int))) H14))) := by
  obtain ⟨rfl, hm, G, hp, hL⟩ := h
  have hw : IntKind.i64.wrap ((k : Int) + 1) = ((k + 1 : Nat) : Int) := succ64 k (by omega)
  refine br_mk (fun _ => ?_) (fun _ => ?_)
  · have hx1 : RdE EStep A p1.a xs := Reads.mod hx hm fun _ _ => id
    obtain ⟨ad, ha⟩ := RdE.addr hx1 (by decide) (by omega)
    have hxk : xs[k]? = some xs[k] := List.getElem?_eq_getElem hk
    rw [ha]
    refine ⟨⟨by omega, by omega⟩, ?_⟩
    rw [Int.toNat_natCast]
    refine RdE.ldA (E := EStep) (c := cAgg [(cInt .i64), cStr, cStr, (cInt .i64), (cInt .u8), cBool, (cInt .u64)]) (y := xs[k]) hx1 ha hxk rfl rfl rfl ?_
    obtain ⟨h4, h3⟩ := hf _ (List.getElem_mem hk)
    obtain ⟨d, m, s, rfl, rfl, hB, hlog, hG⟩ := hp
    refine plays_ok hB (by omega) h4 h3 fun G' A' hB' hS => br_f rfl ?_
    have hlog' := s.play_logs ((xs[k].1).emod 11) xs[k].2.1 xs[k].2.2.1 xs[k].2.2.2.1 xs[k].2.2.2.2.1 xs[k].2.2.2.2.2.1 xs[k].2.2.2.2.2.2
    have hm' := hm.grow hS.mod hG
    have hp' : Pair (k + 1) H A' G' (at0 d) (at0 m) := ⟨d, m, _, rfl, rfl, hB', by omega, fun q hq => by
      rcases hS.own q hq with h | h
      · exact hG q h
      · have := hm.size; omega⟩
    have hL' := (hL.step hS).mono (Nat.le_succ k)
    refine hp'.tells (by omega) fun B e => br_f rfl ((hL'.ext e).tells (by omega) fun C e2 => hnext _ _ _ _ _ _ ⟨hw, ?_, G', (hp'.ext e).ext e2, (hL'.ext e).ext e2⟩)
    exact (hm'.trans e).trans e2
  · refine hp.tells (by omega) fun B e => br_f rfl ((hL.ext e).tells (by omega) fun C e2 => hnext _ _ _ _ _ _ ⟨hw, (hm.trans e).trans e2, G, ((hp.ext e).ext e2).mono (Nat.le_succ k), ((hL.ext e).ext e2).mono (Nat.le_succ k)⟩)
end

theorem both_copy {G : Nat → Prop} {H : Heap} {d m : Nat} {s : Dk} {K : Option Addr → Option Addr → Heap → Prop} (h : Both G H d m s) (hl : s.logs < 34359738368) (hK : ∀ G' d' m' H', Both G' H' d' m' s → Mod (fun _ => False) H H' → (∀ b, G' b → H.size ≤ b) → K (at0 d') (at0 m') H') :
    disk_Disk_Copy.sp (at0 d) H fun r H1 => fathomref01_Disk_Copy.sp (at0 m) H1 fun r1 H2 => K r r1 H2 := by
  obtain ⟨F1, F2, h1, h2, h3, hG⟩ := h
  refine Copy_ok h1 (by omega) fun F1' p H1 a1 m1 f1 => ?_
  refine RCopy_ok (h2.keep fun b hb hbl => m1.same b hbl id) (by omega) fun F2' q H2 a2 m2 f2 => ?_
  have l1 := a1.lt
  refine hK (fun b => F1' b ∨ F2' b) p q H2 ⟨F1', F2', a1.keep fun b hb hbl => m2.same b hbl id, a2, fun b hb hf => ?_, fun _ => Iff.rfl⟩ (m1.trans m2) ?_
  · have := f2 b hf; have := l1 b hb; omega
  · have := m1.size
    rintro b (q | q)
    · exact f1 b q
    · have := f2 b q; omega

set_option maxHeartbeats 1000000 in
theorem DiskPlays_ok {p : Int} {p1 : Sl} {xs : List StepV} {H : Heap} {K : Bool → Heap → Prop} (hq : p ≤ 9223372036854775807) (hx : RdE EStep H p1.a xs) (hn : p1.n = xs.length) (hf : ∀ x ∈ xs, StepV.fine x)
    (hK : ∀ H', Mod (fun _ => False) H H' → K true H') : fathomlaw01_DiskPlays.sp p p1 H K := by
  refine fathomlaw01_DiskPlays.of ?_
  unfold fathomlaw01_DiskPlays.vc
  refine br_mk (fun _ => hK H (.refl _ _)) (fun hl => ?_)
  have hl' : xs.length ≤ 120 := by rw [← hn]; have : ¬ ((p1.n : Int) > 120) := by simpa using hl
                                   omega
  refine New_ok hq fun F1 d0 H1 a1 m1 f1 => ?_
  refine RNew_ok hq fun F2 r0 H2 a2 m2 f2 => ?_
  have hlt1 := a1.lt
  have z1 := m1.size; have z2 := m2.size
  have hm2 : Mod (fun _ => False) H H2 := m1.trans m2
  have hP0 : Pair 0 H H2 (fun b => F1 b ∨ F2 b) (at0 d0) (at0 r0) := ⟨d0, r0, dk0 p, rfl, rfl, ⟨F1, F2, a1.keep fun b hb hbl => m2.same b hbl id, a2, fun b hb hb2 => by have := f2 b hb2; have := hlt1 b hb; omega, fun _ => Iff.rfl⟩, by simp [Dk.logs, dk0], by
    rintro b (h | h)
    · exact f1 b h
    · have := f2 b h; omega⟩
  refine loop_upto xs.length (fun k z A => Held k H A z.1 z.2.1 z.2.2.1 z.2.2.2.1 z.2.2.2.2) ⟨rfl, hm2, _, hP0, .inl rfl⟩ ?_
  rintro k ⟨d, m, a, b, i⟩ A next hk hI hnext
  have hI' : Held k H A d m a b i := hI
  have hnx : ∀ (hlt : k < xs.length) d' m' a' b' i' A', Held (k + 1) H A' d' m' a' b' i' → next (d', m', a', b', i') A' := fun hlt _ _ _ _ _ _ q => hnext hlt _ _ q
  clear hI hnext
  obtain ⟨hi, hm, G, hp, hL⟩ := hI'
  show br (decide (i < (p1.n : Int))) _ _
  refine br_mk (fun hc => ?_) (fun hc => ?_)
  · have hlt : k < xs.length := by rw [hi, hn] at hc; simpa using hc
    have hw : IntKind.i64.wrap ((k : Int) + 1) = ((k + 1 : Nat) : Int) := succ64 k (by omega)
    show br d.isNone _ _
    refine br_f hp.some ?_
    have hx1 : RdE EStep A p1.a xs := Reads.mod hx hm fun _ _ => id
    obtain ⟨ad, ha⟩ := RdE.addr hx1 (by decide) (by omega)
    have hxk : xs[k]? = some xs[k] := List.getElem?_eq_getElem hlt
    have hld : ∀ {Q : Int → Prop}, Q xs[k].1 → optK p1.a fun a => (0 ≤ i ∧ i < (p1.n : Int)) ∧ ld (cInt .i64) A ((a.add (i.toNat * 7)).add 0) Q := by
      intro Q hQ
      rw [ha]
      refine ⟨⟨by omega, by omega⟩, ?_⟩
      rw [hi, Int.toNat_natCast]
      exact RdE.ld (E := EStep) (c := cInt .i64) (y := xs[k].1) hx1 ha hxk rfl rfl hQ
    refine hld ?_
    refine Pick_ok (by omega) ?_
    rw [if_neg (by omega)]
    refine br_mk (fun _ => ?_) (fun _ => ?_)
    · -- a copy
      have hp2 := hp
      obtain ⟨dn, mn, s, rfl, rfl, hB, hlog, hG⟩ := hp2
      refine both_copy (K := fun r r1 A' => fathomlaw01_tells.sp r r1 A' _) hB (by omega) fun G' d' m' A1 hB' e1 fr => ?_
      have hz := hm.size
      have hpN : Pair k H A1 G' (at0 d') (at0 m') := ⟨d', m', s, rfl, rfl, hB', hlog, fun q hq => by have := fr q hq; omega⟩
      have hpO : Pair k H A1 G (at0 dn) (at0 mn) := hp.ext e1
      refine hpN.tells (by omega) fun A2 e2 => br_f rfl ?_
      refine br_t rfl ?_
      refine (hpO.ext e2).tells (by omega) fun A3 e3 => br_f rfl ?_
      refine hnx hlt _ _ _ _ _ _ ⟨by rw [hi]; exact hw, ((hm.trans e1).trans e2).trans e3, G', ((hpN.ext e2).ext e3).mono (Nat.le_succ k), .inr ⟨G, ((hpO.ext e2).ext e3).mono (Nat.le_succ k), fun q hq hg => ?_⟩⟩
      have := fr q hq; have := hp.lt q hg; omega
    · refine br_mk (fun _ => ?_) (fun _ => ?_)
      · show br (!a.isNone) _ _
        rcases hL with rfl | ⟨G2, hp2, hdj⟩
        · refine br_f rfl ?_
          exact round_ok (F := K false) (N := next) hx hn hl' hf hlt ⟨hi, hm, G, hp, .inl rfl⟩ (hnx hlt)
        · refine br_t (by rw [hp2.some]; rfl) ?_
          refine hp2.tells (by omega) fun A1 e1 => br_f rfl ?_
          show br (!d.isNone) _ _
          refine br_t (by rw [hp.some]; rfl) ?_
          refine (hp.ext e1).tells (by omega) fun A2 e2 => br_f rfl ?_
          exact hnx hlt _ _ _ _ _ _ ⟨by rw [hi]; exact hw, (hm.trans e1).trans e2, G2, ((hp2.ext e1).ext e2).mono (Nat.le_succ k), .inr ⟨G, ((hp.ext e1).ext e2).mono (Nat.le_succ k), fun q h2 h1 => hdj q h1 h2⟩⟩
      · exact round_ok (F := K false) (N := next) hx hn hl' hf hlt ⟨hi, hm, G, hp, hL⟩ (hnx hlt)
  · -- the end
    show br d.isNone _ _
    refine br_f hp.some ?_
    obtain ⟨d, m, s0, rfl, rfl, hB0, hlog, hG⟩ := hp
    obtain ⟨E1, E2, b1, b2, g1, g2, go⟩ := both_step s0.restart hB0
    refine Restart_ok b1 (by omega) fun F1' A1 c1 t1 => ?_
    obtain ⟨b2', go2⟩ := go F1' A1 c1 t1
    refine RRestart_ok b2' (by omega) fun F2' A2 c2 t2 => ?_
    obtain ⟨G', hB, hS⟩ := go2 F2' A2 c2 t2
    have hlr := s0.restart_logs
    generalize s0.restart = s at *
    have hz := hm.size
    have hG' : ∀ q, G' q → H.size ≤ q := fun q hq => by
      rcases hS.own q hq with h | h
      · exact hG q h
      · omega
    have hmA := hm.grow hS.mod hG
    refine loop_upto s.files.length (fun j z B => z = (j : Int) ∧ Mod (fun _ => False) H B ∧ ∃ G, Both G B d m s ∧ ∀ q, G q → H.size ≤ q) ⟨rfl, hmA, G', hB, hG'⟩ ?_
    rintro j _ B next1 hj ⟨rfl, hmB, G1, hB1, hG1⟩ hnext1
    simp only [optK_eq]
    have hB1' := hB1
    obtain ⟨E1, E2, b1, b2, dj, hGE⟩ := hB1'
    obtain ⟨fl, gs, cin, kp, g, hF2⟩ := b2
    refine g.head.ld (c := cSl) (i := 0) (x := fl) rfl ?_
    have w1 := g.wf.used; have w2 := g.wf.most; have w3 := g.wf.quota; have w4 := g.wf.files
    refine br_mk (fun hc => ?_) (fun hc => ?_)
    · have hjl : j < s.files.length := by rw [g.files.n] at hc; simpa using hc
      have hfj : s.files[j]? = some s.files[j] := List.getElem?_eq_getElem hjl
      obtain ⟨gg, hgg, q1, q2⟩ := g.files.gAt hfj
      have hpl := Dk.pages_le hfj; have hll := Dk.log_le hfj
      refine g.head.ld (c := cSl) (i := 0) (x := fl) rfl ?_
      refine g.files.ld3 hfj hgg ?_
      refine Pages_ok q1 q2 (by omega) (by omega) fun l B2 o2 e2 f2 => ?_
      have hln := o2.n (by decide)
      refine loop_upto ((s.files[j]).pages.length + 1) (fun k z C => z = (k : Int) ∧ Mod (fun _ => False) H C ∧ ∃ G, Both G C d m s ∧ ∀ q, G q → H.size ≤ q) ⟨rfl, hmB.trans e2, G1, hB1.keep fun b _ hbl => e2.same b hbl id, hG1⟩ ?_
      rintro k2 _ C next2 hk2 ⟨rfl, hmC, G2, hB2, hG2⟩ hnext2
      refine br_mk (fun hc2 => ?_) (fun hc2 => ?_)
      · have hk2' : k2 < (s.files[j]).pages.length + 1 := by
          have : (k2 : Int) ≤ (l.n : Int) := by simpa using hc2
          omega
        have hB2' := hB2
        obtain ⟨E1, E2, c1, c2, dj, hGE⟩ := hB2'
        obtain ⟨fl2, gs2, cin2, kp2, g2, hF2⟩ := c2
        obtain ⟨gg2, hgg2, _, _⟩ := g2.files.gAt hfj
        refine g2.head.ld (c := cSl) (i := 0) (x := fl2) rfl ?_
        refine g2.files.ld1 (c := cStr) (j := 0) (y := (s.files[j]).name) hfj hgg2 rfl ?_
        refine plays_ok hB2 (by omega) (by omega) (by omega) fun G3 D hB3 hS3 => br_f rfl ?_
        have e : s.play ((2 : Int).emod 11) (s.files[j]).name ByteArray.empty (k2 : Int) 0 false 0 = s := by
          unfold Dk.play; rfl
        rw [e] at hB3
        have hzC := hmC.size
        refine hnext2 hk2' _ _ ⟨succ64 k2 (by omega), hmC.grow hS3.mod hG2, G3, hB3, fun q hq => ?_⟩
        rcases hS3.own q hq with h | h
        · exact hG2 q h
        · omega
      · exact hnext1 hjl _ _ ⟨succ64 j (by omega), hmC, G2, hB2, hG2⟩
    · refine tells_ok hB1 (by omega) fun C e => br_t rfl ?_
      exact works_ok fun D e2 => hK D ((hmB.trans e).trans e2)

end Go.Proofs.YtnmaojkkfbajcaaGreat
