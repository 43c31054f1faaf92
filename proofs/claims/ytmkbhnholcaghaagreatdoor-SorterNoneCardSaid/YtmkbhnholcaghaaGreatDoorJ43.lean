/-
 SorterNone: for every input the law returns true, and its arguments read as before; the tables are laid as the program's text lays them. No condition beside that.
-/
import Derived.Test.YtmkbhnholcaghaaGreatDoorPkr
import Derived.Test.YtmkbhnholcaghaaGreatDoorFxn
import Derived.Test.YtmkbhnholcaghaaGreatDoorFxt
import Derived.Test.YtmkbhnholcaghaaGreatDoorJ33
import Derived.Test.YtmkbhnholcaghaaGreatDoorJ34
import Derived.Test.YtmkbhnholcaghaaGreatDoorJ37
import Derived.Test.YtmkbhnholcaghaaGreatDoorJ39
import Derived.Test.YtmkbhnholcaghaaGreatDoorJ42
/-
 The sorter over several files, in plain words: the run holds the rows that were added, rising, each once.
-/
namespace Go.Proofs.YtmkbhnholcaghaaGreatDoor
theorem up_ext : ∀ {l r : List (List Int)}, l.Pairwise (fun x y => cmpL x y < 0) → r.Pairwise (fun x y => cmpL x y < 0) → (∀ y, y ∈ l ↔ y ∈ r) → l = r
 | [], [], _, _, _ => rfl
 | [], b :: r, _, _, h => absurd ((h b).2 List.mem_cons_self) (by simp)
 | a :: l, [], _, _, h => absurd ((h a).1 List.mem_cons_self) (by simp)
 | a :: l, b :: r, hl, hr, h => by
   obtain ⟨l1, l2⟩ := List.pairwise_cons.1 hl
   obtain ⟨r1, r2⟩ := List.pairwise_cons.1 hr
   have irr : ∀ x : List Int, ¬ cmpL x x < 0 := fun x => by rw [cmpL_self]; omega
   have e : a = b := by
    rcases List.mem_cons.1 ((h a).1 List.mem_cons_self) with q | q
    ·exact q
    ·rcases List.mem_cons.1 ((h b).2 List.mem_cons_self) with u | u
     ·exact u.symm
     ·exact absurd (cmpL_trans (l1 b u) (r1 a q)) (irr a)
   subst e
   congr 1
   refine up_ext l2 r2 fun y => ⟨fun q => ?_, fun q => ?_⟩
   ·rcases List.mem_cons.1 ((h y).1 (List.mem_cons_of_mem _ q)) with u | u
    ·subst u; exact absurd (l1 _ q) (irr _)
    ·exact u
   ·rcases List.mem_cons.1 ((h y).2 (List.mem_cons_of_mem _ q)) with u | u
    ·subst u; exact absurd (r1 _ q) (irr _)
    ·exact u
theorem once_mem {y : List Int} {l : List (List Int)} : y ∈ onceL (srtL l) ↔ y ∈ l := onceL_mem.trans (srtL_perm _).mem_iff
theorem once_eq {l r : List (List Int)} (h : ∀ y, y ∈ l ↔ y ∈ r) : onceL (srtL l) = onceL (srtL r) :=
 up_ext (onceL_up (srtL_up _)) (onceL_up (srtL_up _)) fun y => by rw [once_mem, once_mem]; exact h y
theorem once_rise {W : Nat} {l : List (List Int)} (h : ∀ y ∈ l, y.length = W ∧ fitsL y) : Rise W (onceL (srtL l)) :=
 rise_of (onceL_up (srtL_up _)) (fun y hy => (h y (once_mem.1 hy)).1) (fun y hy => (h y (once_mem.1 hy)).2)
structure SoOn (s : So) (p : Pl) (M : Files) (Q U : Nat) (n : ByteArray) (W fr : Nat) (all : List (List Int)) (fs : List (ByteArray × List (List Int))) (k m most : Nat) : Prop where
 calm : CalmM p M Q U
 room : RoomyM M
 name : s.name = n
 width : s.width = W
 frames : s.frames = fr
 wrong : s.wrong = 0
 closed : s.closed = false
 side : s.side = fs.map (·.1)
 good : ∀ a ∈ fs, FileG M W a
 nodup : (fs.map (·.1)).Nodup
 names : ∀ x ∈ fs.map (·.1), ∃ i, i < s.next ∧ x = sideN n i
 only : ∀ a y, M a = some y → a ∈ fs.map (·.1)
 mem : ∀ y, y ∈ all ↔ y ∈ s.wait ∨ y ∈ fs.flatMap (·.2)
 fit : ∀ y ∈ all, y.length = W ∧ fitsL y
 used : U = pagesL W fs
 count : s.wait.length + (fs.flatMap (·.2)).length ≤ all.length
 next : s.next + fs.length ≤ k
 lo : 0 ≤ p.next
 hi : p.next ≤ m
 most : p.most = most
section
variable {s : So} {p : Pl} {M : Files} {Q U : Nat} {n : ByteArray} {W fr : Nat} {all : List (List Int)} {fs : List (ByteArray × List (List Int))} {k m most cap : Nat}
structure SoLe (n : ByteArray) (W fr Q cap : Nat) (all : List (List Int)) : Prop where
 width : W ≤ 16
 quota : Q ≤ 1048576
 many : 2 * all.length + cap + 2 < Q
 cap : cap ≤ 100
 big : all.length ≤ 300000
 name : 1 ≤ n.size ∧ n.size ≤ 90
 frames : 3 ≤ fr ∧ fr ≤ 4096
theorem SoLe.size (h : SoLe n W fr Q cap all) : n.size ≤ 9223372036854775807 ∧ ∀ i, i < 100 → (sideN n i).size ≤ 9223372036854775807 := by
 have := h.name
 refine ⟨by omega, fun i hi => ?_⟩
 have := (itoa_all i hi).2
 rw [sideN_size]; omega
theorem SoLe.named (h : SoLe n W fr Q cap all) : named n = true ∧ ∀ i, i < 100 → Go.Proofs.YtmkbhnholcaghaaGreatDoor.named (sideN n i) = true := by
 have := h.name
 refine ⟨?_, fun i hi => sideN_named hi (by omega)⟩
 unfold Go.Proofs.YtmkbhnholcaghaaGreatDoor.named
 simp only [Bool.and_eq_true, decide_eq_true_eq]
 omega
theorem SoOn.free (h : SoOn s p M Q U n W fr all fs k m most) (hi : s.next < 100) : M (sideN n s.next) = none := by
 cases e : M (sideN n s.next) with
 | none => rfl
 | some y =>
   obtain ⟨i, h1, h2⟩ := h.names _ (h.only _ _ e)
   have := sideN_inj hi (by omega) h2
   omega
theorem SoOn.freeN (h : SoOn s p M Q U n W fr all fs k m most) : M n = none := by
 cases e : M n with
 | none => rfl
 | some y =>
   obtain ⟨i, h1, h2⟩ := h.names _ (h.only _ _ e)
   exact absurd h2.symm (sideN_ne _ _)
theorem SoOn.le (h : SoOn s p M Q U n W fr all fs k m most) (b : SoLe n W fr Q cap all) : U ≤ fs.length + (fs.flatMap (·.2)).length := by
 rw [h.used]; exact pagesL_le b.width fs
theorem SoOn.aside (h : SoOn s p M Q U n W fr all fs k m most) (b : SoLe n W fr Q cap all) (hk : k + 2 ≤ cap) (hm : m < 1000000000000) :
  (s.aside p).2.2 = 0 ∧ ∃ M' U' L, SoOn (s.aside p).2.1 (s.aside p).1 M' Q U' n W fr all (fs ++ [(sideN n s.next, L)]) (k + 2) (m + (3 * all.length + 300)) most := by
 have hcp0 := b.cap
 have hx : s.next < 100 := by have := h.next; omega
 have hle := h.le b
 have hlo := h.lo
 have hhi := h.hi
 have hct := h.count
 have hol := once_len s.wait
 have hfl : fs.length ≤ cap := by have := h.next; omega
 have hmany := b.many
 have hcp := b.cap
 have hbig := b.big
 have hrise : Rise W (onceL (srtL s.wait)) := once_rise fun y hy => h.fit y ((h.mem y).2 (.inl hy))
 obtain ⟨a1, M', U', w1, w2, w3⟩ := wrRun_on (to := sideN n s.next) b.width b.quota h.calm h.room hrise (h.free hx) (b.named.2 _ hx) (b.size.2 _ hx) (ns := fs.map (·.1)) h.only (by simp; omega) (by omega) (by omega) h.lo (by omega)
 have hne : ∀ a ∈ fs, a.1 ≠ sideN n s.next := fun a ha q => by
  obtain ⟨i, h1, h2⟩ := h.names a.1 (List.mem_map.2 ⟨a, ha, rfl⟩)
  rw [q] at h2
  have := sideN_inj hx (by omega) h2
  omega
 unfold So.aside
 rw [h.name, h.width]
 refine ⟨a1, M', U', onceL (srtL s.wait), ?_⟩
 have q := w1.next
 refine ⟨w1.calm, w1.room, h.name, h.width, h.frames, h.wrong, h.closed, ?_, ?_, ?_, ?_, ?_, ?_, h.fit, ?_, ?_, ?_, by show 0 ≤ (wrRun _ _ _ _).1.next; omega, by show (wrRun _ _ _ _).1.next ≤ _; omega, w1.most.trans h.most⟩
 ·show s.side ++ [sideN s.name s.next] = _
  rw [h.side, h.name]; simp
 ·intro a ha
  rcases List.mem_append.1 ha with q | q
  ·exact (h.good a q).keep (w1.other _ (hne a q))
  ·rw [List.mem_singleton] at q
   subst q
   exact ⟨w2, hrise, b.size.2 _ hx, by show (onceL (srtL s.wait)).length ≤ _; omega⟩
 ·rw [List.map_append, List.nodup_append]
  refine ⟨h.nodup, by simp, fun a ha c hc => ?_⟩
  simp at hc
  obtain ⟨z, z1, z2⟩ := List.mem_map.1 ha
  rw [← z2, hc]; exact hne z z1
 ·intro x hx'
  rw [List.map_append] at hx'
  rcases List.mem_append.1 hx' with q | q
  ·obtain ⟨i, h1, h2⟩ := h.names x q
   exact ⟨i, by show i < s.next + 1; omega, h2⟩
  ·simp at q
   exact ⟨s.next, Nat.lt_succ_self _, q⟩
 ·intro a y ha
  rw [List.map_append]
  by_cases e : a = sideN n s.next
  ·exact List.mem_append.2 (.inr (by simp [e]))
  ·rw [w1.other a e] at ha
   exact List.mem_append.2 (.inl (h.only a y ha))
 ·intro y
  rw [h.mem, List.flatMap_append, List.mem_append]
  show _ ↔ y ∈ ([] : List (List Int)) ∨ _
  simp [once_mem]
  constructor
  ·rintro (u | u)
   ·exact .inr u
   ·exact .inl u
  ·rintro (u | u)
   ·exact .inr u
   ·exact .inl u
 ·rw [w3, h.used, pagesL_append]
  unfold pagesL
  simp; omega
 ·rw [List.flatMap_append, List.length_append]
  show ([] : List (List Int)).length + _ ≤ _
  simp only [List.flatMap_cons, List.flatMap_nil, List.append_nil, List.length_nil]
  omega
 ·have := h.next
  rw [List.length_append]
  show s.next + 1 + (fs.length + 1) ≤ _
  omega
theorem SoOn.push (h : SoOn s p M Q U n W fr all fs k m most) {l : List Int} (h1 : l.length = W) (h2 : fitsL l) : SoOn { s with wait := s.wait ++ [l] } p M Q U n W fr (all ++ [l]) fs k m most := by
 refine ⟨h.calm, h.room, h.name, h.width, h.frames, h.wrong, h.closed, h.side, h.good, h.nodup, h.names, h.only, fun y => ?_, fun y hy => ?_, h.used, ?_, h.next, h.lo, h.hi, h.most⟩
 ·show _ ↔ y ∈ s.wait ++ [l] ∨ _
  rw [List.mem_append, List.mem_append, h.mem]
  constructor
  ·rintro ((u | u) | u)
   ·exact .inl (.inl u)
   ·exact .inr u
   ·exact .inl (.inr u)
  ·rintro ((u | u) | u)
   ·exact .inl (.inl u)
   ·exact .inr u
   ·exact .inl (.inr u)
 ·rcases List.mem_append.1 hy with q | q
  ·exact h.fit y q
  ·rw [List.mem_singleton] at q; subst q; exact ⟨h1, h2⟩
 ·have := h.count
  show (s.wait ++ [l]).length + _ ≤ _
  simp only [List.length_append, List.length_cons, List.length_nil]; omega
theorem SoOn.again (h : SoOn s p M Q U n W fr all fs k m most) : SoOn { s with wrong := 0 } p M Q U n W fr all fs k m most :=
 ⟨h.calm, h.room, h.name, h.width, h.frames, rfl, h.closed, h.side, h.good, h.nodup, h.names, h.only, h.mem, h.fit, h.used, h.count, h.next, h.lo, h.hi, h.most⟩
theorem SoOn.ready (h : SoOn s p M Q U n W fr all fs k m most) : s.ready = 0 := by
 unfold So.ready
 rw [if_neg (by rw [h.wrong]; simp), if_neg (by rw [h.closed]; simp)]
theorem SoOn.add (h : SoOn s p M Q U n W fr all fs (2 * fs.length) m most) {l : List Int} (h1 : l.length = W) (h2 : fitsL l) (b : SoLe n W fr Q cap (all ++ [l])) (hj : fs.length * (fr * rmW W) + s.wait.length = all.length) (hw : s.wait.length < fr * rmW W) (h100 : 2 * fs.length + 2 ≤ cap) (hm : m < 1000000000000) :
  (s.add p l).2.2 = 0 ∧ ∃ M' U' fs', SoOn (s.add p l).2.1 (s.add p l).1 M' Q U' n W fr (all ++ [l]) fs' (2 * fs'.length) (m + (3 * (all.length + 1) + 300)) most ∧ fs'.length * (fr * rmW W) + (s.add p l).2.1.wait.length = (all ++ [l]).length ∧ (s.add p l).2.1.wait.length < fr * rmW W := by
 have hp := h.push h1 h2
 have r1 := (roomL_width (Nat.zero_le W) b.width).1
 have e1 : s.frames * roomL s.width = ((fr * rmW W : Nat) : Int) := by rw [h.frames, h.width, r1, Int.natCast_mul]
 have e2 : ¬ (l.length : Int) ≠ s.width := by rw [h.width, h1]; simp
 unfold So.add
 rw [if_neg (by rw [h.ready]; simp), if_neg e2, e1]
 by_cases hc : s.wait.length + 1 < fr * rmW W
 ·rw [if_pos (by omega)]
  refine ⟨rfl, M, U, fs, ⟨hp.calm, hp.room, hp.name, hp.width, hp.frames, hp.wrong, hp.closed, hp.side, hp.good, hp.nodup, hp.names, hp.only, hp.mem, hp.fit, hp.used, hp.count, hp.next, hp.lo, by have := hp.hi; show p.next ≤ _; omega, hp.most⟩, ?_, ?_⟩
  ·show _ + (s.wait ++ [l]).length = _
   simp; omega
  ·show (s.wait ++ [l]).length < _
   simpa using hc
 ·rw [if_neg (by omega)]
  obtain ⟨a1, M', U', L, a2⟩ := hp.aside b h100 hm
  simp only
  rw [a1]
  rw [List.length_append] at a2
  have hw2 : ({ s with wait := s.wait ++ [l] }.aside p).2.1 = { s with wait := s.wait ++ [l] }.asided := rfl
  rw [hw2] at a2
  refine ⟨rfl, M', U', fs ++ [(sideN n s.next, L)], ?_, ?_, ?_⟩
  ·have := a2.again
   rw [List.length_append]
   exact this
  ·show _ + ([] : List (List Int)).length = _
   simp only [List.length_append, List.length_cons, List.length_nil, Nat.add_mul]
   omega
  ·show ([] : List (List Int)).length < _
   simp only [List.length_nil]; omega
end
section
variable {s : So} {p : Pl} {M : Files} {Q U : Nat} {n : ByteArray} {W fr : Nat} {all : List (List Int)} {fs : List (ByteArray × List (List Int))} {k m most cap : Nat}
theorem flat_take (fs : List (ByteArray × List (List Int))) (c : Nat) : ((fs.take c).flatMap (·.2)).length + ((fs.drop c).flatMap (·.2)).length = (fs.flatMap (·.2)).length := by
 rw [← List.length_append, ← List.flatMap_append, List.take_append_drop]
theorem flat_mem (fs : List (ByteArray × List (List Int))) (c : Nat) (y : List Int) : y ∈ fs.flatMap (·.2) ↔ y ∈ (fs.take c).flatMap (·.2) ∨ y ∈ (fs.drop c).flatMap (·.2) := by
 rw [← List.mem_append, ← List.flatMap_append, List.take_append_drop]
theorem SoOn.merge (h : SoOn s p M Q U n W fr all fs k m most) (b : SoLe n W fr Q cap all) {c : Nat} (hc : 1 ≤ c) (hne : fs ≠ []) {to : ByteArray} (hM : M to = none) (hto : named to = true) (hts : to.size ≤ 9223372036854775807) (hk : k ≤ cap) (hm : m < 1000000000000) (nx : Nat) :
  ((s.to nx).merge p c to).2.2 = ((onceL (srtL ((fs.take c).flatMap (·.2)))).length, 0) ∧ ((s.to nx).merge p c to).2.1 = { s with next := nx, side := s.side.drop c } ∧ ∃ M' U', CalmM ((s.to nx).merge p c to).1 M' Q U' ∧ RoomyM M' ∧ (∀ a, a ∉ (fs.take c).map (·.1) → a ≠ to → M' a = M a) ∧ (∀ a ∈ (fs.take c).map (·.1), M' a = none) ∧
    RanM M' to W (rmW W) (onceL (srtL ((fs.take c).flatMap (·.2)))) ∧ U' = pagesL W (fs.drop c) + (1 + pagesN (onceL (srtL ((fs.take c).flatMap (·.2)))).length (rmW W)) ∧ 0 ≤ ((s.to nx).merge p c to).1.next ∧ ((s.to nx).merge p c to).1.next ≤ ((m + (3 * all.length + 300) : Nat) : Int) ∧ ((s.to nx).merge p c to).1.most = most := by
 have hle := h.le b
 have hlo := h.lo
 have hhi := h.hi
 have hct := h.count
 have hcp0 := b.cap
 have hfl : fs.length ≤ cap := by have := h.next; omega
 have hmany := b.many
 have hcp := b.cap
 have hbig := b.big
 have hfk := flat_take fs c
 have hol := once_len ((fs.take c).flatMap (·.2))
 have hg : ∀ a ∈ fs.take c, FileG M W a := fun a ha => h.good a (List.mem_of_mem_take ha)
 have hn1 : fs.take c ≠ [] := by
  intro q
  rcases List.take_eq_nil_iff.1 q with q | q
  ·omega
  ·exact hne q
 have htl : (fs.take c).length ≤ 100 := by rw [List.length_take]; omega
 obtain ⟨a1, M1, U1, w1, w2, _, w4⟩ := mergeP_on (to := to) (out := onceL (srtL ((fs.take c).flatMap (·.2)))) b.width b.quota h.calm h.room hg hn1 hM hto hts (ns := fs.map (·.1)) h.only (by simp; omega) rfl (by omega) (by omega) (by omega) h.lo (by omega)
 have hto2 : ∀ a ∈ fs, a.1 ≠ to := fun a ha q => by
  obtain ⟨T, q1, _⟩ := (h.good a ha).run.file
  rw [q, hM] at q1; cases q1
 have hnd : ((fs.take c).map (·.1)).Nodup := h.nodup.sublist ((List.take_sublist _ _).map _)
 obtain ⟨d1, M2, d2, d3, d4, d5, d6, d7⟩ := dropL_on (fs := fs.take c) w1.calm w1.room (fun a ha => (hg a ha).keep (w1.other _ (hto2 a (List.mem_of_mem_take ha)))) hnd
 have es : (s.to nx).side.take c = (fs.take c).map (·.1) := by show s.side.take c = _; rw [h.side, List.map_take]
 have ew : (s.to nx).width = W := h.width
 have q := w1.next
 have htn : to ∉ (fs.take c).map (·.1) := fun u => by
  obtain ⟨a, ha, e⟩ := List.mem_map.1 u
  exact hto2 a (List.mem_of_mem_take ha) e
 have em : dropM ((fs.take c).map (·.1)) (mergeP p ((fs.take c).map (·.1)) to W) = dropL ((fs.take c).map (·.1)) (mergeP p ((fs.take c).map (·.1)) to W).1 := by
  unfold dropM
  rw [if_neg (by rw [a1]; simp)]
 unfold So.merge
 rw [es, ew, em, a1, d1]
 refine ⟨rfl, by rw [← h.width]; rfl, M2, _, d2, d3, fun a ha hb => (d4 a ha).trans (w1.other a hb), d5, w2.keep (d4 to htn), ?_, by show 0 ≤ (dropL _ _).1.next; omega, by show (dropL _ _).1.next ≤ _; omega, (d7.trans w1.most).trans h.most⟩
 have : pagesL W fs = pagesL W (fs.take c) + pagesL W (fs.drop c) := by rw [← pagesL_append, List.take_append_drop]
 have := h.used
 omega
set_option maxRecDepth 10000 in
theorem SoOn.round (h : SoOn s p M Q U n W fr all fs cap m most) (b : SoLe n W fr Q cap all) (hne : fs ≠ []) (hc : fr ≤ fs.length) (hm : m < 1000000000000) :
  (s.round p).2.2.2 = 0 ∧ ∃ M1 U1 fs1, SoOn { (s.round p).2.1 with side := s.side.drop (s.frames - 1).toNat ++ [sideN s.name s.next] } (s.round p).1 M1 Q U1 n W fr all fs1 cap (m + (3 * all.length + 300)) most ∧ fs1 ≠ [] ∧ fs1.length + 1 ≤ fs.length ∧ (s.round p).2.1.wait = s.wait := by
 have hfr := b.frames
 have hcp0 := b.cap
 have hnx : s.next + fs.length ≤ cap := h.next
 have hx : s.next < 100 := by omega
 have hcc : (s.frames - 1).toNat = fr - 1 := by rw [h.frames]; omega
 obtain ⟨a1, a2, M1, U1, c1, c2, c3, c4, c5, c6, c7, c8, c9⟩ := h.merge b (c := fr - 1) (by omega) hne (h.free hx) (b.named.2 _ hx) (b.size.2 _ hx) (Nat.le_refl _) (by omega) (s.next + 1)
 have hol := once_len ((fs.take (fr - 1)).flatMap (·.2))
 have hfk := flat_take fs (fr - 1)
 have hct := h.count
 have hbig := b.big
 have er : s.round p = (s.to (s.next + 1)).merge p (fr - 1) (sideN n s.next) := by unfold So.round; rw [hcc, h.name]
 have hnot : ∀ a ∈ fs.drop (fr - 1), a.1 ∉ (fs.take (fr - 1)).map (·.1) := fun a ha u => by
  have hd := h.nodup
  rw [← List.take_append_drop (fr - 1) fs, List.map_append, List.nodup_append] at hd
  exact hd.2.2 _ u _ (List.mem_map.2 ⟨a, ha, rfl⟩) rfl
 have hto2 : ∀ a ∈ fs, a.1 ≠ sideN n s.next := fun a ha q => by
  obtain ⟨T, q1, _⟩ := (h.good a ha).run.file
  rw [q, h.free hx] at q1; cases q1
 have g : SoOn { ((s.to (s.next + 1)).merge p (fr - 1) (sideN n s.next)).2.1 with side := s.side.drop (fr - 1) ++ [sideN n s.next] } ((s.to (s.next + 1)).merge p (fr - 1) (sideN n s.next)).1 M1 Q U1 n W fr all (fs.drop (fr - 1) ++ [(sideN n s.next, onceL (srtL ((fs.take (fr - 1)).flatMap (·.2))))]) cap (m + (3 * all.length + 300)) most := by
  rw [a2]
  refine ⟨c1, c2, h.name, h.width, h.frames, h.wrong, h.closed, ?_, ?_, ?_, ?_, ?_, ?_, h.fit, ?_, ?_, ?_, c7, c8, c9⟩
  ·show s.side.drop (fr - 1) ++ _ = _
   rw [h.side, List.map_append, List.map_drop]; rfl
  ·intro a ha
   rcases List.mem_append.1 ha with q | q
   ·exact (h.good a (List.mem_of_mem_drop q)).keep (c3 _ (hnot a q) (hto2 a (List.mem_of_mem_drop q)))
   ·rw [List.mem_singleton] at q
    subst q
    exact ⟨c5, once_rise fun y hy => h.fit y ((h.mem y).2 (.inr ((flat_mem fs (fr - 1) y).2 (.inl hy)))), b.size.2 _ hx, by show (onceL _).length ≤ _; omega⟩
  ·rw [List.map_append, List.nodup_append]
   refine ⟨h.nodup.sublist ((List.drop_sublist _ _).map _), by simp, fun a ha c hc => ?_⟩
   simp at hc
   obtain ⟨z, z1, z2⟩ := List.mem_map.1 ha
   rw [← z2, hc]; exact hto2 z (List.mem_of_mem_drop z1)
  ·intro x hx'
   rw [List.map_append] at hx'
   rcases List.mem_append.1 hx' with q | q
   ·obtain ⟨z, z1, z2⟩ := List.mem_map.1 q
    obtain ⟨i, i1, i2⟩ := h.names x (List.mem_map.2 ⟨z, List.mem_of_mem_drop z1, z2⟩)
    exact ⟨i, by show i < s.next + 1; omega, i2⟩
   ·simp at q
    exact ⟨s.next, Nat.lt_succ_self _, q⟩
  ·intro a y ha
   rw [List.map_append]
   by_cases e : a = sideN n s.next
   ·exact List.mem_append.2 (.inr (by simp [e]))
   ·by_cases q : a ∈ (fs.take (fr - 1)).map (·.1)
    ·rw [c4 a q] at ha; cases ha
    ·rw [c3 a q e] at ha
     have := h.only a y ha
     rw [← List.take_append_drop (fr - 1) fs, List.map_append, List.mem_append] at this
     exact List.mem_append.2 (.inl (this.resolve_left q))
  ·intro y
   rw [h.mem, List.flatMap_append, List.mem_append, flat_mem fs (fr - 1)]
   show _ ↔ y ∈ s.wait ∨ _
   simp only [List.flatMap_cons, List.flatMap_nil, List.append_nil, once_mem]
   constructor
   ·rintro (u | u | u)
    ·exact .inl u
    ·exact .inr (.inr u)
    ·exact .inr (.inl u)
   ·rintro (u | u | u)
    ·exact .inl u
    ·exact .inr (.inr u)
    ·exact .inr (.inl u)
  ·rw [c6, pagesL_append]
   unfold pagesL
   simp
  ·rw [List.flatMap_append, List.length_append]
   show s.wait.length + _ ≤ _
   simp only [List.flatMap_cons, List.flatMap_nil, List.append_nil]
   omega
  ·rw [List.length_append, List.length_drop]
   show s.next + 1 + (fs.length - (fr - 1) + 1) ≤ cap
   omega
 rw [hcc, h.name, er]
 refine ⟨by rw [a1], M1, U1, _, g, by simp, ?_, by rw [a2]⟩
 rw [List.length_append, List.length_drop]
 show fs.length - (fr - 1) + 1 + 1 ≤ fs.length
 omega
set_option maxRecDepth 10000 in
theorem SoOn.rounds (b : SoLe n W fr Q cap all) : ∀ (f : Nat) {s : So} {p : Pl} {M : Files} {U : Nat} {fs : List (ByteArray × List (List Int))} {m : Nat}, SoOn s p M Q U n W fr all fs cap m most → s.wait = [] → fs ≠ [] → fs.length ≤ f → m + f * (3 * all.length + 300) < 1000000000000 →
  (s.rounds f p).2.2 = 0 ∧ ∃ M' U' fs', SoOn (s.rounds f p).2.1 (s.rounds f p).1 M' Q U' n W fr all fs' cap (m + f * (3 * all.length + 300)) most ∧ (s.rounds f p).2.1.wait = [] ∧ fs' ≠ [] ∧ fs'.length < fr
 | 0, s, p, M, U, fs, m, h, hw, hne, hf, hm => absurd (List.eq_nil_of_length_eq_zero (by omega)) hne
 | f + 1, s, p, M, U, fs, m, h, hw, hne, hf, hm => by
   rw [Nat.succ_mul] at hm
   have hsl : s.side.length = fs.length := by rw [h.side, List.length_map]
   by_cases hc : fr ≤ fs.length
   ·obtain ⟨a1, M1, U1, fs1, g, g1, g2, g3⟩ := h.round b hne hc (by omega)
    have e : s.rounds (f + 1) p = So.rounds f { (s.round p).2.1 with side := s.side.drop (s.frames - 1).toNat ++ [sideN s.name s.next] } (s.round p).1 := by
     show (if s.frames ≤ (s.side.length : Int) then _ else _) = _
     rw [if_pos (by rw [h.frames, hsl]; omega), if_neg (by rw [a1]; simp)]
    rw [e]
    obtain ⟨r1, M', U', fs', r2, r3, r4, r5⟩ := SoOn.rounds b f g (g3.trans hw) g1 (by omega) (by omega)
    refine ⟨r1, M', U', fs', ?_, r3, r4, r5⟩
    rw [Nat.succ_mul, show m + (f * (3 * all.length + 300) + (3 * all.length + 300)) = m + (3 * all.length + 300) + f * (3 * all.length + 300) by omega]
    exact r2
   ·have e : s.rounds (f + 1) p = (p, s, 0) := by
     show (if s.frames ≤ (s.side.length : Int) then _ else _) = _
     rw [if_neg (by rw [h.frames, hsl]; omega)]
    rw [e]
    refine ⟨rfl, M, U, fs, ⟨h.calm, h.room, h.name, h.width, h.frames, h.wrong, h.closed, h.side, h.good, h.nodup, h.names, h.only, h.mem, h.fit, h.used, h.count, h.next, h.lo, ?_, h.most⟩, hw, hne, by omega⟩
    have := h.hi
    generalize (f + 1) * (3 * all.length + 300) = z
    show p.next ≤ _
    omega
theorem SoOn.done (h : SoOn s p M Q U n W fr all fs (2 * fs.length) m most) (b : SoLe n W fr Q cap all) (h100 : 2 * fs.length + 2 ≤ cap) (hm : m + 200 * (3 * all.length + 300) < 1000000000000) :
  (s.done p).2.2 = ((onceL (srtL all)).length, 0) ∧ (s.done p).2.1.wrong = 0 ∧ (s.done p).2.1.closed = true ∧ ∃ M', CalmM (s.done p).1 M' Q (1 + pagesN (onceL (srtL all)).length (rmW W)) ∧ RoomyM M' ∧ RanM M' n W (rmW W) (onceL (srtL all)) ∧ Rise W (onceL (srtL all)) ∧ (∀ a, a ≠ n → M' a = none) ∧ 0 ≤ (s.done p).1.next ∧ (s.done p).1.next ≤ m + 200 * (3 * all.length + 300) ∧ (s.done p).1.most = most := by
 have hne0 : fs = [] ↔ s.side = [] := by rw [h.side]; simp
 have first : (s.first p).2.2 = 0 ∧ ∃ M' U' fs', SoOn (s.first p).2.1 (s.first p).1 M' Q U' n W fr all fs' cap (m + (3 * all.length + 300)) most ∧ (s.first p).2.1.wait = [] ∧ fs' ≠ [] := by
  unfold So.first
  by_cases hc : s.wait ≠ [] ∨ s.side = []
  ·rw [if_pos hc]
   obtain ⟨a1, M', U', L, a2⟩ := h.aside b h100 (by omega)
   exact ⟨a1, M', U', _, ⟨a2.calm, a2.room, a2.name, a2.width, a2.frames, a2.wrong, a2.closed, a2.side, a2.good, a2.nodup, a2.names, a2.only, a2.mem, a2.fit, a2.used, a2.count, Nat.le_trans a2.next (by omega), a2.lo, a2.hi, a2.most⟩, rfl, by simp⟩
  ·rw [if_neg hc]
   rw [not_or] at hc
   exact ⟨rfl, M, U, fs, ⟨h.calm, h.room, h.name, h.width, h.frames, h.wrong, h.closed, h.side, h.good, h.nodup, h.names, h.only, h.mem, h.fit, h.used, h.count, Nat.le_trans h.next (by omega), h.lo, by have := h.hi; show p.next ≤ _; omega, h.most⟩, Classical.not_not.1 hc.1, fun q => hc.2 (hne0.1 q)⟩
 obtain ⟨f1, M1, U1, fs1, f2, f3, f4⟩ := first
 have hl1 : fs1.length ≤ 100 := by have := f2.next; have := b.cap; omega
 have hs1 : (s.first p).2.1.side.length = fs1.length := by rw [f2.side, List.length_map]
 have hz : fs1.length * (3 * all.length + 300) ≤ 100 * (3 * all.length + 300) := Nat.mul_le_mul_right _ hl1
 have h198 : 200 * (3 * all.length + 300) = 100 * (3 * all.length + 300) + 100 * (3 * all.length + 300) := by omega
 obtain ⟨r1, M2, U2, fs2, r2, r3, r4, r5⟩ := SoOn.rounds b fs1.length f2 f3 f4 (Nat.le_refl _) (by omega)
 have ho : onceL (srtL (fs2.flatMap (·.2))) = onceL (srtL all) := once_eq fun y => by rw [r2.mem, r3]; simp
 have hs2 : ((s.first p).2.1.rounds fs1.length (s.first p).1).2.1.side.length = fs2.length := by rw [r2.side, List.length_map]
 obtain ⟨a1, a2, M3, U3, c1, c2, c3, c4, c5, c6, c7, c8, c9⟩ := r2.merge b (c := fs2.length) (List.length_pos_iff.2 r4) r4 r2.freeN b.named.1 b.size.1 (Nat.le_refl _) (by omega) ((s.first p).2.1.rounds fs1.length (s.first p).1).2.1.next
 have e : s.done p = So.ends (((s.first p).2.1.rounds fs1.length (s.first p).1).2.1.merge ((s.first p).2.1.rounds fs1.length (s.first p).1).1 fs2.length n) := by
  unfold So.done So.goes So.last
  rw [if_neg (by rw [h.ready]; simp), if_neg (by rw [f1]; simp), hs1, if_neg (by rw [r1]; simp), hs2, r2.name]
 rw [List.take_length] at a1 c3 c4 c5 c6
 rw [ho] at a1 c5 c6
 have eta : ∀ x : So, x.to x.next = x := fun x => rfl
 rw [eta] at a1 a2 c1 c7 c8 c9
 rw [e]
 unfold So.ends
 rw [if_neg (by rw [a1]; simp), a1]
 have hrise : Rise W (onceL (srtL all)) := once_rise h.fit
 refine ⟨rfl, ?_, rfl, M3, ?_, c2, c5, hrise, fun a ha => ?_, c7, ?_, c9⟩
 ·exact (congrArg So.wrong a2).trans r2.wrong
 ·have eu : U3 = 1 + pagesN (onceL (srtL all)).length (rmW W) := by
   rw [c6, List.drop_length]
   show 0 + _ = _
   omega
  rw [← eu]; exact c1
 ·by_cases q : a ∈ fs2.map (·.1)
  ·exact c4 a q
  ·rw [c3 a q ha]
   cases u : M2 a with
   | none => rfl
   | some y => exact absurd (r2.only a y u) q
 ·exact Int.le_trans c8 (by omega)
end
open Go.MapKept
structure PoolM (H0 A : Heap) (F : Nat → Prop) (p dp : Nat) (s : Pl) (M : Files) (Q U most m : Nat) : Prop where
 ext : Ext H0 A
 pool : PoolAt F A p dp s
 old : ∀ b, F b → H0.size ≤ b
 calm : CalmM s M Q U
 lo : 0 ≤ s.next
 hi : s.next ≤ m
 logs : s.d.logs ≤ 2 * m
 le : U ≤ Q
 room : ∀ n x, M n = some x → ∀ k, (x.T k).2.length ≤ 504
 most : s.most = most
section
variable {H0 A B : Heap} {F F' : Nat → Prop} {p dp Q U most m : Nat} {s s' : Pl} {M M' : Files} {n : ByteArray} {x x' : St}
theorem PoolM.gl (h : PoolM H0 A F p dp s M Q U most m) (hg : Gl H0) : Gl A := hg.mod h.ext id
end
section
variable {H0 A B : Heap} {F F' : Nat → Prop} {p dp Q U U' most m m' : Nat} {s s' : Pl} {M M' : Files} {n : ByteArray} {x x' : St}
set_option maxRecDepth 10000 in
theorem PoolM.went {Y Y' : Nat → Prop} (h : PoolM H0 A F p dp s M Q U most m) (hC : CalmM s' M' Q U') (hR : RoomyM M') (hp : PoolAt F' B p dp s') (S : Step Y Y' A B) (h1 : ∀ b, Y b → H0.size ≤ b) (h2 : ∀ b, F' b → Y' b)
  (n1 : s.next ≤ s'.next) (n2 : s'.next ≤ s.next + 2100) (lg : s'.d.logs ≤ s.d.logs + 4200) (hU : U' ≤ Q) (hm : s'.most = s.most) : PoolM H0 B F' p dp s' M' Q U' most (m + 2100) := by
 have hz := h.ext.size
 have lo := h.lo
 have hi := h.hi
 have hl := h.logs
 refine ⟨⟨Nat.le_trans hz S.mod.size, fun b hb _ => (S.mod.same b (by omega) fun u => by have := h1 b u; omega).trans (h.ext.same b hb id)⟩, hp, fun b hb => ?_, hC, by omega, by omega, by omega, hU, hR, hm.trans h.most⟩
 rcases S.own b (h2 b hb) with u | u
 ·exact h1 b u
 ·omega
variable {k W i : Nat} {w : RW} {sw sl l : Sl} {rs : List (List Int)}
theorem PoolM.openRun {K : (Option Addr × Int) → Heap → Prop} (h : PoolM H0 A F p dp s M Q U most m) (hg : Gl H0) (hrun : RanM M n W (rmW W) rs) (hbig : rs.length ≤ 1000000) (hs : n.size ≤ 9223372036854775807) (hQ : Q ≤ 1048576) (h1 : 0 ≤ W) (h2 : W ≤ 16) (hm : m ≤ 30000000000)
  (hK : ∀ F' s' k B, PoolM H0 B F' p dp s' M Q U most (m + 2100) → RdB B k p (rr0 n W rs.length) nilS [] → RdOn (rr0 n W rs.length) n W (rmW W) rs → Step F F' A B → A.size ≤ k → ¬ F' k → K (at0 k, 0) B) : Zdh.sp (at0 p) n W A K := by
 have lo := h.lo
 have hnx := h.hi
 have hlg := h.logs
 obtain ⟨a1, c1, c2, c3, c4, c5, c6⟩ := hrun.opened h.calm h1 h2 hs hQ h.le hbig h.lo (by omega)
 have ol := rnOpen_logs s n (W : Int)
 refine ropen_ok (h.gl hg) h.pool hs (by omega) (by omega) h.lo (fun F' B q1 S q2 => ?_) (fun F' B k r q1 S q2 q3 q4 q5 => ?_)
 ·rw [a1] at q2; cases q2
 ·have q2' : r = rr0 n W rs.length := by rw [a1] at q2; exact (Option.some.inj q2).symm
  subst q2'
  rw [a1]
  exact hK F' _ k B (h.went c1 h.room q1 S h.old (fun b hb => hb) (by omega) (by omega) (by omega) h.le c4) q3 c2 S q4 q5
variable {r : RR} {si : Sl} {srs : List Sl}
theorem PoolM.nextRow {K : (Sl × Bool × Int) → Heap → Prop} (h : PoolM H0 A F p dp s M Q U most m) (hg : Gl H0) (hrd : RdB A k p r si srs) (hd : ∀ b, F b → ¬ rdO k si srs b) (hrun : RanM M n W (rmW W) rs) (hon : RdOn r n W (rmW W) rs) (hr : Rise W rs) (hbig : rs.length ≤ 1000000) (hs : n.size ≤ 9223372036854775807) (hQ : Q ≤ 1048576) (h1 : 0 ≤ W) (h2 : W ≤ 16) (hm : m ≤ 30000000000) (hk : H0.size ≤ k)
  (hK1 : r.at_ < rs.length → ∀ F' s' si' srs' r' l B, PoolM H0 B F' p dp s' M Q U most (m + 2100) → RdB B k p r' si' srs' → (∀ b, F' b → ¬ rdO k si' srs' b) → RdOn r' n W (rmW W) rs → r'.at_ = r.at_ + 1 → Owns B 0 YaI 1 l ((rs.getD r.at_ []).map (Value.int .u64)) → (∀ b, ownB l b → A.size ≤ b ∧ ¬ F' b ∧ ¬ rdO k si' srs' b) → Mod (fun b => F b ∨ b = k) A B → (∀ b, F' b → F b ∨ A.size ≤ b) → (∀ b, rdO k si' srs' b → rdO k si srs b ∨ A.size ≤ b) → K (l, true, 0) B)
  (hK0 : r.at_ = rs.length → ∀ F' s' si' srs' r' l B, PoolM H0 B F' p dp s' M Q U most (m + 2100) → RdB B k p r' si' srs' → (∀ b, F' b → ¬ rdO k si' srs' b) → RdOn r' n W (rmW W) rs → Mod (fun b => F b ∨ b = k) A B → (∀ b, F' b → F b ∨ A.size ≤ b) → (∀ b, rdO k si' srs' b → rdO k si srs b ∨ A.size ≤ b) → K (l, false, 0) B) : Zcb.sp (at0 k) A K := by
 have lo := h.lo
 have hnx := h.hi
 have hlg := h.logs
 have hgl := hg.lt
 obtain ⟨n1, n2⟩ := hrun.next h.calm hon h1 h2 hr hs hQ h.le h.lo (by omega)
 have nl := RR.next_logs r s
 refine rnext_ok (h.gl hg) (fun u => by have := h.old _ u; omega) (by omega) (⟨h.pool, hrd, hd, .refl _ _, fun _ q => .inl q, fun _ q => .inl q⟩ : RedB A F (rdO k si srs) k p dp si srs F A s r) (hon.fine h1 h2 hbig) (by rw [hon.b]; exact hs) (by omega) (by omega) h.lo fun F' si' srs' B l g o f => ?_
 have old' : ∀ b, F b ∨ b = k → H0.size ≤ b := fun b u => u.elim (h.old b) fun e => by omega
 by_cases hc : r.at_ < rs.length
 ·obtain ⟨a1, a2, a3, a4, a5, a6, a7⟩ := n1 hc
  rw [a1] at o ⊢
  exact hK1 hc F' _ si' srs' _ l B (h.went a2 h.room g.pool (⟨g.mod, fun b u => (g.own b u).imp .inl id⟩ : Step (fun b => F b ∨ b = k) F' A B) old' (fun b hb => hb) a5 (by omega) (by omega) h.le a7) g.rd g.dis a3 a4 o f g.mod g.own g.own2
 ·have he : r.at_ = rs.length := by have := hon.at_; omega
  have a1 := n2 he
  rw [a1] at g o ⊢
  exact hK0 he F' s si' srs' r l B (h.went h.calm h.room g.pool (⟨g.mod, fun b u => (g.own b u).imp .inl id⟩ : Step (fun b => F b ∨ b = k) F' A B) old' (fun b hb => hb) (Int.le_refl _) (by omega) (by omega) h.le rfl) g.rd g.dis hon g.mod g.own g.own2
end
section
variable {s : So} {p : Pl} {M : Files} {Q U : Nat} {n : ByteArray} {W fr : Nat} {all : List (List Int)} {fs : List (ByteArray × List (List Int))} {k m most cap : Nat}
theorem restL_of (W : Nat) : ∀ fs : List (ByteArray × List (List Int)), restL (fs.map (rrOf W)) = (fs.flatMap (·.2)).length
 | [] => rfl
 | a :: fs => by
   have := restL_of W fs
   unfold restL at this ⊢
   rw [List.map_cons, List.map_cons, List.sum_cons, List.flatMap_cons, List.length_append, this]
   rfl
theorem SoOn.restLe (h : SoOn s p M Q U n W fr all fs k m most) (b : SoLe n W fr Q cap all) (hk : k ≤ cap) (hm : m < 1000000000000) (c : Nat) : restL (openL s.width (s.side.take c) p).2.1 ≤ all.length := by
 have hle := h.le b
 have hct := h.count
 have hmany := b.many
 have hcp := b.cap
 have hlo := h.lo
 have hhi := h.hi
 have hcp0 := b.cap
 have hfl : fs.length ≤ cap := by have := h.next; omega
 have htl : (fs.take c).length ≤ 100 := by rw [List.length_take]; omega
 obtain ⟨o1, _⟩ := openL_on (fs := fs.take c) b.width b.quota (by omega) h.calm (fun a ha => h.good a (List.mem_of_mem_take ha)) h.lo (by omega)
 have es : s.side.take c = (fs.take c).map (·.1) := by rw [h.side, List.map_take]
 rw [h.width, es, o1]
 show restL ((fs.take c).map (rrOf W)) ≤ _
 rw [restL_of]
 have := flat_take fs c
 omega
set_option maxRecDepth 100000 in
theorem SoOn.roundsLe (b : SoLe n W fr Q cap all) : ∀ (f : Nat) {s : So} {p : Pl} {M : Files} {U : Nat} {fs : List (ByteArray × List (List Int))} {m : Nat}, SoOn s p M Q U n W fr all fs cap m most → fs ≠ [] → m + f * (3 * all.length + 300) < 1000000000000 → s.roundsLe all.length f p
 | 0, _, _, _, _, _, _, _, _, _ => trivial
 | f + 1, s, p, M, U, fs, m, h, hne, hm => fun hc => by
   rw [Nat.succ_mul] at hm
   have hc' : fr ≤ fs.length := by rw [h.frames, h.side, List.length_map] at hc; omega
   obtain ⟨_, M1, U1, fs1, g, g1, _, _⟩ := h.round b hne hc' (by omega)
   exact ⟨h.restLe b (Nat.le_refl _) (by omega) _, fun _ => SoOn.roundsLe b f g g1 (by omega)⟩
theorem SoOn.first (h : SoOn s p M Q U n W fr all fs (2 * fs.length) m most) (b : SoLe n W fr Q cap all) (h100 : 2 * fs.length + 2 ≤ cap) (hm : m < 1000000000000) :
  (s.first p).2.2 = 0 ∧ ∃ M' U' fs', SoOn (s.first p).2.1 (s.first p).1 M' Q U' n W fr all fs' cap (m + (3 * all.length + 300)) most ∧ (s.first p).2.1.wait = [] ∧ fs' ≠ [] := by
 have hne0 : fs = [] ↔ s.side = [] := by rw [h.side]; simp
 unfold So.first
 by_cases hc : s.wait ≠ [] ∨ s.side = []
 ·rw [if_pos hc]
  obtain ⟨a1, M', U', L, a2⟩ := h.aside b h100 (by omega)
  exact ⟨a1, M', U', _, ⟨a2.calm, a2.room, a2.name, a2.width, a2.frames, a2.wrong, a2.closed, a2.side, a2.good, a2.nodup, a2.names, a2.only, a2.mem, a2.fit, a2.used, a2.count, Nat.le_trans a2.next (by omega), a2.lo, a2.hi, a2.most⟩, rfl, by simp⟩
 ·rw [if_neg hc]
  rw [not_or] at hc
  exact ⟨rfl, M, U, fs, ⟨h.calm, h.room, h.name, h.width, h.frames, h.wrong, h.closed, h.side, h.good, h.nodup, h.names, h.only, h.mem, h.fit, h.used, h.count, Nat.le_trans h.next (by omega), h.lo, by have := h.hi; show p.next ≤ _; omega, h.most⟩, Classical.not_not.1 hc.1, fun q => hc.2 (hne0.1 q)⟩
theorem SoOn.goesLe (h : SoOn s p M Q U n W fr all fs (2 * fs.length) m most) (b : SoLe n W fr Q cap all) (h100 : 2 * fs.length + 2 ≤ cap) (hm : m + 200 * (3 * all.length + 300) < 1000000000000) : So.goesLe all.length (s.first p) := fun _ => by
 obtain ⟨f1, M1, U1, fs1, f2, f3, f4⟩ := h.first b h100 (by omega)
 have hl1 : fs1.length ≤ 100 := by have := f2.next; have := b.cap; omega
 have hs1 : (s.first p).2.1.side.length = fs1.length := by rw [f2.side, List.length_map]
 have hz : fs1.length * (3 * all.length + 300) ≤ 100 * (3 * all.length + 300) := Nat.mul_le_mul_right _ hl1
 rw [hs1]
 refine ⟨SoOn.roundsLe b _ f2 f4 (by omega), fun _ => ?_⟩
 obtain ⟨_, M2, U2, fs2, r2, _⟩ := SoOn.rounds b fs1.length f2 f3 f4 (Nat.le_refl _) (by omega)
 exact r2.restLe b (Nat.le_refl _) (by omega) _
theorem SoOn.zok (h : SoOn s p M Q U n W fr all fs (2 * fs.length) m most) (b : SoLe n W fr Q cap all) (h100 : 2 * fs.length + 2 ≤ cap) : SoZ s ∧ s.width ≤ 16 ∧ 3 ≤ s.frames ∧ s.next + s.side.length + 2 ≤ 100 := by
 have hn := b.name
 have hf := b.frames
 have hw := b.width
 have hct := h.count
 have hb := b.big
 have hx := h.next
 have hcp := b.cap
 have hs : s.side.length = fs.length := by rw [h.side, List.length_map]
 refine ⟨⟨by rw [h.name]; omega, by omega, by omega, fun x hx => ?_, by omega, by rw [h.frames]; omega⟩, by rw [h.width]; omega, by rw [h.frames]; omega, by omega⟩
 rw [h.side] at hx
 obtain ⟨a, ha, e⟩ := List.mem_map.1 hx
 rw [← e]; exact (h.good a ha).size
end
theorem So.add_bd {t : So} {s : Pl} {l : List Int} {x y : Nat} (h : Bd s x y) (hx : x < 800000000000) (hw : t.wait.length < 400000) (hf : (t.add s l).1.fs.length ≤ 4096) : Bd (t.add s l).1 (x + 400010) (y + 805000) := by
 unfold So.add at hf ⊢
 split at hf
 ·rename_i e
  rw [if_pos e]; exact h.mono (by omega) (by omega)
 ·rename_i e
  rw [if_neg e]
  split at hf
  ·rename_i e1
   rw [if_pos e1]; exact h.mono (by omega) (by omega)
  ·rename_i e1
   rw [if_neg e1]
   split at hf
   ·rename_i e2
    rw [if_pos e2]; exact h.mono (by omega) (by omega)
   ·rename_i e2
    rw [if_neg e2]
    have hol := once_len (t.wait ++ [l])
    have hl : (t.wait ++ [l]).length ≤ 400000 := by simp; omega
    exact (wrRun_bd h (by show _ + (onceL (srtL (t.wait ++ [l]))).length < _; omega) hf).mono (by show _ + (onceL (srtL (t.wait ++ [l]))).length + 10 ≤ _; omega) (by show _ + 2 * (onceL (srtL (t.wait ++ [l]))).length + 5000 ≤ _; omega)
structure SoT (H0 A : Heap) (k p dp : Nat) (n : ByteArray) (W fr Q most : Nat) (all : List (List Int)) (m x y : Nat) : Prop where
 ext : Ext H0 A
 ex : ∃ F s t sw rs ss M U fs, PoolAt F A p dp s ∧ SoB A k p t sw rs ss ∧ (∀ b, F b → ¬ soO k sw rs ss b) ∧ (∀ b, F b ∨ soO k sw rs ss b → H0.size ≤ b) ∧ SoOn t s M Q U n W fr all fs (2 * fs.length) m most ∧ fs.length * (fr * rmW W) + t.wait.length = all.length ∧ t.wait.length < fr * rmW W ∧ Bd s x y
section
variable {H0 A : Heap} {k p dp : Nat} {n : ByteArray} {W fr Q most cap : Nat} {all : List (List Int)} {m x y : Nat}
theorem SoT.grow {B : Heap} (h : SoT H0 A k p dp n W fr Q most all m x y) (e : Ext A B) : SoT H0 B k p dp n W fr Q most all m x y := by
 obtain ⟨h1, F, s, t, sw, rs, ss, M, U, fs, a1, a2, a3⟩ := h
 exact ⟨h1.trans e, F, s, t, sw, rs, ss, M, U, fs, a1.ext e, a2.mod e fun _ _ => id, a3⟩
theorem bd_sum {x y a : Nat} (hx : x < 10000000000) (hy : y < 2000000000) (ha : a ≤ 300000) : x + 400010 + 101 * (2 * a + 3000) ≤ 20000000000 ∧ y + 805000 + 101 * (3 * a + 9000) ≤ 20000000000 := by omega
theorem SoT.add {l : Sl} {ll : List Int} {K : Int → Heap → Prop} (h : SoT H0 A k p dp n W fr Q most all m x y) (hg : Gl H0) (b : SoLe n W fr Q cap (all ++ [ll])) (hl : Ints .u64 A l ll) (h1 : ll.length = W) (h2 : fitsL ll) (hcap : ∀ f, f * (fr * rmW W) ≤ all.length → 2 * f + 2 ≤ cap) (hm : m < 1000000000000) (hx : x < 700000000000) (hy : y < 40000000000)
  (hK : ∀ B, SoT H0 B k p dp n W fr Q most (all ++ [ll]) (m + (3 * (all.length + 1) + 300)) (x + 400010) (y + 805000) → K 0 B) : ZbU.sp (at0 k) l A K := by
 obtain ⟨e, F, s, t, sw, rs, ss, M, U, fs, a1, a2, a3, a4, a5, a6, a7, a8⟩ := h
 have hgA : Gl A := hg.mod e id
 have h100 := hcap fs.length (by omega)
 have bw : SoLe n W fr Q cap all := by
  have := b.many
  have := b.big
  simp only [List.length_append, List.length_cons, List.length_nil] at *
  exact ⟨b.width, b.quota, by omega, b.cap, by omega, b.name, b.frames⟩
 obtain ⟨z1, z2, z3, z4⟩ := a5.zok bw h100
 have hbig := bw.big
 have hct := a5.count
 obtain ⟨c1, M', U', fs', c2, c3, c4⟩ := a5.add h1 h2 b a6 a7 h100 hm
 refine SAdd_ok hgA (fun q => by have := a4 _ (.inr q); have := hg.lt; omega) a2 a1 a3 z1 (by omega) z2 hl a8 (by omega) (by omega) fun F' sw' rs' ss' B p1 s1 d1 S1 => ?_
 rw [c1]
 have z := e.size
 have bd := So.add_bd (l := ll) (t := t) a8 (by omega) (by omega) p1.frames
 refine hK B ⟨⟨Nat.le_trans z S1.mod.size, fun b hb _ => (S1.mod.same b (by omega) fun q => by have := a4 b q; omega).trans (e.same b hb id)⟩, F', _, _, sw', rs', ss', M', U', fs', p1, s1, d1, fun b hb => ?_, c2, c3, c4, bd⟩
 rcases S1.own b hb with q | q
 ·exact a4 b q
 ·omega
set_option maxRecDepth 100000 in
theorem SoT.done {K : (Int × Int) → Heap → Prop} (h : SoT H0 A k p dp n W fr Q most all m x y) (hg : Gl H0) (b : SoLe n W fr Q cap all) (hcap : ∀ f, f * (fr * rmW W) ≤ all.length → 2 * f + 2 ≤ cap) (hm : m + 200 * (3 * all.length + 300) < 1000000000000) (hx : x < 10000000000) (hy : y < 2000000000)
  (hK : ∀ F' s' M' B, PoolM H0 B F' p dp s' M' Q (1 + pagesN (onceL (srtL all)).length (rmW W)) most 20000000000 → RanM M' n W (rmW W) (onceL (srtL all)) → Rise W (onceL (srtL all)) → (∀ a, a ≠ n → M' a = none) → K (((onceL (srtL all)).length : Int), 0) B) : ZbM.sp (at0 k) A K := by
 obtain ⟨e, F, s, t, sw, rs, ss, M, U, fs, a1, a2, a3, a4, a5, a6, a7, a8⟩ := h
 have hgA : Gl A := hg.mod e id
 have h100 := hcap fs.length (by omega)
 obtain ⟨z1, z2, z3, z4⟩ := a5.zok b h100
 have hbig := b.big
 obtain ⟨c1, c2, c3, M', c4, c5, c6, c7, c8, c9, c10, c11⟩ := a5.done b h100 hm
 refine SDone_ok (N := all.length) hgA (fun q => by have := a4 _ (.inr q); have := hg.lt; omega) a2 a1 a3 z1 z4 z3 a8 (by omega) (by omega) (by omega) (fun _ => a5.goesLe b h100 hm) fun F' sw' rs' ss' B p1 r1 d1 S1 b1 => ?_
 rw [c1]
 have z := e.size
 have hmany := b.many
 have hcp := b.cap
 obtain ⟨hX, hY⟩ := bd_sum hx hy hbig
 have b2 := b1.mono hX hY
 have u1 := b2.hi
 have u2 := b2.logs
 have hol := once_len all
 have hpg := pagesN_some (n := (onceL (srtL all)).length) (room := rmW W) (by have := (roomL_width (Nat.zero_le W) b.width).2.1; omega)
 refine hK F' _ M' B ⟨⟨Nat.le_trans z S1.mod.size, fun b hb _ => (S1.mod.same b (by omega) fun q => by have := a4 b q; omega).trans (e.same b hb id)⟩, p1, fun b hb => ?_, c4, c9, u1, Nat.le_trans u2 (Nat.le_mul_of_pos_left _ (by decide)), by omega, c5, c11⟩ c6 c7 c8
 rcases S1.own b (.inl hb) with q | q
 ·exact a4 b q
 ·omega
end
def nmS : ByteArray := ByteArray.mk #[102]
def noFilesS : Files := fun _ => none
section
variable {H A : Heap} {p dp : Nat} {n : ByteArray} {W fr q mo : Nat}
theorem calm_new (hq : q ≤ 1048576) (h8 : 8 ≤ mo) (hm : mo ≤ 4096) : CalmM (pl0 (dk0 (q : Int)) mo) noFilesS q 0 :=
 ⟨⟨rfl, rfl, rfl, by show (min (max (q : Int) 0) 1048576).toNat = q; omega, rfl, List.nodup_nil, fun i f hf => (by cases hf), fun n x hx => (by cases hx), fun g hg => (by cases hg)⟩, pl0_wf h8 hm, fun f hf => (by cases hf)⟩
theorem soNew_t {K : (Option Addr × Int) → Heap → Prop} (t : TP H A p dp (pl0 (dk0 (q : Int)) mo)) (hq : q ≤ 1048576) (h8 : 8 ≤ mo) (hm : mo ≤ 4096) (hW : W ≤ 16) (h3 : 3 ≤ fr) (hfr : fr ≤ mo)
  (hK : ∀ k B, SoT H B k p dp n W fr q mo [] 1 1 0 → K (at0 k, 0) B) : Zdf.sp (at0 p) n (W : Int) (fr : Int) A K := by
 obtain ⟨r1, r2, _, _⟩ := roomL_width (Nat.zero_le W) hW
 obtain ⟨e, F, hp, ho⟩ := t
 have en : soNew (pl0 (dk0 (q : Int)) mo) n (W : Int) (fr : Int) = (some (so0 n W fr), 0) := by
  unfold soNew
  rw [if_neg (by rw [r1]; omega), if_neg (by rintro (u | u); omega; have : (fr : Int) > (mo : Int) := u; omega)]
 have hpos : 0 < fr * rmW W := Nat.mul_pos (by omega) (by omega)
 refine soNew_ok hp (fun u => by rw [en] at u; cases u) fun _ _ B eB sB => ?_
 have z := e.size
 refine hK _ B ⟨e.trans eB, F, _, so0 n W fr, nilS, [], nilS, noFilesS, 0, [], hp.ext eB, sB, fun b hb u => ?_, fun b hb => ?_, ?_, by simp [so0], hpos, ?_⟩
 ·rcases u with u | u | ⟨x, hx, _⟩ | u
  ·have := hp.lt b hb; omega
  ·exact nilS_own b u
  ·cases hx
  ·exact nilS_own b u
 ·rcases hb with u | u | u | ⟨x, hx, _⟩ | u
  ·exact ho b u
  ·omega
  ·exact absurd u (nilS_own b)
  ·cases hx
  ·exact absurd u (nilS_own b)
 ·exact ⟨calm_new hq h8 hm, fun a y hy => (by cases hy), rfl, rfl, rfl, rfl, rfl, rfl, fun a ha => (by cases ha), List.Pairwise.nil, fun x hx => (by cases hx), fun a y hy => (by cases hy), fun y => by simp [so0], fun y hy => (by cases hy), rfl, by simp [so0], by simp [so0], by show (0 : Int) ≤ 1; decide, by show (1 : Int) ≤ ((1 : Nat) : Int); decide, rfl⟩
 ·exact ⟨fun f hf => (by cases hf), by show (0 : Int) ≤ 1; decide, by show (1 : Int) ≤ ((1 : Nat) : Int); decide, Nat.le_refl _⟩
theorem PoolM.list1 {F : Nat → Prop} {s : Pl} {M : Files} {Q U most m room : Nat} {rs : List (List Int)} {K : Sl → Heap → Prop} (h : PoolM H A F p dp s M Q U most m) (hg : Gl H) (hrun : RanM M n W room rs) (honly : ∀ a, a ≠ n → M a = none) (hK : ∀ l B, l.n = 1 → Ext A B → K l B) : ZcB.sp (at0 dp) A K := by
 obtain ⟨D, d1, _, _⟩ := PoolAt.disk (h.gl hg) h.pool
 refine List_ok d1 fun l B o e _ => hK l B ?_ e
 have hn := SlE.n o (by decide)
 rw [hn]
 unfold Dk.list
 rw [if_neg (by rw [h.calm.told.up]; simp), (List.mergeSort_perm _ _).length_eq, List.length_map]
 obtain ⟨T, t1, _⟩ := hrun.file
 have h1 := h.calm.told.files_le (ns := [n]) fun a x ha => by
  by_cases q : a = n
  ·simp [q]
  ·rw [honly a q] at ha; cases ha
 obtain ⟨i, f, f1, _⟩ := h.calm.told.there n _ t1
 have := (List.getElem?_eq_some_iff.1 f1).1
 simp at h1
 omega
end
def three : List (List Int) := [[5], [1], [5]]
theorem once_three : onceL (srtL three) = [[1], [5]] := by
 refine up_ext (onceL_up (srtL_up _)) ?_ fun y => ?_
 ·simp [cmpL]
 ·rw [once_mem]
  unfold three
  simp only [List.mem_cons, List.not_mem_nil, or_false]
  constructor
  ·rintro (h | h | h)
   ·exact .inr h
   ·exact .inl h
   ·exact .inr h
  ·rintro (h | h)
   ·exact .inr (.inl h)
   ·exact .inl h
theorem one_word {A : Heap} {k : Nat} {t : TypeId} {ik : IntKind} {x : Int} (r : RowT A k t #[.int ik x]) : Ints ik A ⟨some ⟨k, 0, none⟩, 1, 1⟩ [x] := by
 refine ⟨rfl, fun i u hu => ⟨_, rfl, ?_⟩⟩
 have hi : i = 0 := by have := (List.getElem?_eq_some_iff.1 hu).1; simp at this; omega
 subst hi
 simp at hu; subst hu
 rw [add_lit0]; exact r.cell rfl
theorem fits1 {x : Int} (h : 0 ≤ x ∧ x < 100) : fitsL [x] := fun y hy => by
 simp at hy; subst hy; omega
theorem le_works {all : List (List Int)} (h : all.length ≤ 3) : SoLe nmS 1 3 20 2 all :=
 ⟨by decide, by decide, by omega, by decide, by omega, by decide, by decide⟩
theorem cap_works {all : List (List Int)} (h : all.length ≤ 3) : ∀ f, f * (3 * rmW 1) ≤ all.length → 2 * f + 2 ≤ 2 := fun f u => by
 have e : 3 * rmW 1 = 189 := by decide
 rw [e] at u; omega
section
variable {H : Heap}
set_option maxHeartbeats 1000000 in
theorem soworks_ok {K : Bool → Heap → Prop} (hg : Gl H) (hK : ∀ B, Ext H B → K true B) : ZbW.sp H K := by
 refine ZbW.of ?_
 unfold ZbW.vc
 refine New_ok (by decide) fun F1 d H1 a1 e1 f1 => ?_
 refine TP.new (m := 8) hg e1 a1 f1 (by decide) (by decide) fun p H2 t2 => ?_
 refine soNew_t (n := nmS) (W := 1) (fr := 3) (q := 20) (mo := 8) t2 (by decide) (by decide) (by decide) (by decide) (by decide) (by decide) fun k H3 t3 => ?_
 refine br_f rfl (br_f rfl ?_)
 refine newC_rowT fun H4 z4 r4 x4 => ?_
 refine (t3.grow x4).add hg (le_works (by decide)) (one_word r4) rfl (fits1 (by decide)) (cap_works (by decide)) (by decide) (by decide) (by decide) fun H5 t5 => ?_
 refine br_f rfl ?_
 refine newC_rowT fun H6 z6 r6 x6 => ?_
 refine (t5.grow x6).add hg (le_works (by decide)) (one_word r6) rfl (fits1 (by decide)) (cap_works (by decide)) (by decide) (by decide) (by decide) fun H7 t7 => ?_
 refine br_f rfl ?_
 refine newC_rowT fun H8 z8 r8 x8 => ?_
 refine (t7.grow x8).add hg (le_works (by decide)) (one_word r8) rfl (fits1 (by decide)) (cap_works (by decide)) (by decide) (by decide) (by decide) fun H9 t9 => ?_
 refine br_f rfl ?_
 refine t9.done hg (le_works (by decide)) (cap_works (by decide)) (by decide) (by decide) (by decide) fun F s M A hP hrun hrise honly => ?_
 have e3 : onceL (srtL ([] ++ [[5]] ++ [[1]] ++ [[5]])) = [[1], [5]] := once_three
 rw [e3] at hP hrun hrise ⊢
 have hs : nmS.size ≤ 9223372036854775807 := by decide
 refine hP.openRun hg hrun (by decide) hs (by decide) (by decide) (by decide) (by decide) fun F' s' k' B hP' hrd hon S hk hF => ?_
 refine br_f rfl (br_f rfl ?_)
 refine hP'.nextRow hg hrd (fun b hb u => ?_) hrun hon hrise (by decide) hs (by decide) (by decide) (by decide) (by decide) (Nat.le_trans hP.ext.size hk) (fun _ F2 s2 si srs r' l C hP2 _ _ _ _ ho _ _ _ _ => ?_) (fun u => ?_)
 ·rcases u with u | u | u
  ·exact hF (u ▸ hb)
  ·exact nilS_own b u
  ·obtain ⟨x, hx, _⟩ := u; cases hx
 ·have hI : Ints .u64 C l [1] := Owns.ints ho
  have hn : l.n = 1 := hI.len
  refine br_t (by simp [hn]) ?_
  refine hI.ld (i := 0) (by decide) (by decide) fun ad _ => ?_
  refine br_t rfl ?_
  refine hP2.list1 hg hrun honly fun l2 D n2 e2 => ?_
  rw [n2]
  exact hK D (hP2.ext.trans e2)
 ·exact absurd u (by decide)
end
theorem SorterNone_ok {width frames : Int} {l : Sl} {H : Heap} {K : Bool → Heap → Prop} (hg : Gl H) (hK : ∀ B, Ext H B → K true B) : Zbz.sp width frames l H K := by
 refine Zbz.of ?_
 unfold Zbz.vc
 refine SDone_none ?_
 refine soNew_none ?_
 refine newC_rowT fun H3 z3 r3 x3 => ?_
 refine Merge_none ?_
 refine br_t rfl (br_t rfl ?_)
 refine SAdd_none ?_
 refine br_t rfl ?_
 exact soworks_ok (hg.mod x3 id) fun B e => hK B (x3.trans e)
end Go.Proofs.YtmkbhnholcaghaaGreatDoor
namespace Go.Proofs.YtmkbhnholcaghaaGreatDoor
open Go.ChangeShapes Go.WideShapes Go.ChangeAt Go.RowKit
set_option maxRecDepth 100000 in
theorem sorterNone_lifted (os : Os) (started : os.Started) (H : Type) (enc : TypeId × Value → H) :
  ReturnsInHanded {} Tryz.checked os 3 .any (fun w args => (Rows.sorterNoneSpec.pre enc Tryz.prog Tryz.f3 [] false w args ∧ laidMetH Tryz.prog laidS w) ∧ sizedMet enc Tryz.prog Tryz.f3 (OpenSpec.ofChange Rows.sorterNoneSpec) false w args)
   (Rows.sorterNoneSpec.post enc Tryz.prog Tryz.f3 false true false false) := by
 refine returnsInHanded_of_change_and (C := Tryz.checked) (X := fun w _ => laidMetH Tryz.prog laidS w) (fun _ _ _ hh h => h.of_heap hh) pprog_own started (by kernel_rfl) Tryz.func3
  (ChangeSpec.witness_shaped (enc := enc) (C := Tryz.checked) (os := os) (X := fun w _ => laidMetH Tryz.prog laidS w) false (World.doorLaid Tryz.prog 400 os) #[.int .i64 0, .int .i64 0, .slice none 0 0] 8 rfl (World.shaped_of_RefB (by kernel_rfl) (by kernel_rfl)) (by kernel_rfl) (by kernel_rfl) (by kernel_rfl) (door_met os _)) ?_
 intro W base args ds gs before hval0 hW _ _ hL _
 have hval : ∀ (j : Nat) t v, Tryz.f3.params[j]? = some t → args[j]? = some v → Value.okWide Tryz.prog W .any base t v := hval0
 have hW' := hW
 obtain ⟨p, q, hA0, hV, rfl, hfz, hnd⟩ := hW
 have hA : DataW.TrodAll enc Tryz.prog W 0 (fun _ => true) true Tryz.f3.params.toList args.toList ds p := hA0
 rw [Tryz.params3] at hA hval
 obtain ⟨v0, v1, v2, d0, d1, d2, p0, p1, p2, rfl, rfl, rfl, h0, h1, h2⟩ := trodAll_three hA
 obtain ⟨rfl, rfl⟩ := trodVars_none hV
 obtain ⟨width, rfl, _⟩ := wide_int (k := .i64) (hval 0 YaK v0 rfl rfl) (by kernel_rfl)
 obtain ⟨frames, rfl, _⟩ := wide_int (k := .i64) (hval 1 YaK v1 rfl rfl) (by kernel_rfl)
 obtain ⟨l, ll, rfl, il, cl, wl⟩ := open_sl_ints (k := .u64) (e := YaI) (by kernel_rfl) (by kernel_rfl) (by kernel_rfl) (hval 2 YaE v2 rfl rfl) h2
 have hspec := SorterNone_ok (width := width) (frames := frames) (l := l) (H := W.heap) (K := fun b H' => b = true ∧ Ext W.heap H') (gl_of_laid hL) (fun H' e => ⟨rfl, e⟩)
 refine (hspec W rfl).mono fun e W' ⟨v, he, ⟨x, hx, hb, hext⟩, hal⟩ => ?_
 subst he; subst hx; subst hb
 exact ⟨_, rfl, law_post pprog_laidOut (by decide +kernel) rfl (by kernel_rfl) rfl rfl rfl rfl hW' hext hal⟩
theorem sorterNone_row : Rows.SorterNoneSaid :=
 OpenClaim.holds_of_wide 3 Tryz.f3 rfl rfl rfl rfl rfl rfl rfl ⟨rfl, rfl, rfl, rfl, rfl⟩ rfl rfl rfl rfl rfl (by kernel_rfl) Tryz.func3 (by kernel_rfl)
  (of_decide_eq_true (by kernel_rfl)) (by unfold Func.isWrapper; first | (rw [if_pos (by decide +kernel)]; kernel_rfl) | (rw [if_neg (by decide +kernel)]; exact ⟨rfl, rfl⟩))
  (fun os started H enc _ => sorterNone_lifted os started H enc)
theorem sorterNone_holds : Rows.SorterNoneCardSaid :=
 Claim7.holds_tied_plain_at .later [] [.data, .data, .data, .data] true _ false
  sorterNone_row (fun _ h => by cases h) (by kernel_rfl) (fun _ h => by cases h) sorterNone_row_tie rfl ⟨rfl, rfl⟩ (by kernel_rfl) rfl
  (fun f fn hf hfn => by
   obtain rfl : f = 3 := Option.some.inj ((show Tryz.prog.funcNamed "fathom/fathomlaw08.SorterNone" = some 3 by kernel_rfl).symm.trans hf) |>.symm
   obtain rfl : fn = Tryz.f3 := (Option.some.inj (Tryz.func3.symm.trans hfn)).symm
   exact ⟨by kernel_rfl, fun j t ht => by
    rw [Tryz.params3] at ht
    have hm : t ∈ [YaK, YaK, YaE] := by simpa using Array.mem_of_getElem? ht
    have hall : ([YaK, YaK, YaE].all fun u => !Tryz.prog.wantsStandIn u) = true := by kernel_rfl
    exact (show Tryz.prog.wantsStandIn t = false by simpa using List.all_eq_true.1 hall t hm)⟩)
  (by kernel_rfl)
#print axioms sorterNone_holds
end Go.Proofs.YtmkbhnholcaghaaGreatDoor
