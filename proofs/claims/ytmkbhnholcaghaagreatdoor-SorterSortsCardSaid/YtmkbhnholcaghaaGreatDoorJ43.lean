/-
 SorterSorts: for every input the law returns true, and its arguments read as before; the tables are laid as the program's text lays them. No condition beside that.
-/
import Derived.Test.YtmkbhnholcaghaaGreatDoorPkr
import Derived.Test.YtmkbhnholcaghaaGreatDoorFxn
import Derived.Test.YtmkbhnholcaghaaGreatDoorFxt
import Derived.Test.YtmkbhnholcaghaaGreatDoorJ33
import Derived.Test.YtmkbhnholcaghaaGreatDoorJ34
import Derived.Test.YtmkbhnholcaghaaGreatDoorJ37
import Derived.Test.YtmkbhnholcaghaaGreatDoorJ39
import Derived.Test.YtmkbhnholcaghaaGreatDoorFxw
import Derived.Test.YtmkbhnholcaghaaGreatDoorJ42
/-
 The sorter over several files, in plain words: the run holds the rows that were added, rising, each once.
-/
namespace Go.Proofs.YtmkbhnholcaghaaGreatDoor
theorem up_ext : ∀ {l r : List (List Int)}, l.Pairwise (fun x y => cmpL x y < 0) → r.Pairwise (fun x y => cmpL x y < 0) → (∀ y, y ∈ l ↔ y ∈ r) → l = r
 | [], [], _, _, _ => rfl
 | [], b :: r, _, _, h => absurd ((h b).2 List.mem_cons_self) (by simp)
 | a :: l, [], _, _, h => absurd ((h a).1 List.mem_cons_self) (by simp)
 | a :: l, b :: r, hl, hr, h => by
   obtain ⟨l1, l2⟩ := List.pairwise_cons.1 hl
   obtain ⟨r1, r2⟩ := List.pairwise_cons.1 hr
   have irr : ∀ x : List Int, ¬ cmpL x x < 0 := fun x => by rw [cmpL_self]; omega
   have e : a = b := by
    rcases List.mem_cons.1 ((h a).1 List.mem_cons_self) with q | q
    ·exact q
    ·rcases List.mem_cons.1 ((h b).2 List.mem_cons_self) with u | u
     ·exact u.symm
     ·exact absurd (cmpL_trans (l1 b u) (r1 a q)) (irr a)
   subst e
   congr 1
   refine up_ext l2 r2 fun y => ⟨fun q => ?_, fun q => ?_⟩
   ·rcases List.mem_cons.1 ((h y).1 (List.mem_cons_of_mem _ q)) with u | u
    ·subst u; exact absurd (l1 _ q) (irr _)
    ·exact u
   ·rcases List.mem_cons.1 ((h y).2 (List.mem_cons_of_mem _ q)) with u | u
    ·subst u; exact absurd (r1 _ q) (irr _)
    ·exact u
theorem once_mem {y : List Int} {l : List (List Int)} : y ∈ onceL (srtL l) ↔ y ∈ l := onceL_mem.trans (srtL_perm _).mem_iff
theorem once_eq {l r : List (List Int)} (h : ∀ y, y ∈ l ↔ y ∈ r) : onceL (srtL l) = onceL (srtL r) :=
 up_ext (onceL_up (srtL_up _)) (onceL_up (srtL_up _)) fun y => by rw [once_mem, once_mem]; exact h y
theorem once_rise {W : Nat} {l : List (List Int)} (h : ∀ y ∈ l, y.length = W ∧ fitsL y) : Rise W (onceL (srtL l)) :=
 rise_of (onceL_up (srtL_up _)) (fun y hy => (h y (once_mem.1 hy)).1) (fun y hy => (h y (once_mem.1 hy)).2)
structure SoOn (s : So) (p : Pl) (M : Files) (Q U : Nat) (n : ByteArray) (W fr : Nat) (all : List (List Int)) (fs : List (ByteArray × List (List Int))) (k m most : Nat) : Prop where
 calm : CalmM p M Q U
 room : RoomyM M
 name : s.name = n
 width : s.width = W
 frames : s.frames = fr
 wrong : s.wrong = 0
 closed : s.closed = false
 side : s.side = fs.map (·.1)
 good : ∀ a ∈ fs, FileG M W a
 nodup : (fs.map (·.1)).Nodup
 names : ∀ x ∈ fs.map (·.1), ∃ i, i < s.next ∧ x = sideN n i
 only : ∀ a y, M a = some y → a ∈ fs.map (·.1)
 mem : ∀ y, y ∈ all ↔ y ∈ s.wait ∨ y ∈ fs.flatMap (·.2)
 fit : ∀ y ∈ all, y.length = W ∧ fitsL y
 used : U = pagesL W fs
 count : s.wait.length + (fs.flatMap (·.2)).length ≤ all.length
 next : s.next + fs.length ≤ k
 lo : 0 ≤ p.next
 hi : p.next ≤ m
 most : p.most = most
section
variable {s : So} {p : Pl} {M : Files} {Q U : Nat} {n : ByteArray} {W fr : Nat} {all : List (List Int)} {fs : List (ByteArray × List (List Int))} {k m most cap : Nat}
structure SoLe (n : ByteArray) (W fr Q cap : Nat) (all : List (List Int)) : Prop where
 width : W ≤ 16
 quota : Q ≤ 1048576
 many : 2 * all.length + cap + 2 < Q
 cap : cap ≤ 100
 big : all.length ≤ 300000
 name : 1 ≤ n.size ∧ n.size ≤ 90
 frames : 3 ≤ fr ∧ fr ≤ 4096
theorem SoLe.size (h : SoLe n W fr Q cap all) : n.size ≤ 9223372036854775807 ∧ ∀ i, i < 100 → (sideN n i).size ≤ 9223372036854775807 := by
 have := h.name
 refine ⟨by omega, fun i hi => ?_⟩
 have := (itoa_all i hi).2
 rw [sideN_size]; omega
theorem SoLe.named (h : SoLe n W fr Q cap all) : named n = true ∧ ∀ i, i < 100 → Go.Proofs.YtmkbhnholcaghaaGreatDoor.named (sideN n i) = true := by
 have := h.name
 refine ⟨?_, fun i hi => sideN_named hi (by omega)⟩
 unfold Go.Proofs.YtmkbhnholcaghaaGreatDoor.named
 simp only [Bool.and_eq_true, decide_eq_true_eq]
 omega
theorem SoOn.free (h : SoOn s p M Q U n W fr all fs k m most) (hi : s.next < 100) : M (sideN n s.next) = none := by
 cases e : M (sideN n s.next) with
 | none => rfl
 | some y =>
   obtain ⟨i, h1, h2⟩ := h.names _ (h.only _ _ e)
   have := sideN_inj hi (by omega) h2
   omega
theorem SoOn.freeN (h : SoOn s p M Q U n W fr all fs k m most) : M n = none := by
 cases e : M n with
 | none => rfl
 | some y =>
   obtain ⟨i, h1, h2⟩ := h.names _ (h.only _ _ e)
   exact absurd h2.symm (sideN_ne _ _)
theorem SoOn.le (h : SoOn s p M Q U n W fr all fs k m most) (b : SoLe n W fr Q cap all) : U ≤ fs.length + (fs.flatMap (·.2)).length := by
 rw [h.used]; exact pagesL_le b.width fs
theorem SoOn.aside (h : SoOn s p M Q U n W fr all fs k m most) (b : SoLe n W fr Q cap all) (hk : k + 2 ≤ cap) (hm : m < 1000000000000) :
  (s.aside p).2.2 = 0 ∧ ∃ M' U' L, SoOn (s.aside p).2.1 (s.aside p).1 M' Q U' n W fr all (fs ++ [(sideN n s.next, L)]) (k + 2) (m + (3 * all.length + 300)) most := by
 have hcp0 := b.cap
 have hx : s.next < 100 := by have := h.next; omega
 have hle := h.le b
 have hlo := h.lo
 have hhi := h.hi
 have hct := h.count
 have hol := once_len s.wait
 have hfl : fs.length ≤ cap := by have := h.next; omega
 have hmany := b.many
 have hcp := b.cap
 have hbig := b.big
 have hrise : Rise W (onceL (srtL s.wait)) := once_rise fun y hy => h.fit y ((h.mem y).2 (.inl hy))
 obtain ⟨a1, M', U', w1, w2, w3⟩ := wrRun_on (to := sideN n s.next) b.width b.quota h.calm h.room hrise (h.free hx) (b.named.2 _ hx) (b.size.2 _ hx) (ns := fs.map (·.1)) h.only (by simp; omega) (by omega) (by omega) h.lo (by omega)
 have hne : ∀ a ∈ fs, a.1 ≠ sideN n s.next := fun a ha q => by
  obtain ⟨i, h1, h2⟩ := h.names a.1 (List.mem_map.2 ⟨a, ha, rfl⟩)
  rw [q] at h2
  have := sideN_inj hx (by omega) h2
  omega
 unfold So.aside
 rw [h.name, h.width]
 refine ⟨a1, M', U', onceL (srtL s.wait), ?_⟩
 have q := w1.next
 refine ⟨w1.calm, w1.room, h.name, h.width, h.frames, h.wrong, h.closed, ?_, ?_, ?_, ?_, ?_, ?_, h.fit, ?_, ?_, ?_, by show 0 ≤ (wrRun _ _ _ _).1.next; omega, by show (wrRun _ _ _ _).1.next ≤ _; omega, w1.most.trans h.most⟩
 ·show s.side ++ [sideN s.name s.next] = _
  rw [h.side, h.name]; simp
 ·intro a ha
  rcases List.mem_append.1 ha with q | q
  ·exact (h.good a q).keep (w1.other _ (hne a q))
  ·rw [List.mem_singleton] at q
   subst q
   exact ⟨w2, hrise, b.size.2 _ hx, by show (onceL (srtL s.wait)).length ≤ _; omega⟩
 ·rw [List.map_append, List.nodup_append]
  refine ⟨h.nodup, by simp, fun a ha c hc => ?_⟩
  simp at hc
  obtain ⟨z, z1, z2⟩ := List.mem_map.1 ha
  rw [← z2, hc]; exact hne z z1
 ·intro x hx'
  rw [List.map_append] at hx'
  rcases List.mem_append.1 hx' with q | q
  ·obtain ⟨i, h1, h2⟩ := h.names x q
   exact ⟨i, by show i < s.next + 1; omega, h2⟩
  ·simp at q
   exact ⟨s.next, Nat.lt_succ_self _, q⟩
 ·intro a y ha
  rw [List.map_append]
  by_cases e : a = sideN n s.next
  ·exact List.mem_append.2 (.inr (by simp [e]))
  ·rw [w1.other a e] at ha
   exact List.mem_append.2 (.inl (h.only a y ha))
 ·intro y
  rw [h.mem, List.flatMap_append, List.mem_append]
  show _ ↔ y ∈ ([] : List (List Int)) ∨ _
  simp [once_mem]
  constructor
  ·rintro (u | u)
   ·exact .inr u
   ·exact .inl u
  ·rintro (u | u)
   ·exact .inr u
   ·exact .inl u
 ·rw [w3, h.used, pagesL_append]
  unfold pagesL
  simp; omega
 ·rw [List.flatMap_append, List.length_append]
  show ([] : List (List Int)).length + _ ≤ _
  simp only [List.flatMap_cons, List.flatMap_nil, List.append_nil, List.length_nil]
  omega
 ·have := h.next
  rw [List.length_append]
  show s.next + 1 + (fs.length + 1) ≤ _
  omega
theorem SoOn.push (h : SoOn s p M Q U n W fr all fs k m most) {l : List Int} (h1 : l.length = W) (h2 : fitsL l) : SoOn { s with wait := s.wait ++ [l] } p M Q U n W fr (all ++ [l]) fs k m most := by
 refine ⟨h.calm, h.room, h.name, h.width, h.frames, h.wrong, h.closed, h.side, h.good, h.nodup, h.names, h.only, fun y => ?_, fun y hy => ?_, h.used, ?_, h.next, h.lo, h.hi, h.most⟩
 ·show _ ↔ y ∈ s.wait ++ [l] ∨ _
  rw [List.mem_append, List.mem_append, h.mem]
  constructor
  ·rintro ((u | u) | u)
   ·exact .inl (.inl u)
   ·exact .inr u
   ·exact .inl (.inr u)
  ·rintro ((u | u) | u)
   ·exact .inl (.inl u)
   ·exact .inr u
   ·exact .inl (.inr u)
 ·rcases List.mem_append.1 hy with q | q
  ·exact h.fit y q
  ·rw [List.mem_singleton] at q; subst q; exact ⟨h1, h2⟩
 ·have := h.count
  show (s.wait ++ [l]).length + _ ≤ _
  simp only [List.length_append, List.length_cons, List.length_nil]; omega
theorem SoOn.again (h : SoOn s p M Q U n W fr all fs k m most) : SoOn { s with wrong := 0 } p M Q U n W fr all fs k m most :=
 ⟨h.calm, h.room, h.name, h.width, h.frames, rfl, h.closed, h.side, h.good, h.nodup, h.names, h.only, h.mem, h.fit, h.used, h.count, h.next, h.lo, h.hi, h.most⟩
theorem SoOn.ready (h : SoOn s p M Q U n W fr all fs k m most) : s.ready = 0 := by
 unfold So.ready
 rw [if_neg (by rw [h.wrong]; simp), if_neg (by rw [h.closed]; simp)]
theorem SoOn.add (h : SoOn s p M Q U n W fr all fs (2 * fs.length) m most) {l : List Int} (h1 : l.length = W) (h2 : fitsL l) (b : SoLe n W fr Q cap (all ++ [l])) (hj : fs.length * (fr * rmW W) + s.wait.length = all.length) (hw : s.wait.length < fr * rmW W) (h100 : 2 * fs.length + 2 ≤ cap) (hm : m < 1000000000000) :
  (s.add p l).2.2 = 0 ∧ ∃ M' U' fs', SoOn (s.add p l).2.1 (s.add p l).1 M' Q U' n W fr (all ++ [l]) fs' (2 * fs'.length) (m + (3 * (all.length + 1) + 300)) most ∧ fs'.length * (fr * rmW W) + (s.add p l).2.1.wait.length = (all ++ [l]).length ∧ (s.add p l).2.1.wait.length < fr * rmW W := by
 have hp := h.push h1 h2
 have r1 := (roomL_width (Nat.zero_le W) b.width).1
 have e1 : s.frames * roomL s.width = ((fr * rmW W : Nat) : Int) := by rw [h.frames, h.width, r1, Int.natCast_mul]
 have e2 : ¬ (l.length : Int) ≠ s.width := by rw [h.width, h1]; simp
 unfold So.add
 rw [if_neg (by rw [h.ready]; simp), if_neg e2, e1]
 by_cases hc : s.wait.length + 1 < fr * rmW W
 ·rw [if_pos (by omega)]
  refine ⟨rfl, M, U, fs, ⟨hp.calm, hp.room, hp.name, hp.width, hp.frames, hp.wrong, hp.closed, hp.side, hp.good, hp.nodup, hp.names, hp.only, hp.mem, hp.fit, hp.used, hp.count, hp.next, hp.lo, by have := hp.hi; show p.next ≤ _; omega, hp.most⟩, ?_, ?_⟩
  ·show _ + (s.wait ++ [l]).length = _
   simp; omega
  ·show (s.wait ++ [l]).length < _
   simpa using hc
 ·rw [if_neg (by omega)]
  obtain ⟨a1, M', U', L, a2⟩ := hp.aside b h100 hm
  simp only
  rw [a1]
  rw [List.length_append] at a2
  have hw2 : ({ s with wait := s.wait ++ [l] }.aside p).2.1 = { s with wait := s.wait ++ [l] }.asided := rfl
  rw [hw2] at a2
  refine ⟨rfl, M', U', fs ++ [(sideN n s.next, L)], ?_, ?_, ?_⟩
  ·have := a2.again
   rw [List.length_append]
   exact this
  ·show _ + ([] : List (List Int)).length = _
   simp only [List.length_append, List.length_cons, List.length_nil, Nat.add_mul]
   omega
  ·show ([] : List (List Int)).length < _
   simp only [List.length_nil]; omega
end
section
variable {s : So} {p : Pl} {M : Files} {Q U : Nat} {n : ByteArray} {W fr : Nat} {all : List (List Int)} {fs : List (ByteArray × List (List Int))} {k m most cap : Nat}
theorem flat_take (fs : List (ByteArray × List (List Int))) (c : Nat) : ((fs.take c).flatMap (·.2)).length + ((fs.drop c).flatMap (·.2)).length = (fs.flatMap (·.2)).length := by
 rw [← List.length_append, ← List.flatMap_append, List.take_append_drop]
theorem flat_mem (fs : List (ByteArray × List (List Int))) (c : Nat) (y : List Int) : y ∈ fs.flatMap (·.2) ↔ y ∈ (fs.take c).flatMap (·.2) ∨ y ∈ (fs.drop c).flatMap (·.2) := by
 rw [← List.mem_append, ← List.flatMap_append, List.take_append_drop]
theorem SoOn.merge (h : SoOn s p M Q U n W fr all fs k m most) (b : SoLe n W fr Q cap all) {c : Nat} (hc : 1 ≤ c) (hne : fs ≠ []) {to : ByteArray} (hM : M to = none) (hto : named to = true) (hts : to.size ≤ 9223372036854775807) (hk : k ≤ cap) (hm : m < 1000000000000) (nx : Nat) :
  ((s.to nx).merge p c to).2.2 = ((onceL (srtL ((fs.take c).flatMap (·.2)))).length, 0) ∧ ((s.to nx).merge p c to).2.1 = { s with next := nx, side := s.side.drop c } ∧ ∃ M' U', CalmM ((s.to nx).merge p c to).1 M' Q U' ∧ RoomyM M' ∧ (∀ a, a ∉ (fs.take c).map (·.1) → a ≠ to → M' a = M a) ∧ (∀ a ∈ (fs.take c).map (·.1), M' a = none) ∧
    RanM M' to W (rmW W) (onceL (srtL ((fs.take c).flatMap (·.2)))) ∧ U' = pagesL W (fs.drop c) + (1 + pagesN (onceL (srtL ((fs.take c).flatMap (·.2)))).length (rmW W)) ∧ 0 ≤ ((s.to nx).merge p c to).1.next ∧ ((s.to nx).merge p c to).1.next ≤ ((m + (3 * all.length + 300) : Nat) : Int) ∧ ((s.to nx).merge p c to).1.most = most := by
 have hle := h.le b
 have hlo := h.lo
 have hhi := h.hi
 have hct := h.count
 have hcp0 := b.cap
 have hfl : fs.length ≤ cap := by have := h.next; omega
 have hmany := b.many
 have hcp := b.cap
 have hbig := b.big
 have hfk := flat_take fs c
 have hol := once_len ((fs.take c).flatMap (·.2))
 have hg : ∀ a ∈ fs.take c, FileG M W a := fun a ha => h.good a (List.mem_of_mem_take ha)
 have hn1 : fs.take c ≠ [] := by
  intro q
  rcases List.take_eq_nil_iff.1 q with q | q
  ·omega
  ·exact hne q
 have htl : (fs.take c).length ≤ 100 := by rw [List.length_take]; omega
 obtain ⟨a1, M1, U1, w1, w2, _, w4⟩ := mergeP_on (to := to) (out := onceL (srtL ((fs.take c).flatMap (·.2)))) b.width b.quota h.calm h.room hg hn1 hM hto hts (ns := fs.map (·.1)) h.only (by simp; omega) rfl (by omega) (by omega) (by omega) h.lo (by omega)
 have hto2 : ∀ a ∈ fs, a.1 ≠ to := fun a ha q => by
  obtain ⟨T, q1, _⟩ := (h.good a ha).run.file
  rw [q, hM] at q1; cases q1
 have hnd : ((fs.take c).map (·.1)).Nodup := h.nodup.sublist ((List.take_sublist _ _).map _)
 obtain ⟨d1, M2, d2, d3, d4, d5, d6, d7⟩ := dropL_on (fs := fs.take c) w1.calm w1.room (fun a ha => (hg a ha).keep (w1.other _ (hto2 a (List.mem_of_mem_take ha)))) hnd
 have es : (s.to nx).side.take c = (fs.take c).map (·.1) := by show s.side.take c = _; rw [h.side, List.map_take]
 have ew : (s.to nx).width = W := h.width
 have q := w1.next
 have htn : to ∉ (fs.take c).map (·.1) := fun u => by
  obtain ⟨a, ha, e⟩ := List.mem_map.1 u
  exact hto2 a (List.mem_of_mem_take ha) e
 have em : dropM ((fs.take c).map (·.1)) (mergeP p ((fs.take c).map (·.1)) to W) = dropL ((fs.take c).map (·.1)) (mergeP p ((fs.take c).map (·.1)) to W).1 := by
  unfold dropM
  rw [if_neg (by rw [a1]; simp)]
 unfold So.merge
 rw [es, ew, em, a1, d1]
 refine ⟨rfl, by rw [← h.width]; rfl, M2, _, d2, d3, fun a ha hb => (d4 a ha).trans (w1.other a hb), d5, w2.keep (d4 to htn), ?_, by show 0 ≤ (dropL _ _).1.next; omega, by show (dropL _ _).1.next ≤ _; omega, (d7.trans w1.most).trans h.most⟩
 have : pagesL W fs = pagesL W (fs.take c) + pagesL W (fs.drop c) := by rw [← pagesL_append, List.take_append_drop]
 have := h.used
 omega
set_option maxRecDepth 10000 in
theorem SoOn.round (h : SoOn s p M Q U n W fr all fs cap m most) (b : SoLe n W fr Q cap all) (hne : fs ≠ []) (hc : fr ≤ fs.length) (hm : m < 1000000000000) :
  (s.round p).2.2.2 = 0 ∧ ∃ M1 U1 fs1, SoOn { (s.round p).2.1 with side := s.side.drop (s.frames - 1).toNat ++ [sideN s.name s.next] } (s.round p).1 M1 Q U1 n W fr all fs1 cap (m + (3 * all.length + 300)) most ∧ fs1 ≠ [] ∧ fs1.length + 1 ≤ fs.length ∧ (s.round p).2.1.wait = s.wait := by
 have hfr := b.frames
 have hcp0 := b.cap
 have hnx : s.next + fs.length ≤ cap := h.next
 have hx : s.next < 100 := by omega
 have hcc : (s.frames - 1).toNat = fr - 1 := by rw [h.frames]; omega
 obtain ⟨a1, a2, M1, U1, c1, c2, c3, c4, c5, c6, c7, c8, c9⟩ := h.merge b (c := fr - 1) (by omega) hne (h.free hx) (b.named.2 _ hx) (b.size.2 _ hx) (Nat.le_refl _) (by omega) (s.next + 1)
 have hol := once_len ((fs.take (fr - 1)).flatMap (·.2))
 have hfk := flat_take fs (fr - 1)
 have hct := h.count
 have hbig := b.big
 have er : s.round p = (s.to (s.next + 1)).merge p (fr - 1) (sideN n s.next) := by unfold So.round; rw [hcc, h.name]
 have hnot : ∀ a ∈ fs.drop (fr - 1), a.1 ∉ (fs.take (fr - 1)).map (·.1) := fun a ha u => by
  have hd := h.nodup
  rw [← List.take_append_drop (fr - 1) fs, List.map_append, List.nodup_append] at hd
  exact hd.2.2 _ u _ (List.mem_map.2 ⟨a, ha, rfl⟩) rfl
 have hto2 : ∀ a ∈ fs, a.1 ≠ sideN n s.next := fun a ha q => by
  obtain ⟨T, q1, _⟩ := (h.good a ha).run.file
  rw [q, h.free hx] at q1; cases q1
 have g : SoOn { ((s.to (s.next + 1)).merge p (fr - 1) (sideN n s.next)).2.1 with side := s.side.drop (fr - 1) ++ [sideN n s.next] } ((s.to (s.next + 1)).merge p (fr - 1) (sideN n s.next)).1 M1 Q U1 n W fr all (fs.drop (fr - 1) ++ [(sideN n s.next, onceL (srtL ((fs.take (fr - 1)).flatMap (·.2))))]) cap (m + (3 * all.length + 300)) most := by
  rw [a2]
  refine ⟨c1, c2, h.name, h.width, h.frames, h.wrong, h.closed, ?_, ?_, ?_, ?_, ?_, ?_, h.fit, ?_, ?_, ?_, c7, c8, c9⟩
  ·show s.side.drop (fr - 1) ++ _ = _
   rw [h.side, List.map_append, List.map_drop]; rfl
  ·intro a ha
   rcases List.mem_append.1 ha with q | q
   ·exact (h.good a (List.mem_of_mem_drop q)).keep (c3 _ (hnot a q) (hto2 a (List.mem_of_mem_drop q)))
   ·rw [List.mem_singleton] at q
    subst q
    exact ⟨c5, once_rise fun y hy => h.fit y ((h.mem y).2 (.inr ((flat_mem fs (fr - 1) y).2 (.inl hy)))), b.size.2 _ hx, by show (onceL _).length ≤ _; omega⟩
  ·rw [List.map_append, List.nodup_append]
   refine ⟨h.nodup.sublist ((List.drop_sublist _ _).map _), by simp, fun a ha c hc => ?_⟩
   simp at hc
   obtain ⟨z, z1, z2⟩ := List.mem_map.1 ha
   rw [← z2, hc]; exact hto2 z (List.mem_of_mem_drop z1)
  ·intro x hx'
   rw [List.map_append] at hx'
   rcases List.mem_append.1 hx' with q | q
   ·obtain ⟨z, z1, z2⟩ := List.mem_map.1 q
    obtain ⟨i, i1, i2⟩ := h.names x (List.mem_map.2 ⟨z, List.mem_of_mem_drop z1, z2⟩)
    exact ⟨i, by show i < s.next + 1; omega, i2⟩
   ·simp at q
    exact ⟨s.next, Nat.lt_succ_self _, q⟩
  ·intro a y ha
   rw [List.map_append]
   by_cases e : a = sideN n s.next
   ·exact List.mem_append.2 (.inr (by simp [e]))
   ·by_cases q : a ∈ (fs.take (fr - 1)).map (·.1)
    ·rw [c4 a q] at ha; cases ha
    ·rw [c3 a q e] at ha
     have := h.only a y ha
     rw [← List.take_append_drop (fr - 1) fs, List.map_append, List.mem_append] at this
     exact List.mem_append.2 (.inl (this.resolve_left q))
  ·intro y
   rw [h.mem, List.flatMap_append, List.mem_append, flat_mem fs (fr - 1)]
   show _ ↔ y ∈ s.wait ∨ _
   simp only [List.flatMap_cons, List.flatMap_nil, List.append_nil, once_mem]
   constructor
   ·rintro (u | u | u)
    ·exact .inl u
    ·exact .inr (.inr u)
    ·exact .inr (.inl u)
   ·rintro (u | u | u)
    ·exact .inl u
    ·exact .inr (.inr u)
    ·exact .inr (.inl u)
  ·rw [c6, pagesL_append]
   unfold pagesL
   simp
  ·rw [List.flatMap_append, List.length_append]
   show s.wait.length + _ ≤ _
   simp only [List.flatMap_cons, List.flatMap_nil, List.append_nil]
   omega
  ·rw [List.length_append, List.length_drop]
   show s.next + 1 + (fs.length - (fr - 1) + 1) ≤ cap
   omega
 rw [hcc, h.name, er]
 refine ⟨by rw [a1], M1, U1, _, g, by simp, ?_, by rw [a2]⟩
 rw [List.length_append, List.length_drop]
 show fs.length - (fr - 1) + 1 + 1 ≤ fs.length
 omega
set_option maxRecDepth 10000 in
theorem SoOn.rounds (b : SoLe n W fr Q cap all) : ∀ (f : Nat) {s : So} {p : Pl} {M : Files} {U : Nat} {fs : List (ByteArray × List (List Int))} {m : Nat}, SoOn s p M Q U n W fr all fs cap m most → s.wait = [] → fs ≠ [] → fs.length ≤ f → m + f * (3 * all.length + 300) < 1000000000000 →
  (s.rounds f p).2.2 = 0 ∧ ∃ M' U' fs', SoOn (s.rounds f p).2.1 (s.rounds f p).1 M' Q U' n W fr all fs' cap (m + f * (3 * all.length + 300)) most ∧ (s.rounds f p).2.1.wait = [] ∧ fs' ≠ [] ∧ fs'.length < fr
 | 0, s, p, M, U, fs, m, h, hw, hne, hf, hm => absurd (List.eq_nil_of_length_eq_zero (by omega)) hne
 | f + 1, s, p, M, U, fs, m, h, hw, hne, hf, hm => by
   rw [Nat.succ_mul] at hm
   have hsl : s.side.length = fs.length := by rw [h.side, List.length_map]
   by_cases hc : fr ≤ fs.length
   ·obtain ⟨a1, M1, U1, fs1, g, g1, g2, g3⟩ := h.round b hne hc (by omega)
    have e : s.rounds (f + 1) p = So.rounds f { (s.round p).2.1 with side := s.side.drop (s.frames - 1).toNat ++ [sideN s.name s.next] } (s.round p).1 := by
     show (if s.frames ≤ (s.side.length : Int) then _ else _) = _
     rw [if_pos (by rw [h.frames, hsl]; omega), if_neg (by rw [a1]; simp)]
    rw [e]
    obtain ⟨r1, M', U', fs', r2, r3, r4, r5⟩ := SoOn.rounds b f g (g3.trans hw) g1 (by omega) (by omega)
    refine ⟨r1, M', U', fs', ?_, r3, r4, r5⟩
    rw [Nat.succ_mul, show m + (f * (3 * all.length + 300) + (3 * all.length + 300)) = m + (3 * all.length + 300) + f * (3 * all.length + 300) by omega]
    exact r2
   ·have e : s.rounds (f + 1) p = (p, s, 0) := by
     show (if s.frames ≤ (s.side.length : Int) then _ else _) = _
     rw [if_neg (by rw [h.frames, hsl]; omega)]
    rw [e]
    refine ⟨rfl, M, U, fs, ⟨h.calm, h.room, h.name, h.width, h.frames, h.wrong, h.closed, h.side, h.good, h.nodup, h.names, h.only, h.mem, h.fit, h.used, h.count, h.next, h.lo, ?_, h.most⟩, hw, hne, by omega⟩
    have := h.hi
    generalize (f + 1) * (3 * all.length + 300) = z
    show p.next ≤ _
    omega
theorem SoOn.done (h : SoOn s p M Q U n W fr all fs (2 * fs.length) m most) (b : SoLe n W fr Q cap all) (h100 : 2 * fs.length + 2 ≤ cap) (hm : m + 200 * (3 * all.length + 300) < 1000000000000) :
  (s.done p).2.2 = ((onceL (srtL all)).length, 0) ∧ (s.done p).2.1.wrong = 0 ∧ (s.done p).2.1.closed = true ∧ ∃ M', CalmM (s.done p).1 M' Q (1 + pagesN (onceL (srtL all)).length (rmW W)) ∧ RoomyM M' ∧ RanM M' n W (rmW W) (onceL (srtL all)) ∧ Rise W (onceL (srtL all)) ∧ (∀ a, a ≠ n → M' a = none) ∧ 0 ≤ (s.done p).1.next ∧ (s.done p).1.next ≤ m + 200 * (3 * all.length + 300) ∧ (s.done p).1.most = most := by
 have hne0 : fs = [] ↔ s.side = [] := by rw [h.side]; simp
 have first : (s.first p).2.2 = 0 ∧ ∃ M' U' fs', SoOn (s.first p).2.1 (s.first p).1 M' Q U' n W fr all fs' cap (m + (3 * all.length + 300)) most ∧ (s.first p).2.1.wait = [] ∧ fs' ≠ [] := by
  unfold So.first
  by_cases hc : s.wait ≠ [] ∨ s.side = []
  ·rw [if_pos hc]
   obtain ⟨a1, M', U', L, a2⟩ := h.aside b h100 (by omega)
   exact ⟨a1, M', U', _, ⟨a2.calm, a2.room, a2.name, a2.width, a2.frames, a2.wrong, a2.closed, a2.side, a2.good, a2.nodup, a2.names, a2.only, a2.mem, a2.fit, a2.used, a2.count, Nat.le_trans a2.next (by omega), a2.lo, a2.hi, a2.most⟩, rfl, by simp⟩
  ·rw [if_neg hc]
   rw [not_or] at hc
   exact ⟨rfl, M, U, fs, ⟨h.calm, h.room, h.name, h.width, h.frames, h.wrong, h.closed, h.side, h.good, h.nodup, h.names, h.only, h.mem, h.fit, h.used, h.count, Nat.le_trans h.next (by omega), h.lo, by have := h.hi; show p.next ≤ _; omega, h.most⟩, Classical.not_not.1 hc.1, fun q => hc.2 (hne0.1 q)⟩
 obtain ⟨f1, M1, U1, fs1, f2, f3, f4⟩ := first
 have hl1 : fs1.length ≤ 100 := by have := f2.next; have := b.cap; omega
 have hs1 : (s.first p).2.1.side.length = fs1.length := by rw [f2.side, List.length_map]
 have hz : fs1.length * (3 * all.length + 300) ≤ 100 * (3 * all.length + 300) := Nat.mul_le_mul_right _ hl1
 have h198 : 200 * (3 * all.length + 300) = 100 * (3 * all.length + 300) + 100 * (3 * all.length + 300) := by omega
 obtain ⟨r1, M2, U2, fs2, r2, r3, r4, r5⟩ := SoOn.rounds b fs1.length f2 f3 f4 (Nat.le_refl _) (by omega)
 have ho : onceL (srtL (fs2.flatMap (·.2))) = onceL (srtL all) := once_eq fun y => by rw [r2.mem, r3]; simp
 have hs2 : ((s.first p).2.1.rounds fs1.length (s.first p).1).2.1.side.length = fs2.length := by rw [r2.side, List.length_map]
 obtain ⟨a1, a2, M3, U3, c1, c2, c3, c4, c5, c6, c7, c8, c9⟩ := r2.merge b (c := fs2.length) (List.length_pos_iff.2 r4) r4 r2.freeN b.named.1 b.size.1 (Nat.le_refl _) (by omega) ((s.first p).2.1.rounds fs1.length (s.first p).1).2.1.next
 have e : s.done p = So.ends (((s.first p).2.1.rounds fs1.length (s.first p).1).2.1.merge ((s.first p).2.1.rounds fs1.length (s.first p).1).1 fs2.length n) := by
  unfold So.done So.goes So.last
  rw [if_neg (by rw [h.ready]; simp), if_neg (by rw [f1]; simp), hs1, if_neg (by rw [r1]; simp), hs2, r2.name]
 rw [List.take_length] at a1 c3 c4 c5 c6
 rw [ho] at a1 c5 c6
 have eta : ∀ x : So, x.to x.next = x := fun x => rfl
 rw [eta] at a1 a2 c1 c7 c8 c9
 rw [e]
 unfold So.ends
 rw [if_neg (by rw [a1]; simp), a1]
 have hrise : Rise W (onceL (srtL all)) := once_rise h.fit
 refine ⟨rfl, ?_, rfl, M3, ?_, c2, c5, hrise, fun a ha => ?_, c7, ?_, c9⟩
 ·exact (congrArg So.wrong a2).trans r2.wrong
 ·have eu : U3 = 1 + pagesN (onceL (srtL all)).length (rmW W) := by
   rw [c6, List.drop_length]
   show 0 + _ = _
   omega
  rw [← eu]; exact c1
 ·by_cases q : a ∈ fs2.map (·.1)
  ·exact c4 a q
  ·rw [c3 a q ha]
   cases u : M2 a with
   | none => rfl
   | some y => exact absurd (r2.only a y u) q
 ·exact Int.le_trans c8 (by omega)
end
open Go.MapKept
structure PoolM (H0 A : Heap) (F : Nat → Prop) (p dp : Nat) (s : Pl) (M : Files) (Q U most m : Nat) : Prop where
 ext : Ext H0 A
 pool : PoolAt F A p dp s
 old : ∀ b, F b → H0.size ≤ b
 calm : CalmM s M Q U
 lo : 0 ≤ s.next
 hi : s.next ≤ m
 logs : s.d.logs ≤ 2 * m
 le : U ≤ Q
 room : ∀ n x, M n = some x → ∀ k, (x.T k).2.length ≤ 504
 most : s.most = most
section
variable {H0 A B : Heap} {F F' : Nat → Prop} {p dp Q U most m : Nat} {s s' : Pl} {M M' : Files} {n : ByteArray} {x x' : St}
theorem PoolM.gl (h : PoolM H0 A F p dp s M Q U most m) (hg : Gl H0) : Gl A := hg.mod h.ext id
theorem PoolM.grow (h : PoolM H0 A F p dp s M Q U most m) (e : Ext A B) : PoolM H0 B F p dp s M Q U most m :=
 ⟨h.ext.trans e, h.pool.ext e, h.old, h.calm, h.lo, h.hi, h.logs, h.le, h.room, h.most⟩
theorem PoolM.later {m' : Nat} (h : PoolM H0 A F p dp s M Q U most m) (hm : m ≤ m') : PoolM H0 A F p dp s M Q U most m' :=
 ⟨h.ext, h.pool, h.old, h.calm, h.lo, by have := h.hi; omega, by have := h.logs; omega, h.le, h.room, h.most⟩
theorem PoolM.aside (h : PoolM H0 A F p dp s M Q U most m) (e : Ext H0 B) (hs : ∀ b, F b → B[b]? = A[b]?) : PoolM H0 B F p dp s M Q U most m :=
 ⟨e, h.pool.keep fun b hb _ => hs b hb, h.old, h.calm, h.lo, h.hi, h.logs, h.le, h.room, h.most⟩
end
section
variable {H0 A B : Heap} {F F' : Nat → Prop} {p dp Q U U' most m m' : Nat} {s s' : Pl} {M M' : Files} {n : ByteArray} {x x' : St}
set_option maxRecDepth 10000 in
theorem PoolM.went {Y Y' : Nat → Prop} (h : PoolM H0 A F p dp s M Q U most m) (hC : CalmM s' M' Q U') (hR : RoomyM M') (hp : PoolAt F' B p dp s') (S : Step Y Y' A B) (h1 : ∀ b, Y b → H0.size ≤ b) (h2 : ∀ b, F' b → Y' b)
  (n1 : s.next ≤ s'.next) (n2 : s'.next ≤ s.next + 2100) (lg : s'.d.logs ≤ s.d.logs + 4200) (hU : U' ≤ Q) (hm : s'.most = s.most) : PoolM H0 B F' p dp s' M' Q U' most (m + 2100) := by
 have hz := h.ext.size
 have lo := h.lo
 have hi := h.hi
 have hl := h.logs
 refine ⟨⟨Nat.le_trans hz S.mod.size, fun b hb _ => (S.mod.same b (by omega) fun u => by have := h1 b u; omega).trans (h.ext.same b hb id)⟩, hp, fun b hb => ?_, hC, by omega, by omega, by omega, hU, hR, hm.trans h.most⟩
 rcases S.own b (h2 b hb) with u | u
 ·exact h1 b u
 ·omega
variable {k W i : Nat} {w : RW} {sw sl l : Sl} {rs : List (List Int)}
theorem PoolM.openRun {K : (Option Addr × Int) → Heap → Prop} (h : PoolM H0 A F p dp s M Q U most m) (hg : Gl H0) (hrun : RanM M n W (rmW W) rs) (hbig : rs.length ≤ 1000000) (hs : n.size ≤ 9223372036854775807) (hQ : Q ≤ 1048576) (h1 : 0 ≤ W) (h2 : W ≤ 16) (hm : m ≤ 30000000000)
  (hK : ∀ F' s' k B, PoolM H0 B F' p dp s' M Q U most (m + 2100) → RdB B k p (rr0 n W rs.length) nilS [] → RdOn (rr0 n W rs.length) n W (rmW W) rs → Step F F' A B → A.size ≤ k → ¬ F' k → K (at0 k, 0) B) : Zdg.sp (at0 p) n W A K := by
 have lo := h.lo
 have hnx := h.hi
 have hlg := h.logs
 obtain ⟨a1, c1, c2, c3, c4, c5, c6⟩ := hrun.opened h.calm h1 h2 hs hQ h.le hbig h.lo (by omega)
 have ol := rnOpen_logs s n (W : Int)
 refine ropen_ok (h.gl hg) h.pool hs (by omega) (by omega) h.lo (fun F' B q1 S q2 => ?_) (fun F' B k r q1 S q2 q3 q4 q5 => ?_)
 ·rw [a1] at q2; cases q2
 ·have q2' : r = rr0 n W rs.length := by rw [a1] at q2; exact (Option.some.inj q2).symm
  subst q2'
  rw [a1]
  exact hK F' _ k B (h.went c1 h.room q1 S h.old (fun b hb => hb) (by omega) (by omega) (by omega) h.le c4) q3 c2 S q4 q5
variable {r : RR} {si : Sl} {srs : List Sl}
theorem PoolM.nextRow {K : (Sl × Bool × Int) → Heap → Prop} (h : PoolM H0 A F p dp s M Q U most m) (hg : Gl H0) (hrd : RdB A k p r si srs) (hd : ∀ b, F b → ¬ rdO k si srs b) (hrun : RanM M n W (rmW W) rs) (hon : RdOn r n W (rmW W) rs) (hr : Rise W rs) (hbig : rs.length ≤ 1000000) (hs : n.size ≤ 9223372036854775807) (hQ : Q ≤ 1048576) (h1 : 0 ≤ W) (h2 : W ≤ 16) (hm : m ≤ 30000000000) (hk : H0.size ≤ k)
  (hK1 : r.at_ < rs.length → ∀ F' s' si' srs' r' l B, PoolM H0 B F' p dp s' M Q U most (m + 2100) → RdB B k p r' si' srs' → (∀ b, F' b → ¬ rdO k si' srs' b) → RdOn r' n W (rmW W) rs → r'.at_ = r.at_ + 1 → Owns B 0 YaH 1 l ((rs.getD r.at_ []).map (Value.int .u64)) → (∀ b, ownB l b → A.size ≤ b ∧ ¬ F' b ∧ ¬ rdO k si' srs' b) → Mod (fun b => F b ∨ b = k) A B → (∀ b, F' b → F b ∨ A.size ≤ b) → (∀ b, rdO k si' srs' b → rdO k si srs b ∨ A.size ≤ b) → K (l, true, 0) B)
  (hK0 : r.at_ = rs.length → ∀ F' s' si' srs' r' l B, PoolM H0 B F' p dp s' M Q U most (m + 2100) → RdB B k p r' si' srs' → (∀ b, F' b → ¬ rdO k si' srs' b) → RdOn r' n W (rmW W) rs → Mod (fun b => F b ∨ b = k) A B → (∀ b, F' b → F b ∨ A.size ≤ b) → (∀ b, rdO k si' srs' b → rdO k si srs b ∨ A.size ≤ b) → K (l, false, 0) B) : Zcd.sp (at0 k) A K := by
 have lo := h.lo
 have hnx := h.hi
 have hlg := h.logs
 have hgl := hg.lt
 obtain ⟨n1, n2⟩ := hrun.next h.calm hon h1 h2 hr hs hQ h.le h.lo (by omega)
 have nl := RR.next_logs r s
 refine rnext_ok (h.gl hg) (fun u => by have := h.old _ u; omega) (by omega) (⟨h.pool, hrd, hd, .refl _ _, fun _ q => .inl q, fun _ q => .inl q⟩ : RedB A F (rdO k si srs) k p dp si srs F A s r) (hon.fine h1 h2 hbig) (by rw [hon.b]; exact hs) (by omega) (by omega) h.lo fun F' si' srs' B l g o f => ?_
 have old' : ∀ b, F b ∨ b = k → H0.size ≤ b := fun b u => u.elim (h.old b) fun e => by omega
 by_cases hc : r.at_ < rs.length
 ·obtain ⟨a1, a2, a3, a4, a5, a6, a7⟩ := n1 hc
  rw [a1] at o ⊢
  exact hK1 hc F' _ si' srs' _ l B (h.went a2 h.room g.pool (⟨g.mod, fun b u => (g.own b u).imp .inl id⟩ : Step (fun b => F b ∨ b = k) F' A B) old' (fun b hb => hb) a5 (by omega) (by omega) h.le a7) g.rd g.dis a3 a4 o f g.mod g.own g.own2
 ·have he : r.at_ = rs.length := by have := hon.at_; omega
  have a1 := n2 he
  rw [a1] at g o ⊢
  exact hK0 he F' s si' srs' r l B (h.went h.calm h.room g.pool (⟨g.mod, fun b u => (g.own b u).imp .inl id⟩ : Step (fun b => F b ∨ b = k) F' A B) old' (fun b hb => hb) (Int.le_refl _) (by omega) (by omega) h.le rfl) g.rd g.dis hon g.mod g.own g.own2
end
section
variable {s : So} {p : Pl} {M : Files} {Q U : Nat} {n : ByteArray} {W fr : Nat} {all : List (List Int)} {fs : List (ByteArray × List (List Int))} {k m most cap : Nat}
theorem restL_of (W : Nat) : ∀ fs : List (ByteArray × List (List Int)), restL (fs.map (rrOf W)) = (fs.flatMap (·.2)).length
 | [] => rfl
 | a :: fs => by
   have := restL_of W fs
   unfold restL at this ⊢
   rw [List.map_cons, List.map_cons, List.sum_cons, List.flatMap_cons, List.length_append, this]
   rfl
theorem SoOn.restLe (h : SoOn s p M Q U n W fr all fs k m most) (b : SoLe n W fr Q cap all) (hk : k ≤ cap) (hm : m < 1000000000000) (c : Nat) : restL (openL s.width (s.side.take c) p).2.1 ≤ all.length := by
 have hle := h.le b
 have hct := h.count
 have hmany := b.many
 have hcp := b.cap
 have hlo := h.lo
 have hhi := h.hi
 have hcp0 := b.cap
 have hfl : fs.length ≤ cap := by have := h.next; omega
 have htl : (fs.take c).length ≤ 100 := by rw [List.length_take]; omega
 obtain ⟨o1, _⟩ := openL_on (fs := fs.take c) b.width b.quota (by omega) h.calm (fun a ha => h.good a (List.mem_of_mem_take ha)) h.lo (by omega)
 have es : s.side.take c = (fs.take c).map (·.1) := by rw [h.side, List.map_take]
 rw [h.width, es, o1]
 show restL ((fs.take c).map (rrOf W)) ≤ _
 rw [restL_of]
 have := flat_take fs c
 omega
set_option maxRecDepth 100000 in
theorem SoOn.roundsLe (b : SoLe n W fr Q cap all) : ∀ (f : Nat) {s : So} {p : Pl} {M : Files} {U : Nat} {fs : List (ByteArray × List (List Int))} {m : Nat}, SoOn s p M Q U n W fr all fs cap m most → fs ≠ [] → m + f * (3 * all.length + 300) < 1000000000000 → s.roundsLe all.length f p
 | 0, _, _, _, _, _, _, _, _, _ => trivial
 | f + 1, s, p, M, U, fs, m, h, hne, hm => fun hc => by
   rw [Nat.succ_mul] at hm
   have hc' : fr ≤ fs.length := by rw [h.frames, h.side, List.length_map] at hc; omega
   obtain ⟨_, M1, U1, fs1, g, g1, _, _⟩ := h.round b hne hc' (by omega)
   exact ⟨h.restLe b (Nat.le_refl _) (by omega) _, fun _ => SoOn.roundsLe b f g g1 (by omega)⟩
theorem SoOn.first (h : SoOn s p M Q U n W fr all fs (2 * fs.length) m most) (b : SoLe n W fr Q cap all) (h100 : 2 * fs.length + 2 ≤ cap) (hm : m < 1000000000000) :
  (s.first p).2.2 = 0 ∧ ∃ M' U' fs', SoOn (s.first p).2.1 (s.first p).1 M' Q U' n W fr all fs' cap (m + (3 * all.length + 300)) most ∧ (s.first p).2.1.wait = [] ∧ fs' ≠ [] := by
 have hne0 : fs = [] ↔ s.side = [] := by rw [h.side]; simp
 unfold So.first
 by_cases hc : s.wait ≠ [] ∨ s.side = []
 ·rw [if_pos hc]
  obtain ⟨a1, M', U', L, a2⟩ := h.aside b h100 (by omega)
  exact ⟨a1, M', U', _, ⟨a2.calm, a2.room, a2.name, a2.width, a2.frames, a2.wrong, a2.closed, a2.side, a2.good, a2.nodup, a2.names, a2.only, a2.mem, a2.fit, a2.used, a2.count, Nat.le_trans a2.next (by omega), a2.lo, a2.hi, a2.most⟩, rfl, by simp⟩
 ·rw [if_neg hc]
  rw [not_or] at hc
  exact ⟨rfl, M, U, fs, ⟨h.calm, h.room, h.name, h.width, h.frames, h.wrong, h.closed, h.side, h.good, h.nodup, h.names, h.only, h.mem, h.fit, h.used, h.count, Nat.le_trans h.next (by omega), h.lo, by have := h.hi; show p.next ≤ _; omega, h.most⟩, Classical.not_not.1 hc.1, fun q => hc.2 (hne0.1 q)⟩
theorem SoOn.goesLe (h : SoOn s p M Q U n W fr all fs (2 * fs.length) m most) (b : SoLe n W fr Q cap all) (h100 : 2 * fs.length + 2 ≤ cap) (hm : m + 200 * (3 * all.length + 300) < 1000000000000) : So.goesLe all.length (s.first p) := fun _ => by
 obtain ⟨f1, M1, U1, fs1, f2, f3, f4⟩ := h.first b h100 (by omega)
 have hl1 : fs1.length ≤ 100 := by have := f2.next; have := b.cap; omega
 have hs1 : (s.first p).2.1.side.length = fs1.length := by rw [f2.side, List.length_map]
 have hz : fs1.length * (3 * all.length + 300) ≤ 100 * (3 * all.length + 300) := Nat.mul_le_mul_right _ hl1
 rw [hs1]
 refine ⟨SoOn.roundsLe b _ f2 f4 (by omega), fun _ => ?_⟩
 obtain ⟨_, M2, U2, fs2, r2, _⟩ := SoOn.rounds b fs1.length f2 f3 f4 (Nat.le_refl _) (by omega)
 exact r2.restLe b (Nat.le_refl _) (by omega) _
theorem SoOn.zok (h : SoOn s p M Q U n W fr all fs (2 * fs.length) m most) (b : SoLe n W fr Q cap all) (h100 : 2 * fs.length + 2 ≤ cap) : SoZ s ∧ s.width ≤ 16 ∧ 3 ≤ s.frames ∧ s.next + s.side.length + 2 ≤ 100 := by
 have hn := b.name
 have hf := b.frames
 have hw := b.width
 have hct := h.count
 have hb := b.big
 have hx := h.next
 have hcp := b.cap
 have hs : s.side.length = fs.length := by rw [h.side, List.length_map]
 refine ⟨⟨by rw [h.name]; omega, by omega, by omega, fun x hx => ?_, by omega, by rw [h.frames]; omega⟩, by rw [h.width]; omega, by rw [h.frames]; omega, by omega⟩
 rw [h.side] at hx
 obtain ⟨a, ha, e⟩ := List.mem_map.1 hx
 rw [← e]; exact (h.good a ha).size
end
theorem So.add_bd {t : So} {s : Pl} {l : List Int} {x y : Nat} (h : Bd s x y) (hx : x < 800000000000) (hw : t.wait.length < 400000) (hf : (t.add s l).1.fs.length ≤ 4096) : Bd (t.add s l).1 (x + 400010) (y + 805000) := by
 unfold So.add at hf ⊢
 split at hf
 ·rename_i e
  rw [if_pos e]; exact h.mono (by omega) (by omega)
 ·rename_i e
  rw [if_neg e]
  split at hf
  ·rename_i e1
   rw [if_pos e1]; exact h.mono (by omega) (by omega)
  ·rename_i e1
   rw [if_neg e1]
   split at hf
   ·rename_i e2
    rw [if_pos e2]; exact h.mono (by omega) (by omega)
   ·rename_i e2
    rw [if_neg e2]
    have hol := once_len (t.wait ++ [l])
    have hl : (t.wait ++ [l]).length ≤ 400000 := by simp; omega
    exact (wrRun_bd h (by show _ + (onceL (srtL (t.wait ++ [l]))).length < _; omega) hf).mono (by show _ + (onceL (srtL (t.wait ++ [l]))).length + 10 ≤ _; omega) (by show _ + 2 * (onceL (srtL (t.wait ++ [l]))).length + 5000 ≤ _; omega)
structure SoT (H0 A : Heap) (k p dp : Nat) (n : ByteArray) (W fr Q most : Nat) (all : List (List Int)) (m x y : Nat) : Prop where
 ext : Ext H0 A
 ex : ∃ F s t sw rs ss M U fs, PoolAt F A p dp s ∧ SoB A k p t sw rs ss ∧ (∀ b, F b → ¬ soO k sw rs ss b) ∧ (∀ b, F b ∨ soO k sw rs ss b → H0.size ≤ b) ∧ SoOn t s M Q U n W fr all fs (2 * fs.length) m most ∧ fs.length * (fr * rmW W) + t.wait.length = all.length ∧ t.wait.length < fr * rmW W ∧ Bd s x y
section
variable {H0 A : Heap} {k p dp : Nat} {n : ByteArray} {W fr Q most cap : Nat} {all : List (List Int)} {m x y : Nat}
theorem SoT.grow {B : Heap} (h : SoT H0 A k p dp n W fr Q most all m x y) (e : Ext A B) : SoT H0 B k p dp n W fr Q most all m x y := by
 obtain ⟨h1, F, s, t, sw, rs, ss, M, U, fs, a1, a2, a3⟩ := h
 exact ⟨h1.trans e, F, s, t, sw, rs, ss, M, U, fs, a1.ext e, a2.mod e fun _ _ => id, a3⟩
theorem bd_sum {x y a : Nat} (hx : x < 10000000000) (hy : y < 2000000000) (ha : a ≤ 300000) : x + 400010 + 101 * (2 * a + 3000) ≤ 20000000000 ∧ y + 805000 + 101 * (3 * a + 9000) ≤ 20000000000 := by omega
theorem many_le {a c f : Nat} (h : f * c ≤ a) (ha : a < 49 * c) : 2 * f + 2 ≤ 100 := by
 have : f < 49 := by
  refine Classical.byContradiction fun q => ?_
  have := Nat.mul_le_mul_right c (show 49 ≤ f by omega)
  omega
 omega
theorem SoT.add {l : Sl} {ll : List Int} {K : Int → Heap → Prop} (h : SoT H0 A k p dp n W fr Q most all m x y) (hg : Gl H0) (b : SoLe n W fr Q cap (all ++ [ll])) (hl : Ints .u64 A l ll) (h1 : ll.length = W) (h2 : fitsL ll) (hcap : ∀ f, f * (fr * rmW W) ≤ all.length → 2 * f + 2 ≤ cap) (hm : m < 1000000000000) (hx : x < 700000000000) (hy : y < 40000000000)
  (hK : ∀ B, SoT H0 B k p dp n W fr Q most (all ++ [ll]) (m + (3 * (all.length + 1) + 300)) (x + 400010) (y + 805000) → K 0 B) : ZbO.sp (at0 k) l A K := by
 obtain ⟨e, F, s, t, sw, rs, ss, M, U, fs, a1, a2, a3, a4, a5, a6, a7, a8⟩ := h
 have hgA : Gl A := hg.mod e id
 have h100 := hcap fs.length (by omega)
 have bw : SoLe n W fr Q cap all := by
  have := b.many
  have := b.big
  simp only [List.length_append, List.length_cons, List.length_nil] at *
  exact ⟨b.width, b.quota, by omega, b.cap, by omega, b.name, b.frames⟩
 obtain ⟨z1, z2, z3, z4⟩ := a5.zok bw h100
 have hbig := bw.big
 have hct := a5.count
 obtain ⟨c1, M', U', fs', c2, c3, c4⟩ := a5.add h1 h2 b a6 a7 h100 hm
 refine SAdd_ok hgA (fun q => by have := a4 _ (.inr q); have := hg.lt; omega) a2 a1 a3 z1 (by omega) z2 hl a8 (by omega) (by omega) fun F' sw' rs' ss' B p1 s1 d1 S1 => ?_
 rw [c1]
 have z := e.size
 have bd := So.add_bd (l := ll) (t := t) a8 (by omega) (by omega) p1.frames
 refine hK B ⟨⟨Nat.le_trans z S1.mod.size, fun b hb _ => (S1.mod.same b (by omega) fun q => by have := a4 b q; omega).trans (e.same b hb id)⟩, F', _, _, sw', rs', ss', M', U', fs', p1, s1, d1, fun b hb => ?_, c2, c3, c4, bd⟩
 rcases S1.own b hb with q | q
 ·exact a4 b q
 ·omega
set_option maxRecDepth 100000 in
theorem SoT.done {K : (Int × Int) → Heap → Prop} (h : SoT H0 A k p dp n W fr Q most all m x y) (hg : Gl H0) (b : SoLe n W fr Q cap all) (hcap : ∀ f, f * (fr * rmW W) ≤ all.length → 2 * f + 2 ≤ cap) (hm : m + 200 * (3 * all.length + 300) < 1000000000000) (hx : x < 10000000000) (hy : y < 2000000000)
  (hK : ∀ F' s' M' B, PoolM H0 B F' p dp s' M' Q (1 + pagesN (onceL (srtL all)).length (rmW W)) most 20000000000 → RanM M' n W (rmW W) (onceL (srtL all)) → Rise W (onceL (srtL all)) → (∀ a, a ≠ n → M' a = none) → K (((onceL (srtL all)).length : Int), 0) B) : ZbM.sp (at0 k) A K := by
 obtain ⟨e, F, s, t, sw, rs, ss, M, U, fs, a1, a2, a3, a4, a5, a6, a7, a8⟩ := h
 have hgA : Gl A := hg.mod e id
 have h100 := hcap fs.length (by omega)
 obtain ⟨z1, z2, z3, z4⟩ := a5.zok b h100
 have hbig := b.big
 obtain ⟨c1, c2, c3, M', c4, c5, c6, c7, c8, c9, c10, c11⟩ := a5.done b h100 hm
 refine SDone_ok (N := all.length) hgA (fun q => by have := a4 _ (.inr q); have := hg.lt; omega) a2 a1 a3 z1 z4 z3 a8 (by omega) (by omega) (by omega) (fun _ => a5.goesLe b h100 hm) fun F' sw' rs' ss' B p1 r1 d1 S1 b1 => ?_
 rw [c1]
 have z := e.size
 have hmany := b.many
 have hcp := b.cap
 obtain ⟨hX, hY⟩ := bd_sum hx hy hbig
 have b2 := b1.mono hX hY
 have u1 := b2.hi
 have u2 := b2.logs
 have hol := once_len all
 have hpg := pagesN_some (n := (onceL (srtL all)).length) (room := rmW W) (by have := (roomL_width (Nat.zero_le W) b.width).2.1; omega)
 refine hK F' _ M' B ⟨⟨Nat.le_trans z S1.mod.size, fun b hb _ => (S1.mod.same b (by omega) fun q => by have := a4 b q; omega).trans (e.same b hb id)⟩, p1, fun b hb => ?_, c4, c9, u1, Nat.le_trans u2 (Nat.le_mul_of_pos_left _ (by decide)), by omega, c5, c11⟩ c6 c7 c8
 rcases S1.own b (.inl hb) with q | q
 ·exact a4 b q
 ·omega
end
def nmS : ByteArray := ByteArray.mk #[102]
def noFilesS : Files := fun _ => none
section
variable {H A : Heap} {p dp : Nat} {n : ByteArray} {W fr q mo : Nat}
theorem calm_new (hq : q ≤ 1048576) (h8 : 8 ≤ mo) (hm : mo ≤ 4096) : CalmM (pl0 (dk0 (q : Int)) mo) noFilesS q 0 :=
 ⟨⟨rfl, rfl, rfl, by show (min (max (q : Int) 0) 1048576).toNat = q; omega, rfl, List.nodup_nil, fun i f hf => (by cases hf), fun n x hx => (by cases hx), fun g hg => (by cases hg)⟩, pl0_wf h8 hm, fun f hf => (by cases hf)⟩
theorem soNew_t {K : (Option Addr × Int) → Heap → Prop} (t : TP H A p dp (pl0 (dk0 (q : Int)) mo)) (hq : q ≤ 1048576) (h8 : 8 ≤ mo) (hm : mo ≤ 4096) (hW : W ≤ 16) (h3 : 3 ≤ fr) (hfr : fr ≤ mo)
  (hK : ∀ k B, SoT H B k p dp n W fr q mo [] 1 1 0 → K (at0 k, 0) B) : Zde.sp (at0 p) n (W : Int) (fr : Int) A K := by
 obtain ⟨r1, r2, _, _⟩ := roomL_width (Nat.zero_le W) hW
 obtain ⟨e, F, hp, ho⟩ := t
 have en : soNew (pl0 (dk0 (q : Int)) mo) n (W : Int) (fr : Int) = (some (so0 n W fr), 0) := by
  unfold soNew
  rw [if_neg (by rw [r1]; omega), if_neg (by rintro (u | u); omega; have : (fr : Int) > (mo : Int) := u; omega)]
 have hpos : 0 < fr * rmW W := Nat.mul_pos (by omega) (by omega)
 refine soNew_ok hp (fun u => by rw [en] at u; cases u) fun _ _ B eB sB => ?_
 have z := e.size
 refine hK _ B ⟨e.trans eB, F, _, so0 n W fr, nilS, [], nilS, noFilesS, 0, [], hp.ext eB, sB, fun b hb u => ?_, fun b hb => ?_, ?_, by simp [so0], hpos, ?_⟩
 ·rcases u with u | u | ⟨x, hx, _⟩ | u
  ·have := hp.lt b hb; omega
  ·exact nilS_own b u
  ·cases hx
  ·exact nilS_own b u
 ·rcases hb with u | u | u | ⟨x, hx, _⟩ | u
  ·exact ho b u
  ·omega
  ·exact absurd u (nilS_own b)
  ·cases hx
  ·exact absurd u (nilS_own b)
 ·exact ⟨calm_new hq h8 hm, fun a y hy => (by cases hy), rfl, rfl, rfl, rfl, rfl, rfl, fun a ha => (by cases ha), List.Pairwise.nil, fun x hx => (by cases hx), fun a y hy => (by cases hy), fun y => by simp [so0], fun y hy => (by cases hy), rfl, by simp [so0], by simp [so0], by show (0 : Int) ≤ 1; decide, by show (1 : Int) ≤ ((1 : Nat) : Int); decide, rfl⟩
 ·exact ⟨fun f hf => (by cases hf), by show (0 : Int) ≤ 1; decide, by show (1 : Int) ≤ ((1 : Nat) : Int); decide, Nat.le_refl _⟩
theorem PoolM.list1 {F : Nat → Prop} {s : Pl} {M : Files} {Q U most m room : Nat} {rs : List (List Int)} {K : Sl → Heap → Prop} (h : PoolM H A F p dp s M Q U most m) (hg : Gl H) (hrun : RanM M n W room rs) (honly : ∀ a, a ≠ n → M a = none) (hK : ∀ l B, l.n = 1 → Ext A B → K l B) : ZcJ.sp (at0 dp) A K := by
 obtain ⟨D, d1, _, _⟩ := PoolAt.disk (h.gl hg) h.pool
 refine List_ok d1 fun l B o e _ => hK l B ?_ e
 have hn := SlE.n o (by decide)
 rw [hn]
 unfold Dk.list
 rw [if_neg (by rw [h.calm.told.up]; simp), (List.mergeSort_perm _ _).length_eq, List.length_map]
 obtain ⟨T, t1, _⟩ := hrun.file
 have h1 := h.calm.told.files_le (ns := [n]) fun a x ha => by
  by_cases q : a = n
  ·simp [q]
  ·rw [honly a q] at ha; cases ha
 obtain ⟨i, f, f1, _⟩ := h.calm.told.there n _ t1
 have := (List.getElem?_eq_some_iff.1 f1).1
 simp at h1
 omega
end
def three : List (List Int) := [[5], [1], [5]]
theorem once_three : onceL (srtL three) = [[1], [5]] := by
 refine up_ext (onceL_up (srtL_up _)) ?_ fun y => ?_
 ·simp [cmpL]
 ·rw [once_mem]
  unfold three
  simp only [List.mem_cons, List.not_mem_nil, or_false]
  constructor
  ·rintro (h | h | h)
   ·exact .inr h
   ·exact .inl h
   ·exact .inr h
  ·rintro (h | h)
   ·exact .inr (.inl h)
   ·exact .inl h
theorem one_word {A : Heap} {k : Nat} {t : TypeId} {ik : IntKind} {x : Int} (r : RowT A k t #[.int ik x]) : Ints ik A ⟨some ⟨k, 0, none⟩, 1, 1⟩ [x] := by
 refine ⟨rfl, fun i u hu => ⟨_, rfl, ?_⟩⟩
 have hi : i = 0 := by have := (List.getElem?_eq_some_iff.1 hu).1; simp at this; omega
 subst hi
 simp at hu; subst hu
 rw [add_lit0]; exact r.cell rfl
theorem fits1 {x : Int} (h : 0 ≤ x ∧ x < 100) : fitsL [x] := fun y hy => by
 simp at hy; subst hy; omega
theorem le_works {all : List (List Int)} (h : all.length ≤ 3) : SoLe nmS 1 3 20 2 all :=
 ⟨by decide, by decide, by omega, by decide, by omega, by decide, by decide⟩
theorem cap_works {all : List (List Int)} (h : all.length ≤ 3) : ∀ f, f * (3 * rmW 1) ≤ all.length → 2 * f + 2 ≤ 2 := fun f u => by
 have e : 3 * rmW 1 = 189 := by decide
 rw [e] at u; omega
section
variable {H : Heap}
set_option maxHeartbeats 1000000 in
theorem soworks_ok {K : Bool → Heap → Prop} (hg : Gl H) (hK : ∀ B, Ext H B → K true B) : ZbW.sp H K := by
 refine ZbW.of ?_
 unfold ZbW.vc
 refine New_ok (by decide) fun F1 d H1 a1 e1 f1 => ?_
 refine TP.new (m := 8) hg e1 a1 f1 (by decide) (by decide) fun p H2 t2 => ?_
 refine soNew_t (n := nmS) (W := 1) (fr := 3) (q := 20) (mo := 8) t2 (by decide) (by decide) (by decide) (by decide) (by decide) (by decide) fun k H3 t3 => ?_
 refine br_f rfl (br_f rfl ?_)
 refine newC_rowT fun H4 z4 r4 x4 => ?_
 refine (t3.grow x4).add hg (le_works (by decide)) (one_word r4) rfl (fits1 (by decide)) (cap_works (by decide)) (by decide) (by decide) (by decide) fun H5 t5 => ?_
 refine br_f rfl ?_
 refine newC_rowT fun H6 z6 r6 x6 => ?_
 refine (t5.grow x6).add hg (le_works (by decide)) (one_word r6) rfl (fits1 (by decide)) (cap_works (by decide)) (by decide) (by decide) (by decide) fun H7 t7 => ?_
 refine br_f rfl ?_
 refine newC_rowT fun H8 z8 r8 x8 => ?_
 refine (t7.grow x8).add hg (le_works (by decide)) (one_word r8) rfl (fits1 (by decide)) (cap_works (by decide)) (by decide) (by decide) (by decide) fun H9 t9 => ?_
 refine br_f rfl ?_
 refine t9.done hg (le_works (by decide)) (cap_works (by decide)) (by decide) (by decide) (by decide) fun F s M A hP hrun hrise honly => ?_
 have e3 : onceL (srtL ([] ++ [[5]] ++ [[1]] ++ [[5]])) = [[1], [5]] := once_three
 rw [e3] at hP hrun hrise ⊢
 have hs : nmS.size ≤ 9223372036854775807 := by decide
 refine hP.openRun hg hrun (by decide) hs (by decide) (by decide) (by decide) (by decide) fun F' s' k' B hP' hrd hon S hk hF => ?_
 refine br_f rfl (br_f rfl ?_)
 refine hP'.nextRow hg hrd (fun b hb u => ?_) hrun hon hrise (by decide) hs (by decide) (by decide) (by decide) (by decide) (Nat.le_trans hP.ext.size hk) (fun _ F2 s2 si srs r' l C hP2 _ _ _ _ ho _ _ _ _ => ?_) (fun u => ?_)
 ·rcases u with u | u | u
  ·exact hF (u ▸ hb)
  ·exact nilS_own b u
  ·obtain ⟨x, hx, _⟩ := u; cases hx
 ·have hI : Ints .u64 C l [1] := Owns.ints ho
  have hn : l.n = 1 := hI.len
  refine br_t (by simp [hn]) ?_
  refine hI.ld (i := 0) (by decide) (by decide) fun ad _ => ?_
  refine br_t rfl ?_
  refine hP2.list1 hg hrun honly fun l2 D n2 e2 => ?_
  rw [n2]
  exact hK D (hP2.ext.trans e2)
 ·exact absurd u (by decide)
end
theorem Ext.moreS {H A B : Heap} {F : Nat → Prop} (h : Ext H A) (m : Mod F A B) (hf : ∀ b, F b → H.size ≤ b) : Ext H B :=
 ⟨Nat.le_trans h.size m.size, fun b hb _ => (m.same b (Nat.lt_of_lt_of_le hb h.size) fun u => by have := hf b u; omega).trans (h.same b hb id)⟩
theorem Rows.extS {H B : Heap} {s : Sl} {ls : List (List Int)} (h : Rows H s ls) (e : Ext H B) : Rows B s ls := ⟨h.len, fun i hi => by
 obtain ⟨ad, r, q1, q2, q3⟩ := h.at' i hi
 exact ⟨ad, r, q1, e.cell q2 id, q3.ext e⟩⟩
theorem Owns.rebS {H : Heap} {base base' : Nat} {e : TypeId} {size : Nat} {s : Sl} {xs : List Value} (h : Owns H base e size s xs) (hb : ∀ b, ownB s b → base' ≤ b) : Owns H base' e size s xs := by
 refine ⟨h.1, h.2.imp id ?_⟩
 rintro ⟨g, cap, cur, e1, _, h3⟩
 refine ⟨g, cap, cur, e1, hb g ?_, h3⟩
 cases s; simp only [Sl.v, Value.slice.injEq] at e1
 exact ⟨_, e1.1, rfl⟩
def padL (x : List Int) (W : Nat) : List Int := x.take W ++ List.replicate (W - x.length) 0
theorem padL_len (x : List Int) (W : Nat) : (padL x W).length = W := by
 unfold padL; simp; omega
theorem padL_fits {x : List Int} (h : fitsL x) (W : Nat) : fitsL (padL x W) := fun y hy => by
 rcases List.mem_append.1 hy with q | q
 ·exact h y (List.mem_of_mem_take q)
 ·have := List.eq_of_mem_replicate q; subst this; decide
theorem padL_vals (x : List Int) (W : Nat) : (x.take W).map (Value.int .u64) ++ (List.replicate W (Value.int .u64 0)).drop (0 + ((x.take W).map (Value.int .u64)).length) = (padL x W).map (Value.int .u64) := by
 unfold padL
 rw [List.map_append, List.map_replicate, List.drop_replicate, List.length_map, List.length_take]
 congr 2
 omega
section
variable {H : Heap}
theorem cut_ok {rows : Sl} {ls : List (List Int)} {W : Nat} {K : Sl → Heap → Prop} (hr : Rows H rows ls) (hn : ls.length ≤ 400) (hW : W ≤ 16) (hK : ∀ s rs B, RowsOwn B H.size s rs (ls.map (padL · W)) → Ext H B → K s B) : Zcw.sp rows (W : Int) H K := by
 refine Zcw.of ?_
 unfold Zcw.vc
 have hl := hr.len
 refine loop_upto ls.length (fun k z A => z.2 = (k : Int) ∧ (∃ rs, RowsOwn A H.size z.1 rs ((ls.take k).map (padL · W))) ∧ Ext H A) ⟨rfl, ⟨[], RowsOwn.nil _ _⟩, Mod.refl _ _⟩ ?_
 rintro k ⟨s, i⟩ A next hk ⟨hi, ⟨rs, ro⟩, eA⟩ hnext
 simp only at hi ro ⊢
 subst hi
 have z := eA.size
 have hsn := ro.n
 simp only [List.length_map, List.length_take] at hsn
 refine br_mk (fun h => ?_) (fun h => ?_)
 ·have hlt : k < ls.length := by simp at h; omega
  refine elU64.make (base := A.size) (by omega) (Int.le_refl _) (by omega) (by omega) (Nat.le_refl _) fun l A1 ln ol e1 hlA _ => ?_
  have ln' : l.n = W := by rw [ln]; simp
  refine (hr.extS (eA.trans e1)).ld hlt fun ad r _ ir => ?_
  have irn := ir.len
  refine Owns.copyAt (o := 0) (cs := ((ls[k]'hlt).take W).map (Value.int .u64)) (e := YaH) (by obtain ⟨inf, h, _⟩ := elU64; exact h) (by kernel_rfl) ol (fun _ => by cases l.a <;> rfl) (by rw [List.map_take]; exact ir.reads.take W) (by rw [List.length_map, List.length_take, ln', irn]; exact Nat.min_comm _ _) (by rw [List.length_map, List.length_take, ln']; omega) (fun v hv => by obtain ⟨y, _, e⟩ := List.mem_map.1 hv; subst e; rfl) fun A2 o2 m2 _ => ?_
  have e12 : Ext A A2 := e1.moreS m2 hlA
  have o3 : Owns A2 A.size YaH 1 l ((padL (ls[k]'hlt) W).map (Value.int .u64)) := by
   rw [← padL_vals]
   simpa using o2
  refine RowsOwn.push (ro.ext e12) (o3.rebS fun b hb => by have := hlA b hb; omega) (fun r' hr' b hb u => ?_) (by omega) (by have := e12.size; omega) fun s' A3 _ ro' m3 => ?_
  ·have := hlA b hb
   have := (ro.block.2 r' hr' b u).2
   omega
  ·have ro2 : RowsOwn A3 H.size s' (rs ++ [l]) ((ls.take (k + 1)).map (padL · W)) := by
    rw [List.take_succ_eq_append_getElem hlt, List.map_append]; exact ro'
   exact hnext hlt _ _ ⟨succ64 k (by omega), ⟨_, ro2⟩, Ext.moreS (eA.trans e12) m3 fun b hb => (ro.block.1 b hb).1⟩
 ·have hge : k = ls.length := by simp at h; omega
  subst hge
  rw [List.take_of_length_le (Nat.le_refl _)] at ro
  exact hK s rs A ro eA
end
theorem CalmM.noPins {p : Pl} {M : Files} {Q U : Nat} (h : CalmM p M Q U) : p.pinned = 0 := by
 unfold Pl.pinned
 rw [List.length_eq_zero_iff, List.filter_eq_nil_iff]
 intro f hf
 rw [h.free f hf]; simp
section
variable {H : Heap}
set_option maxHeartbeats 1000000 in
theorem sorted_ok {rows : Sl} {al : List (List Int)} {W fr : Nat} {K : (Sl × Bool) → Heap → Prop} (hg : Gl H) (hr : Rows H rows al) (hf : ∀ l ∈ al, l.length = W ∧ fitsL l) (h8 : al.length ≤ 800) (hW : W ≤ 16) (h3 : 3 ≤ fr) (h12 : fr ≤ 12) (hm : al.length < 49 * (fr * rmW W))
  (hK : ∀ s rs B, RowsOwn B H.size s rs (onceL (srtL al)) → Ext H B → K (s, true) B) : ZbK.sp rows (W : Int) (fr : Int) H K := by
 refine ZbK.of ?_
 unfold ZbK.vc
 obtain ⟨mo, emo, h8m, hfm, hm12⟩ : ∃ mo : Nat, (if (fr : Int) > (8 : Int) then (fr : Int) else (8 : Int)) = (mo : Int) ∧ 8 ≤ mo ∧ fr ≤ mo ∧ mo ≤ 12 := by
  by_cases h : (fr : Int) > 8
  ·exact ⟨fr, by rw [if_pos h], by omega, by omega, h12⟩
  ·exact ⟨8, by rw [if_neg h]; rfl, by omega, by omega, by omega⟩
 rw [emo]
 have hrl := hr.len
 have hs : nmS.size ≤ 9223372036854775807 := by decide
 have le : ∀ l : List (List Int), l.length ≤ 800 → SoLe nmS W fr 10000 100 l := fun l hl => ⟨hW, by decide, by omega, by decide, by omega, by decide, h3, by omega⟩
 have cap : ∀ j f, f * (fr * rmW W) ≤ (al.take j).length → 2 * f + 2 ≤ 100 := fun j f u => many_le u (by rw [List.length_take]; omega)
 refine New_ok (by decide) fun F1 d H1 a1 e1 f1 => ?_
 refine TP.new (m := mo) hg e1 a1 f1 h8m (by omega) fun p H2 t2 => ?_
 refine soNew_t (n := nmS) (W := W) (fr := fr) (q := 10000) (mo := mo) t2 (by decide) h8m (by omega) hW h3 hfm fun k H3 t3 => ?_
 refine br_f rfl ?_
 refine loop_upto al.length (fun j i A => i = (j : Int) ∧ ∃ m x y, m ≤ 1 + j * 3000 ∧ x ≤ 1 + j * 400010 ∧ y ≤ j * 805000 ∧ SoT H A k p d nmS W fr 10000 mo (al.take j) m x y) ⟨rfl, 1, 1, 0, by omega, by omega, by omega, t3⟩ ?_
 rintro j _ A next hj ⟨rfl, m, x, y, hmm, hx, hy, tA⟩ hnext
 have hjl : (al.take j).length = j := by rw [List.length_take]; omega
 refine br_mk (fun h => ?_) (fun h => ?_)
 ·have hlt : j < al.length := by simp at h; omega
  refine (hr.extS tA.ext).ld hlt fun ad r _ ir => ?_
  obtain ⟨w1, w2⟩ := hf _ (List.getElem_mem hlt)
  refine tA.add hg (le _ (by rw [List.length_append, hjl]; simp; omega)) ir w1 w2 (cap j) (by omega) (by omega) (by omega) fun B tB => ?_
  refine br_f rfl ?_
  refine hnext hlt _ _ ⟨succ64 j (by omega), _, _, _, ?_, ?_, ?_, by rw [List.take_succ_eq_append_getElem hlt]; exact tB⟩
  ·rw [hjl, Nat.succ_mul]; omega
  ·rw [Nat.succ_mul]; omega
  ·rw [Nat.succ_mul]; omega
 have hge : j = al.length := by simp at h; omega
 subst hge
 have hcap := cap al.length
 rw [List.take_of_length_le (Nat.le_refl _)] at tA hcap
 have ho : (onceL (srtL al)).length ≤ al.length := once_len al
 refine tA.done hg (le _ h8) hcap (by omega) (by omega) (by omega) fun F s M B hP hrun hrise honly => ?_
 generalize onceL (srtL al) = out at *
 refine hP.openRun hg hrun (by omega) hs (by decide) (by omega) hW (by decide) fun F' s' k' C hP' hrd hon S hk hF => ?_
 refine br_f rfl ?_
 refine hP'.list1 hg hrun honly fun l D n1 eD => ?_
 refine br_f (by rw [n1]; rfl) ?_
 have hPD := hP'.grow eD
 refine Pinned_ok hPD.pool (by have := hPD.hi; omega) fun E eE => ?_
 rw [hP'.calm.noPins]
 refine br_f rfl ?_
 have hPE := hPD.grow eE
 refine loop_upto out.length (fun j z A => ∃ F s si srs r rs, PoolM H A F p d s M 10000 (1 + pagesN out.length (rmW W)) mo (20000000000 + 2100 * (j + 1)) ∧ RdB A k' p r si srs ∧ (∀ b, F b → ¬ rdO k' si srs b) ∧ RdOn r nmS W (rmW W) out ∧ r.at_ = j ∧ RowsOwn A H.size z rs (out.take j) ∧ (∀ b, (ownB z b ∨ ∃ x ∈ rs, ownB x b) → ¬ F b ∧ ¬ rdO k' si srs b)) ?_ ?_
 ·refine ⟨F', s', nilS, [], _, [], hPE, (hrd.mod eD fun _ _ => id).mod eE fun _ _ => id, fun b hb u => ?_, hon, rfl, RowsOwn.nil _ _, fun b hb => ?_⟩
  ·rcases u with u | u | u
   ·exact hF (u ▸ hb)
   ·exact nilS_own b u
   ·obtain ⟨x, hx, _⟩ := u; cases hx
  ·rcases hb with ⟨_, q, _⟩ | ⟨x, hx, _⟩
   ·cases q
   ·cases hx
 rintro j z A next hj ⟨F2, s2, si, srs, r, rs, hP2, hrd2, hd2, hon2, hat, ro, hap⟩ hnext
 have hzn := ro.n
 rw [List.length_take, Nat.min_eq_left hj] at hzn
 have hkH : H.size ≤ k' := Nat.le_trans hP.ext.size hk
 refine hP2.nextRow hg hrd2 hd2 hrun hon2 hrise (by omega) hs (by decide) (by omega) hW (by omega) hkH ?_ ?_
 ·intro hlt F3 s3 si3 srs3 r3 l B3 hP3 hrd3 hd3 hon3 hat3 ol hsep m3 own3 ownr3
  rw [hat] at hlt ol hat3
  have hz3 := m3.size
  have hoff : ∀ b, (ownB z b ∨ ∃ x ∈ rs, ownB x b) → ¬ (F2 b ∨ b = k') := fun b hb u => by
   obtain ⟨u1, u2⟩ := hap b hb
   rcases u with u | u
   ·exact u1 u
   ·exact u2 (.inl u)
  have hlA : ∀ b, (ownB z b ∨ ∃ x ∈ rs, ownB x b) → b < A.size ∧ H.size ≤ b := fun b hb => by
   rcases hb with u | ⟨x, hx, u⟩
   ·exact ⟨(ro.block.1 b u).2, (ro.block.1 b u).1⟩
   ·exact ⟨(ro.block.2 x hx b u).2, (ro.block.2 x hx b u).1⟩
  have ro3 : RowsOwn B3 H.size z rs (out.take j) := ro.mod m3 (fun b hb => hoff b (.inl hb)) fun x hx b hb => hoff b (.inr ⟨x, hx, hb⟩)
  have hAH := hP2.ext.size
  refine br_f rfl ?_
  refine ro3.pushG (ol.rebS fun b hb => by have := (hsep b hb).1; omega) (fun x hx b hb u => by have := (hsep b hb).1; have := (hlA b (.inr ⟨x, hx, u⟩)).1; omega) (by omega) (by omega) fun z' C3 _ ro4 m4 own4 => ?_
  have hz4 := m4.size
  have off3 : ∀ b, (F3 b ∨ rdO k' si3 srs3 b) → ¬ ownB z b := fun b hb u => by
   obtain ⟨u1, u2⟩ := hap b (.inl u)
   have := (hlA b (.inl u)).1
   rcases hb with hb | hb
   ·rcases own3 b hb with q | q
    ·exact u1 q
    ·omega
   ·rcases ownr3 b hb with q | q
    ·exact u2 q
    ·omega
  refine hnext hlt _ _ ⟨F3, s3, si3, srs3, r3, rs ++ [l], (hP3.aside (hP3.ext.moreS m4 fun b hb => (hlA b (.inl hb)).2) fun b hb => m4.same b (hP3.pool.lt b hb) (off3 b (.inl hb))).later (by omega), hrd3.mod m4 fun b hb => off3 b (.inr hb), hd3, hon3, hat3, ?_, fun b hb => ?_⟩
  ·rw [List.take_succ_eq_append_getElem hlt]
   have : out.getD j [] = out[j] := by simp [List.getD, List.getElem?_eq_getElem hlt]
   rw [← this]; exact ro4
  ·have old : ∀ b, (ownB z b ∨ ∃ x ∈ rs, ownB x b) → ¬ F3 b ∧ ¬ rdO k' si3 srs3 b := fun b hb => by
    obtain ⟨u1, u2⟩ := hap b hb
    have := (hlA b hb).1
    refine ⟨fun q => ?_, fun q => ?_⟩
    ·rcases own3 b q with q | q
     ·exact u1 q
     ·omega
    ·rcases ownr3 b q with q | q
     ·exact u2 q
     ·omega
   rcases hb with u | ⟨x, hx, u⟩
   ·rcases own4 b u with q | q
    ·exact old b (.inl q)
    ·exact ⟨fun w => by have := hP3.pool.lt b w; omega, fun w => by have := hrd3.lt b w; omega⟩
   ·rcases List.mem_append.1 hx with q | q
    ·exact old b (.inr ⟨x, q, u⟩)
    ·rw [List.mem_singleton] at q
     subst q
     exact (hsep b u).2
 ·intro he F3 s3 si3 srs3 r3 l B3 hP3 hrd3 hd3 hon3 m3 own3 ownr3
  rw [hat] at he
  subst he
  rw [List.take_of_length_le (Nat.le_refl _)] at ro
  have hoff : ∀ b, (ownB z b ∨ ∃ x ∈ rs, ownB x b) → ¬ (F2 b ∨ b = k') := fun b hb u => by
   obtain ⟨u1, u2⟩ := hap b hb
   rcases u with u | u
   ·exact u1 u
   ·exact u2 (.inl u)
  refine br_t rfl ?_
  have ez : ((0 : Int) == (0 : Int) && ((out.length : Int) == (z.n : Int))) = true := by rw [hzn]; simp
  rw [ez]
  exact hK z rs B3 (ro.mod m3 (fun b hb => hoff b (.inl hb)) fun x hx b hb => hoff b (.inr ⟨x, hx, hb⟩)) hP3.ext
end
theorem tdiv2 (a : Nat) : Int.tdiv (a : Int) 2 = ((a / 2 : Nat) : Int) := by
 rw [Int.tdiv_eq_ediv_of_nonneg (by omega)]; omega
theorem up_at {ll : List (List Int)} {j : Nat} (up : ll.Pairwise (fun x y => cmpL x y < 0)) (hj : j < ll.length) (i : Nat) (hi : i < ll.length) : cmpL ll[i] ll[j] < 0 ↔ i < j := by
 rw [List.pairwise_iff_getElem] at up
 rcases Nat.lt_trichotomy i j with h | h | h
 ·exact ⟨fun _ => h, fun _ => up i j hi hj h⟩
 ·subst h
  rw [cmpL_self]
  omega
 ·have h1 := up j i hj hi h
  rw [cmpL_swap] at h1
  constructor <;> intro q <;> omega
section
variable {H : Heap}
theorem has_ok {l x : Sl} {ll : List (List Int)} {xl : List Int} {K : Bool → Heap → Prop} (hl : Rows H l ll) (hx : Ints .u64 H x xl) (up : ll.Pairwise (fun x y => cmpL x y < 0)) (hn : ll.length ≤ 1000000) (hlen : ∀ y ∈ ll, y.length ≤ 1000) (hmem : xl ∈ ll) (hK : K true H) : Zcm.sp l x H K := by
 refine Zcm.of ?_
 unfold Zcm.vc
 have hln := hl.len
 obtain ⟨j, hj, ej⟩ := List.getElem_of_mem hmem
 have cm : ∀ i (hi : i < ll.length), (cmpL ll[i] xl < 0 ↔ i < j) := fun i hi => by rw [← ej]; exact up_at up hj i hi
 refine loop_upto ll.length (fun k z A => H = A ∧ ∃ lo hi : Nat, z = ((lo : Int), (hi : Int)) ∧ lo ≤ j ∧ j ≤ hi ∧ hi ≤ ll.length ∧ hi - lo + k ≤ ll.length) ⟨rfl, 0, ll.length, by rw [hln]; rfl, by omega, by omega, by omega, by omega⟩ ?_
 rintro k z A next hk ⟨rfl, lo, hi, rfl, h1, h2, h3, h4⟩ hnext
 simp only
 refine br_mk (fun h => ?_) (fun h => ?_)
 ·have hlt : lo < hi := by simp at h; omega
  have em : IntKind.i64.wrap (Int.tdiv (IntKind.i64.wrap ((lo : Int) + (hi : Int))) (2 : Int)) = (((lo + hi) / 2 : Nat) : Int) := by
   have e1 : IntKind.i64.wrap ((lo : Int) + (hi : Int)) = ((lo + hi : Nat) : Int) := by rw [wrap64 (by omega) (by omega)]; omega
   rw [e1, tdiv2, wrap64 (by omega) (by omega)]
  rw [em]
  generalize hmd : (lo + hi) / 2 = md
  have hm1 : lo ≤ md ∧ md < hi := by omega
  have hmd2 : md < ll.length := by omega
  refine hl.ld hmd2 fun ad r _ ir => ?_
  refine rowCmp_ok ir hx (by have := hlen _ (List.getElem_mem hmd2); omega) ?_
  have hc := cm md hmd2
  refine br_mk (fun q => ?_) (fun q => ?_)
  ·have q1 : md < j := hc.1 (by simpa using q)
   exact hnext (by omega) _ _ ⟨rfl, md + 1, hi, by rw [succ64 md (by omega)], by omega, h2, h3, by omega⟩
  ·have q1 : ¬ md < j := fun u => by have := hc.2 u; simp at q; omega
   exact hnext (by omega) _ _ ⟨rfl, lo, md, rfl, h1, by omega, by omega, by omega⟩
 ·have e : lo = j := by simp at h; omega
  subst e
  refine br_t (by rw [hln]; simp; omega) ?_
  refine hl.ld hj fun ad r _ ir => ?_
  refine SameRow_ok ir hx (by have := hlen _ (List.getElem_mem hj); omega) ?_
  rw [ej]; simpa using hK
structure HdAt (A : Heap) (base : Nat) (s : Sl) (ps : List (Sl × List Int)) : Prop where
 out : Owns A base Yax 1 s (ps.map (·.1.v))
 rows : ∀ x ∈ ps, Ints .u64 A x.1 x.2
variable {A B : Heap} {base : Nat} {s : Sl} {ps : List (Sl × List Int)}
theorem HdAt.n (h : HdAt A base s ps) : s.n = ps.length := by
 have := h.out.1
 simp at this; omega
theorem HdAt.list (h : HdAt A base s ps) : Rows A s (ps.map (·.2)) := by
 refine ⟨by rw [List.length_map]; exact h.n, fun i hi => ?_⟩
 have hi' : i < ps.length := by simpa using hi
 obtain ⟨ad, ha, hc⟩ := h.out.reads.at (i := i) (by simpa using hi')
 exact ⟨ad, ps[i].1, ha, by simpa using hc, by simpa using h.rows _ (List.getElem_mem hi')⟩
theorem HdAt.ext (h : HdAt A base s ps) (e : Ext A B) : HdAt B base s ps := ⟨h.out.ext e, fun x hx => (h.rows x hx).ext e⟩
theorem RowsOwn.hd {rs : List Sl} {ls : List (List Int)} (h : RowsOwn A base s rs ls) : HdAt A base s (rs.zip ls) ∧ (rs.zip ls).map (·.2) = ls := by
 obtain ⟨z1, z2⟩ := qr_zip h.len
 refine ⟨⟨?_, fun x hx => ?_⟩, z2⟩
 ·have : (rs.zip ls).map (fun x => x.1.v) = rs.map Sl.v := by
   conv => rhs; rw [← z1]
   rw [List.map_map]; rfl
  rw [this]; exact h.out
 ·obtain ⟨i, hi, e⟩ := List.getElem_of_mem hx
  rw [List.getElem_zip] at e
  rw [← e]
  rw [List.length_zip] at hi
  exact (h.row i _ _ (List.getElem?_eq_getElem (by omega)) (List.getElem?_eq_getElem (by omega))).ints
theorem HdAt.ldAt (h : HdAt A base s ps) {i : Nat} (hi : i < ps.length) {K : Sl → Prop} (hK : K ps[i].1) : optK s.a fun a => (0 ≤ (i : Int) ∧ (i : Int) < (s.n : Int)) ∧ ld cSl A (a.add ((i : Int).toNat * 1)) K := by
 obtain ⟨ad, ha, hc⟩ := h.out.reads.at (i := i) (by simpa using hi)
 refine optK_mk ad ha ⟨⟨by omega, by have := h.n; omega⟩, _, ?_, hK⟩
 simp only [Int.toNat_natCast, Nat.mul_one]
 rw [hc]; simp
theorem HdAt.push {H0 : Heap} {ty : TypeId} {x : Sl × List Int} {K : Sl → Heap → Prop} (h : HdAt A H0.size s ps) (e0 : Ext H0 A) (hx : ∀ y ∈ x :: ps, Ints .u64 H0 y.1 y.2) (hn : s.n + 1 ≤ 1000000)
  (hK : ∀ s' B, HdAt B H0.size s' (ps ++ [x]) → Ext H0 B → K s' B) :
  newC A #[x.1.v] Yax fun p H1 => doT cSl Tryz.prog (Builtin.append_ #[Yan, Yan] ty #[s.v, .slice (some p) 1 1]) H1 K := by
 refine elRow.push (base := H0.size) h.out rfl (by omega) (by omega) e0.size ?_
 intro s' B n1 o1 m1 b1 _
 have e1 : Ext H0 B := e0.moreS m1 fun b hb => (h.out.block b hb).1
 refine hK s' B ⟨by simpa using o1, fun y hy => ?_⟩ e1
 refine (hx y ?_).ext e1
 rcases List.mem_append.1 hy with q | q
 ·exact List.mem_cons_of_mem _ q
 ·rw [List.mem_singleton] at q; rw [q]; exact List.mem_cons_self
end
theorem rm3 : ∀ W, W < 17 → 3 ≤ rmW W := by decide
theorem many_rows {W fr c n : Nat} (hW : W ≤ 16) (h : c ≤ fr) (hn : n < 49 * (c * 3)) : n < 49 * (fr * rmW W) :=
 Nat.lt_of_lt_of_le hn (Nat.mul_le_mul_left _ (Nat.mul_le_mul h (rm3 W (by omega))))
theorem pred64 (i : Nat) (hi : 1 ≤ i) (h : i < 4611686018427387904) : IntKind.i64.wrap ((i : Int) - 1) = ((i - 1 : Nat) : Int) := by
 rw [wrap64 (by omega) (by omega)]; omega
section
variable {H : Heap}
set_option maxHeartbeats 1000000 in
theorem SorterSorts_ok {rows : Sl} {rl : List (List Int)} {width frames : Int} {K : Bool → Heap → Prop} (hg : Gl H) (hr : Rows H rows rl) (hf : ∀ l ∈ rl, fitsL l) (hK : ∀ B, Ext H B → K true B) : Zbw.sp rows width frames H K := by
 refine Zbw.of ?_
 unfold Zbw.vc
 refine PickN_ok (by omega) ?_
 refine PickN_ok (by omega) ?_
 rw [if_neg (by omega), if_neg (by omega)]
 obtain ⟨W, eW, hW⟩ : ∃ W : Nat, width.emod 17 = (W : Int) ∧ W ≤ 16 := by
  have e : width.emod 17 = width % 17 := rfl
  exact ⟨(width.emod 17).toNat, by omega, by omega⟩
 obtain ⟨f, ef, hf9⟩ : ∃ f : Nat, frames.emod 10 = (f : Int) ∧ f ≤ 9 := by
  have e : frames.emod 10 = frames % 10 := rfl
  exact ⟨(frames.emod 10).toNat, by omega, by omega⟩
 rw [eW, ef]
 have hrl := hr.len
 refine br_mk (fun _ => hK _ (Mod.refl _ _)) (fun h => ?_)
 have hn : rl.length ≤ 400 := by simp at h; omega
 have e3 : IntKind.i64.wrap ((3 : Int) + (f : Int)) = ((3 + f : Nat) : Int) := by rw [wrap64 (by omega) (by omega)]; omega
 rw [e3]
 refine cut_ok hr hn hW fun all rs A roA eA => ?_
 have hal : ∀ l ∈ rl.map (padL · W), l.length = W ∧ fitsL l := fun l hl => by
  obtain ⟨y, hy, e⟩ := List.mem_map.1 hl
  subst e
  exact ⟨padL_len y W, padL_fits (hf y hy) W⟩
 have hnl : (rl.map (padL · W)).length ≤ 400 := by rw [List.length_map]; exact hn
 generalize rl.map (padL · W) = al at *
 obtain ⟨hdA, eps⟩ := roA.hd
 generalize rs.zip al = ps at *
 have hpl : ps.length = al.length := by rw [← eps, List.length_map]
 have han := hdA.n
 have hgA : Gl A := hg.mod eA id
 refine sorted_ok hgA roA.rows hal (by omega) hW (by omega) (by omega) (many_rows hW (c := 3) (by omega) (by omega)) fun s1 rs1 B ro1 e1 => ?_
 have en : IntKind.i64.wrap ((all.n : Int) - (1 : Int)) = (al.length : Int) - 1 := by rw [wrap64 (by omega) (by omega)]; omega
 rw [en]
 have hdB := hdA.ext e1
 refine loop_upto al.length (fun k z C => z.2 = (al.length : Int) - 1 - k ∧ HdAt C B.size z.1 (ps.reverse.take k) ∧ Ext B C) ⟨by simp, ⟨Owns.nil _ _ _ _, by simp⟩, Mod.refl _ _⟩ ?_
 rintro k ⟨tu, i⟩ C next hk ⟨hi, hdT, eC⟩ hnext
 simp only at hi hdT ⊢
 subst hi
 have htn := hdT.n
 rw [List.length_take, List.length_reverse] at htn
 refine br_mk (fun h => ?_) (fun h => ?_)
 ·have hlt : k < al.length := by simp at h; omega
  have ei : (al.length : Int) - 1 - (k : Int) = ((al.length - 1 - k : Nat) : Int) := by omega
  rw [ei]
  have hkr : k < ps.reverse.length := by rw [List.length_reverse]; omega
  have hip : al.length - 1 - k < ps.length := by omega
  have eg : ps.reverse[k] = ps[al.length - 1 - k] := by rw [List.getElem_reverse]; congr 1; omega
  refine (hdB.ext eC).ldAt hip ?_
  refine hdT.push eC (fun y hy => hdB.rows y ?_) (by omega) fun s' D hdD eD => ?_
  ·rcases List.mem_cons.1 hy with q | q
   ·rw [q]; exact List.getElem_mem _
   ·exact List.mem_reverse.1 (List.mem_of_mem_take q)
  ·refine hnext hlt _ _ ⟨?_, ?_, eD⟩
   ·show IntKind.i64.wrap (((al.length - 1 - k : Nat) : Int) - 1) = _
    rw [wrap64 (by omega) (by omega)]; omega
   ·show HdAt D B.size s' (ps.reverse.take (k + 1))
    rw [List.take_succ_eq_append_getElem hkr, eg]; exact hdD
 have hge : k = al.length := by simp at h; omega
 subst hge
 rw [List.take_of_length_le (by rw [List.length_reverse]; omega)] at hdT
 have erev : ps.reverse.map (·.2) = al.reverse := by rw [List.map_reverse, eps]
 have hgC : Gl C := (hgA.mod e1 id).mod eC id
 have rT := hdT.list
 rw [erev] at rT
 refine sorted_ok (fr := 3) hgC rT (fun l hl => hal l (List.mem_reverse.1 hl)) (by rw [List.length_reverse]; omega) hW (by omega) (by omega) (many_rows hW (c := 3) (by omega) (by rw [List.length_reverse]; omega)) fun s2 rs2 D ro2 e2 => ?_
 rw [once_eq (fun y => List.mem_reverse)] at ro2
 have hdAD := (hdB.ext eC).ext e2
 have hdTD := hdT.ext e2
 refine elRow.append (base := B.size) (ws := ps.map (·.1.v)) hdTD.out (by rw [List.length_map]; omega) hdAD.out.reads (fun u hu => by obtain ⟨y, _, e⟩ := List.mem_map.1 hu; subst e; rfl) (by omega) (by omega) (by have := eC.size; have := e2.size; omega) fun s3 E n3 o3 m3 _ _ => ?_
 have eBD : Ext B D := eC.trans e2
 have eBE : Ext B E := eBD.moreS m3 fun b hb => (hdTD.out.block b hb).1
 have hdE : HdAt E B.size s3 (ps.reverse ++ ps) := ⟨by rw [List.map_append]; exact o3, fun x hx => (hdB.rows x (by rcases List.mem_append.1 hx with q | q; exact List.mem_reverse.1 q; exact q)).ext eBE⟩
 have rE := hdE.list
 rw [List.map_append, erev, eps] at rE
 have ro2E : RowsOwn E C.size s2 rs2 (onceL (srtL al)) := by
  refine ro2.mod m3 (fun b hb u => ?_) fun x hx b hb u => ?_
  ·have := (ro2.block.1 b hb).1; have := (hdT.out.block b u).2; omega
  ·have := (ro2.block.2 x hx b hb).1; have := (hdT.out.block b u).2; omega
 have hgE : Gl E := (hgA.mod e1 id).mod eBE id
 refine sorted_ok (fr := 8) hgE rE (fun l hl => hal l (by rcases List.mem_append.1 hl with q | q; exact List.mem_reverse.1 q; exact q)) (by rw [List.length_append, List.length_reverse]; omega) hW (by omega) (by omega) (many_rows hW (c := 8) (by omega) (by rw [List.length_append, List.length_reverse]; omega)) fun s4 rs4 F ro4 e4 => ?_
 rw [once_eq (r := al) (fun y => by rw [List.mem_append, List.mem_reverse]; exact or_self_iff)] at ro4
 have ol : (onceL (srtL al)).length ≤ al.length := once_len al
 have om : ∀ y, y ∈ onceL (srtL al) ↔ y ∈ al := fun y => once_mem
 have ou : (onceL (srtL al)).Pairwise (fun x y => cmpL x y < 0) := onceL_up (srtL_up _)
 generalize onceL (srtL al) = out at *
 have eBF : Ext B F := eBE.trans e4
 have r1 : Rows F s1 out := ro1.rows.extS eBF
 have r2 : Rows F s2 out := ro2E.rows.extS e4
 have rA : Rows F all al := (roA.rows.extS e1).extS eBF
 have lens : ∀ y ∈ out, y.length ≤ 16 := fun y hy => by rw [(hal y ((om y).1 hy)).1]; exact hW
 refine br_f rfl ?_
 refine SameRows_ok r1 r2 (by omega) (fun y hy => by have := lens y hy; omega) ?_
 refine br_f (by simp) ?_
 refine SameRows_ok r1 ro4.rows (by omega) (fun y hy => by have := lens y hy; omega) ?_
 refine br_f (by simp) ?_
 have r1n := r1.len
 have rAn := rA.len
 -- the rows rise
 refine loop_upto out.length (fun k i D' => i = ((k + 1 : Nat) : Int) ∧ F = D') ⟨rfl, rfl⟩ ?_
 rintro k _ _ next1 hk1 ⟨rfl, rfl⟩ hnext1
 refine br_mk (fun h => ?_) (fun _ => ?_)
 ·have hlt : k + 1 < out.length := by simp at h; omega
  rw [pred64 (k + 1) (by omega) (by omega)]
  simp only [Nat.add_sub_cancel]
  refine r1.ld (i := k) (by omega) fun _ x1 _ i1 => ?_
  refine r1.ld hlt fun _ x2 _ i2 => ?_
  refine rowCmp_ok i1 i2 (by have := lens _ (List.getElem_mem (show k < out.length by omega)); omega) ?_
  have hc := (up_at ou hlt k (by omega)).2 (by omega)
  refine br_f (by simp; omega) ?_
  exact hnext1 (by omega) _ _ ⟨succ64 (k + 1) (by omega), rfl⟩
 -- each row was given
 refine loop_upto al.length (fun k i D' => i = (k : Int) ∧ F = D') ⟨rfl, rfl⟩ ?_
 rintro k _ _ next2 hk2 ⟨rfl, rfl⟩ hnext2
 refine br_mk (fun h => ?_) (fun _ => ?_)
 ·have hlt : k < al.length := by simp at h; omega
  refine rA.ld hlt fun _ x _ ix => ?_
  refine has_ok r1 ix ou (by omega) (fun y hy => by have := lens y hy; omega) ((om _).2 (List.getElem_mem hlt)) ?_
  refine br_f rfl ?_
  exact hnext2 hlt _ _ ⟨succ64 k (by omega), rfl⟩
 -- each row told was given
 refine loop_upto out.length (fun k i D' => i = (k : Int) ∧ F = D') ⟨rfl, rfl⟩ ?_
 rintro k _ _ next3 hk3 ⟨rfl, rfl⟩ hnext3
 refine br_mk (fun h => ?_) (fun _ => ?_)
 ·have hlt : k < out.length := by simp at h; omega
  obtain ⟨q, hq, eq⟩ := List.getElem_of_mem ((om _).1 (List.getElem_mem hlt))
  refine loop_upto al.length (fun j z D' => F = D' ∧ z.2 = (j : Int) ∧ (z.1 = false → j ≤ q)) ⟨rfl, rfl, fun _ => Nat.zero_le _⟩ ?_
  rintro j ⟨fo, _⟩ _ next4 hj ⟨rfl, hz, hfo⟩ hnext4
  simp only at hz hfo ⊢
  subst hz
  refine br_mk (fun h4 => ?_) (fun h4 => ?_)
  ·have h5 : j < al.length ∧ fo = false := by simp at h4; exact ⟨by omega, h4.2⟩
   refine r1.ld hlt fun _ x1 _ i1 => ?_
   refine rA.ld h5.1 fun _ x2 _ i2 => ?_
   refine SameRow_ok i1 i2 (by have := lens _ (List.getElem_mem hlt); omega) ?_
   refine hnext4 h5.1 _ _ ⟨rfl, succ64 j (by omega), fun u => ?_⟩
   have h6 := hfo h5.2
   have : j ≠ q := fun w => by
    subst w
    rw [eq] at u
    simp at u
   omega
  ·have h5 : fo = true := by
    cases hc : fo with
    | true => rfl
    | false =>
      have := hfo hc
      simp [hc] at h4
      omega
   rw [h5]
   refine br_f rfl ?_
   exact hnext3 hlt _ _ ⟨succ64 k (by omega), rfl⟩
 have eAF : Ext A F := e1.trans eBF
 exact soworks_ok ((hg.mod eA id).mod eAF id) fun G eG => hK G ((eA.trans eAF).trans eG)
end
end Go.Proofs.YtmkbhnholcaghaaGreatDoor
namespace Go.Proofs.YtmkbhnholcaghaaGreatDoor
open Go.ChangeShapes Go.WideShapes Go.ChangeAt Go.RowKit
set_option maxRecDepth 100000 in
theorem sorterSorts_lifted (os : Os) (started : os.Started) (H : Type) (enc : TypeId × Value → H) :
  ReturnsInHanded {} Tryz.checked os 4 .any (fun w args => (Rows.sorterSortsSpec.pre enc Tryz.prog Tryz.f4 [] false w args ∧ laidMetH Tryz.prog laidS w) ∧ sizedMet enc Tryz.prog Tryz.f4 (OpenSpec.ofChange Rows.sorterSortsSpec) false w args)
   (Rows.sorterSortsSpec.post enc Tryz.prog Tryz.f4 false true false false) := by
 refine returnsInHanded_of_change_and (C := Tryz.checked) (X := fun w _ => laidMetH Tryz.prog laidS w) (fun _ _ _ hh h => h.of_heap hh) pprog_own started (by kernel_rfl) Tryz.func4
  (ChangeSpec.witness_shaped (enc := enc) (C := Tryz.checked) (os := os) (X := fun w _ => laidMetH Tryz.prog laidS w) false (World.doorLaid Tryz.prog 400 os) #[.slice none 0 0, .int .i64 0, .int .i64 0] 8 rfl (World.shaped_of_RefB (by kernel_rfl) (by kernel_rfl)) (by kernel_rfl) (by kernel_rfl) (by kernel_rfl) (door_met os _)) ?_
 intro W base args ds gs before hval0 hW _ _ hL _
 have hval : ∀ (j : Nat) t v, Tryz.f4.params[j]? = some t → args[j]? = some v → Value.okWide Tryz.prog W .any base t v := hval0
 have hW' := hW
 obtain ⟨p, q, hA0, hV, rfl, hfz, hnd⟩ := hW
 have hA : DataW.TrodAll enc Tryz.prog W 0 (fun _ => true) true Tryz.f4.params.toList args.toList ds p := hA0
 rw [Tryz.params4] at hA hval
 obtain ⟨v0, v1, v2, d0, d1, d2, p0, p1, p2, rfl, rfl, rfl, h0, h1, h2⟩ := trodAll_three hA
 obtain ⟨rfl, rfl⟩ := trodVars_none hV
 obtain ⟨rows, rl, rfl, rn, _, ra⟩ := open_sl_sl_ints (k := .u64) (e := Yax) (e2 := YaH) (by kernel_rfl) (by kernel_rfl) (by kernel_rfl) (by kernel_rfl) (by kernel_rfl) (hval 0 Yan v0 rfl rfl) h0
 obtain ⟨width, rfl, _⟩ := wide_int (k := .i64) (hval 1 YaK v1 rfl rfl) (by kernel_rfl)
 obtain ⟨frames, rfl, _⟩ := wide_int (k := .i64) (hval 2 YaK v2 rfl rfl) (by kernel_rfl)
 have hfit : ∀ l ∈ rl, fitsL l := by
  intro l hl x hx
  obtain ⟨i, hi, e⟩ := List.getElem_of_mem hl
  subst e
  obtain ⟨_, _, _, _, _, _, q⟩ := ra i hi
  have := q x hx
  simp only [Lit.wf, Bool.and_eq_true, decide_eq_true_eq] at this
  have h1 : IntKind.u64.min = 0 := rfl
  have h2 : IntKind.u64.max = 18446744073709551615 := rfl
  omega
 have hspec := SorterSorts_ok (rows := rows) (rl := rl) (width := width) (frames := frames) (H := W.heap) (K := fun b H' => b = true ∧ Ext W.heap H') (gl_of_laid hL) ⟨rn, fun i hi => by obtain ⟨ad, rr, q1, q2, q3, _⟩ := ra i hi; exact ⟨ad, rr, q1, q2, q3⟩⟩ hfit (fun H' e => ⟨rfl, e⟩)
 refine (hspec W rfl).mono fun e W' ⟨v, he, ⟨x, hx, hb, hext⟩, hal⟩ => ?_
 subst he; subst hx; subst hb
 exact ⟨_, rfl, law_post pprog_laidOut (by decide +kernel) rfl (by kernel_rfl) rfl rfl rfl rfl hW' hext hal⟩
theorem sorterSorts_row : Rows.SorterSortsSaid :=
 OpenClaim.holds_of_wide 4 Tryz.f4 rfl rfl rfl rfl rfl rfl rfl ⟨rfl, rfl, rfl, rfl, rfl⟩ rfl rfl rfl rfl rfl (by kernel_rfl) Tryz.func4 (by kernel_rfl)
  (of_decide_eq_true (by kernel_rfl)) (by unfold Func.isWrapper; first | (rw [if_pos (by decide +kernel)]; kernel_rfl) | (rw [if_neg (by decide +kernel)]; exact ⟨rfl, rfl⟩))
  (fun os started H enc _ => sorterSorts_lifted os started H enc)
theorem sorterSorts_holds : Rows.SorterSortsCardSaid :=
 Claim7.holds_tied_plain_at .later [] [.data, .data, .data, .data] true _ false
  sorterSorts_row (fun _ h => by cases h) (by kernel_rfl) (fun _ h => by cases h) sorterSorts_row_tie rfl ⟨rfl, rfl⟩ (by kernel_rfl) rfl
  (fun f fn hf hfn => by
   obtain rfl : f = 4 := Option.some.inj ((show Tryz.prog.funcNamed "fathom/fathomlaw08.SorterSorts" = some 4 by kernel_rfl).symm.trans hf) |>.symm
   obtain rfl : fn = Tryz.f4 := (Option.some.inj (Tryz.func4.symm.trans hfn)).symm
   exact ⟨by kernel_rfl, fun j t ht => by
    rw [Tryz.params4] at ht
    have hm : t ∈ [Yan, YaK] := by simpa using Array.mem_of_getElem? ht
    have hall : ([Yan, YaK].all fun u => !Tryz.prog.wantsStandIn u) = true := by kernel_rfl
    exact (show Tryz.prog.wantsStandIn t = false by simpa using List.all_eq_true.1 hall t hm)⟩)
  (by kernel_rfl)
#print axioms sorterSorts_holds
end Go.Proofs.YtmkbhnholcaghaaGreatDoor
