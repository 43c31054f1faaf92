/-
  Runs: a row sought: the walk.
-/
import Derived.Test.YtbgpkpbejldlcaaGreatDoorJ36
import Derived.Test.YtbgpkpbejldlcaaGreatDoorJ37
import Derived.Test.YtbgpkpbejldlcaaGreatDoorDkr
namespace Go.Proofs.YtbgpkpbejldlcaaGreatDoor
open Go.MapKept

section
variable {H0 : Heap} {F0 O0 : Nat → Prop} {k p dp : Nat} {si : Sl} {rs : List Sl} {F : Nat → Prop} {A : Heap} {s : Pl} {r : RR} {c c1 : Addr} {low : Sl} {ll : List Int}
theorem RedB.start (h : RedB H0 F0 O0 k p dp si rs F A s r) : RedB A F (rdO k si rs) k p dp si rs F A s r := ⟨h.pool, h.rd, h.dis, .refl _ _, fun _ q => .inl q, fun _ q => .inl q⟩
theorem RedB.trans {si' : Sl} {rs' : List Sl} {F' : Nat → Prop} {A' : Heap} {s' : Pl} {r' : RR} (h : RedB H0 F0 O0 k p dp si rs F A s r) (g : RedB A F (rdO k si rs) k p dp si' rs' F' A' s' r') : RedB H0 F0 O0 k p dp si' rs' F' A' s' r' := by
  have z := h.mod.size
  refine ⟨g.pool, g.rd, g.dis, h.mod.trans' g.mod fun b hb q => ?_, fun b hb => ?_, fun b hb => ?_⟩
  · rcases q with q | q
    · rcases h.own b q with u | u
      · exact .inl u
      · omega
    · exact .inr q
  · rcases g.own b hb with q | q
    · exact h.own b q
    · right; omega
  · rcases g.own2 b hb with q | q
    · exact h.own2 b q
    · right; omega

theorem RR.load_bad {j : Nat} (h : (r.load s j).2.2 ≠ 0) : (r.load s j).2.1.b.wrong = (r.load s j).2.2 := by
  unfold RR.load at h ⊢
  split
  · rename_i hp; rw [if_pos hp] at h; exact absurd rfl h
  · rename_i hp
    rw [if_neg hp] at h
    split
    · rename_i he; simp only [Rb.broke]; rw [if_pos he]
    · rename_i he
      rw [if_neg he] at h
      split
      · rename_i hf; rw [if_pos hf] at h; exact absurd rfl h
      · rfl
theorem Pl.look_bounds {s : Pl} {n : ByteArray} {g : Int} (h0 : 0 ≤ s.next) (h1 : s.next < 1099511627776) : (s.look n g).1.d.logs ≤ s.d.logs + 1 ∧ (s.look n g).1.next ≤ s.next + 1 := by
  have a := s.pin_logs n g
  have b := s.pin_next (n := n) (k := g) h0 h1
  unfold Pl.look
  split
  · exact ⟨a, b⟩
  · split
    · exact ⟨a, b⟩
    · simp only
      rw [Pl.unpin_d, Pl.unpin_next]
      exact ⟨a, b⟩
theorem RR.load_bounds {j : Nat} (h0 : 0 ≤ s.next) (h1 : s.next < 1099511627776) : (r.load s j).1.d.logs ≤ s.d.logs + 1 ∧ (r.load s j).1.next ≤ s.next + 1 := by
  have := Pl.look_bounds (n := r.b.name) (g := (j : Int) + 1) h0 h1
  unfold RR.load
  split
  · exact ⟨Nat.le_succ _, by show s.next ≤ s.next + 1; omega⟩
  · split
    · exact this
    · split <;> exact this
theorem pagesN_lt {j n room : Nat} (hr : 0 < room) (h : j < pagesN n room) : j * room < n := by
  unfold pagesN at h
  have h1 : j + 1 ≤ (n + room - 1) / room := h
  rw [Nat.le_div_iff_mul_le hr, Nat.add_mul] at h1
  omega
theorem pagesN_le {n room : Nat} (hr : 0 < room) : pagesN n room ≤ n := by
  unfold pagesN
  rcases Nat.eq_zero_or_pos n with h | h
  · subst h; rw [Nat.div_eq_of_lt (by omega)]; omega
  · apply Nat.le_of_lt_succ
    rw [Nat.div_lt_iff_lt_mul hr, Nat.succ_mul]
    have := Nat.le_mul_of_pos_right n hr
    omega

/-- What a search has caught, at its beginning. -/
structure Caught (HB : Heap) (F0 : Nat → Prop) (k : Nat) (c c1 : Addr) (low : Sl) (ll : List Int) : Prop where
  cap : VarT HB c ty_ptr_runs_Reader (.pointer (at0 k))
  cap1 : VarT HB c1 ty_sl_uint64 low.v
  rd : Ints .u64 HB low ll
  offF : ∀ b, F0 b → b ≠ c.block ∧ b ≠ c1.block ∧ ∀ ad, low.a = some ad → ll ≠ [] → b ≠ ad.block
  offk : k ≠ c.block ∧ k ≠ c1.block ∧ ∀ ad, low.a = some ad → ll ≠ [] → k ≠ ad.block
theorem Caught.at (h : Caught H0 F0 k c c1 low ll) {A : Heap} (m : Mod (fun b => F0 b ∨ b = k) H0 A) : VarT A c ty_ptr_runs_Reader (.pointer (at0 k)) ∧ VarT A c1 ty_sl_uint64 low.v ∧ Ints .u64 A low ll := by
  refine ⟨h.cap.mod m fun q => ?_, h.cap1.mod m fun q => ?_, ?_⟩
  · rcases q with q | q
    · exact (h.offF _ q).1 rfl
    · exact h.offk.1 q.symm
  · rcases q with q | q
    · exact (h.offF _ q).2.1 rfl
    · exact h.offk.2.1 q.symm
  · by_cases hne : ll = []
    · subst hne
      exact ⟨h.rd.len, fun i v hv => by simp at hv⟩
    refine h.rd.mod m fun ad ha q => ?_
    rcases q with q | q
    · exact (h.offF _ q).2.2 ad ha hne rfl
    · exact h.offk.2.2 ad ha hne q.symm

/-- The search's question at the page 'j'. -/
theorem rask_ok {j : Nat} {K : Bool → Heap → Prop} (C : Caught H0 F0 k c c1 low ll) (hlow : ll.length ≤ 1000000) (hg : Gl H0) (hF0 : ¬ F0 gSteps) (hk0 : gSteps ≠ k) (h : RedB H0 F0 O0 k p dp si rs F A s r) (ok : r.Ok) (hj : j < pagesN r.rows r.b.room) (hw : r.b.wrong = 0)
    (hn : r.b.name.size ≤ 9223372036854775807) (hlogs : s.d.logs < 68719470000) (hnx : s.next < 1099511627776) (h0 : 0 ≤ s.next)
    (hK : ∀ F' si' rs' A', RedB H0 F0 O0 k p dp si' rs' F' A' (r.load s j).1 (r.load s j).2.1 → K (decide ((r.load s j).2.2 ≠ 0 ∨ ¬ cmpL (lastL (r.load s j).2.1.ins) ll < 0)) A') : runs_Reader_Seek_c1.sp (j : Int) c c1 A K := by
  refine runs_Reader_Seek_c1.of ?_
  unfold runs_Reader_Seek_c1.vc
  have hpr := pagesN_lt ok.room hj
  have hj2 : j < 1099511627776 := by have := pagesN_le (n := r.rows) ok.room; have := ok.rows; omega
  refine (C.at h.mod).1.ld (c := cPtr) (x := at0 k) ?_
  unfold at0
  simp only [optK_eq]
  refine RowT.ld (c := cInt .i64) (i := 4) (x := r.b.wrong) h.rd.row (BRow.get 4 _ rfl) ?_
  refine br_f (by rw [hw]; rfl) ?_
  refine (C.at h.mod).1.ld (c := cPtr) (x := at0 k) ?_
  refine rload_ok hg hF0 hk0 h ok (by omega) hj2 hn hlogs hnx h0 fun F1 si1 rs1 A1 B1 hz => ?_
  obtain ⟨k1, k2, k3, k4, _, k6⟩ := RR.load_ok (s := s) (j := j) ok
  generalize (r.load s j).1 = s1 at *
  generalize (r.load s j).2.1 = r1 at *
  generalize (r.load s j).2.2 = e2 at *
  have hq := hK F1 si1 rs1 A1 B1
  refine br_mk (fun hc => ?_) (fun hc => ?_)
  · have e3 : e2 ≠ 0 := by simpa using hc
    rw [decide_eq_true (Or.inl e3)] at hq
    exact hq
  have e3 : e2 = 0 := by simpa using hc
  obtain ⟨k7, k8⟩ := k6 e3
  have hlen := k1.page _ k8
  rw [k7, k2] at hlen
  have hpos : 0 < r1.ins.length := by rw [hlen]; have := ok.room; omega
  obtain ⟨z1, z2, z3⟩ := C.at B1.mod
  refine z1.ld (c := cPtr) (x := at0 k) ?_
  unfold at0
  simp only [optK_eq]
  refine RowT.ld (c := cSl) (i := 9) (x := si1) B1.rd.row (BRow.tail (j := 3) rfl) ?_
  refine z1.ld (c := cPtr) (x := at0 k) ?_
  unfold at0
  simp only [optK_eq]
  refine RowT.ld (c := cSl) (i := 9) (x := si1) B1.rd.row (BRow.tail (j := 3) rfl) ?_
  have hil : r1.ins.length ≤ 504 := by have := (roomL_nat r.b).2; rw [hlen]; omega
  have hlast : IntKind.i64.wrap ((si1.n : Int) - 1) = ((r1.ins.length - 1 : Nat) : Int) := by
    rw [B1.rd.ins.n, wrap64 (by omega) (by omega)]; omega
  rw [hlast]
  refine B1.rd.ins.rows.ld (by omega) fun ad x ha hx => ?_
  refine z2.ld (c := cSl) (x := low) ?_
  have hcol := k1.cols _ (List.getElem_mem (show r1.ins.length - 1 < r1.ins.length by omega))
  refine rowCmp_ok hx z3 (by omega) ?_
  have el : lastL r1.ins = r1.ins[r1.ins.length - 1] := by
    unfold lastL; rw [List.getD, List.getElem?_eq_getElem (by omega)]; rfl
  rw [el] at hq
  have ed : decide (e2 ≠ 0 ∨ ¬ cmpL r1.ins[r1.ins.length - 1] ll < 0) = decide (cmpL r1.ins[r1.ins.length - 1] ll ≥ 0) := by
    rw [decide_eq_decide]; omega
  rw [ed] at hq
  exact hq

/-- The search among the pages. -/
theorem rsearch_ok {K : Int → Heap → Prop} (C : Caught H0 F0 k c c1 low ll) (hlow : ll.length ≤ 1000000) (hg : Gl H0) (hF0 : ¬ F0 gSteps) (hk0 : gSteps ≠ k) (h : RedB H0 F0 O0 k p dp si rs F A s r) (ok : r.Ok) (hw : r.b.wrong = 0)
    (hn : r.b.name.size ≤ 9223372036854775807) (hlogs : s.d.logs + 528482304 < 68719470000) (hnx : s.next + 528482304 < 1099511627776)
    (hK0 : ∀ F' si' rs' A' i, (r.find s ll).2.2.2 ≠ 0 → (r.find s ll).2.1.b.wrong = (r.find s ll).2.2.2 → RedB H0 F0 O0 k p dp si' rs' F' A' (r.find s ll).1 (r.find s ll).2.1 → K i A')
    (hK1 : ∀ F' si' rs' A', (r.find s ll).2.2.2 = 0 → (r.find s ll).2.1.b = r.b → (r.find s ll).2.1.rows = r.rows → (r.find s ll).2.1.Ok → (r.find s ll).2.2.1 ≤ pagesN r.rows r.b.room → RedB H0 F0 O0 k p dp si' rs' F' A' (r.find s ll).1 (r.find s ll).2.1 → K ((r.find s ll).2.2.1 : Int) A') :
    sort_Search.sp (pagesN r.rows r.b.room : Int) c c1 A K := by
  refine sort_Search.of ?_
  unfold sort_Search.vc
  have hN : pagesN r.rows r.b.room ≤ 528482304 := by have := pagesN_le (n := r.rows) ok.room; have := ok.rows; omega
  obtain ⟨T, hT⟩ : ∃ T, T = r.find s ll := ⟨_, rfl⟩
  obtain ⟨N, hNN⟩ : ∃ N, N = pagesN r.rows r.b.room := ⟨_, rfl⟩
  rw [← hT] at hK0 hK1
  rw [← hNN] at hK1 hN ⊢
  refine loop_upto N (fun m z A' => ∃ (i j : Nat) (s' : Pl) (r' : RR) (F' : Nat → Prop) (si' : Sl) (rs' : List Sl), z = ((i : Int), (j : Int)) ∧ i ≤ j ∧ j ≤ N ∧ j - i + m ≤ N ∧ RedB H0 F0 O0 k p dp si' rs' F' A' s' r' ∧ (s'.d.logs ≤ s.d.logs + m ∧ s'.next ≤ s.next + m) ∧
    ((RR.srch ll (N - m) i j s' r' = T ∧ r'.b = r.b ∧ r'.rows = r.rows ∧ r'.Ok) ∨ (T.1 = s' ∧ T.2.1 = r' ∧ T.2.2.2 ≠ 0 ∧ r'.b.wrong = T.2.2.2))) ?_ ?_
  · refine ⟨0, N, s, r, F, si, rs, rfl, Nat.zero_le _, Nat.le_refl _, by omega, h, ⟨Nat.le_refl _, by omega⟩, .inl ⟨?_, rfl, rfl, ok⟩⟩
    rw [hT, hNN]; rfl
  rintro m _ A1 next hm ⟨i, j, s1, r1, F1, si1, rs1, rfl, hij, hjN, hmn, B1, ⟨b1, b2⟩, hT1⟩ hnext
  refine br_mk (fun hc => ?_) (fun hc => ?_)
  · have hlt : i < j := by have : (i : Int) < (j : Int) := by simpa using hc
                           omega
    have hmid := mid_ok (i := i) (j := j) (by omega)
    simp only
    rw [hmid]
    have hh1 : i ≤ (i + j) / 2 := by omega
    have hh2 : (i + j) / 2 < j := by omega
    rcases hT1 with ⟨t1, t2, t3, t4⟩ | ⟨t1, t2, t3, t4⟩
    · have b3 : 0 ≤ s1.next := by have := B1.pool.wf.tick; omega
      have c1 := RR.load_bounds (s := s1) (r := r1) (j := (i + j) / 2) b3 (by omega)
      obtain ⟨f, hf⟩ : ∃ f, N - m = f + 1 := ⟨N - m - 1, by omega⟩
      have hf2 : N - (m + 1) = f := by omega
      rw [hf] at t1
      unfold RR.srch at t1
      rw [if_pos hlt] at t1
      refine rask_ok C hlow hg hF0 hk0 B1 t4 (by rw [t2, t3, ← hNN]; omega) (by rw [t2]; exact hw) (by rw [t2]; exact hn) (by omega) (by omega) b3 fun F2 si2 rs2 A2 B2 => ?_
      obtain ⟨k1, k2, k3, k4, _, k6⟩ := RR.load_ok (s := s1) (j := (i + j) / 2) t4
      have kb := RR.load_bad (s := s1) (r := r1) (j := (i + j) / 2)
      generalize (r1.load s1 ((i + j) / 2)).1 = s2 at *
      generalize (r1.load s1 ((i + j) / 2)).2.1 = r2 at *
      generalize (r1.load s1 ((i + j) / 2)).2.2 = e2 at *
      by_cases e3 : e2 ≠ 0
      · rw [if_pos e3] at t1
        refine br_f (by simp [e3]) ?_
        exact hnext (by omega) _ _ ⟨i, (i + j) / 2, s2, r2, F2, si2, rs2, rfl, hh1, by omega, by omega, B2, ⟨by omega, by omega⟩, .inr ⟨by rw [← t1], by rw [← t1], by rw [← t1]; exact e3, by rw [← t1]; exact kb e3⟩⟩
      · rw [if_neg e3] at t1
        have e3' : e2 = 0 := by omega
        obtain ⟨k7, k8⟩ := k6 e3'
        by_cases e4 : cmpL (lastL r2.ins) ll < 0
        · rw [if_pos e4] at t1
          refine br_t (by simp [e3', e4]) ?_
          refine hnext (by omega) _ _ ⟨(i + j) / 2 + 1, j, s2, r2, F2, si2, rs2, ?_, by omega, hjN, by omega, B2, ⟨by omega, by omega⟩, .inl ⟨by rw [hf2]; exact t1, by rw [k7, t2], by rw [k2, t3], k1⟩⟩
          rw [succ64 _ (by omega)]
        · rw [if_neg e4] at t1
          refine br_f (by simp [e3', e4]) ?_
          exact hnext (by omega) _ _ ⟨i, (i + j) / 2, s2, r2, F2, si2, rs2, rfl, hh1, by omega, by omega, B2, ⟨by omega, by omega⟩, .inl ⟨by rw [hf2]; exact t1, by rw [k7, t2], by rw [k2, t3], k1⟩⟩
    · -- a page could not be looked at: the question answers yes
      have step : ∀ K' : Bool → Heap → Prop, K' true A1 → runs_Reader_Seek_c1.sp (((i + j) / 2 : Nat) : Int) c c1 A1 K' := by
        intro K' hk
        refine runs_Reader_Seek_c1.of ?_
        unfold runs_Reader_Seek_c1.vc
        refine (C.at B1.mod).1.ld (c := cPtr) (x := at0 k) ?_
        unfold at0
        simp only [optK_eq]
        refine RowT.ld (c := cInt .i64) (i := 4) (x := r1.b.wrong) B1.rd.row (BRow.get 4 _ rfl) ?_
        exact br_t (by rw [t4]; simpa using t3) hk
      refine step _ (br_f rfl ?_)
      exact hnext (by omega) _ _ ⟨i, (i + j) / 2, s1, r1, F1, si1, rs1, rfl, hh1, by omega, by omega, B1, ⟨by omega, by omega⟩, .inr ⟨t1, t2, t3, t4⟩⟩
  · have hge : ¬ i < j := by have : ¬ (i : Int) < (j : Int) := by simpa using hc
                             omega
    rcases hT1 with ⟨t1, t2, t3, t4⟩ | ⟨t1, t2, t3, t4⟩
    · have e : RR.srch ll (N - m) i j s1 r1 = (s1, r1, i, 0) := by
        cases hq : N - m with
        | zero => rfl
        | succ f => unfold RR.srch; rw [if_neg hge]
      rw [e] at t1
      have := hK1 F1 si1 rs1 A1 (by rw [← t1]) (by rw [← t1]; exact t2) (by rw [← t1]; exact t3) (by rw [← t1]; exact t4) (by rw [← t1]; simp only; omega) (by rw [← t1]; exact B1)
      rw [← t1] at this
      exact this
    · exact hK0 F1 si1 rs1 A1 _ t3 (by rw [t2]; exact t4) (by rw [t1, t2]; exact B1)
end
end Go.Proofs.YtbgpkpbejldlcaaGreatDoor

/-
  Runs: a reader goes to a row: the walk.
-/
namespace Go.Proofs.YtbgpkpbejldlcaaGreatDoor
open Go.MapKept

/-- What is below stands ahead of what is not. -/
def Down (ll : List Int) (ls : List (List Int)) : Prop := ∀ i j, i ≤ j → j < ls.length → cmpL (ls.getD j []) ll < 0 → cmpL (ls.getD i []) ll < 0
theorem below_eq {ll : List Int} : ∀ {ls : List (List Int)} {n : Nat}, n ≤ ls.length → (∀ x, x < n → cmpL (ls.getD x []) ll < 0) → (n < ls.length → ¬ cmpL (ls.getD n []) ll < 0) → below ll ls = n
  | [], n, h, _, _ => by simp at h; subst h; rfl
  | a :: ls, 0, _, _, h3 => by
    have := h3 (by simp)
    unfold below
    rw [List.takeWhile_cons, if_neg (by simpa using this)]; rfl
  | a :: ls, n + 1, h1, h2, h3 => by
    have h0 : cmpL a ll < 0 := h2 0 (by omega)
    have ih := @below_eq ll ls n (by simpa using h1) (fun x hx => h2 (x + 1) (by omega)) (fun hx => h3 (by simpa using hx))
    unfold below at ih ⊢
    rw [List.takeWhile_cons, if_pos (by simpa using h0), List.length_cons, ih]
theorem getD_of {ls : List (List Int)} {i : Nat} (h : i < ls.length) : ls.getD i [] = ls[i] := by rw [List.getD, List.getElem?_eq_getElem h]; rfl

theorem rbin_ok {si low : Sl} {ls : List (List Int)} {ll : List Int} {H : Heap} {K : (Int × Bool) → Heap → Prop} (h : Rows H si ls) (hl : Ints .u64 H low ll) (hd : Down ll ls) (hc : ∀ l ∈ ls, l.length ≤ 16) (hn : ls.length ≤ 1000000)
    (hK : ∀ b, K ((below ll ls : Int), b) H) : slices_BinarySearchFunc_sl_sl_uint64_sl_uint64_sl_uint64.sp si low H K := by
  refine slices_BinarySearchFunc_sl_sl_uint64_sl_uint64_sl_uint64.of ?_
  unfold slices_BinarySearchFunc_sl_sl_uint64_sl_uint64_sl_uint64.vc
  refine loop_upto ls.length (fun m z A => A = H ∧ ∃ i j : Nat, z = ((i : Int), (j : Int)) ∧ i ≤ j ∧ j ≤ ls.length ∧ j - i + m ≤ ls.length ∧ (∀ x, x < i → cmpL (ls.getD x []) ll < 0) ∧ ∀ x, j ≤ x → x < ls.length → ¬ cmpL (ls.getD x []) ll < 0) ?_ ?_
  · refine ⟨rfl, 0, ls.length, ?_, Nat.zero_le _, Nat.le_refl _, by omega, fun x hx => by omega, fun x h1 h2 => by omega⟩
    rw [h.len]; rfl
  rintro m _ A next hm ⟨rfl, i, j, rfl, hij, hjN, hmn, hlo, hhi⟩ hnext
  refine br_mk (fun hcc => ?_) (fun hcc => ?_)
  · have hlt : i < j := by have : (i : Int) < (j : Int) := by simpa using hcc
                           omega
    have hmid := mid_ok (i := i) (j := j) (by omega)
    simp only
    rw [hmid]
    have hh2 : (i + j) / 2 < ls.length := by omega
    refine h.ld hh2 fun ad x ha hx => ?_
    have hcol := hc _ (List.getElem_mem hh2)
    refine rowCmp_ok hx hl (by omega) ?_
    rw [← getD_of hh2]
    refine br_mk (fun hc2 => ?_) (fun hc2 => ?_)
    · have e : cmpL (ls.getD ((i + j) / 2) []) ll < 0 := by simpa using hc2
      refine hnext (by omega) _ _ ⟨rfl, (i + j) / 2 + 1, j, ?_, by omega, hjN, by omega, fun y hy => hd y ((i + j) / 2) (by omega) hh2 e, hhi⟩
      rw [succ64 _ (by omega)]
    · have e : ¬ cmpL (ls.getD ((i + j) / 2) []) ll < 0 := by simpa using hc2
      exact hnext (by omega) _ _ ⟨rfl, i, (i + j) / 2, rfl, by omega, by omega, by omega, hlo, fun y h1 h2 q => e (hd ((i + j) / 2) y h1 h2 q)⟩
  · have hge : ¬ i < j := by have : ¬ (i : Int) < (j : Int) := by simpa using hcc
                             omega
    have eij : i = j := by omega
    subst eij
    have eb : below ll ls = i := below_eq hjN hlo fun hx => hhi i (Nat.le_refl _) hx
    rw [eb] at hK
    refine br_mk (fun hc2 => ?_) (fun hc2 => ?_)
    · have hil : i < ls.length := by have : (i : Int) < (si.n : Int) := by simpa using hc2
                                     rw [h.len] at this; omega
      refine h.ld hil fun ad x ha hx => ?_
      have hcol := hc _ (List.getElem_mem hil)
      exact rowCmp_ok hx hl (by omega) (hK _)
    · exact hK false

section
variable {H0 : Heap} {F0 O0 : Nat → Prop} {k p dp : Nat} {si : Sl} {rs : List Sl} {F : Nat → Prop} {A : Heap} {s : Pl} {r : RR} {low : Sl} {ll : List Int}
theorem rpages_ok {t : TypeId} {b : Rb} {rest : List Value} {n : Nat} {H : Heap} {K : Int → Heap → Prop} (h : BRow H k t p b rest) (hr : 0 < b.room) (hn : n ≤ 528482304) (hK : K (pagesN n b.room : Int) H) : runs_base_pages.sp (at0 k) (n : Int) H K := by
  refine runs_base_pages.of ?_
  unfold runs_base_pages.vc
  unfold at0
  simp only [optK_eq]
  obtain ⟨rm1, rm2⟩ := roomL_nat b
  refine RowT.ld (c := cInt .i64) (i := 3) (x := roomL b.width) h (BRow.get 3 _ rfl) ?_
  refine RowT.ld (c := cInt .i64) (i := 3) (x := roomL b.width) h (BRow.get 3 _ rfl) ?_
  rw [rm1]
  refine ⟨by omega, ?_⟩
  have e1 : IntKind.i64.wrap ((n : Int) + (b.room : Int)) = ((n + b.room : Nat) : Int) := by rw [wrap64 (by omega) (by omega)]; omega
  have e2 : IntKind.i64.wrap (((n + b.room : Nat) : Int) - 1) = ((n + b.room - 1 : Nat) : Int) := by rw [wrap64 (by omega) (by omega)]; omega
  have e3 : Int.tdiv ((n + b.room - 1 : Nat) : Int) (b.room : Int) = ((pagesN n b.room : Nat) : Int) := rfl
  rw [e1, e2, e3]
  have := pagesN_le (n := n) hr
  rw [wrap64 (by omega) (by omega)]
  exact hK

set_option maxHeartbeats 1000000 in
/-- The reader goes to the first row that is not below. -/
theorem rseek_ok {K : Int → Heap → Prop} (hg : Gl H0) (hF0 : ¬ F0 gSteps) (hk0 : gSteps ≠ k) (h : RedB H0 F0 O0 k p dp si rs F A s r) (ok : r.Ok) (hl : Ints .u64 A low ll) (hlb : ∀ ad, low.a = some ad → ll ≠ [] → ¬ F ad.block ∧ ad.block ≠ k) (hlow : ll.length ≤ 1000000)
    (hn : r.b.name.size ≤ 9223372036854775807) (hlogs : s.d.logs + 528482304 < 68719460000) (hnx : s.next + 528482304 < 1099511620000)
    (hfb : (r.find s ll).1.d.logs < 68719470000 ∧ (r.find s ll).1.next < 1099511627776)
    (hdown : (r.find s ll).2.2.2 = 0 → (r.find s ll).2.2.1 ≠ pagesN r.rows r.b.room → ((r.find s ll).2.1.load (r.find s ll).1 (r.find s ll).2.2.1).2.2 = 0 → Down ll ((r.find s ll).2.1.load (r.find s ll).1 (r.find s ll).2.2.1).2.1.ins)
    (hK : ∀ F' si' rs' A', RedB H0 F0 O0 k p dp si' rs' F' A' (r.seek s ll).1 (r.seek s ll).2.1 → K (r.seek s ll).2.2 A') : runs_Reader_Seek.sp (at0 k) low A K := by
  refine runs_Reader_Seek.of ?_
  unfold runs_Reader_Seek.vc
  refine newC_varT fun c A1 hc1 z1 v1 e1 => ?_
  refine newC_varT fun c1 A2 hc2 z2 v2 e2 => ?_
  have v1' := v1.ext e2
  have B2 := (h.ext e1).ext e2
  have hFlt : ∀ b, F b → b < A.size := fun b hb => h.pool.lt b hb
  have hkl : k < A.size := obj_lt h.rd.row
  have hllt : ∀ ad, low.a = some ad → ll ≠ [] → ad.block < A.size := fun ad ha hne => by
    obtain ⟨ad', ha', hc⟩ := hl.at (i := 0) (List.length_pos_iff.2 hne)
    rw [ha] at ha'; cases ha'
    have := hCell_lt hc
    rwa [add_block] at this
  have C : Caught A2 F k c c1 low ll := by
    refine ⟨v1', v2, (hl.ext e1).ext e2, fun b hb => ⟨?_, ?_, fun ad ha hne q => (hlb ad ha hne).1 (q ▸ hb)⟩, ?_, ?_, fun ad ha hne q => (hlb ad ha hne).2 q.symm⟩
    · have := hFlt b hb; omega
    · have := hFlt b hb; omega
    · omega
    · omega
  have hgA2 := B2.gl hg hF0 hk0
  have hFg : ¬ F gSteps := h.pool.glob
  have G0 := B2.start
  refine (C.at (.refl _ _)).1.ld (c := cPtr) (x := at0 k) ?_
  refine br_f rfl ?_
  refine (C.at (.refl _ _)).1.ld (c := cPtr) (x := at0 k) ?_
  unfold at0
  simp only [optK_eq]
  unfold RR.seek at hK
  refine rready_ok B2.rd.row ?_
  refine br_mk (fun hc => ?_) (fun hc => ?_)
  · have e0 : r.b.ready ≠ 0 := by simpa using hc
    rw [if_pos e0] at hK
    exact hK F si rs A2 B2
  have e0 : ¬ r.b.ready ≠ 0 := by simpa using hc
  rw [if_neg e0] at hK
  have hw : r.b.wrong = 0 := by
    unfold Rb.ready at e0
    by_cases q : r.b.wrong ≠ 0
    · rw [if_pos q] at e0; exact absurd q e0
    · omega
  refine (C.at (.refl _ _)).2.1.ld (c := cSl) (x := low) ?_
  refine (C.at (.refl _ _)).1.ld (c := cPtr) (x := at0 k) ?_
  unfold at0
  simp only [optK_eq]
  refine RowT.ld (c := cInt .i64) (i := 2) (x := r.b.width) B2.rd.row (BRow.get 2 _ rfl) ?_
  have hln := hl.len
  refine br_mk (fun hc => ?_) (fun hc => ?_)
  · have e1 : (ll.length : Int) > r.b.width := by rw [← hln]; simpa using hc
    rw [if_pos e1] at hK
    exact hK F si rs A2 B2
  have e1' : ¬ (ll.length : Int) > r.b.width := by rw [← hln]; simpa using hc
  rw [if_neg e1'] at hK
  refine (C.at (.refl _ _)).1.ld (c := cPtr) (x := at0 k) ?_
  unfold at0
  simp only [optK_eq]
  refine (C.at (.refl _ _)).1.ld (c := cPtr) (x := at0 k) ?_
  unfold at0
  simp only [optK_eq]
  refine RowT.ld (c := cInt .i64) (i := 6) (x := (r.rows : Int)) B2.rd.row (BRow.tail (j := 0) rfl) ?_
  refine rpages_ok B2.rd.row ok.room ok.rows ?_
  have hrow := ok.rows
  have hNle := pagesN_le (n := r.rows) ok.room
  refine rsearch_ok C hlow hgA2 hFg hk0 G0 ok hw hn (by omega) (by omega) (fun F3 si3 rs3 A3 i h1 h2 B3 => ?_) (fun F3 si3 rs3 A3 h1 h2 h3 h4 h5 B3 => ?_)
  · rw [if_pos h1] at hK
    refine (C.at B3.mod).1.ld (c := cPtr) (x := at0 k) ?_
    unfold at0
    simp only [optK_eq]
    refine RowT.ld (c := cInt .i64) (i := 4) (x := (r.find s ll).2.1.b.wrong) B3.rd.row (BRow.get 4 _ rfl) ?_
    refine br_t (by rw [h2]; simpa using h1) ?_
    refine (C.at B3.mod).1.ld (c := cPtr) (x := at0 k) ?_
    unfold at0
    simp only [optK_eq]
    refine RowT.ld (c := cInt .i64) (i := 4) (x := (r.find s ll).2.1.b.wrong) B3.rd.row (BRow.get 4 _ rfl) ?_
    rw [h2]
    exact hK F3 si3 rs3 A3 (B2.trans B3)
  · rw [if_neg (by rw [h1]; simp)] at hK
    unfold RR.goto at hK
    rw [h2, h3] at hK
    have hok := @RR.load_ok (r.find s ll).1 (r.find s ll).2.1 (r.find s ll).2.2.1 h4
    have hd1 := hdown h1
    generalize (r.find s ll).1 = s3 at *
    generalize (r.find s ll).2.1 = r3 at *
    generalize (r.find s ll).2.2.1 = kk at *
    refine (C.at B3.mod).1.ld (c := cPtr) (x := at0 k) ?_
    unfold at0
    simp only [optK_eq]
    refine RowT.ld (c := cInt .i64) (i := 4) (x := r3.b.wrong) B3.rd.row (BRow.get 4 _ rfl) ?_
    refine br_f (by rw [h2, hw]; rfl) ?_
    refine br_mk (fun hc => ?_) (fun hc => ?_)
    · have e3 : kk = pagesN r.rows r.b.room := by have : (kk : Int) = (pagesN r.rows r.b.room : Int) := by simpa using hc
                                                  omega
      rw [if_pos e3] at hK
      refine (C.at B3.mod).1.ld (c := cPtr) (x := at0 k) ?_
      refine (C.at B3.mod).1.ld (c := cPtr) (x := at0 k) ?_
      unfold at0
      simp only [optK_eq]
      refine RowT.ld (c := cInt .i64) (i := 6) (x := (r3.rows : Int)) B3.rd.row (BRow.tail (j := 0) rfl) ?_
      refine RowT.st B3.rd.row (i := 7) (by simp [baseV]) rfl fun A4 r4 m4 z4 => ?_
      have r4' : BRow A4 k ty_runs_Reader p r3.b [.int .i64 (r3.rows : Int), .int .i64 (r.rows : Int), .int .i64 (pageI r3.page), si3.v] := by
        have e : (baseV p r3.b ++ [.int .i64 (r3.rows : Int), .int .i64 (r3.at_ : Int), .int .i64 (pageI r3.page), si3.v]).toArray.setIfInBounds 7 (.int .i64 (r3.rows : Int)) = (baseV p r3.b ++ [.int .i64 (r3.rows : Int), .int .i64 (r.rows : Int), .int .i64 (pageI r3.page), si3.v]).toArray := by
          rw [h3]; simp [baseV]
        rw [e] at r4; exact r4
      rw [h2, h3] at r4'
      exact hK F3 si3 rs3 A4 (B2.trans (B3.turn m4 ⟨r4', B3.rd.ins.mod m4 (fun b hb q => B3.rd.offI (q ▸ hb)) fun x hx b hb q => B3.rd.offR x hx (q ▸ hb)⟩ fun b q => .inl q))
    · have e3 : ¬ kk = pagesN r.rows r.b.room := fun q => by rw [q] at hc; simp at hc
      rw [if_neg e3] at hK
      refine (C.at B3.mod).1.ld (c := cPtr) (x := at0 k) ?_
      have hkk : kk < pagesN r.rows r.b.room := by omega
      have hpl := pagesN_lt ok.room hkk
      refine rload_ok hgA2 hFg hk0 B3 h4 (by rw [h2, h3]; omega) (by omega) (by rw [h2]; exact hn) hfb.1 hfb.2 (by have := B3.pool.wf.tick; omega) fun F4 si4 rs4 A4 B4 hz4 => ?_
      obtain ⟨k1, k2, k3, k4, _, k6⟩ := hok
      generalize r3.load s3 kk = L at *
      obtain ⟨s4, r4, e4⟩ := L
      simp only at hK k1 k2 k3 k4 k6 B4 hd1 ⊢
      refine br_mk (fun hc => ?_) (fun hc => ?_)
      · have e5 : e4 ≠ 0 := by simpa using hc
        rw [if_pos e5] at hK
        exact hK F4 si4 rs4 A4 (B2.trans B4)
      have e5 : ¬ e4 ≠ 0 := by simpa using hc
      rw [if_neg e5] at hK
      obtain ⟨k7, k8⟩ := k6 (by omega)
      have hlen := k1.page _ k8
      rw [k7, h2, k2, h3] at hlen
      have hil : r4.ins.length ≤ 504 := by have := (roomL_nat r.b).2; rw [hlen]; omega
      refine (C.at B4.mod).1.ld (c := cPtr) (x := at0 k) ?_
      unfold at0
      simp only [optK_eq]
      refine RowT.ld (c := cSl) (i := 9) (x := si4) B4.rd.row (BRow.tail (j := 3) rfl) ?_
      refine (C.at B4.mod).2.1.ld (c := cSl) (x := low) ?_
      refine rbin_ok B4.rd.ins.rows (C.at B4.mod).2.2 (hd1 e3 (by omega)) k1.cols (by omega) fun bb => ?_
      have hbl : below ll r4.ins ≤ r4.ins.length := by unfold below; exact (List.takeWhile_sublist _).length_le
      refine (C.at B4.mod).1.ld (c := cPtr) (x := at0 k) ?_
      refine (C.at B4.mod).1.ld (c := cPtr) (x := at0 k) ?_
      unfold at0
      simp only [optK_eq]
      refine RowT.ld (c := cInt .i64) (i := 3) (x := roomL r4.b.width) B4.rd.row (BRow.get 3 _ rfl) ?_
      refine RowT.st B4.rd.row (i := 7) (by simp [baseV]) rfl fun A5 r5 m5 z5 => ?_
      obtain ⟨rm1, rm2⟩ := roomL_nat r.b
      have w1 : IntKind.i64.wrap ((kk : Int) * roomL r4.b.width) = ((kk * r.b.room : Nat) : Int) := by
        rw [k7, h2, rm1]
        have : (kk : Int) * (r.b.room : Int) = ((kk * r.b.room : Nat) : Int) := by simp
        rw [this]; exact wrap64 (by omega) (by omega)
      have w2 : IntKind.i64.wrap (((kk * r.b.room : Nat) : Int) + (below ll r4.ins : Int)) = ((kk * r.b.room + below ll r4.ins : Nat) : Int) := by
        rw [wrap64 (by omega) (by omega)]; omega
      rw [w1, w2] at r5
      have r5' : BRow A5 k ty_runs_Reader p r4.b [.int .i64 (r4.rows : Int), .int .i64 ((kk * r.b.room + below ll r4.ins : Nat) : Int), .int .i64 (pageI r4.page), si4.v] := by
        have e : (baseV p r4.b ++ [.int .i64 (r4.rows : Int), .int .i64 (r4.at_ : Int), .int .i64 (pageI r4.page), si4.v]).toArray.setIfInBounds 7 (.int .i64 ((kk * r.b.room + below ll r4.ins : Nat) : Int)) = (baseV p r4.b ++ [.int .i64 (r4.rows : Int), .int .i64 ((kk * r.b.room + below ll r4.ins : Nat) : Int), .int .i64 (pageI r4.page), si4.v]).toArray := by
          simp [baseV]
        rw [e] at r5; exact r5
      exact hK F4 si4 rs4 A5 (B2.trans (B4.turn m5 ⟨r5', B4.rd.ins.mod m5 (fun b hb q => B4.rd.offI (q ▸ hb)) fun x hx b hb q => B4.rd.offR x hx (q ▸ hb)⟩ fun b q => .inl q))
end
end Go.Proofs.YtbgpkpbejldlcaaGreatDoor

/-
  Runs: a reader is made; it ends; it tells how many rows there are: the walk.
-/
namespace Go.Proofs.YtbgpkpbejldlcaaGreatDoor
open Go.MapKept

theorem getL_one {b : List Int} (h : b.length = 8) : getL b 1 = [[wordOf b]] := by
  have hs : sizeL 1 = 8 := by decide
  have ho : getOK b 1 = true := by unfold getOK; rw [hs, h]; rfl
  unfold getL
  rw [if_pos ho, hs, h]
  have : (8 / (8 : Int).toNat) = 1 := by decide
  rw [this]
  unfold rowsOf
  rw [hs]
  have ht : List.take 8 b = b := List.take_of_length_le (by omega)
  simp [List.range_succ, rowOf, chunkOf, ht]
theorem rnOpen_ok {s : Pl} {n : ByteArray} {W : Int} {r : RR} (h : (rnOpen s n W).2.1 = some r) : r.Ok ∧ r.b = ⟨n, W, 0, false⟩ ∧ r.at_ = 0 ∧ r.page = none ∧ r.ins = [] := by
  unfold rnOpen at h
  split at h
  · cases h
  · rename_i hr
    split at h
    · cases h
    · split at h
      · cases h
      · split at h
        · cases h
        · split at h
          · rename_i hw
            cases h
            have := wordOf_range (u8i ((s.look n 0).2.2.1.drop 1))
            have h1 := hw.1
            refine ⟨⟨?_, Nat.zero_le _, by simp, by simp only; omega, by simp⟩, rfl, rfl, rfl, rfl⟩
            have := roomL_nat ⟨n, W, 0, false⟩
            unfold Rb.room at this ⊢
            simp only at this ⊢
            omega
          · cases h

theorem ropen_none {n : ByteArray} {w : Int} {H : Heap} {K : (Option Addr × Int) → Heap → Prop} (hK : ∀ H', Ext H H' → K (none, 1) H') : runs_Open.sp none n w H K := by
  refine runs_Open.of ?_
  unfold runs_Open.vc
  refine rbased_ok (e := 1) rfl fun H1 e1 => ?_
  refine newC_rowT fun H2 z2 r2 e2 => ?_
  refine RowT.stAll (cs := bgnV none n w) r2 size_base zc_base (bgnV_one _ _ _) fun H3 r3 m3 z3 => ?_
  have e3 : Ext H H3 := ⟨by have := m3.size; have := e1.size; omega, fun b hb _ => (m3.same b (by have := e1.size; omega) (by intro q; have : b = H1.size := q; have := e1.size; omega)).trans ((e2.same b (by have := e1.size; omega) id).trans (e1.same b hb id))⟩
  exact br_t rfl (hK H3 e3)

variable {F : Nat → Prop} {H : Heap} {p dp : Nat} {s : Pl} {n : ByteArray} {W : Int} {K : (Option Addr × Int) → Heap → Prop}
set_option maxHeartbeats 1000000 in
theorem ropen_ok (hg : Gl H) (hp : PoolAt F H p dp s) (hn : n.size ≤ 9223372036854775807) (hlogs : s.d.logs < 68719470000) (hnx : s.next < 1099511627776) (h0 : 0 ≤ s.next) (hlen : ∀ m, ((s.look n 0).1.d.len n).1 = m → m < 4611686018427387904)
    (hK0 : ∀ F' H', PoolAt F' H' p dp (rnOpen s n W).1 → Step F F' H H' → (rnOpen s n W).2.1 = none → K (none, (rnOpen s n W).2.2) H')
    (hK1 : ∀ F' H' k r, PoolAt F' H' p dp (rnOpen s n W).1 → Step F F' H H' → (rnOpen s n W).2.1 = some r → RdB H' k p r nilS [] → H.size ≤ k → ¬ F' k → K (at0 k, (rnOpen s n W).2.2) H') : runs_Open.sp (at0 p) n W H K := by
  refine runs_Open.of ?_
  unfold runs_Open.vc
  refine rbased_ok (e := if roomL W = 0 then 60 else 0) (if_neg (by unfold at0; simp)) fun H1 e1 => ?_
  refine newC_rowT fun H2 z2 r2 e2 => ?_
  refine RowT.stAll (cs := bgnV (at0 p) n W) r2 size_base zc_base (bgnV_one _ _ _) fun H3 r3 m3 z3 => ?_
  have e3 : Ext H H3 := ⟨by have := m3.size; have := e1.size; omega, fun b hb _ => (m3.same b (by have := e1.size; omega) (by intro q; have : b = H1.size := q; have := e1.size; omega)).trans ((e2.same b (by have := e1.size; omega) id).trans (e1.same b hb id))⟩
  have p3 := hp.ext e3
  have g3 : Gl H3 := hg.mod e3 id
  have S3 : Step F F H H3 := ⟨e3.mod, fun b q => .inl q⟩
  have z13 := e1.size
  have hk : ¬ F H1.size := fun q => by have := hp.lt _ q; omega
  by_cases hr : roomL W = 0
  · simp only [if_pos hr]
    have em : rnOpen s n W = (s, none, 60) := if_pos hr
    rw [em] at hK0
    exact br_t rfl (hK0 F H3 p3 S3 rfl)
  simp only [if_neg hr]
  refine br_f rfl ?_
  have b3 : BRow H3 H1.size ty_runs_base p ⟨n, W, 0, false⟩ [] := r3
  refine rlook_ok (g := 0) (b := ⟨n, W, 0, false⟩) g3 b3 p3 hk (by decide) hn hlogs hnx h0 fun F4 H4 sl p4 S4 o4 f4 hl4 => ?_
  have em : rnOpen s n W = if (s.look n 0).2.2.2 ≠ 0 then ((s.look n 0).1, none, (s.look n 0).2.2.2)
    else if ¬ ((s.look n 0).2.1 = 2 ∧ (s.look n 0).2.2.1.length = 9 ∧ (((s.look n 0).2.2.1.getD 0 0).toNat : Int) = W) then ((s.look n 0).1, none, 280)
    else if ((s.look n 0).1.d.len n).2 ≠ 0 then ((s.look n 0).1, none, ((s.look n 0).1.d.len n).2)
    else if wordOf (u8i ((s.look n 0).2.2.1.drop 1)) ≤ 528482304 ∧ ((s.look n 0).1.d.len n).1 = 1 + pagesN (wordOf (u8i ((s.look n 0).2.2.1.drop 1))).toNat (roomL W).toNat then
      ((s.look n 0).1, some ⟨⟨n, W, 0, false⟩, (wordOf (u8i ((s.look n 0).2.2.1.drop 1))).toNat, 0, none, []⟩, 0)
    else ((s.look n 0).1, none, 280) := by unfold rnOpen; rw [if_neg hr]
  rw [em] at hK0 hK1
  simp only at p4 o4 f4 hl4 ⊢
  generalize (s.look n 0).1 = s4 at *
  generalize (s.look n 0).2.1 = kd at *
  generalize (s.look n 0).2.2.1 = b at *
  generalize (s.look n 0).2.2.2 = e at *
  have T4 := S3.trans S4
  have b4 : BRow H4 H1.size ty_runs_base p ⟨n, W, 0, false⟩ [] := b3.mod S4.mod hk
  have hb4 := SlB_byts o4
  have hbn := hb4.n
  refine br_mk (fun hc => ?_) (fun hc => ?_)
  · have e0 : e ≠ 0 := by simpa using hc
    rw [if_pos e0] at hK0
    exact hK0 F4 H4 p4 T4 rfl
  have e0 : ¬ e ≠ 0 := by simpa using hc
  rw [if_neg e0] at hK0 hK1
  refine br_mk (fun hc => ?_) (fun hc => ?_)
  · have hnot : ¬ (kd = 2 ∧ b.length = 9 ∧ ((b.getD 0 0).toNat : Int) = W) := by
      rintro ⟨q1, q2, _⟩
      rw [hbn, q2, q1] at hc
      simp at hc
    rw [if_pos hnot] at hK0
    exact hK0 F4 H4 p4 T4 rfl
  have hk9 : kd = 2 ∧ b.length = 9 := by
    simp only [Bool.or_eq_false_iff, bne_eq_false_iff_eq] at hc
    refine ⟨UInt8.toNat_inj.1 (by have := hc.1; show kd.toNat = 2; omega), by have := hc.2; omega⟩
  obtain ⟨hkd, hb9⟩ := hk9
  refine byte_of hb4 (i := 0) (by omega) rfl fun ad ha => ?_
  have hw8 : IntKind.i64.wrap ((b[0]'(by omega)).toNat : Int) = ((b.getD 0 0).toNat : Int) := by
    have : b.getD 0 0 = b[0]'(by omega) := by rw [List.getD, List.getElem?_eq_getElem (by omega)]; rfl
    have hlt := (b[0]'(by omega)).toNat_lt
    rw [this, wrap64 (by omega) (by omega)]
  rw [hw8]
  refine br_mk (fun hc => ?_) (fun hc => ?_)
  · have hnot : ¬ (kd = 2 ∧ b.length = 9 ∧ ((b.getD 0 0).toNat : Int) = W) := by
      rintro ⟨_, _, q3⟩
      rw [q3] at hc
      simp at hc
    rw [if_pos hnot] at hK0
    exact hK0 F4 H4 p4 T4 rfl
  have hyes : ¬ ¬ (kd = 2 ∧ b.length = 9 ∧ ((b.getD 0 0).toNat : Int) = W) := fun q => q ⟨hkd, hb9, by simpa only [bne_eq_false_iff_eq] using hc⟩
  rw [if_neg hyes] at hK0 hK1
  refine PDisk_ok p4 ?_
  obtain ⟨D, d1, _, _⟩ := PoolAt.disk (g3.mod S4.mod p3.glob) p4
  refine Len_ok d1 ?_
  have hm := hlen _ rfl
  generalize (s4.d.len n).1 = N at *
  generalize (s4.d.len n).2 = e5 at *
  refine br_mk (fun hc => ?_) (fun hc => ?_)
  · have e6 : e5 ≠ 0 := by simpa using hc
    rw [if_pos e6] at hK0
    exact hK0 F4 H4 p4 T4 rfl
  have e6 : ¬ e5 ≠ 0 := by simpa using hc
  rw [if_neg e6] at hK0 hK1
  refine ⟨by omega, ?_⟩
  have hd := hb4.drop o4.cap 1
  have hl8 : (u8i (b.drop 1)).length = 8 := by rw [u8i_length, List.length_drop]; omega
  refine rowGet_ok (b := u8i (b.drop 1)) hd (by have := o4.cap; show sl.n - 1 ≤ sl.c - 1; omega) (fun x hx => ?_) (by omega) fun sr rs H5 ro e5' => ?_
  · unfold u8i at hx
    obtain ⟨c, _, rfl⟩ := List.mem_map.1 hx
    have := c.toNat_lt; omega
  rw [getL_one hl8] at ro
  have p5 := p4.ext e5'
  have T5 : Step F F4 H H5 := T4.trans ⟨e5'.mod, fun b q => .inl q⟩
  have b5 := b4.ext e5'
  refine ro.rows.ld (i := 0) (by simp) fun ad1 x1 ha1 hx1 => ?_
  have hx1' : Ints .u64 H5 x1 [wordOf (u8i (b.drop 1))] := hx1
  refine ints_get hx1' (i := 0) (j := 0) rfl (by simp) fun ad2 ha2 => ?_
  have hwr := wordOf_range (u8i (b.drop 1))
  simp only [List.getD_cons_zero]
  obtain ⟨w, hwd⟩ : ∃ w, w = wordOf (u8i (b.drop 1)) := ⟨_, rfl⟩
  rw [← hwd] at hK0 hK1 hwr ⊢
  have hrm := roomL_nat ⟨n, W, 0, false⟩
  refine br_mk (fun hc => ?_) (fun hc => ?_)
  · have hw : w ≤ 528482304 := by simpa using hc
    obtain ⟨wn, rfl⟩ : ∃ wn : Nat, w = (wn : Int) := ⟨w.toNat, by omega⟩
    rw [show IntKind.i64.wrap (wn : Int) = (wn : Int) from wrap64 (by omega) (by omega)]
    have hroom : 0 < (Rb.room ⟨n, W, 0, false⟩) := by
      have := hrm.1; simp only at this; omega
    refine rpages_ok (b := ⟨n, W, 0, false⟩) b5 hroom (by omega) ?_
    have hpl := pagesN_le (n := wn) hroom
    have hrt : Rb.room ⟨n, W, 0, false⟩ = (roomL W).toNat := rfl
    rw [hrt] at hpl ⊢
    have w2 : IntKind.i64.wrap (1 + (pagesN wn (roomL W).toNat : Int)) = ((1 + pagesN wn (roomL W).toNat : Nat) : Int) := by
      rw [wrap64 (by omega) (by omega)]; omega
    rw [w2]
    rw [Int.toNat_natCast] at hK0 hK1
    refine br_mk (fun hc => ?_) (fun hc => ?_)
    · have e7 : N = 1 + pagesN wn (roomL W).toNat := by
        have : (N : Int) = ((1 + pagesN wn (roomL W).toNat : Nat) : Int) := by simpa using hc
        omega
      rw [if_pos ⟨hw, e7⟩] at hK1
      refine RowT.ldA (x := (at0 p, n, W, roomL W, 0, false)) b5 rfl rfl ?_
      refine newC_rowT fun H6 z6 r6 e6 => ?_
      have := T5.mod.size
      refine hK1 F4 H6 H5.size ⟨⟨n, W, 0, false⟩, wn, 0, none, []⟩ (p5.ext e6) ⟨T5.mod.trans' e6 fun b _ q => q.elim, T5.own⟩ rfl ⟨r6, RowsOwn.nil _ _⟩ (by omega) fun q => by have := p5.lt _ q; omega
    · have e7 : ¬ (((wn : Nat) : Int) ≤ 528482304 ∧ N = 1 + pagesN wn (roomL W).toNat) := fun q => by
        rw [q.2] at hc; simp at hc
      rw [if_neg e7] at hK0
      exact hK0 F4 H5 p5 T5 rfl
  · have hw : ¬ w ≤ 528482304 := by simpa using hc
    rw [if_neg (fun q => hw q.1)] at hK0
    exact hK0 F4 H5 p5 T5 rfl
end Go.Proofs.YtbgpkpbejldlcaaGreatDoor

/-
  A run's readers, in plain words: they are told its rows, and go where they should.
-/
namespace Go.Proofs.YtbgpkpbejldlcaaGreatDoor

structure RdOn (r : RR) (n : ByteArray) (W room : Nat) (rs : List (List Int)) : Prop where
  b : r.b = ⟨n, W, 0, false⟩
  rows : r.rows = rs.length
  at_ : r.at_ ≤ rs.length
  page : ∀ j, r.page = some j → j < pagesN rs.length room ∧ r.ins = pageR rs room j
  cols : ∀ l ∈ r.ins, l.length ≤ 16

theorem pageR_len {rs : List (List Int)} {room j : Nat} : (pageR rs room j).length = min room (rs.length - j * room) := by
  unfold pageR; rw [List.length_take, List.length_drop]
theorem pageR_get {rs : List (List Int)} {room j i : Nat} (hi : i < room) : (pageR rs room j).getD i [] = rs.getD (j * room + i) [] := by
  unfold pageR
  simp only [List.getD]
  rw [List.getElem?_take, if_pos hi, List.getElem?_drop]

section
variable {p : Pl} {r : RR} {n : ByteArray} {W : Nat} {rs : List (List Int)} {q : Nat}
theorem RdOn.room (h : RdOn r n W (504 / (8 * W)) rs) (h1 : 1 ≤ W) (h2 : W ≤ 16) : r.b.room = 504 / (8 * W) := by
  unfold Rb.room
  rw [h.b]
  simp only
  rw [(roomL_width h1 h2).1]; rfl
theorem Ran.load (h : Ran p n W (504 / (8 * W)) rs q) (hd : RdOn r n W (504 / (8 * W)) rs) (h1 : 1 ≤ W) (h2 : W ≤ 16) (hr : Rise W rs) (hs : n.size ≤ 9223372036854775807) (hq : q ≤ 1048576) (hqN : 1 + pagesN rs.length (504 / (8 * W)) ≤ q)
    (h0 : 0 ≤ p.next) (hnx : p.next < 1099511627776) {j : Nat} (hj : j < pagesN rs.length (504 / (8 * W))) :
    (r.load p j).2.2 = 0 ∧ Ran (r.load p j).1 n W (504 / (8 * W)) rs q ∧ RdOn (r.load p j).2.1 n W (504 / (8 * W)) rs ∧ (r.load p j).2.1.ins = pageR rs (504 / (8 * W)) j ∧ (r.load p j).2.1.at_ = r.at_ ∧ p.next ≤ (r.load p j).1.next ∧ (r.load p j).1.next ≤ p.next + 1 := by
  have hrm := hd.room h1 h2
  obtain ⟨r1, r2, r3, r4⟩ := roomL_width h1 h2
  generalize 504 / (8 * W) = room at *
  unfold RR.load
  by_cases hp : r.page = some j
  · rw [if_pos hp]
    exact ⟨rfl, h, hd, (hd.page j hp).2, rfl, Int.le_refl _, by show p.next ≤ p.next + 1; omega⟩
  rw [if_neg hp]
  obtain ⟨T, c1, c2, c3⟩ := h.calm
  obtain ⟨l1, l2, l3, l4⟩ := c1.look (k := j + 1) hq hs h0 hnx (by omega) hqN
  have e1 : ((j + 1 : Nat) : Int) = (j : Int) + 1 := by omega
  rw [e1, c3 j hj] at l1
  rw [e1] at l2 l3
  rw [hd.b]
  simp only
  rw [l1]
  simp only
  have hsub : ∀ l ∈ pageR rs room j, l ∈ rs := fun l hl => List.mem_of_mem_drop (List.mem_of_mem_take (show l ∈ (rs.drop _).take _ from hl))
  obtain ⟨g1, g2⟩ := read_again h2 (fun l hl => hr.len l (hsub l hl)) (fun l hl => hr.fit l (hsub l hl))
  rw [← u8i_rowsB] at g1 g2
  have hok : getOK (u8i (rowsB (pageR rs room j))) W = true := by
    unfold getE at g2
    cases e : getOK (u8i (rowsB (pageR rs room j))) W with
    | true => rfl
    | false => rw [e] at g2; simp at g2
  have hfit : r.fits j 1 (rowsB (pageR rs room j)) = true := by
    unfold RR.fits
    rw [hd.b, hd.rows]
    simp only
    rw [hok, g1, pageR_len]
    have : Rb.room ⟨n, W, 0, false⟩ = room := by rw [← hd.b]; exact hrm
    rw [this]; simp
  rw [if_neg (by simp), if_pos hfit]
  refine ⟨rfl, ⟨T, l2, c2, c3⟩, ⟨rfl, hd.rows, hd.at_, fun i hi => ?_, getL_cols⟩, g1, rfl, ?_, ?_⟩
  · simp only at hi; cases hi
    exact ⟨hj, g1⟩
  · rw [l3]; omega
  · rw [l3]; exact Int.le_refl _

/-- A row is told. -/
theorem Ran.next (h : Ran p n W (504 / (8 * W)) rs q) (hd : RdOn r n W (504 / (8 * W)) rs) (h1 : 1 ≤ W) (h2 : W ≤ 16) (hr : Rise W rs) (hs : n.size ≤ 9223372036854775807) (hq : q ≤ 1048576) (hqN : 1 + pagesN rs.length (504 / (8 * W)) ≤ q)
    (h0 : 0 ≤ p.next) (hnx : p.next < 1099511627776) :
    (r.at_ < rs.length → (r.next p).2.2 = (rs.getD r.at_ [], true, 0) ∧ Ran (r.next p).1 n W (504 / (8 * W)) rs q ∧ RdOn (r.next p).2.1 n W (504 / (8 * W)) rs ∧ (r.next p).2.1.at_ = r.at_ + 1 ∧ p.next ≤ (r.next p).1.next ∧ (r.next p).1.next ≤ p.next + 1) ∧
    (r.at_ = rs.length → r.next p = (p, r, [], false, 0)) := by
  have hrdy : ¬ r.b.ready ≠ 0 := by rw [hd.b]; simp [Rb.ready]
  have hrm := hd.room h1 h2
  refine ⟨fun ha => ?_, fun ha => ?_⟩
  · have hr3 := (roomL_width h1 h2).2.1
    have hpj : r.at_ / (504 / (8 * W)) < pagesN rs.length (504 / (8 * W)) := by
      unfold pagesN
      rw [Nat.lt_iff_add_one_le, Nat.le_div_iff_mul_le (by omega), Nat.add_mul]
      have := Nat.div_mul_le_self r.at_ (504 / (8 * W))
      omega
    obtain ⟨l1, l2, l3, l4, l5, l6, l7⟩ := h.load hd h1 h2 hr hs hq hqN h0 hnx hpj
    unfold RR.next
    rw [if_neg hrdy, if_neg (by rw [hd.rows]; omega), hrm, if_neg (by rw [l1]; simp)]
    simp only
    have hm := Nat.mod_lt r.at_ (show 0 < 504 / (8 * W) by omega)
    have hdm := Nat.div_add_mod r.at_ (504 / (8 * W))
    have hmc : (504 / (8 * W)) * (r.at_ / (504 / (8 * W))) = r.at_ / (504 / (8 * W)) * (504 / (8 * W)) := Nat.mul_comm _ _
    have hat : r.at_ / (504 / (8 * W)) * (504 / (8 * W)) + r.at_ % (504 / (8 * W)) = r.at_ := by omega
    have eg : (r.load p (r.at_ / (504 / (8 * W)))).2.1.ins.getD (r.at_ % (504 / (8 * W))) [] = rs.getD r.at_ [] := by rw [l4, pageR_get hm, hat]
    rw [eg]
    exact ⟨by first | trivial | rfl, l2, ⟨l3.b, l3.rows, by show r.at_ + 1 ≤ _; omega, l3.page, l3.cols⟩, by first | trivial | rfl, l6, l7⟩
  · unfold RR.next
    rw [if_neg hrdy, if_pos (by rw [hd.rows]; exact ha)]

/-! ### Where a row is sought -/

theorem Rise.mono (hr : Rise W rs) : ∀ {i j : Nat}, i < j → j < rs.length → cmpL (rs.getD i []) (rs.getD j []) < 0
  | i, 0, h, _ => by omega
  | i, j + 1, h, hj => by
    rcases Nat.lt_or_ge i j with q | q
    · exact cmpL_trans (hr.mono q (by omega)) (hr.up j hj)
    · have : i = j := by omega
      subst this; exact hr.up i hj
theorem Rise.down (hr : Rise W rs) (ll : List Int) : Down ll rs := fun i j hij hj h => by
  rcases Nat.lt_or_ge i j with q | q
  · exact cmpL_trans (hr.mono q hj) h
  · have : i = j := by omega
    subst this; exact h
theorem below_le (ll : List Int) (ls : List (List Int)) : below ll ls ≤ ls.length := (List.takeWhile_sublist _).length_le
theorem below_iff {ll : List Int} : ∀ {ls : List (List Int)}, Down ll ls → ∀ {i : Nat}, i < ls.length → (cmpL (ls.getD i []) ll < 0 ↔ i < below ll ls)
  | [], _, i, h => by simp at h
  | a :: ls, hd, i, h => by
    have hd' : Down ll ls := fun x y h1 h2 h3 => hd (x + 1) (y + 1) (by omega) (by simpa using h2) h3
    unfold below
    rw [List.takeWhile_cons]
    by_cases ha : cmpL a ll < 0
    · rw [if_pos (by simpa using ha), List.length_cons]
      cases i with
      | zero => exact ⟨fun _ => by omega, fun _ => ha⟩
      | succ i =>
        have := @below_iff ll ls hd' i (by simpa using h)
        unfold below at this
        show cmpL (ls.getD i []) ll < 0 ↔ _
        rw [this]; omega
    · rw [if_neg (by simpa using ha)]
      refine ⟨fun q => absurd (hd 0 i (Nat.zero_le _) h q) ha, fun q => by simp at q⟩

/-- The page on which a search should end. -/
def pageT (ll : List Int) (rs : List (List Int)) (room : Nat) : Nat := if below ll rs = rs.length then pagesN rs.length room else below ll rs / room
theorem last_iff (hr : Rise W rs) (ll : List Int) {room j : Nat} (h3 : 1 ≤ room) (hj : j < pagesN rs.length room) : cmpL (lastL (pageR rs room j)) ll < 0 ↔ j < pageT ll rs room := by
  have hjl := pagesN_lt h3 hj
  have hlen := pageR_len (rs := rs) (room := room) (j := j)
  have e : lastL (pageR rs room j) = rs.getD (j * room + ((pageR rs room j).length - 1)) [] := by
    unfold lastL; exact pageR_get (by omega)
  rw [e, below_iff (hr.down ll) (by omega)]
  unfold pageT
  have hle := below_le ll rs
  split
  · rename_i hb
    rw [hb]; omega
  · rename_i hb
    rw [← Nat.add_one_le_iff (n := j), Nat.le_div_iff_mul_le h3, Nat.add_mul]
    omega

theorem Ran.srch (h1 : 1 ≤ W) (h2 : W ≤ 16) (hr : Rise W rs) (hs : n.size ≤ 9223372036854775807) (hq : q ≤ 1048576) (hqN : 1 + pagesN rs.length (504 / (8 * W)) ≤ q) (ll : List Int) : ∀ (f i j : Nat) (p : Pl) (r : RR), Ran p n W (504 / (8 * W)) rs q → RdOn r n W (504 / (8 * W)) rs → 0 ≤ p.next → p.next + f < 1099511627776 →
    i ≤ pageT ll rs (504 / (8 * W)) → pageT ll rs (504 / (8 * W)) ≤ j → j ≤ pagesN rs.length (504 / (8 * W)) → j - i ≤ f →
    (RR.srch ll f i j p r).2.2 = (pageT ll rs (504 / (8 * W)), 0) ∧ Ran (RR.srch ll f i j p r).1 n W (504 / (8 * W)) rs q ∧ RdOn (RR.srch ll f i j p r).2.1 n W (504 / (8 * W)) rs ∧ p.next ≤ (RR.srch ll f i j p r).1.next ∧ (RR.srch ll f i j p r).1.next ≤ p.next + f
  | 0, i, j, p, r, hp, hd, h0, hnx, hi, hj, hjN, hf => by
    have : i = pageT ll rs (504 / (8 * W)) := by omega
    unfold RR.srch
    exact ⟨by rw [← this], hp, hd, Int.le_refl _, by show p.next ≤ p.next + 0; omega⟩
  | f + 1, i, j, p, r, hp, hd, h0, hnx, hi, hj, hjN, hf => by
    have hr3 := (roomL_width h1 h2).2.1
    unfold RR.srch
    by_cases hlt : i < j
    · rw [if_pos hlt]
      have hm : (i + j) / 2 < pagesN rs.length (504 / (8 * W)) := by omega
      obtain ⟨l1, l2, l3, l4, l5, l6, l7⟩ := hp.load hd h1 h2 hr hs hq hqN h0 (by omega) hm
      have hl := last_iff hr ll (room := 504 / (8 * W)) (by omega) hm
      rw [if_neg (by rw [l1]; simp), l4]
      by_cases hc : cmpL (lastL (pageR rs (504 / (8 * W)) ((i + j) / 2))) ll < 0
      · rw [if_pos hc]
        have := hl.1 hc
        obtain ⟨a1, a2, a3, a4, a5⟩ := Ran.srch h1 h2 hr hs hq hqN ll f ((i + j) / 2 + 1) j (r.load p ((i + j) / 2)).1 (r.load p ((i + j) / 2)).2.1 l2 l3 (by omega) (by omega) (by omega) hj hjN (by omega)
        exact ⟨a1, a2, a3, by omega, by omega⟩
      · rw [if_neg hc]
        have : ¬ (i + j) / 2 < pageT ll rs (504 / (8 * W)) := fun q => hc (hl.2 q)
        obtain ⟨a1, a2, a3, a4, a5⟩ := Ran.srch h1 h2 hr hs hq hqN ll f i ((i + j) / 2) (r.load p ((i + j) / 2)).1 (r.load p ((i + j) / 2)).2.1 l2 l3 (by omega) (by omega) hi (by omega) (by omega) (by omega)
        exact ⟨a1, a2, a3, by omega, by omega⟩
    · rw [if_neg hlt]
      have : i = pageT ll rs (504 / (8 * W)) := by omega
      exact ⟨by rw [← this], hp, hd, Int.le_refl _, by show p.next ≤ p.next + ((f + 1 : Nat) : Int); omega⟩

/-- A row is sought. -/
theorem Ran.seek (h : Ran p n W (504 / (8 * W)) rs q) (hd : RdOn r n W (504 / (8 * W)) rs) (h1 : 1 ≤ W) (h2 : W ≤ 16) (hr : Rise W rs) (hs : n.size ≤ 9223372036854775807) (hq : q ≤ 1048576) (hqN : 1 + pagesN rs.length (504 / (8 * W)) ≤ q)
    (h0 : 0 ≤ p.next) (hnx : p.next + rs.length < 1099511600000) {ll : List Int} (hll : ll.length ≤ W) :
    (r.seek p ll).2.2 = 0 ∧ Ran (r.seek p ll).1 n W (504 / (8 * W)) rs q ∧ RdOn (r.seek p ll).2.1 n W (504 / (8 * W)) rs ∧ (r.seek p ll).2.1.at_ = below ll rs ∧ p.next ≤ (r.seek p ll).1.next ∧ (r.seek p ll).1.next ≤ p.next + rs.length + 1 ∧
    (r.find p ll).2.2 = (pageT ll rs (504 / (8 * W)), 0) ∧ p.next ≤ (r.find p ll).1.next ∧ (r.find p ll).1.next ≤ p.next + rs.length ∧ (pageT ll rs (504 / (8 * W)) ≠ pagesN rs.length (504 / (8 * W)) → Down ll ((r.find p ll).2.1.load (r.find p ll).1 (r.find p ll).2.2.1).2.1.ins) := by
  have hrdy : ¬ r.b.ready ≠ 0 := by rw [hd.b]; simp [Rb.ready]
  have hrm := hd.room h1 h2
  have hr3 := (roomL_width h1 h2).2.1
  have hble := below_le ll rs
  have hNle := pagesN_le (n := rs.length) (show 0 < 504 / (8 * W) by omega)
  have hpt : pageT ll rs (504 / (8 * W)) ≤ pagesN rs.length (504 / (8 * W)) := by
    unfold pageT
    split
    · exact Nat.le_refl _
    · rename_i hb
      unfold pagesN
      exact Nat.div_le_div_right (by omega)
  have ef : r.find p ll = RR.srch ll (pagesN rs.length (504 / (8 * W))) 0 (pagesN rs.length (504 / (8 * W))) p r := by
    unfold RR.find; rw [hrm, hd.rows]
  obtain ⟨s1, s2, s3, s4, s5⟩ := Ran.srch h1 h2 hr hs hq hqN ll (pagesN rs.length (504 / (8 * W))) 0 (pagesN rs.length (504 / (8 * W))) p r h hd h0 (by omega) (Nat.zero_le _) hpt (Nat.le_refl _) (by omega)
  rw [← ef] at s1 s2 s3 s4 s5
  have e : r.seek p ll = (r.find p ll).2.1.goto (r.find p ll).1 ll (pageT ll rs (504 / (8 * W))) := by
    unfold RR.seek
    rw [if_neg hrdy, if_neg (by rw [hd.b]; simp only; omega), s1, if_neg (by simp)]
  rw [e, s1]
  have hroom := s3.room h1 h2
  generalize (r.find p ll).1 = p3 at *
  generalize (r.find p ll).2.1 = r3 at *
  have hdn : ∀ j, Down ll (pageR rs (504 / (8 * W)) j) := fun j x y hxy hy hc => by
    rw [pageR_len] at hy
    rw [pageR_get (by omega)] at hc ⊢
    exact hr.down ll _ _ (by omega) (by omega) hc
  unfold RR.goto
  rw [s3.rows, hroom]
  by_cases hb : below ll rs = rs.length
  · have ept : pageT ll rs (504 / (8 * W)) = pagesN rs.length (504 / (8 * W)) := if_pos hb
    rw [if_pos ept]
    exact ⟨rfl, s2, ⟨s3.b, rfl, Nat.le_refl _, s3.page, s3.cols⟩, hb.symm, s4, by show p3.next ≤ _; omega, rfl, s4, by omega, fun q => absurd ept q⟩
  · have ept : pageT ll rs (504 / (8 * W)) = below ll rs / (504 / (8 * W)) := if_neg hb
    have hltB : below ll rs < rs.length := by omega
    have hlt : pageT ll rs (504 / (8 * W)) < pagesN rs.length (504 / (8 * W)) := by
      rw [ept]
      unfold pagesN
      rw [Nat.lt_iff_add_one_le, Nat.le_div_iff_mul_le (by omega), Nat.add_mul]
      have := Nat.div_mul_le_self (below ll rs) (504 / (8 * W))
      omega
    rw [if_neg (by omega)]
    obtain ⟨l1, l2, l3, l4, l5, l6, l7⟩ := s2.load s3 h1 h2 hr hs hq hqN (by omega) (by omega) hlt
    rw [if_neg (by rw [l1]; simp)]
    have hbl : pageT ll rs (504 / (8 * W)) * (504 / (8 * W)) + below ll (pageR rs (504 / (8 * W)) (pageT ll rs (504 / (8 * W)))) = below ll rs := by
      have hm := Nat.mod_lt (below ll rs) (show 0 < 504 / (8 * W) by omega)
      have hdm := Nat.div_add_mod (below ll rs) (504 / (8 * W))
      have hmc : (504 / (8 * W)) * (below ll rs / (504 / (8 * W))) = below ll rs / (504 / (8 * W)) * (504 / (8 * W)) := Nat.mul_comm _ _
      have : below ll (pageR rs (504 / (8 * W)) (pageT ll rs (504 / (8 * W)))) = below ll rs % (504 / (8 * W)) := by
        rw [ept]
        refine below_eq (by rw [pageR_len]; omega) (fun x hx => ?_) (fun hx => ?_)
        · rw [pageR_get (by omega), below_iff (hr.down ll) (by omega)]; omega
        · rw [pageR_get hm, below_iff (hr.down ll) (by omega)]; omega
      rw [this, ept]; omega
    rw [l4, hbl]
    refine ⟨rfl, l2, ⟨l3.b, l3.rows, by show below ll rs ≤ _; omega, l3.page, l3.cols⟩, rfl, ?_, ?_, rfl, s4, by omega, fun _ => hdn _⟩
    · show p.next ≤ (r3.load p3 (pageT ll rs (504 / (8 * W)))).1.next; omega
    · show (r3.load p3 (pageT ll rs (504 / (8 * W)))).1.next ≤ _; omega
end
end Go.Proofs.YtbgpkpbejldlcaaGreatDoor

/-
  Runs: calls in a row; a run of two rows (works).
-/
namespace Go.Proofs.YtbgpkpbejldlcaaGreatDoor
open Go.MapKept

section
variable {s : Pl} {w : RW}
theorem Pl.leave_d (r : Pl × Int) (h : Int) : (Pl.leave r h).1.d = r.1.d := by
  unfold Pl.leave; split
  · exact Pl.unpin_d _ _
  · rfl
theorem Pl.leave_next (r : Pl × Int) (h : Int) : (Pl.leave r h).1.next = r.1.next := by
  unfold Pl.leave; split
  · exact Pl.unpin_next _ _
  · rfl
theorem Pl.more_bounds (n : ByteArray) (k : UInt8) (b : List UInt8) (h0 : 0 ≤ s.next) (h1 : s.next < 1099511627776) : (s.more n k b).1.d.logs ≤ s.d.logs + 2 ∧ (s.more n k b).1.next ≤ s.next + 1 := by
  have a := s.fresh_logs n
  have c := s.fresh_next (n := n) h0 h1
  unfold Pl.more
  split
  · exact ⟨a, c⟩
  · rw [Pl.leave_d, Pl.leave_next]
    split
    · exact ⟨a, c⟩
    · rw [Pl.set_d, Pl.set_next]; exact ⟨a, c⟩
theorem RW.out_bounds (h0 : 0 ≤ s.next) (h1 : s.next < 1099511627776) : (w.out s).1.d.logs ≤ s.d.logs + 2 ∧ (w.out s).1.next ≤ s.next + 1 := by
  have := Pl.more_bounds (s := s) w.b.name 1 w.wait h0 h1
  unfold RW.out
  split
  · exact ⟨by show s.d.logs ≤ _; omega, by show s.next ≤ _; omega⟩
  · exact this
theorem RW.add_bounds {l : List Int} (h0 : 0 ≤ s.next) (h1 : s.next < 1099511627776) : (w.add s l).1.d.logs ≤ s.d.logs + 2 ∧ (w.add s l).1.next ≤ s.next + 1 := by
  have := RW.out_bounds (w := w.push l) h0 h1
  unfold RW.add
  split
  · exact ⟨by show s.d.logs ≤ _; omega, by show s.next ≤ _; omega⟩
  · split
    · exact ⟨by show s.d.logs ≤ _; omega, by show s.next ≤ _; omega⟩
    · split
      · exact ⟨by show s.d.logs ≤ _; omega, by show s.next ≤ _; omega⟩
      · split
        · exact ⟨by show s.d.logs ≤ _; omega, by show s.next ≤ _; omega⟩
        · exact this
theorem rnMake_bounds {n : ByteArray} {W : Int} (h0 : 0 ≤ s.next) (h1 : s.next < 1099511627776) : (rnMake s n W).1.d.logs ≤ s.d.logs + 2 ∧ (rnMake s n W).1.next ≤ s.next + 1 := by
  have a := s.d.create_logs n
  have b := Pl.more_bounds (s := s.setD (s.d.create n).1) n 0 [] h0 h1
  have e1 : (s.setD (s.d.create n).1).d.logs = (s.d.create n).1.logs := rfl
  have e2 : (s.setD (s.d.create n).1).next = s.next := rfl
  rw [e1, e2] at b
  unfold rnMake
  split
  · exact ⟨by show s.d.logs ≤ _; omega, by show s.next ≤ _; omega⟩
  · split
    · exact ⟨by show (s.d.create n).1.logs ≤ _; omega, by show s.next ≤ _; omega⟩
    · split
      · exact ⟨by have := b.1; simp only; omega, b.2⟩
      · exact ⟨by have := b.1; simp only; omega, b.2⟩
end

/-- A pool and a writer that were made since 'H'. -/
def TW (H A : Heap) (k p dp : Nat) (s : Pl) (w : RW) : Prop := Ext H A ∧ ∃ F sw sl, PoolAt F A p dp s ∧ WrB A k p w sw sl ∧ (∀ b, F b → ¬ wrO k sw sl b) ∧ (∀ b, F b → H.size ≤ b) ∧ ∀ b, wrO k sw sl b → H.size ≤ b

section
variable {H A : Heap} {k p dp : Nat} {s : Pl} {w : RW} {n : ByteArray} {W : Int}
theorem TW.ext {B : Heap} (t : TW H A k p dp s w) (e : Ext A B) : TW H B k p dp s w := by
  obtain ⟨h1, F, sw, sl, h2, h3, h4, h5, h6⟩ := t
  exact ⟨h1.trans e, F, sw, sl, h2.ext e, h3.mod e fun _ _ => id, h4, h5, h6⟩
theorem TW.pool (t : TW H A k p dp s w) : TP H A p dp s := by
  obtain ⟨h1, F, sw, sl, h2, h3, h4, h5, h6⟩ := t
  exact ⟨h1, F, h2, h5⟩
theorem TP.make {K : (Option Addr × Int) → Heap → Prop} {o : Option RW} {e : Int} (t : TP H A p dp s) (hg : Gl H) (hn : n.size ≤ 9223372036854775807) (hlogs : s.d.logs < 68719470000) (hnx : s.next < 1099511627776) (h0 : 0 ≤ s.next) (hfit : s.Fit)
    (hr : (rnMake s n W).2 = (o, e)) (hK0 : o = none → ∀ B, TP H B p dp (rnMake s n W).1 → K (none, e) B) (hK1 : ∀ w, o = some w → ∀ k B, TW H B k p dp (rnMake s n W).1 w → K (at0 k, e) B) : runs_Make.sp (at0 p) n W A K := by
  have hgA := t.gl hg
  obtain ⟨h1, F, h2, h3⟩ := t
  have z := h1.size
  refine rmake_ok hgA h2 hn hlogs hnx h0 hfit (fun F' B q1 S q2 => ?_) (fun F' B k w q1 S q2 q3 q4 q5 => ?_)
  · rw [hr] at q2 ⊢
    refine hK0 q2 B ⟨⟨by have := S.mod.size; omega, fun b hb _ => (S.mod.same b (by omega) fun q => by have := h3 b q; omega).trans (h1.same b hb id)⟩, F', q1, fun b hb => ?_⟩
    rcases S.own b hb with q | q
    · exact h3 b q
    · omega
  · rw [hr] at q2 ⊢
    refine hK1 w q2 k B ⟨⟨by have := S.mod.size; omega, fun b hb _ => (S.mod.same b (by omega) fun q => by have := h3 b q; omega).trans (h1.same b hb id)⟩, F', nilS, nilS, q1, q3, ?_, fun b hb => ?_, ?_⟩
    · rintro b hb (q | q | q)
      · exact q5 (q ▸ hb)
      · exact nilS_own b q
      · exact nilS_own b q
    · rcases S.own b hb with q | q
      · exact h3 b q
      · omega
    · rintro b (q | q | q)
      · omega
      · exact absurd q (nilS_own b)
      · exact absurd q (nilS_own b)
theorem TW.go {A0 B : Heap} {F F' : Nat → Prop} {sw sl sw' sl' : Sl} {s' : Pl} {w' : RW} (h1 : Ext H A0) (e0 : Ext A0 A) (h5 : ∀ b, F b → H.size ≤ b) (h6 : ∀ b, wrO k sw sl b → H.size ≤ b)
    (S : Step (fun b => F b ∨ wrO k sw sl b) (fun b => F' b ∨ wrO k sw' sl' b) A B) (q1 : PoolAt F' B p dp s') (q2 : WrB B k p w' sw' sl') (q3 : ∀ b, F' b → ¬ wrO k sw' sl' b) : TW H B k p dp s' w' := by
  have z0 := h1.size
  have z1 := e0.size
  have z2 := S.mod.size
  have own : ∀ b, F' b ∨ wrO k sw' sl' b → H.size ≤ b := fun b hb => by
    rcases S.own b hb with (q | q) | q
    · exact h5 b q
    · exact h6 b q
    · omega
  refine ⟨⟨by omega, fun b hb _ => (S.mod.same b (by omega) fun q => ?_).trans ((e0.same b (by omega) id).trans (h1.same b hb id))⟩, F', sw', sl', q1, q2, q3, fun b hb => own b (.inl hb), fun b hb => own b (.inr hb)⟩
  rcases q with q | q
  · have := h5 b q; omega
  · have := h6 b q; omega
theorem TW.add {A0 : Heap} {l : Sl} {ll : List Int} {e : Int} {K : Int → Heap → Prop} (t : TW H A0 k p dp s w) (e0 : Ext A0 A) (hg : Gl H) (hl : Ints .u64 A l ll) (hp : ∀ ad, l.a = some ad → A0.size ≤ ad.block ∨ ad.block < H.size)
    (hlen : ll.length ≤ 1000000) (hwl : w.wait.length ≤ 1000000) (hwr : w.rows < 1099511627776) (hwn : w.n < 1099511627776) (hn : w.b.name.size ≤ 9223372036854775807) (hlogs : s.d.logs < 68719470000) (hnx : s.next < 1099511627776) (hfit : s.Fit)
    (hr : (w.add s ll).2.2 = e) (hK : ∀ B, TW H B k p dp (w.add s ll).1 (w.add s ll).2.1 → K e B) : runs_Writer_Add.sp (at0 k) l A K := by
  obtain ⟨h1, F, sw, sl, h2, h3, h4, h5, h6⟩ := t
  have hgl := hg.lt
  have z0 := h1.size
  have z1 := e0.size
  subst hr
  refine radd_ok ((hg.mod h1 id).mod e0 id) (fun q => by have := h6 _ q; omega) (h3.mod e0 fun _ _ => id) (h2.ext e0) h4 hl (fun ad ha q => ?_) hlen hwl hwr hwn hn hlogs hnx (by have := h2.wf.tick; omega) hfit fun F' sw' sl' B q1 q2 q3 S => ?_
  · have := h6 _ q
    have := h3.lt _ q
    rcases hp ad ha with u | u <;> omega
  · exact hK B (TW.go h1 e0 h5 h6 S q1 q2 q3)
theorem TW.close {e : Int} {K : (Int × Int) → Heap → Prop} (t : TW H A k p dp s w) (hg : Gl H) (hwr : w.rows < 1099511627776) (hwd : 0 ≤ w.b.width) (hn : w.b.name.size ≤ 9223372036854775807) (hlogs : s.d.logs < 68719400000) (hnx : s.next < 1099511600000) (hfit : s.Fit)
    {m : Nat} (hr : (w.close s).2.2 = (m, e)) (hK : ∀ B, TW H B k p dp (w.close s).1 (w.close s).2.1 → K ((m : Int), e) B) : runs_Writer_Close.sp (at0 k) A K := by
  obtain ⟨h1, F, sw, sl, h2, h3, h4, h5, h6⟩ := t
  have hgl := hg.lt
  have h0 : 0 ≤ s.next := by have := h2.wf.tick; omega
  have ob := RW.out_bounds (s := s) (w := w) h0 (by omega)
  refine rclose_ok (hg.mod h1 id) (fun q => by have := h6 _ q; omega) h3 h2 h4 hwr hwd hn (by omega) (by omega) h0 hfit (by omega) (by omega) (fun x hd => ?_) fun F' sw' B q1 q2 q3 S => ?_
  · rw [Pl.leave_d, Pl.set_d]
    have := (w.out s).1.pin_logs w.b.name 0
    omega
  · rw [hr]
    exact hK B (TW.go h1 (.refl _ _) h5 h6 S q1 q2 q3)

/-- A pool and a reader that were made since 'H', beside the blocks 'X'. -/
def TR (H A : Heap) (X : Nat → Prop) (k p dp : Nat) (s : Pl) (r : RR) : Prop :=
  H.size ≤ k ∧ ∃ F si rs, RedB H (fun b => H.size ≤ b) (fun b => H.size ≤ b) k p dp si rs F A s r ∧ ∀ b, X b → ¬ F b ∧ ¬ rdO k si rs b ∧ b < A.size
variable {X : Nat → Prop} {r : RR}
theorem TR.at (t : TR H A X k p dp s r) : Ext H A := by
  obtain ⟨h0, F, si, rs, h1, _⟩ := t
  exact h1.mod.ext fun b hb => by rcases hb with q | q <;> omega
theorem TR.gl (t : TR H A X k p dp s r) (hg : Gl H) : Gl A := hg.mod t.at id
theorem TR.ext {B : Heap} (t : TR H A X k p dp s r) (e : Ext A B) : TR H B X k p dp s r := by
  obtain ⟨h0, F, si, rs, h1, h2⟩ := t
  exact ⟨h0, F, si, rs, h1.ext e, fun b hb => ⟨(h2 b hb).1, (h2 b hb).2.1, Nat.lt_of_lt_of_le (h2 b hb).2.2 e.size⟩⟩
theorem TR.pool (t : TR H A X k p dp s r) : TP H A p dp s := by
  have e := t.at
  obtain ⟨h0, F, si, rs, h1, h2⟩ := t
  exact ⟨e, F, h1.pool, fun b hb => (h1.own b hb).elim id id⟩
/-- More blocks stand beside. -/
theorem TR.more {X' : Nat → Prop} (t : TR H A X k p dp s r) {B : Heap} (e : Ext A B) (hx : ∀ b, X' b → X b ∨ (A.size ≤ b ∧ b < B.size)) : TR H B X' k p dp s r := by
  obtain ⟨h0, F, si, rs, h1, h2⟩ := t
  refine ⟨h0, F, si, rs, h1.ext e, fun b hb => ?_⟩
  rcases hx b hb with q | ⟨q1, q2⟩
  · exact ⟨(h2 b q).1, (h2 b q).2.1, Nat.lt_of_lt_of_le (h2 b q).2.2 e.size⟩
  · exact ⟨fun u => by have := h1.pool.lt b u; omega, fun u => by have := h1.rd.lt b u; omega, q2⟩
theorem TR.goes {B : Heap} {F F' : Nat → Prop} {si si' : Sl} {rs rs' : List Sl} {s' : Pl} {r' : RR} (h0 : H.size ≤ k) (h1 : RedB H (fun b => H.size ≤ b) (fun b => H.size ≤ b) k p dp si rs F A s r) (h2 : ∀ b, X b → ¬ F b ∧ ¬ rdO k si rs b ∧ b < A.size)
    (g : RedB A F (rdO k si rs) k p dp si' rs' F' B s' r') : TR H B X k p dp s' r' ∧ ∀ b, X b → B[b]? = A[b]? := by
  refine ⟨⟨h0, F', si', rs', h1.trans g, fun b hb => ?_⟩, fun b hb => ?_⟩
  · obtain ⟨x1, x2, x3⟩ := h2 b hb
    refine ⟨fun q => ?_, fun q => ?_, Nat.lt_of_lt_of_le x3 g.mod.size⟩
    · rcases g.own b q with u | u
      · exact x1 u
      · omega
    · rcases g.own2 b q with u | u
      · exact x2 u
      · omega
  · obtain ⟨x1, x2, x3⟩ := h2 b hb
    refine g.mod.same b x3 fun q => ?_
    rcases q with q | q
    · exact x1 q
    · exact x2 (.inl q)
theorem TP.open {K : (Option Addr × Int) → Heap → Prop} {o : Option RR} {e : Int} (t : TP H A p dp s) (hg : Gl H) (hn : n.size ≤ 9223372036854775807) (hlogs : s.d.logs < 68719470000) (hnx : s.next < 1099511627776) (hlen : ((s.look n 0).1.d.len n).1 < 4611686018427387904)
    (hr : (rnOpen s n W).2 = (o, e)) (hK0 : o = none → ∀ B, TP H B p dp (rnOpen s n W).1 → K (none, e) B) (hK1 : ∀ r, o = some r → ∀ k B, TR H B (fun _ => False) k p dp (rnOpen s n W).1 r → K (at0 k, e) B) : runs_Open.sp (at0 p) n W A K := by
  have hgA := t.gl hg
  obtain ⟨h1, F, h2, h3⟩ := t
  have z := h1.size
  refine ropen_ok hgA h2 hn hlogs hnx (by have := h2.wf.tick; omega) (fun m hm => by omega) (fun F' B q1 S q2 => ?_) (fun F' B k r q1 S q2 q3 q4 q5 => ?_)
  · rw [hr] at q2 ⊢
    refine hK0 q2 B ⟨⟨by have := S.mod.size; omega, fun b hb _ => (S.mod.same b (by omega) fun q => by have := h3 b q; omega).trans (h1.same b hb id)⟩, F', q1, fun b hb => ?_⟩
    rcases S.own b hb with q | q
    · exact h3 b q
    · omega
  · rw [hr] at q2 ⊢
    have own : ∀ b, F' b → H.size ≤ b := fun b hb => by
      rcases S.own b hb with q | q
      · exact h3 b q
      · omega
    have rdk : ∀ b, rdO k nilS [] b → b = k := by
      rintro b (q | q | ⟨x, hx, _⟩)
      · exact q
      · exact absurd q (nilS_own b)
      · cases hx
    refine hK1 r q2 k B ⟨by omega, F', nilS, [], ⟨q1, q3, fun b hb q => q5 ((rdk b q) ▸ hb), ⟨by have := S.mod.size; omega, fun b hb hnb => (S.mod.same b (by omega) fun q => hnb (.inl (h3 b q))).trans (h1.same b hb id)⟩, fun b hb => .inl (own b hb), fun b hb => .inr (by rw [rdk b hb]; omega)⟩, fun b hb => hb.elim⟩
theorem TR.next {K : (Sl × Bool × Int) → Heap → Prop} {e : Int} {row : List Int} {ok : Bool} (t : TR H A X k p dp s r) (hg : Gl H) (hok : r.Ok) (hn : r.b.name.size ≤ 9223372036854775807) (hlogs : s.d.logs < 68719470000) (hnx : s.next < 1099511627776)
    (hr : (r.next s).2.2 = (row, ok, e)) (hK : ∀ l B, TR H B (fun b => X b ∨ ownB l b) k p dp (r.next s).1 (r.next s).2.1 → Ints .u64 B l row → (∀ b, X b → B[b]? = A[b]?) → K (l, ok, e) B) : runs_Reader_Next.sp (at0 k) A K := by
  have hgA := t.gl hg
  obtain ⟨h0, F, si, rs, h1, h2⟩ := t
  have hgl := hg.lt
  refine rnext_ok hgA h1.pool.glob (by omega) h1.start hok hn hlogs hnx (by have := h1.pool.wf.tick; omega) fun F' si' rs' B l g o f => ?_
  obtain ⟨⟨w0, F2, si2, rs2, w1, w2⟩, w3⟩ := TR.goes h0 h1 h2 g
  rw [hr] at o ⊢
  refine hK l B ⟨h0, F', si', rs', h1.trans g, fun b hb => ?_⟩ o.ints w3
  rcases hb with q | q
  · obtain ⟨x1, x2, x3⟩ := h2 b q
    refine ⟨fun q => ?_, fun q => ?_, Nat.lt_of_lt_of_le x3 g.mod.size⟩
    · rcases g.own b q with u | u
      · exact x1 u
      · omega
    · rcases g.own2 b q with u | u
      · exact x2 u
      · omega
  · exact ⟨(f b q).2.1, (f b q).2.2, o.lt b q⟩
theorem TR.seek {A0 : Heap} {low : Sl} {ll : List Int} {K : Int → Heap → Prop} {e : Int} (t : TR H A0 X k p dp s r) (e0 : Ext A0 A) (hg : Gl H) (hok : r.Ok) (hl : Ints .u64 A low ll) (hp : ∀ ad, low.a = some ad → A0.size ≤ ad.block ∨ ad.block < H.size) (hlow : ll.length ≤ 1000000)
    (hn : r.b.name.size ≤ 9223372036854775807) (hlogs : s.d.logs + 528482304 < 68719460000) (hnx : s.next + 528482304 < 1099511620000)
    (hfb : (r.find s ll).1.d.logs < 68719470000 ∧ (r.find s ll).1.next < 1099511627776)
    (hdown : (r.find s ll).2.2.2 = 0 → (r.find s ll).2.2.1 ≠ pagesN r.rows r.b.room → ((r.find s ll).2.1.load (r.find s ll).1 (r.find s ll).2.2.1).2.2 = 0 → Down ll ((r.find s ll).2.1.load (r.find s ll).1 (r.find s ll).2.2.1).2.1.ins)
    (hr : (r.seek s ll).2.2 = e) (hK : ∀ B, TR H B X k p dp (r.seek s ll).1 (r.seek s ll).2.1 → K e B) : runs_Reader_Seek.sp (at0 k) low A K := by
  have t2 := t.ext e0
  have hgA := t2.gl hg
  have z0 := t.at.size
  obtain ⟨h0, F, si, rs, h1, h2⟩ := t
  have hgl := hg.lt
  have h1' := h1.ext e0
  have h2' : ∀ b, X b → ¬ F b ∧ ¬ rdO k si rs b ∧ b < A.size := fun b hb => ⟨(h2 b hb).1, (h2 b hb).2.1, Nat.lt_of_lt_of_le (h2 b hb).2.2 e0.size⟩
  have hF : ∀ b, F b → H.size ≤ b ∧ b < A0.size := fun b hb => ⟨(h1.own b hb).elim id id, h1.pool.lt b hb⟩
  have hkk : k < A0.size := obj_lt h1.rd.row
  subst hr
  refine rseek_ok hgA h1.pool.glob (by omega) h1'.start hok hl (fun ad ha _ => ⟨fun q => ?_, fun q => ?_⟩) hlow hn hlogs hnx hfb hdown fun F' si' rs' B g => ?_
  · have := hF _ q; rcases hp ad ha with u | u <;> omega
  · rcases hp ad ha with u | u <;> omega
  · exact hK B (TR.goes h0 h1' h2' g).1
end
end Go.Proofs.YtbgpkpbejldlcaaGreatDoor
