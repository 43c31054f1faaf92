/-
  Rows: the short calls; the statements on orders and columns.
-/
import Derived.Test.YtndnjggcpdkbiaaRwe
namespace Go.Proofs.Ytndnjggcpdkbiaa

theorem newC_ints {k : IntKind} {H : Heap} {t : TypeId} (l : List Int) {K : Addr → Heap → Prop} (hK : ∀ p H', H'.size = H.size + 1 → p.block = H.size → (∀ c, Ints k H' ⟨some p, l.length, c⟩ l) → Ext H H' → K p H') :
    newC H (l.map (Value.int k)).toArray t K := by
  refine hK _ _ (by simp) rfl (fun c => ⟨rfl, ?_⟩) (Mod.push _ _ _)
  intro i v hv
  refine ⟨_, rfl, ?_⟩
  rw [add_lit, Nat.zero_add]
  exact hCell_of (c := (l.map (Value.int k)).toArray) (t := t) (fz := (0, 0)) (by simp) (by simpa using hv)

theorem rows_get {H : Heap} {s : Sl} {ls : List (List Int)} (h : Rows H s ls) {i : Int} {j : Nat} (e : i = (j : Int)) (hj : j < ls.length) {K : Addr → Sl → Prop} (hK : ∀ ad r, s.a = some ad → Ints .u64 H r (ls[j]'hj) → K ad r) :
    optK s.a fun a => (0 ≤ i ∧ i < (s.n : Int)) ∧ ld cSl H (a.add (i.toNat * 1)) fun x => K a x := by
  subst e
  exact h.ld hj hK

theorem byteL_range (n : Int) (k : Nat) : 0 ≤ byteL n k ∧ byteL n k < 256 := by
  unfold byteL
  rw [IntKind.wrap_u8]; omega
theorem putL_range (l : List Int) : ∀ x ∈ putL l, 0 ≤ x ∧ x < 256 := by
  intro x hx
  unfold putL at hx
  split at hx
  · simp at hx; omega
  · obtain ⟨n, _, hn⟩ := List.mem_flatMap.1 hx
    obtain ⟨k, _, hk⟩ := List.mem_map.1 hn
    rw [← hk]; exact byteL_range n k

theorem br_true (A B : Prop) : br true A B = A := rfl
theorem br_false (A B : Prop) : br false A B = B := rfl

theorem put258 : getL (putL [258]) 1 = [[258]] := by decide +kernel
theorem put258E : getE (putL [258]) 1 = 0 := by decide +kernel
theorem turn567 : turnL [5, 6, 7] [2, 0] = [7, 5] := by decide +kernel
theorem turn567E : turnE [5, 6, 7] [2, 0] = 0 := by decide +kernel
theorem room2 : roomL 2 = 31 := by decide +kernel

theorem works_ok {H : Heap} {K : Bool → Heap → Prop} (hK : ∀ H', Ext H H' → K true H') : fathomlaw06_works.sp H K := by
  refine fathomlaw06_works.of ?_
  unfold fathomlaw06_works.vc
  refine newC_ints (k := .u64) [258] fun p H1 s1 b1 i1 e1 => ?_
  refine rowPut_ok (i1 1) (by decide) fun r H2 o2 e2 => ?_
  refine rowGet_ok o2.ints o2.cap (putL_range _) (by decide +kernel) fun rows rs H3 r3 e3 => ?_
  rw [put258] at r3
  rw [put258E]
  refine newC_ints (k := .u64) [5, 6, 7] fun p1 H4 s4 b4 i4 e4 => ?_
  refine newC_ints (k := .i64) [2, 0] fun p2 H5 s5 b5 i5 e5 => ?_
  refine rowTurn_ok ((i4 3).ext e5) (i5 2) (by decide) fun t H6 o6 e6 => ?_
  rw [turn567] at o6
  rw [turn567E]
  have r6 := ((r3.ext e4).ext e5).ext e6
  have hn := r6.n
  have h1 : (((0 : Int) == 0) && ((0 : Int) == 0) && ((rows.n : Int) == 1)) = true := by rw [hn]; decide
  rw [h1, br_true]
  have e06 : Ext H H6 := ((((e1.trans e2).trans e3).trans e4).trans e5).trans e6
  refine rows_get r6.rows (i := 0) (j := 0) rfl (by decide) fun ad x q hx => ?_
  have hxn := hx.len
  have h2 : ((x.n : Int) == 1) = true := by rw [hxn]; decide
  rw [h2, br_true]
  refine rows_get r6.rows (i := 0) (j := 0) rfl (by decide) fun ad x q hx => ?_
  refine ints_get hx (i := 0) (j := 0) rfl (by decide) fun ad q => ?_
  refine br_mk (fun _ => ?_) (fun h => absurd h (by decide))
  refine newC_ints (k := .u64) [7, 5] fun p3 H7 s7 b7 i7 e7 => ?_
  refine SameRow_ok (o6.ext e7).ints (i7 2) (by decide) ?_
  refine br_mk (fun _ => ?_) (fun h => absurd h (by decide))
  refine newC_ints (k := .u64) [1] fun p4 H9 s9 b9 i9 e9 => ?_
  refine newC_ints (k := .u64) [1, 0] fun p5 H10 s10 b10 i10 e10 => ?_
  refine rowCmp_ok ((i9 1).ext e10) (i10 2) (by decide) ?_
  refine br_mk (fun _ => ?_) (fun h => absurd h (by decide))
  refine newC_ints (k := .u64) [1, 2] fun p6 H12 s12 b12 i12 e12 => ?_
  refine newC_ints (k := .u64) [1] fun p7 H13 s13 b13 i13 e13 => ?_
  refine rowBegins_ok ((i12 2).ext e13) (i13 1) (Nat.le_refl _) (by decide) ?_
  refine br_mk (fun _ => ?_) (fun h => absurd h (by decide))
  refine rowRoom_ok ?_
  rw [room2]
  exact hK _ (((((e06.trans e7).trans e9).trans e10).trans e12).trans e13)

theorem RowOrder_ok {a b : Sl} {la lb : List Int} {H : Heap} {K : Bool → Heap → Prop} (ha : Ints .u64 H a la) (hb : Ints .u64 H b lb) (hca : a.n ≤ a.c) (hK : ∀ H', Ext H H' → K true H') : fathomlaw06_RowOrder.sp a b H K := by
  refine fathomlaw06_RowOrder.of ?_
  unfold fathomlaw06_RowOrder.vc
  have an := ha.len
  have bn := hb.len
  refine br_mk (fun h => hK _ (.refl _ _)) (fun h => ?_)
  simp only [Bool.or_eq_false_iff, decide_eq_false_iff_not] at h
  refine Lent_ok ha (by omega) fun x H1 x1 e1 => ?_
  refine Lent_ok (hb.ext e1) (by omega) fun y H2 y2 e2 => ?_
  have e02 := e1.trans e2
  have x2 := x1.ext e2
  have a2 := ha.ext e02
  have b2 := hb.ext e02
  refine rowCmp_ok x2.ints y2.ints (by omega) ?_
  refine refCmp_ok a2 b2 (by omega) ?_
  refine br_mk (fun _ => ?_) (fun h => by simp at h)
  refine rowCmp_ok y2.ints x2.ints (by omega) ?_
  refine rowCmp_ok x2.ints y2.ints (by omega) ?_
  have hw : IntKind.i64.wrap (0 - cmpL la lb) = cmpL lb la := by
    rw [cmpL_swap la lb]
    rcases cmpL_cases la lb with q | q | q <;> rw [q] <;> decide
  rw [hw]
  refine br_mk (fun _ => ?_) (fun h => by simp at h)
  refine rowBegins_ok x2.ints y2.ints (by have := x2.cap; omega) (by omega) ?_
  refine refBegins_ok a2 b2 hca (by omega) ?_
  refine br_mk (fun _ => ?_) (fun h => by simp at h)
  refine Kept_ok x2 a2 (by omega) ?_
  refine br_mk (fun _ => ?_) (fun h => by simp at h)
  refine Kept_ok y2 b2 (by omega) ?_
  refine br_mk (fun _ => ?_) (fun h => by simp at h)
  exact works_ok fun H' e => hK H' (e02.trans e)

theorem RowTurns_ok {l cols : Sl} {ll lc : List Int} {H : Heap} {K : Bool → Heap → Prop} (hl : Ints .u64 H l ll) (hc : Ints .i64 H cols lc) (hK : ∀ H', Ext H H' → K true H') : fathomlaw06_RowTurns.sp l cols H K := by
  refine fathomlaw06_RowTurns.of ?_
  unfold fathomlaw06_RowTurns.vc
  have an := hl.len
  have bn := hc.len
  refine br_mk (fun h => hK _ (.refl _ _)) (fun h => ?_)
  simp only [Bool.or_eq_false_iff, decide_eq_false_iff_not] at h
  refine Lent_ok hl (by omega) fun x H1 x1 e1 => ?_
  refine rowTurn_ok x1.ints (hc.ext e1) (by omega) fun s H2 o2 e2 => ?_
  refine refTurn_ok ((hl.ext e1).ext e2) ((hc.ext e1).ext e2) (by omega) fun t H3 o3 e3 => ?_
  refine br_mk (fun _ => ?_) (fun h => by simp at h)
  have hlt : (turnL ll lc).length ≤ 1000 := by
    unfold turnL; split
    · simp; omega
    · simp
  refine SameRow_ok (o2.ext e3).ints o3.ints (by omega) ?_
  refine Spoil_ok (o2.ext e3) (by rw [o2.ints.len]; omega) (e2.trans e3).size fun H5 m5 => ?_
  rw [decide_eq_true rfl, br_true]
  have e13 : Ext H1 H3 := e2.trans e3
  have hm : Ext H1 H5 := (e13.mod (F := ownB s).trans m5).ext (fun b hb => (o2.block b hb).1)
  refine Kept_ok (x1.ext hm) ((hl.ext e1).ext hm) (by omega) ?_
  rw [br_true]
  exact works_ok fun H' e => hK H' ((e1.trans hm).trans e)

end Go.Proofs.Ytndnjggcpdkbiaa
