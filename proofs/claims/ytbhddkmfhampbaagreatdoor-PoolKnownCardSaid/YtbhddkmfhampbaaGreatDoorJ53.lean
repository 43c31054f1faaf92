/-
  PoolKnown: the law returns true; the table of the page's sum is laid as the program's text lays it. No condition beside that.
-/
import Derived.Test.YtbhddkmfhampbaaGreatDoorPkp
import Derived.Test.YtbhddkmfhampbaaGreatDoorFxt
import Derived.Test.YtbhddkmfhampbaaGreatDoorDlg
import Derived.Test.YtbhddkmfhampbaaGreatDoorDrc
import Derived.Test.YtbhddkmfhampbaaGreatDoorDkl
import Derived.Test.YtbhddkmfhampbaaGreatDoorJ49
import Derived.Test.YtbhddkmfhampbaaGreatDoorDpa
/-
  PoolPlays: both pools, call by call.
-/
namespace Go.Proofs.YtbhddkmfhampbaaGreatDoor
open Go.MapKept

/-- What stays where it is. -/
structure KeptQ (Q : Nat → Prop) (A B : Heap) : Prop where
  size : A.size ≤ B.size
  same : ∀ b, Q b → B[b]? = A[b]?
theorem KeptQ.refl (Q : Nat → Prop) (A : Heap) : KeptQ Q A A := ⟨Nat.le_refl _, fun _ _ => rfl⟩
theorem KeptQ.trans {Q : Nat → Prop} {A B C : Heap} (h : KeptQ Q A B) (k : KeptQ Q B C) : KeptQ Q A C := ⟨Nat.le_trans h.size k.size, fun b hb => (k.same b hb).trans (h.same b hb)⟩
theorem KeptQ.mono {Q Q' : Nat → Prop} {A B : Heap} (h : KeptQ Q A B) (hs : ∀ b, Q' b → Q b) : KeptQ Q' A B := ⟨h.size, fun b hb => h.same b (hs b hb)⟩

/-- Both pools, beside the blocks 'Q'. -/
def BP (Q : Nat → Prop) (A : Heap) (p dp m dm : Nat) (s1 s2 : Pl) : Prop :=
  ∃ F1 F2, PoolAt F1 A p dp s1 ∧ RPoolAt F2 A m dm s2 ∧ (∀ b, F1 b → ¬ F2 b) ∧ (∀ b, F1 b → ¬ Q b) ∧ (∀ b, F2 b → ¬ Q b) ∧ ∀ b, Q b → b < A.size

section
variable {Q : Nat → Prop} {A B : Heap} {p dp m dm : Nat} {s1 s2 : Pl}

theorem BP.left (t : BP Q A p dp m dm s1 s2) : ∃ F, PoolAt F A p dp s1 ∧ ∀ (s' : Pl) (F' : Nat → Prop) (B : Heap), PoolAt F' B p dp s' → Step F F' A B → BP Q B p dp m dm s' s2 ∧ KeptQ Q A B := by
  obtain ⟨F1, F2, h1, h2, dj, q1, q2, ql⟩ := t
  have l2 := h2.lt
  refine ⟨F1, h1, fun s' F' B h S => ⟨⟨F', F2, h, h2.keep fun b hb hl => S.mod.same b hl fun q => dj b q hb, fun b hb hb2 => ?_, fun b hb hq => ?_, q2, fun b hb => Nat.lt_of_lt_of_le (ql b hb) S.mod.size⟩, S.mod.size, fun b hb => S.mod.same b (ql b hb) fun q => q1 b q hb⟩⟩
  · rcases S.own b hb with q | q
    · exact dj b q hb2
    · have := l2 b hb2; omega
  · rcases S.own b hb with q | q
    · exact q1 b q hq
    · have := ql b hq; omega
theorem BP.right (t : BP Q A p dp m dm s1 s2) : ∃ F, RPoolAt F A m dm s2 ∧ (∀ b, F b → ¬ Q b) ∧ ∀ (s' : Pl) (F' : Nat → Prop) (B : Heap), RPoolAt F' B m dm s' → Step F F' A B → BP Q B p dp m dm s1 s' ∧ KeptQ Q A B := by
  obtain ⟨F1, F2, h1, h2, dj, q1, q2, ql⟩ := t
  have l1 := h1.lt
  refine ⟨F2, h2, q2, fun s' F' B h S => ⟨⟨F1, F', h1.keep fun b hb hl => S.mod.same b hl fun q => dj b hb q, h, fun b hb hb2 => ?_, q1, fun b hb hq => ?_, fun b hb => Nat.lt_of_lt_of_le (ql b hb) S.mod.size⟩, S.mod.size, fun b hb => S.mod.same b (ql b hb) fun q => q2 b q hb⟩⟩
  · rcases S.own b hb2 with q | q
    · exact dj b hb q
    · have := l1 b hb; omega
  · rcases S.own b hb with q | q
    · exact q2 b q hq
    · have := ql b hq; omega
theorem BP.mono {Q' : Nat → Prop} (t : BP Q A p dp m dm s1 s2) (h : ∀ b, Q' b → Q b) : BP Q' A p dp m dm s1 s2 := by
  obtain ⟨F1, F2, h1, h2, dj, q1, q2, ql⟩ := t
  exact ⟨F1, F2, h1, h2, dj, fun b hb q => q1 b hb (h b q), fun b hb q => q2 b hb (h b q), fun b hb => ql b (h b hb)⟩
/-- New blocks stand beside both. -/
theorem BP.grow (t : BP Q A p dp m dm s1 s2) (e : Ext A B) : BP (fun b => Q b ∨ (A.size ≤ b ∧ b < B.size)) B p dp m dm s1 s2 ∧ KeptQ Q A B := by
  obtain ⟨F1, F2, h1, h2, dj, q1, q2, ql⟩ := t
  refine ⟨⟨F1, F2, h1.ext e, h2.ext e, dj, fun b hb q => ?_, fun b hb q => ?_, fun b hb => ?_⟩, e.size, fun b hb => e.same b (ql b hb) id⟩
  · rcases q with q | q
    · exact q1 b hb q
    · have := h1.lt b hb; omega
  · rcases q with q | q
    · exact q2 b hb q
    · have := h2.lt b hb; omega
  · rcases hb with q | q
    · exact Nat.lt_of_lt_of_le (ql b q) e.size
    · exact q.2
theorem BP.ext (t : BP Q A p dp m dm s1 s2) (e : Ext A B) : BP Q B p dp m dm s1 s2 ∧ KeptQ Q A B := ⟨(t.grow e).1.mono fun _ q => .inl q, (t.grow e).2⟩
/-- Blocks beside both are turned. -/
theorem BP.beside {W : Nat → Prop} (t : BP Q A p dp m dm s1 s2) (hm : Mod W A B) (hW : ∀ b, W b → Q b) : BP Q B p dp m dm s1 s2 := by
  obtain ⟨F1, F2, h1, h2, dj, q1, q2, ql⟩ := t
  exact ⟨F1, F2, h1.keep fun b hb hl => hm.same b hl fun q => q1 b hb (hW b q), h2.keep fun b hb hl => hm.same b hl fun q => q2 b hb (hW b q), dj, q1, q2, fun b hb => Nat.lt_of_lt_of_le (ql b hb) hm.size⟩
theorem BP.wf (t : BP Q A p dp m dm s1 s2) : s1.WF := by
  obtain ⟨F1, F2, h1, h2, dj, q1, q2, ql⟩ := t; exact h1.wf
theorem BP.lt (t : BP Q A p dp m dm s1 s2) : ∀ b, Q b → b < A.size := by
  obtain ⟨F1, F2, h1, h2, dj, q1, q2, ql⟩ := t; exact ql

end

/-! ### One call -/

def Pl.play (s : Pl) (r : Int) (x1 : ByteArray) (x2 x3 x4 : Int) : Pl :=
  if r = 0 then (s.pin x1 x2).1 else if r = 1 then (s.fresh x1).1 else if r = 2 then s else if r = 3 then (s.set x3 (UInt8.ofNat x4.toNat) (stepB x2 x4)).1
  else if r = 4 then (s.unpin x3).1 else if r = 5 then (s.flush x1).1 else if r = 6 then (s.dropF x1).1 else s.setD (s.d.create x1).1

theorem Pl.play_stays {s : Pl} (hw : s.WF) (hf : s.Fit) (hn : s.next < 1099511627776) (r : Int) (x1 : ByteArray) (x2 x3 x4 : Int) :
    (s.play r x1 x2 x3 x4).Fit ∧ (s.play r x1 x2 x3 x4).d.logs ≤ s.d.logs + 4096 ∧ (s.play r x1 x2 x3 x4).next ≤ s.next + 1 := by
  have ht := hw.tick; have hl := hw.len; have hm := hw.most
  have h0 : 0 ≤ s.next := by omega
  unfold Pl.play
  split
  · exact ⟨hf.pin _ _, by have := s.pin_logs x1 x2; omega, Pl.pin_next h0 hn⟩
  · split
    · exact ⟨hf.fresh _, by have := s.fresh_logs x1; omega, Pl.fresh_next h0 hn⟩
    · split
      · exact ⟨hf, by omega, by omega⟩
      · split
        · exact ⟨hf.set _ _ _, by rw [s.set_d]; omega, by rw [s.set_next]; omega⟩
        · split
          · exact ⟨hf.unpin _, by rw [s.unpin_d]; omega, by rw [s.unpin_next]; omega⟩
          · split
            · exact ⟨hf.flush _, by have := s.flush_logs x1; omega, by rw [s.flush_next]; omega⟩
            · split
              · exact ⟨hf.dropF _, by have := s.dropF_logs x1; omega, by rw [s.dropF_next]; omega⟩
              · exact ⟨hf.setD (s.d.create_grows _), by have := s.d.create_logs x1; show (s.d.create x1).1.logs ≤ _; omega, by show s.next ≤ _; omega⟩

theorem RPoolAt.disk {F : Nat → Prop} {H : Heap} {p dp : Nat} {s : Pl} (h : RPoolAt F H p dp s) : ∃ D, RefAt D H dp s.d ∧ (∀ b, D b → F b) ∧ ∀ D' H' d, RefAt D' H' dp d → Step D D' H H' → ∃ F', RPoolAt F' H' p dp (s.setD d) ∧ Step F F' H H' := by
  obtain ⟨ll, zs, D, g, hF⟩ := h
  refine ⟨D, g.disk, fun b hb => (hF b).2 (.inl hb), fun D' H' d hd' hS => ?_⟩
  obtain ⟨q1, q2⟩ := g.stepD hd' hS
  exact q1.out hF q2
theorem RPoolAt.head {F : Nat → Prop} {H : Heap} {p dp : Nat} {s : Pl} (h : RPoolAt F H p dp s) : ∃ ll : Sl, RowT H p ty_fathomref03_Pool (headM dp ll s) ∧ ll.n = s.fs.length ∧ F p := by
  obtain ⟨ll, zs, D, g, hF⟩ := h
  exact ⟨ll, g.pool.head, g.pool.n, (hF p).2 (.inr (.inl rfl))⟩

theorem pplays_ok {Q : Nat → Prop} {A : Heap} {p dp m dm : Nat} {s : Pl} {x x2 x3 x4 : Int} {x1 : ByteArray} {K : Bool → Heap → Prop} (hg : Gl A) (hQ : Q gSteps) (t : BP Q A p dp m dm s s) (hfit : s.Fit) (hlogs : s.d.logs < 34359738368) (hnx : s.next < 1099511627775)
    (h1 : x1.size ≤ 9223372036854775807) (h2 : -9223372036854775808 ≤ x2 ∧ x2 ≤ 9223372036854775807) (h4 : 0 ≤ x4 ∧ x4 < 256)
    (hK : ∀ B, BP Q B p dp m dm (s.play (x.emod 8) x1 x2 x3 x4) (s.play (x.emod 8) x1 x2 x3 x4) → KeptQ Q A B → K true B) : fathomlaw03_plays.sp (at0 p) (at0 m) x x1 x2 x3 x4 A K := by
  refine fathomlaw03_plays.of ?_
  unfold fathomlaw03_plays.vc
  simp only [optK_eq]
  refine newC_rowT fun A1 z1 r1 e1 => ?_
  obtain ⟨q, hq⟩ : ∃ q, q = A.size := ⟨_, rfl⟩
  rw [← hq] at r1 ⊢
  obtain ⟨t1, k1⟩ := t.grow e1
  obtain ⟨Q1, hQ1⟩ : ∃ Q1 : Nat → Prop, Q1 = fun b => Q b ∨ (A.size ≤ b ∧ b < A1.size) := ⟨_, rfl⟩
  rw [← hQ1] at t1
  have qQ : Q1 q := by rw [hQ1]; exact .inr (by omega)
  have Q01 : ∀ b, Q b → Q1 b := fun b hb => by rw [hQ1]; exact .inl hb
  have gl1 : Gl A1 := hg.mod e1 id
  have gl : ∀ {B : Heap}, KeptQ Q1 A1 B → Gl B := fun k => gl1.keep (k.same _ (Q01 _ hQ))
  have rw1 : ∀ {B : Heap}, KeptQ Q1 A1 B → RowT B q ty_fathomlaw03_Step #[(.int .i64 x), (.string x1), (.int .i64 x2), (.int .i64 x3), (.int .u8 x4)] := fun k => (k.same q qQ).trans r1
  have fin : ∀ {B : Heap} {s' : Pl}, BP Q1 B p dp m dm s' s' → KeptQ Q1 A1 B → s.play (x.emod 8) x1 x2 x3 x4 = s' → K true B := fun tb kb he => hK _ (by rw [he]; exact tb.mono Q01) (k1.trans (kb.mono Q01))
  have cell : ∀ {B : Heap} {j : Nat} {v : Value}, (#[(.int .i64 x), (.string x1), (.int .i64 x2), (.int .i64 x3), (.int .u8 x4)] : Array Value)[j]? = some v → RowT B q ty_fathomlaw03_Step #[(.int .i64 x), (.string x1), (.int .i64 x2), (.int .i64 x3), (.int .u8 x4)] → hCell B (Addr.add ⟨q, 0, none⟩ j) = some v := fun hj hB => by rw [add_lit0]; exact hB.cell hj
  refine r1.ld (c := cInt .i64) (i := 0) (x := x) rfl ?_
  refine PickN_ok (by omega) ?_
  rw [if_neg (by omega)]
  generalize x.emod 8 = r at *
  -- Pin
  refine br_mk (fun hr => ?_) (fun hr0 => ?_)
  · have e : r = 0 := by simpa using hr
    refine r1.ld (c := cStr) (i := 1) (x := x1) rfl ?_
    refine r1.ld (c := cInt .i64) (i := 2) (x := x2) rfl ?_
    obtain ⟨F1, a1, go1⟩ := t1.left
    refine Pin_ok gl1 a1 h1 h2.1 h2.2 (by omega) (by omega) fun F' B b1 S1 => ?_
    obtain ⟨t2, k2⟩ := go1 _ _ _ b1 S1
    refine (rw1 k2).ld (c := cStr) (i := 1) (x := x1) rfl ?_
    refine (rw1 k2).ld (c := cInt .i64) (i := 2) (x := x2) rfl ?_
    obtain ⟨F2, a2, _, go2⟩ := t2.right
    refine RPPin_ok a2 h1 (by omega) hnx fun F2' C b2 S2 => ?_
    obtain ⟨t3, k3⟩ := go2 _ _ _ b2 S2
    rw [beq_self_eq_true, beq_self_eq_true]
    exact fin t3 (k2.trans k3) (by unfold Pl.play; rw [if_pos e])
  have n0 : r ≠ 0 := by simpa using hr0
  -- Fresh
  refine br_mk (fun hr => ?_) (fun hr1 => ?_)
  · have e : r = 1 := by simpa using hr
    refine r1.ld (c := cStr) (i := 1) (x := x1) rfl ?_
    obtain ⟨F1, a1, go1⟩ := t1.left
    refine Fresh_ok gl1 a1 h1 (by omega) (by omega) hfit fun F' B b1 S1 => ?_
    obtain ⟨t2, k2⟩ := go1 _ _ _ b1 S1
    refine (rw1 k2).ld (c := cStr) (i := 1) (x := x1) rfl ?_
    obtain ⟨F2, a2, _, go2⟩ := t2.right
    refine RPFresh_ok a2 h1 (by omega) hnx hfit fun F2' C b2 S2 => ?_
    obtain ⟨t3, k3⟩ := go2 _ _ _ b2 S2
    rw [beq_self_eq_true, beq_self_eq_true, beq_self_eq_true]
    exact fin t3 (k2.trans k3) (by unfold Pl.play; rw [if_neg n0, if_pos e])
  have n1 : r ≠ 1 := by simpa using hr1
  -- Get
  refine br_mk (fun hr => ?_) (fun hr2 => ?_)
  · have e : r = 2 := by simpa using hr
    have ep : s.play r x1 x2 x3 x4 = s := by unfold Pl.play; rw [if_neg n0, if_neg n1, if_pos e]
    refine r1.ld (c := cInt .i64) (i := 3) (x := x3) rfl ?_
    obtain ⟨F1, a1, go1⟩ := t1.left
    have hgl : (s.get x3).2.1.length ≤ 504 := by
      unfold Pl.get
      split
      · exact Nat.zero_le _
      · split
        · rename_i i hi
          obtain ⟨f, hf, _⟩ := Pl.held_some hi
          show (s.frame i).b.length ≤ 504
          rw [Pl.frame_eq hf]; exact t1.wf.room f (List.mem_of_getElem? hf)
        · exact Nat.zero_le _
    refine Get_ok a1 fun l B o2 e2 f2 => ?_
    obtain ⟨t2, k2⟩ := t1.grow e2
    have k2' : KeptQ Q1 A1 B := k2
    refine (rw1 k2').ld (c := cInt .i64) (i := 3) (x := x3) rfl ?_
    obtain ⟨F2, a2, _, go2⟩ := t2.right
    refine RPGet_ok a2 (by omega) fun l4 C o3 e3 f3 => ?_
    obtain ⟨t3, k3⟩ := t2.ext e3
    have o23 := o2.ext e3
    refine br_t (by simp) ?_
    refine strB_eq (SlB_byts o23) ?_
    refine strB_eq o3 ?_
    have hbn := SlE.n o23 (by decide)
    refine spoil_ok (SlB_to o23) (by show l.n < _; omega) rfl fun C2 m4 => ?_
    rw [beq_self_eq_true]
    have hin : ∀ b, ownB l b → A1.size ≤ b ∧ b < B.size := fun b hb => ⟨f2 b hb, o2.lt b hb⟩
    have t4 := t3.beside m4 fun b hb => .inr (hin b hb)
    refine fin (t4.mono fun b hb => .inl hb) ⟨?_, fun b hb => (m4.same b (by have := t1.lt b hb; have := e2.size; have := e3.size; omega) fun hh => by have := (hin b hh).1; have := t1.lt b hb; omega).trans ((k3.same b (.inl hb)).trans (k2.same b hb))⟩ ep
    have := m4.size; have := e3.size; have := e2.size; omega
  have n2 : r ≠ 2 := by simpa using hr2
  -- Put
  refine br_mk (fun hr => ?_) (fun hr3 => ?_)
  · have e : r = 3 := by simpa using hr
    have h0 := Int.emod_nonneg x2 (show (600 : Int) ≠ 0 by decide)
    have h6 := Int.emod_lt_of_pos x2 (show (0 : Int) < 600 by decide)
    have e6 : x2 % 600 = x2.emod 600 := rfl
    rw [e6] at h0 h6
    have hbl : (stepB x2 x4).length ≤ 600 := by unfold stepB; simp; omega
    have hu8 := ofNat_u8 h4
    refine r1.ldA (c := cAgg [(cInt .i64), cStr, (cInt .i64), (cInt .i64), (cInt .u8)]) (x := (x, x1, x2, x3, x4)) rfl rfl ?_
    refine pbytes_ok h4 fun b B o2 e2 f2 => ?_
    obtain ⟨t2, k2⟩ := t1.grow e2
    refine (rw1 k2).ld (c := cInt .i64) (i := 3) (x := x3) rfl ?_
    refine (rw1 k2).ld (c := cInt .u8) (i := 4) (x := x4) rfl ?_
    obtain ⟨Q2, hQ2⟩ : ∃ Q2 : Nat → Prop, Q2 = fun b => Q1 b ∨ (A1.size ≤ b ∧ b < B.size) := ⟨_, rfl⟩
    rw [← hQ2] at t2
    have hin : ∀ c, ownB b c → Q2 c := fun c hc => by rw [hQ2]; exact .inr ⟨f2 c hc, o2.lt c hc⟩
    have Q12 : ∀ b, Q1 b → Q2 b := fun b hb => by rw [hQ2]; exact .inl hb
    obtain ⟨F1, a1, go1⟩ := t2.left
    have hput := Put_ok (kd := UInt8.ofNat x4.toNat) (k := x3) (K := fun e_ H14 => ∃ G : Heap → Prop, G H14 ∧ ldC (cInt .i64) G (Addr.add ⟨q, 0, none⟩ 3) fun (x_16 : Int) => ldC (cInt .u8) G (Addr.add ⟨q, 0, none⟩ 4) fun (x_17 : Int) => ldA (cAgg [(cInt .i64), cStr, (cInt .i64), (cInt .i64), (cInt .u8)]) 5 H14 ⟨q, 0, none⟩ fun (x_18 : (Int × ByteArray × Int × Int × Int)) => fathomlaw03_Step_bytes.sp x_18.1 x_18.2.1 x_18.2.2.1 x_18.2.2.2.1 x_18.2.2.2.2 H14 fun (r_7 : Sl) H15 => G H15 ∧ fathomref03_Pool_Put.sp (at0 m) x_16 x_17 r_7 H15 fun (f : Int) H16 => LoopVC Int (0 : Int) H16 fun next_2 i_2 H17 => br (decide (i_2 < (b.n : Int))) (optK b.a fun a_2 => (0 ≤ i_2 ∧ i_2 < (b.n : Int)) ∧ st H17 (a_2.add (i_2.toNat * 1)) (.int .u8 (238 : Int)) fun H18 => next_2 (IntKind.i64.wrap (i_2 + (1 : Int))) H18) (K (e_ == f) H17)) (gl k2) a1 (SlB_byts o2)
    rw [hu8] at hput
    refine hput ?_
    intro F' C b1 S1
    obtain ⟨t3, k3⟩ := go1 _ _ _ b1 S1
    have k13 : KeptQ Q1 A1 C := k2.trans (k3.mono Q12)
    refine ⟨fun H => RowT H q ty_fathomlaw03_Step #[(.int .i64 x), (.string x1), (.int .i64 x2), (.int .i64 x3), (.int .u8 x4)], rw1 k13, ⟨x3, fun H hH => cell rfl hH, ⟨x4, fun H hH => cell rfl hH, ?_⟩⟩⟩
    refine (rw1 k13).ldA (c := cAgg [(cInt .i64), cStr, (cInt .i64), (cInt .i64), (cInt .u8)]) (x := (x, x1, x2, x3, x4)) rfl rfl ?_
    refine pbytes_ok h4 fun b5 D o5 e5 f5 => ⟨(rw1 k13).ext e5, ?_⟩
    obtain ⟨t4, k4⟩ := t3.grow e5
    obtain ⟨F2, a2, q2, go2⟩ := t4.right
    have hput2 := RPPut_ok (kd := UInt8.ofNat x4.toNat) (c := x3) (K := fun f H16 => LoopVC Int (0 : Int) H16 fun next_2 i_2 H17 => br (decide (i_2 < (b.n : Int))) (optK b.a fun a_2 => (0 ≤ i_2 ∧ i_2 < (b.n : Int)) ∧ st H17 (a_2.add (i_2.toNat * 1)) (.int .u8 (238 : Int)) fun H18 => next_2 (IntKind.i64.wrap (i_2 + (1 : Int))) H18) (K ((s.set x3 (UInt8.ofNat x4.toNat) (stepB x2 x4)).2 == f) H17)) a2 (by omega) (SlB_byts o5) (fun ad ha hF => q2 _ hF (.inr ⟨f5 _ ⟨ad, ha, rfl⟩, o5.lt _ ⟨ad, ha, rfl⟩⟩))
    rw [hu8] at hput2
    refine hput2 ?_
    intro F2' E b2 S2
    obtain ⟨t5, k5⟩ := go2 _ _ _ b2 S2
    have k35 : KeptQ Q2 C E := k4.trans (k5.mono fun b hb => .inl hb)
    have k25 : KeptQ Q2 B E := k3.trans k35
    have o6 : SlE EB ty_uint8 E b (stepB x2 x4) := o2.keep fun c hc _ => k25.same c (hin c hc)
    have hbn := o6.n (by decide)
    refine spoil_ok (SlB_to o6) (by omega) rfl fun E2 m6 => ?_
    rw [beq_self_eq_true]
    have t6 := (t5.mono (fun b (hb : Q2 b) => .inl hb)).beside m6 hin
    refine fin (t6.mono Q12) ((k2.trans (k25.mono Q12)).trans ⟨m6.size, fun c hc => m6.same c (by have := t1.lt c hc; have := k2.size; have := k25.size; omega) fun hh => by have := f2 c hh; have := t1.lt c hc; omega⟩) ?_
    unfold Pl.play; rw [if_neg n0, if_neg n1, if_neg n2, if_pos e]
  have n3 : r ≠ 3 := by simpa using hr3
  have Gc : ∀ {B : Heap}, KeptQ Q1 A1 B → RowT B q ty_fathomlaw03_Step #[(.int .i64 x), (.string x1), (.int .i64 x2), (.int .i64 x3), (.int .u8 x4)] := rw1
  -- Unpin
  refine br_mk (fun hr => ?_) (fun hr4 => ?_)
  · have e : r = 4 := by simpa using hr
    refine ⟨fun H => RowT H q ty_fathomlaw03_Step #[(.int .i64 x), (.string x1), (.int .i64 x2), (.int .i64 x3), (.int .u8 x4)], r1, ?_⟩
    refine r1.ld (c := cInt .i64) (i := 3) (x := x3) rfl ?_
    obtain ⟨F1, a1, go1⟩ := t1.left
    refine Unpin_ok gl1 a1 (by omega) fun F' B b1 S1 => ?_
    obtain ⟨t2, k2⟩ := go1 _ _ _ b1 S1
    refine ⟨rw1 k2, ⟨x3, fun H hH => cell rfl hH, ?_⟩⟩
    obtain ⟨F2, a2, _, go2⟩ := t2.right
    refine RPUnpin_ok a2 hnx fun F2' C b2 S2 => ?_
    obtain ⟨t3, k3⟩ := go2 _ _ _ b2 S2
    rw [beq_self_eq_true]
    exact fin t3 (k2.trans k3) (by unfold Pl.play; rw [if_neg n0, if_neg n1, if_neg n2, if_neg n3, if_pos e])
  have n4 : r ≠ 4 := by simpa using hr4
  -- Flush
  refine br_mk (fun hr => ?_) (fun hr5 => ?_)
  · have e : r = 5 := by simpa using hr
    refine ⟨fun H => RowT H q ty_fathomlaw03_Step #[(.int .i64 x), (.string x1), (.int .i64 x2), (.int .i64 x3), (.int .u8 x4)], r1, ?_⟩
    refine r1.ld (c := cStr) (i := 1) (x := x1) rfl ?_
    obtain ⟨F1, a1, go1⟩ := t1.left
    refine Flush_ok gl1 a1 (by omega) fun F' B b1 S1 => ?_
    obtain ⟨t2, k2⟩ := go1 _ _ _ b1 S1
    refine ⟨rw1 k2, ⟨x1, fun H hH => cell rfl hH, ?_⟩⟩
    obtain ⟨F2, a2, _, go2⟩ := t2.right
    refine RPFlush_ok a2 (by omega) hfit fun F2' C b2 S2 => ?_
    obtain ⟨t3, k3⟩ := go2 _ _ _ b2 S2
    rw [beq_self_eq_true]
    exact fin t3 (k2.trans k3) (by unfold Pl.play; rw [if_neg n0, if_neg n1, if_neg n2, if_neg n3, if_neg n4, if_pos e])
  have n5 : r ≠ 5 := by simpa using hr5
  -- Drop
  refine br_mk (fun hr => ?_) (fun hr6 => ?_)
  · have e : r = 6 := by simpa using hr
    refine ⟨fun H => RowT H q ty_fathomlaw03_Step #[(.int .i64 x), (.string x1), (.int .i64 x2), (.int .i64 x3), (.int .u8 x4)], r1, ?_⟩
    refine r1.ld (c := cStr) (i := 1) (x := x1) rfl ?_
    obtain ⟨F1, a1, go1⟩ := t1.left
    refine Drop_ok gl1 a1 fun F' B b1 S1 => ?_
    obtain ⟨t2, k2⟩ := go1 _ _ _ b1 S1
    refine ⟨rw1 k2, ⟨x1, fun H hH => cell rfl hH, ?_⟩⟩
    obtain ⟨F2, a2, _, go2⟩ := t2.right
    refine RPDrop_ok a2 (by omega) fun F2' C b2 S2 => ?_
    obtain ⟨t3, k3⟩ := go2 _ _ _ b2 S2
    rw [beq_self_eq_true]
    exact fin t3 (k2.trans k3) (by unfold Pl.play; rw [if_neg n0, if_neg n1, if_neg n2, if_neg n3, if_neg n4, if_neg n5, if_pos e])
  have n6 : r ≠ 6 := by simpa using hr6
  -- Create
  refine ⟨fun H => RowT H q ty_fathomlaw03_Step #[(.int .i64 x), (.string x1), (.int .i64 x2), (.int .i64 x3), (.int .u8 x4)] ∧ hCell H (Addr.add ⟨m, 0, none⟩ 0) = some (ptrV dm), ?_⟩
  obtain ⟨F2, a2, q2, go2⟩ := t1.right
  obtain ⟨ll, hh, hn, hFm⟩ := a2.head
  have hc1 : hCell A1 (Addr.add ⟨m, 0, none⟩ 0) = some (ptrV dm) := by rw [add_lit0]; exact hh.cell rfl
  refine ⟨⟨r1, hc1⟩, ?_⟩
  obtain ⟨F1, a1, go1⟩ := t1.left
  refine PDisk_ok a1 ⟨⟨r1, hc1⟩, ⟨x1, fun H hH => cell rfl hH.1, ?_⟩⟩
  obtain ⟨D1, d1, _, dgo1⟩ := a1.disk gl1
  refine Create_ok d1 fun D1' B b1 S1 => ?_
  obtain ⟨F1', c1, cS1⟩ := dgo1 D1' B _ b1 S1
  obtain ⟨t2, k2⟩ := go1 _ _ _ c1 cS1
  obtain ⟨F3, a3, q3, go3⟩ := t2.right
  obtain ⟨ll3, hh3, hn3, hFm3⟩ := a3.head
  have hc3 : hCell B (Addr.add ⟨m, 0, none⟩ 0) = some (ptrV dm) := by rw [add_lit0]; exact hh3.cell rfl
  refine ⟨⟨rw1 k2, hc3⟩, ⟨at0 dm, fun H hH => hH.2, ⟨x1, fun H hH => cell rfl hH.1, ?_⟩⟩⟩
  obtain ⟨D2, d2, _, dgo2⟩ := a3.disk
  refine RCreate_ok d2 fun D2' C b2 S2 => ?_
  obtain ⟨F2', c2, cS2⟩ := dgo2 D2' C _ b2 S2
  obtain ⟨t3, k3⟩ := go3 _ _ _ c2 cS2
  rw [beq_self_eq_true]
  exact fin t3 (k2.trans k3) (by unfold Pl.play; rw [if_neg n0, if_neg n1, if_neg n2, if_neg n3, if_neg n4, if_neg n5, if_neg n6])

end Go.Proofs.YtbhddkmfhampbaaGreatDoor

/-
  PoolPlays: both disks in the end; the whole walk.
-/
namespace Go.Proofs.YtbhddkmfhampbaaGreatDoor
open Go.MapKept

theorem pdisks_ok {D1 D2 : Nat → Prop} {d m : Nat} {s : Dk} {H A : Heap} {K : Bool → Heap → Prop} (e0 : Ext H A) (a1 : DiskAt D1 A d s) (a2 : RefAt D2 A m s) (dj : ∀ b, D1 b → ¬ D2 b) (f1 : ∀ b, D1 b → H.size ≤ b) (f2 : ∀ b, D2 b → H.size ≤ b) (hl : s.logs < 34359738368)
    (hK : ∀ B, Ext H B → K true B) : fathomlaw03_disks.sp (at0 d) (at0 m) A K := by
  refine fathomlaw03_disks.of ?_
  unfold fathomlaw03_disks.vc
  simp only [optK_eq]
  have a2' := a2
  obtain ⟨fl, gs, cin, kp, g, hF2⟩ := a2'
  refine ⟨fun A => RowT A m ty_fathomref01_Disk (headR fl s.most s.quota s.ops s.next s.crash.isSome cin kp s.down), g.head, ?_⟩
  refine Ops_ok a1 ⟨g.head, ⟨s.ops, fun A hA => by rw [add_lit0]; exact hA.cell rfl, br_f (by simp) ?_⟩⟩
  refine Down_ok a1 ⟨g.head, ⟨s.down, fun A hA => by rw [add_lit0]; exact hA.cell rfl, br_f (by simp) ?_⟩⟩
  have l1 := a1.lt; have l2 := a2.lt
  refine Restart_ok a1 (by omega) fun D1' B1 b1 S1 => ?_
  have a2B : RefAt D2 B1 m s := a2.keep fun b hb hbl => S1.mod.same b hbl fun q => dj b q hb
  refine RRestart_ok a2B (by omega) fun D2' B2 b2 S2 => ?_
  have f1' : ∀ b, D1' b → H.size ≤ b := fun b hb => by
    rcases S1.own b hb with q | q
    · exact f1 b q
    · exact Nat.le_trans e0.size q
  have dj' : ∀ b, D1' b → ¬ D2 b := fun b hb h2 => by
    rcases S1.own b hb with q | q
    · exact dj b q h2
    · have := l2 b h2; omega
  have b1' : DiskAt D1' B2 d s.restart := b1.keep fun b hb hbl => S2.mod.same b hbl (dj' b hb)
  have e2 : Ext H B2 := ⟨Nat.le_trans e0.size (Nat.le_trans S1.mod.size S2.mod.size), fun b hb _ => (S2.mod.same b (by have := e0.size; have := S1.mod.size; omega) fun q => by have := f2 b q; omega).trans ((S1.mod.same b (by have := e0.size; omega) fun q => by have := f1 b q; omega).trans (e0.same b hb id))⟩
  have hlr := s.restart_logs
  generalize s.restart = t at *
  have hll : t.list.length ≤ 4096 := by
    unfold Dk.list
    split
    · simp
    · rw [(List.mergeSort_perm _ _).length_eq]; simp; exact b2.wf.files
  refine List_ok b1' fun l B3 o3 m3 g3 => ?_
  refine RList_ok (b2.keep fun b hb hbl => m3.same b hbl id) fun l2 B4 o4 m4 g4 => ?_
  refine SameTexts_ok (o3.ext m4) o4 (by omega) ?_
  refine br_f rfl ?_
  have m24 : Ext B2 B4 := m3.trans m4
  refine Used_ok (b1'.keep fun b hb hbl => m24.same b hbl id) ?_
  refine RUsed_ok (b2.keep fun b hb hbl => m24.same b hbl id) (by omega) fun B5 m5 => ?_
  refine br_f (by simp) ?_
  have m25 : Ext B2 B5 := m24.trans m5
  have c1 : DiskAt D1' B5 d t := b1'.keep fun b hb hbl => m25.same b hbl id
  have c2 : RefAt D2' B5 m t := b2.keep fun b hb hbl => m25.same b hbl id
  have o5 : SlE EN ty_string B5 l t.list := (o3.ext m4).ext m5
  have hn := SlE.n o5 (by decide)
  have e5 : Ext H B5 := e2.trans m25
  refine loop_upto t.list.length (fun k x B => x = (k : Int) ∧ Ext B5 B) ⟨rfl, .refl _ _⟩ ?_
  rintro k _ B6 next hk ⟨rfl, e6⟩ hnext
  refine br_mk (fun hc => ?_) (fun hc => hK B6 (e5.trans e6))
  have hlt : k < t.list.length := by rw [hn] at hc; simpa using hc
  refine text_ld (o5.ext e6) hlt ?_
  generalize strB t.list[k] = nm at *
  refine RLen_ok (c2.keep fun b hb hbl => e6.same b hbl id) (by omega) fun B7 e7 => ?_
  have hlen := Dk.len_le c2.wf nm
  refine loop_upto ((t.len nm).1 + 1) (fun j x B => x = (j : Int) ∧ Ext B5 B) ⟨rfl, e6.trans e7⟩ ?_
  rintro j _ B8 next2 hj ⟨rfl, e8⟩ hnext2
  refine br_mk (fun hc2 => ?_) (fun hc2 => hnext hlt _ _ ⟨succ64 k (by omega), e8⟩)
  have hjl : j < (t.len nm).1 + 1 := by simp at hc2; omega
  have txt : ∀ {B : Heap} {K : ByteArray → Prop}, Ext B5 B → K (strB t.list[k]) → optK l.a fun a => (0 ≤ (k : Int) ∧ (k : Int) < (l.n : Int)) ∧ ld cStr B (a.add ((k : Int).toNat * 1)) K := fun e h => text_ld (o5.ext e) hlt h
  refine txt e8 ?_
  generalize strB t.list[k] = nm2 at *
  refine Read_ok (c1.keep fun b hb hbl => e8.same b hbl id) fun r9 B9 o9 e9 g9 => ?_
  refine txt (e8.trans e9) ?_
  refine RRead_ok (c2.keep fun b hb hbl => (e8.trans e9).same b hbl id) (by omega) fun r10 B10 o10 e10 g10 => ?_
  refine br_f (by simp) ?_
  refine strB_eq (SlB_byts (o9.ext e10)) ?_
  refine strB_eq o10 ?_
  refine br_f (by simp) ?_
  exact hnext2 hjl _ _ ⟨succ64 j (by omega), (e8.trans e9).trans e10⟩

abbrev PStep := Int × ByteArray × Int × Int × Int
def EPS : Enc PStep := ⟨5, fun x => [.int .i64 x.1, .string x.2.1, .int .i64 x.2.2.1, .int .i64 x.2.2.2.1, .int .u8 x.2.2.2.2], fun _ => rfl, fun x u hu => by simp at hu; rcases hu with rfl | rfl | rfl | rfl | rfl <;> rfl⟩
def PStep.fine (x : PStep) : Prop := x.2.1.size ≤ 9223372036854775807 ∧ (-9223372036854775808 ≤ x.2.2.1 ∧ x.2.2.1 ≤ 9223372036854775807) ∧ 0 ≤ x.2.2.2.2 ∧ x.2.2.2.2 < 256

section
variable {H A : Heap} {script : Sl} {xs : List PStep} {R : Bool → Heap → Prop}

theorem ptail_ok {D1 D2 : Nat → Prop} {dp dm : Nat} {sd : Dk} {frames : Int} (hg : Gl H) (e0 : Ext H A) (a1 : DiskAt D1 A dp sd) (a2 : RefAt D2 A dm sd) (dj : ∀ b, D1 b → ¬ D2 b) (f1 : ∀ b, D1 b → H.size ≤ b) (f2 : ∀ b, D2 b → H.size ≤ b) (hl : sd.logs = 0) (hx : RdE EPS H script.a xs) (hn : script.n = xs.length) (hxl : xs.length ≤ 150) (hf : ∀ x ∈ xs, PStep.fine x)
    (hK : ∀ B, Ext H B → R true B) :
    pool_New.sp (at0 dp) frames A fun (r_3 : (Option Addr × Int)) H5 => fathomref03_New.sp (at0 dm) frames H5 fun (r_4 : (Option Addr × Int)) H6 => br (r_3.2 != r_4.2) (R false H6) (br (r_3.2 != (0 : Int)) (br r_3.1.isNone (fathomlaw03_works.sp H6 fun (r_5 : Bool) H7 => R r_5 H7) (R false H6)) (br r_3.1.isNone (R false H6) (LoopVC Int (0 : Int) H6 fun next i H8 => br (decide (i < (script.n : Int))) (optK script.a fun a => (0 ≤ i ∧ i < (script.n : Int)) ∧ ldA (cAgg [(cInt .i64), cStr, (cInt .i64), (cInt .i64), (cInt .u8)]) 5 H8 (a.add (i.toNat * 5)) fun (x : (Int × ByteArray × Int × Int × Int)) => fathomlaw03_plays.sp r_3.1 r_4.1 x.1 x.2.1 x.2.2.1 x.2.2.2.1 x.2.2.2.2 H8 fun (r_6 : Bool) H9 => ∃ G : Heap → Prop, G H9 ∧ br (!r_6) (R false H9) (pool_Pool_Resident.sp r_3.1 H9 fun (r_7 : Int) H10 => G H10 ∧ optK r_4.1 fun a_1 => ldC cSl G (a_1.add 2) fun (x_1 : Sl) => br (r_7 != (x_1.n : Int)) (R false H10) (pool_Pool_Pinned.sp r_3.1 H10 fun (r_8 : Int) H11 => G H11 ∧ fathomref03_Pool_Pinned.sp r_4.1 H11 fun (r_9 : Int) H12 => G H12 ∧ br (r_8 != r_9) (R false H12) (pool_Pool_Peak.sp r_3.1 H12 fun (r_10 : Int) H13 => G H13 ∧ optK r_4.1 fun a_2 => ldC (cInt .i64) G (a_2.add 5) fun (x_2 : Int) => br (r_10 != x_2) (R false H13) (pool_Pool_Frames.sp r_3.1 H13 fun (r_11 : Int) H14 => G H14 ∧ optK r_4.1 fun a_3 => ldC (cInt .i64) G (a_3.add 1) fun (x_3 : Int) => br (r_11 != x_3) (R false H14) (pool_Pool_Disk.sp r_3.1 H14 fun (r_12 : Option Addr) H15 => disk_Disk_Ops.sp r_12 H15 fun (r_13 : Int) H16 => disk_Disk_Ops.sp (at0 dp) H16 fun (r_14 : Int) H17 => br (r_13 != r_14) (R false H17) (next (IntKind.i64.wrap (i + (1 : Int))) H17))))))) (fathomlaw03_disks.sp (at0 dp) (at0 dm) H8 fun (r_15 : Bool) H18 => br r_15 (fathomlaw03_works.sp H18 fun (r_16 : Bool) H19 => R r_16 H19) (R false H18))))) := by
  have hgA : Gl A := hg.mod e0 id
  have hgs := hg.lt
  by_cases hfr : frames < 8 ∨ 4096 < frames
  · refine PoolNew_bad hfr ?_
    refine RPNew_bad hfr ?_
    refine br_f (by simp) (br_t (by simp only [bne_iff_ne]; split <;> decide) (br_t rfl ?_))
    exact pworks_ok hgA fun B e => hK B (e0.trans e)
  obtain ⟨mm, rfl⟩ : ∃ mm : Nat, frames = mm := ⟨frames.toNat, by omega⟩
  have l1 := a1.lt; have l2 := a2.lt
  refine PoolNew_ok hgA a1 (fun q => by have := f1 _ q; omega) (by omega) (by omega) fun F1 p B1 h1 e1 o1 => ?_
  refine RPNew_ok (a2.keep fun b hb hbl => e1.same b hbl id) (by omega) (by omega) fun F2 m B2 h2 e2 o2 => ?_
  refine br_f (by simp) (br_f rfl (br_f rfl ?_))
  have l1p := h1.lt
  have t0 : BP (fun b => b < H.size) B2 p dp m dm (pl0 sd mm) (pl0 sd mm) := by
    refine ⟨F1, F2, h1.ext e2, h2, fun b hb hb2 => ?_, fun b hb q => ?_, fun b hb q => ?_, fun b q => ?_⟩
    · have := l1p b hb
      rcases o2 b hb2 with r | r
      · rcases o1 b hb with r' | r'
        · exact dj b r' r
        · have := l2 b r; omega
      · omega
    · rcases o1 b hb with r | r
      · have := f1 b r; omega
      · have := e0.size; omega
    · rcases o2 b hb with r | r
      · have := f2 b r; omega
      · have := e0.size; have := e1.size; omega
    · have := e0.size; have := e1.size; have := e2.size; omega
  have e02 : Ext H B2 := (e0.trans e1).trans e2
  refine loop_upto xs.length (fun k i B => i = (k : Int) ∧ Ext H B ∧ ∃ s : Pl, BP (fun b => b < H.size) B p dp m dm s s ∧ s.Fit ∧ s.next ≤ (k : Int) + 1 ∧ s.d.logs ≤ 4096 * k) ⟨rfl, e02, pl0 sd mm, t0, by intro f hf; simp [pl0] at hf, by show (1 : Int) ≤ _; omega, by show sd.logs ≤ _; omega⟩ ?_
  rintro k _ B next hk ⟨rfl, eB, s, t, hfit, hnx, hlg⟩ hnext
  have gB : Gl B := hg.mod eB id
  refine br_mk (fun hc => ?_) (fun hc => ?_)
  · have hlt : k < xs.length := by rw [hn] at hc; simpa using hc
    have hxk : xs[k]? = some xs[k] := List.getElem?_eq_getElem hlt
    have hfk := hf _ (List.mem_of_getElem? hxk)
    have hxB : RdE EPS B script.a xs := hx.keep fun ad _ hal => eB.same _ hal id
    obtain ⟨ad, ha⟩ := RdE.addr hxB (by decide) (by omega)
    rw [ha]
    refine ⟨⟨by omega, by omega⟩, ?_⟩
    obtain ⟨⟨x, x1, x2, x3, x4⟩, hxe⟩ : ∃ y, y = xs[k] := ⟨_, rfl⟩
    rw [← hxe] at hxk hfk
    refine RdE.ldA (E := EPS) (c := cAgg [(cInt .i64), cStr, (cInt .i64), (cInt .i64), (cInt .u8)]) (y := (x, x1, x2, x3, x4)) hxB ha hxk rfl (by simp [EPS]) rfl ?_
    obtain ⟨g1, g2, g3⟩ := hfk
    simp only at g1 g2 g3
    refine pplays_ok gB hgs t hfit (by omega) (by omega) g1 g2 g3 fun C t2 k2 => ?_
    obtain ⟨y1, y2, y3⟩ := Pl.play_stays t.wf hfit (by omega) (x.emod 8) x1 x2 x3 x4
    generalize s.play (x.emod 8) x1 x2 x3 x4 = s' at *
    have eC : Ext H C := ⟨Nat.le_trans eB.size k2.size, fun b hb _ => (k2.same b hb).trans (eB.same b hb id)⟩
    have gC : Gl C := hg.mod eC id
    obtain ⟨F2', c2, _, go2⟩ := t2.right
    obtain ⟨ll, hh, hll, hFm⟩ := c2.head
    refine ⟨fun A => RowT A m ty_fathomref03_Pool (headM dm ll s'), hh, ?_⟩
    refine br_f rfl ?_
    obtain ⟨F1', c1, go1⟩ := t2.left
    refine Resident_ok c1 ⟨hh, ?_⟩
    simp only [optK_eq]
    refine ⟨ll, fun A hA => by rw [add_lit0]; exact hA.cell rfl, br_f (by rw [hll]; simp) ?_⟩
    refine Pinned_ok c1 (by omega) fun D e3 => ⟨hh.ext e3, ?_⟩
    obtain ⟨t3, k3⟩ := t2.ext e3
    obtain ⟨F2'', d2, _, _⟩ := t3.right
    obtain ⟨F1'', d1, _⟩ := t3.left
    refine RPPinned_ok d2 ⟨hh.ext e3, br_f (by simp) ?_⟩
    refine Peak_ok d1 ⟨hh.ext e3, ⟨(s'.peak : Int), fun A hA => by rw [add_lit0]; exact hA.cell rfl, br_f (by simp) ?_⟩⟩
    refine Frames_ok d1 ⟨hh.ext e3, ⟨(s'.most : Int), fun A hA => by rw [add_lit0]; exact hA.cell rfl, br_f (by simp) ?_⟩⟩
    refine PDisk_ok d1 ?_
    have gD : Gl D := gC.mod e3 id
    obtain ⟨D1'', dd, _, _⟩ := d1.disk gD
    refine Ops_ok dd (Ops_ok dd (br_f (by simp) ?_))
    exact hnext hlt _ _ ⟨succ64 k (by omega), eC.trans e3, s', t3, y1, by omega, by omega⟩
  · obtain ⟨F1', F2', c1, c2, dj', q1, q2, ql⟩ := t
    obtain ⟨D1', d1, i1, _⟩ := c1.disk gB
    obtain ⟨D2', d2, i2, _⟩ := c2.disk
    refine pdisks_ok eB d1 d2 (fun b hb hb2 => dj' b (i1 b hb) (i2 b hb2)) (fun b hb => Nat.le_of_not_lt (q1 b (i1 b hb))) (fun b hb => Nat.le_of_not_lt (q2 b (i2 b hb))) (by omega) fun C e3 => ?_
    refine br_t rfl ?_
    exact pworks_ok (hg.mod e3 id) fun D e4 => hK D (e3.trans e4)

theorem PoolPlays_ok {quota frames p keep : Int} (hg : Gl H) (hq : quota ≤ 9223372036854775807) (hp : p ≤ 9223372036854775807) (hx : RdE EPS H script.a xs) (hn : script.n = xs.length) (hf : ∀ x ∈ xs, PStep.fine x)
    (hK : ∀ B, Ext H B → R true B) : fathomlaw03_PoolPlays.sp quota frames script p keep H R := by
  refine fathomlaw03_PoolPlays.of ?_
  unfold fathomlaw03_PoolPlays.vc
  refine br_mk (fun _ => hK H (.refl _ _)) (fun hc => ?_)
  have hxl : xs.length ≤ 150 := by rw [hn] at hc; simp at hc; omega
  refine New_ok hq fun F1 d H1 a1 e1 f1 => ?_
  refine RNew_ok hq fun F2 n H2 a2 e2 f2 => ?_
  have a1' : DiskAt F1 H2 d (dk0 quota) := a1.keep fun b hb hbl => e2.same b hbl id
  have l1 := a1.lt
  have dj : ∀ b, F1 b → ¬ F2 b := fun b hb hb2 => by have := l1 b hb; have := f2 b hb2; omega
  have f2' : ∀ b, F2 b → H.size ≤ b := fun b hb => Nat.le_trans e1.size (f2 b hb)
  refine br_mk (fun hcr => ?_) (fun hcr => ?_)
  · refine Crash_ok a1' hp fun F1' H3 b1 S1 => ?_
    have a2' : RefAt F2 H3 n (dk0 quota) := a2.keep fun b hb hbl => S1.mod.same b hbl fun q => dj b q hb
    refine RCrash_ok a2' hp fun F2' H4 b2 S2 => ?_
    have l2 := a2'.lt
    have l2' := a2.lt
    have dj1 : ∀ b, F1' b → ¬ F2 b := fun b hb hb2 => by
      rcases S1.own b hb with q | q
      · exact dj b q hb2
      · have := l2' b hb2; omega
    have l1' := b1.lt
    have dj2 : ∀ b, F1' b → ¬ F2' b := fun b hb hb2 => by
      rcases S2.own b hb2 with q | q
      · exact dj1 b hb q
      · have := l1' b hb; omega
    have z1 := e1.size; have z2 := e2.size; have z3 := S1.mod.size; have z4 := S2.mod.size
    have e4 : Ext H H4 := ⟨by omega, fun b hb _ => (S2.mod.same b (by omega) fun q => by have := f2' b q; omega).trans ((S1.mod.same b (by omega) fun q => by have := f1 b q; omega).trans ((e2.same b (by omega) id).trans (e1.same b hb id)))⟩
    refine ptail_ok hg e4 (b1.keep fun b hb hbl => S2.mod.same b hbl (dj1 b hb)) b2 dj2 (fun b hb => ?_) (fun b hb => ?_) (by rw [Dk.setCrash_logs]; rfl) hx hn hxl hf hK
    · rcases S1.own b hb with q | q
      · exact f1 b q
      · omega
    · rcases S2.own b hb with q | q
      · exact f2' b q
      · omega
  · exact ptail_ok hg (e1.trans e2) a1' a2 dj f1 f2' rfl hx hn hxl hf hK

end
end Go.Proofs.YtbhddkmfhampbaaGreatDoor

/-
  PoolPins: the walk.
-/
namespace Go.Proofs.YtbhddkmfhampbaaGreatDoor
open Go.MapKept

theorem pins_of {p : Pl} {n : ByteArray} {m N : Nat} {nx : Int} {L : Nat} {v : Nat → List Int → Prop} {gone : Nat → Prop} (h : HeldP p n m N nx L v gone) (hv : ∀ j l, v j l → l ≠ []) : p.pinned = L := by
  unfold Pl.pinned
  rw [List.filter_eq_self.2 (fun f hf => ?_), h.size]
  have := hv _ _ (h.pins f hf)
  cases hq : f.pins with
  | nil => exact absurd hq this
  | cons a l => rfl

theorem PoolPins_ok {frames : Int} {H : Heap} {K : Bool → Heap → Prop} (hg : Gl H) (hK : ∀ B, Ext H B → K true B) : fathomlaw03_PoolPins.sp frames H K := by
  refine fathomlaw03_PoolPins.of ?_
  unfold fathomlaw03_PoolPins.vc
  refine PickN_ok (by decide) ?_
  rw [if_neg (by decide)]
  obtain ⟨m, hm8, hm27, em⟩ : ∃ m : Nat, 8 ≤ m ∧ m ≤ 27 ∧ IntKind.i64.wrap ((8 : Int) + frames.emod 20) = (m : Int) := by
    have h1 := Int.emod_nonneg frames (show (20 : Int) ≠ 0 by decide)
    have h2 := Int.emod_lt_of_pos frames (show (0 : Int) < 20 by decide)
    have e : frames % 20 = frames.emod 20 := rfl
    refine ⟨(8 + frames.emod 20).toNat, by omega, by omega, ?_⟩
    rw [wrap64 (by omega) (by omega)]; omega
  simp only [em]
  obtain ⟨c1, c2, c3, c4⟩ := create_live (q := 100) (by decide) (by decide) nmF_named
  refine New_ok (by decide) fun F1 d H1 a1 e1 f1 => ?_
  refine Create_ok (n := nmF) a1 fun F2 H2 a2 S2 => ?_
  have e2 : Ext H H2 := ⟨Nat.le_trans e1.size S2.mod.size, fun b hb _ => (S2.mod.same b (Nat.lt_of_lt_of_le hb e1.size) fun q => by have := f1 b q; omega).trans (e1.same b hb id)⟩
  have f2 : ∀ b, F2 b → H.size ≤ b := fun b hb => by
    rcases S2.own b hb with q | q
    · exact f1 b q
    · exact Nat.le_trans e1.size q
  refine TP.new (m := m) hg e2 a2 f2 hm8 (by omega) fun p H3 t3 => ?_
  refine br_f rfl ?_
  have h0 : HeldP (pl0 ((dk0 100).create nmF).1 m) nmF m 0 (((0 : Nat) : Int) + 1) 0 v0 (fun _ => False) :=
    ⟨⟨[], pl0_told c1⟩, rfl, rfl, rfl, by intro f hf; simp [pl0] at hf, by intro j hj; omega⟩
  refine loop_upto m (fun i z A => z = (i : Int) ∧ ∃ s, TP H A p d s ∧ HeldP s nmF m i ((i : Int) + 1) i v0 (fun _ => False) ∧ s.d.logs ≤ 2 * i) ⟨rfl, _, t3, h0, by show Dk.logs ((dk0 100).create nmF).1 ≤ _; rw [c4]; omega⟩ ?_
  rintro i _ A next hi ⟨rfl, s, t, hs, hl⟩ hnext
  refine br_mk (fun hc => ?_) (fun hc => ?_)
  · have hlt : i < m := by simpa using hc
    obtain ⟨q1, q2⟩ := hs.step t.wf hlt hm27
    obtain ⟨pg, ht⟩ := hs.told
    refine TP.fresh (n := nmF) t hg (by decide) (by omega) (by rw [hs.next]; omega) ht.fit q1 fun B tB => ?_
    have lB := s.fresh_logs nmF
    refine br_f (by simp) ?_
    rw [wrap8]
    refine newC_rowT fun C zC rC eC => ?_
    have tC := tB.ext eC
    have hb : Byts C (Sl.mk (some ⟨B.size, 0, none⟩) 1 1) [UInt8.ofNat i] := RowB.byts (l := [UInt8.ofNat i]) (o := 0) rC (by simp)
    obtain ⟨w1, w2⟩ := q2 tC.wf
    refine TP.put (kd := UInt8.ofNat i) tC hg hb w1 fun E tE => ?_
    refine br_f rfl ?_
    refine hnext hlt _ _ ⟨succ64 i (by omega), _, tE, w2, ?_⟩
    rw [Pl.set_d]; omega
  · have hge : i = m := by simp at hc; omega
    subst hge
    -- all frames are held
    obtain ⟨pg, ht⟩ := hs.told
    obtain ⟨full1, full2⟩ := hs.full v0_ne
    have efr := ht.fresh_full full1 full2
    obtain ⟨D, hD, _⟩ := t.disk hg
    refine Ops_ok hD ?_
    refine TP.fresh (n := nmF) (r := (0, 0, 31)) t hg (by decide) (by omega) (by rw [hs.next]; omega) ht.fit (congrArg Prod.snd efr) fun B tB => ?_
    rw [efr] at tB
    have tB : TP H B p d s := tB
    obtain ⟨D2, hD2, _⟩ := tB.disk hg
    refine Len_ok (n := nmF) hD2 ?_
    rw [ht.disk.len, ht.len]
    refine br_f (by simp) ?_
    refine Ops_ok hD2 ?_
    refine br_f (by simp) ?_
    obtain ⟨F, pa, _⟩ := tB.go
    refine Resident_ok pa ?_
    rw [hs.size]
    refine br_f (by simp) ?_
    refine Pinned_ok pa (by rw [hs.next]; omega) fun C eC => ?_
    rw [pins_of hs v0_ne]
    refine br_f (by simp) ?_
    have tC := tB.ext eC
    obtain ⟨u1, u2⟩ := hs.unpin3 tC.wf hm8
    refine TP.unpin tC hg (by rw [hs.next]; omega) u1 fun C2 tC2 => ?_
    refine br_f rfl ?_
    obtain ⟨sA, hsA⟩ : ∃ sA, sA = (s.unpin 3).1 := ⟨_, rfl⟩
    have lA : sA.d.logs ≤ 2 * i := by rw [hsA, Pl.unpin_d]; exact hl
    rw [← hsA] at u2 tC2
    obtain ⟨w1, w2⟩ := u2.freshA tC2.wf hm8 hm27
    obtain ⟨pgA, htA⟩ := u2.told
    refine TP.fresh (n := nmF) tC2 hg (by decide) (by omega) (by rw [u2.next]; omega) htA.fit w1 fun C3 tC3 => ?_
    have lB := sA.fresh_logs nmF
    obtain ⟨sB, hsB⟩ : ∃ sB, sB = (sA.fresh nmF).1 := ⟨_, rfl⟩
    rw [← hsB] at w2 tC3 lB
    have epin := w2.pinB hm8
    refine TP.pin (n := nmF) (k := 2) (r := (0, 31)) tC3 hg (by decide) (by decide) (by decide) (by omega) (by rw [w2.next]; omega) (congrArg Prod.snd epin) fun C4 tC4 => ?_
    rw [epin] at tC4
    have tC4 : TP H C4 p d sB := tC4
    refine br_f (by simp) ?_
    obtain ⟨x1, x2⟩ := w2.unpinB tC4.wf hm8
    refine TP.unpin tC4 hg (by rw [w2.next]; omega) x1 fun C5 tC5 => ?_
    refine br_f rfl ?_
    obtain ⟨sC, hsC⟩ : ∃ sC, sC = (sB.unpin ((i : Int) + 1)).1 := ⟨_, rfl⟩
    have lC : sC.d.logs ≤ 2 * i + 2 := by rw [hsC, Pl.unpin_d]; omega
    rw [← hsC] at x2 tC5
    obtain ⟨y1, y2⟩ := x2.pinC tC5.wf hm8 hm27
    refine TP.pin (n := nmF) (k := 2) tC5 hg (by decide) (by decide) (by decide) (by omega) (by rw [x2.next]; omega) y1 fun C6 tC6 => ?_
    obtain ⟨sD, hsD⟩ : ∃ sD, sD = (sC.pin nmF 2).1 := ⟨_, rfl⟩
    rw [← hsD] at y2 tC6
    obtain ⟨g1, g2, g3⟩ := y2.getD tC6.wf hm8 hm27
    refine TP.get tC6 g1 fun sl C7 o7 tC7 e7 => ?_
    refine loop_upto i (fun k z A => z = (k : Int) + 1 ∧ TP H A p d sD ∧ SlE EB ty_uint8 A sl [2]) ⟨rfl, tC7, o7⟩ ?_
    rintro k _ A2 next2 hk2 ⟨rfl, tA, oA⟩ hnext2
    refine br_mk (fun hc2 => ?_) (fun hc2 => ?_)
    · have hlt2 : k < i := by simp at hc2; omega
      have ew : IntKind.i64.wrap ((k : Int) + 1 + 1) = ((k + 1 : Nat) : Int) + 1 := by rw [wrap64 (by omega) (by omega)]; omega
      by_cases hk2' : k = 2
      · subst hk2'
        refine TP.get (a := (sD.get 3).1) (b := (sD.get 3).2.1) (e := (sD.get 3).2.2) tA rfl fun sl2 C8 o8 tC8 e8 => ?_
        refine br_f (by simp) ?_
        exact hnext2 hlt2 _ _ ⟨ew, tC8, oA.ext e8⟩
      · refine TP.get tA (g2 k hlt2 hk2') fun sl2 C8 o8 tC8 e8 => ?_
        have hn8 := o8.n (by decide)
        have ek : IntKind.i64.wrap ((k : Int) + 1 - 1) = (k : Int) := by rw [wrap64 (by omega) (by omega)]; omega
        refine br_f ?_ (hnext2 hlt2 _ _ ⟨ew, tC8, oA.ext e8⟩)
        rw [ek, wrap8, hn8]
        simp
    · have hge2 : k = i := by simp at hc2; omega
      have hn2 := oA.n (by decide)
      refine br_t (by rw [hn2]; rfl) ?_
      refine byte_of (SlB_byts oA) (i := 0) (by decide) rfl fun ad _ => ?_
      refine br_t (by decide) ?_
      refine TP.dropF (n := nmF) (e := 31) tA hg (congrArg Prod.snd g3) fun C9 tC9 => ?_
      refine br_t rfl ?_
      exact pworks_ok (tC9.gl hg) fun B eB => hK B (tC9.1.trans eB)

end Go.Proofs.YtbhddkmfhampbaaGreatDoor

/-
  A disk that was made since some heap: what a statement that makes its calls in a row walks by.
-/
namespace Go.Proofs.YtbhddkmfhampbaaGreatDoor
open Go.MapKept

/-- A disk that was made since 'H'. -/
def TD (H A : Heap) (d : Nat) (s : Dk) : Prop := Ext H A ∧ ∃ F, DiskAt F A d s ∧ ∀ b, F b → H.size ≤ b

section
variable {H A : Heap} {d : Nat} {s : Dk} {n : ByteArray}
theorem TD.ext {B : Heap} (t : TD H A d s) (e : Ext A B) : TD H B d s := by
  obtain ⟨h1, F, h2, h3⟩ := t
  exact ⟨h1.trans e, F, h2.keep fun b _ hl => e.same b hl id, h3⟩
theorem TD.wf (t : TD H A d s) : s.WF := by
  obtain ⟨h1, F, h2, h3⟩ := t; exact h2.wf
theorem TD.go (t : TD H A d s) : ∃ F, DiskAt F A d s ∧ ∀ (s' : Dk) (F' : Nat → Prop) (B : Heap), DiskAt F' B d s' → Step F F' A B → TD H B d s' := by
  obtain ⟨h1, F, h2, h3⟩ := t
  refine ⟨F, h2, fun s' F' B h4 S => ⟨⟨Nat.le_trans h1.size S.mod.size, fun b hb _ => (S.mod.same b (Nat.lt_of_lt_of_le hb h1.size) fun q => by have := h3 b q; omega).trans (h1.same b hb id)⟩, F', h4, fun b hb => ?_⟩⟩
  rcases S.own b hb with q | q
  · exact h3 b q
  · exact Nat.le_trans h1.size q
theorem TD.new {q : Int} {K : Option Addr → Heap → Prop} (e : Ext H A) (hq : q ≤ 9223372036854775807) (hK : ∀ d B, TD H B d (dk0 q) → Ext A B → K (at0 d) B) : disk_New.sp q A K :=
  New_ok hq fun F d B h e2 f => hK d B ⟨e.trans e2, F, h, fun b hb => Nat.le_trans e.size (f b hb)⟩ e2
theorem TD.create {K : Int → Heap → Prop} {e : Int} (t : TD H A d s) (hr : (s.create n).2 = e) (hK : ∀ B, TD H B d (s.create n).1 → K e B) : disk_Disk_Create.sp (at0 d) n A K := by
  obtain ⟨F, h1, h2⟩ := t.go
  subst hr
  exact Create_ok h1 fun F' B h3 S => hK B (h2 _ F' B h3 S)
theorem TD.remove {K : Int → Heap → Prop} {e : Int} (t : TD H A d s) (hr : (s.remove n).2 = e) (hK : ∀ B, TD H B d (s.remove n).1 → K e B) : disk_Disk_Remove.sp (at0 d) n A K := by
  obtain ⟨F, h1, h2⟩ := t.go
  subst hr
  exact Remove_ok h1 fun F' B h3 S => hK B (h2 _ F' B h3 S)
theorem TD.sync {K : Int → Heap → Prop} {e : Int} (t : TD H A d s) (hr : (s.sync n).2 = e) (hK : ∀ B, TD H B d (s.sync n).1 → K e B) : disk_Disk_Sync.sp (at0 d) n A K := by
  obtain ⟨F, h1, h2⟩ := t.go
  subst hr
  exact Sync_ok h1 fun F' B h3 S => hK B (h2 _ F' B h3 S)
theorem TD.crash {i k : Int} {K : Unit → Heap → Prop} (t : TD H A d s) (hi : i ≤ 9223372036854775807) (hK : ∀ B, TD H B d (s.setCrash i k) → K () B) : disk_Disk_Crash.sp (at0 d) i k A K := by
  obtain ⟨F, h1, h2⟩ := t.go
  exact Crash_ok h1 hi fun F' B h3 S => hK B (h2 _ F' B h3 S)
theorem TD.restart {K : Unit → Heap → Prop} (t : TD H A d s) (hl : s.logs < 68719476736) (hK : ∀ B, TD H B d s.restart → K () B) : disk_Disk_Restart.sp (at0 d) A K := by
  obtain ⟨F, h1, h2⟩ := t.go
  exact Restart_ok h1 hl fun F' B h3 S => hK B (h2 _ F' B h3 S)
/-- A page is written out of a slice that was made since, or ahead of all. -/
theorem TD.write {A0 : Heap} {page e : Int} {p3 : Sl} {b : List UInt8} {K : Int → Heap → Prop} (t : TD H A0 d s) (e0 : Ext A0 A) (hb : Byts A p3 b) (hp : ∀ ad, p3.a = some ad → A0.size ≤ ad.block ∨ ad.block < H.size) (hl : s.logs < 68719476736) (hr : (s.write n page b).2 = e)
    (hK : ∀ B, TD H B d (s.write n page b).1 → K e B) : disk_Disk_Write.sp (at0 d) n page p3 A K := by
  obtain ⟨h1, F, h2, h3⟩ := t
  have hlt := h2.lt
  have t2 : TD H A d s := TD.ext ⟨h1, F, h2, h3⟩ e0
  subst hr
  refine Write_ok (h2.keep fun b _ hl => e0.same b hl id) hb (fun ad ha hF => ?_) hl fun F' B h4 S => hK B ?_
  · have := hlt _ hF
    have := h3 _ hF
    rcases hp ad ha with q | q <;> omega
  · have z1 := h1.size; have z0 := e0.size
    refine ⟨⟨by have := S.mod.size; omega, fun b hb _ => (S.mod.same b (by omega) fun q => by have := h3 b q; omega).trans ((e0.same b (by omega) id).trans (h1.same b hb id))⟩, F', h4, fun b hb => ?_⟩
    rcases S.own b hb with q | q
    · exact h3 b q
    · omega
theorem TD.read {page e : Int} {b : List UInt8} {K : (Sl × Int) → Heap → Prop} (t : TD H A d s) (hr : s.read n page = (b, e)) (hK : ∀ r B, SlE EB ty_uint8 B r b → Ext A B → (∀ q, ownB r q → A.size ≤ q) → TD H B d s → K (r, e) B) : disk_Disk_Read.sp (at0 d) n page A K := by
  obtain ⟨F, h1, _⟩ := t.go
  refine Read_ok h1 fun r B o e1 f => ?_
  rw [hr] at o ⊢
  exact hK r B o e1 f (t.ext e1)
theorem TD.len {k : Nat} {e : Int} {K : (Int × Int) → Heap → Prop} (t : TD H A d s) (hr : s.len n = (k, e)) (hK : K ((k : Int), e) A) : disk_Disk_Len.sp (at0 d) n A K := by
  obtain ⟨F, h1, _⟩ := t.go
  refine Len_ok h1 ?_
  rw [hr]; exact hK
theorem TD.list {K : Sl → Heap → Prop} (t : TD H A d s) (hK : ∀ l B, SlE EN ty_string B l s.list → Ext A B → (∀ b, ownB l b → A.size ≤ b) → TD H B d s → K l B) : disk_Disk_List.sp (at0 d) A K := by
  obtain ⟨F, h1, _⟩ := t.go
  exact List_ok h1 fun l B o e f => hK l B o e f (t.ext e)
theorem TD.used {K : Int → Heap → Prop} (t : TD H A d s) (hK : K s.used A) : disk_Disk_Used.sp (at0 d) A K := by
  obtain ⟨F, h1, _⟩ := t.go; exact Used_ok h1 hK
theorem TD.ops {K : Int → Heap → Prop} (t : TD H A d s) (hK : K s.ops A) : disk_Disk_Ops.sp (at0 d) A K := by
  obtain ⟨F, h1, _⟩ := t.go; exact Ops_ok h1 hK
theorem TD.down {K : Bool → Heap → Prop} (t : TD H A d s) (hK : K s.down A) : disk_Disk_Down.sp (at0 d) A K := by
  obtain ⟨F, h1, _⟩ := t.go; exact Down_ok h1 hK
end
end Go.Proofs.YtbhddkmfhampbaaGreatDoor

/-
  A torn page breaks the pool: the walk.
-/
namespace Go.Proofs.YtbhddkmfhampbaaGreatDoor
open Go.MapKept

theorem Pl.pin_free {s : Pl} {n : ByteArray} {k : Int} {N : Nat} {b : List UInt8} (hw : s.wrong = 0) (hf : s.find n k = none) (hl : s.d.len n = (N, 0)) (hk : 0 ≤ k ∧ k < N) (hr : s.fs.length < s.most) (hrd : s.d.read n k = (b, 0)) :
    (∀ kd c, openP b = some (kd, c) → s.pin n k = (s.take ⟨n, k.toNat, kd, c, false, [], 0⟩, s.next, 0)) ∧ (openP b = none → s.pin n k = (s.met 20, 0, 20)) := by
  have e : s.pin n k = match s.load n k with | (q, some f, _) => (q.take f, q.next, 0) | (q, none, e) => (q.met e, 0, e) := by
    unfold Pl.pin; rw [if_neg (by simp [hw]), hf]; rfl
  have el : s.load n k = match openP b with | none => (s, none, 20) | some (kd, c) => (s, some ⟨n, k.toNat, kd, c, false, [], 0⟩, 0) := by
    unfold Pl.load
    rw [Pl.room_free hr, hl]
    simp only
    rw [if_neg (by simp), if_neg (by omega), if_neg (by simp), hrd]
    simp only
    rw [if_neg (by simp)]
    cases openP b <;> rfl
  refine ⟨fun kd c h => ?_, fun h => ?_⟩
  · rw [e, el, h]
  · rw [e, el, h]

def zeros512 : List UInt8 := List.replicate 512 0
theorem zeros_torn : openP zeros512 = none := by
  refine openP_none (List.length_replicate ..) ?_
  rintro ⟨_, _, h7, _⟩
  exact absurd h7 (by decide)

set_option maxHeartbeats 1000000 in
theorem torn_ok {H : Heap} {K : Bool → Heap → Prop} (hg : Gl H) (hK : ∀ B, Ext H B → K true B) : fathomlaw03_torn.sp H K := by
  refine fathomlaw03_torn.of ?_
  unfold fathomlaw03_torn.vc
  obtain ⟨c1, c2, c3, c4⟩ := create_live (q := 9) (by decide) (by decide) nmF_named
  refine TD.new (q := 9) (.refl _ _) (by decide) fun d H1 t1 _ => ?_
  refine TD.create (n := nmF) t1 c3 fun H2 t2 => ?_
  generalize ((dk0 9).create nmF).1 = d1 at *
  refine elByte1.make (base := 0) (by decide) (Int.le_refl _) (by decide) (by decide) (Nat.zero_le _) fun z H3 hz oz ez fz _ => ?_
  have z0 : SlE EB ty_uint8 H3 z zeros512 := SlB_of (by unfold zeros512; rw [pgV_rep]; exact oz)
  have hz5 : zeros512.length = 512 := List.length_replicate ..
  obtain ⟨w1, w2, w3⟩ := c1.write (k := 0) hz5 (by simp) (by simp)
  have l2 := d1.write_logs nmF 0 zeros512
  refine TD.write (n := nmF) (page := 0) t2 ez (SlB_byts z0) (fun ad ha => .inl (fz _ ⟨ad, ha, rfl⟩)) (by omega) w1 fun H4 t4 => ?_
  have hp1 : putAt [] 0 ⟨zeros512, hz5⟩ = [⟨zeros512, hz5⟩] := rfl
  rw [hp1] at w2
  have t4' : TD H H4 d (d1.write nmF 0 zeros512).1 := t4
  have w2' : Live (d1.write nmF 0 zeros512).1 nmF [⟨zeros512, hz5⟩] (Int.toNat 9) := w2
  generalize (d1.write nmF 0 zeros512).1 = d2 at *
  refine newC_rowT fun H5 s5 r5 e5 => ?_
  have b5 : Byts H5 (Sl.mk (some ⟨H4.size, 0, none⟩) 1 1) [1] := by
    refine ⟨rfl, ?_⟩
    intro i v hv
    refine ⟨_, rfl, ?_⟩
    rw [add_lit0]
    exact r5.cell (by simpa [u8i] using hv)
  have t5 := t4'.ext e5
  refine Seal_ok (kind := 1) (hg.mod t5.1 id) b5 (by simp) fun r H6 o6 e6 f6 => ?_
  have hs5 : (sealP 1 [1]).length = 512 := sealP_length (by simp)
  obtain ⟨x1, x2, x3⟩ := w2'.write (k := 1) hs5 (by simp) (by simp)
  have l3 := d2.write_logs nmF 1 (sealP 1 [1])
  refine TD.write (n := nmF) (page := 1) t5 e6 (SlB_byts o6) (fun ad ha => .inl (f6 _ ⟨ad, ha, rfl⟩)) (by omega) x1 fun H7 t7 => ?_
  have hp2 : putAt [⟨zeros512, hz5⟩] 1 ⟨sealP 1 [1], hs5⟩ = [⟨zeros512, hz5⟩, ⟨sealP 1 [1], hs5⟩] := rfl
  rw [hp2] at x2
  have t7' : TD H H7 d (d2.write nmF 1 (sealP 1 [1])).1 := t7
  have x2' : Live (d2.write nmF 1 (sealP 1 [1])).1 nmF [⟨zeros512, hz5⟩, ⟨sealP 1 [1], hs5⟩] (Int.toNat 9) := x2
  have l3' : (d2.write nmF 1 (sealP 1 [1])).1.logs ≤ d2.logs + 1 := l3
  generalize (d2.write nmF 1 (sealP 1 [1])).1 = d3 at *
  obtain ⟨h71, F7, h72, h73⟩ := t7'
  refine TP.new (m := 8) hg h71 h72 h73 (by decide) (by decide) fun p H8 t8 => ?_
  obtain ⟨s0, hs0⟩ : ∃ s0, s0 = pl0 d3 8 := ⟨_, rfl⟩
  rw [← hs0] at t8
  have y1 : s0.wrong = 0 := by rw [hs0]; rfl
  have y2 : s0.fs = [] := by rw [hs0]; rfl
  have y3 : s0.most = 8 := by rw [hs0]; rfl
  have y4 : s0.next = 1 := by rw [hs0]; rfl
  have y5 : s0.d = d3 := by rw [hs0]; rfl
  have p1 := (Pl.pin_free (s := s0) (n := nmF) (k := 1) y1 (by unfold Pl.find; rw [y2]; rfl) (by rw [y5]; exact x2'.len) (by simp) (by rw [y2, y3]; decide) (by rw [y5]; exact x2'.read (k := 1) rfl)).1 1 [1] (openP_sealP (by simp))
  rw [y4] at p1
  have m1 := s0.pin_logs nmF 1
  refine TP.pin (n := nmF) (k := 1) (r := (1, 0)) t8 hg (by decide) (by decide) (by decide) (by rw [y5]; omega) (by omega) (by rw [p1]) fun H9 t9 => ?_
  rw [p1] at t9 m1
  obtain ⟨s1, hs1⟩ : ∃ s1, s1 = s0.take ⟨nmF, (1 : Int).toNat, 1, [1], false, [], 0⟩ := ⟨_, rfl⟩
  have t9' : TP H H9 p d s1 := by rw [hs1]; exact t9
  have m1' : s1.d.logs ≤ s0.d.logs + 1 := by rw [hs1]; exact m1
  have v1 : s1.wrong = 0 := by rw [hs1]; exact y1
  have v2 : s1.fs = [Fr.pin 1 ⟨nmF, 1, 1, [1], false, [], 0⟩] := by rw [hs1, Pl.take_fs, y2, y4]; rfl
  have v3 : s1.most = 8 := by rw [hs1]; exact y3
  have v4 : s1.next = 2 := by
    rw [hs1]; show w64 (s0.next + 1) = 2; rw [y4]; decide
  have v5 : s1.d = d3 := by rw [hs1]; exact y5
  have p2 := (Pl.pin_free (s := s1) (n := nmF) (k := 0) v1 (by unfold Pl.find; rw [v2]; simp [Fr.pin]) (by rw [v5]; exact x2'.len) (by simp) (by rw [v2, v3]; decide) (by rw [v5]; exact x2'.read (k := 0) rfl)).2 zeros_torn
  refine TP.pin (n := nmF) (k := 0) (r := (0, 20)) t9' hg (by decide) (by decide) (by decide) (by rw [v5]; omega) (by omega) (by rw [p2]) fun H10 t10 => ?_
  rw [p2] at t10
  obtain ⟨s2, hs2⟩ : ∃ s2, s2 = s1.met 20 := ⟨_, rfl⟩
  have t10' : TP H H10 p d s2 := by rw [hs2]; exact t10
  have u0 := s1.met_d 20
  have u1 : s2.wrong = 20 := by rw [hs2]; rfl
  have u2 : s2.fs.length = 1 := by rw [hs2, u0.2.1, v2]; rfl
  have u3 : s2.next = 2 := by rw [hs2, u0.2.2.1, v4]
  have u4 : s2.d = d3 := by rw [hs2, u0.1, v5]
  have hne : s2.wrong ≠ 0 := by rw [u1]; decide
  refine TP.get (k := 1) (a := 0) (b := []) (e := 20) t10' (by unfold Pl.get; rw [if_pos hne, u1]) fun sl H11 _ t11 _ => ?_
  refine br_t rfl ?_
  refine TP.flush (n := nmF) (e := 20) t11 hg (by rw [u4]; omega) (by unfold Pl.flush; rw [if_pos hne, u1]) fun H12 t12 => ?_
  have e12 : (s2.flush nmF).1 = s2 := by unfold Pl.flush; rw [if_pos hne]
  rw [e12] at t12
  refine br_t rfl ?_
  refine TP.unpin (k := 1) (e := 20) t12 hg (by omega) (by unfold Pl.unpin; rw [if_pos hne, u1]) fun H13 t13 => ?_
  have e13 : (s2.unpin 1).1 = s2 := by unfold Pl.unpin; rw [if_pos hne]
  rw [e13] at t13
  refine br_t rfl ?_
  obtain ⟨F13, q1, _⟩ := t13.go
  refine Resident_ok q1 ?_
  rw [u2]
  exact hK H13 t13.1

end Go.Proofs.YtbhddkmfhampbaaGreatDoor

/-
  PoolKnown: the closed walk.
-/
namespace Go.Proofs.YtbhddkmfhampbaaGreatDoor
open Go.MapKept

theorem wrap_i64_fits (x : Int) : -9223372036854775808 ≤ IntKind.i64.wrap x ∧ IntKind.i64.wrap x ≤ 9223372036854775807 := by rw [IntKind.wrap_i64]; omega
theorem wrap_u8_fits (x : Int) : 0 ≤ IntKind.u8.wrap x ∧ IntKind.u8.wrap x < 256 := by
  simp only [IntKind.wrap, IntKind.bits, IntKind.signed]
  have h1 := Int.emod_nonneg x (show (256 : Int) ≠ 0 by decide)
  have h2 := Int.emod_lt_of_pos x (show (0 : Int) < 256 by decide)
  simp
  omega
theorem elPS : ElT Tryz.prog ty_sl_fathomlaw03_Step ty_fathomlaw03_Step EPS.size 48 := ElT_of (by kernel_rfl)
theorem zc_pstep : (zc Tryz.prog ty_fathomlaw03_Step).size = 5 := by kernel_rfl
def bE : ByteArray := ByteArray.empty
def bG : ByteArray := ByteArray.mk #[103]
def stF : PStep := (7, nmF, 0, 0, 0)
def stN : PStep := (1, nmF, 0, 0, 0)
theorem fine_of {a : Int} {n : ByteArray} {b c d : Int} (hn : n.size ≤ 100) (hb : -9223372036854775808 ≤ b ∧ b ≤ 9223372036854775807) (hd : 0 ≤ d ∧ d < 256) : PStep.fine (a, n, b, c, d) := ⟨by show n.size ≤ _; omega, hb, hd⟩

/-- A slice of steps that was made since 'H'. -/
def PSl (H A : Heap) (s : Sl) (L : Nat) : Prop := ∃ xs : List PStep, SlE EPS ty_fathomlaw03_Step A s xs ∧ (∀ x ∈ xs, PStep.fine x) ∧ xs.length = L ∧ ∀ b, ownB s b → H.size ≤ b

section
variable {H A B : Heap} {s : Sl} {L : Nat} {R : Bool → Heap → Prop}
theorem PSl.ext (h : PSl H A s L) (e : Ext A B) : PSl H B s L := by
  obtain ⟨xs, h1, h2, h3, h4⟩ := h
  exact ⟨xs, h1.ext e, h2, h3, h4⟩
theorem PSl.n (h : PSl H A s L) : s.n = L := by
  obtain ⟨xs, h1, h2, h3, h4⟩ := h
  rw [SlE.n h1 (by decide), h3]
theorem PSl.cap (h : PSl H A s L) : s.n ≤ s.c := by
  obtain ⟨xs, h1, h2, h3, h4⟩ := h
  exact Owns.cap h1
theorem PSl.lt (h : PSl H A s L) : ∀ b, ownB s b → b < A.size := by
  obtain ⟨xs, h1, h2, h3, h4⟩ := h
  exact Owns.lt h1
theorem PSl.keep (h : PSl H A s L) (k : ∀ b, ownB s b → b < A.size → B[b]? = A[b]?) : PSl H B s L := by
  obtain ⟨xs, h1, h2, h3, h4⟩ := h
  exact ⟨xs, Owns.keep h1 k, h2, h3, h4⟩
theorem PSl.plays (h : PSl H A s L) (hg : Gl A) {quota frames p keep : Int} (hq : quota ≤ 9223372036854775807) (hp : p ≤ 9223372036854775807) (hK : ∀ B, Ext A B → R true B) : fathomlaw03_PoolPlays.sp quota frames s p keep A R := by
  have hn := h.n
  obtain ⟨xs, h1, h2, h3, h4⟩ := h
  exact PoolPlays_ok hg hq hp h1.rd (by omega) h2 hK
theorem PSl.pre (h : PSl H A s L) (hg : Gl A) {k : Nat} (hk : k ≤ L) {quota frames p keep : Int} {c : Nat} (hc : c = s.c) (hq : quota ≤ 9223372036854775807) (hp : p ≤ 9223372036854775807) (hK : ∀ B, Ext A B → R true B) :
    fathomlaw03_PoolPlays.sp quota frames (Sl.mk (slA s.a c 0 5) ((k : Int).toNat - 0) (c - 0)) p keep A R := by
  subst hc
  have hn := h.n; have hcap := h.cap
  obtain ⟨xs, h1, h2, h3, h4⟩ := h
  have hs : RdE EPS A (slA s.a s.c 0 5) (xs.take k) := by
    have := RdE.take (i := k) (RdE.drop (c := s.c) (i := 0) h1.rd (by omega))
    rwa [List.drop_zero] at this
  exact PoolPlays_ok hg hq hp hs (by simp; omega) (fun x hx => h2 x (List.mem_of_mem_take hx)) hK
theorem PSl.first {cs : Array Value} (ys : List PStep) (hcs : EPS.all ys = cs.toList) (hf : ∀ x ∈ ys, PStep.fine x) (r : RowT B A.size ty_fathomlaw03_Step cs) (hl : ys.length ≤ 1000000) : PSl A B (Sl.mk (some ⟨A.size, 0, none⟩) ys.length ys.length) ys.length := by
  have hl2 : (EPS.all ys).length = ys.length * 5 := Enc.all_length EPS ys
  refine ⟨ys, ⟨?_, .inr ⟨A.size, ys.length, cs, rfl, Nat.zero_le _, r, Nat.le_refl _, by unfold maxLen; omega, ?_, ?_⟩⟩, hf, rfl, ?_⟩
  · exact hl2
  · rw [← Array.length_toList, ← hcs]; exact hl2
  · show cs.toList.take (ys.length * 5) = _
    rw [hcs, ← hl2, hcs, List.take_of_length_le (Nat.le_refl _)]
  · rintro b ⟨ad, e1, e2⟩; cases e1; have : A.size = b := e2; omega
theorem psteps_app {K : Sl → Heap → Prop} {cs : Array Value} {n : Nat} (h : PSl H A s L) (e : Ext H A) (ys : List PStep) (hcs : EPS.all ys = cs.toList) (hf : ∀ x ∈ ys, PStep.fine x) (hn : n = ys.length) (hl : L + ys.length ≤ 1000000)
    (hK : ∀ s' C, PSl H C s' (L + ys.length) → Ext H C → Mod (ownB s) A C → K s' C) :
    newC A cs ty_fathomlaw03_Step fun p H1 => doT cSl Tryz.prog (Builtin.append_ #[ty_sl_fathomlaw03_Step, ty_sl_fathomlaw03_Step] ty_sl_fathomlaw03_Step #[s.v, (.slice (some p) n n)]) H1 K := by
  obtain ⟨xs, h1, h2, h3, h4⟩ := h
  refine newC_rowT fun H1 s1 r1 e1 => ?_
  subst hn
  have hx : RdE EPS H1 (some ⟨A.size, 0, none⟩) ys := by
    intro i v hv
    refine ⟨_, rfl, ?_⟩
    rw [add_lit0]
    refine r1.cell ?_
    have hv' : (EPS.all ys)[i]? = some v := hv
    rw [hcs] at hv'
    simpa using hv'
  refine SlE.append (E := EPS) elPS (s := s) (x := Sl.mk (some ⟨A.size, 0, none⟩) ys.length ys.length) (h1.ext e1) hx rfl (by omega) (by omega) fun s' C o g _ => ?_
  have z0 := e.size; have z1 := e1.size; have z2 := g.1.size
  have m : Mod (ownB s) A C := (Ext.mod e1).trans g.1
  refine hK s' C ⟨xs ++ ys, o, fun x hx => ?_, by simp [h3], fun b hb => ?_⟩ ⟨by omega, fun b hb _ => (m.same b (by omega) fun q => by have := h4 b q; omega).trans (e.same b hb id)⟩ m
  · rcases List.mem_append.1 hx with q | q
    · exact h2 x q
    · exact hf x q
  · rcases g.2 b hb with q | q
    · exact h4 b q
    · omega
theorem psteps_copy {K : Sl → Heap → Prop} (h : PSl H A s L) (hl : L ≤ 1000000) (hK : ∀ s' C, PSl A C s' L → Ext A C → K s' C) :
    doT cSl Tryz.prog (Builtin.append_ #[ty_sl_fathomlaw03_Step, ty_sl_fathomlaw03_Step] ty_sl_fathomlaw03_Step #[(.slice none 0 0), s.v]) A K := by
  have hn := h.n
  obtain ⟨xs, h1, h2, h3, h4⟩ := h
  refine SlE.append (E := EPS) elPS (s := Sl.mk none 0 0) (x := s) (l := []) (SlE.nil _ _ _) h1.rd (by omega) (by simp; omega) (by simp; omega) fun s' C o g _ => ?_
  refine hK s' C ⟨xs, o, h2, h3, fun b hb => (g.2 b hb).resolve_left nil_own⟩ (g.1.mono fun b _ q => nil_own q)

def rowL : List PStep := [stF, stN, (3, bE, 3, 1, 5), (2, bE, 0, 1, 0), (4, bE, 0, 1, 0), (4, bE, 0, 1, 0), (0, nmF, 0, 0, 0), (2, bE, 0, 2, 0), (0, nmF, 1, 0, 0), (0, nmF, -1, 0, 0), (0, bG, 0, 0, 0), (1, bG, 0, 0, 0), (5, bG, 0, 0, 0), (6, bG, 0, 0, 0), (6, nmF, 0, 0, 0), (0, nmF, 0, 0, 0), (4, bE, 0, 2, 0), (6, nmF, 0, 0, 0), (4, bE, 0, 3, 0), (5, nmF, 0, 0, 0), (3, bE, 1, 3, 0), (3, bE, 1, 9, 0), (6, nmF, 0, 0, 0), (0, nmF, 0, 0, 0), stF, stN, (3, bE, 504, 4, 0), (3, bE, 505, 4, 0), (2, bE, 0, 4, 0)]
theorem rowL_fine : ∀ x ∈ rowL, PStep.fine x := by
  intro x hx
  have hb : (rowL.all fun x => decide (x.2.1.size ≤ 100) && (decide (-1000 ≤ x.2.2.1) && (decide (x.2.2.1 ≤ 1000) && (decide (0 ≤ x.2.2.2.2) && decide (x.2.2.2.2 < 256))))) = true := by decide
  have := List.all_eq_true.1 hb x hx
  simp only [Bool.and_eq_true, decide_eq_true_eq] at this
  exact ⟨by omega, ⟨by omega, by omega⟩, by omega, by omega⟩
theorem one_fine {x : PStep} (h : PStep.fine x) : ∀ y ∈ [x], PStep.fine y := by intro y hy; simp at hy; subst hy; exact h
theorem stF_fine : PStep.fine stF := fine_of (by decide) (by decide) (by decide)
theorem stN_fine : PStep.fine stN := fine_of (by decide) (by decide) (by decide)
theorem cons_fine {x : PStep} {l : List PStep} (h : PStep.fine x) (k : ∀ y ∈ l, PStep.fine y) : ∀ y ∈ x :: l, PStep.fine y := by
  intro y hy
  rcases List.mem_cons.1 hy with rfl | q
  · exact h
  · exact k y q

set_option maxRecDepth 20000 in
set_option maxHeartbeats 4000000 in
theorem PoolKnown_ok (hg : Gl H) (hK : ∀ B, Ext H B → R true B) : fathomlaw03_PoolKnown.sp H R := by
  refine fathomlaw03_PoolKnown.of ?_
  unfold fathomlaw03_PoolKnown.vc
  have one5 : ∀ {a b c d : Int} {n : ByteArray}, ∀ v ∈ (#[Value.int .i64 a, .string n, .int .i64 b, .int .i64 c, .int .u8 d] : Array Value).toList, v.oneCell' = true := by
    intro a b c d n v hv
    simp at hv
    rcases hv with rfl | rfl | rfl | rfl | rfl <;> rfl
  refine newC_rowT fun H1 s1 r1 e1 => ?_
  refine RowT.stAll r1 (cs := #[.int .i64 7, .string nmF, .int .i64 0, .int .i64 0, .int .u8 0]) (by kernel_rfl) zc_pstep one5 fun H2 r2 m2 z2 => ?_
  refine newC_rowT fun H3 s3 r3 e3 => ?_
  refine RowT.stAll r3 (cs := #[.int .i64 1, .string nmF, .int .i64 0, .int .i64 0, .int .u8 0]) (by kernel_rfl) zc_pstep one5 fun H4 r4 m4 z4 => ?_
  have y1 := e1.size; have y2 := m2.size; have y3 := e3.size; have y4 := m4.size
  have e04 : Ext H H4 := ⟨by omega, fun b hb _ => (m4.same b (by omega) (by omega)).trans ((e3.same b (by omega) id).trans ((m2.same b (by omega) (by omega)).trans (e1.same b hb id)))⟩
  have p4 : RowT H4 H.size ty_fathomlaw03_Step #[.int .i64 7, .string nmF, .int .i64 0, .int .i64 0, .int .u8 0] := (r2.ext e3).mod m4 (by omega)
  have rdF : ∀ {A : Heap} {K : (Int × ByteArray × Int × Int × Int) → Prop}, Ext H4 A → K (7, nmF, 0, 0, 0) → ldA (cAgg [(cInt .i64), cStr, (cInt .i64), (cInt .i64), (cInt .u8)]) 5 A ⟨H.size, 0, none⟩ K := fun e h => RowT.ldA (p4.ext e) rfl rfl h
  have rdN : ∀ {A : Heap} {K : (Int × ByteArray × Int × Int × Int) → Prop}, Ext H4 A → K (1, nmF, 0, 0, 0) → ldA (cAgg [(cInt .i64), cStr, (cInt .i64), (cInt .i64), (cInt .u8)]) 5 A ⟨H2.size, 0, none⟩ K := fun e h => RowT.ldA (r4.ext e) rfl rfl h
  refine rdF (.refl _ _) (rdN (.refl _ _) (rdF (.refl _ _) (rdN (.refl _ _) ?_)))
  -- the row
  refine newC_rowT fun H5 s5 r5 e5 => ?_
  have rowS : PSl H4 H5 (Sl.mk (some ⟨H4.size, 0, none⟩) 29 29) 29 := PSl.first rowL rfl rowL_fine r5 (by decide)
  have e45 : Ext H4 H5 := e5
  -- many
  refine rdF e45 ?_
  refine newC_rowT fun H6 s6 r6 e6 => ?_
  have many0 : PSl H5 H6 (Sl.mk (some ⟨H5.size, 0, none⟩) 1 1) 1 := PSl.first [stF] rfl (one_fine stF_fine) r6 (by decide)
  refine loop_upto 10 (fun k x A => x.2 = (k : Int) ∧ Ext H5 A ∧ PSl H5 A x.1 (1 + k)) ⟨rfl, e6, many0⟩ ?_
  rintro k ⟨sl, i⟩ A next hk ⟨hi, eA, mA⟩ hnext
  simp only at hi mA hnext ⊢
  subst hi
  refine br_mk (fun hc => ?_) (fun _ => ?_)
  · have hlt : k < 10 := by have : (k : Int) < 10 := by simpa using hc
                            omega
    refine rdN (e45.trans eA) ?_
    exact psteps_app mA eA [stN] rfl (one_fine stN_fine) rfl (by simp; omega) fun s' C mC eC _ => hnext hlt _ _ ⟨succ64 k (by omega), eC, by simpa [Nat.add_assoc] using mC⟩
  refine ⟨Nat, fun j x A => x.2 = (j : Int) + 1 ∧ j ≤ 8 ∧ Ext H5 A ∧ PSl H5 A x.1 (1 + k + 4 * j), fun j => 8 - j, ⟨0, rfl, Nat.zero_le _, eA, by simpa using mA⟩, ?_⟩
  rintro j ⟨sl2, i⟩ A2 ⟨hi, hj, eA2, mA2⟩
  simp only at hi mA2 ⊢
  subst hi
  refine br_mk (fun hc => ?_) (fun _ => ?_)
  · have hlt : j < 8 := by have : (j : Int) + 1 < 9 := by simpa using hc
                           omega
    refine rdN (e45.trans eA2) ?_
    refine psteps_app mA2 eA2 [(3, bE, 2, (j : Int) + 1, IntKind.u8.wrap ((j : Int) + 1)), (4, bE, 0, IntKind.i64.wrap (9 - ((j : Int) + 1)), 0), stN, (0, nmF, IntKind.i64.wrap ((j : Int) + 1 - 1), 0, 0)] rfl ?_ rfl (by simp; omega) fun s' C mC eC _ => ?_
    · exact cons_fine (fine_of (by decide) (by decide) (wrap_u8_fits _)) (cons_fine (fine_of (by decide) (by decide) (by decide)) (cons_fine stN_fine (one_fine (fine_of (by decide) (wrap_i64_fits _) (by decide)))))
    · refine ⟨j + 1, ⟨?_, by omega, eC, ?_⟩, by show 8 - (j + 1) < 8 - j; omega⟩
      · show IntKind.i64.wrap ((j : Int) + 1 + 1) = ((j + 1 : Nat) : Int) + 1
        rw [wrap64 (by omega) (by omega)]; omega
      · have : 1 + k + 4 * (j + 1) = 1 + k + 4 * j + 4 := by omega
        rw [this]; exact mC
  refine psteps_app mA2 eA2 [(5, nmF, 0, 0, 0)] rfl (one_fine (fine_of (by decide) (by decide) (by decide))) rfl (by simp; omega) fun many H14 many14 e14 _ => ?_
  obtain ⟨Lm, hLm⟩ : ∃ L, L = 1 + k + 4 * j + [((5, nmF, 0, 0, 0) : PStep)].length := ⟨_, rfl⟩
  rw [← hLm] at many14
  refine newC_rowT fun H15 s15 r15 e15 => ?_
  have e515 : Ext H5 H15 := e14.trans e15
  have e415 : Ext H4 H15 := e45.trans e515
  have g15 : Gl H15 := hg.mod (e04.trans e415) id
  have row15 := rowS.ext e515
  have many15 := many14.ext e15
  refine loop_upto 5 (fun q x A => x = (q : Int) ∧ Ext H15 A) ⟨rfl, .refl _ _⟩ ?_
  rintro q _ A3 next3 hq ⟨rfl, eA3⟩ hnext3
  refine br_mk (fun hc => ?_) (fun _ => ?_)
  · have hlt : q < 5 := by have : (q : Int) < 5 := by simpa using hc
                           omega
    refine ⟨⟨by omega, by omega⟩, ?_⟩
    obtain ⟨quota, hq0, hqc⟩ : ∃ quota : Int, (0 ≤ quota ∧ quota ≤ 100) ∧ (#[(.int .i64 (0 : Int)), (.int .i64 (1 : Int)), (.int .i64 (8 : Int)), (.int .i64 (9 : Int)), (.int .i64 (100 : Int))] : Array Value)[q]? = some (.int .i64 quota) := by
      have : q = 0 ∨ q = 1 ∨ q = 2 ∨ q = 3 ∨ q = 4 := by omega
      rcases this with rfl | rfl | rfl | rfl | rfl
      · exact ⟨0, by decide, rfl⟩
      · exact ⟨1, by decide, rfl⟩
      · exact ⟨8, by decide, rfl⟩
      · exact ⟨9, by decide, rfl⟩
      · exact ⟨100, by decide, rfl⟩
    rw [Int.toNat_natCast, Nat.mul_one]
    refine RowT.ld (c := cInt .i64) (i := q) (x := quota) (r15.ext eA3) hqc ?_
    refine ⟨Nat, fun i z A => z = (i : Int) - 1 ∧ i ≤ 30 ∧ Ext H15 A, fun i => 30 - i, ⟨0, by omega, by omega, eA3⟩, ?_⟩
    rintro i _ A4 ⟨rfl, hi, eA4⟩
    refine br_mk (fun hc2 => ?_) (fun _ => ?_)
    · have hi25 : i < 25 := by have : (i : Int) - 1 < 24 := by simpa using hc2
                               omega
      have g4 : Gl A4 := g15.mod eA4 id
      refine (row15.ext eA4).plays g4 (by omega) (by omega) fun A5 e5' => br_f rfl ?_
      refine (many15.ext (eA4.trans e5')).plays (g4.mod e5' id) (by omega) (by omega) fun A6 e6' => br_f rfl ?_
      have ht : Int.tmod quota 2 = 0 ∨ Int.tmod quota 2 = 1 := by
        rw [Int.tmod_eq_emod_of_nonneg hq0.1]; omega
      have eA6 := (eA4.trans e5').trans e6'
      rw [wrap64 (x := (i : Int) - 1 + 1) (by omega) (by omega)]
      rcases ht with h0 | h0
      · rw [h0, wrap64 (by omega) (by omega)]
        exact ⟨i + 1, ⟨by omega, by omega, eA6⟩, by show 30 - (i + 1) < 30 - i; omega⟩
      · rw [h0, wrap64 (by omega) (by omega)]
        exact ⟨i + 2, ⟨by omega, by omega, eA6⟩, by show 30 - (i + 2) < 30 - i; omega⟩
    refine ⟨Nat, fun i z A => z = 2 * (i : Int) ∧ i ≤ 15 ∧ Ext H15 A, fun i => 15 - i, ⟨0, by omega, by omega, eA4⟩, ?_⟩
    rintro i2 _ A5 ⟨rfl, hi2, eA5⟩
    refine br_mk (fun hc2 => ?_) (fun _ => hnext3 hlt _ _ ⟨succ64 q (by omega), eA5⟩)
    have h29 : 2 * (i2 : Int) < 29 := by simpa using hc2
    refine ⟨⟨by omega, by omega⟩, ?_⟩
    have e2i : 2 * (i2 : Int) = ((2 * i2 : Nat) : Int) := by omega
    rw [e2i]
    refine (row15.ext eA5).pre (k := 2 * i2) (g15.mod eA5 id) (by omega) rfl (by omega) (by omega) fun A6 e6' => br_f rfl ?_
    exact ⟨i2 + 1, ⟨by rw [wrap64 (by omega) (by omega)]; omega, by omega, eA5.trans e6'⟩, by show 15 - (i2 + 1) < 15 - i2; omega⟩
  -- full
  have e43 : Ext H4 A3 := e415.trans eA3
  refine rdF e43 ?_
  refine newC_rowT fun F1 sf rf ef => ?_
  have full0 : PSl A3 F1 (Sl.mk (some ⟨A3.size, 0, none⟩) 1 1) 1 := PSl.first [stF] rfl (one_fine stF_fine) rf (by decide)
  refine loop_upto 8 (fun k x A => x.2 = (k : Int) ∧ Ext A3 A ∧ PSl A3 A x.1 (1 + k)) ⟨rfl, ef, full0⟩ ?_
  rintro k5 ⟨sl5, i⟩ B5 next5 hk5 ⟨hi, eB5, mB5⟩ hnext5
  simp only at hi mB5 hnext5 ⊢
  subst hi
  refine br_mk (fun hc => ?_) (fun _ => ?_)
  · have hlt : k5 < 8 := by have : (k5 : Int) < 8 := by simpa using hc
                            omega
    refine rdN (e43.trans eB5) ?_
    exact psteps_app mB5 eB5 [stN] rfl (one_fine stN_fine) rfl (by simp; omega) fun s' C mC eC _ => hnext5 hlt _ _ ⟨succ64 k5 (by omega), eC, by simpa [Nat.add_assoc] using mC⟩
  refine ⟨Nat, fun j x A => x.2 = (j : Int) + 1 ∧ j ≤ 8 ∧ Ext A3 A ∧ PSl A3 A x.1 (1 + k5 + j), fun j => 8 - j, ⟨0, rfl, Nat.zero_le _, eB5, by simpa using mB5⟩, ?_⟩
  rintro j6 ⟨full, i⟩ B6 ⟨hi, hj6, eB6, mB6⟩
  simp only at hi mB6 ⊢
  subst hi
  refine br_mk (fun hc => ?_) (fun _ => ?_)
  · have hlt : j6 < 8 := by have : (j6 : Int) + 1 < 9 := by simpa using hc
                            omega
    refine psteps_app mB6 eB6 [(3, bE, (j6 : Int) + 1, (j6 : Int) + 1, IntKind.u8.wrap ((j6 : Int) + 1))] rfl (one_fine (fine_of (by decide) ⟨by omega, by omega⟩ (wrap_u8_fits _))) rfl (by simp; omega) fun s' C mC eC _ => ?_
    refine ⟨j6 + 1, ⟨?_, by omega, eC, ?_⟩, by show 8 - (j6 + 1) < 8 - j6; omega⟩
    · show IntKind.i64.wrap ((j6 : Int) + 1 + 1) = ((j6 + 1 : Nat) : Int) + 1
      rw [wrap64 (by omega) (by omega)]; omega
    · simpa [Nat.add_assoc] using mC
  obtain ⟨Lf, hLf⟩ : ∃ L, L = 1 + k5 + j6 := ⟨_, rfl⟩
  rw [← hLf] at mB6
  have hLf2 : Lf ≤ 17 := by omega
  refine newC_rowT fun G1 sg1 rg1 eg1 => ?_
  refine newC_rowT fun G2 sg2 rg2 eg2 => ?_
  refine newC_rowT fun G3 sg3 rg3 eg3 => ?_
  refine newC_rowT fun C0 sg4 rg4 eg4 => ?_
  have eBC : Ext B6 C0 := ((eg1.trans eg2).trans eg3).trans eg4
  have e4C : Ext H4 C0 := (e43.trans eB6).trans eBC
  have gC0 : Gl C0 := hg.mod (e04.trans e4C) id
  have fullC := mB6.ext eBC
  have rowC : PSl H4 C0 (Sl.mk (some ⟨H4.size, 0, none⟩) 29 29) 29 := row15.ext ((eA3.trans eB6).trans eBC)
  have ints : ∀ {b : Nat} {A : Heap} (g : List Int), RowT A b ty_int (g.map (Value.int .i64)).toArray → Ints .i64 A (Sl.mk (some ⟨b, 0, none⟩) g.length g.length) g := by
    intro b A g hr
    refine ⟨rfl, fun i v hv => ⟨_, rfl, ?_⟩⟩
    rw [add_lit0]
    exact hr.cell (by simpa using hv)
  have q1 := ints [3, 1, 2, 5, 4] (((rg1.ext eg2).ext eg3).ext eg4)
  have q2 := ints [8, 7] ((rg2.ext eg3).ext eg4)
  have q3 := ints [1, 2, 3] (rg3.ext eg4)
  refine loop_upto 3 (fun q x A => x = (q : Int) ∧ Ext C0 A) ⟨rfl, .refl _ _⟩ ?_
  rintro q7 _ A7 next7 hq7 ⟨rfl, eA7⟩ hnext7
  have g7 : Gl A7 := gC0.mod eA7 id
  refine br_mk (fun hc => ?_) (fun _ => ?_)
  · have hlt : q7 < 3 := by have : (q7 : Int) < 3 := by simpa using hc
                            omega
    refine ⟨⟨by omega, by omega⟩, ?_⟩
    obtain ⟨gone, gl, hgc, hgi, hg2, hg5⟩ : ∃ (gone : Sl) (gl : List Int), hCell C0 (Addr.add ⟨G3.size, 0, none⟩ ((q7 : Int).toNat * 1)) = some (cSl.enc gone) ∧ Ints .i64 C0 gone gl ∧ 2 ≤ gl.length ∧ gl.length ≤ 5 := by
      rw [Int.toNat_natCast, Nat.mul_one, add_lit0]
      have : q7 = 0 ∨ q7 = 1 ∨ q7 = 2 := by omega
      rcases this with rfl | rfl | rfl
      · exact ⟨_, _, rg4.cell rfl, q1, by decide, by decide⟩
      · exact ⟨_, _, rg4.cell rfl, q2, by decide, by decide⟩
      · exact ⟨_, _, rg4.cell rfl, q3, by decide, by decide⟩
    refine ⟨gone, ?_, ?_⟩
    · exact eA7.cell hgc id
    have goneI : ∀ {A : Heap}, Ext A7 A → Ints .i64 A gone gl := fun e => (hgi.ext eA7).ext e
    have hgn := hgi.len
    refine psteps_copy (fullC.ext eA7) (by omega) fun l0 A8 l8 e8 => ?_
    refine loop_upto gl.length (fun j x A => x.2 = (j : Int) ∧ Ext A7 A ∧ PSl A7 A x.1 (Lf + j)) ⟨rfl, e8, l8⟩ ?_
    rintro j8 ⟨l, i⟩ A9 next8 hj8 ⟨hi, eA9, mA9⟩ hnext8
    simp only at hi mA9 hnext8 ⊢
    subst hi
    refine br_mk (fun hc2 => ?_) (fun _ => ?_)
    · have hlt8 : j8 < gl.length := by rw [hgn] at hc2; simpa using hc2
      refine ints_get (goneI eA9) rfl hlt8 fun ad had => ?_
      exact psteps_app mA9 eA9 [(4, bE, 0, gl.getD j8 0, 0)] rfl (one_fine (fine_of (by decide) (by decide) (by decide))) rfl (by simp; omega) fun s' C mC eC _ => hnext8 hlt8 _ _ ⟨succ64 j8 (by omega), eC, by simpa [Nat.add_assoc] using mC⟩
    have e49 : Ext H4 A9 := (e4C.trans eA7).trans eA9
    refine psteps_copy mA9 (by omega) fun again0 A10 ag10 e10 => ?_
    refine ints_get (goneI (eA9.trans e10)) (i := 0) (j := 0) rfl (by omega) fun ad had => ?_
    refine rdN (e49.trans e10) (rdN (e49.trans e10) ?_)
    refine psteps_app ag10 e10 [(0, nmF, IntKind.i64.wrap (gl.getD 0 0 - 1), 0, 0), (4, bE, 0, 9, 0), stN, stN, (2, bE, 0, 10, 0)] rfl ?_ rfl (by simp; omega) fun again A11 ag11 e11 _ => ?_
    · exact cons_fine (fine_of (by decide) (wrap_i64_fits _) (by decide)) (cons_fine (fine_of (by decide) (by decide) (by decide)) (cons_fine stN_fine (cons_fine stN_fine (one_fine (fine_of (by decide) (by decide) (by decide))))))
    refine rdN (e49.trans e11) (rdN (e49.trans e11) ?_)
    refine ints_get (goneI (eA9.trans e11)) (i := 1) (j := 1) rfl (by omega) fun ad1 had1 => ?_
    have hll := mA9.lt
    refine psteps_app (mA9.ext e11) (eA9.trans e11) [stN, stN, (0, nmF, IntKind.i64.wrap (gl.getD 1 0 - 1), 0, 0)] rfl ?_ rfl (by simp; omega) fun l2 A12 l12 e12 m12 => ?_
    · exact cons_fine stN_fine (cons_fine stN_fine (one_fine (fine_of (by decide) (wrap_i64_fits _) (by decide))))
    have ag12 : PSl A9 A12 again _ := ag11.keep fun b hb hbl => m12.same b hbl fun q => by
      have := hll b q
      obtain ⟨_, _, _, _, h4⟩ := ag11
      have := h4 b hb; omega
    have e7_12 : Ext A7 A12 := e12
    have g12 : Gl A12 := g7.mod e12 id
    have hl2n := l12.n; have hl2c := l12.cap; have hfn := mB6.n
    refine loop_upto (j8 + 4) (fun j z A => z = ((Lf + j : Nat) : Int) ∧ Ext A12 A) ⟨by rw [hfn]; rfl, .refl _ _⟩ ?_
    rintro j9 _ A13 next9 hj9 ⟨rfl, eA13⟩ hnext9
    have g13 : Gl A13 := g12.mod eA13 id
    simp only [List.length_cons, List.length_nil] at hl2n
    refine br_mk (fun hc3 => ?_) (fun hc3 => ?_)
    · have hle : Lf + j9 ≤ l2.n := by have hc4 : ((Lf : Int) + (j9 : Int)) ≤ (l2.n : Int) := by simpa using hc3
                                      omega
      refine ⟨⟨by omega, by omega⟩, ?_⟩
      refine (l12.ext eA13).pre (k := Lf + j9) g13 (by simp; omega) rfl (by omega) (by omega) fun A14 e14' => br_f rfl ?_
      exact hnext9 (by omega) _ _ ⟨succ64 (Lf + j9) (by omega), eA13.trans e14'⟩
    · refine (ag12.ext eA13).plays g13 (by omega) (by omega) fun A14 e14' => br_f rfl ?_
      exact hnext7 hlt _ _ ⟨succ64 q7 (by omega), ((eA7.trans e12).trans eA13).trans e14'⟩
  -- frames
  refine newC_rowT fun K1 sk rk ek => ?_
  refine loop_upto 7 (fun q x A => x = (q : Int) ∧ Ext K1 A) ⟨rfl, .refl _ _⟩ ?_
  rintro q10 _ A20 next10 hq10 ⟨rfl, eA20⟩ hnext10
  have eC20 : Ext C0 A20 := (eA7.trans ek).trans eA20
  have g20 : Gl A20 := gC0.mod eC20 id
  refine br_mk (fun hc => ?_) (fun _ => ?_)
  · have hlt : q10 < 7 := by have : (q10 : Int) < 7 := by simpa using hc
                             omega
    refine ⟨⟨by omega, by omega⟩, ?_⟩
    obtain ⟨frames, hfc⟩ : ∃ frames : Int, (#[(.int .i64 (-1 : Int)), (.int .i64 (0 : Int)), (.int .i64 (7 : Int)), (.int .i64 (8 : Int)), (.int .i64 (9 : Int)), (.int .i64 (4096 : Int)), (.int .i64 (4097 : Int))] : Array Value)[q10]? = some (.int .i64 frames) := by
      have : q10 = 0 ∨ q10 = 1 ∨ q10 = 2 ∨ q10 = 3 ∨ q10 = 4 ∨ q10 = 5 ∨ q10 = 6 := by omega
      rcases this with rfl | rfl | rfl | rfl | rfl | rfl | rfl <;> exact ⟨_, rfl⟩
    rw [Int.toNat_natCast, Nat.mul_one]
    refine RowT.ld (c := cInt .i64) (i := q10) (x := frames) (rk.ext eA20) hfc ?_
    refine (rowC.ext eC20).plays g20 (by omega) (by omega) fun A21 e21 => br_f rfl ?_
    refine PoolPins_ok (g20.mod e21 id) fun A22 e22 => br_f rfl ?_
    refine rdN (((e4C.trans eC20).trans e21).trans e22) ?_
    refine PoolNone_ok ((g20.mod e21 id).mod e22 id) (by decide) fun A23 e23 => br_f rfl ?_
    exact hnext10 hlt _ _ ⟨succ64 q10 (by omega), ((eA20.trans e21).trans e22).trans e23⟩
  refine torn_ok g20 fun A21 e21 => br_t rfl ?_
  exact pworks_ok (g20.mod e21 id) fun A22 e22 => hK A22 ((((e04.trans e4C).trans eC20).trans e21).trans e22)

end
end Go.Proofs.YtbhddkmfhampbaaGreatDoor

/-
  PoolKnown: the law returns true; the table of the page's sum is laid as the program's text lays it. No condition beside that.
-/
namespace Go.Proofs.YtbhddkmfhampbaaGreatDoor
open Go.ChangeShapes Go.WideShapes Go.ChangeAt Go.RowKit

set_option maxRecDepth 100000 in
theorem poolKnown_lifted (os : Os) (started : os.Started) (H : Type) (enc : TypeId × Value → H) :
    ReturnsInHanded {} Tryz.checked os 4 .any (fun w args => (Rows.poolKnownSpec.pre enc Tryz.prog Tryz.f4 [] false w args ∧ laidMetH Tryz.prog laidS w) ∧ sizedMet enc Tryz.prog Tryz.f4 (OpenSpec.ofChange Rows.poolKnownSpec) false w args)
      (Rows.poolKnownSpec.post enc Tryz.prog Tryz.f4 false true false false) := by
  refine returnsInHanded_of_change_and (C := Tryz.checked) (X := fun w _ => laidMetH Tryz.prog laidS w) (fun _ _ _ hh h => h.of_heap hh) pprog_own started (by kernel_rfl) Tryz.func4
    (ChangeSpec.witness_shaped (enc := enc) (C := Tryz.checked) (os := os) (X := fun w _ => laidMetH Tryz.prog laidS w) false (World.doorLaid Tryz.prog 400 os) #[] 8 rfl (World.shaped_of_RefB (by kernel_rfl) (by kernel_rfl)) (by kernel_rfl) (by kernel_rfl) (by kernel_rfl) (door_met os _)) ?_
  intro W base args ds gs before hval0 hW _ _ hL _
  have hW' := hW
  obtain ⟨p, q, hA0, hV, rfl, hfz, hnd⟩ := hW
  have hA : DataW.TrodAll enc Tryz.prog W 0 (fun _ => true) true Tryz.f4.params.toList args.toList ds p := hA0
  rw [Tryz.params4] at hA
  obtain ⟨rfl, rfl, rfl⟩ := trodAll_none hA
  obtain ⟨rfl, rfl⟩ := trodVars_none hV
  have hspec := PoolKnown_ok (H := W.heap) (R := fun b H' => b = true ∧ Ext W.heap H') (gl_of_laid hL) (fun H' e => ⟨rfl, e⟩)
  refine (hspec W rfl).mono fun e W' ⟨v, he, ⟨x, hx, hb, hext⟩, hal⟩ => ?_
  subst he; subst hx; subst hb
  exact ⟨_, rfl, law_post pprog_laidOut (by decide +kernel) rfl (by kernel_rfl) rfl rfl rfl rfl hW' hext hal⟩

theorem poolKnown_row : Rows.PoolKnownSaid :=
  OpenClaim.holds_of_wide 4 Tryz.f4 rfl rfl rfl rfl rfl rfl rfl ⟨rfl, rfl, rfl, rfl, rfl⟩ rfl rfl rfl rfl rfl (by kernel_rfl) Tryz.func4 (by kernel_rfl)
    (of_decide_eq_true (by kernel_rfl)) (by unfold Func.isWrapper; first | (rw [if_pos (by decide +kernel)]; kernel_rfl) | (rw [if_neg (by decide +kernel)]; exact ⟨rfl, rfl⟩))
    (fun os started H enc _ => poolKnown_lifted os started H enc)

/-- The card: the table tied to the program's text. -/
theorem poolKnown_holds : Rows.PoolKnownCardSaid :=
  Claim7.holds_tied_plain_at .later [] [.data] true _ false
    poolKnown_row (fun _ h => by cases h) (by kernel_rfl) (fun _ h => by cases h) poolKnown_row_tie rfl ⟨rfl, rfl⟩ (by kernel_rfl) rfl
    (fun f fn hf hfn => by
      obtain rfl : f = 4 := Option.some.inj ((show Tryz.prog.funcNamed "fathom/fathomlaw03.PoolKnown" = some 4 by kernel_rfl).symm.trans hf) |>.symm
      obtain rfl : fn = Tryz.f4 := (Option.some.inj (Tryz.func4.symm.trans hfn)).symm
      exact ⟨by kernel_rfl, fun j t ht => by
        rw [Tryz.params4] at ht
        simp at ht⟩)
    (by kernel_rfl)
#print axioms poolKnown_holds
end Go.Proofs.YtbhddkmfhampbaaGreatDoor
