/-
  PoolPlays: for every input the law returns true, and its arguments read as before; the table of the page's sum is laid as the program's text lays it. No condition beside that.
-/
import Derived.Test.YtbhddkmfhampbaaGreatDoorPkp
import Derived.Test.YtbhddkmfhampbaaGreatDoorFxt
import Derived.Test.YtbhddkmfhampbaaGreatDoorJ49
import Derived.Test.YtbhddkmfhampbaaGreatDoorDpa
/-
  PoolPlays: both pools, call by call.
-/
namespace Go.Proofs.YtbhddkmfhampbaaGreatDoor
open Go.MapKept

/-- What stays where it is. -/
structure KeptQ (Q : Nat → Prop) (A B : Heap) : Prop where
  size : A.size ≤ B.size
  same : ∀ b, Q b → B[b]? = A[b]?
theorem KeptQ.refl (Q : Nat → Prop) (A : Heap) : KeptQ Q A A := ⟨Nat.le_refl _, fun _ _ => rfl⟩
theorem KeptQ.trans {Q : Nat → Prop} {A B C : Heap} (h : KeptQ Q A B) (k : KeptQ Q B C) : KeptQ Q A C := ⟨Nat.le_trans h.size k.size, fun b hb => (k.same b hb).trans (h.same b hb)⟩
theorem KeptQ.mono {Q Q' : Nat → Prop} {A B : Heap} (h : KeptQ Q A B) (hs : ∀ b, Q' b → Q b) : KeptQ Q' A B := ⟨h.size, fun b hb => h.same b (hs b hb)⟩

/-- Both pools, beside the blocks 'Q'. -/
def BP (Q : Nat → Prop) (A : Heap) (p dp m dm : Nat) (s1 s2 : Pl) : Prop :=
  ∃ F1 F2, PoolAt F1 A p dp s1 ∧ RPoolAt F2 A m dm s2 ∧ (∀ b, F1 b → ¬ F2 b) ∧ (∀ b, F1 b → ¬ Q b) ∧ (∀ b, F2 b → ¬ Q b) ∧ ∀ b, Q b → b < A.size

section
variable {Q : Nat → Prop} {A B : Heap} {p dp m dm : Nat} {s1 s2 : Pl}

theorem BP.left (t : BP Q A p dp m dm s1 s2) : ∃ F, PoolAt F A p dp s1 ∧ ∀ (s' : Pl) (F' : Nat → Prop) (B : Heap), PoolAt F' B p dp s' → Step F F' A B → BP Q B p dp m dm s' s2 ∧ KeptQ Q A B := by
  obtain ⟨F1, F2, h1, h2, dj, q1, q2, ql⟩ := t
  have l2 := h2.lt
  refine ⟨F1, h1, fun s' F' B h S => ⟨⟨F', F2, h, h2.keep fun b hb hl => S.mod.same b hl fun q => dj b q hb, fun b hb hb2 => ?_, fun b hb hq => ?_, q2, fun b hb => Nat.lt_of_lt_of_le (ql b hb) S.mod.size⟩, S.mod.size, fun b hb => S.mod.same b (ql b hb) fun q => q1 b q hb⟩⟩
  · rcases S.own b hb with q | q
    · exact dj b q hb2
    · have := l2 b hb2; omega
  · rcases S.own b hb with q | q
    · exact q1 b q hq
    · have := ql b hq; omega
theorem BP.right (t : BP Q A p dp m dm s1 s2) : ∃ F, RPoolAt F A m dm s2 ∧ (∀ b, F b → ¬ Q b) ∧ ∀ (s' : Pl) (F' : Nat → Prop) (B : Heap), RPoolAt F' B m dm s' → Step F F' A B → BP Q B p dp m dm s1 s' ∧ KeptQ Q A B := by
  obtain ⟨F1, F2, h1, h2, dj, q1, q2, ql⟩ := t
  have l1 := h1.lt
  refine ⟨F2, h2, q2, fun s' F' B h S => ⟨⟨F1, F', h1.keep fun b hb hl => S.mod.same b hl fun q => dj b hb q, h, fun b hb hb2 => ?_, q1, fun b hb hq => ?_, fun b hb => Nat.lt_of_lt_of_le (ql b hb) S.mod.size⟩, S.mod.size, fun b hb => S.mod.same b (ql b hb) fun q => q2 b q hb⟩⟩
  · rcases S.own b hb2 with q | q
    · exact dj b hb q
    · have := l1 b hb; omega
  · rcases S.own b hb with q | q
    · exact q2 b q hq
    · have := ql b hq; omega
theorem BP.mono {Q' : Nat → Prop} (t : BP Q A p dp m dm s1 s2) (h : ∀ b, Q' b → Q b) : BP Q' A p dp m dm s1 s2 := by
  obtain ⟨F1, F2, h1, h2, dj, q1, q2, ql⟩ := t
  exact ⟨F1, F2, h1, h2, dj, fun b hb q => q1 b hb (h b q), fun b hb q => q2 b hb (h b q), fun b hb => ql b (h b hb)⟩
/-- New blocks stand beside both. -/
theorem BP.grow (t : BP Q A p dp m dm s1 s2) (e : Ext A B) : BP (fun b => Q b ∨ (A.size ≤ b ∧ b < B.size)) B p dp m dm s1 s2 ∧ KeptQ Q A B := by
  obtain ⟨F1, F2, h1, h2, dj, q1, q2, ql⟩ := t
  refine ⟨⟨F1, F2, h1.ext e, h2.ext e, dj, fun b hb q => ?_, fun b hb q => ?_, fun b hb => ?_⟩, e.size, fun b hb => e.same b (ql b hb) id⟩
  · rcases q with q | q
    · exact q1 b hb q
    · have := h1.lt b hb; omega
  · rcases q with q | q
    · exact q2 b hb q
    · have := h2.lt b hb; omega
  · rcases hb with q | q
    · exact Nat.lt_of_lt_of_le (ql b q) e.size
    · exact q.2
theorem BP.ext (t : BP Q A p dp m dm s1 s2) (e : Ext A B) : BP Q B p dp m dm s1 s2 ∧ KeptQ Q A B := ⟨(t.grow e).1.mono fun _ q => .inl q, (t.grow e).2⟩
/-- Blocks beside both are turned. -/
theorem BP.beside {W : Nat → Prop} (t : BP Q A p dp m dm s1 s2) (hm : Mod W A B) (hW : ∀ b, W b → Q b) : BP Q B p dp m dm s1 s2 := by
  obtain ⟨F1, F2, h1, h2, dj, q1, q2, ql⟩ := t
  exact ⟨F1, F2, h1.keep fun b hb hl => hm.same b hl fun q => q1 b hb (hW b q), h2.keep fun b hb hl => hm.same b hl fun q => q2 b hb (hW b q), dj, q1, q2, fun b hb => Nat.lt_of_lt_of_le (ql b hb) hm.size⟩
theorem BP.wf (t : BP Q A p dp m dm s1 s2) : s1.WF := by
  obtain ⟨F1, F2, h1, h2, dj, q1, q2, ql⟩ := t; exact h1.wf
theorem BP.lt (t : BP Q A p dp m dm s1 s2) : ∀ b, Q b → b < A.size := by
  obtain ⟨F1, F2, h1, h2, dj, q1, q2, ql⟩ := t; exact ql

end

/-! ### One call -/

def Pl.play (s : Pl) (r : Int) (x1 : ByteArray) (x2 x3 x4 : Int) : Pl :=
  if r = 0 then (s.pin x1 x2).1 else if r = 1 then (s.fresh x1).1 else if r = 2 then s else if r = 3 then (s.set x3 (UInt8.ofNat x4.toNat) (stepB x2 x4)).1
  else if r = 4 then (s.unpin x3).1 else if r = 5 then (s.flush x1).1 else if r = 6 then (s.dropF x1).1 else s.setD (s.d.create x1).1

theorem Pl.play_stays {s : Pl} (hw : s.WF) (hf : s.Fit) (hn : s.next < 1099511627776) (r : Int) (x1 : ByteArray) (x2 x3 x4 : Int) :
    (s.play r x1 x2 x3 x4).Fit ∧ (s.play r x1 x2 x3 x4).d.logs ≤ s.d.logs + 4096 ∧ (s.play r x1 x2 x3 x4).next ≤ s.next + 1 := by
  have ht := hw.tick; have hl := hw.len; have hm := hw.most
  have h0 : 0 ≤ s.next := by omega
  unfold Pl.play
  split
  · exact ⟨hf.pin _ _, by have := s.pin_logs x1 x2; omega, Pl.pin_next h0 hn⟩
  · split
    · exact ⟨hf.fresh _, by have := s.fresh_logs x1; omega, Pl.fresh_next h0 hn⟩
    · split
      · exact ⟨hf, by omega, by omega⟩
      · split
        · exact ⟨hf.set _ _ _, by rw [s.set_d]; omega, by rw [s.set_next]; omega⟩
        · split
          · exact ⟨hf.unpin _, by rw [s.unpin_d]; omega, by rw [s.unpin_next]; omega⟩
          · split
            · exact ⟨hf.flush _, by have := s.flush_logs x1; omega, by rw [s.flush_next]; omega⟩
            · split
              · exact ⟨hf.dropF _, by have := s.dropF_logs x1; omega, by rw [s.dropF_next]; omega⟩
              · exact ⟨hf.setD (s.d.create_grows _), by have := s.d.create_logs x1; show (s.d.create x1).1.logs ≤ _; omega, by show s.next ≤ _; omega⟩

theorem RPoolAt.disk {F : Nat → Prop} {H : Heap} {p dp : Nat} {s : Pl} (h : RPoolAt F H p dp s) : ∃ D, RefAt D H dp s.d ∧ (∀ b, D b → F b) ∧ ∀ D' H' d, RefAt D' H' dp d → Step D D' H H' → ∃ F', RPoolAt F' H' p dp (s.setD d) ∧ Step F F' H H' := by
  obtain ⟨ll, zs, D, g, hF⟩ := h
  refine ⟨D, g.disk, fun b hb => (hF b).2 (.inl hb), fun D' H' d hd' hS => ?_⟩
  obtain ⟨q1, q2⟩ := g.stepD hd' hS
  exact q1.out hF q2
theorem RPoolAt.head {F : Nat → Prop} {H : Heap} {p dp : Nat} {s : Pl} (h : RPoolAt F H p dp s) : ∃ ll : Sl, RowT H p ty_fathomref03_Pool (headM dp ll s) ∧ ll.n = s.fs.length ∧ F p := by
  obtain ⟨ll, zs, D, g, hF⟩ := h
  exact ⟨ll, g.pool.head, g.pool.n, (hF p).2 (.inr (.inl rfl))⟩

theorem pplays_ok {Q : Nat → Prop} {A : Heap} {p dp m dm : Nat} {s : Pl} {x x2 x3 x4 : Int} {x1 : ByteArray} {K : Bool → Heap → Prop} (hg : Gl A) (hQ : Q gSteps) (t : BP Q A p dp m dm s s) (hfit : s.Fit) (hlogs : s.d.logs < 34359738368) (hnx : s.next < 1099511627775)
    (h1 : x1.size ≤ 9223372036854775807) (h2 : -9223372036854775808 ≤ x2 ∧ x2 ≤ 9223372036854775807) (h4 : 0 ≤ x4 ∧ x4 < 256)
    (hK : ∀ B, BP Q B p dp m dm (s.play (x.emod 8) x1 x2 x3 x4) (s.play (x.emod 8) x1 x2 x3 x4) → KeptQ Q A B → K true B) : fathomlaw03_plays.sp (at0 p) (at0 m) x x1 x2 x3 x4 A K := by
  refine fathomlaw03_plays.of ?_
  unfold fathomlaw03_plays.vc
  simp only [optK_eq]
  refine newC_rowT fun A1 z1 r1 e1 => ?_
  obtain ⟨q, hq⟩ : ∃ q, q = A.size := ⟨_, rfl⟩
  rw [← hq] at r1 ⊢
  obtain ⟨t1, k1⟩ := t.grow e1
  obtain ⟨Q1, hQ1⟩ : ∃ Q1 : Nat → Prop, Q1 = fun b => Q b ∨ (A.size ≤ b ∧ b < A1.size) := ⟨_, rfl⟩
  rw [← hQ1] at t1
  have qQ : Q1 q := by rw [hQ1]; exact .inr (by omega)
  have Q01 : ∀ b, Q b → Q1 b := fun b hb => by rw [hQ1]; exact .inl hb
  have gl1 : Gl A1 := hg.mod e1 id
  have gl : ∀ {B : Heap}, KeptQ Q1 A1 B → Gl B := fun k => gl1.keep (k.same _ (Q01 _ hQ))
  have rw1 : ∀ {B : Heap}, KeptQ Q1 A1 B → RowT B q ty_fathomlaw03_Step #[(.int .i64 x), (.string x1), (.int .i64 x2), (.int .i64 x3), (.int .u8 x4)] := fun k => (k.same q qQ).trans r1
  have fin : ∀ {B : Heap} {s' : Pl}, BP Q1 B p dp m dm s' s' → KeptQ Q1 A1 B → s.play (x.emod 8) x1 x2 x3 x4 = s' → K true B := fun tb kb he => hK _ (by rw [he]; exact tb.mono Q01) (k1.trans (kb.mono Q01))
  have cell : ∀ {B : Heap} {j : Nat} {v : Value}, (#[(.int .i64 x), (.string x1), (.int .i64 x2), (.int .i64 x3), (.int .u8 x4)] : Array Value)[j]? = some v → RowT B q ty_fathomlaw03_Step #[(.int .i64 x), (.string x1), (.int .i64 x2), (.int .i64 x3), (.int .u8 x4)] → hCell B (Addr.add ⟨q, 0, none⟩ j) = some v := fun hj hB => by rw [add_lit0]; exact hB.cell hj
  refine r1.ld (c := cInt .i64) (i := 0) (x := x) rfl ?_
  refine PickN_ok (by omega) ?_
  rw [if_neg (by omega)]
  generalize x.emod 8 = r at *
  -- Pin
  refine br_mk (fun hr => ?_) (fun hr0 => ?_)
  · have e : r = 0 := by simpa using hr
    refine r1.ld (c := cStr) (i := 1) (x := x1) rfl ?_
    refine r1.ld (c := cInt .i64) (i := 2) (x := x2) rfl ?_
    obtain ⟨F1, a1, go1⟩ := t1.left
    refine Pin_ok gl1 a1 h1 h2.1 h2.2 (by omega) (by omega) fun F' B b1 S1 => ?_
    obtain ⟨t2, k2⟩ := go1 _ _ _ b1 S1
    refine (rw1 k2).ld (c := cStr) (i := 1) (x := x1) rfl ?_
    refine (rw1 k2).ld (c := cInt .i64) (i := 2) (x := x2) rfl ?_
    obtain ⟨F2, a2, _, go2⟩ := t2.right
    refine RPPin_ok a2 h1 (by omega) hnx fun F2' C b2 S2 => ?_
    obtain ⟨t3, k3⟩ := go2 _ _ _ b2 S2
    rw [beq_self_eq_true, beq_self_eq_true]
    exact fin t3 (k2.trans k3) (by unfold Pl.play; rw [if_pos e])
  have n0 : r ≠ 0 := by simpa using hr0
  -- Fresh
  refine br_mk (fun hr => ?_) (fun hr1 => ?_)
  · have e : r = 1 := by simpa using hr
    refine r1.ld (c := cStr) (i := 1) (x := x1) rfl ?_
    obtain ⟨F1, a1, go1⟩ := t1.left
    refine Fresh_ok gl1 a1 h1 (by omega) (by omega) hfit fun F' B b1 S1 => ?_
    obtain ⟨t2, k2⟩ := go1 _ _ _ b1 S1
    refine (rw1 k2).ld (c := cStr) (i := 1) (x := x1) rfl ?_
    obtain ⟨F2, a2, _, go2⟩ := t2.right
    refine RPFresh_ok a2 h1 (by omega) hnx hfit fun F2' C b2 S2 => ?_
    obtain ⟨t3, k3⟩ := go2 _ _ _ b2 S2
    rw [beq_self_eq_true, beq_self_eq_true, beq_self_eq_true]
    exact fin t3 (k2.trans k3) (by unfold Pl.play; rw [if_neg n0, if_pos e])
  have n1 : r ≠ 1 := by simpa using hr1
  -- Get
  refine br_mk (fun hr => ?_) (fun hr2 => ?_)
  · have e : r = 2 := by simpa using hr
    have ep : s.play r x1 x2 x3 x4 = s := by unfold Pl.play; rw [if_neg n0, if_neg n1, if_pos e]
    refine r1.ld (c := cInt .i64) (i := 3) (x := x3) rfl ?_
    obtain ⟨F1, a1, go1⟩ := t1.left
    have hgl : (s.get x3).2.1.length ≤ 504 := by
      unfold Pl.get
      split
      · exact Nat.zero_le _
      · split
        · rename_i i hi
          obtain ⟨f, hf, _⟩ := Pl.held_some hi
          show (s.frame i).b.length ≤ 504
          rw [Pl.frame_eq hf]; exact t1.wf.room f (List.mem_of_getElem? hf)
        · exact Nat.zero_le _
    refine Get_ok a1 fun l B o2 e2 f2 => ?_
    obtain ⟨t2, k2⟩ := t1.grow e2
    have k2' : KeptQ Q1 A1 B := k2
    refine (rw1 k2').ld (c := cInt .i64) (i := 3) (x := x3) rfl ?_
    obtain ⟨F2, a2, _, go2⟩ := t2.right
    refine RPGet_ok a2 (by omega) fun l4 C o3 e3 f3 => ?_
    obtain ⟨t3, k3⟩ := t2.ext e3
    have o23 := o2.ext e3
    refine br_t (by simp) ?_
    refine strB_eq (SlB_byts o23) ?_
    refine strB_eq o3 ?_
    have hbn := SlE.n o23 (by decide)
    refine spoil_ok (SlB_to o23) (by show l.n < _; omega) rfl fun C2 m4 => ?_
    rw [beq_self_eq_true]
    have hin : ∀ b, ownB l b → A1.size ≤ b ∧ b < B.size := fun b hb => ⟨f2 b hb, o2.lt b hb⟩
    have t4 := t3.beside m4 fun b hb => .inr (hin b hb)
    refine fin (t4.mono fun b hb => .inl hb) ⟨?_, fun b hb => (m4.same b (by have := t1.lt b hb; have := e2.size; have := e3.size; omega) fun hh => by have := (hin b hh).1; have := t1.lt b hb; omega).trans ((k3.same b (.inl hb)).trans (k2.same b hb))⟩ ep
    have := m4.size; have := e3.size; have := e2.size; omega
  have n2 : r ≠ 2 := by simpa using hr2
  -- Put
  refine br_mk (fun hr => ?_) (fun hr3 => ?_)
  · have e : r = 3 := by simpa using hr
    have h0 := Int.emod_nonneg x2 (show (600 : Int) ≠ 0 by decide)
    have h6 := Int.emod_lt_of_pos x2 (show (0 : Int) < 600 by decide)
    have e6 : x2 % 600 = x2.emod 600 := rfl
    rw [e6] at h0 h6
    have hbl : (stepB x2 x4).length ≤ 600 := by unfold stepB; simp; omega
    have hu8 := ofNat_u8 h4
    refine r1.ldA (c := cAgg [(cInt .i64), cStr, (cInt .i64), (cInt .i64), (cInt .u8)]) (x := (x, x1, x2, x3, x4)) rfl rfl ?_
    refine pbytes_ok h4 fun b B o2 e2 f2 => ?_
    obtain ⟨t2, k2⟩ := t1.grow e2
    refine (rw1 k2).ld (c := cInt .i64) (i := 3) (x := x3) rfl ?_
    refine (rw1 k2).ld (c := cInt .u8) (i := 4) (x := x4) rfl ?_
    obtain ⟨Q2, hQ2⟩ : ∃ Q2 : Nat → Prop, Q2 = fun b => Q1 b ∨ (A1.size ≤ b ∧ b < B.size) := ⟨_, rfl⟩
    rw [← hQ2] at t2
    have hin : ∀ c, ownB b c → Q2 c := fun c hc => by rw [hQ2]; exact .inr ⟨f2 c hc, o2.lt c hc⟩
    have Q12 : ∀ b, Q1 b → Q2 b := fun b hb => by rw [hQ2]; exact .inl hb
    obtain ⟨F1, a1, go1⟩ := t2.left
    have hput := Put_ok (kd := UInt8.ofNat x4.toNat) (k := x3) (K := fun e_ H14 => ∃ G : Heap → Prop, G H14 ∧ ldC (cInt .i64) G (Addr.add ⟨q, 0, none⟩ 3) fun (x_16 : Int) => ldC (cInt .u8) G (Addr.add ⟨q, 0, none⟩ 4) fun (x_17 : Int) => ldA (cAgg [(cInt .i64), cStr, (cInt .i64), (cInt .i64), (cInt .u8)]) 5 H14 ⟨q, 0, none⟩ fun (x_18 : (Int × ByteArray × Int × Int × Int)) => fathomlaw03_Step_bytes.sp x_18.1 x_18.2.1 x_18.2.2.1 x_18.2.2.2.1 x_18.2.2.2.2 H14 fun (r_7 : Sl) H15 => G H15 ∧ fathomref03_Pool_Put.sp (at0 m) x_16 x_17 r_7 H15 fun (f : Int) H16 => LoopVC Int (0 : Int) H16 fun next_2 i_2 H17 => br (decide (i_2 < (b.n : Int))) (optK b.a fun a_2 => (0 ≤ i_2 ∧ i_2 < (b.n : Int)) ∧ st H17 (a_2.add (i_2.toNat * 1)) (.int .u8 (238 : Int)) fun H18 => next_2 (IntKind.i64.wrap (i_2 + (1 : Int))) H18) (K (e_ == f) H17)) (gl k2) a1 (SlB_byts o2)
    rw [hu8] at hput
    refine hput ?_
    intro F' C b1 S1
    obtain ⟨t3, k3⟩ := go1 _ _ _ b1 S1
    have k13 : KeptQ Q1 A1 C := k2.trans (k3.mono Q12)
    refine ⟨fun H => RowT H q ty_fathomlaw03_Step #[(.int .i64 x), (.string x1), (.int .i64 x2), (.int .i64 x3), (.int .u8 x4)], rw1 k13, ⟨x3, fun H hH => cell rfl hH, ⟨x4, fun H hH => cell rfl hH, ?_⟩⟩⟩
    refine (rw1 k13).ldA (c := cAgg [(cInt .i64), cStr, (cInt .i64), (cInt .i64), (cInt .u8)]) (x := (x, x1, x2, x3, x4)) rfl rfl ?_
    refine pbytes_ok h4 fun b5 D o5 e5 f5 => ⟨(rw1 k13).ext e5, ?_⟩
    obtain ⟨t4, k4⟩ := t3.grow e5
    obtain ⟨F2, a2, q2, go2⟩ := t4.right
    have hput2 := RPPut_ok (kd := UInt8.ofNat x4.toNat) (c := x3) (K := fun f H16 => LoopVC Int (0 : Int) H16 fun next_2 i_2 H17 => br (decide (i_2 < (b.n : Int))) (optK b.a fun a_2 => (0 ≤ i_2 ∧ i_2 < (b.n : Int)) ∧ st H17 (a_2.add (i_2.toNat * 1)) (.int .u8 (238 : Int)) fun H18 => next_2 (IntKind.i64.wrap (i_2 + (1 : Int))) H18) (K ((s.set x3 (UInt8.ofNat x4.toNat) (stepB x2 x4)).2 == f) H17)) a2 (by omega) (SlB_byts o5) (fun ad ha hF => q2 _ hF (.inr ⟨f5 _ ⟨ad, ha, rfl⟩, o5.lt _ ⟨ad, ha, rfl⟩⟩))
    rw [hu8] at hput2
    refine hput2 ?_
    intro F2' E b2 S2
    obtain ⟨t5, k5⟩ := go2 _ _ _ b2 S2
    have k35 : KeptQ Q2 C E := k4.trans (k5.mono fun b hb => .inl hb)
    have k25 : KeptQ Q2 B E := k3.trans k35
    have o6 : SlE EB ty_uint8 E b (stepB x2 x4) := o2.keep fun c hc _ => k25.same c (hin c hc)
    have hbn := o6.n (by decide)
    refine spoil_ok (SlB_to o6) (by omega) rfl fun E2 m6 => ?_
    rw [beq_self_eq_true]
    have t6 := (t5.mono (fun b (hb : Q2 b) => .inl hb)).beside m6 hin
    refine fin (t6.mono Q12) ((k2.trans (k25.mono Q12)).trans ⟨m6.size, fun c hc => m6.same c (by have := t1.lt c hc; have := k2.size; have := k25.size; omega) fun hh => by have := f2 c hh; have := t1.lt c hc; omega⟩) ?_
    unfold Pl.play; rw [if_neg n0, if_neg n1, if_neg n2, if_pos e]
  have n3 : r ≠ 3 := by simpa using hr3
  have Gc : ∀ {B : Heap}, KeptQ Q1 A1 B → RowT B q ty_fathomlaw03_Step #[(.int .i64 x), (.string x1), (.int .i64 x2), (.int .i64 x3), (.int .u8 x4)] := rw1
  -- Unpin
  refine br_mk (fun hr => ?_) (fun hr4 => ?_)
  · have e : r = 4 := by simpa using hr
    refine ⟨fun H => RowT H q ty_fathomlaw03_Step #[(.int .i64 x), (.string x1), (.int .i64 x2), (.int .i64 x3), (.int .u8 x4)], r1, ?_⟩
    refine r1.ld (c := cInt .i64) (i := 3) (x := x3) rfl ?_
    obtain ⟨F1, a1, go1⟩ := t1.left
    refine Unpin_ok gl1 a1 (by omega) fun F' B b1 S1 => ?_
    obtain ⟨t2, k2⟩ := go1 _ _ _ b1 S1
    refine ⟨rw1 k2, ⟨x3, fun H hH => cell rfl hH, ?_⟩⟩
    obtain ⟨F2, a2, _, go2⟩ := t2.right
    refine RPUnpin_ok a2 hnx fun F2' C b2 S2 => ?_
    obtain ⟨t3, k3⟩ := go2 _ _ _ b2 S2
    rw [beq_self_eq_true]
    exact fin t3 (k2.trans k3) (by unfold Pl.play; rw [if_neg n0, if_neg n1, if_neg n2, if_neg n3, if_pos e])
  have n4 : r ≠ 4 := by simpa using hr4
  -- Flush
  refine br_mk (fun hr => ?_) (fun hr5 => ?_)
  · have e : r = 5 := by simpa using hr
    refine ⟨fun H => RowT H q ty_fathomlaw03_Step #[(.int .i64 x), (.string x1), (.int .i64 x2), (.int .i64 x3), (.int .u8 x4)], r1, ?_⟩
    refine r1.ld (c := cStr) (i := 1) (x := x1) rfl ?_
    obtain ⟨F1, a1, go1⟩ := t1.left
    refine Flush_ok gl1 a1 (by omega) fun F' B b1 S1 => ?_
    obtain ⟨t2, k2⟩ := go1 _ _ _ b1 S1
    refine ⟨rw1 k2, ⟨x1, fun H hH => cell rfl hH, ?_⟩⟩
    obtain ⟨F2, a2, _, go2⟩ := t2.right
    refine RPFlush_ok a2 (by omega) hfit fun F2' C b2 S2 => ?_
    obtain ⟨t3, k3⟩ := go2 _ _ _ b2 S2
    rw [beq_self_eq_true]
    exact fin t3 (k2.trans k3) (by unfold Pl.play; rw [if_neg n0, if_neg n1, if_neg n2, if_neg n3, if_neg n4, if_pos e])
  have n5 : r ≠ 5 := by simpa using hr5
  -- Drop
  refine br_mk (fun hr => ?_) (fun hr6 => ?_)
  · have e : r = 6 := by simpa using hr
    refine ⟨fun H => RowT H q ty_fathomlaw03_Step #[(.int .i64 x), (.string x1), (.int .i64 x2), (.int .i64 x3), (.int .u8 x4)], r1, ?_⟩
    refine r1.ld (c := cStr) (i := 1) (x := x1) rfl ?_
    obtain ⟨F1, a1, go1⟩ := t1.left
    refine Drop_ok gl1 a1 fun F' B b1 S1 => ?_
    obtain ⟨t2, k2⟩ := go1 _ _ _ b1 S1
    refine ⟨rw1 k2, ⟨x1, fun H hH => cell rfl hH, ?_⟩⟩
    obtain ⟨F2, a2, _, go2⟩ := t2.right
    refine RPDrop_ok a2 (by omega) fun F2' C b2 S2 => ?_
    obtain ⟨t3, k3⟩ := go2 _ _ _ b2 S2
    rw [beq_self_eq_true]
    exact fin t3 (k2.trans k3) (by unfold Pl.play; rw [if_neg n0, if_neg n1, if_neg n2, if_neg n3, if_neg n4, if_neg n5, if_pos e])
  have n6 : r ≠ 6 := by simpa using hr6
  -- Create
  refine ⟨fun H => RowT H q ty_fathomlaw03_Step #[(.int .i64 x), (.string x1), (.int .i64 x2), (.int .i64 x3), (.int .u8 x4)] ∧ hCell H (Addr.add ⟨m, 0, none⟩ 0) = some (ptrV dm), ?_⟩
  obtain ⟨F2, a2, q2, go2⟩ := t1.right
  obtain ⟨ll, hh, hn, hFm⟩ := a2.head
  have hc1 : hCell A1 (Addr.add ⟨m, 0, none⟩ 0) = some (ptrV dm) := by rw [add_lit0]; exact hh.cell rfl
  refine ⟨⟨r1, hc1⟩, ?_⟩
  obtain ⟨F1, a1, go1⟩ := t1.left
  refine PDisk_ok a1 ⟨⟨r1, hc1⟩, ⟨x1, fun H hH => cell rfl hH.1, ?_⟩⟩
  obtain ⟨D1, d1, _, dgo1⟩ := a1.disk gl1
  refine Create_ok d1 fun D1' B b1 S1 => ?_
  obtain ⟨F1', c1, cS1⟩ := dgo1 D1' B _ b1 S1
  obtain ⟨t2, k2⟩ := go1 _ _ _ c1 cS1
  obtain ⟨F3, a3, q3, go3⟩ := t2.right
  obtain ⟨ll3, hh3, hn3, hFm3⟩ := a3.head
  have hc3 : hCell B (Addr.add ⟨m, 0, none⟩ 0) = some (ptrV dm) := by rw [add_lit0]; exact hh3.cell rfl
  refine ⟨⟨rw1 k2, hc3⟩, ⟨at0 dm, fun H hH => hH.2, ⟨x1, fun H hH => cell rfl hH.1, ?_⟩⟩⟩
  obtain ⟨D2, d2, _, dgo2⟩ := a3.disk
  refine RCreate_ok d2 fun D2' C b2 S2 => ?_
  obtain ⟨F2', c2, cS2⟩ := dgo2 D2' C _ b2 S2
  obtain ⟨t3, k3⟩ := go3 _ _ _ c2 cS2
  rw [beq_self_eq_true]
  exact fin t3 (k2.trans k3) (by unfold Pl.play; rw [if_neg n0, if_neg n1, if_neg n2, if_neg n3, if_neg n4, if_neg n5, if_neg n6])

end Go.Proofs.YtbhddkmfhampbaaGreatDoor

/-
  PoolPlays: both disks in the end; the whole walk.
-/
namespace Go.Proofs.YtbhddkmfhampbaaGreatDoor
open Go.MapKept

theorem pdisks_ok {D1 D2 : Nat → Prop} {d m : Nat} {s : Dk} {H A : Heap} {K : Bool → Heap → Prop} (e0 : Ext H A) (a1 : DiskAt D1 A d s) (a2 : RefAt D2 A m s) (dj : ∀ b, D1 b → ¬ D2 b) (f1 : ∀ b, D1 b → H.size ≤ b) (f2 : ∀ b, D2 b → H.size ≤ b) (hl : s.logs < 34359738368)
    (hK : ∀ B, Ext H B → K true B) : fathomlaw03_disks.sp (at0 d) (at0 m) A K := by
  refine fathomlaw03_disks.of ?_
  unfold fathomlaw03_disks.vc
  simp only [optK_eq]
  have a2' := a2
  obtain ⟨fl, gs, cin, kp, g, hF2⟩ := a2'
  refine ⟨fun A => RowT A m ty_fathomref01_Disk (headR fl s.most s.quota s.ops s.next s.crash.isSome cin kp s.down), g.head, ?_⟩
  refine Ops_ok a1 ⟨g.head, ⟨s.ops, fun A hA => by rw [add_lit0]; exact hA.cell rfl, br_f (by simp) ?_⟩⟩
  refine Down_ok a1 ⟨g.head, ⟨s.down, fun A hA => by rw [add_lit0]; exact hA.cell rfl, br_f (by simp) ?_⟩⟩
  have l1 := a1.lt; have l2 := a2.lt
  refine Restart_ok a1 (by omega) fun D1' B1 b1 S1 => ?_
  have a2B : RefAt D2 B1 m s := a2.keep fun b hb hbl => S1.mod.same b hbl fun q => dj b q hb
  refine RRestart_ok a2B (by omega) fun D2' B2 b2 S2 => ?_
  have f1' : ∀ b, D1' b → H.size ≤ b := fun b hb => by
    rcases S1.own b hb with q | q
    · exact f1 b q
    · exact Nat.le_trans e0.size q
  have dj' : ∀ b, D1' b → ¬ D2 b := fun b hb h2 => by
    rcases S1.own b hb with q | q
    · exact dj b q h2
    · have := l2 b h2; omega
  have b1' : DiskAt D1' B2 d s.restart := b1.keep fun b hb hbl => S2.mod.same b hbl (dj' b hb)
  have e2 : Ext H B2 := ⟨Nat.le_trans e0.size (Nat.le_trans S1.mod.size S2.mod.size), fun b hb _ => (S2.mod.same b (by have := e0.size; have := S1.mod.size; omega) fun q => by have := f2 b q; omega).trans ((S1.mod.same b (by have := e0.size; omega) fun q => by have := f1 b q; omega).trans (e0.same b hb id))⟩
  have hlr := s.restart_logs
  generalize s.restart = t at *
  have hll : t.list.length ≤ 4096 := by
    unfold Dk.list
    split
    · simp
    · rw [(List.mergeSort_perm _ _).length_eq]; simp; exact b2.wf.files
  refine List_ok b1' fun l B3 o3 m3 g3 => ?_
  refine RList_ok (b2.keep fun b hb hbl => m3.same b hbl id) fun l2 B4 o4 m4 g4 => ?_
  refine SameTexts_ok (o3.ext m4) o4 (by omega) ?_
  refine br_f rfl ?_
  have m24 : Ext B2 B4 := m3.trans m4
  refine Used_ok (b1'.keep fun b hb hbl => m24.same b hbl id) ?_
  refine RUsed_ok (b2.keep fun b hb hbl => m24.same b hbl id) (by omega) fun B5 m5 => ?_
  refine br_f (by simp) ?_
  have m25 : Ext B2 B5 := m24.trans m5
  have c1 : DiskAt D1' B5 d t := b1'.keep fun b hb hbl => m25.same b hbl id
  have c2 : RefAt D2' B5 m t := b2.keep fun b hb hbl => m25.same b hbl id
  have o5 : SlE EN ty_string B5 l t.list := (o3.ext m4).ext m5
  have hn := SlE.n o5 (by decide)
  have e5 : Ext H B5 := e2.trans m25
  refine loop_upto t.list.length (fun k x B => x = (k : Int) ∧ Ext B5 B) ⟨rfl, .refl _ _⟩ ?_
  rintro k _ B6 next hk ⟨rfl, e6⟩ hnext
  refine br_mk (fun hc => ?_) (fun hc => hK B6 (e5.trans e6))
  have hlt : k < t.list.length := by rw [hn] at hc; simpa using hc
  refine text_ld (o5.ext e6) hlt ?_
  generalize strB t.list[k] = nm at *
  refine RLen_ok (c2.keep fun b hb hbl => e6.same b hbl id) (by omega) fun B7 e7 => ?_
  have hlen := Dk.len_le c2.wf nm
  refine loop_upto ((t.len nm).1 + 1) (fun j x B => x = (j : Int) ∧ Ext B5 B) ⟨rfl, e6.trans e7⟩ ?_
  rintro j _ B8 next2 hj ⟨rfl, e8⟩ hnext2
  refine br_mk (fun hc2 => ?_) (fun hc2 => hnext hlt _ _ ⟨succ64 k (by omega), e8⟩)
  have hjl : j < (t.len nm).1 + 1 := by simp at hc2; omega
  have txt : ∀ {B : Heap} {K : ByteArray → Prop}, Ext B5 B → K (strB t.list[k]) → optK l.a fun a => (0 ≤ (k : Int) ∧ (k : Int) < (l.n : Int)) ∧ ld cStr B (a.add ((k : Int).toNat * 1)) K := fun e h => text_ld (o5.ext e) hlt h
  refine txt e8 ?_
  generalize strB t.list[k] = nm2 at *
  refine Read_ok (c1.keep fun b hb hbl => e8.same b hbl id) fun r9 B9 o9 e9 g9 => ?_
  refine txt (e8.trans e9) ?_
  refine RRead_ok (c2.keep fun b hb hbl => (e8.trans e9).same b hbl id) (by omega) fun r10 B10 o10 e10 g10 => ?_
  refine br_f (by simp) ?_
  refine strB_eq (SlB_byts (o9.ext e10)) ?_
  refine strB_eq o10 ?_
  refine br_f (by simp) ?_
  exact hnext2 hjl _ _ ⟨succ64 j (by omega), (e8.trans e9).trans e10⟩

abbrev PStep := Int × ByteArray × Int × Int × Int
def EPS : Enc PStep := ⟨5, fun x => [.int .i64 x.1, .string x.2.1, .int .i64 x.2.2.1, .int .i64 x.2.2.2.1, .int .u8 x.2.2.2.2], fun _ => rfl, fun x u hu => by simp at hu; rcases hu with rfl | rfl | rfl | rfl | rfl <;> rfl⟩
def PStep.fine (x : PStep) : Prop := x.2.1.size ≤ 9223372036854775807 ∧ (-9223372036854775808 ≤ x.2.2.1 ∧ x.2.2.1 ≤ 9223372036854775807) ∧ 0 ≤ x.2.2.2.2 ∧ x.2.2.2.2 < 256

section
variable {H A : Heap} {script : Sl} {xs : List PStep} {R : Bool → Heap → Prop}

theorem ptail_ok {D1 D2 : Nat → Prop} {dp dm : Nat} {sd : Dk} {frames : Int} (hg : Gl H) (e0 : Ext H A) (a1 : DiskAt D1 A dp sd) (a2 : RefAt D2 A dm sd) (dj : ∀ b, D1 b → ¬ D2 b) (f1 : ∀ b, D1 b → H.size ≤ b) (f2 : ∀ b, D2 b → H.size ≤ b) (hl : sd.logs = 0) (hx : RdE EPS H script.a xs) (hn : script.n = xs.length) (hxl : xs.length ≤ 150) (hf : ∀ x ∈ xs, PStep.fine x)
    (hK : ∀ B, Ext H B → R true B) :
    pool_New.sp (at0 dp) frames A fun (r_3 : (Option Addr × Int)) H5 => fathomref03_New.sp (at0 dm) frames H5 fun (r_4 : (Option Addr × Int)) H6 => br (r_3.2 != r_4.2) (R false H6) (br (r_3.2 != (0 : Int)) (br r_3.1.isNone (fathomlaw03_works.sp H6 fun (r_5 : Bool) H7 => R r_5 H7) (R false H6)) (br r_3.1.isNone (R false H6) (LoopVC Int (0 : Int) H6 fun next i H8 => br (decide (i < (script.n : Int))) (optK script.a fun a => (0 ≤ i ∧ i < (script.n : Int)) ∧ ldA (cAgg [(cInt .i64), cStr, (cInt .i64), (cInt .i64), (cInt .u8)]) 5 H8 (a.add (i.toNat * 5)) fun (x : (Int × ByteArray × Int × Int × Int)) => fathomlaw03_plays.sp r_3.1 r_4.1 x.1 x.2.1 x.2.2.1 x.2.2.2.1 x.2.2.2.2 H8 fun (r_6 : Bool) H9 => ∃ G : Heap → Prop, G H9 ∧ br (!r_6) (R false H9) (pool_Pool_Resident.sp r_3.1 H9 fun (r_7 : Int) H10 => G H10 ∧ optK r_4.1 fun a_1 => ldC cSl G (a_1.add 2) fun (x_1 : Sl) => br (r_7 != (x_1.n : Int)) (R false H10) (pool_Pool_Pinned.sp r_3.1 H10 fun (r_8 : Int) H11 => G H11 ∧ fathomref03_Pool_Pinned.sp r_4.1 H11 fun (r_9 : Int) H12 => G H12 ∧ br (r_8 != r_9) (R false H12) (pool_Pool_Peak.sp r_3.1 H12 fun (r_10 : Int) H13 => G H13 ∧ optK r_4.1 fun a_2 => ldC (cInt .i64) G (a_2.add 5) fun (x_2 : Int) => br (r_10 != x_2) (R false H13) (pool_Pool_Frames.sp r_3.1 H13 fun (r_11 : Int) H14 => G H14 ∧ optK r_4.1 fun a_3 => ldC (cInt .i64) G (a_3.add 1) fun (x_3 : Int) => br (r_11 != x_3) (R false H14) (pool_Pool_Disk.sp r_3.1 H14 fun (r_12 : Option Addr) H15 => disk_Disk_Ops.sp r_12 H15 fun (r_13 : Int) H16 => disk_Disk_Ops.sp (at0 dp) H16 fun (r_14 : Int) H17 => br (r_13 != r_14) (R false H17) (next (IntKind.i64.wrap (i + (1 : Int))) H17))))))) (fathomlaw03_disks.sp (at0 dp) (at0 dm) H8 fun (r_15 : Bool) H18 => br r_15 (fathomlaw03_works.sp H18 fun (r_16 : Bool) H19 => R r_16 H19) (R false H18))))) := by
  have hgA : Gl A := hg.mod e0 id
  have hgs := hg.lt
  by_cases hfr : frames < 8 ∨ 4096 < frames
  · refine PoolNew_bad hfr ?_
    refine RPNew_bad hfr ?_
    refine br_f (by simp) (br_t (by simp only [bne_iff_ne]; split <;> decide) (br_t rfl ?_))
    exact pworks_ok hgA fun B e => hK B (e0.trans e)
  obtain ⟨mm, rfl⟩ : ∃ mm : Nat, frames = mm := ⟨frames.toNat, by omega⟩
  have l1 := a1.lt; have l2 := a2.lt
  refine PoolNew_ok hgA a1 (fun q => by have := f1 _ q; omega) (by omega) (by omega) fun F1 p B1 h1 e1 o1 => ?_
  refine RPNew_ok (a2.keep fun b hb hbl => e1.same b hbl id) (by omega) (by omega) fun F2 m B2 h2 e2 o2 => ?_
  refine br_f (by simp) (br_f rfl (br_f rfl ?_))
  have l1p := h1.lt
  have t0 : BP (fun b => b < H.size) B2 p dp m dm (pl0 sd mm) (pl0 sd mm) := by
    refine ⟨F1, F2, h1.ext e2, h2, fun b hb hb2 => ?_, fun b hb q => ?_, fun b hb q => ?_, fun b q => ?_⟩
    · have := l1p b hb
      rcases o2 b hb2 with r | r
      · rcases o1 b hb with r' | r'
        · exact dj b r' r
        · have := l2 b r; omega
      · omega
    · rcases o1 b hb with r | r
      · have := f1 b r; omega
      · have := e0.size; omega
    · rcases o2 b hb with r | r
      · have := f2 b r; omega
      · have := e0.size; have := e1.size; omega
    · have := e0.size; have := e1.size; have := e2.size; omega
  have e02 : Ext H B2 := (e0.trans e1).trans e2
  refine loop_upto xs.length (fun k i B => i = (k : Int) ∧ Ext H B ∧ ∃ s : Pl, BP (fun b => b < H.size) B p dp m dm s s ∧ s.Fit ∧ s.next ≤ (k : Int) + 1 ∧ s.d.logs ≤ 4096 * k) ⟨rfl, e02, pl0 sd mm, t0, by intro f hf; simp [pl0] at hf, by show (1 : Int) ≤ _; omega, by show sd.logs ≤ _; omega⟩ ?_
  rintro k _ B next hk ⟨rfl, eB, s, t, hfit, hnx, hlg⟩ hnext
  have gB : Gl B := hg.mod eB id
  refine br_mk (fun hc => ?_) (fun hc => ?_)
  · have hlt : k < xs.length := by rw [hn] at hc; simpa using hc
    have hxk : xs[k]? = some xs[k] := List.getElem?_eq_getElem hlt
    have hfk := hf _ (List.mem_of_getElem? hxk)
    have hxB : RdE EPS B script.a xs := hx.keep fun ad _ hal => eB.same _ hal id
    obtain ⟨ad, ha⟩ := RdE.addr hxB (by decide) (by omega)
    rw [ha]
    refine ⟨⟨by omega, by omega⟩, ?_⟩
    obtain ⟨⟨x, x1, x2, x3, x4⟩, hxe⟩ : ∃ y, y = xs[k] := ⟨_, rfl⟩
    rw [← hxe] at hxk hfk
    refine RdE.ldA (E := EPS) (c := cAgg [(cInt .i64), cStr, (cInt .i64), (cInt .i64), (cInt .u8)]) (y := (x, x1, x2, x3, x4)) hxB ha hxk rfl (by simp [EPS]) rfl ?_
    obtain ⟨g1, g2, g3⟩ := hfk
    simp only at g1 g2 g3
    refine pplays_ok gB hgs t hfit (by omega) (by omega) g1 g2 g3 fun C t2 k2 => ?_
    obtain ⟨y1, y2, y3⟩ := Pl.play_stays t.wf hfit (by omega) (x.emod 8) x1 x2 x3 x4
    generalize s.play (x.emod 8) x1 x2 x3 x4 = s' at *
    have eC : Ext H C := ⟨Nat.le_trans eB.size k2.size, fun b hb _ => (k2.same b hb).trans (eB.same b hb id)⟩
    have gC : Gl C := hg.mod eC id
    obtain ⟨F2', c2, _, go2⟩ := t2.right
    obtain ⟨ll, hh, hll, hFm⟩ := c2.head
    refine ⟨fun A => RowT A m ty_fathomref03_Pool (headM dm ll s'), hh, ?_⟩
    refine br_f rfl ?_
    obtain ⟨F1', c1, go1⟩ := t2.left
    refine Resident_ok c1 ⟨hh, ?_⟩
    simp only [optK_eq]
    refine ⟨ll, fun A hA => by rw [add_lit0]; exact hA.cell rfl, br_f (by rw [hll]; simp) ?_⟩
    refine Pinned_ok c1 (by omega) fun D e3 => ⟨hh.ext e3, ?_⟩
    obtain ⟨t3, k3⟩ := t2.ext e3
    obtain ⟨F2'', d2, _, _⟩ := t3.right
    obtain ⟨F1'', d1, _⟩ := t3.left
    refine RPPinned_ok d2 ⟨hh.ext e3, br_f (by simp) ?_⟩
    refine Peak_ok d1 ⟨hh.ext e3, ⟨(s'.peak : Int), fun A hA => by rw [add_lit0]; exact hA.cell rfl, br_f (by simp) ?_⟩⟩
    refine Frames_ok d1 ⟨hh.ext e3, ⟨(s'.most : Int), fun A hA => by rw [add_lit0]; exact hA.cell rfl, br_f (by simp) ?_⟩⟩
    refine PDisk_ok d1 ?_
    have gD : Gl D := gC.mod e3 id
    obtain ⟨D1'', dd, _, _⟩ := d1.disk gD
    refine Ops_ok dd (Ops_ok dd (br_f (by simp) ?_))
    exact hnext hlt _ _ ⟨succ64 k (by omega), eC.trans e3, s', t3, y1, by omega, by omega⟩
  · obtain ⟨F1', F2', c1, c2, dj', q1, q2, ql⟩ := t
    obtain ⟨D1', d1, i1, _⟩ := c1.disk gB
    obtain ⟨D2', d2, i2, _⟩ := c2.disk
    refine pdisks_ok eB d1 d2 (fun b hb hb2 => dj' b (i1 b hb) (i2 b hb2)) (fun b hb => Nat.le_of_not_lt (q1 b (i1 b hb))) (fun b hb => Nat.le_of_not_lt (q2 b (i2 b hb))) (by omega) fun C e3 => ?_
    refine br_t rfl ?_
    exact pworks_ok (hg.mod e3 id) fun D e4 => hK D (e3.trans e4)

theorem PoolPlays_ok {quota frames p keep : Int} (hg : Gl H) (hq : quota ≤ 9223372036854775807) (hp : p ≤ 9223372036854775807) (hx : RdE EPS H script.a xs) (hn : script.n = xs.length) (hf : ∀ x ∈ xs, PStep.fine x)
    (hK : ∀ B, Ext H B → R true B) : fathomlaw03_PoolPlays.sp quota frames script p keep H R := by
  refine fathomlaw03_PoolPlays.of ?_
  unfold fathomlaw03_PoolPlays.vc
  refine br_mk (fun _ => hK H (.refl _ _)) (fun hc => ?_)
  have hxl : xs.length ≤ 150 := by rw [hn] at hc; simp at hc; omega
  refine New_ok hq fun F1 d H1 a1 e1 f1 => ?_
  refine RNew_ok hq fun F2 n H2 a2 e2 f2 => ?_
  have a1' : DiskAt F1 H2 d (dk0 quota) := a1.keep fun b hb hbl => e2.same b hbl id
  have l1 := a1.lt
  have dj : ∀ b, F1 b → ¬ F2 b := fun b hb hb2 => by have := l1 b hb; have := f2 b hb2; omega
  have f2' : ∀ b, F2 b → H.size ≤ b := fun b hb => Nat.le_trans e1.size (f2 b hb)
  refine br_mk (fun hcr => ?_) (fun hcr => ?_)
  · refine Crash_ok a1' hp fun F1' H3 b1 S1 => ?_
    have a2' : RefAt F2 H3 n (dk0 quota) := a2.keep fun b hb hbl => S1.mod.same b hbl fun q => dj b q hb
    refine RCrash_ok a2' hp fun F2' H4 b2 S2 => ?_
    have l2 := a2'.lt
    have l2' := a2.lt
    have dj1 : ∀ b, F1' b → ¬ F2 b := fun b hb hb2 => by
      rcases S1.own b hb with q | q
      · exact dj b q hb2
      · have := l2' b hb2; omega
    have l1' := b1.lt
    have dj2 : ∀ b, F1' b → ¬ F2' b := fun b hb hb2 => by
      rcases S2.own b hb2 with q | q
      · exact dj1 b hb q
      · have := l1' b hb; omega
    have z1 := e1.size; have z2 := e2.size; have z3 := S1.mod.size; have z4 := S2.mod.size
    have e4 : Ext H H4 := ⟨by omega, fun b hb _ => (S2.mod.same b (by omega) fun q => by have := f2' b q; omega).trans ((S1.mod.same b (by omega) fun q => by have := f1 b q; omega).trans ((e2.same b (by omega) id).trans (e1.same b hb id)))⟩
    refine ptail_ok hg e4 (b1.keep fun b hb hbl => S2.mod.same b hbl (dj1 b hb)) b2 dj2 (fun b hb => ?_) (fun b hb => ?_) (by rw [Dk.setCrash_logs]; rfl) hx hn hxl hf hK
    · rcases S1.own b hb with q | q
      · exact f1 b q
      · omega
    · rcases S2.own b hb with q | q
      · exact f2' b q
      · omega
  · exact ptail_ok hg (e1.trans e2) a1' a2 dj f1 f2' rfl hx hn hxl hf hK

end
end Go.Proofs.YtbhddkmfhampbaaGreatDoor

/-
  PoolPlays: for every input the law returns true, and its arguments read as before; the table of the page's sum is laid as the program's text lays it. No condition beside that.
-/
namespace Go.Proofs.YtbhddkmfhampbaaGreatDoor
open Go.ChangeShapes Go.WideShapes Go.ChangeAt Go.RowKit

/-- The fields of a step: type and place. -/
def pstepFields : List (TypeId × Nat) := [(ty_int, 0), (ty_string, 1), (ty_int, 2), (ty_int, 3), (ty_uint8, 4)]
theorem pstep_fields : ∃ fs, Tryz.prog.underlying ty_fathomlaw03_Step = some (.struct fs) ∧ fs.toList.map (fun f => (f.type, f.offset)) = pstepFields := by
  have hb : (match Tryz.prog.underlying ty_fathomlaw03_Step with | some (.struct fs) => (fs.toList.map (fun f => (f.type, f.offset))) == pstepFields | _ => false) = true := by kernel_rfl
  split at hb
  · rename_i fs q; exact ⟨fs, q, by simpa using hb⟩
  · cases hb

set_option maxRecDepth 100000 in
/-- An argument: a slice of steps. -/
theorem open_psteps {H : Type} {enc : TypeId × Value → H} {r : Reach} {b0 : Nat} {W : World} {v : Value} {d : DataW H} {ps : List MemPlace}
    (hval : Value.okWide Tryz.prog W r b0 22 v) (h : DataW.Trod enc Tryz.prog W 0 (fun _ => true) true 22 v d ps) :
    ∃ (s : Sl) (xs : List PStep), v = Sl.v s ∧ RdE EPS W.heap s.a xs ∧ s.n = xs.length ∧ s.n ≤ s.c ∧ ∀ x ∈ xs, PStep.fine x := by
  refine open_structs (E := EPS) (fine := PStep.fine) (e := ty_fathomlaw03_Step) (by kernel_rfl) (by kernel_rfl) (by decide) ?_ hval h
  intro a cs fuel y hlen _ hy
  obtain ⟨fs, hst, hfs⟩ := pstep_fields
  obtain ⟨k, fld⟩ := trod_field hst hfs hy
  have c1 : ∀ t ∈ ([ty_int, ty_string, ty_uint8] : List TypeId), Tryz.prog.cellsOf t = 1 := by
    have hb : ([ty_int, ty_string, ty_uint8] : List TypeId).all (fun t => Nat.beq (Tryz.prog.cellsOf t) 1) = true := by kernel_rfl
    intro t ht
    exact Nat.eq_of_beq_eq_true (List.all_eq_true.1 hb t ht)
  match cs, hlen with
  | [v0, v1, v2, v3, v4], _ =>
    obtain ⟨y0, g0⟩ := fld 0 ty_int 0 rfl
    obtain ⟨y1, g1⟩ := fld 1 ty_string 1 rfl
    obtain ⟨y2, g2⟩ := fld 2 ty_int 2 rfl
    obtain ⟨y3, g3⟩ := fld 3 ty_int 3 rfl
    obtain ⟨y4, g4⟩ := fld 4 ty_uint8 4 rfl
    rw [c1 _ (by simp)] at g0 g1 g2 g3 g4
    obtain ⟨x0, e0, _⟩ := DataW.trod_int (k := .i64) (by kernel_rfl) g0
    obtain ⟨x1, e1, _, w1⟩ := DataW.trod_string (by kernel_rfl) g1
    obtain ⟨x2, e2, _, w2⟩ := DataW.trod_int (k := .i64) (by kernel_rfl) g2
    obtain ⟨x3, e3, _⟩ := DataW.trod_int (k := .i64) (by kernel_rfl) g3
    obtain ⟨x4, e4, _, w4⟩ := DataW.trod_int (k := .u8) (by kernel_rfl) g4
    simp at e0 e1 e2 e3 e4
    subst e0 e1 e2 e3 e4
    exact ⟨(x0, x1, x2, x3, x4), ⟨w1, fits_i64 w2, fits_u8 w4⟩, rfl⟩

set_option maxRecDepth 100000 in
theorem poolPlays_lifted (os : Os) (started : os.Started) (H : Type) (enc : TypeId × Value → H) :
    ReturnsInHanded {} Tryz.checked os 3 .any (fun w args => (Rows.poolPlaysSpec.pre enc Tryz.prog Tryz.f3 [] false w args ∧ laidMetH Tryz.prog laidS w) ∧ sizedMet enc Tryz.prog Tryz.f3 (OpenSpec.ofChange Rows.poolPlaysSpec) false w args)
      (Rows.poolPlaysSpec.post enc Tryz.prog Tryz.f3 false true false false) := by
  refine returnsInHanded_of_change_and (C := Tryz.checked) (X := fun w _ => laidMetH Tryz.prog laidS w) (fun _ _ _ hh h => h.of_heap hh) pprog_own started (by kernel_rfl) Tryz.func3
    (ChangeSpec.witness_shaped (enc := enc) (C := Tryz.checked) (os := os) (X := fun w _ => laidMetH Tryz.prog laidS w) false (World.doorLaid Tryz.prog 400 os) #[.int .i64 0, .int .i64 0, .slice none 0 0, .int .i64 0, .int .u64 0] 8 rfl (World.shaped_of_RefB (by kernel_rfl) (by kernel_rfl)) (by kernel_rfl) (by kernel_rfl) (by kernel_rfl) (door_met os _)) ?_
  intro W base args ds gs before hval0 hW _ _ hL _
  have hval : ∀ (j : Nat) t v, Tryz.f3.params[j]? = some t → args[j]? = some v → Value.okWide Tryz.prog W .any base t v := hval0
  have hW' := hW
  obtain ⟨p, q, hA0, hV, rfl, hfz, hnd⟩ := hW
  have hA : DataW.TrodAll enc Tryz.prog W 0 (fun _ => true) true Tryz.f3.params.toList args.toList ds p := hA0
  rw [Tryz.params3] at hA hval
  obtain ⟨v0, v1, v2, v3, v4, d0, d1, d2, d3, d4, p0, p1, p2, p3, p4, rfl, rfl, rfl, h0, h1, h2, h3, h4⟩ := trodAll_five hA
  obtain ⟨rfl, rfl⟩ := trodVars_none hV
  obtain ⟨quota, rfl, hq⟩ := wide_int (k := .i64) (hval 0 ty_int v0 rfl rfl) (by kernel_rfl)
  obtain ⟨frames, rfl, _⟩ := wide_int (k := .i64) (hval 1 ty_int v1 rfl rfl) (by kernel_rfl)
  obtain ⟨s, xs, rfl, hx, hlen, _, hfine⟩ := open_psteps (hval 2 22 v2 rfl rfl) h2
  obtain ⟨cin, rfl, hc⟩ := wide_int (k := .i64) (hval 3 ty_int v3 rfl rfl) (by kernel_rfl)
  obtain ⟨keep, rfl, _⟩ := wide_int (k := .u64) (hval 4 23 v4 rfl rfl) (by kernel_rfl)
  have hspec := PoolPlays_ok (quota := quota) (frames := frames) (script := s) (xs := xs) (p := cin) (keep := keep) (H := W.heap) (R := fun b H' => b = true ∧ Ext W.heap H') (gl_of_laid hL) (has_i64 hq).2 (has_i64 hc).2 hx hlen hfine (fun H' e => ⟨rfl, e⟩)
  refine (hspec W rfl).mono fun e W' ⟨v, he, ⟨x, hx, hb, hext⟩, hal⟩ => ?_
  subst he; subst hx; subst hb
  exact ⟨_, rfl, law_post pprog_laidOut (by decide +kernel) rfl (by kernel_rfl) rfl rfl rfl rfl hW' hext hal⟩

theorem poolPlays_row : Rows.PoolPlaysSaid :=
  OpenClaim.holds_of_wide 3 Tryz.f3 rfl rfl rfl rfl rfl rfl rfl ⟨rfl, rfl, rfl, rfl, rfl⟩ rfl rfl rfl rfl rfl (by kernel_rfl) Tryz.func3 (by kernel_rfl)
    (of_decide_eq_true (by kernel_rfl)) (by unfold Func.isWrapper; first | (rw [if_pos (by decide +kernel)]; kernel_rfl) | (rw [if_neg (by decide +kernel)]; exact ⟨rfl, rfl⟩))
    (fun os started H enc _ => poolPlays_lifted os started H enc)

/-- The card: the table tied to the program's text. -/
theorem poolPlays_holds : Rows.PoolPlaysCardSaid :=
  Claim7.holds_tied_plain_at .later [] [.data] true _ false
    poolPlays_row (fun _ h => by cases h) (by kernel_rfl) (fun _ h => by cases h) poolPlays_row_tie rfl ⟨rfl, rfl⟩ (by kernel_rfl) rfl
    (fun f fn hf hfn => by
      obtain rfl : f = 3 := Option.some.inj ((show Tryz.prog.funcNamed "fathom/fathomlaw03.PoolPlays" = some 3 by kernel_rfl).symm.trans hf) |>.symm
      obtain rfl : fn = Tryz.f3 := (Option.some.inj (Tryz.func3.symm.trans hfn)).symm
      exact ⟨by kernel_rfl, fun j t ht => by
        rw [Tryz.params3] at ht
        have hm : t ∈ [ty_int, ty_int, 22, ty_int, 23] := by simpa using Array.mem_of_getElem? ht
        have hall : ([ty_int, ty_int, 22, ty_int, 23].all fun u => !Tryz.prog.wantsStandIn u) = true := by kernel_rfl
        exact (show Tryz.prog.wantsStandIn t = false by simpa using List.all_eq_true.1 hall t hm)⟩)
    (by kernel_rfl)
#print axioms poolPlays_holds
end Go.Proofs.YtbhddkmfhampbaaGreatDoor
