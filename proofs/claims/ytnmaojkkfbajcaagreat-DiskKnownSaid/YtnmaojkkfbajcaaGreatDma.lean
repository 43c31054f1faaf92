/-
  Calls one behind the other on one disk (run); all pages of all files (files); a name that no file has (own).
-/
import Derived.Test.YtnmaojkkfbajcaaGreatDpb
namespace Go.Proofs.YtnmaojkkfbajcaaGreat
open Go.MapKept

def Dk.run1 (s : Dk) (x : StepV) : Dk :=
  if x.1.emod 7 = 0 then (s.create x.2.1).1 else if x.1.emod 7 = 1 then (s.write x.2.1 x.2.2.2.1 (fillB x.2.2.2.2.1 x.2.2.2.2.2.1)).1
  else if x.1.emod 7 = 4 then (s.sync x.2.1).1 else if x.1.emod 7 = 5 then (s.rename x.2.1 x.2.2.1).1 else if x.1.emod 7 = 6 then (s.remove x.2.1).1 else s
def Dk.runs (s : Dk) (xs : List StepV) : Dk := xs.foldl Dk.run1 s

theorem Dk.run1_logs (s : Dk) (x : StepV) : (s.run1 x).logs ≤ s.logs + 1 := by
  unfold Dk.run1
  repeat' split
  · have := s.create_logs x.2.1; omega
  · exact s.write_logs _ _ _
  · have := s.sync_logs x.2.1; omega
  · have := s.rename_logs x.2.1 x.2.2.1; omega
  · have := s.remove_logs x.2.1; omega
  · omega

theorem runs_succ (s : Dk) {xs : List StepV} {k : Nat} (hk : k < xs.length) : s.runs (xs.take (k + 1)) = (s.runs (xs.take k)).run1 xs[k] := by
  unfold Dk.runs
  rw [List.take_add_one, List.getElem?_eq_getElem hk, List.foldl_append]
  rfl
theorem Dk.runs_logs (s : Dk) : ∀ xs : List StepV, (s.runs xs).logs ≤ s.logs + xs.length := by
  intro xs
  induction xs generalizing s with
  | nil => exact Nat.le_refl _
  | cons x xs ih =>
    have h1 := ih (s.run1 x)
    have h2 := s.run1_logs x
    show ((s.run1 x).runs xs).logs ≤ _
    simp only [List.length_cons]
    omega

/-- The cells of a step. -/
abbrev stepCs (x : StepV) : Array Value := #[(.int .i64 x.1), (.string x.2.1), (.string x.2.2.1), (.int .i64 x.2.2.2.1), (.int .u8 x.2.2.2.2.1), (.bool x.2.2.2.2.2.1), (.int .u64 x.2.2.2.2.2.2)]

set_option maxHeartbeats 1000000 in
theorem run_ok {F : Nat → Prop} {d : Nat} {s : Dk} {script : Sl} {xs : List StepV} {H0 H : Heap} {K : Unit → Heap → Prop} (h : DiskAt F H d s) (hx : RdE EStep H0 script.a xs) (hn : script.n = xs.length) (hf : ∀ x ∈ xs, StepV.fine x)
    (hm : Mod (fun _ => False) H0 H) (hF : ∀ b, F b → H0.size ≤ b) (hl : s.logs + xs.length < 34359738368) (hK : ∀ F' H', DiskAt F' H' d (s.runs xs) → Step F F' H H' → K () H') : fathomlaw01_run.sp (at0 d) script H K := by
  refine fathomlaw01_run.of ?_
  unfold fathomlaw01_run.vc
  refine loop_upto xs.length (fun k i A => i = (k : Int) ∧ ∃ F', DiskAt F' A d (s.runs (xs.take k)) ∧ Step F F' H A) ⟨rfl, F, by simpa [Dk.runs] using h, .refl _ _⟩ ?_
  rintro k _ A next hk ⟨rfl, F1, a1, t1⟩ hnext
  have hz := hm.size
  have hF1 : ∀ b, F1 b → H0.size ≤ b := fun b hb => by
    rcases t1.own b hb with q | q
    · exact hF b q
    · omega
  have hmA := hm.grow t1.mod hF
  refine br_mk (fun hc => ?_) (fun hc => ?_)
  · have hlt : k < xs.length := by rw [hn] at hc; simpa using hc
    have hx1 : RdE EStep A script.a xs := Reads.mod hx hmA fun _ _ => id
    obtain ⟨ad, ha⟩ := RdE.addr hx1 (by decide) (by omega)
    have hxk : xs[k]? = some xs[k] := List.getElem?_eq_getElem hlt
    obtain ⟨f4, f3⟩ := hf _ (List.getElem_mem hlt)
    rw [ha]
    refine ⟨⟨by omega, by omega⟩, ?_⟩
    rw [Int.toNat_natCast]
    refine RdE.ldA (E := EStep) (c := cAgg [(cInt .i64), cStr, cStr, (cInt .i64), (cInt .u8), cBool, (cInt .u64)]) (y := xs[k]) hx1 ha hxk rfl rfl rfl ?_
    have hrs := runs_succ s hlt
    have hlk : (s.runs (xs.take k)).logs < 34359738368 := by
      have := s.runs_logs (xs.take k)
      have : (xs.take k).length ≤ xs.length := by simp; omega
      omega
    generalize s.runs (xs.take k) = t at *
    generalize xs[k] = x at *
    refine newC_rowT fun H2 s2 r2 m2 => ?_
    refine r2.stAll (cs := stepCs x) (by kernel_rfl) (by kernel_rfl) (by intro v hv; simp at hv; rcases hv with rfl | rfl | rfl | rfl | rfl | rfl | rfl <;> rfl) fun H3 r3 m3 s3 => ?_
    have hlt1 := a1.lt
    obtain ⟨p, hp⟩ : ∃ p, p = A.size := ⟨_, rfl⟩
    rw [← hp] at r3 m3
    rw [← hp]
    have hpF : ¬ F1 p := fun hb => by have := hlt1 p hb; omega
    have m13 : Mod (fun _ => False) A H3 := ⟨by have := m2.size; omega, fun b hb _ => (m3.same b (by have := m2.size; omega) (by omega)).trans (m2.same b hb id)⟩
    have a3 : DiskAt F1 H3 d t := a1.keep fun b hb hbl => m13.same b hbl id
    have go : ∀ F2 H4, DiskAt F2 H4 d (t.run1 x) → Step F1 F2 H3 H4 → next (IntKind.i64.wrap ((k : Int) + 1)) H4 := fun F2 H4 a4 t4 =>
      hnext hlt _ _ ⟨succ64 k (by omega), F2, by rw [hrs]; exact a4, t1.trans (Step.pre m13 t4)⟩
    refine r3.ld (c := cInt .i64) (i := 0) (x := x.1) rfl ?_
    refine Pick_ok (by omega) ?_
    rw [if_neg (by omega)]
    refine br_mk (fun hr => ?_) (fun hr0 => ?_)
    · have e : t.run1 x = (t.create x.2.1).1 := by unfold Dk.run1; rw [if_pos (by simpa using hr)]
      rw [e] at go
      refine r3.ld (c := cStr) (i := 1) (x := x.2.1) rfl ?_
      exact Create_ok a3 go
    have n0 : ¬ x.1.emod 7 = 0 := by simpa using hr0
    refine br_mk (fun hr => ?_) (fun hr1 => ?_)
    · have e : t.run1 x = (t.write x.2.1 x.2.2.2.1 (fillB x.2.2.2.2.1 x.2.2.2.2.2.1)).1 := by unfold Dk.run1; rw [if_neg n0, if_pos (by simpa using hr)]
      rw [e] at go
      refine ⟨fun A => RowT A p ty_fathomlaw01_Step (stepCs x), r3, ?_⟩
      refine RowT.ldC (c := cStr) (i := 1) (x := x.2.1) (G := fun A => RowT A p ty_fathomlaw01_Step (stepCs x)) (cs := fun _ => stepCs x) (fun _ h => h) (fun _ _ => rfl) ?_
      refine RowT.ldC (c := cInt .i64) (i := 3) (x := x.2.2.2.1) (G := fun A => RowT A p ty_fathomlaw01_Step (stepCs x)) (cs := fun _ => stepCs x) (fun _ h => h) (fun _ _ => rfl) ?_
      refine r3.ldA (c := cAgg [(cInt .i64), cStr, cStr, (cInt .i64), (cInt .u8), cBool, (cInt .u64)]) (x := x) rfl rfl ?_
      refine bytes_ok f4 fun bs H5 o5 m5 f5 => ⟨r3.ext m5, ?_⟩
      have z3 := m13.size
      refine Write_ok (a3.keep fun b hb hbl => m5.same b hbl id) (SlB_byts o5) (fun ad ha hb => ?_) (by omega) fun F2 H6 a6 t6 => go F2 H6 a6 (Step.pre m5 t6)
      have := f5 _ ⟨ad, ha, rfl⟩; have := hlt1 _ hb; omega
    have n1 : ¬ x.1.emod 7 = 1 := by simpa using hr1
    refine br_mk (fun hr => ?_) (fun hr4 => ?_)
    · have e : t.run1 x = (t.sync x.2.1).1 := by unfold Dk.run1; rw [if_neg n0, if_neg n1, if_pos (by simpa using hr)]
      rw [e] at go
      refine r3.ld (c := cStr) (i := 1) (x := x.2.1) rfl ?_
      exact Sync_ok a3 go
    have n4 : ¬ x.1.emod 7 = 4 := by simpa using hr4
    refine br_mk (fun hr => ?_) (fun hr5 => ?_)
    · have e : t.run1 x = (t.rename x.2.1 x.2.2.1).1 := by unfold Dk.run1; rw [if_neg n0, if_neg n1, if_neg n4, if_pos (by simpa using hr)]
      rw [e] at go
      refine r3.ld (c := cStr) (i := 1) (x := x.2.1) rfl ?_
      refine r3.ld (c := cStr) (i := 2) (x := x.2.2.1) rfl ?_
      exact Rename_ok a3 go
    have n5 : ¬ x.1.emod 7 = 5 := by simpa using hr5
    refine br_mk (fun hr => ?_) (fun hr6 => ?_)
    · have e : t.run1 x = (t.remove x.2.1).1 := by unfold Dk.run1; rw [if_neg n0, if_neg n1, if_neg n4, if_neg n5, if_pos (by simpa using hr)]
      rw [e] at go
      refine r3.ld (c := cStr) (i := 1) (x := x.2.1) rfl ?_
      exact Remove_ok a3 go
    · have n6 : ¬ x.1.emod 7 = 6 := by simpa using hr6
      have e : t.run1 x = t := by unfold Dk.run1; rw [if_neg n0, if_neg n1, if_neg n4, if_neg n5, if_neg n6]
      rw [e] at go
      exact go F1 H3 a3 (.refl _ _)
  · have hge : k = xs.length := by
      have : ¬ ((k : Int) < (script.n : Int)) := by simpa using hc
      omega
    subst hge
    rw [List.take_length] at a1
    exact hK F1 A a1 t1

end Go.Proofs.YtnmaojkkfbajcaaGreat
