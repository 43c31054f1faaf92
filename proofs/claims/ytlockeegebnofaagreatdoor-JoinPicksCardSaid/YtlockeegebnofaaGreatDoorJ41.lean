/-
 JoinPicks: for every input the law returns true, and its arguments read as before; the tables are laid as the program's text lays them. No condition beside that.
-/
import Derived.Test.YtlockeegebnofaaGreatDoorPkr
import Derived.Test.YtlockeegebnofaaGreatDoorFxn
import Derived.Test.YtlockeegebnofaaGreatDoorFxt
import Derived.Test.YtlockeegebnofaaGreatDoorJ32
import Derived.Test.YtlockeegebnofaaGreatDoorJ36
import Derived.Test.YtlockeegebnofaaGreatDoorJ40
/-
 A relation of two rows, Loop and Anti over it (works): the walk.
-/
namespace Go.Proofs.YtlockeegebnofaaGreatDoor
open Go.MapKept
theorem one_order {A : Heap} {k a : Nat} (r : RowT A k YaQ #[.slice (some ⟨a, 0, none⟩) 2 2]) (ra : RowT A a YaT #[.int .i64 0, .int .i64 1]) : OrdX (fun _ => False) A ⟨some ⟨k, 0, none⟩, 1, 1⟩ [[0, 1]] := by
 refine ⟨rfl, fun ad ha => ?_, fun i hi => ?_⟩
 ·have : ad = ⟨k, 0, none⟩ := (Option.some.inj ha).symm
  subst this
  exact ⟨obj_lt r, id⟩
 ·have hi : i = 0 := by have : i < 1 := hi
                        omega
  subst hi
  exact ⟨_, ⟨some ⟨a, 0, none⟩, 2, 2⟩, rfl, by rw [add_lit0]; exact r.cell rfl, fun ad ha => ⟨by have := (Option.some.inj ha).symm; subst this; exact obj_lt ra, id⟩, two_cells ra, Nat.le_refl _⟩
theorem one_turn {x y : Int} (hx : 0 ≤ x ∧ x < 100) (hy : 0 ≤ y ∧ y < 100) : turnL [x, y] [0, 1] = [x, y] ∧ fitsL [x, y] := by
 refine ⟨by simp [turnL, turnOK], fun z hz => ?_⟩
 simp at hz
 rcases hz with rfl | rfl <;> omega
theorem asc_rel : Asc [[2, 7], [2, 8]] := by unfold Asc; simp [ltR, cmpL]
theorem four_cells {A : Heap} {k : Nat} {x y z w : Int} (r : RowT A k YaP #[.int .u64 x, .int .u64 y, .int .u64 z, .int .u64 w]) : Ints .u64 A ⟨some ⟨k, 0, none⟩, 4, 4⟩ [x, y, z, w] := by
 refine ⟨rfl, fun i u hu => ⟨_, rfl, ?_⟩⟩
 have hi : i = 0 ∨ i = 1 ∨ i = 2 ∨ i = 3 := by have := (List.getElem?_eq_some_iff.1 hu).1; simp at this; omega
 rcases hi with rfl | rfl | rfl | rfl <;>
 ·simp at hu; subst hu
  rw [add_lit0]; exact r.cell rfl
set_option maxHeartbeats 4000000 in
set_option maxRecDepth 10000 in
theorem jworks_ok {H : Heap} {K : Bool → Heap → Prop} (hg : Gl H) (hK : ∀ B, Ext H B → K true B) : ZbJ.sp H K := by
 refine ZbJ.of ?_
 unfold ZbJ.vc
 refine New_ok (by decide) fun F1 d H1 a1 e1 f1 => ?_
 refine TP.new (m := 8) hg e1 a1 f1 (by decide) (by decide) fun p H2 t2 => ?_
 obtain ⟨e2, F2, p2, f2⟩ := t2
 have P2 := pool0 e2 p2 f2
 refine newC_rowT fun H3 z3 r3 e3 => ?_
 refine newC_rowT fun H5 z5 r5 e5 => ?_
 have e35 := e3.trans e5
 have P5 := P2.grow e35
 have ho := one_order r5 (r3.ext e5)
 refine relNew_ok (F := F2) (M := noFiles) (p := p) (H0 := H) (W := 2) (by decide) ho (by decide) (by decide) (fun x hx => ?_) rfl P5.pool.lt P5.ext.size (fun _ => rfl) fun R H6 n6 r6 e6 o6 => ?_
 ·have : x = [0, 1] := by simpa using hx
  subst this
  exact ⟨rfl, order_of (List.Perm.refl _)⟩
 refine br_f rfl (br_f rfl ?_)
 have RP6 : RelP H H6 F2 p d (pl0 (dk0 60) 8) noFiles 60 0 8 1 0 R := ⟨P5.grow e6, r6, ⟨[], fun a y hy => (by cases hy), Nat.le_refl _⟩⟩
 have hW : R.W = 2 := n6.W
 have hords : R.ords = [[0, 1]] := n6.ords
 have hol : R.ords.length = 1 := by rw [hords]; rfl
 have hnm : R.name.size ≤ 90 := by rw [n6.name]; decide
 have hnb : R.nb = R.next := n6.nb.trans n6.next.symm
 have hnext : R.next = 0 := n6.next
 have turnO : ∀ {x y : Int}, (0 ≤ x ∧ x < 100) → (0 ≤ y ∧ y < 100) → ∀ i (hi : i < R.ords.length), R.ords[i].length ≤ 1000 ∧ (turnL [x, y] R.ords[i]).length = R.W ∧ fitsL (turnL [x, y] R.ords[i]) := by
  intro x y hx hy i hi
  have hi0 : i = 0 := by omega
  subst hi0
  obtain ⟨q1, q2⟩ := one_turn hx hy
  have e : R.ords[0] = [0, 1] := by simp [hords]
  rw [e, q1, hW]
  exact ⟨by decide, rfl, q2⟩
 have rE0 : ∀ i, R.e.rowsAt i = [] := fun i => by unfold PartS.rowsAt; rw [n6.e]; simp
 have noRow : ∀ {R' : RelS} {l : List Int}, R'.f.ts = [] → R'.d.ts = [] → (∃ q ∈ R'.parts, l ∈ q.rows) → l ∈ R'.e.rows := fun {R' l} h1 h2 ⟨q, hq, hm⟩ => by
  unfold RelS.parts at hq
  simp only [List.mem_cons, List.not_mem_nil, or_false] at hq
  rcases hq with rfl | rfl | rfl
  ·unfold PartS.rows at hm; rw [h1] at hm; cases hm
  ·unfold PartS.rows at hm; rw [h2] at hm; cases hm
  ·exact hm
 refine newC_rowT fun H7 z7 r7 e7 => ?_
 have RP7 := RP6.grow e7
 refine relAdd_ok (w := 0) RP7 hg (fit_of hW hnm (by omega) n6.f n6.d n6.ex fun i => by rw [rE0]; decide) (by decide) (by decide) (fun i => by show (R.e.rowsAt i).length ≤ 0; rw [rE0]; decide) (by decide) (by rw [hol]; decide) (by rw [hol]; decide) (by rw [hol]; decide) (.inl n6.e) n6.ex hnb (by omega) (two_cells r7) (off_new RP6.ltX r7) (by rw [hW]; rfl) (turnO (by decide) (by decide)) (fun hex => ?_) (fun _ F8 s8 M8 U8 q8 nx8 H8 RP8 I8 u8 hnx8 S8 _ => ?_)
 ·exfalso
  have := noRow n6.f n6.d hex
  unfold PartS.rows at this; rw [n6.e] at this; cases this
 have I8 : Ins R.ords [2, 7] R.e q8 := I8
 obtain ⟨R8, hR8⟩ : ∃ R8, R8 = (R.put 2 q8).nums nx8 nx8 := ⟨_, rfl⟩
 have RP8 : RelP H H8 F8 p d s8 M8 60 U8 8 (1 + 4000000) (0 + R.ords.length) ((R.put 2 q8).nums nx8 nx8) := RP8
 rw [← hR8] at RP8 S8
 have g1 : R8.rb = R.rb := by rw [hR8]; rfl
 have g2 : R8.ords = R.ords := by rw [hR8]; rfl
 have g3 : R8.f = R.f := by rw [hR8]; rfl
 have g4 : R8.d = R.d := by rw [hR8]; rfl
 have g5 : R8.e = q8 := by rw [hR8]; rfl
 have g6 : R8.ex = R.ex := by rw [hR8]; rfl
 have g7 : R8.W = R.W := by rw [hR8]; rfl
 have g8 : R8.name = R.name := by rw [hR8]; rfl
 have g9 : R8.nb = nx8 ∧ R8.next = nx8 ∧ R8.turns = R.turns := by rw [hR8]; exact ⟨rfl, rfl, rfl⟩
 have q8l : q8.ts.length = 1 := by rw [I8.len, hol]
 have t27 : turnL [2, 7] (R.ords.getD 0 []) = [2, 7] ∧ turnL [2, 8] (R.ords.getD 0 []) = [2, 8] := by rw [hords]; exact ⟨by decide, by decide⟩
 have len8 : ∀ i, (q8.rowsAt i).length ≤ 1 := fun i => by
  by_cases hi : i < 1
  ·have := (I8.rows i (by omega)).2
   rw [rE0] at this; exact this
  ·rw [rowsAt_big (by omega)]; exact Nat.zero_le _
 rw [← g1]
 refine newC_rowT fun H9 z9 r9 e9 => ?_
 have RP9 := RP8.grow e9
 refine relAdd_ok (w := 1) RP9 hg (fit_of (by rw [g7]; exact hW) (by rw [g8]; exact hnm) (by rw [g9.1]; omega) (by rw [g3]; exact n6.f) (by rw [g4]; exact n6.d) (by rw [g6]; exact n6.ex) fun i => by rw [g5]; have := len8 i; omega) (by decide) (by decide) (fun i => by show (R8.e.rowsAt i).length ≤ 1; rw [g5]; exact len8 i) (by decide) (by rw [g2, hol]; rw [hol] at u8; omega) (by rw [g2, hol]; decide) (by rw [g2, hol]; decide) (.inr (by show R8.e.ts.length = _; rw [g5, g2, hol]; exact q8l)) (by rw [g6]; exact n6.ex) (by rw [g9.1, g9.2.1]) (by rw [g9.2.1, g2, hol]; omega) (two_cells r9) (off_new RP8.ltX r9) (by rw [g7, hW]; rfl) (fun i hi => by
   have := turnO (x := 2) (y := 8) (by decide) (by decide) i (by rw [← g2]; exact hi)
   simpa only [g2, g7] using this) (fun hex => ?_) (fun _ F10 s10 M10 U10 q10 nx10 H10 RP10 I10 u10 hnx10 S10 _ => ?_)
 ·exfalso
  have hm := noRow (by rw [g3]; exact n6.f) (by rw [g4]; exact n6.d) hex
  rw [rows_at, g5] at hm
  have := ((I8.rows 0 (by omega)).1 [2, 8]).1 hm
  rw [t27.1, rE0] at this
  rcases this with u | u
  ·exact absurd u (by decide)
  ·cases u
 have I10 : Ins R8.ords [2, 8] R8.e q10 := I10
 rw [g2, g5] at I10
 obtain ⟨R10, hR10⟩ : ∃ R10, R10 = (R8.put 2 q10).nums nx10 nx10 := ⟨_, rfl⟩
 rw [← hR10] at RP10 S10
 have k1 : R10.rb = R8.rb := by rw [hR10]; rfl
 have k2 : R10.ords = R.ords := by rw [hR10]; exact g2
 have k3 : R10.f = R.f := by rw [hR10]; exact g3
 have k4 : R10.d = R.d := by rw [hR10]; exact g4
 have k5 : R10.e = q10 := by rw [hR10]; rfl
 have k6 : R10.ex = R.ex := by rw [hR10]; exact g6
 have k7 : R10.W = 2 := by rw [hR10]; exact g7.trans hW
 have k8 : R10.name = R.name := by rw [hR10]; exact g8
 have k9 : R10.nb = nx10 ∧ R10.turns = 0 := by rw [hR10]; exact ⟨rfl, g9.2.2.trans n6.turns⟩
 have q10l : q10.ts.length = 1 := by rw [I10.len, hol]
 obtain ⟨T, hT⟩ : ∃ T, q10.ts = [T] := by
  match hq : q10.ts, q10l with
  | [T], _ => exact ⟨T, rfl⟩
 have hT0 : q10.ts[0]? = some T := by rw [hT]; rfl
 have hTL : T.L = [[2, 7], [2, 8]] := by
  rw [← rowsAt_mem hT0]
  refine asc_eq ?_ asc_rel fun y => ?_
  ·rw [rowsAt_mem hT0]
   exact (RP10.rel.tr T (RelS.part_all (q := q10) (by rw [← k5]; simp [RelS.parts]) T (by rw [hT]; simp))).asc
  ·have h1 := (I10.rows 0 (by omega)).1 y
   have h2 := (I8.rows 0 (by omega)).1 y
   rw [rE0] at h2
   rw [h1, h2, t27.1, t27.2]
   simp only [List.mem_cons, List.not_mem_nil, or_false]
   exact ⟨fun u => u.symm, fun u => u.symm⟩
 rw [← k1]
 refine relTurn_ok RP10 (by rw [k4]; exact n6.d) (by rw [k9.2]; decide) fun nb H11 RP11 S11 => ?_
 obtain ⟨R11, hR11⟩ : ∃ R11, R11 = R10.turned nb := ⟨_, rfl⟩
 rw [← hR11] at RP11 S11
 have m1 : R11.rb = R10.rb := by rw [hR11]; rfl
 have m2 : R11.ords = [[0, 1]] := by rw [hR11]; exact k2.trans hords
 have m3 : R11.f.ts = [] := by rw [hR11]; show R10.f.ts = []; rw [k3]; exact n6.f
 have m4 : R11.d.ts = [T] := by rw [hR11]; show R10.e.ts = [T]; rw [k5]; exact hT
 have m5 : R11.e.ts = [] := by rw [hR11]; rfl
 have m6 : R11.ex = [] := by rw [hR11]; show R10.ex = []; rw [k6]; exact n6.ex
 have m7 : R11.W = 2 := by rw [hR11]; exact k7
 have m8 : R11.name = R.name := by rw [hR11]; exact k8
 have m9 : R11.nb = nx10 := by rw [hR11]; exact k9.1
 rw [← m1]
 have hfit : R11.Fit := by
  refine ⟨by omega, by rw [m8]; exact hnm, by rw [m9]; have := g9.2.1; rw [g2, hol] at hnx10; omega, fun t ht => ?_⟩
  unfold RelS.all at ht
  rw [m3, m4, m5, m6] at ht
  have : t = T := by simpa using ht
  rw [this, hTL]; decide
 have hm11 : (1 + 4000000 + 4000000 : Nat) = 8000001 := rfl
 have T11 : RelT H H11 F10 (fun _ => False) p d s10 M10 8000001 R11 T := ⟨⟨U10, RP11.pool⟩, RP11.rel.congr fun b => ⟨.inl, fun u => u.elim id fun v => v.elim⟩, RP11.dom.mono (by rw [g2, hol]; decide), fun b u => u.elim, hfit, m7, m2, m3, m4, hTL⟩
 -- the sources
 refine from2_ok fun a la wa H14 e14 na => ?_
 refine from2_ok fun b lb wb H18 e18 nb2 => ?_
 refine newC_rowT fun H19 z19 r19 e19 => ?_
 refine newC_rowT fun H20 z20 r20 e20 => ?_
 obtain ⟨sa0, fa0⟩ := na.src (fun q => H11.size ≤ q ∧ q < H14.size) fun q h1 h2 => ⟨h1, h2⟩
 obtain ⟨sb0, fb0⟩ := nb2.src (fun q => H14.size ≤ q ∧ q < H18.size) fun q h1 h2 => ⟨h1, h2⟩
 have e1820 := e19.trans e20
 have e1420 := e18.trans e1820
 have e1120 := e14.trans e1420
 have row11 : RowT H11 R11.rb YaO (relV p R11) := RP11.rel.row
 refine Loop_ok (p := p) (R := R11) (a := a) (show RowT H20 a Yau (srcW 2 (fromF la wa) (Sl.mk none 0 0) 0 .nilIface false false) from fa0.row.ext e1420) (row11.ext e1120) m7 (one_cell2 (r19.ext e20)) (one_cell2 r20) fun sl pL pR pP pX pY pl pc lc rc H21 L21 e21 I21 => ?_
 refine newC_rowT fun H22 z22 r22 e22 => ?_
 refine newC_rowT fun H23 z23 r23 e23 => ?_
 have e2023 := (e21.trans e22).trans e23
 refine Anti_ok (R := R11) (a := b) (show RowT H23 b Yau (srcW 2 (fromF lb wb) (Sl.mk none 0 0) 0 .nilIface false false) from (fb0.row.ext e1820).ext e2023) (one_cell2 (r22.ext e23)) (one_cell2 r23) fun sm qL qR qX qY lc2 rc2 H24 A24 e24 I24 => ?_
 refine br_f rfl (br_f rfl ?_)
 have e2124 := (e22.trans e23).trans e24
 have e2024 := e21.trans e2124
 have e1124 := e1120.trans e2024
 have z14 := e14.size
 have z18 := e18.size
 have z1820 := e1820.size
 have z21 := e21.size
 have z2124 := e2124.size
 have z2324 := e24.size
 have T24 := T11.more (X := fun q => H11.size ≤ q ∧ q < H24.size) e1124 fun q hq => hq
 have L24 := L21.grow e2124
 obtain ⟨unl, rowl⟩ := L24.row
 have hnlo := na.lo
 have hnhi := na.hi
 have hblo := nb2.lo
 have hbhi := nb2.hi
 obtain ⟨⟨i1, i2, i3, i4⟩, ⟨i5, i6, i7, i8⟩, _, _⟩ := id I21
 have e1424 := (e1420.trans e2024)
 have fa24 := fa0.keep (Y := fun _ => False) e1424 (fun b u => u.elim) id id
 have fb24 := fb0.keep (Y := fun _ => False) (e1820.trans e2024) (fun b u => u.elim) id id
 have slne : sl ≠ pl ∧ sl ≠ pc := ⟨fun e => absurd (cells_ty (e ▸ rowl) L24.cl) (by decide), fun e => absurd (cells_ty (e ▸ rowl) L24.cc) (by decide)⟩
 refine loopNext_ok T24 hg (by decide) L24 (I21.mono fun q hq => .inr ⟨by omega, by omega⟩) fa24 ⟨fun q hq => .inr ⟨hq.1, by omega⟩, ⟨hnlo.1, hnhi.1⟩, ⟨hnlo.2.1, hnhi.2.1⟩, fun u => by omega, fun u => by omega⟩ slne (fun F25 s25 V2 out H25 T25 oo fo mm25 e25 row25 => ?_) rowl
 have A25 : AntiM H25 sm b R11.rb qL qR qX qY lc2 rc2 := A24.mod mm25 (I24.mono fun q hq u => by
  rcases u with u | u | u | u
  ·exact u (.inr ⟨by omega, by omega⟩)
  ·omega
  ·omega
  ·omega)
 have fb25 := fb24.keep mm25 (fun q u => by
  rcases u with u | u | u | u
  ·exact .inl fun v => u (.inr ⟨by omega, by omega⟩)
  ·exact .inl fun v => by omega
  ·exact .inl fun v => by omega
  ·exact .inl fun v => by omega) (fun u => by
  rcases u with u | u | u | u
  ·exact u (.inr ⟨by omega, by omega⟩)
  ·omega
  ·omega
  ·omega) (fun u => by
  rcases u with u | u | u | u
  ·exact u (.inr ⟨by omega, by omega⟩)
  ·omega
  ·omega
  ·omega)
 obtain ⟨unm, rowm⟩ := A25.row
 refine antiNext_ok T25 hg (by decide) A25 (I24.mono fun q hq => .inl (.inr ⟨by omega, by omega⟩)) fb25 ⟨fun q hq => .inl (.inr ⟨by omega, by omega⟩), ⟨hblo.1, hbhi.1⟩, ⟨hblo.2.1, hbhi.2.1⟩⟩ (fun F26 s26 x H26 T26 ix mm26 e26 => ?_) rowm
 refine br_t rfl ?_
 have row26 : RowT H26 sl Yau _ := row25.mod mm26 fun u => u.elim (fun v => v (.inl (.inr ⟨by omega, by omega⟩))) fun v => by omega
 refine widthW_ok row26 ?_
 refine br_t rfl ?_
 refine newC_rowT fun H28 z28 r28 e28 => ?_
 have o26 : Ints .u64 H28 out [1, 2, 2, 7] := (oo.mod mm26 fun q hq u => u.elim (fun v => v (.inr (fo q hq).2)) fun v => by have := (fo q hq).1; omega).ints.ext e28
 refine SameRow_ok o26 (four_cells r28) (by decide) ?_
 refine br_t (by decide) ?_
 refine newC_rowT fun H30 z30 r30 e30 => ?_
 refine SameRow_ok ((ix.ext e28).ext e30) (two_cells r30) (by decide) ?_
 rw [decide_eq_true rfl]
 exact hK H30 ((e26.trans e28).trans e30)
theorem Rows.ext {H B : Heap} {s : Sl} {ls : List (List Int)} (h : Rows H s ls) (e : Ext H B) : Rows B s ls := ⟨h.len, fun i hi => by
 obtain ⟨ad, r, q1, q2, q3⟩ := h.at' i hi
 exact ⟨ad, r, q1, e.cell q2 id, q3.ext e⟩⟩
def fitR (W : Nat) (r : List Int) : List Int := r.take W ++ List.replicate (W - r.length) 0
theorem fitR_length (W : Nat) (r : List Int) : (fitR W r).length = W := by unfold fitR; simp; omega
set_option maxHeartbeats 1000000 in
theorem cut_rows {rows : Sl} {rl : List (List Int)} {W : Nat} {H : Heap} {K : Sl × Int → Heap → Prop} (hr : Rows H rows rl) (hn : rl.length ≤ 300) (hW : W ≤ 16)
  (hK : ∀ l rs A, RowsOwn A H.size l rs (rl.map (fitR W)) → Ext H A → K (l, (rl.length : Int)) A) :
  LoopVC (Sl × Int) ((Sl.mk none 0 0), (0 : Int)) H fun next z H2 => br (decide (z.2 < (rows.n : Int))) (doT cSl Tryz.prog (Instr.makeSlice YaK (.int .i64 (W : Int)) (.int .i64 (W : Int))) H2 fun (x : Sl) H3 => optK rows.a fun a => (0 ≤ z.2 ∧ z.2 < (rows.n : Int)) ∧ ld cSl H3 (a.add (z.2.toNat * 1)) fun (x_1 : Sl) => doT (cInt .i64) Tryz.prog (Builtin.copy_ #[YaK, YaK] YaT #[x.v, x_1.v]) H3 fun (_ : Int) H4 => newC H4 #[x.v] YaK fun p H5 => doT cSl Tryz.prog (Builtin.append_ #[Yat, Yat] Yat #[z.1.v, (.slice (some p) 1 1)]) H5 fun (l : Sl) H6 => next (l, IntKind.i64.wrap (z.2 + (1 : Int))) H6) (K z H2) := by
 have hrn := hr.len
 refine loop_upto rl.length (fun i z A => z.2 = (i : Int) ∧ ∃ rs, RowsOwn A H.size z.1 rs ((rl.take i).map (fitR W)) ∧ Ext H A) ⟨rfl, [], RowsOwn.nil _ _, .refl _ _⟩ ?_
 rintro i ⟨out, _⟩ A next hi ⟨rfl, rs, ro, eA⟩ hnext
 simp only
 refine br_mk (fun hc => ?_) (fun hc => ?_)
 ·have hlt : i < rl.length := by have : (i : Int) < (rows.n : Int) := by simpa using hc
                                 omega
  refine elU64.make (base := H.size) (by omega) (Int.le_refl _) (by omega) (by omega) eA.size fun x A1 ln o1 e1 f1 hxa => ?_
  rw [Int.toNat_natCast] at ln o1
  have z1 := e1.size
  refine (hr.ext (eA.trans e1)).ld hlt fun ad r _ ri => ?_
  have hcs : ((rl[i].take W).map (Value.int .u64)).length = Nat.min r.n x.n := by
   rw [List.length_map, List.length_take, ln, ri.len]
   show min _ _ = min _ _
   exact Nat.min_comm _ _
  have hrd : Reads A1 r.a ((rl[i].take W).map (Value.int .u64)) := by
   have := ri.reads.take W
   rwa [← List.map_take] at this
  refine Owns.copyAt (o := 0) (s := x) (dl := x.n) (dc := x.c) (by kernel_rfl) (by kernel_rfl) o1 (fun _ => ?_) hrd hcs (by
   have := Nat.min_le_right r.n x.n
   rw [hcs]; show 0 + min r.n x.n ≤ x.n; omega) (fun v hv => ?_) fun A4 o4 m4 s4 => ?_
  ·cases hxa2 : x.a with
   | none => rfl
   | some a => rfl
  ·obtain ⟨y, _, rfl⟩ := List.mem_map.1 hv
   rfl
  have e4 : (List.replicate W (Value.int .u64 0)).take 0 ++ (rl[i].take W).map (Value.int .u64) ++ (List.replicate W (Value.int .u64 0)).drop (0 + ((rl[i].take W).map (Value.int .u64)).length) = (fitR W rl[i]).map (Value.int .u64) := by
   unfold fitR
   rw [List.take_zero, List.nil_append, List.map_append, List.map_replicate, List.drop_replicate, List.length_map, List.length_take]
   congr 2
   omega
  rw [e4] at o4
  have z4 := m4.size
  have zA := eA.size
  have ro4 : RowsOwn A4 H.size out rs ((rl.take i).map (fitR W)) := (ro.ext e1).mod m4 (fun b hb q => by have := (ro.block.1 b hb).2; have := f1 b q; omega) fun y hy b hb q => by have := (ro.block.2 y hy b hb).2; have := f1 b q; omega
  refine ro4.push (ty := Yat) o4 (fun r' hr' b hb hb' => by have := (ro.block.2 r' hr' b hb').2; have := f1 b hb; omega) (by rw [ro.n, List.length_map, List.length_take]; omega) (by omega) fun s' H' _ r5 m5 => ?_
  refine hnext hlt _ _ ⟨succ64 i (by omega), rs ++ [x], ?_, ⟨by have := m5.size; omega, fun b hb _ => ?_⟩⟩
  ·rw [List.take_add_one, List.getElem?_eq_getElem hlt, List.map_append]
   exact r5
  ·exact (m5.same b (by omega) (fun q => by have := (ro.block.1 b q).1; omega)).trans ((m4.same b (by omega) (fun q => by have := f1 b q; omega)).trans ((e1.same b (by omega) id).trans (eA.same b hb id)))
 ·have hie : i = rl.length := by
   have : ¬ (i : Int) < (rows.n : Int) := by simpa using hc
   omega
  subst hie
  rw [List.take_length] at ro
  exact hK out rs A ro eA
theorem same_ok {rows : Sl} {rl : List (List Int)} {H : Heap} {K : Sl → Heap → Prop} (hr : Rows H rows rl) (hn : rl.length ≤ 300) (hK : ∀ l rs A, RowsOwn A H.size l rs (rl.map (fitR 2)) → Ext H A → K l A) : ZbU.sp rows H K := by
 refine ZbU.of ?_
 unfold ZbU.vc
 exact cut_rows (W := 2) (K := fun z A => K z.1 A) hr hn (by decide) hK
section
variable {B0 A B : Heap} {X : Nat → Prop} {ub ku fs kb kk gb tb : Nat} {g ff kf : Value} {s : Sl} {ls : List (List Int)} {e cl : Int} {uc fc kc tc : Bool}
end
section
variable {W O V : Nat → Prop} {a w : Nat} {I : Heap → List (List Int) → Prop}
set_option maxHeartbeats 1000000 in
theorem allRows_ok {A : Heap} {ls : List (List Int)} {K : (Sl × Bool) → Heap → Prop} (S : SrcI W O a w I) (h : I A ls) (hn : ls.length ≤ 1000) (hV : ∀ b, V b → b < A.size ∧ ¬ O b)
  (hK : ∀ out B, RowsX (fun b => V b ∨ B.size ≤ b) B out ls → Mod W A B → K (out, true) B) : Zcn.sp (at0 a) A K := by
 refine Zcn.of ?_
 unfold Zcn.vc
 have hO := S.lt A ls h
 refine loop_upto ls.length (fun i out B => I B (ls.drop i) ∧ Mod W A B ∧ ∃ rs : List Sl, Owns B A.size YaK 1 out (rs.map Sl.v) ∧ rs.length = i ∧
  ∀ (j : Nat) (r : Sl) (l : List Int), rs[j]? = some r → (ls.take i)[j]? = some l → Ints .u64 B r l ∧ ∀ ad, r.a = some ad → ad.block < B.size ∧ ¬ W ad.block ∧ (O ad.block ∨ A.size ≤ ad.block) ∧ ¬ ownB out ad.block) ⟨h, .refl _ _, [], Owns.nil _ _ _ _, rfl, fun j r l hj => by simp at hj⟩ ?_
 rintro i out B next hi ⟨iB, mB, rs, ob, hl, hr⟩ hnext
 have zB := mB.size
 have on := ob.1
 rw [List.length_map] at on
 have obl := ob.block
 rcases Nat.lt_or_ge i ls.length with hlt | hge
 ·rw [List.drop_eq_getElem_cons hlt] at iB
  refine S.step B ls[i] (ls.drop (i + 1)) _ iB fun x C iC mC ix ox => ?_
  refine br_f rfl ?_
  have zC := mC.size
  have oC : Owns C A.size YaK 1 out (rs.map Sl.v) := ob.mod mC fun b hb u => by have := (obl b hb).1; have := hO b (S.sub b u); omega
  refine elRow.push (base := A.size) oC rfl (by omega) (by omega) (by omega) fun s' D n1 o1 m1 b1 _ => ?_
  have zD := m1.size
  have nO : ∀ b, O b → ¬ ownB out b := fun b u v => by have := (obl b v).1; have := hO b u; omega
  refine hnext hlt _ _ ⟨S.keep C D _ (ownB out) iC m1 fun b u v => nO b v u, ⟨by omega, fun b hb hw => (m1.same b (by omega) fun u => by have := (obl b u).1; omega).trans ((mB.trans mC).same b hb hw)⟩, rs ++ [x], by simpa using o1, by simp [hl], fun j r l hj hl' => ?_⟩
  have htk : ls.take (i + 1) = ls.take i ++ [ls[i]] := by rw [List.take_add_one, List.getElem?_eq_getElem hlt]; rfl
  have hlen : (ls.take i).length = i := by rw [List.length_take]; omega
  rw [htk] at hl'
  rcases Nat.lt_or_ge j i with hj1 | hj1
  ·rw [List.getElem?_append_left (by omega)] at hj hl'
   obtain ⟨q1, q2⟩ := hr j r l hj hl'
   refine ⟨(q1.mod mC fun ad ha => (q2 ad ha).2.1).mod m1 fun ad ha => (q2 ad ha).2.2.2, fun ad ha => ?_⟩
   obtain ⟨u1, u2, u3, u4⟩ := q2 ad ha
   exact ⟨by omega, u2, u3, fun v => by rcases b1 _ v with v | v
                                        ·exact u4 v
                                        ·omega⟩
  ·rw [List.getElem?_append_right (by omega)] at hj hl'
   have e0 : j - i = 0 := by
    have := (List.getElem?_eq_some_iff.1 hl').1
    rw [hlen] at this; simp at this; omega
   rw [hl, e0] at hj
   rw [hlen, e0] at hl'
   have hj : x = r := Option.some.inj hj
   have hl' : ls[i] = l := Option.some.inj hl'
   subst hj; subst hl'
   have no : ∀ ad, x.a = some ad → ¬ ownB out ad.block := fun ad ha v => by
    rcases (ox ad ha).2.2 with u | u
    ·exact nO _ u v
    ·have := (obl _ v).2; omega
   refine ⟨ix.mod m1 no, fun ad ha => ?_⟩
   obtain ⟨u1, u2, u3⟩ := ox ad ha
   exact ⟨by omega, u2, u3.imp id fun u => by omega, fun v => by rcases b1 _ v with v | v
                                                                 ·exact no ad ha v
                                                                 ·omega⟩
 ·have hd : ls.drop i = [] := List.drop_eq_nil_of_le hge
  have hie : i = ls.length := by omega
  rw [hd] at iB
  refine S.stop B _ iB fun C mC => ?_
  refine br_t rfl ?_
  have zC := mC.size
  have oC : Owns C A.size YaK 1 out (rs.map Sl.v) := ob.mod mC fun b hb u => by have := (obl b hb).1; have := hO b (S.sub b u); omega
  refine hK out C ⟨by omega, fun ad ha => ?_, fun j hj => ?_⟩ (mB.trans mC)
  ·have := obl _ ⟨ad, ha, rfl⟩
   exact ⟨by omega, fun u => u.elim (fun v => by have := (hV _ v).1; omega) fun v => by omega⟩
  ·have hjr : j < rs.length := by omega
   obtain ⟨ad, ha, hc⟩ := oC.reads.at (i := j) (by rw [List.length_map]; exact hjr)
   obtain ⟨q1, q2⟩ := hr j rs[j] ls[j] (List.getElem?_eq_getElem hjr) (by rw [hie, List.take_length]; exact List.getElem?_eq_getElem hj)
   refine ⟨ad, rs[j], ha, by simpa using hc, fun a' h' => ?_, q1.mod mC fun ad ha => (q2 ad ha).2.1⟩
   obtain ⟨u1, u2, u3, u4⟩ := q2 a' h'
   exact ⟨by omega, fun u => u.elim (fun v => by
    have hv := hV _ v
    rcases u3 with u3 | u3
    ·exact hv.2 u3
    ·omega) fun v => by omega⟩
theorem three_cells {A : Heap} {k : Nat} {t : TypeId} {ik : IntKind} {x y z : Int} (r : RowT A k t #[.int ik x, .int ik y, .int ik z]) : Ints ik A ⟨some ⟨k, 0, none⟩, 3, 3⟩ [x, y, z] := by
 refine ⟨rfl, fun i u hu => ⟨_, rfl, ?_⟩⟩
 have hi : i = 0 ∨ i = 1 ∨ i = 2 := by have := (List.getElem?_eq_some_iff.1 hu).1; simp at this; omega
 rcases hi with rfl | rfl | rfl <;>
 ·simp at hu; subst hu
  rw [add_lit0]; exact r.cell rfl
theorem two_in {x y : Nat} {n : Nat} (hx : x < n) (hy : y < n) : ∀ c ∈ [(x : Int), (y : Int)], 0 ≤ c ∧ c < (n : Int) := fun c hc => by
 simp only [List.mem_cons, List.not_mem_nil, or_false] at hc
 rcases hc with rfl | rfl <;> exact ⟨by omega, by omega⟩
theorem one_in {y : Nat} (hy : y < 2) : ∀ c ∈ [1, (y : Int)], 0 ≤ c ∧ c < ((2 : Nat) : Int) := fun c hc => by
 simp only [List.mem_cons, List.not_mem_nil, or_false] at hc
 rcases hc with rfl | rfl <;> exact ⟨by omega, by omega⟩
theorem turn_turn {l : List Int} {i j : Nat} (h : l.length = 2) (hi : i < 2) (hj : j < 2) : turnL (turnL l [(i : Int), (j : Int), 1]) [2, 0] = turnL l [1, (i : Int)] := by
 have h3 : ∀ c ∈ [(i : Int), (j : Int), 1], 0 ≤ c ∧ c < ((2 : Nat) : Int) := fun c hc => by
  simp only [List.mem_cons, List.not_mem_nil, or_false] at hc
  rcases hc with rfl | rfl | rfl
  ·omega
  ·omega
  ·decide
 rw [turnL_all h h3, turnL_all (w := 3) (by simp) (by decide), turnL_all h (one_in hi)]
 simp
theorem is_turn {l : List Int} {i j : Nat} {word : Int} (h : l.length = 2) (hi : i < 2) (hj : j < 2) : isP 1 word (turnL l [(j : Int), (i : Int)]) = isP i word l := by
 rw [turnL_all h (two_in hj hi)]
 simp [isP]
theorem filter_turn {ls : List (List Int)} {i j : Nat} {word : Int} (h : ∀ l ∈ ls, l.length = 2) (hi : i < 2) (hj : j < 2) : (ls.map (turnL · [(j : Int), (i : Int)])).filter (isP 1 word) = (ls.filter (isP i word)).map (turnL · [(j : Int), (i : Int)]) := by
 rw [List.filter_map]
 congr 1
 exact List.filter_congr fun l hl => is_turn (h l hl) hi hj
variable {A : Heap} {ls : List (List Int)} {i j : Nat} {word : Int} {K : (Sl × Bool) → Heap → Prop}
theorem way1 (S : SrcI W O a 2 I) (h : I A ls) (hn : ls.length ≤ 60) (hi : i < 2) (hj : j < 2) (hV : ∀ b, V b → b < A.size ∧ ¬ O b) (hK : ∀ out B, RowsX (fun b => V b ∨ B.size ≤ b) B out (ls.map (turnL · [1, (i : Int)])) → Mod O A B → K (out, true) B) :
  newC A #[(.int .i64 (i : Int)), (.int .i64 (j : Int)), (.int .i64 (1 : Int))] YaT fun p H5 => ZdN.sp (at0 a) (Sl.mk (some p) 3 3) H5 fun (r_1 : Option Addr) H6 => newC H6 #[(.int .i64 (2 : Int)), (.int .i64 (0 : Int))] YaT fun p_1 H7 => ZdN.sp r_1 (Sl.mk (some p_1) 2 2) H7 fun (r_2 : Option Addr) H8 => Zcn.sp r_2 H8 K := by
 have h2 := S.cols A ls h
 refine newC_rowT fun H5 z5 r5 e5 => ?_
 refine Pick_ok (cl := [(i : Int), (j : Int), 1]) S (S.keep A H5 ls (fun _ => False) h e5 fun _ u => u.elim) (three_cells r5) (fun c hc => ?_) (by simp) fun sb W1 O1 I1 H6 S1 h1 e6 o1 => ?_
 ·simp only [List.mem_cons, List.not_mem_nil, or_false] at hc
  rcases hc with rfl | rfl | rfl <;> exact ⟨by omega, by omega⟩
 refine newC_rowT fun H7 z7 r7 e7 => ?_
 refine Pick_ok (cl := [2, 0]) S1 (S1.keep H6 H7 _ (fun _ => False) h1 e7 fun _ u => u.elim) (two_cells r7) (fun c hc => ?_) (by simp) fun sb2 W2 O2 I2 H8 S2 h8 e8 o2 => ?_
 ·simp only [List.mem_cons, List.not_mem_nil, or_false] at hc
  rcases hc with rfl | rfl <;> exact ⟨by decide, by simp⟩
 have s6 := e6.size
 have s8 := e8.size
 have oo : ∀ b, O2 b → O b ∨ A.size ≤ b := fun b u => by
  rcases o2 b u with u | u
  ·rcases o1 b u with u | u
   ·exact .inl u
   ·exact .inr (by omega)
  ·exact .inr (by omega)
 refine allRows_ok (V := V) S2 h8 (by rw [List.length_map, List.length_map]; omega) (fun b u => ⟨by have := (hV b u).1; omega, fun v => by
  have hv := hV b u
  rcases oo b v with v | v
  ·exact hv.2 v
  ·omega⟩) fun out B rB mB => ?_
 rw [List.map_map, show ls.map ((turnL · [2, 0]) ∘ (turnL · [(i : Int), (j : Int), 1])) = ls.map (turnL · [1, (i : Int)]) from List.map_congr_left fun l hl => turn_turn (h2 l hl) hi hj] at rB
 have e58 := ((e5.trans e6).trans e7).trans e8
 exact hK out B rB ⟨by have := e58.size; have := mB.size; omega, fun b hb hw => (mB.same b (by omega) fun u => by
  rcases oo b (S2.sub b u) with v | v
  ·exact hw v
  ·omega).trans (e58.same b hb id)⟩
theorem way2 (S : SrcI W O a 2 I) (h : I A ls) (hn : ls.length ≤ 60) (hi : i < 2) (hV : ∀ b, V b → b < A.size ∧ ¬ O b) (hK : ∀ out B, RowsX (fun b => V b ∨ B.size ≤ b) B out (ls.map (turnL · [1, (i : Int)])) → Mod O A B → K (out, true) B) :
  newC A #[(.int .i64 (1 : Int)), (.int .i64 (i : Int))] YaT fun p_2 H10 => ZdN.sp (at0 a) (Sl.mk (some p_2) 2 2) H10 fun (r_4 : Option Addr) H11 => Zcn.sp r_4 H11 K := by
 refine newC_rowT fun H5 z5 r5 e5 => ?_
 refine Pick_ok (cl := [1, (i : Int)]) S (S.keep A H5 ls (fun _ => False) h e5 fun _ u => u.elim) (two_cells r5) (one_in hi) (by simp) fun sb W1 O1 I1 H6 S1 h1 e6 o1 => ?_
 have s6 := e6.size
 have oo : ∀ b, O1 b → O b ∨ A.size ≤ b := fun b u => (o1 b u).imp id fun u => by omega
 refine allRows_ok (V := V) S1 h1 (by rw [List.length_map]; omega) (fun b u => ⟨by have := (hV b u).1; omega, fun v => by
  have hv := hV b u
  rcases oo b v with v | v
  ·exact hv.2 v
  ·omega⟩) fun out B rB mB => ?_
 have e58 := e5.trans e6
 exact hK out B rB ⟨by have := mB.size; omega, fun b hb hw => (mB.same b (by omega) fun u => by
  rcases oo b (S1.sub b u) with v | v
  ·exact hw v
  ·omega).trans (e58.same b hb id)⟩
theorem way3 (S : SrcI W O a 2 I) (h : I A ls) (hn : ls.length ≤ 60) (hi : i < 2) (hj : j < 2) (hV : ∀ b, V b → b < A.size ∧ ¬ O b) (hK : ∀ out B, RowsX (fun b => V b ∨ B.size ≤ b) B out ((ls.filter (isP i word)).map (turnL · [(j : Int), (i : Int)])) → Mod O A B → K (out, true) B) :
  newC A #[(.int .i64 (j : Int)), (.int .i64 (i : Int))] YaT fun p_3 H13 => ZdN.sp (at0 a) (Sl.mk (some p_3) 2 2) H13 fun (r_6 : Option Addr) H14 => Zea.sp r_6 (1 : Int) word H14 fun (r_7 : Option Addr) H15 => Zcn.sp r_7 H15 K := by
 have h2 := S.cols A ls h
 refine newC_rowT fun H5 z5 r5 e5 => ?_
 refine Pick_ok (cl := [(j : Int), (i : Int)]) S (S.keep A H5 ls (fun _ => False) h e5 fun _ u => u.elim) (two_cells r5) (two_in hj hi) (by simp) fun sb W1 O1 I1 H6 S1 h1 e6 o1 => ?_
 refine Is_ok (col := 1) (word := word) S1 h1 (by simp) (by rw [List.length_map]; omega) fun sb2 W2 O2 I2 H8 S2 h8 e8 o2 => ?_
 have s6 := e6.size
 have s8 := e8.size
 have oo : ∀ b, O2 b → O b ∨ A.size ≤ b := fun b u => by
  rcases o2 b u with u | u
  ·rcases o1 b u with u | u
   ·exact .inl u
   ·exact .inr (by omega)
  ·exact .inr (by omega)
 refine allRows_ok (V := V) S2 h8 (Nat.le_trans (List.length_filter_le _ _) (by rw [List.length_map]; omega)) (fun b u => ⟨by have := (hV b u).1; omega, fun v => by
  have hv := hV b u
  rcases oo b v with v | v
  ·exact hv.2 v
  ·omega⟩) fun out B rB mB => ?_
 rw [filter_turn h2 hi hj] at rB
 have e58 := (e5.trans e6).trans e8
 exact hK out B rB ⟨by have := e58.size; have := mB.size; omega, fun b hb hw => (mB.same b (by omega) fun u => by
  rcases oo b (S2.sub b u) with v | v
  ·exact hw v
  ·omega).trans (e58.same b hb id)⟩
theorem way4 (S : SrcI W O a 2 I) (h : I A ls) (hn : ls.length ≤ 60) (hi : i < 2) (hj : j < 2) (hV : ∀ b, V b → b < A.size ∧ ¬ O b) (hK : ∀ out B, RowsX (fun b => V b ∨ B.size ≤ b) B out ((ls.filter (isP i word)).map (turnL · [(j : Int), (i : Int)])) → Mod O A B → K (out, true) B) :
  Zea.sp (at0 a) (i : Int) word A fun (r_9 : Option Addr) H17 => newC H17 #[(.int .i64 (j : Int)), (.int .i64 (i : Int))] YaT fun p_4 H18 => ZdN.sp r_9 (Sl.mk (some p_4) 2 2) H18 fun (r_10 : Option Addr) H19 => Zcn.sp r_10 H19 K := by
 refine Is_ok (col := i) (word := word) S h hi (by omega) fun sb W1 O1 I1 H6 S1 h1 e6 o1 => ?_
 refine newC_rowT fun H7 z7 r7 e7 => ?_
 refine Pick_ok (cl := [(j : Int), (i : Int)]) S1 (S1.keep H6 H7 _ (fun _ => False) h1 e7 fun _ u => u.elim) (two_cells r7) (two_in hj hi) (by simp) fun sb2 W2 O2 I2 H8 S2 h8 e8 o2 => ?_
 have s6 := e6.size
 have s8 := e8.size
 have oo : ∀ b, O2 b → O b ∨ A.size ≤ b := fun b u => by
  rcases o2 b u with u | u
  ·exact o1 b u
  ·exact .inr (by omega)
 refine allRows_ok (V := V) S2 h8 (by rw [List.length_map]; have := List.length_filter_le (isP i word) ls; omega) (fun b u => ⟨by have := (hV b u).1; omega, fun v => by
  have hv := hV b u
  rcases oo b v with v | v
  ·exact hv.2 v
  ·omega⟩) fun out B rB mB => ?_
 have e58 := (e6.trans e7).trans e8
 exact hK out B rB ⟨by have := e58.size; have := mB.size; omega, fun b hb hw => (mB.same b (by omega) fun u => by
  rcases oo b (S2.sub b u) with v | v
  ·exact hw v
  ·omega).trans (e58.same b hb id)⟩
end
theorem four_ok {l : Sl} {ls : List (List Int)} {H : Heap} {K : Sl → Heap → Prop} (h : Rows H l ls) (hn : ls.length ≤ 60) (h2 : ∀ y ∈ ls, y.length = 2)
  (hK : ∀ (z1 z2 z3 z4 : Nat) s0 l0 w0 s1 l1 w1 s2 l2 w2 s3 l3 w3 pk A, H.size ≤ z1 ∧ z1 ≤ z2 ∧ z2 ≤ z3 ∧ z3 ≤ z4 → fromO (fun b => H.size ≤ b ∧ b < z1) s0 l0 w0 A ls → fromO (fun b => z1 ≤ b ∧ b < z2) s1 l1 w1 A ls → fromO (fun b => z2 ≤ b ∧ b < z3) s2 l2 w2 A ls → fromO (fun b => z3 ≤ b ∧ b < z4) s3 l3 w3 A ls →
   ((H.size ≤ s0 ∧ s0 < z1) ∧ H.size ≤ l0 ∧ l0 < z1) → ((z1 ≤ s1 ∧ s1 < z2) ∧ z1 ≤ l1 ∧ l1 < z2) → ((z2 ≤ s2 ∧ s2 < z3) ∧ z2 ≤ l2 ∧ l2 < z3) → ((z3 ≤ s3 ∧ s3 < z4) ∧ z3 ≤ l3 ∧ l3 < z4) → RowT A pk Yak #[.pointer (at0 s0), .pointer (at0 s1), .pointer (at0 s2), .pointer (at0 s3)] → z4 ≤ pk ∧ pk < A.size → Ext H A → K ⟨at0 pk, 4, 4⟩ A) : ZbQ.sp l H K := by
 refine ZbQ.of ?_
 unfold ZbQ.vc
 refine fromR_ok h (by omega) h2 fun s0 l0 w0 A1 f0 e1 q0 p0 => ?_
 refine fromR_ok (Rows.ext h e1) (by omega) h2 fun s1 l1 w1 A2 f1 e2 q1 p1 => ?_
 refine fromR_ok (Rows.ext (Rows.ext h e1) e2) (by omega) h2 fun s2 l2 w2 A3 f2 e3 q2 p2 => ?_
 refine fromR_ok (Rows.ext (Rows.ext (Rows.ext h e1) e2) e3) (by omega) h2 fun s3 l3 w3 A4 f3 e4 q3 p3 => ?_
 refine newC_rowT fun A5 z5 r5 e5 => ?_
 have kp : ∀ {O : Nat → Prop} {sb lb wb : Nat} {A B : Heap}, O sb → O lb → fromO O sb lb wb A ls → Ext A B → fromO O sb lb wb B ls := fun {O sb lb wb A B} u v f e => (fromI u v).keep A B ls (fun _ => False) f e fun _ u => u.elim
 have e35 := e4.trans e5
 have e25 := e3.trans e35
 have e15 := e2.trans e25
 exact hK A1.size A2.size A3.size A4.size s0 l0 w0 s1 l1 w1 s2 l2 w2 s3 l3 w3 A4.size A5 ⟨e1.size, e2.size, e3.size, e4.size⟩ (kp q0 p0 f0 e15) (kp q1 p1 f1 e25) (kp q2 p2 f2 e35) (kp q3 p3 f3 e5) ⟨q0, p0⟩ ⟨q1, p1⟩ ⟨q2, p2⟩ ⟨q3, p3⟩ r5 ⟨Nat.le_refl _, by omega⟩ (e1.trans e15)
set_option maxHeartbeats 4000000 in
set_option maxRecDepth 10000 in
theorem JoinPicks_ok {rows : Sl} {rl : List (List Int)} {x y word : Int} {H : Heap} {K : Bool → Heap → Prop} (hg : Gl H) (hr : Rows H rows rl) (hK : ∀ B, Ext H B → K true B) : Zbw.sp rows x y word H K := by
 refine Zbw.of ?_
 unfold Zbw.vc
 have hrn := hr.len
 refine br_mk (fun _ => hK H (.refl _ _)) (fun hc => ?_)
 have hn60 : rl.length ≤ 60 := by
  have : ¬ (rows.n : Int) > 60 := by simpa using hc
  omega
 refine same_ok hr (by omega) fun l rs A1 own e1 => ?_
 obtain ⟨ls, hls⟩ : ∃ ls, ls = rl.map (fitR 2) := ⟨_, rfl⟩
 rw [← hls] at own
 have hnl : ls.length ≤ 60 := by rw [hls, List.length_map]; exact hn60
 have h2 : ∀ y ∈ ls, y.length = 2 := fun y hy => by
  rw [hls] at hy
  obtain ⟨z, _, rfl⟩ := List.mem_map.1 hy
  exact fitR_length 2 z
 have two : ∀ v : Int, ∃ i : Nat, i < 2 ∧ v.emod 2 = (i : Int) := fun v => by
  have p0 := Int.emod_nonneg v (show (2 : Int) ≠ 0 by decide)
  have p1 := Int.emod_lt_of_pos v (show (0 : Int) < 2 by decide)
  have e : v.emod 2 = v % 2 := rfl
  exact ⟨(v % 2).toNat, by omega, by rw [e, Int.toNat_of_nonneg p0]⟩
 obtain ⟨i, hi, ei⟩ := two x
 obtain ⟨j, hj, ej⟩ := two y
 refine PickN_ok (by decide) ?_
 rw [if_neg (by decide), ei]
 refine PickN_ok (by decide) ?_
 rw [if_neg (by decide), ej]
 refine four_ok own.rows hnl h2 fun z1 z2 z3 z4 s0 l0 w0 s1 l1 w1 s2 l2 w2 s3 l3 w3 pk B hz f0 f1 f2 f3 i0 i1 i2 i3 rk hpk eB => ?_
 have s1' := e1.size
 refine optK_mk ⟨pk, 0, none⟩ rfl ⟨⟨by decide, by simp⟩, ?_⟩
 refine RowT.ld (c := cPtr) (i := 0) (x := at0 s0) rk rfl ?_
 refine way1 (V := fun b => z1 ≤ b ∧ b < B.size) (fromI (O := fun b => A1.size ≤ b ∧ b < z1) i0.1 i0.2) f0 hnl hi hj (fun b u => ⟨u.2, fun v => by omega⟩) fun o1 B1 rx1 m1 => ?_
 have rk1 := rk.mod m1 fun u => by omega
 refine optK_mk ⟨pk, 0, none⟩ rfl ⟨⟨by decide, by simp⟩, ?_⟩
 refine RowT.ld (c := cPtr) (i := 1) (x := at0 s1) rk1 rfl ?_
 have k1 := (fromI (O := fun b => z1 ≤ b ∧ b < z2) (wb := w1) i1.1 i1.2).keep B B1 ls _ f1 m1 fun b u v => by omega
 have zB1 := m1.size
 refine way2 (V := fun b => z2 ≤ b ∧ b < B.size) (fromI (O := fun b => z1 ≤ b ∧ b < z2) i1.1 i1.2) k1 hnl hi (fun b u => ⟨by omega, fun v => by omega⟩) fun o2 B2 rx2 m2 => ?_
 have rk2 := rk1.mod m2 fun u => by omega
 have zB2 := m2.size
 refine optK_mk ⟨pk, 0, none⟩ rfl ⟨⟨by decide, by simp⟩, ?_⟩
 refine RowT.ld (c := cPtr) (i := 2) (x := at0 s2) rk2 rfl ?_
 have S2 := fromI (O := fun b => z2 ≤ b ∧ b < z3) (wb := w2) i2.1 i2.2
 have k2 := S2.keep B1 B2 ls _ (S2.keep B B1 ls _ f2 m1 fun b u v => by omega) m2 fun b u v => by omega
 refine way3 (V := fun b => z3 ≤ b ∧ b < B.size) (i := i) (j := j) (word := word) S2 k2 hnl hi hj (fun b u => ⟨by omega, fun v => by omega⟩) fun o3 B3 rx3 m3 => ?_
 have rk3 := rk2.mod m3 fun u => by omega
 have zB3 := m3.size
 refine optK_mk ⟨pk, 0, none⟩ rfl ⟨⟨by decide, by simp⟩, ?_⟩
 refine RowT.ld (c := cPtr) (i := 3) (x := at0 s3) rk3 rfl ?_
 have S3 := fromI (O := fun b => z3 ≤ b ∧ b < z4) (wb := w3) i3.1 i3.2
 have k3 := S3.keep B2 B3 ls _ (S3.keep B1 B2 ls _ (S3.keep B B1 ls _ f3 m1 fun b u v => by omega) m2 fun b u v => by omega) m3 fun b u v => by omega
 refine way4 (V := fun b => z4 ≤ b ∧ b < B.size) (i := i) (j := j) (word := word) S3 k3 hnl hi hj (fun b u => ⟨by omega, fun v => by omega⟩) fun o4 B4 rx4 m4 => ?_
 have zB4 := m4.size
 refine br_t rfl ?_
 have len2 : ∀ {cl : List Int} {l : List (List Int)}, cl.length = 2 → (∀ c ∈ cl, 0 ≤ c ∧ c < ((2 : Nat) : Int)) → (∀ y ∈ l, y.length = 2) → ∀ y ∈ l.map (turnL · cl), y.length < 1099511627776 := fun {cl l} h1 h3 h4 y hy => by
  obtain ⟨z, hz, rfl⟩ := List.mem_map.1 hy
  rw [turnL_all (h4 z hz) h3, List.length_map, h1]; decide
 have x1 := ((rx1.mod (m2.mono fun b _ u => .inl ⟨by omega, by omega⟩)).mod (m3.mono fun b _ u => .inl ⟨by omega, by omega⟩)).mod (m4.mono fun b _ u => .inl ⟨by omega, by omega⟩)
 have x2 := (rx2.mod (m3.mono fun b _ u => .inl ⟨by omega, by omega⟩)).mod (m4.mono fun b _ u => .inl ⟨by omega, by omega⟩)
 refine SameRows_ok x1.rows x2.rows (by rw [List.length_map]; omega) (len2 rfl (one_in hi) h2) ?_
 rw [decide_eq_true rfl]
 refine br_t rfl ?_
 have x3 := rx3.mod (m4.mono fun b _ u => .inl ⟨by omega, by omega⟩)
 refine SameRows_ok x3.rows rx4.rows (by rw [List.length_map]; have := List.length_filter_le (isP i word) ls; omega) (len2 rfl (two_in hj hi) fun y hy => h2 y (List.mem_filter.1 hy).1) ?_
 rw [decide_eq_true rfl]
 refine br_t rfl ?_
 have eH : Ext H B4 := Ext.more (Ext.more (Ext.more (Ext.more (e1.trans eB) m1 fun b u => by omega) m2 fun b u => by omega) m3 fun b u => by omega) m4 fun b u => by omega
 exact jworks_ok (Gl.mod hg eH id) fun D eD => hK D (eH.trans eD)
end Go.Proofs.YtlockeegebnofaaGreatDoor
namespace Go.Proofs.YtlockeegebnofaaGreatDoor
open Go.ChangeShapes Go.WideShapes Go.ChangeAt Go.RowKit
set_option maxRecDepth 100000 in
theorem joinPicks_lifted (os : Os) (started : os.Started) (H : Type) (enc : TypeId × Value → H) :
  ReturnsInHanded {} Tryz.checked os 3 .any (fun w args => (Rows.joinPicksSpec.pre enc Tryz.prog Tryz.f3 [] false w args ∧ laidMetH Tryz.prog laidS w) ∧ sizedMet enc Tryz.prog Tryz.f3 (OpenSpec.ofChange Rows.joinPicksSpec) false w args)
   (Rows.joinPicksSpec.post enc Tryz.prog Tryz.f3 false true false false) := by
 refine returnsInHanded_of_change_and (C := Tryz.checked) (X := fun w _ => laidMetH Tryz.prog laidS w) (fun _ _ _ hh h => h.of_heap hh) pprog_own started (by kernel_rfl) Tryz.func3
  (ChangeSpec.witness_shaped (enc := enc) (C := Tryz.checked) (os := os) (X := fun w _ => laidMetH Tryz.prog laidS w) false (World.doorLaid Tryz.prog 400 os) #[.slice none 0 0, .int .i64 0, .int .i64 0, .int .u64 0] 8 rfl (World.shaped_of_RefB (by kernel_rfl) (by kernel_rfl)) (by kernel_rfl) (by kernel_rfl) (by kernel_rfl) (door_met os _)) ?_
 intro W base args ds gs before hval0 hW _ _ hL _
 have hval : ∀ (j : Nat) t v, Tryz.f3.params[j]? = some t → args[j]? = some v → Value.okWide Tryz.prog W .any base t v := hval0
 have hW' := hW
 obtain ⟨p, q, hA0, hV, rfl, hfz, hnd⟩ := hW
 have hA : DataW.TrodAll enc Tryz.prog W 0 (fun _ => true) true Tryz.f3.params.toList args.toList ds p := hA0
 rw [Tryz.params3] at hA hval
 obtain ⟨v0, v1, v2, v3, d0, d1, d2, d3, p0, p1, p2, p3, rfl, rfl, rfl, h0, h1, h2, h3⟩ := trodAll_four hA
 obtain ⟨rfl, rfl⟩ := trodVars_none hV
 obtain ⟨rows, rl, rfl, rn, _, ra⟩ := open_sl_sl_ints (k := .u64) (e := YaK) (e2 := YaP) (by kernel_rfl) (by kernel_rfl) (by kernel_rfl) (by kernel_rfl) (by kernel_rfl) (hval 0 Yat v0 rfl rfl) h0
 obtain ⟨x, rfl, _⟩ := wide_int (k := .i64) (hval 1 YaT v1 rfl rfl) (by kernel_rfl)
 obtain ⟨y, rfl, _⟩ := wide_int (k := .i64) (hval 2 YaT v2 rfl rfl) (by kernel_rfl)
 obtain ⟨word, rfl, _⟩ := wide_int (k := .u64) (hval 3 YaP v3 rfl rfl) (by kernel_rfl)
 have hspec := JoinPicks_ok (rows := rows) (rl := rl) (x := x) (y := y) (word := word) (H := W.heap) (K := fun b H' => b = true ∧ Ext W.heap H') (gl_of_laid hL) ⟨rn, fun i hi => by obtain ⟨ad, rr, q1, q2, q3, _⟩ := ra i hi; exact ⟨ad, rr, q1, q2, q3⟩⟩ (fun H' e => ⟨rfl, e⟩)
 refine (hspec W rfl).mono fun e W' ⟨v, he, ⟨x, hx, hb, hext⟩, hal⟩ => ?_
 subst he; subst hx; subst hb
 exact ⟨_, rfl, law_post pprog_laidOut (by decide +kernel) rfl (by kernel_rfl) rfl rfl rfl rfl hW' hext hal⟩
theorem joinPicks_row : Rows.JoinPicksSaid :=
 OpenClaim.holds_of_wide 3 Tryz.f3 rfl rfl rfl rfl rfl rfl rfl ⟨rfl, rfl, rfl, rfl, rfl⟩ rfl rfl rfl rfl rfl (by kernel_rfl) Tryz.func3 (by kernel_rfl)
  (of_decide_eq_true (by kernel_rfl)) (by unfold Func.isWrapper; first | (rw [if_pos (by decide +kernel)]; kernel_rfl) | (rw [if_neg (by decide +kernel)]; exact ⟨rfl, rfl⟩))
  (fun os started H enc _ => joinPicks_lifted os started H enc)
theorem joinPicks_holds : Rows.JoinPicksCardSaid :=
 Claim7.holds_tied_plain_at .later [] [.data, .data, .data, .data] true _ false
  joinPicks_row (fun _ h => by cases h) (by kernel_rfl) (fun _ h => by cases h) joinPicks_row_tie rfl ⟨rfl, rfl⟩ (by kernel_rfl) rfl
  (fun f fn hf hfn => by
   obtain rfl : f = 3 := Option.some.inj ((show Tryz.prog.funcNamed "fathom/fathomlaw11.JoinPicks" = some 3 by kernel_rfl).symm.trans hf) |>.symm
   obtain rfl : fn = Tryz.f3 := (Option.some.inj (Tryz.func3.symm.trans hfn)).symm
   exact ⟨by kernel_rfl, fun j t ht => by
    rw [Tryz.params3] at ht
    have hm : t ∈ [Yat, YaT, 23] := by simpa using Array.mem_of_getElem? ht
    have hall : ([Yat, YaT, 23].all fun u => !Tryz.prog.wantsStandIn u) = true := by kernel_rfl
    exact (show Tryz.prog.wantsStandIn t = false by simpa using List.all_eq_true.1 hall t hm)⟩)
  (by kernel_rfl)
#print axioms joinPicks_holds
end Go.Proofs.YtlockeegebnofaaGreatDoor
