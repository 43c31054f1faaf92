/-
  Runs: the writer's calls: the walk.
-/
import Derived.Test.YtbgpkpbejldlcaaGreatDoorVc
import Derived.Test.YtbgpkpbejldlcaaGreatDoorFxk
import Derived.Test.YtbgpkpbejldlcaaGreatDoorJ33
import Derived.Test.YtbgpkpbejldlcaaGreatDoorJ36
namespace Go.Proofs.YtbgpkpbejldlcaaGreatDoor
open Go.MapKept

theorem CloneU_ok {s : Sl} {l : List Int} {H : Heap} {K : Sl → Heap → Prop} (h : Ints .u64 H s l) (hl : l.length ≤ 1000000)
    (hK : ∀ s' H', Owns H' 0 ty_uint64 1 s' (l.map (Value.int .u64)) → Ext H H' → (∀ b, ownB s' b → H.size ≤ b) → K s' H') : slices_Clone_sl_uint64_uint64.sp s H K := by
  refine slices_Clone_sl_uint64_uint64.of ?_
  unfold slices_Clone_sl_uint64_uint64.vc
  have hn := h.len
  refine br_mk (fun hc => ?_) (fun hc => ?_)
  · have : l = [] := by
      cases l with
      | nil => rfl
      | cons x r =>
        obtain ⟨ad, ha, _⟩ := h.at (i := 0) (by simp)
        rw [ha] at hc; cases hc
    subst this
    exact hK _ H (Owns.nil _ _ _ _) (.refl _ _) (by rintro b ⟨ad, q, _⟩; cases q)
  · refine newC_rowT fun H1 s1 r1 m1 => ?_
    have o1 : Owns H1 0 ty_uint64 1 (Sl.mk (some ⟨H.size, 0, none⟩) 0 0) [] := ⟨rfl, .inr ⟨H.size, 0, #[], rfl, Nat.zero_le _, r1, Nat.le_refl _, by unfold maxLen; omega, rfl, rfl⟩⟩
    refine elU64.append (s := Sl.mk (some ⟨H.size, 0, none⟩) 0 0) (x := s) (ws := l.map (Value.int .u64)) o1 (by simp; omega) (h.ext m1).reads (intsOne _ _) (by simp; omega) (by simp; omega) (by omega) fun s' H' _ o' m' f' _ => ?_
    have m2 : Ext H H' := ⟨Nat.le_trans m1.size m'.size, fun b hb _ => (m'.same b (by omega) (by rintro ⟨ad, e1, e2⟩; cases e1; have : H.size = b := e2; omega)).trans (m1.same b hb id)⟩
    refine hK s' H' (by simpa using o') m2 fun b hb => ?_
    rcases f' b hb with ⟨ad, e1, e2⟩ | q
    · cases e1; have : H.size = b := e2; omega
    · omega

/-- A writer in memory. -/
structure WrB (H : Heap) (k p : Nat) (w : RW) (sw sl : Sl) : Prop where
  row : BRow H k ty_runs_Writer p w.b [sw.v, .int .i64 (w.n : Int), sl.v, .int .i64 (w.rows : Int)]
  wait : SlE EB ty_uint8 H sw w.wait
  last : Owns H 0 ty_uint64 1 sl (w.last.map (Value.int .u64))
def wrO (k : Nat) (sw sl : Sl) (b : Nat) : Prop := b = k ∨ ownB sw b ∨ ownB sl b

section
variable {H : Heap} {k p dp : Nat} {w : RW} {sw sl : Sl} {F : Nat → Prop} {s : Pl}
theorem WrB.offW (h : WrB H k p w sw sl) : ¬ ownB sw k := fun q => by
  obtain ⟨cur, hc⟩ := h.wait.obj k q
  exact absurd (cells_ty hc h.row) (by decide)
theorem WrB.offL (h : WrB H k p w sw sl) : ¬ ownB sl k := fun q => by
  obtain ⟨cur, hc⟩ := h.last.obj k q
  exact absurd (cells_ty hc h.row) (by decide)
theorem WrB.lt (h : WrB H k p w sw sl) : ∀ b, wrO k sw sl b → b < H.size := by
  rintro b (rfl | q | q)
  · exact obj_lt h.row
  · exact h.wait.lt b q
  · exact h.last.lt b q
theorem WrB.keep {H' : Heap} (h : WrB H k p w sw sl) (e : ∀ b, wrO k sw sl b → b < H.size → H'[b]? = H[b]?) : WrB H' k p w sw sl :=
  ⟨(e k (.inl rfl) (obj_lt h.row)).trans h.row, h.wait.keep fun b hb hl => e b (.inr (.inl hb)) hl, h.last.keep fun b hb hl => e b (.inr (.inr hb)) hl⟩
theorem WrB.mod {G : Nat → Prop} {H' : Heap} (h : WrB H k p w sw sl) (m : Mod G H H') (hn : ∀ b, wrO k sw sl b → ¬ G b) : WrB H' k p w sw sl := h.keep fun b hb hl => m.same b hl (hn b hb)
theorem WrB.wr0 (h : WrB H k p w sw sl) (i : Nat) (v : Value) (hv : (baseV p w.b)[i]? = some v) : (baseV p w.b ++ [sw.v, .int .i64 (w.n : Int), sl.v, .int .i64 (w.rows : Int)]).toArray[i]? = some v := BRow.get i v hv

/-- The rows that wait are put. -/
theorem rout_ok {K : Int → Heap → Prop} (hg : Gl H) (h : WrB H k p w sw sl) (hp : PoolAt F H p dp s) (hd : ∀ b, F b → ¬ wrO k sw sl b)
    (hn : w.b.name.size ≤ 9223372036854775807) (hlogs : s.d.logs < 68719470000) (hnx : s.next < 1099511627776) (h0 : 0 ≤ s.next) (hfit : s.Fit)
    (hK : ∀ F' sw' H', PoolAt F' H' p dp (w.out s).1 → WrB H' k p (w.out s).2.1 sw' sl → (∀ b, ownB sw' b → ownB sw b) → Mod (fun b => F b ∨ b = k) H H' → (∀ b, F' b → F b ∨ H.size ≤ b) → K (w.out s).2.2 H') : runs_Writer_out.sp (at0 k) H K := by
  refine runs_Writer_out.of ?_
  unfold runs_Writer_out.vc
  simp only [optK_eq, at0]
  refine RowT.ld (c := cInt .i64) (i := 7) (x := (w.n : Int)) h.row (BRow.tail (j := 1) rfl) ?_
  refine br_mk (fun hc => ?_) (fun hc => ?_)
  · have e0 : w.n = 0 := by have : (w.n : Int) = 0 := by simpa using hc
                            omega
    have eo : w.out s = (s, w, 0) := if_pos e0
    rw [eo] at hK
    exact hK F sw H hp h (fun b q => q) (.refl _ _) (fun b q => .inl q)
  · have e0 : ¬ w.n = 0 := fun q => by rw [q] at hc; simp at hc
    have eo : w.out s = ((s.more w.b.name 1 w.wait).1, { w with b := w.b.broke (s.more w.b.name 1 w.wait).2, wait := [], n := 0 }, (s.more w.b.name 1 w.wait).2) := if_neg e0
    rw [eo] at hK
    have hkF : ¬ F k := fun q => hd k q (.inl rfl)
    refine RowT.ld (c := cSl) (i := 6) (x := sw) h.row (BRow.tail (j := 0) rfl) ?_
    refine rput_ok (kd := 1) hg h.row hp hkF (SlB_byts h.wait) (fun ad ha q => hd _ q (.inr (.inl ⟨ad, ha, rfl⟩))) hn hlogs hnx h0 hfit fun F1 H1 p1 S1 => ?_
    have h1 := h.mod S1.mod fun b hb q => hd b q hb
    have hkl := obj_lt h.row
    have hkF1 : ¬ F1 k := fun q => (S1.own k q).elim hkF fun r => by omega
    generalize (s.more w.b.name 1 w.wait).1 = s1 at *
    generalize (s.more w.b.name 1 w.wait).2 = e at *
    refine RowT.st h1.row (i := 6) (by simp [baseV]) rfl fun H2 r2 m2 z2 => ?_
    refine RowT.st r2 (i := 7) (by simp [baseV]) rfl fun H3 r3 m3 z3 => ?_
    have r3' : BRow H3 k ty_runs_Writer p w.b [(Sl.mk none 0 0).v, .int .i64 ((0 : Nat) : Int), sl.v, .int .i64 (w.rows : Int)] := by
      have e : (((baseV p w.b ++ [sw.v, .int .i64 (w.n : Int), sl.v, .int .i64 (w.rows : Int)]).toArray.setIfInBounds 6 (.slice none 0 0)).setIfInBounds 7 (.int .i64 (0 : Int))) = (baseV p w.b ++ [(Sl.mk none 0 0).v, .int .i64 ((0 : Nat) : Int), sl.v, .int .i64 (w.rows : Int)]).toArray := by
        simp [baseV]
      rw [e] at r3; exact r3
    refine rbroke_ok r3' fun H4 r4 m4 z4 => ?_
    have m14 : Mod (fun q => q = k) H1 H4 := (m2.trans m3).trans m4
    have m04 : Mod (fun b => F b ∨ b = k) H H4 := (S1.mod.mono fun b _ q => .inl q).trans' m14 fun b hb q => .inr q
    refine hK F1 (Sl.mk none 0 0) H4 (p1.keep fun b hb hl => m14.same b hl fun q => hkF1 (q ▸ hb)) ⟨r4, SlE.nil _ _ _, h1.last.keep fun b hb hl => m14.same b hl fun q => h1.offL (q ▸ hb)⟩ (by rintro b ⟨ad, q, _⟩; cases q) m04 S1.own

theorem putL_most (l : List Int) : (putL l).length ≤ 8 * l.length + 1 := by
  unfold putL
  split
  · simp
  · rw [List.length_flatMap]
    have : ∀ l : List Int, (l.map fun x => (wordL x).length).sum = 8 * l.length := by
      intro l
      induction l with
      | nil => rfl
      | cons x l ih => rw [List.map_cons, List.sum_cons, ih]; simp [wordL]; omega
    have := this l
    omega
theorem pgV_bytesI {l : List Int} (h : ∀ x ∈ l, 0 ≤ x ∧ x < 256) : pgV (bytesI l) = l.map (Value.int .u8) := by
  rw [← u8i_vals, u8i_bytesI h]
/-- A row more. -/
theorem radd_ok {l : Sl} {ll : List Int} {K : Int → Heap → Prop} (hg : Gl H) (hgs : ¬ wrO k sw sl gSteps) (h : WrB H k p w sw sl) (hp : PoolAt F H p dp s) (hd : ∀ b, F b → ¬ wrO k sw sl b)
    (hl : Ints .u64 H l ll) (hlb : ∀ ad, l.a = some ad → ¬ wrO k sw sl ad.block) (hlen : ll.length ≤ 1000000) (hwl : w.wait.length ≤ 1000000) (hwr : w.rows < 1099511627776) (hwn : w.n < 1099511627776)
    (hn : w.b.name.size ≤ 9223372036854775807) (hlogs : s.d.logs < 68719470000) (hnx : s.next < 1099511627776) (h0 : 0 ≤ s.next) (hfit : s.Fit)
    (hK : ∀ F' sw' sl' H', PoolAt F' H' p dp (w.add s ll).1 → WrB H' k p (w.add s ll).2.1 sw' sl' → (∀ b, F' b → ¬ wrO k sw' sl' b) → Step (fun b => F b ∨ wrO k sw sl b) (fun b => F' b ∨ wrO k sw' sl' b) H H' → K (w.add s ll).2.2 H') : runs_Writer_Add.sp (at0 k) l H K := by
  refine runs_Writer_Add.of ?_
  unfold runs_Writer_Add.vc
  unfold at0
  refine br_f rfl ?_
  simp only [optK_eq]
  have hln := hl.len
  unfold RW.add at hK
  refine rready_ok h.row ?_
  refine br_mk (fun hc => ?_) (fun hc => ?_)
  · have e0 : w.b.ready ≠ 0 := by simpa using hc
    rw [if_pos e0] at hK
    exact hK F sw sl H hp h hd (.refl _ _)
  have e0 : ¬ w.b.ready ≠ 0 := by simpa using hc
  rw [if_neg e0] at hK
  refine ⟨fun _ A => A = H ∧ ¬ ((ll.length : Int) ≠ w.b.width) ∧ ¬ (0 < w.rows ∧ cmpL ll w.last ≤ 0), ?_, ?_⟩
  · refine RowT.ld (c := cInt .i64) (i := 2) (x := w.b.width) h.row (BRow.get 2 _ rfl) ?_
    refine br_mk (fun hc => ?_) (fun hc => ?_)
    · have e1 : (ll.length : Int) ≠ w.b.width := by rw [← hln]; simpa using hc
      rw [if_pos e1] at hK
      exact hK F sw sl H hp h hd (.refl _ _)
    have e1 : ¬ ((ll.length : Int) ≠ w.b.width) := by rw [← hln]; simpa using hc
    rw [if_neg e1] at hK
    refine RowT.ld (c := cInt .i64) (i := 9) (x := (w.rows : Int)) h.row (BRow.tail (j := 3) rfl) ?_
    refine br_mk (fun hc => ?_) (fun hc => ?_)
    · have e2 : 0 < w.rows := by have : (w.rows : Int) > 0 := by simpa using hc
                                 omega
      refine RowT.ld (c := cSl) (i := 8) (x := sl) h.row (BRow.tail (j := 2) rfl) ?_
      refine rowCmp_ok hl h.last.ints (by omega) ?_
      refine br_mk (fun hc => ?_) (fun hc => ?_)
      · have e3 : cmpL ll w.last ≤ 0 := by simpa using hc
        rw [if_pos ⟨e2, e3⟩] at hK
        exact hK F sw sl H hp h hd (.refl _ _)
      · have e3 : ¬ cmpL ll w.last ≤ 0 := by simpa using hc
        exact ⟨rfl, e1, fun q => e3 q.2⟩
    · have e2 : ¬ 0 < w.rows := by have : ¬ (w.rows : Int) > 0 := by simpa using hc
                                   omega
      exact ⟨rfl, e1, fun q => e2 q.1⟩
  rintro _ A ⟨rfl, e1, e2⟩
  rw [if_neg e1, if_neg e2] at hK
  refine ⟨fun A => BRow A k ty_runs_Writer p w.b [sw.v, .int .i64 (w.n : Int), sl.v, .int .i64 (w.rows : Int)], h.row, ?_⟩
  refine RowT.ldC (c := cSl) (i := 6) (x := sw) (cs := fun _ => _) (fun _ q => q) (fun _ _ => BRow.tail (j := 0) rfl) ?_
  refine rowPut_ok hl hlen fun r A1 o1 x1 => ?_
  have h1 := h.mod x1 fun _ _ => id
  refine ⟨h1.row, ?_⟩
  have hpl : (putL ll).length ≤ 8 * 1000000 + 1 := by have := putL_most ll; omega
  have o1' : RdE EB A1 r.a (bytesI (putL ll)) := by
    unfold RdE; rw [EB_all, pgV_bytesI (putL_range ll)]; exact o1.reads
  have rn : r.n = (bytesI (putL ll)).length := by have := o1.1; simpa using this.symm
  refine SlE.append elByte h1.wait o1' rn (by rw [bytesI_length]; omega) (by rw [bytesI_length]; omega) fun s' A2 o2 g2 _ => ?_
  have hkl := obj_lt h.row
  have z1 := x1.size
  have z2 := g2.1.size
  have r2 : BRow A2 k ty_runs_Writer p w.b [sw.v, .int .i64 (w.n : Int), sl.v, .int .i64 (w.rows : Int)] := h1.row.mod g2.1 h.offW
  have l2 : Ints .u64 A2 l ll := (hl.ext x1).mod g2.1 fun ad ha q => hlb ad ha (.inr (.inl q))
  have q2 : Owns A2 0 ty_uint64 1 sl (w.last.map (Value.int .u64)) := h1.last.mod g2.1 fun b hb q => h1.last.apart h1.wait (by decide) b hb q
  refine RowT.st r2 (i := 6) (by simp [baseV]) rfl fun A3 r3 m3 z3 => ?_
  have hnew : ¬ ownB s' k := fun q => by
    rcases g2.2 k q with u | u
    · exact h.offW u
    · omega
  have l3 : Ints .u64 A3 l ll := l2.mod m3 fun ad ha q => hlb ad ha (.inl q)
  have o3 : SlE EB ty_uint8 A3 s' (w.wait ++ bytesI (putL ll)) := o2.mod m3 fun b hb q => hnew (q ▸ hb)
  refine CloneU_ok l3 hlen fun c A4 o4 x4 f4 => ?_
  have r4 := r3.ext x4
  have hck : ¬ ownB c k := fun q => by have := f4 k q; have := m3.size; omega
  refine RowT.st r4 (i := 8) (by simp [baseV]) rfl fun A5 r5 m5 z5 => ?_
  refine RowT.ld (c := cInt .i64) (i := 9) (x := (w.rows : Int)) r5 (by simp [baseV]) ?_
  refine RowT.st r5 (i := 9) (by simp [baseV]) rfl fun A6 r6 m6 z6 => ?_
  refine RowT.ld (c := cInt .i64) (i := 7) (x := (w.n : Int)) r6 (by simp [baseV]) ?_
  refine RowT.st r6 (i := 7) (by simp [baseV]) rfl fun A7 r7 m7 z7 => ?_
  rw [succ64 w.rows (by omega)] at r7
  rw [succ64 w.n (by omega)] at r7
  have r7' : BRow A7 k ty_runs_Writer p w.b [s'.v, .int .i64 ((w.n + 1 : Nat) : Int), c.v, .int .i64 ((w.rows + 1 : Nat) : Int)] := by
    have e : (((((baseV p w.b ++ [sw.v, .int .i64 (w.n : Int), sl.v, .int .i64 (w.rows : Int)]).toArray.setIfInBounds 6 s'.v).setIfInBounds 8 c.v).setIfInBounds 9 (.int .i64 ((w.rows + 1 : Nat) : Int))).setIfInBounds 7 (.int .i64 ((w.n + 1 : Nat) : Int))) = (baseV p w.b ++ [s'.v, .int .i64 ((w.n + 1 : Nat) : Int), c.v, .int .i64 ((w.rows + 1 : Nat) : Int)]).toArray := by
      simp [baseV]
    rw [e] at r7; exact r7
  have m47 : Mod (fun q => q = k) A4 A7 := (m5.trans m6).trans m7
  have h7 : WrB A7 k p (w.push ll) s' c := ⟨r7', (o3.ext x4).mod m47 fun b hb q => hnew (q ▸ hb), o4.mod m47 fun b hb q => hck (q ▸ hb)⟩
  have m07 : Mod (fun b => b = k ∨ ownB sw b) A A7 := by
    have a1 : Mod (fun b => b = k ∨ ownB sw b) A A2 := x1.mod.trans' g2.1 fun b _ q => .inr q
    have a2 : Mod (fun b => b = k ∨ ownB sw b) A A3 := a1.trans' m3 fun b _ q => .inl q
    have a3 : Mod (fun b => b = k ∨ ownB sw b) A A4 := a2.trans' x4 fun b _ q => q.elim
    exact a3.trans' m47 fun b _ q => .inl q
  have s'own : ∀ b, ownB s' b → ownB sw b ∨ A.size ≤ b := fun b hb => (g2.2 b hb).imp_right fun q => by omega
  have cown : ∀ b, ownB c b → A.size ≤ b := fun b hb => by have := f4 b hb; have := m3.size; omega
  have p7 : PoolAt F A7 p dp s := hp.keep fun b hb hlt => m07.same b hlt fun q => hd b hb (q.imp_right .inl)
  have hd7 : ∀ b, F b → ¬ wrO k s' c b := by
    rintro b hb (q | q | q)
    · exact hd b hb (.inl q)
    · rcases s'own b q with u | u
      · exact hd b hb (.inr (.inl u))
      · have := hp.lt b hb; omega
    · have := cown b q; have := hp.lt b hb; omega
  have S7 : ∀ (F' : Nat → Prop) (sw' : Sl) (H' : Heap), (∀ b, ownB sw' b → ownB s' b) → Mod (fun b => F b ∨ b = k) A7 H' → (∀ b, F' b → F b ∨ A7.size ≤ b) → Step (fun b => F b ∨ wrO k sw sl b) (fun b => F' b ∨ wrO k sw' c b) A H' := by
    intro F' sw' H' h1 h2 h3
    have z7' := m07.size
    refine ⟨(m07.mono fun b _ q => .inr (q.imp_right .inl)).trans' h2 fun b _ q => q.imp_right .inl, fun b hb => ?_⟩
    rcases hb with q | q | q | q
    · rcases h3 b q with u | u
      · exact .inl (.inl u)
      · right; omega
    · exact .inl (.inr (.inl q))
    · rcases s'own b (h1 b q) with u | u
      · exact .inl (.inr (.inr (.inl u)))
      · exact .inr u
    · exact .inr (cown b q)
  refine RowT.ld (c := cInt .i64) (i := 7) (x := ((w.n + 1 : Nat) : Int)) r7' (BRow.tail (j := 1) rfl) ?_
  refine RowT.ld (c := cInt .i64) (i := 3) (x := roomL w.b.width) r7' (BRow.get 3 _ rfl) ?_
  refine br_mk (fun hc => ?_) (fun hc => ?_)
  · have e3 : ((w.n + 1 : Nat) : Int) < roomL w.b.width := by simpa using hc
    rw [if_pos e3] at hK
    exact hK F s' c A7 p7 h7 hd7 (S7 F s' A7 (fun _ q => q) (.refl _ _) fun b q => .inl q)
  · have e3 : ¬ ((w.n + 1 : Nat) : Int) < roomL w.b.width := by simpa using hc
    rw [if_neg e3] at hK
    refine rout_ok (hg.keep (m07.same _ hg.lt ?_)) h7 p7 hd7 hn hlogs hnx h0 hfit fun F' sw' H' p8 h8 hsub m8 hown => hK F' sw' c H' p8 h8 ?_ (S7 F' sw' H' hsub m8 hown)
    · rintro (q | q)
      · exact hgs (.inl q)
      · exact hgs (.inr (.inl q))
    · rintro b hb (q | q | q)
      · rcases hown b hb with u | u
        · exact hd7 b u (.inl q)
        · have := h7.lt b (.inl q); omega
      · rcases hown b hb with u | u
        · exact hd7 b u (.inr (.inl (hsub b q)))
        · have := h7.lt b (.inr (.inl (hsub b q))); omega
      · rcases hown b hb with u | u
        · exact hd7 b u (.inr (.inr q))
        · have := h7.lt b (.inr (.inr q)); omega
end
end Go.Proofs.YtbgpkpbejldlcaaGreatDoor

/-
  Runs: the writer's end: the walk.
-/
namespace Go.Proofs.YtbgpkpbejldlcaaGreatDoor
open Go.MapKept

/-- A pool and a writer, since some heap. -/
structure RunB (H0 : Heap) (F0 : Nat → Prop) (k p dp : Nat) (sw sl : Sl) (F : Nat → Prop) (A : Heap) (s : Pl) (w : RW) : Prop where
  pool : PoolAt F A p dp s
  wr : WrB A k p w sw sl
  dis : ∀ b, F b → ¬ wrO k sw sl b
  mod : Mod (fun b => F0 b ∨ b = k) H0 A
  own : ∀ b, F b → F0 b ∨ H0.size ≤ b

section
variable {H0 : Heap} {F0 : Nat → Prop} {k p dp : Nat} {sw sl : Sl} {F : Nat → Prop} {A : Heap} {s : Pl} {w : RW}
theorem RunB.step {F' : Nat → Prop} {A' : Heap} {s' : Pl} (h : RunB H0 F0 k p dp sw sl F A s w) (hp : PoolAt F' A' p dp s') (S : Step F F' A A') : RunB H0 F0 k p dp sw sl F' A' s' w := by
  refine ⟨hp, h.wr.mod S.mod fun b hb q => h.dis b q hb, fun b hb q => ?_, h.mod.trans' S.mod fun b hb q => ?_, fun b hb => ?_⟩
  · rcases S.own b hb with r | r
    · exact h.dis b r q
    · have := h.wr.lt b q; omega
  · rcases h.own b q with r | r
    · exact .inl r
    · omega
  · rcases S.own b hb with r | r
    · exact h.own b r
    · right; have := h.mod.size; omega
theorem RunB.ext {A' : Heap} (h : RunB H0 F0 k p dp sw sl F A s w) (e : Ext A A') : RunB H0 F0 k p dp sw sl F A' s w := h.step (h.pool.ext e) ⟨e.mod, fun _ q => .inl q⟩
theorem RunB.gl (h : RunB H0 F0 k p dp sw sl F A s w) (hg : Gl H0) (h1 : ¬ F0 gSteps) (h2 : gSteps ≠ k) : Gl A := hg.keep (h.mod.same _ hg.lt fun q => q.elim h1 h2)
/-- The writer's own cells are turned. -/
theorem RunB.turn {A' : Heap} {w' : RW} {sw' : Sl} (h : RunB H0 F0 k p dp sw sl F A s w) (m : Mod (fun b => b = k) A A') (hw : WrB A' k p w' sw' sl) (hs : ∀ b, ownB sw' b → ownB sw b) : RunB H0 F0 k p dp sw' sl F A' s w' := by
  refine ⟨h.pool.keep fun b hb hl => m.same b hl fun q => h.dis b hb (.inl q), hw, fun b hb q => h.dis b hb (q.imp_right fun r => r.imp_left (hs b)), h.mod.trans' m fun b _ q => .inr q, h.own⟩

theorem RunB.touch {A' : Heap} {G : Nat → Prop} {n : Nat} (h : RunB H0 F0 k p dp sw sl F A s w) (m : Mod G A A') (hG : ∀ b, G b → n ≤ b) (hF : ∀ b, F b → b < n) (hw : ∀ b, wrO k sw sl b → b < n) (h0 : H0.size ≤ n) : RunB H0 F0 k p dp sw sl F A' s w :=
  ⟨h.pool.keep fun b hb hl => m.same b hl fun q => by have := hG b q; have := hF b hb; omega, h.wr.mod m fun b hb q => by have := hG b q; have := hw b hb; omega, h.dis, h.mod.trans' m fun b hb q => by have := hG b q; omega, h.own⟩
theorem wrapU {n : Nat} (h : n < 18446744073709551616) : IntKind.u64.wrap (n : Int) = (n : Int) := by
  have : ((n : Int) % 18446744073709551616) = n := Int.emod_eq_of_lt (by omega) (by omega)
  exact this

theorem byteSl {A : Heap} {t : Nat} {x : UInt8} (r : RowT A t ty_uint8 #[.int .u8 (x.toNat : Int)]) : SlE EB ty_uint8 A (Sl.mk (some ⟨t, 0, none⟩) 1 1) [x] :=
  ⟨rfl, .inr ⟨t, 1, #[.int .u8 (x.toNat : Int)], rfl, Nat.zero_le _, r, Nat.le_refl _, by unfold maxLen; omega, rfl, rfl⟩⟩
theorem wordInts {A : Heap} {t : Nat} {x : Int} (r : RowT A t ty_uint64 #[.int .u64 x]) : Ints .u64 A (Sl.mk (some ⟨t, 0, none⟩) 1 1) [x] := by
  refine ⟨rfl, fun i v hv => ⟨_, rfl, ?_⟩⟩
  rw [add_lit0]
  exact r.cell (by simpa using hv)

set_option maxHeartbeats 1000000 in
/-- The run's end. -/
theorem rclose_ok {H : Heap} {K : (Int × Int) → Heap → Prop} (hg : Gl H) (hgs : ¬ wrO k sw sl gSteps) (h : WrB H k p w sw sl) (hp : PoolAt F H p dp s) (hd : ∀ b, F b → ¬ wrO k sw sl b)
    (hwr : w.rows < 1099511627776) (hwd : 0 ≤ w.b.width) (hn : w.b.name.size ≤ 9223372036854775807) (hlogs : s.d.logs < 68719460000) (hnx : s.next < 1099511620000) (h0 : 0 ≤ s.next) (hfit : s.Fit)
    (hb1 : (w.out s).1.d.logs < 68719465000) (hb2 : (w.out s).1.next < 1099511625000)
    (hb3 : ∀ h hd, (Pl.leave (((w.out s).1.pin w.b.name 0).1.set h 2 hd) h).1.d.logs < 68719470000)
    (hK : ∀ F' sw' H', PoolAt F' H' p dp (w.close s).1 → WrB H' k p (w.close s).2.1 sw' sl → (∀ b, F' b → ¬ wrO k sw' sl b) → Step (fun b => F b ∨ wrO k sw sl b) (fun b => F' b ∨ wrO k sw' sl b) H H' → K (((w.close s).2.2.1 : Int), (w.close s).2.2.2) H') : runs_Writer_Close.sp (at0 k) H K := by
  refine runs_Writer_Close.of ?_
  unfold runs_Writer_Close.vc
  unfold at0
  refine br_f rfl ?_
  simp only [optK_eq]
  unfold RW.close at hK
  refine rready_ok h.row ?_
  by_cases e0 : w.b.ready ≠ 0
  · rw [if_pos e0] at hK
    refine br_f (by simpa using e0) ?_
    refine br_t (by simpa using e0) ?_
    exact hK F sw H hp h hd (.refl _ _)
  rw [if_neg e0] at hK
  refine br_t (by simpa using e0) ?_
  have B0 : RunB H F k p dp sw sl F H s w := ⟨hp, h, hd, .refl _ _, fun b q => .inl q⟩
  refine rout_ok hg h hp hd hn (by omega) (by omega) h0 hfit fun F1 sw1 H1 p1 h1 hsub m1 own1 => ?_
  have hb20 : 0 ≤ (w.out s).1.next := by have := p1.wf.tick; omega
  have B1 : RunB H F k p dp sw1 sl F1 H1 (w.out s).1 (w.out s).2.1 := by
    refine ⟨p1, h1, ?_, m1, own1⟩
    rintro b hb (q | q | q)
    · rcases own1 b hb with r | r
      · exact hd b r (.inl q)
      · have := h.lt b (.inl q); omega
    · rcases own1 b hb with r | r
      · exact hd b r (.inr (.inl (hsub b q)))
      · have := h.lt b (.inr (.inl (hsub b q))); omega
    · rcases own1 b hb with r | r
      · exact hd b r (.inr (.inr q))
      · have := h.lt b (.inr (.inr q)); omega
  -- the end of all
  have fin : ∀ (F' : Nat → Prop) (sw' : Sl) (A : Heap) (s' : Pl) (w' : RW) , (∀ b, ownB sw' b → ownB sw b) → RunB H F k p dp sw' sl F' A s' w' → Step (fun b => F b ∨ wrO k sw sl b) (fun b => F' b ∨ wrO k sw' sl b) H A := by
    intro F' sw' A s' w' hs B
    refine ⟨B.mod.mono fun b _ q => q.imp_right .inl, fun b hb => ?_⟩
    rcases hb with q | q | q | q
    · rcases B.own b q with r | r
      · exact .inl (.inl r)
      · exact .inr r
    · exact .inl (.inr (.inl q))
    · exact .inl (.inr (.inr (.inl (hs b q))))
    · exact .inl (.inr (.inr (.inr q)))
  refine br_mk (fun hc => ?_) (fun hc => ?_)
  · have e1 : (w.out s).2.2 ≠ 0 := by simpa using hc
    rw [if_pos e1] at hK
    exact hK F1 sw1 H1 p1 h1 B1.dis (fin F1 sw1 H1 _ _ hsub B1)
  have e1 : ¬ (w.out s).2.2 ≠ 0 := by simpa using hc
  rw [if_neg e1] at hK
  have hwb : (w.out s).2.1.b = w.b ∧ (w.out s).2.1.rows = w.rows := by
    unfold RW.out at e1 ⊢
    split
    · exact ⟨rfl, rfl⟩
    · rename_i hq
      rw [if_neg hq] at e1
      refine ⟨?_, rfl⟩
      show w.b.broke _ = _
      unfold Rb.broke; rw [if_neg e1]
  obtain ⟨hwb1, hwb2⟩ := hwb
  rw [← hwb1] at hn hb3 hwd
  rw [← hwb2] at hwr
  have hF0 : ¬ F gSteps := hp.glob
  have hk0 : gSteps ≠ k := fun q => hgs (.inl q)
  generalize hs1 : (w.out s).1 = s1 at *
  generalize hw1 : (w.out s).2.1 = w1 at *
  refine RowT.ld (c := cPtr) (i := 0) (x := at0 p) h1.row (BRow.get 0 _ rfl) ?_
  refine RowT.ld (c := cStr) (i := 1) (x := w1.b.name) h1.row (BRow.get 1 _ rfl) ?_
  refine Pin_ok (B1.gl hg hF0 hk0) p1 hn (by decide) (by decide) (by omega) (by omega) fun F2 H2 p2 S2 => ?_
  have B2 := B1.step p2 S2
  have hnx2 : (s1.pin w1.b.name 0).1.next ≤ s1.next + 1 := s1.pin_next hb20 (by omega)
  have hhead : w1.head s1 = if (s1.pin w1.b.name 0).2.2 ≠ 0 then ((s1.pin w1.b.name 0).1, (s1.pin w1.b.name 0).2.2) else
      if (Pl.leave ((s1.pin w1.b.name 0).1.set (s1.pin w1.b.name 0).2.1 2 (headB w1.b.width w1.rows)) (s1.pin w1.b.name 0).2.1).2 ≠ 0 then Pl.leave ((s1.pin w1.b.name 0).1.set (s1.pin w1.b.name 0).2.1 2 (headB w1.b.width w1.rows)) (s1.pin w1.b.name 0).2.1
      else (Pl.leave ((s1.pin w1.b.name 0).1.set (s1.pin w1.b.name 0).2.1 2 (headB w1.b.width w1.rows)) (s1.pin w1.b.name 0).2.1).1.flush w1.b.name := rfl
  have hsn := (s1.pin w1.b.name 0).1.set_next (s1.pin w1.b.name 0).2.1 2 (headB w1.b.width w1.rows)
  have hb3' := hb3 (s1.pin w1.b.name 0).2.1 (headB w1.b.width w1.rows)
  generalize (s1.pin w1.b.name 0).1 = s2 at *
  generalize (s1.pin w1.b.name 0).2.1 = hh at *
  generalize (s1.pin w1.b.name 0).2.2 = e2 at *
  -- what stands behind each cut
  obtain ⟨X0, hX0⟩ : ∃ X0 : Pl × Int, X0 = if e2 ≠ 0 then (s2, e2) else s2.set hh 2 (headB w1.b.width w1.rows) := ⟨_, rfl⟩
  obtain ⟨X1, hX1⟩ : ∃ X1 : Pl × Int, X1 = if e2 ≠ 0 then (s2, e2) else Pl.leave (s2.set hh 2 (headB w1.b.width w1.rows)) hh := ⟨_, rfl⟩
  have hX1' : X1 = Pl.leave X0 hh := by
    rw [hX1, hX0]
    by_cases q : e2 ≠ 0
    · rw [if_pos q, if_pos q]; exact (if_neg q).symm
    · rw [if_neg q, if_neg q]
  have hX2 : w1.head s1 = if X1.2 ≠ 0 then X1 else X1.1.flush w1.b.name := by
    rw [hhead, hX1]
    by_cases q : e2 ≠ 0
    · rw [if_pos q, if_pos q, if_pos q]
    · rw [if_neg q, if_neg q]
  have hX0n : X0.1.next ≤ s1.next + 1 := by
    rw [hX0]
    by_cases q : e2 ≠ 0
    · rw [if_pos q]; exact hnx2
    · rw [if_neg q, hsn]; exact hnx2
  have hX1l : X1.2 = 0 → X1.1.d.logs < 68719470000 := by
    rw [hX1]
    by_cases q : e2 ≠ 0
    · rw [if_pos q]; intro r; exact absurd r q
    · rw [if_neg q]; intro _; exact hb3'
  refine ⟨fun e A => e = X0.2 ∧ ∃ F', RunB H F k p dp sw1 sl F' A X0.1 w1, ?_, ?_⟩
  · refine br_mk (fun hc => ?_) (fun hc => ?_)
    · have q : ¬ e2 ≠ 0 := by simpa using hc
      rw [if_neg q] at hX0
      refine ⟨fun A => BRow A k ty_runs_Writer p w1.b [sw1.v, .int .i64 (w1.n : Int), sl.v, .int .i64 (w1.rows : Int)], B2.wr.row, ?_⟩
      refine RowT.ldC (c := cPtr) (i := 0) (x := at0 p) (cs := fun _ => _) (fun _ q => q) (fun _ _ => BRow.get 0 _ rfl) ?_
      refine RowT.ldC (c := cInt .i64) (i := 2) (x := w1.b.width) (cs := fun _ => _) (fun _ q => q) (fun _ _ => BRow.get 2 _ rfl) ?_
      refine RowT.ldC (c := cInt .i64) (i := 9) (x := (w1.rows : Int)) (cs := fun _ => _) (fun _ q => q) (fun _ _ => BRow.tail (j := 3) rfl) ?_
      have hu8 : IntKind.u8.wrap w1.b.width = ((UInt8.ofNat w1.b.width.toNat).toNat : Int) := by
        have : w1.b.width = (w1.b.width.toNat : Int) := by omega
        rw [this, wrap8]; simp
      have hu64 : IntKind.u64.wrap (w1.rows : Int) = (w1.rows : Int) := wrapU (by omega)
      rw [hu8, hu64]
      have putW : ∀ (A : Heap) (t : Nat) (K' : Sl → Heap → Prop), RowT A t ty_uint64 #[.int .u64 (w1.rows : Int)] → (∀ r A', RdE EB A' r.a (bytesI (putL [(w1.rows : Int)])) → r.n = (bytesI (putL [(w1.rows : Int)])).length → Ext A A' → K' r A') → row_Put.sp (Sl.mk (some ⟨t, 0, none⟩) 1 1) A K' := by
        intro A t K' r hk
        refine rowPut_ok (wordInts r) (by simp) fun r A' o x => hk r A' ?_ ?_ x
        · unfold RdE; rw [EB_all, pgV_bytesI (putL_range _)]; exact o.reads
        · have := o.1; rw [bytesI_length]; simpa using this.symm
      have tail : ∀ (A : Heap) (F' : Nat → Prop) (t : Nat) (r : Sl), RunB H F k p dp sw1 sl F' A s2 w1 → H2.size ≤ t → F' = F2 → RowT A t ty_uint8 #[.int .u8 ((UInt8.ofNat w1.b.width.toNat).toNat : Int)] → RdE EB A r.a (bytesI (putL [(w1.rows : Int)])) → r.n = (bytesI (putL [(w1.rows : Int)])).length →
          doT cSl Tryz.prog (Builtin.append_ #[ty_sl_uint8, ty_sl_uint8] ty_sl_uint8 #[(.slice (some ⟨t, 0, none⟩) 1 1), r.v]) A fun (z : Sl) A' => BRow A' k ty_runs_Writer p w1.b [sw1.v, .int .i64 (w1.n : Int), sl.v, .int .i64 (w1.rows : Int)] ∧
            pool_Pool_Put.sp (at0 p) hh (2 : Int) z A' fun (e : Int) A'' => BRow A'' k ty_runs_Writer p w1.b [sw1.v, .int .i64 (w1.n : Int), sl.v, .int .i64 (w1.rows : Int)] ∧ (e = X0.2 ∧ ∃ F', RunB H F k p dp sw1 sl F' A'' X0.1 w1) := by
        intro A F' t r B ht hF rt hr hrn
        subst hF
        have o := byteSl rt
        have hrl : (bytesI (putL [(w1.rows : Int)])).length = 8 := by rw [bytesI_length]; simp [putL, wordL]
        refine SlE.append elByte (s := Sl.mk (some ⟨t, 0, none⟩) 1 1) (x := r) o hr hrn (by rw [hrl]; simp) (by rw [hrl]; simp) fun z A' oz gz _ => ?_
        have B' : RunB H F k p dp sw1 sl F' A' s2 w1 := B.touch gz.1 (n := H2.size) (by rintro b ⟨ad, q1, q2⟩; cases q1; subst q2; exact ht) (fun b hb => p2.lt b hb) (fun b hb => B2.wr.lt b hb) B2.mod.size
        refine ⟨B'.wr.row, ?_⟩
        refine Put_ok (kd := 2) (B'.gl hg hF0 hk0) B'.pool (SlB_byts oz) fun F3 H3 p3 S3 => ?_
        have B3 := B'.step p3 S3
        refine ⟨B3.wr.row, ?_⟩
        rw [hX0]
        exact ⟨rfl, F3, B3⟩
      refine ⟨?_, ?_⟩
      · refine newC_rowT fun A1 z1 r1 x1 => ⟨(B2.ext x1).wr.row, ?_⟩
        refine newC_rowT fun A2 z2 r2 x2 => ⟨((B2.ext x1).ext x2).wr.row, ?_⟩
        refine putW A2 _ _ r2 fun r A3 hr hrn x3 => ⟨(((B2.ext x1).ext x2).ext x3).wr.row, ?_⟩
        exact tail A3 F2 _ r (((B2.ext x1).ext x2).ext x3) (Nat.le_refl _) rfl ((r1.ext x2).ext x3) hr hrn
      · refine newC_rowT fun A1 z1 r1 x1 => ⟨(B2.ext x1).wr.row, ?_, ?_⟩
        · refine newC_rowT fun A2 z2 r2 x2 => ⟨((B2.ext x1).ext x2).wr.row, ?_⟩
          refine putW A2 _ _ (r1.ext x2) fun r A3 hr hrn x3 => ⟨(((B2.ext x1).ext x2).ext x3).wr.row, ?_⟩
          exact tail A3 F2 _ r (((B2.ext x1).ext x2).ext x3) (by omega) rfl (r2.ext x3) hr hrn
        · refine putW A1 _ _ r1 fun r A2 hr hrn x2 => ⟨((B2.ext x1).ext x2).wr.row, ?_⟩
          refine newC_rowT fun A3 z3 r3 x3 => ⟨(((B2.ext x1).ext x2).ext x3).wr.row, ?_⟩
          have := x2.size
          exact tail A3 F2 _ r (((B2.ext x1).ext x2).ext x3) (by omega) rfl r3 (hr.ext x3) hrn
    · have q : e2 ≠ 0 := by simpa using hc
      rw [if_pos q] at hX0
      rw [hX0]
      exact ⟨rfl, F2, B2⟩
  rintro _ A3 ⟨rfl, F3, B3⟩
  refine ⟨fun e A => e = X1.2 ∧ ∃ F', RunB H F k p dp sw1 sl F' A X1.1 w1, ?_, ?_⟩
  · refine br_mk (fun hc => ?_) (fun hc => ?_)
    · have q : X0.2 = 0 := by simpa using hc
      refine RowT.ld (c := cPtr) (i := 0) (x := at0 p) B3.wr.row (BRow.get 0 _ rfl) ?_
      refine Unpin_ok (B3.gl hg hF0 hk0) B3.pool (by omega) fun F4 H4 p4 S4 => ?_
      have e : X1 = X0.1.unpin hh := by rw [hX1']; exact if_pos q
      rw [e]
      exact ⟨rfl, F4, B3.step p4 S4⟩
    · have q : ¬ X0.2 = 0 := by simpa using hc
      have e : X1 = X0 := by rw [hX1']; exact if_neg q
      rw [e]
      exact ⟨rfl, F3, B3⟩
  rintro _ A4 ⟨rfl, F4, B4⟩
  refine ⟨fun e A => e = (w1.head s1).2 ∧ ∃ F', RunB H F k p dp sw1 sl F' A (w1.head s1).1 w1, ?_, ?_⟩
  · refine br_mk (fun hc => ?_) (fun hc => ?_)
    · have q : X1.2 = 0 := by simpa using hc
      refine RowT.ld (c := cPtr) (i := 0) (x := at0 p) B4.wr.row (BRow.get 0 _ rfl) ?_
      refine RowT.ld (c := cStr) (i := 1) (x := w1.b.name) B4.wr.row (BRow.get 1 _ rfl) ?_
      refine Flush_ok (B4.gl hg hF0 hk0) B4.pool (hX1l q) fun F5 H5 p5 S5 => ?_
      have e : w1.head s1 = X1.1.flush w1.b.name := by rw [hX2]; exact if_neg (by simpa using q)
      rw [e]
      exact ⟨rfl, F5, B4.step p5 S5⟩
    · have q : ¬ X1.2 = 0 := by simpa using hc
      have e : w1.head s1 = X1 := by rw [hX2]; exact if_pos q
      rw [e]
      exact ⟨rfl, F4, B4⟩
  rintro _ A5 ⟨rfl, F5, B5⟩
  unfold RW.ends at hK
  refine rbroke_ok B5.wr.row fun A6 r6 m6 z6 => ?_
  refine br_mk (fun hc => ?_) (fun hc => ?_)
  · have q : (w1.head s1).2 ≠ 0 := by simpa using hc
    rw [if_pos q] at hK
    have B6 : RunB H F k p dp sw1 sl F5 A6 (w1.head s1).1 { w1 with b := w1.b.broke (w1.head s1).2 } := B5.turn m6 ⟨r6, B5.wr.wait.mod m6 fun b hb q => B5.wr.offW (q ▸ hb), B5.wr.last.mod m6 fun b hb q => B5.wr.offL (q ▸ hb)⟩ fun _ q => q
    exact hK F5 sw1 A6 B6.pool B6.wr B6.dis (fin F5 sw1 A6 _ _ hsub B6)
  · have q : ¬ (w1.head s1).2 ≠ 0 := by simpa using hc
    rw [if_neg q] at hK
    have eb : w1.b.broke (w1.head s1).2 = w1.b := if_neg q
    rw [eb] at r6
    refine RowT.st r6 (i := 5) (by simp [baseV]) rfl fun A7 r7 m7 z7 => ?_
    rw [baseV_closed] at r7
    have m57 := m6.trans m7
    have B7 : RunB H F k p dp sw1 sl F5 A7 (w1.head s1).1 w1.stop := B5.turn m57 ⟨r7, B5.wr.wait.mod m57 fun b hb q => B5.wr.offW (q ▸ hb), B5.wr.last.mod m57 fun b hb q => B5.wr.offL (q ▸ hb)⟩ fun _ q => q
    refine RowT.ld (c := cInt .i64) (i := 9) (x := (w1.rows : Int)) B7.wr.row (BRow.tail (j := 3) rfl) ?_
    exact hK F5 sw1 A7 B7.pool B7.wr B7.dis (fin F5 sw1 A7 _ _ hsub B7)
end
end Go.Proofs.YtbgpkpbejldlcaaGreatDoor

/-
  The pool: Drop.
-/
namespace Go.Proofs.YtbgpkpbejldlcaaGreatDoor
open Go.MapKept

theorem erase_filter : ∀ {l : List FZ} {i : Nat} {a : FZ}, (∀ (i j : Nat) (z z' : FZ), l[i]? = some z → l[j]? = some z' → z.2.p = z'.2.p → i = j) → l[i]? = some a → l.eraseIdx i = l.filter fun z => !(z.2.p == a.2.p)
  | [], i, a, _, h => by simp at h
  | b :: l, 0, a, hu, h => by
    simp at h; subst h
    rw [List.eraseIdx_cons_zero, List.filter_cons, if_neg (by simp)]
    refine (List.filter_eq_self.2 fun z hz => ?_).symm
    obtain ⟨j, hj⟩ := List.mem_iff_getElem?.1 hz
    have : z.2.p ≠ b.2.p := fun e => by have := hu (j + 1) 0 z b (by simpa using hj) rfl e; omega
    simpa using this
  | b :: l, i + 1, a, hu, h => by
    simp only [List.getElem?_cons_succ] at h
    have hne : b.2.p ≠ a.2.p := fun e => by have := hu 0 (i + 1) b a rfl (by simpa using h) e; omega
    rw [List.eraseIdx_cons_succ, List.filter_cons, if_pos (by simpa using hne)]
    rw [erase_filter (fun i j z z' h1 h2 e => by have := hu (i + 1) (j + 1) z z' (by simpa using h1) (by simpa using h2) e; omega) h]

/-- The frames that are left when some were forgotten. -/
def leftZ (zs w : List FZ) : List FZ := zs.filter fun z => !(w.any fun u => u.2.p == z.2.p)
theorem leftZ_snoc (zs w : List FZ) (a : FZ) : leftZ zs (w ++ [a]) = (leftZ zs w).filter fun z => !(z.2.p == a.2.p) := by
  unfold leftZ
  rw [List.filter_filter]
  refine List.filter_congr fun z _ => ?_
  rw [List.any_append, List.any_cons, List.any_nil, Bool.or_false, Bool.not_or, Bool.and_comm]
  congr 2
  exact Bool.beq_comm

end Go.Proofs.YtbgpkpbejldlcaaGreatDoor

/-
  PoolPins in plain words: all frames held, one given back, one more.
-/
namespace Go.Proofs.YtbgpkpbejldlcaaGreatDoor

theorem Told.congr {p : Pl} {n : ByteArray} {N q : Nat} {T T' : Nat → UInt8 × List UInt8} {pg : List Pg} (h : Told p n N q T pg) (e : ∀ k, k < N → T k = T' k) : Told p n N q T' pg :=
  ⟨h.wrong, h.disk, h.len, fun f hf => by obtain ⟨h1, h2, h3⟩ := h.mine f hf; exact ⟨h1, h2, by rw [← e _ h2]; exact h3⟩, fun k b hk hc => by
    have hl := (List.getElem?_eq_some_iff.1 hk).1
    rw [← e k (by rw [← h.len]; exact hl)]; exact h.rest k b hk hc⟩
theorem Told.erase_ne {p : Pl} {n : ByteArray} {N q : Nat} {T : Nat → UInt8 × List UInt8} {pg : List Pg} (h : Told p n N q T pg) (hw : p.WF) {i : Nat} {f g : Fr} (hf : p.fs[i]? = some f) (hg : g ∈ p.fs.eraseIdx i) : g ∈ p.fs ∧ g.page ≠ f.page := by
  obtain ⟨j, hji, hj⟩ := mem_erase.1 hg
  exact ⟨List.mem_of_getElem? hj, fun e => hji (h.inj hw hj hf e)⟩
theorem Told.modify_ne {p : Pl} {n : ByteArray} {N q : Nat} {T : Nat → UInt8 × List UInt8} {pg : List Pg} (h : Told p n N q T pg) (hw : p.WF) {i : Nat} {f g : Fr} {u : Fr → Fr} (hf : p.fs[i]? = some f) (hg : g ∈ p.fs.modify i u) : (g ∈ p.fs ∧ g.page ≠ f.page) ∨ g = u f := by
  rw [modify_set hf] at hg
  rcases mem_set' hg with ⟨j, hji, hj⟩ | r
  · exact .inl ⟨List.mem_of_getElem? hj, fun e => hji (h.inj hw hj hf e)⟩
  · exact .inr r
theorem modify_has {l : List Fr} {i : Nat} {f : Fr} {u : Fr → Fr} (hf : l[i]? = some f) (hu : (u f).page = f.page) {k : Nat} (h : ∃ g ∈ l, g.page = k) : ∃ g ∈ l.modify i u, g.page = k := by
  obtain ⟨g, hg, e⟩ := h
  obtain ⟨j, hj⟩ := List.mem_iff_getElem?.1 hg
  by_cases hij : i = j
  · subst hij
    rw [hf] at hj; cases hj
    exact ⟨u f, List.mem_of_getElem? (modify_same hf), hu.trans e⟩
  · exact ⟨g, List.mem_of_getElem? (by rw [modify_other hij]; exact hj), e⟩

/-- What the pages tell when 'm' frames were put to. -/
def pinT (m j : Nat) : UInt8 × List UInt8 := if j = m then (0, []) else (UInt8.ofNat j, [UInt8.ofNat j])
/-- Frames that are held. -/
structure HeldP (p : Pl) (n : ByteArray) (m N : Nat) (nx : Int) (L : Nat) (v : Nat → List Int → Prop) (gone : Nat → Prop) : Prop where
  told : ∃ pg, Told p n N 100 (pinT m) pg
  next : p.next = nx
  size : p.fs.length = L
  most : p.most = m
  pins : ∀ g ∈ p.fs, v g.page g.pins
  all : ∀ j, j < N → ¬ gone j → ∃ g ∈ p.fs, g.page = j

def v0 (j : Nat) (l : List Int) : Prop := l = [(j : Int) + 1]
def vA (j : Nat) (l : List Int) : Prop := (j = 2 ∧ l = []) ∨ (j ≠ 2 ∧ l = [(j : Int) + 1])
def vB (j : Nat) (l : List Int) : Prop := j ≠ 2 ∧ l = [(j : Int) + 1]
def vC (m j : Nat) (l : List Int) : Prop := j ≠ 2 ∧ ((j = m ∧ l = []) ∨ (j ≠ m ∧ l = [(j : Int) + 1]))
def vD (m j : Nat) (l : List Int) : Prop := j ≠ m ∧ ((j = 2 ∧ l = [(m : Int) + 2]) ∨ (j ≠ 2 ∧ l = [(j : Int) + 1]))

theorem HeldP.step {p : Pl} {n : ByteArray} {m i : Nat} (h : HeldP p n m i ((i : Int) + 1) i v0 (fun _ => False)) (hw : p.WF) (hi : i < m) (hm : m ≤ 27) :
    (p.fresh n).2 = ((i : Int) + 1, (i : Int), 0) ∧ ((p.fresh n).1.WF → ((p.fresh n).1.set ((i : Int) + 1) (UInt8.ofNat i) [UInt8.ofNat i]).2 = 0 ∧ HeldP ((p.fresh n).1.set ((i : Int) + 1) (UInt8.ofNat i) [UInt8.ofNat i]).1 n m (i + 1) (((i + 1 : Nat) : Int) + 1) (i + 1) v0 (fun _ => False)) := by
  obtain ⟨pg, ht⟩ := h.told
  have hfree : p.fs.length < p.most := by rw [h.size, h.most]; exact hi
  obtain ⟨r1, r2, r3, r4, r5, _, pg', r6⟩ := ht.fresh hw (.inl hfree) (by omega)
  rw [Pl.room_free hfree, h.next] at r2
  rw [h.next] at r1 r3
  refine ⟨r1, fun hw1 => ?_⟩
  have hlast : (p.fresh n).1.fs[p.fs.length]? = some ⟨n, i, 0, [], false, [(i : Int) + 1], 0⟩ := by rw [r2]; simp
  obtain ⟨s1, s2⟩ := r6.set hw1 (x := (i : Int) + 1) (k := UInt8.ofNat i) (b := [UInt8.ofNat i]) hlast (by simp) (by simp)
  rw [s1]
  refine ⟨rfl, ⟨pg', s2.congr fun k hk => ?_⟩, ?_, ?_, ?_, ?_, ?_⟩
  · by_cases e : k = i
    · subst e; rw [setT_same]; unfold pinT; rw [if_neg (by omega)]
    · rw [setT_other e, setT_other e]
  · show (p.fresh n).1.next = _
    rw [r3]
    have : w64 ((i : Int) + 1 + 1) = (i : Int) + 1 + 1 := by unfold w64; exact wrap64 (by omega) (by omega)
    rw [this]; omega
  · show ((p.fresh n).1.fs.modify _ _).length = _
    rw [List.length_modify, r2]; simp [h.size]
  · show (p.fresh n).1.most = m
    rw [r4, h.most]
  · intro g hg
    have hg : g ∈ (p.fresh n).1.fs.modify p.fs.length (Fr.set (UInt8.ofNat i) [UInt8.ofNat i]) := hg
    rw [r2, modify_last] at hg
    rcases List.mem_append.1 hg with q | q
    · exact h.pins g q
    · simp at q; subst q; rfl
  · intro j hj _
    show ∃ g ∈ (p.fresh n).1.fs.modify p.fs.length (Fr.set (UInt8.ofNat i) [UInt8.ofNat i]), g.page = j
    rw [r2, modify_last]
    by_cases e : j = i
    · subst e; exact ⟨_, List.mem_append_right _ List.mem_cons_self, rfl⟩
    · obtain ⟨g, hg, e2⟩ := h.all j (by omega) id
      exact ⟨g, List.mem_append_left _ hg, e2⟩
theorem HeldP.full {p : Pl} {n : ByteArray} {m N : Nat} {nx : Int} {v : Nat → List Int → Prop} {gone : Nat → Prop} (h : HeldP p n m N nx m v gone) (hv : ∀ j l, v j l → l ≠ []) : (¬ p.fs.length < p.most) ∧ (∀ f ∈ p.fs, f.pins ≠ []) :=
  ⟨by rw [h.size, h.most]; omega, fun f hf => hv _ _ (h.pins f hf)⟩
theorem v0_ne : ∀ j l, v0 j l → l ≠ [] := fun j l h e => by rw [h] at e; cases e
theorem vB_ne : ∀ j l, vB j l → l ≠ [] := fun j l h e => by rw [h.2] at e; cases e
theorem HeldP.at {p : Pl} {n : ByteArray} {m N : Nat} {nx : Int} {L : Nat} {v : Nat → List Int → Prop} {gone : Nat → Prop} (h : HeldP p n m N nx L v gone) {j : Nat} (hj : j < N) (hg : ¬ gone j) : ∃ (i : Nat) (f : Fr), p.fs[i]? = some f ∧ f.page = j ∧ v j f.pins := by
  obtain ⟨g, hg, e⟩ := h.all j hj hg
  obtain ⟨i, hi⟩ := List.mem_iff_getElem?.1 hg
  exact ⟨i, g, hi, e, e ▸ h.pins g hg⟩
theorem HeldP.unpin3 {p : Pl} {n : ByteArray} {m : Nat} (h : HeldP p n m m ((m : Int) + 1) m v0 (fun _ => False)) (hw : p.WF) (hm : 8 ≤ m) : (p.unpin 3).2 = 0 ∧ HeldP (p.unpin 3).1 n m m ((m : Int) + 1) m vA (fun _ => False) := by
  obtain ⟨pg, ht⟩ := h.told
  obtain ⟨i, f, hf, e, hp⟩ := h.at (j := 2) (by omega) id
  have hp : f.pins = [3] := hp
  obtain ⟨u1, u2⟩ := ht.unpin hw (x := 3) hf (by rw [hp]; simp)
  rw [u1] at u2 ⊢
  refine ⟨rfl, ⟨pg, u2⟩, h.next, by show (p.fs.modify i _).length = m; rw [List.length_modify]; exact h.size, h.most, fun g hg => ?_, fun j hj _ => ?_⟩
  · rcases ht.modify_ne hw hf hg with ⟨q1, q2⟩ | q
    · exact .inr ⟨by omega, h.pins g q1⟩
    · subst q; exact .inl ⟨e, by show List.filter _ f.pins = []; rw [hp]; simp⟩
  · exact modify_has hf rfl (h.all j hj id)
theorem HeldP.freshA {p : Pl} {n : ByteArray} {m : Nat} (h : HeldP p n m m ((m : Int) + 1) m vA (fun _ => False)) (hw : p.WF) (hm : 8 ≤ m) (hm2 : m ≤ 27) :
    (p.fresh n).2 = ((m : Int) + 1, (m : Int), 0) ∧ HeldP (p.fresh n).1 n m (m + 1) ((m : Int) + 2) m vB (fun j => j = 2) := by
  obtain ⟨pg, ht⟩ := h.told
  obtain ⟨i2, f2, hf2, e2, hp2⟩ := h.at (j := 2) (by omega) id
  have hp2' : f2.pins = [] := by
    rcases hp2 with ⟨_, q⟩ | ⟨q, _⟩
    · exact q
    · exact absurd rfl q
  have hfull : ¬ p.fs.length < p.most := by rw [h.size, h.most]; omega
  have hex : ∃ g ∈ p.fs, g.pins = [] := ⟨f2, List.mem_of_getElem? hf2, hp2'⟩
  obtain ⟨i, f, pg1, a1, a2, a3, a4, a5⟩ := ht.make hw hfull (List.mem_of_getElem? hf2) hp2'
  obtain ⟨r1, r2, r3, r4, r5, _, pg', r6⟩ := ht.fresh hw (.inr hex) (by omega)
  have hfp : f.page = 2 := by
    rcases h.pins f (List.mem_of_getElem? a1) with ⟨q, _⟩ | ⟨_, q⟩
    · exact q
    · rw [a2] at q; cases q
  rw [h.next] at r1 r2 r3
  rw [a4] at r2
  have hil := (List.getElem?_eq_some_iff.1 a1).1
  refine ⟨r1, ⟨pg', r6.congr fun k hk => ?_⟩, ?_, ?_, by rw [r4, h.most], ?_, ?_⟩
  · by_cases e : k = m
    · subst e; rw [setT_same]; unfold pinT; rw [if_pos rfl]
    · rw [setT_other e]
  · rw [r3]
    have : w64 ((m : Int) + 1 + 1) = (m : Int) + 1 + 1 := by unfold w64; exact wrap64 (by omega) (by omega)
    rw [this]; omega
  · rw [r2]
    simp only [List.length_append, List.length_singleton, List.length_eraseIdx_of_lt hil, h.size]
    omega
  · intro g hg
    rw [r2] at hg
    rcases List.mem_append.1 hg with q | q
    · obtain ⟨q1, q2⟩ := ht.erase_ne hw a1 q
      rcases h.pins g q1 with ⟨q3, _⟩ | q3
      · omega
      · exact q3
    · simp at q; subst q; exact ⟨by simp only; omega, rfl⟩
  · intro j hj hj2
    rw [r2]
    by_cases e : j = m
    · subst e; exact ⟨_, List.mem_append_right _ List.mem_cons_self, rfl⟩
    · obtain ⟨g, hg, e2⟩ := h.all j (by omega) id
      obtain ⟨k, hk⟩ := List.mem_iff_getElem?.1 hg
      refine ⟨g, List.mem_append_left _ (mem_erase.2 ⟨k, ?_, hk⟩), e2⟩
      rintro rfl
      rw [a1] at hk; cases hk; omega
theorem HeldP.pinB {p : Pl} {n : ByteArray} {m : Nat} (h : HeldP p n m (m + 1) ((m : Int) + 2) m vB (fun j => j = 2)) (hm : 8 ≤ m) : p.pin n 2 = (p, 0, 31) := by
  obtain ⟨pg, ht⟩ := h.told
  obtain ⟨q1, q2⟩ := h.full vB_ne
  exact ht.pin_full (k := 2) (Pl.find_none_of fun f hf _ e => by have := (h.pins f hf).1; omega) (by omega) q1 q2
theorem HeldP.unpinB {p : Pl} {n : ByteArray} {m : Nat} (h : HeldP p n m (m + 1) ((m : Int) + 2) m vB (fun j => j = 2)) (hw : p.WF) (hm : 8 ≤ m) : (p.unpin ((m : Int) + 1)).2 = 0 ∧ HeldP (p.unpin ((m : Int) + 1)).1 n m (m + 1) ((m : Int) + 2) m (vC m) (fun j => j = 2) := by
  obtain ⟨pg, ht⟩ := h.told
  obtain ⟨i, f, hf, e, hp⟩ := h.at (j := m) (by omega) (by omega)
  obtain ⟨u1, u2⟩ := ht.unpin hw (x := (m : Int) + 1) hf (by rw [hp.2]; simp)
  rw [u1] at u2 ⊢
  refine ⟨rfl, ⟨pg, u2⟩, h.next, by show (p.fs.modify i _).length = m; rw [List.length_modify]; exact h.size, h.most, fun g hg => ?_, fun j hj hj2 => ?_⟩
  · rcases ht.modify_ne hw hf hg with ⟨q1, q2⟩ | q
    · have := h.pins g q1
      exact ⟨this.1, .inr ⟨by omega, this.2⟩⟩
    · subst q; exact ⟨by show f.page ≠ 2; omega, .inl ⟨e, by show List.filter _ f.pins = []; rw [hp.2]; simp⟩⟩
  · exact modify_has hf rfl (h.all j hj hj2)
theorem HeldP.pinC {p : Pl} {n : ByteArray} {m : Nat} (h : HeldP p n m (m + 1) ((m : Int) + 2) m (vC m) (fun j => j = 2)) (hw : p.WF) (hm : 8 ≤ m) (hm2 : m ≤ 27) :
    (p.pin n 2).2 = ((m : Int) + 2, 0) ∧ HeldP (p.pin n 2).1 n m (m + 1) ((m : Int) + 3) m (vD m) (fun j => j = m) := by
  obtain ⟨pg, ht⟩ := h.told
  obtain ⟨im, fm, hfm, em, hpm⟩ := h.at (j := m) (by omega) (by omega)
  have hpm' : fm.pins = [] := by
    rcases hpm.2 with ⟨_, q⟩ | ⟨q, _⟩
    · exact q
    · exact absurd rfl q
  have hfull : ¬ p.fs.length < p.most := by rw [h.size, h.most]; omega
  have hex : ∃ g ∈ p.fs, g.pins = [] := ⟨fm, List.mem_of_getElem? hfm, hpm'⟩
  obtain ⟨i, f, pg1, a1, a2, a3, a4, a5⟩ := ht.make hw hfull (List.mem_of_getElem? hfm) hpm'
  have hfind : p.find n (2 : Nat) = none := Pl.find_none_of fun f hf _ e => by have := (h.pins f hf).1; omega
  obtain ⟨r1, r2, r3, r4, pg', r6⟩ := ht.pin_out hw (k := 2) hfind (by omega) (.inr hex)
  have hfp : f.page = m := by
    rcases (h.pins f (List.mem_of_getElem? a1)).2 with ⟨q, _⟩ | ⟨_, q⟩
    · exact q
    · rw [a2] at q; cases q
  rw [h.next] at r1 r2 r3
  rw [a4] at r2
  have hil := (List.getElem?_eq_some_iff.1 a1).1
  refine ⟨r1, ⟨pg', r6⟩, ?_, ?_, by rw [← h.most]; exact r4, ?_, ?_⟩
  · refine r3.trans ?_
    have : w64 ((m : Int) + 2 + 1) = (m : Int) + 2 + 1 := by unfold w64; exact wrap64 (by omega) (by omega)
    rw [this]; omega
  · refine (congrArg List.length r2).trans ?_
    simp only [List.length_append, List.length_singleton, List.length_eraseIdx_of_lt hil, h.size]
    omega
  · intro g hg
    have hg := r2 ▸ hg
    rcases List.mem_append.1 hg with q | q
    · obtain ⟨q1, q2⟩ := ht.erase_ne hw a1 q
      have hv := h.pins g q1
      rcases hv.2 with ⟨q3, _⟩ | q3
      · omega
      · exact ⟨by omega, .inr ⟨hv.1, q3.2⟩⟩
    · simp at q; subst q; exact ⟨by simp only; omega, .inl ⟨rfl, rfl⟩⟩
  · intro j hj hjm
    suffices hs : ∃ g ∈ p.fs.eraseIdx i ++ [(⟨n, 2, (pinT m 2).1, (pinT m 2).2, false, [(m : Int) + 2], 0⟩ : Fr)], g.page = j by
      obtain ⟨g, h1, h2⟩ := hs
      exact ⟨g, r2 ▸ h1, h2⟩
    by_cases e : j = 2
    · subst e; exact ⟨_, List.mem_append_right _ List.mem_cons_self, rfl⟩
    · obtain ⟨g, hg, e2⟩ := h.all j hj e
      obtain ⟨k, hk⟩ := List.mem_iff_getElem?.1 hg
      refine ⟨g, List.mem_append_left _ (mem_erase.2 ⟨k, ?_, hk⟩), e2⟩
      rintro rfl
      rw [a1] at hk; cases hk; omega
theorem HeldP.getD {p : Pl} {n : ByteArray} {m : Nat} (h : HeldP p n m (m + 1) ((m : Int) + 3) m (vD m) (fun j => j = m)) (hw : p.WF) (hm : 8 ≤ m) (hm2 : m ≤ 27) :
    p.get ((m : Int) + 2) = (2, [2], 0) ∧ (∀ j : Nat, j < m → j ≠ 2 → p.get ((j : Int) + 1) = (UInt8.ofNat j, [UInt8.ofNat j], 0)) ∧ p.dropF n = (p, 31) := by
  obtain ⟨pg, ht⟩ := h.told
  refine ⟨?_, fun j hj hj2 => ?_, ?_⟩
  · obtain ⟨i, f, hf, e, hp⟩ := h.at (j := 2) (by omega) (by omega)
    have hp' : f.pins = [(m : Int) + 2] := by
      rcases hp.2 with ⟨_, q⟩ | ⟨q, _⟩
      · exact q
      · exact absurd rfl q
    rw [ht.get hw (List.mem_of_getElem? hf) (x := (m : Int) + 2) (by rw [hp']; simp), e]
    unfold pinT; rw [if_neg (by omega)]; rfl
  · obtain ⟨i, f, hf, e, hp⟩ := h.at (j := j) (by omega) (by omega)
    have hp' : f.pins = [(j : Int) + 1] := by
      rcases hp.2 with ⟨q, _⟩ | ⟨_, q⟩
      · exact absurd q hj2
      · exact q
    rw [ht.get hw (List.mem_of_getElem? hf) (x := (j : Int) + 1) (by rw [hp']; simp), e]
    unfold pinT; rw [if_neg (by omega)]
  · obtain ⟨i, f, hf, e, hp⟩ := h.at (j := 2) (by omega) (by omega)
    have hp' : f.pins = [(m : Int) + 2] := by
      rcases hp.2 with ⟨_, q⟩ | ⟨q, _⟩
      · exact q
      · exact absurd rfl q
    unfold Pl.dropF
    rw [if_neg (by rw [ht.wrong]; simp), ht.disk.len]
    simp only
    rw [if_neg (by simp), if_pos]
    refine List.any_eq_true.2 ⟨f, List.mem_of_getElem? hf, ?_⟩
    rw [(ht.mine f (List.mem_of_getElem? hf)).1, hp']; simp

end Go.Proofs.YtbgpkpbejldlcaaGreatDoor

/-
  Pick: a number brought into a range.
-/
namespace Go.Proofs.YtbgpkpbejldlcaaGreatDoor

theorem PickN_ok {i n : Int} {H : Heap} {K : Int → Heap → Prop} (h2 : n ≤ 9223372036854775807)
    (hK : K (if n < 1 then 0 else i.emod n) H) : fathomkit_Pick.sp i n H K := by
  refine fathomkit_Pick.of ?_
  unfold fathomkit_Pick.vc
  refine br_mk (fun h => ?_) (fun h => ?_)
  · have : n < 1 := by simpa using h
    simpa [this] using hK
  · have hn : 1 ≤ n := by simpa using h
    refine ⟨by omega, ?_⟩
    rw [if_neg (by omega)] at hK
    refine br_mk (fun h => ?_) (fun h => ?_)
    · have hneg : i.tmod n < 0 := by simpa using h
      have e : i.emod n = i.tmod n + n := by
        rw [Int.tmod_eq_emod] at hneg ⊢
        split at hneg
        · have := Int.emod_nonneg i (show n ≠ 0 by omega)
          omega
        · rename_i h3
          rw [if_neg h3]
          have : (n.natAbs : Int) = n := by omega
          have e2 : i % n = i.emod n := rfl
          omega
      have hb1 : -n < i.tmod n := by
        rw [Int.tmod_eq_emod]
        have := Int.emod_nonneg i (show n ≠ 0 by omega)
        split <;> omega
      rw [wrap64 (by omega) (by omega), ← e]
      exact hK
    · have hpos : 0 ≤ i.tmod n := by simpa using h
      have e : i.emod n = i.tmod n := by
        rw [Int.tmod_eq_emod] at hpos ⊢
        split
        · simp; rfl
        · rename_i h3
          rw [if_neg h3] at hpos
          have := Int.emod_lt_of_pos i (show 0 < n by omega)
          have : (n.natAbs : Int) = n := by omega
          omega
      rw [← e]; exact hK

end Go.Proofs.YtbgpkpbejldlcaaGreatDoor

/-
  The pool's calls in a row: what a statement that makes them walks by; works.
-/
namespace Go.Proofs.YtbgpkpbejldlcaaGreatDoor
open Go.MapKept

/-- A pool that was made since 'H'. -/
def TP (H A : Heap) (p dp : Nat) (s : Pl) : Prop := Ext H A ∧ ∃ F, PoolAt F A p dp s ∧ ∀ b, F b → H.size ≤ b

variable {H A : Heap} {p dp : Nat} {s : Pl} {n : ByteArray}
theorem TP.ext {B : Heap} (t : TP H A p dp s) (e : Ext A B) : TP H B p dp s := by
  obtain ⟨h1, F, h2, h3⟩ := t
  exact ⟨h1.trans e, F, h2.ext e, h3⟩
theorem TP.gl (t : TP H A p dp s) (hg : Gl H) : Gl A := hg.mod t.1 id
theorem TP.wf (t : TP H A p dp s) : s.WF := by
  obtain ⟨h1, F, h2, h3⟩ := t; exact h2.wf
theorem TP.go (t : TP H A p dp s) : ∃ F, PoolAt F A p dp s ∧ ∀ (s' : Pl) (F' : Nat → Prop) (B : Heap), PoolAt F' B p dp s' → Step F F' A B → TP H B p dp s' := by
  obtain ⟨h1, F, h2, h3⟩ := t
  refine ⟨F, h2, fun s' F' B h4 S => ⟨⟨Nat.le_trans h1.size S.mod.size, fun b hb _ => (S.mod.same b (Nat.lt_of_lt_of_le hb h1.size) fun q => by have := h3 b q; omega).trans (h1.same b hb id)⟩, F', h4, fun b hb => ?_⟩⟩
  rcases S.own b hb with q | q
  · exact h3 b q
  · exact Nat.le_trans h1.size q
theorem TP.disk (t : TP H A p dp s) (hg : Gl H) : ∃ D, DiskAt D A dp s.d ∧ ∀ (d : Dk) (D' : Nat → Prop) (B : Heap), DiskAt D' B dp d → Step D D' A B → TP H B p dp (s.setD d) := by
  have hgA := t.gl hg
  obtain ⟨F, h1, h2⟩ := t.go
  obtain ⟨D, q1, q2, q3⟩ := h1.disk hgA
  refine ⟨D, q1, fun d D' B h4 S => ?_⟩
  obtain ⟨F', r1, r2⟩ := q3 D' B d h4 S
  exact h2 _ F' B r1 r2

theorem TP.fresh {K : (Int × Int × Int) → Heap → Prop} {r : Int × Int × Int} (t : TP H A p dp s) (hg : Gl H) (hn : n.size ≤ 9223372036854775807) (hl : s.d.logs < 68719470000) (hx : s.next < 9223372036854775807) (hf : s.Fit) (hr : (s.fresh n).2 = r)
    (hK : ∀ B, TP H B p dp (s.fresh n).1 → K r B) : pool_Pool_Fresh.sp (at0 p) n A K := by
  have hgA := t.gl hg
  obtain ⟨F, h1, h2⟩ := t.go
  refine Fresh_ok hgA h1 hn (by omega) hx hf fun F' B h3 S => ?_
  subst hr
  exact hK B (h2 _ F' B h3 S)
theorem TP.pin {K : (Int × Int) → Heap → Prop} {k : Int} {r : Int × Int} (t : TP H A p dp s) (hg : Gl H) (hn : n.size ≤ 9223372036854775807) (h0 : -9223372036854775808 ≤ k) (h1 : k ≤ 9223372036854775807) (hl : s.d.logs < 68719470000) (hx : s.next < 9223372036854775807) (hr : (s.pin n k).2 = r)
    (hK : ∀ B, TP H B p dp (s.pin n k).1 → K r B) : pool_Pool_Pin.sp (at0 p) n k A K := by
  have hgA := t.gl hg
  obtain ⟨F, h2, h3⟩ := t.go
  refine Pin_ok hgA h2 hn h0 h1 (by omega) hx fun F' B h4 S => ?_
  subst hr
  exact hK B (h3 _ F' B h4 S)
theorem TP.get {K : (Int × Sl × Int) → Heap → Prop} {k e : Int} {a : UInt8} {b : List UInt8} (t : TP H A p dp s) (hr : s.get k = (a, b, e))
    (hK : ∀ sl B, SlE EB ty_uint8 B sl b → TP H B p dp s → Ext A B → K ((a.toNat : Int), sl, e) B) : pool_Pool_Get.sp (at0 p) k A K := by
  have t0 := t
  obtain ⟨h1, F, h2, h3⟩ := t
  refine Get_ok h2 fun sl B o e1 f => ?_
  rw [hr] at o ⊢
  exact hK sl B o (t0.ext e1) e1
theorem TP.put {K : Int → Heap → Prop} {k e : Int} {kd : UInt8} {b : Sl} {l : List UInt8} (t : TP H A p dp s) (hg : Gl H) (hb : Byts A b l) (hr : (s.set k kd l).2 = e)
    (hK : ∀ B, TP H B p dp (s.set k kd l).1 → K e B) : pool_Pool_Put.sp (at0 p) k (kd.toNat : Int) b A K := by
  have hgA := t.gl hg
  obtain ⟨F, h2, h3⟩ := t.go
  refine Put_ok hgA h2 hb fun F' B h4 S => ?_
  rw [hr]
  exact hK B (h3 _ F' B h4 S)
theorem TP.unpin {K : Int → Heap → Prop} {k e : Int} (t : TP H A p dp s) (hg : Gl H) (hx : s.next < 9223372036854775807) (hr : (s.unpin k).2 = e)
    (hK : ∀ B, TP H B p dp (s.unpin k).1 → K e B) : pool_Pool_Unpin.sp (at0 p) k A K := by
  have hgA := t.gl hg
  obtain ⟨F, h2, h3⟩ := t.go
  refine Unpin_ok hgA h2 hx fun F' B h4 S => ?_
  rw [hr]
  exact hK B (h3 _ F' B h4 S)
theorem TP.flush {K : Int → Heap → Prop} {e : Int} (t : TP H A p dp s) (hg : Gl H) (hl : s.d.logs < 68719470000) (hr : (s.flush n).2 = e)
    (hK : ∀ B, TP H B p dp (s.flush n).1 → K e B) : pool_Pool_Flush.sp (at0 p) n A K := by
  have hgA := t.gl hg
  obtain ⟨F, h2, h3⟩ := t.go
  refine Flush_ok hgA h2 hl fun F' B h4 S => ?_
  rw [hr]
  exact hK B (h3 _ F' B h4 S)
theorem TP.new {D : Nat → Prop} {d : Dk} {m : Nat} {K : (Option Addr × Int) → Heap → Prop} (hg : Gl H) (e : Ext H A) (hd : DiskAt D A dp d) (hD : ∀ b, D b → H.size ≤ b) (h8 : 8 ≤ m) (hm : m ≤ 4096)
    (hK : ∀ p B, TP H B p dp (pl0 d m) → K (at0 p, 0) B) : pool_New.sp (at0 dp) (m : Int) A K := by
  refine PoolNew_ok (hg.mod e id) hd (fun q => by have := hD _ q; have := hg.lt; omega) h8 hm fun F p B h1 e1 f1 => ?_
  refine hK p B ⟨e.trans e1, F, h1, fun b hb => ?_⟩
  rcases f1 b hb with q | q
  · exact hD b q
  · exact Nat.le_trans e.size q

/-! ### A new disk of one file -/

def nmF : ByteArray := ByteArray.mk #[102]
theorem nmF_named : named nmF = true := by decide
theorem create_live {q : Int} (h0 : 0 ≤ q) (hq : q ≤ 1048576) {n : ByteArray} (hn : named n = true) : Live ((dk0 q).create n).1 n [] q.toNat ∧ ((dk0 q).create n).1.ops = 1 ∧ ((dk0 q).create n).2 = 0 ∧ ((dk0 q).create n).1.logs = 0 := by
  have e : (dk0 q).create n = ({ dk0 q with files := [⟨n, [], []⟩], ops := w64 (0 + 1) }, 0) := by
    unfold Dk.create
    rw [if_neg (by simp [dk0]), if_neg (by rw [hn]; simp), if_neg (by simp [dk0, Dk.idx]), if_neg (by simp [dk0])]
    rfl
  rw [e]
  refine ⟨⟨rfl, rfl, ⟨_, rfl, rfl, rfl⟩, ?_⟩, by show w64 (0 + 1) = 1; decide, rfl, rfl⟩
  show (min (max q 0) 1048576).toNat = q.toNat
  congr 1; omega
theorem pl0_told {d : Dk} {n : ByteArray} {q m : Nat} {T : Nat → UInt8 × List UInt8} (h : Live d n [] q) : Told (pl0 d m) n 0 q T [] :=
  ⟨rfl, h, rfl, by intro f hf; simp [pl0] at hf, by intro k b hk; simp at hk⟩

/-- One frame that is dirty is written, and no more. -/
theorem flush_one {p : Pl} {n : ByteArray} {N q : Nat} {T : Nat → UInt8 × List UInt8} {pg : List Pg} (h : Told p n N q T pg) (hw : p.WF) {f : Fr} (hf : p.fs = [f]) (hd : f.dirty = true) : (p.flush n).1.d.ops = w64 (w64 (p.d.ops + 1) + 1) := by
  have hi : p.fs[0]? = some f := by rw [hf]; rfl
  have hn := (h.mine f (by rw [hf]; simp)).1
  have epg : p.pagesOf n = [f.page] := by
    unfold Pl.pagesOf
    rw [hf]; simp [hn]
  have hfind : p.find n f.page = some 0 := by rw [← hn]; exact Pl.find_eq hw hi
  obtain ⟨w1, w2, w3, pg', w4⟩ := h.put hw hi
  have efl : Pl.flushL n (p.pagesOf n) p = ((p.put 0).1, 0) := by
    rw [epg]
    unfold Pl.flushL
    rw [hfind]
    simp only [Pl.frame_eq hi, hd]
    rw [if_pos trivial, if_pos w1]; rfl
  obtain ⟨s1, s2, s3, s4⟩ := w4.disk.sync
  have e : (p.flush n).1.d = ((p.put 0).1.d.sync n).1 := by
    unfold Pl.flush
    rw [if_neg (by rw [h.wrong]; simp), h.disk.len]
    simp only
    rw [if_neg (by simp), efl, if_neg (by simp), Pl.out_d]
    rfl
  rw [e, s3, w3]

end Go.Proofs.YtbgpkpbejldlcaaGreatDoor

/-
  The pool's statements: a step's bytes; a pool that is not there.
-/
namespace Go.Proofs.YtbgpkpbejldlcaaGreatDoor
open Go.MapKept

theorem ofNat_u8 {x : Int} (h : 0 ≤ x ∧ x < 256) : ((UInt8.ofNat x.toNat).toNat : Int) = x := by
  rw [UInt8.toNat_ofNat']; omega

/-- What a step puts. -/
def stepB (page fill : Int) : List UInt8 := List.replicate (page.emod 600).toNat (UInt8.ofNat fill.toNat)
theorem pPin_none {n : ByteArray} {k : Int} {H : Heap} {K : (Int × Int) → Heap → Prop} (hK : K (0, 1) H) : pool_Pool_Pin.sp none n k H K := by
  refine pool_Pool_Pin.of ?_
  unfold pool_Pool_Pin.vc
  exact ready_pool_none (br_t rfl hK)
theorem pFresh_none {n : ByteArray} {H : Heap} {K : (Int × Int × Int) → Heap → Prop} (hK : K (0, 0, 1) H) : pool_Pool_Fresh.sp none n H K := by
  refine pool_Pool_Fresh.of ?_
  unfold pool_Pool_Fresh.vc
  exact ready_pool_none (br_t rfl hK)
theorem pheld_none {k : Int} {H : Heap} {K : (Option Addr × Int) → Heap → Prop} (hK : K (none, 1) H) : pool_Pool_held.sp none k H K := by
  refine pool_Pool_held.of ?_
  unfold pool_Pool_held.vc
  exact ready_pool_none (br_t rfl hK)
theorem pGet_none {k : Int} {H : Heap} {K : (Int × Sl × Int) → Heap → Prop} (hK : K (0, Sl.mk none 0 0, 1) H) : pool_Pool_Get.sp none k H K := by
  refine pool_Pool_Get.of ?_
  unfold pool_Pool_Get.vc
  exact pheld_none (br_t rfl hK)
theorem pPut_none {k kd : Int} {b : Sl} {H : Heap} {K : Int → Heap → Prop} (hK : K 1 H) : pool_Pool_Put.sp none k kd b H K := by
  refine pool_Pool_Put.of ?_
  unfold pool_Pool_Put.vc
  exact pheld_none (br_t rfl hK)
theorem pUnpin_none {k : Int} {H : Heap} {K : Int → Heap → Prop} (hK : K 1 H) : pool_Pool_Unpin.sp none k H K := by
  refine pool_Pool_Unpin.of ?_
  unfold pool_Pool_Unpin.vc
  exact pheld_none (br_t rfl hK)
theorem pFlush_none {n : ByteArray} {H : Heap} {K : Int → Heap → Prop} (hK : K 1 H) : pool_Pool_Flush.sp none n H K := by
  refine pool_Pool_Flush.of ?_
  unfold pool_Pool_Flush.vc
  exact ready_pool_none (br_t rfl hK)
theorem pPinned_none {H : Heap} {K : Int → Heap → Prop} (hK : K 0 H) : pool_Pool_Pinned.sp none H K := by
  refine pool_Pool_Pinned.of ?_
  unfold pool_Pool_Pinned.vc
  exact br_f rfl hK
theorem pDisk_none {H : Heap} {K : Option Addr → Heap → Prop} (hK : K none H) : pool_Pool_Disk.sp none H K := by
  refine pool_Pool_Disk.of ?_
  unfold pool_Pool_Disk.vc
  exact br_t rfl hK

end Go.Proofs.YtbgpkpbejldlcaaGreatDoor

/-
  Runs: how a writer is made: the walk.
-/
namespace Go.Proofs.YtbgpkpbejldlcaaGreatDoor
open Go.MapKept

theorem zc_base : (zc Tryz.prog ty_runs_base).size = 6 := by kernel_rfl
theorem size_base : sizeB Tryz.prog ty_runs_base 6 = true := by kernel_rfl
/-- The first cells of what is begun. -/
def bgnV (pp : Option Addr) (n : ByteArray) (w : Int) : Array Value := #[.pointer pp, .string n, .int .i64 w, .int .i64 (roomL w), .int .i64 0, .bool false]
theorem bgnV_base (p : Nat) (n : ByteArray) (w : Int) : bgnV (at0 p) n w = (baseV p ⟨n, w, 0, false⟩ ++ []).toArray := rfl
theorem bgnV_one (pp : Option Addr) (n : ByteArray) (w : Int) : ∀ v ∈ (bgnV pp n w).toList, v.oneCell' = true := by
  intro v hv
  simp [bgnV] at hv
  rcases hv with rfl | rfl | rfl | rfl | rfl | rfl <;> rfl
theorem rbased_ok {pp : Option Addr} {n : ByteArray} {w : Int} {H : Heap} {K : ((Option Addr × ByteArray × Int × Int × Int × Bool) × Int) → Heap → Prop}
    {e : Int} (he : (if pp.isNone = true then 1 else if roomL w = 0 then 60 else 0) = e) (hK : ∀ H', Ext H H' → K ((pp, n, w, roomL w, 0, false), e) H') : runs_based.sp pp n w H K := by
  subst he
  refine runs_based.of ?_
  unfold runs_based.vc
  refine newC_rowT fun H1 z1 r1 e1 => ?_
  refine rowRoom_ok ?_
  refine newC_rowT fun H2 z2 r2 e2 => ?_
  refine RowT.stAll (cs := bgnV pp n w) r2 size_base zc_base (bgnV_one _ _ _) fun H3 r3 m3 z3 => ?_
  have e3 : Ext H H3 := ⟨by have := m3.size; omega, fun b hb _ => (m3.same b (by omega) (by intro q; have : b = H1.size := q; omega)).trans ((e2.same b (by omega) id).trans (e1.same b hb id))⟩
  have r13 : RowT H3 H.size ty_runs_base (zc Tryz.prog ty_runs_base) := (r1.ext e2).mod m3 (by intro q; have : H.size = H1.size := q; omega)
  have fin : ∀ e : Int, (∀ H', Ext H H' → K ((pp, n, w, roomL w, 0, false), e) H') → ldA (cAgg [cPtr, cStr, (cInt .i64), (cInt .i64), (cInt .i64), cBool]) 6 H3 ⟨H1.size, 0, none⟩ fun (x : (Option Addr × ByteArray × Int × Int × Int × Bool)) => doU Tryz.prog (Instr.storeAt ty_runs_base (.pointer (some ⟨H.size, 0, none⟩)) (.agg #[(.pointer x.1), (.string x.2.1), (.int .i64 x.2.2.1), (.int .i64 x.2.2.2.1), (.int .i64 x.2.2.2.2.1), (.bool x.2.2.2.2.2)])) H3 fun H6 => ldA (cAgg [cPtr, cStr, (cInt .i64), (cInt .i64), (cInt .i64), cBool]) 6 H6 ⟨H.size, 0, none⟩ fun (res : (Option Addr × ByteArray × Int × Int × Int × Bool)) => K ((res.1, res.2.1, res.2.2.1, res.2.2.2.1, res.2.2.2.2.1, res.2.2.2.2.2), e) H6 := by
    intro e hk
    refine RowT.ldA (x := (pp, n, w, roomL w, 0, false)) r3 rfl rfl ?_
    refine RowT.stAll (cs := bgnV pp n w) r13 size_base zc_base (bgnV_one _ _ _) fun H4 r4 m4 z4 => ?_
    refine RowT.ldA (x := (pp, n, w, roomL w, 0, false)) r4 rfl rfl ?_
    exact hk H4 ⟨by have := m4.size; have := e3.size; omega, fun b hb _ => (m4.same b (by have := e3.size; omega) (by intro q; have : b = H.size := q; omega)).trans (e3.same b hb id)⟩
  refine ⟨fun _ A => A = H3 ∧ pp.isNone = false ∧ ¬ roomL w = 0, ?_, ?_⟩
  · refine br_mk (fun hc => ?_) (fun hc => ?_)
    · rw [if_pos hc] at hK
      exact fin 1 hK
    · rw [if_neg (by rw [hc]; simp)] at hK
      refine RowT.ld (c := cInt .i64) (i := 3) (x := roomL w) r3 rfl ?_
      refine br_mk (fun hc2 => ?_) (fun hc2 => ?_)
      · rw [if_pos (by simpa using hc2)] at hK
        exact fin 60 hK
      · exact ⟨rfl, hc, by simpa using hc2⟩
  · rintro _ A ⟨rfl, h1, h2⟩
    rw [if_neg (by rw [h1]; simp), if_neg h2] at hK
    exact fin 0 hK

def nilS : Sl := Sl.mk none 0 0
theorem nilS_own (b : Nat) : ¬ ownB nilS b := by rintro ⟨ad, q, _⟩; cases q
theorem rmake_none {n : ByteArray} {w : Int} {H : Heap} {K : (Option Addr × Int) → Heap → Prop} (hK : ∀ H', Ext H H' → K (none, 1) H') : runs_Make.sp none n w H K := by
  refine runs_Make.of ?_
  unfold runs_Make.vc
  refine rbased_ok (e := 1) rfl fun H1 e1 => ?_
  refine newC_rowT fun H2 z2 r2 e2 => ?_
  refine RowT.stAll (cs := bgnV none n w) r2 size_base zc_base (bgnV_one _ _ _) fun H3 r3 m3 z3 => ?_
  have e3 : Ext H H3 := ⟨by have := m3.size; have := e1.size; omega, fun b hb _ => (m3.same b (by have := e1.size; omega) (by intro q; have : b = H1.size := q; have := e1.size; omega)).trans ((e2.same b (by have := e1.size; omega) id).trans (e1.same b hb id))⟩
  refine br_f rfl ?_
  refine ⟨fun e A => e = 1 ∧ A = H3, br_f rfl ⟨rfl, rfl⟩, ?_⟩
  rintro _ A ⟨rfl, rfl⟩
  exact br_t rfl (hK A e3)

variable {F : Nat → Prop} {H : Heap} {p dp : Nat} {s : Pl} {n : ByteArray} {W : Int} {K : (Option Addr × Int) → Heap → Prop}
theorem rmake_ok (hg : Gl H) (hp : PoolAt F H p dp s) (hn : n.size ≤ 9223372036854775807) (hlogs : s.d.logs < 68719470000) (hnx : s.next < 1099511627776) (h0 : 0 ≤ s.next) (hfit : s.Fit)
    (hK0 : ∀ F' H', PoolAt F' H' p dp (rnMake s n W).1 → Step F F' H H' → (rnMake s n W).2.1 = none → K (none, (rnMake s n W).2.2) H')
    (hK1 : ∀ F' H' k w, PoolAt F' H' p dp (rnMake s n W).1 → Step F F' H H' → (rnMake s n W).2.1 = some w → WrB H' k p w nilS nilS → H.size ≤ k → ¬ F' k → K (at0 k, (rnMake s n W).2.2) H') : runs_Make.sp (at0 p) n W H K := by
  refine runs_Make.of ?_
  unfold runs_Make.vc
  refine rbased_ok (e := if roomL W = 0 then 60 else 0) (if_neg (by unfold at0; simp)) fun H1 e1 => ?_
  refine newC_rowT fun H2 z2 r2 e2 => ?_
  refine RowT.stAll (cs := bgnV (at0 p) n W) r2 size_base zc_base (bgnV_one _ _ _) fun H3 r3 m3 z3 => ?_
  have e3 : Ext H H3 := ⟨by have := m3.size; have := e1.size; omega, fun b hb _ => (m3.same b (by have := e1.size; omega) (by intro q; have : b = H1.size := q; have := e1.size; omega)).trans ((e2.same b (by have := e1.size; omega) id).trans (e1.same b hb id))⟩
  have p3 := hp.ext e3
  have g3 : Gl H3 := hg.mod e3 id
  have S3 : Step F F H H3 := ⟨e3.mod, fun b q => .inl q⟩
  have z13 := e1.size
  have hk : ¬ F H1.size := fun q => by have := hp.lt _ q; omega
  by_cases hr : roomL W = 0
  · simp only [if_pos hr]
    have em : rnMake s n W = (s, none, 60) := if_pos hr
    rw [em] at hK0
    refine br_f rfl ?_
    refine ⟨fun e A => e = 60 ∧ A = H3, br_f rfl ⟨rfl, rfl⟩, ?_⟩
    rintro _ A ⟨rfl, rfl⟩
    exact br_t rfl (hK0 F A p3 S3 rfl)
  simp only [if_neg hr]
  refine br_t rfl ?_
  refine PDisk_ok p3 ?_
  obtain ⟨D, d1, _, d3⟩ := PoolAt.disk g3 p3
  refine Create_ok d1 fun D' H4 d4 S4 => ?_
  obtain ⟨F4, p4, T4⟩ := d3 D' H4 _ d4 S4
  have em : rnMake s n W = if (s.d.create n).2 ≠ 0 then (s.setD (s.d.create n).1, none, (s.d.create n).2)
      else if ((s.setD (s.d.create n).1).more n 0 []).2 ≠ 0 then (((s.setD (s.d.create n).1).more n 0 []).1, none, ((s.setD (s.d.create n).1).more n 0 []).2)
      else (((s.setD (s.d.create n).1).more n 0 []).1, some (rw0 n W), 0) := by unfold rnMake; rw [if_neg hr]
  have hl4 : (s.setD (s.d.create n).1).d.logs < 68719470000 := by have := s.d.create_logs n; show (s.d.create n).1.logs < _; omega
  have hf4 : (s.setD (s.d.create n).1).Fit := hfit.setD (s.d.create_grows n)
  have hn4 : (s.setD (s.d.create n).1).next = s.next := rfl
  generalize s.setD (s.d.create n).1 = s4 at *
  generalize (s.d.create n).2 = e4 at *
  have hk4 : ¬ F4 H1.size := fun q => by
    rcases T4.own _ q with r | r
    · exact hk r
    · omega
  have b4 : BRow H4 H1.size ty_runs_base p ⟨n, W, 0, false⟩ [] := (show BRow H3 H1.size ty_runs_base p ⟨n, W, 0, false⟩ [] from r3).mod T4.mod hk
  have T4' := S3.trans T4
  have g4 : Gl H4 := g3.mod T4.mod p3.glob
  obtain ⟨X, hX⟩ : ∃ X : Pl × Int, X = if e4 ≠ 0 then (s4, e4) else s4.more n 0 [] := ⟨_, rfl⟩
  have em' : rnMake s n W = if X.2 ≠ 0 then (X.1, none, X.2) else (X.1, some (rw0 n W), 0) := by
    rw [em, hX]
    by_cases q : e4 ≠ 0
    · rw [if_pos q, if_pos q, if_pos q]
    · rw [if_neg q, if_neg q]
  refine ⟨fun e A => e = X.2 ∧ ∃ F', PoolAt F' A p dp X.1 ∧ Step F F' H A ∧ BRow A H1.size ty_runs_base p ⟨n, W, 0, false⟩ [] , ?_, ?_⟩
  · refine br_mk (fun hc => ?_) (fun hc => ?_)
    · have q : ¬ e4 ≠ 0 := by simpa using hc
      rw [if_neg q] at hX
      refine rput_ok (kd := 0) (sl := Sl.mk none 0 0) (l := []) g4 b4 p4 hk4 ⟨rfl, Reads.nil _ _⟩ (by intro ad q; cases q) hn hl4 (by omega) (by omega) hf4 fun F5 H5 p5 S5 => ?_
      rw [hX]
      exact ⟨rfl, F5, p5, T4'.trans S5, b4.mod S5.mod hk4⟩
    · have q : e4 ≠ 0 := by simpa using hc
      rw [if_pos q] at hX
      rw [hX]
      exact ⟨rfl, F4, p4, T4', b4⟩
  rintro _ A ⟨rfl, F5, p5, S5, b5⟩
  rw [em'] at hK0 hK1
  refine br_mk (fun hc => ?_) (fun hc => ?_)
  · have q : X.2 ≠ 0 := by simpa using hc
    rw [if_pos q] at hK0
    exact hK0 F5 A p5 S5 rfl
  · have q : ¬ X.2 ≠ 0 := by simpa using hc
    rw [if_neg q] at hK1
    refine RowT.ldA (x := (at0 p, n, W, roomL W, 0, false)) b5 rfl rfl ?_
    refine newC_rowT fun H6 z6 r6 e6 => ?_
    have := S5.mod.size
    refine hK1 F5 H6 A.size (rw0 n W) (p5.ext e6) ⟨S5.mod.trans' e6 fun b _ q => q.elim, S5.own⟩ rfl ⟨r6, SlE.nil _ _ _, Owns.nil _ _ _ _⟩ (by omega) fun q => by have := p5.lt _ q; omega
end Go.Proofs.YtbgpkpbejldlcaaGreatDoor

/-
  Runs: a reader in memory; a page of rows looked at, a row told: the walk.
-/
namespace Go.Proofs.YtbgpkpbejldlcaaGreatDoor
open Go.MapKept

def pageI : Option Nat → Int
  | none => -1
  | some k => (k : Int)
/-- A reader in memory. -/
structure RdB (H : Heap) (k p : Nat) (r : RR) (si : Sl) (rs : List Sl) : Prop where
  row : BRow H k ty_runs_Reader p r.b [.int .i64 (r.rows : Int), .int .i64 (r.at_ : Int), .int .i64 (pageI r.page), si.v]
  ins : RowsOwn H 0 si rs r.ins
def rdO (k : Nat) (si : Sl) (rs : List Sl) (b : Nat) : Prop := b = k ∨ ownB si b ∨ ∃ x ∈ rs, ownB x b
section
variable {H : Heap} {k p : Nat} {r : RR} {si : Sl} {rs : List Sl}
theorem RdB.lt (h : RdB H k p r si rs) : ∀ b, rdO k si rs b → b < H.size := by
  rintro b (rfl | q | ⟨x, hx, q⟩)
  · exact obj_lt h.row
  · exact (h.ins.block.1 b q).2
  · exact (h.ins.block.2 x hx b q).2
theorem RdB.mod {G : Nat → Prop} {H' : Heap} (h : RdB H k p r si rs) (m : Mod G H H') (hn : ∀ b, rdO k si rs b → ¬ G b) : RdB H' k p r si rs :=
  ⟨h.row.mod m (hn k (.inl rfl)), h.ins.mod m (fun b hb => hn b (.inr (.inl hb))) fun x hx b hb => hn b (.inr (.inr ⟨x, hx, hb⟩))⟩
theorem RdB.offI (h : RdB H k p r si rs) : ¬ ownB si k := fun q => by
  obtain ⟨cur, hc⟩ := h.ins.out.obj k q
  exact absurd (cells_ty hc h.row) (by decide)
theorem RdB.offR (h : RdB H k p r si rs) : ∀ x ∈ rs, ¬ ownB x k := fun x hx q => by
  obtain ⟨l, hl⟩ := h.ins.rowAt hx
  obtain ⟨cur, hc⟩ := hl.obj k q
  exact absurd (cells_ty hc h.row) (by decide)
end

/-- A pool and a reader, since some heap. -/
structure RedB (H0 : Heap) (F0 O0 : Nat → Prop) (k p dp : Nat) (si : Sl) (rs : List Sl) (F : Nat → Prop) (A : Heap) (s : Pl) (r : RR) : Prop where
  pool : PoolAt F A p dp s
  rd : RdB A k p r si rs
  dis : ∀ b, F b → ¬ rdO k si rs b
  mod : Mod (fun b => F0 b ∨ b = k) H0 A
  own : ∀ b, F b → F0 b ∨ H0.size ≤ b
  own2 : ∀ b, rdO k si rs b → O0 b ∨ H0.size ≤ b

section
variable {H0 : Heap} {F0 O0 : Nat → Prop} {k p dp : Nat} {si : Sl} {rs : List Sl} {F : Nat → Prop} {A : Heap} {s : Pl} {r : RR}
theorem RedB.step {F' : Nat → Prop} {A' : Heap} {s' : Pl} (h : RedB H0 F0 O0 k p dp si rs F A s r) (hp : PoolAt F' A' p dp s') (S : Step F F' A A') : RedB H0 F0 O0 k p dp si rs F' A' s' r := by
  refine ⟨hp, h.rd.mod S.mod fun b hb q => h.dis b q hb, fun b hb q => ?_, h.mod.trans' S.mod fun b hb q => ?_, fun b hb => ?_, h.own2⟩
  · rcases S.own b hb with r | r
    · exact h.dis b r q
    · have := h.rd.lt b q; omega
  · rcases h.own b q with r | r
    · exact .inl r
    · omega
  · rcases S.own b hb with r | r
    · exact h.own b r
    · right; have := h.mod.size; omega
theorem RedB.ext {A' : Heap} (h : RedB H0 F0 O0 k p dp si rs F A s r) (e : Ext A A') : RedB H0 F0 O0 k p dp si rs F A' s r := h.step (h.pool.ext e) ⟨e.mod, fun _ q => .inl q⟩
theorem RedB.gl (h : RedB H0 F0 O0 k p dp si rs F A s r) (hg : Gl H0) (h1 : ¬ F0 gSteps) (h2 : gSteps ≠ k) : Gl A := hg.keep (h.mod.same _ hg.lt fun q => q.elim h1 h2)
/-- The reader's own cells are turned. -/
theorem RedB.turn {A' : Heap} {r' : RR} {si' : Sl} {rs' : List Sl} (h : RedB H0 F0 O0 k p dp si rs F A s r) (m : Mod (fun b => b = k) A A') (hr : RdB A' k p r' si' rs') (hs : ∀ b, rdO k si' rs' b → rdO k si rs b ∨ (H0.size ≤ b ∧ ¬ F b)) : RedB H0 F0 O0 k p dp si' rs' F A' s r' := by
  refine ⟨h.pool.keep fun b hb hl => m.same b hl fun q => h.dis b hb (.inl q), hr, fun b hb q => ?_, h.mod.trans' m fun b _ q => .inr q, h.own, fun b q => ?_⟩
  · rcases hs b q with u | u
    · exact h.dis b hb u
    · exact u.2 hb
  · rcases hs b q with u | u
    · exact h.own2 b u
    · exact .inr u.1
theorem RedB.broke {e : Int} {K : Int → Heap → Prop} (h : RedB H0 F0 O0 k p dp si rs F A s r) (hK : ∀ A', RedB H0 F0 O0 k p dp si rs F A' s { r with b := r.b.broke e } → A.size ≤ A'.size → K e A') : runs_base_broke.sp (at0 k) e A K := by
  refine rbroke_ok h.rd.row fun A' r' m' z' => hK A' (h.turn m' ⟨r', h.rd.ins.mod m' (fun b hb q => h.rd.offI (q ▸ hb)) fun x hx b hb q => h.rd.offR x hx (q ▸ hb)⟩ fun b q => .inl q) (Nat.le_of_eq z'.symm)

theorem getL_cols {b : List Int} {w : Int} : ∀ l ∈ getL b w, l.length ≤ 16 := by
  unfold getL
  split
  · rename_i h
    unfold getOK at h
    simp only [Bool.and_eq_true, decide_eq_true_eq] at h
    have hw : w ≤ 16 := by
      have h1 := h.1.1
      unfold sizeL at h1
      split at h1
      · exact absurd rfl h1
      · omega
    intro l hl
    obtain ⟨k, _, rfl⟩ := List.mem_map.1 hl
    rw [rowOf_length]; omega
  · simp
/-- What holds of a reader. -/
structure RR.Ok (r : RR) : Prop where
  room : 0 < r.b.room
  at_ : r.at_ ≤ r.rows
  page : ∀ j, r.page = some j → r.ins.length = min r.b.room (r.rows - j * r.b.room)
  rows : r.rows ≤ 528482304
  cols : ∀ l ∈ r.ins, l.length ≤ 16
theorem roomL_nat (b : Rb) : roomL b.width = (b.room : Int) ∧ b.room ≤ 504 := by
  unfold Rb.room
  have h := sizeL_cases b.width
  have h0 : 0 ≤ roomL b.width ∧ roomL b.width ≤ 504 := by
    unfold roomL
    split
    · omega
    · refine ⟨Int.tdiv_nonneg (by omega) (by omega), Int.tdiv_le_self _ (by omega)⟩
  omega
theorem Rb.broke_room (b : Rb) (e : Int) : (b.broke e).room = b.room ∧ (b.broke e).width = b.width ∧ (b.broke e).name = b.name := by
  unfold Rb.broke; split <;> exact ⟨rfl, rfl, rfl⟩
theorem RR.load_ok {j : Nat} (h : r.Ok) : (r.load s j).2.1.Ok ∧ (r.load s j).2.1.rows = r.rows ∧ (r.load s j).2.1.at_ = r.at_ ∧ (r.load s j).2.1.b.width = r.b.width ∧ (r.load s j).2.1.b.name = r.b.name ∧ ((r.load s j).2.2 = 0 → (r.load s j).2.1.b = r.b ∧ (r.load s j).2.1.page = some j) := by
  unfold RR.load
  split
  · rename_i hp
    exact ⟨h, rfl, rfl, rfl, rfl, fun _ => ⟨rfl, hp⟩⟩
  · split
    · rename_i _ he
      obtain ⟨b1, b2, b3⟩ := r.b.broke_room (s.look r.b.name ((j : Int) + 1)).2.2.2
      exact ⟨⟨by simp only [b1]; exact h.room, h.at_, by simp only [b1]; exact h.page, h.rows, h.cols⟩, rfl, rfl, b2, b3, fun q => absurd q he⟩
    · split
      · rename_i hf
        refine ⟨⟨h.room, h.at_, fun i hi => ?_, h.rows, getL_cols⟩, rfl, rfl, rfl, rfl, fun _ => ⟨rfl, rfl⟩⟩
        simp only at hi
        cases hi
        unfold RR.fits at hf
        simp only [Bool.and_eq_true, decide_eq_true_eq] at hf
        exact hf.2
      · obtain ⟨b1, b2, b3⟩ := r.b.broke_room 280
        exact ⟨⟨by simp only [b1]; exact h.room, h.at_, by simp only [b1]; exact h.page, h.rows, h.cols⟩, rfl, rfl, b2, b3, fun q => by simp at q⟩

set_option maxHeartbeats 1000000 in
/-- A page of rows is looked at. -/
theorem rload_ok {j : Nat} {K : Int → Heap → Prop} (hg : Gl H0) (hF0 : ¬ F0 gSteps) (hk0 : gSteps ≠ k) (h : RedB H0 F0 O0 k p dp si rs F A s r) (ok : r.Ok) (hj : j * r.b.room ≤ r.rows) (hj2 : j < 1099511627776)
    (hn : r.b.name.size ≤ 9223372036854775807) (hlogs : s.d.logs < 68719470000) (hnx : s.next < 1099511627776) (h0 : 0 ≤ s.next)
    (hK : ∀ F' si' rs' A', RedB H0 F0 O0 k p dp si' rs' F' A' (r.load s j).1 (r.load s j).2.1 → A.size ≤ A'.size → K (r.load s j).2.2 A') : runs_Reader_load.sp (at0 k) (j : Int) A K := by
  refine runs_Reader_load.of ?_
  unfold runs_Reader_load.vc
  unfold at0
  simp only [optK_eq]
  obtain ⟨rm1, rm2⟩ := roomL_nat r.b
  unfold RR.load at hK
  refine RowT.ld (c := cInt .i64) (i := 8) (x := pageI r.page) h.rd.row (BRow.tail (j := 2) rfl) ?_
  by_cases hp : r.page = some j
  · rw [if_pos hp] at hK
    refine br_t (by rw [hp]; simp [pageI]) ?_
    exact hK F si rs A h (Nat.le_refl _)
  rw [if_neg hp] at hK
  refine br_f ?_ ?_
  · cases e : r.page with
    | none => simp only [pageI, beq_eq_false_iff_ne, ne_eq]; omega
    | some i =>
      have : i ≠ j := fun q => hp (by rw [e, q])
      simp only [pageI, beq_eq_false_iff_ne, ne_eq]; omega
  rw [succ64 j (by omega)]
  refine rlook_ok (h.gl hg hF0 hk0) h.rd.row h.pool (fun q => h.dis k q (.inl rfl)) (by omega) hn hlogs hnx h0 fun F1 A1 sl p1 S1 o1 f1 hb1 => ?_
  have e1 : ((j + 1 : Nat) : Int) = (j : Int) + 1 := by omega
  rw [e1] at p1 o1 hb1 ⊢
  have B1 := h.step p1 S1
  generalize (s.look r.b.name ((j : Int) + 1)).1 = s1 at *
  generalize (s.look r.b.name ((j : Int) + 1)).2.1 = kd at *
  generalize (s.look r.b.name ((j : Int) + 1)).2.2.1 = b at *
  generalize (s.look r.b.name ((j : Int) + 1)).2.2.2 = e at *
  refine br_mk (fun hc => ?_) (fun hc => ?_)
  · have e0 : e ≠ 0 := by simpa using hc
    rw [if_pos e0] at hK
    exact B1.broke fun A2 B2 z2 => hK F1 si rs A2 B2 (Nat.le_trans S1.mod.size z2)
  have e0 : ¬ e ≠ 0 := by simpa using hc
  rw [if_neg e0] at hK
  refine RowT.ld (c := cInt .i64) (i := 2) (x := r.b.width) B1.rd.row (BRow.get 2 _ rfl) ?_
  refine rowGet_ok (b := u8i b) (SlB_byts o1) o1.cap (fun x hx => ?_) (by rw [u8i_length]; omega) fun sr rs2 A2 ro e2 => ?_
  · unfold u8i at hx
    obtain ⟨c, _, rfl⟩ := List.mem_map.1 hx
    have := c.toNat_lt; omega
  have B2 := B1.ext e2
  have hfit : r.fits j kd b = true ↔ (kd = 1 ∧ getE (u8i b) r.b.width = 0 ∧ (getL (u8i b) r.b.width).length = min r.b.room (r.rows - j * r.b.room)) := by
    unfold RR.fits getE
    simp only [Bool.and_eq_true, beq_iff_eq, decide_eq_true_eq]
    cases getOK (u8i b) r.b.width <;> simp
  refine br_mk (fun hc => ?_) (fun hc => ?_)
  · have hnf : ¬ r.fits j kd b = true := fun q => by
      obtain ⟨q1, q2, _⟩ := hfit.1 q
      rw [q2, q1] at hc
      simp at hc
    rw [if_neg hnf] at hK
    exact B2.broke fun A3 B3 z3 => hK F1 si rs A3 B3 (by have := S1.mod.size; have := e2.size; omega)
  have hkd : kd = 1 ∧ getE (u8i b) r.b.width = 0 := by
    simp only [Bool.or_eq_false_iff, bne_eq_false_iff_eq] at hc
    refine ⟨?_, hc.2⟩
    have : kd.toNat = 1 := by omega
    exact UInt8.toNat_inj.1 this
  refine RowT.ld (c := cInt .i64) (i := 3) (x := roomL r.b.width) B2.rd.row (BRow.get 3 _ rfl) ?_
  refine RowT.ld (c := cInt .i64) (i := 6) (x := (r.rows : Int)) B2.rd.row (BRow.tail (j := 0) rfl) ?_
  refine RowT.ld (c := cInt .i64) (i := 3) (x := roomL r.b.width) B2.rd.row (BRow.get 3 _ rfl) ?_
  have hjr : (j : Int) * (r.b.room : Int) = ((j * r.b.room : Nat) : Int) := by simp
  have hw1 : IntKind.i64.wrap ((j : Int) * roomL r.b.width) = ((j * r.b.room : Nat) : Int) := by
    rw [rm1, hjr]; have := ok.rows; exact wrap64 (by omega) (by omega)
  have hw2 : IntKind.i64.wrap ((r.rows : Int) - ((j * r.b.room : Nat) : Int)) = ((r.rows - j * r.b.room : Nat) : Int) := by
    have := ok.rows; rw [wrap64 (by omega) (by omega)]; omega
  rw [hw1, hw2, rm1, ro.n]
  have hmin : (if ((r.rows - j * r.b.room : Nat) : Int) < (r.b.room : Int) then ((r.rows - j * r.b.room : Nat) : Int) else (r.b.room : Int)) = ((min r.b.room (r.rows - j * r.b.room) : Nat) : Int) := by
    split <;> omega
  rw [hmin]
  refine br_mk (fun hc => ?_) (fun hc => ?_)
  · have hnf : ¬ r.fits j kd b = true := fun q => by
      obtain ⟨_, _, q3⟩ := hfit.1 q
      rw [q3] at hc
      simp at hc
    rw [if_neg hnf] at hK
    exact B2.broke fun A3 B3 z3 => hK F1 si rs A3 B3 (by have := S1.mod.size; have := e2.size; omega)
  have hln : ((getL (u8i b) r.b.width).length : Int) = ((min r.b.room (r.rows - j * r.b.room) : Nat) : Int) := by simpa only [bne_eq_false_iff_eq] using hc
  have hf : r.fits j kd b = true := hfit.2 ⟨hkd.1, hkd.2, Int.ofNat.inj hln⟩
  rw [if_pos hf] at hK
  refine RowT.st B2.rd.row (i := 8) (by simp [baseV]) rfl fun A3 r3 m3 z3 => ?_
  refine RowT.st r3 (i := 9) (by simp [baseV]) rfl fun A4 r4 m4 z4 => ?_
  have m24 := m3.trans m4
  have r4' : BRow A4 k ty_runs_Reader p r.b [.int .i64 (r.rows : Int), .int .i64 (r.at_ : Int), .int .i64 (pageI (some j)), sr.v] := by
    have e : ((baseV p r.b ++ [.int .i64 (r.rows : Int), .int .i64 (r.at_ : Int), .int .i64 (pageI r.page), si.v]).toArray.setIfInBounds 8 (.int .i64 (j : Int))).setIfInBounds 9 sr.v = (baseV p r.b ++ [.int .i64 (r.rows : Int), .int .i64 (r.at_ : Int), .int .i64 (pageI (some j)), sr.v]).toArray := by
      simp [baseV, pageI]
    rw [e] at r4; exact r4
  have hbl := ro.block
  have hk1 : k < A1.size := obj_lt B1.rd.row
  have hz1 := B1.mod.size
  have ro0 : RowsOwn A2 0 sr rs2 (getL (u8i b) r.b.width) := ⟨ro.out.base0, ro.len, fun i x l h1 h2 => (ro.row i x l h1 h2).base0, ro.apart⟩
  have rn : RdB A4 k p { r with page := some j, ins := getL (u8i b) r.b.width } sr rs2 :=
    ⟨r4', ro0.mod m24 (fun b hb q => by have := (hbl.1 b hb).1; omega) fun x hx b hb q => by have := (hbl.2 x hx b hb).1; omega⟩
  refine hK F1 sr rs2 A4 (B2.turn m24 rn fun b hb => ?_) (by have := S1.mod.size; have := e2.size; have := m24.size; omega)
  rcases hb with q | q | ⟨x, hx, q⟩
  · exact .inl (.inl q)
  · have := (hbl.1 b q).1
    exact .inr ⟨by omega, fun u => by have := p1.lt b u; omega⟩
  · have := (hbl.2 x hx b q).1
    exact .inr ⟨by omega, fun u => by have := p1.lt b u; omega⟩

/-- The rows are told one by one. -/
theorem rnext_ok {K : (Sl × Bool × Int) → Heap → Prop} (hg : Gl H0) (hF0 : ¬ F0 gSteps) (hk0 : gSteps ≠ k) (h : RedB H0 F0 O0 k p dp si rs F A s r) (ok : r.Ok)
    (hn : r.b.name.size ≤ 9223372036854775807) (hlogs : s.d.logs < 68719470000) (hnx : s.next < 1099511627776) (h0 : 0 ≤ s.next)
    (hK : ∀ F' si' rs' A' l, RedB H0 F0 O0 k p dp si' rs' F' A' (r.next s).1 (r.next s).2.1 → Owns A' 0 ty_uint64 1 l ((r.next s).2.2.1.map (Value.int .u64)) → (∀ b, ownB l b → A.size ≤ b ∧ ¬ F' b ∧ ¬ rdO k si' rs' b) → K (l, (r.next s).2.2.2.1, (r.next s).2.2.2.2) A') : runs_Reader_Next.sp (at0 k) A K := by
  refine runs_Reader_Next.of ?_
  unfold runs_Reader_Next.vc
  unfold at0
  refine br_f rfl ?_
  simp only [optK_eq]
  obtain ⟨rm1, rm2⟩ := roomL_nat r.b
  unfold RR.next at hK
  refine rready_ok h.rd.row ?_
  refine br_mk (fun hc => ?_) (fun hc => ?_)
  · have e0 : r.b.ready ≠ 0 := by simpa using hc
    rw [if_pos e0] at hK
    exact hK F si rs A _ h (Owns.nil _ _ _ _) (fun b q => absurd q (nilS_own b))
  have e0 : ¬ r.b.ready ≠ 0 := by simpa using hc
  have e0' : r.b.ready = 0 := by omega
  rw [if_neg e0] at hK
  refine RowT.ld (c := cInt .i64) (i := 7) (x := (r.at_ : Int)) h.rd.row (BRow.tail (j := 1) rfl) ?_
  refine RowT.ld (c := cInt .i64) (i := 6) (x := (r.rows : Int)) h.rd.row (BRow.tail (j := 0) rfl) ?_
  refine br_mk (fun hc => ?_) (fun hc => ?_)
  · have e1 : r.at_ = r.rows := by have : (r.at_ : Int) = (r.rows : Int) := by simpa using hc
                                   omega
    rw [if_pos e1] at hK
    rw [e0']
    exact hK F si rs A _ h (Owns.nil _ _ _ _) (fun b q => absurd q (nilS_own b))
  have e1 : ¬ r.at_ = r.rows := fun q => by rw [q] at hc; simp at hc
  rw [if_neg e1] at hK
  have hat : r.at_ < r.rows := by have := ok.at_; omega
  refine RowT.ld (c := cInt .i64) (i := 7) (x := (r.at_ : Int)) h.rd.row (BRow.tail (j := 1) rfl) ?_
  refine RowT.ld (c := cInt .i64) (i := 3) (x := roomL r.b.width) h.rd.row (BRow.get 3 _ rfl) ?_
  have hrm := ok.room
  have hrw := ok.rows
  rw [rm1]
  refine ⟨by omega, ?_⟩
  have hdiv : IntKind.i64.wrap (Int.tdiv (r.at_ : Int) (r.b.room : Int)) = ((r.at_ / r.b.room : Nat) : Int) := by
    have h1 : Int.tdiv (r.at_ : Int) (r.b.room : Int) = ((r.at_ / r.b.room : Nat) : Int) := rfl
    have h2 := Nat.div_le_self r.at_ r.b.room
    rw [h1]; generalize r.at_ / r.b.room = q at h2 ⊢; exact wrap64 (by omega) (by omega)
  rw [hdiv]
  have hq1 := Nat.div_mul_le_self r.at_ r.b.room
  have hq2 := Nat.div_le_self r.at_ r.b.room
  refine rload_ok hg hF0 hk0 h ok (by omega) (by omega) hn hlogs hnx h0 fun F1 si1 rs1 A1 B1 hz => ?_
  obtain ⟨k1, k2, k3, k4, _, k6⟩ := RR.load_ok (s := s) (j := r.at_ / r.b.room) ok
  generalize (r.load s (r.at_ / r.b.room)).1 = s1 at *
  generalize (r.load s (r.at_ / r.b.room)).2.1 = r1 at *
  generalize (r.load s (r.at_ / r.b.room)).2.2 = e2 at *
  refine br_mk (fun hc => ?_) (fun hc => ?_)
  · have e3 : e2 ≠ 0 := by simpa using hc
    rw [if_pos e3] at hK
    exact hK F1 si1 rs1 A1 _ B1 (Owns.nil _ _ _ _) (fun b q => absurd q (nilS_own b))
  have e3 : ¬ e2 ≠ 0 := by simpa using hc
  rw [if_neg e3] at hK
  obtain ⟨k7, k8⟩ := k6 (by omega)
  have hlen := k1.page _ k8
  rw [k7, k2] at hlen
  have hm := Nat.mod_lt r.at_ hrm
  have hdm := Nat.div_add_mod r.at_ r.b.room
  have hmc : r.b.room * (r.at_ / r.b.room) = r.at_ / r.b.room * r.b.room := Nat.mul_comm _ _
  have hin : r.at_ % r.b.room < r1.ins.length := by rw [hlen]; omega
  refine RowT.ld (c := cSl) (i := 9) (x := si1) B1.rd.row (BRow.tail (j := 3) rfl) ?_
  refine RowT.ld (c := cInt .i64) (i := 7) (x := (r1.at_ : Int)) B1.rd.row (BRow.tail (j := 1) rfl) ?_
  refine RowT.ld (c := cInt .i64) (i := 3) (x := roomL r1.b.width) B1.rd.row (BRow.get 3 _ rfl) ?_
  rw [k7, rm1, k3]
  refine ⟨by omega, ?_⟩
  have hmod : Int.tmod (r.at_ : Int) (r.b.room : Int) = ((r.at_ % r.b.room : Nat) : Int) := rfl
  rw [hmod]
  refine B1.rd.ins.rows.ld hin fun ad x ha hx => ?_
  have hcol := k1.cols _ (List.getElem_mem hin)
  refine CloneU_ok hx (by omega) fun l A2 o2 x2 f2 => ?_
  have B2 := B1.ext x2
  refine RowT.ld (c := cInt .i64) (i := 7) (x := (r1.at_ : Int)) B2.rd.row (BRow.tail (j := 1) rfl) ?_
  refine RowT.st B2.rd.row (i := 7) (by simp [baseV]) rfl fun A3 r3 m3 z3 => ?_
  rw [k3, succ64 r.at_ (by omega)] at r3
  have r3' : BRow A3 k ty_runs_Reader p r1.b [.int .i64 (r1.rows : Int), .int .i64 ((r.at_ + 1 : Nat) : Int), .int .i64 (pageI r1.page), si1.v] := by
    have e : (baseV p r1.b ++ [.int .i64 (r1.rows : Int), .int .i64 (r.at_ : Int), .int .i64 (pageI r1.page), si1.v]).toArray.setIfInBounds 7 (.int .i64 ((r.at_ + 1 : Nat) : Int)) = (baseV p r1.b ++ [.int .i64 (r1.rows : Int), .int .i64 ((r.at_ + 1 : Nat) : Int), .int .i64 (pageI r1.page), si1.v]).toArray := by
      simp [baseV]
    rw [e] at r3; exact r3
  have B3 : RedB H0 F0 O0 k p dp si1 rs1 F1 A3 s1 { r1 with at_ := r.at_ + 1 } := B2.turn m3 ⟨r3', B2.rd.ins.mod m3 (fun b hb q => B2.rd.offI (q ▸ hb)) fun x hx b hb q => B2.rd.offR x hx (q ▸ hb)⟩ fun b q => .inl q
  have hlt1 : ∀ b, rdO k si1 rs1 b → b < A1.size := B1.rd.lt
  have hk1 : k < A1.size := hlt1 k (.inl rfl)
  refine hK F1 si1 rs1 A3 l B3 ?_ fun b hb => ?_
  · have eg : r1.ins.getD (r.at_ % r.b.room) [] = r1.ins[r.at_ % r.b.room] := by rw [List.getD, List.getElem?_eq_getElem hin]; rfl
    rw [eg]
    exact o2.mod m3 fun b hb q => by have := f2 b hb; omega
  · have := f2 b hb
    exact ⟨by omega, fun q => by have := B1.pool.lt b q; omega, fun q => by have := hlt1 b q; omega⟩
end
end Go.Proofs.YtbgpkpbejldlcaaGreatDoor
