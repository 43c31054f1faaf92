/-
  The pool: a file's frames, rising: the values of a map, those that are wanted, sorted.
-/
import Derived.Lib.SliceRun
import Derived.Test.YtbhddkmfhampbaaGreatDoorJ32
import Derived.Test.YtbhddkmfhampbaaGreatDoorFxq
import Derived.Test.YtbhddkmfhampbaaGreatDoorLay
namespace Go.Proofs.YtbhddkmfhampbaaGreatDoor
open Go.MapKept

/-- Pointers to blocks. -/
def EPtr : Enc Nat := ⟨1, fun p => [ptrV p], fun _ => rfl, fun x u hu => by simp at hu; subst hu; rfl⟩
theorem EPtr_all (l : List Nat) : EPtr.all l = l.map ptrV := by
  induction l with
  | nil => rfl
  | cons x l ih =>
    have : EPtr.all (x :: l) = ptrV x :: EPtr.all l := rfl
    rw [this, ih]; rfl
theorem elPtr : ElT Tryz.prog ty_sl_ptr_pool_frame ty_ptr_pool_frame EPtr.size 8 := ElT_of (by kernel_rfl)
def pOf (e : MapEntry) : Nat := match e.val with | .pointer (some a) => a.block | _ => 0

theorem ValuesIter_ok {l cap : Nat} {x : PG} {H : Heap} {K : Unit → Heap → Prop} (I : List MapEntry → Heap → Prop) (hF : FramesAt H x) (hcap : RowT H cap ty_maparr_pool_spot_ptr_pool_frame #[.map (some x.mf)])
    (h0 : ∀ A, Mod (fun _ => False) H A → I [] A) (hfr : ∀ l A A', I l A → Mod (fun b => b = H.size) A A' → A'.size = A.size → I l A')
    (hs : ∀ ls e q A, I ls A → e ∈ x.ef.toList → e.val = ptrV q → (∀ y ∈ ls, y ∈ x.ef.toList) → ls.Nodup → e ∉ ls → A[x.mf]? = some (.map x.ef x.cf) → H.size < A.size → YieldSpec Tryz.prog l #[ptrV q] A fun b A' => b = true ∧ I (ls ++ [e]) A' ∧ A'[x.mf]? = A[x.mf]? ∧ A'[H.size]? = A[H.size]?)
    (hfin : ∀ ls A, I ls A → ls.Perm x.ef.toList → K () A) : maps_Values_map_pool_spot_ptr_pool_frame_pool_spot_ptr_pool_frame_c1.sp l ⟨cap, 0, none⟩ H K := by
  refine maps_Values_map_pool_spot_ptr_pool_frame_pool_spot_ptr_pool_frame_c1.of ?_
  unfold maps_Values_map_pool_spot_ptr_pool_frame_pool_spot_ptr_pool_frame_c1.vc
  have := hcap.ld (c := cMap) (i := 0) (x := some x.mf) rfl (K := fun x => doT cPtr Tryz.prog (Instr.range ty_maparr_pool_spot_ptr_pool_frame (.map x)) H fun (it : Option Addr) H1 => LoopVC Unit () H1 fun next _ H2 => doT cNext Tryz.prog (Instr.next (.pointer it) false ty_) H2 fun (nx : Bool × List Value) H3 => br nx.1 (doT cTwo Tryz.prog (Instr.entry (.pointer it)) H3 fun (en : Value × Value) H4 => asT cPtr en.2 fun (v : Option Addr) => YieldSpec Tryz.prog l #[(.pointer v)] H4 fun (b : Bool) H5 => br (!b) (K () H5) (next () H5)) (K () H3))
  refine this ?_
  obtain ⟨et, inf, hu, _, _⟩ := mapSpot
  refine doT_rangeW hu hF.fmap fun H1 hit e1 => ?_
  have hit1 : H.size < H1.size := obj_lt hit
  have hF1 : FramesAt H1 x := hF.keep fun b _ hl => e1.same b hl id
  refine map_rangeW (it := H.size) (fun ls _ A => I ls A ∧ H.size < A.size) hF1.fmap hit ⟨h0 H1 e1, hit1⟩ (fun l x A A' h m s => ⟨hfr l A A' h.1 m s, by omega⟩) ?_ (fun ls x A h hp _ => hfin ls A h.1 hp)
  rintro ls e ⟨⟩ A next ⟨hI, hlt⟩ he hel hsub hnd hr hito hnext
  obtain ⟨z, hz, _, hv⟩ := hF.entry he
  refine ⟨at0 z.2.p, by rw [hv]; rfl, ?_⟩
  refine (hs ls e z.2.p A hI he hv hsub hnd hel hr hlt).mono fun b A' hb => ?_
  obtain ⟨rfl, h1, h2, h3⟩ := hb
  refine br_f rfl (hnext () A' ⟨h1, ?_⟩ h2 h3)
  obtain ⟨o, ho⟩ := hito
  rw [← h3] at ho
  exact obj_lt ho

theorem AppendValues_ok {cap : Nat} {x : PG} {H : Heap} {K : Sl → Heap → Prop} (hF : FramesAt H x) (hcap : RowT H cap ty_maparr_pool_spot_ptr_pool_frame #[.map (some x.mf)]) (hlen : x.ef.size ≤ 1048576)
    (hK : ∀ (s : Sl) (ls : List MapEntry) (H' : Heap), SlE EPtr ty_ptr_pool_frame H' s (ls.map pOf) → ls.Perm x.ef.toList → Mod (fun _ => False) H H' → (∀ b, ownB s b → H.size ≤ b) → K s H') :
    slices_AppendSeq_sl_ptr_pool_frame_ptr_pool_frame.sp (Sl.mk none 0 0) (.func (.func maps_Values_map_pool_spot_ptr_pool_frame_pool_spot_ptr_pool_frame_c1.no) #[] #[(.pointer (some ⟨cap, 0, none⟩))]) H K := by
  refine slices_AppendSeq_sl_ptr_pool_frame_ptr_pool_frame.of ?_
  unfold slices_AppendSeq_sl_ptr_pool_frame_ptr_pool_frame.vc
  refine newC_rowT fun H1 s1 r1 m1 => ?_
  have hcallable : callable Tryz.prog maps_Values_map_pool_spot_ptr_pool_frame_pool_spot_ptr_pool_frame_c1.no = true := by kernel_rfl
  refine ⟨_, _, rfl, hcallable, fun rec hround => ?_⟩
  obtain ⟨r, hr⟩ : ∃ r, r = H1.size := ⟨_, rfl⟩
  obtain ⟨l, hl⟩ : ∃ l, l = H1.size + 1 := ⟨_, rfl⟩
  obtain ⟨p, hp⟩ : ∃ p, p = H.size := ⟨_, rfl⟩
  rw [← hl] at hround ⊢
  rw [← hr]
  rw [← hp] at r1
  rw [← hp] at hround
  rw [← hp]
  obtain ⟨HB, hHB⟩ : ∃ HB : Heap, HB = (H1.push (.deferred (some []))).push (.loop (rec .ready none)) := ⟨_, rfl⟩
  rw [← hHB]
  have eB : Mod (fun _ => False) H1 HB := by rw [hHB]; exact (Mod.push _ _ _).trans (Mod.push _ _ _)
  have sB : HB.size = H1.size + 2 := by rw [hHB]; simp
  have lB : HB[l]? = some (.loop (rec .ready none)) := by rw [hHB, hl, Array.getElem?_push, if_pos (by simp)]
  have rB : HB[r]? = some (.deferred (some [])) := by rw [hHB, hr]; simp [Array.getElem?_push]
  have pB : RowT HB p ty_sl_ptr_pool_frame #[(Sl.mk none 0 0).v] := r1.ext eB
  have FB : FramesAt HB x := (hF.keep fun b _ hl => m1.same b hl id).keep fun b _ hl => eB.same b hl id
  have cB : RowT HB cap ty_maparr_pool_spot_ptr_pool_frame #[.map (some x.mf)] := (hcap.ext m1).ext eB
  have hml := hF.fmap.lt
  have hcl : cap < H.size := obj_lt hcap
  let I : List MapEntry → Heap → Prop := fun ls A => A[l]? = some (.loop (rec .ready none)) ∧ A[r]? = some (.deferred (some [])) ∧ (∃ s, RowT A p ty_sl_ptr_pool_frame #[s.v] ∧ SlE EPtr ty_ptr_pool_frame A s (ls.map pOf) ∧ (∀ b, ownB s b → HB.size < b)) ∧ Mod (fun b => b = p ∨ b = l ∨ b = HB.size) HB A
  refine Spec.mono (R := fun v H' => ∃ x : Unit, v = (cTup []).enc x ∧ rangeK l rec H' _ _ _) (ValuesIter_ok (l := l) (cap := cap) (x := x) (H := HB) (K := fun _ H' => rangeK l rec H' _ _ _) I FB cB ?_ ?_ ?_ ?_) (fun v H' ⟨x, _, h⟩ => h)
  · intro A hA
    exact ⟨hA.at lB id, hA.at rB id, ⟨_, pB.ext hA, SlE.nil _ _ _, by rintro b ⟨ad, q, _⟩; cases q⟩, Ext.mod hA⟩
  · rintro ls A A' ⟨i1, i2, ⟨s, i3, i4, i5⟩, i6⟩ hA hs
    refine ⟨hA.at i1 (by omega), hA.at i2 (by omega), ⟨s, i3.mod hA (by omega), i4.keep fun b hb hbl => hA.same b hbl (by have := i5 b hb; omega), i5⟩, i6.trans (hA.mono fun b _ e => .inr (.inr e))⟩
  · rintro ls e q A ⟨i1, i2, ⟨s, i3, i4, i5⟩, i6⟩ he hv hsub hnd hel hmA hAl
    refine hround [ptrV q] A _ i1 ?_
    show onSome (some (at0 q)) _
    refine ⟨i1, ?_⟩
    obtain ⟨Ab, hAb⟩ : ∃ Ab : Heap, Ab = A.setIfInBounds l (.loop (rec .busy none)) := ⟨_, rfl⟩
    rw [← hAb]
    have mAb : Mod (fun b => b = l) A Ab := by rw [hAb]; exact Mod.setObj rfl
    have sAb : Ab.size = A.size := by rw [hAb]; simp
    have lAb : Ab[l]? = some (.loop (rec .busy none)) := by rw [hAb]; exact setObj_at i1
    have hpl : p ≠ l := by omega
    have p1 := i3.mod mAb hpl
    refine p1.ld (c := cSl) (i := 0) (x := s) rfl ?_
    have tl : ∀ b, ownB s b → b ≠ l := fun b hb => by have := i5 b hb; omega
    have o1 : SlE EPtr ty_ptr_pool_frame Ab s (ls.map pOf) := i4.keep fun b hb hbl => mAb.same b hbl (tl b hb)
    have hln : (ls.map pOf).length ≤ 1048576 := by
      have := List.Nodup.length_le_of_subset hnd (l₂ := x.ef.toList) (fun y hy => hsub y hy)
      simp at this ⊢; omega
    have hne : pOf e = q := by unfold pOf; rw [hv]; rfl
    refine SlE.push (E := EPtr) elPtr (x := q) o1 rfl (by omega) (by omega) fun s2 A2 o2 g2 _ => ?_
    have lp : p < Ab.size := obj_lt p1
    have tp : ∀ b, ownB s b → b ≠ p := fun b hb => by have := i5 b hb; omega
    have p2 : RowT A2 p ty_sl_ptr_pool_frame #[s.v] := p1.mod g2.1 (fun hb => tp _ hb rfl)
    have i6s := i6.size
    have t2 : ∀ b, ownB s2 b → HB.size < b := fun b hb => by
      rcases g2.2 b hb with q | q
      · exact i5 b q
      · omega
    have p2st := p2.st (i := 0) (v := s2.v) (by simp) rfl (K := fun H5 => H5[l]? = some (.loop (rec .busy none)) ∧ (fun b A' => b = true ∧ I (ls ++ [e]) A' ∧ A'[x.mf]? = A[x.mf]? ∧ A'[HB.size]? = A[HB.size]?) true (H5.setIfInBounds l (.loop (rec .ready none))))
    rw [show (Addr.add ⟨p, 0, none⟩ 0) = ⟨p, 0, none⟩ from rfl] at p2st
    refine p2st fun A3 p3 m3 s3 => ?_
    have l2 : A2[l]? = some (.loop (rec .busy none)) := g2.1.at lAb (fun hb => tl _ hb rfl)
    have l3 : A3[l]? = some (.loop (rec .busy none)) := m3.at l2 (by omega)
    have m4 : Mod (fun b => b = l) A3 (A3.setIfInBounds l (.loop (rec .ready none))) := Mod.setObj rfl
    have z2 := g2.1.size
    refine ⟨l3, rfl, ⟨setObj_at l3, ?_, ⟨s2, ?_, ?_, t2⟩, ?_⟩, ?_, ?_⟩
    · exact m4.at (m3.at (g2.1.at (mAb.at i2 (by omega)) (fun hb => by have := i5 _ hb; omega)) (by omega)) (by omega)
    · exact RowT.mod (show RowT A3 p ty_sl_ptr_pool_frame #[s2.v] from p3) m4 hpl
    · rw [List.map_append, List.map_cons, List.map_nil, hne]
      refine o2.keep fun b hb hbl => ?_
      have := t2 b hb
      exact (m4.same b (by omega) (by omega)).trans (m3.same b hbl (by omega))
    · refine i6.trans' (G := fun b => (b = l ∨ ownB s b) ∨ b = p) ?_ ?_
      · exact (((mAb.mono fun b _ e => .inl (.inl e)).trans (g2.1.mono fun b _ e => .inl (.inr e))).trans (m3.mono fun b _ e => .inr e)).trans (m4.mono fun b _ e => .inl (.inl e))
      · rintro b hb ((e | e) | e)
        · exact .inr (.inl e)
        · have := i5 b e; omega
        · exact .inl e
    · have hmAl := obj_lt hmA
      exact (m4.same _ (by omega) (by omega)).trans ((m3.same _ (by omega) (by omega)).trans ((g2.1.same _ (by omega) (fun hb => by have := i5 _ hb; omega)).trans (mAb.same _ hmAl (by omega))))
    · exact (m4.same _ (by omega) (by omega)).trans ((m3.same _ (by omega) (by omega)).trans ((g2.1.same _ (by omega) (fun hb => by have := i5 _ hb; omega)).trans (mAb.same _ (by omega) (by omega))))
  · rintro ls A ⟨i1, i2, ⟨s, i3, i4, i5⟩, i6⟩ hperm
    refine ⟨.ready, none, i1, rfl, ?_⟩
    show ld cSl _ _ _
    have m4 : Mod (fun b => b = l) A (A.setIfInBounds l (.loop (rec .exhausted none))) := Mod.setObj rfl
    have p4 := i3.mod m4 (by omega)
    refine p4.ld (c := cSl) (i := 0) (x := s) rfl ?_
    have r4 := m4.at i2 (by omega)
    refine ⟨r4, ?_⟩
    have m5 : Mod (fun b => b = r) (A.setIfInBounds l (.loop (rec .exhausted none))) ((A.setIfInBounds l (.loop (rec .exhausted none))).setIfInBounds r (.deferred none)) := Mod.setObj rfl
    have z6 := i6.size
    have z4 := m4.size
    refine hK s ls _ ?_ hperm ?_ (fun b hb => by have := i5 b hb; omega)
    · refine i4.keep fun b hb hbl => ?_
      have := i5 b hb
      exact (m5.same b (by omega) (by omega)).trans (m4.same b hbl (by omega))
    · have z5 := m5.size
      refine ⟨by omega, fun b hb _ => (m5.same b (by omega) (by omega)).trans ((m4.same b (by omega) (by omega)).trans ((i6.same b (by omega) (by omega)).trans ((eB.same b (by omega) id).trans (m1.same b hb id))))⟩

/-! ### Those that are wanted -/

/-- A pointer out of a slice of them. -/
theorem ptr_ld {H : Heap} {s : Sl} {ps : List Nat} (h : SlE EPtr ty_ptr_pool_frame H s ps) {i : Nat} {q : Nat} (hi : ps[i]? = some q) {z : Int} (hz : z = (i : Int)) {K : Addr → Option Addr → Prop} (hK : ∀ ad, s.a = some ad → K ad (at0 q)) :
    optK s.a fun a => (0 ≤ z ∧ z < (s.n : Int)) ∧ ld cPtr H (a.add (z.toNat * 1)) fun v => K a v := by
  subst hz
  have hil := (List.getElem?_eq_some_iff.1 hi).1
  have hn := h.n (by decide)
  obtain ⟨ad, ha⟩ := RdE.addr h.rd (by decide) (by omega)
  refine optK_mk ad ha ⟨⟨by omega, by omega⟩, ?_⟩
  have := RdE.ld (E := EPtr) (c := cPtr) (y := at0 q) h.rd ha hi (j := 0) rfl (n := i * 1) rfl (hK ad ha)
  rw [show (Addr.add (Addr.add ad (i * 1)) 0) = Addr.add ad (i * 1) from rfl] at this
  rw [Int.toNat_natCast]; exact this

/-- The frames behind pointers, of which some are a file's. -/
structure Kept (H : Heap) (cap : Nat) (n : ByteArray) (ps : List Nat) (sel : Nat → Bool) : Prop where
  cap : RowT H cap ty_string #[.string n]
  fr : ∀ q ∈ ps, ∃ g f, FrAt H g f ∧ g.p = q ∧ sel q = (f.name.toList == n.toList)
theorem of1_ok {H : Heap} {cap q : Nat} {n : ByteArray} {ps : List Nat} {sel : Nat → Bool} {K : Bool → Heap → Prop} (h : Kept H cap n ps sel) (hq : q ∈ ps) (hK : K (!sel q) H) : pool_Pool_of_c1.sp (at0 q) ⟨cap, 0, none⟩ H K := by
  refine pool_Pool_of_c1.of ?_
  unfold pool_Pool_of_c1.vc
  simp only [optK_eq, add_add, Nat.reduceAdd]
  obtain ⟨g, f, hA, rfl, hs⟩ := h.fr q hq
  refine hA.row.ld (c := cStr) (i := 0) (x := f.name) rfl ?_
  have := h.cap.ld (c := cStr) (i := 0) (x := n) rfl (K := fun (x_1 : ByteArray) => K (!(f.name.toList == x_1.toList)) H)
  rw [show (Addr.add ⟨cap, 0, none⟩ 0) = ⟨cap, 0, none⟩ from rfl] at this
  refine this ?_
  rw [← hs]; exact hK

theorem IndexOf_ok {H : Heap} {cap : Nat} {n : ByteArray} {s : Sl} {ps : List Nat} {sel : Nat → Bool} {K : Int → Heap → Prop} (h : SlE EPtr ty_ptr_pool_frame H s ps) (hk : Kept H cap n ps sel) (hl : ps.length ≤ 1048576)
    (hN : ps.filter sel = ps → K (-1) H) (hF : ∀ i, i < ps.length → (ps.take i).filter sel = ps.take i → (∃ q, ps[i]? = some q ∧ sel q = false) → K (i : Int) H) : slices_IndexFunc_sl_ptr_pool_frame_ptr_pool_frame_v2.sp s ⟨cap, 0, none⟩ H K := by
  refine slices_IndexFunc_sl_ptr_pool_frame_ptr_pool_frame_v2.of ?_
  unfold slices_IndexFunc_sl_ptr_pool_frame_ptr_pool_frame_v2.vc
  have hn := h.n (by decide)
  refine loop_upto ps.length (fun k x H1 => H = H1 ∧ x = (k : Int) ∧ (ps.take k).filter sel = ps.take k) ⟨rfl, rfl, by simp⟩ ?_
  rintro k _ _ next hk' ⟨rfl, rfl, hf⟩ hnext
  refine br_mk (fun hc => ?_) (fun hc => ?_)
  · have hlt : k < ps.length := by rw [hn] at hc; simpa using hc
    have hq : ps[k]? = some ps[k] := List.getElem?_eq_getElem hlt
    refine ptr_ld h hq rfl fun ad ha => ?_
    refine of1_ok hk (List.getElem_mem hlt) ?_
    cases hs : sel ps[k] with
    | false => exact br_t rfl (hF k hlt hf ⟨_, hq, hs⟩)
    | true =>
      refine br_f rfl (hnext hlt _ _ ⟨rfl, succ64 k (by omega), ?_⟩)
      rw [List.take_succ_eq_append_getElem hlt, List.filter_append, hf]
      simp [hs]
  · have hge : k = ps.length := by rw [hn] at hc; simp at hc; omega
    rw [hge, List.take_of_length_le (Nat.le_refl _)] at hf
    exact hN hf

theorem setCells_row {P : Program} {w : World} {g o : Nat} {t : TypeId} {vs : List Value} {cur : Array Value} (hg : w.heap[g]? = some (.cells cur t (0, 0))) (hfit : o + vs.length ≤ cur.size) (h1 : ∀ v ∈ vs, v.oneCell' = true) :
    w.setCells g o vs = w.setRow g (cur.toList.take o ++ vs ++ cur.toList.drop (o + vs.length)).toArray := by
  have a := run_storeCells_cells (P := P) g o vs 0 w (fun j hj => by simp [World.cell?, hg]; omega) (fun j hj => by simp [World.frozen?, hg]) h1
  have b := run_storeCells_at P g o t vs 0 cur w hg (by simpa using hfit) h1
  simp only [Nat.add_zero] at a b
  rw [a] at b
  simpa using b
theorem zeroPtr : ∀ w : World, (zeroValue ty_ptr_pool_frame).run Tryz.prog w = .ok (.pointer none) w := Tryz.zeroValue78
theorem elPtrI : Tryz.prog.underlying ty_sl_ptr_pool_frame = some (.slice ty_ptr_pool_frame) := by kernel_rfl
/-- The end of a slice is cleared; what is left is cut. -/
theorem doT_clear {H : Heap} {s : Sl} {ps : List Nat} {lo : Nat} {ty : TypeId} {K : Value → Heap → Prop} (h : SlE EPtr ty_ptr_pool_frame H s ps) (hlo : lo < ps.length)
    (hK : ∀ v H', SlE EPtr ty_ptr_pool_frame H' (Sl.mk s.a lo s.c) (ps.take lo) → Mod (ownB s) H H' → K v H') :
    doT cRaw Tryz.prog (Builtin.clear_ #[ty_sl_ptr_pool_frame] ty #[(.slice (slA s.a s.c lo 1) (s.n - lo) (s.c - lo))]) H K := by
  intro w hw
  subst hw
  have hn := h.n (by decide)
  rcases h.2 with ⟨e1, e2⟩ | ⟨g, cap, cur, e1, hb, hg, h4, h5, h6, h7⟩
  · omega
  · cases s with
    | mk sa sn sc =>
    simp only [Sl.v, Value.slice.injEq] at e1
    obtain ⟨rfl, _, rfl⟩ := e1
    simp only at hn h4 h7 hK ⊢
    have hE1 : EPtr.size = 1 := rfl
    rw [hE1, Nat.mul_one] at h6 h7
    have ea : slA (some ⟨g, 0, none⟩) sc lo 1 = some ⟨g, lo, none⟩ := by
      unfold slA
      rw [if_neg (by omega)]
      simp [add_lit0]
    rw [ea]
    have hr := Lib.run_clear_slice (P := Tryz.prog) w ty_sl_ptr_pool_frame ty_ptr_pool_frame ty (.pointer none) elPtrI zeroPtr rfl rfl g lo (sn - lo) (sc - lo) (by omega) (fun j hj => by simp [World.cell?, hg]; omega) (fun j hj => by simp [World.frozen?, hg])
    rw [setCells_row (P := Tryz.prog) hg (by simp; omega) (by intro v hv; rw [List.eq_of_mem_replicate hv]; rfl)] at hr
    have hown : ∀ k, ownB (Sl.mk (some ⟨g, 0, none⟩) sn sc) k ↔ k = g := fun k => ⟨fun ⟨ad, h1, h2⟩ => by cases h1; exact h2.symm, fun h => ⟨_, rfl, h.symm⟩⟩
    refine ⟨_, _, hr, ⟨_, rfl, hK _ _ ?_ ⟨by simp [World.setRow], fun k _ hk => setRow_other w g k _ (fun e => hk ((hown k).2 e))⟩⟩, ⟨rfl, Nat.le_refl _⟩⟩
    refine ⟨by rw [EPtr_all]; simp [hE1]; omega, .inr ⟨g, sc, _, rfl, Nat.zero_le _, setRow_heap w g cur _ _ _ hg, by simp only; omega, h5, ?_, ?_⟩⟩
    · simp only [hE1, Nat.mul_one, List.size_toArray, List.length_append, List.length_take, List.length_replicate, List.length_drop, Array.length_toList]
      omega
    · simp only [hE1, Nat.mul_one]
      rw [List.append_assoc, List.take_append_of_le_length (by simp; omega), List.take_take, Nat.min_self]
      have e1 : EPtr.all (ps.take lo) = (EPtr.all ps).take lo := by rw [EPtr_all, EPtr_all, List.map_take]
      rw [e1, ← h7, List.take_take, Nat.min_eq_left (by omega)]

theorem Delete_ok {H : Heap} {cap : Nat} {n : ByteArray} {s : Sl} {ps : List Nat} {sel : Nat → Bool} {K : Sl → Heap → Prop} (h : SlE EPtr ty_ptr_pool_frame H s ps) (hk : Kept H cap n ps sel) (hl : ps.length ≤ 1048576) (hcap : ∀ b, ownB s b → b ≠ cap)
    (hK : ∀ s' H', SlE EPtr ty_ptr_pool_frame H' s' (ps.filter sel) → Mod (ownB s) H H' → (∀ b, ownB s' b → ownB s b) → K s' H') : slices_DeleteFunc_sl_ptr_pool_frame_ptr_pool_frame.sp s ⟨cap, 0, none⟩ H K := by
  refine slices_DeleteFunc_sl_ptr_pool_frame_ptr_pool_frame.of ?_
  unfold slices_DeleteFunc_sl_ptr_pool_frame_ptr_pool_frame.vc
  have hn := h.n (by decide)
  have hcp := Owns.cap h
  refine IndexOf_ok h hk hl (fun hall => br_t rfl (hK s H (by rw [hall]; exact h) (.refl _ _) fun _ q => q)) (fun i hi hpre hno => ?_)
  refine br_f (by simp) ?_
  -- the frames' own blocks are not the slice's
  have hsep : ∀ q ∈ ps, ¬ ownB s q := by
    intro q hq hb
    obtain ⟨c, e⟩ := h.obj q hb
    obtain ⟨g, f, hA, rfl, _⟩ := hk.fr q hq
    exact absurd (cells_ty hA.row e) (by decide)
  have keepK : ∀ {A : Heap}, Mod (ownB s) H A → (∀ q ∈ ps, ∃ g f, FrAt H g f ∧ g.p = q ∧ sel q = (f.name.toList == n.toList)) → Kept A cap n ps sel := by
    intro A hM _
    refine ⟨hM.at hk.cap fun q => hcap cap q rfl, fun q hq => ?_⟩
    obtain ⟨g, f, hA, e1, e2⟩ := hk.fr q hq
    refine ⟨g, f, hA.keep fun b hb hl => hM.same b hl fun q2 => ?_, e1, e2⟩
    obtain ⟨c, e⟩ := h.obj b q2
    obtain ⟨cs, t, e3, ht⟩ := hA.obj b hb
    have := cells_ty e e3
    rw [← this] at ht
    exact absurd ht (by decide)
  obtain ⟨q0, hq0, hs0⟩ := hno
  have hw0 : IntKind.i64.wrap ((i : Int) + 1) = ((i + 1 : Nat) : Int) := succ64 i (by omega)
  rw [hw0]
  refine ⟨Nat × Nat × List Nat, fun t z A => z = ((t.1 : Int), (t.2.1 : Int)) ∧ SlE EPtr ty_ptr_pool_frame A s t.2.2 ∧ t.2.2.length = ps.length ∧ t.2.2.take t.1 = (ps.take t.2.1).filter sel ∧ t.2.2.drop t.2.1 = ps.drop t.2.1 ∧ t.1 < t.2.1 ∧ t.2.1 ≤ ps.length ∧ Mod (ownB s) H A, fun t => ps.length - t.2.1, ⟨(i, i + 1, ps), rfl, h, rfl, ?_, rfl, Nat.lt_succ_self _, hi, .refl _ _⟩, ?_⟩
  · show ps.take i = (ps.take (i + 1)).filter sel
    have hq : ps[i] = q0 := by rw [List.getElem?_eq_getElem hi] at hq0; exact Option.some.inj hq0
    rw [List.take_succ_eq_append_getElem hi, List.filter_append, hpre, hq]
    simp [hs0]
  · rintro ⟨a, j, cur⟩ z A ⟨rfl, o, hlen, htk, hdr, haj, hj, hM⟩
    simp only at o hlen htk hdr haj hj ⊢
    have hkA := keepK hM hk.fr
    refine br_mk (fun hc => ?_) (fun hc => ?_)
    · have hjl : j < ps.length := by rw [hn] at hc; simp at hc; omega
      have hcj : cur[j]? = some ps[j] := by
        have e1 : (cur.drop j)[0]? = (ps.drop j)[0]? := by rw [hdr]
        rw [List.getElem?_drop, List.getElem?_drop, Nat.add_zero, List.getElem?_eq_getElem hjl] at e1
        exact e1
      refine ptr_ld o hcj rfl fun ad ha => ?_
      refine of1_ok hkA (List.getElem_mem hjl) ?_
      have hwj : IntKind.i64.wrap ((j : Int) + 1) = ((j + 1 : Nat) : Int) := succ64 j (by omega)
      have hdr' : ∀ l : List Nat, l.drop j = ps.drop j → l.drop (j + 1) = ps.drop (j + 1) := by
        intro l e
        have : (l.drop j).drop 1 = (ps.drop j).drop 1 := by rw [e]
        rwa [List.drop_drop, List.drop_drop] at this
      cases hs : sel ps[j] with
      | false =>
        refine br_f rfl ⟨(a, j + 1, cur), ⟨by rw [hwj], o, hlen, ?_, hdr' cur hdr, by simp only; omega, hjl, hM⟩, by simp only; omega⟩
        simp only
        rw [List.take_succ_eq_append_getElem hjl, List.filter_append, htk]
        simp [hs]
      | true =>
        refine br_t rfl ?_
        rw [ha]
        refine ⟨⟨by omega, by omega⟩, ?_⟩
        have hal : a < cur.length := by omega
        have hca : cur[a]? = some cur[a] := List.getElem?_eq_getElem hal
        rw [Int.toNat_natCast]
        show st A (Addr.add (Addr.add ad (a * 1)) 0) (ptrV ps[j]) _
        refine SlE.st (i := a) (j := 0) (x := cur[a]) (y := ps[j]) o ha hca (by decide) rfl rfl rfl fun A' o' m' z' => ?_
        have hwa : IntKind.i64.wrap ((a : Int) + 1) = ((a + 1 : Nat) : Int) := succ64 a (by omega)
        refine ⟨(a + 1, j + 1, cur.set a ps[j]), ⟨by rw [hwa, hwj], o', by simp [hlen], ?_, ?_, by simp only; omega, hjl, hM.trans m'⟩, by simp only; omega⟩
        · simp only
          rw [List.take_succ_eq_append_getElem hjl, List.filter_append, ← htk, List.take_succ_eq_append_getElem (by simp; omega), List.take_set_of_le (Nat.le_refl _)]
          simp [hs]
        · simp only
          rw [List.drop_set_of_lt (by omega)]
          exact hdr' cur hdr
    · have hje : j = ps.length := by rw [hn] at hc; simp at hc; omega
      subst hje
      rw [List.take_of_length_le (Nat.le_refl _)] at htk
      refine ⟨⟨by omega, by omega⟩, ?_⟩
      rw [Int.toNat_natCast]
      refine doT_clear o (by omega) fun v A' o' m' => ⟨⟨by omega, by omega⟩, ?_⟩
      rw [slA_zero, Nat.sub_zero, Nat.sub_zero]
      rw [htk] at o'
      exact hK _ A' o' (hM.trans m') fun b q => q

end Go.Proofs.YtbhddkmfhampbaaGreatDoor

/-
  The pool: a file's frames, rising; Flush and Drop.
-/
namespace Go.Proofs.YtbhddkmfhampbaaGreatDoor
open Go.MapKept Go.Shelf Go.Sort

/-- A file's frames, rising. -/
def PG.of (x : PG) (n : ByteArray) : List FZ := (x.zs.filter fun z => z.1.name.toList == n.toList).mergeSort fun a b => decide (a.1.page ≤ b.1.page)
theorem PG.of_mem {x : PG} {n : ByteArray} {z : FZ} : z ∈ x.of n ↔ z ∈ x.zs ∧ z.1.name = n := by
  unfold PG.of
  rw [List.mem_mergeSort, List.mem_filter]
  constructor
  · rintro ⟨h1, h2⟩; exact ⟨h1, ba_eq (by simpa using h2)⟩
  · rintro ⟨h1, h2⟩; exact ⟨h1, by rw [h2]; simp⟩
theorem nat_sorted_eq {l r : List Nat} (h : l.Perm r) (hl : l.Pairwise (· ≤ ·)) (hr : r.Pairwise (· ≤ ·)) : l = r :=
  List.Perm.eq_of_pairwise (le := (· ≤ ·)) (fun a b _ _ h1 h2 => Nat.le_antisymm h1 h2) hl hr h
theorem PG.of_sorted (x : PG) (n : ByteArray) : (x.of n).Pairwise fun a b => a.1.page ≤ b.1.page := by
  unfold PG.of
  have := List.pairwise_mergeSort (le := fun a b : FZ => decide (a.1.page ≤ b.1.page)) (fun _ _ _ h1 h2 => by simp at *; omega) (fun _ _ => by simp; omega) (x.zs.filter fun z => z.1.name.toList == n.toList)
  exact this.imp fun h => by simpa using h
theorem PG.of_pages {x : PG} {s : Pl} (h : s.fs = x.fs) (n : ByteArray) : (x.of n).map (fun z => z.1.page) = s.pagesOf n := by
  refine nat_sorted_eq ?_ ?_ ?_
  · unfold Pl.pagesOf PG.of
    rw [h]
    unfold PG.fs
    refine ((List.mergeSort_perm _ _).map _).trans (List.Perm.trans ?_ (List.mergeSort_perm _ _).symm)
    rw [List.filter_map, List.map_map]
    exact List.Perm.refl _
  · rw [List.pairwise_map]; exact x.of_sorted n
  · unfold Pl.pagesOf
    have := List.pairwise_mergeSort (le := fun a b : Nat => decide (a ≤ b)) (fun _ _ _ h1 h2 => by simp at *; omega) (fun _ _ => by simp; omega) ((s.fs.filter fun f => f.name.toList == n.toList).map (·.page))
    exact this.imp fun h => by simpa using h

theorem nodup_of_map {α β : Type} (f : α → β) {l : List α} (h : (l.map f).Nodup) : l.Nodup := by
  unfold List.Nodup at *
  rw [List.pairwise_map] at h
  exact h.imp fun hne e => hne (by rw [e])
theorem lift_list {α β : Type} {f : α → β} : ∀ {l : List β}, (∀ b ∈ l, ∃ a, f a = b) → ∃ r : List α, r.map f = l
  | [], _ => ⟨[], rfl⟩
  | b :: l, h => by
    obtain ⟨a, ha⟩ := h b List.mem_cons_self
    obtain ⟨r, hr⟩ := lift_list (l := l) fun c hc => h c (List.mem_cons_of_mem _ hc)
    exact ⟨a :: r, by rw [List.map_cons, ha, hr]⟩

theorem of2_spec {H : Heap} {za zb : FZ} (ha : FrAt H za.2 za.1) (hb : FrAt H zb.2 zb.1) (h1 : za.1.page < 1048577) (h2 : zb.1.page < 1048577) :
    Spec Tryz.prog pool_Pool_of_c2.no #[ptrV za.2.p, ptrV zb.2.p] H fun v H' => v = .int .i64 ((za.1.page : Int) - (zb.1.page : Int)) ∧ Mod (fun _ => False) H H' := by
  have := pool_Pool_of_c2.of (a := at0 za.2.p) (b := at0 zb.2.p) (H := H) (R := fun r H' => r = (za.1.page : Int) - (zb.1.page : Int) ∧ Mod (fun _ => False) H H') (by
    unfold pool_Pool_of_c2.vc
    simp only [optK_eq, add_add, Nat.reduceAdd]
    refine ha.row.ld (c := cInt .i64) (i := 1) (x := (za.1.page : Int)) rfl ?_
    refine hb.row.ld (c := cInt .i64) (i := 1) (x := (zb.1.page : Int)) rfl ?_
    exact ⟨wrap64 (by omega) (by omega), .refl _ _⟩)
  refine Spec.mono this fun v H' ⟨x, hx, h3, h4⟩ => ?_
  subst hx
  exact ⟨by rw [h3], h4⟩

theorem of_enters : ∀ args w, (callFunc pool_Pool_of_c2.no args).run Tryz.prog w = .ok (.enter pool_Pool_of_c2.no args) w := enters_of Tryz.func107 (by kernel_rfl) rfl

theorem of_ok {x : PG} {H : Heap} {p dp : Nat} {s : Pl} {n : ByteArray} {K : Sl → Heap → Prop} (h : PoolG x H p dp s)
    (hK : ∀ sl H', SlE EPtr ty_ptr_pool_frame H' sl ((x.of n).map fun z => z.2.p) → Ext H H' → (∀ b, ownB sl b → H.size ≤ b) → K sl H') : pool_Pool_of.sp (at0 p) n H K := by
  refine pool_Pool_of.of ?_
  unfold pool_Pool_of.vc
  simp only [optK_eq]
  refine newC_rowT fun H1 s1 r1 e1 => ?_
  have h1 : PoolG x H1 p dp s := h.keep fun b _ hl => e1.same b hl id
  refine h1.head.ld (c := cMap) (i := 2) (x := some x.mf) rfl ?_
  refine maps_Values_map_pool_spot_ptr_pool_frame_pool_spot_ptr_pool_frame.of ?_
  unfold maps_Values_map_pool_spot_ptr_pool_frame_pool_spot_ptr_pool_frame.vc
  refine newC_rowT fun H2 s2 r2 e2 => ?_
  refine slices_Collect_ptr_pool_frame.of ?_
  unfold slices_Collect_ptr_pool_frame.vc
  have F2 : FramesAt H2 x := h1.frames.keep fun b _ hl => e2.same b hl id
  have hlen := h.wf.len
  have hmost := h.wf.most
  have hsz := h.n
  refine AppendValues_ok F2 r2 (by omega) fun sl ls H3 o3 hp3 e3 f3 => ?_
  have hF3 : FramesAt H3 x := F2.keep fun b _ hl => e3.same b hl id
  have z1 := e1.size
  have z2 := e2.size
  have z3 := e3.size
  -- the pointers that were met are the frames'
  have hperm : (ls.map pOf).Perm (x.zs.map fun z => z.2.p) := by
    have q1 := (hp3.map fun e => (e.key, e.val)).trans h.perm
    have q2 := q1.map fun kv : Value × Value => (match kv.2 with | .pointer (some a) => a.block | _ => 0)
    rw [List.map_map] at q2
    refine List.Perm.trans (List.Perm.of_eq ?_) (q2.trans (List.Perm.of_eq ?_))
    · exact List.map_congr_left fun e _ => rfl
    · unfold kvF; rw [List.map_map]; exact List.map_congr_left fun z _ => rfl
  have hat : ∀ q ∈ ls.map pOf, ∃ z ∈ x.zs, z.2.p = q := by
    intro q hq
    obtain ⟨z, hz, e⟩ := List.mem_map.1 (hperm.mem_iff.1 hq)
    exact ⟨z, hz, e⟩
  let sel : Nat → Bool := fun q => x.zs.any fun z => z.2.p == q && z.1.name.toList == n.toList
  have hsel : ∀ z ∈ x.zs, sel z.2.p = (z.1.name.toList == n.toList) := by
    intro z hz
    cases hq : z.1.name.toList == n.toList with
    | true => exact List.any_eq_true.2 ⟨z, hz, by simp [hq]⟩
    | false =>
      refine List.any_eq_false.2 fun y hy => ?_
      intro q
      simp only [Bool.and_eq_true, beq_iff_eq] at q
      have := h.frames.ptr hy hz q.1
      subst this
      rw [q.2] at hq; simp at hq
  have hll : (ls.map pOf).length ≤ 1048576 := by
    rw [hperm.length_eq, List.length_map]
    have := h.frames.size; omega
  have hk3 : Kept H3 H.size n (ls.map pOf) sel := by
    refine ⟨e3.at (e2.at r1 id) id, fun q hq => ?_⟩
    obtain ⟨z, hz, e⟩ := hat q hq
    exact ⟨z.2, z.1, hF3.each z hz, e, by rw [← e]; exact hsel z hz⟩
  refine Delete_ok o3 hk3 hll (fun b hb e => by have := f3 b hb; omega) fun s4 H4 o4 m4 w4 => ?_
  -- sorted
  have m4' : Ext H3 H4 ∨ True := .inr trivial
  have hF4 : FramesAt H4 x := hF3.keep fun b hb hl => m4.same b hl fun q => by
    have := f3 b q
    have := h.frames.lt b hb; omega
  have hperm4 : ((ls.map pOf).filter sel).Perm ((x.of n).map fun z => z.2.p) := by
    refine (hperm.filter sel).trans ?_
    rw [List.filter_map]
    refine List.Perm.map _ (List.Perm.trans (List.Perm.of_eq ?_) (List.mergeSort_perm _ _).symm)
    refine List.filter_congr fun z hz => ?_
    exact hsel z hz
  have fresh4 : ∀ b, ownB s4 b → H.size ≤ b := fun b hb => by have := f3 b (w4 b hb); omega
  have e4 : Ext H H4 := ⟨by have := m4.size; omega, fun b hb _ => (m4.same b (by omega) (fun q => by have := f3 b q; omega)).trans ((e3.same b (by omega) id).trans ((e2.same b (by omega) id).trans (e1.same b hb id)))⟩
  by_cases hnil : (x.of n) = []
  · -- none
    have hl0 : (ls.map pOf).filter sel = [] := by
      have := hperm4.length_eq
      rw [hnil] at this
      exact List.eq_nil_of_length_eq_zero (by simpa using this)
    rw [hl0] at o4
    have hn0 := o4.n (by decide)
    intro w hw
    subst hw
    have hc := AnyF.slices_SortFunc_none (P := Tryz.prog) (ρ := sortFr_ren) { sortFr with } s4.a s4.c (.func (.func pool_Pool_of_c2.no) #[] #[]) w
    have e0 : s4.v = .slice s4.a 0 s4.c := by
      cases s4; simp only [Sl.v] at hn0 ⊢; rw [hn0]; rfl
    rw [e0]
    refine hc.mono fun e w' ⟨he, hw'⟩ => ?_
    subst hw'
    refine ⟨_, he, ⟨(), rfl, hK s4 _ ?_ e4 fresh4⟩, .refl _⟩
    rw [hnil]; exact o4
  · obtain ⟨z0, hz0⟩ := List.exists_mem_of_ne_nil _ hnil
    obtain ⟨la, hla⟩ := lift_list (f := fun a : { z : FZ // z ∈ x.zs ∧ z.1.name = n } => a.1.2.p) (l := (ls.map pOf).filter sel) (fun q hq => by
      obtain ⟨z, hz, e⟩ := List.mem_map.1 (hperm4.mem_iff.1 hq)
      exact ⟨⟨z, PG.of_mem.1 hz⟩, e⟩)
    haveI : Inhabited { z : FZ // z ∈ x.zs ∧ z.1.name = n } := ⟨⟨z0, PG.of_mem.1 hz0⟩⟩
    let E : Enc { z : FZ // z ∈ x.zs ∧ z.1.name = n } := ⟨1, fun a => [ptrV a.1.2.p], fun _ => rfl, fun x u hu => by simp at hu; subst hu; rfl⟩
    have hEall : ∀ l : List { z : FZ // z ∈ x.zs ∧ z.1.name = n }, E.all l = EPtr.all (l.map fun a => a.1.2.p) := by
      intro l
      induction l with
      | nil => rfl
      | cons a l ih =>
        have q1 : E.all (a :: l) = ptrV a.1.2.p :: E.all l := rfl
        have q2 : EPtr.all ((a :: l).map fun a => a.1.2.p) = ptrV a.1.2.p :: EPtr.all (l.map fun a => a.1.2.p) := rfl
        rw [q1, q2, ih]
    have oE : ∀ {A : Heap} {l : List { z : FZ // z ∈ x.zs ∧ z.1.name = n }}, SlE E ty_ptr_pool_frame A s4 l ↔ SlE EPtr ty_ptr_pool_frame A s4 (l.map fun a => a.1.2.p) := by
      intro A l
      unfold SlE
      rw [hEall]
      exact Iff.rfl
    have o4' : SlE E ty_ptr_pool_frame H4 s4 la := by rw [oE, hla]; exact o4
    have hpg : ∀ a : { z : FZ // z ∈ x.zs ∧ z.1.name = n }, a.1.1.page < 1048577 := fun a => (h.wf.pages a.1.1 (by rw [h.fs]; exact List.mem_map.2 ⟨a.1, a.2.1, rfl⟩)).1
    let cf : { z : FZ // z ∈ x.zs ∧ z.1.name = n } → { z : FZ // z ∈ x.zs ∧ z.1.name = n } → Int := fun a b => (a.1.1.page : Int) - (b.1.1.page : Int)
    have hlt : ∀ a b, ltOf cf a b = decide (a.1.1.page < b.1.1.page) := by
      intro a b
      show decide ((a.1.1.page : Int) - (b.1.1.page : Int) < 0) = _
      rw [decide_eq_decide]; omega
    have hO : SWO (ltOf cf) := ⟨fun a => by rw [hlt]; simp, fun a b c h1 h2 => by rw [hlt] at *; simp at *; omega, fun a b c h1 h2 => by rw [hlt] at *; simp at *; omega⟩
    have hT : ∀ a b, (ltOf cf) a b = false → (ltOf cf) b a = false → a = b := by
      intro a b h1 h2
      rw [hlt] at h1 h2
      simp at h1 h2
      apply Subtype.ext
      obtain ⟨i, hi⟩ := List.mem_iff_getElem?.1 a.2.1
      obtain ⟨j, hj⟩ := List.mem_iff_getElem?.1 b.2.1
      have hk := h.wf.keys
      have := key_inj (p := s) hk (i := i) (j := j) (f := a.1.1) (g := b.1.1) (by rw [h.fs]; simp [PG.fs, hi]) (by rw [h.fs]; simp [PG.fs, hj]) (by rw [a.2.2, b.2.2]) (by omega)
      subst this
      rw [hi] at hj; exact Option.some.inj hj
    have hlal : la.length < 4611686018427387904 := by
      have : la.length = ((ls.map pOf).filter sel).length := by rw [← hla, List.length_map]
      have h2 := List.length_filter_le sel (ls.map pOf)
      omega
    refine sortFunc_spec (ρ := sortFr_ren) (E := E) (e := fun a => ptrV a.1.2.p) sortFr (fun _ => rfl) rfl hO hT of_enters o4' hlal (fun A mA a b => ?_) fun A oA mA => ?_
    · have hFA : FramesAt A x := hF4.keep fun c hc hl => mA.same c hl fun q => by
        have := fresh4 c q
        have := h.frames.lt c hc; omega
      exact of2_spec (hFA.each a.1 a.2.1) (hFA.each b.1 b.2.1) (hpg a) (hpg b)
    · rw [oE] at oA
      have hperm5 := List.mergeSort_perm la (fun x y => !(ltOf cf) y x)
      have heq : (la.mergeSort fun x y => !(ltOf cf) y x).map (fun a => a.1.2.p) = (x.of n).map fun z => z.2.p := by
        have hz : (la.mergeSort fun x y => !(ltOf cf) y x).map (fun a => a.1) = x.of n := by
          refine List.Perm.eq_of_pairwise (le := fun a b : FZ => a.1.page ≤ b.1.page) (fun a b ha hb h1 h2 => ?_) ?_ (x.of_sorted n) ?_
          · obtain ⟨a', _, rfl⟩ := List.mem_map.1 ha
            have hb' := PG.of_mem.1 hb
            have := hT a' ⟨b, hb'⟩ (by rw [hlt]; simp; exact h2) (by rw [hlt]; simp; exact h1)
            exact congrArg Subtype.val this
          · rw [List.pairwise_map]
            have := List.pairwise_mergeSort (le := fun x y => !(ltOf cf) y x) (fun a b c h1 h2 => by rw [hlt] at *; simp at *; omega) (fun a b => by rw [hlt, hlt]; simp; omega) la
            exact this.imp fun h => by rw [hlt] at h; simpa using h
          · -- the same frames
            have hnd : (x.of n).Nodup := by
              have hz : x.zs.Nodup := by
                have := h.wf.keys
                rw [h.fs] at this
                unfold PG.fs at this
                rw [List.map_map] at this
                exact nodup_of_map _ this
              unfold PG.of
              exact (List.mergeSort_perm _ _).symm.nodup (hz.filter _)
            have hA : (la.map fun a => a.1.2.p).Perm ((x.of n).map fun z => z.2.p) := by rw [hla]; exact hperm4
            have hpp := (hperm5.map fun a => a.1.2.p).trans hA
            have inj : ∀ a ∈ (la.mergeSort fun x y => !(ltOf cf) y x).map (fun a => a.1), ∀ b ∈ x.of n, a.2.p = b.2.p → a = b := by
              intro a ha b hb e
              obtain ⟨a', _, rfl⟩ := List.mem_map.1 ha
              exact h.frames.ptr a'.2.1 (PG.of_mem.1 hb).1 e
            have hnd2 : ((x.of n).map fun z => z.2.p).Nodup := by
              unfold List.Nodup
              rw [List.pairwise_map]
              refine List.Pairwise.imp_of_mem (fun {a b} ha hb hne e => hne (h.frames.ptr (PG.of_mem.1 ha).1 (PG.of_mem.1 hb).1 e)) hnd
            have hpp' : (((la.mergeSort fun x y => !(ltOf cf) y x).map fun a => a.1).map fun z => z.2.p).Perm ((x.of n).map fun z => z.2.p) := by rw [List.map_map]; exact hpp
            have hndA : ((la.mergeSort fun x y => !(ltOf cf) y x).map fun a => a.1).Nodup := nodup_of_map _ (hpp'.symm.nodup hnd2)
            rw [List.perm_ext_iff_of_nodup hndA hnd]
            intro z
            constructor
            · intro hz
              obtain ⟨a', _, rfl⟩ := List.mem_map.1 hz
              exact PG.of_mem.2 a'.2
            · intro hz
              have : z.2.p ∈ ((la.mergeSort fun x y => !(ltOf cf) y x).map fun a => a.1).map fun z => z.2.p := hpp'.mem_iff.2 (List.mem_map.2 ⟨z, hz, rfl⟩)
              obtain ⟨y, hy, e⟩ := List.mem_map.1 this
              rw [← inj y hy z hz e]; exact hy
        rw [← hz, List.map_map]; rfl
      rw [heq] at oA
      refine hK s4 A oA ⟨by have := e4.size; have := mA.size; omega, fun b hb _ => (mA.same b (by have := e4.size; omega) (fun q => by have := fresh4 b q; omega)).trans (e4.same b hb id)⟩ fresh4

end Go.Proofs.YtbhddkmfhampbaaGreatDoor

/-
  The pool: Flush and Drop.
-/
namespace Go.Proofs.YtbhddkmfhampbaaGreatDoor
open Go.MapKept

theorem kvF_set {zs : List FZ} {i : Nat} {f f' : Fr} {g : FrG} (hz : zs[i]? = some (f, g)) (hk : f'.key = f.key) : kvF (zs.set i (f', g)) = kvF zs := by
  have h1 : f'.name = f.name := congrArg Prod.fst hk
  have h2 : f'.page = f.page := congrArg Prod.snd hk
  unfold kvF
  rw [show zs.set i (f', g) = zs.modify i (fun _ => (f', g)) from (modify_set (g := fun _ => (f', g)) hz).symm]
  exact map_modify_same _ _ _ _ _ hz (by simp only [h1, h2])

theorem kvF_at {x y : PG} {H : Heap} {z : FZ} {n : ByteArray} (hk : kvF y.zs = kvF x.zs) (hz : z ∈ x.zs) (hn : z.1.name = n) (hy : FramesAt H y) : ∃ (i : Nat) (f : Fr), y.zs[i]? = some (f, (⟨z.2.p, (y.zs.getD i z).2.b⟩ : FrG)) ∧ f.name = n ∧ f.page = z.1.page := by
  have h1 : (keyV z.1.name (z.1.page : Int), ptrV z.2.p) ∈ kvF y.zs := by rw [hk]; exact List.mem_map.2 ⟨z, hz, rfl⟩
  obtain ⟨u, hu, e⟩ := List.mem_map.1 h1
  simp only [Prod.mk.injEq] at e
  have e1 := keyV_inj e.1
  have e2 := ptrV_inj e.2
  obtain ⟨i, hi⟩ := List.mem_iff_getElem?.1 hu
  refine ⟨i, u.1, ?_, e1.1.trans hn, by omega⟩
  have : y.zs.getD i z = u := by simp [List.getD, hi]
  rw [hi, this, ← e2]

theorem Pl.pagesOf_length (s : Pl) (n : ByteArray) : (s.pagesOf n).length ≤ s.fs.length := by
  unfold Pl.pagesOf
  rw [List.length_mergeSort, List.length_map]
  exact List.length_filter_le _ _

theorem Flush_ok {F : Nat → Prop} {H : Heap} {p dp : Nat} {s : Pl} {n : ByteArray} {K : Int → Heap → Prop} (hg : Gl H) (h : PoolAt F H p dp s) (hlogs : s.d.logs < 68719470000)
    (hK : ∀ F' H', PoolAt F' H' p dp (s.flush n).1 → Step F F' H H' → K (s.flush n).2 H') : pool_Pool_Flush.sp (at0 p) n H K := by
  have h00 := h
  obtain ⟨x, D, hd, hF⟩ := h
  refine pool_Pool_Flush.of ?_
  unfold pool_Pool_Flush.vc
  simp only [optK_eq]
  refine ready_pool hd.pool ?_
  unfold Pl.flush at hK
  refine br_mk (fun hw => ?_) (fun hw => ?_)
  · have hw' : s.wrong ≠ 0 := by simpa using hw
    rw [if_pos hw'] at hK
    exact hK F H h00 (.refl _ _)
  have hw' : ¬ s.wrong ≠ 0 := by simpa using hw
  rw [if_neg hw'] at hK
  refine hd.pool.head.ld (c := cPtr) (i := 0) (x := at0 dp) rfl ?_
  refine Len_ok hd.disk ?_
  have fin : ∀ (e : Int) (x' : PG) (D' : Nat → Prop) (H1 : Heap) (t : Pl), PoolD x' D' H1 p dp t → Step (fun b => D b ∨ x.all p b) (fun b => D' b ∨ x'.all p b) H H1 → (∀ F' H', PoolAt F' H' p dp (Pl.out (t, e)).1 → Step F F' H H' → K (Pl.out (t, e)).2 H') →
      pool_Pool_met.sp (at0 p) e H1 fun r H2 => K r H2 := by
    intro e x' D' H1 t h1 S1 hk
    refine met_ok (hd.gl hg S1.mod) h1 fun H2 h2 S2 => ?_
    obtain ⟨F', q1, q2⟩ := h2.out (x := x) (D := D) (F := F) (H := H) hF (S1.trans S2)
    exact hk F' H2 q1 q2
  refine br_mk (fun hz => ?_) (fun hz => ?_)
  · have hz' : (s.d.len n).2 ≠ 0 := by simpa using hz
    rw [if_pos hz'] at hK
    exact fin _ x D H s hd (.refl _ _) hK
  have hz' : ¬ (s.d.len n).2 ≠ 0 := by simpa using hz
  rw [if_neg hz'] at hK
  refine of_ok hd.pool fun sl H1 o1 e1 f1 => ?_
  have hd1 := hd.ext e1
  have hlen1 := o1.n (by decide)
  have hpo := PG.of_pages hd.pool.fs n
  have hll : (s.pagesOf n).length ≤ 4096 := by
    have := s.pagesOf_length n
    have := hd.pool.wf.len; have := hd.pool.wf.most; omega
  have hsl : sl.n = (s.pagesOf n).length := by rw [hlen1, ← hpo, List.length_map, List.length_map]
  have hofl : (x.of n).length = (s.pagesOf n).length := by rw [← hpo, List.length_map]
  refine loop_upto (s.pagesOf n).length (fun k z A => z = (k : Int) ∧ ∃ y D' t, PoolD y D' A p dp t ∧ Step (fun b => D b ∨ x.all p b) (fun b => D' b ∨ y.all p b) H1 A ∧ kvF y.zs = kvF x.zs ∧ SlE EPtr ty_ptr_pool_frame A sl ((x.of n).map fun z => z.2.p) ∧ t.d.logs ≤ s.d.logs + k ∧ Pl.flushL n (s.pagesOf n) s = Pl.flushL n ((s.pagesOf n).drop k) t) ⟨rfl, x, D, s, hd1, .refl _ _, rfl, o1, Nat.le_refl _, rfl⟩ ?_
  rintro k _ A next hk ⟨rfl, y, D', t, hdA, SA, hkv, oA, hlg, heq⟩ hnext
  have hgA : Gl A := hd1.gl (hg.mod e1 id) SA.mod
  refine br_mk (fun hc => ?_) (fun hc => ?_)
  · have hlt : k < (s.pagesOf n).length := by rw [hsl] at hc; simpa using hc
    have hko : k < (x.of n).length := by omega
    have hzk : (x.of n)[k] ∈ x.of n := List.getElem_mem hko
    obtain ⟨hzx, hzn⟩ := PG.of_mem.1 hzk
    obtain ⟨i, f, hi, hfn, hfp⟩ := kvF_at hkv hzx hzn hdA.pool.frames
    obtain ⟨g, hgd⟩ : ∃ g : FrG, g = ⟨(x.of n)[k].2.p, (y.zs.getD i (x.of n)[k]).2.b⟩ := ⟨_, rfl⟩
    rw [← hgd] at hi
    have hgp : g.p = (x.of n)[k].2.p := by rw [hgd]
    have hfs : t.fs[i]? = some f := by rw [hdA.pool.fs]; simp [PG.fs, hi]
    have hpk : (s.pagesOf n)[k] = f.page := by
      have : ((x.of n).map fun z => z.1.page)[k]'(by simpa using hko) = (s.pagesOf n)[k] := by congr 1
      rw [← this, List.getElem_map, hfp]
    have hfind : t.find n ((s.pagesOf n)[k] : Int) = some i := by rw [hpk, ← hfn]; exact Pl.find_eq hdA.pool.wf hfs
    have hstep : Pl.flushL n ((s.pagesOf n).drop k) t = if f.dirty then (if (t.put i).2 = 0 then Pl.flushL n ((s.pagesOf n).drop (k + 1)) (t.put i).1 else t.put i) else Pl.flushL n ((s.pagesOf n).drop (k + 1)) t := by
      rw [List.drop_eq_getElem_cons hlt]
      conv => lhs; unfold Pl.flushL
      rw [hfind]
      simp only [Pl.frame_eq hfs]
    have hA := hdA.pool.frames.each _ (List.mem_of_getElem? hi)
    refine ptr_ld oA (i := k) (q := (x.of n)[k].2.p) (by simp [hko]) rfl fun ad ha => ?_
    rw [← hgp]
    simp only [optK_eq]
    refine hA.row.ld (c := cBool) (i := 4) (x := f.dirty) rfl ?_
    have hw1 : IntKind.i64.wrap ((k : Int) + 1) = ((k + 1 : Nat) : Int) := succ64 k (by omega)
    cases hdt : f.dirty with
    | false =>
      rw [hdt, if_neg (by simp)] at hstep
      exact br_t rfl (hnext hlt _ _ ⟨hw1, y, D', t, hdA, SA, hkv, oA, by omega, heq.trans hstep⟩)
    | true =>
      rw [hdt, if_pos rfl] at hstep
      refine br_f rfl ?_
      refine put_ok' hgA hdA hi (by omega) (fun hne D2 H2 h2 S2 => ?_) (fun he D2 H2 h2 S2 => ?_)
      · rw [if_neg hne] at hstep
        refine br_t (by simpa using hne) ?_
        have e0 := heq.trans hstep
        rw [e0, if_pos hne] at hK
        exact fin _ y D2 H2 _ h2 ((SA.trans S2).ahead e1) hK
      · rw [if_pos he] at hstep
        refine br_f rfl ?_
        refine hnext hlt _ _ ⟨hw1, _, D2, (t.put i).1, h2, SA.trans S2, ?_, ?_, ?_, heq.trans hstep⟩
        · show kvF (y.zs.set i (f.clean, g)) = _
          rw [kvF_set (f' := f.clean) hi rfl]; exact hkv
        · refine oA.keep fun b hb hl => S2.mod.same b hl ?_
          rintro q
          rcases SA.own b q with r | r
          · have := hd.lt b r
            have := f1 b hb; omega
          · have := o1.lt b hb; omega
        · have := t.put_logs i; omega
  · have hge : k = (s.pagesOf n).length := by rw [hsl] at hc; simp at hc; omega
    have e0 : Pl.flushL n (s.pagesOf n) s = (t, 0) := by rw [heq, hge, List.drop_of_length_le (Nat.le_refl _)]; rfl
    rw [e0, if_neg (by simp)] at hK
    simp only at hK
    refine hdA.pool.head.ld (c := cPtr) (i := 0) (x := at0 dp) rfl ?_
    refine Sync_ok hdA.disk fun D2 H2 a2 S2 => ?_
    obtain ⟨q1, q2⟩ := hdA.stepD hgA a2 S2
    exact fin _ y D2 H2 _ q1 ((SA.trans q2).ahead e1) hK

end Go.Proofs.YtbhddkmfhampbaaGreatDoor

/-
  The pool in plain words: a flush, page by page; what stays of bounds.
-/
namespace Go.Proofs.YtbhddkmfhampbaaGreatDoor

theorem map_modify_all {α β : Type} (f : α → β) (u : α → α) (hu : ∀ x, f (u x) = f x) : ∀ (l : List α) (i : Nat), (l.modify i u).map f = l.map f
  | [], i => by simp
  | a :: l, 0 => by simp [hu]
  | a :: l, i + 1 => by simp [map_modify_all f u hu l i]
theorem Pl.find_same {p q : Pl} (h : q.fs.map Fr.key = p.fs.map Fr.key) (n : ByteArray) (k : Int) : q.find n k = p.find n k := by
  have e : ∀ r : Pl, r.find n k = (r.fs.map Fr.key).findIdx? fun x => x.1.toList == n.toList && decide ((x.2 : Int) = k) := by
    intro r
    rw [List.findIdx?_map]
    rfl
  rw [e, e, h]
theorem Pl.put_keys (p : Pl) (i : Nat) : (p.put i).1.fs.map Fr.key = p.fs.map Fr.key := by
  unfold Pl.put
  split
  · show (p.fs.modify i Fr.clean).map Fr.key = _
    exact map_modify_all Fr.key Fr.clean (fun _ => rfl) _ _
  · rfl
theorem Pl.flushL_skip {n : ByteArray} : ∀ (l : List Nat) (p : Pl), Pl.flushL n (l.filter fun k : Nat => (p.find n k).isSome) p = Pl.flushL n l p
  | [], p => rfl
  | k :: l, p => by
    rw [List.filter_cons]
    cases hf : p.find n k with
    | none =>
      rw [if_neg (by simp), Pl.flushL_skip l p]
      conv => rhs; unfold Pl.flushL
      rw [hf]
    | some i =>
      rw [show (some i).isSome = true from rfl, if_pos rfl]
      conv => lhs; unfold Pl.flushL
      conv => rhs; unfold Pl.flushL
      rw [hf]
      simp only
      have e : (l.filter fun k : Nat => (p.find n k).isSome) = l.filter fun k : Nat => ((p.put i).1.find n k).isSome := List.filter_congr fun j _ => by rw [Pl.find_same (p.put_keys i)]
      split
      · split
        · rw [e]; exact Pl.flushL_skip l _
        · rfl
      · exact Pl.flushL_skip l p
theorem Pl.pagesOf_range {p : Pl} (hw : p.WF) (hfit : p.Fit) {n : ByteArray} (hl : (p.d.len n).2 = 0) : p.pagesOf n = (List.range (p.d.len n).1).filter fun k : Nat => (p.find n k).isSome := by
  refine nat_sorted_eq ?_ ?_ ?_
  · rw [List.perm_ext_iff_of_nodup]
    · intro k
      unfold Pl.pagesOf
      rw [List.mem_mergeSort, List.mem_map, List.mem_filter, List.mem_range]
      constructor
      · rintro ⟨f, hf, rfl⟩
        rw [List.mem_filter] at hf
        have hn : f.name = n := ba_eq (by simpa using hf.2)
        obtain ⟨i, hi⟩ := List.mem_iff_getElem?.1 hf.1
        refine ⟨?_, ?_⟩
        · rw [Dk.len_size hl, ← hn]; exact hfit f hf.1
        · rw [← hn, Pl.find_eq hw hi]; rfl
      · rintro ⟨_, h2⟩
        obtain ⟨i, hi⟩ := Option.isSome_iff_exists.1 h2
        obtain ⟨f, h3, h4, h5⟩ := Pl.find_some hi
        exact ⟨f, List.mem_filter.2 ⟨List.mem_of_getElem? h3, by rw [h4]; simp⟩, by omega⟩
    · unfold Pl.pagesOf
      refine (List.mergeSort_perm _ _).symm.nodup ?_
      have h1 : ((p.fs.filter fun f => f.name.toList == n.toList).map Fr.key).Nodup := (List.filter_sublist.map Fr.key).nodup hw.keys
      unfold List.Nodup at h1 ⊢
      rw [List.pairwise_map] at h1 ⊢
      refine List.Pairwise.imp_of_mem (fun {a b} ha hb hne e => hne ?_) h1
      rw [List.mem_filter] at ha hb
      have e1 : a.name = n := ba_eq (by simpa using ha.2)
      have e2 : b.name = n := ba_eq (by simpa using hb.2)
      unfold Fr.key; rw [e1, e2, e]
    · exact List.nodup_range.sublist List.filter_sublist
  · unfold Pl.pagesOf
    have := List.pairwise_mergeSort (le := fun a b : Nat => decide (a ≤ b)) (fun _ _ _ h1 h2 => by simp at *; omega) (fun _ _ => by simp; omega) ((p.fs.filter fun f => f.name.toList == n.toList).map (·.page))
    exact this.imp fun h => by simpa using h
  · exact (List.pairwise_le_range).sublist List.filter_sublist
theorem Pl.flushL_range {p : Pl} (hw : p.WF) (hfit : p.Fit) {n : ByteArray} (hl : (p.d.len n).2 = 0) : Pl.flushL n (p.pagesOf n) p = Pl.flushL n (List.range (p.d.len n).1) p := by
  rw [Pl.pagesOf_range hw hfit hl, Pl.flushL_skip]

/-! ### Writes, handles -/

theorem Pl.met_d (p : Pl) (e : Int) : (p.met e).d = p.d ∧ (p.met e).fs = p.fs ∧ (p.met e).next = p.next ∧ (p.met e).most = p.most := by
  unfold Pl.met; split <;> exact ⟨rfl, rfl, rfl, rfl⟩
theorem Pl.load_fst (p : Pl) (n : ByteArray) (k : Int) : (p.load n k).1 = p ∨ (p.load n k).1 = p.room.1 := by
  unfold Pl.load
  split
  · exact .inl rfl
  · split
    · exact .inl rfl
    · split
      · exact .inr rfl
      · split
        · exact .inr rfl
        · split <;> exact .inr rfl
theorem Pl.pin_logs (p : Pl) (n : ByteArray) (k : Int) : (p.pin n k).1.d.logs ≤ p.d.logs + 1 := by
  unfold Pl.pin
  split
  · exact Nat.le_succ _
  · split
    · exact Nat.le_succ _
    · have h : (p.load n k).1.d.logs ≤ p.d.logs + 1 := by
        rcases p.load_fst n k with e | e
        · rw [e]; exact Nat.le_succ _
        · rw [e]; exact p.room_logs
      split
      · rename_i q f e he; rw [he] at h; exact h
      · rename_i q e he; rw [he] at h; show (q.met e).d.logs ≤ _; rw [(q.met_d e).1]; exact h
theorem Pl.fresh_logs (p : Pl) (n : ByteArray) : (p.fresh n).1.d.logs ≤ p.d.logs + 2 := by
  have hr := p.room_logs
  have hw := p.room.1.d.write_logs n (p.d.len n).1 (sealP 0 [])
  unfold Pl.fresh
  split
  · show p.d.logs ≤ _; omega
  · split
    · show (p.met _).d.logs ≤ _; rw [(p.met_d _).1]; omega
    · split
      · show (p.room.1.met _).d.logs ≤ _; rw [(p.room.1.met_d _).1]; omega
      · split
        · show ((p.room.1.setD _).met _).d.logs ≤ _
          rw [((p.room.1.setD _).met_d _).1]
          show (p.room.1.d.write _ _ _).1.logs ≤ _; omega
        · show (p.room.1.d.write _ _ _).1.logs ≤ _; omega
theorem Pl.flushL_logs {n : ByteArray} : ∀ (l : List Nat) (p : Pl), (Pl.flushL n l p).1.d.logs ≤ p.d.logs + l.length
  | [], p => Nat.le_refl _
  | k :: l, p => by
    unfold Pl.flushL
    have hp := fun i => p.put_logs i
    split
    · rename_i i hi
      have := hp i
      split
      · split
        · have := Pl.flushL_logs (n := n) l (p.put i).1
          simp only [List.length_cons]; omega
        · simp only [List.length_cons]; omega
      · have := Pl.flushL_logs (n := n) l p
        simp only [List.length_cons]; omega
    · have := Pl.flushL_logs (n := n) l p
      simp only [List.length_cons]; omega
theorem Pl.out_d (r : Pl × Int) : (Pl.out r).1.d = r.1.d := (r.1.met_d r.2).1
theorem Pl.flush_logs (p : Pl) (n : ByteArray) : (p.flush n).1.d.logs ≤ p.d.logs + p.fs.length := by
  have h1 := Pl.flushL_logs (n := n) (p.pagesOf n) p
  have h2 := p.pagesOf_length n
  have h3 := (Pl.flushL n (p.pagesOf n) p).1.d.sync_logs n
  unfold Pl.flush
  split
  · show p.d.logs ≤ _; omega
  · split
    · rw [Pl.out_d]; show p.d.logs ≤ _; omega
    · split
      · rw [Pl.out_d]; omega
      · rw [Pl.out_d]; show (Dk.sync _ _).1.logs ≤ _; omega
theorem Pl.set_d (p : Pl) (h : Int) (k : UInt8) (b : List UInt8) : (p.set h k b).1.d = p.d := by
  unfold Pl.set
  split
  · rfl
  · split
    · split <;> rfl
    · rfl
theorem Pl.unpin_d (p : Pl) (h : Int) : (p.unpin h).1.d = p.d := by
  unfold Pl.unpin
  split
  · rfl
  · split <;> rfl
theorem Pl.dropF_logs (p : Pl) (n : ByteArray) : (p.dropF n).1.d.logs ≤ p.d.logs := by
  have := p.d.remove_logs n
  unfold Pl.dropF
  split
  · exact Nat.le_refl _
  · split
    · rw [Pl.out_d]; exact Nat.le_refl _
    · split
      · exact Nat.le_refl _
      · rw [Pl.out_d]; exact this

theorem Pl.flushL_next {n : ByteArray} : ∀ (l : List Nat) (p : Pl), (Pl.flushL n l p).1.next = p.next ∧ (Pl.flushL n l p).1.tick = p.tick
  | [], p => ⟨rfl, rfl⟩
  | k :: l, p => by
    unfold Pl.flushL
    split
    · rename_i i hi
      have := p.put_same i
      split
      · split
        · have h := Pl.flushL_next (n := n) l (p.put i).1
          exact ⟨h.1.trans this.2.1, h.2.trans this.2.2.1⟩
        · exact ⟨this.2.1, this.2.2.1⟩
      · exact Pl.flushL_next l p
    · exact Pl.flushL_next l p
theorem Pl.flush_next (p : Pl) (n : ByteArray) : (p.flush n).1.next = p.next := by
  have h1 := (Pl.flushL_next (n := n) (p.pagesOf n) p).1
  unfold Pl.flush
  split
  · rfl
  · split
    · exact (p.met_d _).2.2.1
    · split
      · exact ((Pl.flushL n (p.pagesOf n) p).1.met_d _).2.2.1.trans h1
      · exact (((Pl.flushL n (p.pagesOf n) p).1.setD _).met_d _).2.2.1.trans h1

end Go.Proofs.YtbhddkmfhampbaaGreatDoor
