/-
  The pool: a file's frames, rising: the values of a map, those that are wanted, sorted.
-/
import Derived.Test.YtbhddkmfhampbaaDoorPkg
import Derived.Test.YtbhddkmfhampbaaDoorFxq
import Derived.Test.YtbhddkmfhampbaaDoorLay
import Derived.Lib.SliceRun
namespace Go.Proofs.YtbhddkmfhampbaaDoor
open Go.MapKept

/-- Pointers to blocks. -/
def EPtr : Enc Nat := ⟨1, fun p => [ptrV p], fun _ => rfl, fun x u hu => by simp at hu; subst hu; rfl⟩
theorem EPtr_all (l : List Nat) : EPtr.all l = l.map ptrV := by
  induction l with
  | nil => rfl
  | cons x l ih =>
    have : EPtr.all (x :: l) = ptrV x :: EPtr.all l := rfl
    rw [this, ih]; rfl
theorem elPtr : ElT Tryd.prog ty_sl_ptr_pool_frame ty_ptr_pool_frame EPtr.size 8 := ElT_of (by kernel_rfl)
def pOf (e : MapEntry) : Nat := match e.val with | .pointer (some a) => a.block | _ => 0

theorem ValuesIter_ok {l cap : Nat} {x : PG} {H : Heap} {K : Unit → Heap → Prop} (I : List MapEntry → Heap → Prop) (hF : FramesAt H x) (hcap : RowT H cap ty_maparr_pool_spot_ptr_pool_frame #[.map (some x.mf)])
    (h0 : ∀ A, Mod (fun _ => False) H A → I [] A) (hfr : ∀ l A A', I l A → Mod (fun b => b = H.size) A A' → A'.size = A.size → I l A')
    (hs : ∀ ls e q A, I ls A → e ∈ x.ef.toList → e.val = ptrV q → (∀ y ∈ ls, y ∈ x.ef.toList) → ls.Nodup → e ∉ ls → A[x.mf]? = some (.map x.ef x.cf) → H.size < A.size → YieldSpec Tryd.prog l #[ptrV q] A fun b A' => b = true ∧ I (ls ++ [e]) A' ∧ A'[x.mf]? = A[x.mf]? ∧ A'[H.size]? = A[H.size]?)
    (hfin : ∀ ls A, I ls A → ls.Perm x.ef.toList → K () A) : maps_Values_map_pool_spot_ptr_pool_frame_pool_spot_ptr_pool_frame_c1.sp l ⟨cap, 0, none⟩ H K := by
  refine maps_Values_map_pool_spot_ptr_pool_frame_pool_spot_ptr_pool_frame_c1.of ?_
  unfold maps_Values_map_pool_spot_ptr_pool_frame_pool_spot_ptr_pool_frame_c1.vc
  have := hcap.ld (c := cMap) (i := 0) (x := some x.mf) rfl (K := fun x => doT cPtr Tryd.prog (Instr.range ty_maparr_pool_spot_ptr_pool_frame (.map x)) H fun (it : Option Addr) H1 => LoopVC Unit () H1 fun next _ H2 => doT cNext Tryd.prog (Instr.next (.pointer it) false ty_) H2 fun (nx : Bool × List Value) H3 => br nx.1 (doT cTwo Tryd.prog (Instr.entry (.pointer it)) H3 fun (en : Value × Value) H4 => asT cPtr en.2 fun (v : Option Addr) => YieldSpec Tryd.prog l #[(.pointer v)] H4 fun (b : Bool) H5 => br (!b) (K () H5) (next () H5)) (K () H3))
  refine this ?_
  obtain ⟨et, inf, hu, _, _⟩ := mapSpot
  refine doT_rangeW hu hF.fmap fun H1 hit e1 => ?_
  have hit1 : H.size < H1.size := obj_lt hit
  have hF1 : FramesAt H1 x := hF.keep fun b _ hl => e1.same b hl id
  refine map_rangeW (it := H.size) (fun ls _ A => I ls A ∧ H.size < A.size) hF1.fmap hit ⟨h0 H1 e1, hit1⟩ (fun l x A A' h m s => ⟨hfr l A A' h.1 m s, by omega⟩) ?_ (fun ls x A h hp _ => hfin ls A h.1 hp)
  rintro ls e ⟨⟩ A next ⟨hI, hlt⟩ he hel hsub hnd hr hito hnext
  obtain ⟨z, hz, _, hv⟩ := hF.entry he
  refine ⟨at0 z.2.p, by rw [hv]; rfl, ?_⟩
  refine (hs ls e z.2.p A hI he hv hsub hnd hel hr hlt).mono fun b A' hb => ?_
  obtain ⟨rfl, h1, h2, h3⟩ := hb
  refine br_f rfl (hnext () A' ⟨h1, ?_⟩ h2 h3)
  obtain ⟨o, ho⟩ := hito
  rw [← h3] at ho
  exact obj_lt ho

theorem AppendValues_ok {cap : Nat} {x : PG} {H : Heap} {K : Sl → Heap → Prop} (hF : FramesAt H x) (hcap : RowT H cap ty_maparr_pool_spot_ptr_pool_frame #[.map (some x.mf)]) (hlen : x.ef.size ≤ 1048576)
    (hK : ∀ (s : Sl) (ls : List MapEntry) (H' : Heap), SlE EPtr ty_ptr_pool_frame H' s (ls.map pOf) → ls.Perm x.ef.toList → Mod (fun _ => False) H H' → (∀ b, ownB s b → H.size ≤ b) → K s H') :
    slices_AppendSeq_sl_ptr_pool_frame_ptr_pool_frame.sp (Sl.mk none 0 0) (.func (.func maps_Values_map_pool_spot_ptr_pool_frame_pool_spot_ptr_pool_frame_c1.no) #[] #[(.pointer (some ⟨cap, 0, none⟩))]) H K := by
  refine slices_AppendSeq_sl_ptr_pool_frame_ptr_pool_frame.of ?_
  unfold slices_AppendSeq_sl_ptr_pool_frame_ptr_pool_frame.vc
  refine newC_rowT fun H1 s1 r1 m1 => ?_
  have hcallable : callable Tryd.prog maps_Values_map_pool_spot_ptr_pool_frame_pool_spot_ptr_pool_frame_c1.no = true := by kernel_rfl
  refine ⟨_, _, rfl, hcallable, fun rec hround => ?_⟩
  obtain ⟨r, hr⟩ : ∃ r, r = H1.size := ⟨_, rfl⟩
  obtain ⟨l, hl⟩ : ∃ l, l = H1.size + 1 := ⟨_, rfl⟩
  obtain ⟨p, hp⟩ : ∃ p, p = H.size := ⟨_, rfl⟩
  rw [← hl] at hround ⊢
  rw [← hr]
  rw [← hp] at r1
  rw [← hp] at hround
  rw [← hp]
  obtain ⟨HB, hHB⟩ : ∃ HB : Heap, HB = (H1.push (.deferred (some []))).push (.loop (rec .ready none)) := ⟨_, rfl⟩
  rw [← hHB]
  have eB : Mod (fun _ => False) H1 HB := by rw [hHB]; exact (Mod.push _ _ _).trans (Mod.push _ _ _)
  have sB : HB.size = H1.size + 2 := by rw [hHB]; simp
  have lB : HB[l]? = some (.loop (rec .ready none)) := by rw [hHB, hl, Array.getElem?_push, if_pos (by simp)]
  have rB : HB[r]? = some (.deferred (some [])) := by rw [hHB, hr]; simp [Array.getElem?_push]
  have pB : RowT HB p ty_sl_ptr_pool_frame #[(Sl.mk none 0 0).v] := r1.ext eB
  have FB : FramesAt HB x := (hF.keep fun b _ hl => m1.same b hl id).keep fun b _ hl => eB.same b hl id
  have cB : RowT HB cap ty_maparr_pool_spot_ptr_pool_frame #[.map (some x.mf)] := (hcap.ext m1).ext eB
  have hml := hF.fmap.lt
  have hcl : cap < H.size := obj_lt hcap
  let I : List MapEntry → Heap → Prop := fun ls A => A[l]? = some (.loop (rec .ready none)) ∧ A[r]? = some (.deferred (some [])) ∧ (∃ s, RowT A p ty_sl_ptr_pool_frame #[s.v] ∧ SlE EPtr ty_ptr_pool_frame A s (ls.map pOf) ∧ (∀ b, ownB s b → HB.size < b)) ∧ Mod (fun b => b = p ∨ b = l ∨ b = HB.size) HB A
  refine Spec.mono (R := fun v H' => ∃ x : Unit, v = (cTup []).enc x ∧ rangeK l rec H' _ _ _) (ValuesIter_ok (l := l) (cap := cap) (x := x) (H := HB) (K := fun _ H' => rangeK l rec H' _ _ _) I FB cB ?_ ?_ ?_ ?_) (fun v H' ⟨x, _, h⟩ => h)
  · intro A hA
    exact ⟨hA.at lB id, hA.at rB id, ⟨_, pB.ext hA, SlE.nil _ _ _, by rintro b ⟨ad, q, _⟩; cases q⟩, Ext.mod hA⟩
  · rintro ls A A' ⟨i1, i2, ⟨s, i3, i4, i5⟩, i6⟩ hA hs
    refine ⟨hA.at i1 (by omega), hA.at i2 (by omega), ⟨s, i3.mod hA (by omega), i4.keep fun b hb hbl => hA.same b hbl (by have := i5 b hb; omega), i5⟩, i6.trans (hA.mono fun b _ e => .inr (.inr e))⟩
  · rintro ls e q A ⟨i1, i2, ⟨s, i3, i4, i5⟩, i6⟩ he hv hsub hnd hel hmA hAl
    refine hround [ptrV q] A _ i1 ?_
    show onSome (some (at0 q)) _
    refine ⟨i1, ?_⟩
    obtain ⟨Ab, hAb⟩ : ∃ Ab : Heap, Ab = A.setIfInBounds l (.loop (rec .busy none)) := ⟨_, rfl⟩
    rw [← hAb]
    have mAb : Mod (fun b => b = l) A Ab := by rw [hAb]; exact Mod.setObj rfl
    have sAb : Ab.size = A.size := by rw [hAb]; simp
    have lAb : Ab[l]? = some (.loop (rec .busy none)) := by rw [hAb]; exact setObj_at i1
    have hpl : p ≠ l := by omega
    have p1 := i3.mod mAb hpl
    refine p1.ld (c := cSl) (i := 0) (x := s) rfl ?_
    have tl : ∀ b, ownB s b → b ≠ l := fun b hb => by have := i5 b hb; omega
    have o1 : SlE EPtr ty_ptr_pool_frame Ab s (ls.map pOf) := i4.keep fun b hb hbl => mAb.same b hbl (tl b hb)
    have hln : (ls.map pOf).length ≤ 1048576 := by
      have := List.Nodup.length_le_of_subset hnd (l₂ := x.ef.toList) (fun y hy => hsub y hy)
      simp at this ⊢; omega
    have hne : pOf e = q := by unfold pOf; rw [hv]; rfl
    refine SlE.push (E := EPtr) elPtr (x := q) o1 rfl (by omega) (by omega) fun s2 A2 o2 g2 _ => ?_
    have lp : p < Ab.size := obj_lt p1
    have tp : ∀ b, ownB s b → b ≠ p := fun b hb => by have := i5 b hb; omega
    have p2 : RowT A2 p ty_sl_ptr_pool_frame #[s.v] := p1.mod g2.1 (fun hb => tp _ hb rfl)
    have i6s := i6.size
    have t2 : ∀ b, ownB s2 b → HB.size < b := fun b hb => by
      rcases g2.2 b hb with q | q
      · exact i5 b q
      · omega
    have p2st := p2.st (i := 0) (v := s2.v) (by simp) rfl (K := fun H5 => H5[l]? = some (.loop (rec .busy none)) ∧ (fun b A' => b = true ∧ I (ls ++ [e]) A' ∧ A'[x.mf]? = A[x.mf]? ∧ A'[HB.size]? = A[HB.size]?) true (H5.setIfInBounds l (.loop (rec .ready none))))
    rw [show (Addr.add ⟨p, 0, none⟩ 0) = ⟨p, 0, none⟩ from rfl] at p2st
    refine p2st fun A3 p3 m3 s3 => ?_
    have l2 : A2[l]? = some (.loop (rec .busy none)) := g2.1.at lAb (fun hb => tl _ hb rfl)
    have l3 : A3[l]? = some (.loop (rec .busy none)) := m3.at l2 (by omega)
    have m4 : Mod (fun b => b = l) A3 (A3.setIfInBounds l (.loop (rec .ready none))) := Mod.setObj rfl
    have z2 := g2.1.size
    refine ⟨l3, rfl, ⟨setObj_at l3, ?_, ⟨s2, ?_, ?_, t2⟩, ?_⟩, ?_, ?_⟩
    · exact m4.at (m3.at (g2.1.at (mAb.at i2 (by omega)) (fun hb => by have := i5 _ hb; omega)) (by omega)) (by omega)
    · exact RowT.mod (show RowT A3 p ty_sl_ptr_pool_frame #[s2.v] from p3) m4 hpl
    · rw [List.map_append, List.map_cons, List.map_nil, hne]
      refine o2.keep fun b hb hbl => ?_
      have := t2 b hb
      exact (m4.same b (by omega) (by omega)).trans (m3.same b hbl (by omega))
    · refine i6.trans' (G := fun b => (b = l ∨ ownB s b) ∨ b = p) ?_ ?_
      · exact (((mAb.mono fun b _ e => .inl (.inl e)).trans (g2.1.mono fun b _ e => .inl (.inr e))).trans (m3.mono fun b _ e => .inr e)).trans (m4.mono fun b _ e => .inl (.inl e))
      · rintro b hb ((e | e) | e)
        · exact .inr (.inl e)
        · have := i5 b e; omega
        · exact .inl e
    · have hmAl := obj_lt hmA
      exact (m4.same _ (by omega) (by omega)).trans ((m3.same _ (by omega) (by omega)).trans ((g2.1.same _ (by omega) (fun hb => by have := i5 _ hb; omega)).trans (mAb.same _ hmAl (by omega))))
    · exact (m4.same _ (by omega) (by omega)).trans ((m3.same _ (by omega) (by omega)).trans ((g2.1.same _ (by omega) (fun hb => by have := i5 _ hb; omega)).trans (mAb.same _ (by omega) (by omega))))
  · rintro ls A ⟨i1, i2, ⟨s, i3, i4, i5⟩, i6⟩ hperm
    refine ⟨.ready, none, i1, rfl, ?_⟩
    show ld cSl _ _ _
    have m4 : Mod (fun b => b = l) A (A.setIfInBounds l (.loop (rec .exhausted none))) := Mod.setObj rfl
    have p4 := i3.mod m4 (by omega)
    refine p4.ld (c := cSl) (i := 0) (x := s) rfl ?_
    have r4 := m4.at i2 (by omega)
    refine ⟨r4, ?_⟩
    have m5 : Mod (fun b => b = r) (A.setIfInBounds l (.loop (rec .exhausted none))) ((A.setIfInBounds l (.loop (rec .exhausted none))).setIfInBounds r (.deferred none)) := Mod.setObj rfl
    have z6 := i6.size
    have z4 := m4.size
    refine hK s ls _ ?_ hperm ?_ (fun b hb => by have := i5 b hb; omega)
    · refine i4.keep fun b hb hbl => ?_
      have := i5 b hb
      exact (m5.same b (by omega) (by omega)).trans (m4.same b hbl (by omega))
    · have z5 := m5.size
      refine ⟨by omega, fun b hb _ => (m5.same b (by omega) (by omega)).trans ((m4.same b (by omega) (by omega)).trans ((i6.same b (by omega) (by omega)).trans ((eB.same b (by omega) id).trans (m1.same b hb id))))⟩

/-! ### Those that are wanted -/

/-- A pointer out of a slice of them. -/
theorem ptr_ld {H : Heap} {s : Sl} {ps : List Nat} (h : SlE EPtr ty_ptr_pool_frame H s ps) {i : Nat} {q : Nat} (hi : ps[i]? = some q) {z : Int} (hz : z = (i : Int)) {K : Addr → Option Addr → Prop} (hK : ∀ ad, s.a = some ad → K ad (at0 q)) :
    optK s.a fun a => (0 ≤ z ∧ z < (s.n : Int)) ∧ ld cPtr H (a.add (z.toNat * 1)) fun v => K a v := by
  subst hz
  have hil := (List.getElem?_eq_some_iff.1 hi).1
  have hn := h.n (by decide)
  obtain ⟨ad, ha⟩ := RdE.addr h.rd (by decide) (by omega)
  refine optK_mk ad ha ⟨⟨by omega, by omega⟩, ?_⟩
  have := RdE.ld (E := EPtr) (c := cPtr) (y := at0 q) h.rd ha hi (j := 0) rfl (n := i * 1) rfl (hK ad ha)
  rw [show (Addr.add (Addr.add ad (i * 1)) 0) = Addr.add ad (i * 1) from rfl] at this
  rw [Int.toNat_natCast]; exact this

/-- The frames behind pointers, of which some are a file's. -/
structure Kept (H : Heap) (cap : Nat) (n : ByteArray) (ps : List Nat) (sel : Nat → Bool) : Prop where
  cap : RowT H cap ty_string #[.string n]
  fr : ∀ q ∈ ps, ∃ g f, FrAt H g f ∧ g.p = q ∧ sel q = (f.name.toList == n.toList)
theorem of1_ok {H : Heap} {cap q : Nat} {n : ByteArray} {ps : List Nat} {sel : Nat → Bool} {K : Bool → Heap → Prop} (h : Kept H cap n ps sel) (hq : q ∈ ps) (hK : K (!sel q) H) : pool_Pool_of_c1.sp (at0 q) ⟨cap, 0, none⟩ H K := by
  refine pool_Pool_of_c1.of ?_
  unfold pool_Pool_of_c1.vc
  simp only [optK_eq, add_add, Nat.reduceAdd]
  obtain ⟨g, f, hA, rfl, hs⟩ := h.fr q hq
  refine hA.row.ld (c := cStr) (i := 0) (x := f.name) rfl ?_
  have := h.cap.ld (c := cStr) (i := 0) (x := n) rfl (K := fun (x_1 : ByteArray) => K (!(f.name.toList == x_1.toList)) H)
  rw [show (Addr.add ⟨cap, 0, none⟩ 0) = ⟨cap, 0, none⟩ from rfl] at this
  refine this ?_
  rw [← hs]; exact hK

theorem IndexOf_ok {H : Heap} {cap : Nat} {n : ByteArray} {s : Sl} {ps : List Nat} {sel : Nat → Bool} {K : Int → Heap → Prop} (h : SlE EPtr ty_ptr_pool_frame H s ps) (hk : Kept H cap n ps sel) (hl : ps.length ≤ 1048576)
    (hN : ps.filter sel = ps → K (-1) H) (hF : ∀ i, i < ps.length → (ps.take i).filter sel = ps.take i → (∃ q, ps[i]? = some q ∧ sel q = false) → K (i : Int) H) : slices_IndexFunc_sl_ptr_pool_frame_ptr_pool_frame_v2.sp s ⟨cap, 0, none⟩ H K := by
  refine slices_IndexFunc_sl_ptr_pool_frame_ptr_pool_frame_v2.of ?_
  unfold slices_IndexFunc_sl_ptr_pool_frame_ptr_pool_frame_v2.vc
  have hn := h.n (by decide)
  refine loop_upto ps.length (fun k x H1 => H = H1 ∧ x = (k : Int) ∧ (ps.take k).filter sel = ps.take k) ⟨rfl, rfl, by simp⟩ ?_
  rintro k _ _ next hk' ⟨rfl, rfl, hf⟩ hnext
  refine br_mk (fun hc => ?_) (fun hc => ?_)
  · have hlt : k < ps.length := by rw [hn] at hc; simpa using hc
    have hq : ps[k]? = some ps[k] := List.getElem?_eq_getElem hlt
    refine ptr_ld h hq rfl fun ad ha => ?_
    refine of1_ok hk (List.getElem_mem hlt) ?_
    cases hs : sel ps[k] with
    | false => exact br_t rfl (hF k hlt hf ⟨_, hq, hs⟩)
    | true =>
      refine br_f rfl (hnext hlt _ _ ⟨rfl, succ64 k (by omega), ?_⟩)
      rw [List.take_succ_eq_append_getElem hlt, List.filter_append, hf]
      simp [hs]
  · have hge : k = ps.length := by rw [hn] at hc; simp at hc; omega
    rw [hge, List.take_of_length_le (Nat.le_refl _)] at hf
    exact hN hf

theorem setCells_row {P : Program} {w : World} {g o : Nat} {t : TypeId} {vs : List Value} {cur : Array Value} (hg : w.heap[g]? = some (.cells cur t (0, 0))) (hfit : o + vs.length ≤ cur.size) (h1 : ∀ v ∈ vs, v.oneCell' = true) :
    w.setCells g o vs = w.setRow g (cur.toList.take o ++ vs ++ cur.toList.drop (o + vs.length)).toArray := by
  have a := run_storeCells_cells (P := P) g o vs 0 w (fun j hj => by simp [World.cell?, hg]; omega) (fun j hj => by simp [World.frozen?, hg]) h1
  have b := run_storeCells_at P g o t vs 0 cur w hg (by simpa using hfit) h1
  simp only [Nat.add_zero] at a b
  rw [a] at b
  simpa using b
theorem zeroPtr : ∀ w : World, (zeroValue ty_ptr_pool_frame).run Tryd.prog w = .ok (.pointer none) w := Tryd.zeroValue72
theorem elPtrI : Tryd.prog.underlying ty_sl_ptr_pool_frame = some (.slice ty_ptr_pool_frame) := by kernel_rfl
/-- The end of a slice is cleared; what is left is cut. -/
theorem doT_clear {H : Heap} {s : Sl} {ps : List Nat} {lo : Nat} {ty : TypeId} {K : Value → Heap → Prop} (h : SlE EPtr ty_ptr_pool_frame H s ps) (hlo : lo < ps.length)
    (hK : ∀ v H', SlE EPtr ty_ptr_pool_frame H' (Sl.mk s.a lo s.c) (ps.take lo) → Mod (ownB s) H H' → K v H') :
    doT cRaw Tryd.prog (Builtin.clear_ #[ty_sl_ptr_pool_frame] ty #[(.slice (slA s.a s.c lo 1) (s.n - lo) (s.c - lo))]) H K := by
  intro w hw
  subst hw
  have hn := h.n (by decide)
  rcases h.2 with ⟨e1, e2⟩ | ⟨g, cap, cur, e1, hb, hg, h4, h5, h6, h7⟩
  · omega
  · cases s with
    | mk sa sn sc =>
    simp only [Sl.v, Value.slice.injEq] at e1
    obtain ⟨rfl, _, rfl⟩ := e1
    simp only at hn h4 h7 hK ⊢
    have hE1 : EPtr.size = 1 := rfl
    rw [hE1, Nat.mul_one] at h6 h7
    have ea : slA (some ⟨g, 0, none⟩) sc lo 1 = some ⟨g, lo, none⟩ := by
      unfold slA
      rw [if_neg (by omega)]
      simp [add_lit0]
    rw [ea]
    have hr := Lib.run_clear_slice (P := Tryd.prog) w ty_sl_ptr_pool_frame ty_ptr_pool_frame ty (.pointer none) elPtrI zeroPtr rfl rfl g lo (sn - lo) (sc - lo) (by omega) (fun j hj => by simp [World.cell?, hg]; omega) (fun j hj => by simp [World.frozen?, hg])
    rw [setCells_row (P := Tryd.prog) hg (by simp; omega) (by intro v hv; rw [List.eq_of_mem_replicate hv]; rfl)] at hr
    have hown : ∀ k, ownB (Sl.mk (some ⟨g, 0, none⟩) sn sc) k ↔ k = g := fun k => ⟨fun ⟨ad, h1, h2⟩ => by cases h1; exact h2.symm, fun h => ⟨_, rfl, h.symm⟩⟩
    refine ⟨_, _, hr, ⟨_, rfl, hK _ _ ?_ ⟨by simp [World.setRow], fun k _ hk => setRow_other w g k _ (fun e => hk ((hown k).2 e))⟩⟩, ⟨rfl, Nat.le_refl _⟩⟩
    refine ⟨by rw [EPtr_all]; simp [hE1]; omega, .inr ⟨g, sc, _, rfl, Nat.zero_le _, setRow_heap w g cur _ _ _ hg, by simp only; omega, h5, ?_, ?_⟩⟩
    · simp only [hE1, Nat.mul_one, List.size_toArray, List.length_append, List.length_take, List.length_replicate, List.length_drop, Array.length_toList]
      omega
    · simp only [hE1, Nat.mul_one]
      rw [List.append_assoc, List.take_append_of_le_length (by simp; omega), List.take_take, Nat.min_self]
      have e1 : EPtr.all (ps.take lo) = (EPtr.all ps).take lo := by rw [EPtr_all, EPtr_all, List.map_take]
      rw [e1, ← h7, List.take_take, Nat.min_eq_left (by omega)]

theorem Delete_ok {H : Heap} {cap : Nat} {n : ByteArray} {s : Sl} {ps : List Nat} {sel : Nat → Bool} {K : Sl → Heap → Prop} (h : SlE EPtr ty_ptr_pool_frame H s ps) (hk : Kept H cap n ps sel) (hl : ps.length ≤ 1048576) (hcap : ∀ b, ownB s b → b ≠ cap)
    (hK : ∀ s' H', SlE EPtr ty_ptr_pool_frame H' s' (ps.filter sel) → Mod (ownB s) H H' → (∀ b, ownB s' b → ownB s b) → K s' H') : slices_DeleteFunc_sl_ptr_pool_frame_ptr_pool_frame.sp s ⟨cap, 0, none⟩ H K := by
  refine slices_DeleteFunc_sl_ptr_pool_frame_ptr_pool_frame.of ?_
  unfold slices_DeleteFunc_sl_ptr_pool_frame_ptr_pool_frame.vc
  have hn := h.n (by decide)
  have hcp := Owns.cap h
  refine IndexOf_ok h hk hl (fun hall => br_t rfl (hK s H (by rw [hall]; exact h) (.refl _ _) fun _ q => q)) (fun i hi hpre hno => ?_)
  refine br_f (by simp) ?_
  -- the frames' own blocks are not the slice's
  have hsep : ∀ q ∈ ps, ¬ ownB s q := by
    intro q hq hb
    obtain ⟨c, e⟩ := h.obj q hb
    obtain ⟨g, f, hA, rfl, _⟩ := hk.fr q hq
    exact absurd (cells_ty hA.row e) (by decide)
  have keepK : ∀ {A : Heap}, Mod (ownB s) H A → (∀ q ∈ ps, ∃ g f, FrAt H g f ∧ g.p = q ∧ sel q = (f.name.toList == n.toList)) → Kept A cap n ps sel := by
    intro A hM _
    refine ⟨hM.at hk.cap fun q => hcap cap q rfl, fun q hq => ?_⟩
    obtain ⟨g, f, hA, e1, e2⟩ := hk.fr q hq
    refine ⟨g, f, hA.keep fun b hb hl => hM.same b hl fun q2 => ?_, e1, e2⟩
    obtain ⟨c, e⟩ := h.obj b q2
    obtain ⟨cs, t, e3, ht⟩ := hA.obj b hb
    have := cells_ty e e3
    rw [← this] at ht
    exact absurd ht (by decide)
  obtain ⟨q0, hq0, hs0⟩ := hno
  have hw0 : IntKind.i64.wrap ((i : Int) + 1) = ((i + 1 : Nat) : Int) := succ64 i (by omega)
  rw [hw0]
  refine ⟨Nat × Nat × List Nat, fun t z A => z = ((t.1 : Int), (t.2.1 : Int)) ∧ SlE EPtr ty_ptr_pool_frame A s t.2.2 ∧ t.2.2.length = ps.length ∧ t.2.2.take t.1 = (ps.take t.2.1).filter sel ∧ t.2.2.drop t.2.1 = ps.drop t.2.1 ∧ t.1 < t.2.1 ∧ t.2.1 ≤ ps.length ∧ Mod (ownB s) H A, fun t => ps.length - t.2.1, ⟨(i, i + 1, ps), rfl, h, rfl, ?_, rfl, Nat.lt_succ_self _, hi, .refl _ _⟩, ?_⟩
  · show ps.take i = (ps.take (i + 1)).filter sel
    have hq : ps[i] = q0 := by rw [List.getElem?_eq_getElem hi] at hq0; exact Option.some.inj hq0
    rw [List.take_succ_eq_append_getElem hi, List.filter_append, hpre, hq]
    simp [hs0]
  · rintro ⟨a, j, cur⟩ z A ⟨rfl, o, hlen, htk, hdr, haj, hj, hM⟩
    simp only at o hlen htk hdr haj hj ⊢
    have hkA := keepK hM hk.fr
    refine br_mk (fun hc => ?_) (fun hc => ?_)
    · have hjl : j < ps.length := by rw [hn] at hc; simp at hc; omega
      have hcj : cur[j]? = some ps[j] := by
        have e1 : (cur.drop j)[0]? = (ps.drop j)[0]? := by rw [hdr]
        rw [List.getElem?_drop, List.getElem?_drop, Nat.add_zero, List.getElem?_eq_getElem hjl] at e1
        exact e1
      refine ptr_ld o hcj rfl fun ad ha => ?_
      refine of1_ok hkA (List.getElem_mem hjl) ?_
      have hwj : IntKind.i64.wrap ((j : Int) + 1) = ((j + 1 : Nat) : Int) := succ64 j (by omega)
      have hdr' : ∀ l : List Nat, l.drop j = ps.drop j → l.drop (j + 1) = ps.drop (j + 1) := by
        intro l e
        have : (l.drop j).drop 1 = (ps.drop j).drop 1 := by rw [e]
        rwa [List.drop_drop, List.drop_drop] at this
      cases hs : sel ps[j] with
      | false =>
        refine br_f rfl ⟨(a, j + 1, cur), ⟨by rw [hwj], o, hlen, ?_, hdr' cur hdr, by simp only; omega, hjl, hM⟩, by simp only; omega⟩
        simp only
        rw [List.take_succ_eq_append_getElem hjl, List.filter_append, htk]
        simp [hs]
      | true =>
        refine br_t rfl ?_
        rw [ha]
        refine ⟨⟨by omega, by omega⟩, ?_⟩
        have hal : a < cur.length := by omega
        have hca : cur[a]? = some cur[a] := List.getElem?_eq_getElem hal
        rw [Int.toNat_natCast]
        show st A (Addr.add (Addr.add ad (a * 1)) 0) (ptrV ps[j]) _
        refine SlE.st (i := a) (j := 0) (x := cur[a]) (y := ps[j]) o ha hca (by decide) rfl rfl rfl fun A' o' m' z' => ?_
        have hwa : IntKind.i64.wrap ((a : Int) + 1) = ((a + 1 : Nat) : Int) := succ64 a (by omega)
        refine ⟨(a + 1, j + 1, cur.set a ps[j]), ⟨by rw [hwa, hwj], o', by simp [hlen], ?_, ?_, by simp only; omega, hjl, hM.trans m'⟩, by simp only; omega⟩
        · simp only
          rw [List.take_succ_eq_append_getElem hjl, List.filter_append, ← htk, List.take_succ_eq_append_getElem (by simp; omega), List.take_set_of_le (Nat.le_refl _)]
          simp [hs]
        · simp only
          rw [List.drop_set_of_lt (by omega)]
          exact hdr' cur hdr
    · have hje : j = ps.length := by rw [hn] at hc; simp at hc; omega
      subst hje
      rw [List.take_of_length_le (Nat.le_refl _)] at htk
      refine ⟨⟨by omega, by omega⟩, ?_⟩
      rw [Int.toNat_natCast]
      refine doT_clear o (by omega) fun v A' o' m' => ⟨⟨by omega, by omega⟩, ?_⟩
      rw [slA_zero, Nat.sub_zero, Nat.sub_zero]
      rw [htk] at o'
      exact hK _ A' o' (hM.trans m') fun b q => q

end Go.Proofs.YtbhddkmfhampbaaDoor
