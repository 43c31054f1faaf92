/-
  RelNone: for every input the law returns true, and its arguments read as before; the tables are laid as the program's text lays them. No condition beside that.
-/
import Derived.Test.YtjpkcdhjleemlaaGreatDoorPkr
import Derived.Test.YtjpkcdhjleemlaaGreatDoorFxn
import Derived.Test.YtjpkcdhjleemlaaGreatDoorFxt
import Derived.Test.YtjpkcdhjleemlaaGreatDoorJ37
import Derived.Test.YtjpkcdhjleemlaaGreatDoorDks
import Derived.Test.YtjpkcdhjleemlaaGreatDoorDkr
/-
  Relations: is a row of columns an order? a relation is made: the walk.
-/
namespace Go.Proofs.YtjpkcdhjleemlaaGreatDoor
open Go.MapKept
theorem ValsIter_ok {lb cap : Nat} {s : Sl} {xs : List Int} {H : Heap} {K : Unit → Heap → Prop} (I : Nat → Heap → Prop) (hcap : RowT H cap ty_sl_int #[s.v]) (hx : ∀ i A, I i A → Ints .i64 A s xs) (hl : xs.length ≤ 1000000) (h0 : I 0 H)
    (hs : ∀ i A, I i A → i < xs.length → YieldSpec Tryz.prog lb #[.int .i64 (xs.getD i 0)] A fun b A' => b = true ∧ I (i + 1) A') (hfin : ∀ A, I xs.length A → K () A) : slices_Values_sl_int_int_c1.sp lb ⟨cap, 0, none⟩ H K := by
  refine slices_Values_sl_int_int_c1.of ?_
  unfold slices_Values_sl_int_int_c1.vc
  refine ⟨s, hcap.cell (i := 0) rfl, ?_⟩
  refine loop_upto xs.length (fun i z A => z = (i : Int) ∧ I i A) ⟨rfl, h0⟩ ?_
  rintro i _ A next hi ⟨rfl, hI⟩ hnext
  have hn := (hx i A hI).len
  refine br_mk (fun hc => ?_) (fun hc => ?_)
  · have hlt : i < xs.length := by have : (i : Int) < (s.n : Int) := by simpa using hc
                                   omega
    refine ints_get (hx i A hI) (i := (i : Int)) (j := i) rfl hlt fun ad _ => ?_
    refine (hs i A hI hlt).mono fun b A' ⟨hb, hI'⟩ => ?_
    subst hb
    exact br_f rfl (hnext hlt _ _ ⟨succ64 i (by omega), hI'⟩)
  · have hge : i = xs.length := by have : ¬ (i : Int) < (s.n : Int) := by simpa using hc
                                   omega
    subst hge
    exact hfin A hI
theorem AppendInts_ok {cap : Nat} {s : Sl} {xs : List Int} {H : Heap} {K : Sl → Heap → Prop} (hx : Ints .i64 H s xs) (hcap : RowT H cap ty_sl_int #[s.v]) (hl : xs.length ≤ 1000000)
    (hK : ∀ (z : Sl) (H' : Heap), SlE EI ty_int H' z xs → Ext H H' → (∀ b, ownB z b → H.size ≤ b) → K z H') :
    slices_AppendSeq_sl_int_int.sp (Sl.mk none 0 0) (.func (.func slices_Values_sl_int_int_c1.no) #[] #[(.pointer (some ⟨cap, 0, none⟩))]) H K := by
  refine slices_AppendSeq_sl_int_int.of ?_
  unfold slices_AppendSeq_sl_int_int.vc
  refine newC_rowT fun H1 s1 r1 m1 => ?_
  have hcallable : callable Tryz.prog slices_Values_sl_int_int_c1.no = true := by kernel_rfl
  refine ⟨_, _, rfl, hcallable, fun rec hround => ?_⟩
  obtain ⟨r, hr⟩ : ∃ r, r = H1.size := ⟨_, rfl⟩
  obtain ⟨l, hl2⟩ : ∃ l, l = H1.size + 1 := ⟨_, rfl⟩
  obtain ⟨p, hp⟩ : ∃ p, p = H.size := ⟨_, rfl⟩
  rw [← hl2] at hround ⊢
  rw [← hr]
  rw [← hp] at r1
  rw [← hp] at hround
  rw [← hp]
  obtain ⟨HB, hHB⟩ : ∃ HB : Heap, HB = (H1.push (.deferred (some []))).push (.loop (rec .ready none)) := ⟨_, rfl⟩
  rw [← hHB]
  have eB : Mod (fun _ => False) H1 HB := by rw [hHB]; exact (Mod.push _ _ _).trans (Mod.push _ _ _)
  have sB : HB.size = H1.size + 2 := by rw [hHB]; simp
  have lB : HB[l]? = some (.loop (rec .ready none)) := by rw [hHB, hl2, Array.getElem?_push, if_pos (by simp)]
  have rB : HB[r]? = some (.deferred (some [])) := by rw [hHB, hr]; simp [Array.getElem?_push]
  have pB : RowT HB p ty_sl_int #[(Sl.mk none 0 0).v] := r1.ext eB
  have cB : RowT HB cap ty_sl_int #[s.v] := (hcap.ext m1).ext eB
  have eHB : Ext H HB := m1.trans eB
  let I : Nat → Heap → Prop := fun i A => A[l]? = some (.loop (rec .ready none)) ∧ A[r]? = some (.deferred (some [])) ∧ (∃ z, RowT A p ty_sl_int #[z.v] ∧ SlE EI ty_int A z (xs.take i) ∧ (∀ b, ownB z b → HB.size ≤ b)) ∧ Mod (fun b => b = p ∨ b = l) HB A
  have eI : ∀ i A, I i A → Ext H A := fun i A h => ⟨by have := h.2.2.2.size; omega, fun b hb _ => by rw [h.2.2.2.same b (by omega) fun u => by omega]; exact eHB.same b hb id⟩
  refine Spec.mono (R := fun v H' => ∃ x : Unit, v = (cTup []).enc x ∧ rangeK l rec H' _ _ _) (ValsIter_ok (lb := l) (cap := cap) (H := HB) (K := fun _ H' => rangeK l rec H' _ _ _) I cB (fun i A h => hx.ext (eI i A h)) hl ?_ ?_ ?_) (fun v H' ⟨x, _, h⟩ => h)
  · exact ⟨lB, rB, ⟨_, pB, SlE.nil _ _ _, by rintro b ⟨ad, q, _⟩; cases q⟩, .refl _ _⟩
  · rintro i A ⟨i1, i2, ⟨z, i3, i4, i5⟩, i6⟩ hi
    refine hround [.int .i64 (xs.getD i 0)] A _ i1 ?_
    show onSome (some (xs.getD i 0)) _
    refine ⟨i1, ?_⟩
    obtain ⟨Ab, hAb⟩ : ∃ Ab : Heap, Ab = A.setIfInBounds l (.loop (rec .busy none)) := ⟨_, rfl⟩
    rw [← hAb]
    have mAb : Mod (fun b => b = l) A Ab := by rw [hAb]; exact Mod.setObj rfl
    have sAb : Ab.size = A.size := by rw [hAb]; simp
    have lAb : Ab[l]? = some (.loop (rec .busy none)) := by rw [hAb]; exact setObj_at i1
    have hpl : p ≠ l := by omega
    have p1 := i3.mod mAb hpl
    refine p1.ld (c := cSl) (i := 0) (x := z) rfl ?_
    have tl : ∀ b, ownB z b → b ≠ l := fun b hb => by have := i5 b hb; omega
    have o1 : SlE EI ty_int Ab z (xs.take i) := i4.keep fun b hb hbl => mAb.same b hbl (tl b hb)
    refine SlE.push (E := EI) elInt (x := xs.getD i 0) o1 rfl (by rw [List.length_take]; omega) (by rw [List.length_take]; omega) fun s2 A2 o2 g2 _ => ?_
    have lp : p < Ab.size := obj_lt p1
    have tp : ∀ b, ownB z b → b ≠ p := fun b hb => by have := i5 b hb; omega
    have p2 : RowT A2 p ty_sl_int #[z.v] := p1.mod g2.1 (fun hb => tp _ hb rfl)
    have i6s := i6.size
    have t2 : ∀ b, ownB s2 b → HB.size ≤ b := fun b hb => by
      rcases g2.2 b hb with q | q
      · exact i5 b q
      · omega
    have p2st := p2.st (i := 0) (v := s2.v) (by simp) rfl (K := fun H5 => H5[l]? = some (.loop (rec .busy none)) ∧ (fun b A' => b = true ∧ I (i + 1) A') true (H5.setIfInBounds l (.loop (rec .ready none))))
    rw [show (Addr.add ⟨p, 0, none⟩ 0) = ⟨p, 0, none⟩ from rfl] at p2st
    refine p2st fun A3 p3 m3 s3 => ?_
    have l2 : A2[l]? = some (.loop (rec .busy none)) := g2.1.at lAb (fun hb => tl _ hb rfl)
    have l3 : A3[l]? = some (.loop (rec .busy none)) := m3.at l2 (by omega)
    have m4 : Mod (fun b => b = l) A3 (A3.setIfInBounds l (.loop (rec .ready none))) := Mod.setObj rfl
    refine ⟨l3, rfl, setObj_at l3, ?_, ⟨s2, ?_, ?_, t2⟩, ?_⟩
    · exact m4.at (m3.at (g2.1.at (mAb.at i2 (by omega)) (fun hb => by have := i5 _ hb; omega)) (by omega)) (by omega)
    · exact RowT.mod (show RowT A3 p ty_sl_int #[s2.v] from p3) m4 hpl
    · have e : xs.take (i + 1) = xs.take i ++ [xs.getD i 0] := by rw [List.take_add_one, List.getElem?_eq_getElem hi]; simp [List.getD, List.getElem?_eq_getElem hi]
      rw [e]
      refine o2.keep fun b hb hbl => ?_
      have := t2 b hb
      exact (m4.same b (by omega) (by omega)).trans (m3.same b hbl (by omega))
    · have z2 := g2.1.size
      refine i6.trans' (G := fun b => (b = l ∨ ownB z b) ∨ b = p) ?_ ?_
      · exact (((mAb.mono fun b _ e => .inl (.inl e)).trans (g2.1.mono fun b _ e => .inl (.inr e))).trans (m3.mono fun b _ e => .inr e)).trans (m4.mono fun b _ e => .inl (.inl e))
      · rintro b hb ((e | e) | e)
        · exact .inr e
        · have := i5 b e; omega
        · exact .inl e
  · rintro A ⟨i1, i2, ⟨z, i3, i4, i5⟩, i6⟩
    rw [List.take_length] at i4
    refine ⟨.ready, none, i1, rfl, ?_⟩
    show ld cSl _ _ _
    have m4 : Mod (fun b => b = l) A (A.setIfInBounds l (.loop (rec .exhausted none))) := Mod.setObj rfl
    have p4 := i3.mod m4 (by omega)
    refine p4.ld (c := cSl) (i := 0) (x := z) rfl ?_
    have r4 := m4.at i2 (by omega)
    refine ⟨r4, ?_⟩
    have m5 : Mod (fun b => b = r) (A.setIfInBounds l (.loop (rec .exhausted none))) ((A.setIfInBounds l (.loop (rec .exhausted none))).setIfInBounds r (.deferred none)) := Mod.setObj rfl
    have z6 := i6.size
    have z4 := m4.size
    refine hK z _ ?_ ?_ (fun b hb => by have := i5 b hb; omega)
    · refine i4.keep fun b hb hbl => ?_
      have := i5 b hb
      exact (m5.same b (by omega) (by omega)).trans (m4.same b hbl (by omega))
    · have z5 := m5.size
      refine ⟨by omega, fun b hb _ => (m5.same b (by omega) (by omega)).trans ((m4.same b (by omega) (by omega)).trans ((i6.same b (by omega) (by omega)).trans (eHB.same b hb id)))⟩
def upto (n : Nat) : List Int := (List.range n).map fun (i : Nat) => (i : Int)
theorem isOrder_ok {l : Sl} {x : List Int} {W : Nat} {H : Heap} {K : Bool → Heap → Prop} (h : Ints .i64 H l x) (hW : x.length = W) (hl : W ≤ 1000) (hs : (x.mergeSort fun a b => decide (a ≤ b)) = upto W) (hK : ∀ B, Ext H B → K true B) : rel_isOrder.sp l (W : Int) H K := by
  refine rel_isOrder.of ?_
  unfold rel_isOrder.vc
  refine slices_Values_sl_int_int.of ?_
  unfold slices_Values_sl_int_int.vc
  refine newC_rowT fun H1 z1 r1 e1 => ?_
  refine slices_Sorted_int.of ?_
  unfold slices_Sorted_int.vc
  refine slices_Collect_int.of ?_
  unfold slices_Collect_int.vc
  refine AppendInts_ok (h.ext e1) r1 (by omega) fun z H2 o2 e2 f2 => ?_
  refine SortInts_ok o2 (by omega) fun H3 o3 m3 => ?_
  rw [hs] at o3
  have e3 : Ext H H3 := ⟨by have := e1.size; have := e2.size; have := m3.size; omega, fun b hb _ => by
    have := e1.size; have := e2.size
    rw [m3.same b (by omega) fun u => by have := f2 b u; omega, e2.same b (by omega) id]
    exact e1.same b hb id⟩
  have i3 : Ints .i64 H3 z (upto W) := by
    have := o3
    unfold SlE at this
    rw [EI_all] at this
    exact Owns.ints this
  have hlu : (upto W).length = W := by unfold upto; simp
  have hzn := i3.len
  refine loop_upto W (fun i z A => z = (i : Int) ∧ A = H3) ⟨rfl, rfl⟩ ?_
  rintro i _ _ next hi ⟨rfl, rfl⟩ hnext
  refine br_mk (fun hc => ?_) (fun hc => ?_)
  · have hlt : i < W := by have : (i : Int) < (z.n : Int) := by simpa using hc
                           omega
    refine ints_get i3 (i := (i : Int)) (j := i) rfl (by omega) fun ad _ => ?_
    have e : (upto W).getD i 0 = (i : Int) := by unfold upto; simp [List.getD, hlt]
    rw [e]
    refine br_f (by simp) ?_
    exact hnext hlt _ _ ⟨succ64 i (by omega), rfl⟩
  · refine (congrArg (fun b => K b _) ?_).mpr (hK _ e3)
    have := h.len
    simp; omega
end Go.Proofs.YtjpkcdhjleemlaaGreatDoor

/-
  Relations: a relation is made: the walk.
-/
namespace Go.Proofs.YtjpkcdhjleemlaaGreatDoor
open Go.MapKept
theorem elSlI : El Tryz.prog ty_sl_sl_int ty_sl_int 24 (.slice none 0 0) := El_of (zb := isSl0) isSl0_eq rfl (by kernel_rfl)
theorem upto_get {W i : Nat} (h : i < W) : (upto W).getD i 0 = (i : Int) := by unfold upto; simp [List.getD, h]
theorem upto_len (W : Nat) : (upto W).length = W := by unfold upto; simp
theorem isSorted_ok {l : Sl} {W : Nat} {H : Heap} {K : Bool → Heap → Prop} (h : Ints .i64 H l (upto W)) (hl : W ≤ 1000) (hK : K true H) : slices_IsSorted_sl_int_int.sp l H K := by
  refine slices_IsSorted_sl_int_int.of ?_
  unfold slices_IsSorted_sl_int_int.vc
  have hn := h.len
  rw [upto_len] at hn
  refine loop_upto W (fun k z A => z = (W : Int) - 1 - (k : Int) ∧ A = H) ⟨by rw [wrap64 (by omega) (by omega)]; omega, rfl⟩ ?_
  rintro k _ _ next hk ⟨rfl, rfl⟩ hnext
  refine br_mk (fun hc => ?_) (fun _ => hK)
  have hpos : (W : Int) - 1 - (k : Int) > 0 := by simpa using hc
  have e1 : IntKind.i64.wrap ((W : Int) - 1 - (k : Int) - 1) = (W : Int) - 1 - ((k + 1 : Nat) : Int) := by rw [wrap64 (by omega) (by omega)]; omega
  rw [e1]
  refine ints_get h (i := (W : Int) - 1 - (k : Int)) (j := W - 1 - k) (by omega) (by rw [upto_len]; omega) fun ad _ => ?_
  refine ints_get h (i := (W : Int) - 1 - ((k + 1 : Nat) : Int)) (j := W - 1 - (k + 1)) (by omega) (by rw [upto_len]; omega) fun ad2 _ => ?_
  rw [upto_get (by omega), upto_get (by omega)]
  refine cmp_Less_int.of ?_
  unfold cmp_Less_int.vc
  refine cmp_isNaN_int.of ?_
  unfold cmp_isNaN_int.vc
  refine br_f (by simp) ?_
  refine br_f (by simp; omega) ?_
  exact hnext (by omega) _ _ ⟨rfl, rfl⟩
def relN (p : Nat) (name : ByteArray) (W : Nat) (os : Sl) (f d e : Option Addr) : Array Value := #[.pointer (at0 p), .string name, .int .i64 W, os.v, .int .i64 0, .bool false, .pointer f, .pointer d, .pointer e, .int .i64 0, .int .i64 0]
section
variable {H0 A B : Heap} {F F' : Nat → Prop} {p dp Q U most m c : Nat} {s s' : Pl} {M M' : Files} {R : RelS} {l : Sl} {ll : List Int}
theorem OrdX.grow {X : Nat → Prop} {s : Sl} {ls : List (List Int)} (h : OrdX X A s ls) (e : Ext A B) : OrdX X B s ls := h.step (Step.ofExt e)
structure RelNew (name : ByteArray) (W : Nat) (ords : List (List Int)) (R : RelS) : Prop where
  name : R.name = name
  W : R.W = W
  ords : R.ords = ords
  f : R.f.ts = []
  d : R.d.ts = []
  e : R.e.ts = []
  ex : R.ex = []
  next : R.next = 0
  nb : R.nb = 0
  turns : R.turns = 0
set_option maxHeartbeats 2000000 in
theorem relNew_ok {name : ByteArray} {W : Nat} {os : Sl} {ords : List (List Int)} {K : (Option Addr × Int) → Heap → Prop} (hW : W ≤ 16) (ho : OrdX (fun _ => False) A os ords) (h1 : 1 ≤ ords.length) (h16 : ords.length ≤ 16) (hord : ∀ x ∈ ords, x.length = W ∧ (x.mergeSort fun a b => decide (a ≤ b)) = upto W) (h0 : ords[0]? = some (upto W)) (hF : ∀ b, F b → b < A.size) (hz : H0.size ≤ A.size) (hfree : ∀ j, M (nmR name j) = none)
    (hK : ∀ R B, RelNew name W ords R → RelB H0 B F p M R → Ext A B → (∀ b, R.O b → A.size ≤ b) → K (at0 R.rb, 0) B) : rel_New.sp (at0 p) name (W : Int) os A K := by
  have hon := ho.len
  refine rel_New.of ?_
  unfold rel_New.vc
  refine ⟨fun _ B => A = B, ?_, ?_⟩
  · refine br_f rfl ?_
    refine rowRoom_ok ?_
    have hr := (fan_room hW).2.2.1
    refine br_f (by simp; omega) ?_
    refine br_f (by simp; omega) ?_
    refine br_f (by simp; omega) ?_
    refine ho.ld (i := 0) (by omega) rfl fun ad r _ _ hi _ => ?_
    have e0 : ords[0] = upto W := by rw [List.getElem?_eq_getElem (by omega)] at h0; exact Option.some.inj h0
    rw [e0] at hi
    exact isSorted_ok hi (by omega) (br_f rfl rfl)
  rintro _ _ rfl
  refine newC_rowT fun B0 z0 r0 e0 => ?_
  obtain ⟨rb, hrb⟩ : ∃ rb, rb = A.size := ⟨_, rfl⟩
  rw [← hrb] at r0 ⊢
  refine loop_upto ords.length (fun i z B => z = (i : Int) ∧ ∃ s rs, RowT B rb ty_rel_Rel (relN p name W s none none none) ∧ Owns B 0 ty_sl_int 1 s (rs.map Sl.v) ∧ rs.length = i ∧ (∀ (j : Nat) (r : Sl) (x : List Int), rs[j]? = some r → ords[j]? = some x → Owns B 0 ty_int 1 r (x.map (Value.int .i64)) ∧ ∀ b, ownB r b → rb < b) ∧ (∀ b, ownB s b → rb < b) ∧ Ext A B ∧ rb < B.size) ⟨rfl, Sl.mk none 0 0, [], r0, Owns.nil _ _ _ _, rfl, by simp, fun b u => (by obtain ⟨ad, ha, _⟩ := u; cases ha), e0, by omega⟩ ?_
  rintro i _ B next hi ⟨rfl, s, rs, rB, oB, lB, rowB, fB, eB, hBz⟩ hnext
  refine br_mk (fun hc => ?_) (fun hc => ?_)
  · have hlt : i < ords.length := by have : (i : Int) < (os.n : Int) := by simpa using hc
                                     omega
    refine (ho.grow eB).ld hlt rfl fun ad r _ _ hir _ => ?_
    obtain ⟨w1, w2⟩ := hord _ (List.getElem_mem hlt)
    refine isOrder_ok hir w1 (by omega) w2 fun C eC => ?_
    refine br_f rfl ?_
    refine ⟨Ext C, .refl _ _, ?_⟩
    simp only [add_add, Nat.reduceAdd]
    refine RowT.ldC (c := cSl) (i := 3) (x := s) (cs := fun _ => relN p name W s none none none) (fun D hD => (rB.ext eC).ext hD) (fun _ _ => rfl) ?_
    refine hcloneI_ok (hir.ext eC) (by omega) fun r' D oD eD fD => ⟨eD, ?_⟩
    have eBD := eC.trans eD
    refine ⟨eD.trans (Mod.push (fun _ => False) D (.cells #[r'.v] ty_sl_int)), ?_⟩
    have hsn : s.n = i := by have := oB.1; simp at this; omega
    have key := elSlI.push (ty := ty_sl_sl_int) (H := D) (base := 0) (s := s) (xs := rs.map Sl.v) (v := r'.v) (oB.ext eBD) (by cases r'; rfl) (by omega) (by omega) (Nat.zero_le _)
      (K := fun s' E => Go.Proofs.YtjpkcdhjleemlaaGreatDoor.st E (Addr.add ⟨rb, 0, none⟩ 3) s'.v fun E' => next (IntKind.i64.wrap ((i : Int) + (1 : Int))) E')
    refine key fun s' E n' oE mE bE _ => ?_
    have hzC := eC.size
    have hzD := eD.size
    have hzE := mE.size
    have rE : RowT E rb ty_rel_Rel (relN p name W s none none none) := ((rB.ext eC).ext eD).mod mE fun u => by have := fB _ u; omega
    refine RowT.st rE (i := 3) (by simp [relN]) (by cases s'; rfl) fun G rG mG zG => ?_
    have fE : ∀ b, ownB s' b → rb < b := fun b hb => by
      rcases bE b hb with v | v
      · exact fB b v
      · omega
    refine hnext hlt _ _ ⟨succ64 i (by omega), s', rs ++ [r'], rG, ?_, by simp [lB], fun j r2 x hr2 hx => ?_, fE, ?_, by omega⟩
    · rw [List.map_append]
      exact oE.mod mG fun b hb u => by have := fE b hb; omega
    · by_cases hj : j < i
      · rw [List.getElem?_append_left (by omega)] at hr2
        obtain ⟨q1, q2⟩ := rowB j r2 x hr2 hx
        have q3 := q1.ext eBD
        exact ⟨(q3.mod mE fun b hb hb' => q3.apart (oB.ext eBD) (by decide) b hb hb').mod mG fun b hb u => (by have := q2 b hb; omega), q2⟩
      · have hji : j = i := by
          have := (List.getElem?_eq_some_iff.1 hr2).1
          simp at this; omega
        subst hji
        rw [List.getElem?_append_right (by omega), lB] at hr2
        have : r2 = r' := by simpa using hr2.symm
        subst this
        have hx' : x = ords[j] := by rw [List.getElem?_eq_getElem hlt] at hx; exact (Option.some.inj hx).symm
        subst hx'
        refine ⟨(oD.mod mE fun b hb hb' => oD.apart (oB.ext eBD) (by decide) b hb hb').mod mG fun b hb u => (by have := fD b hb; omega), fun b hb => by have := fD b hb; omega⟩
    · have eBE : Ext A E := ⟨by have := eB.size; omega, fun b hb _ => by
        rw [mE.same b (by have := eB.size; omega) fun u => by have := fB b u; omega]
        exact (eB.trans eBD).same b hb id⟩
      exact ⟨by have := eBE.size; omega, fun b hb _ => by
        rw [mG.same b (by have := eBE.size; omega) fun u => by omega]
        exact eBE.same b hb id⟩
  · have hge : i = ords.length := by have : ¬ (i : Int) < (os.n : Int) := by simpa using hc
                                     omega
    subst hge
    refine part_ok fun C zC rC eC => ?_
    refine part_ok fun D zD rD eD => ?_
    refine part_ok fun E zE rE eE => ?_
    have eBE := (eC.trans eD).trans eE
    refine RowT.st (rB.ext eBE) (i := 6) (by simp [relN]) rfl fun G1 q1 m1 z1 => ?_
    refine RowT.st q1 (i := 7) (by simp [relN]) rfl fun G2 q2 m2 z2 => ?_
    refine RowT.st q2 (i := 8) (by simp [relN]) rfl fun G3 q3 m3 z3 => ?_
    have m123 : Mod (fun b => b = rb) E G3 := (m1.trans m2).trans m3
    have hAB := eB.size
    have eAG : Ext A G3 := ⟨by omega, fun b hb _ => by rw [m123.same b (by omega) fun u => by omega]; exact (eB.trans eBE).same b hb id⟩
    have hsn : s.n = ords.length := by have := oB.1; simp at this; omega
    have key := hK ⟨rb, name, W, s, ords, ⟨B.size, Sl.mk none 0 0, []⟩, ⟨C.size, Sl.mk none 0 0, []⟩, ⟨D.size, Sl.mk none 0 0, []⟩, [], 0, 0, 0⟩ G3 ⟨rfl, rfl, rfl, rfl, rfl, rfl, rfl, rfl, rfl, rfl⟩
    have hO : ∀ b, RelS.O ⟨rb, name, W, s, ords, ⟨B.size, Sl.mk none 0 0, []⟩, ⟨C.size, Sl.mk none 0 0, []⟩, ⟨D.size, Sl.mk none 0 0, []⟩, [], 0, 0, 0⟩ b → b = rb ∨ B.size ≤ b := by
      rintro b (u | ⟨q, hq, u⟩ | ⟨t, ht, u⟩)
      · exact .inl u
      · unfold RelS.parts at hq
        simp only [List.mem_cons, List.not_mem_nil, or_false] at hq
        rcases hq with rfl | rfl | rfl
        · right; show B.size ≤ b; rw [u]; exact Nat.le_refl _
        · right; rw [u]; show B.size ≤ C.size; omega
        · right; rw [u]; show B.size ≤ D.size; omega
      · cases ht
    have offS : ∀ b, rb < b → b < B.size → ¬ RelS.X ⟨rb, name, W, s, ords, ⟨B.size, Sl.mk none 0 0, []⟩, ⟨C.size, Sl.mk none 0 0, []⟩, ⟨D.size, Sl.mk none 0 0, []⟩, [], 0, 0, 0⟩ F b := by
      rintro b hb1 hb2 (u | u)
      · have := hF b u; omega
      · rcases hO b u with v | v <;> omega
    have keepB : ∀ {b : Nat}, rb < b → b < B.size → G3[b]? = B[b]? := fun {b} h1 h2 => by
      rw [m123.same b (by omega) fun u => by omega]; exact eBE.same b h2 id
    refine key ⟨q3, ?_, ⟨hsn, ?_, ?_⟩, ?_, ?_, ?_, List.nodup_nil, List.nodup_nil, ?_, fun j _ => hfree j⟩ eAG fun b hb => by rcases hO b hb with v | v <;> omega
    · intro q hq
      unfold RelS.parts at hq
      simp only [List.mem_cons, List.not_mem_nil, or_false] at hq
      rcases hq with rfl | rfl | rfl
      · exact ⟨((rC.ext eD).ext eE).mod m123 (by show ¬ B.size = rb; omega), SlX.nil _ _⟩
      · exact ⟨(rD.ext eE).mod m123 (by show ¬ C.size = rb; omega), SlX.nil _ _⟩
      · exact ⟨rE.mod m123 (by show ¬ D.size = rb; omega), SlX.nil _ _⟩
    · intro ad ha
      have h1 := fB _ ⟨ad, ha, rfl⟩
      have h2 := (oB.block _ ⟨ad, ha, rfl⟩).2
      exact ⟨by omega, offS _ h1 h2⟩
    · intro i hi
      have hir : i < rs.length := by rw [lB]; exact hi
      obtain ⟨ad, ha, hcl⟩ := oB.reads.at (i := i) (by simpa using hir)
      have h1 := fB _ ⟨ad, ha, rfl⟩
      have h2 := (oB.block _ ⟨ad, ha, rfl⟩).2
      obtain ⟨w1, w2⟩ := rowB i rs[i] ords[i] (List.getElem?_eq_getElem hir) (List.getElem?_eq_getElem hi)
      refine ⟨ad, rs[i], ha, ?_, fun a q => ?_, ?_, w1.cap⟩
      · rw [hCell_congr (keepB (by rw [add_block]; exact h1) (by rw [add_block]; exact h2))]
        simpa using hcl
      · have h3 := w2 _ ⟨a, q, rfl⟩
        have h4 := (w1.block _ ⟨a, q, rfl⟩).2
        exact ⟨by omega, offS _ h3 h4⟩
      · have := (w1.ext eBE).mod m123 fun b hb u => by have := w2 b hb; omega
        exact this.ints
    · intro t ht; cases ht
    · intro b hb
      rcases hO b hb with v | v
      · exact ⟨fun u => by have := hF b u; omega, by omega⟩
      · exact ⟨fun u => by have := hF b u; omega, by omega⟩
    · show [B.size, C.size, D.size].Nodup
      simp; omega
    · intro t ht; cases ht
end
end Go.Proofs.YtjpkcdhjleemlaaGreatDoor

/-
  Relations: Add; Turn where nothing was new before: the walk.
-/
namespace Go.Proofs.YtjpkcdhjleemlaaGreatDoor
open Go.MapKept
section
variable {H0 A B : Heap} {F F' : Nat → Prop} {p dp Q U most m c : Nat} {s s' : Pl} {M M' : Files} {R : RelS} {l : Sl} {ll : List Int}
theorem Step.rel {R : RelS} (S : Step F F' A B) : Step (R.X F) (R.X F') A B := S.widen (fun _ u => .inl u) fun b u => u.elim .inr fun v => .inl (.inr v)
theorem rows_at (q : PartS) : q.rows = q.rowsAt 0 := by
  unfold PartS.rows PartS.rowsAt
  cases q.ts <;> rfl
set_option maxHeartbeats 1000000 in
theorem relAdd_ok {w : Nat} {K : (Bool × Int) → Heap → Prop} (h : RelP H0 A F p dp s M Q U most m c R) (hg : Gl H0) (hF : R.Fit) (hQ : Q ≤ 1048576) (hm : m + 4000000 ≤ 30000000000) (hw : ∀ i, ((R.get 2).rowsAt i).length ≤ w) (hw4 : w ≤ 400) (hq : U + R.ords.length * (2 * w + 6) + w + 4 < Q) (hc : c + R.ords.length < 4096) (ho : R.ords.length ≤ 16) (hts : (R.get 2).ts = [] ∨ (R.get 2).ts.length = R.ords.length) (hex : R.ex = []) (hnb : R.nb = R.next) (hn : R.next + R.ords.length ≤ 100)
    (hl : Ints .u64 A l ll) (hlo : Off (R.X F) A l) (hll : ll.length = R.W) (ht : ∀ i (hi : i < R.ords.length), R.ords[i].length ≤ 1000 ∧ (turnL ll R.ords[i]).length = R.W ∧ fitsL (turnL ll R.ords[i]))
    (hK0 : (∃ q ∈ R.parts, ll ∈ q.rows) → ∀ F' s' B, RelP H0 B F' p dp s' M Q U most (m + 4000000) c R → Step (R.X F) (R.X F') A B → K (false, 0) B)
    (hK1 : (¬ ∃ q ∈ R.parts, ll ∈ q.rows) → ∀ F' s' M' U' q' nx B, RelP H0 B F' p dp s' M' Q U' most (m + 4000000) (c + R.ords.length) ((R.put 2 q').nums nx nx) → Ins R.ords ll (R.get 2) q' → U' ≤ U + R.ords.length * (2 * w + 6) → nx ≤ R.next + R.ords.length → Step (R.X F) (RelS.X ((R.put 2 q').nums nx nx) F') A B → (∀ a, (∀ i, i < 100 → a ≠ nmR R.name i) → M' a = M a) → K (true, 0) B) : rel_Rel_Add.sp (at0 R.rb) l A K := by
  refine rel_Rel_Add.of ?_
  unfold rel_Rel_Add.vc
  refine rready_ok h.rel.row ?_
  refine br_f rfl ?_
  simp only [optK_eq, at0, add_add, Nat.reduceAdd]
  refine RowT.ld (c := cInt .i64) (i := 2) (x := (R.W : Int)) h.rel.row rfl ?_
  have hln := hl.len
  refine br_f (by simp; omega) ?_
  refine RowT.ld (c := cPtr) (i := 6) (x := at0 R.f.pb) h.rel.row rfl ?_
  refine RowT.ld (c := cPtr) (i := 7) (x := at0 R.d.pb) h.rel.row rfl ?_
  refine RowT.ld (c := cPtr) (i := 8) (x := at0 R.e.pb) h.rel.row rfl ?_
  refine newPs (qs := [R.f, R.d, R.e]) (X := F) h.pool.pool.lt fun B sB eB => ?_
  have hB := h.grow eB
  have S0 : Step (R.X F) (R.X F) A B := Step.ofExt eB
  have eqs : (m + 1000000 * [R.f, R.d, R.e].length) = m + 3000000 := rfl
  refine among_ok (qs := [R.f, R.d, R.e]) hB.rel hB.pool hg hF hQ (by rw [eqs]; omega) (fun q hq => hq) sB (hlo.ints hl S0) ((hlo.step S0).mono fun b _ u => .inl u) hll fun b F1 s1 C hb p1 r1 S1 => ?_
  rw [eqs] at p1
  have S01 := S0.trans (Step.rel (R := R) S1)
  cases b with
  | true =>
    refine br_f rfl ?_
    refine met_zero ?_
    exact hK0 (hb.1 rfl) F1 s1 C ⟨p1.later (by omega), r1, h.dom⟩ S01
  | false =>
    refine br_t rfl ?_
    refine RowT.ld (c := cPtr) (i := 8) (x := at0 R.e.pb) r1.row rfl ?_
    refine insert_ok (j := 2) (w := w) ⟨p1, r1, h.dom⟩ hg hF hQ (by omega) hw hw4 hq hc ho hts hex hnb hn (hlo.ints hl S01) (hlo.step S01) ht fun F2 s2 M2 U2 q2 nx D p2 I2 hU2 hnx S2 hM2 => ?_
    refine met_zero ?_
    exact hK1 (fun u => by have := hb.2 u; cases this) F2 s2 M2 U2 q2 nx D ⟨p2.pool.later (by omega), p2.rel, p2.dom⟩ I2 hU2 hnx (S01.trans S2) hM2
def RelS.turned (R : RelS) (nb : Nat) : RelS := ⟨R.rb, R.name, R.W, R.os, R.ords, R.f, R.e, ⟨nb, Sl.mk none 0 0, []⟩, R.ex, R.next, R.nb, R.turns + 1⟩
theorem RelS.turned_O {nb b : Nat} (u : (R.turned nb).O b) : R.O b ∨ b = nb := by
  rcases u with u | ⟨q, hq, u⟩ | ⟨t, ht, u⟩
  · exact .inl (.inl u)
  · unfold RelS.parts RelS.turned at hq
    simp only [List.mem_cons, List.not_mem_nil, or_false] at hq
    rcases hq with rfl | rfl | rfl
    · exact .inl (.inr (.inl ⟨_, by simp [RelS.parts], u⟩))
    · exact .inl (.inr (.inl ⟨_, by simp [RelS.parts], u⟩))
    · exact .inr u
  · refine .inl (.inr (.inr ⟨t, ?_, u⟩))
    unfold RelS.all RelS.turned at ht
    unfold RelS.all
    simp only [List.mem_append, List.not_mem_nil, false_or] at ht ⊢
    rcases ht with v | v | v
    · exact .inl v
    · exact .inr (.inr (.inl v))
    · exact .inr (.inr (.inr v))
theorem RelB.turned {nb : Nat} (h : RelB H0 A F p M R) (hd : R.d.ts = []) (hF : ∀ b, F b → b < A.size) (hz : H0.size ≤ A.size) (hnb : A.size ≤ nb) (r : RowT B R.rb ty_rel_Rel (relV p (R.turned nb))) (rn : RowT B nb ty_rel_part (partV R.rb (Sl.mk none 0 0))) (mm : Mod (fun b => b = R.rb) A B) : RelB H0 B F p M (R.turned nb) := by
  have hall : (R.turned nb).all = R.all := by
    unfold RelS.all RelS.turned
    simp only [hd, List.nil_append]
  have S' : Step (R.X F) ((R.turned nb).X F) A B := ⟨mm.mono fun b _ u => .inr (.inl u), fun b u => by
    rcases u with u | u
    · exact .inl (.inl u)
    · rcases R.turned_O u with v | v
      · exact .inl (.inr v)
      · exact .inr (by omega)⟩
  have same : ∀ b, R.O b → b ≠ R.rb → B[b]? = A[b]? := fun b hb e => mm.same b (h.lt b hb) e
  have part : ∀ q ∈ R.parts, RowT B q.pb ty_rel_part (partV R.rb q.s) ∧ SlX ((R.turned nb).X F) B q.s (ksV q.ts) := fun q hq => ⟨(same _ (.inr (.inl ⟨q, hq, rfl⟩)) (h.typ hq)).trans (h.pt q hq).1, (h.pt q hq).2.step S'⟩
  have mf : R.f ∈ R.parts := by simp [RelS.parts]
  have md : R.d ∈ R.parts := by simp [RelS.parts]
  have me : R.e ∈ R.parts := by simp [RelS.parts]
  have lf := h.lt _ (.inr (.inl ⟨_, mf, rfl⟩))
  have le := h.lt _ (.inr (.inl ⟨_, me, rfl⟩))
  have hnd : [R.f.pb, R.d.pb, R.e.pb].Nodup := h.pbs
  simp only [List.nodup_cons, List.mem_cons, List.not_mem_nil, or_false, not_or] at hnd
  refine ⟨r, fun q hq => ?_, h.ords.step S', fun t ht => ?_, fun b hb => ?_, ?_, by rw [hall]; exact h.ks, by rw [hall]; exact h.ns, by rw [hall]; exact h.nms, h.free⟩
  · unfold RelS.parts RelS.turned at hq
    simp only [List.mem_cons, List.not_mem_nil, or_false] at hq
    rcases hq with rfl | rfl | rfl
    · exact part _ mf
    · exact part _ me
    · exact ⟨rn, SlX.nil _ _⟩
  · rw [hall] at ht
    exact (h.tr t ht).keep (same _ (.inr (.inr ⟨t, ht, rfl⟩)) (h.tyk ht h.row (by decide))) rfl
  · rcases R.turned_O hb with v | v
    · exact h.off b v
    · exact ⟨fun u => by have := hF b u; omega, by omega⟩
  · show [R.f.pb, R.e.pb, nb].Nodup
    simp only [List.nodup_cons, List.mem_cons, List.not_mem_nil, or_false, not_or]
    exact ⟨⟨hnd.1.2, by omega⟩, by omega, by simp, List.nodup_nil⟩
theorem relTurn_ok {K : (Int × Int) → Heap → Prop} (h : RelP H0 A F p dp s M Q U most m c R) (hd : R.d.ts = []) (htu : R.turns ≤ 1000000)
    (hK : ∀ nb B, RelP H0 B F p dp s M Q U most m c (R.turned nb) → Step (R.X F) ((R.turned nb).X F) A B → K ((R.e.rows.length : Int), 0) B) : rel_Rel_Turn.sp (at0 R.rb) A K := by
  refine rel_Rel_Turn.of ?_
  unfold rel_Rel_Turn.vc
  refine rready_ok h.rel.row ?_
  refine br_f rfl ?_
  simp only [optK_eq, at0]
  refine RowT.ld (c := cInt .i64) (i := 10) (x := (R.turns : Int)) h.rel.row rfl ?_
  refine RowT.st h.rel.row (i := 10) (by simp [relV]) rfl fun B rB mB zB => ?_
  rw [succ64 R.turns (by omega)] at rB
  have rB' := h.rel.cell (nx := R.next) (tu := R.turns + 1) rB mB
  have md : R.d ∈ RelS.parts { R with next := R.next, turns := R.turns + 1 } := by simp [RelS.parts]
  refine ⟨fun _ C => B = C, ?_, ?_⟩
  · refine RowT.ld (c := cPtr) (i := 7) (x := at0 R.d.pb) rB'.row rfl ?_
    simp only [optK_eq, at0]
    obtain ⟨rp, sp⟩ := rB'.pt _ md
    refine RowT.ld (c := cSl) (i := 1) (x := R.d.s) rp rfl ?_
    have hsn := sp.len
    rw [hd] at hsn
    exact br_f (by rw [hsn]; rfl) trivial
  rintro _ _ rfl
  refine ⟨Ext B, .refl _ _, ?_⟩
  refine RowT.ldC (c := cPtr) (i := 8) (x := at0 R.e.pb) (cs := fun _ => relV p { R with next := R.next, turns := R.turns + 1 }) (fun D hD => rB'.row.ext hD) (fun _ _ => rfl) ?_
  refine part_ok fun C zC rC eC => ⟨eC, ?_⟩
  have r1 := rB'.row.ext eC
  refine RowT.st r1 (i := 7) (by simp [relV]) rfl fun D rD mD zD => ?_
  refine RowT.st rD (i := 8) (by simp [relV]) rfl fun E rE mE zE => ?_
  have hpl := h.pool.pool.lt
  have hFr : ∀ b, F b → b ≠ R.rb := fun b hb e => (h.rel.off _ (.inl rfl)).1 (e ▸ hb)
  have mCE : Mod (fun b => b = R.rb) C E := mD.trans mE
  have hrl := h.rel.lt _ (.inl rfl)
  have hoff := (h.rel.off _ (.inl rfl)).2
  have mAE : Mod (fun b => b = R.rb) A E := (mB.trans eC.mod).trans mCE
  have rel : RelB H0 E F p M (R.turned B.size) := by
    refine RelB.turned (A := A) h.rel hd hpl h.pool.ext.size (by omega) rE (rC.mod mCE (by omega)) mAE
  have pool : PoolM H0 E F p dp s M Q U most m := h.pool.aside ⟨by have := h.pool.ext.size; have := mAE.size; omega, fun b hb _ => (mAE.same b (by have := h.pool.ext.size; omega) (by omega)).trans (h.pool.ext.same b hb id)⟩ fun b hb => mAE.same b (hpl b hb) (hFr b hb)
  refine RowT.ld (c := cPtr) (i := 7) (x := at0 R.e.pb) rel.row rfl ?_
  refine pcount_ok (q := R.e) rel (by simp [RelS.parts, RelS.turned]) ?_
  refine hK B.size E ⟨pool, rel, h.dom⟩ ⟨mAE.mono fun b _ u => .inr (.inl u), fun b u => ?_⟩
  rcases u with u | u
  · exact .inl (.inl u)
  · rcases R.turned_O u with v | v
    · exact .inl (.inr v)
    · exact .inr (by omega)
end
end Go.Proofs.YtjpkcdhjleemlaaGreatDoor

/-
  Relations: which order fits columns: the walk.
-/
namespace Go.Proofs.YtjpkcdhjleemlaaGreatDoor
open Go.MapKept
section
variable {H0 A B : Heap} {F F' : Nat → Prop} {p dp Q U most m c : Nat} {s s' : Pl} {M M' : Files} {R : RelS} {l : Sl} {ll : List Int}
theorem Ints.take {k : IntKind} {l : Sl} {x : List Int} (h : Ints k A l x) {i : Nat} (hi : i ≤ x.length) : Ints k A ⟨slA l.a l.c 0 1, i - 0, l.c - 0⟩ (x.take i) := by
  rw [slA_zero]
  refine ⟨by rw [List.length_take]; show i - 0 = _; omega, ?_⟩
  rw [List.map_take]
  exact h.reads.take i
theorem indexI_ok {l : Sl} {x : List Int} {v : Int} {K : Int → Heap → Prop} (h : Ints .i64 A l x) (hl : x.length ≤ 1000000) (hK1 : ∀ i, i < x.length → x.getD i 0 = v → (∀ j, j < i → x.getD j 0 ≠ v) → K (i : Int) A) (hK0 : v ∉ x → K (-1) A) : slices_Index_sl_int_int.sp l v A K := by
  refine slices_Index_sl_int_int.of ?_
  unfold slices_Index_sl_int_int.vc
  have hn := h.len
  refine loop_upto x.length (fun i z B => z = (i : Int) ∧ A = B ∧ ∀ j, j < i → x.getD j 0 ≠ v) ⟨rfl, rfl, fun j hj => by omega⟩ ?_
  rintro i _ _ next hi ⟨rfl, rfl, hno⟩ hnext
  refine br_mk (fun hc => ?_) (fun hc => ?_)
  · have hlt : i < x.length := by have : (i : Int) < (l.n : Int) := by simpa using hc
                                  omega
    refine ints_get h (i := (i : Int)) (j := i) rfl hlt fun ad _ => ?_
    refine br_mk (fun he => ?_) (fun he => ?_)
    · have he : v = x.getD i 0 := by simpa using he
      exact hK1 i hlt he.symm hno
    · have he : v ≠ x.getD i 0 := by simpa using he
      refine hnext hlt _ _ ⟨succ64 i (by omega), rfl, fun j hj => ?_⟩
      by_cases e : j = i
      · subst e; exact fun q => he q.symm
      · exact hno j (by omega)
  · have hge : i = x.length := by have : ¬ (i : Int) < (l.n : Int) := by simpa using hc
                                  omega
    subst hge
    refine hK0 fun u => ?_
    obtain ⟨j, hj⟩ := List.mem_iff_getElem?.1 u
    have hlt := (List.getElem?_eq_some_iff.1 hj).1
    exact hno j hlt (by simp [List.getD, hj])
theorem containsI_ok {l : Sl} {x : List Int} {v : Int} {K : Bool → Heap → Prop} (h : Ints .i64 A l x) (hl : x.length ≤ 1000000) (hK : K (decide (v ∈ x)) A) : slices_Contains_sl_int_int.sp l v A K := by
  refine slices_Contains_sl_int_int.of ?_
  unfold slices_Contains_sl_int_int.vc
  refine indexI_ok h hl (fun i hi e _ => ?_) (fun hno => ?_)
  · have hm : v ∈ x := by
      rw [← e, List.getD, List.getElem?_eq_getElem hi]
      exact List.getElem_mem hi
    rw [decide_eq_true hm] at hK
    rw [decide_eq_true (show (i : Int) ≥ 0 by omega)]
    exact hK
  · rw [decide_eq_false hno] at hK
    rw [decide_eq_false (by decide)]
    exact hK
def fitsO (cl o : List Int) : Bool := (o.take cl.length).all fun c => decide (c ∈ cl)
theorem fit_ok {cols : Sl} {cl : List Int} {K : (Int × Bool) → Heap → Prop} (h : RelB H0 A F p M R) (hc : Ints .i64 A cols cl) (hcl : ∀ o ∈ R.ords, cl.length ≤ o.length) (hl : cl.length ≤ 1000) (ho : R.ords.length ≤ 16)
    (hK1 : ∀ i (hi : i < R.ords.length), fitsO cl R.ords[i] = true → (∀ j (hj : j < i), fitsO cl (R.ords[j]'(by omega)) = false) → K ((i : Int), true) A) (hK0 : (∀ o ∈ R.ords, fitsO cl o = false) → K (0, false) A) : rel_Rel_fit.sp (at0 R.rb) cols A K := by
  refine rel_Rel_fit.of ?_
  unfold rel_Rel_fit.vc
  simp only [optK_eq, at0, add_add, Nat.reduceAdd]
  refine RowT.ld (c := cSl) (i := 3) (x := R.os) h.row rfl ?_
  have hon := h.ords.len
  have hcn := hc.len
  refine loop_upto R.ords.length (fun i z B => z = (i : Int) ∧ A = B ∧ ∀ j (hj : j < R.ords.length), j < i → fitsO cl R.ords[j] = false) ⟨rfl, rfl, fun j _ hj => by omega⟩ ?_
  rintro i _ _ next hi ⟨rfl, rfl, hno⟩ hnext
  refine br_mk (fun hcd => ?_) (fun hcd => ?_)
  · have hlt : i < R.ords.length := by have : (i : Int) < (R.os.n : Int) := by simpa using hcd
                                       omega
    refine h.ords.ld hlt rfl fun ad r _ _ hr hcap => ?_
    have hm := hcl _ (List.getElem_mem hlt)
    have hrn := hr.len
    refine ⟨⟨by omega, by omega⟩, ?_⟩
    have ht := hr.take (i := cl.length) hm
    have en : ((cols.n : Int).toNat) - 0 = cl.length - 0 := by omega
    rw [en]
    have hlen : (R.ords[i].take cl.length).length = cl.length := by rw [List.length_take]; omega
    refine loop_upto cl.length (fun k z B => z = (k : Int) ∧ A = B ∧ ((R.ords[i].take cl.length).take k).all (fun c => decide (c ∈ cl)) = true) ⟨rfl, rfl, by simp⟩ ?_
    rintro k _ _ next1 hk ⟨rfl, rfl, hall⟩ hnext1
    refine br_mk (fun hcd2 => ?_) (fun hcd2 => ?_)
    · have hkl : k < cl.length := by have : (k : Int) < ((cl.length - 0 : Nat) : Int) := by simpa using hcd2
                                     omega
      refine ints_get ht (i := (k : Int)) (j := k) rfl (by omega) fun ad2 _ => ?_
      have e1 : (R.ords[i].take cl.length).take (k + 1) = (R.ords[i].take cl.length).take k ++ [(R.ords[i].take cl.length).getD k 0] := by
        rw [List.take_add_one, List.getElem?_eq_getElem (by omega)]; simp [List.getD, List.getElem?_eq_getElem (show k < (R.ords[i].take cl.length).length by omega)]
      refine containsI_ok hc (by omega) ?_
      refine br_mk (fun hb => ?_) (fun hb => ?_)
      · have hb : (R.ords[i].take cl.length).getD k 0 ∉ cl := by simpa using hb
        refine hnext hlt _ _ ⟨succ64 i (by omega), rfl, fun j hj hji => ?_⟩
        by_cases e : j = i
        · subst e
          unfold fitsO
          rw [List.all_eq_false]
          refine ⟨(R.ords[j].take cl.length).getD k 0, ?_, by simpa using hb⟩
          rw [List.getD, List.getElem?_eq_getElem (by omega)]
          exact List.getElem_mem _
        · exact hno j hj (by omega)
      · have hb : (R.ords[i].take cl.length).getD k 0 ∈ cl := by simpa using hb
        refine hnext1 hkl _ _ ⟨succ64 k (by omega), rfl, ?_⟩
        rw [e1, List.all_append, hall]
        simp only [List.all_cons, List.all_nil, Bool.and_true, Bool.true_and]
        exact decide_eq_true hb
    · have hge : k = cl.length := by have : ¬ (k : Int) < ((cl.length - 0 : Nat) : Int) := by simpa using hcd2
                                     omega
      subst hge
      rw [List.take_take, Nat.min_self] at hall
      exact hK1 i hlt hall fun j hj => hno j (by omega) hj
  · have hge : i = R.ords.length := by have : ¬ (i : Int) < (R.os.n : Int) := by simpa using hcd
                                       omega
    subst hge
    refine hK0 fun o ho => ?_
    obtain ⟨j, hj⟩ := List.mem_iff_getElem?.1 ho
    have hlt := (List.getElem?_eq_some_iff.1 hj).1
    have := hno j hlt hlt
    rw [List.getElem?_eq_getElem hlt] at hj
    rw [← Option.some.inj hj]; exact this
end
end Go.Proofs.YtjpkcdhjleemlaaGreatDoor

/-
  Relations: cursors over a part's trees: what they have in memory; Scan: the walk.
-/
namespace Go.Proofs.YtjpkcdhjleemlaaGreatDoor
open Go.MapKept
structure TC where
  t : Tx
  cb : Nat
  lo : Sl
  ll : List Int
  strict : Bool
structure CurS where
  cb : Nat
  order : Nat
  low : Sl
  lowL : List Int
  cols : Sl
  colsL : List Int
  words : Sl
  wordsL : List Int
  fr : Sl
  tcs : List TC
  heads : Sl
  hs : List (Sl × Option (List Int))
  turns : Nat
  begun : Bool
def curV (rb order : Nat) (low cols words fr heads : Sl) (turns : Nat) (bad begun : Bool) : Array Value := #[.pointer (some ⟨rb, 0, none⟩), .int .i64 order, low.v, cols.v, words.v, fr.v, heads.v, .int .i64 turns, .bool bad, .bool begun]
def CurS.Own (C : CurS) (b : Nat) : Prop := b = C.cb ∨ (∃ t ∈ C.tcs, b = t.cb) ∨ ownB C.heads b
def CurS.Z (C : CurS) (F : Nat → Prop) (b : Nat) : Prop := F b ∨ C.Own b
def HeadOk (Y : Nat → Prop) (A : Heap) (h : Sl × Option (List Int)) : Prop := (h.2 = none → h.1.a = none) ∧ ∀ y, h.2 = some y → h.1.a ≠ none ∧ Ints .u64 A h.1 y ∧ Off Y A h.1
structure CurM (H0 A : Heap) (F : Nat → Prop) (p : Nat) (M : Files) (R : RelS) (C : CurS) : Prop where
  rel : RelB H0 A (C.Z F) p M R
  row : RowT A C.cb ty_rel_Cursor (curV R.rb C.order C.low C.cols C.words C.fr C.heads C.turns false C.begun)
  low : Ints .u64 A C.low C.lowL ∧ Off (R.X (C.Z F)) A C.low
  cols : Ints .i64 A C.cols C.colsL ∧ Off (R.X (C.Z F)) A C.cols
  words : Ints .u64 A C.words C.wordsL ∧ Off (R.X (C.Z F)) A C.words
  fr : SlX (R.X (C.Z F)) A C.fr (C.tcs.map fun t => ptrV t.cb)
  tc : ∀ t ∈ C.tcs, t.t ∈ R.all ∧ CurB A F t.t.k t.cb t.lo t.ll t.strict ∧ Off (R.X (C.Z F)) A t.lo
  hd : Owns A 0 ty_sl_uint64 1 C.heads (C.hs.map fun h => h.1.v)
  hr : ∀ h ∈ C.hs, HeadOk (R.X (C.Z F)) A h
  cbs : (C.tcs.map (·.cb)).Nodup
  off : ∀ b, C.Own b → ¬ F b ∧ H0.size ≤ b
section
variable {H0 A B D : Heap} {F F' X : Nat → Prop} {p dp Q U most m c k cb : Nat} {s s' : Pl} {M M' : Files} {R : RelS} {l lo : Sl} {ll : List Int} {strict : Bool}
theorem CurB.mod (h : CurB A F k cb lo ll strict) (mm : Mod X A B) (h1 : ¬ X cb) (h2 : ∀ b, ownB lo b → ¬ X b) : CurB B F k cb lo ll strict :=
  ⟨h.row.mod mm h1, h.ints.mod mm fun ad ha => h2 _ ⟨ad, ha, rfl⟩, fun ad ha => ⟨Nat.lt_of_lt_of_le (h.off ad ha).1 mm.size, (h.off ad ha).2⟩, h.cb⟩
theorem treeFrom_ok {K : Option Addr → Heap → Prop} (hl : Ints .u64 A l ll) (hlen : ll.length ≤ 17592186044416) (hF : ∀ b, F b → b < A.size) (hkl : k < A.size)
    (hK : ∀ B cb lo, Ext A B → CurB B F k cb lo ll false → A.size ≤ cb → cb < B.size → (∀ b, ownB lo b → A.size ≤ b ∧ b ≠ cb) → K (at0 cb) B) : tree_Tree_From.sp (at0 k) l A K := by
  refine tree_Tree_From.of ?_
  unfold tree_Tree_From.vc
  refine br_f rfl ?_
  refine tclone_ok hl hlen fun cl H1 o1 e1 f1 => ?_
  refine newC_rowT fun H2 z2 r2 e2 => ?_
  have hz := e1.size
  refine hK H2 H1.size cl (e1.trans e2) ⟨r2, (o1.ext e2).ints, fun ad ha => ?_, fun u => by have := hF _ u; omega, by omega⟩ (by omega) (by omega) fun b hb => ⟨f1 b hb, by have := (o1.block b hb).2; omega⟩
  have h1 := (o1.block _ ⟨ad, ha, rfl⟩).2
  have h2 := f1 _ ⟨ad, ha, rfl⟩
  exact ⟨by omega, fun u => by
    rcases u with u | u | u
    · have := hF _ u; omega
    · omega
    · omega⟩
theorem RelB.fresh (h : RelB H0 A F p M R) (e : Ext A B) (hX : ∀ b, X b → A.size ≤ b) : RelB H0 B (fun b => F b ∨ X b) p M R :=
  h.aside ⟨e.mod, fun b u => by
    rcases u with (u | u) | u
    · exact .inl (.inl u)
    · exact .inr (hX b u)
    · exact .inl (.inr u)⟩ (fun b hb => ⟨e.same b (h.lt b hb) id, fun u => u.elim (h.off b hb).1 fun v => by have := hX b v; have := h.lt b hb; omega⟩) (fun _ _ => rfl) h.free
theorem OrdX.old {X : Nat → Prop} {os : Sl} {ls : List (List Int)} (h : OrdX X A os ls) (e : Ext A B) : OrdX (fun b => A.size ≤ b) B os ls :=
  OrdX.step (X := fun b => A.size ≤ b) (A := A) ⟨h.len, fun ad ha => ⟨(h.off ad ha).1, by have := (h.off ad ha).1; omega⟩, fun i hi => by
    obtain ⟨ad, r, q1, q2, q3, q4, q5⟩ := h.at' i hi
    exact ⟨ad, r, q1, q2, fun a ha => ⟨(q3 a ha).1, by have := (q3 a ha).1; omega⟩, q4, q5⟩⟩ ⟨e.mod, fun _ u => .inl u⟩
def wordAt (cl wl : List Int) (x : Int) : Int := wl.getD (cl.findIdx (· == x)) 0
theorem elCurP : El Tryz.prog ty_sl_ptr_tree_Cursor ty_ptr_tree_Cursor 8 (.pointer none) := El_of (zb := isPtr0) isPtr0_eq rfl (by kernel_rfl)
set_option maxHeartbeats 4000000 in
theorem relScan_ok {n : Int} {cols words : Sl} {cl wl : List Int} {K : Option Addr → Heap → Prop} (h : RelP H0 A F p dp s M Q U most m c R) (hn : R.asked n ≠ []) (hF : R.Fit) (ho : R.ords.length ≤ 16) (h1 : 1 ≤ R.ords.length) (hord : ∀ o ∈ R.ords, o.length = R.W)
    (hc : Ints .i64 A cols cl) (hcc : cols.n ≤ cols.c) (hw : Ints .u64 A words wl) (hwl : wl.length = cl.length) (hcl : ∀ x ∈ cl, 0 ≤ x ∧ x < (R.W : Int)) (hnd : cl.Nodup) (hclW : cl.length ≤ R.W) (hts : ∀ q ∈ R.asked n, q.ts = [] ∨ q.ts.length = R.ords.length)
    (hK : ∀ C B, CurM H0 B F p M R C → Ext A B → (∀ b, C.Own b → A.size ≤ b) → C.colsL = cl → C.wordsL = wl → C.turns = R.turns → C.begun = false → C.hs = [] → C.heads = Sl.mk none 0 0 → C.order < R.ords.length →
      (fitsO cl (R.ords.getD C.order []) = true ∧ (∀ j, j < C.order → fitsO cl (R.ords.getD j []) = false) ∧ C.lowL = ((R.ords.getD C.order []).take cl.length).map (wordAt cl wl) ∨ (∀ o ∈ R.ords, fitsO cl o = false) ∧ C.order = 0 ∧ C.lowL = []) →
      C.tcs.map (·.t) = (R.asked n).filterMap (fun q => q.ts[C.order]?) → (∀ t ∈ C.tcs, t.ll = C.lowL ∧ t.strict = false) → K (at0 C.cb) B) : rel_Rel_Scan.sp (at0 R.rb) n cols words A K := by
  refine rel_Rel_Scan.of ?_
  unfold rel_Rel_Scan.vc
  refine br_f rfl ⟨Ext A, .refl _ _, ?_⟩
  have hW := hF.W
  refine hcloneI_ok hc (by omega) fun cc H1 o1 e1 f1 => ⟨e1, ?_⟩
  refine tclone_ok (hw.ext e1) (by omega) fun wc H2 o2 e2 f2 => ⟨e1.trans e2, ?_⟩
  simp only [optK_eq, at0]
  refine RowT.ldC (c := cInt .i64) (i := 10) (x := (R.turns : Int)) (cs := fun _ => relV p R) (fun D hD => h.rel.row.ext hD) (fun _ _ => rfl) ?_
  refine newC_rowT fun H3 z3 r3 e3 => ?_
  obtain ⟨cb, hcb⟩ : ∃ cb, cb = H2.size := ⟨_, rfl⟩
  rw [← hcb] at r3 ⊢
  have e13 := (e1.trans e2).trans e3
  have hlt := h.ltX
  have z1 := e1.size
  have z2 := e2.size
  refine asked_ok (X := fun b => b = cb) (h.rel.grow e13) (fun b u => by omega) fun ps D hps hnone eD => ?_
  have eAD := e13.trans eD
  have zD := eD.size
  have hpn := hps.len
  rw [List.length_map] at hpn
  have hqs := R.asked_parts n
  have hql : (R.asked n).length ≤ 1000000 := by unfold RelS.asked; split <;> (try split) <;> (try split) <;> simp
  generalize R.asked n = qs at *
  have rD := r3.ext eD
  have rel : ∀ {B : Heap}, Mod (fun b => b = cb) D B → Ext A B := fun {B} mm => ⟨by have := mm.size; omega, fun b hb _ => by rw [mm.same b (by omega) (by omega)]; exact eAD.same b hb id⟩
  have hcn := hc.len
  have hwn := hw.len
  refine ⟨fun _ B => RowT B cb ty_rel_Cursor (curV R.rb 0 (Sl.mk none 0 0) cc wc (Sl.mk none 0 0) (Sl.mk none 0 0) R.turns false false) ∧ Mod (fun b => b = cb) D B, ?_, ?_⟩
  · refine br_f ?_ ?_
    · have : ps.a.isNone = false := by
        cases hp : ps.a.isNone with
        | true => exact absurd (hnone.1 hp) hn
        | false => rfl
      rw [this]; simp; omega
    · simp only [optK_eq, add_add, Nat.reduceAdd]
      refine RowT.ld (c := cInt .i64) (i := 2) (x := (R.W : Int)) (h.rel.grow eAD).row rfl ?_
      have : decide ((cols.n : Int) > (R.W : Int)) = false := by simp; omega
      rw [this]
      exact RowT.st rD (i := 8) (by simp) rfl fun B rB mB zB => ⟨rB, mB⟩
  rintro _ B0 ⟨r0, m0⟩
  refine loop_upto cl.length (fun i z B => z = (i : Int) ∧ RowT B cb ty_rel_Cursor (curV R.rb 0 (Sl.mk none 0 0) cc wc (Sl.mk none 0 0) (Sl.mk none 0 0) R.turns false false) ∧ Mod (fun b => b = cb) D B) ⟨rfl, r0, m0⟩ ?_
  rintro i _ B next hi ⟨rfl, rB, mB⟩ hnext
  have eB := rel mB
  refine br_mk (fun hcd => ?_) (fun hcd => ?_)
  · have hil : i < cl.length := by have : (i : Int) < (cols.n : Int) := by simpa using hcd
                                   omega
    refine ints_get (hc.ext eB) (i := (i : Int)) (j := i) rfl hil fun ad _ => ?_
    have hx : cl.getD i 0 = cl[i] := by simp [List.getD, List.getElem?_eq_getElem hil]
    obtain ⟨x0, x1⟩ := hcl _ (List.getElem_mem hil)
    rw [hx]
    refine RowT.ld (c := cBool) (i := 8) (x := false) rB rfl ?_
    refine br_f (by simp; omega) ?_
    simp only [optK_eq, add_add, Nat.reduceAdd]
    refine RowT.ld (c := cInt .i64) (i := 2) (x := (R.W : Int)) (h.rel.grow eB).row rfl ?_
    refine br_f (by simp; omega) ⟨⟨by omega, by omega⟩, ?_⟩
    rw [Int.toNat_natCast]
    refine containsI_ok ((hc.ext eB).take (by omega)) (by rw [List.length_take]; omega) ?_
    have hno : cl[i] ∉ cl.take i := fun u => by
      obtain ⟨j, hj⟩ := List.mem_iff_getElem?.1 u
      have hjl := (List.getElem?_eq_some_iff.1 hj).1
      rw [List.length_take] at hjl
      rw [List.getElem?_take, if_pos (by omega)] at hj
      have := (List.getElem?_inj (l := cl) (i := j) (j := i) (by omega) hnd).1 (by rw [hj, List.getElem?_eq_getElem hil])
      omega
    rw [decide_eq_false hno]
    refine RowT.st rB (i := 8) (by simp [curV]) rfl fun C rC mC zC => ?_
    exact hnext hil _ _ ⟨succ64 i (by omega), rC, mB.trans mC⟩
  clear hnext next hi hcd
  refine RowT.ld (c := cBool) (i := 8) (x := false) rB rfl ?_
  refine br_f rfl ?_
  have relB := h.rel.grow eB
  -- behind the order
  have tail : ∀ o : Nat, o < R.ords.length → ∀ (E : Heap) (low : Sl) (lowL : List Int), RowT E cb ty_rel_Cursor (curV R.rb o low cc wc (Sl.mk none 0 0) (Sl.mk none 0 0) R.turns false false) → Mod (fun b => b = cb) D E → Ints .u64 E low lowL → lowL.length ≤ 1000 → (∀ b, ownB low b → D.size ≤ b ∧ b < E.size) →
      (fitsO cl (R.ords.getD o []) = true ∧ (∀ j, j < o → fitsO cl (R.ords.getD j []) = false) ∧ lowL = ((R.ords.getD o []).take cl.length).map (wordAt cl wl) ∨ (∀ x ∈ R.ords, fitsO cl x = false) ∧ o = 0 ∧ lowL = []) →
      LoopVC Int (0 : Int) E fun next_2 z_4 H21 => br (decide (z_4 < (ps.n : Int))) (optK ps.a fun a_8 => (0 ≤ z_4 ∧ z_4 < (ps.n : Int)) ∧ Go.Proofs.YtjpkcdhjleemlaaGreatDoor.ld cPtr H21 (a_8.add (z_4.toNat * 1)) fun (t : Option Addr) => optK t fun a_9 => Go.Proofs.YtjpkcdhjleemlaaGreatDoor.ld cSl H21 (a_9.add 1) fun (x_11 : Sl) => br (decide ((x_11.n : Int) > (0 : Int))) (∃ G_2 : Heap → Prop, G_2 H21 ∧ ldC cSl G_2 (Addr.add ⟨cb, 0, none⟩ 5) fun (x_12 : Sl) => optK t fun a_10 => Go.Proofs.YtjpkcdhjleemlaaGreatDoor.ld cSl H21 (a_10.add 1) fun (x_13 : Sl) => optK x_13.a fun a_11 => (0 ≤ (o : Int) ∧ (o : Int) < (x_13.n : Int)) ∧ Go.Proofs.YtjpkcdhjleemlaaGreatDoor.ld cPtr H21 (a_11.add ((o : Int).toNat * 1)) fun (x_14 : Option Addr) => ldC cSl G_2 (Addr.add ⟨cb, 0, none⟩ 2) fun (x_15 : Sl) => tree_Tree_From.sp x_14 x_15 H21 fun (r_6 : Option Addr) H22 => G_2 H22 ∧ newC H22 #[(.pointer r_6)] ty_ptr_tree_Cursor fun p_1 H23 => G_2 H23 ∧ doT cSl Tryz.prog (Builtin.append_ #[ty_sl_ptr_tree_Cursor, ty_sl_ptr_tree_Cursor] ty_sl_ptr_tree_Cursor #[x_12.v, (.slice (some p_1) 1 1)]) H23 fun (s_1 : Sl) H24 => st H24 (Addr.add ⟨cb, 0, none⟩ 5) s_1.v fun H25 => next_2 (IntKind.i64.wrap (z_4 + (1 : Int))) H25) (next_2 (IntKind.i64.wrap (z_4 + (1 : Int))) H21)) (K (some ⟨cb, 0, none⟩) H21) := by
    intro o hol E low lowL rE mE hlow hll hlb hcond
    have eE := rel mE
    have zE := mE.size
    refine loop_upto qs.length (fun i z B => z = (i : Int) ∧ ∃ (fr : Sl) (tcs : List TC), RowT B cb ty_rel_Cursor (curV R.rb o low cc wc fr (Sl.mk none 0 0) R.turns false false) ∧ Mod (fun b => b = cb) E B ∧ Owns B 0 ty_ptr_tree_Cursor 1 fr (tcs.map fun t : TC => ptrV t.cb) ∧ (∀ b, ownB fr b → E.size ≤ b) ∧ tcs.map (·.t) = (qs.take i).filterMap (fun q => q.ts[o]?) ∧
      (∀ t ∈ tcs, CurB B F t.t.k t.cb t.lo lowL false ∧ t.ll = lowL ∧ t.strict = false ∧ E.size ≤ t.cb ∧ (∀ b, ownB t.lo b → E.size ≤ b) ∧ (∀ b, ownB fr b → b ≠ t.cb ∧ ¬ ownB t.lo b) ∧ ∀ u ∈ tcs, ¬ ownB t.lo u.cb) ∧ (tcs.map (·.cb)).Nodup) ⟨rfl, Sl.mk none 0 0, [], rE, .refl _ _, Owns.nil _ _ _ _, fun b u => (by obtain ⟨ad, ha, _⟩ := u; cases ha), rfl, fun t ht => (by cases ht), List.nodup_nil⟩ ?_
    rintro i _ B next hi ⟨rfl, fr, tcs, rB, mB, oB, fB, hmap, htc, hcbs⟩ hnext
    have mDB := mE.trans mB
    have eB := rel mDB
    have zB := mB.size
    have relB := h.rel.grow eB
    have hFl : ∀ b, F b → b < B.size := fun b u => by have := h.pool.pool.lt b u; have := eB.size; omega
    have tcl : ∀ t ∈ tcs, t.cb < B.size ∧ ∀ b, ownB t.lo b → b < B.size := fun t ht => by
      have hcu := (htc t ht).1
      exact ⟨obj_lt hcu.row, fun b ⟨ad, ha, e⟩ => e ▸ (hcu.off ad ha).1⟩
    have frl : ∀ b, ownB fr b → b < B.size := fun b hb => (oB.block b hb).2
    have hlowB : Ints .u64 B low lowL := hlow.mod mB fun ad ha u => by have := (hlb _ ⟨ad, ha, rfl⟩).1; omega
    refine br_mk (fun hcd => ?_) (fun hcd => ?_)
    · have hil : i < qs.length := by have : (i : Int) < (ps.n : Int) := by simpa using hcd
                                     omega
      have hSp : Step (fun b => b = cb) (fun b => b = cb) D B := ⟨mDB, fun _ u => .inl u⟩
      refine SlX.ld (c := cPtr) (x := at0 qs[i].pb) (i := i) (hps.step hSp) (by rw [List.getElem?_map, List.getElem?_eq_getElem hil]; rfl) rfl fun ad _ => ?_
      have hqi := hqs _ (List.getElem_mem hil)
      obtain ⟨rp, sp⟩ := relB.pt _ hqi
      have hspn := sp.len
      unfold ksV at hspn
      rw [List.length_map] at hspn
      have htk : qs.take (i + 1) = qs.take i ++ [qs[i]] := by rw [List.take_add_one, List.getElem?_eq_getElem hil]; rfl
      simp only [optK_eq, at0]
      refine RowT.ld (c := cSl) (i := 1) (x := qs[i].s) rp rfl ?_
      refine br_mk (fun hb => ?_) (fun hb => ?_)
      · have hpos : ((qs[i].s.n : Nat) : Int) > 0 := by simpa using hb
        have hlen : qs[i].ts.length = R.ords.length := (hts _ (List.getElem_mem hil)).resolve_left fun e => by rw [e] at hspn; simp at hspn; omega
        have hot : o < qs[i].ts.length := by omega
        have hto : qs[i].ts[o]? = some qs[i].ts[o] := List.getElem?_eq_getElem hot
        have hta : qs[i].ts[o] ∈ R.all := RelS.part_all hqi _ (List.getElem_mem hot)
        refine ⟨Ext B, .refl _ _, ?_⟩
        refine RowT.ldC (c := cSl) (i := 5) (x := fr) (cs := fun _ => curV R.rb o low cc wc fr (Sl.mk none 0 0) R.turns false false) (fun D hD => rB.ext hD) (fun _ _ => rfl) ?_
        refine RowT.ld (c := cSl) (i := 1) (x := qs[i].s) rp rfl ?_
        refine SlX.ld (c := cPtr) (x := at0 qs[i].ts[o].k) (i := o) sp (ksV_at hto) rfl fun ad2 _ => ?_
        refine RowT.ldC (c := cSl) (i := 2) (x := low) (cs := fun _ => curV R.rb o low cc wc fr (Sl.mk none 0 0) R.turns false false) (fun D hD => rB.ext hD) (fun _ _ => rfl) ?_
        refine treeFrom_ok hlowB (by omega) hFl (relB.tr _ hta).lt fun C tb lo eC curC htb1 htb2 hlo => ⟨eC, ?_⟩
        refine ⟨eC.trans (Mod.push (fun _ => False) C (.cells #[.pointer (at0 tb)] ty_ptr_tree_Cursor)), ?_⟩
        have zC := eC.size
        have hfn : fr.n = tcs.length := by have := oB.1; simp at this; omega
        have htl : tcs.length ≤ qs.length := by
          have := congrArg List.length hmap
          rw [List.length_map] at this
          have h2 := List.length_filterMap_le (fun q : PartS => q.ts[o]?) (qs.take i)
          rw [List.length_take] at h2
          omega
        have key := elCurP.push (ty := ty_sl_ptr_tree_Cursor) (H := C) (base := 0) (s := fr) (xs := tcs.map fun t : TC => ptrV t.cb) (v := .pointer (at0 tb)) (oB.ext eC) rfl (by omega) (by omega) (Nat.zero_le _)
          (K := fun s' G => Go.Proofs.YtjpkcdhjleemlaaGreatDoor.st G (Addr.add ⟨cb, 0, none⟩ 5) s'.v fun G' => next (IntKind.i64.wrap ((i : Int) + (1 : Int))) G')
        refine key fun fr' G n' oG mG bG _ => ?_
        have zG := mG.size
        have rG : RowT G cb ty_rel_Cursor (curV R.rb o low cc wc fr (Sl.mk none 0 0) R.turns false false) := (rB.ext eC).mod mG fun u => by have := fB _ u; omega
        refine RowT.st rG (i := 5) (by simp [curV]) (by cases fr'; rfl) fun J rJ mJ zJ => ?_
        have fG : ∀ b, ownB fr' b → E.size ≤ b := fun b hb => by
          rcases bG b hb with v | v
          · exact fB b v
          · omega
        have frN : ∀ b, ownB fr' b → ownB fr b ∨ C.size ≤ b := bG
        have mCJ : Mod (fun b => ownB fr b ∨ b = cb) C J := (mG.mono fun b _ u => .inl u).trans (mJ.mono fun b _ u => .inr u)
        refine hnext hil _ _ ⟨succ64 i (by omega), fr', tcs ++ [⟨qs[i].ts[o], tb, lo, lowL, false⟩], rJ, ?_, ?_, fG, ?_, ?_, ?_⟩
        · refine ⟨by omega, fun b hb hne => ?_⟩
          rw [mCJ.same b (by omega) fun u => u.elim (fun v => by have := fB b v; omega) hne, eC.same b (by omega) id]
          exact mB.same b hb hne
        · rw [List.map_append]
          exact oG.mod mJ fun b hb u => by have := fG b hb; omega
        · rw [List.map_append, hmap, htk, List.filterMap_append]
          simp [hto]
        · intro t ht
          rcases List.mem_append.1 ht with v | v
          · obtain ⟨q1, q2, q3, q4, q5, q6, q7⟩ := htc t v
            obtain ⟨l1, l2⟩ := tcl t v
            refine ⟨(q1.mod eC id fun _ _ => id).mod mCJ (fun u => u.elim (fun w => (q6 _ w).1 rfl) fun w => by omega) (fun b hb u => u.elim (fun w => (q6 _ w).2 hb) fun w => by have := q5 b hb; omega), q2, q3, q4, q5, fun b hb => ?_, fun u hu => ?_⟩
            · rcases frN b hb with w | w
              · exact q6 b w
              · exact ⟨by omega, fun u => by have := l2 b u; omega⟩
            · rcases List.mem_append.1 hu with w | w
              · exact q7 u w
              · have : u = ⟨qs[i].ts[o], tb, lo, lowL, false⟩ := by simpa using w
                subst this
                intro x
                have := l2 _ x
                simp at this
                omega
          · have : t = ⟨qs[i].ts[o], tb, lo, lowL, false⟩ := by simpa using v
            subst this
            refine ⟨curC.mod mCJ (fun u => u.elim (fun w => by have := frl _ w; omega) fun w => by omega) (fun b hb u => u.elim (fun w => by have := frl _ w; have := (hlo b hb).1; omega) fun w => by have := (hlo b hb).1; omega), rfl, rfl, by show E.size ≤ tb; omega, fun b hb => by have := (hlo b hb).1; omega, fun b hb => ?_, fun u hu => ?_⟩
            · rcases frN b hb with w | w
              · have := frl b w
                exact ⟨by show b ≠ tb; omega, fun u => by have := (hlo b u).1; omega⟩
              · have hlC : ∀ x, ownB lo x → x < C.size := fun x ⟨ad, ha, e⟩ => e ▸ (curC.off ad ha).1
                exact ⟨by show b ≠ tb; omega, fun u => by have := hlC b u; omega⟩
            · rcases List.mem_append.1 hu with w | w
              · intro x
                have h1 := (hlo _ x).1
                have h2 := (tcl u w).1
                omega
              · have : u = ⟨qs[i].ts[o], tb, lo, lowL, false⟩ := by simpa using w
                subst this
                exact fun x => (hlo _ x).2 rfl
        · rw [List.map_append, List.nodup_append]
          refine ⟨hcbs, by simp, fun a ha b hb e => ?_⟩
          obtain ⟨t, ht, rfl⟩ := List.mem_map.1 ha
          have := (tcl t ht).1
          simp at hb
          omega
      · have hz : ¬ ((qs[i].s.n : Nat) : Int) > 0 := by simpa using hb
        have hts0 : qs[i].ts = [] := List.eq_nil_of_length_eq_zero (by omega)
        refine hnext hil _ _ ⟨succ64 i (by omega), fr, tcs, rB, mB, oB, fB, ?_, htc, hcbs⟩
        rw [hmap, htk, List.filterMap_append]
        simp [hts0]
    · have hge : i = qs.length := by have : ¬ (i : Int) < (ps.n : Int) := by simpa using hcd
                                     omega
      subst hge
      rw [List.take_length] at hmap
      have own : ∀ b, CurS.Own ⟨cb, o, low, lowL, cc, cl, wc, wl, fr, tcs, Sl.mk none 0 0, [], R.turns, false⟩ b → b = cb ∨ ∃ t ∈ tcs, b = t.cb := by
        rintro b (u | u | ⟨ad, ha, _⟩)
        · exact .inl u
        · exact .inr u
        · cases ha
      have ownA : ∀ b, CurS.Own ⟨cb, o, low, lowL, cc, cl, wc, wl, fr, tcs, Sl.mk none 0 0, [], R.turns, false⟩ b → A.size ≤ b := fun b hb => by
        rcases own b hb with u | ⟨t, ht, u⟩
        · omega
        · have := (htc t ht).2.2.2.1; omega
      have offY : ∀ b, A.size ≤ b → b ≠ cb → (∀ t ∈ tcs, b ≠ t.cb) → ¬ R.X (CurS.Z ⟨cb, o, low, lowL, cc, cl, wc, wl, fr, tcs, Sl.mk none 0 0, [], R.turns, false⟩ F) b := by
        rintro b hb1 hb2 hb3 ((u | u) | u)
        · have := h.pool.pool.lt b u; omega
        · rcases own b u with v | ⟨t, ht, v⟩
          · exact hb2 v
          · exact hb3 t ht v
        · have := h.rel.lt b u; omega
      have c1 : ∀ b, ownB cc b → A.size ≤ b ∧ b < H1.size := fun b hb => ⟨f1 b hb, (o1.block b hb).2⟩
      have c2 : ∀ b, ownB wc b → H1.size ≤ b ∧ b < H2.size := fun b hb => ⟨f2 b hb, (o2.block b hb).2⟩
      have hA0 := h.pool.ext.size
      refine hK ⟨cb, o, low, lowL, cc, cl, wc, wl, fr, tcs, Sl.mk none 0 0, [], R.turns, false⟩ B ⟨h.rel.fresh eB ownA, rB, ⟨hlowB, fun ad ha => ?_⟩, ⟨?_, fun ad ha => ?_⟩, ⟨?_, fun ad ha => ?_⟩, ⟨?_, fun ad ha => ?_, oB.reads⟩, fun t ht => ?_, Owns.nil _ _ _ _, fun x hx => (by cases hx), hcbs, fun b hb => ?_⟩ eB ownA rfl rfl rfl rfl rfl rfl hol hcond hmap fun t ht => ⟨(htc t ht).2.1, (htc t ht).2.2.1⟩
      · have h1 := hlb _ ⟨ad, ha, rfl⟩
        exact ⟨by omega, offY _ (by omega) (by omega) fun t ht e => by have := (htc t ht).2.2.2.1; omega⟩
      · exact ((((o1.ext e2).ext e3).ext eD).mod mDB fun b hb u => by have := (c1 b hb).2; omega).ints
      · have h1 := c1 _ ⟨ad, ha, rfl⟩
        exact ⟨by omega, offY _ (by omega) (by omega) fun t ht e => by have := (htc t ht).2.2.2.1; omega⟩
      · exact (((o2.ext e3).ext eD).mod mDB fun b hb u => by have := (c2 b hb).2; omega).ints
      · have h1 := c2 _ ⟨ad, ha, rfl⟩
        exact ⟨by omega, offY _ (by omega) (by omega) fun t ht e => by have := (htc t ht).2.2.2.1; omega⟩
      · have := oB.1
        simp at this ⊢
        omega
      · have h1 := fB _ ⟨ad, ha, rfl⟩
        exact ⟨frl _ ⟨ad, ha, rfl⟩, offY _ (by omega) (by omega) fun t ht e => ((htc t ht).2.2.2.2.2.1 _ ⟨ad, ha, rfl⟩).1 e⟩
      · obtain ⟨q1, q2, q3, q4, q5, q6, q7⟩ := htc t ht
        refine ⟨?_, by rw [q2, q3]; exact q1, fun ad ha => ?_⟩
        · have : t.t ∈ tcs.map (·.t) := List.mem_map_of_mem ht
          rw [hmap] at this
          obtain ⟨q, hq, e⟩ := List.mem_filterMap.1 this
          exact RelS.part_all (hqs q hq) _ (List.mem_of_getElem? e)
        · have h1 := q5 _ ⟨ad, ha, rfl⟩
          exact ⟨(q1.off ad ha).1, offY _ (by omega) (by omega) fun u hu e => q7 u hu ⟨ad, ha, e⟩⟩
      · have := ownA b hb
        exact ⟨fun u => by have := h.pool.pool.lt b u; omega, by omega⟩
  -- which order fits
  refine fit_ok relB (hc.ext eB) (fun o ho => by rw [hord o ho]; exact hclW) (by omega) ho (fun i hi hfit hno => ?_) (fun hno => ?_)
  · refine RowT.st rB (i := 1) (by simp [curV]) rfl fun E0 rE0 mE0 zE0 => ?_
    have egd : R.ords.getD i [] = R.ords[i] := by simp [List.getD, List.getElem?_eq_getElem hi]
    have hlen := hord _ (List.getElem_mem hi)
    refine ⟨fun _ E => ∃ low, RowT E cb ty_rel_Cursor (curV R.rb i low cc wc (Sl.mk none 0 0) (Sl.mk none 0 0) R.turns false false) ∧ Mod (fun b => b = cb) D E ∧ Ints .u64 E low ((R.ords[i].take cl.length).map (wordAt cl wl)) ∧ (∀ b, ownB low b → D.size ≤ b ∧ b < E.size), ?_, ?_⟩
    · refine br_t rfl ?_
      simp only [optK_eq, add_add, Nat.reduceAdd]
      have mDE := mB.trans mE0
      have relE := h.rel.grow (rel mDE)
      refine RowT.ld (c := cSl) (i := 3) (x := R.os) relE.row rfl ?_
      have zDB := mB.size
      refine (h.rel.ords.old (rel mDE)).ld hi rfl fun ad r _ ra hr hcap => ?_
      have hrn := hr.len
      refine ⟨⟨by omega, by omega⟩, ?_⟩
      have en : ((cols.n : Int).toNat) - 0 = cl.length - 0 := by omega
      rw [en]
      have htl : (R.ords[i].take cl.length).length = cl.length := by rw [List.length_take]; omega
      refine loop_upto cl.length (fun k z E => z = (k : Int) ∧ ∃ low, RowT E cb ty_rel_Cursor (curV R.rb i low cc wc (Sl.mk none 0 0) (Sl.mk none 0 0) R.turns false false) ∧ Mod (fun b => b = cb) E0 E ∧ Owns E 0 ty_uint64 1 low ((((R.ords[i].take cl.length).take k).map (wordAt cl wl)).map (Value.int .u64)) ∧ (∀ b, ownB low b → E0.size ≤ b)) ⟨rfl, Sl.mk none 0 0, rE0, .refl _ _, Owns.nil _ _ _ _, fun b u => (by obtain ⟨ad, ha, _⟩ := u; cases ha)⟩ ?_
      rintro k _ E next1 hk ⟨rfl, low, rE, mE, oE, fE⟩ hnext1
      have zE := mE.size
      have mDE' := mDE.trans mE
      have eE := rel mDE'
      have hr' : Ints .i64 E r R.ords[i] := hr.mod mE fun ad ha u => by
        have h2 : ¬ A.size ≤ ad.block := (ra ad ha).2
        omega
      refine br_mk (fun hcd2 => ?_) (fun hcd2 => ?_)
      · have hkl : k < cl.length := by have : (k : Int) < ((cl.length - 0 : Nat) : Int) := by simpa using hcd2
                                       omega
        refine ints_get (hr'.take (i := cl.length) (by omega)) (i := (k : Int)) (j := k) rfl (by omega) fun ad2 _ => ?_
        refine ⟨Ext E, .refl _ _, ?_⟩
        refine RowT.ldC (c := cSl) (i := 2) (x := low) (cs := fun _ => curV R.rb i low cc wc (Sl.mk none 0 0) (Sl.mk none 0 0) R.turns false false) (fun D hD => rE.ext hD) (fun _ _ => rfl) ?_
        have hv : (R.ords[i].take cl.length).getD k 0 ∈ cl := by
          unfold fitsO at hfit
          rw [List.all_eq_true] at hfit
          refine of_decide_eq_true (hfit _ ?_)
          rw [List.getD, List.getElem?_eq_getElem (by omega)]
          exact List.getElem_mem _
        refine indexI_ok (hc.ext eE) (by omega) (fun j hj he hmin => ⟨.refl _ _, ?_⟩) (fun u => absurd hv u)
        refine ints_get (hw.ext eE) (i := (j : Int)) (j := j) rfl (by omega) fun ad3 _ => ?_
        have hwa : wl.getD j 0 = wordAt cl wl ((R.ords[i].take cl.length).getD k 0) := by
          unfold wordAt
          have : cl.findIdx (· == (R.ords[i].take cl.length).getD k 0) = j := by
            rw [List.findIdx_eq hj]
            refine ⟨?_, fun a ha => ?_⟩
            · have : cl.getD j 0 = cl[j] := by simp [List.getD, List.getElem?_eq_getElem hj]
              rw [this] at he
              simp [he]
            · have h1 := hmin a ha
              have : cl.getD a 0 = cl[a] := by simp [List.getD, List.getElem?_eq_getElem (show a < cl.length by omega)]
              rw [this] at h1
              simpa using h1
          rw [this]
        rw [hwa]
        refine ⟨Mod.push (fun _ => False) E (.cells #[.int .u64 (wordAt cl wl ((R.ords[i].take cl.length).getD k 0))] ty_uint64), ?_⟩
        have hln : low.n = k := by have := oE.1; simp at this; omega
        have key := elU64.push (ty := ty_sl_uint64) (H := E) (base := 0) (s := low) (v := .int .u64 (wordAt cl wl ((R.ords[i].take cl.length).getD k 0))) oE rfl (by omega) (by omega) (Nat.zero_le _)
          (K := fun s' G => Go.Proofs.YtjpkcdhjleemlaaGreatDoor.st G (Addr.add ⟨cb, 0, none⟩ 2) s'.v fun G' => next1 (IntKind.i64.wrap ((k : Int) + (1 : Int))) G')
        refine key fun low' G n' oG mG bG _ => ?_
        have zG := mG.size
        have rG := rE.mod mG fun u => by have := fE _ u; omega
        refine RowT.st rG (i := 2) (by simp [curV]) (by cases low'; rfl) fun J rJ mJ zJ => ?_
        have fG : ∀ b, ownB low' b → E0.size ≤ b := fun b hb => by
          rcases bG b hb with v | v
          · exact fE b v
          · omega
        refine hnext1 hkl _ _ ⟨succ64 k (by omega), low', rJ, ?_, ?_, fG⟩
        · refine ⟨by omega, fun b hb hne => ?_⟩
          rw [mJ.same b (by omega) hne, mG.same b (by omega) fun u => by have := fE b u; omega]
          exact mE.same b hb hne
        · have e1 : (R.ords[i].take cl.length).take (k + 1) = (R.ords[i].take cl.length).take k ++ [(R.ords[i].take cl.length).getD k 0] := by
            rw [List.take_add_one, List.getElem?_eq_getElem (by omega)]; simp [List.getD, List.getElem?_eq_getElem (show k < (R.ords[i].take cl.length).length by omega)]
          rw [e1, List.map_append, List.map_append]
          exact oG.mod mJ fun b hb u => by have := fG b hb; omega
      · have hge : k = cl.length := by have : ¬ (k : Int) < ((cl.length - 0 : Nat) : Int) := by simpa using hcd2
                                       omega
        subst hge
        rw [List.take_take, Nat.min_self] at oE
        exact ⟨low, rE, mDE', oE.ints, fun b hb => ⟨by have := fE b hb; have := mDE.size; omega, (oE.block b hb).2⟩⟩
    · rintro _ E ⟨low, rE, mE, il, lb⟩
      refine tail i hi E low _ rE mE il (by rw [List.length_map, List.length_take]; omega) lb (.inl ⟨by rw [egd]; exact hfit, fun j hj => ?_, by rw [egd]⟩)
      have := hno j hj
      simpa [List.getD, List.getElem?_eq_getElem (show j < R.ords.length by omega)] using this
  · refine RowT.st rB (i := 1) (by simp [curV]) rfl fun E0 rE0 mE0 zE0 => ?_
    refine ⟨fun _ E => E0 = E, br_f rfl rfl, ?_⟩
    rintro _ _ rfl
    exact tail 0 (by omega) E0 (Sl.mk none 0 0) [] rE0 (mB.trans mE0) ⟨rfl, Reads.nil _ _⟩ (by simp) (fun b u => by obtain ⟨ad, ha, _⟩ := u; cases ha) (.inr ⟨hno, rfl, rfl⟩)
end
end Go.Proofs.YtjpkcdhjleemlaaGreatDoor

/-
  Relations: a cursor asks a tree's next row: the walk.
-/
namespace Go.Proofs.YtjpkcdhjleemlaaGreatDoor
open Go.MapKept
theorem up_self {R : RelS} (hks : (R.all.map (·.k)).Nodup) {t : Tx} (ht : t ∈ R.all) : R.up t.k t.L = R := by
  have key : ∀ l : List Tx, (∀ x ∈ l, x ∈ R.all) → l.map (Tx.up t.k t.L) = l := fun l hl => by
    have : l.map (Tx.up t.k t.L) = l.map id := List.map_congr_left fun x hx => by
      unfold Tx.up
      split
      · rename_i e
        obtain ⟨i, hi⟩ := List.mem_iff_getElem?.1 (hl x hx)
        obtain ⟨j, hj⟩ := List.mem_iff_getElem?.1 ht
        have hlt := (List.getElem?_eq_some_iff.1 hi).1
        have hij := (List.getElem?_inj (l := R.all.map (·.k)) (i := i) (j := j) (by simpa using hlt) hks).1 (by rw [List.getElem?_map, List.getElem?_map, hi, hj]; simp [e])
        subst hij
        rw [hi] at hj
        have : x = t := Option.some.inj hj
        subst this
        rfl
      · rfl
    rw [this, List.map_id]
  have hp : ∀ q ∈ R.parts, q.up t.k t.L = q := fun q hq => by
    unfold PartS.up
    rw [key _ (RelS.part_all hq)]
  unfold RelS.up
  rw [hp R.f (by simp [RelS.parts]), hp R.d (by simp [RelS.parts]), hp R.e (by simp [RelS.parts]), key R.ex fun x hx => by unfold RelS.all; simp [hx]]
def TC.rest (t : TC) : List (List Int) := t.t.L.filter (pq t.ll t.strict)
def PullTo (lowL : List Int) (t t' : TC) (h' : Option (List Int)) : Prop :=
  t'.t = t.t ∧ t'.cb = t.cb ∧ ((t.rest.head? = none ∧ t'.ll = t.ll ∧ t'.strict = t.strict ∧ h' = none) ∨ ∃ y, t.rest.head? = some y ∧ t'.ll = y ∧ t'.strict = true ∧ h' = if beginsL y lowL then some y else none)
def CurS.with (C : CurS) (tcs : List TC) (hs : List (Sl × Option (List Int))) : CurS := ⟨C.cb, C.order, C.low, C.lowL, C.cols, C.colsL, C.words, C.wordsL, C.fr, tcs, C.heads, hs, C.turns, C.begun⟩
section
variable {H0 A B D : Heap} {F F' X : Nat → Prop} {p dp Q U most m c : Nat} {s s' : Pl} {M M' : Files} {R : RelS} {C : CurS} {ll : List Int}
theorem CurM.lt (h : CurM H0 A F p M R C) : ∀ b, C.Own b → b < A.size := by
  rintro b (rfl | ⟨t, ht, rfl⟩ | hb)
  · exact obj_lt h.row
  · exact obj_lt (h.tc t ht).2.1.row
  · exact (h.hd.block b hb).2
theorem HeadOk.step {Y Y' : Nat → Prop} {x : Sl × Option (List Int)} (h : HeadOk Y A x) (S : Step Y Y' A B) : HeadOk Y' B x :=
  ⟨h.1, fun y hy => ⟨(h.2 y hy).1, (h.2 y hy).2.2.ints (h.2 y hy).2.1 S, (h.2 y hy).2.2.step S⟩⟩
theorem CurM.cbT (h : CurM H0 A F p M R C) {t : TC} (ht : t ∈ C.tcs) : C.cb ≠ t.cb := fun e => by
  have h1 := (h.tc t ht).2.1.row
  rw [← e] at h1
  exact absurd (cells_ty h1 h.row) (by decide)
theorem CurM.hdT (h : CurM H0 A F p M R C) {t : TC} (ht : t ∈ C.tcs) : ¬ ownB C.heads t.cb := fun u => by
  obtain ⟨cur, e⟩ := h.hd.obj _ u
  exact absurd (cells_ty e (h.tc t ht).2.1.row) (by decide)
theorem CurM.hdC (h : CurM H0 A F p M R C) : ¬ ownB C.heads C.cb := fun u => by
  obtain ⟨cur, e⟩ := h.hd.obj _ u
  exact absurd (cells_ty e h.row) (by decide)
theorem set_own {C : CurS} {i : Nat} {t t' : TC} {hs : List (Sl × Option (List Int))} (hi : C.tcs[i]? = some t) (he : t'.cb = t.cb) : (C.tcs.set i t').map (·.cb) = C.tcs.map (·.cb) ∧ ∀ b, (C.with (C.tcs.set i t') hs).Own b ↔ C.Own b := by
  have hm : (C.tcs.set i t').map (·.cb) = C.tcs.map (·.cb) := by
    apply List.ext_getElem?
    intro j
    rw [List.getElem?_map, List.getElem?_map, List.getElem?_set]
    by_cases e : i = j
    · subst e
      have := (List.getElem?_eq_some_iff.1 hi).1
      rw [if_pos rfl, if_pos this, hi]
      simp [he]
    · rw [if_neg e]
  refine ⟨hm, fun b => ?_⟩
  have key : ∀ l : List TC, (∃ t ∈ l, b = t.cb) ↔ b ∈ l.map (·.cb) := fun l => by
    rw [List.mem_map]
    exact ⟨fun ⟨q, a, c⟩ => ⟨q, a, c.symm⟩, fun ⟨q, a, c⟩ => ⟨q, a, c.symm⟩⟩
  unfold CurS.Own CurS.with
  simp only
  rw [key, key, hm]
theorem CurM.moved {i : Nat} {t t' : TC} (h : CurM H0 A F p M R C) (hi : C.tcs[i]? = some t) (ht : t'.t = t.t) (hcb : t'.cb = t.cb) (S : Step (fun b => F b ∨ b = t.t.k ∨ b = t.cb) (fun b => F' b ∨ b = t.t.k ∨ b = t.cb) A B) (hk : ¬ F' t.t.k) (hT : TreeM B p M t.t.k t.t.n R.W t.t.L) (hcu : CurB B F' t.t.k t.cb t'.lo t'.ll t'.strict) (hlo : t'.lo = t.lo ∨ ∀ b, ownB t'.lo b → A.size ≤ b) :
    CurM H0 B F' p M R (C.with (C.tcs.set i t') C.hs) ∧ Step (R.X (C.Z F)) (R.X ((C.with (C.tcs.set i t') C.hs).Z F')) A B := by
  have htm : t ∈ C.tcs := List.mem_of_getElem? hi
  obtain ⟨htR, hcuA, hloA⟩ := h.tc t htm
  obtain ⟨hmap, hown⟩ := set_own (hs := C.hs) hi hcb
  have hOk : R.O t.t.k := .inr (.inr ⟨_, htR, rfl⟩)
  have hkZ := (h.rel.off _ hOk).1
  have hOt : C.Own t.cb := .inr (.inl ⟨t, htm, rfl⟩)
  have ownF : ∀ b, C.Own b → ¬ F' b := fun b hb u => by
    rcases S.own b (.inl u) with (v | v | v) | v
    · exact (h.off b hb).1 v
    · subst v; exact hkZ (.inr hb)
    · subst v; exact hcu.cb.1 u
    · have := h.lt b hb; omega
  have SY : Step (R.X (C.Z F)) (R.X ((C.with (C.tcs.set i t') C.hs).Z F')) A B := S.widen (fun b u => by
    rcases u with u | u | u
    · exact .inl (.inl u)
    · exact .inr (u ▸ hOk)
    · exact .inl (.inr (u ▸ hOt))) fun b u => by
    rcases u with (u | u) | u
    · exact .inr (.inl u)
    · exact .inl (.inl (.inr ((hown b).1 u)))
    · exact .inl (.inr u)
  have rel := h.rel.treeOp (F' := (C.with (C.tcs.set i t') C.hs).Z F') (M' := M) htR (S.widen (fun b u => by
    rcases u with u | u | u
    · exact .inl (.inl u)
    · exact .inr u
    · exact .inl (.inr (u ▸ hOt))) fun b u => by
    rcases u with (u | u) | u
    · exact .inr (.inl u)
    · exact .inl (.inl (.inr ((hown b).1 u)))
    · exact .inl (.inr u)) (fun u => by
    rcases u with u | u
    · exact hk u
    · exact hkZ (.inr ((hown _).1 u))) hT (fun _ _ => rfl)
  rw [up_self h.rel.ks htR] at rel
  have ownS : ∀ b, C.Own b → b ≠ t.cb → B[b]? = A[b]? := fun b hb e => S.mod.same b (h.lt b hb) fun u => by
    rcases u with u | u | u
    · exact (h.off b hb).1 u
    · subst u; exact hkZ (.inr hb)
    · exact e u
  have cbne := h.cbT htm
  refine ⟨⟨rel, (ownS _ (.inl rfl) cbne).trans h.row, ⟨h.low.2.ints h.low.1 SY, h.low.2.step SY⟩, ⟨h.cols.2.ints h.cols.1 SY, h.cols.2.step SY⟩, ⟨h.words.2.ints h.words.1 SY, h.words.2.step SY⟩, ?_, fun u hu => ?_, ?_, fun x hx => (h.hr x hx).step SY, by rw [show (C.with (C.tcs.set i t') C.hs).tcs = C.tcs.set i t' from rfl, hmap]; exact h.cbs, fun b hb => ⟨ownF b ((hown b).1 hb), (h.off b ((hown b).1 hb)).2⟩⟩, SY⟩
  · have e : ∀ l : List TC, (l.map fun t => ptrV t.cb) = (l.map (·.cb)).map ptrV := fun l => by rw [List.map_map]; rfl
    have := h.fr.step SY
    rw [e] at this ⊢
    rw [show (C.with (C.tcs.set i t') C.hs).tcs = C.tcs.set i t' from rfl, hmap]
    exact this
  · have hu : u ∈ C.tcs.set i t' := hu
    obtain ⟨j, hj⟩ := List.mem_iff_getElem?.1 hu
    rw [List.getElem?_set] at hj
    by_cases e : i = j
    · subst e
      rw [if_pos rfl, if_pos (List.getElem?_eq_some_iff.1 hi).1] at hj
      have : u = t' := (Option.some.inj hj).symm
      subst this
      refine ⟨ht ▸ htR, by rw [ht, hcb]; exact hcu, ?_⟩
      rcases hlo with e | e
      · rw [e]; exact hloA.step SY
      · intro ad ha
        have h1 := e _ ⟨ad, ha, rfl⟩
        obtain ⟨o1, o2⟩ := hcu.off ad ha
        refine ⟨o1, fun x => ?_⟩
        rcases x with (x | x) | x
        · exact o2 (.inl x)
        · have := h.lt _ ((hown _).1 x); omega
        · have := h.rel.lt _ x; omega
    · rw [if_neg e] at hj
      have hum : u ∈ C.tcs := List.mem_of_getElem? hj
      obtain ⟨a1, a2, a3⟩ := h.tc u hum
      have hne : u.cb ≠ t.cb := fun q => e ((List.getElem?_inj (l := C.tcs.map (·.cb)) (i := i) (j := j) (by simpa using (List.getElem?_eq_some_iff.1 hi).1) h.cbs).1 (by rw [List.getElem?_map, List.getElem?_map, hi, hj]; simp [q]))
      have hOu : C.Own u.cb := .inr (.inl ⟨u, hum, rfl⟩)
      have a4 := a3.step SY
      refine ⟨a1, ⟨(ownS _ hOu hne).trans a2.row, a3.ints a2.ints SY, a4.mono fun b _ x => ?_, ownF _ hOu, a2.cb.2⟩, a4⟩
      rcases x with x | x | x
      · exact .inl (.inl x)
      · exact .inr (x ▸ .inr (.inr ⟨_, a1, rfl⟩))
      · exact .inl (.inr ((hown b).2 (x ▸ hOu)))
  · exact h.hd.mod S.mod fun b hb u => by
      rcases u with u | u | u
      · exact (h.off b (.inr (.inr hb))).1 u
      · subst u; exact hkZ (.inr (.inr (.inr hb)))
      · subst u; exact h.hdT htm hb
theorem CurM.head {i : Nat} {x : Sl × Option (List Int)} (h : CurM H0 A F p M R C) (ho : Owns B 0 ty_sl_uint64 1 C.heads ((C.hs.set i x).map fun h => h.1.v)) (mm : Mod (ownB C.heads) A B) (hx : HeadOk (R.X (C.Z F)) B x) :
    CurM H0 B F p M R (C.with C.tcs (C.hs.set i x)) ∧ Step (R.X (C.Z F)) (R.X ((C.with C.tcs (C.hs.set i x)).Z F)) A B := by
  have SZ : Step (C.Z F) (C.Z F) A B := ⟨mm.mono fun b _ u => .inr (.inr (.inr u)), fun _ u => .inl u⟩
  have SY : Step (R.X (C.Z F)) (R.X (C.Z F)) A B := Step.rel SZ
  refine ⟨⟨h.rel.pool SZ, h.row.mod mm h.hdC, ⟨h.low.2.ints h.low.1 SY, h.low.2.step SY⟩, ⟨h.cols.2.ints h.cols.1 SY, h.cols.2.step SY⟩, ⟨h.words.2.ints h.words.1 SY, h.words.2.step SY⟩, h.fr.step SY, fun u hu => ?_, ho, fun y hy => ?_, h.cbs, h.off⟩, SY⟩
  · obtain ⟨a1, a2, a3⟩ := h.tc u hu
    refine ⟨a1, ⟨a2.row.mod mm (h.hdT hu), a3.ints a2.ints SY, fun ad ha => ⟨Nat.lt_of_lt_of_le (a2.off ad ha).1 mm.size, (a2.off ad ha).2⟩, a2.cb⟩, a3.step SY⟩
  · have hy : y ∈ C.hs.set i x := hy
    rcases List.mem_or_eq_of_mem_set hy with u | u
    · exact (h.hr y u).step SY
    · rw [u]; exact hx
end
end Go.Proofs.YtjpkcdhjleemlaaGreatDoor

/-
  Relations: pull; the least of the heads: the walk.
-/
namespace Go.Proofs.YtjpkcdhjleemlaaGreatDoor
open Go.MapKept
section
variable {H0 A B D : Heap} {F F' X : Nat → Prop} {p dp Q U most m c : Nat} {s s' : Pl} {M M' : Files} {R : RelS} {C : CurS} {ll : List Int}
theorem CurM.grow (h : CurM H0 A F p M R C) (e : Ext A B) : CurM H0 B F p M R C := by
  have SY : Step (R.X (C.Z F)) (R.X (C.Z F)) A B := Step.ofExt e
  refine ⟨h.rel.grow e, h.row.ext e, ⟨h.low.1.ext e, h.low.2.step SY⟩, ⟨h.cols.1.ext e, h.cols.2.step SY⟩, ⟨h.words.1.ext e, h.words.2.step SY⟩, h.fr.step SY, fun u hu => ?_, h.hd.ext e, fun y hy => (h.hr y hy).step SY, h.cbs, h.off⟩
  obtain ⟨a1, a2, a3⟩ := h.tc u hu
  exact ⟨a1, a2.mod e id fun _ _ => id, a3.step SY⟩
theorem PoolM.heads (h : PoolM H0 A F p dp s M Q U most m) (hc : CurM H0 A F p M R C) (mm : Mod (ownB C.heads) A B) : PoolM H0 B F p dp s M Q U most m :=
  h.aside ⟨Nat.le_trans h.ext.size mm.size, fun b hb _ => (mm.same b (Nat.lt_of_lt_of_le hb h.ext.size) fun u => by have := (hc.off b (.inr (.inr u))).2; omega).trans (h.ext.same b hb id)⟩ fun b hb => mm.same b (h.pool.lt b hb) fun u => (hc.off b (.inr (.inr u))).1 hb
theorem heads_n (h : CurM H0 A F p M R C) : C.heads.n = C.hs.length := by
  have := h.hd.1
  rw [List.length_map] at this
  omega
set_option maxHeartbeats 2000000 in
theorem pull_ok {i : Nat} {t : TC} {K : Int → Heap → Prop} (hP : PoolM H0 A F p dp s M Q U most m) (h : CurM H0 A F p M R C) (hg : Gl H0) (hF : R.Fit) (hQ : Q ≤ 1048576) (hm : m + 1000000 ≤ 30000000000) (hi : C.tcs[i]? = some t) (hhs : C.hs.length = C.tcs.length)
    (hK : ∀ F' s' t' h' B, PoolM H0 B F' p dp s' M Q U most (m + 1000000) → CurM H0 B F' p M R (C.with (C.tcs.set i t') (C.hs.set i h')) → PullTo C.lowL t t' h'.2 → Step (R.X (C.Z F)) (R.X ((C.with (C.tcs.set i t') (C.hs.set i h')).Z F')) A B → K 0 B) : rel_Cursor_pull.sp (at0 C.cb) (i : Int) A K := by
  refine rel_Cursor_pull.of ?_
  unfold rel_Cursor_pull.vc
  simp only [optK_eq, at0]
  refine RowT.ld (c := cSl) (i := 5) (x := C.fr) h.row rfl ?_
  have hil := (List.getElem?_eq_some_iff.1 hi).1
  refine SlX.ld (c := cPtr) (x := at0 t.cb) (i := i) h.fr (by rw [List.getElem?_map, hi]; rfl) rfl fun ad _ => ?_
  have htm : t ∈ C.tcs := List.mem_of_getElem? hi
  obtain ⟨htR, hcu, hlo⟩ := h.tc t htm
  have hOk : R.O t.t.k := .inr (.inr ⟨_, htR, rfl⟩)
  have hkZ := h.rel.off _ hOk
  have hOt : C.Own t.cb := .inr (.inl ⟨t, htm, rfl⟩)
  have hT := h.rel.tr _ htR
  have plain0 : plainV (.slice none 0 0) = true := rfl
  refine hT.next hP hg ⟨fun u => hkZ.1 (.inl u), hkZ.2⟩ (h.off _ hOt).2 (hF.nm h.rel htR) hF.W (hF.rows _ htR) hQ hm hcu (fun hno F1 s1 B p1 T1 S1 k1 c1 => ?_) (fun y hy F1 s1 B sl lo' p1 T1 S1 k1 c1 o1 f1 => ?_)
  · obtain ⟨cm, SY⟩ := h.moved (t' := t) hi rfl rfl S1 k1 T1 c1 (.inl rfl)
    refine RowT.ld (c := cSl) (i := 6) (x := C.heads) cm.row rfl ?_
    have hn := heads_n cm
    have hn : C.heads.n = C.hs.length := hn
    refine Owns.st cm.hd (by omega) (by show (i : Int) < (C.heads.n : Int); omega) plain0 fun D oD mD zD => ?_
    have oD' : Owns D 0 ty_sl_uint64 1 C.heads ((C.hs.set i (Sl.mk none 0 0, none)).map fun h => h.1.v) := by
      rw [List.map_set]
      rw [Int.toNat_natCast] at oD
      exact oD
    obtain ⟨cm2, SY2⟩ := cm.head (i := i) (x := (Sl.mk none 0 0, none)) oD' mD ⟨fun _ => rfl, fun y hy => by cases hy⟩
    refine br_f rfl ?_
    exact hK F1 s1 t (Sl.mk none 0 0, none) D (p1.heads cm mD) cm2 ⟨rfl, rfl, .inl ⟨hno, rfl, rfl, rfl⟩⟩ (SY.trans SY2)
  · obtain ⟨cm, SY⟩ := h.moved (t' := ⟨t.t, t.cb, lo', y, true⟩) hi rfl rfl S1 k1 T1 c1 (.inr f1.2)
    refine RowT.ld (c := cSl) (i := 6) (x := C.heads) cm.row rfl ?_
    have hn := heads_n cm
    have hn : C.heads.n = C.hs.length := hn
    have hBz := S1.mod.size
    refine Owns.st cm.hd (by omega) (by show (i : Int) < (C.heads.n : Int); omega) plain0 fun D oD mD zD => ?_
    have oD' : Owns D 0 ty_sl_uint64 1 C.heads ((C.hs.set i (Sl.mk none 0 0, none)).map fun h => h.1.v) := by
      rw [List.map_set]
      rw [Int.toNat_natCast] at oD
      exact oD
    obtain ⟨cm2, SY2⟩ := cm.head (i := i) (x := (Sl.mk none 0 0, none)) oD' mD ⟨fun _ => rfl, fun y hy => by cases hy⟩
    have pD := p1.heads cm mD
    refine br_t rfl ?_
    refine RowT.ld (c := cSl) (i := 2) (x := C.low) cm2.row rfl ?_
    have hyL : y ∈ t.t.L := by
      have : y ∈ t.t.L.filter (pq t.ll t.strict) := List.mem_of_mem_head? hy
      exact (List.mem_filter.1 this).1
    have hyl := (hT.rows y hyL).1
    have hW := hF.W
    have o1D : Owns D 0 ty_uint64 1 sl (y.map (Value.int .u64)) := o1.mod mD fun b hb hb' => by
      have h1 := (f1.1 b hb).1
      have h2 := h.lt b (.inr (.inr hb'))
      omega
    refine rowBegins_ok o1D.ints cm2.low.1 o1D.cap (by omega) ?_
    refine br_mk (fun hb => ?_) (fun hb => ?_)
    · refine ⟨Ext D, .refl _ _, ?_⟩
      refine RowT.ldC (c := cSl) (i := 6) (x := C.heads) (cs := fun _ => curV R.rb C.order C.low C.cols C.words C.fr C.heads C.turns false C.begun) (fun G hG => cm2.row.ext hG) (fun _ _ => rfl) ?_
      have hsn := o1D.ints.len
      rw [show IntKind.i64.wrap ((sl.n : Int) + 1) = ((y.length + 1 : Nat) : Int) by rw [wrap64 (by omega) (by omega)]; omega]
      refine elU64.make (base := 0) (by omega) (by omega) (by omega) (by omega) (Nat.zero_le _) fun sl2 E n2 o2 e2 b2 hne => ⟨e2, ?_⟩
      have hzE := e2.size
      refine elU64.append (base := 0) (s := sl2) (x := sl) (xs := []) (ws := y.map (Value.int .u64)) o2 (by simp; omega) (o1D.ext e2).ints.reads (intsOne _ _) (by simp at n2; omega) (by simp at n2; omega) (Nat.zero_le _) fun s3 G n3 o3 m3 b3 hnil => ?_
      have eG : Ext D G := ((Ext.mod e2).trans m3).ext b2
      refine ⟨eG, ?_⟩
      have cm3 := cm2.grow eG
      have hn2 : C.heads.n = (C.hs.set i (Sl.mk none 0 0, none)).length := by rw [List.length_set]; exact hn
      refine Owns.st cm3.hd (by omega) (by show (i : Int) < (C.heads.n : Int); omega) (by cases s3; rfl) fun J oJ mJ zJ => ?_
      have f3 : ∀ b, ownB s3 b → D.size ≤ b := fun b hb => by
        rcases b3 b hb with v | v
        · exact b2 b v
        · omega
      have oJ' : Owns J 0 ty_sl_uint64 1 C.heads (((C.hs.set i (Sl.mk none 0 0, none)).set i (s3, some y)).map fun h => h.1.v) := by
        rw [List.map_set]
        rw [Int.toNat_natCast] at oJ
        exact oJ
      have hlt3 := cm2.lt
      have i3 : Ints .u64 J s3 y := by
        have : Owns J 0 ty_uint64 1 s3 (y.map (Value.int .u64)) := by
          have := o3.mod mJ fun b hb hb' => by
            have h1 := f3 b hb
            have h2 := hlt3 b (.inr (.inr hb'))
            omega
          simpa using this
        exact this.ints
      obtain ⟨cm4, SY4⟩ := cm3.head (i := i) (x := (s3, some y)) oJ' mJ ⟨fun u => (by cases u), fun z hz => by
        have : z = y := (Option.some.inj hz).symm
        subst this
        refine ⟨fun u => hne (hnil.1 u).1, i3, fun ad ha => ⟨?_, fun u => ?_⟩⟩
        · have := (o3.block _ ⟨ad, ha, rfl⟩).2; omega
        · have h1 := f3 _ ⟨ad, ha, rfl⟩
          rcases u with (u | u) | u
          · have := pD.pool.lt _ u; omega
          · have := cm2.lt _ u; omega
          · have := cm2.rel.lt _ u; omega⟩
      have e : (C.with (C.tcs.set i ⟨t.t, t.cb, lo', y, true⟩) ((C.hs.set i (Sl.mk none 0 0, none)).set i (s3, some y))) = C.with (C.tcs.set i ⟨t.t, t.cb, lo', y, true⟩) (C.hs.set i (s3, some y)) := by rw [List.set_set]
      have cm4' : CurM H0 J F1 p M R (C.with (C.tcs.set i ⟨t.t, t.cb, lo', y, true⟩) (C.hs.set i (s3, some y))) := e ▸ cm4
      refine hK F1 s1 _ (s3, some y) J ((pD.grow eG).heads cm3 mJ) cm4' ⟨rfl, rfl, .inr ⟨y, hy, rfl, rfl, ?_⟩⟩ (((SY.trans SY2).trans (Step.ofExt eG)).trans SY4)
      exact (if_pos (show beginsL y C.lowL = true from hb)).symm
    · refine hK F1 s1 _ (Sl.mk none 0 0, none) D pD cm2 ⟨rfl, rfl, .inr ⟨y, hy, rfl, rfl, ?_⟩⟩ (SY.trans SY2)
      have hb' : beginsL y C.lowL = false := hb
      exact (if_neg (by rw [hb']; simp)).symm
end
end Go.Proofs.YtjpkcdhjleemlaaGreatDoor

/-
  Relations: the least of a cursor's heads: the walk.
-/
namespace Go.Proofs.YtjpkcdhjleemlaaGreatDoor
open Go.MapKept
def CurS.start (C : CurS) (heads : Sl) (hs : List (Sl × Option (List Int))) : CurS := ⟨C.cb, C.order, C.low, C.lowL, C.cols, C.colsL, C.words, C.wordsL, C.fr, C.tcs, heads, hs, C.turns, true⟩
structure Begun (C C1 : CurS) : Prop where
  begun : C1.begun = true
  cb : C1.cb = C.cb
  order : C1.order = C.order
  lowL : C1.lowL = C.lowL
  colsL : C1.colsL = C.colsL
  wordsL : C1.wordsL = C.wordsL
  turns : C1.turns = C.turns
  len : C1.hs.length = C1.tcs.length
  old : C.begun = true → C1 = C
  new : C.begun = false → C1.tcs.length = C.tcs.length ∧ ∀ (i : Nat) (t : TC), C.tcs[i]? = some t → ∃ (t' : TC) (h' : Sl × Option (List Int)), C1.tcs[i]? = some t' ∧ C1.hs[i]? = some h' ∧ PullTo C.lowL t t' h'.2
section
variable {H0 A B D : Heap} {F F' X : Nat → Prop} {p dp Q U most m c : Nat} {s s' : Pl} {M M' : Files} {R : RelS} {C : CurS} {ll : List Int}
theorem CurM.begin {sl : Sl} {n : Nat} (h : CurM H0 A F p M R C) (hn : C.heads = Sl.mk none 0 0) (hlt : ∀ b, F b → b < A.size) (hz : H0.size ≤ A.size) (ho : Owns B 0 ty_sl_uint64 1 sl (List.replicate n (Value.slice none 0 0))) (fo : ∀ b, ownB sl b → A.size ≤ b) (mm : Mod (fun b => b = C.cb) A B)
    (r : RowT B C.cb ty_rel_Cursor (curV R.rb C.order C.low C.cols C.words C.fr sl C.turns false true)) : CurM H0 B F p M R (C.start sl (List.replicate n (Sl.mk none 0 0, none))) ∧ Step (R.X (C.Z F)) (R.X ((C.start sl (List.replicate n (Sl.mk none 0 0, none))).Z F)) A B := by
  have own : ∀ b, (C.start sl (List.replicate n (Sl.mk none 0 0, none))).Own b ↔ C.Own b ∨ ownB sl b := by
    intro b
    unfold CurS.Own CurS.start
    simp only
    have : ¬ ownB C.heads b := by rw [hn]; rintro ⟨ad, ha, _⟩; cases ha
    constructor
    · rintro (u | u | u)
      · exact .inl (.inl u)
      · exact .inl (.inr (.inl u))
      · exact .inr u
    · rintro ((u | u | u) | u)
      · exact .inl u
      · exact .inr (.inl u)
      · exact absurd u this
      · exact .inr (.inr u)
  have hZe : (C.start sl (List.replicate n (Sl.mk none 0 0, none))).Z F = fun b => C.Z F b ∨ ownB sl b := by
    funext b
    refine propext ?_
    unfold CurS.Z
    rw [own b]
    exact ⟨fun u => u.elim (fun v => .inl (.inl v)) fun v => v.elim (fun w => .inl (.inr w)) .inr, fun u => u.elim (fun v => v.elim .inl fun w => .inr (.inl w)) fun w => .inr (.inr w)⟩
  have SZ : Step (C.Z F) ((C.start sl (List.replicate n (Sl.mk none 0 0, none))).Z F) A B := by
    rw [hZe]
    exact ⟨mm.mono fun b _ u => .inr (.inl u), fun b u => u.imp id (fo b)⟩
  have SY := Step.rel (R := R) SZ
  refine ⟨⟨h.rel.pool SZ, r, ⟨h.low.2.ints h.low.1 SY, h.low.2.step SY⟩, ⟨h.cols.2.ints h.cols.1 SY, h.cols.2.step SY⟩, ⟨h.words.2.ints h.words.1 SY, h.words.2.step SY⟩, h.fr.step SY, fun u hu => ?_, ?_, fun x hx => ?_, h.cbs, fun b hb => ?_⟩, SY⟩
  · obtain ⟨a1, a2, a3⟩ := h.tc u hu
    exact ⟨a1, ⟨a2.row.mod mm (fun e => h.cbT hu e.symm), a3.ints a2.ints SY, fun ad ha => ⟨Nat.lt_of_lt_of_le (a2.off ad ha).1 mm.size, (a2.off ad ha).2⟩, a2.cb⟩, a3.step SY⟩
  · have : (C.start sl (List.replicate n (Sl.mk none 0 0, none))).hs.map (fun h => h.1.v) = List.replicate n (Value.slice none 0 0) := by
      show (List.replicate n ((Sl.mk none 0 0 : Sl), (none : Option (List Int)))).map _ = _
      rw [List.map_replicate]
    rw [this]; exact ho
  · have hx : x ∈ List.replicate n ((Sl.mk none 0 0 : Sl), (none : Option (List Int))) := hx
    rw [List.eq_of_mem_replicate hx]
    exact ⟨fun _ => rfl, fun y hy => by cases hy⟩
  · rcases (own b).1 hb with u | u
    · exact h.off b u
    · exact ⟨fun v => by have := hlt b v; have := fo b u; omega, by have := fo b u; omega⟩
def Best (hs : List (Sl × Option (List Int))) (n : Nat) (b : Int) : Prop :=
  (b = -1 ∧ ∀ i, i < n → ∀ x, hs[i]? = some x → x.2 = none) ∨ ∃ (j : Nat) (r : Sl) (y : List Int), b = (j : Int) ∧ j < n ∧ hs[j]? = some (r, some y) ∧ ∀ i, i < n → ∀ x l, hs[i]? = some x → x.2 = some l → ¬ cmpL l y < 0
theorem SlX.ofOwn {Y : Nat → Prop} {e : TypeId} {sl : Sl} {vs : List Value} (ho : Owns A 0 e 1 sl vs) (hY : ∀ b, ownB sl b → ¬ Y b) : SlX Y A sl vs :=
  ⟨by have := ho.1; omega, fun ad ha => ⟨(ho.block _ ⟨ad, ha, rfl⟩).2, hY _ ⟨ad, ha, rfl⟩⟩, ho.reads⟩
set_option maxHeartbeats 2000000 in
theorem best_ok {K : (Sl × Int) → Heap → Prop} (hP : PoolM H0 A F p dp s M Q U most m) (h : CurM H0 A F p M R C) (hg : Gl H0) (hF : R.Fit) (hQ : Q ≤ 1048576) (hm : m + 1000000 ≤ 30000000000) (hhs : C.hs.length = C.tcs.length) (hl : C.hs.length ≤ 1000)
    (hrow : ∀ x ∈ C.hs, ∀ y, x.2 = some y → y.length ≤ 1000)
    (hK0 : (∀ x ∈ C.hs, x.2 = none) → K (Sl.mk none 0 0, 0) A)
    (hK1 : ∀ i y t r F' s' t' h' B, C.tcs[i]? = some t → C.hs[i]? = some (r, some y) → (∀ x ∈ C.hs, ∀ l, x.2 = some l → ¬ cmpL l y < 0) → PoolM H0 B F' p dp s' M Q U most (m + 1000000) → CurM H0 B F' p M R (C.with (C.tcs.set i t') (C.hs.set i h')) → PullTo C.lowL t t' h'.2 → Ints .u64 B r y → Off (R.X ((C.with (C.tcs.set i t') (C.hs.set i h')).Z F')) B r → r.a ≠ none → Step (R.X (C.Z F)) (R.X ((C.with (C.tcs.set i t') (C.hs.set i h')).Z F')) A B → K (r, 0) B) :
    optK (at0 C.cb) fun a_5 => Go.Proofs.YtjpkcdhjleemlaaGreatDoor.ld cSl A (a_5.add 6) fun (x_3 : Sl) => LoopVC (Int × Int) ((-1 : Int), (0 : Int)) A fun next_1 z_2 H7 => br (decide (z_2.2 < (x_3.n : Int))) (optK x_3.a fun a_6 => (0 ≤ z_2.2 ∧ z_2.2 < (x_3.n : Int)) ∧ Go.Proofs.YtjpkcdhjleemlaaGreatDoor.ld cSl H7 (a_6.add (z_2.2.toNat * 1)) fun (l : Sl) => br ((!l.a.isNone) == true) (br (decide (z_2.1 < (0 : Int))) (next_1 (z_2.2, IntKind.i64.wrap (z_2.2 + (1 : Int))) H7) (optK (at0 C.cb) fun a_7 => Go.Proofs.YtjpkcdhjleemlaaGreatDoor.ld cSl H7 (a_7.add 6) fun (x_4 : Sl) => optK x_4.a fun a_8 => (0 ≤ z_2.1 ∧ z_2.1 < (x_4.n : Int)) ∧ Go.Proofs.YtjpkcdhjleemlaaGreatDoor.ld cSl H7 (a_8.add (z_2.1.toNat * 1)) fun (x_5 : Sl) => row_Cmp.sp l x_5 H7 fun (r : Int) H8 => br (decide (r < (0 : Int))) (next_1 (z_2.2, IntKind.i64.wrap (z_2.2 + (1 : Int))) H8) (next_1 (z_2.1, IntKind.i64.wrap (z_2.2 + (1 : Int))) H8))) (next_1 (z_2.1, IntKind.i64.wrap (z_2.2 + (1 : Int))) H7)) (br (decide (z_2.1 < (0 : Int))) (K ((Sl.mk none 0 0), (0 : Int)) H7) (optK (at0 C.cb) fun a_9 => Go.Proofs.YtjpkcdhjleemlaaGreatDoor.ld cSl H7 (a_9.add 6) fun (x_6 : Sl) => optK x_6.a fun a_10 => (0 ≤ z_2.1 ∧ z_2.1 < (x_6.n : Int)) ∧ Go.Proofs.YtjpkcdhjleemlaaGreatDoor.ld cSl H7 (a_10.add (z_2.1.toNat * 1)) fun (l_1 : Sl) => rel_Cursor_pull.sp (at0 C.cb) z_2.1 H7 fun (r_1 : Int) H9 => K (l_1, r_1) H9)) := by
  simp only [optK_eq, at0]
  refine RowT.ld (c := cSl) (i := 6) (x := C.heads) h.row rfl ?_
  have hn := heads_n h
  have hsx : SlX (fun _ => False) A C.heads (C.hs.map fun h => h.1.v) := SlX.ofOwn h.hd fun _ _ => id
  have at' : ∀ {i : Nat} {x : Sl × Option (List Int)}, C.hs[i]? = some x → (C.hs.map fun h => h.1.v)[i]? = some (cSl.enc x.1) := fun {i x} e => by rw [List.getElem?_map, e]; rfl
  refine loop_upto C.hs.length (fun i z B => z.2 = (i : Int) ∧ A = B ∧ Best C.hs i z.1) ⟨rfl, rfl, .inl ⟨rfl, fun i hi => by omega⟩⟩ ?_
  rintro i ⟨b, _⟩ _ next hi ⟨rfl, rfl, hb⟩ hnext
  dsimp only at hb ⊢
  refine br_mk (fun hcd => ?_) (fun hcd => ?_)
  · have hlt : i < C.hs.length := by have : (i : Int) < (C.heads.n : Int) := by simpa using hcd
                                     omega
    obtain ⟨⟨r, o⟩, hx⟩ : ∃ x, C.hs[i]? = some x := ⟨_, List.getElem?_eq_getElem hlt⟩
    refine SlX.ld (c := cSl) (x := r) (i := i) hsx (at' hx) rfl fun ad _ => ?_
    have hxm := List.mem_of_getElem? hx
    have hok := h.hr _ hxm
    cases o with
    | none =>
      have hr0 : r.a = none := hok.1 rfl
      refine br_f (by rw [hr0]; rfl) ?_
      refine hnext hlt _ _ ⟨succ64 i (by omega), rfl, ?_⟩
      rcases hb with ⟨e, hno⟩ | ⟨j, r2, y, e, hj, hjx, hmin⟩
      · refine .inl ⟨e, fun a ha x hax => ?_⟩
        by_cases q : a = i
        · subst q; rw [hx] at hax; rw [← Option.some.inj hax]
        · exact hno a (by omega) x hax
      · refine .inr ⟨j, r2, y, e, by omega, hjx, fun a ha x l hax hl => ?_⟩
        by_cases q : a = i
        · subst q; rw [hx] at hax; rw [← Option.some.inj hax] at hl; cases hl
        · exact hmin a (by omega) x l hax hl
    | some l =>
      obtain ⟨q1, q2, q3⟩ := hok.2 l rfl
      have hrn : r.a.isNone = false := by
        cases hra : r.a with
        | none => exact absurd hra q1
        | some _ => rfl
      refine br_t (by rw [hrn]; rfl) ?_
      rcases hb with ⟨e, hno⟩ | ⟨j, r2, y, e, hj, hjx, hmin⟩
      · subst e
        refine br_t rfl ?_
        refine hnext hlt _ _ ⟨succ64 i (by omega), rfl, .inr ⟨i, r, l, rfl, by omega, hx, fun a ha x l' hax hl' => ?_⟩⟩
        by_cases q : a = i
        · subst q; rw [hx] at hax
          rw [← Option.some.inj hax] at hl'
          have : l = l' := Option.some.inj hl'
          subst this
          exact ltR_irr l
        · rw [hno a (by omega) x hax] at hl'; cases hl'
      · subst e
        refine br_f (by simp) ?_
        refine RowT.ld (c := cSl) (i := 6) (x := C.heads) h.row rfl ?_
        refine SlX.ld (c := cSl) (x := r2) (i := j) hsx (at' hjx) rfl fun ad2 _ => ?_
        have hjm := List.mem_of_getElem? hjx
        obtain ⟨w1, w2, w3⟩ := (h.hr _ hjm).2 y rfl
        refine rowCmp_ok q2 w2 (by have := hrow _ hxm l rfl; omega) ?_
        refine br_mk (fun hc => ?_) (fun hc => ?_)
        · have hc : cmpL l y < 0 := of_decide_eq_true hc
          refine hnext hlt _ _ ⟨succ64 i (by omega), rfl, .inr ⟨i, r, l, rfl, by omega, hx, fun a ha x l' hax hl' hlt' => ?_⟩⟩
          by_cases q : a = i
          · subst q; rw [hx] at hax
            rw [← Option.some.inj hax] at hl'
            have : l = l' := Option.some.inj hl'
            subst this
            exact ltR_irr l hlt'
          · exact hmin a (by omega) x l' hax hl' (ltR_trans hlt' hc)
        · have hc : ¬ cmpL l y < 0 := of_decide_eq_false hc
          refine hnext hlt _ _ ⟨succ64 i (by omega), rfl, .inr ⟨j, r2, y, rfl, by omega, hjx, fun a ha x l' hax hl' => ?_⟩⟩
          by_cases q : a = i
          · subst q; rw [hx] at hax
            rw [← Option.some.inj hax] at hl'
            have : l = l' := Option.some.inj hl'
            subst this
            exact hc
          · exact hmin a (by omega) x l' hax hl'
  · have hge : i = C.hs.length := by have : ¬ (i : Int) < (C.heads.n : Int) := by simpa using hcd
                                     omega
    subst hge
    rcases hb with ⟨e, hno⟩ | ⟨j, r2, y, e, hj, hjx, hmin⟩
    · subst e
      refine br_t rfl (hK0 fun x hx => ?_)
      obtain ⟨a, ha⟩ := List.mem_iff_getElem?.1 hx
      exact hno a (List.getElem?_eq_some_iff.1 ha).1 x ha
    · subst e
      refine br_f (by simp) ?_
      refine RowT.ld (c := cSl) (i := 6) (x := C.heads) h.row rfl ?_
      refine SlX.ld (c := cSl) (x := r2) (i := j) hsx (at' hjx) rfl fun ad2 _ => ?_
      have hjm := List.mem_of_getElem? hjx
      obtain ⟨w1, w2, w3⟩ := (h.hr _ hjm).2 y rfl
      have hjt : C.tcs[j]? = some C.tcs[j] := List.getElem?_eq_getElem (by omega)
      refine pull_ok hP h hg hF hQ hm hjt hhs fun F' s' t' h' B p1 c1 pt S1 => ?_
      refine hK1 j y C.tcs[j] r2 F' s' t' h' B hjt hjx (fun x hx l hl => ?_) p1 c1 pt (w3.ints w2 S1) (w3.step S1) w1 S1
      obtain ⟨a, ha⟩ := List.mem_iff_getElem?.1 hx
      exact hmin a (List.getElem?_eq_some_iff.1 ha).1 x l ha hl
end
end Go.Proofs.YtjpkcdhjleemlaaGreatDoor

/-
  Relations: a cursor's first look; the next row: the walk.
-/
namespace Go.Proofs.YtjpkcdhjleemlaaGreatDoor
open Go.MapKept
section
variable {H0 A B D : Heap} {F F' X : Nat → Prop} {p dp Q U most m c : Nat} {s s' : Pl} {M M' : Files} {R : RelS} {C : CurS} {ll : List Int}
structure Asked (C C1 : CurS) (i : Nat) : Prop where
  same : ∃ tcs hs, C1 = C.with tcs hs ∧ tcs.length = C.tcs.length ∧ hs.length = C.tcs.length
  done : ∀ (j : Nat) (t : TC), j < i → C.tcs[j]? = some t → ∃ (t' : TC) (h' : Sl × Option (List Int)), C1.tcs[j]? = some t' ∧ C1.hs[j]? = some h' ∧ PullTo C.lowL t t' h'.2
  left : ∀ (j : Nat), i ≤ j → C1.tcs[j]? = C.tcs[j]?
set_option maxHeartbeats 2000000 in
theorem least_ok {w : Nat} {K : (Sl × Int) → Heap → Prop} (hP : PoolM H0 A F p dp s M Q U most m) (h : CurM H0 A F p M R C) (hg : Gl H0) (hF : R.Fit) (hQ : Q ≤ 1048576) (hw : w = 1000000) (hm : m + w * (C.tcs.length + 1) ≤ 30000000000) (ht : C.tcs.length ≤ 1000)
    (hst : (C.begun = true ∧ C.hs.length = C.tcs.length) ∨ (C.begun = false ∧ C.heads = Sl.mk none 0 0)) (hrow : ∀ x ∈ C.hs, ∀ y, x.2 = some y → y.length ≤ 1000)
    (hK0 : ∀ C1 F' s' B, Begun C C1 → (∀ x ∈ C1.hs, x.2 = none) → PoolM H0 B F' p dp s' M Q U most (m + w * (C.tcs.length + 1)) → CurM H0 B F' p M R C1 → Step (R.X (C.Z F)) (R.X (C1.Z F')) A B → K (Sl.mk none 0 0, 0) B)
    (hK1 : ∀ C1 i y t r F' s' t' h' B, Begun C C1 → C1.tcs[i]? = some t → C1.hs[i]? = some (r, some y) → (∀ x ∈ C1.hs, ∀ l, x.2 = some l → ¬ cmpL l y < 0) → PoolM H0 B F' p dp s' M Q U most (m + w * (C.tcs.length + 1)) → CurM H0 B F' p M R (C1.with (C1.tcs.set i t') (C1.hs.set i h')) → PullTo C1.lowL t t' h'.2 → Ints .u64 B r y → Off (R.X ((C1.with (C1.tcs.set i t') (C1.hs.set i h')).Z F')) B r → r.a ≠ none → Step (R.X (C.Z F)) (R.X ((C1.with (C1.tcs.set i t') (C1.hs.set i h')).Z F')) A B → K (r, 0) B) : rel_Cursor_least.sp (at0 C.cb) A K := by
  have hwl : w * (C.tcs.length + 1) = w * C.tcs.length + w := Nat.mul_succ _ _
  refine rel_Cursor_least.of ?_
  unfold rel_Cursor_least.vc
  -- where the ways meet
  refine ⟨fun _ B => ∃ C1 F' s', Begun C C1 ∧ PoolM H0 B F' p dp s' M Q U most (m + w * C.tcs.length) ∧ CurM H0 B F' p M R C1 ∧ Step (R.X (C.Z F)) (R.X (C1.Z F')) A B ∧ C1.tcs.length = C.tcs.length ∧ (∀ x ∈ C1.hs, ∀ y, x.2 = some y → y.length ≤ 1000), ?_, ?_⟩
  · refine optK_mk _ rfl ?_
    refine RowT.ld (c := cBool) (i := 9) (x := C.begun) h.row rfl ?_
    rcases hst with ⟨hb, hlen⟩ | ⟨hb, hhd⟩
    · refine br_f (by rw [hb]; rfl) ?_
      exact ⟨C, F, s, ⟨hb, rfl, rfl, rfl, rfl, rfl, rfl, hlen, fun _ => rfl, fun u => by rw [hb] at u; cases u⟩, hP.later (by omega), h, Step.refl _ _, rfl, hrow⟩
    · refine br_t (by rw [hb]; rfl) ?_
      simp only [optK_eq, at0]
      refine RowT.st h.row (i := 9) (by simp [curV]) rfl fun A1 r1 m1 z1 => ?_
      refine RowT.ld (c := cSl) (i := 5) (x := C.fr) r1 rfl ?_
      have hfn := h.fr.len
      rw [List.length_map] at hfn
      refine elRow.make (base := 0) (by omega) (by omega) (by omega) (by omega) (Nat.zero_le _) fun sl A2 n2 o2 e2 b2 _ => ?_
      refine RowT.st (r1.ext e2) (i := 6) (by simp [curV]) (by cases sl; rfl) fun A3 r3 m3 z3 => ?_
      refine RowT.ld (c := cSl) (i := 5) (x := C.fr) r3 rfl ?_
      have hpl := hP.pool.lt
      have hcl := h.lt _ (.inl rfl)
      have hco := h.off _ (.inl rfl)
      have z2 := e2.size
      have m13 : Mod (fun b => b = C.cb) A A3 := (m1.trans e2.mod).trans m3
      have o3 : Owns A3 0 ty_sl_uint64 1 sl (List.replicate C.tcs.length (Value.slice none 0 0)) := by
        have := o2.mod m3 fun b hb u => by have := b2 b hb; omega
        rw [show ((C.fr.n : Int)).toNat = C.tcs.length by omega] at this
        exact this
      obtain ⟨cm, SY⟩ := h.begin hhd hpl hP.ext.size o3 (fun b hb => by have := b2 b hb; omega) m13 r3
      have p3 : PoolM H0 A3 F p dp s M Q U most m := hP.aside ⟨by have := hP.ext.size; omega, fun b hb _ => (m13.same b (by have := hP.ext.size; omega) (by omega)).trans (hP.ext.same b hb id)⟩ fun b hb => m13.same b (hpl b hb) fun u => hco.1 (u ▸ hb)
      refine loop_upto C.tcs.length (fun i z B => z = (i : Int) ∧ ∃ C1 F' s', Asked (C.start sl (List.replicate C.tcs.length (Sl.mk none 0 0, none))) C1 i ∧ PoolM H0 B F' p dp s' M Q U most (m + w * i) ∧ CurM H0 B F' p M R C1 ∧ Step (R.X (C.Z F)) (R.X (C1.Z F')) A B ∧ (∀ x ∈ C1.hs, ∀ y, x.2 = some y → y.length ≤ 1000)) ⟨rfl, _, F, s, ⟨⟨C.tcs, _, rfl, rfl, by rw [List.length_replicate]; rfl⟩, fun j t hj => (by omega), fun _ _ => rfl⟩, p3, cm, SY, fun x hx y hy => ?_⟩ ?_
      · have hx : x ∈ List.replicate C.tcs.length ((Sl.mk none 0 0 : Sl), (none : Option (List Int))) := hx
        rw [List.eq_of_mem_replicate hx] at hy; cases hy
      rintro i _ B next hi ⟨rfl, C1, F1, s1, ⟨⟨tcs, hs, eC, l1, l2⟩, hdone, hleft⟩, p1, c1, S1, hrw⟩ hnext
      have l1 : tcs.length = C.tcs.length := l1
      have l2 : hs.length = C.tcs.length := l2
      refine br_mk (fun hcd => ?_) (fun hcd => ?_)
      · have hlt : i < C.tcs.length := by have : (i : Int) < (C.fr.n : Int) := by simpa using hcd
                                          omega
        have hti : C1.tcs[i]? = some C.tcs[i] := by
          rw [hleft i (Nat.le_refl _)]
          exact List.getElem?_eq_getElem hlt
        have ecb : C1.cb = C.cb := by rw [eC]; rfl
        have elow : C1.lowL = C.lowL := by rw [eC]; rfl
        have ets : C1.tcs = tcs := by rw [eC]; rfl
        have ehs : C1.hs = hs := by rw [eC]; rfl
        rw [← ecb]
        have hw1 : w * (i + 1) = w * i + w := Nat.mul_succ _ _
        have hw2 : w * (i + 1) ≤ w * C.tcs.length := Nat.mul_le_mul_left _ hlt
        refine pull_ok p1 c1 hg hF hQ (by omega) hti (by rw [ets, ehs, l1, l2]) fun F2 s2 t' h' D p2 c2 pt S2 => ?_
        refine br_f rfl ?_
        have htm : C.tcs[i] ∈ C1.tcs := List.mem_of_getElem? hti
        refine hnext hlt _ _ ⟨succ64 i (by omega), _, F2, s2, ⟨⟨C1.tcs.set i t', C1.hs.set i h', by rw [eC]; rfl, by rw [List.length_set, ets]; exact l1, by rw [List.length_set, ehs]; exact l2⟩, fun j t hj hjt => ?_, fun j hj => ?_⟩, p2.later (by omega), c2, S1.trans S2, fun x hx y hy => ?_⟩
        · by_cases e : j = i
          · subst e
            have : t = C.tcs[j] := by
              have hjt : C.tcs[j]? = some t := hjt
              rw [List.getElem?_eq_getElem hlt] at hjt
              exact (Option.some.inj hjt).symm
            subst this
            refine ⟨t', h', ?_, ?_, by rw [elow] at pt; exact pt⟩
            · show (C1.tcs.set j t')[j]? = _
              rw [List.getElem?_set, if_pos rfl, if_pos (by rw [ets, l1]; exact hlt)]
            · show (C1.hs.set j h')[j]? = _
              rw [List.getElem?_set, if_pos rfl, if_pos (by rw [ehs, l2]; exact hlt)]
          · obtain ⟨t2, h2, a1, a2, a3⟩ := hdone j t (by omega) hjt
            refine ⟨t2, h2, ?_, ?_, a3⟩
            · show (C1.tcs.set i t')[j]? = _
              rw [List.getElem?_set, if_neg (by omega)]; exact a1
            · show (C1.hs.set i h')[j]? = _
              rw [List.getElem?_set, if_neg (by omega)]; exact a2
        · show (C1.tcs.set i t')[j]? = _
          rw [List.getElem?_set, if_neg (by omega)]
          exact hleft j (by omega)
        · have hx : x ∈ C1.hs.set i h' := hx
          rcases List.mem_or_eq_of_mem_set hx with u | u
          · exact hrw x u y hy
          · subst u
            obtain ⟨_, _, q | ⟨z, q1, q2, q3, q4⟩⟩ := pt
            · rw [q.2.2.2] at hy; cases hy
            · rw [q4] at hy
              split at hy
              · have : z = y := Option.some.inj hy
                subst this
                have hz : z ∈ C.tcs[i].t.L := (List.mem_filter.1 (List.mem_of_mem_head? q1)).1
                have := ((c1.rel.tr _ (c1.tc _ htm).1).rows z hz).1
                have := hF.W
                omega
              · cases hy
      · have hge : i = C.tcs.length := by have : ¬ (i : Int) < (C.fr.n : Int) := by simpa using hcd
                                          omega
        subst hge
        have ets : C1.tcs = tcs := by rw [eC]; rfl
        have ehs : C1.hs = hs := by rw [eC]; rfl
        refine ⟨C1, F1, s1, ⟨by rw [eC]; rfl, by rw [eC]; rfl, by rw [eC]; rfl, by rw [eC]; rfl, by rw [eC]; rfl, by rw [eC]; rfl, by rw [eC]; rfl, by rw [ets, ehs, l1, l2], fun u => (by rw [hb] at u; cases u), fun _ => ⟨by rw [ets, l1], fun j t hj => hdone j t (List.getElem?_eq_some_iff.1 hj).1 hj⟩⟩, p1, c1, S1, by rw [ets, l1], hrw⟩
  · rintro _ B ⟨C1, F1, s1, hbg, p1, c1, S1, hl1, hrw⟩
    have key := best_ok (K := K) p1 c1 hg hF hQ (by omega) hbg.len (by rw [hbg.len]; omega) hrw
      (fun hno => hK0 C1 F1 s1 B hbg hno (p1.later (by omega)) c1 S1)
      (fun i y t r F' s' t' h' D hti hhi hmin p2 c2 pt ir ro rn S2 => hK1 C1 i y t r F' s' t' h' D hbg hti hhi hmin (p2.later (by omega)) c2 pt ir ro rn (S1.trans S2))
    rw [hbg.cb] at key
    exact key
end
end Go.Proofs.YtjpkcdhjleemlaaGreatDoor

/-
  Relations: a cursor's next row: the walk.
-/
namespace Go.Proofs.YtjpkcdhjleemlaaGreatDoor
open Go.MapKept
def backL (W : Nat) (o l : List Int) : Nat → List Int
  | 0 => List.replicate W 0
  | i + 1 => (backL W o l i).set (o.getD i 0).toNat (l.getD i 0)
section
variable {H0 A B D : Heap} {F F' X : Nat → Prop} {p dp Q U most m c : Nat} {s s' : Pl} {M M' : Files} {R : RelS} {C : CurS} {ll : List Int} {l : Sl}
theorem rback_ok {i : Nat} {K : Sl → Heap → Prop} (h : RelB H0 A F p M R) (hl : Ints .u64 A l ll) (hi : i < R.ords.length) (hW : R.W ≤ 16) (ho : R.ords[i].length = R.W) (hll : ll.length = R.W) (hc : ∀ x ∈ R.ords[i], 0 ≤ x ∧ x < (R.W : Int))
    (hK : ∀ out B, Owns B 0 ty_uint64 1 out ((backL R.W R.ords[i] ll R.W).map (Value.int .u64)) → Ext A B → (∀ b, ownB out b → A.size ≤ b) → K out B) : rel_base_back.sp (some ⟨R.rb, 0, none⟩) l (i : Int) A K := by
  refine rel_base_back.of ?_
  unfold rel_base_back.vc
  simp only [optK_eq]
  refine RowT.ld (c := cInt .i64) (i := 2) (x := (R.W : Int)) h.row rfl ?_
  refine elU64.make (base := 0) (by omega) (by omega) (by omega) (by omega) (Nat.zero_le _) fun out A1 n1 o1 e1 b1 _ => ?_
  have h1 := h.grow e1
  refine RowT.ld (c := cSl) (i := 3) (x := R.os) h1.row rfl ?_
  refine (h.ords.old e1).ld hi rfl fun ad r _ ra hr _ => ?_
  have hrn := hr.len
  have hln := hl.len
  have hon : out.n = R.W := by rw [n1]; omega
  refine loop_upto R.W (fun k z B => z = (k : Int) ∧ Owns B 0 ty_uint64 1 out ((backL R.W R.ords[i] ll k).map (Value.int .u64)) ∧ Mod (ownB out) A1 B) ⟨rfl, by
    have e : (backL R.W R.ords[i] ll 0).map (Value.int .u64) = List.replicate ((R.W : Int).toNat) (Value.int .u64 0) := by
      show (List.replicate R.W (0 : Int)).map _ = _
      rw [List.map_replicate, Int.toNat_natCast]
    rw [e]; exact o1, .refl _ _⟩ ?_
  rintro k _ B next hk ⟨rfl, oB, mB⟩ hnext
  have zB := mB.size
  have z1 := e1.size
  have eB : Ext A B := ((Ext.mod e1).trans mB).ext b1
  refine br_mk (fun hcd => ?_) (fun hcd => ?_)
  · have hkl : k < R.W := by have : (k : Int) < (r.n : Int) := by simpa using hcd
                             omega
    have hr' : Ints .i64 B r R.ords[i] := hr.mod mB fun a ha u => by
      have h2 : ¬ A.size ≤ a.block := (ra a ha).2
      exact h2 (b1 _ u)
    refine ints_get hr' (i := (k : Int)) (j := k) rfl (by omega) fun ad2 _ => ?_
    refine ints_get (hl.ext eB) (i := (k : Int)) (j := k) rfl (by omega) fun ad3 _ => ?_
    have hx : R.ords[i].getD k 0 ∈ R.ords[i] := by
      rw [List.getD, List.getElem?_eq_getElem (by omega)]
      exact List.getElem_mem _
    obtain ⟨x0, x1⟩ := hc _ hx
    refine Owns.st oB x0 (by omega) rfl fun D oD mD zD => ?_
    refine hnext hkl _ _ ⟨succ64 k (by omega), ?_, mB.trans mD⟩
    have e : (backL R.W R.ords[i] ll (k + 1)).map (Value.int .u64) = ((backL R.W R.ords[i] ll k).map (Value.int .u64)).set (R.ords[i].getD k 0).toNat (.int .u64 (ll.getD k 0)) := by
      show ((backL R.W R.ords[i] ll k).set _ _).map _ = _
      rw [List.map_set]
    rw [e]
    exact oD
  · have hge : k = R.W := by have : ¬ (k : Int) < (r.n : Int) := by simpa using hcd
                             omega
    subst hge
    exact hK out B oB eB b1
set_option maxHeartbeats 2000000 in
theorem relNext_ok {w : Nat} {K : (Sl × Bool × Int) → Heap → Prop} (hP : PoolM H0 A F p dp s M Q U most m) (h : CurM H0 A F p M R C) (hg : Gl H0) (hF : R.Fit) (hQ : Q ≤ 1048576) (hw : w = 1000000) (hm : m + w * (C.tcs.length + 1) ≤ 30000000000) (ht : C.tcs.length ≤ 1000) (htu : C.turns = R.turns) (hol : C.order < R.ords.length) (hord : R.ords[C.order].length = R.W) (hcol : ∀ x ∈ R.ords[C.order], 0 ≤ x ∧ x < (R.W : Int)) (hcl : C.colsL.length ≤ 1000)
    (hst : (C.begun = true ∧ C.hs.length = C.tcs.length) ∨ (C.begun = false ∧ C.heads = Sl.mk none 0 0)) (hrow : ∀ x ∈ C.hs, ∀ y, x.2 = some y → y.length ≤ 1000)
    (hall : ∀ C1, Begun C C1 → ∀ x ∈ C1.hs, ∀ y, x.2 = some y → y.length = R.W ∧ turnL (backL R.W R.ords[C.order] y R.W) C.colsL = C.wordsL)
    (hK0 : ∀ C1 F' s' B, Begun C C1 → (∀ x ∈ C1.hs, x.2 = none) → PoolM H0 B F' p dp s' M Q U most (m + w * (C.tcs.length + 1)) → CurM H0 B F' p M R C1 → Step (R.X (C.Z F)) (R.X (C1.Z F')) A B → K (Sl.mk none 0 0, false, 0) B)
    (hK1 : ∀ C1 i y t r F' s' t' h' out B, Begun C C1 → C1.tcs[i]? = some t → C1.hs[i]? = some (r, some y) → (∀ x ∈ C1.hs, ∀ l, x.2 = some l → ¬ cmpL l y < 0) → PoolM H0 B F' p dp s' M Q U most (m + w * (C.tcs.length + 1)) → CurM H0 B F' p M R (C1.with (C1.tcs.set i t') (C1.hs.set i h')) → PullTo C1.lowL t t' h'.2 → Owns B 0 ty_uint64 1 out ((backL R.W R.ords[C.order] y R.W).map (Value.int .u64)) → (∀ b, ownB out b → A.size ≤ b ∧ ¬ R.X ((C1.with (C1.tcs.set i t') (C1.hs.set i h')).Z F') b) → Step (R.X (C.Z F)) (R.X ((C1.with (C1.tcs.set i t') (C1.hs.set i h')).Z F')) A B → K (out, true, 0) B) : rel_Cursor_Next.sp (at0 C.cb) A K := by
  refine rel_Cursor_Next.of ?_
  unfold rel_Cursor_Next.vc
  refine br_f rfl ?_
  simp only [optK_eq, at0]
  refine RowT.ld (c := cPtr) (i := 0) (x := at0 R.rb) h.row rfl ?_
  refine rready_ok h.rel.row ?_
  refine br_f rfl ?_
  refine RowT.ld (c := cBool) (i := 8) (x := false) h.row rfl ?_
  refine br_f rfl ?_
  refine RowT.ld (c := cInt .i64) (i := 7) (x := (C.turns : Int)) h.row rfl ?_
  refine RowT.ld (c := cPtr) (i := 0) (x := at0 R.rb) h.row rfl ?_
  simp only [optK_eq, at0]
  refine RowT.ld (c := cInt .i64) (i := 10) (x := (R.turns : Int)) h.rel.row rfl ?_
  refine br_f (by rw [htu]; simp) ?_
  refine loop_upto 0 (fun _ _ B => A = B) rfl ?_
  rintro _ _ _ next _ rfl _
  refine least_ok hP h hg hF hQ hw hm ht hst hrow (fun C1 F1 s1 B hbg hno p1 c1 S1 => ?_) (fun C1 i y t r F1 s1 t' h' B hbg hti hhi hmin p1 c1 pt ir ro rn S1 => ?_)
  · refine br_f rfl ?_
    refine br_t rfl ?_
    have rw1 := c1.row
    rw [hbg.cb] at rw1
    refine RowT.ld (c := cPtr) (i := 0) (x := at0 R.rb) rw1 rfl ?_
    refine optK_mk _ rfl ?_
    refine met_zero ?_
    exact hK0 C1 F1 s1 B hbg hno p1 c1 S1
  · refine br_f rfl ?_
    have hrn : r.a.isNone = false := by
      cases hra : r.a with
      | none => exact absurd hra rn
      | some _ => rfl
    refine br_f hrn ?_
    obtain ⟨y1, y2⟩ := hall C1 hbg _ (List.mem_of_getElem? hhi) y rfl
    have rw1 := c1.row
    have ecb : (C1.with (C1.tcs.set i t') (C1.hs.set i h')).cb = C.cb := hbg.cb
    rw [ecb] at rw1
    refine RowT.ld (c := cPtr) (i := 0) (x := at0 R.rb) rw1 rfl ?_
    refine optK_mk _ rfl ?_
    refine RowT.ld (c := cInt .i64) (i := 1) (x := (C.order : Int)) rw1 (by show some (Value.int .i64 (C1.order : Int)) = _; rw [hbg.order]) ?_
    refine rback_ok c1.rel ir hol hF.W hord y1 hcol fun out D oD eD fD => ?_
    have c2 := c1.grow eD
    have rw2 := rw1.ext eD
    refine RowT.ld (c := cSl) (i := 3) (x := C1.cols) rw2 rfl ?_
    have hcols : Ints .i64 D C1.cols C.colsL := hbg.colsL ▸ c2.cols.1
    refine rowTurn_ok oD.ints hcols (by omega) fun tr E oE eE => ?_
    have c3 := c2.grow eE
    refine RowT.ld (c := cSl) (i := 4) (x := C1.words) (rw2.ext eE) rfl ?_
    have hwords : Ints .u64 E C1.words C.wordsL := hbg.wordsL ▸ c3.words.1
    rw [y2] at oE
    have hlw : C.wordsL.length ≤ 1000 := by
      rw [← y2]
      unfold turnL
      split
      · rw [List.length_map]; exact hcl
      · simp
    refine slicesEqual_ok oE.ints hwords (by omega) ?_
    refine br_t (by simp) ?_
    have eDE := eD.trans eE
    have pE := p1.grow eDE
    have hzB := S1.mod.size
    refine hK1 C1 i y t r F1 s1 t' h' out E hbg hti hhi hmin pE c3 pt (oD.ext eE) (fun b hb => ⟨by have := fD b hb; omega, fun u => ?_⟩) (S1.trans (Step.ofExt eDE))
    have hb2 := fD b hb
    rcases u with (u | u) | u
    · have := p1.pool.lt b u; omega
    · have := c1.lt b u; omega
    · have := c1.rel.lt b u; omega
end
end Go.Proofs.YtjpkcdhjleemlaaGreatDoor

/-
  Relations: two rows, a turn, a scan (works); a relation that is not there: the walk.
-/
namespace Go.Proofs.YtjpkcdhjleemlaaGreatDoor
open Go.MapKept
def noFiles : Files := fun _ => none
theorem pool0 {H A : Heap} {F : Nat → Prop} {p dp : Nat} (e : Ext H A) (hp : PoolAt F A p dp (pl0 (dk0 60) 8)) (ho : ∀ b, F b → H.size ≤ b) : PoolM H A F p dp (pl0 (dk0 60) 8) noFiles 60 0 8 1 :=
  ⟨e, hp, ho, ⟨⟨rfl, rfl, rfl, by decide, by decide, List.nodup_nil, fun i f hf => (by cases hf), fun n x hx => (by cases hx), fun g hg => (by cases hg)⟩, pl0_wf (by decide) (by decide), fun f hf => (by cases hf)⟩, by decide, by decide, by decide, by decide, fun n x hx => (by cases hx), rfl⟩
theorem two_cells {A : Heap} {k : Nat} {t : TypeId} {ik : IntKind} {x y : Int} (r : RowT A k t #[.int ik x, .int ik y]) : Ints ik A ⟨some ⟨k, 0, none⟩, 2, 2⟩ [x, y] := by
  refine ⟨rfl, fun i u hu => ⟨_, rfl, ?_⟩⟩
  have hi : i = 0 ∨ i = 1 := by have := (List.getElem?_eq_some_iff.1 hu).1; simp at this; omega
  rcases hi with rfl | rfl
  · simp at hu; subst hu
    rw [add_lit0]; exact r.cell rfl
  · simp at hu; subst hu
    rw [add_lit0]; exact r.cell rfl
theorem one_cell2 {A : Heap} {k : Nat} {t : TypeId} {ik : IntKind} {x : Int} (r : RowT A k t #[.int ik x]) : Ints ik A ⟨some ⟨k, 0, none⟩, 1, 1⟩ [x] := by
  refine ⟨rfl, fun i u hu => ⟨_, rfl, ?_⟩⟩
  have hi : i = 0 := by have := (List.getElem?_eq_some_iff.1 hu).1; simp at this; omega
  subst hi
  simp at hu; subst hu
  rw [add_lit0]; exact r.cell rfl
theorem order_of {x : List Int} {W : Nat} (hp : x.Perm (upto W)) : (x.mergeSort fun a b => decide (a ≤ b)) = upto W := by
  have tr : ∀ a b c : Int, decide (a ≤ b) = true → decide (b ≤ c) = true → decide (a ≤ c) = true := fun a b c h1 h2 => by simp only [decide_eq_true_eq] at *; omega
  have to : ∀ a b : Int, (decide (a ≤ b) || decide (b ≤ a)) = true := fun a b => by simp only [Bool.or_eq_true, decide_eq_true_eq]; omega
  refine List.Perm.eq_of_pairwise (le := fun a b => decide (a ≤ b) = true) (fun a b _ _ h1 h2 => ?_) (List.pairwise_mergeSort tr to x) ?_ ((List.mergeSort_perm x _).trans hp)
  · simp only [decide_eq_true_eq] at h1 h2; omega
  · unfold upto
    rw [List.pairwise_map]
    exact List.Pairwise.imp (fun {a b} h => decide_eq_true (by omega)) (List.pairwise_lt_range (n := W))
def ords2 : List (List Int) := [[0, 1], [1, 0]]
section
variable {H0 A B D : Heap} {F F' X : Nat → Prop} {p dp Q U most m c : Nat} {s s' : Pl} {M M' : Files} {R : RelS} {C : CurS} {ll : List Int} {l : Sl}
theorem two_orders {k a b : Nat} (r : RowT A k ty_sl_int #[.slice (some ⟨a, 0, none⟩) 2 2, .slice (some ⟨b, 0, none⟩) 2 2]) (ra : RowT A a ty_int #[.int .i64 0, .int .i64 1]) (rb : RowT A b ty_int #[.int .i64 1, .int .i64 0]) : OrdX (fun _ => False) A ⟨some ⟨k, 0, none⟩, 2, 2⟩ ords2 := by
  refine ⟨rfl, fun ad ha => ?_, fun i hi => ?_⟩
  · have : ad = ⟨k, 0, none⟩ := (Option.some.inj ha).symm
    subst this
    exact ⟨obj_lt r, id⟩
  · have hi : i = 0 ∨ i = 1 := by have : i < 2 := hi
                                  omega
    rcases hi with rfl | rfl
    · exact ⟨_, ⟨some ⟨a, 0, none⟩, 2, 2⟩, rfl, by rw [add_lit0]; exact r.cell rfl, fun ad ha => ⟨by have := (Option.some.inj ha).symm; subst this; exact obj_lt ra, id⟩, two_cells ra, Nat.le_refl _⟩
    · exact ⟨_, ⟨some ⟨b, 0, none⟩, 2, 2⟩, rfl, by rw [add_lit0]; exact r.cell rfl, fun ad ha => ⟨by have := (Option.some.inj ha).symm; subst this; exact obj_lt rb, id⟩, two_cells rb, Nat.le_refl _⟩
theorem off_new {t : TypeId} {cs : Array Value} {n c : Nat} {Y : Nat → Prop} (hY : ∀ b, Y b → b < A.size) (r : RowT B A.size t cs) : Off Y B ⟨some ⟨A.size, 0, none⟩, n, c⟩ := fun ad ha => by
  have : ad = ⟨A.size, 0, none⟩ := (Option.some.inj ha).symm
  subst this
  exact ⟨obj_lt r, fun u => by have := hY _ u; simp at this⟩
theorem ord2_turn {x y : Int} (hx : 0 ≤ x ∧ x < 100) (hy : 0 ≤ y ∧ y < 100) : ∀ i (hi : i < ords2.length), ords2[i].length ≤ 1000 ∧ (turnL [x, y] ords2[i]).length = 2 ∧ fitsL (turnL [x, y] ords2[i]) := by
  intro i hi
  have hi' : i = 0 ∨ i = 1 := by have : i < 2 := hi
                                 omega
  have e0 : turnL [x, y] [0, 1] = [x, y] := by simp [turnL, turnOK]
  have e1 : turnL [x, y] [1, 0] = [y, x] := by simp [turnL, turnOK]
  have hf : ∀ a b : Int, (0 ≤ a ∧ a < 100) → (0 ≤ b ∧ b < 100) → fitsL [a, b] := fun a b ha hb z hz => by
    simp at hz
    rcases hz with rfl | rfl <;> omega
  rcases hi' with rfl | rfl
  · show 2 ≤ 1000 ∧ (turnL [x, y] [0, 1]).length = 2 ∧ _
    exact ⟨by decide, by rw [e0]; rfl, by show fitsL (turnL [x, y] [0, 1]); rw [e0]; exact hf _ _ hx hy⟩
  · show 2 ≤ 1000 ∧ (turnL [x, y] [1, 0]).length = 2 ∧ _
    exact ⟨by decide, by rw [e1]; rfl, by show fitsL (turnL [x, y] [1, 0]); rw [e1]; exact hf _ _ hy hx⟩
theorem rowsAt_mem {q : PartS} {i : Nat} {t : Tx} (h : q.ts[i]? = some t) : q.rowsAt i = t.L := by unfold PartS.rowsAt; rw [h]
theorem fit_of {R : RelS} (hW : R.W = 2) (hn : R.name.size ≤ 90) (hnb : R.nb ≤ 100) (hf : R.f.ts = []) (hd : R.d.ts = []) (hx : R.ex = []) (he : ∀ i, (R.e.rowsAt i).length ≤ 400) : R.Fit := by
  refine ⟨by omega, hn, hnb, fun t ht => ?_⟩
  unfold RelS.all at ht
  rw [hf, hd, hx] at ht
  simp only [List.nil_append, List.append_nil] at ht
  obtain ⟨i, hi⟩ := List.mem_iff_getElem?.1 ht
  rw [← rowsAt_mem hi]
  exact he i
theorem rowsAt_big {q : PartS} {i : Nat} (h : q.ts.length ≤ i) : q.rowsAt i = [] := by unfold PartS.rowsAt; rw [List.getElem?_eq_none h]
theorem asc_two : Asc [[4, 2], [5, 1]] ∧ Asc [[1, 5], [2, 4]] := by
  constructor <;> (unfold Asc; simp [ltR, cmpL])
set_option maxHeartbeats 4000000 in
set_option maxRecDepth 10000 in
theorem rworks_ok {H : Heap} {K : Bool → Heap → Prop} (hg : Gl H) (hK : ∀ B, Ext H B → K true B) : fathomlaw10_works.sp H K := by
  refine fathomlaw10_works.of ?_
  unfold fathomlaw10_works.vc
  refine New_ok (by decide) fun F1 d H1 a1 e1 f1 => ?_
  refine TP.new (m := 8) hg e1 a1 f1 (by decide) (by decide) fun p H2 t2 => ?_
  obtain ⟨e2, F2, p2, f2⟩ := t2
  have P2 := pool0 e2 p2 f2
  refine newC_rowT fun H3 z3 r3 e3 => ?_
  refine newC_rowT fun H4 z4 r4 e4 => ?_
  refine newC_rowT fun H5 z5 r5 e5 => ?_
  have e35 := (e3.trans e4).trans e5
  have P5 := P2.grow e35
  have ho := two_orders r5 ((r3.ext e4).ext e5) (r4.ext e5)
  refine relNew_ok (F := F2) (M := noFiles) (p := p) (H0 := H) (W := 2) (by decide) ho (by decide) (by decide) (fun x hx => ?_) rfl P5.pool.lt P5.ext.size (fun _ => rfl) fun R H6 n6 r6 e6 o6 => ?_
  · have : x = [0, 1] ∨ x = [1, 0] := by unfold ords2 at hx; simpa using hx
    rcases this with rfl | rfl
    · exact ⟨rfl, order_of (List.Perm.refl _)⟩
    · exact ⟨rfl, order_of (List.Perm.swap _ _ _)⟩
  refine br_f rfl (br_f rfl ?_)
  have RP6 : RelP H H6 F2 p d (pl0 (dk0 60) 8) noFiles 60 0 8 1 0 R := ⟨P5.grow e6, r6, ⟨[], fun a y hy => (by cases hy), Nat.le_refl _⟩⟩
  have hW : R.W = 2 := n6.W
  have hords : R.ords = ords2 := n6.ords
  have hol : R.ords.length = 2 := by rw [hords]; rfl
  have hnm : R.name.size ≤ 90 := by rw [n6.name]; decide
  have hnb : R.nb = R.next := n6.nb.trans n6.next.symm
  have hnext : R.next = 0 := n6.next
  have turnO : ∀ {x y : Int}, (0 ≤ x ∧ x < 100) → (0 ≤ y ∧ y < 100) → ∀ i (hi : i < R.ords.length), R.ords[i].length ≤ 1000 ∧ (turnL [x, y] R.ords[i]).length = R.W ∧ fitsL (turnL [x, y] R.ords[i]) := by
    intro x y hx hy i hi
    have := ord2_turn hx hy i (by rw [← hords]; exact hi)
    simpa only [hords, hW] using this
  have rE0 : ∀ i, R.e.rowsAt i = [] := fun i => by unfold PartS.rowsAt; rw [n6.e]; simp
  -- the first row
  refine newC_rowT fun H7 z7 r7 e7 => ?_
  have RP7 := RP6.grow e7
  refine relAdd_ok (w := 0) RP7 hg (fit_of hW hnm (by omega) n6.f n6.d n6.ex fun i => by rw [rE0]; decide) (by decide) (by decide) (fun i => by show (R.e.rowsAt i).length ≤ 0; rw [rE0]; decide) (by decide) (by rw [hol]; decide) (by rw [hol]; decide) (by rw [hol]; decide) (.inl n6.e) n6.ex hnb (by omega) (two_cells r7) (off_new RP6.ltX r7) (by rw [hW]; rfl) (turnO (by decide) (by decide)) (fun hex => ?_) (fun _ F8 s8 M8 U8 q8 nx8 H8 RP8 I8 u8 hnx8 S8 _ => ?_)
  · exfalso
    obtain ⟨q, hq, hm⟩ := hex
    unfold RelS.parts at hq
    simp only [List.mem_cons, List.not_mem_nil, or_false] at hq
    rcases hq with rfl | rfl | rfl
    · unfold PartS.rows at hm; rw [n6.f] at hm; cases hm
    · unfold PartS.rows at hm; rw [n6.d] at hm; cases hm
    · unfold PartS.rows at hm; rw [n6.e] at hm; cases hm
  have I8 : Ins R.ords [1, 5] R.e q8 := I8
  have RP8 : RelP H H8 F8 p d s8 M8 60 U8 8 (1 + 4000000) (0 + R.ords.length) ((R.put 2 q8).nums nx8 nx8) := RP8
  obtain ⟨R8, hR8⟩ : ∃ R8, R8 = (R.put 2 q8).nums nx8 nx8 := ⟨_, rfl⟩
  rw [← hR8] at RP8 S8
  have g1 : R8.rb = R.rb := by rw [hR8]; rfl
  have g2 : R8.ords = R.ords := by rw [hR8]; rfl
  have g3 : R8.f = R.f := by rw [hR8]; rfl
  have g4 : R8.d = R.d := by rw [hR8]; rfl
  have g5 : R8.e = q8 := by rw [hR8]; rfl
  have g6 : R8.ex = R.ex := by rw [hR8]; rfl
  have g7 : R8.W = R.W := by rw [hR8]; rfl
  have g8 : R8.name = R.name := by rw [hR8]; rfl
  have g9 : R8.nb = nx8 ∧ R8.next = nx8 ∧ R8.turns = R.turns := by rw [hR8]; exact ⟨rfl, rfl, rfl⟩
  have q8l : q8.ts.length = 2 := by rw [I8.len, hol]
  have t15 : turnL [1, 5] (R.ords.getD 0 []) = [1, 5] ∧ turnL [1, 5] (R.ords.getD 1 []) = [5, 1] ∧ turnL [2, 4] (R.ords.getD 0 []) = [2, 4] ∧ turnL [2, 4] (R.ords.getD 1 []) = [4, 2] := by
    rw [hords]; exact ⟨by decide, by decide, by decide, by decide⟩
  have len8 : ∀ i, (q8.rowsAt i).length ≤ 1 := fun i => by
    by_cases hi : i < 2
    · have := (I8.rows i (by omega)).2
      rw [rE0] at this; exact this
    · rw [rowsAt_big (by omega)]; exact Nat.zero_le _
  rw [← g1]
  -- the second row
  refine newC_rowT fun H9 z9 r9 e9 => ?_
  have RP9 := RP8.grow e9
  refine relAdd_ok (w := 1) RP9 hg (fit_of (by rw [g7]; exact hW) (by rw [g8]; exact hnm) (by rw [g9.1]; omega) (by rw [g3]; exact n6.f) (by rw [g4]; exact n6.d) (by rw [g6]; exact n6.ex) fun i => by rw [g5]; have := len8 i; omega) (by decide) (by decide) (fun i => by show (R8.e.rowsAt i).length ≤ 1; rw [g5]; exact len8 i) (by decide) (by rw [g2, hol]; rw [hol] at u8; omega) (by rw [g2, hol]; decide) (by rw [g2, hol]; decide) (.inr (by show R8.e.ts.length = _; rw [g5, g2, hol]; exact q8l)) (by rw [g6]; exact n6.ex) (by rw [g9.1, g9.2.1]) (by rw [g9.2.1, g2, hol]; omega) (two_cells r9) (off_new RP8.ltX r9) (by rw [g7, hW]; rfl) (fun i hi => by
      have := turnO (x := 2) (y := 4) (by decide) (by decide) i (by rw [← g2]; exact hi)
      simpa only [g2, g7] using this) (fun hex => ?_) (fun _ F10 s10 M10 U10 q10 nx10 H10 RP10 I10 u10 hnx10 S10 _ => ?_)
  · exfalso
    obtain ⟨q, hq, hm⟩ := hex
    unfold RelS.parts at hq
    simp only [List.mem_cons, List.not_mem_nil, or_false] at hq
    rcases hq with rfl | rfl | rfl
    · unfold PartS.rows at hm; rw [g3, n6.f] at hm; cases hm
    · unfold PartS.rows at hm; rw [g4, n6.d] at hm; cases hm
    · rw [rows_at, g5] at hm
      have := ((I8.rows 0 (by omega)).1 [2, 4]).1 hm
      rw [t15.1, rE0] at this
      rcases this with u | u
      · exact absurd u (by decide)
      · cases u
  have I10 : Ins R8.ords [2, 4] R8.e q10 := I10
  rw [g2, g5] at I10
  obtain ⟨R10, hR10⟩ : ∃ R10, R10 = (R8.put 2 q10).nums nx10 nx10 := ⟨_, rfl⟩
  rw [← hR10] at RP10 S10
  have k1 : R10.rb = R8.rb := by rw [hR10]; rfl
  have k2 : R10.ords = R.ords := by rw [hR10]; exact g2
  have k3 : R10.f = R.f := by rw [hR10]; exact g3
  have k4 : R10.d = R.d := by rw [hR10]; exact g4
  have k5 : R10.e = q10 := by rw [hR10]; rfl
  have k6 : R10.ex = R.ex := by rw [hR10]; exact g6
  have k7 : R10.W = 2 := by rw [hR10]; exact g7.trans hW
  have k8 : R10.name = R.name := by rw [hR10]; exact g8
  have k9 : R10.nb = nx10 ∧ R10.turns = 0 := by rw [hR10]; exact ⟨rfl, g9.2.2.trans n6.turns⟩
  have q10l : q10.ts.length = 2 := by rw [I10.len, hol]
  -- the rows in its trees
  have plus : ∀ i, i < 2 → ∀ y, y ∈ q10.rowsAt i ↔ y = turnL [2, 4] (R.ords.getD i []) ∨ y = turnL [1, 5] (R.ords.getD i []) := fun i hi y => by
    have h1 := (I10.rows i (by omega)).1 y
    have h2 := (I8.rows i (by omega)).1 y
    rw [rE0] at h2
    rw [h1, h2]
    exact ⟨fun u => u.imp id fun v => v.elim id fun w => (by cases w), fun u => u.imp id .inl⟩
  have hasc : ∀ i, Asc (q10.rowsAt i) := fun i => by
    by_cases hi : i < q10.ts.length
    · have ht := List.getElem?_eq_getElem hi
      rw [rowsAt_mem ht]
      exact (RP10.rel.tr _ (RelS.part_all (q := q10) (by rw [← k5]; simp [RelS.parts]) _ (List.getElem_mem hi))).asc
    · rw [rowsAt_big (by omega)]; exact List.Pairwise.nil
  have L0 : q10.rowsAt 0 = [[1, 5], [2, 4]] := asc_eq (hasc 0) asc_two.2 fun y => by
    rw [plus 0 (by decide) y, t15.1, t15.2.2.1]
    simp only [List.mem_cons, List.not_mem_nil, or_false]
    exact ⟨fun u => u.symm, fun u => u.symm⟩
  have L1 : q10.rowsAt 1 = [[4, 2], [5, 1]] := asc_eq (hasc 1) asc_two.1 fun y => by
    rw [plus 1 (by decide) y, t15.2.1, t15.2.2.2]
    simp only [List.mem_cons, List.not_mem_nil, or_false]
  rw [← k1]
  -- the turn
  refine relTurn_ok RP10 (by rw [k4]; exact n6.d) (by rw [k9.2]; decide) fun nb H11 RP11 S11 => ?_
  rw [rows_at, k5, L0]
  obtain ⟨R11, hR11⟩ : ∃ R11, R11 = R10.turned nb := ⟨_, rfl⟩
  rw [← hR11] at RP11 S11
  have m1 : R11.rb = R10.rb := by rw [hR11]; rfl
  have m2 : R11.ords = R.ords := by rw [hR11]; exact k2
  have m3 : R11.f = R.f := by rw [hR11]; exact k3
  have m4 : R11.d = q10 := by rw [hR11]; exact k5
  have m5 : R11.e.ts = [] := by rw [hR11]; rfl
  have m6 : R11.ex = R.ex := by rw [hR11]; exact k6
  have m7 : R11.W = 2 := by rw [hR11]; exact k7
  have m8 : R11.name = R.name := by rw [hR11]; exact k8
  have m9 : R11.nb = nx10 := by rw [hR11]; exact k9.1
  rw [← m1]
  have hfit : R11.Fit := by
    refine ⟨by omega, by rw [m8]; exact hnm, by rw [m9]; have := g9.2.1; rw [g2, hol] at hnx10; omega, fun t ht => ?_⟩
    unfold RelS.all at ht
    rw [m3, n6.f, m4, m5, m6, n6.ex] at ht
    simp only [List.nil_append, List.append_nil] at ht
    obtain ⟨i, hi⟩ := List.mem_iff_getElem?.1 ht
    rw [← rowsAt_mem hi]
    have hi2 := (List.getElem?_eq_some_iff.1 hi).1
    have : i = 0 ∨ i = 1 := by omega
    rcases this with rfl | rfl
    · rw [L0]; decide
    · rw [L1]; decide
  -- the cursor
  refine newC_rowT fun H12 z12 r12 e12 => ?_
  refine newC_rowT fun H13 z13 r13 e13 => ?_
  have RP13 := RP11.grow (e12.trans e13)
  have hol11 : R11.ords.length = 2 := by rw [m2]; exact hol
  have ask1 : R11.asked 1 = [R11.f, R11.d] := by unfold RelS.asked; rw [if_pos rfl]
  refine relScan_ok (n := 1) (cl := [1]) (wl := [4]) RP13 (by rw [ask1]; simp) hfit (by rw [hol11]; decide) (by rw [hol11]; decide) (fun o ho => ?_) (one_cell2 (r12.ext e13)) (Nat.le_refl _) (one_cell2 r13) rfl (fun x hx => ?_) (by simp) (by rw [m7]; decide) (fun q hq => ?_) fun C H14 cm e14 o14 c1 c2 c3 c4 c5 c6 c7 c8 c9 c10 => ?_
  · rw [m2, hords] at ho
    have : o = [0, 1] ∨ o = [1, 0] := by unfold ords2 at ho; simpa using ho
    rw [m7]
    rcases this with rfl | rfl <;> rfl
  · have : x = 1 := by simpa using hx
    rw [m7]; omega
  · rw [ask1] at hq
    simp only [List.mem_cons, List.not_mem_nil, or_false] at hq
    rcases hq with rfl | rfl
    · exact .inl (by rw [m3]; exact n6.f)
    · exact .inr (by rw [m4, hol11]; exact q10l)
  have hO : C.order = 1 ∧ C.lowL = [4] := by
    rcases c8 with ⟨u1, _, u3⟩ | ⟨u1, _, _⟩
    · have h01 : C.order = 0 ∨ C.order = 1 := by omega
      rcases h01 with e | e
      · rw [e, m2, hords] at u1
        exact absurd u1 (by decide)
      · refine ⟨e, ?_⟩
        rw [u3, e, m2, hords]; decide
    · have := u1 [1, 0] (by rw [m2, hords]; unfold ords2; simp)
      exact absurd this (by decide)
  have eo : R11.ords[C.order] = [1, 0] := by
    have h : R11.ords[C.order]? = some [1, 0] := by rw [m2, hords, hO.1]; rfl
    rw [List.getElem?_eq_getElem c7] at h
    exact Option.some.inj h
  obtain ⟨T, hT⟩ : ∃ T, q10.ts[1]? = some T := ⟨_, List.getElem?_eq_getElem (by omega)⟩
  have hTL : T.L = [[4, 2], [5, 1]] := by rw [← rowsAt_mem hT]; exact L1
  have hmap : C.tcs.map (·.t) = [T] := by
    rw [c9, ask1, hO.1, m3, m4]
    simp [n6.f, hT]
  obtain ⟨tc, htc⟩ : ∃ tc, C.tcs = [tc] := by
    have hl : C.tcs.length = 1 := by have := congrArg List.length hmap; simpa using this
    match hct : C.tcs, hl with
    | [tc], _ => exact ⟨tc, rfl⟩
  have htt : tc.t = T := by rw [htc] at hmap; simpa using hmap
  obtain ⟨tl1, tl2⟩ := c10 tc (by rw [htc]; simp)
  rw [hO.2] at tl1
  refine br_f rfl ?_
  -- what the first look finds
  have first : ∀ C1, Begun C C1 → ∃ t1 h1, C1.tcs = [t1] ∧ C1.hs = [h1] ∧ t1.t = T ∧ t1.ll = [4, 2] ∧ t1.strict = true ∧ h1.2 = some [4, 2] := by
    intro C1 hbg
    obtain ⟨b1, b2⟩ := hbg.new c4
    obtain ⟨t1, h1, x1, x2, y1, _, y3⟩ := b2 0 tc (by rw [htc]; rfl)
    have hl1 : C1.tcs.length = 1 := by rw [b1, htc]; rfl
    have hl2 : C1.hs.length = 1 := by rw [hbg.len, hl1]
    have e1 : C1.tcs = [t1] := by
      match hct : C1.tcs, hl1 with
      | [z], _ => rw [hct] at x1; simp at x1; rw [x1]
    have e2 : C1.hs = [h1] := by
      match hct : C1.hs, hl2 with
      | [z], _ => rw [hct] at x2; simp at x2; rw [x2]
    have hr : tc.rest = [[4, 2], [5, 1]] := by unfold TC.rest; rw [htt, hTL, tl1, tl2]; decide
    rw [hr, hO.2] at y3
    rcases y3 with ⟨u, _⟩ | ⟨y, u1, u2, u3, u4⟩
    · cases u
    · have : y = [4, 2] := (Option.some.inj u1).symm
      subst this
      exact ⟨t1, h1, e1, e2, y1.trans htt, u2, u3, u4⟩
  have hcl1 : C.colsL.length ≤ 1000 := by rw [c1]; decide
  refine relNext_ok (w := 1000000) (RP13.pool.grow e14) cm hg hfit (by decide) rfl (by rw [htc, show [tc].length = 1 from rfl]; decide) (by rw [htc, show [tc].length = 1 from rfl]; decide) c3 c7 (by rw [eo, m7]; rfl) (fun x hx => ?_) hcl1 (.inr ⟨c4, c6⟩) (fun x hx => ?_) (fun C1 hbg x hx y hy => ?_) (fun C1 _ _ _ hbg hno _ _ _ => ?_) (fun C1 i y t r F15 s15 t2 h2 out H15 hbg hti hhi _ P15 cm15 pt15 oo15 of15 S15 => ?_)
  · rw [eo] at hx
    have : x = 1 ∨ x = 0 := by simpa using hx
    rw [m7]; omega
  · rw [c5] at hx; cases hx
  · obtain ⟨t1, h1, x1, x2, x3, x4, x5, x6⟩ := first C1 hbg
    rw [x2] at hx
    have hx : x = h1 := by simpa using hx
    subst hx
    rw [x6] at hy
    have : y = [4, 2] := (Option.some.inj hy).symm
    subst this
    rw [eo, m7, c1, c2]
    exact ⟨rfl, by decide⟩
  · exfalso
    obtain ⟨t1, h1, x1, x2, x3, x4, x5, x6⟩ := first C1 hbg
    have := hno h1 (by rw [x2]; simp)
    rw [x6] at this; cases this
  obtain ⟨t1, h1, x1, x2, x3, x4, x5, x6⟩ := first C1 hbg
  have hi0 : i = 0 := by
    have := (List.getElem?_eq_some_iff.1 hti).1
    rw [x1] at this
    simpa using this
  subst hi0
  have ht1 : t = t1 := by rw [x1] at hti; simpa using hti.symm
  subst ht1
  have hy42 : y = [4, 2] := by
    rw [x2] at hhi
    have : h1 = (r, some y) := by simpa using hhi
    rw [this] at x6
    simpa using x6
  subst hy42
  rw [eo, m7] at oo15
  have hh2 : h2.2 = none := by
    obtain ⟨_, _, y3⟩ := pt15
    have hr : t.rest = [[5, 1]] := by unfold TC.rest; rw [x3, hTL, x4, x5]; decide
    rw [hr] at y3
    rcases y3 with ⟨u, _⟩ | ⟨y, u1, u2, u3, u4⟩
    · cases u
    · have : y = [5, 1] := (Option.some.inj u1).symm
      subst this
      rw [u4, hbg.lowL, hO.2]; decide
  obtain ⟨C2, hC2⟩ : ∃ C2, C2 = C1.with (C1.tcs.set 0 t2) (C1.hs.set 0 h2) := ⟨_, rfl⟩
  rw [← hC2] at cm15 of15 S15
  have v1 : C2.cb = C.cb := by rw [hC2]; exact hbg.cb
  have v2 : C2.tcs = [t2] := by rw [hC2]; show C1.tcs.set 0 t2 = _; rw [x1]; rfl
  have v3 : C2.hs = [h2] := by rw [hC2]; show C1.hs.set 0 h2 = _; rw [x2]; rfl
  have v4 : C2.begun = true := by rw [hC2]; exact hbg.begun
  have v5 : C2.turns = R11.turns := by rw [hC2]; exact hbg.turns.trans c3
  have v6 : C2.order = C.order := by rw [hC2]; exact hbg.order
  have v7 : C2.colsL = C.colsL := by rw [hC2]; exact hbg.colsL
  have hol2 : C2.order < R11.ords.length := by rw [v6]; exact c7
  have eo2 : R11.ords[C2.order] = [1, 0] := by
    have h : R11.ords[C2.order]? = some [1, 0] := by rw [v6, m2, hords, hO.1]; rfl
    rw [List.getElem?_eq_getElem hol2] at h
    exact Option.some.inj h
  have none2 : ∀ C3, Begun C2 C3 → ∀ x ∈ C3.hs, x.2 = none := fun C3 hb3 x hx => by
    rw [hb3.old v4, v3] at hx
    have : x = h2 := by simpa using hx
    rw [this]; exact hh2
  rw [htc, show [tc].length = 1 from rfl] at P15
  rw [← v1]
  refine relNext_ok (w := 1000000) P15 cm15 hg hfit (by decide) rfl (by rw [v2, show [t2].length = 1 from rfl]; decide) (by rw [v2, show [t2].length = 1 from rfl]; decide) v5 hol2 (by rw [eo2, m7]; rfl) (fun x hx => ?_) (by rw [v7]; exact hcl1) (.inl ⟨v4, by rw [v2, v3]; rfl⟩) (fun x hx y hy => ?_) (fun C3 hb3 x hx y hy => ?_) (fun C3 F16 s16 H16 hb3 _ P16 cm16 S16 => ?_) (fun C3 i3 y3 t3 r3 _ _ _ _ _ _ hb3 _ hh3 _ _ _ _ _ _ _ => ?_)
  · rw [eo2] at hx
    have : x = 1 ∨ x = 0 := by simpa using hx
    rw [m7]; omega
  · rw [v3] at hx
    have : x = h2 := by simpa using hx
    rw [this, hh2] at hy; cases hy
  · rw [none2 C3 hb3 x hx] at hy; cases hy
  · refine br_t rfl ?_
    refine newC_rowT fun H17 z17 r17 e17 => ?_
    have io : Ints .u64 H16 out [2, 4] := by
      have e : backL 2 [1, 0] [4, 2] 2 = [2, 4] := by decide
      rw [e] at oo15
      exact oo15.ints.mod S16.mod fun ad ha => (of15 _ ⟨ad, ha, rfl⟩).2
    refine SameRow_ok (io.ext e17) (two_cells r17) (by decide) ?_
    refine br_t (by decide) ?_
    have rel17 := cm16.rel.grow e17
    have ask2 : R11.asked 2 = [R11.d] := by unfold RelS.asked; rw [if_neg (by decide), if_pos rfl]
    have hsum : ((R11.asked 2).map fun q => q.rows.length).sum = 2 := by
      rw [ask2, m4]
      simp [rows_at, L0]
    refine count_ok (n := 2) rel17 (fun b u => ?_) (by rw [hsum]; decide) fun H18 e18 => ?_
    · have hz := e17.size
      rcases u with (u | u) | u
      · have := P16.pool.lt b u; omega
      · have := cm16.lt b u; omega
      · have := cm16.rel.lt b u; omega
    · rw [hsum]
      exact hK H18 ((P16.ext.trans e17).trans e18)
  · exfalso
    have := none2 C3 hb3 _ (List.mem_of_getElem? hh3)
    cases this
end
end Go.Proofs.YtjpkcdhjleemlaaGreatDoor

/-
  RelNone: a relation and a cursor that are not there: the walk.
-/
namespace Go.Proofs.YtjpkcdhjleemlaaGreatDoor
section
variable {H : Heap}
theorem rready_none {K : Int → Heap → Prop} (hK : K 1 H) : rel_Rel_ready.sp none H K := by
  refine rel_Rel_ready.of ?_
  unfold rel_Rel_ready.vc
  exact br_t rfl hK
theorem radd_none {l : Sl} {K : (Bool × Int) → Heap → Prop} (hK : K (false, 1) H) : rel_Rel_Add.sp none l H K := by
  refine rel_Rel_Add.of ?_
  unfold rel_Rel_Add.vc
  exact rready_none (br_t rfl hK)
theorem rhas_none {l : Sl} {K : (Bool × Int) → Heap → Prop} (hK : K (false, 1) H) : rel_Rel_Has.sp none l H K := by
  refine rel_Rel_Has.of ?_
  unfold rel_Rel_Has.vc
  exact rready_none (br_t rfl hK)
theorem rturn_none {K : (Int × Int) → Heap → Prop} (hK : K (0, 1) H) : rel_Rel_Turn.sp none H K := by
  refine rel_Rel_Turn.of ?_
  unfold rel_Rel_Turn.vc
  exact rready_none (br_t rfl hK)
theorem rrun_none {n : ByteArray} {K : (Int × Int) → Heap → Prop} (hK : K (0, 1) H) : rel_Rel_Run.sp none n H K := by
  refine rel_Rel_Run.of ?_
  unfold rel_Rel_Run.vc
  exact rready_none (br_t rfl hK)
theorem rnext_none {K : (Sl × Bool × Int) → Heap → Prop} (hK : K (Sl.mk none 0 0, false, 1) H) : rel_Cursor_Next.sp none H K := by
  refine rel_Cursor_Next.of ?_
  unfold rel_Cursor_Next.vc
  exact br_t rfl hK
theorem rnew_none {n : ByteArray} {w : Int} {o : Sl} {K : (Option Addr × Int) → Heap → Prop} (hK : K (none, 1) H) : rel_New.sp none n w o H K := by
  refine rel_New.of ?_
  unfold rel_New.vc
  exact ⟨fun _ _ => False, br_t rfl hK, fun _ _ h => h.elim⟩
theorem rscan_none {n : Int} {c w : Sl} {K : Option Addr → Heap → Prop} (hK : K none H) : rel_Rel_Scan.sp none n c w H K := by
  refine rel_Rel_Scan.of ?_
  unfold rel_Rel_Scan.vc
  exact br_t rfl hK
theorem rcount_none {n : Int} {K : Int → Heap → Prop} (hK : K 0 H) : rel_Rel_Count.sp none n H K := by
  refine rel_Rel_Count.of ?_
  unfold rel_Rel_Count.vc
  exact br_f rfl hK
theorem rwidth_none {K : Int → Heap → Prop} (hK : K 0 H) : rel_Rel_Width.sp none H K := by
  refine rel_Rel_Width.of ?_
  unfold rel_Rel_Width.vc
  exact br_t rfl hK
theorem rload_none {n : ByteArray} {K : Int → Heap → Prop} (hK : K 1 H) : rel_Rel_Load.sp none n H K := by
  refine rel_Rel_Load.of ?_
  unfold rel_Rel_Load.vc
  exact rready_none (br_t rfl hK)
theorem rdrop_none {K : Int → Heap → Prop} (hK : K 1 H) : rel_Rel_Drop.sp none H K := by
  refine rel_Rel_Drop.of ?_
  unfold rel_Rel_Drop.vc
  exact rready_none (br_t rfl hK)
theorem RelNone_ok {width part : Int} {l : Sl} {K : Bool → Heap → Prop} (hg : Gl H) (hK : ∀ B, Ext H B → K true B) : fathomlaw10_RelNone.sp width l part H K := by
  refine fathomlaw10_RelNone.of ?_
  unfold fathomlaw10_RelNone.vc
  refine radd_none (rhas_none (rturn_none (rrun_none (rnext_none (rnew_none ?_)))))
  refine br_t rfl (br_t rfl ?_)
  refine rscan_none (br_t rfl (rcount_none (br_t rfl (rwidth_none (br_t rfl (rload_none (br_t rfl (rdrop_none (br_t rfl ?_)))))))))
  exact rworks_ok hg hK
end
end Go.Proofs.YtjpkcdhjleemlaaGreatDoor

/-
  RelNone: for every input the law returns true, and its arguments read as before; the tables are laid as the program's text lays them. No condition beside that.
-/
namespace Go.Proofs.YtjpkcdhjleemlaaGreatDoor
open Go.ChangeShapes Go.WideShapes Go.ChangeAt Go.RowKit
set_option maxRecDepth 100000 in
theorem relNone_lifted (os : Os) (started : os.Started) (H : Type) (enc : TypeId × Value → H) :
    ReturnsInHanded {} Tryz.checked os 4 .any (fun w args => (Rows.relNoneSpec.pre enc Tryz.prog Tryz.f4 [] false w args ∧ laidMetH Tryz.prog laidS w) ∧ sizedMet enc Tryz.prog Tryz.f4 (OpenSpec.ofChange Rows.relNoneSpec) false w args)
      (Rows.relNoneSpec.post enc Tryz.prog Tryz.f4 false true false false) := by
  refine returnsInHanded_of_change_and (C := Tryz.checked) (X := fun w _ => laidMetH Tryz.prog laidS w) (fun _ _ _ hh h => h.of_heap hh) pprog_own started (by kernel_rfl) Tryz.func4
    (ChangeSpec.witness_shaped (enc := enc) (C := Tryz.checked) (os := os) (X := fun w _ => laidMetH Tryz.prog laidS w) false (World.doorLaid Tryz.prog 400 os) #[.int .i64 0, .slice none 0 0, .int .u8 0] 8 rfl (World.shaped_of_RefB (by kernel_rfl) (by kernel_rfl)) (by kernel_rfl) (by kernel_rfl) (by kernel_rfl) (door_met os _)) ?_
  intro W base args ds gs before hval0 hW _ _ hL _
  have hval : ∀ (j : Nat) t v, Tryz.f4.params[j]? = some t → args[j]? = some v → Value.okWide Tryz.prog W .any base t v := hval0
  have hW' := hW
  obtain ⟨p, q, hA0, hV, rfl, hfz, hnd⟩ := hW
  have hA : DataW.TrodAll enc Tryz.prog W 0 (fun _ => true) true Tryz.f4.params.toList args.toList ds p := hA0
  rw [Tryz.params4] at hA hval
  obtain ⟨v0, v1, v2, d0, d1, d2, p0, p1, p2, rfl, rfl, rfl, h0, h1, h2⟩ := trodAll_three hA
  obtain ⟨rfl, rfl⟩ := trodVars_none hV
  obtain ⟨width, rfl, _⟩ := wide_int (k := .i64) (hval 0 ty_int v0 rfl rfl) (by kernel_rfl)
  obtain ⟨l, ll, rfl, il, cl, wl⟩ := open_sl_ints (k := .u64) (e := ty_uint64) (by kernel_rfl) (by kernel_rfl) (by kernel_rfl) (hval 1 ty_sl_uint64 v1 rfl rfl) h1
  obtain ⟨part, rfl, _⟩ := wide_int (k := .u8) (hval 2 ty_uint8 v2 rfl rfl) (by kernel_rfl)
  have hspec := RelNone_ok (width := width) (part := part) (l := l) (H := W.heap) (K := fun b H' => b = true ∧ Ext W.heap H') (gl_of_laid hL) (fun H' e => ⟨rfl, e⟩)
  refine (hspec W rfl).mono fun e W' ⟨v, he, ⟨x, hx, hb, hext⟩, hal⟩ => ?_
  subst he; subst hx; subst hb
  exact ⟨_, rfl, law_post pprog_laidOut (by decide +kernel) rfl (by kernel_rfl) rfl rfl rfl rfl hW' hext hal⟩
theorem relNone_row : Rows.RelNoneSaid :=
  OpenClaim.holds_of_wide 4 Tryz.f4 rfl rfl rfl rfl rfl rfl rfl ⟨rfl, rfl, rfl, rfl, rfl⟩ rfl rfl rfl rfl rfl (by kernel_rfl) Tryz.func4 (by kernel_rfl)
    (of_decide_eq_true (by kernel_rfl)) (by unfold Func.isWrapper; first | (rw [if_pos (by decide +kernel)]; kernel_rfl) | (rw [if_neg (by decide +kernel)]; exact ⟨rfl, rfl⟩))
    (fun os started H enc _ => relNone_lifted os started H enc)
theorem relNone_holds : Rows.RelNoneCardSaid :=
  Claim7.holds_tied_plain_at .later [] [.data, .data, .data, .data] true _ false
    relNone_row (fun _ h => by cases h) (by kernel_rfl) (fun _ h => by cases h) relNone_row_tie rfl ⟨rfl, rfl⟩ (by kernel_rfl) rfl
    (fun f fn hf hfn => by
      obtain rfl : f = 4 := Option.some.inj ((show Tryz.prog.funcNamed "fathom/fathomlaw10.RelNone" = some 4 by kernel_rfl).symm.trans hf) |>.symm
      obtain rfl : fn = Tryz.f4 := (Option.some.inj (Tryz.func4.symm.trans hfn)).symm
      exact ⟨by kernel_rfl, fun j t ht => by
        rw [Tryz.params4] at ht
        have hm : t ∈ [ty_int, ty_sl_uint64, ty_uint8] := by simpa using Array.mem_of_getElem? ht
        have hall : ([ty_int, ty_sl_uint64, ty_uint8].all fun u => !Tryz.prog.wantsStandIn u) = true := by kernel_rfl
        exact (show Tryz.prog.wantsStandIn t = false by simpa using List.all_eq_true.1 hall t hm)⟩)
    (by kernel_rfl)
#print axioms relNone_holds
end Go.Proofs.YtjpkcdhjleemlaaGreatDoor
