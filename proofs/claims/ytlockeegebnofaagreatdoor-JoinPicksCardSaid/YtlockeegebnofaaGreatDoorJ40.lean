/-
 Relations: is a row of columns an order? a relation is made: the walk.
-/
import Derived.Test.YtlockeegebnofaaGreatDoorJ36
import Derived.Test.YtlockeegebnofaaGreatDoorJ37
import Derived.Test.YtlockeegebnofaaGreatDoorDks
import Derived.Test.YtlockeegebnofaaGreatDoorDkr
namespace Go.Proofs.YtlockeegebnofaaGreatDoor
open Go.MapKept
theorem ValsIter_ok {lb cap : Nat} {s : Sl} {xs : List Int} {H : Heap} {K : Unit → Heap → Prop} (I : Nat → Heap → Prop) (hcap : RowT H cap YaQ #[s.v]) (hx : ∀ i A, I i A → Ints .i64 A s xs) (hl : xs.length ≤ 1000000) (h0 : I 0 H)
  (hs : ∀ i A, I i A → i < xs.length → YieldSpec Tryz.prog lb #[.int .i64 (xs.getD i 0)] A fun b A' => b = true ∧ I (i + 1) A') (hfin : ∀ A, I xs.length A → K () A) : ZaU.sp lb ⟨cap, 0, none⟩ H K := by
 refine ZaU.of ?_
 unfold ZaU.vc
 refine ⟨s, hcap.cell (i := 0) rfl, ?_⟩
 refine loop_upto xs.length (fun i z A => z = (i : Int) ∧ I i A) ⟨rfl, h0⟩ ?_
 rintro i _ A next hi ⟨rfl, hI⟩ hnext
 have hn := (hx i A hI).len
 refine br_mk (fun hc => ?_) (fun hc => ?_)
 ·have hlt : i < xs.length := by have : (i : Int) < (s.n : Int) := by simpa using hc
                                 omega
  refine ints_get (hx i A hI) (i := (i : Int)) (j := i) rfl hlt fun ad _ => ?_
  refine (hs i A hI hlt).mono fun b A' ⟨hb, hI'⟩ => ?_
  subst hb
  exact br_f rfl (hnext hlt _ _ ⟨succ64 i (by omega), hI'⟩)
 ·have hge : i = xs.length := by have : ¬ (i : Int) < (s.n : Int) := by simpa using hc
                                 omega
  subst hge
  exact hfin A hI
theorem AppendInts_ok {cap : Nat} {s : Sl} {xs : List Int} {H : Heap} {K : Sl → Heap → Prop} (hx : Ints .i64 H s xs) (hcap : RowT H cap YaQ #[s.v]) (hl : xs.length ≤ 1000000)
  (hK : ∀ (z : Sl) (H' : Heap), SlE EI YaT H' z xs → Ext H H' → (∀ b, ownB z b → H.size ≤ b) → K z H') :
  ZaR.sp (Sl.mk none 0 0) (.func (.func ZaU.no) #[] #[(.pointer (some ⟨cap, 0, none⟩))]) H K := by
 refine ZaR.of ?_
 unfold ZaR.vc
 refine newC_rowT fun H1 s1 r1 m1 => ?_
 have hcallable : callable Tryz.prog ZaU.no = true := by kernel_rfl
 refine ⟨_, _, rfl, hcallable, fun rec hround => ?_⟩
 obtain ⟨r, hr⟩ : ∃ r, r = H1.size := ⟨_, rfl⟩
 obtain ⟨l, hl2⟩ : ∃ l, l = H1.size + 1 := ⟨_, rfl⟩
 obtain ⟨p, hp⟩ : ∃ p, p = H.size := ⟨_, rfl⟩
 rw [← hl2] at hround ⊢
 rw [← hr]
 rw [← hp] at r1
 rw [← hp] at hround
 rw [← hp]
 obtain ⟨HB, hHB⟩ : ∃ HB : Heap, HB = (H1.push (.deferred (some []))).push (.loop (rec .ready none)) := ⟨_, rfl⟩
 rw [← hHB]
 have eB : Mod (fun _ => False) H1 HB := by rw [hHB]; exact (Mod.push _ _ _).trans (Mod.push _ _ _)
 have sB : HB.size = H1.size + 2 := by rw [hHB]; simp
 have lB : HB[l]? = some (.loop (rec .ready none)) := by rw [hHB, hl2, Array.getElem?_push, if_pos (by simp)]
 have rB : HB[r]? = some (.deferred (some [])) := by rw [hHB, hr]; simp [Array.getElem?_push]
 have pB : RowT HB p YaQ #[(Sl.mk none 0 0).v] := r1.ext eB
 have cB : RowT HB cap YaQ #[s.v] := (hcap.ext m1).ext eB
 have eHB : Ext H HB := m1.trans eB
 let I : Nat → Heap → Prop := fun i A => A[l]? = some (.loop (rec .ready none)) ∧ A[r]? = some (.deferred (some [])) ∧ (∃ z, RowT A p YaQ #[z.v] ∧ SlE EI YaT A z (xs.take i) ∧ (∀ b, ownB z b → HB.size ≤ b)) ∧ Mod (fun b => b = p ∨ b = l) HB A
 have eI : ∀ i A, I i A → Ext H A := fun i A h => ⟨by have := h.2.2.2.size; omega, fun b hb _ => by rw [h.2.2.2.same b (by omega) fun u => by omega]; exact eHB.same b hb id⟩
 refine Spec.mono (R := fun v H' => ∃ x : Unit, v = (cTup []).enc x ∧ rangeK l rec H' _ _ _) (ValsIter_ok (lb := l) (cap := cap) (H := HB) (K := fun _ H' => rangeK l rec H' _ _ _) I cB (fun i A h => hx.ext (eI i A h)) hl ?_ ?_ ?_) (fun v H' ⟨x, _, h⟩ => h)
 ·exact ⟨lB, rB, ⟨_, pB, SlE.nil _ _ _, by rintro b ⟨ad, q, _⟩; cases q⟩, .refl _ _⟩
 ·rintro i A ⟨i1, i2, ⟨z, i3, i4, i5⟩, i6⟩ hi
  refine hround [.int .i64 (xs.getD i 0)] A _ i1 ?_
  show onSome (some (xs.getD i 0)) _
  refine ⟨i1, ?_⟩
  obtain ⟨Ab, hAb⟩ : ∃ Ab : Heap, Ab = A.setIfInBounds l (.loop (rec .busy none)) := ⟨_, rfl⟩
  rw [← hAb]
  have mAb : Mod (fun b => b = l) A Ab := by rw [hAb]; exact Mod.setObj rfl
  have sAb : Ab.size = A.size := by rw [hAb]; simp
  have lAb : Ab[l]? = some (.loop (rec .busy none)) := by rw [hAb]; exact setObj_at i1
  have hpl : p ≠ l := by omega
  have p1 := i3.mod mAb hpl
  refine p1.ld (c := cSl) (i := 0) (x := z) rfl ?_
  have tl : ∀ b, ownB z b → b ≠ l := fun b hb => by have := i5 b hb; omega
  have o1 : SlE EI YaT Ab z (xs.take i) := i4.keep fun b hb hbl => mAb.same b hbl (tl b hb)
  refine SlE.push (E := EI) elInt (x := xs.getD i 0) o1 rfl (by rw [List.length_take]; omega) (by rw [List.length_take]; omega) fun s2 A2 o2 g2 _ => ?_
  have lp : p < Ab.size := obj_lt p1
  have tp : ∀ b, ownB z b → b ≠ p := fun b hb => by have := i5 b hb; omega
  have p2 : RowT A2 p YaQ #[z.v] := p1.mod g2.1 (fun hb => tp _ hb rfl)
  have i6s := i6.size
  have t2 : ∀ b, ownB s2 b → HB.size ≤ b := fun b hb => by
   rcases g2.2 b hb with q | q
   ·exact i5 b q
   ·omega
  have p2st := p2.st (i := 0) (v := s2.v) (by simp) rfl (K := fun H5 => H5[l]? = some (.loop (rec .busy none)) ∧ (fun b A' => b = true ∧ I (i + 1) A') true (H5.setIfInBounds l (.loop (rec .ready none))))
  rw [show (Addr.add ⟨p, 0, none⟩ 0) = ⟨p, 0, none⟩ from rfl] at p2st
  refine p2st fun A3 p3 m3 s3 => ?_
  have l2 : A2[l]? = some (.loop (rec .busy none)) := g2.1.at lAb (fun hb => tl _ hb rfl)
  have l3 : A3[l]? = some (.loop (rec .busy none)) := m3.at l2 (by omega)
  have m4 : Mod (fun b => b = l) A3 (A3.setIfInBounds l (.loop (rec .ready none))) := Mod.setObj rfl
  refine ⟨l3, rfl, setObj_at l3, ?_, ⟨s2, ?_, ?_, t2⟩, ?_⟩
  ·exact m4.at (m3.at (g2.1.at (mAb.at i2 (by omega)) (fun hb => by have := i5 _ hb; omega)) (by omega)) (by omega)
  ·exact RowT.mod (show RowT A3 p YaQ #[s2.v] from p3) m4 hpl
  ·have e : xs.take (i + 1) = xs.take i ++ [xs.getD i 0] := by rw [List.take_add_one, List.getElem?_eq_getElem hi]; simp [List.getD, List.getElem?_eq_getElem hi]
   rw [e]
   refine o2.keep fun b hb hbl => ?_
   have := t2 b hb
   exact (m4.same b (by omega) (by omega)).trans (m3.same b hbl (by omega))
  ·have z2 := g2.1.size
   refine i6.trans' (G := fun b => (b = l ∨ ownB z b) ∨ b = p) ?_ ?_
   ·exact (((mAb.mono fun b _ e => .inl (.inl e)).trans (g2.1.mono fun b _ e => .inl (.inr e))).trans (m3.mono fun b _ e => .inr e)).trans (m4.mono fun b _ e => .inl (.inl e))
   ·rintro b hb ((e | e) | e)
    ·exact .inr e
    ·have := i5 b e; omega
    ·exact .inl e
 ·rintro A ⟨i1, i2, ⟨z, i3, i4, i5⟩, i6⟩
  rw [List.take_length] at i4
  refine ⟨.ready, none, i1, rfl, ?_⟩
  show ld cSl _ _ _
  have m4 : Mod (fun b => b = l) A (A.setIfInBounds l (.loop (rec .exhausted none))) := Mod.setObj rfl
  have p4 := i3.mod m4 (by omega)
  refine p4.ld (c := cSl) (i := 0) (x := z) rfl ?_
  have r4 := m4.at i2 (by omega)
  refine ⟨r4, ?_⟩
  have m5 : Mod (fun b => b = r) (A.setIfInBounds l (.loop (rec .exhausted none))) ((A.setIfInBounds l (.loop (rec .exhausted none))).setIfInBounds r (.deferred none)) := Mod.setObj rfl
  have z6 := i6.size
  have z4 := m4.size
  refine hK z _ ?_ ?_ (fun b hb => by have := i5 b hb; omega)
  ·refine i4.keep fun b hb hbl => ?_
   have := i5 b hb
   exact (m5.same b (by omega) (by omega)).trans (m4.same b hbl (by omega))
  ·have z5 := m5.size
   refine ⟨by omega, fun b hb _ => (m5.same b (by omega) (by omega)).trans ((m4.same b (by omega) (by omega)).trans ((i6.same b (by omega) (by omega)).trans (eHB.same b hb id)))⟩
def upto (n : Nat) : List Int := (List.range n).map fun (i : Nat) => (i : Int)
theorem isOrder_ok {l : Sl} {x : List Int} {W : Nat} {H : Heap} {K : Bool → Heap → Prop} (h : Ints .i64 H l x) (hW : x.length = W) (hl : W ≤ 1000) (hs : (x.mergeSort fun a b => decide (a ≤ b)) = upto W) (hK : ∀ B, Ext H B → K true B) : Zdx.sp l (W : Int) H K := by
 refine Zdx.of ?_
 unfold Zdx.vc
 refine Zbm.of ?_
 unfold Zbm.vc
 refine newC_rowT fun H1 z1 r1 e1 => ?_
 refine ZbM.of ?_
 unfold ZbM.vc
 refine ZbE.of ?_
 unfold ZbE.vc
 refine AppendInts_ok (h.ext e1) r1 (by omega) fun z H2 o2 e2 f2 => ?_
 refine SortInts_ok o2 (by omega) fun H3 o3 m3 => ?_
 rw [hs] at o3
 have e3 : Ext H H3 := ⟨by have := e1.size; have := e2.size; have := m3.size; omega, fun b hb _ => by
  have := e1.size; have := e2.size
  rw [m3.same b (by omega) fun u => by have := f2 b u; omega, e2.same b (by omega) id]
  exact e1.same b hb id⟩
 have i3 : Ints .i64 H3 z (upto W) := by
  have := o3
  unfold SlE at this
  rw [EI_all] at this
  exact Owns.ints this
 have hlu : (upto W).length = W := by unfold upto; simp
 have hzn := i3.len
 refine loop_upto W (fun i z A => z = (i : Int) ∧ A = H3) ⟨rfl, rfl⟩ ?_
 rintro i _ _ next hi ⟨rfl, rfl⟩ hnext
 refine br_mk (fun hc => ?_) (fun hc => ?_)
 ·have hlt : i < W := by have : (i : Int) < (z.n : Int) := by simpa using hc
                         omega
  refine ints_get i3 (i := (i : Int)) (j := i) rfl (by omega) fun ad _ => ?_
  have e : (upto W).getD i 0 = (i : Int) := by unfold upto; simp [List.getD, hlt]
  rw [e]
  refine br_f (by simp) ?_
  exact hnext hlt _ _ ⟨succ64 i (by omega), rfl⟩
 ·refine (congrArg (fun b => K b _) ?_).mpr (hK _ e3)
  have := h.len
  simp; omega
theorem elSlI : El Tryz.prog YaF YaQ 24 (.slice none 0 0) := El_of (zb := isSl0) isSl0_eq rfl (by kernel_rfl)
theorem upto_get {W i : Nat} (h : i < W) : (upto W).getD i 0 = (i : Int) := by unfold upto; simp [List.getD, h]
theorem upto_len (W : Nat) : (upto W).length = W := by unfold upto; simp
theorem isSorted_ok {l : Sl} {W : Nat} {H : Heap} {K : Bool → Heap → Prop} (h : Ints .i64 H l (upto W)) (hl : W ≤ 1000) (hK : K true H) : ZaY.sp l H K := by
 refine ZaY.of ?_
 unfold ZaY.vc
 have hn := h.len
 rw [upto_len] at hn
 refine loop_upto W (fun k z A => z = (W : Int) - 1 - (k : Int) ∧ A = H) ⟨by rw [wrap64 (by omega) (by omega)]; omega, rfl⟩ ?_
 rintro k _ _ next hk ⟨rfl, rfl⟩ hnext
 refine br_mk (fun hc => ?_) (fun _ => hK)
 have hpos : (W : Int) - 1 - (k : Int) > 0 := by simpa using hc
 have e1 : IntKind.i64.wrap ((W : Int) - 1 - (k : Int) - 1) = (W : Int) - 1 - ((k + 1 : Nat) : Int) := by rw [wrap64 (by omega) (by omega)]; omega
 rw [e1]
 refine ints_get h (i := (W : Int) - 1 - (k : Int)) (j := W - 1 - k) (by omega) (by rw [upto_len]; omega) fun ad _ => ?_
 refine ints_get h (i := (W : Int) - 1 - ((k + 1 : Nat) : Int)) (j := W - 1 - (k + 1)) (by omega) (by rw [upto_len]; omega) fun ad2 _ => ?_
 rw [upto_get (by omega), upto_get (by omega)]
 refine Zdn.of ?_
 unfold Zdn.vc
 refine ZcY.of ?_
 unfold ZcY.vc
 refine br_f (by simp) ?_
 refine br_f (by simp; omega) ?_
 exact hnext (by omega) _ _ ⟨rfl, rfl⟩
def relN (p : Nat) (name : ByteArray) (W : Nat) (os : Sl) (f d e : Option Addr) : Array Value := #[.pointer (at0 p), .string name, .int .i64 W, os.v, .int .i64 0, .bool false, .pointer f, .pointer d, .pointer e, .int .i64 0, .int .i64 0]
section
variable {H0 A B : Heap} {F F' : Nat → Prop} {p dp Q U most m c : Nat} {s s' : Pl} {M M' : Files} {R : RelS} {l : Sl} {ll : List Int}
theorem OrdX.grow {X : Nat → Prop} {s : Sl} {ls : List (List Int)} (h : OrdX X A s ls) (e : Ext A B) : OrdX X B s ls := h.step (Step.ofExt e)
structure RelNew (name : ByteArray) (W : Nat) (ords : List (List Int)) (R : RelS) : Prop where
 name : R.name = name
 W : R.W = W
 ords : R.ords = ords
 f : R.f.ts = []
 d : R.d.ts = []
 e : R.e.ts = []
 ex : R.ex = []
 next : R.next = 0
 nb : R.nb = 0
 turns : R.turns = 0
set_option maxHeartbeats 2000000 in
theorem relNew_ok {name : ByteArray} {W : Nat} {os : Sl} {ords : List (List Int)} {K : (Option Addr × Int) → Heap → Prop} (hW : W ≤ 16) (ho : OrdX (fun _ => False) A os ords) (h1 : 1 ≤ ords.length) (h16 : ords.length ≤ 16) (hord : ∀ x ∈ ords, x.length = W ∧ (x.mergeSort fun a b => decide (a ≤ b)) = upto W) (h0 : ords[0]? = some (upto W)) (hF : ∀ b, F b → b < A.size) (hz : H0.size ≤ A.size) (hfree : ∀ j, M (nmR name j) = none)
  (hK : ∀ R B, RelNew name W ords R → RelB H0 B F p M R → Ext A B → (∀ b, R.O b → A.size ≤ b) → K (at0 R.rb, 0) B) : Zed.sp (at0 p) name (W : Int) os A K := by
 have hon := ho.len
 refine Zed.of ?_
 unfold Zed.vc
 refine ⟨fun _ B => A = B, ?_, ?_⟩
 ·refine br_f rfl ?_
  refine rowRoom_ok ?_
  have hr := (fan_room hW).2.2.1
  refine br_f (by simp; omega) ?_
  refine br_f (by simp; omega) ?_
  refine br_f (by simp; omega) ?_
  refine ho.ld (i := 0) (by omega) rfl fun ad r _ _ hi _ => ?_
  have e0 : ords[0] = upto W := by rw [List.getElem?_eq_getElem (by omega)] at h0; exact Option.some.inj h0
  rw [e0] at hi
  exact isSorted_ok hi (by omega) (br_f rfl rfl)
 rintro _ _ rfl
 refine newC_rowT fun B0 z0 r0 e0 => ?_
 obtain ⟨rb, hrb⟩ : ∃ rb, rb = A.size := ⟨_, rfl⟩
 rw [← hrb] at r0 ⊢
 refine loop_upto ords.length (fun i z B => z = (i : Int) ∧ ∃ s rs, RowT B rb YaO (relN p name W s none none none) ∧ Owns B 0 YaQ 1 s (rs.map Sl.v) ∧ rs.length = i ∧ (∀ (j : Nat) (r : Sl) (x : List Int), rs[j]? = some r → ords[j]? = some x → Owns B 0 YaT 1 r (x.map (Value.int .i64)) ∧ ∀ b, ownB r b → rb < b) ∧ (∀ b, ownB s b → rb < b) ∧ Ext A B ∧ rb < B.size) ⟨rfl, Sl.mk none 0 0, [], r0, Owns.nil _ _ _ _, rfl, by simp, fun b u => (by obtain ⟨ad, ha, _⟩ := u; cases ha), e0, by omega⟩ ?_
 rintro i _ B next hi ⟨rfl, s, rs, rB, oB, lB, rowB, fB, eB, hBz⟩ hnext
 refine br_mk (fun hc => ?_) (fun hc => ?_)
 ·have hlt : i < ords.length := by have : (i : Int) < (os.n : Int) := by simpa using hc
                                   omega
  refine (ho.grow eB).ld hlt rfl fun ad r _ _ hir _ => ?_
  obtain ⟨w1, w2⟩ := hord _ (List.getElem_mem hlt)
  refine isOrder_ok hir w1 (by omega) w2 fun C eC => ?_
  refine br_f rfl ?_
  refine ⟨Ext C, .refl _ _, ?_⟩
  simp only [add_add, Nat.reduceAdd]
  refine RowT.ldC (c := cSl) (i := 3) (x := s) (cs := fun _ => relN p name W s none none none) (fun D hD => (rB.ext eC).ext hD) (fun _ _ => rfl) ?_
  refine hcloneI_ok (hir.ext eC) (by omega) fun r' D oD eD fD => ⟨eD, ?_⟩
  have eBD := eC.trans eD
  refine ⟨eD.trans (Mod.push (fun _ => False) D (.cells #[r'.v] YaQ)), ?_⟩
  have hsn : s.n = i := by have := oB.1; simp at this; omega
  have key := elSlI.push (ty := YaF) (H := D) (base := 0) (s := s) (xs := rs.map Sl.v) (v := r'.v) (oB.ext eBD) (by cases r'; rfl) (by omega) (by omega) (Nat.zero_le _)
   (K := fun s' E => Go.Proofs.YtlockeegebnofaaGreatDoor.st E (Addr.add ⟨rb, 0, none⟩ 3) s'.v fun E' => next (IntKind.i64.wrap ((i : Int) + (1 : Int))) E')
  refine key fun s' E n' oE mE bE _ => ?_
  have hzC := eC.size
  have hzD := eD.size
  have hzE := mE.size
  have rE : RowT E rb YaO (relN p name W s none none none) := ((rB.ext eC).ext eD).mod mE fun u => by have := fB _ u; omega
  refine RowT.st rE (i := 3) (by simp [relN]) (by cases s'; rfl) fun G rG mG zG => ?_
  have fE : ∀ b, ownB s' b → rb < b := fun b hb => by
   rcases bE b hb with v | v
   ·exact fB b v
   ·omega
  refine hnext hlt _ _ ⟨succ64 i (by omega), s', rs ++ [r'], rG, ?_, by simp [lB], fun j r2 x hr2 hx => ?_, fE, ?_, by omega⟩
  ·rw [List.map_append]
   exact oE.mod mG fun b hb u => by have := fE b hb; omega
  ·by_cases hj : j < i
   ·rw [List.getElem?_append_left (by omega)] at hr2
    obtain ⟨q1, q2⟩ := rowB j r2 x hr2 hx
    have q3 := q1.ext eBD
    exact ⟨(q3.mod mE fun b hb hb' => q3.apart (oB.ext eBD) (by decide) b hb hb').mod mG fun b hb u => (by have := q2 b hb; omega), q2⟩
   ·have hji : j = i := by
     have := (List.getElem?_eq_some_iff.1 hr2).1
     simp at this; omega
    subst hji
    rw [List.getElem?_append_right (by omega), lB] at hr2
    have : r2 = r' := by simpa using hr2.symm
    subst this
    have hx' : x = ords[j] := by rw [List.getElem?_eq_getElem hlt] at hx; exact (Option.some.inj hx).symm
    subst hx'
    refine ⟨(oD.mod mE fun b hb hb' => oD.apart (oB.ext eBD) (by decide) b hb hb').mod mG fun b hb u => (by have := fD b hb; omega), fun b hb => by have := fD b hb; omega⟩
  ·have eBE : Ext A E := ⟨by have := eB.size; omega, fun b hb _ => by
    rw [mE.same b (by have := eB.size; omega) fun u => by have := fB b u; omega]
    exact (eB.trans eBD).same b hb id⟩
   exact ⟨by have := eBE.size; omega, fun b hb _ => by
    rw [mG.same b (by have := eBE.size; omega) fun u => by omega]
    exact eBE.same b hb id⟩
 ·have hge : i = ords.length := by have : ¬ (i : Int) < (os.n : Int) := by simpa using hc
                                   omega
  subst hge
  refine part_ok fun C zC rC eC => ?_
  refine part_ok fun D zD rD eD => ?_
  refine part_ok fun E zE rE eE => ?_
  have eBE := (eC.trans eD).trans eE
  refine RowT.st (rB.ext eBE) (i := 6) (by simp [relN]) rfl fun G1 q1 m1 z1 => ?_
  refine RowT.st q1 (i := 7) (by simp [relN]) rfl fun G2 q2 m2 z2 => ?_
  refine RowT.st q2 (i := 8) (by simp [relN]) rfl fun G3 q3 m3 z3 => ?_
  have m123 : Mod (fun b => b = rb) E G3 := (m1.trans m2).trans m3
  have hAB := eB.size
  have eAG : Ext A G3 := ⟨by omega, fun b hb _ => by rw [m123.same b (by omega) fun u => by omega]; exact (eB.trans eBE).same b hb id⟩
  have hsn : s.n = ords.length := by have := oB.1; simp at this; omega
  have key := hK ⟨rb, name, W, s, ords, ⟨B.size, Sl.mk none 0 0, []⟩, ⟨C.size, Sl.mk none 0 0, []⟩, ⟨D.size, Sl.mk none 0 0, []⟩, [], 0, 0, 0⟩ G3 ⟨rfl, rfl, rfl, rfl, rfl, rfl, rfl, rfl, rfl, rfl⟩
  have hO : ∀ b, RelS.O ⟨rb, name, W, s, ords, ⟨B.size, Sl.mk none 0 0, []⟩, ⟨C.size, Sl.mk none 0 0, []⟩, ⟨D.size, Sl.mk none 0 0, []⟩, [], 0, 0, 0⟩ b → b = rb ∨ B.size ≤ b := by
   rintro b (u | ⟨q, hq, u⟩ | ⟨t, ht, u⟩)
   ·exact .inl u
   ·unfold RelS.parts at hq
    simp only [List.mem_cons, List.not_mem_nil, or_false] at hq
    rcases hq with rfl | rfl | rfl
    ·right; show B.size ≤ b; rw [u]; exact Nat.le_refl _
    ·right; rw [u]; show B.size ≤ C.size; omega
    ·right; rw [u]; show B.size ≤ D.size; omega
   ·cases ht
  have offS : ∀ b, rb < b → b < B.size → ¬ RelS.X ⟨rb, name, W, s, ords, ⟨B.size, Sl.mk none 0 0, []⟩, ⟨C.size, Sl.mk none 0 0, []⟩, ⟨D.size, Sl.mk none 0 0, []⟩, [], 0, 0, 0⟩ F b := by
   rintro b hb1 hb2 (u | u)
   ·have := hF b u; omega
   ·rcases hO b u with v | v <;> omega
  have keepB : ∀ {b : Nat}, rb < b → b < B.size → G3[b]? = B[b]? := fun {b} h1 h2 => by
   rw [m123.same b (by omega) fun u => by omega]; exact eBE.same b h2 id
  refine key ⟨q3, ?_, ⟨hsn, ?_, ?_⟩, ?_, ?_, ?_, List.nodup_nil, List.nodup_nil, ?_, fun j _ => hfree j⟩ eAG fun b hb => by rcases hO b hb with v | v <;> omega
  ·intro q hq
   unfold RelS.parts at hq
   simp only [List.mem_cons, List.not_mem_nil, or_false] at hq
   rcases hq with rfl | rfl | rfl
   ·exact ⟨((rC.ext eD).ext eE).mod m123 (by show ¬ B.size = rb; omega), SlX.nil _ _⟩
   ·exact ⟨(rD.ext eE).mod m123 (by show ¬ C.size = rb; omega), SlX.nil _ _⟩
   ·exact ⟨rE.mod m123 (by show ¬ D.size = rb; omega), SlX.nil _ _⟩
  ·intro ad ha
   have h1 := fB _ ⟨ad, ha, rfl⟩
   have h2 := (oB.block _ ⟨ad, ha, rfl⟩).2
   exact ⟨by omega, offS _ h1 h2⟩
  ·intro i hi
   have hir : i < rs.length := by rw [lB]; exact hi
   obtain ⟨ad, ha, hcl⟩ := oB.reads.at (i := i) (by simpa using hir)
   have h1 := fB _ ⟨ad, ha, rfl⟩
   have h2 := (oB.block _ ⟨ad, ha, rfl⟩).2
   obtain ⟨w1, w2⟩ := rowB i rs[i] ords[i] (List.getElem?_eq_getElem hir) (List.getElem?_eq_getElem hi)
   refine ⟨ad, rs[i], ha, ?_, fun a q => ?_, ?_, w1.cap⟩
   ·rw [hCell_congr (keepB (by rw [add_block]; exact h1) (by rw [add_block]; exact h2))]
    simpa using hcl
   ·have h3 := w2 _ ⟨a, q, rfl⟩
    have h4 := (w1.block _ ⟨a, q, rfl⟩).2
    exact ⟨by omega, offS _ h3 h4⟩
   ·have := (w1.ext eBE).mod m123 fun b hb u => by have := w2 b hb; omega
    exact this.ints
  ·intro t ht; cases ht
  ·intro b hb
   rcases hO b hb with v | v
   ·exact ⟨fun u => by have := hF b u; omega, by omega⟩
   ·exact ⟨fun u => by have := hF b u; omega, by omega⟩
  ·show [B.size, C.size, D.size].Nodup
   simp; omega
  ·intro t ht; cases ht
end
section
variable {H0 A B : Heap} {F F' : Nat → Prop} {p dp Q U most m c : Nat} {s s' : Pl} {M M' : Files} {R : RelS} {l : Sl} {ll : List Int}
theorem Step.rel {R : RelS} (S : Step F F' A B) : Step (R.X F) (R.X F') A B := S.widen (fun _ u => .inl u) fun b u => u.elim .inr fun v => .inl (.inr v)
theorem rows_at (q : PartS) : q.rows = q.rowsAt 0 := by
 unfold PartS.rows PartS.rowsAt
 cases q.ts <;> rfl
set_option maxHeartbeats 1000000 in
theorem relAdd_ok {w : Nat} {K : (Bool × Int) → Heap → Prop} (h : RelP H0 A F p dp s M Q U most m c R) (hg : Gl H0) (hF : R.Fit) (hQ : Q ≤ 1048576) (hm : m + 4000000 ≤ 30000000000) (hw : ∀ i, ((R.get 2).rowsAt i).length ≤ w) (hw4 : w ≤ 400) (hq : U + R.ords.length * (2 * w + 6) + w + 4 < Q) (hc : c + R.ords.length < 4096) (ho : R.ords.length ≤ 16) (hts : (R.get 2).ts = [] ∨ (R.get 2).ts.length = R.ords.length) (hex : R.ex = []) (hnb : R.nb = R.next) (hn : R.next + R.ords.length ≤ 100)
  (hl : Ints .u64 A l ll) (hlo : Off (R.X F) A l) (hll : ll.length = R.W) (ht : ∀ i (hi : i < R.ords.length), R.ords[i].length ≤ 1000 ∧ (turnL ll R.ords[i]).length = R.W ∧ fitsL (turnL ll R.ords[i]))
  (hK0 : (∃ q ∈ R.parts, ll ∈ q.rows) → ∀ F' s' B, RelP H0 B F' p dp s' M Q U most (m + 4000000) c R → Step (R.X F) (R.X F') A B → K (false, 0) B)
  (hK1 : (¬ ∃ q ∈ R.parts, ll ∈ q.rows) → ∀ F' s' M' U' q' nx B, RelP H0 B F' p dp s' M' Q U' most (m + 4000000) (c + R.ords.length) ((R.put 2 q').nums nx nx) → Ins R.ords ll (R.get 2) q' → U' ≤ U + R.ords.length * (2 * w + 6) → nx ≤ R.next + R.ords.length → Step (R.X F) (RelS.X ((R.put 2 q').nums nx nx) F') A B → (∀ a, (∀ i, i < 100 → a ≠ nmR R.name i) → M' a = M a) → K (true, 0) B) : Zdz.sp (at0 R.rb) l A K := by
 refine Zdz.of ?_
 unfold Zdz.vc
 refine rready_ok h.rel.row ?_
 refine br_f rfl ?_
 simp only [optK_eq, at0, add_add, Nat.reduceAdd]
 refine RowT.ld (c := cInt .i64) (i := 2) (x := (R.W : Int)) h.rel.row rfl ?_
 have hln := hl.len
 refine br_f (by simp; omega) ?_
 refine RowT.ld (c := cPtr) (i := 6) (x := at0 R.f.pb) h.rel.row rfl ?_
 refine RowT.ld (c := cPtr) (i := 7) (x := at0 R.d.pb) h.rel.row rfl ?_
 refine RowT.ld (c := cPtr) (i := 8) (x := at0 R.e.pb) h.rel.row rfl ?_
 refine newPs (qs := [R.f, R.d, R.e]) (X := F) h.pool.pool.lt fun B sB eB => ?_
 have hB := h.grow eB
 have S0 : Step (R.X F) (R.X F) A B := Step.ofExt eB
 have eqs : (m + 1000000 * [R.f, R.d, R.e].length) = m + 3000000 := rfl
 refine among_ok (qs := [R.f, R.d, R.e]) hB.rel hB.pool hg hF hQ (by rw [eqs]; omega) (fun q hq => hq) sB (hlo.ints hl S0) ((hlo.step S0).mono fun b _ u => .inl u) hll fun b F1 s1 C hb p1 r1 S1 => ?_
 rw [eqs] at p1
 have S01 := S0.trans (Step.rel (R := R) S1)
 cases b with
 | true =>
   refine br_f rfl ?_
   refine met_zero ?_
   exact hK0 (hb.1 rfl) F1 s1 C ⟨p1.later (by omega), r1, h.dom⟩ S01
 | false =>
   refine br_t rfl ?_
   refine RowT.ld (c := cPtr) (i := 8) (x := at0 R.e.pb) r1.row rfl ?_
   refine insert_ok (j := 2) (w := w) ⟨p1, r1, h.dom⟩ hg hF hQ (by omega) hw hw4 hq hc ho hts hex hnb hn (hlo.ints hl S01) (hlo.step S01) ht fun F2 s2 M2 U2 q2 nx D p2 I2 hU2 hnx S2 hM2 => ?_
   refine met_zero ?_
   exact hK1 (fun u => by have := hb.2 u; cases this) F2 s2 M2 U2 q2 nx D ⟨p2.pool.later (by omega), p2.rel, p2.dom⟩ I2 hU2 hnx (S01.trans S2) hM2
def RelS.turned (R : RelS) (nb : Nat) : RelS := ⟨R.rb, R.name, R.W, R.os, R.ords, R.f, R.e, ⟨nb, Sl.mk none 0 0, []⟩, R.ex, R.next, R.nb, R.turns + 1⟩
theorem RelS.turned_O {nb b : Nat} (u : (R.turned nb).O b) : R.O b ∨ b = nb := by
 rcases u with u | ⟨q, hq, u⟩ | ⟨t, ht, u⟩
 ·exact .inl (.inl u)
 ·unfold RelS.parts RelS.turned at hq
  simp only [List.mem_cons, List.not_mem_nil, or_false] at hq
  rcases hq with rfl | rfl | rfl
  ·exact .inl (.inr (.inl ⟨_, by simp [RelS.parts], u⟩))
  ·exact .inl (.inr (.inl ⟨_, by simp [RelS.parts], u⟩))
  ·exact .inr u
 ·refine .inl (.inr (.inr ⟨t, ?_, u⟩))
  unfold RelS.all RelS.turned at ht
  unfold RelS.all
  simp only [List.mem_append, List.not_mem_nil, false_or] at ht ⊢
  rcases ht with v | v | v
  ·exact .inl v
  ·exact .inr (.inr (.inl v))
  ·exact .inr (.inr (.inr v))
theorem RelB.turned {nb : Nat} (h : RelB H0 A F p M R) (hd : R.d.ts = []) (hF : ∀ b, F b → b < A.size) (hz : H0.size ≤ A.size) (hnb : A.size ≤ nb) (r : RowT B R.rb YaO (relV p (R.turned nb))) (rn : RowT B nb YaM (partV R.rb (Sl.mk none 0 0))) (mm : Mod (fun b => b = R.rb) A B) : RelB H0 B F p M (R.turned nb) := by
 have hall : (R.turned nb).all = R.all := by
  unfold RelS.all RelS.turned
  simp only [hd, List.nil_append]
 have S' : Step (R.X F) ((R.turned nb).X F) A B := ⟨mm.mono fun b _ u => .inr (.inl u), fun b u => by
  rcases u with u | u
  ·exact .inl (.inl u)
  ·rcases R.turned_O u with v | v
   ·exact .inl (.inr v)
   ·exact .inr (by omega)⟩
 have same : ∀ b, R.O b → b ≠ R.rb → B[b]? = A[b]? := fun b hb e => mm.same b (h.lt b hb) e
 have part : ∀ q ∈ R.parts, RowT B q.pb YaM (partV R.rb q.s) ∧ SlX ((R.turned nb).X F) B q.s (ksV q.ts) := fun q hq => ⟨(same _ (.inr (.inl ⟨q, hq, rfl⟩)) (h.typ hq)).trans (h.pt q hq).1, (h.pt q hq).2.step S'⟩
 have mf : R.f ∈ R.parts := by simp [RelS.parts]
 have md : R.d ∈ R.parts := by simp [RelS.parts]
 have me : R.e ∈ R.parts := by simp [RelS.parts]
 have lf := h.lt _ (.inr (.inl ⟨_, mf, rfl⟩))
 have le := h.lt _ (.inr (.inl ⟨_, me, rfl⟩))
 have hnd : [R.f.pb, R.d.pb, R.e.pb].Nodup := h.pbs
 simp only [List.nodup_cons, List.mem_cons, List.not_mem_nil, or_false, not_or] at hnd
 refine ⟨r, fun q hq => ?_, h.ords.step S', fun t ht => ?_, fun b hb => ?_, ?_, by rw [hall]; exact h.ks, by rw [hall]; exact h.ns, by rw [hall]; exact h.nms, h.free⟩
 ·unfold RelS.parts RelS.turned at hq
  simp only [List.mem_cons, List.not_mem_nil, or_false] at hq
  rcases hq with rfl | rfl | rfl
  ·exact part _ mf
  ·exact part _ me
  ·exact ⟨rn, SlX.nil _ _⟩
 ·rw [hall] at ht
  exact (h.tr t ht).keep (same _ (.inr (.inr ⟨t, ht, rfl⟩)) (h.tyk ht h.row (by decide))) rfl
 ·rcases R.turned_O hb with v | v
  ·exact h.off b v
  ·exact ⟨fun u => by have := hF b u; omega, by omega⟩
 ·show [R.f.pb, R.e.pb, nb].Nodup
  simp only [List.nodup_cons, List.mem_cons, List.not_mem_nil, or_false, not_or]
  exact ⟨⟨hnd.1.2, by omega⟩, by omega, by simp, List.nodup_nil⟩
theorem relTurn_ok {K : (Int × Int) → Heap → Prop} (h : RelP H0 A F p dp s M Q U most m c R) (hd : R.d.ts = []) (htu : R.turns ≤ 1000000)
  (hK : ∀ nb B, RelP H0 B F p dp s M Q U most m c (R.turned nb) → Step (R.X F) ((R.turned nb).X F) A B → K ((R.e.rows.length : Int), 0) B) : Zds.sp (at0 R.rb) A K := by
 refine Zds.of ?_
 unfold Zds.vc
 refine rready_ok h.rel.row ?_
 refine br_f rfl ?_
 simp only [optK_eq, at0]
 refine RowT.ld (c := cInt .i64) (i := 10) (x := (R.turns : Int)) h.rel.row rfl ?_
 refine RowT.st h.rel.row (i := 10) (by simp [relV]) rfl fun B rB mB zB => ?_
 rw [succ64 R.turns (by omega)] at rB
 have rB' := h.rel.cell (nx := R.next) (tu := R.turns + 1) rB mB
 have md : R.d ∈ RelS.parts { R with next := R.next, turns := R.turns + 1 } := by simp [RelS.parts]
 refine ⟨fun _ C => B = C, ?_, ?_⟩
 ·refine RowT.ld (c := cPtr) (i := 7) (x := at0 R.d.pb) rB'.row rfl ?_
  simp only [optK_eq, at0]
  obtain ⟨rp, sp⟩ := rB'.pt _ md
  refine RowT.ld (c := cSl) (i := 1) (x := R.d.s) rp rfl ?_
  have hsn := sp.len
  rw [hd] at hsn
  exact br_f (by rw [hsn]; rfl) trivial
 rintro _ _ rfl
 refine ⟨Ext B, .refl _ _, ?_⟩
 refine RowT.ldC (c := cPtr) (i := 8) (x := at0 R.e.pb) (cs := fun _ => relV p { R with next := R.next, turns := R.turns + 1 }) (fun D hD => rB'.row.ext hD) (fun _ _ => rfl) ?_
 refine part_ok fun C zC rC eC => ⟨eC, ?_⟩
 have r1 := rB'.row.ext eC
 refine RowT.st r1 (i := 7) (by simp [relV]) rfl fun D rD mD zD => ?_
 refine RowT.st rD (i := 8) (by simp [relV]) rfl fun E rE mE zE => ?_
 have hpl := h.pool.pool.lt
 have hFr : ∀ b, F b → b ≠ R.rb := fun b hb e => (h.rel.off _ (.inl rfl)).1 (e ▸ hb)
 have mCE : Mod (fun b => b = R.rb) C E := mD.trans mE
 have hrl := h.rel.lt _ (.inl rfl)
 have hoff := (h.rel.off _ (.inl rfl)).2
 have mAE : Mod (fun b => b = R.rb) A E := (mB.trans eC.mod).trans mCE
 have rel : RelB H0 E F p M (R.turned B.size) := by
  refine RelB.turned (A := A) h.rel hd hpl h.pool.ext.size (by omega) rE (rC.mod mCE (by omega)) mAE
 have pool : PoolM H0 E F p dp s M Q U most m := h.pool.aside ⟨by have := h.pool.ext.size; have := mAE.size; omega, fun b hb _ => (mAE.same b (by have := h.pool.ext.size; omega) (by omega)).trans (h.pool.ext.same b hb id)⟩ fun b hb => mAE.same b (hpl b hb) (hFr b hb)
 refine RowT.ld (c := cPtr) (i := 7) (x := at0 R.e.pb) rel.row rfl ?_
 refine pcount_ok (q := R.e) rel (by simp [RelS.parts, RelS.turned]) ?_
 refine hK B.size E ⟨pool, rel, h.dom⟩ ⟨mAE.mono fun b _ u => .inr (.inl u), fun b u => ?_⟩
 rcases u with u | u
 ·exact .inl (.inl u)
 ·rcases R.turned_O u with v | v
  ·exact .inl (.inr v)
  ·exact .inr (by omega)
end
section
variable {H0 A B : Heap} {F F' : Nat → Prop} {p dp Q U most m c : Nat} {s s' : Pl} {M M' : Files} {R : RelS} {l : Sl} {ll : List Int}
theorem Ints.take {k : IntKind} {l : Sl} {x : List Int} (h : Ints k A l x) {i : Nat} (hi : i ≤ x.length) : Ints k A ⟨slA l.a l.c 0 1, i - 0, l.c - 0⟩ (x.take i) := by
 rw [slA_zero]
 refine ⟨by rw [List.length_take]; show i - 0 = _; omega, ?_⟩
 rw [List.map_take]
 exact h.reads.take i
theorem indexI_ok {l : Sl} {x : List Int} {v : Int} {K : Int → Heap → Prop} (h : Ints .i64 A l x) (hl : x.length ≤ 1000000) (hK1 : ∀ i, i < x.length → x.getD i 0 = v → (∀ j, j < i → x.getD j 0 ≠ v) → K (i : Int) A) (hK0 : v ∉ x → K (-1) A) : Zbp.sp l v A K := by
 refine Zbp.of ?_
 unfold Zbp.vc
 have hn := h.len
 refine loop_upto x.length (fun i z B => z = (i : Int) ∧ A = B ∧ ∀ j, j < i → x.getD j 0 ≠ v) ⟨rfl, rfl, fun j hj => by omega⟩ ?_
 rintro i _ _ next hi ⟨rfl, rfl, hno⟩ hnext
 refine br_mk (fun hc => ?_) (fun hc => ?_)
 ·have hlt : i < x.length := by have : (i : Int) < (l.n : Int) := by simpa using hc
                                omega
  refine ints_get h (i := (i : Int)) (j := i) rfl hlt fun ad _ => ?_
  refine br_mk (fun he => ?_) (fun he => ?_)
  ·have he : v = x.getD i 0 := by simpa using he
   exact hK1 i hlt he.symm hno
  ·have he : v ≠ x.getD i 0 := by simpa using he
   refine hnext hlt _ _ ⟨succ64 i (by omega), rfl, fun j hj => ?_⟩
   by_cases e : j = i
   ·subst e; exact fun q => he q.symm
   ·exact hno j (by omega)
 ·have hge : i = x.length := by have : ¬ (i : Int) < (l.n : Int) := by simpa using hc
                                omega
  subst hge
  refine hK0 fun u => ?_
  obtain ⟨j, hj⟩ := List.mem_iff_getElem?.1 u
  have hlt := (List.getElem?_eq_some_iff.1 hj).1
  exact hno j hlt (by simp [List.getD, hj])
theorem containsI_ok {l : Sl} {x : List Int} {v : Int} {K : Bool → Heap → Prop} (h : Ints .i64 A l x) (hl : x.length ≤ 1000000) (hK : K (decide (v ∈ x)) A) : ZaW.sp l v A K := by
 refine ZaW.of ?_
 unfold ZaW.vc
 refine indexI_ok h hl (fun i hi e _ => ?_) (fun hno => ?_)
 ·have hm : v ∈ x := by
   rw [← e, List.getD, List.getElem?_eq_getElem hi]
   exact List.getElem_mem hi
  rw [decide_eq_true hm] at hK
  rw [decide_eq_true (show (i : Int) ≥ 0 by omega)]
  exact hK
 ·rw [decide_eq_false hno] at hK
  rw [decide_eq_false (by decide)]
  exact hK
def fitsO (cl o : List Int) : Bool := (o.take cl.length).all fun c => decide (c ∈ cl)
theorem fit_ok {cols : Sl} {cl : List Int} {K : (Int × Bool) → Heap → Prop} (h : RelB H0 A F p M R) (hc : Ints .i64 A cols cl) (hcl : ∀ o ∈ R.ords, cl.length ≤ o.length) (hl : cl.length ≤ 1000) (ho : R.ords.length ≤ 16)
  (hK1 : ∀ i (hi : i < R.ords.length), fitsO cl R.ords[i] = true → (∀ j (hj : j < i), fitsO cl (R.ords[j]'(by omega)) = false) → K ((i : Int), true) A) (hK0 : (∀ o ∈ R.ords, fitsO cl o = false) → K (0, false) A) : Zdy.sp (at0 R.rb) cols A K := by
 refine Zdy.of ?_
 unfold Zdy.vc
 simp only [optK_eq, at0, add_add, Nat.reduceAdd]
 refine RowT.ld (c := cSl) (i := 3) (x := R.os) h.row rfl ?_
 have hon := h.ords.len
 have hcn := hc.len
 refine loop_upto R.ords.length (fun i z B => z = (i : Int) ∧ A = B ∧ ∀ j (hj : j < R.ords.length), j < i → fitsO cl R.ords[j] = false) ⟨rfl, rfl, fun j _ hj => by omega⟩ ?_
 rintro i _ _ next hi ⟨rfl, rfl, hno⟩ hnext
 refine br_mk (fun hcd => ?_) (fun hcd => ?_)
 ·have hlt : i < R.ords.length := by have : (i : Int) < (R.os.n : Int) := by simpa using hcd
                                     omega
  refine h.ords.ld hlt rfl fun ad r _ _ hr hcap => ?_
  have hm := hcl _ (List.getElem_mem hlt)
  have hrn := hr.len
  refine ⟨⟨by omega, by omega⟩, ?_⟩
  have ht := hr.take (i := cl.length) hm
  have en : ((cols.n : Int).toNat) - 0 = cl.length - 0 := by omega
  rw [en]
  have hlen : (R.ords[i].take cl.length).length = cl.length := by rw [List.length_take]; omega
  refine loop_upto cl.length (fun k z B => z = (k : Int) ∧ A = B ∧ ((R.ords[i].take cl.length).take k).all (fun c => decide (c ∈ cl)) = true) ⟨rfl, rfl, by simp⟩ ?_
  rintro k _ _ next1 hk ⟨rfl, rfl, hall⟩ hnext1
  refine br_mk (fun hcd2 => ?_) (fun hcd2 => ?_)
  ·have hkl : k < cl.length := by have : (k : Int) < ((cl.length - 0 : Nat) : Int) := by simpa using hcd2
                                  omega
   refine ints_get ht (i := (k : Int)) (j := k) rfl (by omega) fun ad2 _ => ?_
   have e1 : (R.ords[i].take cl.length).take (k + 1) = (R.ords[i].take cl.length).take k ++ [(R.ords[i].take cl.length).getD k 0] := by
    rw [List.take_add_one, List.getElem?_eq_getElem (by omega)]; simp [List.getD, List.getElem?_eq_getElem (show k < (R.ords[i].take cl.length).length by omega)]
   refine containsI_ok hc (by omega) ?_
   refine br_mk (fun hb => ?_) (fun hb => ?_)
   ·have hb : (R.ords[i].take cl.length).getD k 0 ∉ cl := by simpa using hb
    refine hnext hlt _ _ ⟨succ64 i (by omega), rfl, fun j hj hji => ?_⟩
    by_cases e : j = i
    ·subst e
     unfold fitsO
     rw [List.all_eq_false]
     refine ⟨(R.ords[j].take cl.length).getD k 0, ?_, by simpa using hb⟩
     rw [List.getD, List.getElem?_eq_getElem (by omega)]
     exact List.getElem_mem _
    ·exact hno j hj (by omega)
   ·have hb : (R.ords[i].take cl.length).getD k 0 ∈ cl := by simpa using hb
    refine hnext1 hkl _ _ ⟨succ64 k (by omega), rfl, ?_⟩
    rw [e1, List.all_append, hall]
    simp only [List.all_cons, List.all_nil, Bool.and_true, Bool.true_and]
    exact decide_eq_true hb
  ·have hge : k = cl.length := by have : ¬ (k : Int) < ((cl.length - 0 : Nat) : Int) := by simpa using hcd2
                                  omega
   subst hge
   rw [List.take_take, Nat.min_self] at hall
   exact hK1 i hlt hall fun j hj => hno j (by omega) hj
 ·have hge : i = R.ords.length := by have : ¬ (i : Int) < (R.os.n : Int) := by simpa using hcd
                                     omega
  subst hge
  refine hK0 fun o ho => ?_
  obtain ⟨j, hj⟩ := List.mem_iff_getElem?.1 ho
  have hlt := (List.getElem?_eq_some_iff.1 hj).1
  have := hno j hlt hlt
  rw [List.getElem?_eq_getElem hlt] at hj
  rw [← Option.some.inj hj]; exact this
end
structure TC where
 t : Tx
 cb : Nat
 lo : Sl
 ll : List Int
 strict : Bool
structure CurS where
 cb : Nat
 order : Nat
 low : Sl
 lowL : List Int
 cols : Sl
 colsL : List Int
 words : Sl
 wordsL : List Int
 fr : Sl
 tcs : List TC
 heads : Sl
 hs : List (Sl × Option (List Int))
 turns : Nat
 begun : Bool
 ext : Nat → Prop
def curV (rb order : Nat) (low cols words fr heads : Sl) (turns : Nat) (bad begun : Bool) : Array Value := #[.pointer (some ⟨rb, 0, none⟩), .int .i64 order, low.v, cols.v, words.v, fr.v, heads.v, .int .i64 turns, .bool bad, .bool begun]
def CurS.Own (C : CurS) (b : Nat) : Prop := b = C.cb ∨ (∃ t ∈ C.tcs, b = t.cb) ∨ ownB C.heads b ∨ C.ext b
def CurS.Z (C : CurS) (F : Nat → Prop) (b : Nat) : Prop := F b ∨ C.Own b
def CurS.Own0 (C : CurS) (b : Nat) : Prop := b = C.cb ∨ (∃ t ∈ C.tcs, b = t.cb) ∨ ownB C.heads b
def CurS.Z0 (C : CurS) (F : Nat → Prop) (b : Nat) : Prop := F b ∨ C.Own0 b
theorem CurS.own_of {C : CurS} {b : Nat} (u : C.Own0 b) : C.Own b := by
 rcases u with u | u | u
 ·exact .inl u
 ·exact .inr (.inl u)
 ·exact .inr (.inr (.inl u))
theorem CurS.own_cases {C : CurS} {b : Nat} (u : C.Own b) : C.Own0 b ∨ C.ext b := by
 rcases u with u | u | u | u
 ·exact .inl (.inl u)
 ·exact .inl (.inr (.inl u))
 ·exact .inl (.inr (.inr u))
 ·exact .inr u
theorem Step.full {R : RelS} {C C' : CurS} {F F' : Nat → Prop} {A B : Heap} (S : Step (R.X (C.Z0 F)) (R.X (C'.Z0 F')) A B) (e : C'.ext = C.ext) : Step (R.X (C.Z F)) (R.X (C'.Z F')) A B := S.widen (fun b u => by
  rcases u with (u | u) | u
  ·exact .inl (.inl u)
  ·exact .inl (.inr (CurS.own_of u))
  ·exact .inr u) fun b u => by
  rcases u with (u | u) | u
  ·exact .inr (.inl (.inl u))
  ·rcases CurS.own_cases u with v | v
   ·exact .inr (.inl (.inr v))
   ·exact .inl (.inl (.inr (.inr (.inr (.inr (e ▸ v))))))
  ·exact .inr (.inr u)
def HeadOk (Y : Nat → Prop) (A : Heap) (h : Sl × Option (List Int)) : Prop := (h.2 = none → h.1.a = none) ∧ ∀ y, h.2 = some y → h.1.a ≠ none ∧ Ints .u64 A h.1 y ∧ Off Y A h.1
structure CurM (H0 A : Heap) (F : Nat → Prop) (p : Nat) (M : Files) (R : RelS) (C : CurS) : Prop where
 rel : RelB H0 A (C.Z F) p M R
 row : RowT A C.cb Yax (curV R.rb C.order C.low C.cols C.words C.fr C.heads C.turns false C.begun)
 low : Ints .u64 A C.low C.lowL ∧ Off (R.X (C.Z F)) A C.low
 cols : Ints .i64 A C.cols C.colsL ∧ Off (R.X (C.Z F)) A C.cols
 words : Ints .u64 A C.words C.wordsL ∧ Off (R.X (C.Z F)) A C.words
 fr : SlX (R.X (C.Z F)) A C.fr (C.tcs.map fun t => ptrV t.cb)
 tc : ∀ t ∈ C.tcs, t.t ∈ R.all ∧ CurB A F t.t.k t.cb t.lo t.ll t.strict ∧ Off (R.X (C.Z F)) A t.lo
 hd : Owns A 0 YaK 1 C.heads (C.hs.map fun h => h.1.v)
 hr : ∀ h ∈ C.hs, HeadOk (R.X (C.Z F)) A h
 cbs : (C.tcs.map (·.cb)).Nodup
 off : ∀ b, C.Own b → ¬ F b ∧ H0.size ≤ b
 ext : ∀ b, C.ext b → b < A.size
 sep : ∀ b, C.ext b → ¬ C.Own0 b
section
variable {H0 A B D : Heap} {F F' X : Nat → Prop} {p dp Q U most m c k cb : Nat} {s s' : Pl} {M M' : Files} {R : RelS} {l lo : Sl} {ll : List Int} {strict : Bool}
theorem CurB.mod (h : CurB A F k cb lo ll strict) (mm : Mod X A B) (h1 : ¬ X cb) (h2 : ∀ b, ownB lo b → ¬ X b) : CurB B F k cb lo ll strict :=
 ⟨h.row.mod mm h1, h.ints.mod mm fun ad ha => h2 _ ⟨ad, ha, rfl⟩, fun ad ha => ⟨Nat.lt_of_lt_of_le (h.off ad ha).1 mm.size, (h.off ad ha).2⟩, h.cb⟩
theorem treeFrom_ok {K : Option Addr → Heap → Prop} (hl : Ints .u64 A l ll) (hlen : ll.length ≤ 17592186044416) (hF : ∀ b, F b → b < A.size) (hkl : k < A.size)
  (hK : ∀ B cb lo, Ext A B → CurB B F k cb lo ll false → A.size ≤ cb → cb < B.size → (∀ b, ownB lo b → A.size ≤ b ∧ b ≠ cb) → K (at0 cb) B) : ZcC.sp (at0 k) l A K := by
 refine ZcC.of ?_
 unfold ZcC.vc
 refine br_f rfl ?_
 refine tclone_ok hl hlen fun cl H1 o1 e1 f1 => ?_
 refine newC_rowT fun H2 z2 r2 e2 => ?_
 have hz := e1.size
 refine hK H2 H1.size cl (e1.trans e2) ⟨r2, (o1.ext e2).ints, fun ad ha => ?_, fun u => by have := hF _ u; omega, by omega⟩ (by omega) (by omega) fun b hb => ⟨f1 b hb, by have := (o1.block b hb).2; omega⟩
 have h1 := (o1.block _ ⟨ad, ha, rfl⟩).2
 have h2 := f1 _ ⟨ad, ha, rfl⟩
 exact ⟨by omega, fun u => by
  rcases u with u | u | u
  ·have := hF _ u; omega
  ·omega
  ·omega⟩
theorem RelB.fresh (h : RelB H0 A F p M R) (e : Ext A B) (hX : ∀ b, X b → A.size ≤ b) : RelB H0 B (fun b => F b ∨ X b) p M R :=
 h.aside ⟨e.mod, fun b u => by
  rcases u with (u | u) | u
  ·exact .inl (.inl u)
  ·exact .inr (hX b u)
  ·exact .inl (.inr u)⟩ (fun b hb => ⟨e.same b (h.lt b hb) id, fun u => u.elim (h.off b hb).1 fun v => by have := hX b v; have := h.lt b hb; omega⟩) (fun _ _ => rfl) h.free
theorem OrdX.old {X : Nat → Prop} {os : Sl} {ls : List (List Int)} (h : OrdX X A os ls) (e : Ext A B) : OrdX (fun b => A.size ≤ b) B os ls :=
 OrdX.step (X := fun b => A.size ≤ b) (A := A) ⟨h.len, fun ad ha => ⟨(h.off ad ha).1, by have := (h.off ad ha).1; omega⟩, fun i hi => by
  obtain ⟨ad, r, q1, q2, q3, q4, q5⟩ := h.at' i hi
  exact ⟨ad, r, q1, q2, fun a ha => ⟨(q3 a ha).1, by have := (q3 a ha).1; omega⟩, q4, q5⟩⟩ ⟨e.mod, fun _ u => .inl u⟩
def wordAt (cl wl : List Int) (x : Int) : Int := wl.getD (cl.findIdx (· == x)) 0
theorem elCurP : El Tryz.prog Yaf Yaj 8 (.pointer none) := El_of (zb := isPtr0) isPtr0_eq rfl (by kernel_rfl)
set_option maxHeartbeats 4000000 in
theorem relScan_ok {V : Nat → Prop} {n : Int} {cols words : Sl} {cl wl : List Int} {K : Option Addr → Heap → Prop} (h : RelP H0 A F p dp s M Q U most m c R) (hE : ∀ b, V b → b < A.size ∧ ¬ F b ∧ H0.size ≤ b) (hrel : RelB H0 A (fun b => F b ∨ V b) p M R) (hn : R.asked n ≠ []) (hF : R.Fit) (ho : R.ords.length ≤ 16) (h1 : 1 ≤ R.ords.length) (hord : ∀ o ∈ R.ords, o.length = R.W)
  (hc : Ints .i64 A cols cl) (hcc : cols.n ≤ cols.c) (hw : Ints .u64 A words wl) (hwl : wl.length = cl.length) (hcl : ∀ x ∈ cl, 0 ≤ x ∧ x < (R.W : Int)) (hnd : cl.Nodup) (hclW : cl.length ≤ R.W) (hts : ∀ q ∈ R.asked n, q.ts = [] ∨ q.ts.length = R.ords.length)
  (hK : ∀ C B, CurM H0 B F p M R C → Ext A B → (∀ b, C.Own b → A.size ≤ b ∨ V b) → C.ext = V → C.colsL = cl → C.wordsL = wl → C.turns = R.turns → C.begun = false → C.hs = [] → C.heads = Sl.mk none 0 0 → C.order < R.ords.length →
   (fitsO cl (R.ords.getD C.order []) = true ∧ (∀ j, j < C.order → fitsO cl (R.ords.getD j []) = false) ∧ C.lowL = ((R.ords.getD C.order []).take cl.length).map (wordAt cl wl) ∨ (∀ o ∈ R.ords, fitsO cl o = false) ∧ C.order = 0 ∧ C.lowL = []) →
   C.tcs.map (·.t) = (R.asked n).filterMap (fun q => q.ts[C.order]?) → (∀ t ∈ C.tcs, t.ll = C.lowL ∧ t.strict = false) → K (at0 C.cb) B) : Zdi.sp (at0 R.rb) n cols words A K := by
 refine Zdi.of ?_
 unfold Zdi.vc
 refine br_f rfl ⟨Ext A, .refl _ _, ?_⟩
 have hW := hF.W
 refine hcloneI_ok hc (by omega) fun cc H1 o1 e1 f1 => ⟨e1, ?_⟩
 refine tclone_ok (hw.ext e1) (by omega) fun wc H2 o2 e2 f2 => ⟨e1.trans e2, ?_⟩
 simp only [optK_eq, at0]
 refine RowT.ldC (c := cInt .i64) (i := 10) (x := (R.turns : Int)) (cs := fun _ => relV p R) (fun D hD => h.rel.row.ext hD) (fun _ _ => rfl) ?_
 refine newC_rowT fun H3 z3 r3 e3 => ?_
 obtain ⟨cb, hcb⟩ : ∃ cb, cb = H2.size := ⟨_, rfl⟩
 rw [← hcb] at r3 ⊢
 have e13 := (e1.trans e2).trans e3
 have hlt := h.ltX
 have z1 := e1.size
 have z2 := e2.size
 refine asked_ok (X := fun b => b = cb) (h.rel.grow e13) (fun b u => by omega) fun ps D hps hnone eD => ?_
 have eAD := e13.trans eD
 have zD := eD.size
 have hpn := hps.len
 rw [List.length_map] at hpn
 have hqs := R.asked_parts n
 have hql : (R.asked n).length ≤ 1000000 := by unfold RelS.asked; split <;> (try split) <;> (try split) <;> simp
 generalize R.asked n = qs at *
 have rD := r3.ext eD
 have rel : ∀ {B : Heap}, Mod (fun b => b = cb) D B → Ext A B := fun {B} mm => ⟨by have := mm.size; omega, fun b hb _ => by rw [mm.same b (by omega) (by omega)]; exact eAD.same b hb id⟩
 have hcn := hc.len
 have hwn := hw.len
 refine ⟨fun _ B => RowT B cb Yax (curV R.rb 0 (Sl.mk none 0 0) cc wc (Sl.mk none 0 0) (Sl.mk none 0 0) R.turns false false) ∧ Mod (fun b => b = cb) D B, ?_, ?_⟩
 ·refine br_f ?_ ?_
  ·have : ps.a.isNone = false := by
    cases hp : ps.a.isNone with
    | true => exact absurd (hnone.1 hp) hn
    | false => rfl
   rw [this]; simp; omega
  ·simp only [optK_eq, add_add, Nat.reduceAdd]
   refine RowT.ld (c := cInt .i64) (i := 2) (x := (R.W : Int)) (h.rel.grow eAD).row rfl ?_
   have : decide ((cols.n : Int) > (R.W : Int)) = false := by simp; omega
   rw [this]
   exact RowT.st rD (i := 8) (by simp) rfl fun B rB mB zB => ⟨rB, mB⟩
 rintro _ B0 ⟨r0, m0⟩
 refine loop_upto cl.length (fun i z B => z = (i : Int) ∧ RowT B cb Yax (curV R.rb 0 (Sl.mk none 0 0) cc wc (Sl.mk none 0 0) (Sl.mk none 0 0) R.turns false false) ∧ Mod (fun b => b = cb) D B) ⟨rfl, r0, m0⟩ ?_
 rintro i _ B next hi ⟨rfl, rB, mB⟩ hnext
 have eB := rel mB
 refine br_mk (fun hcd => ?_) (fun hcd => ?_)
 ·have hil : i < cl.length := by have : (i : Int) < (cols.n : Int) := by simpa using hcd
                                 omega
  refine ints_get (hc.ext eB) (i := (i : Int)) (j := i) rfl hil fun ad _ => ?_
  have hx : cl.getD i 0 = cl[i] := by simp [List.getD, List.getElem?_eq_getElem hil]
  obtain ⟨x0, x1⟩ := hcl _ (List.getElem_mem hil)
  rw [hx]
  refine RowT.ld (c := cBool) (i := 8) (x := false) rB rfl ?_
  refine br_f (by simp; omega) ?_
  simp only [optK_eq, add_add, Nat.reduceAdd]
  refine RowT.ld (c := cInt .i64) (i := 2) (x := (R.W : Int)) (h.rel.grow eB).row rfl ?_
  refine br_f (by simp; omega) ⟨⟨by omega, by omega⟩, ?_⟩
  rw [Int.toNat_natCast]
  refine containsI_ok ((hc.ext eB).take (by omega)) (by rw [List.length_take]; omega) ?_
  have hno : cl[i] ∉ cl.take i := fun u => by
   obtain ⟨j, hj⟩ := List.mem_iff_getElem?.1 u
   have hjl := (List.getElem?_eq_some_iff.1 hj).1
   rw [List.length_take] at hjl
   rw [List.getElem?_take, if_pos (by omega)] at hj
   have := (List.getElem?_inj (l := cl) (i := j) (j := i) (by omega) hnd).1 (by rw [hj, List.getElem?_eq_getElem hil])
   omega
  rw [decide_eq_false hno]
  refine RowT.st rB (i := 8) (by simp [curV]) rfl fun C rC mC zC => ?_
  exact hnext hil _ _ ⟨succ64 i (by omega), rC, mB.trans mC⟩
 clear hnext next hi hcd
 refine RowT.ld (c := cBool) (i := 8) (x := false) rB rfl ?_
 refine br_f rfl ?_
 have relB := h.rel.grow eB
 -- behind the order
 have tail : ∀ o : Nat, o < R.ords.length → ∀ (E : Heap) (low : Sl) (lowL : List Int), RowT E cb Yax (curV R.rb o low cc wc (Sl.mk none 0 0) (Sl.mk none 0 0) R.turns false false) → Mod (fun b => b = cb) D E → Ints .u64 E low lowL → lowL.length ≤ 1000 → (∀ b, ownB low b → D.size ≤ b ∧ b < E.size) →
   (fitsO cl (R.ords.getD o []) = true ∧ (∀ j, j < o → fitsO cl (R.ords.getD j []) = false) ∧ lowL = ((R.ords.getD o []).take cl.length).map (wordAt cl wl) ∨ (∀ x ∈ R.ords, fitsO cl x = false) ∧ o = 0 ∧ lowL = []) →
   LoopVC Int (0 : Int) E fun next_2 z_4 H21 => br (decide (z_4 < (ps.n : Int))) (optK ps.a fun a_8 => (0 ≤ z_4 ∧ z_4 < (ps.n : Int)) ∧ Go.Proofs.YtlockeegebnofaaGreatDoor.ld cPtr H21 (a_8.add (z_4.toNat * 1)) fun (t : Option Addr) => optK t fun a_9 => Go.Proofs.YtlockeegebnofaaGreatDoor.ld cSl H21 (a_9.add 1) fun (x_11 : Sl) => br (decide ((x_11.n : Int) > (0 : Int))) (∃ G_2 : Heap → Prop, G_2 H21 ∧ ldC cSl G_2 (Addr.add ⟨cb, 0, none⟩ 5) fun (x_12 : Sl) => optK t fun a_10 => Go.Proofs.YtlockeegebnofaaGreatDoor.ld cSl H21 (a_10.add 1) fun (x_13 : Sl) => optK x_13.a fun a_11 => (0 ≤ (o : Int) ∧ (o : Int) < (x_13.n : Int)) ∧ Go.Proofs.YtlockeegebnofaaGreatDoor.ld cPtr H21 (a_11.add ((o : Int).toNat * 1)) fun (x_14 : Option Addr) => ldC cSl G_2 (Addr.add ⟨cb, 0, none⟩ 2) fun (x_15 : Sl) => ZcC.sp x_14 x_15 H21 fun (r_6 : Option Addr) H22 => G_2 H22 ∧ newC H22 #[(.pointer r_6)] Yaj fun p_1 H23 => G_2 H23 ∧ doT cSl Tryz.prog (Builtin.append_ #[Yaf, Yaf] Yaf #[x_12.v, (.slice (some p_1) 1 1)]) H23 fun (s_1 : Sl) H24 => st H24 (Addr.add ⟨cb, 0, none⟩ 5) s_1.v fun H25 => next_2 (IntKind.i64.wrap (z_4 + (1 : Int))) H25) (next_2 (IntKind.i64.wrap (z_4 + (1 : Int))) H21)) (K (some ⟨cb, 0, none⟩) H21) := by
  intro o hol E low lowL rE mE hlow hll hlb hcond
  have eE := rel mE
  have zE := mE.size
  refine loop_upto qs.length (fun i z B => z = (i : Int) ∧ ∃ (fr : Sl) (tcs : List TC), RowT B cb Yax (curV R.rb o low cc wc fr (Sl.mk none 0 0) R.turns false false) ∧ Mod (fun b => b = cb) E B ∧ Owns B 0 Yaj 1 fr (tcs.map fun t : TC => ptrV t.cb) ∧ (∀ b, ownB fr b → E.size ≤ b) ∧ tcs.map (·.t) = (qs.take i).filterMap (fun q => q.ts[o]?) ∧
   (∀ t ∈ tcs, CurB B F t.t.k t.cb t.lo lowL false ∧ t.ll = lowL ∧ t.strict = false ∧ E.size ≤ t.cb ∧ (∀ b, ownB t.lo b → E.size ≤ b) ∧ (∀ b, ownB fr b → b ≠ t.cb ∧ ¬ ownB t.lo b) ∧ ∀ u ∈ tcs, ¬ ownB t.lo u.cb) ∧ (tcs.map (·.cb)).Nodup) ⟨rfl, Sl.mk none 0 0, [], rE, .refl _ _, Owns.nil _ _ _ _, fun b u => (by obtain ⟨ad, ha, _⟩ := u; cases ha), rfl, fun t ht => (by cases ht), List.nodup_nil⟩ ?_
  rintro i _ B next hi ⟨rfl, fr, tcs, rB, mB, oB, fB, hmap, htc, hcbs⟩ hnext
  have mDB := mE.trans mB
  have eB := rel mDB
  have zB := mB.size
  have relB := h.rel.grow eB
  have hFl : ∀ b, F b → b < B.size := fun b u => by have := h.pool.pool.lt b u; have := eB.size; omega
  have tcl : ∀ t ∈ tcs, t.cb < B.size ∧ ∀ b, ownB t.lo b → b < B.size := fun t ht => by
   have hcu := (htc t ht).1
   exact ⟨obj_lt hcu.row, fun b ⟨ad, ha, e⟩ => e ▸ (hcu.off ad ha).1⟩
  have frl : ∀ b, ownB fr b → b < B.size := fun b hb => (oB.block b hb).2
  have hlowB : Ints .u64 B low lowL := hlow.mod mB fun ad ha u => by have := (hlb _ ⟨ad, ha, rfl⟩).1; omega
  refine br_mk (fun hcd => ?_) (fun hcd => ?_)
  ·have hil : i < qs.length := by have : (i : Int) < (ps.n : Int) := by simpa using hcd
                                  omega
   have hSp : Step (fun b => b = cb) (fun b => b = cb) D B := ⟨mDB, fun _ u => .inl u⟩
   refine SlX.ld (c := cPtr) (x := at0 qs[i].pb) (i := i) (hps.step hSp) (by rw [List.getElem?_map, List.getElem?_eq_getElem hil]; rfl) rfl fun ad _ => ?_
   have hqi := hqs _ (List.getElem_mem hil)
   obtain ⟨rp, sp⟩ := relB.pt _ hqi
   have hspn := sp.len
   unfold ksV at hspn
   rw [List.length_map] at hspn
   have htk : qs.take (i + 1) = qs.take i ++ [qs[i]] := by rw [List.take_add_one, List.getElem?_eq_getElem hil]; rfl
   simp only [optK_eq, at0]
   refine RowT.ld (c := cSl) (i := 1) (x := qs[i].s) rp rfl ?_
   refine br_mk (fun hb => ?_) (fun hb => ?_)
   ·have hpos : ((qs[i].s.n : Nat) : Int) > 0 := by simpa using hb
    have hlen : qs[i].ts.length = R.ords.length := (hts _ (List.getElem_mem hil)).resolve_left fun e => by rw [e] at hspn; simp at hspn; omega
    have hot : o < qs[i].ts.length := by omega
    have hto : qs[i].ts[o]? = some qs[i].ts[o] := List.getElem?_eq_getElem hot
    have hta : qs[i].ts[o] ∈ R.all := RelS.part_all hqi _ (List.getElem_mem hot)
    refine ⟨Ext B, .refl _ _, ?_⟩
    refine RowT.ldC (c := cSl) (i := 5) (x := fr) (cs := fun _ => curV R.rb o low cc wc fr (Sl.mk none 0 0) R.turns false false) (fun D hD => rB.ext hD) (fun _ _ => rfl) ?_
    refine RowT.ld (c := cSl) (i := 1) (x := qs[i].s) rp rfl ?_
    refine SlX.ld (c := cPtr) (x := at0 qs[i].ts[o].k) (i := o) sp (ksV_at hto) rfl fun ad2 _ => ?_
    refine RowT.ldC (c := cSl) (i := 2) (x := low) (cs := fun _ => curV R.rb o low cc wc fr (Sl.mk none 0 0) R.turns false false) (fun D hD => rB.ext hD) (fun _ _ => rfl) ?_
    refine treeFrom_ok hlowB (by omega) hFl (relB.tr _ hta).lt fun C tb lo eC curC htb1 htb2 hlo => ⟨eC, ?_⟩
    refine ⟨eC.trans (Mod.push (fun _ => False) C (.cells #[.pointer (at0 tb)] Yaj)), ?_⟩
    have zC := eC.size
    have hfn : fr.n = tcs.length := by have := oB.1; simp at this; omega
    have htl : tcs.length ≤ qs.length := by
     have := congrArg List.length hmap
     rw [List.length_map] at this
     have h2 := List.length_filterMap_le (fun q : PartS => q.ts[o]?) (qs.take i)
     rw [List.length_take] at h2
     omega
    have key := elCurP.push (ty := Yaf) (H := C) (base := 0) (s := fr) (xs := tcs.map fun t : TC => ptrV t.cb) (v := .pointer (at0 tb)) (oB.ext eC) rfl (by omega) (by omega) (Nat.zero_le _)
     (K := fun s' G => Go.Proofs.YtlockeegebnofaaGreatDoor.st G (Addr.add ⟨cb, 0, none⟩ 5) s'.v fun G' => next (IntKind.i64.wrap ((i : Int) + (1 : Int))) G')
    refine key fun fr' G n' oG mG bG _ => ?_
    have zG := mG.size
    have rG : RowT G cb Yax (curV R.rb o low cc wc fr (Sl.mk none 0 0) R.turns false false) := (rB.ext eC).mod mG fun u => by have := fB _ u; omega
    refine RowT.st rG (i := 5) (by simp [curV]) (by cases fr'; rfl) fun J rJ mJ zJ => ?_
    have fG : ∀ b, ownB fr' b → E.size ≤ b := fun b hb => by
     rcases bG b hb with v | v
     ·exact fB b v
     ·omega
    have frN : ∀ b, ownB fr' b → ownB fr b ∨ C.size ≤ b := bG
    have mCJ : Mod (fun b => ownB fr b ∨ b = cb) C J := (mG.mono fun b _ u => .inl u).trans (mJ.mono fun b _ u => .inr u)
    refine hnext hil _ _ ⟨succ64 i (by omega), fr', tcs ++ [⟨qs[i].ts[o], tb, lo, lowL, false⟩], rJ, ?_, ?_, fG, ?_, ?_, ?_⟩
    ·refine ⟨by omega, fun b hb hne => ?_⟩
     rw [mCJ.same b (by omega) fun u => u.elim (fun v => by have := fB b v; omega) hne, eC.same b (by omega) id]
     exact mB.same b hb hne
    ·rw [List.map_append]
     exact oG.mod mJ fun b hb u => by have := fG b hb; omega
    ·rw [List.map_append, hmap, htk, List.filterMap_append]
     simp [hto]
    ·intro t ht
     rcases List.mem_append.1 ht with v | v
     ·obtain ⟨q1, q2, q3, q4, q5, q6, q7⟩ := htc t v
      obtain ⟨l1, l2⟩ := tcl t v
      refine ⟨(q1.mod eC id fun _ _ => id).mod mCJ (fun u => u.elim (fun w => (q6 _ w).1 rfl) fun w => by omega) (fun b hb u => u.elim (fun w => (q6 _ w).2 hb) fun w => by have := q5 b hb; omega), q2, q3, q4, q5, fun b hb => ?_, fun u hu => ?_⟩
      ·rcases frN b hb with w | w
       ·exact q6 b w
       ·exact ⟨by omega, fun u => by have := l2 b u; omega⟩
      ·rcases List.mem_append.1 hu with w | w
       ·exact q7 u w
       ·have : u = ⟨qs[i].ts[o], tb, lo, lowL, false⟩ := by simpa using w
        subst this
        intro x
        have := l2 _ x
        simp at this
        omega
     ·have : t = ⟨qs[i].ts[o], tb, lo, lowL, false⟩ := by simpa using v
      subst this
      refine ⟨curC.mod mCJ (fun u => u.elim (fun w => by have := frl _ w; omega) fun w => by omega) (fun b hb u => u.elim (fun w => by have := frl _ w; have := (hlo b hb).1; omega) fun w => by have := (hlo b hb).1; omega), rfl, rfl, by show E.size ≤ tb; omega, fun b hb => by have := (hlo b hb).1; omega, fun b hb => ?_, fun u hu => ?_⟩
      ·rcases frN b hb with w | w
       ·have := frl b w
        exact ⟨by show b ≠ tb; omega, fun u => by have := (hlo b u).1; omega⟩
       ·have hlC : ∀ x, ownB lo x → x < C.size := fun x ⟨ad, ha, e⟩ => e ▸ (curC.off ad ha).1
        exact ⟨by show b ≠ tb; omega, fun u => by have := hlC b u; omega⟩
      ·rcases List.mem_append.1 hu with w | w
       ·intro x
        have h1 := (hlo _ x).1
        have h2 := (tcl u w).1
        omega
       ·have : u = ⟨qs[i].ts[o], tb, lo, lowL, false⟩ := by simpa using w
        subst this
        exact fun x => (hlo _ x).2 rfl
    ·rw [List.map_append, List.nodup_append]
     refine ⟨hcbs, by simp, fun a ha b hb e => ?_⟩
     obtain ⟨t, ht, rfl⟩ := List.mem_map.1 ha
     have := (tcl t ht).1
     simp at hb
     omega
   ·have hz : ¬ ((qs[i].s.n : Nat) : Int) > 0 := by simpa using hb
    have hts0 : qs[i].ts = [] := List.eq_nil_of_length_eq_zero (by omega)
    refine hnext hil _ _ ⟨succ64 i (by omega), fr, tcs, rB, mB, oB, fB, ?_, htc, hcbs⟩
    rw [hmap, htk, List.filterMap_append]
    simp [hts0]
  ·have hge : i = qs.length := by have : ¬ (i : Int) < (ps.n : Int) := by simpa using hcd
                                  omega
   subst hge
   rw [List.take_length] at hmap
   have own : ∀ b, CurS.Own ⟨cb, o, low, lowL, cc, cl, wc, wl, fr, tcs, Sl.mk none 0 0, [], R.turns, false, V⟩ b → b = cb ∨ (∃ t ∈ tcs, b = t.cb) ∨ V b := by
    rintro b (u | u | ⟨ad, ha, _⟩ | u)
    ·exact .inl u
    ·exact .inr (.inl u)
    ·cases ha
    ·exact .inr (.inr u)
   have ownA : ∀ b, CurS.Own ⟨cb, o, low, lowL, cc, cl, wc, wl, fr, tcs, Sl.mk none 0 0, [], R.turns, false, V⟩ b → A.size ≤ b ∨ V b := fun b hb => by
    rcases own b hb with u | ⟨t, ht, u⟩ | u
    ·left; omega
    ·left; have := (htc t ht).2.2.2.1; omega
    ·exact .inr u
   have offY : ∀ b, A.size ≤ b → b ≠ cb → (∀ t ∈ tcs, b ≠ t.cb) → ¬ R.X (CurS.Z ⟨cb, o, low, lowL, cc, cl, wc, wl, fr, tcs, Sl.mk none 0 0, [], R.turns, false, V⟩ F) b := by
    rintro b hb1 hb2 hb3 ((u | u) | u)
    ·have := h.pool.pool.lt b u; omega
    ·rcases own b u with v | ⟨t, ht, v⟩ | v
     ·exact hb2 v
     ·exact hb3 t ht v
     ·have := (hE b v).1; omega
    ·have := h.rel.lt b u; omega
   have c1 : ∀ b, ownB cc b → A.size ≤ b ∧ b < H1.size := fun b hb => ⟨f1 b hb, (o1.block b hb).2⟩
   have c2 : ∀ b, ownB wc b → H1.size ≤ b ∧ b < H2.size := fun b hb => ⟨f2 b hb, (o2.block b hb).2⟩
   have hA0 := h.pool.ext.size
   have hZ : RelB H0 B (CurS.Z ⟨cb, o, low, lowL, cc, cl, wc, wl, fr, tcs, Sl.mk none 0 0, [], R.turns, false, V⟩ F) p M R := by
    refine (hrel.fresh (X := fun b => b = cb ∨ ∃ t ∈ tcs, b = t.cb) eB fun b u => ?_).congr fun b => ⟨fun u => ?_, fun u => ?_⟩
    ·rcases u with u | ⟨t, ht, u⟩
     ·omega
     ·have := (htc t ht).2.2.2.1; omega
    ·rcases u with (u | u) | u | u
     ·exact .inl u
     ·exact .inr (.inr (.inr (.inr u)))
     ·exact .inr (.inl u)
     ·exact .inr (.inr (.inl u))
    ·rcases u with u | u
     ·exact .inl (.inl u)
     ·rcases own b u with v | v | v
      ·exact .inr (.inl v)
      ·exact .inr (.inr v)
      ·exact .inl (.inr v)
   refine hK ⟨cb, o, low, lowL, cc, cl, wc, wl, fr, tcs, Sl.mk none 0 0, [], R.turns, false, V⟩ B ⟨hZ, rB, ⟨hlowB, fun ad ha => ?_⟩, ⟨?_, fun ad ha => ?_⟩, ⟨?_, fun ad ha => ?_⟩, ⟨?_, fun ad ha => ?_, oB.reads⟩, fun t ht => ?_, Owns.nil _ _ _ _, fun x hx => (by cases hx), hcbs, fun b hb => ?_, fun b hb => by have := (hE b hb).1; have := eB.size; omega, fun b hb u => ?_⟩ eB ownA rfl rfl rfl rfl rfl rfl rfl hol hcond hmap fun t ht => ⟨(htc t ht).2.1, (htc t ht).2.2.1⟩
   ·have h1 := hlb _ ⟨ad, ha, rfl⟩
    exact ⟨by omega, offY _ (by omega) (by omega) fun t ht e => by have := (htc t ht).2.2.2.1; omega⟩
   ·exact ((((o1.ext e2).ext e3).ext eD).mod mDB fun b hb u => by have := (c1 b hb).2; omega).ints
   ·have h1 := c1 _ ⟨ad, ha, rfl⟩
    exact ⟨by omega, offY _ (by omega) (by omega) fun t ht e => by have := (htc t ht).2.2.2.1; omega⟩
   ·exact (((o2.ext e3).ext eD).mod mDB fun b hb u => by have := (c2 b hb).2; omega).ints
   ·have h1 := c2 _ ⟨ad, ha, rfl⟩
    exact ⟨by omega, offY _ (by omega) (by omega) fun t ht e => by have := (htc t ht).2.2.2.1; omega⟩
   ·have := oB.1
    simp at this ⊢
    omega
   ·have h1 := fB _ ⟨ad, ha, rfl⟩
    exact ⟨frl _ ⟨ad, ha, rfl⟩, offY _ (by omega) (by omega) fun t ht e => ((htc t ht).2.2.2.2.2.1 _ ⟨ad, ha, rfl⟩).1 e⟩
   ·obtain ⟨q1, q2, q3, q4, q5, q6, q7⟩ := htc t ht
    refine ⟨?_, by rw [q2, q3]; exact q1, fun ad ha => ?_⟩
    ·have : t.t ∈ tcs.map (·.t) := List.mem_map_of_mem ht
     rw [hmap] at this
     obtain ⟨q, hq, e⟩ := List.mem_filterMap.1 this
     exact RelS.part_all (hqs q hq) _ (List.mem_of_getElem? e)
    ·have h1 := q5 _ ⟨ad, ha, rfl⟩
     exact ⟨(q1.off ad ha).1, offY _ (by omega) (by omega) fun u hu e => q7 u hu ⟨ad, ha, e⟩⟩
   ·rcases own b hb with u | ⟨t, ht, u⟩ | u
    ·exact ⟨fun v => by have := h.pool.pool.lt b v; omega, by omega⟩
    ·have := (htc t ht).2.2.2.1
     exact ⟨fun v => by have := h.pool.pool.lt b v; omega, by omega⟩
    ·exact (hE b u).2
   ·have hb := (hE b hb).1
    rcases u with u | ⟨t, ht, u⟩ | ⟨ad, ha, _⟩
    ·have u : b = cb := u
     omega
    ·have := (htc t ht).2.2.2.1; omega
    ·cases ha
 -- which order fits
 refine fit_ok relB (hc.ext eB) (fun o ho => by rw [hord o ho]; exact hclW) (by omega) ho (fun i hi hfit hno => ?_) (fun hno => ?_)
 ·refine RowT.st rB (i := 1) (by simp [curV]) rfl fun E0 rE0 mE0 zE0 => ?_
  have egd : R.ords.getD i [] = R.ords[i] := by simp [List.getD, List.getElem?_eq_getElem hi]
  have hlen := hord _ (List.getElem_mem hi)
  refine ⟨fun _ E => ∃ low, RowT E cb Yax (curV R.rb i low cc wc (Sl.mk none 0 0) (Sl.mk none 0 0) R.turns false false) ∧ Mod (fun b => b = cb) D E ∧ Ints .u64 E low ((R.ords[i].take cl.length).map (wordAt cl wl)) ∧ (∀ b, ownB low b → D.size ≤ b ∧ b < E.size), ?_, ?_⟩
  ·refine br_t rfl ?_
   simp only [optK_eq, add_add, Nat.reduceAdd]
   have mDE := mB.trans mE0
   have relE := h.rel.grow (rel mDE)
   refine RowT.ld (c := cSl) (i := 3) (x := R.os) relE.row rfl ?_
   have zDB := mB.size
   refine (h.rel.ords.old (rel mDE)).ld hi rfl fun ad r _ ra hr hcap => ?_
   have hrn := hr.len
   refine ⟨⟨by omega, by omega⟩, ?_⟩
   have en : ((cols.n : Int).toNat) - 0 = cl.length - 0 := by omega
   rw [en]
   have htl : (R.ords[i].take cl.length).length = cl.length := by rw [List.length_take]; omega
   refine loop_upto cl.length (fun k z E => z = (k : Int) ∧ ∃ low, RowT E cb Yax (curV R.rb i low cc wc (Sl.mk none 0 0) (Sl.mk none 0 0) R.turns false false) ∧ Mod (fun b => b = cb) E0 E ∧ Owns E 0 YaP 1 low ((((R.ords[i].take cl.length).take k).map (wordAt cl wl)).map (Value.int .u64)) ∧ (∀ b, ownB low b → E0.size ≤ b)) ⟨rfl, Sl.mk none 0 0, rE0, .refl _ _, Owns.nil _ _ _ _, fun b u => (by obtain ⟨ad, ha, _⟩ := u; cases ha)⟩ ?_
   rintro k _ E next1 hk ⟨rfl, low, rE, mE, oE, fE⟩ hnext1
   have zE := mE.size
   have mDE' := mDE.trans mE
   have eE := rel mDE'
   have hr' : Ints .i64 E r R.ords[i] := hr.mod mE fun ad ha u => by
    have h2 : ¬ A.size ≤ ad.block := (ra ad ha).2
    omega
   refine br_mk (fun hcd2 => ?_) (fun hcd2 => ?_)
   ·have hkl : k < cl.length := by have : (k : Int) < ((cl.length - 0 : Nat) : Int) := by simpa using hcd2
                                   omega
    refine ints_get (hr'.take (i := cl.length) (by omega)) (i := (k : Int)) (j := k) rfl (by omega) fun ad2 _ => ?_
    refine ⟨Ext E, .refl _ _, ?_⟩
    refine RowT.ldC (c := cSl) (i := 2) (x := low) (cs := fun _ => curV R.rb i low cc wc (Sl.mk none 0 0) (Sl.mk none 0 0) R.turns false false) (fun D hD => rE.ext hD) (fun _ _ => rfl) ?_
    have hv : (R.ords[i].take cl.length).getD k 0 ∈ cl := by
     unfold fitsO at hfit
     rw [List.all_eq_true] at hfit
     refine of_decide_eq_true (hfit _ ?_)
     rw [List.getD, List.getElem?_eq_getElem (by omega)]
     exact List.getElem_mem _
    refine indexI_ok (hc.ext eE) (by omega) (fun j hj he hmin => ⟨.refl _ _, ?_⟩) (fun u => absurd hv u)
    refine ints_get (hw.ext eE) (i := (j : Int)) (j := j) rfl (by omega) fun ad3 _ => ?_
    have hwa : wl.getD j 0 = wordAt cl wl ((R.ords[i].take cl.length).getD k 0) := by
     unfold wordAt
     have : cl.findIdx (· == (R.ords[i].take cl.length).getD k 0) = j := by
      rw [List.findIdx_eq hj]
      refine ⟨?_, fun a ha => ?_⟩
      ·have : cl.getD j 0 = cl[j] := by simp [List.getD, List.getElem?_eq_getElem hj]
       rw [this] at he
       simp [he]
      ·have h1 := hmin a ha
       have : cl.getD a 0 = cl[a] := by simp [List.getD, List.getElem?_eq_getElem (show a < cl.length by omega)]
       rw [this] at h1
       simpa using h1
     rw [this]
    rw [hwa]
    refine ⟨Mod.push (fun _ => False) E (.cells #[.int .u64 (wordAt cl wl ((R.ords[i].take cl.length).getD k 0))] YaP), ?_⟩
    have hln : low.n = k := by have := oE.1; simp at this; omega
    have key := elU64.push (ty := YaK) (H := E) (base := 0) (s := low) (v := .int .u64 (wordAt cl wl ((R.ords[i].take cl.length).getD k 0))) oE rfl (by omega) (by omega) (Nat.zero_le _)
     (K := fun s' G => Go.Proofs.YtlockeegebnofaaGreatDoor.st G (Addr.add ⟨cb, 0, none⟩ 2) s'.v fun G' => next1 (IntKind.i64.wrap ((k : Int) + (1 : Int))) G')
    refine key fun low' G n' oG mG bG _ => ?_
    have zG := mG.size
    have rG := rE.mod mG fun u => by have := fE _ u; omega
    refine RowT.st rG (i := 2) (by simp [curV]) (by cases low'; rfl) fun J rJ mJ zJ => ?_
    have fG : ∀ b, ownB low' b → E0.size ≤ b := fun b hb => by
     rcases bG b hb with v | v
     ·exact fE b v
     ·omega
    refine hnext1 hkl _ _ ⟨succ64 k (by omega), low', rJ, ?_, ?_, fG⟩
    ·refine ⟨by omega, fun b hb hne => ?_⟩
     rw [mJ.same b (by omega) hne, mG.same b (by omega) fun u => by have := fE b u; omega]
     exact mE.same b hb hne
    ·have e1 : (R.ords[i].take cl.length).take (k + 1) = (R.ords[i].take cl.length).take k ++ [(R.ords[i].take cl.length).getD k 0] := by
      rw [List.take_add_one, List.getElem?_eq_getElem (by omega)]; simp [List.getD, List.getElem?_eq_getElem (show k < (R.ords[i].take cl.length).length by omega)]
     rw [e1, List.map_append, List.map_append]
     exact oG.mod mJ fun b hb u => by have := fG b hb; omega
   ·have hge : k = cl.length := by have : ¬ (k : Int) < ((cl.length - 0 : Nat) : Int) := by simpa using hcd2
                                   omega
    subst hge
    rw [List.take_take, Nat.min_self] at oE
    exact ⟨low, rE, mDE', oE.ints, fun b hb => ⟨by have := fE b hb; have := mDE.size; omega, (oE.block b hb).2⟩⟩
  ·rintro _ E ⟨low, rE, mE, il, lb⟩
   refine tail i hi E low _ rE mE il (by rw [List.length_map, List.length_take]; omega) lb (.inl ⟨by rw [egd]; exact hfit, fun j hj => ?_, by rw [egd]⟩)
   have := hno j hj
   simpa [List.getD, List.getElem?_eq_getElem (show j < R.ords.length by omega)] using this
 ·refine RowT.st rB (i := 1) (by simp [curV]) rfl fun E0 rE0 mE0 zE0 => ?_
  refine ⟨fun _ E => E0 = E, br_f rfl rfl, ?_⟩
  rintro _ _ rfl
  exact tail 0 (by omega) E0 (Sl.mk none 0 0) [] rE0 (mB.trans mE0) ⟨rfl, Reads.nil _ _⟩ (by simp) (fun b u => by obtain ⟨ad, ha, _⟩ := u; cases ha) (.inr ⟨hno, rfl, rfl⟩)
end
theorem up_self {R : RelS} (hks : (R.all.map (·.k)).Nodup) {t : Tx} (ht : t ∈ R.all) : R.up t.k t.L = R := by
 have key : ∀ l : List Tx, (∀ x ∈ l, x ∈ R.all) → l.map (Tx.up t.k t.L) = l := fun l hl => by
  have : l.map (Tx.up t.k t.L) = l.map id := List.map_congr_left fun x hx => by
   unfold Tx.up
   split
   ·rename_i e
    obtain ⟨i, hi⟩ := List.mem_iff_getElem?.1 (hl x hx)
    obtain ⟨j, hj⟩ := List.mem_iff_getElem?.1 ht
    have hlt := (List.getElem?_eq_some_iff.1 hi).1
    have hij := (List.getElem?_inj (l := R.all.map (·.k)) (i := i) (j := j) (by simpa using hlt) hks).1 (by rw [List.getElem?_map, List.getElem?_map, hi, hj]; simp [e])
    subst hij
    rw [hi] at hj
    have : x = t := Option.some.inj hj
    subst this
    rfl
   ·rfl
  rw [this, List.map_id]
 have hp : ∀ q ∈ R.parts, q.up t.k t.L = q := fun q hq => by
  unfold PartS.up
  rw [key _ (RelS.part_all hq)]
 unfold RelS.up
 rw [hp R.f (by simp [RelS.parts]), hp R.d (by simp [RelS.parts]), hp R.e (by simp [RelS.parts]), key R.ex fun x hx => by unfold RelS.all; simp [hx]]
def TC.rest (t : TC) : List (List Int) := t.t.L.filter (pq t.ll t.strict)
def PullTo (lowL : List Int) (t t' : TC) (h' : Option (List Int)) : Prop :=
 t'.t = t.t ∧ t'.cb = t.cb ∧ ((t.rest.head? = none ∧ t'.ll = t.ll ∧ t'.strict = t.strict ∧ h' = none) ∨ ∃ y, t.rest.head? = some y ∧ t'.ll = y ∧ t'.strict = true ∧ h' = if beginsL y lowL then some y else none)
def CurS.with (C : CurS) (tcs : List TC) (hs : List (Sl × Option (List Int))) : CurS := ⟨C.cb, C.order, C.low, C.lowL, C.cols, C.colsL, C.words, C.wordsL, C.fr, tcs, C.heads, hs, C.turns, C.begun, C.ext⟩
section
variable {H0 A B D : Heap} {F F' X : Nat → Prop} {p dp Q U most m c : Nat} {s s' : Pl} {M M' : Files} {R : RelS} {C : CurS} {ll : List Int}
theorem CurM.lt (h : CurM H0 A F p M R C) : ∀ b, C.Own b → b < A.size := by
 rintro b (rfl | ⟨t, ht, rfl⟩ | hb | hb)
 ·exact obj_lt h.row
 ·exact obj_lt (h.tc t ht).2.1.row
 ·exact (h.hd.block b hb).2
 ·exact h.ext b hb
theorem HeadOk.step {Y Y' : Nat → Prop} {x : Sl × Option (List Int)} (h : HeadOk Y A x) (S : Step Y Y' A B) : HeadOk Y' B x :=
 ⟨h.1, fun y hy => ⟨(h.2 y hy).1, (h.2 y hy).2.2.ints (h.2 y hy).2.1 S, (h.2 y hy).2.2.step S⟩⟩
theorem CurM.cbT (h : CurM H0 A F p M R C) {t : TC} (ht : t ∈ C.tcs) : C.cb ≠ t.cb := fun e => by
 have h1 := (h.tc t ht).2.1.row
 rw [← e] at h1
 exact absurd (cells_ty h1 h.row) (by decide)
theorem CurM.hdT (h : CurM H0 A F p M R C) {t : TC} (ht : t ∈ C.tcs) : ¬ ownB C.heads t.cb := fun u => by
 obtain ⟨cur, e⟩ := h.hd.obj _ u
 exact absurd (cells_ty e (h.tc t ht).2.1.row) (by decide)
theorem CurM.hdC (h : CurM H0 A F p M R C) : ¬ ownB C.heads C.cb := fun u => by
 obtain ⟨cur, e⟩ := h.hd.obj _ u
 exact absurd (cells_ty e h.row) (by decide)
theorem set_own {C : CurS} {i : Nat} {t t' : TC} {hs : List (Sl × Option (List Int))} (hi : C.tcs[i]? = some t) (he : t'.cb = t.cb) : (C.tcs.set i t').map (·.cb) = C.tcs.map (·.cb) ∧ (∀ b, (C.with (C.tcs.set i t') hs).Own b ↔ C.Own b) ∧ ∀ b, (C.with (C.tcs.set i t') hs).Own0 b ↔ C.Own0 b := by
 have hm : (C.tcs.set i t').map (·.cb) = C.tcs.map (·.cb) := by
  apply List.ext_getElem?
  intro j
  rw [List.getElem?_map, List.getElem?_map, List.getElem?_set]
  by_cases e : i = j
  ·subst e
   have := (List.getElem?_eq_some_iff.1 hi).1
   rw [if_pos rfl, if_pos this, hi]
   simp [he]
  ·rw [if_neg e]
 have key : ∀ {b : Nat} (l : List TC), (∃ t ∈ l, b = t.cb) ↔ b ∈ l.map (·.cb) := fun l => by
  rw [List.mem_map]
  exact ⟨fun ⟨q, a, c⟩ => ⟨q, a, c.symm⟩, fun ⟨q, a, c⟩ => ⟨q, a, c.symm⟩⟩
 refine ⟨hm, fun b => ?_, fun b => ?_⟩
 ·unfold CurS.Own CurS.with
  simp only
  rw [key, key, hm]
 ·unfold CurS.Own0 CurS.with
  simp only
  rw [key, key, hm]
theorem CurM.moved {i : Nat} {t t' : TC} (h : CurM H0 A F p M R C) (hi : C.tcs[i]? = some t) (ht : t'.t = t.t) (hcb : t'.cb = t.cb) (S : Step (fun b => F b ∨ b = t.t.k ∨ b = t.cb) (fun b => F' b ∨ b = t.t.k ∨ b = t.cb) A B) (hk : ¬ F' t.t.k) (hT : TreeM B p M t.t.k t.t.n R.W t.t.L) (hcu : CurB B F' t.t.k t.cb t'.lo t'.ll t'.strict) (hlo : t'.lo = t.lo ∨ ∀ b, ownB t'.lo b → A.size ≤ b) :
  CurM H0 B F' p M R (C.with (C.tcs.set i t') C.hs) ∧ Step (R.X (C.Z0 F)) (R.X ((C.with (C.tcs.set i t') C.hs).Z0 F')) A B := by
 have htm : t ∈ C.tcs := List.mem_of_getElem? hi
 obtain ⟨htR, hcuA, hloA⟩ := h.tc t htm
 obtain ⟨hmap, hown, hown0⟩ := set_own (hs := C.hs) hi hcb
 have hOk : R.O t.t.k := .inr (.inr ⟨_, htR, rfl⟩)
 have hkZ := (h.rel.off _ hOk).1
 have hOt : C.Own t.cb := .inr (.inl ⟨t, htm, rfl⟩)
 have ownF : ∀ b, C.Own b → ¬ F' b := fun b hb u => by
  rcases S.own b (.inl u) with (v | v | v) | v
  ·exact (h.off b hb).1 v
  ·subst v; exact hkZ (.inr hb)
  ·subst v; exact hcu.cb.1 u
  ·have := h.lt b hb; omega
 have SY : Step (R.X (C.Z F)) (R.X ((C.with (C.tcs.set i t') C.hs).Z F')) A B := S.widen (fun b u => by
  rcases u with u | u | u
  ·exact .inl (.inl u)
  ·exact .inr (u ▸ hOk)
  ·exact .inl (.inr (u ▸ hOt))) fun b u => by
  rcases u with (u | u) | u
  ·exact .inr (.inl u)
  ·exact .inl (.inl (.inr ((hown b).1 u)))
  ·exact .inl (.inr u)
 have S0 : Step (R.X (C.Z0 F)) (R.X ((C.with (C.tcs.set i t') C.hs).Z0 F')) A B := S.widen (fun b u => by
  rcases u with u | u | u
  ·exact .inl (.inl u)
  ·exact .inr (u ▸ hOk)
  ·exact .inl (.inr (.inr (.inl ⟨t, htm, u⟩)))) fun b u => by
  rcases u with (u | u) | u
  ·exact .inr (.inl u)
  ·exact .inl (.inl (.inr ((hown0 b).1 u)))
  ·exact .inl (.inr u)
 have rel := h.rel.treeOp (F' := (C.with (C.tcs.set i t') C.hs).Z F') (M' := M) htR (S.widen (fun b u => by
  rcases u with u | u | u
  ·exact .inl (.inl u)
  ·exact .inr u
  ·exact .inl (.inr (u ▸ hOt))) fun b u => by
  rcases u with (u | u) | u
  ·exact .inr (.inl u)
  ·exact .inl (.inl (.inr ((hown b).1 u)))
  ·exact .inl (.inr u)) (fun u => by
  rcases u with u | u
  ·exact hk u
  ·exact hkZ (.inr ((hown _).1 u))) hT (fun _ _ => rfl)
 rw [up_self h.rel.ks htR] at rel
 have ownS : ∀ b, C.Own b → b ≠ t.cb → B[b]? = A[b]? := fun b hb e => S.mod.same b (h.lt b hb) fun u => by
  rcases u with u | u | u
  ·exact (h.off b hb).1 u
  ·subst u; exact hkZ (.inr hb)
  ·exact e u
 have cbne := h.cbT htm
 refine ⟨⟨rel, (ownS _ (.inl rfl) cbne).trans h.row, ⟨h.low.2.ints h.low.1 SY, h.low.2.step SY⟩, ⟨h.cols.2.ints h.cols.1 SY, h.cols.2.step SY⟩, ⟨h.words.2.ints h.words.1 SY, h.words.2.step SY⟩, ?_, fun u hu => ?_, ?_, fun x hx => (h.hr x hx).step SY, by rw [show (C.with (C.tcs.set i t') C.hs).tcs = C.tcs.set i t' from rfl, hmap]; exact h.cbs, fun b hb => ⟨ownF b ((hown b).1 hb), (h.off b ((hown b).1 hb)).2⟩, fun b hb => Nat.lt_of_lt_of_le (h.ext b hb) S.mod.size, fun b hb u => h.sep b hb ((hown0 b).1 u)⟩, S0⟩
 ·have e : ∀ l : List TC, (l.map fun t => ptrV t.cb) = (l.map (·.cb)).map ptrV := fun l => by rw [List.map_map]; rfl
  have := h.fr.step SY
  rw [e] at this ⊢
  rw [show (C.with (C.tcs.set i t') C.hs).tcs = C.tcs.set i t' from rfl, hmap]
  exact this
 ·have hu : u ∈ C.tcs.set i t' := hu
  obtain ⟨j, hj⟩ := List.mem_iff_getElem?.1 hu
  rw [List.getElem?_set] at hj
  by_cases e : i = j
  ·subst e
   rw [if_pos rfl, if_pos (List.getElem?_eq_some_iff.1 hi).1] at hj
   have : u = t' := (Option.some.inj hj).symm
   subst this
   refine ⟨ht ▸ htR, by rw [ht, hcb]; exact hcu, ?_⟩
   rcases hlo with e | e
   ·rw [e]; exact hloA.step SY
   ·intro ad ha
    have h1 := e _ ⟨ad, ha, rfl⟩
    obtain ⟨o1, o2⟩ := hcu.off ad ha
    refine ⟨o1, fun x => ?_⟩
    rcases x with (x | x) | x
    ·exact o2 (.inl x)
    ·have := h.lt _ ((hown _).1 x); omega
    ·have := h.rel.lt _ x; omega
  ·rw [if_neg e] at hj
   have hum : u ∈ C.tcs := List.mem_of_getElem? hj
   obtain ⟨a1, a2, a3⟩ := h.tc u hum
   have hne : u.cb ≠ t.cb := fun q => e ((List.getElem?_inj (l := C.tcs.map (·.cb)) (i := i) (j := j) (by simpa using (List.getElem?_eq_some_iff.1 hi).1) h.cbs).1 (by rw [List.getElem?_map, List.getElem?_map, hi, hj]; simp [q]))
   have hOu : C.Own u.cb := .inr (.inl ⟨u, hum, rfl⟩)
   have a4 := a3.step SY
   refine ⟨a1, ⟨(ownS _ hOu hne).trans a2.row, a3.ints a2.ints SY, a4.mono fun b _ x => ?_, ownF _ hOu, a2.cb.2⟩, a4⟩
   rcases x with x | x | x
   ·exact .inl (.inl x)
   ·exact .inr (x ▸ .inr (.inr ⟨_, a1, rfl⟩))
   ·exact .inl (.inr ((hown b).2 (x ▸ hOu)))
 ·exact h.hd.mod S.mod fun b hb u => by
   rcases u with u | u | u
   ·exact (h.off b (.inr (.inr (.inl hb)))).1 u
   ·subst u; exact hkZ (.inr (.inr (.inr (.inl hb))))
   ·subst u; exact h.hdT htm hb
theorem CurM.head {i : Nat} {x : Sl × Option (List Int)} (h : CurM H0 A F p M R C) (ho : Owns B 0 YaK 1 C.heads ((C.hs.set i x).map fun h => h.1.v)) (mm : Mod (ownB C.heads) A B) (hx : HeadOk (R.X (C.Z F)) B x) :
  CurM H0 B F p M R (C.with C.tcs (C.hs.set i x)) ∧ Step (R.X (C.Z0 F)) (R.X ((C.with C.tcs (C.hs.set i x)).Z0 F)) A B := by
 have SZ : Step (C.Z F) (C.Z F) A B := ⟨mm.mono fun b _ u => .inr (.inr (.inr (.inl u))), fun _ u => .inl u⟩
 have SY : Step (R.X (C.Z F)) (R.X (C.Z F)) A B := Step.rel SZ
 refine ⟨⟨h.rel.pool SZ, h.row.mod mm h.hdC, ⟨h.low.2.ints h.low.1 SY, h.low.2.step SY⟩, ⟨h.cols.2.ints h.cols.1 SY, h.cols.2.step SY⟩, ⟨h.words.2.ints h.words.1 SY, h.words.2.step SY⟩, h.fr.step SY, fun u hu => ?_, ho, fun y hy => ?_, h.cbs, h.off, fun b hb => Nat.lt_of_lt_of_le (h.ext b hb) mm.size, h.sep⟩, Step.rel (R := R) (F := C.Z0 F) (F' := C.Z0 F) ⟨mm.mono fun b _ u => .inr (.inr (.inr u)), fun _ u => .inl u⟩⟩
 ·obtain ⟨a1, a2, a3⟩ := h.tc u hu
  refine ⟨a1, ⟨a2.row.mod mm (h.hdT hu), a3.ints a2.ints SY, fun ad ha => ⟨Nat.lt_of_lt_of_le (a2.off ad ha).1 mm.size, (a2.off ad ha).2⟩, a2.cb⟩, a3.step SY⟩
 ·have hy : y ∈ C.hs.set i x := hy
  rcases List.mem_or_eq_of_mem_set hy with u | u
  ·exact (h.hr y u).step SY
  ·rw [u]; exact hx
end
section
variable {H0 A B D : Heap} {F F' X : Nat → Prop} {p dp Q U most m c : Nat} {s s' : Pl} {M M' : Files} {R : RelS} {C : CurS} {ll : List Int}
theorem CurM.grow (h : CurM H0 A F p M R C) (e : Ext A B) : CurM H0 B F p M R C := by
 have SY : Step (R.X (C.Z F)) (R.X (C.Z F)) A B := Step.ofExt e
 refine ⟨h.rel.grow e, h.row.ext e, ⟨h.low.1.ext e, h.low.2.step SY⟩, ⟨h.cols.1.ext e, h.cols.2.step SY⟩, ⟨h.words.1.ext e, h.words.2.step SY⟩, h.fr.step SY, fun u hu => ?_, h.hd.ext e, fun y hy => (h.hr y hy).step SY, h.cbs, h.off, fun b hb => Nat.lt_of_lt_of_le (h.ext b hb) e.size, h.sep⟩
 obtain ⟨a1, a2, a3⟩ := h.tc u hu
 exact ⟨a1, a2.mod e id fun _ _ => id, a3.step SY⟩
theorem PoolM.heads (h : PoolM H0 A F p dp s M Q U most m) (hc : CurM H0 A F p M R C) (mm : Mod (ownB C.heads) A B) : PoolM H0 B F p dp s M Q U most m :=
 h.aside ⟨Nat.le_trans h.ext.size mm.size, fun b hb _ => (mm.same b (Nat.lt_of_lt_of_le hb h.ext.size) fun u => by have := (hc.off b (.inr (.inr (.inl u)))).2; omega).trans (h.ext.same b hb id)⟩ fun b hb => mm.same b (h.pool.lt b hb) fun u => (hc.off b (.inr (.inr (.inl u)))).1 hb
theorem heads_n (h : CurM H0 A F p M R C) : C.heads.n = C.hs.length := by
 have := h.hd.1
 rw [List.length_map] at this
 omega
set_option maxHeartbeats 2000000 in
theorem pull_ok {i : Nat} {t : TC} {K : Int → Heap → Prop} (hP : PoolM H0 A F p dp s M Q U most m) (h : CurM H0 A F p M R C) (hg : Gl H0) (hF : R.Fit) (hQ : Q ≤ 1048576) (hm : m + 1000000 ≤ 30000000000) (hi : C.tcs[i]? = some t) (hhs : C.hs.length = C.tcs.length)
  (hK : ∀ F' s' t' h' B, PoolM H0 B F' p dp s' M Q U most (m + 1000000) → CurM H0 B F' p M R (C.with (C.tcs.set i t') (C.hs.set i h')) → PullTo C.lowL t t' h'.2 → Step (R.X (C.Z0 F)) (R.X ((C.with (C.tcs.set i t') (C.hs.set i h')).Z0 F')) A B → K 0 B) : Zct.sp (at0 C.cb) (i : Int) A K := by
 refine Zct.of ?_
 unfold Zct.vc
 simp only [optK_eq, at0]
 refine RowT.ld (c := cSl) (i := 5) (x := C.fr) h.row rfl ?_
 have hil := (List.getElem?_eq_some_iff.1 hi).1
 refine SlX.ld (c := cPtr) (x := at0 t.cb) (i := i) h.fr (by rw [List.getElem?_map, hi]; rfl) rfl fun ad _ => ?_
 have htm : t ∈ C.tcs := List.mem_of_getElem? hi
 obtain ⟨htR, hcu, hlo⟩ := h.tc t htm
 have hOk : R.O t.t.k := .inr (.inr ⟨_, htR, rfl⟩)
 have hkZ := h.rel.off _ hOk
 have hOt : C.Own t.cb := .inr (.inl ⟨t, htm, rfl⟩)
 have hT := h.rel.tr _ htR
 have plain0 : plainV (.slice none 0 0) = true := rfl
 refine hT.next hP hg ⟨fun u => hkZ.1 (.inl u), hkZ.2⟩ (h.off _ hOt).2 (hF.nm h.rel htR) hF.W (hF.rows _ htR) hQ hm hcu (fun hno F1 s1 B p1 T1 S1 k1 c1 => ?_) (fun y hy F1 s1 B sl lo' p1 T1 S1 k1 c1 o1 f1 => ?_)
 ·obtain ⟨cm, SY⟩ := h.moved (t' := t) hi rfl rfl S1 k1 T1 c1 (.inl rfl)
  refine RowT.ld (c := cSl) (i := 6) (x := C.heads) cm.row rfl ?_
  have hn := heads_n cm
  have hn : C.heads.n = C.hs.length := hn
  refine Owns.st cm.hd (by omega) (by show (i : Int) < (C.heads.n : Int); omega) plain0 fun D oD mD zD => ?_
  have oD' : Owns D 0 YaK 1 C.heads ((C.hs.set i (Sl.mk none 0 0, none)).map fun h => h.1.v) := by
   rw [List.map_set]
   rw [Int.toNat_natCast] at oD
   exact oD
  obtain ⟨cm2, SY2⟩ := cm.head (i := i) (x := (Sl.mk none 0 0, none)) oD' mD ⟨fun _ => rfl, fun y hy => by cases hy⟩
  refine br_f rfl ?_
  exact hK F1 s1 t (Sl.mk none 0 0, none) D (p1.heads cm mD) cm2 ⟨rfl, rfl, .inl ⟨hno, rfl, rfl, rfl⟩⟩ (SY.trans SY2)
 ·obtain ⟨cm, SY⟩ := h.moved (t' := ⟨t.t, t.cb, lo', y, true⟩) hi rfl rfl S1 k1 T1 c1 (.inr f1.2)
  refine RowT.ld (c := cSl) (i := 6) (x := C.heads) cm.row rfl ?_
  have hn := heads_n cm
  have hn : C.heads.n = C.hs.length := hn
  have hBz := S1.mod.size
  refine Owns.st cm.hd (by omega) (by show (i : Int) < (C.heads.n : Int); omega) plain0 fun D oD mD zD => ?_
  have oD' : Owns D 0 YaK 1 C.heads ((C.hs.set i (Sl.mk none 0 0, none)).map fun h => h.1.v) := by
   rw [List.map_set]
   rw [Int.toNat_natCast] at oD
   exact oD
  obtain ⟨cm2, SY2⟩ := cm.head (i := i) (x := (Sl.mk none 0 0, none)) oD' mD ⟨fun _ => rfl, fun y hy => by cases hy⟩
  have pD := p1.heads cm mD
  refine br_t rfl ?_
  refine RowT.ld (c := cSl) (i := 2) (x := C.low) cm2.row rfl ?_
  have hyL : y ∈ t.t.L := by
   have : y ∈ t.t.L.filter (pq t.ll t.strict) := List.mem_of_mem_head? hy
   exact (List.mem_filter.1 this).1
  have hyl := (hT.rows y hyL).1
  have hW := hF.W
  have o1D : Owns D 0 YaP 1 sl (y.map (Value.int .u64)) := o1.mod mD fun b hb hb' => by
   have h1 := (f1.1 b hb).1
   have h2 := h.lt b (.inr (.inr (.inl hb')))
   omega
  refine rowBegins_ok o1D.ints cm2.low.1 o1D.cap (by omega) ?_
  refine br_mk (fun hb => ?_) (fun hb => ?_)
  ·refine ⟨Ext D, .refl _ _, ?_⟩
   refine RowT.ldC (c := cSl) (i := 6) (x := C.heads) (cs := fun _ => curV R.rb C.order C.low C.cols C.words C.fr C.heads C.turns false C.begun) (fun G hG => cm2.row.ext hG) (fun _ _ => rfl) ?_
   have hsn := o1D.ints.len
   rw [show IntKind.i64.wrap ((sl.n : Int) + 1) = ((y.length + 1 : Nat) : Int) by rw [wrap64 (by omega) (by omega)]; omega]
   refine elU64.make (base := 0) (by omega) (by omega) (by omega) (by omega) (Nat.zero_le _) fun sl2 E n2 o2 e2 b2 hne => ⟨e2, ?_⟩
   have hzE := e2.size
   refine elU64.append (base := 0) (s := sl2) (x := sl) (xs := []) (ws := y.map (Value.int .u64)) o2 (by simp; omega) (o1D.ext e2).ints.reads (intsOne _ _) (by simp at n2; omega) (by simp at n2; omega) (Nat.zero_le _) fun s3 G n3 o3 m3 b3 hnil => ?_
   have eG : Ext D G := ((Ext.mod e2).trans m3).ext b2
   refine ⟨eG, ?_⟩
   have cm3 := cm2.grow eG
   have hn2 : C.heads.n = (C.hs.set i (Sl.mk none 0 0, none)).length := by rw [List.length_set]; exact hn
   refine Owns.st cm3.hd (by omega) (by show (i : Int) < (C.heads.n : Int); omega) (by cases s3; rfl) fun J oJ mJ zJ => ?_
   have f3 : ∀ b, ownB s3 b → D.size ≤ b := fun b hb => by
    rcases b3 b hb with v | v
    ·exact b2 b v
    ·omega
   have oJ' : Owns J 0 YaK 1 C.heads (((C.hs.set i (Sl.mk none 0 0, none)).set i (s3, some y)).map fun h => h.1.v) := by
    rw [List.map_set]
    rw [Int.toNat_natCast] at oJ
    exact oJ
   have hlt3 := cm2.lt
   have i3 : Ints .u64 J s3 y := by
    have : Owns J 0 YaP 1 s3 (y.map (Value.int .u64)) := by
     have := o3.mod mJ fun b hb hb' => by
      have h1 := f3 b hb
      have h2 := hlt3 b (.inr (.inr (.inl hb')))
      omega
     simpa using this
    exact this.ints
   obtain ⟨cm4, SY4⟩ := cm3.head (i := i) (x := (s3, some y)) oJ' mJ ⟨fun u => (by cases u), fun z hz => by
    have : z = y := (Option.some.inj hz).symm
    subst this
    refine ⟨fun u => hne (hnil.1 u).1, i3, fun ad ha => ⟨?_, fun u => ?_⟩⟩
    ·have := (o3.block _ ⟨ad, ha, rfl⟩).2; omega
    ·have h1 := f3 _ ⟨ad, ha, rfl⟩
     rcases u with (u | u) | u
     ·have := pD.pool.lt _ u; omega
     ·have := cm2.lt _ u; omega
     ·have := cm2.rel.lt _ u; omega⟩
   have e : (C.with (C.tcs.set i ⟨t.t, t.cb, lo', y, true⟩) ((C.hs.set i (Sl.mk none 0 0, none)).set i (s3, some y))) = C.with (C.tcs.set i ⟨t.t, t.cb, lo', y, true⟩) (C.hs.set i (s3, some y)) := by rw [List.set_set]
   have cm4' : CurM H0 J F1 p M R (C.with (C.tcs.set i ⟨t.t, t.cb, lo', y, true⟩) (C.hs.set i (s3, some y))) := e ▸ cm4
   refine hK F1 s1 _ (s3, some y) J ((pD.grow eG).heads cm3 mJ) cm4' ⟨rfl, rfl, .inr ⟨y, hy, rfl, rfl, ?_⟩⟩ (((SY.trans SY2).trans (Step.ofExt eG)).trans SY4)
   exact (if_pos (show beginsL y C.lowL = true from hb)).symm
  ·refine hK F1 s1 _ (Sl.mk none 0 0, none) D pD cm2 ⟨rfl, rfl, .inr ⟨y, hy, rfl, rfl, ?_⟩⟩ (SY.trans SY2)
   have hb' : beginsL y C.lowL = false := hb
   exact (if_neg (by rw [hb']; simp)).symm
end
def CurS.start (C : CurS) (heads : Sl) (hs : List (Sl × Option (List Int))) : CurS := ⟨C.cb, C.order, C.low, C.lowL, C.cols, C.colsL, C.words, C.wordsL, C.fr, C.tcs, heads, hs, C.turns, true, C.ext⟩
structure Begun (C C1 : CurS) : Prop where
 begun : C1.begun = true
 cb : C1.cb = C.cb
 order : C1.order = C.order
 lowL : C1.lowL = C.lowL
 colsL : C1.colsL = C.colsL
 wordsL : C1.wordsL = C.wordsL
 turns : C1.turns = C.turns
 ext : C1.ext = C.ext
 len : C1.hs.length = C1.tcs.length
 old : C.begun = true → C1 = C
 new : C.begun = false → C1.tcs.length = C.tcs.length ∧ ∀ (i : Nat) (t : TC), C.tcs[i]? = some t → ∃ (t' : TC) (h' : Sl × Option (List Int)), C1.tcs[i]? = some t' ∧ C1.hs[i]? = some h' ∧ PullTo C.lowL t t' h'.2
section
variable {H0 A B D : Heap} {F F' X : Nat → Prop} {p dp Q U most m c : Nat} {s s' : Pl} {M M' : Files} {R : RelS} {C : CurS} {ll : List Int}
theorem CurM.begin {sl : Sl} {n : Nat} (h : CurM H0 A F p M R C) (hn : C.heads = Sl.mk none 0 0) (hlt : ∀ b, F b → b < A.size) (hz : H0.size ≤ A.size) (ho : Owns B 0 YaK 1 sl (List.replicate n (Value.slice none 0 0))) (fo : ∀ b, ownB sl b → A.size ≤ b) (mm : Mod (fun b => b = C.cb) A B)
  (r : RowT B C.cb Yax (curV R.rb C.order C.low C.cols C.words C.fr sl C.turns false true)) : CurM H0 B F p M R (C.start sl (List.replicate n (Sl.mk none 0 0, none))) ∧ Step (R.X (C.Z0 F)) (R.X ((C.start sl (List.replicate n (Sl.mk none 0 0, none))).Z0 F)) A B := by
 have own : ∀ b, (C.start sl (List.replicate n (Sl.mk none 0 0, none))).Own b ↔ C.Own b ∨ ownB sl b := by
  intro b
  unfold CurS.Own CurS.start
  simp only
  have : ¬ ownB C.heads b := by rw [hn]; rintro ⟨ad, ha, _⟩; cases ha
  constructor
  ·rintro (u | u | u | u)
   ·exact .inl (.inl u)
   ·exact .inl (.inr (.inl u))
   ·exact .inr u
   ·exact .inl (.inr (.inr (.inr u)))
  ·rintro ((u | u | u | u) | u)
   ·exact .inl u
   ·exact .inr (.inl u)
   ·exact absurd u this
   ·exact .inr (.inr (.inr u))
   ·exact .inr (.inr (.inl u))
 have hZe : (C.start sl (List.replicate n (Sl.mk none 0 0, none))).Z F = fun b => C.Z F b ∨ ownB sl b := by
  funext b
  refine propext ?_
  unfold CurS.Z
  rw [own b]
  exact ⟨fun u => u.elim (fun v => .inl (.inl v)) fun v => v.elim (fun w => .inl (.inr w)) .inr, fun u => u.elim (fun v => v.elim .inl fun w => .inr (.inl w)) fun w => .inr (.inr w)⟩
 have SZ : Step (C.Z F) ((C.start sl (List.replicate n (Sl.mk none 0 0, none))).Z F) A B := by
  rw [hZe]
  exact ⟨mm.mono fun b _ u => .inr (.inl u), fun b u => u.imp id (fo b)⟩
 have SY := Step.rel (R := R) SZ
 have S0 : Step (R.X (C.Z0 F)) (R.X ((C.start sl (List.replicate n (Sl.mk none 0 0, none))).Z0 F)) A B := Step.rel (R := R) ⟨mm.mono fun b _ u => .inr (.inl u), fun b u => by
  rcases u with u | u | u | u
  ·exact .inl (.inl u)
  ·exact .inl (.inr (.inl u))
  ·exact .inl (.inr (.inr (.inl u)))
  ·exact .inr (fo b u)⟩
 refine ⟨⟨h.rel.pool SZ, r, ⟨h.low.2.ints h.low.1 SY, h.low.2.step SY⟩, ⟨h.cols.2.ints h.cols.1 SY, h.cols.2.step SY⟩, ⟨h.words.2.ints h.words.1 SY, h.words.2.step SY⟩, h.fr.step SY, fun u hu => ?_, ?_, fun x hx => ?_, h.cbs, fun b hb => ?_, fun b hb => Nat.lt_of_lt_of_le (h.ext b hb) mm.size, fun b hb u => ?_⟩, S0⟩
 ·obtain ⟨a1, a2, a3⟩ := h.tc u hu
  exact ⟨a1, ⟨a2.row.mod mm (fun e => h.cbT hu e.symm), a3.ints a2.ints SY, fun ad ha => ⟨Nat.lt_of_lt_of_le (a2.off ad ha).1 mm.size, (a2.off ad ha).2⟩, a2.cb⟩, a3.step SY⟩
 ·have : (C.start sl (List.replicate n (Sl.mk none 0 0, none))).hs.map (fun h => h.1.v) = List.replicate n (Value.slice none 0 0) := by
   show (List.replicate n ((Sl.mk none 0 0 : Sl), (none : Option (List Int)))).map _ = _
   rw [List.map_replicate]
  rw [this]; exact ho
 ·have hx : x ∈ List.replicate n ((Sl.mk none 0 0 : Sl), (none : Option (List Int))) := hx
  rw [List.eq_of_mem_replicate hx]
  exact ⟨fun _ => rfl, fun y hy => by cases hy⟩
 ·rcases (own b).1 hb with u | u
  ·exact h.off b u
  ·exact ⟨fun v => by have := hlt b v; have := fo b u; omega, by have := fo b u; omega⟩
 ·rcases u with u | u | u
  ·exact h.sep b hb (.inl u)
  ·exact h.sep b hb (.inr (.inl u))
  ·have := h.ext b hb
   have := fo b u
   omega
def Best (hs : List (Sl × Option (List Int))) (n : Nat) (b : Int) : Prop :=
 (b = -1 ∧ ∀ i, i < n → ∀ x, hs[i]? = some x → x.2 = none) ∨ ∃ (j : Nat) (r : Sl) (y : List Int), b = (j : Int) ∧ j < n ∧ hs[j]? = some (r, some y) ∧ ∀ i, i < n → ∀ x l, hs[i]? = some x → x.2 = some l → ¬ cmpL l y < 0
theorem SlX.ofOwn {Y : Nat → Prop} {e : TypeId} {sl : Sl} {vs : List Value} (ho : Owns A 0 e 1 sl vs) (hY : ∀ b, ownB sl b → ¬ Y b) : SlX Y A sl vs :=
 ⟨by have := ho.1; omega, fun ad ha => ⟨(ho.block _ ⟨ad, ha, rfl⟩).2, hY _ ⟨ad, ha, rfl⟩⟩, ho.reads⟩
set_option maxHeartbeats 2000000 in
theorem best_ok {K : (Sl × Int) → Heap → Prop} (hP : PoolM H0 A F p dp s M Q U most m) (h : CurM H0 A F p M R C) (hg : Gl H0) (hF : R.Fit) (hQ : Q ≤ 1048576) (hm : m + 1000000 ≤ 30000000000) (hhs : C.hs.length = C.tcs.length) (hl : C.hs.length ≤ 1000)
  (hrow : ∀ x ∈ C.hs, ∀ y, x.2 = some y → y.length ≤ 1000)
  (hK0 : (∀ x ∈ C.hs, x.2 = none) → K (Sl.mk none 0 0, 0) A)
  (hK1 : ∀ i y t r F' s' t' h' B, C.tcs[i]? = some t → C.hs[i]? = some (r, some y) → (∀ x ∈ C.hs, ∀ l, x.2 = some l → ¬ cmpL l y < 0) → PoolM H0 B F' p dp s' M Q U most (m + 1000000) → CurM H0 B F' p M R (C.with (C.tcs.set i t') (C.hs.set i h')) → PullTo C.lowL t t' h'.2 → Ints .u64 B r y → Off (R.X ((C.with (C.tcs.set i t') (C.hs.set i h')).Z F')) B r → r.a ≠ none → Step (R.X (C.Z0 F)) (R.X ((C.with (C.tcs.set i t') (C.hs.set i h')).Z0 F')) A B → K (r, 0) B) :
  optK (at0 C.cb) fun a_5 => Go.Proofs.YtlockeegebnofaaGreatDoor.ld cSl A (a_5.add 6) fun (x_3 : Sl) => LoopVC (Int × Int) ((-1 : Int), (0 : Int)) A fun next_1 z_2 H7 => br (decide (z_2.2 < (x_3.n : Int))) (optK x_3.a fun a_6 => (0 ≤ z_2.2 ∧ z_2.2 < (x_3.n : Int)) ∧ Go.Proofs.YtlockeegebnofaaGreatDoor.ld cSl H7 (a_6.add (z_2.2.toNat * 1)) fun (l : Sl) => br ((!l.a.isNone) == true) (br (decide (z_2.1 < (0 : Int))) (next_1 (z_2.2, IntKind.i64.wrap (z_2.2 + (1 : Int))) H7) (optK (at0 C.cb) fun a_7 => Go.Proofs.YtlockeegebnofaaGreatDoor.ld cSl H7 (a_7.add 6) fun (x_4 : Sl) => optK x_4.a fun a_8 => (0 ≤ z_2.1 ∧ z_2.1 < (x_4.n : Int)) ∧ Go.Proofs.YtlockeegebnofaaGreatDoor.ld cSl H7 (a_8.add (z_2.1.toNat * 1)) fun (x_5 : Sl) => Zeb.sp l x_5 H7 fun (r : Int) H8 => br (decide (r < (0 : Int))) (next_1 (z_2.2, IntKind.i64.wrap (z_2.2 + (1 : Int))) H8) (next_1 (z_2.1, IntKind.i64.wrap (z_2.2 + (1 : Int))) H8))) (next_1 (z_2.1, IntKind.i64.wrap (z_2.2 + (1 : Int))) H7)) (br (decide (z_2.1 < (0 : Int))) (K ((Sl.mk none 0 0), (0 : Int)) H7) (optK (at0 C.cb) fun a_9 => Go.Proofs.YtlockeegebnofaaGreatDoor.ld cSl H7 (a_9.add 6) fun (x_6 : Sl) => optK x_6.a fun a_10 => (0 ≤ z_2.1 ∧ z_2.1 < (x_6.n : Int)) ∧ Go.Proofs.YtlockeegebnofaaGreatDoor.ld cSl H7 (a_10.add (z_2.1.toNat * 1)) fun (l_1 : Sl) => Zct.sp (at0 C.cb) z_2.1 H7 fun (r_1 : Int) H9 => K (l_1, r_1) H9)) := by
 simp only [optK_eq, at0]
 refine RowT.ld (c := cSl) (i := 6) (x := C.heads) h.row rfl ?_
 have hn := heads_n h
 have hsx : SlX (fun _ => False) A C.heads (C.hs.map fun h => h.1.v) := SlX.ofOwn h.hd fun _ _ => id
 have at' : ∀ {i : Nat} {x : Sl × Option (List Int)}, C.hs[i]? = some x → (C.hs.map fun h => h.1.v)[i]? = some (cSl.enc x.1) := fun {i x} e => by rw [List.getElem?_map, e]; rfl
 refine loop_upto C.hs.length (fun i z B => z.2 = (i : Int) ∧ A = B ∧ Best C.hs i z.1) ⟨rfl, rfl, .inl ⟨rfl, fun i hi => by omega⟩⟩ ?_
 rintro i ⟨b, _⟩ _ next hi ⟨rfl, rfl, hb⟩ hnext
 dsimp only at hb ⊢
 refine br_mk (fun hcd => ?_) (fun hcd => ?_)
 ·have hlt : i < C.hs.length := by have : (i : Int) < (C.heads.n : Int) := by simpa using hcd
                                   omega
  obtain ⟨⟨r, o⟩, hx⟩ : ∃ x, C.hs[i]? = some x := ⟨_, List.getElem?_eq_getElem hlt⟩
  refine SlX.ld (c := cSl) (x := r) (i := i) hsx (at' hx) rfl fun ad _ => ?_
  have hxm := List.mem_of_getElem? hx
  have hok := h.hr _ hxm
  cases o with
  | none =>
    have hr0 : r.a = none := hok.1 rfl
    refine br_f (by rw [hr0]; rfl) ?_
    refine hnext hlt _ _ ⟨succ64 i (by omega), rfl, ?_⟩
    rcases hb with ⟨e, hno⟩ | ⟨j, r2, y, e, hj, hjx, hmin⟩
    ·refine .inl ⟨e, fun a ha x hax => ?_⟩
     by_cases q : a = i
     ·subst q; rw [hx] at hax; rw [← Option.some.inj hax]
     ·exact hno a (by omega) x hax
    ·refine .inr ⟨j, r2, y, e, by omega, hjx, fun a ha x l hax hl => ?_⟩
     by_cases q : a = i
     ·subst q; rw [hx] at hax; rw [← Option.some.inj hax] at hl; cases hl
     ·exact hmin a (by omega) x l hax hl
  | some l =>
    obtain ⟨q1, q2, q3⟩ := hok.2 l rfl
    have hrn : r.a.isNone = false := by
     cases hra : r.a with
     | none => exact absurd hra q1
     | some _ => rfl
    refine br_t (by rw [hrn]; rfl) ?_
    rcases hb with ⟨e, hno⟩ | ⟨j, r2, y, e, hj, hjx, hmin⟩
    ·subst e
     refine br_t rfl ?_
     refine hnext hlt _ _ ⟨succ64 i (by omega), rfl, .inr ⟨i, r, l, rfl, by omega, hx, fun a ha x l' hax hl' => ?_⟩⟩
     by_cases q : a = i
     ·subst q; rw [hx] at hax
      rw [← Option.some.inj hax] at hl'
      have : l = l' := Option.some.inj hl'
      subst this
      exact ltR_irr l
     ·rw [hno a (by omega) x hax] at hl'; cases hl'
    ·subst e
     refine br_f (by simp) ?_
     refine RowT.ld (c := cSl) (i := 6) (x := C.heads) h.row rfl ?_
     refine SlX.ld (c := cSl) (x := r2) (i := j) hsx (at' hjx) rfl fun ad2 _ => ?_
     have hjm := List.mem_of_getElem? hjx
     obtain ⟨w1, w2, w3⟩ := (h.hr _ hjm).2 y rfl
     refine rowCmp_ok q2 w2 (by have := hrow _ hxm l rfl; omega) ?_
     refine br_mk (fun hc => ?_) (fun hc => ?_)
     ·have hc : cmpL l y < 0 := of_decide_eq_true hc
      refine hnext hlt _ _ ⟨succ64 i (by omega), rfl, .inr ⟨i, r, l, rfl, by omega, hx, fun a ha x l' hax hl' hlt' => ?_⟩⟩
      by_cases q : a = i
      ·subst q; rw [hx] at hax
       rw [← Option.some.inj hax] at hl'
       have : l = l' := Option.some.inj hl'
       subst this
       exact ltR_irr l hlt'
      ·exact hmin a (by omega) x l' hax hl' (ltR_trans hlt' hc)
     ·have hc : ¬ cmpL l y < 0 := of_decide_eq_false hc
      refine hnext hlt _ _ ⟨succ64 i (by omega), rfl, .inr ⟨j, r2, y, rfl, by omega, hjx, fun a ha x l' hax hl' => ?_⟩⟩
      by_cases q : a = i
      ·subst q; rw [hx] at hax
       rw [← Option.some.inj hax] at hl'
       have : l = l' := Option.some.inj hl'
       subst this
       exact hc
      ·exact hmin a (by omega) x l' hax hl'
 ·have hge : i = C.hs.length := by have : ¬ (i : Int) < (C.heads.n : Int) := by simpa using hcd
                                   omega
  subst hge
  rcases hb with ⟨e, hno⟩ | ⟨j, r2, y, e, hj, hjx, hmin⟩
  ·subst e
   refine br_t rfl (hK0 fun x hx => ?_)
   obtain ⟨a, ha⟩ := List.mem_iff_getElem?.1 hx
   exact hno a (List.getElem?_eq_some_iff.1 ha).1 x ha
  ·subst e
   refine br_f (by simp) ?_
   refine RowT.ld (c := cSl) (i := 6) (x := C.heads) h.row rfl ?_
   refine SlX.ld (c := cSl) (x := r2) (i := j) hsx (at' hjx) rfl fun ad2 _ => ?_
   have hjm := List.mem_of_getElem? hjx
   obtain ⟨w1, w2, w3⟩ := (h.hr _ hjm).2 y rfl
   have hjt : C.tcs[j]? = some C.tcs[j] := List.getElem?_eq_getElem (by omega)
   refine pull_ok hP h hg hF hQ hm hjt hhs fun F' s' t' h' B p1 c1 pt S1 => ?_
   refine hK1 j y C.tcs[j] r2 F' s' t' h' B hjt hjx (fun x hx l hl => ?_) p1 c1 pt (w3.ints w2 (S1.full rfl)) (w3.step (S1.full rfl)) w1 S1
   obtain ⟨a, ha⟩ := List.mem_iff_getElem?.1 hx
   exact hmin a (List.getElem?_eq_some_iff.1 ha).1 x l ha hl
end
section
variable {H0 A B D : Heap} {F F' X : Nat → Prop} {p dp Q U most m c : Nat} {s s' : Pl} {M M' : Files} {R : RelS} {C : CurS} {ll : List Int}
structure Asked (C C1 : CurS) (i : Nat) : Prop where
 same : ∃ tcs hs, C1 = C.with tcs hs ∧ tcs.length = C.tcs.length ∧ hs.length = C.tcs.length
 done : ∀ (j : Nat) (t : TC), j < i → C.tcs[j]? = some t → ∃ (t' : TC) (h' : Sl × Option (List Int)), C1.tcs[j]? = some t' ∧ C1.hs[j]? = some h' ∧ PullTo C.lowL t t' h'.2
 left : ∀ (j : Nat), i ≤ j → C1.tcs[j]? = C.tcs[j]?
set_option maxHeartbeats 2000000 in
theorem least_ok {w : Nat} {K : (Sl × Int) → Heap → Prop} (hP : PoolM H0 A F p dp s M Q U most m) (h : CurM H0 A F p M R C) (hg : Gl H0) (hF : R.Fit) (hQ : Q ≤ 1048576) (hw : w = 1000000) (hm : m + w * (C.tcs.length + 1) ≤ 30000000000) (ht : C.tcs.length ≤ 1000)
  (hst : (C.begun = true ∧ C.hs.length = C.tcs.length) ∨ (C.begun = false ∧ C.heads = Sl.mk none 0 0)) (hrow : ∀ x ∈ C.hs, ∀ y, x.2 = some y → y.length ≤ 1000)
  (hK0 : ∀ C1 F' s' B, Begun C C1 → (∀ x ∈ C1.hs, x.2 = none) → PoolM H0 B F' p dp s' M Q U most (m + w * (C.tcs.length + 1)) → CurM H0 B F' p M R C1 → Step (R.X (C.Z0 F)) (R.X (C1.Z0 F')) A B → K (Sl.mk none 0 0, 0) B)
  (hK1 : ∀ C1 i y t r F' s' t' h' B, Begun C C1 → C1.tcs[i]? = some t → C1.hs[i]? = some (r, some y) → (∀ x ∈ C1.hs, ∀ l, x.2 = some l → ¬ cmpL l y < 0) → PoolM H0 B F' p dp s' M Q U most (m + w * (C.tcs.length + 1)) → CurM H0 B F' p M R (C1.with (C1.tcs.set i t') (C1.hs.set i h')) → PullTo C1.lowL t t' h'.2 → Ints .u64 B r y → Off (R.X ((C1.with (C1.tcs.set i t') (C1.hs.set i h')).Z F')) B r → r.a ≠ none → Step (R.X (C.Z0 F)) (R.X ((C1.with (C1.tcs.set i t') (C1.hs.set i h')).Z0 F')) A B → K (r, 0) B) : ZbW.sp (at0 C.cb) A K := by
 have hwl : w * (C.tcs.length + 1) = w * C.tcs.length + w := Nat.mul_succ _ _
 refine ZbW.of ?_
 unfold ZbW.vc
 -- where the ways meet
 refine ⟨fun _ B => ∃ C1 F' s', Begun C C1 ∧ PoolM H0 B F' p dp s' M Q U most (m + w * C.tcs.length) ∧ CurM H0 B F' p M R C1 ∧ Step (R.X (C.Z0 F)) (R.X (C1.Z0 F')) A B ∧ C1.tcs.length = C.tcs.length ∧ (∀ x ∈ C1.hs, ∀ y, x.2 = some y → y.length ≤ 1000), ?_, ?_⟩
 ·refine optK_mk _ rfl ?_
  refine RowT.ld (c := cBool) (i := 9) (x := C.begun) h.row rfl ?_
  rcases hst with ⟨hb, hlen⟩ | ⟨hb, hhd⟩
  ·refine br_f (by rw [hb]; rfl) ?_
   exact ⟨C, F, s, ⟨hb, rfl, rfl, rfl, rfl, rfl, rfl, rfl, hlen, fun _ => rfl, fun u => by rw [hb] at u; cases u⟩, hP.later (by omega), h, Step.refl _ _, rfl, hrow⟩
  ·refine br_t (by rw [hb]; rfl) ?_
   simp only [optK_eq, at0]
   refine RowT.st h.row (i := 9) (by simp [curV]) rfl fun A1 r1 m1 z1 => ?_
   refine RowT.ld (c := cSl) (i := 5) (x := C.fr) r1 rfl ?_
   have hfn := h.fr.len
   rw [List.length_map] at hfn
   refine elRow.make (base := 0) (by omega) (by omega) (by omega) (by omega) (Nat.zero_le _) fun sl A2 n2 o2 e2 b2 _ => ?_
   refine RowT.st (r1.ext e2) (i := 6) (by simp [curV]) (by cases sl; rfl) fun A3 r3 m3 z3 => ?_
   refine RowT.ld (c := cSl) (i := 5) (x := C.fr) r3 rfl ?_
   have hpl := hP.pool.lt
   have hcl := h.lt _ (.inl rfl)
   have hco := h.off _ (.inl rfl)
   have z2 := e2.size
   have m13 : Mod (fun b => b = C.cb) A A3 := (m1.trans e2.mod).trans m3
   have o3 : Owns A3 0 YaK 1 sl (List.replicate C.tcs.length (Value.slice none 0 0)) := by
    have := o2.mod m3 fun b hb u => by have := b2 b hb; omega
    rw [show ((C.fr.n : Int)).toNat = C.tcs.length by omega] at this
    exact this
   obtain ⟨cm, SY⟩ := h.begin hhd hpl hP.ext.size o3 (fun b hb => by have := b2 b hb; omega) m13 r3
   have p3 : PoolM H0 A3 F p dp s M Q U most m := hP.aside ⟨by have := hP.ext.size; omega, fun b hb _ => (m13.same b (by have := hP.ext.size; omega) (by omega)).trans (hP.ext.same b hb id)⟩ fun b hb => m13.same b (hpl b hb) fun u => hco.1 (u ▸ hb)
   refine loop_upto C.tcs.length (fun i z B => z = (i : Int) ∧ ∃ C1 F' s', Asked (C.start sl (List.replicate C.tcs.length (Sl.mk none 0 0, none))) C1 i ∧ PoolM H0 B F' p dp s' M Q U most (m + w * i) ∧ CurM H0 B F' p M R C1 ∧ Step (R.X (C.Z0 F)) (R.X (C1.Z0 F')) A B ∧ (∀ x ∈ C1.hs, ∀ y, x.2 = some y → y.length ≤ 1000)) ⟨rfl, _, F, s, ⟨⟨C.tcs, _, rfl, rfl, by rw [List.length_replicate]; rfl⟩, fun j t hj => (by omega), fun _ _ => rfl⟩, p3, cm, SY, fun x hx y hy => ?_⟩ ?_
   ·have hx : x ∈ List.replicate C.tcs.length ((Sl.mk none 0 0 : Sl), (none : Option (List Int))) := hx
    rw [List.eq_of_mem_replicate hx] at hy; cases hy
   rintro i _ B next hi ⟨rfl, C1, F1, s1, ⟨⟨tcs, hs, eC, l1, l2⟩, hdone, hleft⟩, p1, c1, S1, hrw⟩ hnext
   have l1 : tcs.length = C.tcs.length := l1
   have l2 : hs.length = C.tcs.length := l2
   refine br_mk (fun hcd => ?_) (fun hcd => ?_)
   ·have hlt : i < C.tcs.length := by have : (i : Int) < (C.fr.n : Int) := by simpa using hcd
                                      omega
    have hti : C1.tcs[i]? = some C.tcs[i] := by
     rw [hleft i (Nat.le_refl _)]
     exact List.getElem?_eq_getElem hlt
    have ecb : C1.cb = C.cb := by rw [eC]; rfl
    have elow : C1.lowL = C.lowL := by rw [eC]; rfl
    have ets : C1.tcs = tcs := by rw [eC]; rfl
    have ehs : C1.hs = hs := by rw [eC]; rfl
    rw [← ecb]
    have hw1 : w * (i + 1) = w * i + w := Nat.mul_succ _ _
    have hw2 : w * (i + 1) ≤ w * C.tcs.length := Nat.mul_le_mul_left _ hlt
    refine pull_ok p1 c1 hg hF hQ (by omega) hti (by rw [ets, ehs, l1, l2]) fun F2 s2 t' h' D p2 c2 pt S2 => ?_
    refine br_f rfl ?_
    have htm : C.tcs[i] ∈ C1.tcs := List.mem_of_getElem? hti
    refine hnext hlt _ _ ⟨succ64 i (by omega), _, F2, s2, ⟨⟨C1.tcs.set i t', C1.hs.set i h', by rw [eC]; rfl, by rw [List.length_set, ets]; exact l1, by rw [List.length_set, ehs]; exact l2⟩, fun j t hj hjt => ?_, fun j hj => ?_⟩, p2.later (by omega), c2, S1.trans S2, fun x hx y hy => ?_⟩
    ·by_cases e : j = i
     ·subst e
      have : t = C.tcs[j] := by
       have hjt : C.tcs[j]? = some t := hjt
       rw [List.getElem?_eq_getElem hlt] at hjt
       exact (Option.some.inj hjt).symm
      subst this
      refine ⟨t', h', ?_, ?_, by rw [elow] at pt; exact pt⟩
      ·show (C1.tcs.set j t')[j]? = _
       rw [List.getElem?_set, if_pos rfl, if_pos (by rw [ets, l1]; exact hlt)]
      ·show (C1.hs.set j h')[j]? = _
       rw [List.getElem?_set, if_pos rfl, if_pos (by rw [ehs, l2]; exact hlt)]
     ·obtain ⟨t2, h2, a1, a2, a3⟩ := hdone j t (by omega) hjt
      refine ⟨t2, h2, ?_, ?_, a3⟩
      ·show (C1.tcs.set i t')[j]? = _
       rw [List.getElem?_set, if_neg (by omega)]; exact a1
      ·show (C1.hs.set i h')[j]? = _
       rw [List.getElem?_set, if_neg (by omega)]; exact a2
    ·show (C1.tcs.set i t')[j]? = _
     rw [List.getElem?_set, if_neg (by omega)]
     exact hleft j (by omega)
    ·have hx : x ∈ C1.hs.set i h' := hx
     rcases List.mem_or_eq_of_mem_set hx with u | u
     ·exact hrw x u y hy
     ·subst u
      obtain ⟨_, _, q | ⟨z, q1, q2, q3, q4⟩⟩ := pt
      ·rw [q.2.2.2] at hy; cases hy
      ·rw [q4] at hy
       split at hy
       ·have : z = y := Option.some.inj hy
        subst this
        have hz : z ∈ C.tcs[i].t.L := (List.mem_filter.1 (List.mem_of_mem_head? q1)).1
        have := ((c1.rel.tr _ (c1.tc _ htm).1).rows z hz).1
        have := hF.W
        omega
       ·cases hy
   ·have hge : i = C.tcs.length := by have : ¬ (i : Int) < (C.fr.n : Int) := by simpa using hcd
                                      omega
    subst hge
    have ets : C1.tcs = tcs := by rw [eC]; rfl
    have ehs : C1.hs = hs := by rw [eC]; rfl
    refine ⟨C1, F1, s1, ⟨by rw [eC]; rfl, by rw [eC]; rfl, by rw [eC]; rfl, by rw [eC]; rfl, by rw [eC]; rfl, by rw [eC]; rfl, by rw [eC]; rfl, by rw [eC]; rfl, by rw [ets, ehs, l1, l2], fun u => (by rw [hb] at u; cases u), fun _ => ⟨by rw [ets, l1], fun j t hj => hdone j t (List.getElem?_eq_some_iff.1 hj).1 hj⟩⟩, p1, c1, S1, by rw [ets, l1], hrw⟩
 ·rintro _ B ⟨C1, F1, s1, hbg, p1, c1, S1, hl1, hrw⟩
  have key := best_ok (K := K) p1 c1 hg hF hQ (by omega) hbg.len (by rw [hbg.len]; omega) hrw
   (fun hno => hK0 C1 F1 s1 B hbg hno (p1.later (by omega)) c1 S1)
   (fun i y t r F' s' t' h' D hti hhi hmin p2 c2 pt ir ro rn S2 => hK1 C1 i y t r F' s' t' h' D hbg hti hhi hmin (p2.later (by omega)) c2 pt ir ro rn (S1.trans S2))
  rw [hbg.cb] at key
  exact key
end
def backL (W : Nat) (o l : List Int) : Nat → List Int
 | 0 => List.replicate W 0
 | i + 1 => (backL W o l i).set (o.getD i 0).toNat (l.getD i 0)
section
variable {H0 A B D : Heap} {F F' X : Nat → Prop} {p dp Q U most m c : Nat} {s s' : Pl} {M M' : Files} {R : RelS} {C : CurS} {ll : List Int} {l : Sl}
theorem rback_ok {i : Nat} {K : Sl → Heap → Prop} (h : RelB H0 A F p M R) (hl : Ints .u64 A l ll) (hi : i < R.ords.length) (hW : R.W ≤ 16) (ho : R.ords[i].length = R.W) (hll : ll.length = R.W) (hc : ∀ x ∈ R.ords[i], 0 ≤ x ∧ x < (R.W : Int))
  (hK : ∀ out B, Owns B 0 YaP 1 out ((backL R.W R.ords[i] ll R.W).map (Value.int .u64)) → Ext A B → (∀ b, ownB out b → A.size ≤ b) → K out B) : Zdf.sp (some ⟨R.rb, 0, none⟩) l (i : Int) A K := by
 refine Zdf.of ?_
 unfold Zdf.vc
 simp only [optK_eq]
 refine RowT.ld (c := cInt .i64) (i := 2) (x := (R.W : Int)) h.row rfl ?_
 refine elU64.make (base := 0) (by omega) (by omega) (by omega) (by omega) (Nat.zero_le _) fun out A1 n1 o1 e1 b1 _ => ?_
 have h1 := h.grow e1
 refine RowT.ld (c := cSl) (i := 3) (x := R.os) h1.row rfl ?_
 refine (h.ords.old e1).ld hi rfl fun ad r _ ra hr _ => ?_
 have hrn := hr.len
 have hln := hl.len
 have hon : out.n = R.W := by rw [n1]; omega
 refine loop_upto R.W (fun k z B => z = (k : Int) ∧ Owns B 0 YaP 1 out ((backL R.W R.ords[i] ll k).map (Value.int .u64)) ∧ Mod (ownB out) A1 B) ⟨rfl, by
  have e : (backL R.W R.ords[i] ll 0).map (Value.int .u64) = List.replicate ((R.W : Int).toNat) (Value.int .u64 0) := by
   show (List.replicate R.W (0 : Int)).map _ = _
   rw [List.map_replicate, Int.toNat_natCast]
  rw [e]; exact o1, .refl _ _⟩ ?_
 rintro k _ B next hk ⟨rfl, oB, mB⟩ hnext
 have zB := mB.size
 have z1 := e1.size
 have eB : Ext A B := ((Ext.mod e1).trans mB).ext b1
 refine br_mk (fun hcd => ?_) (fun hcd => ?_)
 ·have hkl : k < R.W := by have : (k : Int) < (r.n : Int) := by simpa using hcd
                           omega
  have hr' : Ints .i64 B r R.ords[i] := hr.mod mB fun a ha u => by
   have h2 : ¬ A.size ≤ a.block := (ra a ha).2
   exact h2 (b1 _ u)
  refine ints_get hr' (i := (k : Int)) (j := k) rfl (by omega) fun ad2 _ => ?_
  refine ints_get (hl.ext eB) (i := (k : Int)) (j := k) rfl (by omega) fun ad3 _ => ?_
  have hx : R.ords[i].getD k 0 ∈ R.ords[i] := by
   rw [List.getD, List.getElem?_eq_getElem (by omega)]
   exact List.getElem_mem _
  obtain ⟨x0, x1⟩ := hc _ hx
  refine Owns.st oB x0 (by omega) rfl fun D oD mD zD => ?_
  refine hnext hkl _ _ ⟨succ64 k (by omega), ?_, mB.trans mD⟩
  have e : (backL R.W R.ords[i] ll (k + 1)).map (Value.int .u64) = ((backL R.W R.ords[i] ll k).map (Value.int .u64)).set (R.ords[i].getD k 0).toNat (.int .u64 (ll.getD k 0)) := by
   show ((backL R.W R.ords[i] ll k).set _ _).map _ = _
   rw [List.map_set]
  rw [e]
  exact oD
 ·have hge : k = R.W := by have : ¬ (k : Int) < (r.n : Int) := by simpa using hcd
                           omega
  subst hge
  exact hK out B oB eB b1
set_option maxHeartbeats 2000000 in
theorem relNext_ok {w : Nat} {K : (Sl × Bool × Int) → Heap → Prop} (hP : PoolM H0 A F p dp s M Q U most m) (h : CurM H0 A F p M R C) (hg : Gl H0) (hF : R.Fit) (hQ : Q ≤ 1048576) (hw : w = 1000000) (hm : m + w * (C.tcs.length + 1) ≤ 30000000000) (ht : C.tcs.length ≤ 1000) (htu : C.turns = R.turns) (hol : C.order < R.ords.length) (hord : R.ords[C.order].length = R.W) (hcol : ∀ x ∈ R.ords[C.order], 0 ≤ x ∧ x < (R.W : Int)) (hcl : C.colsL.length ≤ 1000)
  (hst : (C.begun = true ∧ C.hs.length = C.tcs.length) ∨ (C.begun = false ∧ C.heads = Sl.mk none 0 0)) (hrow : ∀ x ∈ C.hs, ∀ y, x.2 = some y → y.length ≤ 1000)
  (hall : ∀ C1, Begun C C1 → ∀ x ∈ C1.hs, ∀ y, x.2 = some y → y.length = R.W ∧ turnL (backL R.W R.ords[C.order] y R.W) C.colsL = C.wordsL)
  (hK0 : ∀ C1 F' s' B, Begun C C1 → (∀ x ∈ C1.hs, x.2 = none) → PoolM H0 B F' p dp s' M Q U most (m + w * (C.tcs.length + 1)) → CurM H0 B F' p M R C1 → Step (R.X (C.Z0 F)) (R.X (C1.Z0 F')) A B → K (Sl.mk none 0 0, false, 0) B)
  (hK1 : ∀ C1 i y t r F' s' t' h' out B, Begun C C1 → C1.tcs[i]? = some t → C1.hs[i]? = some (r, some y) → (∀ x ∈ C1.hs, ∀ l, x.2 = some l → ¬ cmpL l y < 0) → PoolM H0 B F' p dp s' M Q U most (m + w * (C.tcs.length + 1)) → CurM H0 B F' p M R (C1.with (C1.tcs.set i t') (C1.hs.set i h')) → PullTo C1.lowL t t' h'.2 → Owns B 0 YaP 1 out ((backL R.W R.ords[C.order] y R.W).map (Value.int .u64)) → (∀ b, ownB out b → A.size ≤ b ∧ ¬ R.X ((C1.with (C1.tcs.set i t') (C1.hs.set i h')).Z F') b) → Step (R.X (C.Z0 F)) (R.X ((C1.with (C1.tcs.set i t') (C1.hs.set i h')).Z0 F')) A B → K (out, true, 0) B) : ZbX.sp (at0 C.cb) A K := by
 refine ZbX.of ?_
 unfold ZbX.vc
 refine br_f rfl ?_
 simp only [optK_eq, at0]
 refine RowT.ld (c := cPtr) (i := 0) (x := at0 R.rb) h.row rfl ?_
 refine rready_ok h.rel.row ?_
 refine br_f rfl ?_
 refine RowT.ld (c := cBool) (i := 8) (x := false) h.row rfl ?_
 refine br_f rfl ?_
 refine RowT.ld (c := cInt .i64) (i := 7) (x := (C.turns : Int)) h.row rfl ?_
 refine RowT.ld (c := cPtr) (i := 0) (x := at0 R.rb) h.row rfl ?_
 simp only [optK_eq, at0]
 refine RowT.ld (c := cInt .i64) (i := 10) (x := (R.turns : Int)) h.rel.row rfl ?_
 refine br_f (by rw [htu]; simp) ?_
 refine loop_upto 0 (fun _ _ B => A = B) rfl ?_
 rintro _ _ _ next _ rfl _
 refine least_ok hP h hg hF hQ hw hm ht hst hrow (fun C1 F1 s1 B hbg hno p1 c1 S1 => ?_) (fun C1 i y t r F1 s1 t' h' B hbg hti hhi hmin p1 c1 pt ir ro rn S1 => ?_)
 ·refine br_f rfl ?_
  refine br_t rfl ?_
  have rw1 := c1.row
  rw [hbg.cb] at rw1
  refine RowT.ld (c := cPtr) (i := 0) (x := at0 R.rb) rw1 rfl ?_
  refine optK_mk _ rfl ?_
  refine met_zero ?_
  exact hK0 C1 F1 s1 B hbg hno p1 c1 S1
 ·refine br_f rfl ?_
  have hrn : r.a.isNone = false := by
   cases hra : r.a with
   | none => exact absurd hra rn
   | some _ => rfl
  refine br_f hrn ?_
  obtain ⟨y1, y2⟩ := hall C1 hbg _ (List.mem_of_getElem? hhi) y rfl
  have rw1 := c1.row
  have ecb : (C1.with (C1.tcs.set i t') (C1.hs.set i h')).cb = C.cb := hbg.cb
  rw [ecb] at rw1
  refine RowT.ld (c := cPtr) (i := 0) (x := at0 R.rb) rw1 rfl ?_
  refine optK_mk _ rfl ?_
  refine RowT.ld (c := cInt .i64) (i := 1) (x := (C.order : Int)) rw1 (by show some (Value.int .i64 (C1.order : Int)) = _; rw [hbg.order]) ?_
  refine rback_ok c1.rel ir hol hF.W hord y1 hcol fun out D oD eD fD => ?_
  have c2 := c1.grow eD
  have rw2 := rw1.ext eD
  refine RowT.ld (c := cSl) (i := 3) (x := C1.cols) rw2 rfl ?_
  have hcols : Ints .i64 D C1.cols C.colsL := hbg.colsL ▸ c2.cols.1
  refine rowTurn_ok oD.ints hcols (by omega) fun tr E oE eE => ?_
  have c3 := c2.grow eE
  refine RowT.ld (c := cSl) (i := 4) (x := C1.words) (rw2.ext eE) rfl ?_
  have hwords : Ints .u64 E C1.words C.wordsL := hbg.wordsL ▸ c3.words.1
  rw [y2] at oE
  have hlw : C.wordsL.length ≤ 1000 := by
   rw [← y2]
   unfold turnL
   split
   ·rw [List.length_map]; exact hcl
   ·simp
  refine slicesEqual_ok oE.ints hwords (by omega) ?_
  refine br_t (by simp) ?_
  have eDE := eD.trans eE
  have pE := p1.grow eDE
  have hzB := S1.mod.size
  refine hK1 C1 i y t r F1 s1 t' h' out E hbg hti hhi hmin pE c3 pt (oD.ext eE) (fun b hb => ⟨by have := fD b hb; omega, fun u => ?_⟩) (S1.trans (Step.ofExt eDE))
  have hb2 := fD b hb
  rcases u with (u | u) | u
  ·have := p1.pool.lt b u; omega
  ·have := c1.lt b u; omega
  ·have := c1.rel.lt b u; omega
end
def noFiles : Files := fun _ => none
theorem pool0 {H A : Heap} {F : Nat → Prop} {p dp : Nat} (e : Ext H A) (hp : PoolAt F A p dp (pl0 (dk0 60) 8)) (ho : ∀ b, F b → H.size ≤ b) : PoolM H A F p dp (pl0 (dk0 60) 8) noFiles 60 0 8 1 :=
 ⟨e, hp, ho, ⟨⟨rfl, rfl, rfl, by decide, by decide, List.nodup_nil, fun i f hf => (by cases hf), fun n x hx => (by cases hx), fun g hg => (by cases hg)⟩, pl0_wf (by decide) (by decide), fun f hf => (by cases hf)⟩, by decide, by decide, by decide, by decide, fun n x hx => (by cases hx), rfl⟩
theorem two_cells {A : Heap} {k : Nat} {t : TypeId} {ik : IntKind} {x y : Int} (r : RowT A k t #[.int ik x, .int ik y]) : Ints ik A ⟨some ⟨k, 0, none⟩, 2, 2⟩ [x, y] := by
 refine ⟨rfl, fun i u hu => ⟨_, rfl, ?_⟩⟩
 have hi : i = 0 ∨ i = 1 := by have := (List.getElem?_eq_some_iff.1 hu).1; simp at this; omega
 rcases hi with rfl | rfl
 ·simp at hu; subst hu
  rw [add_lit0]; exact r.cell rfl
 ·simp at hu; subst hu
  rw [add_lit0]; exact r.cell rfl
theorem one_cell2 {A : Heap} {k : Nat} {t : TypeId} {ik : IntKind} {x : Int} (r : RowT A k t #[.int ik x]) : Ints ik A ⟨some ⟨k, 0, none⟩, 1, 1⟩ [x] := by
 refine ⟨rfl, fun i u hu => ⟨_, rfl, ?_⟩⟩
 have hi : i = 0 := by have := (List.getElem?_eq_some_iff.1 hu).1; simp at this; omega
 subst hi
 simp at hu; subst hu
 rw [add_lit0]; exact r.cell rfl
theorem order_of {x : List Int} {W : Nat} (hp : x.Perm (upto W)) : (x.mergeSort fun a b => decide (a ≤ b)) = upto W := by
 have tr : ∀ a b c : Int, decide (a ≤ b) = true → decide (b ≤ c) = true → decide (a ≤ c) = true := fun a b c h1 h2 => by simp only [decide_eq_true_eq] at *; omega
 have to : ∀ a b : Int, (decide (a ≤ b) || decide (b ≤ a)) = true := fun a b => by simp only [Bool.or_eq_true, decide_eq_true_eq]; omega
 refine List.Perm.eq_of_pairwise (le := fun a b => decide (a ≤ b) = true) (fun a b _ _ h1 h2 => ?_) (List.pairwise_mergeSort tr to x) ?_ ((List.mergeSort_perm x _).trans hp)
 ·simp only [decide_eq_true_eq] at h1 h2; omega
 ·unfold upto
  rw [List.pairwise_map]
  exact List.Pairwise.imp (fun {a b} h => decide_eq_true (by omega)) (List.pairwise_lt_range (n := W))
section
variable {H0 A B D : Heap} {F F' X : Nat → Prop} {p dp Q U most m c : Nat} {s s' : Pl} {M M' : Files} {R : RelS} {C : CurS} {ll : List Int} {l : Sl}
theorem off_new {t : TypeId} {cs : Array Value} {n c : Nat} {Y : Nat → Prop} (hY : ∀ b, Y b → b < A.size) (r : RowT B A.size t cs) : Off Y B ⟨some ⟨A.size, 0, none⟩, n, c⟩ := fun ad ha => by
 have : ad = ⟨A.size, 0, none⟩ := (Option.some.inj ha).symm
 subst this
 exact ⟨obj_lt r, fun u => by have := hY _ u; simp at this⟩
theorem rowsAt_mem {q : PartS} {i : Nat} {t : Tx} (h : q.ts[i]? = some t) : q.rowsAt i = t.L := by unfold PartS.rowsAt; rw [h]
theorem fit_of {R : RelS} (hW : R.W = 2) (hn : R.name.size ≤ 90) (hnb : R.nb ≤ 100) (hf : R.f.ts = []) (hd : R.d.ts = []) (hx : R.ex = []) (he : ∀ i, (R.e.rowsAt i).length ≤ 400) : R.Fit := by
 refine ⟨by omega, hn, hnb, fun t ht => ?_⟩
 unfold RelS.all at ht
 rw [hf, hd, hx] at ht
 simp only [List.nil_append, List.append_nil] at ht
 obtain ⟨i, hi⟩ := List.mem_iff_getElem?.1 ht
 rw [← rowsAt_mem hi]
 exact he i
theorem rowsAt_big {q : PartS} {i : Nat} (h : q.ts.length ≤ i) : q.rowsAt i = [] := by unfold PartS.rowsAt; rw [List.getElem?_eq_none h]
end
structure RelT (H0 A : Heap) (F E : Nat → Prop) (p dp : Nat) (s : Pl) (M : Files) (m : Nat) (R : RelS) (T : Tx) : Prop where
 pool : ∃ U, PoolM H0 A F p dp s M 60 U 8 m
 rel : RelB H0 A (fun b => F b ∨ E b) p M R
 dom : DomM M 100
 ext : ∀ b, E b → b < A.size ∧ ¬ F b ∧ H0.size ≤ b
 fit : R.Fit
 W : R.W = 2
 ords : R.ords = [[0, 1]]
 f : R.f.ts = []
 d : R.d.ts = [T]
 TL : T.L = [[2, 7], [2, 8]]
structure JCur (C : CurS) (R : RelS) (x : Int) (T : Tx) : Prop where
 order : C.order = 0
 lowL : C.lowL = [x]
 colsL : C.colsL = [0]
 wordsL : C.wordsL = [x]
 turns : C.turns = R.turns
 begun : C.begun = false
 hs : C.hs = []
 heads : C.heads = Sl.mk none 0 0
 tc : ∃ tc, C.tcs = [tc] ∧ tc.t = T ∧ tc.ll = [x] ∧ tc.strict = false
section
variable {H0 A B : Heap} {F F' E X : Nat → Prop} {p dp m : Nat} {s s' : Pl} {M M' : Files} {R : RelS} {C : CurS} {T : Tx} {x : Int}
theorem RelT.grow (h : RelT H0 A F E p dp s M m R T) (e : Ext A B) : RelT H0 B F E p dp s M m R T := by
 obtain ⟨U, hP⟩ := h.pool
 exact ⟨⟨U, hP.grow e⟩, h.rel.grow e, h.dom, fun b hb => ⟨by have := (h.ext b hb).1; have := e.size; omega, (h.ext b hb).2⟩, h.fit, h.W, h.ords, h.f, h.d, h.TL⟩
theorem RelT.more (h : RelT H0 A F E p dp s M m R T) (e : Ext A B) (hX : ∀ b, X b → A.size ≤ b ∧ b < B.size) : RelT H0 B F (fun b => E b ∨ X b) p dp s M m R T := by
 obtain ⟨U, hP⟩ := h.pool
 have hz := hP.ext.size
 refine ⟨⟨U, hP.grow e⟩, (h.rel.fresh e fun b u => (hX b u).1).congr fun b => ⟨fun u => ?_, fun u => ?_⟩, h.dom, fun b hb => ?_, h.fit, h.W, h.ords, h.f, h.d, h.TL⟩
 ·rcases u with (u | u) | u
  ·exact .inl u
  ·exact .inr (.inl u)
  ·exact .inr (.inr u)
 ·rcases u with u | u | u
  ·exact .inl (.inl u)
  ·exact .inl (.inr u)
  ·exact .inr u
 ·rcases hb with u | u
  ·exact ⟨by have := (h.ext b u).1; have := e.size; omega, (h.ext b u).2⟩
  ·exact ⟨(hX b u).2, fun v => by have := hP.pool.lt b v; have := (hX b u).1; omega, by have := (hX b u).1; omega⟩
theorem RelT.write (h : RelT H0 A F E p dp s M m R T) (mm : Mod E A B) : RelT H0 B F E p dp s M m R T := by
 obtain ⟨U, hP⟩ := h.pool
 refine ⟨⟨U, hP.aside ⟨Nat.le_trans hP.ext.size mm.size, fun b hb _ => (mm.same b (Nat.lt_of_lt_of_le hb hP.ext.size) fun u => by have := (h.ext b u).2.2; omega).trans (hP.ext.same b hb id)⟩ fun b hb => mm.same b (hP.pool.lt b hb) fun u => (h.ext b u).2.1 hb⟩, h.rel.pool ⟨mm.mono fun b _ u => .inr u, fun _ u => .inl u⟩, h.dom, fun b hb => ⟨Nat.lt_of_lt_of_le (h.ext b hb).1 mm.size, (h.ext b hb).2⟩, h.fit, h.W, h.ords, h.f, h.d, h.TL⟩
theorem RelT.relF (h : RelT H0 A F E p dp s M m R T) : RelB H0 A F p M R := h.rel.less fun _ u => .inl u
set_option maxHeartbeats 1000000 in
theorem jscan_ok {cols words : Sl} {K : Option Addr → Heap → Prop} (h : RelT H0 A F E p dp s M m R T) (hc : Ints .i64 A cols [0]) (hcc : cols.n ≤ cols.c) (hw : Ints .u64 A words [x])
  (hK : ∀ C B U, PoolM H0 B F p dp s M 60 U 8 m → CurM H0 B F p M R C → Ext A B → C.ext = E → JCur C R x T → (∀ b, C.Own b → A.size ≤ b ∨ E b) → K (at0 C.cb) B) : Zdi.sp (at0 R.rb) 1 cols words A K := by
 obtain ⟨U, hP⟩ := h.pool
 have ask1 : R.asked 1 = [R.f, R.d] := by unfold RelS.asked; rw [if_pos rfl]
 have hol : R.ords.length = 1 := by rw [h.ords]; rfl
 refine relScan_ok (n := 1) (cl := [0]) (wl := [x]) (V := E) ⟨hP, h.relF, h.dom⟩ h.ext h.rel (by rw [ask1]; simp) h.fit (by rw [hol]; decide) (by rw [hol]; decide) (fun o ho => ?_) hc hcc hw rfl (fun y hy => ?_) (by simp) (by rw [h.W]; decide) (fun q hq => ?_) fun C B cm eB oB ce c1 c2 c3 c4 c5 c6 c7 c8 c9 c10 => ?_
 ·rw [h.ords] at ho
  have : o = [0, 1] := by simpa using ho
  rw [h.W, this]; rfl
 ·have : y = 0 := by simpa using hy
  rw [h.W]; omega
 ·rw [ask1] at hq
  simp only [List.mem_cons, List.not_mem_nil, or_false] at hq
  rcases hq with rfl | rfl
  ·exact .inl h.f
  ·exact .inr (by rw [h.d, hol]; rfl)
 have hO : C.order = 0 := by omega
 have hlow : C.lowL = [x] := by
  rcases c8 with ⟨_, _, u3⟩ | ⟨u1, _, _⟩
  ·rw [u3, hO, h.ords]; rfl
  ·have := u1 [0, 1] (by rw [h.ords]; simp)
   exact absurd this (by decide)
 have hmap : C.tcs.map (·.t) = [T] := by
  rw [c9, ask1, hO]
  simp [h.f, h.d]
 obtain ⟨tc, htc⟩ : ∃ tc, C.tcs = [tc] := by
  have hl : C.tcs.length = 1 := by have := congrArg List.length hmap; simpa using this
  match hct : C.tcs, hl with
  | [tc], _ => exact ⟨tc, rfl⟩
 have htt : tc.t = T := by rw [htc] at hmap; simpa using hmap
 obtain ⟨tl1, tl2⟩ := c10 tc (by rw [htc]; simp)
 exact hK C B U (hP.grow eB) cm eB ce ⟨hO, hlow, c1, c2, c3, c4, c5, c6, tc, htc, htt, by rw [tl1, hlow], tl2⟩ oB
set_option maxHeartbeats 2000000 in
set_option maxRecDepth 10000 in
theorem jnext_ok {U : Nat} {K : (Sl × Bool × Int) → Heap → Prop} (hP : PoolM H0 A F p dp s M 60 U 8 m) (cm : CurM H0 A F p M R C) (hg : Gl H0) (jc : JCur C R x T) (fit : R.Fit) (hW : R.W = 2) (hords : R.ords = [[0, 1]]) (hf : R.f.ts = []) (hd : R.d.ts = [T]) (TL : T.L = [[2, 7], [2, 8]]) (dom : DomM M 100) (hm : m + 2000000 ≤ 30000000000)
  (hK2 : x = 2 → ∀ F' s' out B, RelT H0 B F' C.ext p dp s' M (m + 2000000) R T → Owns B 0 YaP 1 out ([2, 7].map (Value.int .u64)) → (∀ b, ownB out b → A.size ≤ b) → Mod (fun b => ¬ C.ext b) A B → Ext H0 B → K (out, true, 0) B)
  (hK3 : x = 3 → ∀ F' s' B, RelT H0 B F' C.ext p dp s' M (m + 2000000) R T → Mod (fun b => ¬ C.ext b) A B → Ext H0 B → K (Sl.mk none 0 0, false, 0) B) (hx : x = 2 ∨ x = 3) : ZbX.sp (at0 C.cb) A K := by
 obtain ⟨tc, htc, htt, htl, hts⟩ := jc.tc
 have hol : C.order < R.ords.length := by rw [jc.order, hords]; decide
 have eo : R.ords[C.order] = [0, 1] := by
  have h : R.ords[C.order]? = some [0, 1] := by rw [hords, jc.order]; rfl
  rw [List.getElem?_eq_getElem hol] at h
  exact Option.some.inj h
 have again : ∀ {C2 : CurS} {F' : Nat → Prop} {s' : Pl} {B : Heap}, C2.ext = C.ext → PoolM H0 B F' p dp s' M 60 U 8 (m + 2000000) → CurM H0 B F' p M R C2 → RelT H0 B F' C.ext p dp s' M (m + 2000000) R T := fun {C2 F' s' B} ee hP2 cm2 =>
  ⟨⟨U, hP2⟩, cm2.rel.less fun b u => u.elim .inl fun v => .inr (.inr (.inr (.inr (ee ▸ v)))), dom, fun b hb => ⟨cm2.ext b (ee ▸ hb), cm2.off b (.inr (.inr (.inr (ee ▸ hb))))⟩, fit, hW, hords, hf, hd, TL⟩
 have same : ∀ {Y : Nat → Prop} {B : Heap}, Step (R.X (C.Z0 F)) Y A B → Mod (fun b => ¬ C.ext b) A B := fun {Y B} S => ⟨S.mod.size, fun b hl hb => S.mod.same b hl fun u => by
  have hb := Classical.not_not.1 hb
  rcases u with (u | u) | u
  ·exact (cm.off b (.inr (.inr (.inr hb)))).1 u
  ·exact cm.sep b hb u
  ·exact (cm.rel.off b u).1 (.inr (.inr (.inr (.inr hb))))⟩
 have hm2 : m + 1000000 * (C.tcs.length + 1) = m + 2000000 := by rw [htc, show [tc].length = 1 from rfl]
 have first : ∀ C1, Begun C C1 → ∃ t1 h1, C1.tcs = [t1] ∧ C1.hs = [h1] ∧ (x = 2 → h1.2 = some [2, 7]) ∧ (x = 3 → h1.2 = none) := by
  intro C1 hbg
  obtain ⟨b1, b2⟩ := hbg.new jc.begun
  obtain ⟨t1, h1, x1, x2, y1, _, y3⟩ := b2 0 tc (by rw [htc]; rfl)
  have hl1 : C1.tcs.length = 1 := by rw [b1, htc]; rfl
  have hl2 : C1.hs.length = 1 := by rw [hbg.len, hl1]
  have e1 : C1.tcs = [t1] := by
   match hct : C1.tcs, hl1 with
   | [z], _ => rw [hct] at x1; simp at x1; rw [x1]
  have e2 : C1.hs = [h1] := by
   match hct : C1.hs, hl2 with
   | [z], _ => rw [hct] at x2; simp at x2; rw [x2]
  refine ⟨t1, h1, e1, e2, fun e => ?_, fun e => ?_⟩
  ·have hr : tc.rest = [[2, 7], [2, 8]] := by unfold TC.rest; rw [htt, TL, htl, hts, e]; decide
   rw [hr, jc.lowL, e] at y3
   rcases y3 with ⟨u, _⟩ | ⟨y, u1, _, _, u4⟩
   ·cases u
   ·have : y = [2, 7] := (Option.some.inj u1).symm
    subst this
    exact u4
  ·have hr : tc.rest = [] := by unfold TC.rest; rw [htt, TL, htl, hts, e]; decide
   rw [hr] at y3
   rcases y3 with ⟨_, _, _, u⟩ | ⟨y, u1, _⟩
   ·exact u
   ·cases u1
 refine relNext_ok (w := 1000000) hP cm hg fit (by decide) rfl (by rw [hm2]; exact hm) (by rw [htc, show [tc].length = 1 from rfl]; decide) jc.turns hol (by rw [eo, hW]; rfl) (fun y hy => ?_) (by rw [jc.colsL]; decide) (.inr ⟨jc.begun, jc.heads⟩) (fun y hy => ?_) (fun C1 hbg y hy z hz => ?_) (fun C1 F' s' B hbg hno P1 cm1 S1 => ?_) (fun C1 i y t r F' s' t2 h2 out B hbg hti hhi _ P1 cm1 _ oo fo S1 => ?_)
 ·rw [eo] at hy
  have : y = 0 ∨ y = 1 := by simpa using hy
  rw [hW]; omega
 ·rw [jc.hs] at hy; cases hy
 ·obtain ⟨t1, h1, x1, x2, x3, x4⟩ := first C1 hbg
  rw [x2] at hy
  have : y = h1 := by simpa using hy
  subst this
  rcases hx with e | e
  ·rw [x3 e] at hz
   have : z = [2, 7] := (Option.some.inj hz).symm
   subst this
   rw [eo, hW, jc.colsL, jc.wordsL, e]
   exact ⟨rfl, by decide⟩
  ·rw [x4 e] at hz; cases hz
 ·rcases hx with e | e
  ·exfalso
   obtain ⟨t1, h1, x1, x2, x3, x4⟩ := first C1 hbg
   have := hno h1 (by rw [x2]; simp)
   rw [x3 e] at this; cases this
  ·rw [hm2] at P1
   exact hK3 e F' s' B (again hbg.ext P1 cm1) (same S1) P1.ext
 ·obtain ⟨t1, h1, x1, x2, x3, x4⟩ := first C1 hbg
  have hh : h1.2 = some y := by
   rw [x2] at hhi
   have hi0 : i = 0 := by have := (List.getElem?_eq_some_iff.1 hhi).1; simpa using this
   subst hi0
   have : h1 = (r, some y) := by simpa using hhi
   rw [this]
  rcases hx with e | e
  ·rw [x3 e] at hh
   have : y = [2, 7] := (Option.some.inj hh).symm
   subst this
   rw [eo, hW] at oo
   have eb : backL 2 [0, 1] [2, 7] 2 = [2, 7] := by decide
   rw [eb] at oo
   rw [hm2] at P1
   exact hK2 e F' s' out B (again (C2 := C1.with (C1.tcs.set i t2) (C1.hs.set i h2)) hbg.ext P1 cm1) oo (fun b hb => (fo b hb).1) (same S1) P1.ext
  ·rw [x4 e] at hh; cases hh
theorem CurM.write (h : CurM H0 A F p M R C) (mm : Mod C.ext A B) : CurM H0 B F p M R C := by
 have SZ : Step (C.Z F) (C.Z F) A B := ⟨mm.mono fun b _ u => .inr (.inr (.inr (.inr u))), fun _ u => .inl u⟩
 have SY : Step (R.X (C.Z F)) (R.X (C.Z F)) A B := Step.rel SZ
 refine ⟨h.rel.pool SZ, h.row.mod mm fun u => h.sep _ u (.inl rfl), ⟨h.low.2.ints h.low.1 SY, h.low.2.step SY⟩, ⟨h.cols.2.ints h.cols.1 SY, h.cols.2.step SY⟩, ⟨h.words.2.ints h.words.1 SY, h.words.2.step SY⟩, h.fr.step SY, fun u hu => ?_, h.hd.mod mm fun b hb u => h.sep b u (.inr (.inr hb)), fun y hy => (h.hr y hy).step SY, h.cbs, h.off, fun b hb => Nat.lt_of_lt_of_le (h.ext b hb) mm.size, h.sep⟩
 obtain ⟨a1, a2, a3⟩ := h.tc u hu
 exact ⟨a1, ⟨a2.row.mod mm fun v => h.sep _ v (.inr (.inl ⟨u, hu, rfl⟩)), a3.ints a2.ints SY, fun ad ha => ⟨Nat.lt_of_lt_of_le (a2.off ad ha).1 mm.size, (a2.off ad ha).2⟩, a2.cb⟩, a3.step SY⟩
theorem PoolM.beside {Q U most : Nat} (hP : PoolM H0 A F p dp s M Q U most m) (h : CurM H0 A F p M R C) (mm : Mod C.ext A B) : PoolM H0 B F p dp s M Q U most m :=
 hP.aside ⟨Nat.le_trans hP.ext.size mm.size, fun b hb _ => (mm.same b (Nat.lt_of_lt_of_le hb hP.ext.size) fun u => by have := (h.off b (.inr (.inr (.inr u)))).2; omega).trans (hP.ext.same b hb id)⟩ fun b hb => mm.same b (hP.pool.lt b hb) fun u => (h.off b (.inr (.inr (.inr u)))).1 hb
end
theorem Owns.reb {H : Heap} {base base' : Nat} {e : TypeId} {size : Nat} {s : Sl} {xs : List Value} (h : Owns H base e size s xs) (hb : ∀ b, ownB s b → base' ≤ b) : Owns H base' e size s xs := by
 refine ⟨h.1, h.2.imp id ?_⟩
 rintro ⟨g, cap, cur, e1, _, h3⟩
 refine ⟨g, cap, cur, e1, hb g ?_, h3⟩
 cases s; simp only [Sl.v, Value.slice.injEq] at e1
 exact ⟨_, e1.1, rfl⟩
def srcV (w : Int) (f : Value) (wrong : Int) (feed : Value) (closed ended : Bool) : Array Value := #[.int .i64 w, f, .slice none 0 0, .int .i64 wrong, feed, .bool closed, .bool ended]
theorem made_ok {w e : Int} {fn : Fn} {fi ca : Array Value} {H : Heap} {K : Option Addr → Heap → Prop} (hK : ∀ A, RowT A H.size Yau (srcV w (.func fn fi ca) e .nilIface false false) → Ext H A → A.size = H.size + 1 → K (some ⟨H.size, 0, none⟩) A) : ZdP.sp w (Sl.mk none 0 0) e fn fi ca H K := by
 refine ZdP.of ?_
 unfold ZdP.vc
 refine loop_upto 0 (fun _ z A => z.1 = e ∧ z.2 = 0 ∧ H = A) ⟨rfl, rfl, rfl⟩ ?_
 rintro i ⟨_, _⟩ _ next hi ⟨rfl, rfl, rfl⟩ _
 refine br_f rfl ?_
 exact newC_rowT fun A z r m => hK A r m z
def srcW (w : Int) (f : Value) (un : Sl) (wrong : Int) (feed : Value) (closed ended : Bool) : Array Value := #[.int .i64 w, f, un.v, .int .i64 wrong, feed, .bool closed, .bool ended]
set_option maxHeartbeats 1000000 in
theorem next_srcW {sb : Nat} {w : Int} {f feed : Value} {un : Sl} {H : Heap} {K : (Sl × Bool × Int) → Heap → Prop} (r : RowT H sb Yau (srcW w f un 0 feed false false))
  (hc : CallV (cTup [cSl, cBool, (cInt .i64)]) Tryz.prog f [] H fun q A => RowT A sb Yau (srcW w f un 0 feed false false) ∧
   ((q.2.2 ≠ 0 ∨ q.2.1 = false) → ∀ B, RowT B sb Yau (srcW w f un q.2.2 feed false true) → Mod (fun b => b = sb) A B → B.size = A.size → K (Sl.mk none 0 0, false, q.2.2) B) ∧
   (q.2.2 = 0 → q.2.1 = true → K (q.1, true, 0) A)) : ZbT.sp (some ⟨sb, 0, none⟩) H K := by
 refine ZbT.of ?_
 unfold ZbT.vc
 refine ⟨fun _ A => H = A, ?_, ?_⟩
 ·refine br_f rfl ?_
  simp only [optK_eq]
  refine RowT.ld (c := cBool) (i := 5) (x := false) r rfl ?_
  refine br_f rfl ?_
  refine ⟨fun b A => b = false ∧ H = A, ?_, ?_⟩
  ·refine RowT.ld (c := cInt .i64) (i := 3) (x := 0) r rfl ?_
   refine br_f rfl ?_
   refine RowT.ld (c := cBool) (i := 6) (x := false) r rfl ?_
   exact ⟨rfl, rfl⟩
  ·rintro _ _ ⟨rfl, rfl⟩
   exact br_f rfl rfl
 ·rintro _ _ rfl
  simp only [optK_eq]
  refine RowT.ld (c := cRaw) (i := 1) (x := f) r rfl ?_
  have mono : ∀ {K1 K2 : (cTup [cSl, cBool, (cInt .i64)]).α → Heap → Prop}, (∀ q A, K1 q A → K2 q A) → CallV (cTup [cSl, cBool, (cInt .i64)]) Tryz.prog f [] H K1 → CallV (cTup [cSl, cBool, (cInt .i64)]) Tryz.prog f [] H K2 := by
   intro K1 K2 hk h
   unfold CallV at h ⊢
   split at h
   ·rename_i g first cap
    cases hcl : callable Tryz.prog g with
    | true =>
      rw [hcl] at h
      simp only [cond_true] at h ⊢
      exact fun w hw => (h w hw).mono fun e w' ⟨v, he, ⟨x, hx, hk1⟩, ha⟩ => ⟨v, he, ⟨x, hx, hk _ _ hk1⟩, ha⟩
    | false =>
      rw [hcl] at h
      simp only [cond_false] at h ⊢
      exact fun w hw => by obtain ⟨v, w', h1, ⟨x, hx, hk1⟩, ha⟩ := h w hw; exact ⟨v, w', h1, ⟨x, hx, hk _ _ hk1⟩, ha⟩
   ·exact h
   ·unfold MethV at h ⊢
    split at h
    ·split at h
     ·rename_i g hm
      cases hcl : callable Tryz.prog g with
      | true =>
        rw [hcl] at h
        simp only [cond_true] at h ⊢
        exact fun w hw => (h w hw).mono fun e w' ⟨v, he, ⟨x, hx, hk1⟩, ha⟩ => ⟨v, he, ⟨x, hx, hk _ _ hk1⟩, ha⟩
      | false => rw [hcl] at h; exact h.elim
     ·exact h
    ·exact h
   ·exact h
  refine mono ?_ hc
  rintro ⟨q1, q2, q3⟩ A ⟨rA, k1, k2⟩
  simp only at k1 k2 ⊢
  refine br_mk (fun hb => ?_) (fun hb => ?_)
  ·have hb : q3 ≠ 0 ∨ q2 = false := by simpa using hb
   refine RowT.st rA (i := 3) (by simp [srcW]) rfl fun B rB mB zB => ?_
   refine RowT.st rB (i := 6) (by simp [srcW]) rfl fun C rC mC zC => ?_
   exact k1 hb C rC (mB.trans mC) (by omega)
  ·have hb : q3 = 0 ∧ q2 = true := by
    have : ¬ (q3 ≠ 0 ∨ q2 = false) := by simpa using hb
    exact ⟨Decidable.of_not_not fun u => this (.inl u), by cases q2 with | true => rfl | false => exact absurd (.inr rfl) this⟩
   exact k2 hb.1 hb.2
theorem next_src {sb : Nat} {w : Int} {f feed : Value} {H : Heap} {K : (Sl × Bool × Int) → Heap → Prop} (r : RowT H sb Yau (srcV w f 0 feed false false))
  (hc : CallV (cTup [cSl, cBool, (cInt .i64)]) Tryz.prog f [] H fun q A => RowT A sb Yau (srcV w f 0 feed false false) ∧
   ((q.2.2 ≠ 0 ∨ q.2.1 = false) → ∀ B, RowT B sb Yau (srcV w f q.2.2 feed false true) → Mod (fun b => b = sb) A B → B.size = A.size → K (Sl.mk none 0 0, false, q.2.2) B) ∧
   (q.2.2 = 0 → q.2.1 = true → K (q.1, true, 0) A)) : ZbT.sp (some ⟨sb, 0, none⟩) H K := next_srcW (un := Sl.mk none 0 0) r hc
def fromF (lb wb : Nat) : Value := .func (.func Zdh.no) #[] #[.pointer (some ⟨lb, 0, none⟩), .pointer (some ⟨wb, 0, none⟩)]
theorem zc_slsl : zc Tryz.prog Yat = #[.slice none 0 0] := by kernel_rfl
set_option maxHeartbeats 1000000 in
theorem From_ok {rows : Sl} {ls : List (List Int)} {w : Int} {H : Heap} {K : Option Addr → Heap → Prop} (h : Rows H rows ls) (hn : ls.length ≤ 1000) (hl : ∀ l ∈ ls, l.length ≤ 1000)
  (hK : ∀ sb lb wb s rs A, RowT A sb Yau (srcV w (fromF lb wb) (if w < 0 then 2 else 0) .nilIface false false) → RowT A lb Yat #[s.v] → RowT A wb YaT #[.int .i64 w] → RowsOwn A (H.size + 2) s rs ls → (∀ b, (ownB s b ∨ ∃ r ∈ rs, ownB r b) → b < sb) → Ext H A →
   wb = H.size → lb = H.size + 1 → H.size + 2 ≤ sb → sb < A.size → K (some ⟨sb, 0, none⟩) A) : ZdK.sp rows w H K := by
 refine ZdK.of ?_
 unfold ZdK.vc
 refine newC_rowT fun H1 z1 r1 e1 => ?_
 refine newC_rowT fun H2 z2 r2 e2 => ?_
 rw [zc_slsl] at r2
 have hrn := h.len
 have e12 := e1.trans e2
 refine loop_upto ls.length (fun i z A => z = (i : Int) ∧ ∃ s rs, RowT A H1.size Yat #[s.v] ∧ RowsOwn A H2.size s rs (ls.take i) ∧ Mod (fun b => b = H1.size) H2 A) ⟨rfl, Sl.mk none 0 0, [], r2, RowsOwn.nil _ _, .refl _ _⟩ ?_
 rintro i _ A next hi ⟨rfl, s, rs, rA, oA, mA⟩ hnext
 have zA := mA.size
 have rw1 : RowT A H.size YaT #[.int .i64 w] := (r1.ext e2).mod mA fun u => by omega
 have eHA : Ext H A := ⟨by omega, fun b hb _ => by rw [mA.same b (by omega) fun u => by omega]; exact e12.same b hb id⟩
 refine br_mk (fun hc => ?_) (fun hc => ?_)
 ·have hlt : i < ls.length := by have : (i : Int) < (rows.n : Int) := by simpa using hc
                                 omega
  have hA : Rows A rows ls := ⟨h.len, fun j hj => by
   obtain ⟨ad, r, q1, q2, q3⟩ := h.at' j hj
   exact ⟨ad, r, q1, eHA.cell q2 id, q3.ext eHA⟩⟩
  refine hA.ld hlt fun ad x _ ix => ?_
  refine ⟨fun B => Ext A B, .refl _ _, ?_⟩
  refine ⟨s, fun B hB => by
   have := (rA.ext hB).cell (i := 0) (v := s.v) rfl
   exact this, ?_⟩
  refine hclone_ok ix (by have := hl _ (List.getElem_mem hlt); omega) fun r B oB eB fB => ?_
  refine ⟨eB, ?_⟩
  have zB := eB.size
  have oAB := oA.ext eB
  have bA := oA.block
  -- the cell, then the append
  refine ⟨(Mod.push (fun _ => False) B (.cells #[r.v] YaK)) |> fun e => eB.trans e, ?_⟩
  have key := oAB.push (ty := Yat) (r := r) (l := ls[i]) (oB.reb (base' := H2.size) fun b hb => by have := fB b hb; omega) (fun r' hr' b hb hb' => by have := fB b hb; have := (bA.2 r' hr' b hb').2; omega) (by rw [oA.n, List.length_take]; omega) (by omega)
   (K := fun s' C => Go.Proofs.YtlockeegebnofaaGreatDoor.st C ⟨H1.size, 0, none⟩ s'.v fun D => next (IntKind.i64.wrap ((i : Int) + (1 : Int))) D)
  refine key fun s' C n' oC mC => ?_
  have rC : RowT C H1.size Yat #[s.v] := (rA.ext eB).mod mC fun u => by have := (bA.1 _ u).1; omega
  refine RowT.st (i := 0) rC (by simp) rfl fun D rD mD zD => ?_
  refine hnext hlt _ _ ⟨succ64 i (by omega), s', rs ++ [r], rD, ?_, ?_⟩
  ·have htk : ls.take i ++ [ls[i]] = ls.take (i + 1) := by rw [List.take_add_one, List.getElem?_eq_getElem hlt]; rfl
   rw [htk] at oC
   have bC := oC.block
   exact oC.mod mD (fun b hb u => by have := (bC.1 b hb).1; omega) fun r' hr' b hb u => by have := (bC.2 r' hr' b hb).1; omega
  ·have zC := mC.size
   refine ⟨by omega, fun b hb _ => ?_⟩
   rename_i hne
   rw [mD.same b (by omega) hne, mC.same b (by omega) fun u => by have := (bA.1 b u).1; omega, eB.same b (by omega) id]
   exact mA.same b hb hne
 ·have hge : i = ls.length := by have : ¬ (i : Int) < (rows.n : Int) := by simpa using hc
                                 omega
  subst hge
  rw [List.take_length] at oA
  have bA := oA.block
  have fin : ∀ e : Int, (e = if w < 0 then 2 else 0) → ZdP.sp w (Sl.mk none 0 0) e (.func Zdh.no) #[] #[(.pointer (some ⟨H1.size, 0, none⟩)), (.pointer (some ⟨H.size, 0, none⟩))] A K := by
   intro e he
   subst he
   refine made_ok fun B rB eB zB => ?_
   have e2' : H2.size = H.size + 2 := by omega
   have e1' : H1.size = H.size + 1 := by omega
   have oB := oA.ext eB
   rw [e2'] at oB
   rw [e1'] at rA
   rw [e1'] at rB
   refine hK A.size (H.size + 1) H.size s rs B rB (rA.ext eB) (rw1.ext eB) oB (fun b hb => ?_) (eHA.trans eB) rfl rfl (by omega) (by omega)
   rcases hb with v | ⟨r, hr, v⟩
   ·exact (bA.1 b v).2
   ·exact (bA.2 r hr b v).2
  have ldw : ∀ {M : Int → Prop}, M w → Go.Proofs.YtlockeegebnofaaGreatDoor.ld (cInt .i64) A ⟨H.size, 0, none⟩ M := fun {M} hM => ⟨w, rw1.cell (i := 0) rfl, hM⟩
  refine ldw ?_
  refine br_mk (fun hc2 => ?_) (fun hc2 => ?_)
  ·have hw : w < 0 := by simpa using hc2
   exact ldw (fin 2 (by rw [if_pos hw]))
  ·have hw : ¬ w < 0 := by simpa using hc2
   exact ldw (fin 0 (by rw [if_neg hw]))
structure FromB (X : Nat → Prop) (H : Heap) (sb lb wb : Nat) (W : Nat) (ended : Bool) (s : Sl) (ls : List (List Int)) : Prop where
 row : RowT H sb Yau (srcV W (fromF lb wb) 0 .nilIface false ended)
 cell : RowT H lb Yat #[s.v]
 wid : RowT H wb YaT #[.int .i64 W]
 rows : RowsX X H s ls
 cap : s.n ≤ s.c
 cols : ∀ l ∈ ls, l.length = W
 xs : X sb ∧ X lb ∧ ¬ X wb
 ne : sb ≠ lb
section
variable {X Y : Nat → Prop} {H B : Heap} {sb lb wb W : Nat} {ended : Bool} {s : Sl} {ls : List (List Int)}
theorem FromB.keep (h : FromB X H sb lb wb W ended s ls) (m : Mod Y H B) (hy : ∀ b, Y b → X b) (h1 : ¬ Y sb) (h2 : ¬ Y lb) : FromB X B sb lb wb W ended s ls :=
 ⟨h.row.mod m h1, h.cell.mod m h2, h.wid.mod m fun u => h.xs.2.2 (hy _ u), h.rows.mod (m.mono fun _ _ u => hy _ u), h.cap, h.cols, h.xs, h.ne⟩
set_option maxRecDepth 100000 in
set_option maxHeartbeats 1000000 in
theorem from_next {K : (Sl × Bool × Int) → Heap → Prop} (h : FromB X H sb lb wb W false s ls)
  (hK1 : ∀ l r x A s', ls = l :: r → FromB X A sb lb wb W false s' r → Mod (fun b => b = lb) H A → Ints .u64 A x l → (∀ a, x.a = some a → a.block < A.size ∧ ¬ X a.block) → K (x, true, 0) A)
  (hK0 : ls = [] → ∀ A, FromB X A sb lb wb W true s [] → Mod (fun b => b = sb) H A → K (Sl.mk none 0 0, false, 0) A) : ZbT.sp (some ⟨sb, 0, none⟩) H K := by
 have hn := h.rows.len
 refine next_src h.row (callV_fn #[.pointer (some ⟨lb, 0, none⟩), .pointer (some ⟨wb, 0, none⟩)] rfl (by kernel_rfl) ?_)
 refine Zdh.of ?_
 unfold Zdh.vc
 have ldc : ∀ {A : Heap} {s : Sl} {M : Sl → Prop}, RowT A lb Yat #[s.v] → M s → Go.Proofs.YtlockeegebnofaaGreatDoor.ld cSl A ⟨lb, 0, none⟩ M := fun {A s M} r hM => ⟨s, r.cell (i := 0) rfl, hM⟩
 refine ldc h.cell ?_
 cases hls : ls with
 | nil =>
   subst hls
   have h0 : s.n = 0 := hn
   refine br_t (by rw [h0]; rfl) ⟨h.row, fun _ B rB mB zB => ?_, fun _ u => by cases u⟩
   exact hK0 rfl B ⟨rB, h.cell.mod mB (Ne.symm h.ne), h.wid.mod mB (fun u => h.xs.2.2 (u ▸ h.xs.1)), h.rows.mod (mB.mono fun b _ u => by subst u; exact h.xs.1), h.cap, h.cols, h.xs, h.ne⟩ mB
 | cons l r =>
   subst hls
   have h0 : s.n = r.length + 1 := hn
   refine br_f (by rw [h0]; simp; omega) ?_
   refine ldc h.cell ?_
   obtain ⟨ad, x, q1, q2, q3, q4⟩ := h.rows.at' 0 (by simp)
   refine optK_mk ad q1 ⟨⟨Int.le_refl _, by omega⟩, x, by simpa using q2, ?_⟩
   refine ldc h.cell ?_
   refine ⟨⟨by decide, by omega⟩, ?_⟩
   have e1 : ((1 : Int).toNat) = 1 := rfl
   rw [e1]
   have hst := RowT.st (i := 0) (v := Sl.v ⟨slA s.a s.c 1 1, s.n - 1, s.c - 1⟩) h.cell (by simp) rfl
    (K := fun H1 => Go.Proofs.YtlockeegebnofaaGreatDoor.ld (cInt .i64) H1 ⟨wb, 0, none⟩ fun (x_4 : Int) => br ((x.n : Int) != x_4)
     (RowT H1 sb Yau (srcV W (fromF lb wb) 0 .nilIface false false) ∧ ((60 : Int) ≠ 0 ∨ false = false → ∀ B, RowT B sb Yau (srcV W (fromF lb wb) 60 .nilIface false true) → Mod (fun b => b = sb) H1 B → B.size = H1.size → K (Sl.mk none 0 0, false, 60) B) ∧ ((60 : Int) = 0 → false = true → K (Sl.mk none 0 0, true, 0) H1))
     (RowT H1 sb Yau (srcV W (fromF lb wb) 0 .nilIface false false) ∧ ((0 : Int) ≠ 0 ∨ true = false → ∀ B, RowT B sb Yau (srcV W (fromF lb wb) 0 .nilIface false true) → Mod (fun b => b = sb) H1 B → B.size = H1.size → K (Sl.mk none 0 0, false, 0) B) ∧ ((0 : Int) = 0 → true = true → K (x, true, 0) H1)))
   refine hst fun A rA mA zA => ?_
   have mX : Mod X H A := mA.mono fun b _ u => by subst u; exact h.xs.2.1
   have wA : RowT A wb YaT #[.int .i64 W] := h.wid.mod mA fun u => h.xs.2.2 (u ▸ h.xs.2.1)
   refine ⟨(W : Int), wA.cell (i := 0) rfl, ?_⟩
   have hxl := q4.len
   have hlW := h.cols l List.mem_cons_self
   refine br_f (by
    have : x.n = W := by rw [hxl]; exact hlW
    rw [this]; simp) ⟨h.row.mod mA h.ne, fun u => by rcases u with u | u <;> exact absurd u (by simp), fun _ _ => ?_⟩
   refine hK1 l r x A ⟨slA s.a s.c 1 1, s.n - 1, s.c - 1⟩ rfl ⟨h.row.mod mA h.ne, by simpa using rA, wA, ?_, by have := h.cap; show s.n - 1 ≤ s.c - 1; omega, fun y hy => h.cols y (List.mem_cons_of_mem _ hy), h.xs, h.ne⟩ mA (q4.mod mX fun a ha => (q3 a ha).2) fun a ha => ⟨by have := (q3 a ha).1; omega, (q3 a ha).2⟩
   have := (h.rows.drop h.cap (i := 1) (by simp)).mod mX
   simpa using this
end
section
variable {H : Heap} {j : Nat} {cs : Array Value} {l cols : Sl} {ll : List Int}
end
section
variable {X : Nat → Prop} {H B : Heap} {mb : Nat} {ls : List (List Int)}
end
theorem ld0 {c : Cod} {x : c.α} {A : Heap} {b : Nat} {t : TypeId} {K : c.α → Prop} (r : RowT A b t #[c.enc x]) (hK : K x) : ld c A ⟨b, 0, none⟩ K := ⟨x, r.cell (i := 0) rfl, hK⟩
section
variable {H A B : Heap} {sb w : Nat} {f feed : Value} {un : Sl} {wr : Int} {cl en : Bool}
theorem widthW_ok {w : Int} {K : Int → Heap → Prop} (r : RowT H sb Yau (srcW w f un wr feed cl en)) (hK : K w H) : ZbG.sp (at0 sb) H K := by
 refine ZbG.of ?_
 unfold ZbG.vc
 refine br_f rfl ?_
 simp only [optK_eq, at0]
 exact RowT.ld (c := cInt .i64) (i := 0) (x := w) r rfl hK
theorem madeU_ok {w e : Int} {us : List Nat} {fn : Fn} {fi ca : Array Value} {K : Option Addr → Heap → Prop} (hs : SlX (fun _ => False) H un (us.map ptrV)) (hl : us.length ≤ 100)
  (hK : ∀ A, RowT A H.size Yau (srcW w (.func fn fi ca) un e .nilIface false false) → Ext H A → A.size = H.size + 1 → K (at0 H.size) A) : ZdP.sp w un e fn fi ca H K := by
 refine ZdP.of ?_
 unfold ZdP.vc
 have hn := hs.len
 rw [List.length_map] at hn
 refine loop_upto us.length (fun i z A => z = (e, (i : Int)) ∧ H = A) ⟨rfl, rfl⟩ ?_
 rintro i _ _ next hi ⟨rfl, rfl⟩ hnext
 refine br_mk (fun hc => ?_) (fun _ => ?_)
 ·have hlt : i < us.length := by have : (i : Int) < (un.n : Int) := by simpa using hc
                                 omega
  refine SlX.ld (c := cPtr) (x := at0 us[i]) (i := i) hs (by rw [List.getElem?_map, List.getElem?_eq_getElem hlt]; rfl) rfl fun ad _ => ?_
  refine br_f rfl ?_
  exact hnext hlt _ _ ⟨by rw [succ64 i (by omega)], rfl⟩
 ·exact newC_rowT fun A z r m => hK A r m z
theorem one_src {k a : Nat} (r : RowT A k Yak #[.pointer (at0 a)]) : SlX (fun _ => False) A ⟨some ⟨k, 0, none⟩, 1, 1⟩ ([a].map ptrV) :=
 ⟨rfl, fun ad ha => by have := (Option.some.inj ha).symm; subst this; exact ⟨obj_lt r, id⟩, fun i u hu => ⟨_, rfl, by
  have hi : i = 0 := by have := (List.getElem?_eq_some_iff.1 hu).1; simp at this; omega
  subst hi
  simp at hu; subst hu
  rw [add_lit0]; exact r.cell rfl⟩⟩
set_option maxRecDepth 100000 in
theorem columns_ok {w : Int} {l : Sl} {x : List Int} {K : Int → Heap → Prop} (r : RowT H sb Yau (srcW w f un wr feed cl en)) (hx : Ints .i64 H l x) (hl : x.length ≤ 1000) (hall : ∀ c ∈ x, 0 ≤ c ∧ c < w) (hK : ∀ A, Ext H A → K 0 A) : Zdl.sp (at0 sb) l H K := by
 refine Zdl.of ?_
 unfold Zdl.vc
 refine newC_rowT fun H1 z1 r1 e1 => ?_
 refine ZaF.of ?_
 unfold ZaF.vc
 refine ZaS.of ?_
 unfold ZaS.vc
 have h1 := hx.ext e1
 have hn := hx.len
 have rw1 := r.ext e1
 refine loop_upto x.length (fun i z A => z = (i : Int) ∧ H1 = A) ⟨rfl, rfl⟩ ?_
 rintro i _ _ next hi ⟨rfl, rfl⟩ hnext
 refine br_mk (fun hc => ?_) (fun _ => ?_)
 ·have hlt : i < x.length := by have : (i : Int) < (l.n : Int) := by simpa using hc
                                omega
  have hm : x.getD i 0 ∈ x := by rw [List.getD, List.getElem?_eq_getElem hlt]; exact List.getElem_mem _
  obtain ⟨c0, c1⟩ := hall _ hm
  refine ints_get h1 (i := (i : Int)) (j := i) rfl hlt fun ad _ => ?_
  generalize x.getD i 0 = c at *
  refine callB_fn #[.int .i64 c, .pointer (some ⟨H.size, 0, none⟩)] rfl (by kernel_rfl) ?_
  refine Zcd.of (c := c) ?_
  unfold Zcd.vc
  refine br_f (by simp; omega) ?_
  refine ld0 (c := cPtr) (x := at0 sb) r1 ?_
  refine widthW_ok rw1 ?_
  rw [decide_eq_false (show ¬ c ≥ w by omega)]
  exact br_f rfl (hnext hlt _ _ ⟨succ64 i (by omega), rfl⟩)
 ·exact br_f rfl (hK _ e1)
theorem rowsX_own {X : Nat → Prop} {base : Nat} {s : Sl} {rs : List Sl} {ls : List (List Int)} (h : RowsOwn H base s rs ls) (hX : ∀ b, (ownB s b ∨ ∃ r ∈ rs, ownB r b) → ¬ X b) : RowsX X H s ls := by
 obtain ⟨b1, b2⟩ := h.block
 refine ⟨h.n, fun ad ha => ⟨(b1 _ ⟨ad, ha, rfl⟩).2, hX _ (.inl ⟨ad, ha, rfl⟩)⟩, fun i hi => ?_⟩
 have hir : i < rs.length := by rw [h.len]; exact hi
 obtain ⟨ad, ha, hc⟩ := h.out.reads.at (i := i) (by simpa using hir)
 refine ⟨ad, rs[i], ha, by simpa using hc, fun a q => ⟨(b2 _ (List.getElem_mem hir) _ ⟨a, q, rfl⟩).2, hX _ (.inr ⟨_, List.getElem_mem hir, a, q, rfl⟩)⟩, (h.row i _ _ (List.getElem?_eq_getElem hir) (List.getElem?_eq_getElem hi)).ints⟩
def Xof (E : Nat → Prop) (sb lb : Nat) (b : Nat) : Prop := ¬ E b ∨ b = sb ∨ b = lb
structure FromN (H A : Heap) (sb lb wb : Nat) (ls : List (List Int)) : Prop where
 src : ∀ E : Nat → Prop, (∀ b, H.size ≤ b → b < A.size → E b) → ∃ s, FromB (Xof E sb lb) A sb lb wb 2 false s ls
 lo : H.size ≤ sb ∧ H.size ≤ lb ∧ H.size ≤ wb
 hi : sb < A.size ∧ lb < A.size ∧ wb < A.size
theorem from2_ok {x y z w : Int} {K : Option Addr → Heap → Prop} (hK : ∀ sb lb wb A, Ext H A → FromN H A sb lb wb [[x, y], [z, w]] → K (at0 sb) A) :
  newC H #[(.int .u64 x), (.int .u64 y)] YaP fun p H3 => newC H3 #[(.int .u64 z), (.int .u64 w)] YaP fun p_1 H4 => newC H4 #[(.slice (some p) 2 2), (.slice (some p_1) 2 2)] YaK fun p_2 H5 => ZdK.sp (Sl.mk (some p_2) 2 2) (2 : Int) H5 K := by
 refine newC_rowT fun H1 z1 r1 e1 => ?_
 refine newC_rowT fun H2 z2 r2 e2 => ?_
 refine newC_rowT fun H3 z3 r3 e3 => ?_
 have e13 := (e1.trans e2).trans e3
 have rows : Rows H3 ⟨some ⟨H2.size, 0, none⟩, 2, 2⟩ [[x, y], [z, w]] := by
  refine ⟨rfl, fun i hi => ?_⟩
  have hi : i = 0 ∨ i = 1 := by simp at hi; omega
  rcases hi with rfl | rfl
  ·exact ⟨_, ⟨some ⟨H.size, 0, none⟩, 2, 2⟩, rfl, by rw [add_lit0]; exact r3.cell rfl, two_cells ((r1.ext e2).ext e3)⟩
  ·exact ⟨_, ⟨some ⟨H1.size, 0, none⟩, 2, 2⟩, rfl, by rw [add_lit0]; exact r3.cell rfl, two_cells (r2.ext e3)⟩
 refine From_ok rows (by simp) (fun l hl => by simp at hl; rcases hl with rfl | rfl <;> simp) fun sb lb wb s rs A row cell wid own low eA hw hl lo hi => ?_
 subst hw; subst hl
 rw [if_neg (by decide)] at row
 have hz := e13.size
 obtain ⟨b1, b2⟩ := own.block
 have hlen : ∀ l ∈ [[x, y], [z, w]], l.length = 2 := fun l hl => by simp at hl; rcases hl with rfl | rfl <;> rfl
 refine hK sb (H3.size + 1) H3.size A (e13.trans eA) ⟨fun E hE => ⟨s, row, cell, wid, rowsX_own own fun b hb u => ?_, own.out.cap, hlen, ⟨.inr (.inl rfl), .inr (.inr rfl), fun u => ?_⟩, by omega⟩, by omega, by omega⟩
 ·have hbA : H3.size + 2 ≤ b ∧ b < A.size := by
   rcases hb with v | ⟨r, hr, v⟩
   ·exact b1 b v
   ·exact b2 r hr b v
  have := low b hb
  rcases u with u | u | u
  ·exact u (hE b (by omega) hbA.2)
  ·omega
  ·omega
 ·rcases u with u | u | u
  ·exact u (hE _ (by omega) (by omega))
  ·omega
  ·omega
end
theorem zc_sli : zc Tryz.prog YaQ = #[.slice none 0 0] := by kernel_rfl
theorem zc_slu : zc Tryz.prog YaK = #[.slice none 0 0] := by kernel_rfl
theorem zc_cur : zc Tryz.prog Yam = #[.pointer none] := by kernel_rfl
theorem relWidth_ok {A : Heap} {p : Nat} {R : RelS} {K : Int → Heap → Prop} (r : RowT A R.rb YaO (relV p R)) (hK : K (R.W : Int) A) : Zdb.sp (at0 R.rb) A K := by
 refine Zdb.of ?_
 unfold Zdb.vc
 refine br_f rfl ?_
 simp only [optK_eq, at0, add_add, Nat.reduceAdd]
 exact RowT.ld (c := cInt .i64) (i := 2) (x := (R.W : Int)) r rfl hK
section
variable {H H0 A B : Heap} {F F' E X : Nat → Prop} {p dp m sb a b lb wb : Nat} {s s' : Pl} {M M' : Files} {R : RelS} {T : Tx} {f feed : Value} {un : Sl} {wr : Int} {cl en : Bool} {lcols rcols lc rc : Sl}
theorem over_ok {w wd : Int} {x : List Int} {fn : Fn} {fi ca : Array Value} {K : Option Addr → Heap → Prop} (r : RowT H a Yau (srcW w f un wr feed cl en)) (hx : Ints .i64 H lc x) (hl : x.length ≤ 1000) (hall : ∀ c ∈ x, 0 ≤ c ∧ c < w)
  (hK : ∀ sb un A, RowT A sb Yau (srcW wd (.func fn fi ca) un 0 .nilIface false false) → Ext H A → H.size ≤ sb ∧ sb < A.size → K (at0 sb) A) : ZdH.sp (at0 a) (at0 R.rb) lc wd fn fi ca H K := by
 refine ZdH.of ?_
 unfold ZdH.vc
 refine columns_ok r hx hl hall fun A eA => ?_
 refine br_f rfl ?_
 refine newC_rowT fun B zB rB eB => ?_
 refine madeU_ok (us := [a]) (one_src rB) (by simp) fun C rC eC zC => ?_
 have := eA.size
 exact hK B.size _ C rC ((eA.trans eB).trans eC) ⟨by omega, by omega⟩
structure LoopM (A : Heap) (sb a rb pL pR pP pX pY pl pc : Nat) (lc rc : Sl) : Prop where
 row : ∃ un, RowT A sb Yau (srcW 4 (.func (.func Zdp.no) #[] #[.pointer (at0 pc), .pointer (at0 pL), .pointer (at0 pl), .pointer (at0 pX), .pointer (at0 pR), .pointer (at0 pP), .pointer (at0 pY)]) un 0 .nilIface false false)
 cL : RowT A pL Yak #[.pointer (at0 a)]
 cR : RowT A pR Yaw #[.pointer (at0 rb)]
 cP : RowT A pP YaS #[.int .u8 1]
 cX : RowT A pX YaQ #[lc.v]
 cY : RowT A pY YaQ #[rc.v]
 cl : RowT A pl YaK #[.slice none 0 0]
 cc : RowT A pc Yam #[.pointer none]
 ol : Owns A 0 YaT 1 lc ([1].map (Value.int .i64))
 or : Owns A 0 YaT 1 rc ([0].map (Value.int .i64))
def LoopM.In (E : Nat → Prop) (sb pL pR pP pX pY pl pc : Nat) (lc rc : Sl) : Prop := (E sb ∧ E pL ∧ E pR ∧ E pP) ∧ (E pX ∧ E pY ∧ E pl ∧ E pc) ∧ (∀ b, ownB lc b → E b) ∧ ∀ b, ownB rc b → E b
theorem Loop_ok {K : Option Addr → Heap → Prop} (ra : RowT H a Yau (srcW 2 f un wr feed cl en)) (rr : RowT H R.rb YaO (relV p R)) (hW : R.W = 2) (hl : Ints .i64 H lcols [1]) (hr : Ints .i64 H rcols [0])
  (hK : ∀ sb pL pR pP pX pY pl pc lc rc A, LoopM A sb a R.rb pL pR pP pX pY pl pc lc rc → Ext H A → LoopM.In (fun b => H.size ≤ b ∧ b < A.size) sb pL pR pP pX pY pl pc lc rc → K (at0 sb) A) : ZdL.sp (at0 a) (at0 R.rb) 1 lcols rcols H K := by
 refine ZdL.of ?_
 unfold ZdL.vc
 refine newC_rowT fun H1 z1 r1 e1 => ?_
 refine newC_rowT fun H2 z2 r2 e2 => ?_
 refine newC_rowT fun H3 z3 r3 e3 => ?_
 have e13 := (e1.trans e2).trans e3
 refine hcloneI_ok (hl.ext e13) (by decide) fun c1 H4 o4 e4 f4 => ?_
 refine hcloneI_ok ((hr.ext e13).ext e4) (by decide) fun c2 H5 o5 e5 f5 => ?_
 refine newC_rowT fun H6 z6 r6 e6 => ?_
 refine newC_rowT fun H7 z7 r7 e7 => ?_
 rw [zc_sli] at r6 r7
 have s4 := e4.size
 have s5 := e5.size
 refine RowT.st (i := 0) (r6.ext e7) (by simp) (by cases c1; rfl) fun H8 r8 m8 z8 => ?_
 refine RowT.st (i := 0) (r7.mod m8 (by omega)) (by simp) (by cases c2; rfl) fun H9 r9 m9 z9 => ?_
 refine newC_rowT fun H10 z10 r10 e10 => ?_
 refine newC_rowT fun H11 z11 r11 e11 => ?_
 rw [zc_slu] at r10
 rw [zc_cur] at r11
 have e911 := e10.trans e11
 have m7 : Mod (fun b => b = H5.size ∨ b = H6.size) H7 H11 := ((m8.mono fun b _ u => .inl u).trans (m9.mono fun b _ u => .inr u)).trans (Ext.mod e911)
 have e37 := ((e4.trans e5).trans e6).trans e7
 have eH7 : Ext H H7 := e13.trans e37
 have eH : Ext H H11 := ⟨by have := eH7.size; have := m7.size; omega, fun b hb _ => by rw [m7.same b (by have := eH7.size; omega) (by omega)]; exact eH7.same b hb id⟩
 have q1 : RowT H11 H.size Yak #[.pointer (at0 a)] := ((r1.ext (e2.trans e3)).ext e37).mod m7 (by omega)
 have q2 : RowT H11 H1.size Yaw #[.pointer (at0 R.rb)] := ((r2.ext e3).ext e37).mod m7 (by omega)
 have q3 : RowT H11 H2.size YaS #[.int .u8 1] := (r3.ext e37).mod m7 (by omega)
 have q6 : RowT H11 H5.size YaQ #[c1.v] := (RowT.mod (show RowT H8 H5.size YaQ #[c1.v] from r8) m9 (by omega)).ext e911
 have q7 : RowT H11 H6.size YaQ #[c2.v] := (show RowT H9 H6.size YaQ #[c2.v] from r9).ext e911
 have b4 := o4.block
 have b5 := o5.block
 have p4 : Owns H11 0 YaT 1 c1 ([1].map (Value.int .i64)) := (((o4.ext e5).ext e6).ext e7).mod m7 fun b hb u => by have := b4 b hb; omega
 have p5 : Owns H11 0 YaT 1 c2 ([0].map (Value.int .i64)) := ((o5.ext e6).ext e7).mod m7 fun b hb u => by have := b5 b hb; omega
 refine ⟨Ext H11, .refl _ _, ?_⟩
 refine RowT.ldC (c := cPtr) (i := 0) (x := at0 a) (cs := fun _ => #[.pointer (at0 a)]) (fun D hD => q1.ext hD) (fun _ _ => rfl) ?_
 refine RowT.ldC (c := cPtr) (i := 0) (x := at0 R.rb) (cs := fun _ => #[.pointer (at0 R.rb)]) (fun D hD => q2.ext hD) (fun _ _ => rfl) ?_
 refine RowT.ldC (c := cSl) (i := 0) (x := c1) (cs := fun _ => #[c1.v]) (fun D hD => q6.ext hD) (fun _ _ => rfl) ?_
 refine ld0 (c := cPtr) (x := at0 a) q1 ?_
 refine widthW_ok (ra.ext eH) ⟨.refl _ _, ?_⟩
 refine RowT.ldC (c := cPtr) (i := 0) (x := at0 R.rb) (cs := fun _ => #[.pointer (at0 R.rb)]) (fun D hD => q2.ext hD) (fun _ _ => rfl) ?_
 refine relWidth_ok (rr.ext eH) ⟨.refl _ _, ?_⟩
 rw [hW]
 refine over_ok (ra.ext eH) p4.ints (by decide) (fun c hc => by simp at hc; subst hc; decide) fun sb un A rA eA hsb => ?_
 have sA := eA.size
 have sH := eH.size
 refine hK sb H.size H1.size H2.size H5.size H6.size H9.size H10.size c1 c2 A ⟨⟨un, rA⟩, q1.ext eA, q2.ext eA, q3.ext eA, q6.ext eA, q7.ext eA, (r10.ext e11).ext eA, r11.ext eA, p4.ext eA, p5.ext eA⟩ (eH.trans eA) ⟨⟨⟨by omega, hsb.2⟩, by omega, by omega, by omega⟩, ⟨by omega, by omega, by omega, by omega⟩, fun b hb => ?_, fun b hb => ?_⟩
 ·have h1 := f4 b hb
  have h2 := (b4 b hb).2
  exact ⟨by omega, by omega⟩
 ·have h1 := f5 b hb
  have h2 := (b5 b hb).2
  exact ⟨by omega, by omega⟩
structure AntiM (A : Heap) (sb a rb pL pR pX pY : Nat) (lc rc : Sl) : Prop where
 row : ∃ un, RowT A sb Yau (srcW 2 (.func (.func Zdq.no) #[] #[.pointer (at0 pL), .pointer (at0 pX), .pointer (at0 pR), .pointer (at0 pY)]) un 0 .nilIface false false)
 cL : RowT A pL Yak #[.pointer (at0 a)]
 cR : RowT A pR Yaw #[.pointer (at0 rb)]
 cX : RowT A pX YaQ #[lc.v]
 cY : RowT A pY YaQ #[rc.v]
 ol : Owns A 0 YaT 1 lc ([1].map (Value.int .i64))
 or : Owns A 0 YaT 1 rc ([0].map (Value.int .i64))
def AntiM.In (E : Nat → Prop) (sb pL pR pX pY : Nat) (lc rc : Sl) : Prop := (E sb ∧ E pL ∧ E pR) ∧ (E pX ∧ E pY) ∧ (∀ b, ownB lc b → E b) ∧ ∀ b, ownB rc b → E b
theorem Anti_ok {K : Option Addr → Heap → Prop} (ra : RowT H a Yau (srcW 2 f un wr feed cl en)) (hl : Ints .i64 H lcols [1]) (hr : Ints .i64 H rcols [0])
  (hK : ∀ sb pL pR pX pY lc rc A, AntiM A sb a R.rb pL pR pX pY lc rc → Ext H A → AntiM.In (fun b => H.size ≤ b ∧ b < A.size) sb pL pR pX pY lc rc → K (at0 sb) A) : ZdQ.sp (at0 a) (at0 R.rb) lcols rcols H K := by
 refine ZdQ.of ?_
 unfold ZdQ.vc
 refine newC_rowT fun H1 z1 r1 e1 => ?_
 refine newC_rowT fun H3 z3 r3 e3 => ?_
 have e13 := e1.trans e3
 refine hcloneI_ok (hl.ext e13) (by decide) fun c1 H4 o4 e4 f4 => ?_
 refine hcloneI_ok ((hr.ext e13).ext e4) (by decide) fun c2 H5 o5 e5 f5 => ?_
 refine newC_rowT fun H6 z6 r6 e6 => ?_
 refine newC_rowT fun H7 z7 r7 e7 => ?_
 rw [zc_sli] at r6 r7
 have s4 := e4.size
 have s5 := e5.size
 refine RowT.st (i := 0) (r6.ext e7) (by simp) (by cases c1; rfl) fun H8 r8 m8 z8 => ?_
 refine RowT.st (i := 0) (r7.mod m8 (by omega)) (by simp) (by cases c2; rfl) fun H9 r9 m9 z9 => ?_
 have m7 : Mod (fun b => b = H5.size ∨ b = H6.size) H7 H9 := (m8.mono fun b _ u => .inl u).trans (m9.mono fun b _ u => .inr u)
 have e37 := ((e4.trans e5).trans e6).trans e7
 have eH7 : Ext H H7 := e13.trans e37
 have eH : Ext H H9 := ⟨by have := eH7.size; have := m7.size; omega, fun b hb _ => by rw [m7.same b (by have := eH7.size; omega) (by omega)]; exact eH7.same b hb id⟩
 have q1 : RowT H9 H.size Yak #[.pointer (at0 a)] := ((r1.ext e3).ext e37).mod m7 (by omega)
 have q2 : RowT H9 H1.size Yaw #[.pointer (at0 R.rb)] := (r3.ext e37).mod m7 (by omega)
 have q6 : RowT H9 H5.size YaQ #[c1.v] := RowT.mod (show RowT H8 H5.size YaQ #[c1.v] from r8) m9 (by omega)
 have q7 : RowT H9 H6.size YaQ #[c2.v] := r9
 have b4 := o4.block
 have b5 := o5.block
 have p4 : Owns H9 0 YaT 1 c1 ([1].map (Value.int .i64)) := (((o4.ext e5).ext e6).ext e7).mod m7 fun b hb u => by have := b4 b hb; omega
 have p5 : Owns H9 0 YaT 1 c2 ([0].map (Value.int .i64)) := ((o5.ext e6).ext e7).mod m7 fun b hb u => by have := b5 b hb; omega
 refine ⟨Ext H9, .refl _ _, ?_⟩
 refine RowT.ldC (c := cPtr) (i := 0) (x := at0 a) (cs := fun _ => #[.pointer (at0 a)]) (fun D hD => q1.ext hD) (fun _ _ => rfl) ?_
 refine RowT.ldC (c := cPtr) (i := 0) (x := at0 R.rb) (cs := fun _ => #[.pointer (at0 R.rb)]) (fun D hD => q2.ext hD) (fun _ _ => rfl) ?_
 refine RowT.ldC (c := cSl) (i := 0) (x := c1) (cs := fun _ => #[c1.v]) (fun D hD => q6.ext hD) (fun _ _ => rfl) ?_
 refine ld0 (c := cPtr) (x := at0 a) q1 ?_
 refine widthW_ok (ra.ext eH) ⟨.refl _ _, ?_⟩
 refine over_ok (ra.ext eH) p4.ints (by decide) (fun c hc => by simp at hc; subst hc; decide) fun sb un A rA eA hsb => ?_
 have sA := eA.size
 have sH := eH.size
 refine hK sb H.size H1.size H5.size H6.size c1 c2 A ⟨⟨un, rA⟩, q1.ext eA, q2.ext eA, q6.ext eA, q7.ext eA, p4.ext eA, p5.ext eA⟩ (eH.trans eA) ⟨⟨⟨by omega, hsb.2⟩, by omega, by omega⟩, ⟨by omega, by omega⟩, fun b hb => ?_, fun b hb => ?_⟩
 ·have h1 := f4 b hb
  have h2 := (b4 b hb).2
  exact ⟨by omega, by omega⟩
 ·have h1 := f5 b hb
  have h2 := (b5 b hb).2
  exact ⟨by omega, by omega⟩
theorem LoopM.grow {pL pR pP pX pY pl pc rb : Nat} (h : LoopM A sb a rb pL pR pP pX pY pl pc lc rc) (e : Ext A B) : LoopM B sb a rb pL pR pP pX pY pl pc lc rc := by
 obtain ⟨un, hr⟩ := h.row
 exact ⟨⟨un, hr.ext e⟩, h.cL.ext e, h.cR.ext e, h.cP.ext e, h.cX.ext e, h.cY.ext e, h.cl.ext e, h.cc.ext e, h.ol.ext e, h.or.ext e⟩
theorem LoopM.In.mono {Y : Nat → Prop} {pL pR pP pX pY pl pc : Nat} (h : LoopM.In E sb pL pR pP pX pY pl pc lc rc) (e : ∀ b, E b → Y b) : LoopM.In Y sb pL pR pP pX pY pl pc lc rc := by
 obtain ⟨⟨i1, i2, i3, i4⟩, ⟨i5, i6, i7, i8⟩, i9, i10⟩ := h
 exact ⟨⟨e _ i1, e _ i2, e _ i3, e _ i4⟩, ⟨e _ i5, e _ i6, e _ i7, e _ i8⟩, fun b hb => e _ (i9 b hb), fun b hb => e _ (i10 b hb)⟩
theorem AntiM.In.mono {Y : Nat → Prop} {pL pR pX pY : Nat} (h : AntiM.In E sb pL pR pX pY lc rc) (e : ∀ b, E b → Y b) : AntiM.In Y sb pL pR pX pY lc rc := by
 obtain ⟨⟨i1, i2, i3⟩, ⟨i5, i6⟩, i9, i10⟩ := h
 exact ⟨⟨e _ i1, e _ i2, e _ i3⟩, ⟨e _ i5, e _ i6⟩, fun b hb => e _ (i9 b hb), fun b hb => e _ (i10 b hb)⟩
theorem AntiM.mod {Y : Nat → Prop} {pL pR pX pY rb : Nat} (h : AntiM A sb a rb pL pR pX pY lc rc) (mm : Mod Y A B) (hI : AntiM.In (fun b => ¬ Y b) sb pL pR pX pY lc rc) : AntiM B sb a rb pL pR pX pY lc rc := by
 obtain ⟨⟨i1, i2, i3⟩, ⟨i5, i6⟩, i9, i10⟩ := hI
 obtain ⟨un, hr⟩ := h.row
 exact ⟨⟨un, hr.mod mm i1⟩, h.cL.mod mm i2, h.cR.mod mm i3, h.cX.mod mm i5, h.cY.mod mm i6, h.ol.mod mm i9, h.or.mod mm i10⟩
end
theorem Ext.more {H A B : Heap} {F : Nat → Prop} (h : Ext H A) (m : Mod F A B) (hf : ∀ b, F b → H.size ≤ b) : Ext H B :=
 ⟨Nat.le_trans h.size m.size, fun b hb _ => (m.same b (Nat.lt_of_lt_of_le hb h.size) fun u => by have := hf b u; omega).trans (h.same b hb id)⟩
section
variable {H A B : Heap} {sb fb a b : Nat} {f feed : Value} {un s : Sl} {w wr e late cl : Int} {c en fe : Bool}
structure WhM (A : Heap) (sb a p q k : Nat) (w : Int) (want : Value) : Prop where
 row : RowT A sb Yau (srcW w (.func (.func ZcO.no) #[] #[.pointer (at0 p), .pointer (at0 q)]) ⟨at0 k, 1, 1⟩ 0 .nilIface false false)
 cp : RowT A p Yak #[.pointer (at0 a)]
 cq : RowT A q Yae #[want]
 ck : RowT A k Yak #[.pointer (at0 a)]
theorem where_ok {fn : Fn} {fi ca : Array Value} {K : Option Addr → Heap → Prop} (r : RowT H a Yau (srcW w f un wr feed c en))
  (hK : ∀ sb p q k A, WhM A sb a p q k w (.func fn fi ca) → Ext H A → (H.size ≤ sb ∧ H.size ≤ p ∧ H.size ≤ q ∧ H.size ≤ k) → (sb < A.size ∧ p < A.size ∧ q < A.size ∧ k < A.size) → K (at0 sb) A) : ZdB.sp (at0 a) 0 fn fi ca H K := by
 refine ZdB.of ?_
 unfold ZdB.vc
 refine newC_rowT fun H1 z1 r1 e1 => ?_
 refine newC_rowT fun H2 z2 r2 e2 => ?_
 have q1 := r1.ext e2
 have e12 := e1.trans e2
 refine ⟨Ext H2, .refl _ _, ?_⟩
 refine RowT.ldC (c := cPtr) (i := 0) (x := at0 a) (cs := fun _ => #[.pointer (at0 a)]) (fun D hD => q1.ext hD) (fun _ _ => rfl) ?_
 refine RowT.ldC (c := cPtr) (i := 0) (x := at0 a) (cs := fun _ => #[.pointer (at0 a)]) (fun D hD => q1.ext hD) (fun _ _ => rfl) ?_
 refine ⟨?_, ?_⟩
 ·refine widthW_ok (r.ext e12) ⟨.refl _ _, ?_⟩
  refine newC_rowT fun H4 z4 r4 e4 => ⟨e4, ?_⟩
  refine madeU_ok (us := [a]) (one_src r4) (by simp) fun A rA eA zA => ⟨e4.trans eA, ?_⟩
  have e24 := e4.trans eA
  exact hK H4.size H.size H1.size H2.size A ⟨rA, q1.ext e24, r2.ext e24, r4.ext eA⟩ (e12.trans e24) ⟨by omega, by omega, by omega, by omega⟩ ⟨by omega, by omega, by omega, by omega⟩
 ·refine newC_rowT fun H4 z4 r4 e4 => ⟨e4, ?_⟩
  refine widthW_ok (r.ext (e12.trans e4)) ⟨e4, ?_⟩
  refine madeU_ok (us := [a]) (one_src r4) (by simp) fun A rA eA zA => ⟨e4.trans eA, ?_⟩
  have e24 := e4.trans eA
  exact hK H4.size H.size H1.size H2.size A ⟨rA, q1.ext e24, r2.ext e24, r4.ext eA⟩ (e12.trans e24) ⟨by omega, by omega, by omega, by omega⟩ ⟨by omega, by omega, by omega, by omega⟩
variable {X Y : Nat → Prop} {ls : List (List Int)}
end
structure SrcI (W O : Nat → Prop) (sb w : Nat) (I : Heap → List (List Int) → Prop) : Prop where
 sub : ∀ b, W b → O b
 lt : ∀ A ls, I A ls → ∀ b, O b → b < A.size
 row : ∀ A ls, I A ls → ∃ f un, RowT A sb Yau (srcW w f un 0 .nilIface false false)
 cols : ∀ A ls, I A ls → ∀ l ∈ ls, l.length = w
 keep : ∀ (A B : Heap) ls (Z : Nat → Prop), I A ls → Mod Z A B → (∀ b, Z b → ¬ O b) → I B ls
 step : ∀ A l r (K : (Sl × Bool × Int) → Heap → Prop), I A (l :: r) → (∀ x B, I B r → Mod W A B → Ints .u64 B x l → (∀ a, x.a = some a → a.block < B.size ∧ ¬ W a.block ∧ (O a.block ∨ A.size ≤ a.block)) → K (x, true, 0) B) → ZbT.sp (at0 sb) A K
 stop : ∀ A (K : (Sl × Bool × Int) → Heap → Prop), I A [] → (∀ B, Mod W A B → K (Sl.mk none 0 0, false, 0) B) → ZbT.sp (at0 sb) A K
def fromO (O : Nat → Prop) (sb lb wb : Nat) (A : Heap) (ls : List (List Int)) : Prop := (∀ b, O b → b < A.size) ∧ ∃ s, FromB (Xof O sb lb) A sb lb wb 2 false s ls
theorem fromI {O : Nat → Prop} {sb lb wb : Nat} (h1 : O sb) (h2 : O lb) : SrcI (fun b => b = sb ∨ b = lb) O sb 2 (fromO O sb lb wb) := by
 refine ⟨fun b u => u.elim (· ▸ h1) (· ▸ h2), fun A ls h => h.1, fun A ls h => ?_, fun A ls h l hl => ?_, fun A B ls Z h m hz => ?_, fun A l r K h hK => ?_, fun A K h hK => ?_⟩
 ·obtain ⟨_, s, f⟩ := h
  exact ⟨_, Sl.mk none 0 0, f.row⟩
 ·obtain ⟨_, s, f⟩ := h
  exact f.cols l hl
 ·obtain ⟨h0, s, f⟩ := h
  exact ⟨fun b hb => Nat.lt_of_lt_of_le (h0 b hb) m.size, s, f.keep m (fun b u => .inl (hz b u)) (fun u => hz _ u h1) fun u => hz _ u h2⟩
 ·obtain ⟨h0, s, f⟩ := h
  refine from_next f (fun l' r' x B s' e f2 mB ix ox => ?_) (fun e => by cases e)
  obtain ⟨rfl, rfl⟩ := List.cons.inj e
  refine hK x B ⟨fun b hb => Nat.lt_of_lt_of_le (h0 b hb) mB.size, s', f2⟩ (mB.mono fun _ _ u => .inr u) ix fun a ha => ?_
  obtain ⟨o1, o2⟩ := ox a ha
  exact ⟨o1, fun u => o2 (.inr u), .inl (Classical.byContradiction fun u => o2 (.inl u))⟩
 ·obtain ⟨h0, s, f⟩ := h
  exact from_next f (fun l' r' x B s' e => by cases e) fun _ B _ mB => hK B (mB.mono fun _ _ u => .inl u)
theorem fromR_ok {rows : Sl} {ls : List (List Int)} {H : Heap} {K : Option Addr → Heap → Prop} (h : Rows H rows ls) (hn : ls.length ≤ 1000) (hl : ∀ l ∈ ls, l.length = 2)
  (hK : ∀ sb lb wb A, fromO (fun b => H.size ≤ b ∧ b < A.size) sb lb wb A ls → Ext H A → (H.size ≤ sb ∧ sb < A.size) → (H.size ≤ lb ∧ lb < A.size) → K (at0 sb) A) : ZdK.sp rows 2 H K := by
 refine From_ok h hn (fun l q => by rw [hl l q]; decide) fun sb lb wb s rs A row cell wid own low eA hw hlb lo hi => ?_
 subst hw; subst hlb
 rw [if_neg (by decide)] at row
 obtain ⟨b1, b2⟩ := own.block
 refine hK sb (H.size + 1) H.size A ⟨fun b hb => hb.2, s, row, cell, wid, rowsX_own own fun b hb u => ?_, own.out.cap, hl, ⟨.inr (.inl rfl), .inr (.inr rfl), fun u => ?_⟩, by omega⟩ eA ⟨by omega, hi⟩ ⟨by omega, by omega⟩
 ·have hbA : H.size + 2 ≤ b ∧ b < A.size := by
   rcases hb with v | ⟨r, hr, v⟩
   ·exact b1 b v
   ·exact b2 r hr b v
  have := low b hb
  rcases u with u | u | u
  ·exact u ⟨by omega, hbA.2⟩
  ·omega
  ·omega
 ·rcases u with u | u | u
  ·exact u ⟨Nat.le_refl _, by omega⟩
  ·omega
  ·omega
theorem turnOK_all {l cl : List Int} {w : Nat} (h1 : l.length = w) (h2 : ∀ c ∈ cl, 0 ≤ c ∧ c < (w : Int)) : turnOK l cl = true := by
 unfold turnOK
 rw [List.all_eq_true]
 intro c hc
 have := h2 c hc
 simp [h1, this]
theorem turnL_all {l cl : List Int} {w : Nat} (h1 : l.length = w) (h2 : ∀ c ∈ cl, 0 ≤ c ∧ c < (w : Int)) : turnL l cl = cl.map fun c => l.getD c.toNat 0 := by
 unfold turnL
 rw [if_pos (turnOK_all h1 h2)]
section
variable {W O : Nat → Prop} {a w : Nat} {I : Heap → List (List Int) → Prop}
def pickO (O : Nat → Prop) (I : Heap → List (List Int) → Prop) (a sb p q k : Nat) (s : Sl) (cl : List Int) (A : Heap) (ls' : List (List Int)) : Prop :=
 ∃ ls, ls' = ls.map (turnL · cl) ∧ I A ls ∧ RowT A sb Yau (srcW cl.length (.func (.func Zdr.no) #[] #[.pointer (at0 p), .pointer (at0 q)]) ⟨at0 k, 1, 1⟩ 0 .nilIface false false) ∧ RowT A p Yak #[.pointer (at0 a)] ∧ RowT A q YaQ #[s.v] ∧ Owns A 0 YaT 1 s (cl.map (Value.int .i64))
set_option maxRecDepth 100000 in
theorem pickI {sb p q k : Nat} {s : Sl} {cl : List Int} {n0 : Nat} (S : SrcI W O a w I) (hcl : ∀ c ∈ cl, 0 ≤ c ∧ c < (w : Int)) (hl : cl.length ≤ 1000) (hO : ∀ b, O b → b < n0) (h1 : n0 ≤ sb ∧ n0 ≤ p ∧ n0 ≤ q) (h2 : ∀ b, ownB s b → n0 ≤ b ∧ b ≠ sb) (h3 : p ≠ sb ∧ q ≠ sb) :
  SrcI (fun b => W b ∨ b = sb) (fun b => O b ∨ b = sb ∨ b = p ∨ b = q ∨ ownB s b) sb cl.length (pickO O I a sb p q k s cl) := by
 refine ⟨fun b u => u.elim (fun v => .inl (S.sub b v)) fun v => .inr (.inl v), fun A ls h b u => ?_, fun A ls h => ?_, fun A ls h l hlm => ?_, fun A B ls Z h m hz => ?_, fun A l r K h hK => ?_, fun A K h hK => ?_⟩
 ·obtain ⟨l0, _, i0, r0, c1, c2, o0⟩ := h
  rcases u with u | u | u | u | u
  ·exact S.lt A l0 i0 b u
  ·exact u ▸ obj_lt r0
  ·exact u ▸ obj_lt c1
  ·exact u ▸ obj_lt c2
  ·exact (o0.block b u).2
 ·obtain ⟨l0, _, i0, r0, c1, c2, o0⟩ := h
  exact ⟨_, _, r0⟩
 ·obtain ⟨l0, rfl, i0, r0, c1, c2, o0⟩ := h
  obtain ⟨y, hy, rfl⟩ := List.mem_map.1 hlm
  rw [turnL_all (S.cols A l0 i0 y hy) hcl, List.length_map]
 ·obtain ⟨l0, e, i0, r0, c1, c2, o0⟩ := h
  exact ⟨l0, e, S.keep A B l0 Z i0 m fun b u v => hz b u (.inl v), r0.mod m fun u => hz _ u (.inr (.inl rfl)), c1.mod m fun u => hz _ u (.inr (.inr (.inl rfl))), c2.mod m fun u => hz _ u (.inr (.inr (.inr (.inl rfl)))), o0.mod m fun b hb u => hz _ u (.inr (.inr (.inr (.inr hb))))⟩
 ·obtain ⟨l0, e, i0, r0, c1, c2, o0⟩ := h
  cases l0 with
  | nil => cases e
  | cons y l1 =>
    obtain ⟨rfl, rfl⟩ := List.cons.inj e
    have hy := S.cols A _ i0 y List.mem_cons_self
    refine next_srcW r0 (callV_fn #[.pointer (at0 p), .pointer (at0 q)] rfl (by kernel_rfl) ?_)
    refine Zdr.of (cap := ⟨p, 0, none⟩) (cap1 := ⟨q, 0, none⟩) ?_
    unfold Zdr.vc
    refine ld0 (c := cPtr) (x := at0 a) c1 ?_
    refine S.step A y l1 _ i0 fun x B iB mB ix ox => ?_
    have nw : ∀ {b}, n0 ≤ b → ¬ W b := fun {b} h u => by have := hO b (S.sub b u); omega
    refine br_t rfl ?_
    refine ld0 (c := cSl) (x := s) (c2.mod mB (nw h1.2.2)) ?_
    have oB := o0.mod mB fun b hb => nw (h2 b hb).1
    refine rowTurn_ok ix oB.ints (by omega) fun t C oC eC => ?_
    have eE : turnE y cl = 0 := by unfold turnE; rw [if_pos (turnOK_all hy hcl)]
    rw [eE]
    have rC := (r0.mod mB (nw h1.1)).ext eC
    have zB := mB.size
    refine ⟨rC, fun u => by rcases u with u | u <;> simp at u, fun _ _ => ?_⟩
    refine hK t C ⟨l1, rfl, S.keep B C l1 (fun _ => False) iB eC fun _ u => u.elim, rC, (c1.mod mB (nw h1.2.1)).ext eC, (c2.mod mB (nw h1.2.2)).ext eC, oB.ext eC⟩ ((mB.mono fun _ _ u => .inl u).trans (Ext.mod eC)) oC.ints fun ad ha => ?_
    have ob := oC.block _ ⟨ad, ha, rfl⟩
    have l0 := S.lt A _ i0
    have ls := obj_lt r0
    exact ⟨ob.2, fun u => by
     rcases u with u | u
     ·have := l0 _ (S.sub _ u); omega
     ·omega, .inr (by omega)⟩
 ·obtain ⟨l0, e, i0, r0, c1, c2, o0⟩ := h
  have e0 : l0 = [] := by
   cases l0 with
   | nil => rfl
   | cons y l1 => cases e
  subst e0
  refine next_srcW r0 (callV_fn #[.pointer (at0 p), .pointer (at0 q)] rfl (by kernel_rfl) ?_)
  refine Zdr.of (cap := ⟨p, 0, none⟩) (cap1 := ⟨q, 0, none⟩) ?_
  unfold Zdr.vc
  refine ld0 (c := cPtr) (x := at0 a) c1 ?_
  refine S.stop A _ i0 fun B mB => ?_
  refine br_f rfl ?_
  refine ⟨r0.mod mB fun u => by have := hO _ (S.sub _ u); omega, fun _ C rC mC zC => ?_, fun _ u => by cases u⟩
  exact hK C ((mB.mono fun _ _ u => .inl u).trans (mC.mono fun _ _ u => .inr u))
theorem Pick_ok {H : Heap} {cols : Sl} {cl : List Int} {ls : List (List Int)} {K : Option Addr → Heap → Prop} (S : SrcI W O a w I) (h : I H ls) (hc : Ints .i64 H cols cl) (hcl : ∀ c ∈ cl, 0 ≤ c ∧ c < (w : Int)) (hl : cl.length ≤ 1000)
  (hK : ∀ sb W' O' I' A, SrcI W' O' sb cl.length I' → I' A (ls.map (turnL · cl)) → Ext H A → (∀ b, O' b → O b ∨ H.size ≤ b) → K (at0 sb) A) : ZdN.sp (at0 a) cols H K := by
 refine ZdN.of ?_
 unfold ZdN.vc
 obtain ⟨f, un, row⟩ := S.row H ls h
 have hO := S.lt H ls h
 refine newC_rowT fun H1 z1 r1 e1 => ?_
 refine hcloneI_ok (hc.ext e1) (by omega) fun s H2 o2 e2 f2 => ?_
 refine newC_rowT fun H3 z3 r3 e3 => ?_
 rw [zc_sli] at r3
 have s2 := e2.size
 have b2 := o2.block
 refine RowT.st (i := 0) r3 (by simp) (by cases s; rfl) fun H4 r4 m4 z4 => ?_
 have q4 : RowT H4 H2.size YaQ #[s.v] := r4
 have e13 := e2.trans e3
 have q1 : RowT H4 H.size Yak #[.pointer (at0 a)] := (r1.ext e13).mod m4 (by omega)
 have o4 : Owns H4 0 YaT 1 s (cl.map (Value.int .i64)) := (o2.ext e3).mod m4 fun b hb u => by have := (b2 b hb).2; omega
 have e14 : Ext H H4 := Ext.more (e1.trans e13) m4 fun b u => by omega
 have fin : ∀ {A : Heap} {k : Nat}, RowT A (A.size - 1) Yau (srcW cl.length (.func (.func Zdr.no) #[] #[.pointer (at0 H.size), .pointer (at0 H2.size)]) ⟨at0 k, 1, 1⟩ 0 .nilIface false false) → H4.size < A.size - 1 → Ext H4 A → K (at0 (A.size - 1)) A := fun {A k} rA hz eA => by
  refine hK (A.size - 1) _ _ _ A (pickI (n0 := H.size) (p := H.size) (q := H2.size) (k := k) (s := s) S hcl hl hO ⟨by omega, Nat.le_refl _, by omega⟩ (fun b hb => ⟨by have := f2 b hb; omega, by have := (b2 b hb).2; omega⟩) ⟨by omega, by omega⟩) ⟨ls, rfl, S.keep H A ls (fun _ => False) h (e14.trans eA) fun _ u => u.elim, rA, q1.ext eA, q4.ext eA, o4.ext eA⟩ (e14.trans eA) fun b u => ?_
  rcases u with u | u | u | u | u
  ·exact .inl u
  ·exact .inr (by omega)
  ·exact .inr (by omega)
  ·exact .inr (by omega)
  ·exact .inr (by have := f2 b u; omega)
 refine ⟨Ext H4, .refl _ _, ?_⟩
 refine RowT.ldC (c := cSl) (i := 0) (x := s) (cs := fun _ => #[s.v]) (fun D hD => q4.ext hD) (fun _ _ => rfl) ?_
 refine RowT.ldC (c := cPtr) (i := 0) (x := at0 a) (cs := fun _ => #[.pointer (at0 a)]) (fun D hD => q1.ext hD) (fun _ _ => rfl) ?_
 refine RowT.ldC (c := cPtr) (i := 0) (x := at0 a) (cs := fun _ => #[.pointer (at0 a)]) (fun D hD => q1.ext hD) (fun _ _ => rfl) ?_
 refine RowT.ldC (c := cSl) (i := 0) (x := s) (cs := fun _ => #[s.v]) (fun D hD => q4.ext hD) (fun _ _ => rfl) ?_
 have hn : (s.n : Int) = (cl.length : Int) := by have := o2.1; rw [List.length_map] at this; omega
 rw [hn]
 refine ⟨?_, ?_⟩
 ·refine newC_rowT fun H5 z5 r5 e5 => ⟨e5, ?_⟩
  refine columns_ok (w := w) ((row.ext e14).ext e5) (o4.ext e5).ints hl hcl fun H6 e6 => ⟨e5.trans e6, ?_⟩
  have := e6.size
  refine madeU_ok (us := [a]) (one_src (r5.ext e6)) (by simp) fun A rA eA zA => ⟨(e5.trans e6).trans eA, ?_⟩
  have hA : A.size - 1 = H6.size := by omega
  have := fin (A := A) (k := H4.size) (by rw [hA]; exact rA) (by omega) ((e5.trans e6).trans eA)
  rw [hA] at this; exact this
 ·refine columns_ok (w := w) (row.ext e14) o4.ints hl hcl fun H6 e6 => ⟨e6, ?_⟩
  have := e6.size
  refine newC_rowT fun H5 z5 r5 e5 => ⟨e6.trans e5, ?_⟩
  refine madeU_ok (us := [a]) (one_src r5) (by simp) fun A rA eA zA => ⟨(e6.trans e5).trans eA, ?_⟩
  have hA : A.size - 1 = H5.size := by omega
  have := fin (A := A) (k := H6.size) (by rw [hA]; exact rA) (by omega) ((e6.trans e5).trans eA)
  rw [hA] at this; exact this
def isP (col : Nat) (word : Int) (l : List Int) : Bool := l.getD col 0 == word
def isO (I : Heap → List (List Int) → Prop) (a sb p q k c1 c2 w col : Nat) (word : Int) (A : Heap) (ls' : List (List Int)) : Prop :=
 ∃ ls, ls' = ls.filter (isP col word) ∧ I A ls ∧ WhM A sb a p q k w (.func (.func ZdC.no) #[] #[.pointer (at0 c1), .pointer (at0 c2)]) ∧ RowT A c1 YaT #[.int .i64 col] ∧ RowT A c2 YaP #[.int .u64 word] ∧ ls.length ≤ 1000
set_option maxHeartbeats 1000000 in
set_option maxRecDepth 100000 in
theorem isI {sb p q k c1 c2 col : Nat} {word : Int} {n0 : Nat} (S : SrcI W O a w I) (hc : col < w) (hO : ∀ b, O b → b < n0) (h1 : n0 ≤ sb ∧ n0 ≤ p ∧ n0 ≤ q ∧ n0 ≤ k ∧ n0 ≤ c1 ∧ n0 ≤ c2) :
  SrcI (fun b => W b ∨ b = sb) (fun b => O b ∨ b = sb ∨ b = p ∨ b = q ∨ b = k ∨ b = c1 ∨ b = c2) sb w (isO I a sb p q k c1 c2 w col word) := by
 have nw : ∀ {b}, n0 ≤ b → ¬ W b := fun {b} h u => by have := hO b (S.sub b u); omega
 -- the closure: on to the first row that is wanted
 have walk : ∀ (ls : List (List Int)) A (K : (Sl × Bool × Int) → Heap → Prop), I A ls → ls.length ≤ 1000 → RowT A p Yak #[.pointer (at0 a)] → RowT A q Yae #[.func (.func ZdC.no) #[] #[.pointer (at0 c1), .pointer (at0 c2)]] → RowT A c1 YaT #[.int .i64 col] → RowT A c2 YaP #[.int .u64 word] →
   (∀ l r x B, ls.filter (isP col word) = l :: r.filter (isP col word) → I B r → r.length ≤ ls.length → Mod W A B → Ints .u64 B x l → (∀ ad, x.a = some ad → ad.block < B.size ∧ ¬ W ad.block ∧ (O ad.block ∨ A.size ≤ ad.block)) → K (x, true, 0) B) →
   (ls.filter (isP col word) = [] → ∀ B, Mod W A B → K (Sl.mk none 0 0, false, 0) B) → ZcO.vc ⟨p, 0, none⟩ ⟨q, 0, none⟩ A K := by
  intro ls A K i0 hn cp cq cc1 cc2 hK1 hK0
  unfold ZcO.vc
  refine loop_upto ls.length (fun i _ B => I B (ls.drop i) ∧ ls.filter (isP col word) = (ls.drop i).filter (isP col word) ∧ Mod W A B) ⟨i0, rfl, .refl _ _⟩ ?_
  rintro i _ B next hi ⟨iB, fB, mB⟩ hnext
  refine ld0 (c := cPtr) (x := at0 a) (cp.mod mB (nw h1.2.1)) ?_
  rcases Nat.lt_or_ge i ls.length with hlt | hge
  ·rw [List.drop_eq_getElem_cons hlt] at iB fB
   refine S.step B ls[i] (ls.drop (i + 1)) _ iB fun x C iC mC ix ox => ?_
   refine br_f rfl ?_
   have mAC := mB.trans mC
   refine ld0 (c := cRaw) (x := .func (.func ZdC.no) #[] #[.pointer (at0 c1), .pointer (at0 c2)]) (cq.mod mAC (nw h1.2.2.1)) ?_
   refine callB_fn #[x.v, .pointer (at0 c1), .pointer (at0 c2)] rfl (by kernel_rfl) ?_
   refine ZdC.of (l := x) (cap := ⟨c1, 0, none⟩) (cap1 := ⟨c2, 0, none⟩) ?_
   unfold ZdC.vc
   refine ld0 (c := cInt .i64) (x := (col : Int)) (cc1.mod mAC (nw h1.2.2.2.2.1)) ?_
   have hli : ls[i].length = w := S.cols B _ iB _ List.mem_cons_self
   refine ints_get ix (i := (col : Int)) (j := col) rfl (by omega) fun ad _ => ?_
   refine ld0 (c := cInt .u64) (x := word) (cc2.mod mAC (nw h1.2.2.2.2.2)) ?_
   have zB := mB.size
   refine br_mk (fun hb => ?_) (fun hb => ?_)
   ·have hp : isP col word ls[i] = true := hb
    rw [List.filter_cons_of_pos hp] at fB
    exact hK1 ls[i] (ls.drop (i + 1)) x C fB iC (by rw [List.length_drop]; omega) mAC ix fun a' ha => ⟨(ox a' ha).1, (ox a' ha).2.1, (ox a' ha).2.2.imp id fun u => by omega⟩
   ·have hp : ¬ isP col word ls[i] = true := by unfold isP; rw [hb]; decide
    rw [List.filter_cons_of_neg hp] at fB
    exact hnext hlt _ _ ⟨iC, fB, mAC⟩
  ·have hd : ls.drop i = [] := List.drop_eq_nil_of_le hge
   rw [hd] at iB fB
   refine S.stop B _ iB fun C mC => ?_
   refine br_t rfl ?_
   exact hK0 fB C (mB.trans mC)
 refine ⟨fun b u => u.elim (fun v => .inl (S.sub b v)) fun v => .inr (.inl v), fun A ls h b u => ?_, fun A ls h => ?_, fun A ls h l hlm => ?_, fun A B ls Z h m hz => ?_, fun A l r K h hK => ?_, fun A K h hK => ?_⟩
 ·obtain ⟨l0, _, i0, wh, d1, d2, _⟩ := h
  rcases u with u | u | u | u | u | u | u
  ·exact S.lt A l0 i0 b u
  ·exact u ▸ obj_lt wh.row
  ·exact u ▸ obj_lt wh.cp
  ·exact u ▸ obj_lt wh.cq
  ·exact u ▸ obj_lt wh.ck
  ·exact u ▸ obj_lt d1
  ·exact u ▸ obj_lt d2
 ·obtain ⟨l0, _, i0, wh, d1, d2, _⟩ := h
  exact ⟨_, _, wh.row⟩
 ·obtain ⟨l0, rfl, i0, wh, d1, d2, _⟩ := h
  exact S.cols A l0 i0 l (List.mem_filter.1 hlm).1
 ·obtain ⟨l0, e, i0, wh, d1, d2, h0⟩ := h
  exact ⟨l0, e, S.keep A B l0 Z i0 m fun b u v => hz b u (.inl v), ⟨wh.row.mod m fun u => hz _ u (.inr (.inl rfl)), wh.cp.mod m fun u => hz _ u (.inr (.inr (.inl rfl))), wh.cq.mod m fun u => hz _ u (.inr (.inr (.inr (.inl rfl)))), wh.ck.mod m fun u => hz _ u (.inr (.inr (.inr (.inr (.inl rfl)))))⟩, d1.mod m fun u => hz _ u (.inr (.inr (.inr (.inr (.inr (.inl rfl)))))), d2.mod m fun u => hz _ u (.inr (.inr (.inr (.inr (.inr (.inr rfl)))))), h0⟩
 ·obtain ⟨l0, e, i0, wh, d1, d2, h0⟩ := h
  refine next_srcW wh.row (callV_fn #[.pointer (at0 p), .pointer (at0 q)] rfl (by kernel_rfl) ?_)
  refine ZcO.of (cap := ⟨p, 0, none⟩) (cap1 := ⟨q, 0, none⟩) ?_
  refine walk l0 A _ i0 h0 wh.cp wh.cq d1 d2 (fun l2 r2 x B e2 iB hr mB ix ox => ?_) (fun e2 => by rw [e2] at e; cases e)
  rw [e2] at e
  obtain ⟨rfl, rfl⟩ := List.cons.inj e
  have rB := wh.row.mod mB (nw h1.1)
  refine ⟨rB, fun u => by rcases u with u | u <;> simp at u, fun _ _ => ?_⟩
  refine hK x B ⟨r2, rfl, iB, ⟨rB, wh.cp.mod mB (nw h1.2.1), wh.cq.mod mB (nw h1.2.2.1), wh.ck.mod mB (nw h1.2.2.2.1)⟩, d1.mod mB (nw h1.2.2.2.2.1), d2.mod mB (nw h1.2.2.2.2.2), by omega⟩ (mB.mono fun _ _ u => .inl u) ix fun ad ha => ?_
  obtain ⟨o1, o2, o3⟩ := ox ad ha
  have hs := obj_lt wh.row
  exact ⟨o1, fun u => u.elim o2 fun v => o3.elim (fun u => by have := hO _ u; omega) fun u => by omega, o3.imp .inl id⟩
 ·obtain ⟨l0, e, i0, wh, d1, d2, h0⟩ := h
  refine next_srcW wh.row (callV_fn #[.pointer (at0 p), .pointer (at0 q)] rfl (by kernel_rfl) ?_)
  refine ZcO.of (cap := ⟨p, 0, none⟩) (cap1 := ⟨q, 0, none⟩) ?_
  refine walk l0 A _ i0 h0 wh.cp wh.cq d1 d2 (fun l2 r2 x B e2 => by rw [← e] at e2; cases e2) (fun _ B mB => ?_)
  refine ⟨wh.row.mod mB (nw h1.1), fun _ C rC mC zC => ?_, fun _ u => by cases u⟩
  exact hK C ((mB.mono fun _ _ u => .inl u).trans (mC.mono fun _ _ u => .inr u))
theorem Is_ok {H : Heap} {col : Nat} {word : Int} {ls : List (List Int)} {K : Option Addr → Heap → Prop} (S : SrcI W O a w I) (h : I H ls) (hc : col < w) (hn : ls.length ≤ 1000)
  (hK : ∀ sb W' O' I' A, SrcI W' O' sb w I' → I' A (ls.filter (isP col word)) → Ext H A → (∀ b, O' b → O b ∨ H.size ≤ b) → K (at0 sb) A) : Zea.sp (at0 a) (col : Int) word H K := by
 refine Zea.of ?_
 unfold Zea.vc
 obtain ⟨f, un, row⟩ := S.row H ls h
 have hO := S.lt H ls h
 refine newC_rowT fun H1 z1 r1 e1 => ?_
 refine newC_rowT fun H2 z2 r2 e2 => ?_
 refine ld0 (c := cInt .i64) (x := (col : Int)) (r1.ext e2) ?_
 refine newC_rowT fun H3 z3 r3 e3 => ?_
 have e13 := (e1.trans e2).trans e3
 refine columns_ok (x := [(col : Int)]) (row.ext e13) (one_cell2 r3) (by simp) (fun u hu => by simp at hu; subst hu; exact ⟨by omega, by omega⟩) fun A4 e4 => ?_
 have e14 := e13.trans e4
 have := e4.size
 refine where_ok (row.ext e14) fun sb p q k A wh eA lo hi => ?_
 have eAll := e14.trans eA
 refine hK sb _ _ _ A (isI (n0 := H.size) (p := p) (q := q) (k := k) (c1 := H.size) (c2 := H1.size) (word := word) S hc hO ⟨by omega, by omega, by omega, by omega, by omega, by omega⟩) ⟨ls, rfl, S.keep H A ls (fun _ => False) h eAll fun _ u => u.elim, wh, (r1.ext (e2.trans e3)).ext (e4.trans eA), (r2.ext e3).ext (e4.trans eA), hn⟩ eAll fun b u => ?_
 rcases u with u | u | u | u | u | u | u
 ·exact .inl u
 all_goals exact .inr (by omega)
end
section
variable {H H0 A B : Heap} {F F' E X V : Nat → Prop} {p dp m sb a b lb wb : Nat} {s s' : Pl} {M M' : Files} {R : RelS} {T : Tx} {f feed : Value} {un : Sl} {wr : Int} {cl en : Bool} {lcols rcols lc rc sl : Sl} {pL pR pP pX pY pl pc : Nat}
theorem both_ok {x y : Sl} {lx ly : List Int} {K : Sl → Heap → Prop} (hx : Ints .u64 H x lx) (hy : Ints .u64 H y ly) (h1 : lx.length ≤ 100) (h2 : ly.length ≤ 100) (hK : ∀ s A, Owns A 0 YaP 1 s ((lx ++ ly).map (Value.int .u64)) → Ext H A → (∀ b, ownB s b → H.size ≤ b) → K s A) : ZdJ.sp x y H K := by
 refine ZdJ.of ?_
 unfold ZdJ.vc
 refine tclone_ok hx (by omega) fun c A o e f => ?_
 have hyl := hy.len
 have cn : c.n = lx.length := by have := o.1; simp at this; omega
 refine elU64.append (base := 0) (s := c) (x := y) (xs := lx.map (Value.int .u64)) (ws := ly.map (Value.int .u64)) o (by simp; omega) (hy.ext e).reads (intsOne _ _) (by omega) (by omega) (Nat.zero_le _) fun s' B n' o' m' f' _ => ?_
 refine hK s' B (by rw [List.map_append]; exact o') (((Ext.mod e).trans m').ext f) fun b hb => ?_
 rcases f' b hb with v | v
 ·exact f b v
 ·have := e.size; omega
theorem FromB.next {Y : Nat → Prop} {ls : List (List Int)} (h : FromB (Xof E a lb) A a lb wb 2 false sl ls) (mm : Mod Y A B) (hy : ∀ b, Y b → ¬ E b) (h1 : E a) (h2 : E lb) : FromB (Xof E a lb) B a lb wb 2 false sl ls :=
 h.keep mm (fun b u => .inl (hy b u)) (fun u => hy _ u h1) (fun u => hy _ u h2)
set_option maxHeartbeats 2000000 in
set_option maxRecDepth 10000 in
theorem loopNext_ok {K : (Sl × Bool × Int) → Heap → Prop} (ht : RelT H0 A F E p dp s M m R T) (hg : Gl H0) (hm : m + 2000000 ≤ 30000000000) (hl : LoopM A sb a R.rb pL pR pP pX pY pl pc lc rc) (hI : LoopM.In E sb pL pR pP pX pY pl pc lc rc) (hf : FromB (Xof V a lb) A a lb wb 2 false sl [[1, 2], [3, 3]]) (hV : (∀ b, V b → E b) ∧ V a ∧ V lb ∧ ¬ V pl ∧ ¬ V pc)
  (hne : sb ≠ pl ∧ sb ≠ pc) (hK : ∀ F' s' (V2 : Nat → Prop) out B, RelT H0 B F' (fun b => E b ∨ V2 b) p dp s' M (m + 2000000) R T → Owns B 0 YaP 1 out ([1, 2, 2, 7].map (Value.int .u64)) → (∀ b, ownB out b → A.size ≤ b ∧ V2 b) → Mod (fun b => ¬ E b ∨ b = lb ∨ b = pl ∨ b = pc) A B → Ext H0 B → RowT B sb Yau (srcW 4 (.func (.func Zdp.no) #[] #[.pointer (at0 pc), .pointer (at0 pL), .pointer (at0 pl), .pointer (at0 pX), .pointer (at0 pR), .pointer (at0 pP), .pointer (at0 pY)]) un 0 .nilIface false false) → K (out, true, 0) B)
  (hrow : RowT A sb Yau (srcW 4 (.func (.func Zdp.no) #[] #[.pointer (at0 pc), .pointer (at0 pL), .pointer (at0 pl), .pointer (at0 pX), .pointer (at0 pR), .pointer (at0 pP), .pointer (at0 pY)]) un 0 .nilIface false false)) : ZbT.sp (at0 sb) A K := by
 obtain ⟨⟨i1, i2, i3, i4⟩, ⟨i5, i6, i7, i8⟩, i9, i10⟩ := hI
 refine next_srcW hrow (callV_fn #[.pointer (at0 pc), .pointer (at0 pL), .pointer (at0 pl), .pointer (at0 pX), .pointer (at0 pR), .pointer (at0 pP), .pointer (at0 pY)] rfl (by kernel_rfl) ?_)
 refine Zdp.of (cap := ⟨pc, 0, none⟩) (cap1 := ⟨pL, 0, none⟩) (cap2 := ⟨pl, 0, none⟩) (cap3 := ⟨pX, 0, none⟩) (cap4 := ⟨pR, 0, none⟩) (cap5 := ⟨pP, 0, none⟩) (cap6 := ⟨pY, 0, none⟩) ?_
 unfold Zdp.vc
 refine loop_upto 0 (fun _ _ B => A = B) rfl ?_
 rintro _ _ _ next _ rfl _
 refine ld0 (c := cPtr) (x := none) hl.cc ?_
 refine br_t rfl ?_
 refine ld0 (c := cPtr) (x := at0 a) hl.cL ?_
 -- types keep the cells apart
 have ty : ∀ {x y : Nat} {t u : TypeId} {cs ds : Array Value}, RowT A x t cs → RowT A y u ds → t ≠ u → x ≠ y := fun {x y t u cs ds} h1 h2 hne e => hne (cells_ty (e ▸ h1) h2)
 refine from_next hf (fun l r x A1 s1 hls f1 mA ix ox => ?_) (fun e => by cases e)
 have hl1 : l = [1, 2] ∧ r = [[3, 3]] := by injection hls with u v; exact ⟨u.symm, v.symm⟩
 obtain ⟨rfl, rfl⟩ := hl1
 have xE : ∀ q, ownB x q → V q ∧ q ≠ a ∧ q ≠ lb ∧ q < A1.size := fun q ⟨ad, ha, e⟩ => by
  obtain ⟨o1, o2⟩ := ox ad ha
  subst e
  exact ⟨Classical.byContradiction fun u => o2 (.inl u), fun u => o2 (.inr (.inl u)), fun u => o2 (.inr (.inr u)), o1⟩
 have mE1 : Mod E A A1 := mA.mono fun b _ u => by rw [u]; exact hV.1 _ hV.2.2.1
 have ht1 := ht.write mE1
 have lbne : ∀ {y : Nat} {t : TypeId} {cs : Array Value}, RowT A y t cs → t ≠ Yat → ¬ y = lb := fun {y t cs} r hn e => ty r hf.cell hn e
 have cl1 := hl.cl.mod mA (lbne hl.cl (by decide))
 refine RowT.st (i := 0) cl1 (by simp) (by cases x; rfl) fun A2 r2 m2 z2 => ?_
 have r2 : RowT A2 pl YaK #[x.v] := r2
 have ht2 := ht1.write (m2.mono fun b _ u => by rw [u]; exact i7)
 have m02 : Mod (fun b => b = lb ∨ b = pl) A A2 := (mA.mono fun b _ u => .inl u).trans (m2.mono fun b _ u => .inr u)
 have keep2 : ∀ {y : Nat} {t : TypeId} {cs : Array Value}, RowT A y t cs → t ≠ Yat → t ≠ YaK → RowT A2 y t cs := fun {y t cs} r h1 h2 => r.mod m02 fun u => u.elim (lbne r h1) fun e => ty r hl.cl h2 e
 have xpl : ∀ q, ownB x q → q ≠ pl := fun q hq e => hV.2.2.2.1 (e ▸ (xE q hq).1)
 have ix2 : Ints .u64 A2 x [1, 2] := ix.mod m2 fun ad ha u => xpl _ ⟨ad, ha, rfl⟩ u
 refine br_f rfl ?_
 refine ld0 (c := cSl) (x := x) r2 ?_
 refine ld0 (c := cSl) (x := lc) (keep2 hl.cX (by decide) (by decide)) ?_
 have own2 : ∀ {c : Sl} {xs : List Value}, Owns A 0 YaT 1 c xs → Owns A2 0 YaT 1 c xs := fun {c xs} o => o.mod m02 fun b hb u => by
  obtain ⟨cur, e⟩ := o.obj b hb
  rcases u with u | u
  ·exact lbne e (by decide) u
  ·exact ty e hl.cl (by decide) u
 refine rowTurn_ok ix2 (own2 hl.ol).ints (by decide) fun wd A3 o3 e3 => ?_
 have ht3 := ht2.grow e3
 have cR3 := (keep2 hl.cR (by decide) (by decide)).ext e3
 refine ld0 (c := cPtr) (x := at0 R.rb) cR3 ?_
 refine ld0 (c := cInt .u8) (x := 1) ((keep2 hl.cP (by decide) (by decide)).ext e3) ?_
 refine ld0 (c := cSl) (x := rc) ((keep2 hl.cY (by decide) (by decide)).ext e3) ?_
 have o3' : Ints .u64 A3 wd [2] := o3.ints
 refine jscan_ok (x := 2) ht3 ((own2 hl.or).ext e3).ints ((own2 hl.or).ext e3).cap o3' fun C A4 U P4 c4 e4 ce jc _ => ?_
 have e24 := e3.trans e4
 have cc4 : RowT A4 pc Yam #[.pointer none] := (keep2 hl.cc (by decide) (by decide)).ext e24
 refine RowT.st (i := 0) cc4 (by simp) rfl fun A5 r5 m5 z5 => ?_
 have r5 : RowT A5 pc Yam #[.pointer (at0 C.cb)] := r5
 have m5E : Mod C.ext A4 A5 := m5.mono fun b _ u => by rw [u, ce]; exact i8
 refine ld0 (c := cPtr) (x := at0 C.cb) r5 ?_
 refine jnext_ok (P4.beside c4 m5E) (c4.write m5E) hg jc ht.fit ht.W ht.ords ht.f ht.d ht.TL ht.dom hm (fun _ F6 s6 out A6 t6 o6 f6 m6 e6 => ?_) (fun u => absurd u (by decide)) (.inl rfl)
 rw [ce] at t6 m6
 refine br_f rfl ?_
 refine br_t rfl ?_
 have r2' : RowT A6 pl YaK #[x.v] := ((r2.ext e24).mod m5 (ty hl.cl hl.cc (by decide))).mod m6 fun u => u i7
 refine ld0 (c := cSl) (x := x) r2' ?_
 have xpc : ∀ q, ownB x q → q ≠ pc := fun q hq e => hV.2.2.2.2 (e ▸ (xE q hq).1)
 have ix6 : Ints .u64 A6 x [1, 2] := ((ix2.ext e24).mod m5 fun ad ha u => xpc _ ⟨ad, ha, rfl⟩ u).mod m6 fun ad ha u => u (hV.1 _ (xE _ ⟨ad, ha, rfl⟩).1)
 refine both_ok ix6 o6.ints (by decide) (by decide) fun out2 A7 o7 e7 f7 => ?_
 have mAll : Mod (fun b => ¬ E b ∨ b = lb ∨ b = pl ∨ b = pc) A A7 := by
  refine ((((m02.mono fun b _ u => .inr (u.imp id .inl)).trans (Ext.mod e24)).trans (m5.mono fun b _ u => .inr (.inr (.inr u)))).trans (m6.mono fun b _ u => .inl u)).trans e7.mod
 have row7 : RowT A7 sb Yau (srcW 4 (.func (.func Zdp.no) #[] #[.pointer (at0 pc), .pointer (at0 pL), .pointer (at0 pl), .pointer (at0 pX), .pointer (at0 pR), .pointer (at0 pP), .pointer (at0 pY)]) un 0 .nilIface false false) := hrow.mod mAll fun u => by
  rcases u with u | u | u | u
  ·exact u i1
  ·exact lbne hrow (by decide) u
  ·exact hne.1 u
  ·exact hne.2 u
 refine ⟨row7, fun u => by rcases u with u | u <;> simp at u, fun _ _ => ?_⟩
 have t7 := t6.more (X := fun q => A6.size ≤ q ∧ q < A7.size) e7 fun q hq => hq
 have hz6 : A.size ≤ A6.size := by have := m02.size; have := e24.size; have := m5.size; have := m6.size; omega
 exact hK F6 s6 _ out2 A7 t7 o7 (fun b hb => ⟨by have := f7 b hb; omega, f7 b hb, (o7.block b hb).2⟩) mAll (e6.trans e7) row7
set_option maxHeartbeats 2000000 in
set_option maxRecDepth 10000 in
theorem antiNext_ok {K : (Sl × Bool × Int) → Heap → Prop} (ht : RelT H0 A F E p dp s M m R T) (hg : Gl H0) (hm : m + 4000000 ≤ 30000000000) (hl : AntiM A sb a R.rb pL pR pX pY lc rc) (hI : AntiM.In E sb pL pR pX pY lc rc) (hf : FromB (Xof V a lb) A a lb wb 2 false sl [[1, 2], [3, 3]]) (hV : (∀ b, V b → E b) ∧ V a ∧ V lb)
  (hK : ∀ F' s' x B, RelT H0 B F' E p dp s' M (m + 4000000) R T → Ints .u64 B x [3, 3] → Mod (fun b => ¬ E b ∨ b = lb) A B → Ext H0 B → K (x, true, 0) B)
  (hrow : RowT A sb Yau (srcW 2 (.func (.func Zdq.no) #[] #[.pointer (at0 pL), .pointer (at0 pX), .pointer (at0 pR), .pointer (at0 pY)]) un 0 .nilIface false false)) : ZbT.sp (at0 sb) A K := by
 obtain ⟨⟨i1, i2, i3⟩, ⟨i5, i6⟩, i9, i10⟩ := hI
 refine next_srcW hrow (callV_fn #[.pointer (at0 pL), .pointer (at0 pX), .pointer (at0 pR), .pointer (at0 pY)] rfl (by kernel_rfl) ?_)
 refine Zdq.of (cap := ⟨pL, 0, none⟩) (cap1 := ⟨pX, 0, none⟩) (cap2 := ⟨pR, 0, none⟩) (cap3 := ⟨pY, 0, none⟩) ?_
 unfold Zdq.vc
 have ty : ∀ {x y : Nat} {t u : TypeId} {cs ds : Array Value}, RowT A x t cs → RowT A y u ds → t ≠ u → x ≠ y := fun {x y t u cs ds} h1 h2 hne e => hne (cells_ty (e ▸ h1) h2)
 have lbne : ∀ {y : Nat} {t : TypeId} {cs : Array Value}, RowT A y t cs → t ≠ Yat → ¬ y = lb := fun {y t cs} r hn e => ty r hf.cell hn e
 refine loop_upto 1 (fun i _ B => ∃ F' s' sl', RelT H0 B F' E p dp s' M (m + 2000000 * i) R T ∧ FromB (Xof V a lb) B a lb wb 2 false sl' (if i = 0 then [[1, 2], [3, 3]] else [[3, 3]]) ∧ Mod (fun b => ¬ E b ∨ b = lb) A B ∧ Ext H0 B) ⟨F, s, sl, (Nat.add_zero m ▸ ht : RelT H0 A F E p dp s M (m + 0) R T), hf, .refl _ _, by obtain ⟨U, hP⟩ := ht.pool; exact hP.ext⟩ ?_
 rintro i _ B next hi ⟨F1, s1, sl1, t1, f1, m1, e1⟩ hnext
 have keep : ∀ {y : Nat} {t : TypeId} {cs : Array Value}, E y → RowT A y t cs → t ≠ Yat → RowT B y t cs := fun {y t cs} hy r hn => r.mod m1 fun u => u.elim (fun v => v hy) (lbne r hn)
 refine ld0 (c := cPtr) (x := at0 a) (keep i2 hl.cL (by decide)) ?_
 have hi2 : i = 0 ∨ i = 1 := by omega
 have own : ∀ {c : Sl} {xs : List Value}, (∀ b, ownB c b → E b) → Owns A 0 YaT 1 c xs → Owns B 0 YaT 1 c xs := fun {c xs} hE o => o.mod m1 fun b hb u => by
  obtain ⟨cur, e⟩ := o.obj b hb
  exact u.elim (fun v => v (hE b hb)) (lbne e (by decide))
 refine from_next f1 (fun l r x A1 s2 hls f2 mA ix ox => ?_) (fun e => by rcases hi2 with rfl | rfl <;> cases e)
 have mE1 : Mod E B A1 := mA.mono fun b _ u => by rw [u]; exact hV.1 _ hV.2.2
 have t2 := t1.write mE1
 have xE : ∀ q, ownB x q → V q ∧ q ≠ lb := fun q ⟨ad, ha, e⟩ => by
  obtain ⟨o1, o2⟩ := ox ad ha
  subst e
  exact ⟨Classical.byContradiction fun u => o2 (.inl u), fun u => o2 (.inr (.inr u))⟩
 have hnl : ∀ {y : Nat} {t : TypeId} {cs : Array Value}, E y → RowT A y t cs → t ≠ Yat → RowT A1 y t cs := fun {y t cs} hy r hn => (keep hy r hn).mod mA (lbne r hn)
 have own1 : ∀ {c : Sl} {xs : List Value}, (∀ b, ownB c b → E b) → Owns A 0 YaT 1 c xs → Owns A1 0 YaT 1 c xs := fun {c xs} hE o => (own hE o).mod mA fun b hb u => by
  obtain ⟨cur, e⟩ := o.obj b hb
  exact lbne e (by decide) u
 refine br_f rfl ?_
 refine ld0 (c := cSl) (x := lc) (hnl i5 hl.cX (by decide)) ?_
 refine rowTurn_ok ix (own1 i9 hl.ol).ints (by decide) fun wd A3 o3 e3 => ?_
 have t3 := t2.grow e3
 refine ld0 (c := cPtr) (x := at0 R.rb) ((hnl i3 hl.cR (by decide)).ext e3) ?_
 refine ld0 (c := cSl) (x := rc) ((hnl i6 hl.cY (by decide)).ext e3) ?_
 have m3 : Mod (fun b => ¬ E b ∨ b = lb) A A3 := (m1.trans (mA.mono fun b _ u => .inr u)).trans e3.mod
 have ix3 := ix.ext e3
 have row3 : ∀ {D : Heap}, Mod (fun b => ¬ E b ∨ b = lb) A D → RowT D sb Yau (srcW 2 (.func (.func Zdq.no) #[] #[.pointer (at0 pL), .pointer (at0 pX), .pointer (at0 pR), .pointer (at0 pY)]) un 0 .nilIface false false) := fun {D} mm => hrow.mod mm fun u => u.elim (fun v => v i1) (lbne hrow (by decide))
 rcases hi2 with rfl | rfl
 ·have hl1 : l = [1, 2] ∧ r = [[3, 3]] := by
   have hls : [[1, 2], [3, 3]] = l :: r := hls
   injection hls with u v; exact ⟨u.symm, v.symm⟩
  obtain ⟨rfl, rfl⟩ := hl1
  have o3' : Ints .u64 A3 wd [2] := o3.ints
  refine jscan_ok (x := 2) t3 ((own1 i10 hl.or).ext e3).ints ((own1 i10 hl.or).ext e3).cap o3' fun C A4 U P4 c4 e4 ce jc _ => ?_
  refine jnext_ok P4 c4 hg jc ht.fit ht.W ht.ords ht.f ht.d ht.TL ht.dom (by omega) (fun _ F6 s6 out A6 t6 o6 f6 m6 e6 => ?_) (fun u => absurd u (by decide)) (.inl rfl)
  rw [ce] at t6 m6
  rw [show m + 2000000 * 0 + 2000000 = m + 2000000 * (0 + 1) by omega] at t6
  refine br_f rfl ?_
  have m36 : Mod (fun b => ¬ E b) A3 A6 := (Ext.mod e4).trans m6
  exact hnext (by decide) _ _ ⟨F6, s6, s2, t6, (f2.next (Ext.mod (F := fun b => ¬ E b) e3) (fun b u v => u (hV.1 b v)) hV.2.1 hV.2.2).next m36 (fun b u v => u (hV.1 b v)) hV.2.1 hV.2.2, m3.trans (m36.mono fun b _ u => .inl u), e6⟩
 ·have hl1 : l = [3, 3] := by
   have hls : [[3, 3]] = l :: r := hls
   injection hls with u v; exact u.symm
  subst hl1
  rw [Nat.mul_one] at t3
  have o3' : Ints .u64 A3 wd [3] := o3.ints
  refine jscan_ok (x := 3) t3 ((own1 i10 hl.or).ext e3).ints ((own1 i10 hl.or).ext e3).cap o3' fun C A4 U P4 c4 e4 ce jc _ => ?_
  refine jnext_ok P4 c4 hg jc ht.fit ht.W ht.ords ht.f ht.d ht.TL ht.dom (Nat.le_trans (Nat.le_of_eq (Nat.add_assoc m 2000000 2000000)) hm) (fun u => absurd u (by decide)) (fun _ F6 s6 A6 t6 m6 e6 => ?_) (.inr rfl)
  rw [ce] at t6 m6
  rw [Nat.add_assoc] at t6
  refine br_t rfl ?_
  have m36 : Mod (fun b => ¬ E b) A3 A6 := (Ext.mod e4).trans m6
  have mAll := m3.trans (m36.mono fun b _ u => .inl u)
  refine ⟨row3 mAll, fun u => by rcases u with u | u <;> simp at u, fun _ _ => ?_⟩
  exact hK F6 s6 x A6 t6 (ix3.mod m36 fun ad ha u => u (hV.1 _ (xE _ ⟨ad, ha, rfl⟩).1)) mAll e6
end
end Go.Proofs.YtlockeegebnofaaGreatDoor
