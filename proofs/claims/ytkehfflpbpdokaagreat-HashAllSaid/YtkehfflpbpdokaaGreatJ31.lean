/-
 The pool: a file's frames, rising: the values of a map, those that are wanted, sorted.
-/
import Derived.Lib.SliceRun
import Derived.Test.YtkehfflpbpdokaaGreatVc
import Derived.Test.YtkehfflpbpdokaaGreatFxg
import Derived.Test.YtkehfflpbpdokaaGreatFxj
import Derived.Test.YtkehfflpbpdokaaGreatJ28
import Derived.Test.YtkehfflpbpdokaaGreatFxq
import Derived.Test.YtkehfflpbpdokaaGreatLay
namespace Go.Proofs.YtkehfflpbpdokaaGreat
open Go.MapKept
def EPtr : Enc Nat := ⟨1, fun p => [ptrV p], fun _ => rfl, fun x u hu => by simp at hu; subst hu; rfl⟩
theorem EPtr_all (l : List Nat) : EPtr.all l = l.map ptrV := by
 induction l with
 | nil => rfl
 | cons x l ih =>
   have : EPtr.all (x :: l) = ptrV x :: EPtr.all l := rfl
   rw [this, ih]; rfl
theorem elPtr : ElT Tryz.prog Yae Yai EPtr.size 8 := ElT_of (by kernel_rfl)
def pOf (e : MapEntry) : Nat := match e.val with | .pointer (some a) => a.block | _ => 0
theorem ValuesIter_ok [Tab] {l cap : Nat} {x : PG} {H : Heap} {K : Unit → Heap → Prop} (I : List MapEntry → Heap → Prop) (hF : FramesAt H x) (hcap : RowT H cap Yaa #[.map (some x.mf)])
  (h0 : ∀ A, Mod (fun _ => False) H A → I [] A) (hfr : ∀ l A A', I l A → Mod (fun b => b = H.size) A A' → A'.size = A.size → I l A')
  (hs : ∀ ls e q A, I ls A → e ∈ x.ef.toList → e.val = ptrV q → (∀ y ∈ ls, y ∈ x.ef.toList) → ls.Nodup → e ∉ ls → A[x.mf]? = some (.map x.ef x.cf) → H.size < A.size → YieldSpec Tryz.prog l #[ptrV q] A fun b A' => b = true ∧ I (ls ++ [e]) A' ∧ A'[x.mf]? = A[x.mf]? ∧ A'[H.size]? = A[H.size]?)
  (hfin : ∀ ls A, I ls A → ls.Perm x.ef.toList → K () A) : Zaa.sp l ⟨cap, 0, none⟩ H K := by
 refine Zaa.of ?_
 unfold Zaa.vc
 have := hcap.ld (c := cMap) (i := 0) (x := some x.mf) rfl (K := fun x => doT cPtr Tryz.prog (Instr.range Yaa (.map x)) H fun (it : Option Addr) H1 => LoopVC Unit () H1 fun next _ H2 => doT cNext Tryz.prog (Instr.next (.pointer it) false ty_) H2 fun (nx : Bool × List Value) H3 => br nx.1 (doT cTwo Tryz.prog (Instr.entry (.pointer it)) H3 fun (en : Value × Value) H4 => asT cPtr en.2 fun (v : Option Addr) => YieldSpec Tryz.prog l #[(.pointer v)] H4 fun (b : Bool) H5 => br (!b) (K () H5) (next () H5)) (K () H3))
 refine this ?_
 obtain ⟨et, inf, hu, _, _⟩ := mapSpot
 refine doT_rangeW hu hF.fmap fun H1 hit e1 => ?_
 have hit1 : H.size < H1.size := obj_lt hit
 have hF1 : FramesAt H1 x := hF.keep fun b _ hl => e1.same b hl id
 refine map_rangeW (it := H.size) (fun ls _ A => I ls A ∧ H.size < A.size) hF1.fmap hit ⟨h0 H1 e1, hit1⟩ (fun l x A A' h m s => ⟨hfr l A A' h.1 m s, by omega⟩) ?_ (fun ls x A h hp _ => hfin ls A h.1 hp)
 rintro ls e ⟨⟩ A next ⟨hI, hlt⟩ he hel hsub hnd hr hito hnext
 obtain ⟨z, hz, _, hv⟩ := hF.entry he
 refine ⟨at0 z.2.p, by rw [hv]; rfl, ?_⟩
 refine (hs ls e z.2.p A hI he hv hsub hnd hel hr hlt).mono fun b A' hb => ?_
 obtain ⟨rfl, h1, h2, h3⟩ := hb
 refine br_f rfl (hnext () A' ⟨h1, ?_⟩ h2 h3)
 obtain ⟨o, ho⟩ := hito
 rw [← h3] at ho
 exact obj_lt ho
theorem AppendValues_ok [Tab] {cap : Nat} {x : PG} {H : Heap} {K : Sl → Heap → Prop} (hF : FramesAt H x) (hcap : RowT H cap Yaa #[.map (some x.mf)]) (hlen : x.ef.size ≤ 1048576)
  (hK : ∀ (s : Sl) (ls : List MapEntry) (H' : Heap), SlE EPtr Yai H' s (ls.map pOf) → ls.Perm x.ef.toList → Mod (fun _ => False) H H' → (∀ b, ownB s b → H.size ≤ b) → K s H') :
  Zai.sp (Sl.mk none 0 0) (.func (.func Zaa.no) #[] #[(.pointer (some ⟨cap, 0, none⟩))]) H K := by
 refine Zai.of ?_
 unfold Zai.vc
 refine newC_rowT fun H1 s1 r1 m1 => ?_
 have hcallable : callable Tryz.prog Zaa.no = true := by kernel_rfl
 refine ⟨_, _, rfl, hcallable, fun rec hround => ?_⟩
 obtain ⟨r, hr⟩ : ∃ r, r = H1.size := ⟨_, rfl⟩
 obtain ⟨l, hl⟩ : ∃ l, l = H1.size + 1 := ⟨_, rfl⟩
 obtain ⟨p, hp⟩ : ∃ p, p = H.size := ⟨_, rfl⟩
 rw [← hl] at hround ⊢
 rw [← hr]
 rw [← hp] at r1
 rw [← hp] at hround
 rw [← hp]
 obtain ⟨HB, hHB⟩ : ∃ HB : Heap, HB = (H1.push (.deferred (some []))).push (.loop (rec .ready none)) := ⟨_, rfl⟩
 rw [← hHB]
 have eB : Mod (fun _ => False) H1 HB := by rw [hHB]; exact (Mod.push _ _ _).trans (Mod.push _ _ _)
 have sB : HB.size = H1.size + 2 := by rw [hHB]; simp
 have lB : HB[l]? = some (.loop (rec .ready none)) := by rw [hHB, hl, Array.getElem?_push, if_pos (by simp)]
 have rB : HB[r]? = some (.deferred (some [])) := by rw [hHB, hr]; simp [Array.getElem?_push]
 have pB : RowT HB p Yae #[(Sl.mk none 0 0).v] := r1.ext eB
 have FB : FramesAt HB x := (hF.keep fun b _ hl => m1.same b hl id).keep fun b _ hl => eB.same b hl id
 have cB : RowT HB cap Yaa #[.map (some x.mf)] := (hcap.ext m1).ext eB
 have hml := hF.fmap.lt
 have hcl : cap < H.size := obj_lt hcap
 let I : List MapEntry → Heap → Prop := fun ls A => A[l]? = some (.loop (rec .ready none)) ∧ A[r]? = some (.deferred (some [])) ∧ (∃ s, RowT A p Yae #[s.v] ∧ SlE EPtr Yai A s (ls.map pOf) ∧ (∀ b, ownB s b → HB.size < b)) ∧ Mod (fun b => b = p ∨ b = l ∨ b = HB.size) HB A
 refine Spec.mono (R := fun v H' => ∃ x : Unit, v = (cTup []).enc x ∧ rangeK l rec H' _ _ _) (ValuesIter_ok (l := l) (cap := cap) (x := x) (H := HB) (K := fun _ H' => rangeK l rec H' _ _ _) I FB cB ?_ ?_ ?_ ?_) (fun v H' ⟨x, _, h⟩ => h)
 ·intro A hA
  exact ⟨hA.at lB id, hA.at rB id, ⟨_, pB.ext hA, SlE.nil _ _ _, by rintro b ⟨ad, q, _⟩; cases q⟩, Ext.mod hA⟩
 ·rintro ls A A' ⟨i1, i2, ⟨s, i3, i4, i5⟩, i6⟩ hA hs
  refine ⟨hA.at i1 (by omega), hA.at i2 (by omega), ⟨s, i3.mod hA (by omega), i4.keep fun b hb hbl => hA.same b hbl (by have := i5 b hb; omega), i5⟩, i6.trans (hA.mono fun b _ e => .inr (.inr e))⟩
 ·rintro ls e q A ⟨i1, i2, ⟨s, i3, i4, i5⟩, i6⟩ he hv hsub hnd hel hmA hAl
  refine hround [ptrV q] A _ i1 ?_
  show onSome (some (at0 q)) _
  refine ⟨i1, ?_⟩
  obtain ⟨Ab, hAb⟩ : ∃ Ab : Heap, Ab = A.setIfInBounds l (.loop (rec .busy none)) := ⟨_, rfl⟩
  rw [← hAb]
  have mAb : Mod (fun b => b = l) A Ab := by rw [hAb]; exact Mod.setObj rfl
  have sAb : Ab.size = A.size := by rw [hAb]; simp
  have lAb : Ab[l]? = some (.loop (rec .busy none)) := by rw [hAb]; exact setObj_at i1
  have hpl : p ≠ l := by omega
  have p1 := i3.mod mAb hpl
  refine p1.ld (c := cSl) (i := 0) (x := s) rfl ?_
  have tl : ∀ b, ownB s b → b ≠ l := fun b hb => by have := i5 b hb; omega
  have o1 : SlE EPtr Yai Ab s (ls.map pOf) := i4.keep fun b hb hbl => mAb.same b hbl (tl b hb)
  have hln : (ls.map pOf).length ≤ 1048576 := by
   have := List.Nodup.length_le_of_subset hnd (l₂ := x.ef.toList) (fun y hy => hsub y hy)
   simp at this ⊢; omega
  have hne : pOf e = q := by unfold pOf; rw [hv]; rfl
  refine SlE.push (E := EPtr) elPtr (x := q) o1 rfl (by omega) (by omega) fun s2 A2 o2 g2 _ => ?_
  have lp : p < Ab.size := obj_lt p1
  have tp : ∀ b, ownB s b → b ≠ p := fun b hb => by have := i5 b hb; omega
  have p2 : RowT A2 p Yae #[s.v] := p1.mod g2.1 (fun hb => tp _ hb rfl)
  have i6s := i6.size
  have t2 : ∀ b, ownB s2 b → HB.size < b := fun b hb => by
   rcases g2.2 b hb with q | q
   ·exact i5 b q
   ·omega
  have p2st := p2.st (i := 0) (v := s2.v) (by simp) rfl (K := fun H5 => H5[l]? = some (.loop (rec .busy none)) ∧ (fun b A' => b = true ∧ I (ls ++ [e]) A' ∧ A'[x.mf]? = A[x.mf]? ∧ A'[HB.size]? = A[HB.size]?) true (H5.setIfInBounds l (.loop (rec .ready none))))
  rw [show (Addr.add ⟨p, 0, none⟩ 0) = ⟨p, 0, none⟩ from rfl] at p2st
  refine p2st fun A3 p3 m3 s3 => ?_
  have l2 : A2[l]? = some (.loop (rec .busy none)) := g2.1.at lAb (fun hb => tl _ hb rfl)
  have l3 : A3[l]? = some (.loop (rec .busy none)) := m3.at l2 (by omega)
  have m4 : Mod (fun b => b = l) A3 (A3.setIfInBounds l (.loop (rec .ready none))) := Mod.setObj rfl
  have z2 := g2.1.size
  refine ⟨l3, rfl, ⟨setObj_at l3, ?_, ⟨s2, ?_, ?_, t2⟩, ?_⟩, ?_, ?_⟩
  ·exact m4.at (m3.at (g2.1.at (mAb.at i2 (by omega)) (fun hb => by have := i5 _ hb; omega)) (by omega)) (by omega)
  ·exact RowT.mod (show RowT A3 p Yae #[s2.v] from p3) m4 hpl
  ·rw [List.map_append, List.map_cons, List.map_nil, hne]
   refine o2.keep fun b hb hbl => ?_
   have := t2 b hb
   exact (m4.same b (by omega) (by omega)).trans (m3.same b hbl (by omega))
  ·refine i6.trans' (G := fun b => (b = l ∨ ownB s b) ∨ b = p) ?_ ?_
   ·exact (((mAb.mono fun b _ e => .inl (.inl e)).trans (g2.1.mono fun b _ e => .inl (.inr e))).trans (m3.mono fun b _ e => .inr e)).trans (m4.mono fun b _ e => .inl (.inl e))
   ·rintro b hb ((e | e) | e)
    ·exact .inr (.inl e)
    ·have := i5 b e; omega
    ·exact .inl e
  ·have hmAl := obj_lt hmA
   exact (m4.same _ (by omega) (by omega)).trans ((m3.same _ (by omega) (by omega)).trans ((g2.1.same _ (by omega) (fun hb => by have := i5 _ hb; omega)).trans (mAb.same _ hmAl (by omega))))
  ·exact (m4.same _ (by omega) (by omega)).trans ((m3.same _ (by omega) (by omega)).trans ((g2.1.same _ (by omega) (fun hb => by have := i5 _ hb; omega)).trans (mAb.same _ (by omega) (by omega))))
 ·rintro ls A ⟨i1, i2, ⟨s, i3, i4, i5⟩, i6⟩ hperm
  refine ⟨.ready, none, i1, rfl, ?_⟩
  show ld cSl _ _ _
  have m4 : Mod (fun b => b = l) A (A.setIfInBounds l (.loop (rec .exhausted none))) := Mod.setObj rfl
  have p4 := i3.mod m4 (by omega)
  refine p4.ld (c := cSl) (i := 0) (x := s) rfl ?_
  have r4 := m4.at i2 (by omega)
  refine ⟨r4, ?_⟩
  have m5 : Mod (fun b => b = r) (A.setIfInBounds l (.loop (rec .exhausted none))) ((A.setIfInBounds l (.loop (rec .exhausted none))).setIfInBounds r (.deferred none)) := Mod.setObj rfl
  have z6 := i6.size
  have z4 := m4.size
  refine hK s ls _ ?_ hperm ?_ (fun b hb => by have := i5 b hb; omega)
  ·refine i4.keep fun b hb hbl => ?_
   have := i5 b hb
   exact (m5.same b (by omega) (by omega)).trans (m4.same b hbl (by omega))
  ·have z5 := m5.size
   refine ⟨by omega, fun b hb _ => (m5.same b (by omega) (by omega)).trans ((m4.same b (by omega) (by omega)).trans ((i6.same b (by omega) (by omega)).trans ((eB.same b (by omega) id).trans (m1.same b hb id))))⟩
theorem ptr_ld [Tab] {H : Heap} {s : Sl} {ps : List Nat} (h : SlE EPtr Yai H s ps) {i : Nat} {q : Nat} (hi : ps[i]? = some q) {z : Int} (hz : z = (i : Int)) {K : Addr → Option Addr → Prop} (hK : ∀ ad, s.a = some ad → K ad (at0 q)) :
  optK s.a fun a => (0 ≤ z ∧ z < (s.n : Int)) ∧ ld cPtr H (a.add (z.toNat * 1)) fun v => K a v := by
 subst hz
 have hil := (List.getElem?_eq_some_iff.1 hi).1
 have hn := h.n (by decide)
 obtain ⟨ad, ha⟩ := RdE.addr h.rd (by decide) (by omega)
 refine optK_mk ad ha ⟨⟨by omega, by omega⟩, ?_⟩
 have := RdE.ld (E := EPtr) (c := cPtr) (y := at0 q) h.rd ha hi (j := 0) rfl (n := i * 1) rfl (hK ad ha)
 rw [show (Addr.add (Addr.add ad (i * 1)) 0) = Addr.add ad (i * 1) from rfl] at this
 rw [Int.toNat_natCast]; exact this
structure Kept (H : Heap) (cap : Nat) (n : ByteArray) (ps : List Nat) (sel : Nat → Bool) : Prop where
 cap : RowT H cap YaK #[.string n]
 fr : ∀ q ∈ ps, ∃ g f, FrAt H g f ∧ g.p = q ∧ sel q = (f.name.toList == n.toList)
theorem of1_ok {H : Heap} {cap q : Nat} {n : ByteArray} {ps : List Nat} {sel : Nat → Bool} {K : Bool → Heap → Prop} (h : Kept H cap n ps sel) (hq : q ∈ ps) (hK : K (!sel q) H) : ZcA.sp (at0 q) ⟨cap, 0, none⟩ H K := by
 refine ZcA.of ?_
 unfold ZcA.vc
 simp only [optK_eq, add_add, Nat.reduceAdd]
 obtain ⟨g, f, hA, rfl, hs⟩ := h.fr q hq
 refine hA.row.ld (c := cStr) (i := 0) (x := f.name) rfl ?_
 have := h.cap.ld (c := cStr) (i := 0) (x := n) rfl (K := fun (x_1 : ByteArray) => K (!(f.name.toList == x_1.toList)) H)
 rw [show (Addr.add ⟨cap, 0, none⟩ 0) = ⟨cap, 0, none⟩ from rfl] at this
 refine this ?_
 rw [← hs]; exact hK
theorem IndexOf_ok [Tab] {H : Heap} {cap : Nat} {n : ByteArray} {s : Sl} {ps : List Nat} {sel : Nat → Bool} {K : Int → Heap → Prop} (h : SlE EPtr Yai H s ps) (hk : Kept H cap n ps sel) (hl : ps.length ≤ 1048576)
  (hN : ps.filter sel = ps → K (-1) H) (hF : ∀ i, i < ps.length → (ps.take i).filter sel = ps.take i → (∃ q, ps[i]? = some q ∧ sel q = false) → K (i : Int) H) : Zae.sp s ⟨cap, 0, none⟩ H K := by
 refine Zae.of ?_
 unfold Zae.vc
 have hn := h.n (by decide)
 refine loop_upto ps.length (fun k x H1 => H = H1 ∧ x = (k : Int) ∧ (ps.take k).filter sel = ps.take k) ⟨rfl, rfl, by simp⟩ ?_
 rintro k _ _ next hk' ⟨rfl, rfl, hf⟩ hnext
 refine br_mk (fun hc => ?_) (fun hc => ?_)
 ·have hlt : k < ps.length := by rw [hn] at hc; simpa using hc
  have hq : ps[k]? = some ps[k] := List.getElem?_eq_getElem hlt
  refine ptr_ld h hq rfl fun ad ha => ?_
  refine of1_ok hk (List.getElem_mem hlt) ?_
  cases hs : sel ps[k] with
  | false => exact br_t rfl (hF k hlt hf ⟨_, hq, hs⟩)
  | true =>
    refine br_f rfl (hnext hlt _ _ ⟨rfl, succ64 k (by omega), ?_⟩)
    rw [List.take_succ_eq_append_getElem hlt, List.filter_append, hf]
    simp [hs]
 ·have hge : k = ps.length := by rw [hn] at hc; simp at hc; omega
  rw [hge, List.take_of_length_le (Nat.le_refl _)] at hf
  exact hN hf
theorem setCells_row [Tab] {P : Program} {w : World} {g o : Nat} {t : TypeId} {vs : List Value} {cur : Array Value} (hg : w.heap[g]? = some (.cells cur t (0, 0))) (hfit : o + vs.length ≤ cur.size) (h1 : ∀ v ∈ vs, v.oneCell' = true) :
  w.setCells g o vs = w.setRow g (cur.toList.take o ++ vs ++ cur.toList.drop (o + vs.length)).toArray := by
 have a := run_storeCells_cells (P := P) g o vs 0 w (fun j hj => by simp [World.cell?, hg]; omega) (fun j hj => by simp [World.frozen?, hg]) h1
 have b := run_storeCells_at P g o t vs 0 cur w hg (by simpa using hfit) h1
 simp only [Nat.add_zero] at a b
 rw [a] at b
 simpa using b
theorem zeroPtr : ∀ w : World, (zeroValue Yai).run Tryz.prog w = .ok (.pointer none) w := Tryz.zeroValue135
theorem elPtrI : Tryz.prog.underlying Yae = some (.slice Yai) := by kernel_rfl
theorem doT_clear [Tab] {H : Heap} {s : Sl} {ps : List Nat} {lo : Nat} {ty : TypeId} {K : Value → Heap → Prop} (h : SlE EPtr Yai H s ps) (hlo : lo < ps.length)
  (hK : ∀ v H', SlE EPtr Yai H' (Sl.mk s.a lo s.c) (ps.take lo) → Mod (ownB s) H H' → K v H') :
  doT cRaw Tryz.prog (Builtin.clear_ #[Yae] ty #[(.slice (slA s.a s.c lo 1) (s.n - lo) (s.c - lo))]) H K := by
 intro w hw
 subst hw
 have hn := h.n (by decide)
 rcases h.2 with ⟨e1, e2⟩ | ⟨g, cap, cur, e1, hb, hg, h4, h5, h6, h7⟩
 ·omega
 ·cases s with
  | mk sa sn sc =>
  simp only [Sl.v, Value.slice.injEq] at e1
  obtain ⟨rfl, _, rfl⟩ := e1
  simp only at hn h4 h7 hK ⊢
  have hE1 : EPtr.size = 1 := rfl
  rw [hE1, Nat.mul_one] at h6 h7
  have ea : slA (some ⟨g, 0, none⟩) sc lo 1 = some ⟨g, lo, none⟩ := by
   unfold slA
   rw [if_neg (by omega)]
   simp [add_lit0]
  rw [ea]
  have hr := Lib.run_clear_slice (P := Tryz.prog) w Yae Yai ty (.pointer none) elPtrI zeroPtr rfl rfl g lo (sn - lo) (sc - lo) (by omega) (fun j hj => by simp [World.cell?, hg]; omega) (fun j hj => by simp [World.frozen?, hg])
  rw [setCells_row (P := Tryz.prog) hg (by simp; omega) (by intro v hv; rw [List.eq_of_mem_replicate hv]; rfl)] at hr
  have hown : ∀ k, ownB (Sl.mk (some ⟨g, 0, none⟩) sn sc) k ↔ k = g := fun k => ⟨fun ⟨ad, h1, h2⟩ => by cases h1; exact h2.symm, fun h => ⟨_, rfl, h.symm⟩⟩
  refine ⟨_, _, hr, ⟨_, rfl, hK _ _ ?_ ⟨by simp [World.setRow], fun k _ hk => setRow_other w g k _ (fun e => hk ((hown k).2 e))⟩⟩, ⟨rfl, Nat.le_refl _⟩⟩
  refine ⟨by rw [EPtr_all]; simp [hE1]; omega, .inr ⟨g, sc, _, rfl, Nat.zero_le _, setRow_heap w g cur _ _ _ hg, by simp only; omega, h5, ?_, ?_⟩⟩
  ·simp only [hE1, Nat.mul_one, List.size_toArray, List.length_append, List.length_take, List.length_replicate, List.length_drop, Array.length_toList]
   omega
  ·simp only [hE1, Nat.mul_one]
   rw [List.append_assoc, List.take_append_of_le_length (by simp; omega), List.take_take, Nat.min_self]
   have e1 : EPtr.all (ps.take lo) = (EPtr.all ps).take lo := by rw [EPtr_all, EPtr_all, List.map_take]
   rw [e1, ← h7, List.take_take, Nat.min_eq_left (by omega)]
theorem Delete_ok [Tab] {H : Heap} {cap : Nat} {n : ByteArray} {s : Sl} {ps : List Nat} {sel : Nat → Bool} {K : Sl → Heap → Prop} (h : SlE EPtr Yai H s ps) (hk : Kept H cap n ps sel) (hl : ps.length ≤ 1048576) (hcap : ∀ b, ownB s b → b ≠ cap)
  (hK : ∀ s' H', SlE EPtr Yai H' s' (ps.filter sel) → Mod (ownB s) H H' → (∀ b, ownB s' b → ownB s b) → K s' H') : Zag.sp s ⟨cap, 0, none⟩ H K := by
 refine Zag.of ?_
 unfold Zag.vc
 have hn := h.n (by decide)
 have hcp := Owns.cap h
 refine IndexOf_ok h hk hl (fun hall => br_t rfl (hK s H (by rw [hall]; exact h) (.refl _ _) fun _ q => q)) (fun i hi hpre hno => ?_)
 refine br_f (by simp) ?_
 -- the frames' own blocks are not the slice's
 have hsep : ∀ q ∈ ps, ¬ ownB s q := by
  intro q hq hb
  obtain ⟨c, e⟩ := h.obj q hb
  obtain ⟨g, f, hA, rfl, _⟩ := hk.fr q hq
  exact absurd (cells_ty hA.row e) (by decide)
 have keepK : ∀ {A : Heap}, Mod (ownB s) H A → (∀ q ∈ ps, ∃ g f, FrAt H g f ∧ g.p = q ∧ sel q = (f.name.toList == n.toList)) → Kept A cap n ps sel := by
  intro A hM _
  refine ⟨hM.at hk.cap fun q => hcap cap q rfl, fun q hq => ?_⟩
  obtain ⟨g, f, hA, e1, e2⟩ := hk.fr q hq
  refine ⟨g, f, hA.keep fun b hb hl => hM.same b hl fun q2 => ?_, e1, e2⟩
  obtain ⟨c, e⟩ := h.obj b q2
  obtain ⟨cs, t, e3, ht⟩ := hA.obj b hb
  have := cells_ty e e3
  rw [← this] at ht
  exact absurd ht (by decide)
 obtain ⟨q0, hq0, hs0⟩ := hno
 have hw0 : IntKind.i64.wrap ((i : Int) + 1) = ((i + 1 : Nat) : Int) := succ64 i (by omega)
 rw [hw0]
 refine ⟨Nat × Nat × List Nat, fun t z A => z = ((t.1 : Int), (t.2.1 : Int)) ∧ SlE EPtr Yai A s t.2.2 ∧ t.2.2.length = ps.length ∧ t.2.2.take t.1 = (ps.take t.2.1).filter sel ∧ t.2.2.drop t.2.1 = ps.drop t.2.1 ∧ t.1 < t.2.1 ∧ t.2.1 ≤ ps.length ∧ Mod (ownB s) H A, fun t => ps.length - t.2.1, ⟨(i, i + 1, ps), rfl, h, rfl, ?_, rfl, Nat.lt_succ_self _, hi, .refl _ _⟩, ?_⟩
 ·show ps.take i = (ps.take (i + 1)).filter sel
  have hq : ps[i] = q0 := by rw [List.getElem?_eq_getElem hi] at hq0; exact Option.some.inj hq0
  rw [List.take_succ_eq_append_getElem hi, List.filter_append, hpre, hq]
  simp [hs0]
 ·rintro ⟨a, j, cur⟩ z A ⟨rfl, o, hlen, htk, hdr, haj, hj, hM⟩
  simp only at o hlen htk hdr haj hj ⊢
  have hkA := keepK hM hk.fr
  refine br_mk (fun hc => ?_) (fun hc => ?_)
  ·have hjl : j < ps.length := by rw [hn] at hc; simp at hc; omega
   have hcj : cur[j]? = some ps[j] := by
    have e1 : (cur.drop j)[0]? = (ps.drop j)[0]? := by rw [hdr]
    rw [List.getElem?_drop, List.getElem?_drop, Nat.add_zero, List.getElem?_eq_getElem hjl] at e1
    exact e1
   refine ptr_ld o hcj rfl fun ad ha => ?_
   refine of1_ok hkA (List.getElem_mem hjl) ?_
   have hwj : IntKind.i64.wrap ((j : Int) + 1) = ((j + 1 : Nat) : Int) := succ64 j (by omega)
   have hdr' : ∀ l : List Nat, l.drop j = ps.drop j → l.drop (j + 1) = ps.drop (j + 1) := by
    intro l e
    have : (l.drop j).drop 1 = (ps.drop j).drop 1 := by rw [e]
    rwa [List.drop_drop, List.drop_drop] at this
   cases hs : sel ps[j] with
   | false =>
     refine br_f rfl ⟨(a, j + 1, cur), ⟨by rw [hwj], o, hlen, ?_, hdr' cur hdr, by simp only; omega, hjl, hM⟩, by simp only; omega⟩
     simp only
     rw [List.take_succ_eq_append_getElem hjl, List.filter_append, htk]
     simp [hs]
   | true =>
     refine br_t rfl ?_
     rw [ha]
     refine ⟨⟨by omega, by omega⟩, ?_⟩
     have hal : a < cur.length := by omega
     have hca : cur[a]? = some cur[a] := List.getElem?_eq_getElem hal
     rw [Int.toNat_natCast]
     show st A (Addr.add (Addr.add ad (a * 1)) 0) (ptrV ps[j]) _
     refine SlE.st (i := a) (j := 0) (x := cur[a]) (y := ps[j]) o ha hca (by decide) rfl rfl rfl fun A' o' m' z' => ?_
     have hwa : IntKind.i64.wrap ((a : Int) + 1) = ((a + 1 : Nat) : Int) := succ64 a (by omega)
     refine ⟨(a + 1, j + 1, cur.set a ps[j]), ⟨by rw [hwa, hwj], o', by simp [hlen], ?_, ?_, by simp only; omega, hjl, hM.trans m'⟩, by simp only; omega⟩
     ·simp only
      rw [List.take_succ_eq_append_getElem hjl, List.filter_append, ← htk, List.take_succ_eq_append_getElem (by simp; omega), List.take_set_of_le (Nat.le_refl _)]
      simp [hs]
     ·simp only
      rw [List.drop_set_of_lt (by omega)]
      exact hdr' cur hdr
  ·have hje : j = ps.length := by rw [hn] at hc; simp at hc; omega
   subst hje
   rw [List.take_of_length_le (Nat.le_refl _)] at htk
   refine ⟨⟨by omega, by omega⟩, ?_⟩
   rw [Int.toNat_natCast]
   refine doT_clear o (by omega) fun v A' o' m' => ⟨⟨by omega, by omega⟩, ?_⟩
   rw [slA_zero, Nat.sub_zero, Nat.sub_zero]
   rw [htk] at o'
   exact hK _ A' o' (hM.trans m') fun b q => q
open Go.MapKept Go.Shelf Go.Sort
def PG.of (x : PG) (n : ByteArray) : List FZ := (x.zs.filter fun z => z.1.name.toList == n.toList).mergeSort fun a b => decide (a.1.page ≤ b.1.page)
theorem PG.of_mem {x : PG} {n : ByteArray} {z : FZ} : z ∈ x.of n ↔ z ∈ x.zs ∧ z.1.name = n := by
 unfold PG.of
 rw [List.mem_mergeSort, List.mem_filter]
 constructor
 ·rintro ⟨h1, h2⟩; exact ⟨h1, ba_eq (by simpa using h2)⟩
 ·rintro ⟨h1, h2⟩; exact ⟨h1, by rw [h2]; simp⟩
theorem nat_sorted_eq {l r : List Nat} (h : l.Perm r) (hl : l.Pairwise (· ≤ ·)) (hr : r.Pairwise (· ≤ ·)) : l = r :=
 List.Perm.eq_of_pairwise (le := (· ≤ ·)) (fun a b _ _ h1 h2 => Nat.le_antisymm h1 h2) hl hr h
theorem PG.of_sorted (x : PG) (n : ByteArray) : (x.of n).Pairwise fun a b => a.1.page ≤ b.1.page := by
 unfold PG.of
 have := List.pairwise_mergeSort (le := fun a b : FZ => decide (a.1.page ≤ b.1.page)) (fun _ _ _ h1 h2 => by simp at *; omega) (fun _ _ => by simp; omega) (x.zs.filter fun z => z.1.name.toList == n.toList)
 exact this.imp fun h => by simpa using h
theorem PG.of_pages {x : PG} {s : Pl} (h : s.fs = x.fs) (n : ByteArray) : (x.of n).map (fun z => z.1.page) = s.pagesOf n := by
 refine nat_sorted_eq ?_ ?_ ?_
 ·unfold Pl.pagesOf PG.of
  rw [h]
  unfold PG.fs
  refine ((List.mergeSort_perm _ _).map _).trans (List.Perm.trans ?_ (List.mergeSort_perm _ _).symm)
  rw [List.filter_map, List.map_map]
  exact List.Perm.refl _
 ·rw [List.pairwise_map]; exact x.of_sorted n
 ·unfold Pl.pagesOf
  have := List.pairwise_mergeSort (le := fun a b : Nat => decide (a ≤ b)) (fun _ _ _ h1 h2 => by simp at *; omega) (fun _ _ => by simp; omega) ((s.fs.filter fun f => f.name.toList == n.toList).map (·.page))
  exact this.imp fun h => by simpa using h
theorem nodup_of_map {α β : Type} (f : α → β) {l : List α} (h : (l.map f).Nodup) : l.Nodup := by
 unfold List.Nodup at *
 rw [List.pairwise_map] at h
 exact h.imp fun hne e => hne (by rw [e])
theorem lift_list {α β : Type} {f : α → β} : ∀ {l : List β}, (∀ b ∈ l, ∃ a, f a = b) → ∃ r : List α, r.map f = l
 | [], _ => ⟨[], rfl⟩
 | b :: l, h => by
   obtain ⟨a, ha⟩ := h b List.mem_cons_self
   obtain ⟨r, hr⟩ := lift_list (l := l) fun c hc => h c (List.mem_cons_of_mem _ hc)
   exact ⟨a :: r, by rw [List.map_cons, ha, hr]⟩
theorem of2_spec {H : Heap} {za zb : FZ} (ha : FrAt H za.2 za.1) (hb : FrAt H zb.2 zb.1) (h1 : za.1.page < 1048577) (h2 : zb.1.page < 1048577) :
  Spec Tryz.prog Zcv.no #[ptrV za.2.p, ptrV zb.2.p] H fun v H' => v = .int .i64 ((za.1.page : Int) - (zb.1.page : Int)) ∧ Mod (fun _ => False) H H' := by
 have := Zcv.of (a := at0 za.2.p) (b := at0 zb.2.p) (H := H) (R := fun r H' => r = (za.1.page : Int) - (zb.1.page : Int) ∧ Mod (fun _ => False) H H') (by
  unfold Zcv.vc
  simp only [optK_eq, add_add, Nat.reduceAdd]
  refine ha.row.ld (c := cInt .i64) (i := 1) (x := (za.1.page : Int)) rfl ?_
  refine hb.row.ld (c := cInt .i64) (i := 1) (x := (zb.1.page : Int)) rfl ?_
  exact ⟨wrap64 (by omega) (by omega), .refl _ _⟩)
 refine Spec.mono this fun v H' ⟨x, hx, h3, h4⟩ => ?_
 subst hx
 exact ⟨by rw [h3], h4⟩
theorem of_enters : ∀ args w, (callFunc Zcv.no args).run Tryz.prog w = .ok (.enter Zcv.no args) w := enters_of Tryz.func174 (by kernel_rfl) rfl
theorem of_ok [Tab] {x : PG} {H : Heap} {p dp : Nat} {s : Pl} {n : ByteArray} {K : Sl → Heap → Prop} (h : PoolG x H p dp s)
  (hK : ∀ sl H', SlE EPtr Yai H' sl ((x.of n).map fun z => z.2.p) → Ext H H' → (∀ b, ownB sl b → H.size ≤ b) → K sl H') : ZcZ.sp (at0 p) n H K := by
 refine ZcZ.of ?_
 unfold ZcZ.vc
 simp only [optK_eq]
 refine newC_rowT fun H1 s1 r1 e1 => ?_
 have h1 : PoolG x H1 p dp s := h.keep fun b _ hl => e1.same b hl id
 refine h1.head.ld (c := cMap) (i := 2) (x := some x.mf) rfl ?_
 refine Zab.of ?_
 unfold Zab.vc
 refine newC_rowT fun H2 s2 r2 e2 => ?_
 refine ZaT.of ?_
 unfold ZaT.vc
 have F2 : FramesAt H2 x := h1.frames.keep fun b _ hl => e2.same b hl id
 have hlen := h.wf.len
 have hmost := h.wf.most
 have hsz := h.n
 refine AppendValues_ok F2 r2 (by omega) fun sl ls H3 o3 hp3 e3 f3 => ?_
 have hF3 : FramesAt H3 x := F2.keep fun b _ hl => e3.same b hl id
 have z1 := e1.size
 have z2 := e2.size
 have z3 := e3.size
 -- the pointers that were met are the frames'
 have hperm : (ls.map pOf).Perm (x.zs.map fun z => z.2.p) := by
  have q1 := (hp3.map fun e => (e.key, e.val)).trans h.perm
  have q2 := q1.map fun kv : Value × Value => (match kv.2 with | .pointer (some a) => a.block | _ => 0)
  rw [List.map_map] at q2
  refine List.Perm.trans (List.Perm.of_eq ?_) (q2.trans (List.Perm.of_eq ?_))
  ·exact List.map_congr_left fun e _ => rfl
  ·unfold kvF; rw [List.map_map]; exact List.map_congr_left fun z _ => rfl
 have hat : ∀ q ∈ ls.map pOf, ∃ z ∈ x.zs, z.2.p = q := by
  intro q hq
  obtain ⟨z, hz, e⟩ := List.mem_map.1 (hperm.mem_iff.1 hq)
  exact ⟨z, hz, e⟩
 let sel : Nat → Bool := fun q => x.zs.any fun z => z.2.p == q && z.1.name.toList == n.toList
 have hsel : ∀ z ∈ x.zs, sel z.2.p = (z.1.name.toList == n.toList) := by
  intro z hz
  cases hq : z.1.name.toList == n.toList with
  | true => exact List.any_eq_true.2 ⟨z, hz, by simp [hq]⟩
  | false =>
    refine List.any_eq_false.2 fun y hy => ?_
    intro q
    simp only [Bool.and_eq_true, beq_iff_eq] at q
    have := h.frames.ptr hy hz q.1
    subst this
    rw [q.2] at hq; simp at hq
 have hll : (ls.map pOf).length ≤ 1048576 := by
  rw [hperm.length_eq, List.length_map]
  have := h.frames.size; omega
 have hk3 : Kept H3 H.size n (ls.map pOf) sel := by
  refine ⟨e3.at (e2.at r1 id) id, fun q hq => ?_⟩
  obtain ⟨z, hz, e⟩ := hat q hq
  exact ⟨z.2, z.1, hF3.each z hz, e, by rw [← e]; exact hsel z hz⟩
 refine Delete_ok o3 hk3 hll (fun b hb e => by have := f3 b hb; omega) fun s4 H4 o4 m4 w4 => ?_
 -- sorted
 have m4' : Ext H3 H4 ∨ True := .inr trivial
 have hF4 : FramesAt H4 x := hF3.keep fun b hb hl => m4.same b hl fun q => by
  have := f3 b q
  have := h.frames.lt b hb; omega
 have hperm4 : ((ls.map pOf).filter sel).Perm ((x.of n).map fun z => z.2.p) := by
  refine (hperm.filter sel).trans ?_
  rw [List.filter_map]
  refine List.Perm.map _ (List.Perm.trans (List.Perm.of_eq ?_) (List.mergeSort_perm _ _).symm)
  refine List.filter_congr fun z hz => ?_
  exact hsel z hz
 have fresh4 : ∀ b, ownB s4 b → H.size ≤ b := fun b hb => by have := f3 b (w4 b hb); omega
 have e4 : Ext H H4 := ⟨by have := m4.size; omega, fun b hb _ => (m4.same b (by omega) (fun q => by have := f3 b q; omega)).trans ((e3.same b (by omega) id).trans ((e2.same b (by omega) id).trans (e1.same b hb id)))⟩
 by_cases hnil : (x.of n) = []
 ·-- none
  have hl0 : (ls.map pOf).filter sel = [] := by
   have := hperm4.length_eq
   rw [hnil] at this
   exact List.eq_nil_of_length_eq_zero (by simpa using this)
  rw [hl0] at o4
  have hn0 := o4.n (by decide)
  intro w hw
  subst hw
  have hc := AnyF.slices_SortFunc_none (P := Tryz.prog) (ρ := sortFr_ren) { sortFr with } s4.a s4.c (.func (.func Zcv.no) #[] #[]) w
  have e0 : s4.v = .slice s4.a 0 s4.c := by
   cases s4; simp only [Sl.v] at hn0 ⊢; rw [hn0]; rfl
  rw [e0]
  refine hc.mono fun e w' ⟨he, hw'⟩ => ?_
  subst hw'
  refine ⟨_, he, ⟨(), rfl, hK s4 _ ?_ e4 fresh4⟩, .refl _⟩
  rw [hnil]; exact o4
 ·obtain ⟨z0, hz0⟩ := List.exists_mem_of_ne_nil _ hnil
  obtain ⟨la, hla⟩ := lift_list (f := fun a : { z : FZ // z ∈ x.zs ∧ z.1.name = n } => a.1.2.p) (l := (ls.map pOf).filter sel) (fun q hq => by
   obtain ⟨z, hz, e⟩ := List.mem_map.1 (hperm4.mem_iff.1 hq)
   exact ⟨⟨z, PG.of_mem.1 hz⟩, e⟩)
  haveI : Inhabited { z : FZ // z ∈ x.zs ∧ z.1.name = n } := ⟨⟨z0, PG.of_mem.1 hz0⟩⟩
  let E : Enc { z : FZ // z ∈ x.zs ∧ z.1.name = n } := ⟨1, fun a => [ptrV a.1.2.p], fun _ => rfl, fun x u hu => by simp at hu; subst hu; rfl⟩
  have hEall : ∀ l : List { z : FZ // z ∈ x.zs ∧ z.1.name = n }, E.all l = EPtr.all (l.map fun a => a.1.2.p) := by
   intro l
   induction l with
   | nil => rfl
   | cons a l ih =>
     have q1 : E.all (a :: l) = ptrV a.1.2.p :: E.all l := rfl
     have q2 : EPtr.all ((a :: l).map fun a => a.1.2.p) = ptrV a.1.2.p :: EPtr.all (l.map fun a => a.1.2.p) := rfl
     rw [q1, q2, ih]
  have oE : ∀ {A : Heap} {l : List { z : FZ // z ∈ x.zs ∧ z.1.name = n }}, SlE E Yai A s4 l ↔ SlE EPtr Yai A s4 (l.map fun a => a.1.2.p) := by
   intro A l
   unfold SlE
   rw [hEall]
   exact Iff.rfl
  have o4' : SlE E Yai H4 s4 la := by rw [oE, hla]; exact o4
  have hpg : ∀ a : { z : FZ // z ∈ x.zs ∧ z.1.name = n }, a.1.1.page < 1048577 := fun a => (h.wf.pages a.1.1 (by rw [h.fs]; exact List.mem_map.2 ⟨a.1, a.2.1, rfl⟩)).1
  let cf : { z : FZ // z ∈ x.zs ∧ z.1.name = n } → { z : FZ // z ∈ x.zs ∧ z.1.name = n } → Int := fun a b => (a.1.1.page : Int) - (b.1.1.page : Int)
  have hlt : ∀ a b, ltOf cf a b = decide (a.1.1.page < b.1.1.page) := by
   intro a b
   show decide ((a.1.1.page : Int) - (b.1.1.page : Int) < 0) = _
   rw [decide_eq_decide]; omega
  have hO : SWO (ltOf cf) := ⟨fun a => by rw [hlt]; simp, fun a b c h1 h2 => by rw [hlt] at *; simp at *; omega, fun a b c h1 h2 => by rw [hlt] at *; simp at *; omega⟩
  have hT : ∀ a b, (ltOf cf) a b = false → (ltOf cf) b a = false → a = b := by
   intro a b h1 h2
   rw [hlt] at h1 h2
   simp at h1 h2
   apply Subtype.ext
   obtain ⟨i, hi⟩ := List.mem_iff_getElem?.1 a.2.1
   obtain ⟨j, hj⟩ := List.mem_iff_getElem?.1 b.2.1
   have hk := h.wf.keys
   have := key_inj (p := s) hk (i := i) (j := j) (f := a.1.1) (g := b.1.1) (by rw [h.fs]; simp [PG.fs, hi]) (by rw [h.fs]; simp [PG.fs, hj]) (by rw [a.2.2, b.2.2]) (by omega)
   subst this
   rw [hi] at hj; exact Option.some.inj hj
  have hlal : la.length < 4611686018427387904 := by
   have : la.length = ((ls.map pOf).filter sel).length := by rw [← hla, List.length_map]
   have h2 := List.length_filter_le sel (ls.map pOf)
   omega
  refine sortFunc_spec (ρ := sortFr_ren) (E := E) (e := fun a => ptrV a.1.2.p) sortFr (fun _ => rfl) rfl hO hT of_enters o4' hlal (fun A mA a b => ?_) fun A oA mA => ?_
  ·have hFA : FramesAt A x := hF4.keep fun c hc hl => mA.same c hl fun q => by
    have := fresh4 c q
    have := h.frames.lt c hc; omega
   exact of2_spec (hFA.each a.1 a.2.1) (hFA.each b.1 b.2.1) (hpg a) (hpg b)
  ·rw [oE] at oA
   have hperm5 := List.mergeSort_perm la (fun x y => !(ltOf cf) y x)
   have heq : (la.mergeSort fun x y => !(ltOf cf) y x).map (fun a => a.1.2.p) = (x.of n).map fun z => z.2.p := by
    have hz : (la.mergeSort fun x y => !(ltOf cf) y x).map (fun a => a.1) = x.of n := by
     refine List.Perm.eq_of_pairwise (le := fun a b : FZ => a.1.page ≤ b.1.page) (fun a b ha hb h1 h2 => ?_) ?_ (x.of_sorted n) ?_
     ·obtain ⟨a', _, rfl⟩ := List.mem_map.1 ha
      have hb' := PG.of_mem.1 hb
      have := hT a' ⟨b, hb'⟩ (by rw [hlt]; simp; exact h2) (by rw [hlt]; simp; exact h1)
      exact congrArg Subtype.val this
     ·rw [List.pairwise_map]
      have := List.pairwise_mergeSort (le := fun x y => !(ltOf cf) y x) (fun a b c h1 h2 => by rw [hlt] at *; simp at *; omega) (fun a b => by rw [hlt, hlt]; simp; omega) la
      exact this.imp fun h => by rw [hlt] at h; simpa using h
     ·-- the same frames
      have hnd : (x.of n).Nodup := by
       have hz : x.zs.Nodup := by
        have := h.wf.keys
        rw [h.fs] at this
        unfold PG.fs at this
        rw [List.map_map] at this
        exact nodup_of_map _ this
       unfold PG.of
       exact (List.mergeSort_perm _ _).symm.nodup (hz.filter _)
      have hA : (la.map fun a => a.1.2.p).Perm ((x.of n).map fun z => z.2.p) := by rw [hla]; exact hperm4
      have hpp := (hperm5.map fun a => a.1.2.p).trans hA
      have inj : ∀ a ∈ (la.mergeSort fun x y => !(ltOf cf) y x).map (fun a => a.1), ∀ b ∈ x.of n, a.2.p = b.2.p → a = b := by
       intro a ha b hb e
       obtain ⟨a', _, rfl⟩ := List.mem_map.1 ha
       exact h.frames.ptr a'.2.1 (PG.of_mem.1 hb).1 e
      have hnd2 : ((x.of n).map fun z => z.2.p).Nodup := by
       unfold List.Nodup
       rw [List.pairwise_map]
       refine List.Pairwise.imp_of_mem (fun {a b} ha hb hne e => hne (h.frames.ptr (PG.of_mem.1 ha).1 (PG.of_mem.1 hb).1 e)) hnd
      have hpp' : (((la.mergeSort fun x y => !(ltOf cf) y x).map fun a => a.1).map fun z => z.2.p).Perm ((x.of n).map fun z => z.2.p) := by rw [List.map_map]; exact hpp
      have hndA : ((la.mergeSort fun x y => !(ltOf cf) y x).map fun a => a.1).Nodup := nodup_of_map _ (hpp'.symm.nodup hnd2)
      rw [List.perm_ext_iff_of_nodup hndA hnd]
      intro z
      constructor
      ·intro hz
       obtain ⟨a', _, rfl⟩ := List.mem_map.1 hz
       exact PG.of_mem.2 a'.2
      ·intro hz
       have : z.2.p ∈ ((la.mergeSort fun x y => !(ltOf cf) y x).map fun a => a.1).map fun z => z.2.p := hpp'.mem_iff.2 (List.mem_map.2 ⟨z, hz, rfl⟩)
       obtain ⟨y, hy, e⟩ := List.mem_map.1 this
       rw [← inj y hy z hz e]; exact hy
    rw [← hz, List.map_map]; rfl
   rw [heq] at oA
   refine hK s4 A oA ⟨by have := e4.size; have := mA.size; omega, fun b hb _ => (mA.same b (by have := e4.size; omega) (fun q => by have := fresh4 b q; omega)).trans (e4.same b hb id)⟩ fresh4
end Go.Proofs.YtkehfflpbpdokaaGreat
namespace Go.Proofs.YtkehfflpbpdokaaGreat
open Go.MapKept
theorem Pl.pagesOf_length (s : Pl) (n : ByteArray) : (s.pagesOf n).length ≤ s.fs.length := by
 unfold Pl.pagesOf
 rw [List.length_mergeSort, List.length_map]
 exact List.length_filter_le _ _
end Go.Proofs.YtkehfflpbpdokaaGreat
namespace Go.Proofs.YtkehfflpbpdokaaGreat
theorem map_modify_all {α β : Type} (f : α → β) (u : α → α) (hu : ∀ x, f (u x) = f x) : ∀ (l : List α) (i : Nat), (l.modify i u).map f = l.map f
 | [], i => by simp
 | a :: l, 0 => by simp [hu]
 | a :: l, i + 1 => by simp [map_modify_all f u hu l i]
theorem Pl.met_d [Tab] (p : Pl) (e : Int) : (p.met e).d = p.d ∧ (p.met e).fs = p.fs ∧ (p.met e).next = p.next ∧ (p.met e).most = p.most := by
 unfold Pl.met; split <;> exact ⟨rfl, rfl, rfl, rfl⟩
theorem Pl.load_fst [Tab] (p : Pl) (n : ByteArray) (k : Int) : (p.load n k).1 = p ∨ (p.load n k).1 = p.room.1 := by
 unfold Pl.load
 split
 ·exact .inl rfl
 ·split
  ·exact .inl rfl
  ·split
   ·exact .inr rfl
   ·split
    ·exact .inr rfl
    ·split <;> exact .inr rfl
theorem Pl.pin_logs [Tab] (p : Pl) (n : ByteArray) (k : Int) : (p.pin n k).1.d.logs ≤ p.d.logs + 1 := by
 unfold Pl.pin
 split
 ·exact Nat.le_succ _
 ·split
  ·exact Nat.le_succ _
  ·have h : (p.load n k).1.d.logs ≤ p.d.logs + 1 := by
    rcases p.load_fst n k with e | e
    ·rw [e]; exact Nat.le_succ _
    ·rw [e]; exact p.room_logs
   split
   ·rename_i q f e he; rw [he] at h; exact h
   ·rename_i q e he; rw [he] at h; show (q.met e).d.logs ≤ _; rw [(q.met_d e).1]; exact h
theorem Pl.fresh_logs [Tab] (p : Pl) (n : ByteArray) : (p.fresh n).1.d.logs ≤ p.d.logs + 2 := by
 have hr := p.room_logs
 have hw := p.room.1.d.write_logs n (p.d.len n).1 (sealP 0 [])
 unfold Pl.fresh
 split
 ·show p.d.logs ≤ _; omega
 ·split
  ·show (p.met _).d.logs ≤ _; rw [(p.met_d _).1]; omega
  ·split
   ·show (p.room.1.met _).d.logs ≤ _; rw [(p.room.1.met_d _).1]; omega
   ·split
    ·show ((p.room.1.setD _).met _).d.logs ≤ _
     rw [((p.room.1.setD _).met_d _).1]
     show (p.room.1.d.write _ _ _).1.logs ≤ _; omega
    ·show (p.room.1.d.write _ _ _).1.logs ≤ _; omega
theorem Pl.out_d [Tab] (r : Pl × Int) : (Pl.out r).1.d = r.1.d := (r.1.met_d r.2).1
theorem Pl.set_d [Tab] (p : Pl) (h : Int) (k : UInt8) (b : List UInt8) : (p.set h k b).1.d = p.d := by
 unfold Pl.set
 split
 ·rfl
 ·split
  ·split <;> rfl
  ·rfl
theorem Pl.unpin_d [Tab] (p : Pl) (h : Int) : (p.unpin h).1.d = p.d := by
 unfold Pl.unpin
 split
 ·rfl
 ·split <;> rfl
theorem Pl.dropF_logs [Tab] (p : Pl) (n : ByteArray) : (p.dropF n).1.d.logs ≤ p.d.logs := by
 have := p.d.remove_logs n
 unfold Pl.dropF
 split
 ·exact Nat.le_refl _
 ·split
  ·rw [Pl.out_d]; exact Nat.le_refl _
  ·split
   ·exact Nat.le_refl _
   ·rw [Pl.out_d]; exact this
theorem Pl.load_cases [Tab] (s : Pl) (n : ByteArray) (k : Int) : (∃ e, s.load n k = (s, none, e)) ∨ (∃ e, s.load n k = (s.room.1, none, e)) ∨ ∃ f, s.load n k = (s.room.1, some f, 0) ∧ f.name = n ∧ (f.page : Int) = k ∧ (s.room.1.d.read n k).2 = 0 := by
 unfold Pl.load
 split
 ·exact .inl ⟨_, rfl⟩
 ·split
  ·exact .inl ⟨_, rfl⟩
  ·rename_i hk
   split
   ·exact .inr (.inl ⟨_, rfl⟩)
   ·split
    ·exact .inr (.inl ⟨_, rfl⟩)
    ·rename_i hr
     split
     ·exact .inr (.inl ⟨_, rfl⟩)
     ·exact .inr (.inr ⟨_, rfl, rfl, by show ((k.toNat : Nat) : Int) = k; omega, by simpa using hr⟩)
theorem w64_up {x : Int} (h0 : 0 ≤ x) (h1 : x < 1099511627776) : w64 (x + 1) = x + 1 := by unfold w64; exact wrap64 (by omega) (by omega)
theorem Pl.pinAt_next [Tab] (s : Pl) (i : Nat) (h0 : 0 ≤ s.next) (h1 : s.next < 1099511627776) : (s.pinAt i).next = s.next + 1 := w64_up h0 h1
theorem Pl.take_next [Tab] (s : Pl) (f : Fr) (h0 : 0 ≤ s.next) (h1 : s.next < 1099511627776) : (s.take f).next = s.next + 1 := w64_up h0 h1
theorem Pl.pin_next [Tab] {s : Pl} {n : ByteArray} {k : Int} (h0 : 0 ≤ s.next) (h1 : s.next < 1099511627776) : (s.pin n k).1.next ≤ s.next + 1 := by
 unfold Pl.pin
 split
 ·show s.next ≤ _; omega
 ·split
  ·rw [Pl.pinAt_next s _ h0 h1]; omega
  ·rcases s.load_cases n k with ⟨e, he⟩ | ⟨e, he⟩ | ⟨f, he, _⟩
   ·rw [he]; show (s.met e).next ≤ _; rw [(s.met_d e).2.2.1]; omega
   ·rw [he]; show (s.room.1.met e).next ≤ _; rw [(s.room.1.met_d e).2.2.1, s.room_same.2.1]; omega
   ·rw [he]; show (s.room.1.take f).next ≤ _; rw [Pl.take_next _ _ (by rw [s.room_same.2.1]; exact h0) (by rw [s.room_same.2.1]; exact h1), s.room_same.2.1]; omega
theorem Pl.fresh_next [Tab] {s : Pl} {n : ByteArray} (h0 : 0 ≤ s.next) (h1 : s.next < 1099511627776) : (s.fresh n).1.next ≤ s.next + 1 := by
 have hr := s.room_same.2.1
 unfold Pl.fresh
 split
 ·show s.next ≤ _; omega
 ·split
  ·show (s.met _).next ≤ _; rw [(s.met_d _).2.2.1]; omega
  ·split
   ·show (s.room.1.met _).next ≤ _; rw [(s.room.1.met_d _).2.2.1, hr]; omega
   ·split
    ·show ((s.room.1.setD _).met _).next ≤ _
     rw [((s.room.1.setD _).met_d _).2.2.1]
     show s.room.1.next ≤ _; rw [hr]; omega
    ·show ((s.room.1.setD _).take _).next ≤ _
     rw [Pl.take_next _ _ (by show 0 ≤ s.room.1.next; rw [hr]; exact h0) (by show s.room.1.next < _; rw [hr]; exact h1)]
     show s.room.1.next + 1 ≤ _; rw [hr]; omega
theorem Pl.set_next [Tab] (s : Pl) (c : Int) (k : UInt8) (b : List UInt8) : (s.set c k b).1.next = s.next := by
 unfold Pl.set
 split
 ·rfl
 ·split
  ·split <;> rfl
  ·rfl
def Pl.leave (r : Pl × Int) (h : Int) : Pl × Int := if r.2 = 0 then r.1.unpin h else r
def Pl.more [Tab] (p : Pl) (n : ByteArray) (k : UInt8) (b : List UInt8) : Pl × Int :=
 if (p.fresh n).2.2.2 ≠ 0 then ((p.fresh n).1, (p.fresh n).2.2.2)
 else Pl.leave (if k = 0 then ((p.fresh n).1, 0) else (p.fresh n).1.set (p.fresh n).2.1 k b) (p.fresh n).2.1
def Pl.look [Tab] (p : Pl) (n : ByteArray) (g : Int) : Pl × UInt8 × List UInt8 × Int :=
 if (p.pin n g).2.2 ≠ 0 then ((p.pin n g).1, 0, [], (p.pin n g).2.2)
 else if ((p.pin n g).1.get (p.pin n g).2.1).2.2 ≠ 0 then ((p.pin n g).1, (p.pin n g).1.get (p.pin n g).2.1)
 else (((p.pin n g).1.unpin (p.pin n g).2.1).1, ((p.pin n g).1.get (p.pin n g).2.1).1, ((p.pin n g).1.get (p.pin n g).2.1).2.1, ((p.pin n g).1.unpin (p.pin n g).2.1).2)
theorem openP_room [Tab] {p : List UInt8} {k : UInt8} {b : List UInt8} (h : openP p = some (k, b)) : b.length ≤ 504 := by
 unfold openP at h
 split at h
 ·rename_i hc
  cases h
  have hl := hc.1
  rw [List.length_take]
  omega
 ·cases h
section
variable {p : Pl} {n : ByteArray} {N q : Nat} {T : Nat → UInt8 × List UInt8}
end
theorem SameRow_okB {a b : Sl} {la lb : List Int} {H : Heap} {K : Bool → Heap → Prop} (ha : Ints .u64 H a la) (hb : Ints .u64 H b lb) (hlen : la.length < 4611686018427387904) (hK : K (decide (la = lb)) H) : ZbQ.sp a b H K := by
 refine ZbQ.of ?_
 unfold ZbQ.vc
 have la1 := ha.len
 have lb1 := hb.len
 refine br_mk (fun h => ?_) (fun h => ?_)
 ·have h1 : la ≠ lb := by intro e; subst e; simp [la1, lb1] at h
  simpa [h1] using hK
 ·have h' : (a.n : Int) = (b.n : Int) := by simpa using h
  have hl : la.length = lb.length := by omega
  refine ⟨Nat, fun k i H' => i = (k : Int) ∧ k ≤ la.length ∧ H' = H ∧ la.take k = lb.take k, fun k => la.length - k, ⟨0, rfl, Nat.zero_le _, rfl, by simp⟩, ?_⟩
  rintro k i H' ⟨rfl, hk, rfl, ht⟩
  refine br_mk (fun h1 => ?_) (fun h1 => ?_)
  ·have h1' : (k : Int) < (a.n : Int) := by simpa using h1
   have hlt : k < la.length := by omega
   refine ha.ld (by omega) (by omega) fun ad1 e1 => ?_
   refine hb.ld (by omega) (by omega) fun ad2 e2 => ?_
   simp only [Int.toNat_natCast]
   refine br_mk (fun h2 => ?_) (fun h2 => ?_)
   ·have h3 : la ≠ lb := by intro e; subst e; simp at h2
    simpa [h3] using hK
   ·refine ⟨k + 1, ⟨by rw [wrap64 (by omega) (by omega)]; omega, by omega, by trivial, ?_⟩, by omega⟩
    rw [List.take_succ_eq_append_getElem hlt, List.take_succ_eq_append_getElem (by omega : k < lb.length), ht]
    have : la[k]'hlt = lb[k]'(by omega) := by simpa [List.getD, List.getElem?_eq_getElem hlt, List.getElem?_eq_getElem (by omega : k < lb.length)] using h2
    rw [this]
  ·have h1' : ¬ ((k : Int) < (a.n : Int)) := by simpa using h1
   have hge : k = la.length := by omega
   subst hge
   have h2 : la = lb := by rw [List.take_of_length_le (Nat.le_refl _), List.take_of_length_le (by omega)] at ht; exact ht
   simpa [h2] using hK
theorem SameRow_ok {a b : Sl} {la lb : List Int} {H : Heap} {K : Bool → Heap → Prop} (ha : Ints .u64 H a la) (hb : Ints .u64 H b lb) (hlen : la.length < 1099511627776) (hK : K (decide (la = lb)) H) : ZbQ.sp a b H K := SameRow_okB ha hb (by omega) hK
theorem elU64 : El Tryz.prog YaB YaJ 8 (.int .u64 0) := El_of (zb := isInt0 .u64) isInt0_eq rfl (by kernel_rfl)
theorem elU8 : El Tryz.prog YaG YaL 1 (.int .u8 0) := El_of (zb := isInt0 .u8) isInt0_eq rfl (by kernel_rfl)
theorem elRow : El Tryz.prog Yam YaB 24 (.slice none 0 0) := El_of (zb := isSl0) isSl0_eq rfl (by kernel_rfl)
def cmpL : List Int → List Int → Int
 | [], [] => 0
 | [], _ :: _ => -1
 | _ :: _, [] => 1
 | x :: a, y :: b => if x < y then -1 else if y < x then 1 else cmpL a b
theorem cmpL_zero : ∀ {a b : List Int}, cmpL a b = 0 ↔ a = b
 | [], [] => by simp [cmpL]
 | [], _ :: _ => by simp [cmpL]
 | _ :: _, [] => by simp [cmpL]
 | x :: a, y :: b => by
   unfold cmpL
   have ih := @cmpL_zero a b
   split
   ·simp; intro h; omega
   ·split
    ·simp; intro h; omega
    ·rw [ih]; simp; intro; omega
theorem cmpL_swap : ∀ (a b : List Int), cmpL b a = - cmpL a b
 | [], [] => by simp [cmpL]
 | [], _ :: _ => by simp [cmpL]
 | _ :: _, [] => by simp [cmpL]
 | x :: a, y :: b => by
   have ih := cmpL_swap a b
   simp only [cmpL]
   split
   ·rw [if_neg (by omega)]; try rfl
   ·split
    ·rfl
    ·exact ih
theorem drop_cons {l : List Int} {k : Nat} (h : k < l.length) : l.drop k = l.getD k 0 :: l.drop (k + 1) := by
 rw [List.drop_eq_getElem_cons h]; simp [List.getD, List.getElem?_eq_getElem h]
theorem refCmp_ok {a b : Sl} {la lb : List Int} {H : Heap} {K : Int → Heap → Prop} (ha : Ints .u64 H a la) (hb : Ints .u64 H b lb) (hlen : la.length < 1099511627776) (hK : K (cmpL la lb) H) : Zcw.sp a b H K := by
 refine Zcw.of ?_
 unfold Zcw.vc
 have la1 := ha.len
 have lb1 := hb.len
 refine loop_upto la.length (fun k i H' => i = (k : Int) ∧ k ≤ lb.length ∧ H' = H ∧ cmpL la lb = cmpL (la.drop k) (lb.drop k)) ⟨rfl, Nat.zero_le _, rfl, by simp⟩ ?_
 rintro k i H' next hk ⟨rfl, hkb, rfl, hc⟩ hnext
 refine br_mk (fun h => ?_) (fun h => ?_)
 ·simp only [Bool.and_eq_true, decide_eq_true_eq] at h
  have h1 : k < la.length := by omega
  have h2 : k < lb.length := by omega
  rw [drop_cons h1, drop_cons h2, cmpL] at hc
  refine ha.ld (by omega) (by omega) fun ad1 e1 => ?_
  refine hb.ld (by omega) (by omega) fun ad2 e2 => ?_
  simp only [Int.toNat_natCast]
  refine br_mk (fun h3 => ?_) (fun h3 => ?_)
  ·have h3' : la.getD k 0 < lb.getD k 0 := by simpa using h3
   rw [if_pos h3'] at hc; rw [← hc]; exact hK
  ·have h3' : ¬ la.getD k 0 < lb.getD k 0 := by simpa using h3
   rw [if_neg h3'] at hc
   refine ha.ld (by omega) (by omega) fun ad3 e3 => ?_
   refine hb.ld (by omega) (by omega) fun ad4 e4 => ?_
   simp only [Int.toNat_natCast]
   refine br_mk (fun h4 => ?_) (fun h4 => ?_)
   ·have h4' : lb.getD k 0 < la.getD k 0 := by simpa using h4
    rw [if_pos h4'] at hc; rw [← hc]; exact hK
   ·have h4' : ¬ lb.getD k 0 < la.getD k 0 := by simpa using h4
    rw [if_neg h4'] at hc
    exact hnext h1 _ _ ⟨by rw [succ64 k (by omega)], h2, rfl, hc⟩
 ·have h' : la.length ≤ k ∨ lb.length ≤ k := by
   simp only [Bool.and_eq_false_iff, decide_eq_false_iff_not] at h
   omega
  have e : cmpL la lb = if la.length < lb.length then -1 else if la.length > lb.length then 1 else 0 := by
   rw [hc]
   rcases h' with h' | h'
   ·rw [List.drop_of_length_le h']
    cases hd : lb.drop k with
    | nil =>
      have := List.drop_eq_nil_iff.1 hd
      rw [if_neg (by omega), if_neg (by omega)]; rfl
    | cons y r =>
      have := List.length_drop (i := k) (l := lb)
      rw [hd] at this; simp at this
      rw [if_pos (by omega)]; rfl
   ·rw [List.drop_of_length_le h']
    cases hd : la.drop k with
    | nil =>
      have := List.drop_eq_nil_iff.1 hd
      rw [if_neg (by omega), if_neg (by omega)]; rfl
    | cons y r =>
      have := List.length_drop (i := k) (l := la)
      rw [hd] at this; simp at this
      rw [if_neg (by omega), if_pos (by omega)]; rfl
  rw [e] at hK
  refine br_mk (fun h3 => ?_) (fun h3 => ?_)
  ·rw [if_pos (by simp at h3; omega)] at hK; exact hK
  ·rw [if_neg (by simp at h3; omega)] at hK
   refine br_mk (fun h4 => ?_) (fun h4 => ?_)
   ·rw [if_pos (by simp at h4; omega)] at hK; exact hK
   ·rw [if_neg (by simp at h4; omega)] at hK; exact hK
theorem slicesEqual_ok {a b : Sl} {la lb : List Int} {H : Heap} {K : Bool → Heap → Prop} (ha : Ints .u64 H a la) (hb : Ints .u64 H b lb) (hlen : la.length < 1099511627776) (hK : K (decide (la = lb)) H) : ZaX.sp a b H K := by
 refine ZaX.of ?_
 have := SameRow_ok ha hb hlen hK
 unfold ZaX.vc
 have la1 := ha.len
 have lb1 := hb.len
 refine br_mk (fun h => ?_) (fun h => ?_)
 ·have h1 : la ≠ lb := by intro e; subst e; simp [la1, lb1] at h
  simpa [h1] using hK
 ·have h' : (a.n : Int) = (b.n : Int) := by simpa using h
  have hl : la.length = lb.length := by omega
  refine loop_upto la.length (fun k i H' => i = (k : Int) ∧ H' = H ∧ la.take k = lb.take k) ⟨rfl, rfl, by simp⟩ ?_
  rintro k i H' next hk ⟨rfl, rfl, ht⟩ hnext
  refine br_mk (fun h1 => ?_) (fun h1 => ?_)
  ·have hlt : k < la.length := by simp at h1; omega
   refine ha.ld (by omega) (by omega) fun ad1 e1 => ?_
   refine hb.ld (by omega) (by omega) fun ad2 e2 => ?_
   simp only [Int.toNat_natCast]
   refine br_mk (fun h2 => ?_) (fun h2 => ?_)
   ·have h3 : la ≠ lb := by intro e; subst e; simp at h2
    simpa [h3] using hK
   ·refine hnext hlt _ _ ⟨by rw [succ64 k (by omega)], rfl, ?_⟩
    rw [List.take_succ_eq_append_getElem hlt, List.take_succ_eq_append_getElem (by omega : k < lb.length), ht]
    have : la[k]'hlt = lb[k]'(by omega) := by simpa [List.getD, List.getElem?_eq_getElem hlt, List.getElem?_eq_getElem (by omega : k < lb.length)] using h2
    rw [this]
  ·have hge : k = la.length := by simp at h1; omega
   subst hge
   have h2 : la = lb := by rw [List.take_of_length_le (Nat.le_refl _), List.take_of_length_le (by omega)] at ht; exact ht
   simpa [h2] using hK
def sizeL (w : Int) : Int := if w < 0 ∨ w > 16 then 0 else if w = 0 then 1 else 8 * w
theorem rowSize_ok {w : Int} {H : Heap} {K : Int → Heap → Prop} (hK : K (sizeL w) H) : Zds.sp w H K := by
 refine Zds.of ?_
 unfold Zds.vc
 unfold sizeL at hK
 refine br_mk (fun h => ?_) (fun h => ?_)
 ·have h' : w < 0 := by simpa using h
  rw [if_pos (.inl h')] at hK
  simpa [h', br] using hK
 ·have h' : ¬ w < 0 := by simpa using h
  refine br_mk (fun h2 => ?_) (fun h2 => ?_)
  ·rw [if_pos (.inr (by simpa using h2))] at hK; exact hK
  ·have h2' : ¬ w > 16 := by simpa using h2
   rw [if_neg (by omega)] at hK
   refine br_mk (fun h3 => ?_) (fun h3 => ?_)
   ·rw [if_pos (by simpa using h3)] at hK; exact hK
   ·rw [if_neg (by simpa using h3)] at hK
    rw [wrap64 (by omega) (by omega)]; exact hK
def roomL (w : Int) : Int := if sizeL w = 0 then 0 else Int.tdiv 504 (sizeL w)
theorem sizeL_cases (w : Int) : sizeL w = 0 ∨ (0 < sizeL w ∧ sizeL w ≤ 128) := by
 unfold sizeL; split
 ·simp
 ·split
  ·simp
  ·right; omega
theorem roomL_bound (w : Int) : IntKind.i64.wrap (Int.tdiv 504 (sizeL w)) = Int.tdiv 504 (sizeL w) := by
 have h0 := Int.tdiv_nonneg (a := 504) (b := sizeL w) (by omega) (by rcases sizeL_cases w with h | h <;> omega)
 have h1 : Int.tdiv 504 (sizeL w) ≤ 504 := by
  rcases sizeL_cases w with h | h
  ·rw [h]; simp
  ·exact Int.tdiv_le_self _ (by omega)
 exact wrap64 (by omega) (by omega)
theorem rowRoom_ok {w : Int} {H : Heap} {K : Int → Heap → Prop} (hK : K (roomL w) H) : Zdq.sp w H K := by
 refine Zdq.of ?_
 unfold Zdq.vc
 refine rowSize_ok ?_
 unfold roomL at hK
 have hc := sizeL_cases w
 refine br_mk (fun h => ?_) (fun h => ?_)
 ·have h' : sizeL w > 0 := by simpa using h
  rw [if_neg (by omega)] at hK
  refine ⟨by omega, ?_⟩
  rw [roomL_bound]; exact hK
 ·have h' : ¬ sizeL w > 0 := by simpa using h
  rw [if_pos (by omega)] at hK; exact hK
def turnOK (l cols : List Int) : Bool := cols.all fun c => decide (0 ≤ c) && decide (c < (l.length : Int))
def turnL (l cols : List Int) : List Int := if turnOK l cols then cols.map fun c => l.getD c.toNat 0 else []
def turnE (l cols : List Int) : Int := if turnOK l cols then 0 else 2
theorem turnOK_at {l cols : List Int} {k : Nat} (hk : k < cols.length) (hb : ¬ (0 ≤ cols.getD k 0 ∧ cols.getD k 0 < (l.length : Int))) : turnOK l cols = false := by
 unfold turnOK
 rw [List.all_eq_false]
 refine ⟨cols[k], List.getElem_mem _, ?_⟩
 simp [List.getD, List.getElem?_eq_getElem hk] at hb
 simpa using hb
theorem turnOK_take {l cols : List Int} {k : Nat} (hk : k < cols.length) (h : turnOK l (cols.take k) = true) (h1 : 0 ≤ cols.getD k 0) (h2 : cols.getD k 0 < (l.length : Int)) : turnOK l (cols.take (k + 1)) = true := by
 unfold turnOK at h ⊢
 rw [List.take_succ_eq_append_getElem hk, List.all_append, h]
 simp [List.getD, List.getElem?_eq_getElem hk] at h1 h2
 simp [h1, h2]
theorem take_map_succ {cols : List Int} {k : Nat} (f : Int → Value) (hk : k < cols.length) : (cols.take (k + 1)).map f = (cols.take k).map f ++ [f (cols.getD k 0)] := by
 rw [List.take_succ_eq_append_getElem hk, List.map_append]
 simp only [List.map_cons, List.map_nil, List.getD, List.getElem?_eq_getElem hk, Option.getD_some]
theorem rowTurn_ok {l cols : Sl} {ll lc : List Int} {H : Heap} {K : (Sl × Int) → Heap → Prop} (hl : Ints .u64 H l ll) (hc : Ints .i64 H cols lc) (hlen : lc.length ≤ 1000000)
  (hK : ∀ s H', Owns H' H.size YaJ 1 s ((turnL ll lc).map (Value.int .u64)) → Ext H H' → K (s, turnE ll lc) H') : Zdn.sp l cols H K := by
 refine Zdn.of ?_
 unfold Zdn.vc
 have ln := hl.len
 have cn := hc.len
 refine elU64.make (base := H.size) (by omega) (by omega) (by omega) (by omega) (Nat.le_refl _) ?_
 intro out H1 n1 o1 e1 b1 _
 refine loop_upto lc.length (fun k z H' => z.2 = (k : Int) ∧ z.1.n = k ∧ turnOK ll (lc.take k) = true ∧ Owns H' H.size YaJ 1 z.1 ((lc.take k).map fun c => Value.int .u64 (ll.getD c.toNat 0)) ∧ Ext H H') ⟨rfl, by simpa using n1, by simp [turnOK], by simpa using o1, e1⟩ ?_
 rintro k ⟨s, i⟩ H2 next hk ⟨hi, hn, hok, o2, e2⟩ hnext
 simp only at hi hn o2 ⊢
 subst hi
 refine br_mk (fun h => ?_) (fun h => ?_)
 ·have hlt : k < lc.length := by simp at h; omega
  refine (hc.ext e2).ld (by omega) (by omega) fun ad1 q1 => ?_
  simp only [Int.toNat_natCast]
  refine br_mk (fun h2 => ?_) (fun h2 => ?_)
  ·have h2' : ¬ (0 ≤ lc.getD k 0 ∧ lc.getD k 0 < (ll.length : Int)) := by simp at h2 ⊢; omega
   have hf := turnOK_at hlt h2'
   have := hK (Sl.mk none 0 0) H2 (by unfold turnL; rw [hf]; exact Owns.nil _ _ _ _) e2
   unfold turnE at this
   rw [hf] at this
   exact this
  ·have h2' : 0 ≤ lc.getD k 0 ∧ lc.getD k 0 < (ll.length : Int) := by simp at h2 ⊢; omega
   refine (hl.ext e2).ld h2'.1 h2'.2 fun ad2 q2 => ?_
   refine elU64.push (base := H.size) o2 rfl (by omega) (by omega) e2.size ?_
   intro s' H3 n3 o3 m3 b3 _
   refine hnext hlt _ _ ⟨by rw [succ64 k (by omega)], by simp only; omega, turnOK_take hlt hok h2'.1 h2'.2, ?_, (e2.mod (F := ownB s).trans m3).ext (fun b hb => (o2.block b hb).1)⟩
   simp only
   rw [take_map_succ (fun c => Value.int .u64 (ll.getD c.toNat 0)) hlt]; exact o3
 ·have hge : k = lc.length := by simp at h; omega
  subst hge
  rw [List.take_of_length_le (Nat.le_refl _)] at hok o2
  have := hK s H2 (by unfold turnL; rw [hok, if_pos rfl, List.map_map]; exact o2) e2
  unfold turnE at this
  rw [hok] at this
  exact this
structure Rows (H : Heap) (s : Sl) (ls : List (List Int)) : Prop where
 len : s.n = ls.length
 at' : ∀ i (h : i < ls.length), ∃ ad r, s.a = some ad ∧ hCell H (ad.add i) = some (Sl.v r) ∧ Ints .u64 H r ls[i]
theorem Rows.ld {H : Heap} {s : Sl} {ls : List (List Int)} (h : Rows H s ls) {i : Nat} (hi : i < ls.length) {K : Addr → Sl → Prop} (hK : ∀ ad r, s.a = some ad → Ints .u64 H r (ls[i]'hi) → K ad r) :
  optK s.a fun a => (0 ≤ (i : Int) ∧ (i : Int) < (s.n : Int)) ∧ ld cSl H (a.add ((i : Int).toNat * 1)) fun x => K a x := by
 obtain ⟨ad, r, e, hc, hr⟩ := h.at' i hi
 refine optK_mk ad e ⟨⟨by omega, by rw [h.len]; omega⟩, r, ?_, hK ad r e hr⟩
 simp only [Int.toNat_natCast, Nat.mul_one]
 exact hc
def byteL (n : Int) (k : Nat) : Int := IntKind.u8.wrap (ishr .u64 n (56 - 8 * (k : Int)))
def wordL (n : Int) : List Int := (List.range 8).map (byteL n)
def putL (l : List Int) : List Int := if l = [] then [0] else l.flatMap wordL
theorem wordL_length (n : Int) : (wordL n).length = 8 := by simp [wordL]
theorem flat_length : ∀ (l : List Int), (l.flatMap wordL).length = 8 * l.length
 | [] => rfl
 | x :: r => by rw [List.flatMap_cons, List.length_append, wordL_length, flat_length r]; simp; omega
theorem wordL_take_succ (n : Int) {k : Nat} (hk : k < 8) : (wordL n).take (k + 1) = (wordL n).take k ++ [byteL n k] := by
 rw [List.take_succ_eq_append_getElem (by rw [wordL_length]; exact hk)]
 simp [wordL]
theorem flat_take_succ {l : List Int} {k : Nat} (hk : k < l.length) : (l.take (k + 1)).flatMap wordL = (l.take k).flatMap wordL ++ wordL (l.getD k 0) := by
 rw [List.take_succ_eq_append_getElem hk, List.flatMap_append]
 simp only [List.flatMap_cons, List.flatMap_nil, List.append_nil, List.getD, List.getElem?_eq_getElem hk, Option.getD_some]
theorem zc_word : zc Tryz.prog YaH = Array.replicate 8 (.int .u8 0) := by kernel_rfl
theorem size_word : sizeB Tryz.prog YaH 8 = true := by kernel_rfl
theorem wordOf_ok {n : Int} {H : Heap} {K : Array Value → Heap → Prop} (hK : ∀ H', Ext H H' → K ((wordL n).map (Value.int .u8)).toArray H') : Zdc.sp (zc Tryz.prog YaH) n H K := by
 refine Zdc.of ?_
 unfold Zdc.vc
 rw [zc_word]
 refine newC_row fun p H1 hp s1 r1 e1 => ?_
 refine newC_row fun q H2 hq s2 r2 e2 => ?_
 have hpq : p.block ≠ q.block := by omega
 refine loop_upto 8 (fun k z H' => z = (k : Int) ∧ (∃ cs : List Value, cs.length = 8 ∧ cs.take k = ((wordL n).take k).map (Value.int .u8) ∧ RowV H' p cs.toArray) ∧ RowV H' q (Array.replicate 8 (.int .u8 0)) ∧ Ext H H') ⟨rfl, ⟨List.replicate 8 (.int .u8 0), by simp, by simp, r1.mod e2 id⟩, r2, e1.trans e2⟩ ?_
 rintro k z H3 next hk ⟨rfl, ⟨cs, hl, ht, r3⟩, q3, e3⟩ hnext
 refine br_mk (fun h => ?_) (fun h => ?_)
 ·have hlt : k < 8 := by simp at h; omega
  rw [wrap64 (x := 8 * (k : Int)) (by omega) (by omega), wrap64 (by omega) (by omega)]
  refine ⟨by omega, by omega, ?_⟩
  simp only [Int.toNat_natCast, Nat.mul_one]
  refine r3.st (by simp; omega) rfl fun H4 r4 m4 _ => ?_
  refine hnext hlt _ _ ⟨by rw [succ64 k (by omega)], ⟨cs.set k (.int .u8 (byteL n k)), by simpa using hl, ?_, by rw [← List.setIfInBounds_toArray]; exact r4⟩, q3.mod m4 (fun hh => hpq hh.symm), ?_⟩
  ·rw [wordL_take_succ n hlt, List.map_append, ← ht, List.take_succ_eq_append_getElem (by simpa [hl] using hlt)]
   simp [List.take_set]
   rw [List.set_eq_of_length_le (by simp; omega)]
  ·exact ⟨Nat.le_trans e3.size m4.size, fun b hb _ => (m4.same b (Nat.lt_of_lt_of_le hb e3.size) (by omega)).trans (e3.same b hb id)⟩
 ·have hge : k = 8 := by simp at h; omega
  subst hge
  rw [List.take_of_length_le (by omega), List.take_of_length_le (by rw [wordL_length]; omega)] at ht
  subst ht
  refine r3.ldA (by simp [wordL_length]) ?_
  refine q3.stAll (by simpa [wordL_length] using size_word) (by simp [wordL_length]) (by simp [Value.oneCell']) fun H5 r5 m5 _ => ?_
  refine r5.ldA (by simp [wordL_length]) ?_
  exact hK _ ⟨Nat.le_trans e3.size m5.size, fun b hb _ => (m5.same b (Nat.lt_of_lt_of_le hb e3.size) (by omega)).trans (e3.same b hb id)⟩
theorem one_u8 {H : Heap} : Owns (H.push (.cells #[.int .u8 0] YaL)) H.size YaL 1 ⟨some ⟨H.size, 0, none⟩, 1, 1⟩ ([(0 : Int)].map (Value.int .u8)) :=
 Owns.fresh (Nat.le_refl _) (Nat.le_refl _) (by unfold maxLen; omega) rfl rfl rfl
theorem rowPut_ok {l : Sl} {ll : List Int} {H : Heap} {K : Sl → Heap → Prop} (hl : Ints .u64 H l ll) (hlen : ll.length ≤ 1000000)
  (hK : ∀ s H', Owns H' H.size YaL 1 s ((putL ll).map (Value.int .u8)) → Ext H H' → K s H') : Zdt.sp l H K := by
 refine Zdt.of ?_
 unfold Zdt.vc
 have ln := hl.len
 refine br_mk (fun h => ?_) (fun h => ?_)
 ·have h' : ll = [] := List.eq_nil_of_length_eq_zero (by simp at h; omega)
  refine hK _ _ ?_ (Mod.push _ _ _)
  unfold putL
  rw [if_pos h']
  exact one_u8
 ·have h' : ll ≠ [] := by intro e; subst e; simp at ln; simp [ln] at h
  unfold putL at hK
  rw [if_neg h'] at hK
  rw [wrap64 (by omega) (by omega)]
  refine elU8.make (base := H.size) (by omega) (by omega) (by omega) (by omega) (Nat.le_refl _) ?_
  intro out H1 n1 o1 e1 b1 _
  refine loop_upto ll.length (fun k z H' => z.2 = (k : Int) ∧ z.1.n = 8 * k ∧ Owns H' H.size YaL 1 z.1 (((ll.take k).flatMap wordL).map (Value.int .u8)) ∧ Ext H H') ⟨rfl, by simpa using n1, by simpa using o1, e1⟩ ?_
  rintro k ⟨s, i⟩ H2 next hk ⟨hi, hn, o2, e2⟩ hnext
  simp only at hi hn o2 ⊢
  subst hi
  refine br_mk (fun h => ?_) (fun h => ?_)
  ·have hlt : k < ll.length := by simp at h; omega
   refine (hl.ext e2).ld (by omega) (by omega) fun ad1 q1 => ?_
   simp only [Int.toNat_natCast]
   refine wordOf_ok fun H3 e3 => ?_
   rw [zc_word]
   refine newC_row fun p H4 hp s4 r4 e4 => ?_
   refine r4.stAll (by simpa [wordL_length] using size_word) (by simp [wordL_length]) (by simp [Value.oneCell']) fun H5 r5 m5 s5 => ?_
   have e34 : Ext H2 H4 := e3.trans e4
   have e25 : Ext H2 H5 := (e34.mod (F := fun b => b = p.block).trans m5).ext (fun b hb => by have := e3.size; omega)
   rw [slA_zero]
   refine elU8.append (base := H.size) (s := s) (x := ⟨some p, 8 - 0, 8 - 0⟩) (ws := (wordL (ll.getD k 0)).map (Value.int .u8)) (o2.ext e25) (by simp [wordL_length]) (by simpa using r5.reads) (intsOne _ _) (by simp only; omega) (by simp only; omega) (e2.trans e25).size ?_
   intro s' H6 n6 o6 m6 b6 _
   refine hnext hlt _ _ ⟨by rw [succ64 k (by omega)], by simp only at n6 ⊢; omega, ?_, ((Ext.mod (F := ownB s) (e2.trans e25)).trans m6).ext (fun b hb => (o2.block b hb).1)⟩
   simp only
   rw [flat_take_succ hlt, List.map_append]; exact o6
  ·have hge : k = ll.length := by simp at h; omega
   subst hge
   rw [List.take_of_length_le (Nat.le_refl _)] at o2
   exact hK s H2 o2 e2
def wstep (w b : Int) : Int := IntKind.u64.wrap (IntKind.u64.wrap (w * 256) + IntKind.u64.wrap b)
def wordOf (bs : List Int) : Int := bs.foldl wstep 0
def rowOf (c : List Int) (w : Nat) : List Int := (List.range w).map fun j => wordOf ((c.drop (8 * j)).take 8)
def getOK (b : List Int) (w : Int) : Bool := decide (sizeL w ≠ 0) && decide (Int.tmod (b.length : Int) (sizeL w) = 0) && (decide (w ≠ 0) || b.all fun x => decide (x = 0))
def chunkOf (b : List Int) (n k : Nat) : List Int := (b.drop (k * n)).take n
def rowsOf (b : List Int) (w : Int) (m : Nat) : List (List Int) := (List.range m).map fun k => rowOf (chunkOf b (sizeL w).toNat k) w.toNat
def getL (b : List Int) (w : Int) : List (List Int) := if getOK b w then rowsOf b w (b.length / (sizeL w).toNat) else []
def getE (b : List Int) (w : Int) : Int := if getOK b w then 0 else 60
theorem u64_wrap (x : Int) : IntKind.u64.wrap x = x % 18446744073709551616 := by
 rw [IntKind.wrap_u64]
theorem wstep_range (w b : Int) : 0 ≤ wstep w b ∧ wstep w b < 18446744073709551616 := by
 unfold wstep; rw [u64_wrap]; omega
theorem wordOf_range (bs : List Int) : 0 ≤ wordOf bs ∧ wordOf bs < 18446744073709551616 := by
 unfold wordOf
 rcases List.eq_nil_or_concat bs with h | ⟨l, x, h⟩
 ·subst h; simp
 ·subst h; rw [List.concat_eq_append, List.foldl_append]; exact wstep_range _ _
theorem ior_word {x b : Int} (hx : 0 ≤ x) (hx2 : x < 18446744073709551616) (hb : 0 ≤ b) (hb2 : b < 256) : ior .u64 (ishl .u64 x 8) (IntKind.u64.wrap b) = wstep x b := by
 unfold wstep ior ishl
 have e0 : (2 : Int) ^ (min (8 : Int).toNat IntKind.u64.bits) = 256 := by decide
 rw [e0]
 simp only [u64_wrap]
 obtain ⟨n, rfl⟩ := Int.eq_ofNat_of_zero_le hx
 obtain ⟨m, rfl⟩ := Int.eq_ofNat_of_zero_le hb
 have hm : m < 256 := by omega
 obtain ⟨r, hr⟩ : ∃ r, r = n % 72057594037927936 := ⟨_, rfl⟩
 have hr2 : r < 72057594037927936 := by omega
 have e1 : ((n : Int) * 256) % 18446744073709551616 = ((256 * r : Nat) : Int) := by omega
 have e2 : (m : Int) % 18446744073709551616 = ((m : Nat) : Int) := by omega
 have e3 : (BitVec.ofInt IntKind.u64.bits ((256 * r : Nat) : Int) ||| BitVec.ofInt IntKind.u64.bits ((m : Nat) : Int)).toNat = 256 * r + m := by
  have hb64 : IntKind.u64.bits = 64 := rfl
  have hor := Nat.two_pow_add_eq_or_of_lt (i := 8) (b := m) hm r
  rw [BitVec.ofInt_natCast, BitVec.ofInt_natCast, BitVec.toNat_or, BitVec.toNat_ofNat, BitVec.toNat_ofNat, hb64, Nat.mod_eq_of_lt (by omega), Nat.mod_eq_of_lt (by omega)]
  exact hor.symm
 rw [e1, e2, e3]
 rw [Int.natCast_add]
theorem rowOf_length (c : List Int) (w : Nat) : (rowOf c w).length = w := by simp [rowOf]
theorem rowOf_step {c : List Int} {w i : Nat} (hi : i < c.length) (hw : c.length = 8 * w) :
  (rowOf (c.take i) w).set (i / 8) (wstep ((rowOf (c.take i) w).getD (i / 8) 0) (c.getD i 0)) = rowOf (c.take (i + 1)) w := by
 have hq : i / 8 < w := by omega
 apply List.ext_getElem
 ·simp [rowOf]
 ·intro j h1 h2
  have hj : j < w := by simpa [rowOf] using h2
  have e0 : ∀ t, ((c.take t).drop (8 * j)).take 8 = (c.drop (8 * j)).take (min 8 (t - 8 * j)) := by
   intro t; rw [List.drop_take, List.take_take]
  rw [List.getElem_set]
  by_cases hji : i / 8 = j
  ·subst hji
   rw [if_pos rfl]
   simp only [rowOf, List.getD, List.getElem?_map, List.getElem?_range hq, Option.map_some, Option.getD_some, List.getElem_map, List.getElem_range]
   simp only [e0]
   have e1 : min 8 (i + 1 - 8 * (i / 8)) = min 8 (i - 8 * (i / 8)) + 1 := by omega
   have e2 : min 8 (i - 8 * (i / 8)) = i - 8 * (i / 8) := by omega
   have hlt : i - 8 * (i / 8) < (c.drop (8 * (i / 8))).length := by simp; omega
   rw [e1, e2, List.take_succ_eq_append_getElem hlt]
   unfold wordOf
   rw [List.foldl_append, List.foldl_cons, List.foldl_nil]
   congr 1
   rw [List.getElem?_eq_getElem hi, Option.getD_some, List.getElem_drop]
   congr 1
   omega
  ·rw [if_neg hji]
   simp only [rowOf, List.getElem_map, List.getElem_range, e0]
   congr 2
   omega
theorem rowOf_nil (w : Nat) : rowOf [] w = List.replicate w 0 := by
 apply List.ext_getElem
 ·simp [rowOf]
 ·intro j h1 h2; simp [rowOf, wordOf]
structure RowsOwn (H : Heap) (base : Nat) (s : Sl) (rs : List Sl) (ls : List (List Int)) : Prop where
 out : Owns H base YaB 1 s (rs.map Sl.v)
 len : rs.length = ls.length
 row : ∀ (i : Nat) (r : Sl) (l : List Int), rs[i]? = some r → ls[i]? = some l → Owns H base YaJ 1 r (l.map (Value.int .u64))
 apart : ∀ (i j : Nat) (r r' : Sl), i ≠ j → rs[i]? = some r → rs[j]? = some r' → ∀ b, ownB r b → ¬ ownB r' b
theorem RowsOwn.nil (H : Heap) (base : Nat) : RowsOwn H base (Sl.mk none 0 0) [] [] := ⟨Owns.nil _ _ _ _, rfl, by simp, by simp⟩
theorem RowsOwn.n {H : Heap} {base : Nat} {s : Sl} {rs : List Sl} {ls : List (List Int)} (h : RowsOwn H base s rs ls) : s.n = ls.length := by
 have h1 := h.out.1; have h2 := h.len; simp at h1; omega
theorem RowsOwn.mod {F : Nat → Prop} {H H' : Heap} {base : Nat} {s : Sl} {rs : List Sl} {ls : List (List Int)} (h : RowsOwn H base s rs ls) (hm : Mod F H H') (hs : ∀ b, ownB s b → ¬ F b) (hr : ∀ r ∈ rs, ∀ b, ownB r b → ¬ F b) : RowsOwn H' base s rs ls :=
 ⟨h.out.mod hm hs, h.len, fun i r l h1 h2 => (h.row i r l h1 h2).mod hm (hr r (List.mem_of_getElem? h1)), h.apart⟩
theorem RowsOwn.ext {H H' : Heap} {base : Nat} {s : Sl} {rs : List Sl} {ls : List (List Int)} (h : RowsOwn H base s rs ls) (hm : Ext H H') : RowsOwn H' base s rs ls := h.mod hm (fun _ _ => id) (fun _ _ _ _ => id)
theorem RowsOwn.rowAt {H : Heap} {base : Nat} {s : Sl} {rs : List Sl} {ls : List (List Int)} (h : RowsOwn H base s rs ls) {r : Sl} (hr : r ∈ rs) : ∃ l : List Int, Owns H base YaJ 1 r (l.map (Value.int .u64)) := by
 obtain ⟨i, hi⟩ := List.mem_iff_getElem?.1 hr
 have hlt : i < ls.length := by rw [← h.len]; exact (List.getElem?_eq_some_iff.1 hi).1
 exact ⟨_, h.row i r _ hi (List.getElem?_eq_getElem hlt)⟩
theorem RowsOwn.block {H : Heap} {base : Nat} {s : Sl} {rs : List Sl} {ls : List (List Int)} (h : RowsOwn H base s rs ls) : (∀ b, ownB s b → base ≤ b ∧ b < H.size) ∧ ∀ r ∈ rs, ∀ b, ownB r b → base ≤ b ∧ b < H.size :=
 ⟨h.out.block, fun r hr => by obtain ⟨l, hl⟩ := h.rowAt hr; exact hl.block⟩
theorem RowsOwn.pushG {ty : TypeId} {H : Heap} {base : Nat} {s : Sl} {rs : List Sl} {ls : List (List Int)} {r : Sl} {l : List Int} {K : Sl → Heap → Prop} (h : RowsOwn H base s rs ls)
  (hr : Owns H base YaJ 1 r (l.map (Value.int .u64))) (hap : ∀ r' ∈ rs, ∀ b, ownB r b → ¬ ownB r' b) (hn : s.n + 1 ≤ 1099511627776) (hbase : base ≤ H.size)
  (hK : ∀ s' H', s'.n = s.n + 1 → RowsOwn H' base s' (rs ++ [r]) (ls ++ [l]) → Mod (ownB s) H H' → (∀ b, ownB s' b → ownB s b ∨ H.size ≤ b) → K s' H') :
  newC H #[r.v] YaB fun p H1 => doT cSl Tryz.prog (Builtin.append_ #[Yam, Yam] ty #[s.v, .slice (some p) 1 1]) H1 K := by
 refine elRow.push (base := base) h.out rfl hn (by omega) hbase ?_
 intro s' H' n1 o1 m1 b1 _
 refine hK s' H' n1 ⟨by simpa using o1, by simp [h.len], ?_, ?_⟩ m1 b1
 ·intro i x y hx hy
  rw [List.getElem?_append] at hx hy
  have hl := h.len
  split at hx
  ·rename_i hlt
   rw [if_pos (by omega)] at hy
   exact (h.row i x y hx hy).mod m1 (fun b hb hb' => (h.row i x y hx hy).apart h.out (by decide) b hb hb')
  ·rename_i hge
   rw [if_neg (by omega)] at hy
   have e1 : i - rs.length = 0 := by
    have := (List.getElem?_eq_some_iff.1 hx).1; simp at this; omega
   have e2 : i - ls.length = 0 := by omega
   rw [e1] at hx; rw [e2] at hy
   simp at hx hy
   subst hx; subst hy
   exact hr.mod m1 (fun b hb hb' => hr.apart h.out (by decide) b hb hb')
 ·intro i j x y hij hx hy b hb
  have key : ∀ (i : Nat) (x : Sl), (rs ++ [r])[i]? = some x → (i < rs.length ∧ rs[i]? = some x) ∨ (i = rs.length ∧ x = r) := by
   intro i x hx
   rw [List.getElem?_append] at hx
   split at hx
   ·rename_i hlt; exact .inl ⟨hlt, hx⟩
   ·rename_i hge
    have e1 : i - rs.length = 0 := by
     have := (List.getElem?_eq_some_iff.1 hx).1; simp at this; omega
    rw [e1] at hx; simp at hx
    exact .inr ⟨by omega, hx.symm⟩
  rcases key i x hx with ⟨h1, h2⟩ | ⟨h1, h2⟩ <;> rcases key j y hy with ⟨h3, h4⟩ | ⟨h3, h4⟩
  ·exact h.apart i j x y hij h2 h4 b hb
  ·subst h4; exact fun hb' => hap x (List.mem_of_getElem? h2) b hb' hb
  ·subst h2; exact hap y (List.mem_of_getElem? h4) b hb
  ·omega
theorem RowsOwn.push {ty : TypeId} {H : Heap} {base : Nat} {s : Sl} {rs : List Sl} {ls : List (List Int)} {r : Sl} {l : List Int} {K : Sl → Heap → Prop} (h : RowsOwn H base s rs ls)
  (hr : Owns H base YaJ 1 r (l.map (Value.int .u64))) (hap : ∀ r' ∈ rs, ∀ b, ownB r b → ¬ ownB r' b) (hn : s.n + 1 ≤ 1099511627776) (hbase : base ≤ H.size)
  (hK : ∀ s' H', s'.n = s.n + 1 → RowsOwn H' base s' (rs ++ [r]) (ls ++ [l]) → Mod (ownB s) H H' → K s' H') :
  newC H #[r.v] YaB fun p H1 => doT cSl Tryz.prog (Builtin.append_ #[Yam, Yam] ty #[s.v, .slice (some p) 1 1]) H1 K :=
 RowsOwn.pushG h hr hap hn hbase fun s' H' a b c _ => hK s' H' a b c
theorem rowsOf_succ (b : List Int) (w : Int) (m : Nat) : rowsOf b w (m + 1) = rowsOf b w m ++ [rowOf (chunkOf b (sizeL w).toNat m) w.toNat] := by
 simp [rowsOf, List.range_succ]
theorem tmod_zero {a n : Nat} (_ : 0 < n) (h : Int.tmod (a : Int) (n : Int) = 0) : a = a / n * n := by
 rw [← Int.ofNat_tmod] at h
 have h1 : a % n = 0 := by exact_mod_cast h
 have := Nat.div_add_mod a n
 rw [h1, Nat.mul_comm] at this
 omega
theorem chunkOf_getD {b : List Int} {n k j : Nat} (hj : j < n) : (chunkOf b n k).getD j 0 = b.getD (k * n + j) 0 := by
 unfold chunkOf
 simp only [List.getD, List.getElem?_take, List.getElem?_drop]
 rw [if_pos hj]
theorem chunkOf_length {b : List Int} {n k m : Nat} (hb : b.length = m * n) (hk : k < m) : (chunkOf b n k).length = n := by
 unfold chunkOf
 have := Nat.mul_le_mul_right n (Nat.succ_le_of_lt hk)
 rw [Nat.succ_mul] at this
 simp; omega
theorem getOK_bad {b : List Int} {w : Int} {k : Nat} (hw : w = 0) (hk : k < b.length) (h : b.getD k 0 ≠ 0) : getOK b w = false := by
 unfold getOK
 have : (b.all fun x => decide (x = 0)) = false := by
  rw [List.all_eq_false]
  refine ⟨b[k], List.getElem_mem _, ?_⟩
  simp [List.getD, List.getElem?_eq_getElem hk] at h
  simpa using h
 rw [this]
 simp [hw]
theorem getOK_good {b : List Int} {w : Int} (h1 : sizeL w ≠ 0) (h2 : Int.tmod (b.length : Int) (sizeL w) = 0) (h3 : w = 0 → ∀ k, k < b.length → b.getD k 0 = 0) : getOK b w = true := by
 unfold getOK
 simp only [Bool.and_eq_true, decide_eq_true_eq, Bool.or_eq_true, List.all_eq_true]
 refine ⟨⟨h1, h2⟩, ?_⟩
 by_cases hw : w = 0
 ·right
  intro x hx
  obtain ⟨k, hk, e⟩ := List.mem_iff_getElem.1 hx
  have := h3 hw k hk
  simp [List.getD, List.getElem?_eq_getElem hk] at this
  rw [← e]; exact this
 ·exact .inl hw
theorem zc_rows : zc Tryz.prog Yam = #[.slice none 0 0] := by kernel_rfl
theorem zc_errno : zc Tryz.prog Yay = #[.int .i64 0] := by kernel_rfl
theorem Chunk_ok {p : Sl} {n : Int} {H : Heap} {K : Value → Heap → Prop} (hn : 1 ≤ n)
  (hK : ∀ c c1 H', c.block = H.size → c1.block = H.size + 1 → H'.size = H.size + 2 → VarT H' c YaG p.v → VarT H' c1 YaM (.int .i64 n) → Ext H H' →
   K (.func (.func Zbf.no) #[] #[.pointer (some c), .pointer (some c1)]) H') : Zbr.sp p n H K := by
 refine Zbr.of ?_
 unfold Zbr.vc
 refine newC_varT fun c H1 hc s1 v1 e1 => ?_
 refine newC_varT fun c1 H2 hc1 s2 v2 e2 => ?_
 refine v2.ld (c := cInt .i64) (x := n) ?_
 refine br_mk (fun h => ?_) (fun h => ?_)
 ·simp at h; omega
 ·exact hK c c1 H2 hc (by omega) (by omega) (v1.ext e2) v2 (e1.trans e2)
theorem Chunks_ok {l : Nat} {c c1 : Addr} {p : Sl} {n m : Nat} {H : Heap} {K : Unit → Heap → Prop} (I : Nat → Heap → Prop) (D : Heap → Prop) (hn : 0 < n) (hm : p.n = m * n) (hc : p.n ≤ p.c) (hbig : p.n ≤ 1000000) (hnb : n ≤ 1000000)
  (hI : ∀ k H', I k H' → VarT H' c YaG p.v ∧ VarT H' c1 YaM (.int .i64 (n : Int))) (h0 : I 0 H)
  (hs : ∀ k H', k < m → I k H' → YieldSpec Tryz.prog l #[(Sl.mk (p.a.map (·.add (k * n))) n n).v] H' fun b H'' => if b then I (k + 1) H'' else D H'')
  (hfin : ∀ H', I m H' → K () H') (hD : ∀ H', D H' → K () H') : Zbf.sp l c c1 H K := by
 refine Zbf.of ?_
 unfold Zbf.vc
 refine loop_upto m (fun k i H' => i = ((k * n : Nat) : Int) ∧ I k H') ⟨by simp, h0⟩ ?_
 rintro k i H1 next hk ⟨rfl, hIk⟩ hnext
 obtain ⟨v, v1⟩ := hI k H1 hIk
 refine v.ld (c := cSl) (x := p) ?_
 refine br_mk (fun h => ?_) (fun h => ?_)
 ·have hlt : k < m := by
   rcases Nat.lt_or_ge k m with q | q
   ·exact q
   ·have e : k = m := by omega
    subst e; simp at h; omega
  have hle : k * n + n ≤ p.n := by
   have := Nat.mul_le_mul_right n (Nat.succ_le_of_lt hlt)
   rw [Nat.succ_mul] at this; omega
  obtain ⟨q, hq⟩ : ∃ q, q = k * n := ⟨_, rfl⟩
  have hnx : (((k + 1) * n : Nat) : Int) = ((q + n : Nat) : Int) := by rw [hq, Nat.succ_mul]
  have hsy := hs k H1 hlt hIk
  rw [← hq] at hle hsy ⊢
  refine v1.ld (c := cInt .i64) (x := (n : Int)) ?_
  refine v.ld (c := cSl) (x := p) ?_
  refine ⟨by omega, ?_⟩
  refine v.ld (c := cSl) (x := p) ?_
  have eE : IntKind.i64.wrap ((q : Int) + (if ((p.n - (q : Int).toNat : Nat) : Int) < (n : Int) then ((p.n - (q : Int).toNat : Nat) : Int) else (n : Int))) = ((q + n : Nat) : Int) := by
   have : (if ((p.n - (q : Int).toNat : Nat) : Int) < (n : Int) then ((p.n - (q : Int).toNat : Nat) : Int) else (n : Int)) = (n : Int) := by split <;> omega
   rw [this, wrap64 (by omega) (by omega)]; omega
  rw [eE]
  refine ⟨by omega, by omega, by omega, ?_⟩
  have ea : slA p.a ((q + n : Nat) : Int).toNat (q : Int).toNat 1 = p.a.map (·.add q) := by
   unfold slA
   rw [if_neg (by simp; omega)]
   simp
  have en : ((q + n : Nat) : Int).toNat - (q : Int).toNat = n := by omega
  rw [ea, en]
  refine hsy.mono fun b H2 hb => ?_
  cases b with
  | false => exact hD H2 hb
  | true =>
    have hb' : I (k + 1) H2 := hb
    refine (hI _ _ hb').2.ld (c := cInt .i64) (x := (n : Int)) ?_
    refine hnext hlt _ _ ⟨?_, hb'⟩
    rw [hnx, wrap64 (by omega) (by omega)]; omega
 ·have e : k = m := by
   rcases Nat.lt_or_ge k m with q | q
   ·have := Nat.mul_le_mul_right n (Nat.succ_le_of_lt q)
    rw [Nat.succ_mul] at this; simp at h; omega
   ·omega
  subst e
  exact hfin H1 hIk
theorem Ints.chunk {H : Heap} {p : Sl} {b : List Int} (hp : Ints .u8 H p b) {k n : Nat} (hl : k * n + n ≤ b.length) : Ints .u8 H (Sl.mk (p.a.map (·.add (k * n))) n n) (chunkOf b n k) := by
 refine ⟨by simp [chunkOf]; omega, ?_⟩
 intro i v hv
 unfold chunkOf at hv
 rw [List.map_take, List.map_drop] at hv
 have hi : i < n := by
  have := (List.getElem?_eq_some_iff.1 hv).1; simp at this; omega
 rw [List.getElem?_take, if_pos hi, List.getElem?_drop] at hv
 obtain ⟨ad, e, hc⟩ := hp.reads _ _ hv
 exact ⟨ad.add (k * n), by rw [e]; rfl, by rw [add_add]; exact hc⟩
structure GetG (H0 : Heap) (B : Nat) (b : List Int) (w : Int) (p : Sl) (r2 : Nat) (p1 p2 p3 p4 c c1 : Addr) (k : Nat) (H : Heap) : Prop where
 r2 : H[r2]? = some (.deferred (some []))
 v1 : VarT H p1 YaM (.int .i64 w)
 v2 : VarT H p2 Yam (.slice none 0 0)
 v3 : VarT H p3 Yay (.int .i64 0)
 vc : VarT H c YaG p.v
 vc1 : VarT H c1 YaM (.int .i64 (sizeL w))
 rows : ∃ s rs, VarT H p4 Yam (Sl.v s) ∧ s.n = k ∧ RowsOwn H B s rs (rowsOf b w k) ∧ ∀ x ∈ rs, x.a ≠ none
 ext : Ext H0 H
 zero : w = 0 → ∀ j, j < k → b.getD j 0 = 0
theorem GetG.mod {H0 : Heap} {B : Nat} {b : List Int} {w : Int} {p : Sl} {r2 : Nat} {p1 p2 p3 p4 c c1 : Addr} {k : Nat} {F : Nat → Prop} {H H' : Heap} (h : GetG H0 B b w p r2 p1 p2 p3 p4 c c1 k H) (hm : Mod F H H')
  (h0 : ∀ b, b < H0.size → ¬ F b) (hc : ∀ b cs t, H[b]? = some (.cells cs t (0, 0)) → ¬ F b) (hd : ∀ b d, H[b]? = some (.deferred d) → ¬ F b) : GetG H0 B b w p r2 p1 p2 p3 p4 c c1 k H' := by
 obtain ⟨s, rs, v4, hn, ro, nn⟩ := h.rows
 refine ⟨(hm.same _ ?_ (hd _ _ h.r2)).trans h.r2, h.v1.mod hm (hc _ _ _ h.v1.obj), h.v2.mod hm (hc _ _ _ h.v2.obj), h.v3.mod hm (hc _ _ _ h.v3.obj), h.vc.mod hm (hc _ _ _ h.vc.obj), h.vc1.mod hm (hc _ _ _ h.vc1.obj),
  ⟨s, rs, v4.mod hm (hc _ _ _ v4.obj), hn, ro.mod hm (fun b hb => ?_) (fun r hr b hb => ?_), nn⟩, (h.ext.mod (F := F).trans hm).ext (fun b hb => ?_), h.zero⟩
 ·exact (Array.getElem?_eq_some_iff.1 h.r2).1
 ·obtain ⟨cur, q⟩ := ro.out.obj b hb; exact hc _ _ _ q
 ·obtain ⟨l, hl⟩ := ro.rowAt hr
  obtain ⟨cur, q⟩ := hl.obj b hb; exact hc _ _ _ q
 ·rcases Nat.lt_or_ge b H0.size with q | q
  ·exact absurd hb (h0 b q)
  ·exact q
theorem GetG.set {H0 : Heap} {B : Nat} {b : List Int} {w : Int} {p : Sl} {r2 : Nat} {p1 p2 p3 p4 c c1 : Addr} {k l : Nat} {H : Heap} {x : Loop} {o : Obj} (h : GetG H0 B b w p r2 p1 p2 p3 p4 c c1 k H) (hl : H[l]? = some (.loop x)) (hl0 : H0.size ≤ l) :
  GetG H0 B b w p r2 p1 p2 p3 p4 c c1 k (H.setIfInBounds l o) :=
 h.mod (F := fun b => b = l) (Mod.setObj rfl) (fun b hb e => by omega) (fun b cs t hb e => by subst e; rw [hl] at hb; cases hb) (fun b d hb e => by subst e; rw [hl] at hb; cases hb)
theorem GetG.extd {H0 : Heap} {B : Nat} {b : List Int} {w : Int} {p : Sl} {r2 : Nat} {p1 p2 p3 p4 c c1 : Addr} {k : Nat} {H H' : Heap} (h : GetG H0 B b w p r2 p1 p2 p3 p4 c c1 k H) (hm : Ext H H') : GetG H0 B b w p r2 p1 p2 p3 p4 c c1 k H' :=
 h.mod hm (fun _ _ => id) (fun _ _ _ _ => id) (fun _ _ _ => id)
set_option maxHeartbeats 4000000 in
theorem rowGet_nn {p : Sl} {b : List Int} {w : Int} {H : Heap} {K : (Sl × Int) → Heap → Prop} (hp : Ints .u8 H p b) (hc : p.n ≤ p.c) (hbb : ∀ x ∈ b, 0 ≤ x ∧ x < 256) (hlen : b.length ≤ 1000000)
  (hK : ∀ s rs H', RowsOwn H' H.size s rs (getL b w) → Ext H H' → (∀ x ∈ rs, x.a ≠ none) → K (s, getE b w) H') : Zdu.sp p w H K := by
 refine Zdu.of ?_
 unfold Zdu.vc
 rw [zc_rows, zc_errno]
 have pn := hp.len
 refine newC_varT fun p1 H1 hp1 s1 v1 e1 => ?_
 refine newC_varT fun p2 H2 hp2 s2 v2 e2 => ?_
 refine newC_varT fun p3 H3 hp3 s3 v3 e3 => ?_
 have v1' := (v1.ext e2).ext e3
 have v2' := v2.ext e3
 have e03 : Ext H H3 := (e1.trans e2).trans e3
 refine v1'.ld (c := cInt .i64) (x := w) ?_
 -- the answer where the width is not one
 have bad : ∀ H4 : Heap, VarT H4 p2 Yam (.slice none 0 0) → VarT H4 p3 Yay (.int .i64 60) → Ext H H4 → getOK b w = false →
   ld cSl H4 p2 fun res => ld (cInt .i64) H4 p3 fun res_1 => K (res, res_1) H4 := by
  intro H4 q2 q3 e hf
  refine q2.ld (c := cSl) (x := Sl.mk none 0 0) ?_
  refine q3.ld (c := cInt .i64) (x := 60) ?_
  have := hK (Sl.mk none 0 0) [] H4 (by unfold getL; rw [hf]; exact RowsOwn.nil _ _) e (by simp)
  unfold getE at this; rw [hf] at this; exact this
 have badW : getOK b w = false → st H3 p2 (.slice none 0 0) fun H5 => st H5 p3 (.int .i64 60) fun H6 => ld cSl H6 p2 fun res => ld (cInt .i64) H6 p3 fun res_1 => K (res, res_1) H6 := by
  intro hf
  refine v2'.st rfl fun H5 q2 m5 s5 => ?_
  refine (v3.mod m5 (by omega)).st rfl fun H6 q3 m6 s6 => ?_
  exact bad H6 (q2.mod m6 (by omega)) q3 (((e03.mod (F := fun b => b = p2.block ∨ b = p3.block).trans (m5.mono (fun b _ h => .inl h))).trans (m6.mono (fun b _ h => .inr h))).ext (fun b hb => by omega)) hf
 refine rowSize_ok ?_
 refine br_mk (fun h => badW (by unfold getOK; simp at h; simp [h])) (fun h => ?_)
 have h' : sizeL w ≠ 0 := by simpa using h
 have hsz := sizeL_cases w
 refine ⟨h', br_mk (fun h2 => badW (by unfold getOK; rw [pn] at h2; simp at h2; simp [h2])) (fun h2 => ?_)⟩
 have h2' : Int.tmod (b.length : Int) (sizeL w) = 0 := by rw [pn] at h2; simpa using h2
 obtain ⟨n, hn⟩ : ∃ n : Nat, sizeL w = (n : Int) := ⟨(sizeL w).toNat, by omega⟩
 have hn0 : 0 < n := by omega
 obtain ⟨m, hm⟩ : ∃ m, m = b.length / n := ⟨_, rfl⟩
 have hmul : b.length = m * n := by rw [hm]; exact tmod_zero hn0 (by rw [← hn]; exact h2')
 have hw0 : 0 ≤ w ∧ w ≤ 16 := by
  unfold sizeL at h'
  split at h'
  ·exact absurd rfl h'
  ·omega
 have hnw : w ≠ 0 → n = 8 * w.toNat := by
  intro hw; unfold sizeL at hn; rw [if_neg (by omega), if_neg hw] at hn; omega
 have hn1 : w = 0 → n = 1 := by intro hw; unfold sizeL at hn; rw [hw] at hn; simp at hn; omega
 have hdiv : m ≤ b.length := by rw [hm]; exact Nat.div_le_self _ _
 have ediv : IntKind.i64.wrap (Int.tdiv (p.n : Int) (sizeL w)) = ((m : Nat) : Int) := by
  rw [pn, hn, ← Int.ofNat_tdiv, ← hm, wrap64 (by omega) (by omega)]
 refine ⟨h', ?_⟩
 rw [ediv]
 refine elRow.make (base := H.size) (by omega) (by omega) (by omega) (by omega) e03.size ?_
 intro sl H9 n9 o9 e9 b9 _
 refine newC_varT fun p4 H10 hp4 s10 v4 e10 => ?_
 refine v4.st rfl fun H11 v4b m11 s11 => ?_
 have m911 : Ext H9 H11 := (e10.mod (F := fun b => b = p4.block).trans m11).ext (fun b hb => by omega)
 have e011 : Ext H H11 := (e03.trans e9).trans m911
 refine Chunk_ok (by omega) fun c c1 H12 hcb hc1b s12 vc vc1 e12 => ?_
 have hcallable : callable Tryz.prog Zbf.no = true := by kernel_rfl
 refine ⟨Zbf.no, #[.pointer (some c), .pointer (some c1)], rfl, hcallable, fun rec hround => ?_⟩
 obtain ⟨l, hl⟩ : ∃ l, l = H12.size + 1 := ⟨_, rfl⟩
 obtain ⟨r2, hr2⟩ : ∃ r, r = H12.size := ⟨_, rfl⟩
 rw [← hl] at hround ⊢
 rw [← hr2]
 obtain ⟨H13, hH13⟩ : ∃ H13 : Heap, H13 = (H12.push (.deferred (some []))).push (.loop (rec .ready none)) := ⟨_, rfl⟩
 rw [← hH13]
 have e13 : Ext H12 H13 := by rw [hH13]; exact (Mod.push _ _ _).trans (Mod.push _ _ _)
 have hl13 : H13[l]? = some (.loop (rec .ready none)) := by rw [hH13, hl, Array.getElem?_push, if_pos (by simp)]
 have hr13 : H13[r2]? = some (.deferred (some [])) := by rw [hH13, hr2]; simp [Array.getElem?_push]
 have hl0 : H.size ≤ l := by have := (e011.trans e12).size; omega
 have hp24 : p2.block ≠ p4.block := by have := e9.size; omega
 have e913 : Ext H9 H13 := (m911.trans e12).trans e13
 have e313 : Ext H3 H13 := e9.trans e913
 -- between the rounds
 let I : Nat → Heap → Prop := fun k H' => H'[l]? = some (.loop (rec .ready none)) ∧ GetG H H.size b w p r2 p1 p2 p3 p4 c c1 k H'
 let D : Heap → Prop := fun H' => H'[l]? = some (.loop (rec .done (some .ret))) ∧ H'[r2]? = some (.deferred (some [])) ∧ VarT H' p2 Yam (.slice none 0 0) ∧ VarT H' p3 Yay (.int .i64 60) ∧ Ext H H' ∧ getOK b w = false
 refine Spec.mono (R := fun v H' => ∃ x : Unit, v = (cTup []).enc x ∧ rangeK l rec H' _ _ _) (Chunks_ok (l := l) (c := c) (c1 := c1) (p := p) (n := n) (m := m) (H := H13) (K := fun _ H' => rangeK l rec H' _ _ _) I D hn0 (by rw [pn]; exact hmul) hc (by omega) (by omega) ?_ ?_ ?_ ?_ ?_) (fun v H' ⟨x, _, h⟩ => h)
 ·clear hround
  rintro k H' ⟨_, g⟩
  exact ⟨g.vc, by have := g.vc1; rw [hn] at this; exact this⟩
 ·clear hround
  refine ⟨hl13, hr13, v1'.ext e313, v2'.ext e313, v3.ext e313, vc.ext e13, vc1.ext e13, ⟨sl, [], (v4b.ext e12).ext e13, by simpa using n9, ⟨by simpa using o9.ext e913, rfl, by simp, by simp⟩, by simp⟩, (e011.trans e12).trans e13, fun _ j hj => by omega⟩
 ·-- a round
  rintro k H' hk ⟨hlr, g⟩
  refine hround [(Sl.mk (p.a.map (·.add (k * n))) n n).v] H' _ hlr ?_
  clear hround
  have hb2 : k * n + n ≤ b.length := by
   have := Nat.mul_le_mul_right n (Nat.succ_le_of_lt hk)
   rw [Nat.succ_mul] at this; omega
  have hk1 : k < b.length := by have := Nat.le_mul_of_pos_right k hn0; omega
  have hcl := chunkOf_length hmul hk
  show _ ∧ _
  refine ⟨hlr, ?_⟩
  obtain ⟨Hb, hHb⟩ : ∃ Hb : Heap, Hb = H'.setIfInBounds l (.loop (rec .busy none)) := ⟨_, rfl⟩
  rw [← hHb]
  have gb : GetG H H.size b w p r2 p1 p2 p3 p4 c c1 k Hb := by rw [hHb]; exact g.set hlr hl0
  have hlb : Hb[l]? = some (.loop (rec .busy none)) := by rw [hHb]; exact setObj_at hlr
  refine ⟨fun _ H14 => Hb = H14 ∧ (w = 0 → b.getD k 0 = 0), ?_, ?_⟩
  ·refine gb.v1.ld (c := cInt .i64) (x := w) ?_
   refine br_mk (fun h4 => ?_) (fun h4 => ⟨rfl, fun hw => by simp at h4; exact absurd hw h4⟩)
   have hw : w = 0 := by simpa using h4
   have hci := (hp.ext gb.ext).chunk hb2
   refine ints_get hci (i := 0) (j := 0) rfl (by omega) fun ad q => ?_
   rw [chunkOf_getD hn0, hn1 hw]
   have e0 : k * 1 + 0 = k := by omega
   rw [e0]
   refine br_mk (fun h5 => ?_) (fun h5 => ⟨rfl, fun _ => by simpa using h5⟩)
   have hf := getOK_bad hw hk1 (by simpa using h5)
   refine gb.v2.st rfl fun H15 q2 m15 s15 => ?_
   have hp23 : p3.block ≠ p2.block := by omega
   refine (gb.v3.mod m15 hp23).st rfl fun H16 q3 m16 s16 => ?_
   have mm : Mod (fun b => b = p2.block ∨ b = p3.block) Hb H16 := (m15.mono (fun b _ h => .inl h)).trans (m16.mono (fun b _ h => .inr h))
   have hll : l < Hb.size := (Array.getElem?_eq_some_iff.1 hlb).1
   have h16 : H16[l]? = some (.loop (rec .busy none)) := (mm.same l hll (by
    rintro (e | e)
    ·have := gb.v2.obj; rw [← e, hlb] at this; cases this
    ·have := gb.v3.obj; rw [← e, hlb] at this; cases this)).trans hlb
   have hrr : r2 < Hb.size := (Array.getElem?_eq_some_iff.1 gb.r2).1
   have h16r : H16[r2]? = some (.deferred (some [])) := (mm.same r2 hrr (by
    rintro (e | e)
    ·have := gb.v2.obj; rw [← e, gb.r2] at this; cases this
    ·have := gb.v3.obj; rw [← e, gb.r2] at this; cases this)).trans gb.r2
   refine ⟨h16, ?_⟩
   show D _
   have m17 : Mod (fun b => b = l) H16 (H16.setIfInBounds l (.loop (rec .done (some .ret)))) := Mod.setObj rfl
   have hne : ∀ q : Addr, ∀ t v, VarT H16 q t v → q.block ≠ l := fun q t v hv e => by have := hv.obj; rw [e, h16] at this; cases this
   have q2' := q2.mod m16 (Ne.symm hp23)
   refine ⟨setObj_at h16, (m17.same r2 (Array.getElem?_eq_some_iff.1 h16r).1 (by omega)).trans h16r, q2'.mod m17 (hne _ _ _ q2'), q3.mod m17 (hne _ _ _ q3), ?_, hf⟩
   have e16 : Ext H H16 := (gb.ext.mod (F := fun b => b = p2.block ∨ b = p3.block).trans mm).ext (fun b hb => by omega)
   exact (e16.mod (F := fun b => b = l).trans m17).ext (fun b hb => by omega)
  ·rintro _ H14 ⟨rfl, hzero⟩
   refine gb.v1.ld (c := cInt .i64) (x := w) ?_
   refine elU64.make (base := H.size) hw0.1 (Int.le_refl _) (by omega) (by omega) gb.ext.size ?_
   intro sl1 H17 n17 o17 e17 b17 nn17
   have g17 := gb.extd e17
   refine g17.v1.ld (c := cInt .i64) (x := w) ?_
   rw [wrap64 (x := 8 * w) (by omega) (by omega)]
   refine loop_upto (8 * w.toNat) (fun i z H' => z = (i : Int) ∧ Owns H' H.size YaJ 1 sl1 ((rowOf ((chunkOf b n k).take i) w.toNat).map (Value.int .u64)) ∧ Ext Hb H') ⟨rfl, by simpa [rowOf_nil] using o17, e17⟩ ?_
   rintro i z H18 next hi ⟨rfl, o18, e18⟩ hnext
   refine br_mk (fun h6 => ?_) (fun h6 => ?_)
   ·have hi8 : i < 8 * w.toNat := by simp at h6; omega
    have hw : w ≠ 0 := by omega
    have hn8 := hnw hw
    have ei : IntKind.i64.wrap (Int.tdiv (i : Int) 8) = ((i / 8 : Nat) : Int) := by
     rw [show (8 : Int) = ((8 : Nat) : Int) from rfl, ← Int.ofNat_tdiv, wrap64 (by omega) (by omega)]
    rw [ei]
    have hq : i / 8 < w.toNat := by omega
    refine o18.ints.ld (by omega) (by rw [rowOf_length]; omega) fun ad1 q1 => ?_
    refine ((hp.ext (gb.ext.trans e18)).chunk hb2).ld (by omega) (by omega) fun ad2 q2 => ?_
    simp only [Int.toNat_natCast]
    have hr := wordOf_range ((((chunkOf b n k).take i).drop (8 * (i / 8))).take 8)
    have hx : (rowOf ((chunkOf b n k).take i) w.toNat).getD (i / 8) 0 = wordOf ((((chunkOf b n k).take i).drop (8 * (i / 8))).take 8) := by
     simp only [rowOf, List.getD, List.getElem?_map, List.getElem?_range hq, Option.map_some, Option.getD_some]
    have hby : 0 ≤ (chunkOf b n k).getD i 0 ∧ (chunkOf b n k).getD i 0 < 256 := by
     have hi2 : i < (chunkOf b n k).length := by omega
     simp only [List.getD, List.getElem?_eq_getElem hi2, Option.getD_some]
     exact hbb _ (List.mem_of_mem_drop (List.mem_of_mem_take (List.getElem_mem hi2)))
    rw [ior_word (by rw [hx]; exact hr.1) (by rw [hx]; exact hr.2) hby.1 hby.2]
    refine o18.st (by omega) (by rw [n17]; omega) rfl fun H19 o19 m19 s19 => ?_
    refine hnext hi8 _ _ ⟨by rw [succ64 i (by omega)], ?_, (e18.mod (F := ownB sl1).trans m19).ext b17⟩
    rw [← rowOf_step (by omega) (by omega)]
    simp only [Int.toNat_natCast, ← List.map_set] at o19
    exact o19
   ·have hi8 : i = 8 * w.toNat := by simp at h6; omega
    have hfull : rowOf ((chunkOf b n k).take i) w.toNat = rowOf (chunkOf b n k) w.toNat := by
     by_cases hw : w = 0
     ·rw [hw]; rfl
     ·rw [List.take_of_length_le (by rw [hcl, hnw hw]; omega)]
    rw [hfull] at o18
    have g18 := gb.extd e18
    obtain ⟨s, rs, v4s, hsn, ro, nn⟩ := gb.rows
    have ro18 := ro.ext e18
    refine (v4s.ext e18).ld (c := cSl) (x := s) ?_
    refine ro18.push o18 (fun r' hr' x hx hx' => ?_) (by omega) (gb.ext.trans e18).size ?_
    ·have h1 := (ro.block.2 r' hr' x hx').2
     have h2 := b17 x hx
     omega
    intro s7 H21 n21 r21 m21
    have hne4 : ¬ ownB s p4.block := fun hb => by
     obtain ⟨cur, q⟩ := ro18.out.obj _ hb
     exact absurd (cells_ty q (v4s.ext e18).obj) (by decide)
    refine ((v4s.ext e18).mod m21 hne4).st rfl fun H22 v22 m22 s22 => ?_
    have hb21 : ∀ b, ownB s b → H.size ≤ b := fun b hb => (ro.block.1 b hb).1
    have hl18 : H18[l]? = some (.loop (rec .busy none)) := (e18.same l (Array.getElem?_eq_some_iff.1 hlb).1 id).trans hlb
    have hl21 : H21[l]? = some (.loop (rec .busy none)) := (m21.same l (Array.getElem?_eq_some_iff.1 hl18).1 (fun hb => by
     obtain ⟨cur, q⟩ := ro18.out.obj _ hb; rw [hl18] at q; cases q)).trans hl18
    have hl22 : H22[l]? = some (.loop (rec .busy none)) := (m22.same l (Array.getElem?_eq_some_iff.1 hl21).1 (fun hb => by
     have q := (v4s.ext e18).mod m21 hne4
     have := q.obj; rw [← hb, hl21] at this; cases this)).trans hl21
    refine ⟨hl22, ?_⟩
    show I (k + 1) _
    have mm : Mod (fun b => ownB s b ∨ b = p4.block) H18 H22 := (m21.mono (fun b _ h => .inl h)).trans (m22.mono (fun b _ h => .inr h))
    have keep : ∀ {q : Addr} {t : TypeId} {v : Value}, VarT H18 q t v → t ≠ YaB → q.block ≠ p4.block → VarT H22 q t v := by
     intro q t v hv ht hq
     refine hv.mod mm ?_
     rintro (hb | hb)
     ·obtain ⟨cur, q1⟩ := ro18.out.obj _ hb
      have := hv.obj; rw [this] at q1; simp at q1; exact ht q1.2
     ·exact hq hb
    have g22 : GetG H H.size b w p r2 p1 p2 p3 p4 c c1 (k + 1) H22 := by
     have hr18 : r2 < H18.size := (Array.getElem?_eq_some_iff.1 g18.r2).1
     refine ⟨(mm.same r2 hr18 ?_).trans g18.r2, keep g18.v1 (by decide) (by have := e9.size; omega), keep g18.v2 (by decide) hp24, keep g18.v3 (by decide) (by have := e9.size; omega), keep g18.vc (by decide) (by have := e9.size; omega), keep g18.vc1 (by decide) (by have := e9.size; omega), ⟨s7, rs ++ [sl1], v22, by omega, ?_, fun x hx => by rcases List.mem_append.1 hx with q | q; exact nn x q; simp at q; subst q; exact nn17⟩, ?_, ?_⟩
     ·rintro (hb | hb)
      ·obtain ⟨cur, q1⟩ := ro18.out.obj _ hb
       rw [g18.r2] at q1; cases q1
      ·have := (v4s.ext e18).obj; rw [← hb, g18.r2] at this; cases this
     ·rw [rowsOf_succ, hn]
      have r21' : RowsOwn H21 H.size s7 (rs ++ [sl1]) (rowsOf b w k ++ [rowOf (chunkOf b n k) w.toNat]) := r21
      have v21 := (v4s.ext e18).mod m21 hne4
      refine r21'.mod m22 (fun b hb e => ?_) (fun r hr b hb e => ?_)
      ·obtain ⟨cur, q1⟩ := r21'.out.obj _ hb
       rw [e] at q1; exact absurd (cells_ty q1 v21.obj) (by decide)
      ·obtain ⟨lx, hlx⟩ := r21'.rowAt hr
       obtain ⟨cur, q1⟩ := hlx.obj _ hb
       rw [e] at q1; exact absurd (cells_ty q1 v21.obj) (by decide)
     ·exact ((Ext.mod (F := fun b => ownB s b ∨ b = p4.block) (gb.ext.trans e18)).trans mm).ext (fun b hb => by
       rcases hb with hb | hb
       ·exact hb21 b hb
       ·have := (e03.trans e9).size; omega)
     ·intro hw j hj
      rcases Nat.lt_or_ge j k with q | q
      ·exact gb.zero hw j q
      ·have : j = k := by omega
       rw [this]; exact hzero hw
    exact ⟨setObj_at hl22, g22.set hl22 hl0⟩
 ·-- all rounds are done
  clear hround
  rintro H' ⟨hlr, g⟩
  refine ⟨.ready, none, hlr, rfl, ?_⟩
  obtain ⟨H'', hH''⟩ : ∃ H'' : Heap, H'' = H'.setIfInBounds l (.loop (rec .exhausted none)) := ⟨_, rfl⟩
  show ld _ _ _ _
  rw [← hH'']
  have g2 : GetG H H.size b w p r2 p1 p2 p3 p4 c c1 m H'' := by rw [hH'']; exact g.set hlr hl0
  obtain ⟨s, rs, v4s, hsn, ro, nn⟩ := g2.rows
  refine v4s.ld (c := cSl) (x := s) ?_
  refine g2.v2.st rfl fun H24 q2 m24 s24 => ?_
  have hp23 : p3.block ≠ p2.block := by omega
  refine (g2.v3.mod m24 hp23).st rfl fun H25 q3 m25 s25 => ?_
  have mm : Mod (fun b => b = p2.block ∨ b = p3.block) H'' H25 := (m24.mono (fun b _ h => .inl h)).trans (m25.mono (fun b _ h => .inr h))
  have hr : r2 < H''.size := (Array.getElem?_eq_some_iff.1 g2.r2).1
  have h25r : H25[r2]? = some (.deferred (some [])) := (mm.same r2 hr (by
   rintro (e | e)
   ·have := g2.v2.obj; rw [← e, g2.r2] at this; cases this
   ·have := g2.v3.obj; rw [← e, g2.r2] at this; cases this)).trans g2.r2
  refine ⟨h25r, ?_⟩
  have m26 : Mod (fun b => b = r2) H25 (H25.setIfInBounds r2 (.deferred none)) := Mod.setObj rfl
  have hne : ∀ {q : Addr} {t : TypeId} {v : Value}, VarT H25 q t v → ¬ q.block = r2 := fun hv e => by have := hv.obj; rw [e, h25r] at this; cases this
  have q2' := q2.mod m25 (Ne.symm hp23)
  refine (q2'.mod m26 (hne q2')).ld (c := cSl) (x := s) ?_
  refine (q3.mod m26 (hne q3)).ld (c := cInt .i64) (x := 0) ?_
  have hok : getOK b w = true := getOK_good h' h2' (fun hw j hj => g2.zero hw j (by rw [hm, hn1 hw]; simpa using hj))
  have mAll : Mod (fun b => b = p2.block ∨ b = p3.block ∨ b = r2) H'' (H25.setIfInBounds r2 (.deferred none)) := (mm.mono (fun b _ h => by rcases h with h | h; exact .inl h; exact .inr (.inl h))).trans (m26.mono (fun b _ h => .inr (.inr h)))
  have hcells : ∀ b cs t, H''[b]? = some (.cells cs t (0, 0)) → t ≠ Yam → t ≠ Yay → ¬ (b = p2.block ∨ b = p3.block ∨ b = r2) := by
   rintro b cs t hb h1 h2 (e | e | e)
   ·have := g2.v2.obj; rw [← e, hb] at this; simp at this; exact h1 this.2
   ·have := g2.v3.obj; rw [← e, hb] at this; simp at this; exact h2 this.2
   ·rw [e, g2.r2] at hb; cases hb
  have := hK s rs (H25.setIfInBounds r2 (.deferred none)) (by
   unfold getL; rw [hok, if_pos rfl, hn]; simp only [Int.toNat_natCast]; rw [← hm]
   refine ro.mod mAll (fun b hb => ?_) (fun r hr b hb => ?_)
   ·obtain ⟨cur, q1⟩ := ro.out.obj _ hb
    exact hcells _ _ _ q1 (by decide) (by decide)
   ·obtain ⟨lx, hlx⟩ := ro.rowAt hr
    obtain ⟨cur, q1⟩ := hlx.obj _ hb
    exact hcells _ _ _ q1 (by decide) (by decide)) ((g2.ext.mod (F := fun b => b = p2.block ∨ b = p3.block ∨ b = r2).trans mAll).ext (fun b hb => by
     have := (e011.trans e12).size
     omega)) nn
  unfold getE at this; rw [hok] at this; exact this
 ·-- left by a return
  clear hround
  rintro H' ⟨hlr, hrr, q2, q3, e, hf⟩
  refine ⟨.done, some .ret, hlr, rfl, ?_⟩
  obtain ⟨H'', hH''⟩ : ∃ H'' : Heap, H'' = H'.setIfInBounds l (.loop (rec .exhausted (some .ret))) := ⟨_, rfl⟩
  show _ ∧ _
  rw [← hH'']
  have m1 : Mod (fun b => b = l) H' H'' := by rw [hH'']; exact Mod.setObj rfl
  have hne : ∀ {q : Addr} {t : TypeId} {v : Value}, VarT H' q t v → ¬ q.block = l := fun hv e => by have := hv.obj; rw [e, hlr] at this; cases this
  have hrr' : H''[r2]? = some (.deferred (some [])) := (m1.same r2 (Array.getElem?_eq_some_iff.1 hrr).1 (by omega)).trans hrr
  refine ⟨hrr', ?_⟩
  have m2 : Mod (fun b => b = r2) H'' (H''.setIfInBounds r2 (.deferred none)) := Mod.setObj rfl
  have hne2 : ∀ {q : Addr} {t : TypeId} {v : Value}, VarT H'' q t v → ¬ q.block = r2 := fun hv e => by have := hv.obj; rw [e, hrr'] at this; cases this
  have q2' := q2.mod m1 (hne q2)
  have q3' := q3.mod m1 (hne q3)
  exact bad _ (q2'.mod m2 (hne2 q2')) (q3'.mod m2 (hne2 q3')) (((e.mod (F := fun b => b = l ∨ b = r2).trans (m1.mono (fun b _ h => .inl h))).trans (m2.mono (fun b _ h => .inr h))).ext (fun b hb => by
   have := (e011.trans e12).size
   omega)) hf
theorem rowGet_ok {p : Sl} {b : List Int} {w : Int} {H : Heap} {K : (Sl × Int) → Heap → Prop} (hp : Ints .u8 H p b) (hc : p.n ≤ p.c) (hbb : ∀ x ∈ b, 0 ≤ x ∧ x < 256) (hlen : b.length ≤ 1000000)
  (hK : ∀ s rs H', RowsOwn H' H.size s rs (getL b w) → Ext H H' → K (s, getE b w) H') : Zdu.sp p w H K := rowGet_nn hp hc hbb hlen fun s rs H' r e _ => hK s rs H' r e
theorem byteL_range (n : Int) (k : Nat) : 0 ≤ byteL n k ∧ byteL n k < 256 := by
 unfold byteL
 rw [IntKind.wrap_u8]; omega
theorem putL_range (l : List Int) : ∀ x ∈ putL l, 0 ≤ x ∧ x < 256 := by
 intro x hx
 unfold putL at hx
 split at hx
 ·simp at hx; omega
 ·obtain ⟨n, _, hn⟩ := List.mem_flatMap.1 hx
  obtain ⟨k, _, hk⟩ := List.mem_map.1 hn
  rw [← hk]; exact byteL_range n k
def bytesI (l : List Int) : List UInt8 := l.map fun x => UInt8.ofNat x.toNat
@[simp] theorem u8i_length (b : List UInt8) : (u8i b).length = b.length := by simp [u8i]
@[simp] theorem bytesI_length (b : List Int) : (bytesI b).length = b.length := by simp [bytesI]
theorem u8i_bytesI {l : List Int} (h : ∀ x ∈ l, 0 ≤ x ∧ x < 256) : u8i (bytesI l) = l := by
 unfold u8i bytesI
 rw [List.map_map]
 conv => rhs; rw [← List.map_id l]
 refine List.map_congr_left fun x hx => ?_
 obtain ⟨a, b⟩ := h x hx
 simp only [Function.comp, UInt8.toNat_ofNat', id]
 omega
def below (low : List Int) (ls : List (List Int)) : Nat := (ls.takeWhile fun l => decide (cmpL l low < 0)).length
end Go.Proofs.YtkehfflpbpdokaaGreat
