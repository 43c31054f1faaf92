/-
 HashAll: for every input the law returns true, and its arguments read as before, whatever the table of the page's sum holds. No condition.
-/
import Derived.Test.YtkehfflpbpdokaaGreatPkt
import Derived.Test.YtkehfflpbpdokaaGreatJ37
import Derived.Test.YtkehfflpbpdokaaGreatDks
import Derived.Test.YtkehfflpbpdokaaGreatDkt
/-
 The library's sorting of texts, said of the heap.
-/
namespace Go.Proofs.YtkehfflpbpdokaaGreat
theorem SortTexts_ok {s : Sl} {l : List (List UInt8)} {H : Heap} {K : Unit → Heap → Prop} (h : SlE EN YaK H s l) (hl : l.length < 4611686018427387904)
  (hK : ∀ H', SlE EN YaK H' s (l.mergeSort fun x y => decide (x ≤ y)) → Mod (ownB s) H H' → K () H') : Zbd.sp s H K := by
 intro w hw
 subst hw
 rcases id h.2 with ⟨e1, e2⟩ | ⟨g, cap, cur, e1, hb, hg, h4, h5, h6, h7⟩
 ·have hn := h.n (by decide)
  have hl0 : l = [] := List.eq_nil_of_length_eq_zero (by omega)
  have hc := AnyM.slices_Sort_string_none sortStr none 0 w
  rw [e1]
  refine hc.mono fun e w' ⟨he, hw'⟩ => ?_
  subst hw'
  subst hl0
  exact ⟨_, he, ⟨(), rfl, hK _ (by simpa using h) (.refl _ _)⟩, .refl _⟩
 ·have hn := h.n (by decide)
  have hall := EN_all l
  have hs1 : EN.size = 1 := rfl
  have henc : ∀ x : List UInt8, encStr x = .string ⟨x.toArray⟩ := fun _ => rfl
  have hH : Sort.Holds encStr w g 0 l.toArray := by
   intro j hj
   have hj' : j < l.length := by simpa using hj
   have hv : (EN.all l)[j]? = some (.string ⟨l[j].toArray⟩) := by rw [hall]; simp [hj']
   rw [← h7, List.getElem?_take, if_pos (by rw [hs1]; omega)] at hv
   refine ⟨?_, ?_⟩
   ·rw [Nat.zero_add]
    have := hCell_of (o := j) hg (by simpa using hv)
    simp [hj', henc]
    exact this
   ·rw [Nat.zero_add]; exact hFrozen_of hg
  have hc := AnyM.slices_Sort_string sortStr g 0 cap l w hH (obj_lt hg) hl
  rw [e1, hn]
  refine hc.mono fun e w' ⟨he, n, os, hw'⟩ => ?_
  have hm := List.mergeSort_perm l (fun x y => decide (x ≤ y))
  have hsz : (l.mergeSort fun x y => decide (x ≤ y)).length = l.length := hm.length_eq
  obtain ⟨q1, q2, q3, q4⟩ := sorted_heap (enc := encStr) (n := n) (d := (l.mergeSort fun x y => decide (x ≤ y)).toArray) (os := os) hg (by rw [h6, hs1]; simp [hsz]; omega)
  subst hw'
  refine ⟨_, he, ⟨(), rfl, hK _ ⟨?_, .inr ⟨g, cap, _, e1, hb, q1, h4, h5, by rw [q3]; exact h6, ?_⟩⟩ (q2.mono fun b _ e => ⟨⟨g, 0, none⟩, ?_, e.symm⟩)⟩, (.of_le rfl (Nat.le_add_right _ _))⟩
  ·rw [EN_all, hs1]; simp [hsz, hn]
  ·rw [EN_all, hs1, Nat.mul_one, hn]
   have : (l.mergeSort fun x y => decide (x ≤ y)).toArray.size = l.length := by simp [hsz]
   rw [this] at q4
   rw [q4]
  ·cases s; simp only [Sl.v, Value.slice.injEq] at e1; exact e1.1
open Go.MapKept
def Dk.list (s : Dk) : List (List UInt8) := if s.down then [] else (s.files.map fun f => f.name.toList).mergeSort fun x y => decide (x ≤ y)
theorem elText : ElT Tryz.prog Yaw YaK EN.size 16 := ElT_of (by kernel_rfl)
def nameOf (e : MapEntry) : List UInt8 := match keyName e.key with | some n => n.toList | none => []
theorem strB_toList (n : ByteArray) : strB n.toList = n := by
 unfold strB
 apply ByteArray.ext
 simp [ByteArray.toList_eq]
theorem texts_sorted_eq {l r : List (List UInt8)} (h : l.Perm r) : (l.mergeSort fun x y => decide (x ≤ y)) = r.mergeSort fun x y => decide (x ≤ y) := by
 have tr : ∀ a b c : List UInt8, decide (a ≤ b) = true → decide (b ≤ c) = true → decide (a ≤ c) = true := fun a b c h1 h2 => by simp only [decide_eq_true_eq] at *; exact List.le_trans h1 h2
 have to : ∀ a b : List UInt8, (decide (a ≤ b) || decide (b ≤ a)) = true := fun a b => by simp only [Bool.or_eq_true, decide_eq_true_eq]; exact List.le_total a b
 refine List.Perm.eq_of_pairwise (le := fun a b => decide (a ≤ b) = true) (fun a b _ _ h1 h2 => ?_) (List.pairwise_mergeSort tr to l) (List.pairwise_mergeSort tr to r) (((List.mergeSort_perm l _).trans h).trans (List.mergeSort_perm r _).symm)
 simp only [decide_eq_true_eq] at h1 h2
 exact List.le_antisymm h1 h2
theorem KeysIter_ok {l m cap : Nat} {es : Array MapEntry} {clk : Nat} {H : Heap} {K : Unit → Heap → Prop} (I : List MapEntry → Heap → Prop) (hm : MapAt .string H m es clk) (hcap : RowT H cap Yab #[.map (some m)])
  (hkeys : ∀ e ∈ es.toList, ∃ n, e.key = .string n) (h0 : ∀ A, Mod (fun _ => False) H A → I [] A) (hfr : ∀ l A A', I l A → Mod (fun b => b = H.size) A A' → A'.size = A.size → I l A')
  (hs : ∀ ls e n A, I ls A → e ∈ es.toList → e.key = .string n → (∀ y ∈ ls, y ∈ es.toList) → ls.Nodup → e ∉ ls → A[m]? = some (.map es clk) → H.size < A.size → YieldSpec Tryz.prog l #[.string n] A fun b A' => b = true ∧ I (ls ++ [e]) A' ∧ A'[m]? = A[m]? ∧ A'[H.size]? = A[H.size]?)
  (hfin : ∀ ls A, I ls A → ls.Perm es.toList → K () A) : Zac.sp l ⟨cap, 0, none⟩ H K := by
 refine Zac.of ?_
 unfold Zac.vc
 have := hcap.ld (c := cMap) (i := 0) (x := some m) rfl (K := fun x => doT cPtr Tryz.prog (Instr.range Yab (.map x)) H fun (it : Option Addr) H1 => LoopVC Unit () H1 fun next _ H2 => doT cNext Tryz.prog (Instr.next (.pointer it) false ty_) H2 fun (nx : Bool × List Value) H3 => br nx.1 (doT cTwo Tryz.prog (Instr.entry (.pointer it)) H3 fun (en : Value × Value) H4 => asT cStr en.1 fun (k : ByteArray) => YieldSpec Tryz.prog l #[(.string k)] H4 fun (b : Bool) H5 => br (!b) (K () H5) (next () H5)) (K () H3))
 refine this ?_
 obtain ⟨et, inf, hu, _, _, _⟩ := mapFiles
 refine doT_range hu hm fun H1 hit e1 => ?_
 have hit1 : H.size < H1.size := obj_lt hit
 refine map_range (it := H.size) (fun ls _ A => I ls A ∧ H.size < A.size) (hm.keep (e1.same _ hm.lt id)) hit ⟨h0 H1 e1, hit1⟩ (fun l x A A' h m s => ⟨hfr l A A' h.1 m s, by omega⟩) ?_ (fun ls x A h hp _ => hfin ls A h.1 hp)
 rintro ls e ⟨⟩ A next ⟨hI, hlt⟩ he hel hsub hnd hr hito hnext
 obtain ⟨n, hn⟩ := hkeys e he
 refine ⟨n, by rw [hn], ?_⟩
 refine (hs ls e n A hI he hn hsub hnd hel hr hlt).mono fun b A' hb => ?_
 obtain ⟨rfl, h1, h2, h3⟩ := hb
 refine br_f rfl (hnext () A' ⟨h1, ?_⟩ h2 h3)
 obtain ⟨o, ho⟩ := hito
 rw [← h3] at ho
 exact obj_lt ho
theorem AppendKeys_ok {m cap : Nat} {es : Array MapEntry} {clk : Nat} {H : Heap} {K : Sl → Heap → Prop} (hm : MapAt .string H m es clk) (hcap : RowT H cap Yab #[.map (some m)])
  (hkeys : ∀ e ∈ es.toList, ∃ n, e.key = .string n) (hlen : es.size ≤ 1048576)
  (hK : ∀ (s : Sl) (ls : List MapEntry) (H' : Heap), SlE EN YaK H' s (ls.map nameOf) → ls.Perm es.toList → Mod (fun _ => False) H H' → (∀ b, ownB s b → H.size ≤ b) → K s H') :
  ZaK.sp (Sl.mk none 0 0) (.func (.func Zac.no) #[] #[(.pointer (some ⟨cap, 0, none⟩))]) H K := by
 refine ZaK.of ?_
 unfold ZaK.vc
 refine newC_rowT fun H1 s1 r1 m1 => ?_
 have hcallable : callable Tryz.prog Zac.no = true := by kernel_rfl
 refine ⟨_, _, rfl, hcallable, fun rec hround => ?_⟩
 obtain ⟨r, hr⟩ : ∃ r, r = H1.size := ⟨_, rfl⟩
 obtain ⟨l, hl⟩ : ∃ l, l = H1.size + 1 := ⟨_, rfl⟩
 obtain ⟨p, hp⟩ : ∃ p, p = H.size := ⟨_, rfl⟩
 rw [← hl] at hround ⊢
 rw [← hr]
 rw [← hp] at r1
 rw [← hp] at hround
 rw [← hp]
 obtain ⟨HB, hHB⟩ : ∃ HB : Heap, HB = (H1.push (.deferred (some []))).push (.loop (rec .ready none)) := ⟨_, rfl⟩
 rw [← hHB]
 have eB : Mod (fun _ => False) H1 HB := by rw [hHB]; exact (Mod.push _ _ _).trans (Mod.push _ _ _)
 have sB : HB.size = H1.size + 2 := by rw [hHB]; simp
 have lB : HB[l]? = some (.loop (rec .ready none)) := by rw [hHB, hl, Array.getElem?_push, if_pos (by simp)]
 have rB : HB[r]? = some (.deferred (some [])) := by rw [hHB, hr]; simp [Array.getElem?_push]
 have pB : RowT HB p Yaw #[(Sl.mk none 0 0).v] := r1.ext eB
 have mB : MapAt .string HB m es clk := (hm.keep (m1.same _ hm.lt id)).keep (eB.same _ (by have := hm.lt; omega) id)
 have cB : RowT HB cap Yab #[.map (some m)] := (hcap.ext m1).ext eB
 have hml := hm.lt
 have hcl : cap < H.size := obj_lt hcap
 let I : List MapEntry → Heap → Prop := fun ls A => A[l]? = some (.loop (rec .ready none)) ∧ A[r]? = some (.deferred (some [])) ∧ (∃ s, RowT A p Yaw #[s.v] ∧ SlE EN YaK A s (ls.map nameOf) ∧ (∀ b, ownB s b → HB.size < b)) ∧ Mod (fun b => b = p ∨ b = l ∨ b = HB.size) HB A
 refine Spec.mono (R := fun v H' => ∃ x : Unit, v = (cTup []).enc x ∧ rangeK l rec H' _ _ _) (KeysIter_ok (l := l) (m := m) (cap := cap) (H := HB) (K := fun _ H' => rangeK l rec H' _ _ _) I mB cB hkeys ?_ ?_ ?_ ?_) (fun v H' ⟨x, _, h⟩ => h)
 ·intro A hA
  exact ⟨hA.at lB id, hA.at rB id, ⟨_, pB.ext hA, SlE.nil _ _ _, by rintro b ⟨ad, q, _⟩; cases q⟩, Ext.mod hA⟩
 ·rintro ls A A' ⟨i1, i2, ⟨s, i3, i4, i5⟩, i6⟩ hA hs
  refine ⟨hA.at i1 (by omega), hA.at i2 (by omega), ⟨s, i3.mod hA (by omega), i4.keep fun b hb hbl => hA.same b hbl (by have := i5 b hb; omega), i5⟩, i6.trans (hA.mono fun b _ e => .inr (.inr e))⟩
 ·rintro ls e n A ⟨i1, i2, ⟨s, i3, i4, i5⟩, i6⟩ he hn hsub hnd hel hmA hAl
  refine hround [.string n] A _ i1 ?_
  show onSome (some n) _
  refine ⟨i1, ?_⟩
  obtain ⟨Ab, hAb⟩ : ∃ Ab : Heap, Ab = A.setIfInBounds l (.loop (rec .busy none)) := ⟨_, rfl⟩
  rw [← hAb]
  have mAb : Mod (fun b => b = l) A Ab := by rw [hAb]; exact Mod.setObj rfl
  have sAb : Ab.size = A.size := by rw [hAb]; simp
  have lAb : Ab[l]? = some (.loop (rec .busy none)) := by rw [hAb]; exact setObj_at i1
  have hpl : p ≠ l := by omega
  have p1 := i3.mod mAb hpl
  refine p1.ld (c := cSl) (i := 0) (x := s) rfl ?_
  have tl : ∀ b, ownB s b → b ≠ l := fun b hb => by have := i5 b hb; omega
  have o1 : SlE EN YaK Ab s (ls.map nameOf) := i4.keep fun b hb hbl => mAb.same b hbl (tl b hb)
  have hln : (ls.map nameOf).length ≤ 1048576 := by
   have := List.Nodup.length_le_of_subset hnd (l₂ := es.toList) (fun y hy => hsub y hy)
   simp at this ⊢; omega
  have hne : nameOf e = n.toList := by unfold nameOf; rw [hn]; rfl
  refine SlE.push (E := EN) elText (x := n.toList) o1 (by have := strB_toList n; unfold strB at this; simp [EN, this]) (by omega) (by omega) fun s2 A2 o2 g2 _ => ?_
  have lp : p < Ab.size := obj_lt p1
  have tp : ∀ b, ownB s b → b ≠ p := fun b hb => by have := i5 b hb; omega
  have p2 : RowT A2 p Yaw #[s.v] := p1.mod g2.1 (fun hb => tp _ hb rfl)
  have i6s := i6.size
  have t2 : ∀ b, ownB s2 b → HB.size < b := fun b hb => by
   rcases g2.2 b hb with q | q
   ·exact i5 b q
   ·omega
  have p2st := p2.st (i := 0) (v := s2.v) (by simp) rfl (K := fun H5 => H5[l]? = some (.loop (rec .busy none)) ∧ (fun b A' => b = true ∧ I (ls ++ [e]) A' ∧ A'[m]? = A[m]? ∧ A'[HB.size]? = A[HB.size]?) true (H5.setIfInBounds l (.loop (rec .ready none))))
  rw [show (Addr.add ⟨p, 0, none⟩ 0) = ⟨p, 0, none⟩ from rfl] at p2st
  refine p2st fun A3 p3 m3 s3 => ?_
  have l2 : A2[l]? = some (.loop (rec .busy none)) := g2.1.at lAb (fun hb => tl _ hb rfl)
  have l3 : A3[l]? = some (.loop (rec .busy none)) := m3.at l2 (by omega)
  refine ⟨l3, rfl, ⟨setObj_at l3, ?_, ⟨s2, ?_, ?_, t2⟩, ?_⟩, ?_, ?_⟩
  ·have m4 : Mod (fun b => b = l) A3 (A3.setIfInBounds l (.loop (rec .ready none))) := Mod.setObj rfl
   exact m4.at (m3.at (g2.1.at (mAb.at i2 (by omega)) (fun hb => by have := i5 _ hb; omega)) (by omega)) (by omega)
  ·have m4 : Mod (fun b => b = l) A3 (A3.setIfInBounds l (.loop (rec .ready none))) := Mod.setObj rfl
   exact RowT.mod (show RowT A3 p Yaw #[s2.v] from p3) m4 hpl
  ·have m4 : Mod (fun b => b = l) A3 (A3.setIfInBounds l (.loop (rec .ready none))) := Mod.setObj rfl
   rw [List.map_append, List.map_cons, List.map_nil, hne]
   refine o2.keep fun b hb hbl => ?_
   have := t2 b hb
   exact (m4.same b (by omega) (by omega)).trans (m3.same b hbl (by omega))
  ·have m4 : Mod (fun b => b = l) A3 (A3.setIfInBounds l (.loop (rec .ready none))) := Mod.setObj rfl
   have z2 := g2.1.size
   refine i6.trans' (G := fun b => (b = l ∨ ownB s b) ∨ b = p) ?_ ?_
   ·exact (((mAb.mono fun b _ e => .inl (.inl e)).trans (g2.1.mono fun b _ e => .inl (.inr e))).trans (m3.mono fun b _ e => .inr e)).trans (m4.mono fun b _ e => .inl (.inl e))
   ·rintro b hb ((e | e) | e)
    ·exact .inr (.inl e)
    ·have := i5 b e; omega
    ·exact .inl e
  ·have m4 : Mod (fun b => b = l) A3 (A3.setIfInBounds l (.loop (rec .ready none))) := Mod.setObj rfl
   have z2 := g2.1.size
   have hmAl := obj_lt hmA
   exact (m4.same _ (by omega) (by omega)).trans ((m3.same _ (by omega) (by omega)).trans ((g2.1.same _ (by omega) (fun hb => by have := i5 _ hb; omega)).trans (mAb.same _ hmAl (by omega))))
  ·have m4 : Mod (fun b => b = l) A3 (A3.setIfInBounds l (.loop (rec .ready none))) := Mod.setObj rfl
   have z2 := g2.1.size
   exact (m4.same _ (by omega) (by omega)).trans ((m3.same _ (by omega) (by omega)).trans ((g2.1.same _ (by omega) (fun hb => by have := i5 _ hb; omega)).trans (mAb.same _ (by omega) (by omega))))
 ·rintro ls A ⟨i1, i2, ⟨s, i3, i4, i5⟩, i6⟩ hperm
  refine ⟨.ready, none, i1, rfl, ?_⟩
  show ld cSl _ _ _
  have m4 : Mod (fun b => b = l) A (A.setIfInBounds l (.loop (rec .exhausted none))) := Mod.setObj rfl
  have p4 := i3.mod m4 (by omega)
  refine p4.ld (c := cSl) (i := 0) (x := s) rfl ?_
  have r4 := m4.at i2 (by omega)
  refine ⟨r4, ?_⟩
  have m5 : Mod (fun b => b = r) (A.setIfInBounds l (.loop (rec .exhausted none))) ((A.setIfInBounds l (.loop (rec .exhausted none))).setIfInBounds r (.deferred none)) := Mod.setObj rfl
  have z6 := i6.size
  have z4 := m4.size
  refine hK s ls _ ?_ hperm ?_ (fun b hb => by have := i5 b hb; omega)
  ·refine i4.keep fun b hb hbl => ?_
   have := i5 b hb
   exact (m5.same b (by omega) (by omega)).trans (m4.same b hbl (by omega))
  ·have z5 := m5.size
   refine ⟨by omega, fun b hb _ => (m5.same b (by omega) (by omega)).trans ((m4.same b (by omega) (by omega)).trans ((i6.same b (by omega) (by omega)).trans ((eB.same b (by omega) id).trans (m1.same b hb id))))⟩
theorem List_ok {F : Nat → Prop} {d : Nat} {s : Dk} {H : Heap} {K : Sl → Heap → Prop} (h : DiskAt F H d s) (hK : ∀ l H', SlE EN YaK H' l s.list → Mod (fun _ => False) H H' → (∀ b, ownB l b → H.size ≤ b) → K l H') : ZcL.sp (at0 d) H K := by
 obtain ⟨x, cin, kp, g, hF⟩ := h
 refine ZcL.of ?_
 unfold ZcL.vc
 refine ready_ok g.head (down := s.down) rfl ?_
 cases hd : s.down with
 | true =>
   refine br_t rfl (hK _ H ?_ (.refl _ _) (by rintro b ⟨ad, q, _⟩; cases q))
   unfold Dk.list; rw [hd]; exact SlE.nil _ _ _
 | false =>
   refine br_f rfl ?_
   refine g.head.ld (c := cMap) (i := 0) (x := some x.m) rfl ?_
   refine Zad.of ?_
   unfold Zad.vc
   refine newC_rowT fun H1 s1 r1 m1 => ?_
   refine ZbF.of ?_
   unfold ZbF.vc
   refine Zbz.of ?_
   unfold Zbz.vc
   have hm1 : MapAt .string H1 x.m x.es x.clk := g.files.map.keep (m1.same _ g.files.map.lt id)
   have hfl := g.wf.files
   have hsz := g.files.size
   refine AppendKeys_ok hm1 r1 (fun e he => ?_) (by omega) fun sl ls H2 o2 hp m2 f2 => ?_
   ·obtain ⟨i, f, gf, _, _, h3, _⟩ := g.files.ent' e.key e.val ⟨e, he, rfl, rfl⟩
    exact ⟨_, h3⟩
   have hpn : (ls.map nameOf).Perm (s.files.map fun f => f.name.toList) := by
    have h1 := ((hp.map (·.key)).trans (g.files.perm g.wf)).map fun k => match keyName k with | some n => n.toList | none => []
    rw [List.map_map, List.map_map] at h1
    exact h1
   have hln : (ls.map nameOf).length ≤ 4096 := by rw [hpn.length_eq]; simpa using hfl
   refine SortTexts_ok o2 (by omega) fun H3 o3 m3 => ?_
   rw [texts_sorted_eq hpn] at o3
   have z1 := m1.size; have z2 := m2.size; have z3 := m3.size
   refine hK sl H3 ?_ ⟨by omega, fun b hb _ => (m3.same b (by omega) fun hh => by have := f2 b hh; omega).trans ((m2.same b (by omega) id).trans (m1.same b hb id))⟩ (fun b hb => by have := f2 b hb; omega)
   unfold Dk.list; rw [hd]; exact o3
theorem hPick_ok {i n : Int} {H : Heap} {K : Int → Heap → Prop} (h2 : n ≤ 9223372036854775807) (hn1 : 1 ≤ n)
  (hK : ∀ k : Nat, (k : Int) < n → K (k : Int) H) : ZcK.sp i n H K := by
 refine ZcK.of ?_
 unfold ZcK.vc
 refine br_mk (fun h => ?_) (fun h => ?_)
 ·have : n < 1 := by simpa using h
  omega
 ·refine ⟨by omega, ?_⟩
  have hlt : i.tmod n < n := by
   rw [Int.tmod_eq_emod]
   have := Int.emod_lt_of_pos i (show 0 < n by omega)
   split <;> omega
  have hb1 : -n < i.tmod n := by
   rw [Int.tmod_eq_emod]
   have := Int.emod_nonneg i (show n ≠ 0 by omega)
   have : (n.natAbs : Int) = n := by omega
   split <;> omega
  refine br_mk (fun h => ?_) (fun h => ?_)
  ·have hneg : i.tmod n < 0 := by simpa using h
   rw [wrap64 (by omega) (by omega)]
   have e : i.tmod n + n = ((i.tmod n + n).toNat : Int) := by omega
   rw [e]
   exact hK _ (by omega)
  ·have hpos : 0 ≤ i.tmod n := by simpa using h
   have e : i.tmod n = ((i.tmod n).toNat : Int) := by omega
   rw [e]
   exact hK _ (by omega)
theorem u64_id {x : Int} (h0 : 0 ≤ x) (h1 : x < 18446744073709551616) : IntKind.u64.wrap x = x := by
 simp only [IntKind.wrap, IntKind.bits, IntKind.signed]
 simp
 omega
theorem rowsA_succ (w : Int) (i : Nat) : rowsA w (i + 1) = rowsA w i ++ [rowA w i] := by
 unfold rowsA
 rw [List.range_succ, List.map_append]; rfl
theorem rowsB_succ (w : Int) (i : Nat) : rowsB w (i + 1) = rowsB w i ++ [rowB w i] := by
 unfold rowsB
 rw [List.range_succ, List.map_append]; rfl
theorem rowsA_len (w : Int) (i : Nat) : (rowsA w i).length = i := by unfold rowsA; rw [List.length_map, List.length_range]
theorem rowsB_len (w : Int) (i : Nat) : (rowsB w i).length = i := by unfold rowsB; rw [List.length_map, List.length_range]
theorem rowA_fit {w : Int} (hw : 0 ≤ w ∧ w < 18446744073709551616) {i : Nat} (hi : i < 1000) : fitsL (rowA w i) := fun x hx => by
 unfold rowA at hx
 simp only [List.mem_cons, List.not_mem_nil, or_false] at hx
 omega
theorem rowB_fit {w : Int} (hw : 0 ≤ w ∧ w < 18446744073709551616) {i : Nat} (hi : i < 1000) : fitsL (rowB w i) := fun x hx => by
 unfold rowB at hx
 simp only [List.mem_cons, List.not_mem_nil, or_false] at hx
 omega
theorem key_two [Tab] {k : Nat} (hk : k < 2) (w : Int) (i : Nat) : turnL (rowA w i) ([0].take k) = [w].take k ∧ turnL (rowB w i) ([3].take k) = [w].take k := by
 have : k = 0 ∨ k = 1 := by omega
 rcases this with rfl | rfl
 ·exact ⟨rfl, rfl⟩
 ·exact ⟨by simp [turnL, turnOK, rowA], by simp [turnL, turnOK, rowB]⟩
theorem PoolM.list0 [Tab] {H0 A : Heap} {p dp : Nat} {F : Nat → Prop} {s : Pl} {M : Files} {Q U most m : Nat} {K : Sl → Heap → Prop} (h : PoolM H0 A F p dp s M Q U most m) (hg : Gl H0) (hno : ∀ a, M a = none) (hK : ∀ l B, l.n = 0 → Ext A B → K l B) : ZcL.sp (at0 dp) A K := by
 obtain ⟨D, d1, _, _⟩ := PoolAt.disk (h.gl hg) h.pool
 refine List_ok d1 fun l B o e _ => hK l B ?_ e
 have hn := SlE.n o (by decide)
 rw [hn]
 unfold Dk.list
 rw [if_neg (by rw [h.calm.told.up]; simp), (List.mergeSort_perm _ _).length_eq, List.length_map]
 have h1 := h.calm.told.files_le (ns := []) fun a x ha => by rw [hno a] at ha; cases ha
 simpa using h1
theorem pool100 [Tab] {H A : Heap} {F : Nat → Prop} {p dp : Nat} (e : Ext H A) (hp : PoolAt F A p dp (pl0 (dk0 100000) 8)) (ho : ∀ b, F b → H.size ≤ b) : PoolM H A F p dp (pl0 (dk0 100000) 8) (fun _ => none) 100000 0 8 1 :=
 ⟨e, hp, ho, ⟨⟨rfl, rfl, rfl, by decide, by decide, List.nodup_nil, fun i f hf => (by cases hf), fun n x hx => (by cases hx), fun g hg => (by cases hg)⟩, pl0_wf (by decide) (by decide), fun f hf => (by cases hf)⟩, by decide, by decide, by decide, by decide, fun n x hx => (by cases hx), rfl⟩
theorem RowsT.rowsX [Tab] {A B : Heap} {s : Sl} {ls : List (List Int)} (h : RowsT (fun _ => False) A s ls) (e : Ext A B) : Rows B s ls := (h.step ⟨Ext.mod e, fun b u => .inl u⟩ : RowsT (fun _ => False) B s ls).rows
theorem tld_perm (w : Int) (na nb : Nat) : (tldL (rowsB w nb) (rowsA w na)).Perm (pairL (rowsB w nb) (rowsA w na)) := by
 unfold tldL
 split
 ·exact List.Perm.refl _
 ·exact passL_perm (by decide) _ _
section
variable {H : Heap}
set_option maxRecDepth 100000 in
set_option maxHeartbeats 8000000 in
theorem HashAll_ok [Tab] {na nb word : Int} {K : Bool → Heap → Prop} (hg : Gl H) (hw : 0 ≤ word ∧ word < 18446744073709551616) (hK : ∀ B, Ext H B → K true B) : ZbG.sp na nb word H K := by
 refine ZbG.of ?_
 unfold ZbG.vc
 refine hPick_ok (by decide) (by decide) fun ka hka => ?_
 refine hPick_ok (by decide) (by decide) fun kb hkb => ?_
 -- the rows of the left side
 refine loop_upto ka (fun i z D => z.2 = (i : Int) ∧ i ≤ ka ∧ Ext H D ∧ RowsT (fun _ => False) D z.1 (rowsA word i) ∧ ∀ b, ownB z.1 b → H.size ≤ b) ⟨rfl, Nat.zero_le _, .refl _ _, RowsT.nil _ _, fun b u => absurd u (nilOwn b)⟩ ?_
 rintro i ⟨sa, zi⟩ D next hi ⟨hzi, hia, eD, ra, oa⟩ hnext
 simp only at hzi ra oa ⊢
 subst hzi
 have zD := eD.size
 by_cases hik : i < ka
 ·refine br_t (decide_eq_true (by omega)) ?_
  refine elU64.make (base := D.size) (by decide) (by decide) (by decide) (by decide) (Nat.le_refl _) ?_
  intro l D1 n1 o1 e1 b1 _
  have n1 : l.n = 16 := n1
  refine Owns.st o1 (i := 0) (by decide) (by rw [n1]; decide) rfl fun D2 o2 m2 z2 => ?_
  rw [u64_id (by omega) (by omega)]
  refine Owns.st o2 (i := 5) (by decide) (by rw [n1]; decide) rfl fun D3 o3 m3 z3 => ?_
  have o3 : Owns D3 D.size YaJ 1 l ((rowA word i).map (Value.int .u64)) := o3
  have z1 := e1.size
  have eD3 : Ext D D3 := ⟨by omega, fun b hb _ => (m3.same b (by omega) fun u => by have := b1 b u; omega).trans ((m2.same b (by omega) fun u => by have := b1 b u; omega).trans (e1.same b hb id))⟩
  have ra3 : RowsT (fun _ => False) D3 sa (rowsA word i) := ra.step ⟨Ext.mod eD3, fun b u => .inl u⟩
  refine ra3.snoc (r := l) (l := rowA word i) (by rw [rowsA_len]; omega) o3.ints (fun a ha => ⟨(o3.block _ ⟨a, ha, rfl⟩).2, id, fun u => by have := ra.lt _ u; have := b1 _ ⟨a, ha, rfl⟩; omega⟩) fun s' D4 fY m4 ho => ?_
  have z4 := m4.size
  refine hnext hik _ _ ⟨succ64 i (by omega), by omega, ⟨by omega, fun b hb _ => (m4.same b (by omega) fun u => by have := oa b u; omega).trans ((eD3.same b (by omega) id).trans (eD.same b hb id))⟩, ?_, fun b hb => (ho b hb).elim (oa b) fun u => by omega⟩
  rw [rowsA_succ]
  exact fY _ (fun _ u => u) fun _ u => u.elim
 have hik : i = ka := by omega
 subst hik
 refine br_f (decide_eq_false (by omega)) ?_
 -- the rows of the right side
 refine loop_upto kb (fun j z E => z.2 = (j : Int) ∧ j ≤ kb ∧ Ext D E ∧ RowsT (fun _ => False) E z.1 (rowsB word j) ∧ ∀ b, ownB z.1 b → D.size ≤ b) ⟨rfl, Nat.zero_le _, .refl _ _, RowsT.nil _ _, fun b u => absurd u (nilOwn b)⟩ ?_
 rintro j ⟨sb, zj⟩ E next1 hj ⟨hzj, hjb, eE, rb, ob⟩ hnext1
 simp only at hzj rb ob ⊢
 subst hzj
 have zE := eE.size
 by_cases hjk : j < kb
 ·refine br_t (decide_eq_true (by omega)) ?_
  refine elU64.make (base := E.size) (by decide) (by decide) (by decide) (by decide) (Nat.le_refl _) ?_
  intro l D1 n1 o1 e1 b1 _
  have n1 : l.n = 16 := n1
  refine Owns.st o1 (i := 3) (by decide) (by rw [n1]; decide) rfl fun D2 o2 m2 z2 => ?_
  rw [u64_id (by omega) (by omega)]
  refine Owns.st o2 (i := 15) (by decide) (by rw [n1]; decide) rfl fun D3 o3 m3 z3 => ?_
  have o3 : Owns D3 E.size YaJ 1 l ((rowB word j).map (Value.int .u64)) := o3
  have z1 := e1.size
  have eD3 : Ext E D3 := ⟨by omega, fun b hb _ => (m3.same b (by omega) fun u => by have := b1 b u; omega).trans ((m2.same b (by omega) fun u => by have := b1 b u; omega).trans (e1.same b hb id))⟩
  have rb3 : RowsT (fun _ => False) D3 sb (rowsB word j) := rb.step ⟨Ext.mod eD3, fun b u => .inl u⟩
  refine rb3.snoc (r := l) (l := rowB word j) (by rw [rowsB_len]; omega) o3.ints (fun a ha => ⟨(o3.block _ ⟨a, ha, rfl⟩).2, id, fun u => by have := rb.lt _ u; have := b1 _ ⟨a, ha, rfl⟩; omega⟩) fun s' D4 fY m4 ho => ?_
  have z4 := m4.size
  refine hnext1 hjk _ _ ⟨succ64 j (by omega), by omega, ⟨by omega, fun b hb _ => (m4.same b (by omega) fun u => by have := ob b u; omega).trans ((eD3.same b (by omega) id).trans (eE.same b hb id))⟩, ?_, fun b hb => (ho b hb).elim (ob b) fun u => by omega⟩
  rw [rowsB_succ]
  exact fY _ (fun _ u => u) fun _ u => u.elim
 have hjk : j = kb := by omega
 subst hjk
 refine br_f (decide_eq_false (by omega)) ?_
 refine newC_rowT fun E1 y1 p2 f1 => ?_
 refine newC_rowT fun E2 y2 p3 f2 => ?_
 have p2' : RowT E2 E.size YaM #[.int .i64 0] := RowT.ext p2 f2
 have f12 := f1.trans f2
 have eHE : Ext H E2 := (eD.trans eE).trans f12
 have hRA : ∀ k, k < 2 → ∀ r ∈ rowsA word i, turnL r ([0].take k) = [word].take k ∧ r.length = 16 ∧ fitsL r := fun k hk r hr => by
  unfold rowsA at hr
  obtain ⟨q, hq, rfl⟩ := List.mem_map.1 hr
  have hq := List.mem_range.1 hq
  exact ⟨(key_two hk word q).1, rfl, rowA_fit hw (by omega)⟩
 have hRB : ∀ k, k < 2 → ∀ r ∈ rowsB word j, turnL r ([3].take k) = [word].take k ∧ r.length = 16 ∧ fitsL r := fun k hk r hr => by
  unfold rowsB at hr
  obtain ⟨q, hq, rfl⟩ := List.mem_map.1 hr
  have hq := List.mem_range.1 hq
  exact ⟨(key_two hk word q).2, rfl, rowB_fit hw (by omega)⟩
 have hlA := rowsA_len word i
 have hlB := rowsB_len word j
 have hNN : i * j ≤ 12000 := by
  have : i * j ≤ 60 * 200 := Nat.mul_le_mul (by omega) (by omega)
  omega
 have hwm : IntKind.i64.wrap ((i : Int) * (j : Int)) = ((i * j : Nat) : Int) := by
  rw [← Int.natCast_mul, wrap64 (by omega) (by omega)]
 refine loop_upto 2 (fun k z C => z = (k : Int) ∧ k ≤ 2 ∧ Ext E2 C) ⟨rfl, by decide, .refl _ _⟩ ?_
 rintro k _ C next2 hk ⟨rfl, hk2, eC⟩ hnext2
 by_cases hkk : k = 2
 ·subst hkk
  refine br_f rfl ?_
  exact hworks_ok fun B eB => hK B ((eHE.trans eC).trans eB)
 have hk : k < 2 := by omega
 refine br_t (decide_eq_true (by omega)) ⟨⟨by omega, by omega⟩, ?_⟩
 have p3' : RowT E2 E1.size YaI #[.slice none 0 0, .slice (some ⟨E.size, 0, none⟩) 1 1] := p3
 obtain ⟨cols, hcell, hcols⟩ : ∃ cols : Sl, (#[.slice none 0 0, .slice (some ⟨E.size, 0, none⟩) 1 1] : Array Value)[k]? = some cols.v ∧ Ints .i64 C cols ([0].take k) := by
  have : k = 0 ∨ k = 1 := by omega
  rcases this with rfl | rfl
  ·exact ⟨Sl.mk none 0 0, rfl, rfl, fun i v hv => by simp at hv⟩
  ·exact ⟨⟨some ⟨E.size, 0, none⟩, 1, 1⟩, rfl, one_int (p2'.ext eC)⟩
 refine ⟨cols, ?_, ?_⟩
 ·rw [Int.toNat_natCast, Nat.mul_one, add_lit0]
  exact (p3'.ext eC).cell hcell
 have hcn : cols.n = k := by
  have := hcols.len
  rw [List.length_take] at this
  simp at this; omega
 have hgC : Gl C := hg.mod (eHE.trans eC) id
 have hgl := hgC.lt
 refine New_ok (by decide) fun F1 d C1 a1 g1 h1 => ?_
 refine PoolNew_ok (m := 8) (hgC.mod g1 id) a1 (fun q => by have := h1 _ q; omega) (by decide) (by decide) fun F p C2 hp g2 h2 => ?_
 have g12 := g1.trans g2
 have zz1 := g1.size
 have zz2 := g2.size
 have hP2 : PoolM C C2 F p d (pl0 (dk0 100000) 8) (fun _ => none) 100000 0 8 1 := pool100 g12 hp fun b hb => by
  rcases h2 b hb with q | q
  ·exact h1 b q
  ·omega
 refine newC_rowT fun C3 y3 bc g3 => ?_
 have g13 := g12.trans g3
 refine ⟨fun _ => True, trivial, ?_⟩
 have eHC3 : Ext D C3 := ((eE.trans f12).trans eC).trans g13
 refine From_ok (ls := rowsA word i) (ra.rowsX eHC3) (by omega) (fun l hl => by rw [(hRA k hk l hl).2.1]; decide) fun sa1 la1 wa1 s1 rs1 C4 row1 cell1 wid1 own1 low1 g4 hw1 hl1 lo1 hi1 => ⟨trivial, ?_⟩
 subst hw1
 subst hl1
 rw [if_neg (by decide)] at row1
 have src1 : SrcB C4 C3.size sa1 16 s1 rs1 (rowsA word i) := ⟨row1, cell1, wid1, own1, low1, lo1, hi1⟩
 have eEC4 : Ext E C4 := ((f12.trans eC).trans g13).trans g4
 refine From_ok (ls := rowsB word j) (rb.rowsX eEC4) (by omega) (fun l hl => by rw [(hRB k hk l hl).2.1]; decide) fun sb1 lb1 wb1 s2 rs2 C5 row2 cell2 wid2 own2 low2 g5 hw2 hl2 lo2 hi2 => ⟨trivial, ?_⟩
 subst hw2
 subst hl2
 rw [if_neg (by decide)] at row2
 have src2 : SrcB C5 C4.size sb1 16 s2 rs2 (rowsB word j) := ⟨row2, cell2, wid2, own2, low2, lo2, hi2⟩
 have g45 := g4.trans g5
 have zz3 := g3.size
 have zz4 := g4.size
 have hP5 := ((hP2.grow g3).grow g45)
 refine ⟨⟨by omega, by omega⟩, ?_⟩
 have hbc : Ints .i64 C5 (Sl.mk (slA (some ⟨C2.size, 0, none⟩) 1 0 1) (((cols.n : Int).toNat) - 0) (1 - 0)) ([3].take k) := by
  rw [hcn, Int.toNat_natCast, Nat.sub_zero]
  have h3 := one_int ((RowT.ext bc g45 : RowT C5 C2.size YaM #[.int .i64 3]))
  have : k = 0 ∨ k = 1 := by omega
  rcases this with rfl | rfl
  ·exact ⟨rfl, fun i v hv => by simp at hv⟩
  ·exact h3
 have hkl : ([0].take k : List Int).length = k ∧ ([3].take k : List Int).length = k := by
  have : k = 0 ∨ k = 1 := by omega
  rcases this with rfl | rfl <;> exact ⟨rfl, rfl⟩
 have hKl : ([word].take k).length ≤ 1000 := by rw [List.length_take]; simp; omega
 have hsF : ∀ b, F b → b < C3.size := fun b hb => by have := hP2.pool.lt b hb; omega
 refine hJoin_ok (na := C3.size) (sa := sa1) (nb := C4.size) (sb := sb1) (cla := [0].take k) (clb := [3].take k) (Kk := [word].take k) hP5 rfl hsF (by omega) (src1.ext g5) src2 (by omega) (fun l hl => (hRA k hk l hl).2.1) (fun l hl => (hRB k hk l hl).2.1) (hcols.ext (g13.trans g45)) hbc (by rw [hkl.1, hkl.2]) (by rw [hkl.1]; omega) (fun x hx => ?_) (fun x hx => ?_) fun c so C6 rso T fa fb g6 hso1 hso2 hso3 => ?_
 ·have := List.mem_of_mem_take hx
  rw [List.mem_singleton.1 this]; decide
 ·have := List.mem_of_mem_take hx
  rw [List.mem_singleton.1 this]; decide
 refine br_f rfl ?_
 rw [hwm]
 have zz5 := g5.size
 have zz6 := g6.size
 have hN : (tldL (rowsB word j) (rowsA word i)).length = i * j := by rw [tld_len, hlA, hlB]
 refine hrest_ok (n := sumW ([word].take k) (-1)) (N := i * j) T hgC (by decide) ⟨by rw [hkl.1]; omega, by rw [hkl.2]; omega⟩ hKl rfl (by decide) (by decide) fa fb (hRA k hk) (hRB k hk) (by omega) (by omega) rso ⟨by omega, fun u => by have := hsF so u; omega⟩ (fun b hb => (hso3 b hb).2) hN hNN fun out C7 F' s' M' U' m' x' bl' T' ro => ?_
 have hq : ∀ r ∈ tldL (rowsB word j) (rowsA word i), r.length ≤ 1000 := fun r hr => by
  have hr := (tld_perm word i j).mem_iff.1 hr
  unfold pairL at hr
  obtain ⟨a, ha, hr⟩ := List.mem_flatMap.1 hr
  obtain ⟨b, hb, rfl⟩ := List.mem_map.1 hr
  rw [List.length_append, (hRA k hk a ha).2.1, (hRB k hk b hb).2.1]; decide
 refine Ordered_ok (i * j) (by omega) (by omega) ro.toX ro.cap hq fun l2 C8 ls' hperm hup r2 c2 e8 => ?_
 have hls : ls' = pairL (rowsB word j) (rowsA word i) := rise_again (pairs_rise word i j) hup (hperm.trans (tld_perm word i j))
 subst hls
 have hl2 : l2.n = i * j := by rw [r2.len, pairL_len, hlA, hlB]
 refine br_f (by rw [hl2]; simp) ?_
 have hM' : ∀ a, M' a = none := fun a => by
  cases hq : M' a with
  | none => rfl
  | some y =>
    obtain ⟨f, hf, _⟩ := T'.only a y hq
    cases hf
 refine (T'.P.grow e8).list0 hgC hM' fun l3 C9 n3 e9 => ?_
 refine br_f (by rw [n3]; rfl) ?_
 have r3 := r2.extX e9
 have eF : Ext C C9 := (T'.P.ext.trans e8).trans e9
 have hpl : (pairL (rowsB word j) (rowsA word i)).length = i * j := by rw [pairL_len, hlA, hlB]
 refine loop_upto (i * j) (fun q z G => z = (q : Int) ∧ C9 = G) ⟨rfl, rfl⟩ ?_
 rintro q _ _ next3 hq3 ⟨rfl, rfl⟩ hnext3
 by_cases hqe : q = i * j
 ·subst hqe
  refine br_f (by rw [hl2]; exact decide_eq_false (by omega)) ?_
  exact hnext2 hk _ _ ⟨succ64 k (by omega), by omega, eC.trans eF⟩
 have hq : q < i * j := by omega
 refine br_t (by rw [hl2]; exact decide_eq_true (by omega)) ?_
 have hj0 : 0 < j := by
  rcases Nat.eq_zero_or_pos j with e | e
  ·rw [e] at hq; simp at hq
  ·exact e
 have hdiv : q / j < i := by rw [Nat.div_lt_iff_lt_mul hj0]; exact hq
 have hmod : q % j < j := Nat.mod_lt _ hj0
 obtain ⟨ad, r, q1, q2, q3, q4⟩ := r3.at' q (by omega)
 have hrow : (pairL (rowsB word j) (rowsA word i))[q]'(by omega) = rowA word (q / j) ++ rowB word (q % j) := by
  have h1 := pairL_at (A := rowsA word i) (B := rowsB word j) (q := q) (a := rowA word (q / j)) (b := rowB word (q % j)) (by
   rw [hlB]; unfold rowsA; rw [List.getElem?_map, List.getElem?_range hdiv]; rfl) (by
   rw [hlB]; unfold rowsB; rw [List.getElem?_map, List.getElem?_range hmod]; rfl)
  rw [List.getElem?_eq_getElem (by omega)] at h1
  exact Option.some.inj h1
 rw [hrow] at q4
 have hrn : r.n = 32 := q4.len
 have ldr : ∀ {M : Sl → Prop}, M r → optK l2.a fun a => (0 ≤ (q : Int) ∧ (q : Int) < (l2.n : Int)) ∧ Go.Proofs.YtkehfflpbpdokaaGreat.ld cSl C9 (a.add ((q : Int).toNat * 1)) M := fun {M} hM => optK_mk ad q1 ⟨⟨by omega, by omega⟩, r, by rw [Int.toNat_natCast, Nat.mul_one]; exact q2, hM⟩
 have ldw : ∀ (p : Nat) (v : Int) (hp : p < 32) {M : Int → Prop}, (rowA word (q / j) ++ rowB word (q % j))[p]? = some v → M v → optK r.a fun a => (0 ≤ (p : Int) ∧ (p : Int) < (r.n : Int)) ∧ Go.Proofs.YtkehfflpbpdokaaGreat.ld (cInt .u64) C9 (a.add ((p : Int).toNat * 1)) M := fun p v hp {M} hv hM => by
  obtain ⟨hpl, hv⟩ := List.getElem?_eq_some_iff.1 hv
  obtain ⟨a5, b5, c5⟩ := q4.at (i := p) hpl
  rw [hv] at c5
  exact optK_mk a5 b5 ⟨⟨by omega, by omega⟩, v, by rw [Int.toNat_natCast, Nat.mul_one]; exact c5, hM⟩
 refine ldr (br_f (by rw [hrn]; rfl) ?_)
 refine ldr ?_
 refine ldw 5 ((q / j : Nat) : Int) (by decide) rfl ⟨by omega, ?_⟩
 have hd : Int.tdiv (q : Int) (j : Int) = ((q / j : Nat) : Int) := (Int.ofNat_tdiv q j).symm
 have hm : Int.tmod (q : Int) (j : Int) = ((q % j : Nat) : Int) := (Int.ofNat_tmod q j).symm
 rw [hd, hm]
 generalize q / j = qd at hdiv ldw ⊢
 generalize q % j = qm at hmod ldw ⊢
 rw [wrap64 (by omega) (by omega), u64_id (by omega) (by omega), u64_id (by omega) (by omega)]
 refine br_f (by simp) ?_
 refine ldr ?_
 refine ldw 31 (qm : Int) (by decide) rfl ⟨by omega, ?_⟩
 refine br_f (by simp) ?_
 exact hnext3 hq _ _ ⟨succ64 q (by omega), rfl⟩
end
end Go.Proofs.YtkehfflpbpdokaaGreat
namespace Go.Proofs.YtkehfflpbpdokaaGreat
open Go.ChangeShapes Go.WideShapes Go.ChangeAt Go.RowKit
-- TABOFF
theorem fits_w64 {n : Int} (h : (Lit.int .u64 n).wf = true) : 0 ≤ n ∧ n < 18446744073709551616 := by
 simp only [Lit.wf, Bool.and_eq_true, decide_eq_true_eq] at h
 have h1 : IntKind.u64.min = 0 := rfl
 have h2 : IntKind.u64.max = 18446744073709551615 := rfl
 omega
set_option maxRecDepth 100000 in
theorem hashAll_lifted (os : Os) (started : os.Started) (H : Type) (enc : TypeId × Value → H) :
  ReturnsInHanded {} Tryz.checked os 3 .any (Rows.hashAllSpec.pre6 enc Tryz.prog Tryz.f3 Rows.hashAllRow.domain false) (Rows.hashAllSpec.post enc Tryz.prog Tryz.f3 false true false false) := by
 refine handed_of_shape (C := Tryz.checked) tprog_own started (by kernel_rfl) Tryz.func3
  (ChangeSpec.witness6 (enc := enc) (C := Tryz.checked) false ⟨#[], #[.int .i64 0, .int .i64 0, .int .u64 0], []⟩ 8 (by kernel_rfl) (by kernel_rfl) (by kernel_rfl) (by kernel_rfl)) ?_
 intro W base args ds gs before hsh hval0 hW
 have hval : ∀ (j : Nat) t v, Tryz.f3.params[j]? = some t → args[j]? = some v → Value.okWide Tryz.prog W .any base t v := hval0
 have hW' := hW
 obtain ⟨p, q, hA0, hV, rfl, hfz, hnd⟩ := hW
 have hA : DataW.TrodAll enc Tryz.prog W 0 (fun _ => true) true Tryz.f3.params.toList args.toList ds p := hA0
 rw [Tryz.params3] at hA hval
 obtain ⟨v0, v1, v2, d0, d1, d2, p0, p1, p2, rfl, rfl, rfl, h0, h1, h2⟩ := trodAll_three hA
 obtain ⟨rfl, rfl⟩ := trodVars_none hV
 obtain ⟨na, rfl, rfl, rfl, _⟩ := open_int (k := .i64) (t := YaM) (by kernel_rfl) (hval 0 YaM v0 rfl rfl) h0
 obtain ⟨nb, rfl, rfl, rfl, _⟩ := open_int (k := .i64) (t := YaM) (by kernel_rfl) (hval 1 YaM v1 rfl rfl) h1
 obtain ⟨w, rfl, rfl, rfl, hw⟩ := open_int (k := .u64) (t := YaJ) (by kernel_rfl) (hval 2 YaJ v2 rfl rfl) h2
 obtain ⟨T, hT⟩ := gl_of_shape hsh
 have hspec := @HashAll_ok W.heap T na nb w (fun b H' => b = true ∧ Ext W.heap H') hT (fits_w64 hw) (fun H' e => ⟨rfl, e⟩)
 refine (hspec W rfl).mono fun e W' ⟨v, he, ⟨x, hx, hb, hext⟩, hal⟩ => ?_
 subst he; subst hx; subst hb
 exact ⟨_, rfl, law_post tprog_laidOut (by decide +kernel) rfl (by kernel_rfl) rfl rfl rfl rfl hW' hext hal⟩
theorem hashAll_holds : Rows.HashAllSaid :=
 OpenClaim.holds_of_wide 3 Tryz.f3 rfl rfl rfl rfl rfl rfl rfl ⟨rfl, rfl, rfl, rfl, rfl⟩ rfl rfl rfl rfl rfl (by kernel_rfl) Tryz.func3 (by kernel_rfl)
  (of_decide_eq_true (by kernel_rfl)) (by unfold Func.isWrapper; first | (rw [if_pos (by decide +kernel)]; kernel_rfl) | (rw [if_neg (by decide +kernel)]; exact ⟨rfl, rfl⟩))
  (fun os started H enc _ => hashAll_lifted os started H enc)
#print axioms hashAll_holds
end Go.Proofs.YtkehfflpbpdokaaGreat
