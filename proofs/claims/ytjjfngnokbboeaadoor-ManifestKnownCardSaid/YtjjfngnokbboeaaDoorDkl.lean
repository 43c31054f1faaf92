/-
  The disk: List, over the library's sorted keys of a map.
-/
import Derived.Test.YtjjfngnokbboeaaDoorDkt
import Derived.Test.YtjjfngnokbboeaaDoorDkx
namespace Go.Proofs.YtjjfngnokbboeaaDoor
open Go.MapKept

def Dk.list (s : Dk) : List (List UInt8) := if s.down then [] else (s.files.map fun f => f.name.toList).mergeSort fun x y => decide (x ≤ y)

theorem elText : ElT Tryd.prog ty_sl_string ty_string EN.size 16 := ElT_of (by kernel_rfl)
def nameOf (e : MapEntry) : List UInt8 := match keyName e.key with | some n => n.toList | none => []
theorem strB_toList (n : ByteArray) : strB n.toList = n := by
  unfold strB
  apply ByteArray.ext
  simp [ByteArray.toList_eq]

theorem texts_sorted_eq {l r : List (List UInt8)} (h : l.Perm r) : (l.mergeSort fun x y => decide (x ≤ y)) = r.mergeSort fun x y => decide (x ≤ y) := by
  have tr : ∀ a b c : List UInt8, decide (a ≤ b) = true → decide (b ≤ c) = true → decide (a ≤ c) = true := fun a b c h1 h2 => by simp only [decide_eq_true_eq] at *; exact List.le_trans h1 h2
  have to : ∀ a b : List UInt8, (decide (a ≤ b) || decide (b ≤ a)) = true := fun a b => by simp only [Bool.or_eq_true, decide_eq_true_eq]; exact List.le_total a b
  refine List.Perm.eq_of_pairwise (le := fun a b => decide (a ≤ b) = true) (fun a b _ _ h1 h2 => ?_) (List.pairwise_mergeSort tr to l) (List.pairwise_mergeSort tr to r) (((List.mergeSort_perm l _).trans h).trans (List.mergeSort_perm r _).symm)
  simp only [decide_eq_true_eq] at h1 h2
  exact List.le_antisymm h1 h2

theorem KeysIter_ok {l m cap : Nat} {es : Array MapEntry} {clk : Nat} {H : Heap} {K : Unit → Heap → Prop} (I : List MapEntry → Heap → Prop) (hm : MapAt .string H m es clk) (hcap : RowT H cap ty_maparr_string_ptr_disk_file #[.map (some m)])
    (hkeys : ∀ e ∈ es.toList, ∃ n, e.key = .string n) (h0 : ∀ A, Mod (fun _ => False) H A → I [] A) (hfr : ∀ l A A', I l A → Mod (fun b => b = H.size) A A' → A'.size = A.size → I l A')
    (hs : ∀ ls e n A, I ls A → e ∈ es.toList → e.key = .string n → (∀ y ∈ ls, y ∈ es.toList) → ls.Nodup → e ∉ ls → A[m]? = some (.map es clk) → H.size < A.size → YieldSpec Tryd.prog l #[.string n] A fun b A' => b = true ∧ I (ls ++ [e]) A' ∧ A'[m]? = A[m]? ∧ A'[H.size]? = A[H.size]?)
    (hfin : ∀ ls A, I ls A → ls.Perm es.toList → K () A) : maps_Keys_map_string_ptr_disk_file_string_ptr_disk_file_c1.sp l ⟨cap, 0, none⟩ H K := by
  refine maps_Keys_map_string_ptr_disk_file_string_ptr_disk_file_c1.of ?_
  unfold maps_Keys_map_string_ptr_disk_file_string_ptr_disk_file_c1.vc
  have := hcap.ld (c := cMap) (i := 0) (x := some m) rfl (K := fun x => doT cPtr Tryd.prog (Instr.range ty_maparr_string_ptr_disk_file (.map x)) H fun (it : Option Addr) H1 => LoopVC Unit () H1 fun next _ H2 => doT cNext Tryd.prog (Instr.next (.pointer it) false ty_) H2 fun (nx : Bool × List Value) H3 => br nx.1 (doT cTwo Tryd.prog (Instr.entry (.pointer it)) H3 fun (en : Value × Value) H4 => asT cStr en.1 fun (k : ByteArray) => YieldSpec Tryd.prog l #[(.string k)] H4 fun (b : Bool) H5 => br (!b) (K () H5) (next () H5)) (K () H3))
  refine this ?_
  obtain ⟨et, inf, hu, _, _, _⟩ := mapFiles
  refine doT_range hu hm fun H1 hit e1 => ?_
  have hit1 : H.size < H1.size := obj_lt hit
  refine map_range (it := H.size) (fun ls _ A => I ls A ∧ H.size < A.size) (hm.keep (e1.same _ hm.lt id)) hit ⟨h0 H1 e1, hit1⟩ (fun l x A A' h m s => ⟨hfr l A A' h.1 m s, by omega⟩) ?_ (fun ls x A h hp _ => hfin ls A h.1 hp)
  rintro ls e ⟨⟩ A next ⟨hI, hlt⟩ he hel hsub hnd hr hito hnext
  obtain ⟨n, hn⟩ := hkeys e he
  refine ⟨n, by rw [hn], ?_⟩
  refine (hs ls e n A hI he hn hsub hnd hel hr hlt).mono fun b A' hb => ?_
  obtain ⟨rfl, h1, h2, h3⟩ := hb
  refine br_f rfl (hnext () A' ⟨h1, ?_⟩ h2 h3)
  obtain ⟨o, ho⟩ := hito
  rw [← h3] at ho
  exact obj_lt ho

theorem AppendKeys_ok {m cap : Nat} {es : Array MapEntry} {clk : Nat} {H : Heap} {K : Sl → Heap → Prop} (hm : MapAt .string H m es clk) (hcap : RowT H cap ty_maparr_string_ptr_disk_file #[.map (some m)])
    (hkeys : ∀ e ∈ es.toList, ∃ n, e.key = .string n) (hlen : es.size ≤ 1048576)
    (hK : ∀ (s : Sl) (ls : List MapEntry) (H' : Heap), SlE EN ty_string H' s (ls.map nameOf) → ls.Perm es.toList → Mod (fun _ => False) H H' → (∀ b, ownB s b → H.size ≤ b) → K s H') :
    slices_AppendSeq_sl_string_string.sp (Sl.mk none 0 0) (.func (.func maps_Keys_map_string_ptr_disk_file_string_ptr_disk_file_c1.no) #[] #[(.pointer (some ⟨cap, 0, none⟩))]) H K := by
  refine slices_AppendSeq_sl_string_string.of ?_
  unfold slices_AppendSeq_sl_string_string.vc
  refine newC_rowT fun H1 s1 r1 m1 => ?_
  have hcallable : callable Tryd.prog maps_Keys_map_string_ptr_disk_file_string_ptr_disk_file_c1.no = true := by kernel_rfl
  refine ⟨_, _, rfl, hcallable, fun rec hround => ?_⟩
  obtain ⟨r, hr⟩ : ∃ r, r = H1.size := ⟨_, rfl⟩
  obtain ⟨l, hl⟩ : ∃ l, l = H1.size + 1 := ⟨_, rfl⟩
  obtain ⟨p, hp⟩ : ∃ p, p = H.size := ⟨_, rfl⟩
  rw [← hl] at hround ⊢
  rw [← hr]
  rw [← hp] at r1
  rw [← hp] at hround
  rw [← hp]
  obtain ⟨HB, hHB⟩ : ∃ HB : Heap, HB = (H1.push (.deferred (some []))).push (.loop (rec .ready none)) := ⟨_, rfl⟩
  rw [← hHB]
  have eB : Mod (fun _ => False) H1 HB := by rw [hHB]; exact (Mod.push _ _ _).trans (Mod.push _ _ _)
  have sB : HB.size = H1.size + 2 := by rw [hHB]; simp
  have lB : HB[l]? = some (.loop (rec .ready none)) := by rw [hHB, hl, Array.getElem?_push, if_pos (by simp)]
  have rB : HB[r]? = some (.deferred (some [])) := by rw [hHB, hr]; simp [Array.getElem?_push]
  have pB : RowT HB p ty_sl_string #[(Sl.mk none 0 0).v] := r1.ext eB
  have mB : MapAt .string HB m es clk := (hm.keep (m1.same _ hm.lt id)).keep (eB.same _ (by have := hm.lt; omega) id)
  have cB : RowT HB cap ty_maparr_string_ptr_disk_file #[.map (some m)] := (hcap.ext m1).ext eB
  have hml := hm.lt
  have hcl : cap < H.size := obj_lt hcap
  let I : List MapEntry → Heap → Prop := fun ls A => A[l]? = some (.loop (rec .ready none)) ∧ A[r]? = some (.deferred (some [])) ∧ (∃ s, RowT A p ty_sl_string #[s.v] ∧ SlE EN ty_string A s (ls.map nameOf) ∧ (∀ b, ownB s b → HB.size < b)) ∧ Mod (fun b => b = p ∨ b = l ∨ b = HB.size) HB A
  refine Spec.mono (R := fun v H' => ∃ x : Unit, v = (cTup []).enc x ∧ rangeK l rec H' _ _ _) (KeysIter_ok (l := l) (m := m) (cap := cap) (H := HB) (K := fun _ H' => rangeK l rec H' _ _ _) I mB cB hkeys ?_ ?_ ?_ ?_) (fun v H' ⟨x, _, h⟩ => h)
  · intro A hA
    exact ⟨hA.at lB id, hA.at rB id, ⟨_, pB.ext hA, SlE.nil _ _ _, by rintro b ⟨ad, q, _⟩; cases q⟩, Ext.mod hA⟩
  · rintro ls A A' ⟨i1, i2, ⟨s, i3, i4, i5⟩, i6⟩ hA hs
    refine ⟨hA.at i1 (by omega), hA.at i2 (by omega), ⟨s, i3.mod hA (by omega), i4.keep fun b hb hbl => hA.same b hbl (by have := i5 b hb; omega), i5⟩, i6.trans (hA.mono fun b _ e => .inr (.inr e))⟩
  · rintro ls e n A ⟨i1, i2, ⟨s, i3, i4, i5⟩, i6⟩ he hn hsub hnd hel hmA hAl
    refine hround [.string n] A _ i1 ?_
    show onSome (some n) _
    refine ⟨i1, ?_⟩
    obtain ⟨Ab, hAb⟩ : ∃ Ab : Heap, Ab = A.setIfInBounds l (.loop (rec .busy none)) := ⟨_, rfl⟩
    rw [← hAb]
    have mAb : Mod (fun b => b = l) A Ab := by rw [hAb]; exact Mod.setObj rfl
    have sAb : Ab.size = A.size := by rw [hAb]; simp
    have lAb : Ab[l]? = some (.loop (rec .busy none)) := by rw [hAb]; exact setObj_at i1
    have hpl : p ≠ l := by omega
    have p1 := i3.mod mAb hpl
    refine p1.ld (c := cSl) (i := 0) (x := s) rfl ?_
    have tl : ∀ b, ownB s b → b ≠ l := fun b hb => by have := i5 b hb; omega
    have o1 : SlE EN ty_string Ab s (ls.map nameOf) := i4.keep fun b hb hbl => mAb.same b hbl (tl b hb)
    have hln : (ls.map nameOf).length ≤ 1048576 := by
      have := List.Nodup.length_le_of_subset hnd (l₂ := es.toList) (fun y hy => hsub y hy)
      simp at this ⊢; omega
    have hne : nameOf e = n.toList := by unfold nameOf; rw [hn]; rfl
    refine SlE.push (E := EN) elText (x := n.toList) o1 (by have := strB_toList n; unfold strB at this; simp [EN, this]) (by omega) (by omega) fun s2 A2 o2 g2 _ => ?_
    have lp : p < Ab.size := obj_lt p1
    have tp : ∀ b, ownB s b → b ≠ p := fun b hb => by have := i5 b hb; omega
    have p2 : RowT A2 p ty_sl_string #[s.v] := p1.mod g2.1 (fun hb => tp _ hb rfl)
    have i6s := i6.size
    have t2 : ∀ b, ownB s2 b → HB.size < b := fun b hb => by
      rcases g2.2 b hb with q | q
      · exact i5 b q
      · omega
    have p2st := p2.st (i := 0) (v := s2.v) (by simp) rfl (K := fun H5 => H5[l]? = some (.loop (rec .busy none)) ∧ (fun b A' => b = true ∧ I (ls ++ [e]) A' ∧ A'[m]? = A[m]? ∧ A'[HB.size]? = A[HB.size]?) true (H5.setIfInBounds l (.loop (rec .ready none))))
    rw [show (Addr.add ⟨p, 0, none⟩ 0) = ⟨p, 0, none⟩ from rfl] at p2st
    refine p2st fun A3 p3 m3 s3 => ?_
    have l2 : A2[l]? = some (.loop (rec .busy none)) := g2.1.at lAb (fun hb => tl _ hb rfl)
    have l3 : A3[l]? = some (.loop (rec .busy none)) := m3.at l2 (by omega)
    refine ⟨l3, rfl, ⟨setObj_at l3, ?_, ⟨s2, ?_, ?_, t2⟩, ?_⟩, ?_, ?_⟩
    · have m4 : Mod (fun b => b = l) A3 (A3.setIfInBounds l (.loop (rec .ready none))) := Mod.setObj rfl
      exact m4.at (m3.at (g2.1.at (mAb.at i2 (by omega)) (fun hb => by have := i5 _ hb; omega)) (by omega)) (by omega)
    · have m4 : Mod (fun b => b = l) A3 (A3.setIfInBounds l (.loop (rec .ready none))) := Mod.setObj rfl
      exact RowT.mod (show RowT A3 p ty_sl_string #[s2.v] from p3) m4 hpl
    · have m4 : Mod (fun b => b = l) A3 (A3.setIfInBounds l (.loop (rec .ready none))) := Mod.setObj rfl
      rw [List.map_append, List.map_cons, List.map_nil, hne]
      refine o2.keep fun b hb hbl => ?_
      have := t2 b hb
      exact (m4.same b (by omega) (by omega)).trans (m3.same b hbl (by omega))
    · have m4 : Mod (fun b => b = l) A3 (A3.setIfInBounds l (.loop (rec .ready none))) := Mod.setObj rfl
      have z2 := g2.1.size
      refine i6.trans' (G := fun b => (b = l ∨ ownB s b) ∨ b = p) ?_ ?_
      · exact (((mAb.mono fun b _ e => .inl (.inl e)).trans (g2.1.mono fun b _ e => .inl (.inr e))).trans (m3.mono fun b _ e => .inr e)).trans (m4.mono fun b _ e => .inl (.inl e))
      · rintro b hb ((e | e) | e)
        · exact .inr (.inl e)
        · have := i5 b e; omega
        · exact .inl e
    · have m4 : Mod (fun b => b = l) A3 (A3.setIfInBounds l (.loop (rec .ready none))) := Mod.setObj rfl
      have z2 := g2.1.size
      have hmAl := obj_lt hmA
      exact (m4.same _ (by omega) (by omega)).trans ((m3.same _ (by omega) (by omega)).trans ((g2.1.same _ (by omega) (fun hb => by have := i5 _ hb; omega)).trans (mAb.same _ hmAl (by omega))))
    · have m4 : Mod (fun b => b = l) A3 (A3.setIfInBounds l (.loop (rec .ready none))) := Mod.setObj rfl
      have z2 := g2.1.size
      exact (m4.same _ (by omega) (by omega)).trans ((m3.same _ (by omega) (by omega)).trans ((g2.1.same _ (by omega) (fun hb => by have := i5 _ hb; omega)).trans (mAb.same _ (by omega) (by omega))))
  · rintro ls A ⟨i1, i2, ⟨s, i3, i4, i5⟩, i6⟩ hperm
    refine ⟨.ready, none, i1, rfl, ?_⟩
    show ld cSl _ _ _
    have m4 : Mod (fun b => b = l) A (A.setIfInBounds l (.loop (rec .exhausted none))) := Mod.setObj rfl
    have p4 := i3.mod m4 (by omega)
    refine p4.ld (c := cSl) (i := 0) (x := s) rfl ?_
    have r4 := m4.at i2 (by omega)
    refine ⟨r4, ?_⟩
    have m5 : Mod (fun b => b = r) (A.setIfInBounds l (.loop (rec .exhausted none))) ((A.setIfInBounds l (.loop (rec .exhausted none))).setIfInBounds r (.deferred none)) := Mod.setObj rfl
    have z6 := i6.size
    have z4 := m4.size
    refine hK s ls _ ?_ hperm ?_ (fun b hb => by have := i5 b hb; omega)
    · refine i4.keep fun b hb hbl => ?_
      have := i5 b hb
      exact (m5.same b (by omega) (by omega)).trans (m4.same b hbl (by omega))
    · have z5 := m5.size
      refine ⟨by omega, fun b hb _ => (m5.same b (by omega) (by omega)).trans ((m4.same b (by omega) (by omega)).trans ((i6.same b (by omega) (by omega)).trans ((eB.same b (by omega) id).trans (m1.same b hb id))))⟩

theorem List_ok {F : Nat → Prop} {d : Nat} {s : Dk} {H : Heap} {K : Sl → Heap → Prop} (h : DiskAt F H d s) (hK : ∀ l H', SlE EN ty_string H' l s.list → Mod (fun _ => False) H H' → (∀ b, ownB l b → H.size ≤ b) → K l H') : disk_Disk_List.sp (at0 d) H K := by
  obtain ⟨x, cin, kp, g, hF⟩ := h
  refine disk_Disk_List.of ?_
  unfold disk_Disk_List.vc
  refine ready_ok g.head (down := s.down) rfl ?_
  cases hd : s.down with
  | true =>
    refine br_t rfl (hK _ H ?_ (.refl _ _) (by rintro b ⟨ad, q, _⟩; cases q))
    unfold Dk.list; rw [hd]; exact SlE.nil _ _ _
  | false =>
    refine br_f rfl ?_
    refine g.head.ld (c := cMap) (i := 0) (x := some x.m) rfl ?_
    refine maps_Keys_map_string_ptr_disk_file_string_ptr_disk_file.of ?_
    unfold maps_Keys_map_string_ptr_disk_file_string_ptr_disk_file.vc
    refine newC_rowT fun H1 s1 r1 m1 => ?_
    refine slices_Sorted_string.of ?_
    unfold slices_Sorted_string.vc
    refine slices_Collect_string.of ?_
    unfold slices_Collect_string.vc
    have hm1 : MapAt .string H1 x.m x.es x.clk := g.files.map.keep (m1.same _ g.files.map.lt id)
    have hfl := g.wf.files
    have hsz := g.files.size
    refine AppendKeys_ok hm1 r1 (fun e he => ?_) (by omega) fun sl ls H2 o2 hp m2 f2 => ?_
    · obtain ⟨i, f, gf, _, _, h3, _⟩ := g.files.ent' e.key e.val ⟨e, he, rfl, rfl⟩
      exact ⟨_, h3⟩
    have hpn : (ls.map nameOf).Perm (s.files.map fun f => f.name.toList) := by
      have h1 := ((hp.map (·.key)).trans (g.files.perm g.wf)).map fun k => match keyName k with | some n => n.toList | none => []
      rw [List.map_map, List.map_map] at h1
      exact h1
    have hln : (ls.map nameOf).length ≤ 4096 := by rw [hpn.length_eq]; simpa using hfl
    refine SortTexts_ok o2 (by omega) fun H3 o3 m3 => ?_
    rw [texts_sorted_eq hpn] at o3
    have z1 := m1.size; have z2 := m2.size; have z3 := m3.size
    refine hK sl H3 ?_ ⟨by omega, fun b hb _ => (m3.same b (by omega) fun hh => by have := f2 b hh; omega).trans ((m2.same b (by omega) id).trans (m1.same b hb id))⟩ (fun b hb => by have := f2 b hb; omega)
    unfold Dk.list; rw [hd]; exact o3

end Go.Proofs.YtjjfngnokbboeaaDoor
