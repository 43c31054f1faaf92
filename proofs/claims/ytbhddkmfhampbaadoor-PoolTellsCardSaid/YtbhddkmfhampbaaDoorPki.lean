/-
  The pool: a file's frames, rising; Flush and Drop.
-/
import Derived.Test.YtbhddkmfhampbaaDoorPkh
namespace Go.Proofs.YtbhddkmfhampbaaDoor
open Go.MapKept Go.Shelf Go.Sort

/-- A file's frames, rising. -/
def PG.of (x : PG) (n : ByteArray) : List FZ := (x.zs.filter fun z => z.1.name.toList == n.toList).mergeSort fun a b => decide (a.1.page ≤ b.1.page)
theorem PG.of_mem {x : PG} {n : ByteArray} {z : FZ} : z ∈ x.of n ↔ z ∈ x.zs ∧ z.1.name = n := by
  unfold PG.of
  rw [List.mem_mergeSort, List.mem_filter]
  constructor
  · rintro ⟨h1, h2⟩; exact ⟨h1, ba_eq (by simpa using h2)⟩
  · rintro ⟨h1, h2⟩; exact ⟨h1, by rw [h2]; simp⟩
theorem nat_sorted_eq {l r : List Nat} (h : l.Perm r) (hl : l.Pairwise (· ≤ ·)) (hr : r.Pairwise (· ≤ ·)) : l = r :=
  List.Perm.eq_of_pairwise (le := (· ≤ ·)) (fun a b _ _ h1 h2 => Nat.le_antisymm h1 h2) hl hr h
theorem PG.of_sorted (x : PG) (n : ByteArray) : (x.of n).Pairwise fun a b => a.1.page ≤ b.1.page := by
  unfold PG.of
  have := List.pairwise_mergeSort (le := fun a b : FZ => decide (a.1.page ≤ b.1.page)) (fun _ _ _ h1 h2 => by simp at *; omega) (fun _ _ => by simp; omega) (x.zs.filter fun z => z.1.name.toList == n.toList)
  exact this.imp fun h => by simpa using h
theorem PG.of_pages {x : PG} {s : Pl} (h : s.fs = x.fs) (n : ByteArray) : (x.of n).map (fun z => z.1.page) = s.pagesOf n := by
  refine nat_sorted_eq ?_ ?_ ?_
  · unfold Pl.pagesOf PG.of
    rw [h]
    unfold PG.fs
    refine ((List.mergeSort_perm _ _).map _).trans (List.Perm.trans ?_ (List.mergeSort_perm _ _).symm)
    rw [List.filter_map, List.map_map]
    exact List.Perm.refl _
  · rw [List.pairwise_map]; exact x.of_sorted n
  · unfold Pl.pagesOf
    have := List.pairwise_mergeSort (le := fun a b : Nat => decide (a ≤ b)) (fun _ _ _ h1 h2 => by simp at *; omega) (fun _ _ => by simp; omega) ((s.fs.filter fun f => f.name.toList == n.toList).map (·.page))
    exact this.imp fun h => by simpa using h

theorem nodup_of_map {α β : Type} (f : α → β) {l : List α} (h : (l.map f).Nodup) : l.Nodup := by
  unfold List.Nodup at *
  rw [List.pairwise_map] at h
  exact h.imp fun hne e => hne (by rw [e])
theorem lift_list {α β : Type} {f : α → β} : ∀ {l : List β}, (∀ b ∈ l, ∃ a, f a = b) → ∃ r : List α, r.map f = l
  | [], _ => ⟨[], rfl⟩
  | b :: l, h => by
    obtain ⟨a, ha⟩ := h b List.mem_cons_self
    obtain ⟨r, hr⟩ := lift_list (l := l) fun c hc => h c (List.mem_cons_of_mem _ hc)
    exact ⟨a :: r, by rw [List.map_cons, ha, hr]⟩

theorem of2_spec {H : Heap} {za zb : FZ} (ha : FrAt H za.2 za.1) (hb : FrAt H zb.2 zb.1) (h1 : za.1.page < 1048577) (h2 : zb.1.page < 1048577) :
    Spec Tryd.prog pool_Pool_of_c2.no #[ptrV za.2.p, ptrV zb.2.p] H fun v H' => v = .int .i64 ((za.1.page : Int) - (zb.1.page : Int)) ∧ Mod (fun _ => False) H H' := by
  have := pool_Pool_of_c2.of (a := at0 za.2.p) (b := at0 zb.2.p) (H := H) (R := fun r H' => r = (za.1.page : Int) - (zb.1.page : Int) ∧ Mod (fun _ => False) H H') (by
    unfold pool_Pool_of_c2.vc
    simp only [optK_eq, add_add, Nat.reduceAdd]
    refine ha.row.ld (c := cInt .i64) (i := 1) (x := (za.1.page : Int)) rfl ?_
    refine hb.row.ld (c := cInt .i64) (i := 1) (x := (zb.1.page : Int)) rfl ?_
    exact ⟨wrap64 (by omega) (by omega), .refl _ _⟩)
  refine Spec.mono this fun v H' ⟨x, hx, h3, h4⟩ => ?_
  subst hx
  exact ⟨by rw [h3], h4⟩

theorem of_enters : ∀ args w, (callFunc pool_Pool_of_c2.no args).run Tryd.prog w = .ok (.enter pool_Pool_of_c2.no args) w := enters_of Tryd.func66 (by kernel_rfl) rfl

theorem of_ok {x : PG} {H : Heap} {p dp : Nat} {s : Pl} {n : ByteArray} {K : Sl → Heap → Prop} (h : PoolG x H p dp s)
    (hK : ∀ sl H', SlE EPtr ty_ptr_pool_frame H' sl ((x.of n).map fun z => z.2.p) → Ext H H' → (∀ b, ownB sl b → H.size ≤ b) → K sl H') : pool_Pool_of.sp (at0 p) n H K := by
  refine pool_Pool_of.of ?_
  unfold pool_Pool_of.vc
  simp only [optK_eq]
  refine newC_rowT fun H1 s1 r1 e1 => ?_
  have h1 : PoolG x H1 p dp s := h.keep fun b _ hl => e1.same b hl id
  refine h1.head.ld (c := cMap) (i := 2) (x := some x.mf) rfl ?_
  refine maps_Values_map_pool_spot_ptr_pool_frame_pool_spot_ptr_pool_frame.of ?_
  unfold maps_Values_map_pool_spot_ptr_pool_frame_pool_spot_ptr_pool_frame.vc
  refine newC_rowT fun H2 s2 r2 e2 => ?_
  refine slices_Collect_ptr_pool_frame.of ?_
  unfold slices_Collect_ptr_pool_frame.vc
  have F2 : FramesAt H2 x := h1.frames.keep fun b _ hl => e2.same b hl id
  have hlen := h.wf.len
  have hmost := h.wf.most
  have hsz := h.n
  refine AppendValues_ok F2 r2 (by omega) fun sl ls H3 o3 hp3 e3 f3 => ?_
  have hF3 : FramesAt H3 x := F2.keep fun b _ hl => e3.same b hl id
  have z1 := e1.size
  have z2 := e2.size
  have z3 := e3.size
  -- the pointers that were met are the frames'
  have hperm : (ls.map pOf).Perm (x.zs.map fun z => z.2.p) := by
    have q1 := (hp3.map fun e => (e.key, e.val)).trans h.perm
    have q2 := q1.map fun kv : Value × Value => (match kv.2 with | .pointer (some a) => a.block | _ => 0)
    rw [List.map_map] at q2
    refine List.Perm.trans (List.Perm.of_eq ?_) (q2.trans (List.Perm.of_eq ?_))
    · exact List.map_congr_left fun e _ => rfl
    · unfold kvF; rw [List.map_map]; exact List.map_congr_left fun z _ => rfl
  have hat : ∀ q ∈ ls.map pOf, ∃ z ∈ x.zs, z.2.p = q := by
    intro q hq
    obtain ⟨z, hz, e⟩ := List.mem_map.1 (hperm.mem_iff.1 hq)
    exact ⟨z, hz, e⟩
  let sel : Nat → Bool := fun q => x.zs.any fun z => z.2.p == q && z.1.name.toList == n.toList
  have hsel : ∀ z ∈ x.zs, sel z.2.p = (z.1.name.toList == n.toList) := by
    intro z hz
    cases hq : z.1.name.toList == n.toList with
    | true => exact List.any_eq_true.2 ⟨z, hz, by simp [hq]⟩
    | false =>
      refine List.any_eq_false.2 fun y hy => ?_
      intro q
      simp only [Bool.and_eq_true, beq_iff_eq] at q
      have := h.frames.ptr hy hz q.1
      subst this
      rw [q.2] at hq; simp at hq
  have hll : (ls.map pOf).length ≤ 1048576 := by
    rw [hperm.length_eq, List.length_map]
    have := h.frames.size; omega
  have hk3 : Kept H3 H.size n (ls.map pOf) sel := by
    refine ⟨e3.at (e2.at r1 id) id, fun q hq => ?_⟩
    obtain ⟨z, hz, e⟩ := hat q hq
    exact ⟨z.2, z.1, hF3.each z hz, e, by rw [← e]; exact hsel z hz⟩
  refine Delete_ok o3 hk3 hll (fun b hb e => by have := f3 b hb; omega) fun s4 H4 o4 m4 w4 => ?_
  -- sorted
  have m4' : Ext H3 H4 ∨ True := .inr trivial
  have hF4 : FramesAt H4 x := hF3.keep fun b hb hl => m4.same b hl fun q => by
    have := f3 b q
    have := h.frames.lt b hb; omega
  have hperm4 : ((ls.map pOf).filter sel).Perm ((x.of n).map fun z => z.2.p) := by
    refine (hperm.filter sel).trans ?_
    rw [List.filter_map]
    refine List.Perm.map _ (List.Perm.trans (List.Perm.of_eq ?_) (List.mergeSort_perm _ _).symm)
    refine List.filter_congr fun z hz => ?_
    exact hsel z hz
  have fresh4 : ∀ b, ownB s4 b → H.size ≤ b := fun b hb => by have := f3 b (w4 b hb); omega
  have e4 : Ext H H4 := ⟨by have := m4.size; omega, fun b hb _ => (m4.same b (by omega) (fun q => by have := f3 b q; omega)).trans ((e3.same b (by omega) id).trans ((e2.same b (by omega) id).trans (e1.same b hb id)))⟩
  by_cases hnil : (x.of n) = []
  · -- none
    have hl0 : (ls.map pOf).filter sel = [] := by
      have := hperm4.length_eq
      rw [hnil] at this
      exact List.eq_nil_of_length_eq_zero (by simpa using this)
    rw [hl0] at o4
    have hn0 := o4.n (by decide)
    intro w hw
    subst hw
    have hc := AnyF.slices_SortFunc_none (P := Tryd.prog) (ρ := sortFr_ren) { sortFr with } s4.a s4.c (.func (.func pool_Pool_of_c2.no) #[] #[]) w
    have e0 : s4.v = .slice s4.a 0 s4.c := by
      cases s4; simp only [Sl.v] at hn0 ⊢; rw [hn0]; rfl
    rw [e0]
    refine hc.mono fun e w' ⟨he, hw'⟩ => ?_
    subst hw'
    refine ⟨_, he, ⟨(), rfl, hK s4 _ ?_ e4 fresh4⟩, .refl _⟩
    rw [hnil]; exact o4
  · obtain ⟨z0, hz0⟩ := List.exists_mem_of_ne_nil _ hnil
    obtain ⟨la, hla⟩ := lift_list (f := fun a : { z : FZ // z ∈ x.zs ∧ z.1.name = n } => a.1.2.p) (l := (ls.map pOf).filter sel) (fun q hq => by
      obtain ⟨z, hz, e⟩ := List.mem_map.1 (hperm4.mem_iff.1 hq)
      exact ⟨⟨z, PG.of_mem.1 hz⟩, e⟩)
    haveI : Inhabited { z : FZ // z ∈ x.zs ∧ z.1.name = n } := ⟨⟨z0, PG.of_mem.1 hz0⟩⟩
    let E : Enc { z : FZ // z ∈ x.zs ∧ z.1.name = n } := ⟨1, fun a => [ptrV a.1.2.p], fun _ => rfl, fun x u hu => by simp at hu; subst hu; rfl⟩
    have hEall : ∀ l : List { z : FZ // z ∈ x.zs ∧ z.1.name = n }, E.all l = EPtr.all (l.map fun a => a.1.2.p) := by
      intro l
      induction l with
      | nil => rfl
      | cons a l ih =>
        have q1 : E.all (a :: l) = ptrV a.1.2.p :: E.all l := rfl
        have q2 : EPtr.all ((a :: l).map fun a => a.1.2.p) = ptrV a.1.2.p :: EPtr.all (l.map fun a => a.1.2.p) := rfl
        rw [q1, q2, ih]
    have oE : ∀ {A : Heap} {l : List { z : FZ // z ∈ x.zs ∧ z.1.name = n }}, SlE E ty_ptr_pool_frame A s4 l ↔ SlE EPtr ty_ptr_pool_frame A s4 (l.map fun a => a.1.2.p) := by
      intro A l
      unfold SlE
      rw [hEall]
      exact Iff.rfl
    have o4' : SlE E ty_ptr_pool_frame H4 s4 la := by rw [oE, hla]; exact o4
    have hpg : ∀ a : { z : FZ // z ∈ x.zs ∧ z.1.name = n }, a.1.1.page < 1048577 := fun a => (h.wf.pages a.1.1 (by rw [h.fs]; exact List.mem_map.2 ⟨a.1, a.2.1, rfl⟩)).1
    let cf : { z : FZ // z ∈ x.zs ∧ z.1.name = n } → { z : FZ // z ∈ x.zs ∧ z.1.name = n } → Int := fun a b => (a.1.1.page : Int) - (b.1.1.page : Int)
    have hlt : ∀ a b, ltOf cf a b = decide (a.1.1.page < b.1.1.page) := by
      intro a b
      show decide ((a.1.1.page : Int) - (b.1.1.page : Int) < 0) = _
      rw [decide_eq_decide]; omega
    have hO : SWO (ltOf cf) := ⟨fun a => by rw [hlt]; simp, fun a b c h1 h2 => by rw [hlt] at *; simp at *; omega, fun a b c h1 h2 => by rw [hlt] at *; simp at *; omega⟩
    have hT : ∀ a b, (ltOf cf) a b = false → (ltOf cf) b a = false → a = b := by
      intro a b h1 h2
      rw [hlt] at h1 h2
      simp at h1 h2
      apply Subtype.ext
      obtain ⟨i, hi⟩ := List.mem_iff_getElem?.1 a.2.1
      obtain ⟨j, hj⟩ := List.mem_iff_getElem?.1 b.2.1
      have hk := h.wf.keys
      have := key_inj (p := s) hk (i := i) (j := j) (f := a.1.1) (g := b.1.1) (by rw [h.fs]; simp [PG.fs, hi]) (by rw [h.fs]; simp [PG.fs, hj]) (by rw [a.2.2, b.2.2]) (by omega)
      subst this
      rw [hi] at hj; exact Option.some.inj hj
    have hlal : la.length < 4611686018427387904 := by
      have : la.length = ((ls.map pOf).filter sel).length := by rw [← hla, List.length_map]
      have h2 := List.length_filter_le sel (ls.map pOf)
      omega
    refine sortFunc_spec (ρ := sortFr_ren) (E := E) (e := fun a => ptrV a.1.2.p) sortFr (fun _ => rfl) rfl hO hT of_enters o4' hlal (fun A mA a b => ?_) fun A oA mA => ?_
    · have hFA : FramesAt A x := hF4.keep fun c hc hl => mA.same c hl fun q => by
        have := fresh4 c q
        have := h.frames.lt c hc; omega
      exact of2_spec (hFA.each a.1 a.2.1) (hFA.each b.1 b.2.1) (hpg a) (hpg b)
    · rw [oE] at oA
      have hperm5 := List.mergeSort_perm la (fun x y => !(ltOf cf) y x)
      have heq : (la.mergeSort fun x y => !(ltOf cf) y x).map (fun a => a.1.2.p) = (x.of n).map fun z => z.2.p := by
        have hz : (la.mergeSort fun x y => !(ltOf cf) y x).map (fun a => a.1) = x.of n := by
          refine List.Perm.eq_of_pairwise (le := fun a b : FZ => a.1.page ≤ b.1.page) (fun a b ha hb h1 h2 => ?_) ?_ (x.of_sorted n) ?_
          · obtain ⟨a', _, rfl⟩ := List.mem_map.1 ha
            have hb' := PG.of_mem.1 hb
            have := hT a' ⟨b, hb'⟩ (by rw [hlt]; simp; exact h2) (by rw [hlt]; simp; exact h1)
            exact congrArg Subtype.val this
          · rw [List.pairwise_map]
            have := List.pairwise_mergeSort (le := fun x y => !(ltOf cf) y x) (fun a b c h1 h2 => by rw [hlt] at *; simp at *; omega) (fun a b => by rw [hlt, hlt]; simp; omega) la
            exact this.imp fun h => by rw [hlt] at h; simpa using h
          · -- the same frames
            have hnd : (x.of n).Nodup := by
              have hz : x.zs.Nodup := by
                have := h.wf.keys
                rw [h.fs] at this
                unfold PG.fs at this
                rw [List.map_map] at this
                exact nodup_of_map _ this
              unfold PG.of
              exact (List.mergeSort_perm _ _).symm.nodup (hz.filter _)
            have hA : (la.map fun a => a.1.2.p).Perm ((x.of n).map fun z => z.2.p) := by rw [hla]; exact hperm4
            have hpp := (hperm5.map fun a => a.1.2.p).trans hA
            have inj : ∀ a ∈ (la.mergeSort fun x y => !(ltOf cf) y x).map (fun a => a.1), ∀ b ∈ x.of n, a.2.p = b.2.p → a = b := by
              intro a ha b hb e
              obtain ⟨a', _, rfl⟩ := List.mem_map.1 ha
              exact h.frames.ptr a'.2.1 (PG.of_mem.1 hb).1 e
            have hnd2 : ((x.of n).map fun z => z.2.p).Nodup := by
              unfold List.Nodup
              rw [List.pairwise_map]
              refine List.Pairwise.imp_of_mem (fun {a b} ha hb hne e => hne (h.frames.ptr (PG.of_mem.1 ha).1 (PG.of_mem.1 hb).1 e)) hnd
            have hpp' : (((la.mergeSort fun x y => !(ltOf cf) y x).map fun a => a.1).map fun z => z.2.p).Perm ((x.of n).map fun z => z.2.p) := by rw [List.map_map]; exact hpp
            have hndA : ((la.mergeSort fun x y => !(ltOf cf) y x).map fun a => a.1).Nodup := nodup_of_map _ (hpp'.symm.nodup hnd2)
            rw [List.perm_ext_iff_of_nodup hndA hnd]
            intro z
            constructor
            · intro hz
              obtain ⟨a', _, rfl⟩ := List.mem_map.1 hz
              exact PG.of_mem.2 a'.2
            · intro hz
              have : z.2.p ∈ ((la.mergeSort fun x y => !(ltOf cf) y x).map fun a => a.1).map fun z => z.2.p := hpp'.mem_iff.2 (List.mem_map.2 ⟨z, hz, rfl⟩)
              obtain ⟨y, hy, e⟩ := List.mem_map.1 this
              rw [← inj y hy z hz e]; exact hy
        rw [← hz, List.map_map]; rfl
      rw [heq] at oA
      refine hK s4 A oA ⟨by have := e4.size; have := mA.size; omega, fun b hb _ => (mA.same b (by have := e4.size; omega) (fun q => by have := fresh4 b q; omega)).trans (e4.same b hb id)⟩ fresh4

end Go.Proofs.YtbhddkmfhampbaaDoor
