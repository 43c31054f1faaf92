/-
  The pool: a frame is written; the best frame; room; a handle more; a frame more.
-/
import Derived.Test.YtbhddkmfhampbaaDoorPka
namespace Go.Proofs.YtbhddkmfhampbaaDoor
open Go.MapKept

theorem ready_pool_none {H : Heap} {K : Int → Heap → Prop} (hK : K 1 H) : pool_Pool_ready.sp none H K := by
  refine pool_Pool_ready.of ?_
  unfold pool_Pool_ready.vc
  exact hK
theorem ready_pool {x : PG} {H : Heap} {p dp : Nat} {s : Pl} {K : Int → Heap → Prop} (h : PoolG x H p dp s) (hK : K s.wrong H) : pool_Pool_ready.sp (at0 p) H K := by
  refine pool_Pool_ready.of ?_
  unfold pool_Pool_ready.vc
  exact h.head.ld (c := cInt .i64) (i := 7) (x := s.wrong) rfl hK

/-- What stands at the head is turned. -/
theorem PoolG.turnHead {x : PG} {H H' : Heap} {p dp : Nat} {s s' : Pl} (h : PoolG x H p dp s) (hr : RowT H' p ty_pool_Pool (headP dp x s')) (hm : Mod (fun b => b = p) H H') (hf : s'.fs = s.fs) (hw : s'.WF) : PoolG x H' p dp s' :=
  ⟨hr, h.frames.keep fun b hb hl => hm.same b hl fun e => PoolG.off h.head h.frames (e ▸ hb), hf.trans h.fs, hw⟩

theorem met_ok {x : PG} {D : Nat → Prop} {H : Heap} {p dp : Nat} {s : Pl} {e : Int} {K : Int → Heap → Prop} (hg : Gl H) (h : PoolD x D H p dp s)
    (hK : ∀ H', PoolD x D H' p dp (s.met e) → Step (fun b => D b ∨ x.all p b) (fun b => D b ∨ x.all p b) H H' → K e H') : pool_Pool_met.sp (at0 p) e H K := by
  refine pool_Pool_met.of ?_
  unfold pool_Pool_met.vc
  simp only [optK_eq]
  have hw := h.pool.wf.met e
  have bads : bad e = true → st H (Addr.add ⟨p, 0, none⟩ 7) (.int .i64 e) fun H1 => K e H1 := by
    intro hb
    have em : s.met e = { s with wrong := e } := by unfold Pl.met; rw [if_pos hb]
    refine h.pool.head.st (i := 7) (by decide : 7 < 8) (by rfl) fun H' r m z => ?_
    have hp : PoolG x H' p dp (s.met e) := h.pool.turnHead (by rw [em]; exact r) m (by rw [em]) hw
    obtain ⟨q1, q2⟩ := h.stepP hg hp (by rw [em]) (m.mono fun b _ q => .inl q) (fun b q => .inl q)
    exact hK H' q1 q2
  have good : bad e = false → K e H := by
    intro hb
    have em : s.met e = s := by unfold Pl.met; rw [hb]; rfl
    exact hK H (by rw [em]; exact h) (.refl _ _)
  refine br_mk (fun h4 => br_t h4 (bads (by simp [bad] at h4 ⊢; exact .inl (.inl h4)))) (fun h4 => ?_)
  refine br_mk (fun h5 => br_t h5 (bads (by simp [bad] at h5 ⊢; exact .inl (.inr h5)))) (fun h5 => ?_)
  refine br_mk (fun h6 => bads (by simp [bad] at h6 ⊢; exact .inr h6)) (fun h6 => good (by simp [bad] at h4 h5 h6 ⊢; exact ⟨⟨h4, h5⟩, h6⟩))

/-! ### A frame is written -/

theorem writeF_ok {D : Nat → Prop} {H : Heap} {p dp : Nat} {d : Dk} {g : FrG} {f : Fr} {cs : Array Value} {K : Int → Heap → Prop} (hg : Gl H) (hd : DiskAt D H dp d) (hp : RowT H p ty_pool_Pool cs) (hp0 : cs[0]? = some (ptrV dp))
    (hf : FrAt H g f) (hb : f.b.length ≤ 504) (hfD : ∀ b, g.fp b → ¬ D b) (hlogs : d.logs < 68719476736)
    (hK0 : (d.write f.name f.page f.sealF).2 ≠ 0 → ∀ D' H', DiskAt D' H' dp (d.write f.name f.page f.sealF).1 → Step D D' H H' → K (d.write f.name f.page f.sealF).2 H')
    (hK1 : (d.write f.name f.page f.sealF).2 = 0 → ∀ D' H1 H2, DiskAt D' H1 dp (d.write f.name f.page f.sealF).1 → Step D D' H H1 → FrAt H2 g f.clean → Mod (fun b => b = g.p) H1 H2 → H2.size = H1.size → K 0 H2) :
    pool_Pool_write.sp (at0 p) (at0 g.p) H K := by
  refine pool_Pool_write.of ?_
  unfold pool_Pool_write.vc
  simp only [optK_eq, add_add, Nat.reduceAdd]
  refine hf.row.ld (c := cInt .u8) (i := 2) (x := (f.kind.toNat : Int)) rfl ?_
  refine hf.row.ld (c := cSl) (i := 3) (x := g.b) rfl ?_
  refine Seal_ok hg (SlB_byts hf.b) hb fun r H1 o1 m1 f1 => br_f rfl ?_
  have p1 : RowT H1 p ty_pool_Pool cs := hp.ext m1
  have hf1 : FrAt H1 g f := hf.keep fun b _ hl => m1.same b hl id
  have hd1 : DiskAt D H1 dp d := hd.keep fun b _ hl => m1.same b hl id
  refine p1.ld (c := cPtr) (i := 0) (x := at0 dp) hp0 ?_
  refine hf1.row.ld (c := cStr) (i := 0) (x := f.name) rfl ?_
  refine hf1.row.ld (c := cInt .i64) (i := 1) (x := (f.page : Int)) rfl ?_
  have hlt := hd.lt
  refine Write_ok hd1 (SlB_byts o1) (fun ad ha hD => ?_) hlogs fun D' H2 a2 S2 => ?_
  · have := f1 ad.block ⟨ad, ha, rfl⟩
    have := hlt _ hD; omega
  have S02 : Step D D' H H2 := ⟨⟨Nat.le_trans m1.size S2.mod.size, fun b hb hn => (S2.mod.same b (by have := m1.size; omega) hn).trans (m1.same b hb id)⟩, fun b hb => (S2.own b hb).imp id (fun q => Nat.le_trans m1.size q)⟩
  have hf2 : FrAt H2 g f := hf1.keep fun b hb hl => S2.mod.same b hl (hfD b hb)
  show br ((d.write f.name f.page f.sealF).2 == 0) _ _
  refine br_mk (fun hz => ?_) (fun hz => ?_)
  · have hz' : (d.write f.name f.page f.sealF).2 = 0 := by simpa using hz
    refine hf2.row.st (i := 4) (by decide : 4 < 7) (by rfl) fun H3 r3 m3 z3 => ?_
    have := hK1 hz' D' H2 H3 a2 S02 ⟨r3, hf2.b.keep fun b hb hl => m3.same b hl fun e => ?_⟩ m3 z3
    · show K (d.write f.name f.page f.sealF).2 H3
      rw [hz']; exact this
    · obtain ⟨c, q⟩ := hf2.b.obj b hb
      rw [e] at q
      exact absurd (cells_ty hf2.row q) (by decide)
  · have hz' : (d.write f.name f.page f.sealF).2 ≠ 0 := by simpa using hz
    exact hK0 hz' D' H2 a2 S02

theorem put_ok' {x : PG} {D : Nat → Prop} {H : Heap} {p dp : Nat} {s : Pl} {i : Nat} {f : Fr} {g : FrG} {K : Int → Heap → Prop} (hg : Gl H) (h : PoolD x D H p dp s) (hz : x.zs[i]? = some (f, g)) (hlogs : s.d.logs < 68719476736)
    (hK0 : (s.put i).2 ≠ 0 → ∀ D' H', PoolD x D' H' p dp (s.put i).1 → Step (fun b => D b ∨ x.all p b) (fun b => D' b ∨ x.all p b) H H' → K (s.put i).2 H')
    (hK1 : (s.put i).2 = 0 → ∀ D' H', PoolD { x with zs := x.zs.set i (f.clean, g) } D' H' p dp (s.put i).1 → Step (fun b => D b ∨ x.all p b) (fun b => D' b ∨ PG.all { x with zs := x.zs.set i (f.clean, g) } p b) H H' → K 0 H') :
    pool_Pool_write.sp (at0 p) (at0 g.p) H K := by
  have hzm := List.mem_of_getElem? hz
  have hfs : s.fs[i]? = some f := by rw [h.pool.fs]; simp [PG.fs, hz]
  have hfr := Pl.frame_eq hfs
  have hA := h.pool.frames.each _ hzm
  unfold Pl.put at hK0 hK1
  rw [hfr] at hK0 hK1
  refine writeF_ok (f := f) (d := s.d) hg h.disk h.pool.head rfl hA (h.pool.wf.room f (List.mem_of_getElem? hfs)) (fun b hb hD => h.apart b hD (.inr (.inr (.inr ⟨_, hzm, hb⟩)))) hlogs (fun hne D' H' a S => ?_) (fun he D' H1 H2 a S hf2 m2 z2 => ?_)
  · rw [if_neg hne] at hK0
    obtain ⟨q1, q2⟩ := h.stepD hg a S
    exact hK0 hne D' H' q1 q2
  · rw [if_pos he] at hK1
    obtain ⟨q1, q2⟩ := h.stepD hg a S
    have hg1 : Gl H1 := h.gl hg q2.mod
    have hfp : ∀ b, g.fp b → x.all p b := fun b hb => .inr (.inr (.inr ⟨_, hzm, hb⟩))
    obtain ⟨t1, t2⟩ := q1.pool.frames.turn (H' := H2) (z' := (f.clean, g)) hz rfl rfl rfl rfl hf2 (fun b _ hn hl => m2.same b hl fun e => hn (e ▸ .inl rfl)) (fun b hb => .inl hb)
    have hp2 : PoolG { x with zs := x.zs.set i (f.clean, g) } H2 p dp ((s.setD (s.d.write f.name f.page f.sealF).1).turn i Fr.clean) := by
      refine ⟨m2.at q1.pool.head fun e => PoolG.off q1.pool.head q1.pool.frames (e ▸ .inr (.inr ⟨_, hzm, .inl rfl⟩)), t1, ?_, ?_⟩
      · show s.fs.modify i Fr.clean = (x.zs.set i (f.clean, g)).map (·.1)
        rw [modify_set hfs, h.pool.fs]
        simp [PG.fs, List.map_set]
      · exact (h.pool.wf.setD _).turn hfs rfl rfl rfl (h.pool.wf.room f (List.mem_of_getElem? hfs))
    obtain ⟨u1, u2⟩ := q1.stepP hg1 hp2 rfl (m2.mono fun b _ e => hfp b (.inl e)) t2
    exact hK1 rfl D' H2 u1 (q2.trans u2)

/-! ### The best frame -/

theorem FramesAt.ptr {H : Heap} {x : PG} (h : FramesAt H x) {z z' : FZ} (hz : z ∈ x.zs) (hz' : z' ∈ x.zs) (e : z.2.p = z'.2.p) : z = z' := by
  obtain ⟨i, hi⟩ := List.mem_iff_getElem?.1 hz
  obtain ⟨j, hj⟩ := List.mem_iff_getElem?.1 hz'
  by_cases hij : i = j
  · subst hij; rw [hi] at hj; exact Option.some.inj hj
  · exact absurd (.inl e) (h.apart i j z z' hi hj hij z.2.p (.inl rfl))
theorem FramesAt.entry {H : Heap} {x : PG} (h : FramesAt H x) {e : MapEntry} (he : e ∈ x.ef.toList) : ∃ z ∈ x.zs, e.key = keyV z.1.name (z.1.page : Int) ∧ e.val = ptrV z.2.p := by
  have := (h.entF e.key e.val).1 ⟨e, he, rfl, rfl⟩
  obtain ⟨z, hz, q⟩ := List.mem_map.1 this
  simp only [Prod.mk.injEq] at q
  exact ⟨z, hz, q.1.symm, q.2.symm⟩
theorem FramesAt.entryOf {H : Heap} {x : PG} (h : FramesAt H x) {z : FZ} (hz : z ∈ x.zs) : ∃ e ∈ x.ef.toList, e.key = keyV z.1.name (z.1.page : Int) ∧ e.val = ptrV z.2.p := by
  obtain ⟨e, he, h1, h2⟩ := (h.entF _ _).2 (List.mem_map.2 ⟨z, hz, rfl⟩)
  exact ⟨e, he, h1, h2⟩
def bestZ (x : PG) (l : List MapEntry) (b : Option Addr) : Prop :=
  match b with
  | none => ∀ e ∈ l, ∀ z ∈ x.zs, e.val = ptrV z.2.p → z.1.pins ≠ []
  | some a => ∃ z ∈ x.zs, a = ⟨z.2.p, 0, none⟩ ∧ z.1.pins = [] ∧ ∀ e ∈ l, ∀ z' ∈ x.zs, e.val = ptrV z'.2.p → z'.1.pins = [] → z.1.left ≤ z'.1.left

theorem mapSpot : ∃ (et : TypeId) (inf : TypeInfo), Tryd.prog.underlying ty_maparr_pool_spot_ptr_pool_frame = some (.map ty_pool_spot et) ∧ Tryd.prog.info? et = some inf ∧ inf.zero = some (.pointer none) := by
  obtain ⟨D, hD⟩ := Option.isSome_iff_exists.1 (by kernel_rfl : (Tryd.prog.underlying ty_pool_spot).isSome = true)
  obtain ⟨et, inf, h1, _, h3, h4⟩ := MapPT_of (P := Tryd.prog) (t := ty_maparr_pool_spot_ptr_pool_frame) (kt := ty_pool_spot) (by kernel_rfl) hD
  exact ⟨et, inf, h1, h3, h4⟩

theorem first_ok {x : PG} {H : Heap} {p dp : Nat} {s : Pl} {K : Option Addr → Heap → Prop} (h : PoolG x H p dp s) (hN : s.best = none → ∀ H', Ext H H' → K none H')
    (hS : ∀ i f g, s.best = some i → x.zs[i]? = some (f, g) → ∀ H', Ext H H' → K (at0 g.p) H') : pool_Pool_first.sp (at0 p) H K := by
  refine pool_Pool_first.of ?_
  unfold pool_Pool_first.vc
  simp only [optK_eq]
  refine h.head.ld (c := cMap) (i := 2) (x := some x.mf) rfl ?_
  obtain ⟨et, inf, hu, _⟩ := mapSpot
  have hF := h.frames
  refine doT_rangeW hu hF.fmap fun H1 hit e1 => ?_
  have hsz := obj_lt hit
  have hF1 : FramesAt H1 x := hF.keep fun b _ hl => e1.same b hl id
  refine map_rangeW (it := H.size) (fun l b A => bestZ x l b ∧ Mod (fun k => k = H.size) H1 A) hF1.fmap hit ⟨(by intro e he; cases he), .refl _ _⟩ (fun l b A A' q m _ => ⟨q.1, q.2.trans m⟩) ?_ ?_
  · rintro l e b A next ⟨hI, hM⟩ he _ _ _ _ _ hnext
    obtain ⟨z, hz, _, hv⟩ := hF.entry he
    have hA : FramesAt A x := hF1.keep fun c hc hl => hM.same c hl fun q => by have := hF.lt c hc; omega
    have hz1 := hA.each z hz
    refine ⟨at0 z.2.p, by rw [hv]; rfl, ?_⟩
    refine pool_Pool_room_c1.of ?_
    unfold pool_Pool_room_c1.vc
    simp only [optK_eq]
    refine hz1.row.ld (c := cInt .i64) (i := 5) (x := (z.1.pins.length : Int)) rfl ?_
    have same : ∀ z' ∈ x.zs, e.val = ptrV z'.2.p → z' = z := fun z' hz' hv' => hF.ptr hz' hz (by rw [hv] at hv'; exact (ptrV_inj hv').symm)
    refine br_mk (fun hp => ?_) (fun hp => ?_)
    · have hp0 : z.1.pins = [] := by
        have : (z.1.pins.length : Int) = 0 := by simpa using hp
        exact List.eq_nil_of_length_eq_zero (by omega)
      cases b with
      | none =>
        refine br_t rfl (hnext _ _ ⟨⟨z, hz, rfl, hp0, ?_⟩, hM⟩ rfl rfl)
        intro e' he' z' hz' hv' hp'
        rcases List.mem_append.1 he' with q | q
        · exact absurd hp' (hI e' q z' hz' hv')
        · simp at q; subst q; rw [same z' hz' hv']; exact Int.le_refl _
      | some a =>
        obtain ⟨y, hy, rfl, hyp, hyl⟩ := hI
        have hy1 := hA.each y hy
        refine br_f rfl ?_
        refine pool_Pool_room_c2.of ?_
        unfold pool_Pool_room_c2.vc
        simp only [optK_eq]
        refine hz1.row.ld (c := cInt .i64) (i := 6) (x := z.1.left) rfl ?_
        refine hy1.row.ld (c := cInt .i64) (i := 6) (x := y.1.left) rfl ?_
        refine br_mk (fun hlt => ?_) (fun hlt => ?_)
        · have hlt : z.1.left < y.1.left := by simpa using hlt
          refine hnext _ _ ⟨⟨z, hz, rfl, hp0, ?_⟩, hM⟩ rfl rfl
          intro e' he' z' hz' hv' hp'
          rcases List.mem_append.1 he' with q | q
          · have := hyl e' q z' hz' hv' hp'; omega
          · simp at q; subst q; rw [same z' hz' hv']; exact Int.le_refl _
        · have hlt : ¬ z.1.left < y.1.left := by simpa using hlt
          refine hnext _ _ ⟨⟨y, hy, rfl, hyp, ?_⟩, hM⟩ rfl rfl
          intro e' he' z' hz' hv' hp'
          rcases List.mem_append.1 he' with q | q
          · exact hyl e' q z' hz' hv' hp'
          · simp at q; subst q; rw [same z' hz' hv']; omega
    · have hp0 : z.1.pins ≠ [] := by
        intro q; rw [q] at hp; simp at hp
      refine hnext _ _ ⟨?_, hM⟩ rfl rfl
      cases b with
      | none =>
        intro e' he' z' hz' hv'
        rcases List.mem_append.1 he' with q | q
        · exact hI e' q z' hz' hv'
        · simp at q; subst q; rw [same z' hz' hv']; exact hp0
      | some a =>
        obtain ⟨y, hy, rfl, hyp, hyl⟩ := hI
        refine ⟨y, hy, rfl, hyp, ?_⟩
        intro e' he' z' hz' hv' hp'
        rcases List.mem_append.1 he' with q | q
        · exact hyl e' q z' hz' hv' hp'
        · simp at q; subst q; rw [same z' hz' hv'] at hp'; exact absurd hp' hp0
  · rintro l b A ⟨hI, hM⟩ hperm _
    have hE : Ext H A := ⟨by have := e1.size; have := hM.size; omega, fun c hc _ => (hM.same c (by omega) (by omega)).trans (e1.same c hc id)⟩
    cases b with
    | none =>
      refine hN ?_ A hE
      cases hb : s.best with
      | none => rfl
      | some i =>
        obtain ⟨f, hf, hp, _⟩ := Pl.best_some hb
        obtain ⟨g, hg, _⟩ := h.at hf
        have hzm := List.mem_of_getElem? hg
        obtain ⟨e, he, _, hv⟩ := hF.entryOf hzm
        exact absurd hp (hI e (hperm.mem_iff.2 he) _ hzm hv)
    | some a =>
      obtain ⟨z, hz, rfl, hp, hl⟩ := hI
      obtain ⟨i, hi⟩ := List.mem_iff_getElem?.1 hz
      have hfs : s.fs[i]? = some z.1 := by rw [h.fs]; simp [PG.fs, hi]
      refine hS i z.1 z.2 (Pl.best_eq h.wf hfs hp fun f' hf' hp' => ?_) hi A hE
      obtain ⟨j, hj⟩ := List.mem_iff_getElem?.1 hf'
      obtain ⟨g', hg', _⟩ := h.at hj
      have hzm := List.mem_of_getElem? hg'
      obtain ⟨e, he, _, hv⟩ := hF.entryOf hzm
      exact hl e (hperm.mem_iff.2 he) _ hzm hv hp'

end Go.Proofs.YtbhddkmfhampbaaDoor
