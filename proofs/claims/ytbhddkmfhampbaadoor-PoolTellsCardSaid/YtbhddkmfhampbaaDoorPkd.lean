/-
  The pool: a frame more; a page is read into a frame.
-/
import Derived.Test.YtbhddkmfhampbaaDoorPkc
namespace Go.Proofs.YtbhddkmfhampbaaDoor
open Go.MapKept

/-- What stands for a pool on its way to hold a frame more. -/
structure NewAt (x : PG) (D : Nat → Prop) (H : Heap) (p : Nat) (g : FrG) (f : Fr) : Prop where
  fr : FrAt H g f
  off : ∀ b, g.fp b → ¬ D b ∧ ¬ x.all p b ∧ b ≠ gSteps

theorem take_ok {x : PG} {D : Nat → Prop} {H : Heap} {p dp : Nat} {s : Pl} {f : Fr} {g : FrG} {K : Int → Heap → Prop} (hg : Gl H) (h : PoolD x D H p dp s) (hN : NewAt x D H p g f)
    (hl : s.fs.length < s.most) (hn : s.next < 9223372036854775807) (hk : s.find f.name f.page = none) (hb : f.b.length ≤ 504) (hpg : f.page < 1048577) (hnm : f.name.size ≤ 9223372036854775807) (hp : f.pins = []) (hlf : f.left = 0)
    (hK : ∀ x' H', PoolD x' D H' p dp (s.take f) → Step (fun b => (D b ∨ x.all p b) ∨ g.fp b) (fun b => D b ∨ x'.all p b) H H' → K s.next H') : pool_Pool_take.sp (at0 p) (at0 g.p) H K := by
  refine pool_Pool_take.of ?_
  unfold pool_Pool_take.vc
  simp only [optK_eq]
  have hw := h.pool.wf.take hl hn hk hb hpg hnm hp hlf
  have hlen := h.pool.wf.len
  have hmost := h.pool.wf.most
  refine h.pool.head.ld (c := cMap) (i := 2) (x := some x.mf) rfl ?_
  refine FrAt.at_ld hN.fr ?_
  obtain ⟨et, inf, hu, _⟩ := mapSpot
  have hno : ∀ u, ¬ HasE x.ef (keyV f.name (f.page : Int)) u := by
    intro u hu'
    obtain ⟨z, hz, e⟩ := List.mem_map.1 ((h.pool.frames.entF _ _).1 hu')
    simp only [Prod.mk.injEq] at e
    have := keyV_inj e.1
    have hzf : z.1 ∈ s.fs := by rw [h.pool.fs]; exact List.mem_map.2 ⟨z, hz, rfl⟩
    exact Pl.find_none hk _ hzf this.1 this.2
  refine doU_insertW (k := keyV f.name (f.page : Int)) hu keySpot h.pool.frames.fmap (keyW_spot hnm (by omega) (by omega)) hno fun H1 fm1 m1 z1 => ?_
  have hpm : p ≠ x.mf := fun e => PoolG.off h.pool.head h.pool.frames (.inl e)
  have hd1 : RowT H1 p ty_pool_Pool (headP dp x s) := m1.at h.pool.head hpm
  refine hd1.ld (c := cInt .i64) (i := 6) (x := (s.peak : Int)) rfl ?_
  refine hd1.ld (c := cMap) (i := 2) (x := some x.mf) rfl ?_
  have hsz := h.pool.n
  refine ⟨s.fs.length + 1, ⟨_, _, fm1.obj, by simp [hsz]⟩, ?_⟩
  have ep : (if ((s.fs.length + 1 : Nat) : Int) > (s.peak : Int) then ((s.fs.length + 1 : Nat) : Int) else (s.peak : Int)) = ((max s.peak (s.fs.length + 1) : Nat) : Int) := by
    split <;> omega
  simp only [ep]
  refine hd1.st (i := 6) (by decide : 6 < 8) (by rfl) fun H2 r2 m2 z2 => ?_
  have hgoff := hN.off
  have hm12 : Mod (fun b => b = x.mf ∨ b = p) H H2 := (m1.mono fun b _ e => .inl e).trans (m2.mono fun b _ e => .inr e)
  have hq2 : FrAt H2 g f := hN.fr.keep fun b hb hl => hm12.same b hl (by
    rintro (e | e)
    · exact (hgoff b hb).2.1 (.inr (.inl e))
    · exact (hgoff b hb).2.1 (.inl e))
  -- the frame is pushed
  obtain ⟨ef', hef⟩ : ∃ e : Array MapEntry, e = x.ef.push { key := keyV f.name (f.page : Int), val := ptrV g.p, born := x.cf } := ⟨_, rfl⟩
  have hapart : ∀ (i : Nat) (z : FZ), x.zs[i]? = some z → ∀ b, z.2.fp b → ¬ g.fp b := fun i z hz b hb hgb => (hgoff b hgb).2.1 (.inr (.inr (.inr ⟨z, List.mem_of_getElem? hz, hb⟩)))
  have hF : FramesAt H2 { x with zs := x.zs ++ [(f, g)], ef := ef', cf := x.cf + 1 } := by
    have F0 := h.pool.frames
    have hpo := PoolG.off h.pool.head h.pool.frames
    have old : ∀ u ∈ x.zs, FrAt H2 u.2 u.1 := fun u hu => (F0.each u hu).keep fun b hb hl => hm12.same b hl (by
      rintro (e | e)
      · exact (F0.off hu).1 (e ▸ hb)
      · exact hpo (e ▸ .inr (.inr ⟨u, hu, hb⟩)))
    refine ⟨?_, F0.hmap.keep (hm12.same _ F0.hmap.lt (by
      rintro (e | e)
      · exact F0.ne e.symm
      · exact hpo (e ▸ .inr (.inl rfl)))), F0.ne, by rw [hef]; simp [F0.size], ?_, ?_, ?_, ?_⟩
    · have := fm1.mod m2 (fun e => hpm e.symm)
      rw [hef]; exact this
    · intro k v
      rw [kvF_append, List.mem_append, hef, HasE_push, F0.entF k v]
      simp [kvF]
    · intro k v
      rw [kvH_append, F0.entH k v]
      simp [kvH, kvP_nil (z := (f, g)) hp]
    · intro u hu
      rcases List.mem_append.1 hu with q | q
      · exact old u q
      · simp at q; subst q; exact hq2
    · intro i j u v h1 h2 hij b hb1 hb2
      have ex : ∀ (i : Nat) (u : FZ), (x.zs ++ [(f, g)])[i]? = some u → (x.zs[i]? = some u) ∨ (i = x.zs.length ∧ u = (f, g)) := by
        intro i u h1
        by_cases hi : i < x.zs.length
        · rw [List.getElem?_append_left hi] at h1; exact .inl h1
        · rw [List.getElem?_append_right (by omega)] at h1
          have : i = x.zs.length := by
            have := (List.getElem?_eq_some_iff.1 h1).1; simp at this; omega
          subst this
          simp at h1
          exact .inr ⟨rfl, h1.symm⟩
      rcases ex i u h1 with q1 | ⟨e1, rfl⟩ <;> rcases ex j v h2 with q2 | ⟨e2, rfl⟩
      · exact F0.apart i j u v q1 q2 hij b hb1 hb2
      · exact hapart i u q1 b hb1 hb2
      · exact hapart j v q2 b hb2 hb1
      · omega
  -- what holds in between
  have hw2 : (s.add f).fs.length ≤ s.most := by simp [Pl.add]; omega
  have hp2 : RowT H2 p ty_pool_Pool (headP dp { x with zs := x.zs ++ [(f, g)], ef := ef', cf := x.cf + 1 } (s.add f)) := r2
  have hz : (x.zs ++ [(f, g)])[x.zs.length]? = some (f, g) := by simp
  have hxl : x.zs.length = s.fs.length := by rw [h.pool.fs]; simp [PG.fs]
  -- the pin, over the blocks themselves
  refine pool_Pool_pin.of ?_
  unfold pool_Pool_pin.vc
  simp only [optK_eq]
  have hzm : ((f, g) : FZ) ∈ x.zs ++ [(f, g)] := by simp
  refine hq2.row.ld (c := cInt .i64) (i := 5) (x := (f.pins.length : Int)) rfl ?_
  refine hq2.row.st (i := 5) (by decide : 5 < 7) (by rfl) fun H3 r3 m3 z3 => ?_
  have hpg' : p ≠ g.p := fun e => (hgoff g.p (.inl rfl)).2.1 (.inl e.symm)
  have hd3 : RowT H3 p ty_pool_Pool (headP dp { x with zs := x.zs ++ [(f, g)], ef := ef', cf := x.cf + 1 } (s.add f)) := m3.at hp2 hpg'
  refine hd3.ld (c := cMap) (i := 3) (x := some x.mh) rfl ?_
  refine hd3.ld (c := cInt .i64) (i := 4) (x := s.next) rfl ?_
  obtain ⟨et', inf', hu', hd', _, _⟩ := mapHand
  have hgm : g.p ≠ x.mh := fun e => (hgoff g.p (.inl rfl)).2.1 (.inr (.inr (.inl e)))
  have hh3 : MapAt (.int .i64) H3 x.mh x.eh x.ch := hF.hmap.keep (m3.same _ hF.hmap.lt (fun e => hgm e.symm))
  have hno' : ∀ u, ¬ HasE x.eh (.int .i64 s.next) u := by
    intro u hu'
    have := (h.pool.frames.entH _ _).1 hu'
    obtain ⟨z, hz', hk⟩ := List.mem_flatMap.1 this
    obtain ⟨q, hq, e⟩ := List.mem_map.1 hk
    simp only [Prod.mk.injEq, Value.int.injEq, true_and] at e
    have hzf : z.1 ∈ s.fs := by rw [h.pool.fs]; exact List.mem_map.2 ⟨z, hz', rfl⟩
    have := (h.pool.wf.old _ hzf _ hq).2
    omega
  refine doU_insert hu' hd' hh3 (k := .int .i64 s.next) (show IntKind.i64 = IntKind.i64 from rfl) hno' fun H4 hm4 m4 z4 => ?_
  have hpmh : p ≠ x.mh := fun e => PoolG.off h.pool.head h.pool.frames (.inr (.inl e))
  have hd4 : RowT H4 p ty_pool_Pool (headP dp { x with zs := x.zs ++ [(f, g)], ef := ef', cf := x.cf + 1 } (s.add f)) := m4.at hd3 hpmh
  refine hd4.ld (c := cInt .i64) (i := 4) (x := s.next) rfl ?_
  refine hd4.st (i := 4) (by decide : 4 < 8) (by rfl) fun H5 r5 m5 z5 => ?_
  refine r5.ld (c := cInt .i64) (i := 4) (x := w64 (s.next + 1)) rfl ?_
  have ht := h.pool.wf.tick
  have hww : w64 (s.next + 1) = s.next + 1 := by unfold w64; exact wrap64 (by omega) (by omega)
  have er : IntKind.i64.wrap (w64 (s.next + 1) - 1) = s.next := by
    have e1 : w64 (s.next + 1) - 1 = s.next := by omega
    rw [e1]; exact wrap64 (by omega) (by omega)
  rw [er]
  have hm35 : Mod (fun b => b = g.p ∨ b = x.mh ∨ b = p) H2 H5 := ((m3.mono fun b _ e => .inl e).trans (m4.mono fun b _ e => .inr (.inl e))).trans (m5.mono fun b _ e => .inr (.inr e))
  have hq : FrAt H5 g (Fr.pin s.next f) := by
    refine ⟨?_, hq2.b.keep fun b hb hl => hm35.same b hl ?_⟩
    · have := m5.at (m4.at r3 hgm) (fun e => hpg' e.symm)
      have e0 : IntKind.i64.wrap (((f.pins.length : Nat) : Int) + 1) = (((Fr.pin s.next f).pins.length : Nat) : Int) := by
        rw [hp]; simp [Fr.pin, hp]; rfl
      rw [e0] at this
      exact this
    · obtain ⟨c, q⟩ := hq2.b.obj b hb
      rintro (e | e | e)
      · rw [e] at q; exact absurd (cells_ty hq2.row q) (by decide)
      · rw [e, hF.hmap.obj] at q; cases q
      · rw [e] at q; exact absurd (cells_ty hp2 q) (by decide)
  have hF5 := hF.set (H' := H5) (z' := (Fr.pin s.next f, g)) hz rfl rfl rfl hq (hm4.keep (m5.same _ hm4.lt (fun e => hpmh e.symm))) (fun k v => by
    rw [HasE_push, hF.entH, kvH_pin _ x.zs.length f g hz]
    exact Iff.rfl) (fun b hb hn1 hn2 hl => hm35.same b hl (by
      rintro (e | e | e)
      · exact hn1 (.inl e)
      · exact hn2 e
      · exact PoolG.off hp2 hF (e ▸ hb))) (fun b hb => .inl hb)
  have hfin : PoolG { x with zs := (x.zs ++ [(f, g)]).set x.zs.length (Fr.pin s.next f, g), ef := ef', cf := x.cf + 1, eh := x.eh.push { key := .int .i64 s.next, val := ptrV g.p, born := x.ch }, ch := x.ch + 1 } H5 p dp (s.take f) := by
    refine ⟨r5, hF5.1, ?_, hw⟩
    show (s.fs ++ [f]).modify s.fs.length (Fr.pin s.next) = ((x.zs ++ [(f, g)]).set x.zs.length (Fr.pin s.next f, g)).map (·.1)
    rw [modify_set (a := f) (by simp), h.pool.fs]
    simp [PG.fs]
  have hm05 : Mod (fun b => x.all p b ∨ g.fp b) H H5 := by
    refine (hm12.mono fun b _ e => ?_).trans (hm35.mono fun b _ e => ?_)
    · rcases e with e | e
      · exact .inl (.inr (.inl e))
      · exact .inl (.inl e)
    · rcases e with e | e | e
      · exact .inr (.inl e)
      · exact .inl (.inr (.inr (.inl e)))
      · exact .inl (.inl e)
  have own : ∀ b, PG.all { x with zs := (x.zs ++ [(f, g)]).set x.zs.length (Fr.pin s.next f, g), ef := ef', cf := x.cf + 1, eh := x.eh.push { key := .int .i64 s.next, val := ptrV g.p, born := x.ch }, ch := x.ch + 1 } p b → x.all p b ∨ g.fp b := by
    rintro b (e | e | e | ⟨u, hu, hub⟩)
    · exact .inl (.inl e)
    · exact .inl (.inr (.inl e))
    · exact .inl (.inr (.inr (.inl e)))
    · rcases mem_set' hu with ⟨j, _, hj⟩ | rfl
      · rcases List.mem_append.1 (List.mem_of_getElem? hj) with q | q
        · exact .inl (.inr (.inr (.inr ⟨u, q, hub⟩)))
        · simp at q; subst q; exact .inr hub
      · exact .inr hub
  refine hK _ H5 ⟨hfin, h.disk.keep fun b hb hl => hm05.same b hl ?_, ?_, h.glob.1, ?_⟩ ⟨hm05.mono fun b _ e => e.imp .inr id, ?_⟩
  · rintro (e | e)
    · exact h.apart b hb e
    · exact (hgoff b e).1 hb
  · intro b hb hx
    rcases own b hx with e | e
    · exact h.apart b hb e
    · exact (hgoff b e).1 hb
  · intro hx
    rcases own _ hx with e | e
    · exact h.glob.2 e
    · exact (hgoff _ e).2.2 rfl
  · rintro b (e | e)
    · exact .inl (.inl (.inl e))
    · rcases own b e with q | q
      · exact .inl (.inl (.inr q))
      · exact .inl (.inr q)

end Go.Proofs.YtbhddkmfhampbaaDoor
