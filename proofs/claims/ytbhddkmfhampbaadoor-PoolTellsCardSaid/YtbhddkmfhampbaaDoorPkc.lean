/-
  The pool: room is made; a handle more; a frame more; a page is read.
-/
import Derived.Test.YtbhddkmfhampbaaDoorPkb
namespace Go.Proofs.YtbhddkmfhampbaaDoor
open Go.MapKept

theorem map_erase {α β : Type} (u : α → β) : ∀ (l : List α) (i : Nat), (l.eraseIdx i).map u = (l.map u).eraseIdx i
  | [], i => by simp
  | a :: l, 0 => by simp
  | a :: l, i + 1 => by simp [map_erase u l i]
theorem FrAt.at_ld {H : Heap} {g : FrG} {f : Fr} {K : (ByteArray × Int) → Prop} (h : FrAt H g f) (hK : K (f.name, (f.page : Int))) : ldA (cAgg [cStr, (cInt .i64)]) 2 H (Addr.add ⟨g.p, 0, none⟩ 0) K := by
  refine ⟨(f.name, (f.page : Int)), ?_, hK⟩
  refine RowT.hRow (o := 0) (ds := #[.string f.name, .int .i64 (f.page : Int)]) h.row rfl fun i hi => ?_
  have : i = 0 ∨ i = 1 := by omega
  rcases this with rfl | rfl <;> rfl
theorem PoolG.lenF {x : PG} {H : Heap} {p dp : Nat} {s : Pl} {K : Nat → Prop} (h : PoolG x H p dp s) (hK : K s.fs.length) : lenM H (some x.mf) K :=
  ⟨s.fs.length, ⟨x.ef, x.cf, h.frames.fmap.obj, h.n⟩, hK⟩
theorem Pl.WF.key {s : Pl} (h : s.WF) {i : Nat} {f : Fr} (hf : s.fs[i]? = some f) : KeyW Tryd.prog ty_pool_spot (keyV f.name (f.page : Int)) := by
  have := h.pages f (List.mem_of_getElem? hf)
  exact keyW_spot this.2 (by omega) (by omega)

/-- A frame that none holds is forgotten. -/
theorem del_ok {x : PG} {D : Nat → Prop} {H : Heap} {p dp : Nat} {s : Pl} {i : Nat} {f : Fr} {g : FrG} {ty : TypeId} {K : Value → Heap → Prop} (hg : Gl H) (h : PoolD x D H p dp s) (hz : x.zs[i]? = some (f, g)) (hp : f.pins = [])
    (hK : ∀ ef' v H', PoolD { x with zs := x.zs.eraseIdx i, ef := ef' } D H' p dp (s.drop i) → Step (fun b => D b ∨ x.all p b) (fun b => D b ∨ PG.all { x with zs := x.zs.eraseIdx i, ef := ef' } p b) H H' → Mod (fun b => b = x.mf) H H' → K v H') :
    doT cRaw Tryd.prog (Builtin.delete_ #[ty_maparr_pool_spot_ptr_pool_frame, ty_pool_spot] ty #[(.map (some x.mf)), (.agg #[(.string f.name), (.int .i64 (f.page : Int))])]) H K := by
  have hfs : s.fs[i]? = some f := by rw [h.pool.fs]; simp [PG.fs, hz]
  obtain ⟨et, inf, hu, _⟩ := mapSpot
  have hkey := h.pool.wf.key hfs
  refine doT_deleteW (k := keyV f.name (f.page : Int)) hu keySpot h.pool.frames.fmap hkey fun ef' H' m' it sz mo z' => ?_
  have hF := h.pool.frames.erase hz hp (by have := h.pool.wf.keys; rw [h.pool.fs] at this; exact this) m' it sz (fun b _ hne hl => mo.same b hl hne)
  have hpm : p ≠ x.mf := fun e => PoolG.off h.pool.head h.pool.frames (.inl e)
  have hp' : PoolG { x with zs := x.zs.eraseIdx i, ef := ef' } H' p dp (s.drop i) := by
    refine ⟨mo.at h.pool.head hpm, hF, ?_, h.pool.wf.drop i⟩
    show s.fs.eraseIdx i = (x.zs.eraseIdx i).map (·.1)
    rw [h.pool.fs, map_erase]; rfl
  obtain ⟨q1, q2⟩ := h.stepP hg hp' rfl (mo.mono fun b _ e => .inr (.inl e)) (by
    rintro b (e | e | ⟨z, hz', hb⟩)
    · exact .inl (.inl e)
    · exact .inl (.inr (.inl e))
    · exact .inl (.inr (.inr ⟨z, List.mem_of_mem_eraseIdx hz', hb⟩)))
  exact hK ef' _ H' q1 q2 mo

theorem room_ok {x : PG} {D : Nat → Prop} {H : Heap} {p dp : Nat} {s : Pl} {K : Int → Heap → Prop} (hg : Gl H) (h : PoolD x D H p dp s) (hlogs : s.d.logs < 68719476736)
    (hK : ∀ x' D' H', PoolD x' D' H' p dp s.room.1 → Step (fun b => D b ∨ x.all p b) (fun b => D' b ∨ x'.all p b) H H' → K s.room.2 H') : pool_Pool_room.sp (at0 p) H K := by
  refine pool_Pool_room.of ?_
  unfold pool_Pool_room.vc
  simp only [optK_eq]
  refine h.pool.head.ld (c := cMap) (i := 2) (x := some x.mf) rfl ?_
  refine h.pool.lenF ?_
  refine h.pool.head.ld (c := cInt .i64) (i := 1) (x := (s.most : Int)) rfl ?_
  refine br_mk (fun hc => ?_) (fun hc => ?_)
  · have e : s.room = (s, 0) := by unfold Pl.room; rw [if_pos (by simpa using hc)]
    rw [e] at hK
    exact hK x D H h (.refl _ _)
  have hlen : ¬ s.fs.length < s.most := by simpa using hc
  refine first_ok h.pool (fun hN H1 e1 => ?_) (fun i f g hb hz H1 e1 => ?_)
  · have e : s.room = (s, 31) := by unfold Pl.room; rw [if_neg hlen, hN]
    rw [e] at hK
    refine br_t rfl (hK x D H1 ⟨h.pool.keep fun b _ hl => e1.same b hl id, h.disk.keep fun b _ hl => e1.same b hl id, h.apart, h.glob⟩ ⟨Ext.mod e1, fun b q => .inl q⟩)
  · have h1 : PoolD x D H1 p dp s := ⟨h.pool.keep fun b _ hl => e1.same b hl id, h.disk.keep fun b _ hl => e1.same b hl id, h.apart, h.glob⟩
    have S1 : Step (fun b => D b ∨ x.all p b) (fun b => D b ∨ x.all p b) H H1 := ⟨Ext.mod e1, fun b q => .inl q⟩
    have hg1 : Gl H1 := hg.mod e1 id
    have hzm := List.mem_of_getElem? hz
    have hfs : s.fs[i]? = some f := by rw [h.pool.fs]; simp [PG.fs, hz]
    have hfr := Pl.frame_eq hfs
    obtain ⟨f0, hf0, hp0, _⟩ := Pl.best_some hb
    rw [hfs] at hf0; cases hf0
    have hA := h1.pool.frames.each _ hzm
    refine br_f rfl ?_
    simp only [optK_eq]
    refine hA.row.ld (c := cBool) (i := 4) (x := f.dirty) rfl ?_
    have er : s.room = (if f.dirty then (if (s.put i).2 = 0 then ((s.put i).1.drop i, 0) else s.put i) else (s.drop i, 0)) := by
      unfold Pl.room; rw [if_neg hlen, hb]; simp only [hfr]
    cases hd : f.dirty with
    | true =>
      rw [hd, if_pos rfl] at er
      refine br_t rfl ?_
      refine put_ok' hg1 h1 hz hlogs (fun hne D' H2 h2 S2 => ?_) (fun he D' H2 h2 S2 => ?_)
      · rw [if_neg hne] at er
        rw [er] at hK
        exact br_t (by simpa using hne) (hK x D' H2 h2 (S1.trans S2))
      · rw [if_pos he] at er
        rw [er] at hK
        refine br_f rfl ?_
        have hil := (List.getElem?_eq_some_iff.1 hz).1
        have hz2 : (x.zs.set i (f.clean, g))[i]? = some (f.clean, g) := by simp [hil]
        have hA2 := h2.pool.frames.each _ (List.mem_of_getElem? hz2)
        refine h2.pool.head.ld (c := cMap) (i := 2) (x := some x.mf) rfl ?_
        refine FrAt.at_ld hA2 ?_
        have hg2 : Gl H2 := h1.gl hg1 S2.mod
        refine del_ok (x := { x with zs := x.zs.set i (f.clean, g) }) hg2 h2 hz2 hp0 fun ef' v H3 h3 S3 _ => ?_
        exact hK _ D' H3 h3 ((S1.trans S2).trans S3)
    | false =>
      rw [hd, if_neg (by simp)] at er
      rw [er] at hK
      refine br_f rfl ?_
      refine h1.pool.head.ld (c := cMap) (i := 2) (x := some x.mf) rfl ?_
      refine FrAt.at_ld hA ?_
      refine del_ok hg1 h1 hz hp0 fun ef' v H3 h3 S3 _ => ?_
      exact hK _ D H3 h3 (S1.trans S3)

/-! ### A handle more -/

theorem mapHand : MapPT Tryd.prog ty_maparr_int_ptr_pool_frame ty_int (.int .i64) := MapPT_of (by kernel_rfl) (by kernel_rfl)

theorem kvH_pin {h : Int} : ∀ (zs : List FZ) (i : Nat) (f : Fr) (g : FrG), zs[i]? = some (f, g) → ∀ k v, (k, v) ∈ kvH (zs.set i (Fr.pin h f, g)) ↔ (k, v) ∈ kvH zs ∨ (k = .int .i64 h ∧ v = ptrV g.p)
  | [], i, f, g, e, k, v => by simp at e
  | a :: l, 0, f, g, e, k, v => by
    simp at e; subst e
    simp only [List.set_cons_zero, kvH, List.flatMap_cons, List.mem_append, kvP, Fr.pin, List.map_append, List.map_cons, List.map_nil, List.mem_singleton, Prod.mk.injEq]
    constructor
    · rintro ((q | q) | q)
      · exact .inl (.inl q)
      · exact .inr q
      · exact .inl (.inr q)
    · rintro ((q | q) | q)
      · exact .inl (.inl q)
      · exact .inr q
      · exact .inl (.inr q)
  | a :: l, i + 1, f, g, e, k, v => by
    have ih := kvH_pin (h := h) l i f g (by simpa using e) k v
    simp only [List.set_cons_succ, kvH, List.flatMap_cons, List.mem_append] at ih ⊢
    rw [ih, or_assoc]

theorem pinAt_ok {x : PG} {D : Nat → Prop} {H : Heap} {p dp : Nat} {s : Pl} {i : Nat} {f : Fr} {g : FrG} {K : Int → Heap → Prop} (hg : Gl H) (h : PoolD x D H p dp s) (hz : x.zs[i]? = some (f, g)) (hn : s.next < 9223372036854775807)
    (hwf : (s.pinAt i).WF) (hpl : (f.pins.length : Int) < 9223372036854775807)
    (hK : ∀ x' H', PoolD x' D H' p dp (s.pinAt i) → Step (fun b => D b ∨ x.all p b) (fun b => D b ∨ x'.all p b) H H' → K s.next H') : pool_Pool_pin.sp (at0 p) (at0 g.p) H K := by
  refine pool_Pool_pin.of ?_
  unfold pool_Pool_pin.vc
  simp only [optK_eq]
  have hzm := List.mem_of_getElem? hz
  have hfs : s.fs[i]? = some f := by rw [h.pool.fs]; simp [PG.fs, hz]
  have hA := h.pool.frames.each _ hzm
  refine hA.row.ld (c := cInt .i64) (i := 5) (x := (f.pins.length : Int)) rfl ?_
  refine hA.row.st (i := 5) (by decide : 5 < 7) (by rfl) fun H1 r1 m1 z1 => ?_
  have hpg : p ≠ g.p := fun e => PoolG.off h.pool.head h.pool.frames (e ▸ .inr (.inr ⟨_, hzm, .inl rfl⟩))
  have hd1 : RowT H1 p ty_pool_Pool (headP dp x s) := m1.at h.pool.head hpg
  refine hd1.ld (c := cMap) (i := 3) (x := some x.mh) rfl ?_
  refine hd1.ld (c := cInt .i64) (i := 4) (x := s.next) rfl ?_
  obtain ⟨et, inf, hu, hd, hi', hzz⟩ := mapHand
  have hoff := h.pool.frames.off hzm
  have hgm : g.p ≠ x.mh := fun e => hoff.2 (.inl e.symm)
  have hh1 : MapAt (.int .i64) H1 x.mh x.eh x.ch := h.pool.frames.hmap.keep (m1.same _ h.pool.frames.hmap.lt (fun e => hgm e.symm))
  have hno : ∀ u, ¬ HasE x.eh (.int .i64 s.next) u := by
    intro u hu'
    have := (h.pool.frames.entH _ _).1 hu'
    obtain ⟨z, hz', hk⟩ := List.mem_flatMap.1 this
    obtain ⟨q, hq, e⟩ := List.mem_map.1 hk
    simp only [Prod.mk.injEq, Value.int.injEq, true_and] at e
    have hzf : z.1 ∈ s.fs := by rw [h.pool.fs]; exact List.mem_map.2 ⟨z, hz', rfl⟩
    have := (h.pool.wf.old _ hzf _ hq).2
    omega
  refine doU_insert hu hd hh1 (k := .int .i64 s.next) (show IntKind.i64 = IntKind.i64 from rfl) hno fun H2 hm2 m2 z2 => ?_
  have hpm : p ≠ x.mh := fun e => PoolG.off h.pool.head h.pool.frames (.inr (.inl e))
  have hd2 : RowT H2 p ty_pool_Pool (headP dp x s) := m2.at hd1 hpm
  refine hd2.ld (c := cInt .i64) (i := 4) (x := s.next) rfl ?_
  refine hd2.st (i := 4) (by decide : 4 < 8) (by rfl) fun H3 r3 m3 z3 => ?_
  refine r3.ld (c := cInt .i64) (i := 4) (x := w64 (s.next + 1)) rfl ?_
  have ht := h.pool.wf.tick
  have hw : w64 (s.next + 1) = s.next + 1 := by unfold w64; exact wrap64 (by omega) (by omega)
  have er : IntKind.i64.wrap (w64 (s.next + 1) - 1) = s.next := by
    have e1 : w64 (s.next + 1) - 1 = s.next := by omega
    rw [e1]; exact wrap64 (by omega) (by omega)
  rw [er]
  have hm13 : Mod (fun b => b = g.p ∨ b = x.mh ∨ b = p) H H3 := ((m1.mono fun b _ e => .inl e).trans (m2.mono fun b _ e => .inr (.inl e))).trans (m3.mono fun b _ e => .inr (.inr e))
  have ew : IntKind.i64.wrap ((f.pins.length : Int) + 1) = (((Fr.pin s.next f).pins.length : Nat) : Int) := by
    rw [wrap64 (by omega) (by omega)]; simp [Fr.pin]
  have hq : FrAt H3 g (Fr.pin s.next f) := by
    refine ⟨?_, hA.b.keep fun b hb hl => hm13.same b hl ?_⟩
    · have := m3.at (m2.at r1 hgm) (fun e => hpg e.symm)
      rw [ew] at this
      exact this
    · obtain ⟨c, q⟩ := hA.b.obj b hb
      rintro (e | e | e)
      · rw [e] at q; exact absurd (cells_ty hA.row q) (by decide)
      · rw [e, h.pool.frames.hmap.obj] at q; cases q
      · rw [e] at q; exact absurd (cells_ty h.pool.head q) (by decide)
  have hF := h.pool.frames.set (H' := H3) (z' := (Fr.pin s.next f, g)) hz rfl rfl rfl hq (hm2.keep (m3.same _ hm2.lt (fun e => hpm e.symm))) (fun k v => by
    rw [HasE_push, h.pool.frames.entH, kvH_pin x.zs i f g hz]
    exact Iff.rfl) (fun b hb hn1 hn2 hl => hm13.same b hl (by
      rintro (e | e | e)
      · exact hn1 (.inl e)
      · exact hn2 e
      · exact PoolG.off h.pool.head h.pool.frames (e ▸ hb))) (fun b hb => .inl hb)
  have hp3 : PoolG { x with zs := x.zs.set i (Fr.pin s.next f, g), eh := x.eh.push { key := .int .i64 s.next, val := ptrV g.p, born := x.ch }, ch := x.ch + 1 } H3 p dp (s.pinAt i) := by
    refine ⟨r3, hF.1, ?_, hwf⟩
    show s.fs.modify i (Fr.pin s.next) = (x.zs.set i (Fr.pin s.next f, g)).map (·.1)
    rw [modify_set hfs, h.pool.fs]
    simp [PG.fs, List.map_set]
  obtain ⟨q1, q2⟩ := h.stepP hg hp3 rfl (hm13.mono fun b _ e => by
    rcases e with e | e | e
    · exact .inr (.inr (.inr ⟨_, hzm, .inl e⟩))
    · exact .inr (.inr (.inl e))
    · exact .inl e) hF.2
  exact hK _ H3 q1 q2

end Go.Proofs.YtbhddkmfhampbaaDoor
