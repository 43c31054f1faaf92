/-
  The disk: Copy.
-/
import Derived.Test.YtjjfngnokbboeaaGreatDoorDkl
namespace Go.Proofs.YtjjfngnokbboeaaGreatDoor
open Go.MapKept

theorem perm_lift {α β : Type} {xs fs : List α} (h : xs.Perm fs) : ∀ zs : List (α × β), zs.map (·.1) = xs → ∃ zs' : List (α × β), zs'.Perm zs ∧ zs'.map (·.1) = fs := by
  induction h with
  | nil => intro zs hz; exact ⟨zs, .refl _, hz⟩
  | cons x h ih =>
    intro zs hz
    cases zs with
    | nil => simp at hz
    | cons z zs =>
      simp only [List.map_cons, List.cons.injEq] at hz
      obtain ⟨zs', h1, h2⟩ := ih zs hz.2
      exact ⟨z :: zs', h1.cons z, by simp [hz.1, h2]⟩
  | swap x y l =>
    intro zs hz
    match zs, hz with
    | a :: b :: zs, hz =>
      simp only [List.map_cons, List.cons.injEq] at hz
      exact ⟨b :: a :: zs, List.Perm.swap a b zs, by simp [hz.1, hz.2.1, hz.2.2]⟩
  | trans h1 h2 ih1 ih2 =>
    intro zs hz
    obtain ⟨z1, p1, e1⟩ := ih1 zs hz
    obtain ⟨z2, p2, e2⟩ := ih2 z1 e1
    exact ⟨z2, p2.trans p1, e2⟩

/-- The files may be told in another order. -/
theorem FilesAt.permute {H : Heap} {x : DG} {xs fs : List Fl} (h : FilesAt H x xs) (hp : xs.Perm fs) : ∃ gs, FilesAt H ⟨x.m, x.es, x.clk, gs⟩ fs ∧ ∀ b, DG.fp ⟨x.m, x.es, x.clk, gs⟩ b ↔ x.fp b := by
  have hlen := h.len
  obtain ⟨zs, hz⟩ : ∃ zs, zs = xs.zip x.gs := ⟨_, rfl⟩
  have hz1 : zs.map (·.1) = xs := by rw [hz]; exact List.map_fst_zip (by omega)
  have hz2 : zs.map (·.2) = x.gs := by rw [hz]; exact List.map_snd_zip (by omega)
  obtain ⟨zs', p, e⟩ := perm_lift hp zs hz1
  have at1 : ∀ (i : Nat) (z : Fl × FG), zs[i]? = some z → xs[i]? = some z.1 ∧ x.gs[i]? = some z.2 := fun i z hz' => by
    rw [← hz1, ← hz2, List.getElem?_map, List.getElem?_map, hz']; exact ⟨rfl, rfl⟩
  have at2 : ∀ (i : Nat) (f : Fl) (g : FG), xs[i]? = some f → x.gs[i]? = some g → zs[i]? = some (f, g) := fun i f g h1 h2 => by
    rw [← hz1, List.getElem?_map] at h1
    rw [← hz2, List.getElem?_map] at h2
    cases hq : zs[i]? with
    | none => rw [hq] at h1; cases h1
    | some z => rw [hq] at h1 h2; simp at h1 h2; rw [← h1, ← h2]
  have at3 : ∀ (i : Nat) (f : Fl) (g : FG), fs[i]? = some f → (zs'.map (·.2))[i]? = some g → zs'[i]? = some (f, g) := fun i f g h1 h2 => by
    rw [← e, List.getElem?_map] at h1
    rw [List.getElem?_map] at h2
    cases hq : zs'[i]? with
    | none => rw [hq] at h1; cases h1
    | some z => rw [hq] at h1 h2; simp at h1 h2; rw [← h1, ← h2]
  have pw : zs.Pairwise fun a b => ∀ y, a.2.fp y → ¬ b.2.fp y := by
    rw [List.pairwise_iff_getElem]
    intro i j hi hj hij
    exact h.apart i j zs[i].2 zs[j].2 (at1 i _ (List.getElem?_eq_getElem hi)).2 (at1 j _ (List.getElem?_eq_getElem hj)).2 (by omega)
  have pw' : zs'.Pairwise fun a b => ∀ y, a.2.fp y → ¬ b.2.fp y := (p.pairwise_iff (fun {a b} hab y h1 h2 => hab y h2 h1)).2 pw
  refine ⟨zs'.map (·.2), ⟨h.map, by rw [← e]; simp, by rw [← hp.length_eq]; exact h.size, ?_, ?_, ?_⟩, ?_⟩
  · intro i f g h1 h2
    have hm := p.mem_iff.1 (List.mem_of_getElem? (at3 i f g h1 h2))
    obtain ⟨j, hj⟩ := List.mem_iff_getElem?.1 hm
    exact h.ent j f g (at1 j _ hj).1 (at1 j _ hj).2
  · intro k v hkv
    obtain ⟨i, f, g, h1, h2, h3, h4⟩ := h.ent' k v hkv
    have hm := p.mem_iff.2 (List.mem_of_getElem? (at2 i f g h1 h2))
    obtain ⟨j, hj⟩ := List.mem_iff_getElem?.1 hm
    exact ⟨j, f, g, by rw [← e, List.getElem?_map, hj]; rfl, by simp only; rw [List.getElem?_map, hj]; rfl, h3, h4⟩
  · intro i j g g' h1 h2 hij
    simp only [List.getElem?_map] at h1 h2
    obtain ⟨a, ha, rfl⟩ := Option.map_eq_some_iff.1 h1
    obtain ⟨b, hb, rfl⟩ := Option.map_eq_some_iff.1 h2
    obtain ⟨hi, rfl⟩ := List.getElem?_eq_some_iff.1 ha
    obtain ⟨hj, rfl⟩ := List.getElem?_eq_some_iff.1 hb
    rw [List.pairwise_iff_getElem] at pw'
    rcases Nat.lt_or_ge i j with q | q
    · exact pw' i j hi hj q
    · intro y h1 h2
      exact pw' j i hj hi (by omega) y h2 h1
  · intro b
    have hgm : ∀ g, g ∈ zs'.map (·.2) ↔ g ∈ x.gs := fun g => by rw [← hz2]; exact (p.map _).mem_iff
    constructor
    · rintro (q | ⟨g, hg, hb⟩)
      · exact .inl q
      · exact .inr ⟨g, (hgm g).1 hg, hb⟩
    · rintro (q | ⟨g, hg, hb⟩)
      · exact .inl q
      · exact .inr ⟨g, (hgm g).2 hg, hb⟩

theorem clone_ok {gf : FG} {f : Fl} {H : Heap} {K : Option Addr → Heap → Prop} (hF : FileAt H gf f) (hp : f.pages.length ≤ 1048576) (hl : f.log.length ≤ 68719476736)
    (hK : ∀ g' H', FileAt H' g' f → Mod (fun _ => False) H H' → (∀ b, g'.fp b → H.size ≤ b) → K (at0 g'.p) H') : disk_file_clone.sp (at0 gf.p) H K := by
  refine disk_file_clone.of ?_
  unfold disk_file_clone.vc
  simp only [optK_eq]
  have hsl := f.synced_le
  refine ⟨fun A => RowT A gf.p ty_disk_file #[gf.now.v, gf.syn.v, gf.log.v], hF.row, ?_⟩
  refine hF.row.ld (c := cSl) (i := 0) (x := gf.now) rfl ?_
  refine CloneSheet_ok hF.now (by omega) fun s1 H1 o1 m1 f1 => ⟨hF.row.ext m1, ?_⟩
  refine ⟨gf.syn, fun A hA => by rw [add_lit0]; exact hA.cell rfl, ?_⟩
  refine CloneSheet_ok (hF.syn.ext m1) (by omega) fun s2 H2 o2 m2 f2 => ⟨(hF.row.ext m1).ext m2, ?_⟩
  refine ⟨gf.log, fun A hA => by rw [add_lit0]; exact hA.cell rfl, ?_⟩
  refine CloneMark_ok ((hF.log.ext m1).ext m2) hl fun s3 H3 o3 m3 f3 => ?_
  refine newC_rowT fun H4 s4 r4 m4 => ?_
  have z1 := m1.size; have z2 := m2.size; have z3 := m3.size
  refine hK ⟨H3.size, s1, s2, s3⟩ H4 ⟨r4, ((o1.ext m2).ext m3).ext m4, (o2.ext m3).ext m4, o3.ext m4, fun b h1 h2 => ?_⟩ (((m1.trans m2).trans m3).trans m4) ?_
  · have := o1.lt b h1; have := f2 b h2; omega
  · rintro b (e | h | h | h)
    · simp only at e; omega
    · exact f1 b h
    · have := f2 b h; omega
    · have := f3 b h; omega

def fileOf (s : Dk) (e : MapEntry) : Fl := match keyName e.key with | some n => (match s.idx n with | some i => s.file i | none => ⟨ByteArray.empty, [], []⟩) | none => ⟨ByteArray.empty, [], []⟩

theorem files_perm {H : Heap} {x : DG} {s : Dk} (h : FilesAt H x s.files) (hw : s.WF) {l : List MapEntry} (hl : l.Perm x.es.toList) : (l.map (fileOf s)).Perm s.files := by
  have h1 := (h.perm hw).map fun k => match keyName k with | some n => (match s.idx n with | some i => s.file i | none => ⟨ByteArray.empty, [], []⟩) | none => ⟨ByteArray.empty, [], []⟩
  rw [List.map_map, List.map_map] at h1
  have h2 : s.files.map ((fun k => match keyName k with | some n => (match s.idx n with | some i => s.file i | none => ⟨ByteArray.empty, [], []⟩) | none => (⟨ByteArray.empty, [], []⟩ : Fl)) ∘ fun f => Value.string f.name) = s.files := by
    conv => rhs; rw [← List.map_id s.files]
    apply List.map_congr_left
    intro f hf
    obtain ⟨i, hi⟩ := List.mem_iff_getElem?.1 hf
    simp only [Function.comp_apply, keyName, Dk.idx_eq hw hi, Dk.file_eq hi, id]
  rw [h2] at h1
  exact (hl.map _).trans h1

set_option maxHeartbeats 1000000 in
theorem Copy_ok {F : Nat → Prop} {d : Nat} {s : Dk} {H : Heap} {K : Option Addr → Heap → Prop} (h : DiskAt F H d s) (hlogs : s.logs < 68719476736)
    (hK : ∀ F' p H', DiskAt F' H' p s → Mod (fun _ => False) H H' → (∀ b, F' b → H.size ≤ b) → K (at0 p) H') : disk_Disk_Copy.sp (at0 d) H K := by
  obtain ⟨x, cin, kp, g, hF⟩ := h
  refine disk_Disk_Copy.of ?_
  unfold disk_Disk_Copy.vc
  simp only [optK_eq]
  refine br_f rfl ?_
  refine g.head.ldA (c := cAgg [cMap, (cInt .i64), (cInt .i64), (cInt .i64), (cInt .i64), (cInt .i64), cBool, (cInt .i64), (cInt .u64), cBool]) (x := (some x.m, (s.used : Int), (s.most : Int), (s.quota : Int), s.ops, s.next, s.crash.isSome, cin, kp, s.down)) rfl rfl ?_
  refine newC_rowT fun H1 s1 r1 m1 => ?_
  refine r1.stAll (cs := headC x.m s.used s.most s.quota s.ops s.next s.crash.isSome cin kp s.down) (by kernel_rfl) (by kernel_rfl) (by intro v hv; simp [headC] at hv; rcases hv with rfl | rfl | rfl | rfl | rfl | rfl | rfl | rfl | rfl | rfl <;> rfl) fun H2 r2 m2 s2 => ?_
  refine newM_map (d := .string) fun H3 s3 mm3 m3 => ?_
  have r3 := r2.ext m3
  refine r3.st (i := 0) (by simp [headC]) (by rfl) fun H4 r4 m4 s4 => ?_
  obtain ⟨p, hp⟩ : ∃ p, p = H.size := ⟨_, rfl⟩
  obtain ⟨q, hq⟩ : ∃ q, q = H2.size := ⟨_, rfl⟩
  rw [← hp, ← hq] at r4
  rw [← hq] at mm3
  rw [← hp] at m2 m4
  rw [← hp]
  have r4' : RowT H4 p ty_disk_Disk (headC q s.used s.most s.quota s.ops s.next s.crash.isSome cin kp s.down) := r4
  have e4 : Mod (fun _ => False) H H4 := ⟨by omega, fun b hb _ => (m4.same b (by omega) (by omega)).trans ((m3.same b (by omega) id).trans ((m2.same b (by omega) (by omega)).trans (m1.same b hb id)))⟩
  have mm4 : MapAt .string H4 q #[] 0 := mm3.keep (m4.same _ (by omega) (by omega))
  refine (g.head.ext e4).ld (c := cMap) (i := 0) (x := some x.m) rfl ?_
  obtain ⟨et, inf, hu, hkd, hei, hez⟩ := mapFiles
  have files4 : FilesAt H4 x s.files := g.files.keep fun b hb hl => e4.same b hl id
  refine doT_range hu files4.map fun H5 hit m5 => ?_
  have hit5 : H4.size < H5.size := obj_lt hit
  have hdl : d < H.size := obj_lt g.head
  have hxl := g.files.lt
  have hst := g.files.map.stamped
  have w1 := g.wf.used; have w2 := g.wf.most; have w3 := g.wf.quota
  refine map_range (it := H4.size) (fun l _ A => ∃ es2 clk2 gs2, FilesAt A ⟨q, es2, clk2, gs2⟩ (l.map (fileOf s)) ∧ RowT A p ty_disk_Disk (headC q s.used s.most s.quota s.ops s.next s.crash.isSome cin kp s.down) ∧ Mod (fun b => b = q ∨ b = H4.size) H5 A ∧ (∀ b, DG.fp ⟨q, es2, clk2, gs2⟩ b → b = q ∨ H5.size ≤ b)) (files4.keep fun b hb hl => m5.same b hl id).map hit ?_ ?_ ?_ ?_
  · refine ⟨#[], 0, [], ⟨mm4.keep (m5.same _ (by omega) id), rfl, rfl, by intro i f gg h; simp at h, by rintro k v ⟨e, he, _⟩; simp at he, by intro i j g1 g2 h; simp at h⟩, r4'.ext m5, .refl _ _, ?_⟩
    rintro b (e | ⟨gg, hg, _⟩)
    · exact .inl e
    · simp at hg
  · rintro l _ A A' ⟨es2, clk2, gs2, fA, rA, mA, oA⟩ hm hs
    refine ⟨es2, clk2, gs2, fA.keep fun b hb hl => hm.same b hl ?_, rA.mod hm (by omega), mA.trans (hm.mono fun b _ e => .inr e), oA⟩
    rcases oA b hb with e | e <;> omega
  · rintro l e ⟨⟩ A next ⟨es2, clk2, gs2, fA, rA, mA, oA⟩ he hel hsub hnd hr hito hnext
    obtain ⟨i, f, gf, q1, q2, q3, q4⟩ := g.files.ent' e.key e.val ⟨e, he, rfl, rfl⟩
    have hfo : fileOf s e = f := by unfold fileOf; rw [q3]; simp [keyName, Dk.idx_eq g.wf q1, Dk.file_eq q1]
    refine ⟨f.name, by rw [q3], at0 gf.p, by rw [q4]; rfl, ?_⟩
    refine ⟨fun A' => RowT A' p ty_disk_Disk (headC q s.used s.most s.quota s.ops s.next s.crash.isSome cin kp s.down), rA, ?_⟩
    refine ⟨some q, fun A' hA' => by rw [add_lit0]; exact hA'.cell rfl, ?_⟩
    have z5 := mA.size
    have hFA : FileAt A gf f := (g.files.ent i f gf q1 q2).2.keep fun b hb hl => by
      have hb' := hxl b (.inr ⟨gf, List.mem_of_getElem? q2, hb⟩)
      exact (mA.same b (by omega) (by omega)).trans ((m5.same b (by omega) id).trans (e4.same b hl id))
    have hpl := Dk.pages_le q1
    have hll := Dk.log_le q1
    refine clone_ok hFA (by omega) (by omega) fun g' A1 hF1 m6 f6 => ⟨rA.ext m6, ?_⟩
    have fA1 := fA.keep (H' := A1) fun b hb hl => m6.same b hl id
    have hno : ∀ u, ¬ HasE es2 (.string f.name) u := by
      intro u hu2
      obtain ⟨j, f', g2, t1, _, t3, _⟩ := fA1.ent' _ _ hu2
      rw [List.getElem?_map] at t1
      obtain ⟨e', he', rfl⟩ := Option.map_eq_some_iff.1 t1
      have hm' := List.mem_of_getElem? he'
      obtain ⟨i2, f2, gf2, u1, _, u3, _⟩ := g.files.ent' e'.key e'.val ⟨e', hsub e' hm', rfl, rfl⟩
      have hfo' : fileOf s e' = f2 := by unfold fileOf; rw [u3]; simp [keyName, Dk.idx_eq g.wf u1, Dk.file_eq u1]
      rw [hfo'] at t3
      have := stamped_key hst (hsub e' hm') he (by rw [u3, q3, t3])
      subst this; exact hel hm'
    refine doU_insert hu hkd fA1.map (k := .string f.name) trivial hno fun A2 mm2 m7 s7 => ?_
    have hq5 : q < H5.size := by omega
    have fB := fA.push (H' := A2) (f := f) (g := g') (hF1.keep fun b hb hl => m7.same b hl (by have := f6 b hb; omega)) mm2 (fun b hb hne hl => (m7.same b (by have := m6.size; omega) hne).trans (m6.same b hl id)) f6
    refine hnext () A2 ⟨_, _, _, by rw [List.map_append, List.map_cons, List.map_nil, hfo]; exact fB, (rA.ext m6).mod m7 (by omega), ?_, ?_⟩ ?_ ?_
    · exact (mA.trans (Ext.mod m6)).trans (m7.mono fun b _ e => .inl e)
    · rintro b (e | ⟨g2, hg2, hb⟩)
      · exact .inl e
      · rcases List.mem_append.1 hg2 with h | h
        · exact oA b (.inr ⟨g2, h, hb⟩)
        · simp at h; subst h
          have := f6 b hb
          right; omega
    · have := g.files.map.lt
      exact (m7.same _ (by have := m6.size; omega) (by omega)).trans (m6.same _ (by omega) id)
    · exact (m7.same _ (by have := m6.size; omega) (by omega)).trans (m6.same _ (by omega) id)
  · rintro l ⟨⟩ A ⟨es2, clk2, gs2, fA, rA, mA, oA⟩ hperm _
    have hfp := files_perm g.files g.wf hperm
    obtain ⟨gs3, fB, hfpb⟩ := fA.permute hfp
    have z5 := mA.size
    refine hK (fun b => b = p ∨ DG.fp ⟨q, es2, clk2, gs3⟩ b) p A ⟨⟨q, es2, clk2, gs3⟩, cin, kp, ⟨rA, g.crash, fB, g.wf⟩, fun _ => Iff.rfl⟩ ?_ ?_
    · refine ⟨by omega, fun b hb _ => (mA.same b (by omega) (by omega)).trans ((m5.same b (by omega) id).trans (e4.same b hb id))⟩
    · rintro b (e | e)
      · omega
      · rcases oA b ((hfpb b).1 e) with h | h <;> omega

end Go.Proofs.YtjjfngnokbboeaaGreatDoor
