/-
  The pool: Flush and Drop.
-/
import Derived.Test.YtbhddkmfhampbaaDoorPki
namespace Go.Proofs.YtbhddkmfhampbaaDoor
open Go.MapKept

theorem kvF_set {zs : List FZ} {i : Nat} {f f' : Fr} {g : FrG} (hz : zs[i]? = some (f, g)) (hk : f'.key = f.key) : kvF (zs.set i (f', g)) = kvF zs := by
  have h1 : f'.name = f.name := congrArg Prod.fst hk
  have h2 : f'.page = f.page := congrArg Prod.snd hk
  unfold kvF
  rw [show zs.set i (f', g) = zs.modify i (fun _ => (f', g)) from (modify_set (g := fun _ => (f', g)) hz).symm]
  exact map_modify_same _ _ _ _ _ hz (by simp only [h1, h2])

theorem kvF_at {x y : PG} {H : Heap} {z : FZ} {n : ByteArray} (hk : kvF y.zs = kvF x.zs) (hz : z ∈ x.zs) (hn : z.1.name = n) (hy : FramesAt H y) : ∃ (i : Nat) (f : Fr), y.zs[i]? = some (f, (⟨z.2.p, (y.zs.getD i z).2.b⟩ : FrG)) ∧ f.name = n ∧ f.page = z.1.page := by
  have h1 : (keyV z.1.name (z.1.page : Int), ptrV z.2.p) ∈ kvF y.zs := by rw [hk]; exact List.mem_map.2 ⟨z, hz, rfl⟩
  obtain ⟨u, hu, e⟩ := List.mem_map.1 h1
  simp only [Prod.mk.injEq] at e
  have e1 := keyV_inj e.1
  have e2 := ptrV_inj e.2
  obtain ⟨i, hi⟩ := List.mem_iff_getElem?.1 hu
  refine ⟨i, u.1, ?_, e1.1.trans hn, by omega⟩
  have : y.zs.getD i z = u := by simp [List.getD, hi]
  rw [hi, this, ← e2]

theorem Pl.pagesOf_length (s : Pl) (n : ByteArray) : (s.pagesOf n).length ≤ s.fs.length := by
  unfold Pl.pagesOf
  rw [List.length_mergeSort, List.length_map]
  exact List.length_filter_le _ _

theorem Flush_ok {F : Nat → Prop} {H : Heap} {p dp : Nat} {s : Pl} {n : ByteArray} {K : Int → Heap → Prop} (hg : Gl H) (h : PoolAt F H p dp s) (hlogs : s.d.logs < 68719470000)
    (hK : ∀ F' H', PoolAt F' H' p dp (s.flush n).1 → Step F F' H H' → K (s.flush n).2 H') : pool_Pool_Flush.sp (at0 p) n H K := by
  have h00 := h
  obtain ⟨x, D, hd, hF⟩ := h
  refine pool_Pool_Flush.of ?_
  unfold pool_Pool_Flush.vc
  simp only [optK_eq]
  refine ready_pool hd.pool ?_
  unfold Pl.flush at hK
  refine br_mk (fun hw => ?_) (fun hw => ?_)
  · have hw' : s.wrong ≠ 0 := by simpa using hw
    rw [if_pos hw'] at hK
    exact hK F H h00 (.refl _ _)
  have hw' : ¬ s.wrong ≠ 0 := by simpa using hw
  rw [if_neg hw'] at hK
  refine hd.pool.head.ld (c := cPtr) (i := 0) (x := at0 dp) rfl ?_
  refine Len_ok hd.disk ?_
  have fin : ∀ (e : Int) (x' : PG) (D' : Nat → Prop) (H1 : Heap) (t : Pl), PoolD x' D' H1 p dp t → Step (fun b => D b ∨ x.all p b) (fun b => D' b ∨ x'.all p b) H H1 → (∀ F' H', PoolAt F' H' p dp (Pl.out (t, e)).1 → Step F F' H H' → K (Pl.out (t, e)).2 H') →
      pool_Pool_met.sp (at0 p) e H1 fun r H2 => K r H2 := by
    intro e x' D' H1 t h1 S1 hk
    refine met_ok (hd.gl hg S1.mod) h1 fun H2 h2 S2 => ?_
    obtain ⟨F', q1, q2⟩ := h2.out (x := x) (D := D) (F := F) (H := H) hF (S1.trans S2)
    exact hk F' H2 q1 q2
  refine br_mk (fun hz => ?_) (fun hz => ?_)
  · have hz' : (s.d.len n).2 ≠ 0 := by simpa using hz
    rw [if_pos hz'] at hK
    exact fin _ x D H s hd (.refl _ _) hK
  have hz' : ¬ (s.d.len n).2 ≠ 0 := by simpa using hz
  rw [if_neg hz'] at hK
  refine of_ok hd.pool fun sl H1 o1 e1 f1 => ?_
  have hd1 := hd.ext e1
  have hlen1 := o1.n (by decide)
  have hpo := PG.of_pages hd.pool.fs n
  have hll : (s.pagesOf n).length ≤ 4096 := by
    have := s.pagesOf_length n
    have := hd.pool.wf.len; have := hd.pool.wf.most; omega
  have hsl : sl.n = (s.pagesOf n).length := by rw [hlen1, ← hpo, List.length_map, List.length_map]
  have hofl : (x.of n).length = (s.pagesOf n).length := by rw [← hpo, List.length_map]
  refine loop_upto (s.pagesOf n).length (fun k z A => z = (k : Int) ∧ ∃ y D' t, PoolD y D' A p dp t ∧ Step (fun b => D b ∨ x.all p b) (fun b => D' b ∨ y.all p b) H1 A ∧ kvF y.zs = kvF x.zs ∧ SlE EPtr ty_ptr_pool_frame A sl ((x.of n).map fun z => z.2.p) ∧ t.d.logs ≤ s.d.logs + k ∧ Pl.flushL n (s.pagesOf n) s = Pl.flushL n ((s.pagesOf n).drop k) t) ⟨rfl, x, D, s, hd1, .refl _ _, rfl, o1, Nat.le_refl _, rfl⟩ ?_
  rintro k _ A next hk ⟨rfl, y, D', t, hdA, SA, hkv, oA, hlg, heq⟩ hnext
  have hgA : Gl A := hd1.gl (hg.mod e1 id) SA.mod
  refine br_mk (fun hc => ?_) (fun hc => ?_)
  · have hlt : k < (s.pagesOf n).length := by rw [hsl] at hc; simpa using hc
    have hko : k < (x.of n).length := by omega
    have hzk : (x.of n)[k] ∈ x.of n := List.getElem_mem hko
    obtain ⟨hzx, hzn⟩ := PG.of_mem.1 hzk
    obtain ⟨i, f, hi, hfn, hfp⟩ := kvF_at hkv hzx hzn hdA.pool.frames
    obtain ⟨g, hgd⟩ : ∃ g : FrG, g = ⟨(x.of n)[k].2.p, (y.zs.getD i (x.of n)[k]).2.b⟩ := ⟨_, rfl⟩
    rw [← hgd] at hi
    have hgp : g.p = (x.of n)[k].2.p := by rw [hgd]
    have hfs : t.fs[i]? = some f := by rw [hdA.pool.fs]; simp [PG.fs, hi]
    have hpk : (s.pagesOf n)[k] = f.page := by
      have : ((x.of n).map fun z => z.1.page)[k]'(by simpa using hko) = (s.pagesOf n)[k] := by congr 1
      rw [← this, List.getElem_map, hfp]
    have hfind : t.find n ((s.pagesOf n)[k] : Int) = some i := by rw [hpk, ← hfn]; exact Pl.find_eq hdA.pool.wf hfs
    have hstep : Pl.flushL n ((s.pagesOf n).drop k) t = if f.dirty then (if (t.put i).2 = 0 then Pl.flushL n ((s.pagesOf n).drop (k + 1)) (t.put i).1 else t.put i) else Pl.flushL n ((s.pagesOf n).drop (k + 1)) t := by
      rw [List.drop_eq_getElem_cons hlt]
      conv => lhs; unfold Pl.flushL
      rw [hfind]
      simp only [Pl.frame_eq hfs]
    have hA := hdA.pool.frames.each _ (List.mem_of_getElem? hi)
    refine ptr_ld oA (i := k) (q := (x.of n)[k].2.p) (by simp [hko]) rfl fun ad ha => ?_
    rw [← hgp]
    simp only [optK_eq]
    refine hA.row.ld (c := cBool) (i := 4) (x := f.dirty) rfl ?_
    have hw1 : IntKind.i64.wrap ((k : Int) + 1) = ((k + 1 : Nat) : Int) := succ64 k (by omega)
    cases hdt : f.dirty with
    | false =>
      rw [hdt, if_neg (by simp)] at hstep
      exact br_t rfl (hnext hlt _ _ ⟨hw1, y, D', t, hdA, SA, hkv, oA, by omega, heq.trans hstep⟩)
    | true =>
      rw [hdt, if_pos rfl] at hstep
      refine br_f rfl ?_
      refine put_ok' hgA hdA hi (by omega) (fun hne D2 H2 h2 S2 => ?_) (fun he D2 H2 h2 S2 => ?_)
      · rw [if_neg hne] at hstep
        refine br_t (by simpa using hne) ?_
        have e0 := heq.trans hstep
        rw [e0, if_pos hne] at hK
        exact fin _ y D2 H2 _ h2 ((SA.trans S2).ahead e1) hK
      · rw [if_pos he] at hstep
        refine br_f rfl ?_
        refine hnext hlt _ _ ⟨hw1, _, D2, (t.put i).1, h2, SA.trans S2, ?_, ?_, ?_, heq.trans hstep⟩
        · show kvF (y.zs.set i (f.clean, g)) = _
          rw [kvF_set (f' := f.clean) hi rfl]; exact hkv
        · refine oA.keep fun b hb hl => S2.mod.same b hl ?_
          rintro q
          rcases SA.own b q with r | r
          · have := hd.lt b r
            have := f1 b hb; omega
          · have := o1.lt b hb; omega
        · have := t.put_logs i; omega
  · have hge : k = (s.pagesOf n).length := by rw [hsl] at hc; simp at hc; omega
    have e0 : Pl.flushL n (s.pagesOf n) s = (t, 0) := by rw [heq, hge, List.drop_of_length_le (Nat.le_refl _)]; rfl
    rw [e0, if_neg (by simp)] at hK
    simp only at hK
    refine hdA.pool.head.ld (c := cPtr) (i := 0) (x := at0 dp) rfl ?_
    refine Sync_ok hdA.disk fun D2 H2 a2 S2 => ?_
    obtain ⟨q1, q2⟩ := hdA.stepD hgA a2 S2
    exact fin _ y D2 H2 _ q1 ((SA.trans q2).ahead e1) hK

end Go.Proofs.YtbhddkmfhampbaaDoor
