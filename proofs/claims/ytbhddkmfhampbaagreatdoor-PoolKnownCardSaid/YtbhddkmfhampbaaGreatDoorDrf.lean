/-
  The document's disk: rank, Restart, Copy.
-/
import Derived.Test.YtbhddkmfhampbaaGreatDoorDre
namespace Go.Proofs.YtbhddkmfhampbaaGreatDoor
open Go.MapKept

theorem log_ld3 {H : Heap} {z : Sl} {ws : List Wr} (h : SlE EWr ty_fathomref01_Write H z ws) {i : Nat} {w : Wr} (hw : ws[i]? = some w) {K : (Int × Int × ByteArray) → Prop} (hK : K (w.no, (w.page : Int), strB w.b.1)) :
    optK z.a fun a => (0 ≤ (i : Int) ∧ (i : Int) < (z.n : Int)) ∧ ldA (cAgg [(cInt .i64), (cInt .i64), cStr]) 3 H (a.add ((i : Int).toNat * 3)) K := by
  have hn := h.n (by decide)
  have hi := (List.getElem?_eq_some_iff.1 hw).1
  obtain ⟨ad, ha⟩ := RdE.addr h.rd (by decide) (by omega)
  rw [ha]
  refine ⟨⟨by omega, by omega⟩, ?_⟩
  exact RdE.ldA (E := EWr) (c := cAgg [(cInt .i64), (cInt .i64), cStr]) (y := (w.no, (w.page : Int), strB w.b.1)) h.rd ha hw rfl (by simp [EWr]) rfl hK
theorem log_ld1 {H : Heap} {z : Sl} {ws : List Wr} (h : SlE EWr ty_fathomref01_Write H z ws) {i : Nat} {w : Wr} (hw : ws[i]? = some w) {K : Int → Prop} (hK : K w.no) :
    optK z.a fun a => (0 ≤ (i : Int) ∧ (i : Int) < (z.n : Int)) ∧ ld (cInt .i64) H ((a.add ((i : Int).toNat * 3)).add 0) K := by
  have hn := h.n (by decide)
  have hi := (List.getElem?_eq_some_iff.1 hw).1
  obtain ⟨ad, ha⟩ := RdE.addr h.rd (by decide) (by omega)
  rw [ha]
  refine ⟨⟨by omega, by omega⟩, ?_⟩
  exact RdE.ld (E := EWr) (c := cInt .i64) (y := w.no) h.rd ha (j := 0) hw rfl (by simp [EWr]) hK

theorem rank_ok {fl : Sl} {gs : List (Sl × Sl)} {d : Nat} {cs : Array Value} {s : Dk} {no : Int} {H : Heap} {K : Int → Heap → Prop} (hd : RowT H d ty_fathomref01_Disk cs) (hc0 : cs[0]? = some fl.v) (hf : RefFiles H fl gs s.files) (hfl : s.files.length ≤ 4096) (hlogs : s.logs < 68719476736)
    (hK : K (s.rank no : Nat) H) : fathomref01_Disk_rank.sp (at0 d) no H K := by
  refine fathomref01_Disk_rank.of ?_
  unfold fathomref01_Disk_rank.vc
  simp only [optK_eq]
  have hn := hf.n
  obtain ⟨cnt, hcnt⟩ : ∃ cnt : List Int → Nat, cnt = fun l => (l.filter fun x => decide (x < no)).length := ⟨_, rfl⟩
  obtain ⟨pre, hpre⟩ : ∃ pre : Nat → List Int, pre = fun k => (s.files.take k).flatMap fun f => f.log.map (·.no) := ⟨_, rfl⟩
  have cntle : ∀ l, cnt l ≤ l.length := fun l => by rw [hcnt]; exact List.length_filter_le _ _
  have prele : ∀ k, (pre k).length ≤ s.logs := fun k => by
    rw [← Dk.nos_length]
    unfold Dk.nos
    rw [hpre]
    simp only
    conv => rhs; rw [← List.take_append_drop k s.files, List.flatMap_append, List.length_append]
    omega
  refine loop_upto s.files.length (fun k x H1 => x = (((cnt (pre k) : Nat) : Int), (k : Int)) ∧ H1 = H) ⟨by rw [hcnt, hpre]; rfl, rfl⟩ ?_
  rintro k _ H1 next hk ⟨rfl, rfl⟩ hnext
  refine hd.ld (c := cSl) (i := 0) (x := fl) hc0 ?_
  refine br_mk (fun hc => ?_) (fun hc => ?_)
  · have hlt : k < s.files.length := by rw [hn] at hc; simpa using hc
    have hfk : s.files[k]? = some s.files[k] := List.getElem?_eq_getElem hlt
    obtain ⟨f, hfe⟩ : ∃ f, f = s.files[k] := ⟨_, rfl⟩
    rw [← hfe] at hfk
    obtain ⟨gg, hg, _, q2⟩ := hf.gAt hfk
    have hln := q2.n (by decide)
    have hll := Dk.log_le hfk
    have hpk : pre (k + 1) = pre k ++ f.log.map (·.no) := by
      rw [hpre]; simp only
      rw [List.take_succ_eq_append_getElem hlt, ← hfe, List.flatMap_append]; simp
    have cntapp : ∀ a b, cnt (a ++ b) = cnt a + cnt b := fun a b => by rw [hcnt]; simp
    have hp1 := prele (k + 1)
    have hc1 := cntle (pre k)
    refine loop_upto f.log.length (fun j x H2 => x = (((cnt (pre k) + cnt ((f.log.take j).map (·.no)) : Nat) : Int), (j : Int)) ∧ H2 = H1) ⟨by rw [hcnt]; simp, rfl⟩ ?_
    rintro j _ H2 next1 hj ⟨rfl, rfl⟩ hnext1
    refine hd.ld (c := cSl) (i := 0) (x := fl) hc0 ?_
    refine hf.ld1 hfk hg (j := 2) (c := cSl) (y := gg.2) rfl ?_
    refine br_mk (fun hc2 => ?_) (fun hc2 => ?_)
    · have hjl : j < f.log.length := by rw [hln] at hc2; simpa using hc2
      refine hd.ld (c := cSl) (i := 0) (x := fl) hc0 ?_
      refine hf.ld1 hfk hg (j := 2) (c := cSl) (y := gg.2) rfl ?_
      refine log_ld1 q2 (List.getElem?_eq_getElem hjl) ?_
      have htk : cnt ((f.log.take (j + 1)).map (·.no)) = cnt ((f.log.take j).map (·.no)) + (if f.log[j].no < no then 1 else 0) := by
        rw [List.take_succ_eq_append_getElem hjl, List.map_append, cntapp]
        congr 1
        rw [hcnt]
        simp only [List.map_cons, List.map_nil, List.filter_cons, List.filter_nil]
        split <;> rename_i h <;> simp at h <;> simp [h]
      have hc3 := cntle ((f.log.take j).map (·.no))
      simp only [List.length_map, List.length_take] at hc3
      rw [hpk, List.length_append, List.length_map] at hp1
      refine br_mk (fun hb => ?_) (fun hb => ?_)
      · have hb' : f.log[j].no < no := by simpa using hb
        refine hnext1 hjl _ _ ⟨?_, rfl⟩
        rw [htk, if_pos hb', succ64 j (by omega), wrap64 (by omega) (by omega)]
        simp only [Prod.mk.injEq, and_true]; omega
      · have hb' : ¬ f.log[j].no < no := by simpa using hb
        refine hnext1 hjl _ _ ⟨?_, rfl⟩
        rw [htk, if_neg hb', succ64 j (by omega)]
        simp
    · have hge : j = f.log.length := by rw [hln] at hc2; simp at hc2; omega
      rw [hge, List.take_of_length_le (Nat.le_refl _)]
      refine hnext hlt _ _ ⟨?_, rfl⟩
      rw [hpk, cntapp, succ64 k (by omega)]
  · have hge : k = s.files.length := by rw [hn] at hc; simp at hc; omega
    have e : s.rank no = cnt (pre k) := by
      unfold Dk.rank Dk.nos
      rw [hcnt, hpre, hge]
      simp
    rw [e] at hK
    exact hK

set_option maxHeartbeats 1000000 in
theorem RRestart_ok {F : Nat → Prop} {d : Nat} {s : Dk} {H : Heap} {K : Unit → Heap → Prop} (h : RefAt F H d s) (hlogs : s.logs < 68719476736)
    (hK : ∀ F' H', RefAt F' H' d s.restart → Step F F' H H' → K () H') : fathomref01_Disk_Restart.sp (at0 d) H K := by
  have h0 := h
  obtain ⟨fl, gs, cin, kp, g, hF⟩ := h
  refine fathomref01_Disk_Restart.of ?_
  unfold fathomref01_Disk_Restart.vc
  simp only [optK_eq]
  refine g.head.ld (c := cBool) (i := 8) (x := s.down) rfl ?_
  refine br_mk (fun hd => ?_) (fun hd => ?_)
  · have hd' : s.down = false := by simpa using hd
    have e : s.restart = s := by unfold Dk.restart; rw [hd']; rfl
    rw [e] at hK
    exact hK F H h0 (.refl _ _)
  have hd' : s.down = true := by simpa using hd
  obtain ⟨ci, kk, hcr⟩ : ∃ ci kk, s.crash = some (ci, kk) := by
    have := g.wf.down hd'
    cases hc : s.crash with
    | none => rw [hc] at this; cases this
    | some p => exact ⟨p.1, p.2, rfl⟩
  obtain ⟨rfl, rfl⟩ := g.crash ci kk hcr
  have hkeep : s.keep = kp := by unfold Dk.keep; rw [hcr]
  have hn := g.files.n
  have hfl := g.wf.files
  have w1 := g.wf.used; have w2 := g.wf.most; have w3 := g.wf.quota
  refine loop_upto s.files.length (fun k x H1 => x.2 = (k : Int) ∧ Mod (fun _ => False) H H1 ∧ (∀ b, ownB x.1 b → H.size ≤ b) ∧ ∃ gs2, RefFiles H1 x.1 gs2 ((s.files.take k).map s.after) ∧ (∀ gg ∈ gs2, (∀ b, ownB gg.1 b → rfp fl gs b ∨ H.size ≤ b) ∧ gg.2 = Sl.mk none 0 0))
    ⟨rfl, .refl _ _, (by rintro b ⟨ad, q, _⟩; cases q), [], ⟨SlE.nil _ _ _, rfl, by intro i f g h; simp at h, by intro i j g g' h; simp at h⟩, by simp⟩ ?_
  rintro k ⟨z, i⟩ H1 next hk ⟨hi, m1, f1, gs2, R1, fp1⟩ hnext
  simp only at hi
  subst hi
  simp only at f1 R1 hnext ⊢
  have d1 := g.head.ext m1
  have F1 : RefFiles H1 fl gs s.files := g.files.keep fun b hb hl => m1.same b hl id
  refine d1.ld (c := cSl) (i := 0) (x := fl) rfl ?_
  refine br_mk (fun hc => ?_) (fun hc => ?_)
  · have hlt : k < s.files.length := by rw [hn] at hc; simpa using hc
    have hfk : s.files[k]? = some s.files[k] := List.getElem?_eq_getElem hlt
    obtain ⟨f, hfe⟩ : ∃ f, f = s.files[k] := ⟨_, rfl⟩
    rw [← hfe] at hfk
    obtain ⟨gg, hg, q1, q2⟩ := F1.gAt hfk
    have hrow := rfs_get _ _ k f gg hfk hg
    have hln := q2.n (by decide)
    have hpl := Dk.pages_le hfk; have hll := Dk.log_le hfk
    have hgm := List.mem_of_getElem? hg
    obtain ⟨ad, ha⟩ := RdE.addr F1.arr.rd (by decide) (by have := (List.getElem?_eq_some_iff.1 hrow).1; omega)
    refine ⟨fun A => RowT A d ty_fathomref01_Disk (headR fl s.most s.quota s.ops s.next s.crash.isSome cin kp s.down) ∧ SlE ERf ty_fathomref01_File A fl (rfs s.files gs), ⟨d1, F1.arr⟩, ?_⟩
    refine ⟨fl, fun A hA => by rw [add_lit0]; exact hA.1.cell rfl, ?_⟩
    refine optK_mk ad ha ⟨⟨by omega, by omega⟩, ?_⟩
    refine ⟨f.name, fun A hA => ?_, ?_⟩
    · obtain ⟨ad', e1, hc⟩ := RdE.cell hA.2.rd hrow (j := 0) (v := .string f.name) rfl
      rw [ha] at e1; cases e1
      rw [add_add]; exact hc
    refine ⟨fl, fun A hA => by rw [add_lit0]; exact hA.1.cell rfl, ?_⟩
    refine optK_mk ad ha ⟨⟨by omega, by omega⟩, ?_⟩
    refine ⟨gg.1, fun A hA => ?_, ?_⟩
    · obtain ⟨ad', e1, hc⟩ := RdE.cell hA.2.rd hrow (j := 1) (v := gg.1.v) rfl
      rw [ha] at e1; cases e1
      rw [add_add]; exact hc
    refine newC_rowT fun H2 s2 r2 m2 => ⟨⟨d1.ext m2, F1.arr.ext m2⟩, ?_⟩
    refine r2.stAll (cs := #[.string f.name, gg.1.v, .slice none 0 0]) (by kernel_rfl) (by kernel_rfl) (by intro v hv; simp at hv; rcases hv with rfl | rfl | rfl <;> rfl) fun H3 r3 m3 s3 => ?_
    obtain ⟨p, hp⟩ : ∃ p, p = H1.size := ⟨_, rfl⟩
    rw [← hp] at r3 m3
    rw [← hp]
    have z1 := m1.size; have z2 := m2.size
    have m13 : Mod (fun _ => False) H1 H3 := ⟨by omega, fun b hb _ => (m3.same b (by omega) (by omega)).trans (m2.same b hb id)⟩
    obtain ⟨q, hq⟩ : ∃ q : Wr → Bool, q = fun w => keepBit s.keep (s.rank w.no) := ⟨_, rfl⟩
    have haft : s.after f = ⟨f.name, (f.log.filter q).foldl putP f.synced, []⟩ := by rw [hq]; rfl
    have q13 : SlE EStr ty_string H3 gg.1 f.synced := q1.ext m13
    -- the writes, one by one
    refine loop_upto f.log.length (fun j x H4 => x = (j : Int) ∧ Mod (fun b => b = p) H3 H4 ∧ ∃ sy, RowT H4 p ty_fathomref01_File #[.string f.name, sy.v, .slice none 0 0] ∧ SlE EStr ty_string H4 sy (((f.log.take j).filter q).foldl putP f.synced) ∧ (∀ b, ownB sy b → rfp fl gs b ∨ H.size ≤ b) ∧ (∀ b, ownB sy b → b ≠ p))
      ⟨rfl, .refl _ _, gg.1, r3, by simpa using q13, fun b hb => .inl (.inr ⟨gg, hgm, .inl hb⟩), fun b hb => by have := q1.lt b hb; omega⟩ ?_
    rintro j _ H4 next1 hj ⟨rfl, m4, sy, r4, o4, fy, ny⟩ hnext1
    have m14 : Mod (fun _ => False) H1 H4 := ⟨by have := m4.size; omega, fun b hb _ => (m4.same b (by omega) (by omega)).trans (m13.same b hb id)⟩
    have d4 := d1.ext m14
    have F4 : RefFiles H4 fl gs s.files := F1.keep fun b hb hl => m14.same b hl id
    obtain ⟨_, q24⟩ := F4.ent k f gg hfk hg
    have z4 := m14.size
    refine d4.ld (c := cSl) (i := 0) (x := fl) rfl ?_
    refine F4.ld1 hfk hg (j := 2) (c := cSl) (y := gg.2) rfl ?_
    refine br_mk (fun hc1 => ?_) (fun hc1 => ?_)
    · have hjl : j < f.log.length := by rw [hln] at hc1; simpa using hc1
      obtain ⟨w, hwe⟩ : ∃ w, w = f.log[j] := ⟨_, rfl⟩
      have hw : f.log[j]? = some w := by rw [hwe]; exact List.getElem?_eq_getElem hjl
      refine d4.ld (c := cSl) (i := 0) (x := fl) rfl ?_
      refine F4.ld1 hfk hg (j := 2) (c := cSl) (y := gg.2) rfl ?_
      refine log_ld3 q24 hw ?_
      refine newC_rowT fun H5 s5 r5 m5 => ?_
      refine r5.stAll (cs := #[.int .i64 w.no, .int .i64 w.page, .string (strB w.b.1)]) (by kernel_rfl) (by kernel_rfl) (by intro v hv; simp at hv; rcases hv with rfl | rfl | rfl <;> rfl) fun H6 r6 m6 s6 => ?_
      have m46 : Mod (fun _ => False) H4 H6 := ⟨by omega, fun b hb _ => (m6.same b (by omega) (by omega)).trans (m5.same b hb id)⟩
      have d6 := d4.ext m46
      have F6 : RefFiles H6 fl gs s.files := F4.keep fun b hb hl => m46.same b hl id
      refine ⟨fun A => RowT A d ty_fathomref01_Disk (headR fl s.most s.quota s.ops s.next s.crash.isSome cin kp s.down), d6, ?_⟩
      refine ⟨kp, fun A hA => by rw [add_lit0]; exact hA.cell rfl, ?_⟩
      refine r6.ld (c := cInt .i64) (i := 0) (x := w.no) rfl ?_
      refine rank_ok d6 rfl F6 hfl hlogs ⟨d6, ?_⟩
      refine ⟨Int.tmod_nonneg _ (by omega), ?_⟩
      have hqw : q w = ((iand .u64 (ishr .u64 kp (Int.tmod ((s.rank w.no : Nat) : Int) 64)) 1) == 1) := by rw [hq, hkeep]; rfl
      have htk : (f.log.take (j + 1)).filter q = (f.log.take j).filter q ++ (if q w then [w] else []) := by
        rw [List.take_succ_eq_append_getElem hjl, List.filter_append, ← hwe]
        cases hqb : q w <;> simp [hqb]
      have r46 := r4.ext m46
      have o46 : SlE EStr ty_string H6 sy (((f.log.take j).filter q).foldl putP f.synced) := o4.ext m46
      refine br_mk (fun hb => ?_) (fun hb => ?_)
      · have hqt : q w = true := by rw [hqw]; exact hb
        refine r46.ld (c := cSl) (i := 1) (x := sy) rfl ?_
        refine r6.ldA (c := cAgg [(cInt .i64), (cInt .i64), cStr]) (x := (w.no, (w.page : Int), strB w.b.1)) rfl rfl ?_
        have hpg := puts_page f.log f.synced w (List.mem_of_getElem? hw)
        have hle := puts_take f.log q j f.synced
        have hpe : (f.log.foldl putP f.synced).length = f.pages.length := rfl
        refine putR_ok (w := w) o46 (by omega) (by omega) fun s7 H7 o7 m7 f7 => ?_
        have r47 := r46.ext m7
        refine r47.st (i := 1) (by simp) (by rfl) fun H8 r8 m8 s8 => ?_
        have z7 := m7.size
        have hpl4 := obj_lt r4
        refine hnext1 hjl _ _ ⟨succ64 j (by omega), ((m4.trans (Ext.mod m46)).trans (Ext.mod m7)).trans m8, s7, (show RowT H8 p ty_fathomref01_File #[.string f.name, s7.v, .slice none 0 0] from r8), ?_, fun b hb => by have := f7 b hb; right; omega, fun b hb => by have := f7 b hb; omega⟩
        rw [htk, if_pos hqt, List.foldl_append]
        exact o7.keep fun b hb hl => m8.same b hl (by have := f7 b hb; omega)
      · have hqt : q w = false := by rw [hqw]; exact hb
        refine hnext1 hjl _ _ ⟨succ64 j (by omega), m4.trans (Ext.mod m46), sy, r46, ?_, fy, ny⟩
        rw [htk, hqt]
        simpa using o46
    · have hge : j = f.log.length := by rw [hln] at hc1; simp at hc1; omega
      rw [hge, List.take_of_length_le (Nat.le_refl _)] at o4
      refine r4.ldA (c := cAgg [cStr, cSl, cSl]) (x := (f.name, sy, Sl.mk none 0 0)) rfl rfl ?_
      have R4 : RefFiles H4 z gs2 ((s.files.take k).map s.after) := R1.keep fun b hb hl => m14.same b hl id
      have hzl : (rfs ((s.files.take k).map s.after) gs2).length = k := by
        rw [rfs_length _ _ R4.len]; simp; omega
      refine SlE.push (E := ERf) elRf (x := (f.name, sy, Sl.mk none 0 0)) R4.arr rfl (by omega) (by omega) fun z5 H5 o5 g5 _ => ?_
      have z5s := g5.1.size
      have zty : ∀ b, ownB sy b → ¬ ownB z b := o4.apart R4.arr (by decide)
      have m15 : Mod (fun _ => False) H H5 := ⟨by omega, fun b hb _ => (g5.1.same b (by omega) fun hh => by have := f1 b hh; omega).trans ((m14.same b (by omega) id).trans (m1.same b hb id))⟩
      have R5 := R4.push (H' := H5) (fl' := z5) (f := s.after f) (g := (sy, Sl.mk none 0 0)) (by rw [haft]; exact o5) (by rw [haft]; exact o4.keep fun b hb hl => g5.1.same b hl (zty b hb)) (by rw [haft]; exact SlE.nil _ _ _)
        (fun b hb hl => g5.1.same b hl fun hh => by
          obtain ⟨gj, hgj, hb⟩ := hb
          obtain ⟨i2, hi2⟩ := List.mem_iff_getElem?.1 hgj
          exact R4.arrOff hi2 b hb hh) (by rintro b ⟨ad, q, _⟩; cases q)
      refine hnext hlt _ _ ⟨succ64 k (by omega), m15, fun b hb => ?_, gs2 ++ [(sy, Sl.mk none 0 0)], ?_, ?_⟩
      · rcases g5.2 b hb with h | h
        · exact f1 b h
        · omega
      · rw [List.take_succ_eq_append_getElem hlt, ← hfe, List.map_append]
        exact R5
      · intro g' hg'
        rcases List.mem_append.1 hg' with h | h
        · exact fp1 g' h
        · simp at h; subst h; exact ⟨fy, rfl⟩
  · have hge : k = s.files.length := by rw [hn] at hc; simp at hc; omega
    rw [hge, List.take_of_length_le (Nat.le_refl _)] at R1
    have hdl := obj_lt g.head
    refine d1.st (i := 0) (by simp [headR]) (by rfl) fun H2 r2 m2 s2 => ?_
    refine r2.st (i := 8) (by simp [headR]) (by rfl) fun H3 r3 m3 s3 => ?_
    refine r3.st (i := 5) (by simp [headR]) (by rfl) fun H4 r4 m4 s4 => ?_
    have m14 : Mod (fun b => b = d) H1 H4 := (m2.trans m3).trans m4
    have off : ¬ rfp z gs2 d := by
      rintro (q | ⟨gj, hgj, q | q⟩)
      · have := f1 d q; omega
      · rcases (fp1 gj hgj).1 d q with h | h
        · exact RefG.off g.head g.files h
        · omega
      · rw [(fp1 gj hgj).2] at q
        obtain ⟨ad, q, _⟩ := q; cases q
    have hr : s.restart = { s with files := s.files.map s.after, down := false, crash := none } := by unfold Dk.restart; rw [hd']; rfl
    have hule : s.restart.used ≤ s.used := by
      rw [hr]
      show ((s.files.map s.after).map fun f => f.pages.length).sum ≤ s.used
      rw [List.map_map]
      exact sum_map_le _ _ _ fun f _ => s.after_le f
    have gG : RefG z gs2 cin kp H4 d s.restart := by
      refine ⟨?_, ?_, ?_, ?_⟩
      · rw [hr]; exact r4
      · rw [hr]; intro i k q; cases q
      · rw [hr]; exact R1.keep fun b hb hl => m14.same b hl fun e => off (e ▸ hb)
      · refine ⟨?_, Nat.le_trans hule (by rw [hr]; exact w1), by rw [hr]; exact w2, by rw [hr]; exact w3, by rw [hr]; simp; exact hfl, (by rw [hr]; intro h; cases h), (by rw [hr]; intro i k q; cases q)⟩
        rw [hr]
        simp only [List.map_map]
        exact g.wf.nodup
    have hmm : Mod F H H4 := (Ext.mod m1).trans (m14.mono fun b _ e => (hF b).2 (.inl e))
    obtain ⟨F', t1, t2⟩ := gG.out (fl := fl) (gs := gs) (F := F) (H := H) hF hmm (by
      rintro b (q | ⟨gj, hgj, q | q⟩)
      · exact .inr (f1 b q)
      · exact (fp1 gj hgj).1 b q
      · rw [(fp1 gj hgj).2] at q
        obtain ⟨ad, q, _⟩ := q; cases q)
    exact hK F' H4 t1 t2

end Go.Proofs.YtbhddkmfhampbaaGreatDoor
