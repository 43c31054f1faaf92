/-
  The document's disk: Remove, Rename, Len, Read, Sync, Write.
-/
import Derived.Test.YtjjfngnokbboeaaGreatDoorDrc
namespace Go.Proofs.YtjjfngnokbboeaaGreatDoor
open Go.MapKept

theorem arr_st {H : Heap} {fl : Sl} {l : List (ByteArray × Sl × Sl)} (h : SlE ERf ty_fathomref01_File H fl l) {i j : Nat} {x y : ByteArray × Sl × Sl} {v : Value} (hi : l[i]? = some x) (hj : j < 3) (hp : plainV v = true) (hy : ERf.enc y = (ERf.enc x).set j v) {K : Heap → Prop}
    (hK : ∀ H', SlE ERf ty_fathomref01_File H' fl (l.set i y) → Mod (ownB fl) H H' → H'.size = H.size → K H') : optK fl.a fun a => (0 ≤ (i : Int) ∧ (i : Int) < (fl.n : Int)) ∧ st H ((a.add ((i : Int).toNat * 3)).add j) v K := by
  have hil := (List.getElem?_eq_some_iff.1 hi).1
  have hn := h.n (by decide)
  obtain ⟨ad, ha⟩ := RdE.addr h.rd (by decide) (by omega)
  rw [ha]
  refine ⟨⟨by omega, by omega⟩, ?_⟩
  exact SlE.st (E := ERf) h ha hi hj hp hy (by simp [ERf]) hK

theorem RefFiles.arrOff {H : Heap} {fl : Sl} {gs : List (Sl × Sl)} {fs : List Fl} (h : RefFiles H fl gs fs) {i : Nat} {g : Sl × Sl} (hg : gs[i]? = some g) : ∀ b, (ownB g.1 b ∨ ownB g.2 b) → ¬ ownB fl b := by
  intro b hb hfb
  obtain ⟨_, _, q1, q2⟩ := h.fAt hg
  rcases hb with hb | hb
  · exact (q1.apart h.arr (by decide)) b hb hfb
  · exact (q2.apart h.arr (by decide)) b hb hfb

theorem RRemove_ok {F : Nat → Prop} {d : Nat} {s : Dk} {H : Heap} {n : ByteArray} {K : Int → Heap → Prop} (h : RefAt F H d s)
    (hK : ∀ F' H', RefAt F' H' d (s.remove n).1 → Step F F' H H' → K (s.remove n).2 H') : fathomref01_Disk_Remove.sp (at0 d) n H K := by
  have h0 := h
  obtain ⟨fl, gs, cin, kp, g, hF⟩ := h
  refine fathomref01_Disk_Remove.of ?_
  unfold fathomref01_Disk_Remove.vc
  simp only [optK_eq]
  have stay : ∀ e : Int, s.remove n = (s, e) → K e H := by
    intro e he
    have := hK F H (by rw [he]; exact h0) (.refl _ _)
    rw [he] at this; exact this
  have hfl := g.wf.files
  refine g.head.ld (c := cBool) (i := 8) (x := s.down) rfl ?_
  refine br_mk (fun hd => stay 4 (by unfold Dk.remove; rw [hd]; rfl)) (fun hd => ?_)
  refine find_ok g.head rfl g.files hfl ?_
  rw [idxI_neg]
  cases hi : s.idx n with
  | none => exact stay 11 (by unfold Dk.remove; rw [hd, hi]; rfl)
  | some i =>
    refine br_f rfl ?_
    have hr : s.remove n = s.step fun t => t.drop n := by unfold Dk.remove; rw [hd, hi]; rfl
    rw [hr] at hK
    unfold Dk.step at hK
    refine Rchange_ok g fun cin' H3 g3 m3 s3 => ?_
    have hfs := s.change_files
    refine br_mk (fun hz => ?_) (fun hz => ?_)
    · have hz' : s.change.2 = 0 := by simpa using hz
      rw [if_pos hz'] at hK
      rw [hz']
      have hi3 : s.change.1.idx n = some i := by unfold Dk.idx; rw [hfs]; exact hi
      refine find_ok g3.head rfl g3.files (by rw [hfs]; exact hfl) ?_
      have hx : idxI s.change.1 n = (i : Int) := by unfold idxI; rw [hi3]
      rw [hx]
      obtain ⟨f, hf, _⟩ := Dk.idx_some hi3
      refine Rdrop_ok g3 (List.getElem?_eq_some_iff.1 hf).1 fun fl' H4 g4 m4 f4 => ?_
      have hdr : s.change.1.drop n = { s.change.1 with files := s.change.1.files.eraseIdx i } := by unfold Dk.drop; rw [hi3]
      dsimp only at hK
      rw [hdr] at hK
      obtain ⟨F', q1, q2⟩ := g4.out (fl := fl) (gs := gs) (F := F) (H := H) hF ((m3.mono fun b _ e => (hF b).2 (.inl e)).trans (m4.mono fun b _ e => (hF b).2 (.inl e))) (by
        rintro b (q | ⟨gj, hgj, q⟩)
        · have := f4 b q; right; omega
        · exact .inl (.inr ⟨gj, List.mem_of_mem_eraseIdx hgj, q⟩))
      exact hK F' H4 q1 q2
    · have hz' : s.change.2 ≠ 0 := by simpa using hz
      rw [if_neg hz'] at hK
      obtain ⟨F', q1, q2⟩ := g3.out (fl := fl) (gs := gs) (F := F) (H := H) hF (m3.mono fun b _ e => (hF b).2 (.inl e)) (fun b q => .inl q)
      exact hK F' H3 q1 q2

theorem Rname_tail {fl : Sl} {gs : List (Sl × Sl)} {cin kp : Int} {d : Nat} {t : Dk} {H : Heap} {n to : ByteArray} {K : Int → Heap → Prop} {i : Nat} {f : Fl} (g : RefG fl gs cin kp H d t) (hi : t.idx n = some i) (hf : t.files[i]? = some f) (hto : t.idx to = none)
    (hK : ∀ H', RefG fl gs cin kp H' d (t.setName n to) → Mod (ownB fl) H H' → H'.size = H.size → K 0 H') :
    ∃ G : Heap → Prop, G H ∧ ldC cSl G (Addr.add ⟨d, 0, none⟩ 0) fun (x_1 : Sl) => fathomref01_Disk_find.sp (at0 d) n H fun (r_3 : Int) H6 => G H6 ∧ optK x_1.a fun a_2 => (0 ≤ r_3 ∧ r_3 < (x_1.n : Int)) ∧ st H6 ((a_2.add (r_3.toNat * 3)).add 0) (.string to) fun H7 => K 0 H7 := by
  refine ⟨fun A => RowT A d ty_fathomref01_Disk (headR fl t.most t.quota t.ops t.next t.crash.isSome cin kp t.down), g.head, ?_⟩
  refine ⟨fl, fun A hA => by rw [add_lit0]; exact hA.cell rfl, ?_⟩
  refine find_ok g.head rfl g.files g.wf.files ⟨g.head, ?_⟩
  have hx : idxI t n = (i : Int) := by unfold idxI; rw [hi]
  rw [hx]
  obtain ⟨gg, hg, q1, q2⟩ := g.files.gAt hf
  refine arr_st g.files.arr (rfs_get _ _ i f gg hf hg) (by omega) (v := .string to) rfl (y := (to, gg.1, gg.2)) rfl fun H' a' m' s' => ?_
  have e : t.setName n to = { t with files := t.files.modify i fun f => { f with name := to } } := by unfold Dk.setName; rw [hi]
  have off := RefG.off g.head g.files
  refine hK H' ⟨?_, by rw [e]; exact g.crash, ?_, g.wf.setName hi hto⟩ m' s'
  · have := g.head.mod m' (fun hb => off (.inl hb))
    rw [e]; exact this
  · rw [e]
    show RefFiles H' fl gs (t.files.modify i fun f => { f with name := to })
    rw [modify_set hf]
    have hset : gs.set i gg = gs := by
      have hgi := (List.getElem?_eq_some_iff.1 hg)
      obtain ⟨h1, h2⟩ := hgi
      rw [← h2, List.set_getElem_self]
    have := g.files.set (H' := H') hf hg (f' := { f with name := to }) (g' := gg) a' (q1.keep fun b hb hl => m'.same b hl (g.files.arrOff hg b (.inl hb))) (q2.keep fun b hb hl => m'.same b hl (g.files.arrOff hg b (.inr hb))) (fun j gj _ hgj b hb hl => m'.same b hl (g.files.arrOff hgj b hb)) (fun b hb => .inl hb)
    rw [hset] at this
    exact this

theorem RRename_ok {F : Nat → Prop} {d : Nat} {s : Dk} {H : Heap} {n to : ByteArray} {K : Int → Heap → Prop} (h : RefAt F H d s)
    (hK : ∀ F' H', RefAt F' H' d (s.rename n to).1 → Step F F' H H' → K (s.rename n to).2 H') : fathomref01_Disk_Rename.sp (at0 d) n to H K := by
  have h0 := h
  obtain ⟨fl, gs, cin, kp, g, hF⟩ := h
  refine fathomref01_Disk_Rename.of ?_
  unfold fathomref01_Disk_Rename.vc
  simp only [optK_eq]
  have stay : ∀ e : Int, s.rename n to = (s, e) → K e H := by
    intro e he
    have := hK F H (by rw [he]; exact h0) (.refl _ _)
    rw [he] at this; exact this
  have hfl := g.wf.files
  refine g.head.ld (c := cBool) (i := 8) (x := s.down) rfl ?_
  refine br_mk (fun hd => stay 4 (by unfold Dk.rename; rw [hd]; rfl)) (fun hd => ?_)
  refine Rnamed_ok ?_
  refine br_mk (fun hn => stay 2 ?_) (fun hn => ?_)
  · unfold Dk.rename; rw [hd]; simp at hn; simp [hn]
  simp at hn
  refine find_ok g.head rfl g.files hfl ?_
  rw [idxI_neg]
  cases hi : s.idx n with
  | none => exact stay 11 (by unfold Dk.rename; rw [hd, hi]; simp [hn])
  | some i =>
    refine br_f rfl ?_
    have hr : s.rename n to = s.step fun t => if n.toList = to.toList then t else (t.drop to).setName n to := by unfold Dk.rename; rw [hd, hi]; simp [hn]
    rw [hr] at hK
    unfold Dk.step at hK
    refine Rchange_ok g fun cin' H3 g3 m3 s3 => ?_
    have hfs := s.change_files
    obtain ⟨f, hf, hfn⟩ := Dk.idx_some hi
    refine br_mk (fun hz => ?_) (fun hz => ?_)
    · simp only [Bool.or_eq_true, bne_iff_ne, ne_eq, beq_iff_eq] at hz
      obtain ⟨F', q1, q2⟩ := g3.out (fl := fl) (gs := gs) (F := F) (H := H) hF (m3.mono fun b _ e => (hF b).2 (.inl e)) (fun b q => .inl q)
      by_cases hz' : s.change.2 = 0
      · have he : n.toList = to.toList := by
          rcases hz with hz | hz
          · exact absurd hz' hz
          · exact hz
        rw [if_pos hz'] at hK
        simp only [he, if_true] at hK
        rw [hz']
        exact hK F' H3 q1 q2
      · rw [if_neg hz'] at hK
        exact hK F' H3 q1 q2
    · simp only [Bool.or_eq_false_iff, bne_eq_false_iff_eq, beq_eq_false_iff_ne, ne_eq] at hz
      obtain ⟨hz', hne⟩ := hz
      rw [if_pos hz'] at hK
      simp only [hne, if_false] at hK
      have hf3 : s.change.1.files[i]? = some f := by rw [hfs]; exact hf
      refine find_ok g3.head rfl g3.files (by rw [hfs]; exact hfl) ?_
      cases hj : s.change.1.idx to with
      | none =>
        have hx : idxI s.change.1 to = -1 := by unfold idxI; rw [hj]
        rw [hx]
        refine br_f rfl ?_
        have hdr : s.change.1.drop to = s.change.1 := by unfold Dk.drop; rw [hj]
        rw [hdr] at hK
        have hi3 : s.change.1.idx n = some i := by rw [← hfn]; exact Dk.idx_eq g3.wf hf3
        refine Rname_tail g3 hi3 hf3 hj fun H' g5 m5 s5 => ?_
        obtain ⟨F', q1, q2⟩ := g5.out (fl := fl) (gs := gs) (F := F) (H := H) hF ((m3.mono fun b _ e => (hF b).2 (.inl e)).trans (m5.mono fun b _ e => (hF b).2 (.inr (.inl e)))) (fun b q => .inl q)
        exact hK F' H' q1 q2
      | some j =>
        have hx : idxI s.change.1 to = (j : Int) := by unfold idxI; rw [hj]
        rw [hx]
        refine br_t (by simp) ?_
        obtain ⟨fj, hfj, hnj⟩ := Dk.idx_some hj
        have hdr : s.change.1.drop to = { s.change.1 with files := s.change.1.files.eraseIdx j } := by unfold Dk.drop; rw [hj]
        refine Rdrop_ok g3 (List.getElem?_eq_some_iff.1 hfj).1 fun fl' H4 g4 m4 f4 => ?_
        have hij : i ≠ j := by
          intro e; subst e
          rw [hf3] at hfj; cases hfj
          exact hne (by rw [← hfn, hnj])
        have move : (s.change.1.files.eraseIdx j)[if i < j then i else i - 1]? = some f := by
          by_cases q : i < j
          · rw [if_pos q, List.getElem?_eraseIdx, if_pos q]; exact hf3
          · rw [if_neg q, List.getElem?_eraseIdx, if_neg (by omega), show i - 1 + 1 = i by omega]; exact hf3
        rw [← hdr] at g4
        have hf4 : (s.change.1.drop to).files[if i < j then i else i - 1]? = some f := by rw [hdr]; exact move
        have hi4 : (s.change.1.drop to).idx n = some (if i < j then i else i - 1) := by
          have := Dk.idx_eq g4.wf hf4
          rw [hfn] at this; exact this
        refine Rname_tail g4 hi4 hf4 (Dk.drop_idx g3.wf to) fun H' g5 m5 s5 => ?_
        have z3 := m3.size; have z4 := m4.size
        have t1 : Mod F H H4 := (m3.mono fun b _ e => (hF b).2 (.inl e)).trans (m4.mono fun b _ e => (hF b).2 (.inl e))
        obtain ⟨F', q1, q2⟩ := g5.out (fl := fl) (gs := gs) (F := F) (H := H) hF (t1.trans' m5 fun b hb hg => by have := f4 b hg; omega) (by
          rintro b (q | ⟨gj, hgj, q⟩)
          · have := f4 b q; right; omega
          · exact .inl (.inr ⟨gj, List.mem_of_mem_eraseIdx hgj, q⟩))
        exact hK F' H' q1 q2

theorem RLen_ok {F : Nat → Prop} {d : Nat} {s : Dk} {H : Heap} {n : ByteArray} {K : (Int × Int) → Heap → Prop} (h : RefAt F H d s) (hlogs : s.logs < 68719476736) (hK : ∀ H', Mod (fun _ => False) H H' → K ((s.len n).1, (s.len n).2) H') : fathomref01_Disk_Len.sp (at0 d) n H K := by
  obtain ⟨fl, gs, cin, kp, g, _⟩ := h
  refine fathomref01_Disk_Len.of ?_
  unfold fathomref01_Disk_Len.vc
  simp only [optK_eq]
  refine find_ok g.head rfl g.files g.wf.files ?_
  refine g.head.ld (c := cBool) (i := 8) (x := s.down) rfl ?_
  refine br_mk (fun hd => ?_) (fun hd => ?_)
  · have e : s.len n = (0, 4) := by unfold Dk.len Dk.open; rw [hd]; rfl
    rw [e] at hK; exact hK H (.refl _ _)
  · rw [idxI_neg]
    cases hi : s.idx n with
    | none =>
      have e : s.len n = (0, 11) := by unfold Dk.len Dk.open; rw [hd, hi]; rfl
      rw [e] at hK; exact hK H (.refl _ _)
    | some i =>
      refine br_f rfl ?_
      obtain ⟨f, hf, _⟩ := Dk.idx_some hi
      obtain ⟨gg, hg, q1, q2⟩ := g.files.gAt hf
      have hx : idxI s n = (i : Int) := by unfold idxI; rw [hi]
      rw [hx]
      refine g.head.ld (c := cSl) (i := 0) (x := fl) rfl ?_
      refine g.files.ld3 hf hg ?_
      have hpl := Dk.pages_le hf; have hll := Dk.log_le hf
      have w1 := g.wf.used; have w2 := g.wf.most; have w3 := g.wf.quota
      refine Pages_ok q1 q2 (by omega) (by omega) fun l H2 o2 m2 _ => ?_
      have e : s.len n = (f.pages.length, 0) := by unfold Dk.len Dk.open; rw [hd, hi]; simp [Dk.file_eq hf]
      rw [e] at hK
      rw [o2.n (by decide)]
      exact hK H2 m2

theorem toBytesC_ok {b : List UInt8} {H : Heap} {K : Sl → Heap → Prop} (hK : ∀ s' H', Byts H' s' b → Mod (fun _ => False) H H' → (∀ q, ownB s' q → H.size ≤ q) → s'.n ≤ s'.c → K s' H') :
    doT cSl Tryz.prog (convert ty_string ty_sl_uint8 (.string (strB b))) H K := by
  intro w hw
  subst hw
  have hr := run_bytes_of_string (P := Tryz.prog) w ty_string ty_sl_uint8 ty_uint8 (strB b) (by kernel_rfl) (by kernel_rfl) (by kernel_rfl)
  have hsz : (strB b).size = b.length := by simp [strB, ByteArray.size]
  refine ⟨_, _, hr, ⟨⟨some ⟨w.heap.size, 0, none⟩, (strB b).size, grownCap w (strB b).size 0 ty_uint8⟩, rfl, hK _ _ ⟨by simp [u8i, hsz], ?_⟩ (Mod.push _ _ _) ?_ (grownCap_ge _ _ _ _)⟩, (.of_le rfl (Nat.le_succ _))⟩
  · intro i v hv
    rw [u8i_vals] at hv
    refine ⟨_, rfl, ?_⟩
    rw [add_lit0]
    have hi : i < b.length := by have := (List.getElem?_eq_some_iff.1 hv).1; simpa [pgV] using this
    have hb : (bytesRow (strB b) (grownCap w (strB b).size 0 ty_uint8))[i]? = some v := by
      unfold bytesRow
      rw [Array.getElem?_append_left (by simp [strB]; exact hi)]
      rw [← hv]
      simp [strB, pgV]
    exact hCell_of (t := ty_uint8) (fz := ((bytesRow (strB b) (grownCap w (strB b).size 0 ty_uint8)).size, (bytesRow (strB b) (grownCap w (strB b).size 0 ty_uint8)).size + 1)) (by show (w.heap.push _)[w.heap.size]? = _; simp) hb
  · rintro q ⟨ad, e1, e2⟩; cases e1; have : w.heap.size = q := e2; omega

theorem toBytes_ok {b : List UInt8} {H : Heap} {K : Sl → Heap → Prop} (hK : ∀ s' H', Byts H' s' b → Mod (fun _ => False) H H' → (∀ q, ownB s' q → H.size ≤ q) → K s' H') :
    doT cSl Tryz.prog (convert ty_string ty_sl_uint8 (.string (strB b))) H K := toBytesC_ok fun s' H' h1 h2 h3 _ => hK s' H' h1 h2 h3

theorem Byts.nil (H : Heap) : Byts H (Sl.mk none 0 0) [] := ⟨rfl, Reads.nil _ _⟩

theorem RReadC_ok {F : Nat → Prop} {d : Nat} {s : Dk} {H : Heap} {n : ByteArray} {page : Int} {K : (Sl × Int) → Heap → Prop} (h : RefAt F H d s) (hlogs : s.logs < 68719476736)
    (hK : ∀ r H', Byts H' r (s.read n page).1 → Mod (fun _ => False) H H' → (∀ b, ownB r b → H.size ≤ b) → r.n ≤ r.c → K (r, (s.read n page).2) H') : fathomref01_Disk_Read.sp (at0 d) n page H K := by
  obtain ⟨fl, gs, cin, kp, g, _⟩ := h
  refine fathomref01_Disk_Read.of ?_
  unfold fathomref01_Disk_Read.vc
  simp only [optK_eq]
  have err : ∀ (e : Int) (A : Heap), Mod (fun _ => False) H A → s.read n page = ([], e) → K (Sl.mk none 0 0, e) A := by
    intro e A hA he
    have := hK (Sl.mk none 0 0) A (by rw [he]; exact Byts.nil _) hA (by rintro b ⟨ad, q, _⟩; cases q) (Nat.le_refl _)
    rw [he] at this; exact this
  refine find_ok g.head rfl g.files g.wf.files ?_
  refine g.head.ld (c := cBool) (i := 8) (x := s.down) rfl ?_
  refine br_mk (fun hd => ?_) (fun hd => ?_)
  · exact err 4 H (.refl _ _) (by unfold Dk.read Dk.open; rw [hd]; rfl)
  rw [idxI_neg]
  cases hi : s.idx n with
  | none => exact err 11 H (.refl _ _) (by unfold Dk.read Dk.open; rw [hd, hi]; rfl)
  | some i =>
    refine br_f rfl ?_
    obtain ⟨f, hf, _⟩ := Dk.idx_some hi
    obtain ⟨gg, hg, q1, q2⟩ := g.files.gAt hf
    have hfile : s.file i = f := Dk.file_eq hf
    have e0 : s.read n page = if page < 0 then ([], (12 : Int)) else match f.pages[page.toNat]? with | some p => (p.1, (0 : Int)) | none => ([], (12 : Int)) := by
      unfold Dk.read Dk.open; rw [hd, hi]; simp [hfile]; rfl
    have hx : idxI s n = (i : Int) := by unfold idxI; rw [hi]
    rw [hx]
    refine g.head.ld (c := cSl) (i := 0) (x := fl) rfl ?_
    refine g.files.ld3 hf hg ?_
    have hpl := Dk.pages_le hf; have hll := Dk.log_le hf
    have w1 := g.wf.used; have w2 := g.wf.most; have w3 := g.wf.quota
    refine Pages_ok q1 q2 (by omega) (by omega) fun l H2 o2 m2 f2 => ?_
    have hln := o2.n (by decide)
    refine br_mk (fun hp => ?_) (fun hp => ?_)
    · refine err 12 H2 m2 ?_
      simp only [Bool.or_eq_true, decide_eq_true_eq] at hp
      rw [e0]
      rcases hp with hp | hp
      · rw [if_pos hp]
      · by_cases hp0 : page < 0
        · rw [if_pos hp0]
        · rw [if_neg hp0, List.getElem?_eq_none (by omega)]
    · simp only [Bool.or_eq_false_iff, decide_eq_false_iff_not] at hp
      obtain ⟨pg, rfl⟩ : ∃ k : Nat, page = k := ⟨page.toNat, by omega⟩
      have hlt : pg < f.pages.length := by omega
      obtain ⟨ad, ha⟩ := RdE.addr o2.rd (by decide) (by omega)
      rw [ha]
      refine ⟨⟨by omega, by omega⟩, ?_⟩
      have hp2 : f.pages[pg]? = some f.pages[pg] := List.getElem?_eq_getElem hlt
      simp only [Int.toNat_natCast]
      refine SlE.one (c := cStr) (y := strB f.pages[pg].1) o2 hp2 rfl rfl ha ?_
      refine toBytesC_ok fun r H3 o3 m3 f3 c3 => ?_
      have er : s.read n pg = (f.pages[pg].1, 0) := by
        rw [e0, if_neg (by omega)]; simp [hp2]
      rw [er] at hK
      exact hK r H3 o3 (m2.trans m3) (fun b hb => by have := f3 b hb; have := m2.size; omega) c3

theorem RRead_ok {F : Nat → Prop} {d : Nat} {s : Dk} {H : Heap} {n : ByteArray} {page : Int} {K : (Sl × Int) → Heap → Prop} (h : RefAt F H d s) (hlogs : s.logs < 68719476736)
    (hK : ∀ r H', Byts H' r (s.read n page).1 → Mod (fun _ => False) H H' → (∀ b, ownB r b → H.size ≤ b) → K (r, (s.read n page).2) H') : fathomref01_Disk_Read.sp (at0 d) n page H K :=
  RReadC_ok h hlogs fun r H' h1 h2 h3 _ => hK r H' h1 h2 h3

theorem RSync_ok {F : Nat → Prop} {d : Nat} {s : Dk} {H : Heap} {n : ByteArray} {K : Int → Heap → Prop} (h : RefAt F H d s) (hlogs : s.logs < 68719476736)
    (hK : ∀ F' H', RefAt F' H' d (s.sync n).1 → Step F F' H H' → K (s.sync n).2 H') : fathomref01_Disk_Sync.sp (at0 d) n H K := by
  have h0 := h
  obtain ⟨fl, gs, cin, kp, g, hF⟩ := h
  refine fathomref01_Disk_Sync.of ?_
  unfold fathomref01_Disk_Sync.vc
  simp only [optK_eq]
  have stay : ∀ e : Int, s.sync n = (s, e) → K e H := by
    intro e he
    have := hK F H (by rw [he]; exact h0) (.refl _ _)
    rw [he] at this; exact this
  refine find_ok g.head rfl g.files g.wf.files ?_
  refine g.head.ld (c := cBool) (i := 8) (x := s.down) rfl ?_
  refine br_mk (fun hd => stay 4 (by unfold Dk.sync; rw [hd]; rfl)) (fun hd => ?_)
  rw [idxI_neg]
  cases hi : s.idx n with
  | none => exact stay 11 (by unfold Dk.sync; rw [hd, hi]; rfl)
  | some i =>
    refine br_f rfl ?_
    have hr : s.sync n = s.step fun t => t.upd i fun f => { f with synced := f.pages, log := [] } := by unfold Dk.sync; rw [hd, hi]; rfl
    rw [hr] at hK
    unfold Dk.step at hK
    refine Rchange_ok g fun cin' H3 g3 m3 s3 => ?_
    have hfs := s.change_files
    obtain ⟨k1, k2, k3, k4⟩ := s.change_keep
    obtain ⟨f, hf, _⟩ := Dk.idx_some hi
    have hf3 : s.change.1.files[i]? = some f := by rw [hfs]; exact hf
    refine br_mk (fun hz => ?_) (fun hz => ?_)
    · have hz' : s.change.2 = 0 := by simpa using hz
      rw [if_pos hz'] at hK
      rw [hz']
      generalize s.change.1 = t at *
      obtain ⟨gg, hg, q1, q2⟩ := g3.files.gAt hf3
      have hx : idxI s n = (i : Int) := by unfold idxI; rw [hi]
      rw [hx]
      refine ⟨fun A => RowT A d ty_fathomref01_Disk (headR fl t.most t.quota t.ops t.next t.crash.isSome cin' kp t.down), g3.head, ?_⟩
      refine ⟨fl, fun A hA => by rw [add_lit0]; exact hA.cell rfl, ?_⟩
      refine g3.head.ld (c := cSl) (i := 0) (x := fl) rfl ?_
      refine g3.files.ld3 hf3 hg ?_
      have hpl := Dk.pages_le hf; have hll := Dk.log_le hf
      have w1 := g.wf.used; have w2 := g.wf.most; have w3 := g.wf.quota
      refine Pages_ok q1 q2 (by omega) (by omega) fun l H4 o4 m4 f4 => ⟨g3.head.ext m4, ?_⟩
      have a4 : SlE ERf ty_fathomref01_File H4 fl (rfs t.files gs) := g3.files.arr.ext m4
      have hrow := rfs_get _ _ i f gg hf3 hg
      refine arr_st a4 hrow (j := 1) (v := l.v) (by omega) rfl (y := (f.name, l, gg.2)) rfl fun H5 a5 m5 s5 => ?_
      have off3 := RefG.off g3.head g3.files
      have d5 := (g3.head.ext m4).mod m5 (fun hb => off3 (.inl hb))
      refine d5.ld (c := cSl) (i := 0) (x := fl) rfl ?_
      have hil := (List.getElem?_eq_some_iff.1 hrow).1
      refine arr_st a5 (i := i) (j := 2) (x := (f.name, l, gg.2)) (v := .slice none 0 0) (by simp [hil]) (by omega) rfl (y := (f.name, l, Sl.mk none 0 0)) rfl fun H6 a6 m6 s6 => ?_
      rw [List.set_set] at a6
      have z4 := m4.size
      have m36 : Mod (ownB fl) H3 H6 := (((Ext.mod m4).trans m5).trans m6)
      have d6 := d5.mod m6 (fun hb => off3 (.inl hb))
      have lty : ∀ b, ownB l b → ¬ ownB fl b := o4.apart a4 (by decide)
      have fB := g3.files.set (H' := H6) hf3 hg (f' := { f with synced := f.pages, log := [] }) (g' := (l, Sl.mk none 0 0)) a6 (o4.keep fun b hb hl => (m6.same b (by omega) (lty b hb)).trans (m5.same b hl (lty b hb))) (SlE.nil _ _ _)
        (fun j gj _ hgj b hb hl => m36.same b hl (g3.files.arrOff hgj b hb)) (by rintro b ⟨ad, q, _⟩; cases q)
      have hu := Dk.used_modify (s := t) (g := fun f => { f with synced := f.pages, log := [] }) hf3
      have hu' : (t.upd i fun f => { f with synced := f.pages, log := [] }).used = t.used := by
        have e : ({ f with synced := f.pages, log := [] } : Fl).pages.length = f.pages.length := rfl
        omega
      have gG : RefG fl (gs.set i (l, Sl.mk none 0 0)) cin' kp H6 d (t.upd i fun f => { f with synced := f.pages, log := [] }) := by
        refine ⟨d6, g3.crash, ?_, g3.wf.modify (g := fun f => { f with synced := f.pages, log := [] }) hf3 rfl rfl (by rw [hu']; exact g3.wf.used) g3.wf.most rfl rfl rfl⟩
        show RefFiles H6 fl _ (t.files.modify i fun f => { f with synced := f.pages, log := [] })
        rw [modify_set hf3]; exact fB
      obtain ⟨F', r1, r2⟩ := gG.out (fl := fl) (gs := gs) (F := F) (H := H) hF ((m3.mono fun b _ e => (hF b).2 (.inl e)).trans (m36.mono fun b _ e => (hF b).2 (.inr (.inl e)))) (fun b hb => (rfp_set (H := H3) hg (fun b hb => .inr (f4 b hb)) (by rintro b ⟨ad, q, _⟩; cases q) b hb).imp id (fun q => by omega))
      exact hK F' H6 r1 r2
    · have hz' : s.change.2 ≠ 0 := by simpa using hz
      rw [if_neg hz'] at hK
      obtain ⟨F', q1, q2⟩ := g3.out (fl := fl) (gs := gs) (F := F) (H := H) hF (m3.mono fun b _ e => (hF b).2 (.inl e)) (fun b q => .inl q)
      exact hK F' H3 q1 q2

set_option maxHeartbeats 1000000 in
theorem RWrite_ok {F : Nat → Prop} {d : Nat} {s : Dk} {H : Heap} {n : ByteArray} {page : Int} {p3 : Sl} {b : List UInt8} {K : Int → Heap → Prop} (h : RefAt F H d s) (hb : Byts H p3 b) (hpb : ∀ ad, p3.a = some ad → ¬ F ad.block) (hlogs : s.logs + 1 < 68719476736)
    (hK : ∀ F' H', RefAt F' H' d (s.write n page b).1 → Step F F' H H' → K (s.write n page b).2 H') : fathomref01_Disk_Write.sp (at0 d) n page p3 H K := by
  have h0 := h
  have h0lt := h.lt
  obtain ⟨fl, gs, cin, kp, g, hF⟩ := h
  refine fathomref01_Disk_Write.of ?_
  unfold fathomref01_Disk_Write.vc
  simp only [optK_eq]
  have stay : ∀ (e : Int) (A : Heap), Mod (fun _ => False) H A → s.write n page b = (s, e) → K e A := by
    intro e A hA he
    have := hK F A (by rw [he]; exact h0.keep fun b hb hl => hA.same b hl id) ⟨Ext.mod hA, fun b hb => .inl hb⟩
    rw [he] at this; exact this
  have hbn := hb.n
  refine find_ok g.head rfl g.files g.wf.files ?_
  refine g.head.ld (c := cBool) (i := 8) (x := s.down) rfl ?_
  refine br_mk (fun hd => stay 4 H (.refl _ _) (by unfold Dk.write; rw [hd]; rfl)) (fun hd => ?_)
  refine br_mk (fun hne => stay 2 H (.refl _ _) ?_) (fun hne => ?_)
  · have : b.length ≠ 512 := by simp at hne; omega
    unfold Dk.write; rw [hd]; simp [this]
  have hb512 : b.length = 512 := by simp at hne; omega
  rw [idxI_neg]
  cases hi : s.idx n with
  | none =>
    refine br_t rfl (stay 11 H (.refl _ _) ?_)
    unfold Dk.write; rw [hd]; simp [hb512, hi]
  | some i =>
    refine br_f rfl ?_
    obtain ⟨f, hf, hfn⟩ := Dk.idx_some hi
    obtain ⟨gg, hg, q1, q2⟩ := g.files.gAt hf
    have hfile : s.file i = f := Dk.file_eq hf
    have hx : idxI s n = (i : Int) := by unfold idxI; rw [hi]
    simp only [hx]
    have hpl := Dk.pages_le hf; have hll := Dk.log_le hf
    have w1 := g.wf.used; have w2 := g.wf.most; have w3 := g.wf.quota
    have e12 : page < 0 ∨ page > f.pages.length → s.write n page b = (s, 12) := by
      intro hp
      unfold Dk.write; rw [hd]; simp only [Bool.false_eq_true, if_false, hb512, dif_pos, hi, hfile]
      rw [if_pos hp]
    have e5 : ¬ (page < 0 ∨ page > f.pages.length) → page = f.pages.length → s.used ≥ s.quota → s.write n page b = (s, 5) := by
      intro hp h1 h2
      unfold Dk.write; rw [hd]; simp only [Bool.false_eq_true, if_false, hb512, dif_pos, hi, hfile]
      rw [if_neg hp, if_pos ⟨h1, h2⟩]
    refine g.head.ld (c := cSl) (i := 0) (x := fl) rfl ?_
    refine g.files.ld3 hf hg ?_
    refine Pages_ok q1 q2 (by omega) (by omega) fun l H2 o2 m2 f2 => ?_
    have hln := o2.n (by decide)
    refine ⟨fun _ A => Mod (fun _ => False) H A ∧ ¬ (page < 0 ∨ page > f.pages.length) ∧ ¬ (page = f.pages.length ∧ s.used ≥ s.quota), ?_, ?_⟩
    · refine br_mk (fun hp => stay 12 H2 m2 (e12 ?_)) (fun hp => ?_)
      · simp only [Bool.or_eq_true, decide_eq_true_eq] at hp; omega
      have hp1 : ¬ (page < 0 ∨ page > f.pages.length) := by simp only [Bool.or_eq_false_iff, decide_eq_false_iff_not] at hp; omega
      refine ⟨fun A => RowT A d ty_fathomref01_Disk (headR fl s.most s.quota s.ops s.next s.crash.isSome cin kp s.down), g.head.ext m2, ?_⟩
      refine br_mk (fun he => ?_) (fun he => ⟨m2, hp1, fun hh => by simp at he; omega⟩)
      have he' : page = f.pages.length := by simp at he; omega
      have f22 : RefFiles H2 fl gs s.files := g.files.keep fun b hb hl => m2.same b hl id
      refine RUsed_low (g.head.ext m2) rfl f22 (by omega) g.wf.files (by omega) fun H4 m4 => ⟨(g.head.ext m2).ext m4, ?_⟩
      refine ⟨(s.quota : Int), fun A hA => by rw [add_lit0]; exact hA.cell rfl, ?_⟩
      refine br_mk (fun hq => stay 5 H4 (m2.trans m4) (e5 hp1 he' (by simp at hq; omega))) (fun hq => ⟨m2.trans m4, hp1, fun hh => by simp at hq; omega⟩)
    · rintro _ H0 ⟨m0, hp1, hp2⟩
      obtain ⟨pg, rfl⟩ : ∃ k : Nat, page = k := ⟨page.toNat, by omega⟩
      have hpg : pg ≤ f.pages.length := by omega
      obtain ⟨wr, hwr⟩ : ∃ wr : Dk → Wr, wr = fun t => ⟨t.next, pg, ⟨b, hb512⟩⟩ := ⟨_, rfl⟩
      have hr : s.write n pg b = s.step fun t => (t.addW i (wr t)).setMost (max t.most (t.addW i (wr t)).used) := by
        unfold Dk.write; rw [hd]; simp only [Bool.false_eq_true, if_false, hb512, dif_pos, hi, hfile]
        rw [if_neg hp1, if_neg hp2, hwr]
        rfl
      rw [hr] at hK
      unfold Dk.step at hK
      have g0 : RefG fl gs cin kp H0 d s := ⟨g.head.ext m0, g.crash, g.files.keep fun b hb hl => m0.same b hl id, g.wf⟩
      refine Rchange_ok g0 fun cin' H4 g4 m4 s4 => ?_
      have mH4 : Mod F H H4 := (Ext.mod m0).trans (m4.mono fun b _ e => (hF b).2 (.inl e))
      have z0 := m0.size
      refine br_mk (fun hz => ?_) (fun hz => ?_)
      · have hz' : s.change.2 ≠ 0 := by simpa using hz
        rw [if_neg hz'] at hK
        obtain ⟨F', r1, r2⟩ := g4.out (fl := fl) (gs := gs) (F := F) (H := H) hF mH4 (fun b q => .inl q)
        exact hK F' H4 r1 r2
      have hz' : s.change.2 = 0 := by simpa using hz
      rw [if_pos hz'] at hK
      dsimp only at hK
      obtain ⟨k1, k2, k3, k4⟩ := s.change_keep
      have hfs := s.change_files
      generalize ht : s.change.1 = t at *
      have hf4 : t.files[i]? = some f := by rw [hfs]; exact hf
      obtain ⟨q14, q24⟩ := g4.files.ent i f gg hf4 hg
      have off4 := RefG.off g4.head g4.files
      have hb4 : Byts H4 p3 b := hb.keep fun ad ha hl => mH4.same _ hl (hpb ad ha)
      have hgm := List.mem_of_getElem? hg
      have hrow := rfs_get _ _ i f gg hf4 hg
      have hpA : ∀ ad, p3.a = some ad → ¬ ownB gg.2 ad.block := fun ad ha hh => hpb ad ha ((hF _).2 (.inr (.inr ⟨gg, hgm, .inr hh⟩)))
      have arrLog : ∀ b, ownB gg.2 b → ¬ ownB fl b := fun b hb => g4.files.arrOff hg b (.inr hb)
      have dLog : ¬ ownB gg.2 d := fun hh => off4 (.inr ⟨gg, hgm, .inr hh⟩)
      refine ⟨fun A => RowT A d ty_fathomref01_Disk (headR fl t.most t.quota t.ops t.next t.crash.isSome cin' kp t.down) ∧ SlE ERf ty_fathomref01_File A fl (rfs t.files gs) ∧ Byts A p3 b, ⟨g4.head, g4.files.arr, hb4⟩, ?_⟩
      refine ⟨fl, fun A hA => by rw [add_lit0]; exact hA.1.cell rfl, ?_⟩
      refine ⟨fl, fun A hA => by rw [add_lit0]; exact hA.1.cell rfl, ?_⟩
      obtain ⟨ad, ha⟩ := RdE.addr g4.files.arr.rd (by decide) (by have := (List.getElem?_eq_some_iff.1 hrow).1; omega)
      have hn4 := g4.files.n
      have hil := (List.getElem?_eq_some_iff.1 hf4).1
      rw [ha]
      refine ⟨⟨by omega, by omega⟩, ?_⟩
      refine ⟨gg.2, fun A hA => ?_, ?_⟩
      · obtain ⟨ad', e1, hc⟩ := RdE.cell hA.2.1.rd hrow (j := 2) (v := gg.2.v) rfl
        rw [ha] at e1; cases e1
        rw [add_add]
        exact hc
      refine g4.head.ld (c := cInt .i64) (i := 4) (x := t.next) rfl ?_
      refine ⟨strB b, fun A hA => hA.2.2.strAt, ?_⟩
      have hwt : wr t = ⟨t.next, pg, ⟨b, hb512⟩⟩ := by rw [hwr]
      refine SlE.pushJ (E := EWr) elWr (x := wr t) q24 (by rw [hwt]; rfl) (by omega) (by omega) _ (fun H6 s6 m6 => ⟨g4.head.ext m6, g4.files.arr.ext m6, hb4.keep fun ad ha hl => m6.same _ hl id⟩) fun s7 H7 o7 g7 _ => ?_
      refine ⟨⟨g4.head.mod g7.1 dLog, g4.files.arr.keep fun b hb hl => g7.1.same b hl fun hh => arrLog b hh hb, hb4.keep fun ad ha hl => g7.1.same _ hl (hpA ad ha)⟩, ?_⟩
      rw [← ha]
      have a7 : SlE ERf ty_fathomref01_File H7 fl (rfs t.files gs) := g4.files.arr.keep fun b hb hl => g7.1.same b hl fun hh => arrLog b hh hb
      refine arr_st a7 hrow (j := 2) (v := s7.v) (by omega) rfl (y := (f.name, gg.1, s7)) rfl fun H8 a8 m8 s8 => ?_
      have d7 := g4.head.mod g7.1 dLog
      have d8 : RowT H8 d ty_fathomref01_Disk (headR fl t.most t.quota t.ops t.next t.crash.isSome cin' kp t.down) := d7.mod m8 (fun hb => off4 (.inl hb))
      refine d8.ld (c := cInt .i64) (i := 4) (x := t.next) rfl ?_
      refine d8.st (i := 4) (by simp [headR]) (by rfl) fun H9 d9 m9 s9 => ?_
      have d9' : RowT H9 d ty_fathomref01_Disk (headR fl t.most t.quota t.ops (w64 (t.next + 1)) t.crash.isSome cin' kp t.down) := d9
      have z7 := g7.1.size
      have s7fl : ∀ b, ownB s7 b → ¬ ownB fl b := o7.apart a7 (by decide)
      have s7d : ∀ b, ownB s7 b → b ≠ d := fun b hb e => by
        obtain ⟨c, q⟩ := o7.obj b hb
        rw [e] at q
        exact absurd (cells_ty d7 q) (by decide)
      have fB := g4.files.set (H' := H9) hf4 hg (f' := { f with log := f.log ++ [wr t] }) (g' := (gg.1, s7)) (a8.keep fun b hb hl => m9.same b hl fun e => off4 (.inl (e ▸ hb)))
        (q14.keep fun b hb hl => (m9.same b (by omega) fun e => off4 (.inr ⟨gg, hgm, .inl (e ▸ hb)⟩)).trans ((m8.same b (by omega) (g4.files.arrOff hg b (.inl hb))).trans (g7.1.same b hl ((q14.apart q24 (by decide)) b hb))))
        (o7.keep fun b hb hl => (m9.same b (by omega) (s7d b hb)).trans (m8.same b hl (s7fl b hb)))
        (fun j gj hj hgj b hb hl => (m9.same b (by omega) fun e => off4 (.inr ⟨gj, List.mem_of_getElem? hgj, e ▸ hb⟩)).trans ((m8.same b (by omega) (g4.files.arrOff hgj b hb)).trans (g7.1.same b hl fun hh => by
          rcases hb with hb | hb
          · obtain ⟨_, _, t1, _⟩ := g4.files.fAt hgj
            exact (t1.apart q24 (by decide)) b hb hh
          · exact g4.files.apart j i gj gg hgj hg hj b hb hh)))
        (fun b hb => g7.2 b hb)
      have hused : (t.addW i (wr t)).used = if pg = f.pages.length then t.used + 1 else t.used := by
        have h1 := Dk.used_modify (s := t) (g := fun f => { f with log := f.log ++ [wr t] }) hf4
        have h2 : ({ f with log := f.log ++ [wr t] } : Fl).pages.length = max f.pages.length (pg + 1) := by
          have e : ({ f with log := f.log ++ [wr t] } : Fl).pages = putP f.pages (wr t) := by simp [Fl.pages]
          rw [e, putP_length, hwt]
        have h3 : (t.addW i (wr t)).used = (t.upd i (fun f => { f with log := f.log ++ [wr t] })).used := rfl
        rw [h3]
        split <;> omega
      have fB' : RefFiles H9 fl (gs.set i (gg.1, s7)) (t.addW i (wr t)).files := by
        show RefFiles H9 fl _ (t.files.modify i fun f => { f with log := f.log ++ [wr t] })
        rw [modify_set hf4]; exact fB
      have hlg : (t.addW i (wr t)).logs < 68719476736 := by
        have h1 := sum_modify (fun f : Fl => f.log.length) (fun f => { f with log := f.log ++ [wr t] }) t.files i f hf4
        have h2 : (t.addW i (wr t)).logs = ((t.files.modify i fun f => { f with log := f.log ++ [wr t] }).map fun f => f.log.length).sum := rfl
        have h3 : (t.files.map fun f => f.log.length).sum = s.logs := by rw [hfs]; rfl
        simp only [List.length_append, List.length_cons, List.length_nil] at h1
        rw [h2]
        omega
      refine ⟨fun A => RowT A d ty_fathomref01_Disk (headR fl t.most t.quota t.ops (w64 (t.next + 1)) t.crash.isSome cin' kp t.down), d9', ?_⟩
      refine ⟨(t.most : Int), fun A hA => by rw [add_lit0]; exact hA.cell rfl, ?_⟩
      have hlf : (t.addW i (wr t)).files.length ≤ 4096 := by
        show (t.files.modify i _).length ≤ 4096
        simp; exact g4.wf.files
      refine RUsed_low (s := t.addW i (wr t)) d9' rfl fB' (by rw [hused]; split <;> omega) hlf hlg fun H10 m10 => ⟨d9'.ext m10, ?_⟩
      refine (d9'.ext m10).st (i := 1) (by simp [headR]) (by rfl) fun H11 d11 m11 s11 => ?_
      have em : (if (((t.addW i (wr t)).used : Nat) : Int) > (t.most : Int) then (((t.addW i (wr t)).used : Nat) : Int) else (t.most : Int)) = ((max t.most (t.addW i (wr t)).used : Nat) : Int) := by split <;> omega
      rw [em] at d11
      have z10 := m10.size
      have offB := RefG.off d9' fB'
      have gG : RefG fl (gs.set i (gg.1, s7)) cin' kp H11 d ((t.addW i (wr t)).setMost (max t.most (t.addW i (wr t)).used)) := by
        refine ⟨d11, g4.crash, ?_, ?_⟩
        · exact fB'.keep fun b hb hl => (m11.same b (by omega) fun e => offB (e ▸ hb)).trans (m10.same b hl id)
        · refine g4.wf.modify (g := fun f => { f with log := f.log ++ [wr t] }) hf4 rfl rfl (Nat.le_max_right _ _) ?_ rfl rfl rfl
          show max t.most (t.addW i (wr t)).used ≤ t.quota
          rw [hused]
          split <;> omega
      have hmm : Mod F H H11 := by
        have t1 : Mod F H4 H9 := ((g7.1.mono fun b _ e => (hF b).2 (.inr (.inr ⟨gg, hgm, .inr e⟩))).trans (m8.mono fun b _ e => (hF b).2 (.inr (.inl e)))).trans (m9.mono fun b _ e => (hF b).2 (.inl e))
        exact ((mH4.trans t1).trans (Ext.mod m10)).trans (m11.mono fun b _ e => (hF b).2 (.inl e))
      obtain ⟨F', r1, r2⟩ := gG.out (fl := fl) (gs := gs) (F := F) (H := H) hF hmm (fun b hb => (rfp_set (H := H4) (g' := (gg.1, s7)) hg (fun b hb => .inl hb) (fun b hb => g7.2 b hb) b hb).imp id (fun q => by omega))
      exact hK F' H11 r1 r2

end Go.Proofs.YtjjfngnokbboeaaGreatDoor
