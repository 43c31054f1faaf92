/-
  The document's disk: files made, taken away, named anew, told.
-/
import Derived.Test.YtjjfngnokbboeaaGreatDoorDrb
namespace Go.Proofs.YtjjfngnokbboeaaGreatDoor
open Go.MapKept

theorem slA_zero' (a : Option Addr) (c n : Nat) : slA a c 0 n = a := by
  unfold slA
  split
  · rfl
  · cases a <;> simp [add_zero']

theorem rfs_append : ∀ (fs : List Fl) (gs : List (Sl × Sl)) (f : Fl) (g : Sl × Sl), gs.length = fs.length → rfs (fs ++ [f]) (gs ++ [g]) = rfs fs gs ++ [(f.name, g.1, g.2)]
  | [], [], f, g, _ => rfl
  | [], _ :: _, _, _, h => by simp at h
  | _ :: _, [], _, _, h => by simp at h
  | a :: fs, b :: gs, f, g, h => by simp [rfs, rfs_append fs gs f g (by simpa using h)]
theorem rfs_erase : ∀ (fs : List Fl) (gs : List (Sl × Sl)) (i : Nat), gs.length = fs.length → rfs (fs.eraseIdx i) (gs.eraseIdx i) = (rfs fs gs).eraseIdx i
  | [], [], _, _ => rfl
  | [], _ :: _, _, h => by simp at h
  | _ :: _, [], _, h => by simp at h
  | a :: fs, b :: gs, 0, _ => rfl
  | a :: fs, b :: gs, i + 1, h => by simp [rfs, rfs_erase fs gs i (by simpa using h)]
theorem rfs_set : ∀ (fs : List Fl) (gs : List (Sl × Sl)) (i : Nat) (f : Fl) (g : Sl × Sl), gs.length = fs.length → rfs (fs.set i f) (gs.set i g) = (rfs fs gs).set i (f.name, g.1, g.2)
  | [], [], _, _, _, _ => rfl
  | [], _ :: _, _, _, _, h => by simp at h
  | _ :: _, [], _, _, _, h => by simp at h
  | a :: fs, b :: gs, 0, _, _, _ => rfl
  | a :: fs, b :: gs, i + 1, f, g, h => by simp [rfs, rfs_set fs gs i f g (by simpa using h)]

theorem RefFiles.push {H H' : Heap} {fl fl' : Sl} {gs : List (Sl × Sl)} {fs : List Fl} (h : RefFiles H fl gs fs) {f : Fl} {g : Sl × Sl} (harr : SlE ERf ty_fathomref01_File H' fl' (rfs fs gs ++ [(f.name, g.1, g.2)]))
    (hs : SlE EStr ty_string H' g.1 f.synced) (hl : SlE EWr ty_fathomref01_Write H' g.2 f.log) (hk : ∀ b, (∃ gj ∈ gs, ownB gj.1 b ∨ ownB gj.2 b) → b < H.size → H'[b]? = H[b]?) (hb : ∀ b, ownB g.2 b → H.size ≤ b) : RefFiles H' fl' (gs ++ [g]) (fs ++ [f]) := by
  have hlen := h.len
  have ex : ∀ {α : Type} (l : List α) (a : α) (i : Nat) (x : α), (l ++ [a])[i]? = some x → (l[i]? = some x ∧ i < l.length) ∨ (i = l.length ∧ x = a) := by
    intro α l a i x hx
    by_cases hi : i < l.length
    · rw [List.getElem?_append_left hi] at hx; exact .inl ⟨hx, hi⟩
    · rw [List.getElem?_append_right (by omega)] at hx
      have : i = l.length := by
        have := (List.getElem?_eq_some_iff.1 hx).1; simp at this; omega
      subst this
      simp at hx
      exact .inr ⟨rfl, hx.symm⟩
  refine ⟨by rw [rfs_append _ _ _ _ hlen]; exact harr, by simp [hlen], ?_, ?_⟩
  · intro i f' g' h1 h2
    rcases ex fs f i f' h1 with ⟨q1, l1⟩ | ⟨e1, rfl⟩ <;> rcases ex gs g i g' h2 with ⟨q2, l2⟩ | ⟨e2, rfl⟩
    · exact ⟨(h.ent i f' g' q1 q2).1.keep fun b hb => hk b ⟨g', List.mem_of_getElem? q2, .inl hb⟩, (h.ent i f' g' q1 q2).2.keep fun b hb => hk b ⟨g', List.mem_of_getElem? q2, .inr hb⟩⟩
    · omega
    · omega
    · exact ⟨hs, hl⟩
  · intro i j g1 g2 h1 h2 hij b hb1 hb2
    rcases ex gs g i g1 h1 with ⟨q1, l1⟩ | ⟨e1, w1⟩ <;> rcases ex gs g j g2 h2 with ⟨q2, l2⟩ | ⟨e2, w2⟩
    · exact h.apart i j g1 g2 q1 q2 hij b hb1 hb2
    · obtain ⟨_, _, _, q⟩ := h.fAt q1
      rw [w2] at hb2
      have := q.lt b hb1; have := hb b hb2; omega
    · obtain ⟨_, _, _, q⟩ := h.fAt q2
      rw [w1] at hb1
      have := q.lt b hb2; have := hb b hb1; omega
    · omega

theorem RefFiles.erase {H H' : Heap} {fl fl' : Sl} {gs : List (Sl × Sl)} {fs : List Fl} (h : RefFiles H fl gs fs) {i : Nat} (harr : SlE ERf ty_fathomref01_File H' fl' ((rfs fs gs).eraseIdx i))
    (hk : ∀ b, (∃ gj ∈ gs, ownB gj.1 b ∨ ownB gj.2 b) → b < H.size → H'[b]? = H[b]?) : RefFiles H' fl' (gs.eraseIdx i) (fs.eraseIdx i) := by
  have back : ∀ {α : Type} (l : List α) (j : Nat) (a : α), (l.eraseIdx i)[j]? = some a → l[if j < i then j else j + 1]? = some a := by
    intro α l j a ha
    rw [List.getElem?_eraseIdx] at ha
    split at ha
    · rename_i q; rw [if_pos q]; exact ha
    · rename_i q; rw [if_neg q]; exact ha
  refine ⟨by rw [rfs_erase _ _ _ h.len]; exact harr, ?_, ?_, ?_⟩
  · have := h.len
    simp only [List.length_eraseIdx, this]
  · intro j f' g' h1 h2
    have q1 := back fs j f' h1
    have q2 := back gs j g' h2
    exact ⟨(h.ent _ f' g' q1 q2).1.keep fun b hb => hk b ⟨g', List.mem_of_getElem? q2, .inl hb⟩, (h.ent _ f' g' q1 q2).2.keep fun b hb => hk b ⟨g', List.mem_of_getElem? q2, .inr hb⟩⟩
  · intro a c ga gc h1 h2 hac
    refine h.apart _ _ ga gc (back gs a ga h1) (back gs c gc h2) ?_
    split <;> split <;> omega

theorem RefFiles.set {H H' : Heap} {fl : Sl} {gs : List (Sl × Sl)} {fs : List Fl} (h : RefFiles H fl gs fs) {i : Nat} {f f' : Fl} {g g' : Sl × Sl} (hf : fs[i]? = some f) (hg : gs[i]? = some g) (harr : SlE ERf ty_fathomref01_File H' fl ((rfs fs gs).set i (f'.name, g'.1, g'.2)))
    (hs : SlE EStr ty_string H' g'.1 f'.synced) (hl : SlE EWr ty_fathomref01_Write H' g'.2 f'.log) (hk : ∀ (j : Nat) (gj : Sl × Sl), j ≠ i → gs[j]? = some gj → ∀ b, (ownB gj.1 b ∨ ownB gj.2 b) → b < H.size → H'[b]? = H[b]?) (hb : ∀ b, ownB g'.2 b → ownB g.2 b ∨ H.size ≤ b) :
    RefFiles H' fl (gs.set i g') (fs.set i f') := by
  have hfi := (List.getElem?_eq_some_iff.1 hf).1
  have hgi := (List.getElem?_eq_some_iff.1 hg).1
  refine ⟨by rw [rfs_set _ _ _ _ _ h.len]; exact harr, by simp [h.len], ?_, ?_⟩
  · intro j fj gj h1 h2
    rw [List.getElem?_set] at h1 h2
    by_cases hij : i = j
    · subst hij
      rw [if_pos rfl, if_pos hfi] at h1
      rw [if_pos rfl, if_pos hgi] at h2
      cases h1; cases h2
      exact ⟨hs, hl⟩
    · rw [if_neg hij] at h1 h2
      exact ⟨(h.ent j fj gj h1 h2).1.keep fun b hb => hk j gj (Ne.symm hij) h2 b (.inl hb), (h.ent j fj gj h1 h2).2.keep fun b hb => hk j gj (Ne.symm hij) h2 b (.inr hb)⟩
  · intro a c ga gc h1 h2 hac b hb1 hb2
    rw [List.getElem?_set] at h1 h2
    by_cases hia : i = a
    · subst hia
      rw [if_neg hac] at h2
      rw [if_pos rfl, if_pos hgi] at h1
      cases h1
      obtain ⟨_, _, _, q⟩ := h.fAt h2
      have := q.lt b hb2
      rcases hb b hb1 with r | r
      · exact h.apart i c g gc hg h2 hac b r hb2
      · omega
    · rw [if_neg hia] at h1
      obtain ⟨_, _, _, q⟩ := h.fAt h1
      have := q.lt b hb1
      by_cases hic : i = c
      · subst hic
        rw [if_pos rfl, if_pos hgi] at h2
        cases h2
        rcases hb b hb2 with r | r
        · exact h.apart a i ga g h1 hg hac b hb1 r
        · omega
      · rw [if_neg hic] at h2
        exact h.apart a c ga gc h1 h2 hac b hb1 hb2

theorem rfp_set {fl : Sl} {gs : List (Sl × Sl)} {i : Nat} {g g' : Sl × Sl} {H : Heap} (hg : gs[i]? = some g) (h1 : ∀ b, ownB g'.1 b → ownB g.1 b ∨ H.size ≤ b) (h2 : ∀ b, ownB g'.2 b → ownB g.2 b ∨ H.size ≤ b) : ∀ b, rfp fl (gs.set i g') b → rfp fl gs b ∨ H.size ≤ b := by
  rintro b (q | ⟨gj, hgj, q⟩)
  · exact .inl (.inl q)
  · rcases List.mem_or_eq_of_mem_set hgj with r | r
    · exact .inl (.inr ⟨gj, r, q⟩)
    · subst r
      rcases q with q | q
      · exact (h1 b q).imp (fun z => .inr ⟨g, List.mem_of_getElem? hg, .inl z⟩) id
      · exact (h2 b q).imp (fun z => .inr ⟨g, List.mem_of_getElem? hg, .inr z⟩) id

theorem idxI_neg {s : Dk} {n : ByteArray} : decide (idxI s n < 0) = (s.idx n).isNone := by
  unfold idxI
  cases s.idx n with
  | none => rfl
  | some i => simp

theorem RCreate_ok {F : Nat → Prop} {d : Nat} {s : Dk} {H : Heap} {n : ByteArray} {K : Int → Heap → Prop} (h : RefAt F H d s)
    (hK : ∀ F' H', RefAt F' H' d (s.create n).1 → Step F F' H H' → K (s.create n).2 H') : fathomref01_Disk_Create.sp (at0 d) n H K := by
  have h0 := h
  obtain ⟨fl, gs, cin, kp, g, hF⟩ := h
  refine fathomref01_Disk_Create.of ?_
  unfold fathomref01_Disk_Create.vc
  simp only [optK_eq]
  have stay : ∀ e : Int, s.create n = (s, e) → K e H := by
    intro e he
    have := hK F H (by rw [he]; exact h0) (.refl _ _)
    rw [he] at this; exact this
  have hfl := g.wf.files
  refine g.head.ld (c := cBool) (i := 8) (x := s.down) rfl ?_
  cases hd : s.down with
  | true => exact stay 4 (by unfold Dk.create; rw [hd]; rfl)
  | false =>
    refine br_f rfl ?_
    refine Rnamed_ok ?_
    refine br_mk (fun hn => stay 2 ?_) (fun hn => ?_)
    · unfold Dk.create; rw [hd]; simp at hn; simp [hn]
    simp at hn
    refine find_ok g.head rfl g.files hfl ?_
    refine br_mk (fun hi => stay 10 ?_) (fun hi => ?_)
    · have : (s.idx n).isSome := by
        unfold idxI at hi
        cases hq : s.idx n with
        | none => rw [hq] at hi; simp at hi
        | some i => rfl
      unfold Dk.create; rw [hd]; simp [hn, this]
    have hix : s.idx n = none := by
      unfold idxI at hi
      cases hq : s.idx n with
      | none => rfl
      | some i => rw [hq] at hi; simp at hi
    refine g.head.ld (c := cSl) (i := 0) (x := fl) rfl ?_
    have hfn := g.files.n
    refine br_mk (fun hl => stay 3 ?_) (fun hl => ?_)
    · unfold Dk.create; rw [hd]; simp at hl; simp [hn, hix, show s.files.length = 4096 by omega]
    have hl' : s.files.length ≠ 4096 := by simp at hl; omega
    have hcr : s.create n = s.step fun t => { t with files := t.files ++ [⟨n, [], []⟩] } := by unfold Dk.create; rw [hd]; simp [hn, hix, hl']
    rw [hcr] at hK
    unfold Dk.step at hK
    refine Rchange_ok g fun cin' H3 g3 m3 s3 => ?_
    have hfs := s.change_files
    refine br_mk (fun hz => ?_) (fun hz => ?_)
    · have hz' : s.change.2 = 0 := by simpa using hz
      rw [if_pos hz'] at hK
      rw [hz']
      refine g3.head.ld (c := cSl) (i := 0) (x := fl) rfl ?_
      have hlen3 := rfs_length s.change.1.files gs g3.files.len
      refine SlE.push (E := ERf) elRf (x := (n, Sl.mk none 0 0, Sl.mk none 0 0)) g3.files.arr rfl (by rw [hlen3, hfs]; omega) (by rw [hlen3, hfs]; omega) fun s5 H5 o5 g5 _ => ?_
      have off := RefG.off g3.head g3.files
      have d5 := g3.head.mod g5.1 (fun hb => off (.inl hb))
      refine d5.st (i := 0) (by simp [headR]) (by rfl) fun H6 r6 m6 s6 => ?_
      have off5 : ∀ b, ownB s5 b → b ≠ d := fun b hb e => by
        obtain ⟨c, q⟩ := o5.obj b hb
        rw [e] at q
        exact absurd (cells_ty d5 q) (by decide)
      have flapart : ∀ b, (∃ gj ∈ gs, ownB gj.1 b ∨ ownB gj.2 b) → ¬ ownB fl b := by
        rintro b ⟨gj, hgj, hb⟩ hfb
        obtain ⟨i, hi⟩ := List.mem_iff_getElem?.1 hgj
        obtain ⟨_, _, q1, q2⟩ := g3.files.fAt hi
        rcases hb with hb | hb
        · exact (q1.apart g3.files.arr (by decide)) b hb hfb
        · exact (q2.apart g3.files.arr (by decide)) b hb hfb
      have fB := g3.files.push (H' := H6) (fl' := s5) (f := ⟨n, [], []⟩) (g := (Sl.mk none 0 0, Sl.mk none 0 0)) (o5.keep fun b hb hl => m6.same b hl (off5 b hb)) (SlE.nil _ _ _) (SlE.nil _ _ _) (fun b hb hl => (m6.same b (by have := g5.1.size; omega) (fun e => off (.inr (by
          obtain ⟨gj, hgj, q⟩ := hb
          exact ⟨gj, hgj, by rw [← e]; exact q⟩)))).trans (g5.1.same b hl (flapart b hb))) (by rintro b ⟨ad, q, _⟩; cases q)
      have hix3 : s.change.1.idx n = none := by unfold Dk.idx; rw [hfs]; exact hix
      have gg : RefG s5 (gs ++ [(Sl.mk none 0 0, Sl.mk none 0 0)]) cin' kp H6 d { s.change.1 with files := s.change.1.files ++ [⟨n, [], []⟩] } :=
        ⟨r6, g3.crash, fB, g3.wf.push hix3 (by rw [hfs]; exact hl')⟩
      obtain ⟨F', q1, q2⟩ := gg.out (fl := fl) (gs := gs) (F := F) (H := H) hF (((m3.mono fun b _ e => (hF b).2 (.inl e)).trans (g5.1.mono fun b _ e => (hF b).2 (.inr (.inl e)))).trans (m6.mono fun b _ e => (hF b).2 (.inl e))) (by
        rintro b (q | ⟨gj, hgj, q⟩)
        · exact (g5.2 b q).imp (fun z => .inl z) (fun z => by omega)
        · rcases List.mem_append.1 hgj with r | r
          · exact .inl (.inr ⟨gj, r, q⟩)
          · simp at r; subst r
            rcases q with ⟨ad, q, _⟩ | ⟨ad, q, _⟩ <;> cases q)
      exact hK F' H6 q1 q2
    · have hz' : s.change.2 ≠ 0 := by simpa using hz
      rw [if_neg hz'] at hK
      obtain ⟨F', q1, q2⟩ := g3.out (fl := fl) (gs := gs) (F := F) (H := H) hF (m3.mono fun b _ e => (hF b).2 (.inl e)) (fun b q => .inl q)
      exact hK F' H3 q1 q2

/-- A file is taken out. -/
theorem Rdrop_ok {fl : Sl} {gs : List (Sl × Sl)} {cin kp : Int} {d : Nat} {s : Dk} {H : Heap} {i : Nat} {K : Unit → Heap → Prop} (h : RefG fl gs cin kp H d s) (hi : i < s.files.length)
    (hK : ∀ fl' H', RefG fl' (gs.eraseIdx i) cin kp H' d { s with files := s.files.eraseIdx i } → Mod (fun b => b = d) H H' → (∀ b, ownB fl' b → H.size ≤ b) → K () H') : fathomref01_Disk_drop.sp (at0 d) i H K := by
  refine fathomref01_Disk_drop.of ?_
  unfold fathomref01_Disk_drop.vc
  simp only [optK_eq]
  have hfl := h.wf.files
  have hn := h.files.n
  have hcap := h.files.arr.cap
  have hlen := rfs_length s.files gs h.files.len
  refine h.head.ld (c := cSl) (i := 0) (x := fl) rfl ?_
  refine ⟨⟨by omega, by omega⟩, ?_⟩
  have t1 : RdE ERf H (slA fl.a fl.c 0 3) ((rfs s.files gs).take i) := by rw [slA_zero']; exact h.files.arr.rd.take
  refine SlE.append (E := ERf) elRf (s := Sl.mk none 0 0) (x := ⟨slA fl.a fl.c 0 3, (i : Int).toNat - 0, fl.c - 0⟩) (l := []) (SlE.nil _ _ _) t1 (by simp; omega) (by simp; omega) (by simp; omega) fun l1 H1 o1 g1 _ => ?_
  have f1 : ∀ b, ownB l1 b → H.size ≤ b := fun b hb => (g1.2 b hb).resolve_left (by rintro ⟨ad, q, _⟩; cases q)
  have m1 : Mod (fun _ => False) H H1 := g1.1.mono fun b _ hb => by obtain ⟨ad, q, _⟩ := hb; cases q
  have h1 := h.head.ext m1
  have a1 : SlE ERf ty_fathomref01_File H1 fl (rfs s.files gs) := h.files.arr.ext m1
  refine h1.ld (c := cSl) (i := 0) (x := fl) rfl ?_
  have hw : IntKind.i64.wrap ((i : Int) + 1) = ((i + 1 : Nat) : Int) := succ64 i (by omega)
  simp only [hw]
  refine ⟨⟨by omega, by omega⟩, ?_⟩
  have t2 : RdE ERf H1 (slA fl.a fl.c (i + 1) 3) ((rfs s.files gs).drop (i + 1)) := RdE.drop a1.rd (by rw [hlen]; omega)
  simp only [Int.toNat_natCast]
  refine SlE.append (E := ERf) elRf (s := l1) (x := ⟨slA fl.a fl.c (i + 1) 3, fl.n - (i + 1), fl.c - (i + 1)⟩) o1 t2 (by simp [hlen]; omega) (by simp [hlen]; omega) (by simp [hlen]; omega) fun l2 H2 o2 g2 _ => ?_
  have z1 := m1.size; have z2 := g2.1.size
  have h2 : RowT H2 d ty_fathomref01_Disk _ := h1.mod g2.1 (fun hb => by have := f1 _ hb; have := obj_lt h.head; omega)
  refine h2.st (i := 0) (by simp [headR]) (by rfl) fun H3 r3 m3 s3 => ?_
  have f2 : ∀ b, ownB l2 b → H.size ≤ b := fun b hb => by
    rcases g2.2 b hb with q | q
    · exact f1 b q
    · omega
  have hdl := obj_lt h.head
  have off := RefG.off h.head h.files
  have mm : Mod (fun b => b = d) H H3 := ⟨by omega, fun b hb hne => (m3.same b (by omega) hne).trans ((g2.1.same b (by omega) fun hh => by have := f1 b hh; omega).trans (m1.same b hb id))⟩
  refine hK l2 H3 ⟨r3, h.crash, ?_, h.wf.sub hi rfl rfl rfl rfl rfl⟩ mm f2
  refine h.files.erase (H' := H3) ?_ (fun b hb hl => mm.same b hl fun e => off (.inr (by obtain ⟨gj, hgj, q⟩ := hb; exact ⟨gj, hgj, by rw [← e]; exact q⟩)))
  rw [List.eraseIdx_eq_take_drop_succ]
  simp only [List.nil_append] at o2
  exact o2.keep fun b hb hl => m3.same b hl fun e => by have := f2 b hb; omega

end Go.Proofs.YtjjfngnokbboeaaGreatDoor
