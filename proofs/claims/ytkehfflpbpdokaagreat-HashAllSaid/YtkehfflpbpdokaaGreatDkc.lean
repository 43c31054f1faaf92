/-
 The disk: files made, taken away, named anew.
-/
import Derived.Test.YtkehfflpbpdokaaGreatDkb
namespace Go.Proofs.YtkehfflpbpdokaaGreat
open Go.MapKept
theorem HasE_push {es : Array MapEntry} {k v k' v' : Value} {c : Nat} : HasE (es.push { key := k, val := v, born := c }) k' v' ↔ HasE es k' v' ∨ (k' = k ∧ v' = v) := by
 constructor
 ·rintro ⟨e, he, h1, h2⟩
  simp only [Array.toList_push, List.mem_append, List.mem_singleton] at he
  rcases he with he | he
  ·exact .inl ⟨e, he, h1, h2⟩
  ·subst he; exact .inr ⟨h1.symm, h2.symm⟩
 ·rintro (⟨e, he, h1, h2⟩ | ⟨rfl, rfl⟩)
  ·exact ⟨e, by simp [Array.mem_toList_iff.1 he], h1, h2⟩
  ·exact ⟨⟨k', v', c⟩, by simp, rfl, rfl⟩
theorem str_inj {a b : ByteArray} (h : Value.string a = .string b) : a = b := by cases h; rfl
theorem ptrV_inj {a b : Nat} (h : ptrV a = ptrV b) : a = b := by unfold ptrV at h; simp at h; exact h
theorem FilesAt.push {H H' : Heap} {x : DG} {fs : List Fl} (h : FilesAt H x fs) {f : Fl} {g : FG} (hq : FileAt H' g f) (hm : MapAt .string H' x.m (x.es.push { key := .string f.name, val := ptrV g.p, born := x.clk }) (x.clk + 1))
  (hk : ∀ b, x.fp b → b ≠ x.m → b < H.size → H'[b]? = H[b]?) (hg : ∀ b, g.fp b → H.size ≤ b) : FilesAt H' ⟨x.m, x.es.push { key := .string f.name, val := ptrV g.p, born := x.clk }, x.clk + 1, x.gs ++ [g]⟩ (fs ++ [f]) := by
 have old : ∀ (i : Nat) (f : Fl) (g : FG), fs[i]? = some f → x.gs[i]? = some g → HasE x.es (.string f.name) (ptrV g.p) ∧ FileAt H' g f := fun i f g h1 h2 =>
  ⟨(h.ent i f g h1 h2).1, (h.ent i f g h1 h2).2.keep fun b hb hbl => hk b (.inr ⟨g, List.mem_of_getElem? h2, hb⟩) (fun e => h.mapOff (List.mem_of_getElem? h2) (e ▸ hb)) hbl⟩
 have hlen := h.len
 have split : ∀ (i : Nat) (f' : Fl) (g' : FG), (fs ++ [f])[i]? = some f' → (x.gs ++ [g])[i]? = some g' → (fs[i]? = some f' ∧ x.gs[i]? = some g') ∨ (i = fs.length ∧ f' = f ∧ g' = g) := by
  intro i f' g' h1 h2
  by_cases hi : i < fs.length
  ·rw [List.getElem?_append_left hi] at h1
   rw [List.getElem?_append_left (by omega)] at h2
   exact .inl ⟨h1, h2⟩
  ·rw [List.getElem?_append_right (by omega)] at h1 h2
   have : i = fs.length := by
    have := (List.getElem?_eq_some_iff.1 h1).1; simp at this; omega
   subst this
   simp [hlen] at h1 h2
   exact .inr ⟨rfl, h1.symm, h2.symm⟩
 refine ⟨hm, by simp [hlen], by simp [h.size], ?_, ?_, ?_⟩
 ·intro i f' g' h1 h2
  rcases split i f' g' h1 h2 with ⟨q1, q2⟩ | ⟨_, rfl, rfl⟩
  ·exact ⟨HasE_push.2 (.inl (old i f' g' q1 q2).1), (old i f' g' q1 q2).2⟩
  ·exact ⟨HasE_push.2 (.inr ⟨rfl, rfl⟩), hq⟩
 ·intro k v hkv
  rcases HasE_push.1 hkv with hkv | ⟨rfl, rfl⟩
  ·obtain ⟨i, f', g', h1, h2, h3, h4⟩ := h.ent' k v hkv
   have hi := (List.getElem?_eq_some_iff.1 h1).1
   exact ⟨i, f', g', by rw [List.getElem?_append_left hi]; exact h1, by simp only; rw [List.getElem?_append_left (by omega)]; exact h2, h3, h4⟩
  ·exact ⟨fs.length, f, g, by simp, by simp [← hlen], rfl, rfl⟩
 ·intro i j g1 g2 h1 h2 hij b hb1 hb2
  have ex : ∀ (i : Nat) (g1 : FG), (x.gs ++ [g])[i]? = some g1 → (x.gs[i]? = some g1 ∧ i < x.gs.length) ∨ (i = x.gs.length ∧ g1 = g) := by
   intro i g1 h1
   by_cases hi : i < x.gs.length
   ·rw [List.getElem?_append_left hi] at h1; exact .inl ⟨h1, hi⟩
   ·rw [List.getElem?_append_right (by omega)] at h1
    have : i = x.gs.length := by
     have := (List.getElem?_eq_some_iff.1 h1).1; simp at this; omega
    subst this
    simp at h1
    exact .inr ⟨rfl, h1.symm⟩
  rcases ex i g1 h1 with ⟨q1, l1⟩ | ⟨e1, rfl⟩ <;> rcases ex j g2 h2 with ⟨q2, l2⟩ | ⟨e2, rfl⟩
  ·exact h.apart i j g1 g2 q1 q2 hij b hb1 hb2
  ·obtain ⟨_, _, _, q⟩ := h.fAt q1
   have := q.lt b hb1
   have := hg b hb2; omega
  ·obtain ⟨_, _, _, q⟩ := h.fAt q2
   have := q.lt b hb2
   have := hg b hb1; omega
  ·omega
theorem FilesAt.erase {H H' : Heap} {x : DG} {fs : List Fl} {es' : Array MapEntry} (h : FilesAt H x fs) {i : Nat} {f : Fl} (hf : fs[i]? = some f) (hinj : ∀ (j : Nat) (f' : Fl), fs[j]? = some f' → f'.name = f.name → i = j)
  (hm : MapAt .string H' x.m es' x.clk) (hit : ∀ k v, HasE es' k v ↔ HasE x.es k v ∧ k ≠ .string f.name) (hsz : ∀ u, HasE x.es (.string f.name) u → es'.size + 1 = x.es.size)
  (hk : ∀ b, x.fp b → b ≠ x.m → b < H.size → H'[b]? = H[b]?) : FilesAt H' ⟨x.m, es', x.clk, x.gs.eraseIdx i⟩ (fs.eraseIdx i) := by
 have old : ∀ (i : Nat) (f : Fl) (g : FG), fs[i]? = some f → x.gs[i]? = some g → FileAt H' g f := fun i f g h1 h2 =>
  (h.ent i f g h1 h2).2.keep fun b hb hbl => hk b (.inr ⟨g, List.mem_of_getElem? h2, hb⟩) (fun e => h.mapOff (List.mem_of_getElem? h2) (e ▸ hb)) hbl
 have hil := (List.getElem?_eq_some_iff.1 hf).1
 have hlen := h.len
 have back : ∀ {α : Type} (l : List α) (j : Nat) (a : α), (l.eraseIdx i)[j]? = some a → ∃ j', j' ≠ i ∧ l[j']? = some a ∧ j' = if j < i then j else j + 1 := by
  intro α l j a ha
  rw [List.getElem?_eraseIdx] at ha
  split at ha
  ·rename_i q; exact ⟨j, by omega, ha, by rw [if_pos q]⟩
  ·rename_i q; exact ⟨j + 1, by omega, ha, by rw [if_neg q]⟩
 obtain ⟨g0, hg0, he0, _⟩ := h.gAt hf
 have hsize := hsz _ he0
 refine ⟨hm, ?_, ?_, ?_, ?_, ?_⟩
 ·simp only; rw [List.length_eraseIdx_of_lt (by omega), List.length_eraseIdx_of_lt hil, hlen]
 ·simp only; rw [List.length_eraseIdx_of_lt hil]; have := h.size; omega
 ·intro j f' g' h1 h2
  obtain ⟨j1, n1, q1, e1⟩ := back fs j f' h1
  obtain ⟨j2, n2, q2, e2⟩ := back x.gs j g' h2
  have : j1 = j2 := by rw [e1, e2]
  subst this
  refine ⟨(hit _ _).2 ⟨(h.ent j1 f' g' q1 q2).1, fun e => n1 (hinj j1 f' q1 (str_inj e)).symm⟩, old j1 f' g' q1 q2⟩
 ·intro k v hkv
  obtain ⟨h1, h2⟩ := (hit k v).1 hkv
  obtain ⟨j, f', g', r1, r2, r3, r4⟩ := h.ent' k v h1
  have hji : j ≠ i := by
   intro e; subst e
   rw [hf] at r1; cases r1
   exact h2 r3
  refine ⟨if j < i then j else j - 1, f', g', ?_, ?_, r3, r4⟩
  ·by_cases q : j < i
   ·rw [if_pos q, List.getElem?_eraseIdx, if_pos q]; exact r1
   ·rw [if_neg q, List.getElem?_eraseIdx, if_neg (by omega), show j - 1 + 1 = j by omega]; exact r1
  ·simp only
   by_cases q : j < i
   ·rw [if_pos q, List.getElem?_eraseIdx, if_pos q]; exact r2
   ·rw [if_neg q, List.getElem?_eraseIdx, if_neg (by omega), show j - 1 + 1 = j by omega]; exact r2
 ·intro a c ga gc h1 h2 hac
  obtain ⟨j1, n1, q1, e1⟩ := back x.gs a ga h1
  obtain ⟨j2, n2, q2, e2⟩ := back x.gs c gc h2
  refine h.apart j1 j2 ga gc q1 q2 ?_
  rw [e1, e2]
  split <;> split <;> omega
theorem mem_erase_fp {x : DG} {es' : Array MapEntry} {i : Nat} : ∀ b, DG.fp ⟨x.m, es', x.clk, x.gs.eraseIdx i⟩ b → x.fp b := by
 rintro b (e | ⟨g, hg, hb⟩)
 ·exact .inl e
 ·exact .inr ⟨g, List.mem_of_mem_eraseIdx hg, hb⟩
theorem Dk.WF.sub {s s' : Dk} (h : s.WF) {i : Nat} (hi : i < s.files.length) (hf : s'.files = s.files.eraseIdx i) (hm : s'.most = s.most) (hq : s'.quota = s.quota) (hc : s'.crash = s.crash) (hd : s'.down = s.down) : s'.WF := by
 have hu : s'.used ≤ s.used := by
  have := sum_erase (fun f : Fl => f.pages.length) s.files i _ (List.getElem?_eq_getElem hi)
  unfold Dk.used; rw [hf]; omega
 refine ⟨?_, by rw [hm]; exact Nat.le_trans hu h.used, by rw [hm, hq]; exact h.most, by rw [hq]; exact h.quota, ?_, by rw [hd, hc]; exact h.down, by rw [hc]; exact h.cin⟩
 ·rw [hf]
  exact List.Nodup.sublist ((List.eraseIdx_sublist s.files i).map _) h.nodup
 ·rw [hf, List.length_eraseIdx_of_lt hi]; have := h.files; omega
theorem drop_ok {x : DG} {cin kp : Int} {d : Nat} {s : Dk} {H : Heap} {n : ByteArray} {K : Unit → Heap → Prop} (h : DiskG x cin kp H d s)
  (hN : s.idx n = none → K () H)
  (hK : ∀ i es' H', s.idx n = some i → DiskG ⟨x.m, es', x.clk, x.gs.eraseIdx i⟩ cin kp H' d (s.drop n) → Mod (fun b => b = d ∨ b = x.m) H H' → H'.size = H.size → K () H') : ZcF.sp (at0 d) n H K := by
 refine ZcF.of ?_
 unfold ZcF.vc
 simp only [optK_eq]
 refine h.head.ld (c := cMap) (i := 0) (x := some x.m) rfl ?_
 refine lookup_ok h.files rfl h.wf (fun i f g hi hf hn hg hF => ?_) (fun hi => br_f rfl (hN hi))
 refine br_t rfl ?_
 refine h.head.ld (c := cInt .i64) (i := 1) (x := s.used) rfl ?_
 simp only [optK_eq]
 refine hF.row.ld (c := cSl) (i := 0) (x := g.now) rfl ?_
 have hnow := hF.now.n (by decide)
 refine h.head.st (i := 1) (by decide : 1 < 10) (by rfl) fun H1 r1 m1 s1 => ?_
 refine r1.ld (c := cMap) (i := 0) (x := some x.m) rfl ?_
 have hdx := DiskG.fileTy h.head h.files
 have f1 : FilesAt H1 x s.files := h.files.keep fun b hb hl => m1.same b hl fun e => hdx (e ▸ hb)
 obtain ⟨et, inf, hu, hd, hi', hz⟩ := mapFiles
 refine doT_delete hu hd f1.map (k := .string n) trivial fun es' H2 m2 it sz mo2 s2 => ?_
 have hdm : d ≠ x.m := fun e => hdx (.inl e)
 have hdr : s.drop n = { s with files := s.files.eraseIdx i } := by unfold Dk.drop; rw [hi]
 have hil := (List.getElem?_eq_some_iff.1 hf).1
 have hsum := sum_erase (fun f : Fl => f.pages.length) s.files i f hf
 refine hK i es' H2 hi ⟨?_, by rw [hdr]; exact h.crash, ?_, ?_⟩ ((m1.mono fun b _ e => .inl e).trans (mo2.mono fun b _ e => .inr e)) (by omega)
 ·have e1 : IntKind.i64.wrap ((s.used : Int) - (g.now.n : Int)) = ((s.drop n).used : Int) := by
   have h1 : (s.drop n).used + f.pages.length = s.used := by rw [hdr]; exact hsum
   have h2 := h.wf.used; have h3 := h.wf.most; have h4 := h.wf.quota
   rw [hnow, wrap64 (by omega) (by omega)]; omega
  have r2 := mo2.at r1 hdm
  rw [e1] at r2
  rw [hdr] at r2 ⊢
  exact r2
 ·rw [hdr]
  refine FilesAt.erase (H := H1) f1 hf (fun j f' h1 h2 => (h.wf.inj hf h1 h2.symm)) m2 (by rw [hn]; exact it) (by rw [hn]; exact sz) fun b hb hne hl => mo2.same b hl hne
 ·rw [hdr]; exact h.wf.sub hil rfl rfl rfl rfl rfl
theorem Dk.WF.push {s : Dk} (h : s.WF) {n : ByteArray} (hn : s.idx n = none) (hl : s.files.length ≠ 4096) : ({ s with files := s.files ++ [⟨n, [], []⟩] } : Dk).WF := by
 have hu : ({ s with files := s.files ++ [⟨n, [], []⟩] } : Dk).used = s.used := by simp [Dk.used, Fl.pages]
 refine ⟨?_, by rw [hu]; exact h.used, h.most, h.quota, ?_, h.down, h.cin⟩
 ·simp only [List.map_append, List.map_cons, List.map_nil]
  rw [List.nodup_append]
  refine ⟨h.nodup, by simp, ?_⟩
  intro a ha b hb e
  simp at hb
  subst hb
  obtain ⟨f, hf, rfl⟩ := List.mem_map.1 ha
  exact Dk.idx_none hn f hf (ba_eq e)
 ·have := h.files
  simp; omega
theorem Create_ok {F : Nat → Prop} {d : Nat} {s : Dk} {H : Heap} {n : ByteArray} {K : Int → Heap → Prop} (h : DiskAt F H d s)
  (hK : ∀ F' H', DiskAt F' H' d (s.create n).1 → Step F F' H H' → K (s.create n).2 H') : Zcd.sp (at0 d) n H K := by
 have h0 := h
 obtain ⟨x, cin, kp, g, hF⟩ := h
 refine Zcd.of ?_
 unfold Zcd.vc
 simp only [optK_eq]
 refine ready_ok g.head (down := s.down) rfl ?_
 have stay : ∀ e : Int, s.create n = (s, e) → K e H := by
  intro e he
  have := hK F H (by rw [he]; exact h0) (.refl _ _)
  rw [he] at this; exact this
 cases hd : s.down with
 | true => exact stay 4 (by unfold Dk.create; rw [hd]; rfl)
 | false =>
   refine br_f rfl ?_
   refine g.head.ld (c := cMap) (i := 0) (x := some x.m) rfl ?_
   have next : ∀ p : Option Addr × Bool, p.2 = (s.idx n).isSome → Zdd.sp n H (fun (r : Bool) H2 => br (!r) (K (2 : Int) H2) (br p.2 (K (10 : Int) H2) (ld cMap H2 (Addr.add ⟨d, 0, none⟩ 0) fun (x_2 : Option Nat) => lenM H2 x_2 fun (n_1 : Nat) => br ((n_1 : Int) == (4096 : Int)) (K (3 : Int) H2) (Zcj.sp (at0 d) H2 fun (e_1 : Int) H3 => br (e_1 == 0) (ld cMap H3 (Addr.add ⟨d, 0, none⟩ 0) fun (x_3 : Option Nat) => newC H3 #[(.slice none 0 0), (.slice none 0 0), (.slice none 0 0)] YaA fun p H4 => doU Tryz.prog (Instr.mapUpdate Yab (.map x_3) (.string n) (.pointer (some p))) H4 fun H5 => K e_1 H5) (K e_1 H3))))) := by
    intro p hp
    refine named_ok ?_
    refine br_mk (fun hn => stay 2 ?_) (fun hn => ?_)
    ·unfold Dk.create; rw [hd]; simp at hn; simp [hn]
    ·simp at hn
     rw [hp]
     refine br_mk (fun hi => stay 10 ?_) (fun hi => ?_)
     ·unfold Dk.create; rw [hd]; simp [hn, hi]
     ·refine g.head.ld (c := cMap) (i := 0) (x := some x.m) rfl ?_
      refine ⟨s.files.length, ⟨x.es, x.clk, g.files.map.obj, g.files.size⟩, ?_⟩
      refine br_mk (fun hl => stay 3 ?_) (fun hl => ?_)
      ·unfold Dk.create; rw [hd]; simp at hl; simp [hn, hi, show s.files.length = 4096 by omega]
      ·have hl' : s.files.length ≠ 4096 := by simp at hl; omega
       have hix : s.idx n = none := by simpa using hi
       have hcr : s.create n = s.step fun t => { t with files := t.files ++ [⟨n, [], []⟩] } := by unfold Dk.create; rw [hd]; simp [hn, hi, hl']
       rw [hcr] at hK
       refine change_ok g fun cin' H3 g3 m3 s3 => ?_
       unfold Dk.step at hK
       refine br_mk (fun hz => ?_) (fun hz => ?_)
       ·have hz' : s.change.2 = 0 := by simpa using hz
        rw [if_pos hz'] at hK
        rw [hz']
        refine g3.head.ld (c := cMap) (i := 0) (x := some x.m) rfl ?_
        refine newC_rowT fun H4 s4 r4 e4 => ?_
        obtain ⟨et, inf, hu, hdd, hi', hz⟩ := mapFiles
        have hfs := s.change_files
        have hno : ∀ u, ¬ HasE x.es (.string n) u := by
         intro u hu'
         obtain ⟨i, f, gf, q1, _, q3, _⟩ := g3.files.ent' _ _ hu'
         rw [hfs] at q1
         exact Dk.idx_none hix f (List.mem_of_getElem? q1) (str_inj q3).symm
        have f4 : FilesAt H4 x s.change.1.files := g3.files.keep fun b hb hl => e4.same b hl id
        refine doU_insert hu hdd f4.map (k := .string n) trivial hno fun H5 m5 mo5 s5 => ?_
        have hd4 := e4.at g3.head id
        have hdx := DiskG.fileTy hd4 f4
        have hdm : d ≠ x.m := fun e => hdx (.inl e)
        have hnm : H3.size ≠ x.m := by have := g3.files.map.lt; omega
        have r5 := mo5.at r4 hnm
        have hq : FileAt H5 ⟨H3.size, Sl.mk none 0 0, Sl.mk none 0 0, Sl.mk none 0 0⟩ ⟨n, [], []⟩ :=
         ⟨r5, SlE.nil _ _ _, SlE.nil _ _ _, SlE.nil _ _ _, by rintro b ⟨ad, q, _⟩; cases q⟩
        have f5 := FilesAt.push (H := H3) g3.files (f := ⟨n, [], []⟩) (g := ⟨H3.size, Sl.mk none 0 0, Sl.mk none 0 0, Sl.mk none 0 0⟩) hq m5 (fun b hb hne hl => (mo5.same b (by omega) hne).trans (e4.same b hl id)) (by
         rintro b (e | ⟨ad, q, _⟩ | ⟨ad, q, _⟩ | ⟨ad, q, _⟩)
         ·rw [e]; exact Nat.le_refl _
         ·cases q
         ·cases q
         ·cases q)
        have hix3 : s.change.1.idx n = none := by unfold Dk.idx; rw [hfs]; exact hix
        have gg : DiskG ⟨x.m, _, _, _⟩ cin' kp H5 d { s.change.1 with files := s.change.1.files ++ [⟨n, [], []⟩] } :=
         ⟨by have := mo5.at hd4 hdm
             have hu : ({ s.change.1 with files := s.change.1.files ++ [⟨n, [], []⟩] } : Dk).used = s.change.1.used := by simp [Dk.used, Fl.pages]
             rw [hu]; exact this, g3.crash, f5, g3.wf.push hix3 (by rw [hfs]; exact hl')⟩
        obtain ⟨F', q1, q2⟩ := gg.out (x := x) (F := F) (H := H) hF (((m3.mono fun b _ e => (hF b).2 (.inl e)).trans (Ext.mod e4)).trans (mo5.mono fun b _ e => (hF b).2 (.inr (.inl e)))) (by
         rintro b (e | ⟨gf, hgf, hb⟩)
         ·exact .inl (.inl e)
         ·simp at hgf
          rcases hgf with hgf | rfl
          ·exact .inl (.inr ⟨gf, hgf, hb⟩)
          ·rcases hb with e | ⟨ad, q, _⟩ | ⟨ad, q, _⟩ | ⟨ad, q, _⟩
           ·right; rw [e]; simp only; omega
           ·cases q
           ·cases q
           ·cases q)
        exact hK F' H5 q1 q2
       ·have hz' : s.change.2 ≠ 0 := by simpa using hz
        rw [if_neg hz'] at hK
        obtain ⟨F', q1, q2⟩ := g3.out (x := x) (F := F) (H := H) hF (m3.mono fun b _ e => (hF b).2 (.inl e)) (fun b q => .inl q)
        exact hK F' H3 q1 q2
   refine lookup_ok g.files rfl g.wf (fun i f gf h1 h2 h3 h4 h5 => next _ (by rw [h1]; rfl)) (fun h1 => next _ (by rw [h1]; rfl))
end Go.Proofs.YtkehfflpbpdokaaGreat
