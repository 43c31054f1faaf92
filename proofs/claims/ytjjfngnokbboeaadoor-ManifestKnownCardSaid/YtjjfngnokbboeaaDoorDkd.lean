/-
  The disk: Remove, Rename, Crash.
-/
import Derived.Test.YtjjfngnokbboeaaDoorDkc
namespace Go.Proofs.YtjjfngnokbboeaaDoor
open Go.MapKept

theorem Dk.idx_none_of {s : Dk} {n : ByteArray} (h : ∀ f ∈ s.files, f.name ≠ n) : s.idx n = none := by
  unfold Dk.idx
  rw [List.findIdx?_eq_none_iff]
  intro f hf
  have := h f hf
  cases hb : (f.name.toList == n.toList) with
  | false => rfl
  | true => exact absurd (ba_eq (by simpa using hb)) this

theorem Remove_none {n : ByteArray} {H : Heap} {K : Int → Heap → Prop} (hK : K 1 H) : disk_Disk_Remove.sp none n H K := by
  refine disk_Disk_Remove.of ?_
  unfold disk_Disk_Remove.vc
  exact open_none hK

theorem Remove_ok {F : Nat → Prop} {d : Nat} {s : Dk} {H : Heap} {n : ByteArray} {K : Int → Heap → Prop} (h : DiskAt F H d s)
    (hK : ∀ F' H', DiskAt F' H' d (s.remove n).1 → Step F F' H H' → K (s.remove n).2 H') : disk_Disk_Remove.sp (at0 d) n H K := by
  have h0 := h
  obtain ⟨x, cin, kp, g, hF⟩ := h
  refine disk_Disk_Remove.of ?_
  unfold disk_Disk_Remove.vc
  have stay : ∀ e : Int, s.remove n = (s, e) → K e H := by
    intro e he
    have := hK F H (by rw [he]; exact h0) (.refl _ _)
    rw [he] at this; exact this
  refine open_ok g (fun hd => ?_) (fun hd hN => ?_) (fun i f gf hd hi hf hn hg hFl => ?_)
  · exact stay 4 (by unfold Dk.remove; rw [hd]; rfl)
  · exact stay 11 (by unfold Dk.remove; rw [hd, hN]; rfl)
  · refine br_f rfl ?_
    have hr : s.remove n = s.step fun t => t.drop n := by unfold Dk.remove; rw [hd, hi]; rfl
    rw [hr] at hK
    unfold Dk.step at hK
    refine change_ok g fun cin' H3 g3 m3 s3 => ?_
    refine br_mk (fun hz => ?_) (fun hz => ?_)
    · have hz' : s.change.2 = 0 := by simpa using hz
      rw [if_pos hz'] at hK
      rw [hz']
      have hi3 : s.change.1.idx n = some i := by unfold Dk.idx; rw [s.change_files]; exact hi
      refine drop_ok g3 (fun h1 => by rw [hi3] at h1; cases h1) fun j es' H' hj g4 m4 s4 => ?_
      obtain ⟨F', q1, q2⟩ := g4.out (x := x) (F := F) (H := H) hF ((m3.mono fun b _ e => (hF b).2 (.inl e)).trans (m4.mono fun b _ e => (hF b).2 (by rcases e with e | e; exact .inl e; exact .inr (.inl e)))) (fun b q => .inl (mem_erase_fp b q))
      exact hK F' H' q1 q2
    · have hz' : s.change.2 ≠ 0 := by simpa using hz
      rw [if_neg hz'] at hK
      obtain ⟨F', q1, q2⟩ := g3.out (x := x) (F := F) (H := H) hF (m3.mono fun b _ e => (hF b).2 (.inl e)) (fun b q => .inl q)
      exact hK F' H3 q1 q2

/-- A file has another name. -/
theorem FilesAt.name {H H' : Heap} {x : DG} {fs : List Fl} {es' : Array MapEntry} {clk' : Nat} (h : FilesAt H x fs) {i : Nat} {f : Fl} {g : FG} {n : ByteArray} (hf : fs[i]? = some f) (hg : x.gs[i]? = some g) (hinj : ∀ (j : Nat) (f' : Fl), fs[j]? = some f' → f'.name = f.name → i = j)
    (hm : MapAt .string H' x.m es' clk') (hit : ∀ k v, HasE es' k v ↔ (HasE x.es k v ∧ k ≠ .string f.name) ∨ (k = .string n ∧ v = ptrV g.p)) (hsz : es'.size = x.es.size)
    (hk : ∀ b, x.fp b → b ≠ x.m → b < H.size → H'[b]? = H[b]?) : FilesAt H' ⟨x.m, es', clk', x.gs⟩ (fs.modify i fun f => { f with name := n }) := by
  have old : ∀ (i : Nat) (f : Fl) (g : FG), fs[i]? = some f → x.gs[i]? = some g → FileAt H' g f := fun i f g h1 h2 =>
    (h.ent i f g h1 h2).2.keep fun b hb hbl => hk b (.inr ⟨g, List.mem_of_getElem? h2, hb⟩) (fun e => h.mapOff (List.mem_of_getElem? h2) (e ▸ hb)) hbl
  refine ⟨hm, by simp [h.len], by simp [hsz, h.size], ?_, ?_, h.apart⟩
  · intro j f' g' h1 h2
    by_cases hij : i = j
    · subst hij
      rw [modify_same hf] at h1
      simp only at h2
      rw [hg] at h2
      cases h1; cases h2
      refine ⟨(hit _ _).2 (.inr ⟨rfl, rfl⟩), ?_⟩
      have := old i f g hf hg
      exact ⟨this.row, this.now, this.syn, this.log, this.apart⟩
    · have h1' : fs[j]? = some f' := by rw [modify_other hij] at h1; exact h1
      exact ⟨(hit _ _).2 (.inl ⟨(h.ent j f' g' h1' h2).1, fun e => hij (hinj j f' h1' (str_inj e))⟩), old j f' g' h1' h2⟩
  · intro k v hkv
    rcases (hit k v).1 hkv with ⟨h1, h2⟩ | ⟨rfl, rfl⟩
    · obtain ⟨j, f', g', r1, r2, r3, r4⟩ := h.ent' k v h1
      have hij : i ≠ j := by
        intro e; subst e
        rw [hf] at r1; cases r1
        exact h2 r3
      exact ⟨j, f', g', by rw [modify_other hij]; exact r1, r2, r3, r4⟩
    · exact ⟨i, { f with name := n }, g, by rw [modify_same hf], hg, rfl, rfl⟩

theorem Dk.WF.setName {s : Dk} (h : s.WF) {n m : ByteArray} {i : Nat} (hi : s.idx n = some i) (hm : s.idx m = none) : (s.setName n m).WF := by
  have e : s.setName n m = { s with files := s.files.modify i fun f => { f with name := m } } := by unfold Dk.setName; rw [hi]
  obtain ⟨f, hf, hn⟩ := Dk.idx_some hi
  have hu : (s.setName n m).used = s.used := by
    rw [e]
    have := sum_modify (fun f : Fl => f.pages.length) (fun f => { f with name := m }) s.files i f hf
    unfold Dk.used
    simp only [Fl.pages] at this ⊢
    omega
  refine ⟨?_, by rw [hu, e]; exact h.used, by rw [e]; exact h.most, by rw [e]; exact h.quota, by rw [e]; simp; exact h.files, by rw [e]; exact h.down, by rw [e]; exact h.cin⟩
  rw [e]
  simp only
  have hnd := h.nodup
  have hil := (List.getElem?_eq_some_iff.1 hf).1
  rw [List.nodup_iff_pairwise_ne, List.pairwise_iff_getElem] at hnd ⊢
  intro a b ha hb hab
  simp only [List.length_map, List.length_modify] at ha hb
  have hno : ∀ (c : Nat) (hc : c < s.files.length), s.files[c].name.toList ≠ m.toList := fun c hc q => Dk.idx_none hm _ (List.getElem_mem hc) (ba_eq q)
  have := hnd a b (by simpa using ha) (by simpa using hb) hab
  simp only [List.getElem_map, List.getElem_modify] at this ⊢
  split <;> split
  · omega
  · exact fun q => hno b hb q.symm
  · exact fun q => hno a ha q
  · exact this

theorem rename_tail {x : DG} {cin kp : Int} {d : Nat} {t : Dk} {H : Heap} {n to : ByteArray} {K : Int → Heap → Prop} {i : Nat} {f : Fl} {gf : FG} (g : DiskG x cin kp H d t) (hi : t.idx n = some i) (hf : t.files[i]? = some f) (hn : f.name = n) (hg : x.gs[i]? = some gf) (hto : t.idx to = none)
    (hK : ∀ es' clk' H', DiskG ⟨x.m, es', clk', x.gs⟩ cin kp H' d (t.setName n to) → Mod (fun b => b = x.m) H H' → H'.size = H.size → K 0 H') :
    ld cMap H (Addr.add ⟨d, 0, none⟩ 0) fun (x : Option Nat) => doT cRaw Tryd.prog (Builtin.delete_ #[ty_maparr_string_ptr_disk_file, ty_string] ty_ #[(.map x), (.string n)]) H fun (_ : Value) H6 => ld cMap H6 (Addr.add ⟨d, 0, none⟩ 0) fun (x_1 : Option Nat) => doU Tryd.prog (Instr.mapUpdate ty_maparr_string_ptr_disk_file (.map x_1) (.string to) (.pointer (at0 gf.p))) H6 fun H7 => K 0 H7 := by
  refine g.head.ld (c := cMap) (i := 0) (x := some x.m) rfl ?_
  obtain ⟨et, inf, hu, hdd, hi', hz⟩ := mapFiles
  have hdx := DiskG.fileTy g.head g.files
  have hdm : d ≠ x.m := fun e => hdx (.inl e)
  have hent := (g.files.ent i f gf hf hg).1
  rw [hn] at hent
  refine doT_delete hu hdd g.files.map (k := .string n) trivial fun es' H6 m6 it sz mo6 s6 => ?_
  have h6 := g.head.mod mo6 hdm
  refine h6.ld (c := cMap) (i := 0) (x := some x.m) rfl ?_
  have hno : ∀ u, ¬ HasE es' (.string to) u := by
    intro u hu'
    obtain ⟨j, f', g', q1, _, q3, _⟩ := g.files.ent' _ _ ((it _ _).1 hu').1
    exact Dk.idx_none hto f' (List.mem_of_getElem? q1) (str_inj q3).symm
  refine doU_insert hu hdd m6 (k := .string to) trivial hno fun H7 m7 mo7 s7 => ?_
  have e : t.setName n to = { t with files := t.files.modify i fun f => { f with name := to } } := by unfold Dk.setName; rw [hi]
  have hwf := g.wf.setName hi hto
  have hu7 : (t.setName n to).used = t.used := by
    rw [e]
    have := sum_modify (fun f : Fl => f.pages.length) (fun f => { f with name := to }) t.files i f hf
    unfold Dk.used
    simp only [Fl.pages] at this ⊢
    omega
  refine hK (es'.push { key := .string to, val := .pointer (at0 gf.p), born := x.clk }) (x.clk + 1) H7 ⟨?_, by rw [e]; exact g.crash, ?_, hwf⟩ (mo6.trans mo7) (by omega)
  · have := mo7.at h6 hdm
    rw [hu7, e]; exact this
  · rw [e]
    refine FilesAt.name (H := H) g.files hf hg (fun j f' h1 h2 => g.wf.inj hf h1 h2.symm) m7 ?_ ?_ (fun b hb hne hl => (mo7.same b (by omega) hne).trans (mo6.same b hl hne))
    · intro k v
      rw [HasE_push, it, hn]
      exact Iff.rfl
    · simp; exact sz _ hent

theorem Rename_none {n m : ByteArray} {H : Heap} {K : Int → Heap → Prop} (hK : K 1 H) : disk_Disk_Rename.sp none n m H K := by
  refine disk_Disk_Rename.of ?_
  unfold disk_Disk_Rename.vc
  exact ready_none hK

theorem Dk.drop_idx {s : Dk} (h : s.WF) (n : ByteArray) : (s.drop n).idx n = none := by
  unfold Dk.drop
  cases hi : s.idx n with
  | none => exact hi
  | some j =>
    obtain ⟨f, hf, hn⟩ := Dk.idx_some hi
    refine Dk.idx_none_of fun f' hf' e => ?_
    simp only at hf'
    rw [List.mem_eraseIdx_iff_getElem?] at hf'
    obtain ⟨k, hk, hf'⟩ := hf'
    exact hk (h.inj hf' hf (by rw [e, hn]))

theorem Rename_ok {F : Nat → Prop} {d : Nat} {s : Dk} {H : Heap} {n to : ByteArray} {K : Int → Heap → Prop} (h : DiskAt F H d s)
    (hK : ∀ F' H', DiskAt F' H' d (s.rename n to).1 → Step F F' H H' → K (s.rename n to).2 H') : disk_Disk_Rename.sp (at0 d) n to H K := by
  have h0 := h
  obtain ⟨x, cin, kp, g, hF⟩ := h
  refine disk_Disk_Rename.of ?_
  unfold disk_Disk_Rename.vc
  simp only [optK_eq]
  have stay : ∀ e : Int, s.rename n to = (s, e) → K e H := by
    intro e he
    have := hK F H (by rw [he]; exact h0) (.refl _ _)
    rw [he] at this; exact this
  refine ready_ok g.head (down := s.down) rfl ?_
  cases hd : s.down with
  | true => exact stay 4 (by unfold Dk.rename; rw [hd]; rfl)
  | false =>
    refine br_f rfl ?_
    refine named_ok ?_
    refine br_mk (fun hn => stay 2 ?_) (fun hn => ?_)
    · unfold Dk.rename; rw [hd]; simp at hn; simp [hn]
    · simp at hn
      refine open_ok g (fun hd' => by rw [hd] at hd'; cases hd') (fun _ hN => ?_) (fun i f gf _ hi hf hfn hg hFl => ?_)
      · exact stay 11 (by unfold Dk.rename; rw [hd, hN]; simp [hn])
      · refine br_f rfl ?_
        have hr : s.rename n to = s.step fun t => if n.toList = to.toList then t else (t.drop to).setName n to := by unfold Dk.rename; rw [hd, hi]; simp [hn]
        rw [hr] at hK
        unfold Dk.step at hK
        refine change_ok g fun cin' H3 g3 m3 s3 => ?_
        have hfs := s.change_files
        refine br_mk (fun hz => ?_) (fun hz => ?_)
        · simp only [Bool.or_eq_true, bne_iff_ne, ne_eq, beq_iff_eq] at hz
          obtain ⟨F', q1, q2⟩ := g3.out (x := x) (F := F) (H := H) hF (m3.mono fun b _ e => (hF b).2 (.inl e)) (fun b q => .inl q)
          by_cases hz' : s.change.2 = 0
          · have he : n.toList = to.toList := by
              rcases hz with hz | hz
              · exact absurd hz' hz
              · exact hz
            rw [if_pos hz'] at hK
            simp only [he, if_true] at hK
            rw [hz']
            exact hK F' H3 q1 q2
          · rw [if_neg hz'] at hK
            exact hK F' H3 q1 q2
        · simp only [Bool.or_eq_false_iff, bne_eq_false_iff_eq, beq_eq_false_iff_ne, ne_eq] at hz
          obtain ⟨hz', hne⟩ := hz
          rw [if_pos hz'] at hK
          simp only [hne, if_false] at hK
          have hne' : n ≠ to := fun e => hne (by rw [e])
          have hf3 : s.change.1.files[i]? = some f := by rw [hfs]; exact hf
          refine drop_ok g3 (fun h1 => ?_) fun j es' H' hj g4 m4 s4 => ?_
          · have hdr : s.change.1.drop to = s.change.1 := by unfold Dk.drop; rw [h1]
            rw [hdr] at hK
            have hi3 : s.change.1.idx n = some i := by rw [← hfn]; exact Dk.idx_eq g3.wf hf3
            refine rename_tail g3 hi3 hf3 hfn hg h1 fun es' clk' H' g5 m5 s5 => ?_
            obtain ⟨F', q1, q2⟩ := g5.out (x := x) (F := F) (H := H) hF ((m3.mono fun b _ e => (hF b).2 (.inl e)).trans (m5.mono fun b _ e => (hF b).2 (.inr (.inl e)))) (fun b q => .inl q)
            exact hK F' H' q1 q2
          · have hdr : s.change.1.drop to = { s.change.1 with files := s.change.1.files.eraseIdx j } := by unfold Dk.drop; rw [hj]
            obtain ⟨fj, hfj, hnj⟩ := Dk.idx_some hj
            have hij : i ≠ j := by
              intro e; subst e
              rw [hf3] at hfj; cases hfj
              exact hne' (by rw [← hfn, hnj])
            have move : ∀ {α : Type} (l : List α) (a : α), l[i]? = some a → (l.eraseIdx j)[if i < j then i else i - 1]? = some a := by
              intro α l a ha
              by_cases q : i < j
              · rw [if_pos q, List.getElem?_eraseIdx, if_pos q]; exact ha
              · rw [if_neg q, List.getElem?_eraseIdx, if_neg (by omega), show i - 1 + 1 = i by omega]; exact ha
            have hf4 : (s.change.1.drop to).files[if i < j then i else i - 1]? = some f := by rw [hdr]; exact move _ _ hf3
            have hi4 : (s.change.1.drop to).idx n = some (if i < j then i else i - 1) := by
              have := Dk.idx_eq g4.wf hf4
              rw [hfn] at this; exact this
            refine rename_tail g4 hi4 hf4 hfn (gf := gf) (move _ _ hg) (Dk.drop_idx g3.wf to) fun es'' clk' H'' g5 m5 s5 => ?_
            obtain ⟨F', q1, q2⟩ := g5.out (x := x) (F := F) (H := H) hF (((m3.mono fun b _ e => (hF b).2 (.inl e)).trans (m4.mono fun b _ e => (hF b).2 (by rcases e with e | e; exact .inl e; exact .inr (.inl e)))).trans (m5.mono fun b _ e => (hF b).2 (.inr (.inl e)))) (by
              rintro b (e | ⟨gg, hgg, hb⟩)
              · exact .inl (.inl e)
              · exact .inl (.inr ⟨gg, List.mem_of_mem_eraseIdx hgg, hb⟩))
            exact hK F' H'' q1 q2

end Go.Proofs.YtjjfngnokbboeaaDoor
