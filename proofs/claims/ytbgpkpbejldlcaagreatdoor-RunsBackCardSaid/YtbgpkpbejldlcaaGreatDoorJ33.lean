/-
  The pool in plain words: frames lie within their files; how many writes, how many handles.
-/
import Derived.Test.YtbgpkpbejldlcaaGreatDoorJ31
import Derived.Test.YtbgpkpbejldlcaaGreatDoorDlg
namespace Go.Proofs.YtbgpkpbejldlcaaGreatDoor

theorem Pl.put_logs (s : Pl) (i : Nat) : (s.put i).1.d.logs ≤ s.d.logs + 1 := by
  unfold Pl.put
  split <;> exact s.d.write_logs _ _ _
theorem Pl.room_logs (s : Pl) : s.room.1.d.logs ≤ s.d.logs + 1 := by
  unfold Pl.room
  split
  · exact Nat.le_succ _
  · split
    · exact Nat.le_succ _
    · split
      · split
        · exact s.put_logs _
        · exact s.put_logs _
      · exact Nat.le_succ _

/-- How many pages a file has. -/
def Dk.size (s : Dk) (n : ByteArray) : Nat := match s.idx n with | some i => (s.file i).pages.length | none => 0
/-- Each frame lies within its file. -/
def Pl.Fit (s : Pl) : Prop := ∀ f ∈ s.fs, f.page < s.d.size f.name
theorem Dk.len_size {s : Dk} {n : ByteArray} (h : (s.len n).2 = 0) : (s.len n).1 = s.size n := by
  unfold Dk.len Dk.open at h ⊢
  unfold Dk.size
  by_cases hd : s.down = true
  · rw [if_pos hd] at h; cases h
  · rw [if_neg hd] at h ⊢
    cases hi : s.idx n with
    | none => rw [hi] at h; first | done | cases h
    | some i => rfl
theorem Pl.Fit.new {s : Pl} (h : s.Fit) {n : ByteArray} (hl : (s.d.len n).2 = 0) : s.find n (s.d.len n).1 = none := by
  unfold Pl.find
  rw [List.findIdx?_eq_none_iff]
  intro f hf
  cases hq : f.name.toList == n.toList with
  | false => rfl
  | true =>
    have e : f.name = n := ba_eq (by simpa using hq)
    have := h f hf
    rw [e, ← Dk.len_size hl] at this
    show (true && decide ((f.page : Int) = _)) = false
    rw [Bool.true_and]; exact decide_eq_false (by omega)

/-- What no file loses. -/
def Dk.Grows (s t : Dk) : Prop := ∀ n, s.size n ≤ t.size n
theorem Dk.Grows.refl (s : Dk) : s.Grows s := fun _ => Nat.le_refl _
theorem Dk.Grows.trans {a b c : Dk} (h : a.Grows b) (k : b.Grows c) : a.Grows c := fun n => Nat.le_trans (h n) (k n)
theorem Pl.Fit.grow {s t : Pl} (h : s.Fit) (hg : s.d.Grows t.d) (hf : ∀ f ∈ t.fs, ∃ f' ∈ s.fs, f'.key = f.key) : t.Fit := by
  intro f hft
  obtain ⟨f', hf', hk⟩ := hf f hft
  have h1 : f'.name = f.name := congrArg Prod.fst hk
  have h2 : f'.page = f.page := congrArg Prod.snd hk
  have := h f' hf'
  rw [h1, h2] at this
  exact Nat.lt_of_lt_of_le this (hg _)

theorem Dk.size_modify {s t : Dk} {i : Nat} {f : Fl} {g : Fl → Fl} (hf : s.files[i]? = some f) (ht : t.files = s.files.modify i g) (hn : (g f).name = f.name) (hle : f.pages.length ≤ (g f).pages.length) : s.Grows t := by
  intro n
  have hidx : t.idx n = s.idx n := by
    unfold Dk.idx
    rw [ht]
    have : ∀ (l : List Fl) (j : Nat), l[j]? = some f → (l.modify j g).findIdx? (fun f => f.name.toList == n.toList) = l.findIdx? (fun f => f.name.toList == n.toList) := by
      intro l
      induction l with
      | nil => intro j h; simp at h
      | cons a l ih =>
        intro j h
        match j with
        | 0 =>
          simp at h; subst h
          simp only [List.modify_zero_cons, List.findIdx?_cons, hn]
        | j + 1 =>
          simp only [List.getElem?_cons_succ] at h
          simp only [List.modify_succ_cons, List.findIdx?_cons, ih j h]
    exact this s.files i hf
  unfold Dk.size
  rw [hidx]
  cases hi : s.idx n with
  | none => exact Nat.le_refl _
  | some j =>
    obtain ⟨fj, hfj, _⟩ := Dk.idx_some hi
    show (s.file j).pages.length ≤ (t.file j).pages.length
    by_cases e : i = j
    · subst e
      rw [hf] at hfj; cases hfj
      have : t.files[i]? = some (g f) := by rw [ht]; exact modify_same hf
      rw [Dk.file_eq hf, Dk.file_eq this]; exact hle
    · have : t.files[j]? = some fj := by rw [ht, modify_other e]; exact hfj
      rw [Dk.file_eq hfj, Dk.file_eq this]; exact Nat.le_refl _
theorem Dk.Grows.files {s t : Dk} (h : t.files = s.files) : s.Grows t := by
  intro n
  have : t.size n = s.size n := by unfold Dk.size Dk.idx Dk.file; rw [h]
  omega
theorem Dk.change_grows (s : Dk) : s.Grows s.change.1 := .files s.change_files
theorem Dk.step_grows {s : Dk} {f : Dk → Dk} (h : ∀ t : Dk, t.files = s.files → t.Grows (f t)) : s.Grows (s.step f).1 := by
  unfold Dk.step
  split
  · exact (s.change_grows).trans (h _ s.change_files)
  · exact s.change_grows
theorem Fl.addW_pages (f : Fl) (w : Wr) : (({ f with log := f.log ++ [w] } : Fl)).pages = putP f.pages w := by simp [Fl.pages]
theorem Dk.write_grows (s : Dk) (n : ByteArray) (k : Int) (b : List UInt8) : s.Grows (s.write n k b).1 := by
  unfold Dk.write
  split
  · exact .refl _
  · split
    · split
      · exact .refl _
      · rename_i i hi
        obtain ⟨f, hf, _⟩ := Dk.idx_some hi
        split
        · exact .refl _
        · split
          · exact .refl _
          · refine Dk.step_grows fun t ht => ?_
            exact Dk.size_modify (i := i) (f := f) (g := fun f => { f with log := f.log ++ [_] }) (by rw [ht]; exact hf) rfl rfl (by rw [Fl.addW_pages, putP_length]; omega)
    · exact .refl _
theorem Dk.sync_grows (s : Dk) (n : ByteArray) : s.Grows (s.sync n).1 := by
  unfold Dk.sync
  split
  · exact .refl _
  · split
    · exact .refl _
    · rename_i i hi
      obtain ⟨f, hf, _⟩ := Dk.idx_some hi
      refine Dk.step_grows fun t ht => ?_
      exact Dk.size_modify (i := i) (f := f) (g := fun f => { f with synced := f.pages, log := [] }) (by rw [ht]; exact hf) rfl rfl (by simp [Fl.pages])
theorem Dk.create_grows (s : Dk) (n : ByteArray) : s.Grows (s.create n).1 := by
  unfold Dk.create
  split
  · exact .refl _
  · split
    · exact .refl _
    · split
      · exact .refl _
      · split
        · exact .refl _
        · refine Dk.step_grows fun t _ m => ?_
          unfold Dk.size
          cases hi : t.idx m with
          | none => exact Nat.zero_le _
          | some i =>
            obtain ⟨f, hf, _⟩ := Dk.idx_some hi
            have hl := (List.getElem?_eq_some_iff.1 hf).1
            have hi' : ({ t with files := t.files ++ [⟨n, [], []⟩] } : Dk).idx m = some i := by
              unfold Dk.idx at hi ⊢
              simp only [List.findIdx?_append, hi, Option.some_or]
            rw [hi']
            have : (t.files ++ [(⟨n, [], []⟩ : Fl)])[i]? = some f := by rw [List.getElem?_append_left hl]; exact hf
            show (t.file i).pages.length ≤ ((t.files ++ [(⟨n, [], []⟩ : Fl)]).getD i _).pages.length
            rw [Dk.file_eq hf]
            simp only [List.getD, this, Option.getD_some]
            exact Nat.le_refl _
theorem Dk.setCrash_grows (s : Dk) (i k : Int) : s.Grows (s.setCrash i k) := by
  unfold Dk.setCrash
  split
  · exact .refl _
  · exact .files rfl

theorem Pl.put_grows (s : Pl) (i : Nat) : s.d.Grows (s.put i).1.d := by
  unfold Pl.put
  split <;> exact s.d.write_grows _ _ _
theorem Pl.room_grows (s : Pl) : s.d.Grows s.room.1.d := by
  unfold Pl.room
  split
  · exact .refl _
  · split
    · exact .refl _
    · split
      · split
        · exact s.put_grows _
        · exact s.put_grows _
      · exact .refl _

end Go.Proofs.YtbgpkpbejldlcaaGreatDoor

/-
  The pool in plain words, over one file on a disk that stays up: what the pages tell.
-/
namespace Go.Proofs.YtbgpkpbejldlcaaGreatDoor

/-- A disk that is up, of one file with these pages. -/
structure Live (d : Dk) (n : ByteArray) (pg : List Pg) (q : Nat) : Prop where
  up : d.down = false
  calm : d.crash = none
  file : ∃ f, d.files = [f] ∧ f.name = n ∧ f.pages = pg
  quota : d.quota = q

theorem Live.idx {d : Dk} {n : ByteArray} {pg : List Pg} {q : Nat} (h : Live d n pg q) : d.idx n = some 0 := by
  obtain ⟨f, h1, h2, _⟩ := h.file
  unfold Dk.idx; rw [h1]; simp [h2]
theorem Live.at {d : Dk} {n : ByteArray} {pg : List Pg} {q : Nat} (h : Live d n pg q) : ∃ f, d.files[0]? = some f ∧ f.name = n ∧ f.pages = pg ∧ d.files = [f] := by
  obtain ⟨f, h1, h2, h3⟩ := h.file
  exact ⟨f, by rw [h1]; rfl, h2, h3, h1⟩
theorem Live.pages {d : Dk} {n : ByteArray} {pg : List Pg} {q : Nat} (h : Live d n pg q) : (d.file 0).pages = pg := by
  obtain ⟨f, h1, _, h3, _⟩ := h.at
  rw [Dk.file_eq h1, h3]
theorem Live.len {d : Dk} {n : ByteArray} {pg : List Pg} {q : Nat} (h : Live d n pg q) : d.len n = (pg.length, 0) := by
  unfold Dk.len Dk.open
  rw [if_neg (by rw [h.up]; simp), h.idx]
  simp only [h.pages]
theorem Live.size {d : Dk} {n : ByteArray} {pg : List Pg} {q : Nat} (h : Live d n pg q) : d.size n = pg.length := by
  unfold Dk.size; rw [h.idx]; simp only [h.pages]
theorem Live.used {d : Dk} {n : ByteArray} {pg : List Pg} {q : Nat} (h : Live d n pg q) : d.used = pg.length := by
  obtain ⟨f, _, _, h3, h4⟩ := h.at
  unfold Dk.used; rw [h4]; simp [h3]
theorem Live.read {d : Dk} {n : ByteArray} {pg : List Pg} {q : Nat} (h : Live d n pg q) {k : Nat} {b : Pg} (hk : pg[k]? = some b) : d.read n k = (b.1, 0) := by
  unfold Dk.read Dk.open
  rw [if_neg (by rw [h.up]; simp), h.idx]
  simp only [h.pages]
  rw [if_neg (by omega), Int.toNat_natCast, hk]
theorem Live.step {d : Dk} {n : ByteArray} {pg : List Pg} {q : Nat} (h : Live d n pg q) (f : Dk → Dk) : d.step f = (f { d with ops := w64 (d.ops + 1) }, 0) := by
  have : d.change = ({ d with ops := w64 (d.ops + 1) }, 0) := by unfold Dk.change; rw [h.calm]
  unfold Dk.step; rw [this, if_pos rfl]
/-- A page is written. -/
def putAt (pg : List Pg) (k : Nat) (b : Pg) : List Pg := putP pg ⟨0, k, b⟩
theorem putAt_length (pg : List Pg) (k : Nat) (b : Pg) : (putAt pg k b).length = max pg.length (k + 1) := putP_length _ _
theorem putAt_get {pg : List Pg} {k : Nat} {b : Pg} (hk : k ≤ pg.length) (j : Nat) : (putAt pg k b)[j]? = if j = k then some b else pg[j]? := by
  unfold putAt putP
  simp only
  by_cases e : j = k
  · subst e
    rw [if_pos rfl, List.getElem?_set, if_pos rfl, if_pos (by simp; omega)]
  · rw [if_neg e, List.getElem?_set, if_neg (fun q => e q.symm)]
    by_cases hj : j < pg.length
    · rw [List.getElem?_append_left hj]
    · rw [List.getElem?_append_right (by omega), List.getElem?_eq_none (by simp; omega), List.getElem?_eq_none (by omega)]
theorem Live.write {d : Dk} {n : ByteArray} {pg : List Pg} {q : Nat} (h : Live d n pg q) {k : Nat} {b : List UInt8} (hb : b.length = 512) (hk : k ≤ pg.length) (hq : k = pg.length → pg.length < q) :
    (d.write n k b).2 = 0 ∧ Live (d.write n k b).1 n (putAt pg k ⟨b, hb⟩) q ∧ (d.write n k b).1.ops = w64 (d.ops + 1) := by
  obtain ⟨f, h1, h2, h3, h4⟩ := h.at
  have e : d.write n k b = d.step fun t => (t.addW 0 ⟨t.next, k, ⟨b, hb⟩⟩).setMost (max t.most (t.addW 0 ⟨t.next, k, ⟨b, hb⟩⟩).used) := by
    unfold Dk.write
    rw [if_neg (by rw [h.up]; simp), dif_pos hb, h.idx]
    simp only [h.pages]
    rw [if_neg (by omega), if_neg (by rw [h.used, h.quota]; rintro ⟨q1, q2⟩; have := hq (by omega); omega), Int.toNat_natCast]
  rw [e, h.step]
  refine ⟨rfl, ⟨h.up, h.calm, ⟨{ f with log := f.log ++ [⟨d.next, k, ⟨b, hb⟩⟩] }, ?_, h2, ?_⟩, h.quota⟩, rfl⟩
  · show d.files.modify 0 _ = _
    rw [h4]; rfl
  · rw [Fl.addW_pages, h3]; rfl
theorem Live.sync {d : Dk} {n : ByteArray} {pg : List Pg} {q : Nat} (h : Live d n pg q) :
    (d.sync n).2 = 0 ∧ Live (d.sync n).1 n pg q ∧ (d.sync n).1.ops = w64 (d.ops + 1) ∧ (∃ f, (d.sync n).1.files = [f] ∧ f.name = n ∧ f.synced = pg ∧ f.log = []) := by
  obtain ⟨f, h1, h2, h3, h4⟩ := h.at
  have e : d.sync n = d.step fun t => t.upd 0 fun f => { f with synced := f.pages, log := [] } := by
    unfold Dk.sync
    rw [if_neg (by rw [h.up]; simp), h.idx]
  rw [e, h.step]
  have hf : ({ d with ops := w64 (d.ops + 1) } : Dk).upd 0 (fun f => { f with synced := f.pages, log := [] }) = { d with files := [{ f with synced := f.pages, log := [] }], ops := w64 (d.ops + 1) } := by
    unfold Dk.upd
    simp only [h4]
    rfl
  rw [hf]
  exact ⟨rfl, ⟨h.up, h.calm, ⟨_, rfl, h2, by simp [Fl.pages]; exact h3⟩, h.quota⟩, rfl, ⟨_, rfl, h2, h3, rfl⟩⟩

/-! ### A pool over such a disk -/

structure Told (p : Pl) (n : ByteArray) (N q : Nat) (T : Nat → UInt8 × List UInt8) (pg : List Pg) : Prop where
  wrong : p.wrong = 0
  disk : Live p.d n pg q
  len : pg.length = N
  mine : ∀ f ∈ p.fs, f.name = n ∧ f.page < N ∧ T f.page = (f.kind, f.b)
  rest : ∀ (k : Nat) (b : Pg), pg[k]? = some b → (∀ f ∈ p.fs, f.page = k → f.dirty = false) → openP b.1 = some (T k)

theorem Told.fit {p : Pl} {n : ByteArray} {N q : Nat} {T : Nat → UInt8 × List UInt8} {pg : List Pg} (h : Told p n N q T pg) : p.Fit := by
  intro f hf
  obtain ⟨h1, h2, _⟩ := h.mine f hf
  rw [h1, h.disk.size, h.len]; exact h2
theorem Told.inj {p : Pl} {n : ByteArray} {N q : Nat} {T : Nat → UInt8 × List UInt8} {pg : List Pg} (h : Told p n N q T pg) (hw : p.WF) {i j : Nat} {f g : Fr} (hi : p.fs[i]? = some f) (hj : p.fs[j]? = some g) (e : f.page = g.page) : i = j :=
  key_inj hw.keys hi hj ((h.mine f (List.mem_of_getElem? hi)).1.trans (h.mine g (List.mem_of_getElem? hj)).1.symm) e
theorem Told.put {p : Pl} {n : ByteArray} {N q : Nat} {T : Nat → UInt8 × List UInt8} {pg : List Pg} (h : Told p n N q T pg) (hw : p.WF) {i : Nat} {f : Fr} (hf : p.fs[i]? = some f) :
    (p.put i).2 = 0 ∧ (p.put i).1.fs = p.fs.modify i Fr.clean ∧ (p.put i).1.d.ops = w64 (p.d.ops + 1) ∧ ∃ pg', Told (p.put i).1 n N q T pg' := by
  have hfm := List.mem_of_getElem? hf
  obtain ⟨h1, h2, h3⟩ := h.mine f hfm
  have hb := hw.room f hfm
  have hs : f.sealF.length = 512 := sealP_length hb
  obtain ⟨w1, w2, w3⟩ := h.disk.write (k := f.page) hs (by rw [h.len]; omega) (by rw [h.len]; omega)
  have e : p.put i = ((p.setD (p.d.write f.name f.page f.sealF).1).turn i Fr.clean, 0) := by
    unfold Pl.put; rw [Pl.frame_eq hf, if_pos (by rw [h1]; exact w1)]
  rw [e, h1]
  refine ⟨rfl, rfl, w3, putAt pg f.page ⟨f.sealF, hs⟩, h.wrong, w2, ?_, ?_, ?_⟩
  · rw [putAt_length, h.len]; omega
  · intro g hg
    have hg : g ∈ p.fs.modify i Fr.clean := hg
    rcases mem_modify hf hg with r | r
    · exact h.mine g r
    · subst r; exact h.mine f hfm
  · intro k b hk hcl
    rw [putAt_get (by rw [h.len]; omega)] at hk
    split at hk
    · rename_i e; cases hk; subst e
      rw [h3]; exact openP_sealP hb
    · rename_i hne
      refine h.rest k b hk fun g hg hgk => hcl g ?_ hgk
      show g ∈ p.fs.modify i Fr.clean
      obtain ⟨j, hj⟩ := List.mem_iff_getElem?.1 hg
      have hij : i ≠ j := by
        rintro rfl
        rw [hf] at hj; cases hj; exact hne hgk.symm
      exact List.mem_of_getElem? (by rw [modify_other hij]; exact hj)
theorem Told.erase {p : Pl} {n : ByteArray} {N q : Nat} {T : Nat → UInt8 × List UInt8} {pg : List Pg} (h : Told p n N q T pg) {i : Nat} {f : Fr} (hf : p.fs[i]? = some f) (hd : f.dirty = false) : Told (p.drop i) n N q T pg := by
  refine ⟨h.wrong, h.disk, h.len, fun g hg => h.mine g (List.mem_of_mem_eraseIdx hg), fun k b hk hcl => h.rest k b hk fun g hg hgk => ?_⟩
  obtain ⟨j, hj⟩ := List.mem_iff_getElem?.1 hg
  by_cases e : j = i
  · subst e; rw [hf] at hj; cases hj; exact hd
  · exact hcl g (mem_erase.2 ⟨j, e, hj⟩) hgk
theorem modify_erase {α : Type} (u : α → α) : ∀ (l : List α) (i : Nat), (l.modify i u).eraseIdx i = l.eraseIdx i
  | [], i => by simp
  | a :: l, 0 => by simp
  | a :: l, i + 1 => by simp [modify_erase u l i]

theorem Pl.room_free {p : Pl} (h : p.fs.length < p.most) : p.room = (p, 0) := by unfold Pl.room; rw [if_pos h]
theorem Pl.best_none_of {p : Pl} (h : ∀ f ∈ p.fs, f.pins ≠ []) : p.best = none := by
  cases hb : p.best with
  | none => rfl
  | some i =>
    obtain ⟨f, h1, h2, _⟩ := Pl.best_some hb
    exact absurd h2 (h f (List.mem_of_getElem? h1))
theorem Pl.room_full {p : Pl} (h : ¬ p.fs.length < p.most) (hp : ∀ f ∈ p.fs, f.pins ≠ []) : p.room = (p, 31) := by
  unfold Pl.room; rw [if_neg h, Pl.best_none_of hp]
/-- Room is made: the frame that is given up is one that none holds. -/
theorem Told.make {p : Pl} {n : ByteArray} {N q : Nat} {T : Nat → UInt8 × List UInt8} {pg : List Pg} (h : Told p n N q T pg) (hw : p.WF) (hl : ¬ p.fs.length < p.most) {g : Fr} (hg : g ∈ p.fs) (hgp : g.pins = []) :
    ∃ i f pg', p.fs[i]? = some f ∧ f.pins = [] ∧ p.room.2 = 0 ∧ p.room.1.fs = p.fs.eraseIdx i ∧ Told p.room.1 n N q T pg' := by
  cases hb : p.best with
  | none => exact absurd hgp (Pl.best_none hb g hg)
  | some i =>
    obtain ⟨f, h1, h2, _⟩ := Pl.best_some hb
    have e : p.room = if (p.frame i).dirty then (if (p.put i).2 = 0 then ((p.put i).1.drop i, 0) else p.put i) else (p.drop i, 0) := by
      unfold Pl.room; rw [if_neg hl, hb]
    rw [e, Pl.frame_eq h1]
    cases hd : f.dirty with
    | true =>
      obtain ⟨w1, w2, _, pg', w4⟩ := h.put hw h1
      rw [if_pos rfl, if_pos w1]
      refine ⟨i, f, pg', h1, h2, rfl, ?_, w4.erase (f := f.clean) (by rw [w2]; exact modify_same h1) rfl⟩
      show (p.put i).1.fs.eraseIdx i = _
      rw [w2, modify_erase]
    | false =>
      rw [if_neg (by simp)]
      exact ⟨i, f, pg, h1, h2, rfl, rfl, h.erase h1 hd⟩
/-- Room, whichever way. -/
theorem Told.roomy {p : Pl} {n : ByteArray} {N q : Nat} {T : Nat → UInt8 × List UInt8} {pg : List Pg} (h : Told p n N q T pg) (hw : p.WF) (hg : p.fs.length < p.most ∨ ∃ g ∈ p.fs, g.pins = []) :
    p.room.2 = 0 ∧ (∃ pg', Told p.room.1 n N q T pg') ∧ (∀ g ∈ p.room.1.fs, g ∈ p.fs) ∧ (∀ g ∈ p.fs, g.pins ≠ [] → g ∈ p.room.1.fs) := by
  by_cases hl : p.fs.length < p.most
  · rw [Pl.room_free hl]; exact ⟨rfl, ⟨pg, h⟩, fun _ q => q, fun _ q _ => q⟩
  · obtain ⟨g, hgm, hgp⟩ := hg.resolve_left hl
    obtain ⟨i, f, pg', h1, h2, h3, h4, h5⟩ := h.make hw hl hgm hgp
    refine ⟨h3, ⟨pg', h5⟩, fun x hx => by rw [h4] at hx; exact List.mem_of_mem_eraseIdx hx, fun x hx hxp => ?_⟩
    rw [h4]
    obtain ⟨j, hj⟩ := List.mem_iff_getElem?.1 hx
    refine mem_erase.2 ⟨j, ?_, hj⟩
    rintro rfl
    rw [h1] at hj; cases hj; exact hxp h2

theorem modify_last {α : Type} (l : List α) (a : α) (u : α → α) : (l ++ [a]).modify l.length u = l ++ [u a] := by
  have ha : (l ++ [a])[l.length]? = some a := by simp
  rw [modify_set ha]; simp
theorem Pl.take_fs (p : Pl) (f : Fr) : (p.take f).fs = p.fs ++ [Fr.pin p.next f] := modify_last p.fs f _

def setT (T : Nat → UInt8 × List UInt8) (k : Nat) (v : UInt8 × List UInt8) : Nat → UInt8 × List UInt8 := fun j => if j = k then v else T j
theorem setT_same (T : Nat → UInt8 × List UInt8) (k : Nat) (v : UInt8 × List UInt8) : setT T k v k = v := if_pos rfl
theorem setT_other {T : Nat → UInt8 × List UInt8} {k j : Nat} {v : UInt8 × List UInt8} (h : j ≠ k) : setT T k v j = T j := if_neg h

/-- A frame that was read is held. -/
theorem Told.take {p : Pl} {n : ByteArray} {N q : Nat} {T : Nat → UInt8 × List UInt8} {pg : List Pg} (h : Told p n N q T pg) {f : Fr} (hn : f.name = n) (hp : f.page < N) (hT : T f.page = (f.kind, f.b)) (hno : ∀ g ∈ p.fs, g.page ≠ f.page) (hd : f.dirty = false) : Told (p.take f) n N q T pg := by
  refine ⟨h.wrong, h.disk, h.len, fun g hg => ?_, fun k b hk hcl => h.rest k b hk fun g hg hgk => hcl g ?_ hgk⟩
  · rw [Pl.take_fs] at hg
    rcases List.mem_append.1 hg with r | r
    · exact h.mine g r
    · simp at r; subst r; exact ⟨hn, hp, hT⟩
  · rw [Pl.take_fs]; exact List.mem_append_left _ hg

/-- A page more. -/
theorem Told.fresh {p : Pl} {n : ByteArray} {N q : Nat} {T : Nat → UInt8 × List UInt8} {pg : List Pg} (h : Told p n N q T pg) (hw : p.WF) (hg : p.fs.length < p.most ∨ ∃ g ∈ p.fs, g.pins = []) (hN : N < q) :
    (p.fresh n).2 = (p.next, (N : Int), 0) ∧ (p.fresh n).1.fs = p.room.1.fs ++ [⟨n, N, 0, [], false, [p.next], 0⟩] ∧ (p.fresh n).1.next = w64 (p.next + 1) ∧ (p.fresh n).1.most = p.most ∧ (p.fresh n).1.tick = p.tick ∧
    (p.fresh n).1.d.ops = w64 (p.room.1.d.ops + 1) ∧ ∃ pg', Told (p.fresh n).1 n (N + 1) q (setT T N (0, [])) pg' := by
  obtain ⟨h1, ⟨pg1, h2⟩, h3, _⟩ := h.roomy hw hg
  have hs : (sealP 0 []).length = 512 := sealP_length (by simp)
  obtain ⟨w1, w2, w3⟩ := h2.disk.write (k := N) hs (by rw [h2.len]; omega) (by rw [h2.len]; intro _; exact hN)
  have hrs := p.room_same
  have hlen : p.d.len n = (N, 0) := by rw [h.disk.len, h.len]
  have e : p.fresh n = ((p.room.1.setD (p.room.1.d.write n (N : Int) (sealP 0 [])).1).take ⟨n, N, 0, [], false, [], 0⟩, p.room.1.next, (N : Int), 0) := by
    unfold Pl.fresh
    rw [if_neg (by rw [h.wrong]; simp), hlen]
    simp only
    rw [if_neg (by simp), if_neg (by rw [h1]; simp), if_neg (by rw [w1]; simp)]
  rw [e]
  have hnx : (p.room.1.setD (p.room.1.d.write n (N : Int) (sealP 0 [])).1).next = p.next := hrs.2.1
  have ht : Told (p.room.1.setD (p.room.1.d.write n (N : Int) (sealP 0 [])).1) n (N + 1) q (setT T N (0, [])) (putAt pg1 N ⟨sealP 0 [], hs⟩) := by
    refine ⟨h2.wrong, w2, ?_, fun g hgm => ?_, fun k b hk hcl => ?_⟩
    · rw [putAt_length, h2.len]; omega
    · obtain ⟨a1, a2, a3⟩ := h2.mine g hgm
      exact ⟨a1, by omega, by rw [setT_other (by omega)]; exact a3⟩
    · rw [putAt_get (by rw [h2.len]; omega)] at hk
      split at hk
      · rename_i ek; cases hk; subst ek
        rw [setT_same]; exact openP_sealP (by simp)
      · rename_i ek
        rw [setT_other ek]
        exact h2.rest k b hk hcl
  refine ⟨by rw [hrs.2.1], ?_, ?_, hrs.1, hrs.2.2.1, w3, _, ht.take (f := ⟨n, N, 0, [], false, [], 0⟩) rfl (Nat.lt_succ_self _) (setT_same _ _ _) (fun g hgm => ?_) rfl⟩
  · rw [Pl.take_fs, hnx]; rfl
  · show w64 ((p.room.1.setD (p.room.1.d.write n (N : Int) (sealP 0 [])).1).next + 1) = _
    rw [hnx]
  · have := (h2.mine g hgm).2.1
    simp only; omega
theorem Told.fresh_full {p : Pl} {n : ByteArray} {N q : Nat} {T : Nat → UInt8 × List UInt8} {pg : List Pg} (h : Told p n N q T pg) (hl : ¬ p.fs.length < p.most) (hp : ∀ f ∈ p.fs, f.pins ≠ []) : p.fresh n = (p, 0, 0, 31) := by
  unfold Pl.fresh
  rw [if_neg (by rw [h.wrong]; simp), h.disk.len]
  simp only
  rw [if_neg (by simp), Pl.room_full hl hp, if_pos (by simp)]
  rfl

/-- A frame's handles are turned, or when it was left. -/
theorem Told.turn {p p' : Pl} {n : ByteArray} {N q : Nat} {T : Nat → UInt8 × List UInt8} {pg : List Pg} (h : Told p n N q T pg) {i : Nat} {f : Fr} {u : Fr → Fr} (hf : p.fs[i]? = some f) (hd : p'.d = p.d) (hw : p'.wrong = p.wrong) (hfs : p'.fs = p.fs.modify i u)
    (hu : (u f).name = f.name ∧ (u f).page = f.page ∧ (u f).kind = f.kind ∧ (u f).b = f.b ∧ (u f).dirty = f.dirty) : Told p' n N q T pg := by
  obtain ⟨u1, u2, u3, u4, u5⟩ := hu
  refine ⟨by rw [hw]; exact h.wrong, by rw [hd]; exact h.disk, h.len, fun g hg => ?_, fun k b hk hcl => h.rest k b hk fun g hg hgk => ?_⟩
  · rw [hfs] at hg
    rcases mem_modify hf hg with r | r
    · exact h.mine g r
    · subst r; rw [u1, u2, u3, u4]; exact h.mine f (List.mem_of_getElem? hf)
  · obtain ⟨j, hj⟩ := List.mem_iff_getElem?.1 hg
    by_cases e : i = j
    · subst e
      rw [hf] at hj; cases hj
      rw [← u5]
      exact hcl (u f) (by rw [hfs]; exact List.mem_of_getElem? (modify_same hf)) (by rw [u2]; exact hgk)
    · exact hcl g (by rw [hfs]; exact List.mem_of_getElem? (by rw [modify_other e]; exact hj)) hgk
theorem Told.pin_in {p : Pl} {n : ByteArray} {N q : Nat} {T : Nat → UInt8 × List UInt8} {pg : List Pg} (h : Told p n N q T pg) {k : Nat} {i : Nat} {f : Fr} (hi : p.find n k = some i) (hf : p.fs[i]? = some f) :
    p.pin n k = (p.pinAt i, p.next, 0) ∧ Told (p.pinAt i) n N q T pg := by
  refine ⟨?_, h.turn hf rfl rfl rfl ⟨rfl, rfl, rfl, rfl, rfl⟩⟩
  unfold Pl.pin
  rw [if_neg (by rw [h.wrong]; simp), hi]
theorem Told.pin_out {p : Pl} {n : ByteArray} {N q : Nat} {T : Nat → UInt8 × List UInt8} {pg : List Pg} (h : Told p n N q T pg) (hw : p.WF) {k : Nat} (hi : p.find n k = none) (hk : k < N) (hg : p.fs.length < p.most ∨ ∃ g ∈ p.fs, g.pins = []) :
    (p.pin n k).2 = (p.next, 0) ∧ (p.pin n k).1.fs = p.room.1.fs ++ [⟨n, k, (T k).1, (T k).2, false, [p.next], 0⟩] ∧ (p.pin n k).1.next = w64 (p.next + 1) ∧ (p.pin n k).1.most = p.most ∧ ∃ pg', Told (p.pin n k).1 n N q T pg' := by
  obtain ⟨h1, ⟨pg1, h2⟩, h3, _⟩ := h.roomy hw hg
  have hrs := p.room_same
  have hlen : p.d.len n = (N, 0) := by rw [h.disk.len, h.len]
  have hno : ∀ g ∈ p.room.1.fs, g.page ≠ k := fun g hgm e => Pl.find_none hi g (h3 g hgm) (h2.mine g hgm).1 (by omega)
  obtain ⟨b, hb⟩ : ∃ b, pg1[k]? = some b := ⟨_, List.getElem?_eq_getElem (by rw [h2.len]; exact hk)⟩
  have ho := h2.rest k b hb fun g hgm e => absurd e (hno g hgm)
  have el : p.load n k = (p.room.1, some ⟨n, k, (T k).1, (T k).2, false, [], 0⟩, 0) := by
    unfold Pl.load
    rw [hlen]
    simp only
    rw [if_neg (by simp), if_neg (by omega), if_neg (by rw [h1]; simp), h2.disk.read hb]
    simp only
    rw [if_neg (by simp), ho]
    simp
  have e : p.pin n k = (p.room.1.take ⟨n, k, (T k).1, (T k).2, false, [], 0⟩, p.room.1.next, 0) := by
    unfold Pl.pin
    rw [if_neg (by rw [h.wrong]; simp), hi, el]
  rw [e]
  refine ⟨by rw [hrs.2.1], ?_, ?_, hrs.1, pg1, h2.take (f := ⟨n, k, (T k).1, (T k).2, false, [], 0⟩) rfl hk rfl hno rfl⟩
  · rw [Pl.take_fs, hrs.2.1]; rfl
  · show w64 (p.room.1.next + 1) = _
    rw [hrs.2.1]
theorem Told.pin_full {p : Pl} {n : ByteArray} {N q : Nat} {T : Nat → UInt8 × List UInt8} {pg : List Pg} (h : Told p n N q T pg) {k : Nat} (hi : p.find n k = none) (hk : k < N) (hl : ¬ p.fs.length < p.most) (hp : ∀ f ∈ p.fs, f.pins ≠ []) : p.pin n k = (p, 0, 31) := by
  have hlen : p.d.len n = (N, 0) := by rw [h.disk.len, h.len]
  have el : p.load n k = (p, none, 31) := by
    unfold Pl.load
    rw [hlen]
    simp only
    rw [if_neg (by simp), if_neg (by omega), Pl.room_full hl hp, if_pos (by simp)]
  unfold Pl.pin
  rw [if_neg (by rw [h.wrong]; simp), hi, el]
  rfl
theorem Told.get {p : Pl} {n : ByteArray} {N q : Nat} {T : Nat → UInt8 × List UInt8} {pg : List Pg} (h : Told p n N q T pg) (hw : p.WF) {f : Fr} {x : Int} (hf : f ∈ p.fs) (hx : x ∈ f.pins) : p.get x = ((T f.page).1, (T f.page).2, 0) := by
  obtain ⟨i, hi⟩ := List.mem_iff_getElem?.1 hf
  unfold Pl.get
  rw [if_neg (by rw [h.wrong]; simp), Pl.held_eq hw hi hx]
  simp only [Pl.frame_eq hi, (h.mine f hf).2.2]
theorem Told.set {p : Pl} {n : ByteArray} {N q : Nat} {T : Nat → UInt8 × List UInt8} {pg : List Pg} (h : Told p n N q T pg) (hw : p.WF) {i : Nat} {f : Fr} {x : Int} (hf : p.fs[i]? = some f) (hx : x ∈ f.pins) {k : UInt8} {b : List UInt8} (hb : b.length ≤ 504) :
    p.set x k b = (p.turn i (Fr.set k b), 0) ∧ Told (p.turn i (Fr.set k b)) n N q (setT T f.page (k, b)) pg := by
  constructor
  · unfold Pl.set
    rw [if_neg (by rw [h.wrong]; simp), Pl.held_eq hw hf hx]
    simp only
    rw [if_neg (by omega)]
  · refine ⟨h.wrong, h.disk, h.len, fun g hg => ?_, fun j c hj hcl => ?_⟩
    · have hg : g ∈ p.fs.modify i (Fr.set k b) := hg
      rw [modify_set hf] at hg
      rcases mem_set' hg with ⟨j, hji, hj⟩ | r
      · have hne : g.page ≠ f.page := fun e => hji (h.inj hw hj hf e)
        rw [setT_other hne]
        exact h.mine g (List.mem_of_getElem? hj)
      · subst r
        obtain ⟨a1, a2, _⟩ := h.mine f (List.mem_of_getElem? hf)
        exact ⟨a1, a2, setT_same _ _ _⟩
    · by_cases e : j = f.page
      · subst e
        have := hcl (Fr.set k b f) (List.mem_of_getElem? (modify_same hf)) rfl
        cases this
      · rw [setT_other e]
        refine h.rest j c hj fun g hg hgj => hcl g ?_ hgj
        obtain ⟨a, ha⟩ := List.mem_iff_getElem?.1 hg
        have : i ≠ a := by
          rintro rfl
          rw [hf] at ha; cases ha; exact e hgj.symm
        exact List.mem_of_getElem? (by show (p.fs.modify i _)[a]? = _; rw [modify_other this]; exact ha)
theorem Told.unpin {p : Pl} {n : ByteArray} {N q : Nat} {T : Nat → UInt8 × List UInt8} {pg : List Pg} (h : Told p n N q T pg) (hw : p.WF) {i : Nat} {f : Fr} {x : Int} (hf : p.fs[i]? = some f) (hx : x ∈ f.pins) :
    p.unpin x = ({ p with fs := p.fs.modify i (Fr.unpin x (w64 (p.tick + 1))), tick := w64 (p.tick + 1) }, 0) ∧ Told (p.unpin x).1 n N q T pg := by
  have e : p.unpin x = ({ p with fs := p.fs.modify i (Fr.unpin x (w64 (p.tick + 1))), tick := w64 (p.tick + 1) }, 0) := by
    unfold Pl.unpin
    rw [if_neg (by rw [h.wrong]; simp), Pl.held_eq hw hf hx]
  refine ⟨e, ?_⟩
  rw [e]
  exact h.turn hf rfl rfl rfl ⟨rfl, rfl, rfl, rfl, rfl⟩

/-! ### Flush -/

theorem Told.flushL {n : ByteArray} {N q : Nat} {T : Nat → UInt8 × List UInt8} : ∀ (l : List Nat) {p : Pl} {pg : List Pg}, Told p n N q T pg → p.WF → (∀ f ∈ p.fs, f.dirty = true → f.page ∈ l) →
    (Pl.flushL n l p).2 = 0 ∧ (∃ pg', Told (Pl.flushL n l p).1 n N q T pg') ∧ (∀ f ∈ (Pl.flushL n l p).1.fs, f.dirty = false) ∧ (Pl.flushL n l p).1.fs = p.fs.map Fr.clean ∧ (Pl.flushL n l p).1.peak = p.peak ∧ (Pl.flushL n l p).1.most = p.most
  | [], p, pg, h, hw, hd => by
    have hcl : ∀ f ∈ p.fs, f.dirty = false := fun f hf => by
      cases e : f.dirty with
      | false => rfl
      | true => have := hd f hf e; cases this
    refine ⟨rfl, ⟨pg, h⟩, hcl, ?_, rfl, rfl⟩
    show p.fs = p.fs.map Fr.clean
    have : p.fs.map Fr.clean = p.fs.map id := List.map_congr_left fun f hf => by
      have := hcl f hf
      cases f; simp only [Fr.clean, id] at *; rw [this]
    rw [this, List.map_id]
  | k :: l, p, pg, h, hw, hd => by
    unfold Pl.flushL
    have skip : (∀ f ∈ p.fs, f.page = k → f.dirty = false) → ∀ f ∈ p.fs, f.dirty = true → f.page ∈ l := by
      intro hk f hf e
      rcases List.mem_cons.1 (hd f hf e) with r | r
      · rw [hk f hf r] at e; cases e
      · exact r
    cases hi : p.find n k with
    | none =>
      exact Told.flushL l h hw (skip fun f hf e => absurd (by omega) (Pl.find_none hi f hf (h.mine f hf).1))
    | some i =>
      obtain ⟨f, hf, hfn, hfp⟩ := Pl.find_some hi
      have hfp' : f.page = k := by omega
      simp only [Pl.frame_eq hf]
      cases hdt : f.dirty with
      | false =>
        rw [if_neg (by simp)]
        refine Told.flushL l h hw (skip fun g hg e => ?_)
        obtain ⟨j, hj⟩ := List.mem_iff_getElem?.1 hg
        have := h.inj hw hj hf (by omega)
        subst this
        rw [hf] at hj; cases hj; exact hdt
      | true =>
        obtain ⟨w1, w2, w3, pg', w4⟩ := h.put hw hf
        rw [if_pos rfl, if_pos w1]
        have hsame := p.put_same i
        obtain ⟨r1, r2, r3, r4, r5, r6⟩ := Told.flushL l w4 (hw.put hf) (fun g hg e => by
          rw [w2] at hg
          rw [modify_set hf] at hg
          rcases mem_set' hg with ⟨j, hji, hj⟩ | r
          · have hgm := List.mem_of_getElem? hj
            rcases List.mem_cons.1 (hd g hgm e) with r | r
            · exact absurd (h.inj hw hj hf (by omega)) hji
            · exact r
          · subst r; cases e)
        refine ⟨r1, r2, r3, ?_, by rw [r5]; exact hsame.2.2.2.1, by rw [r6]; exact hsame.1⟩
        rw [r4, w2, modify_set hf]
        rw [List.map_set]
        apply List.ext_getElem?
        intro j
        rw [List.getElem?_set]
        split
        · rename_i e; subst e
          have hl := (List.getElem?_eq_some_iff.1 hf).1
          rw [if_pos (by simpa using hl), List.getElem?_map, hf]; rfl
        · rfl
theorem Told.flush {p : Pl} {n : ByteArray} {N q : Nat} {T : Nat → UInt8 × List UInt8} {pg : List Pg} (h : Told p n N q T pg) (hw : p.WF) :
    (p.flush n).2 = 0 ∧ (∃ pg', Told (p.flush n).1 n N q T pg' ∧ ∃ f, (p.flush n).1.d.files = [f] ∧ f.name = n ∧ f.synced = pg' ∧ f.log = []) ∧ (p.flush n).1.fs = p.fs.map Fr.clean ∧ (p.flush n).1.peak = p.peak ∧ (p.flush n).1.most = p.most := by
  obtain ⟨r1, ⟨pg1, r2⟩, r3, r4, r5, r6⟩ := h.flushL (p.pagesOf n) hw (fun f hf _ => by
    unfold Pl.pagesOf
    rw [List.mem_mergeSort]
    exact List.mem_map.2 ⟨f, List.mem_filter.2 ⟨hf, by rw [(h.mine f hf).1]; simp⟩, rfl⟩)
  obtain ⟨s1, s2, s3, s4⟩ := r2.disk.sync
  have e : p.flush n = ((Pl.flushL n (p.pagesOf n) p).1.setD ((Pl.flushL n (p.pagesOf n) p).1.d.sync n).1, 0) := by
    unfold Pl.flush
    rw [if_neg (by rw [h.wrong]; simp), h.disk.len]
    simp only
    rw [if_neg (by simp), if_neg (by rw [r1]; simp), s1]
    rfl
  rw [e]
  exact ⟨rfl, ⟨pg1, ⟨r2.wrong, s2, r2.len, r2.mine, r2.rest⟩, s4⟩, r4, r5, r6⟩

end Go.Proofs.YtbgpkpbejldlcaaGreatDoor

/-
  The pool: made; a page looked up, read, pinned; a page more.
-/
namespace Go.Proofs.YtbgpkpbejldlcaaGreatDoor
open Go.MapKept

theorem PoolD.ext {x : PG} {D : Nat → Prop} {H H' : Heap} {p dp : Nat} {s : Pl} (h : PoolD x D H p dp s) (e : Ext H H') : PoolD x D H' p dp s :=
  ⟨h.pool.keep fun b _ hl => e.same b hl id, h.disk.keep fun b _ hl => e.same b hl id, h.apart, h.glob⟩
theorem Step.ext {F : Nat → Prop} {H H' : Heap} (e : Ext H H') : Step F F H H' := ⟨Ext.mod e, fun _ q => .inl q⟩
/-- What is laid behind may go with the step. -/
theorem Step.behind {F G : Nat → Prop} {A B C : Heap} (h : Step F G A B) (e : Ext B C) : Step F G A C := h.trans (Step.ext e)

theorem PoolNew_ok {D : Nat → Prop} {H : Heap} {dp : Nat} {d : Dk} {m : Nat} {K : (Option Addr × Int) → Heap → Prop} (hg : Gl H) (hd : DiskAt D H dp d) (hD : ¬ D gSteps) (h8 : 8 ≤ m) (hm : m ≤ 4096)
    (hK : ∀ F p H', PoolAt F H' p dp (pl0 d m) → Ext H H' → (∀ b, F b → D b ∨ H.size ≤ b) → K (at0 p, 0) H') : pool_New.sp (at0 dp) (m : Int) H K := by
  refine pool_New.of ?_
  unfold pool_New.vc
  refine br_f rfl (br_f (by simp; omega) (br_f (by simp; omega) ?_))
  refine newM_map (d := .int .i64) fun H1 s1 m1 e1 => ?_
  refine newM_map (d := .int .i64) fun H2 s2 m2 e2 => ?_
  refine newC_rowT fun H3 s3 r3 e3 => ?_
  have hl := hd.lt
  have hgl := hg.lt
  have e03 : Ext H H3 := (e1.trans e2).trans e3
  have hx : PoolG ⟨H.size, #[], 0, H1.size, #[], 0, []⟩ H3 H2.size dp (pl0 d m) := by
    refine ⟨r3, ⟨?_, ?_, by simp only; omega, rfl, ?_, ?_, by simp, by simp⟩, rfl, pl0_wf h8 hm⟩
    · exact ⟨(e2.trans e3).at m1.obj id, stamped_empty 0, by simp⟩
    · exact m2.keep (e3.same _ m2.lt id)
    · intro k v
      constructor
      · rintro ⟨e, he, _⟩; simp at he
      · intro q; simp [kvF] at q
    · intro k v
      constructor
      · rintro ⟨e, he, _⟩; simp at he
      · intro q; simp [kvH] at q
  have hall : ∀ b, PG.all ⟨H.size, #[], 0, H1.size, #[], 0, []⟩ H2.size b → H.size ≤ b := by
    rintro b (e | e | e | ⟨z, hz, _⟩)
    · omega
    · simp only at e; omega
    · simp only at e; omega
    · simp at hz
  refine hK _ H2.size H3 ⟨_, D, ⟨hx, hd.keep fun b _ hl => e03.same b hl id, fun b hb hx => ?_, hD, fun hx => ?_⟩, fun b => Iff.rfl⟩ e03 ?_
  · have := hall b hx; have := hl b hb; omega
  · have := hall _ hx; omega
  · rintro b (q | q)
    · exact .inl q
    · exact .inr (hall b q)
theorem PoolNew_nil {fr : Int} {H : Heap} {K : (Option Addr × Int) → Heap → Prop} (hK : K (none, 1) H) : pool_New.sp none fr H K := by
  refine pool_New.of ?_
  unfold pool_New.vc
  exact br_t rfl hK
theorem PoolNew_bad {dp : Nat} {fr : Int} {H : Heap} {K : (Option Addr × Int) → Heap → Prop} (hf : fr < 8 ∨ 4096 < fr) (hK : K (none, if fr < 8 then 30 else 3) H) : pool_New.sp (at0 dp) fr H K := by
  refine pool_New.of ?_
  unfold pool_New.vc
  refine br_f rfl (br_mk (fun h => ?_) (fun h => ?_))
  · rw [if_pos (by simpa using h)] at hK; exact hK
  · have h' : ¬ fr < 8 := by simpa using h
    rw [if_neg h'] at hK
    exact br_t (by simp; omega) hK

/-! ### Looking up -/

theorem lookF_ok {x : PG} {H : Heap} {p dp : Nat} {s : Pl} {n : ByteArray} {k : Int} {K : (Option Addr × Bool) → Prop} (h : PoolG x H p dp s) (hn : n.size ≤ 9223372036854775807) (h0 : -9223372036854775808 ≤ k) (h1 : k ≤ 9223372036854775807)
    (hF : ∀ i f g, s.find n k = some i → x.zs[i]? = some (f, g) → f.name = n → (f.page : Int) = k → K (at0 g.p, true)) (hN : s.find n k = none → K (none, false)) :
    rdV (cTup [cPtr, cBool]) Tryz.prog (Instr.lookup ty_maparr_pool_spot_ptr_pool_frame (.map (some x.mf)) (.agg #[(.string n), (.int .i64 k)]) true) H K := by
  obtain ⟨et, inf, hu, hi, hz⟩ := mapSpot
  refine rdV_lookupW (k := keyV n k) hu keySpot hi hz h.frames.fmap (keyW_spot hn h0 h1) ?_ ?_
  · intro v hv
    obtain ⟨z, hzm, e⟩ := List.mem_map.1 ((h.frames.entF _ _).1 hv)
    simp only [Prod.mk.injEq] at e
    obtain ⟨e1, e2⟩ := keyV_inj e.1
    obtain ⟨i, hi⟩ := List.mem_iff_getElem?.1 hzm
    have hfs : s.fs[i]? = some z.1 := by rw [h.fs]; simp [PG.fs, hi]
    refine ⟨(at0 z.2.p, true), by rw [← e.2]; rfl, hF i z.1 z.2 ?_ hi e1 e2⟩
    rw [← e1, ← e2]
    exact Pl.find_eq h.wf hfs
  · intro hno
    refine ⟨(none, false), rfl, hN ?_⟩
    cases hx : s.find n k with
    | none => rfl
    | some i =>
      obtain ⟨f, hf, e1, e2⟩ := Pl.find_some hx
      obtain ⟨g, hg, _⟩ := h.at hf
      refine absurd ((h.frames.entF (keyV n k) (ptrV g.p)).2 (List.mem_map.2 ⟨(f, g), List.mem_of_getElem? hg, ?_⟩)) (hno _)
      simp only [e1, e2]
theorem lookH_ok {x : PG} {H : Heap} {p dp : Nat} {s : Pl} {k : Int} {K : (Option Addr × Bool) → Prop} (h : PoolG x H p dp s)
    (hF : ∀ i f g, s.held k = some i → x.zs[i]? = some (f, g) → k ∈ f.pins → K (at0 g.p, true)) (hN : s.held k = none → K (none, false)) :
    rdV (cTup [cPtr, cBool]) Tryz.prog (Instr.lookup ty_maparr_int_ptr_pool_frame (.map (some x.mh)) (.int .i64 k) true) H K := by
  obtain ⟨et, inf, hu, hd, hi, hz⟩ := mapHand
  refine rdV_lookup hu hd hi hz h.frames.hmap (k := .int .i64 k) (show IntKind.i64 = IntKind.i64 from rfl) ?_ ?_
  · intro v hv
    obtain ⟨z, hzm, hk⟩ := List.mem_flatMap.1 ((h.frames.entH _ _).1 hv)
    obtain ⟨q, hq, e⟩ := List.mem_map.1 hk
    simp only [Prod.mk.injEq, Value.int.injEq, true_and] at e
    obtain ⟨i, hi⟩ := List.mem_iff_getElem?.1 hzm
    have hfs : s.fs[i]? = some z.1 := by rw [h.fs]; simp [PG.fs, hi]
    rw [e.1] at hq
    exact ⟨(at0 z.2.p, true), by rw [← e.2]; rfl, hF i z.1 z.2 (Pl.held_eq h.wf hfs hq) hi hq⟩
  · intro hno
    refine ⟨(none, false), rfl, hN ?_⟩
    cases hx : s.held k with
    | none => rfl
    | some i =>
      obtain ⟨f, hf, hm⟩ := Pl.held_some hx
      obtain ⟨g, hg, _⟩ := h.at hf
      exact absurd ((h.frames.entH (.int .i64 k) (ptrV g.p)).2 (List.mem_flatMap.2 ⟨(f, g), List.mem_of_getElem? hg, List.mem_map.2 ⟨k, hm, rfl⟩⟩)) (hno _)

/-! ### A page is read -/

theorem Dk.len_le {s : Dk} (h : s.WF) (n : ByteArray) : (s.len n).1 ≤ 1048576 := by
  have h1 := h.used; have h2 := h.most; have h3 := h.quota
  unfold Dk.len
  split
  · rename_i i e hi
    have : (s.file i).pages.length ≤ s.used := by
      unfold Dk.open at hi
      split at hi
      · cases hi
      · split at hi
        · rename_i j hj
          cases hi
          obtain ⟨f, hf, _⟩ := Dk.idx_some hj
          rw [Dk.file_eq hf]; exact Dk.pages_le hf
        · cases hi
    show (s.file i).pages.length ≤ _
    omega
  · exact Nat.zero_le _
theorem Dk.read_len (s : Dk) (n : ByteArray) (k : Int) : (s.read n k).1.length ≤ 512 ∧ ((s.read n k).2 = 0 → (s.read n k).1.length = 512) := by
  unfold Dk.read Dk.open
  split
  · rename_i i e hi
    split
    · exact ⟨by simp, fun q => by cases q⟩
    · split
      · rename_i pg _; exact ⟨by rw [pg.2]; exact Nat.le_refl _, fun _ => pg.2⟩
      · exact ⟨by simp, fun q => by cases q⟩
  · rename_i e hi
    refine ⟨by simp, fun q => ?_⟩
    split at hi
    · simp at hi; subst hi; cases q
    · split at hi
      · cases hi
      · simp at hi; subst hi; cases q

theorem Pl.room_keys (s : Pl) : ∀ f ∈ s.room.1.fs, ∃ f' ∈ s.fs, f'.key = f.key := by
  have hput : ∀ i, ∀ f ∈ (s.put i).1.fs, ∃ f' ∈ s.fs, f'.key = f.key := by
    intro i f hf
    unfold Pl.put at hf
    split at hf
    · have hf : f ∈ s.fs.modify i Fr.clean := hf
      obtain ⟨j, hj⟩ := List.mem_iff_getElem?.1 hf
      rw [List.getElem?_modify] at hj
      cases hx : s.fs[j]? with
      | none => rw [hx] at hj; cases hj
      | some y =>
        rw [hx] at hj
        have hj' : (if i = j then y.clean else y) = f := Option.some.inj hj
        refine ⟨y, List.mem_of_getElem? hx, ?_⟩
        rw [← hj']; split <;> rfl
    · exact ⟨f, hf, rfl⟩
  intro f hf
  unfold Pl.room at hf
  split at hf
  · exact ⟨f, hf, rfl⟩
  · split at hf
    · exact ⟨f, hf, rfl⟩
    · rename_i i _
      split at hf
      · split at hf
        · exact hput i f (List.mem_of_mem_eraseIdx hf)
        · exact hput i f hf
      · exact ⟨f, List.mem_of_mem_eraseIdx hf, rfl⟩
theorem Pl.find_none_of {s : Pl} {n : ByteArray} {k : Int} (h : ∀ f ∈ s.fs, f.name = n → (f.page : Int) ≠ k) : s.find n k = none := by
  unfold Pl.find
  rw [List.findIdx?_eq_none_iff]
  intro f hf
  cases hq : f.name.toList == n.toList with
  | false => rfl
  | true =>
    have := h f hf (ba_eq (by simpa using hq))
    show (true && decide ((f.page : Int) = k)) = false
    rw [Bool.true_and]; exact decide_eq_false this
theorem Pl.room_find {s : Pl} {n : ByteArray} {k : Int} (h : s.find n k = none) : s.room.1.find n k = none := by
  refine Pl.find_none_of fun f hf e1 e2 => ?_
  obtain ⟨f', hf', hk⟩ := s.room_keys f hf
  have h1 : f'.name = f.name := congrArg Prod.fst hk
  have h2 : f'.page = f.page := congrArg Prod.snd hk
  exact Pl.find_none h f' hf' (h1.trans e1) (by rw [h2]; exact e2)
theorem Pl.load_some {s : Pl} (hd : s.d.WF) {n : ByteArray} {k : Int} {f : Fr} (h : (s.load n k).2.1 = some f) :
    (s.load n k).1 = s.room.1 ∧ (s.load n k).2.2 = 0 ∧ s.room.2 = 0 ∧ f.name = n ∧ (f.page : Int) = k ∧ f.b.length ≤ 504 ∧ f.pins = [] ∧ f.left = 0 ∧ f.page < 1048577 := by
  have hl := Dk.len_le hd n
  unfold Pl.load at h ⊢
  by_cases h1 : (s.d.len n).2 ≠ 0
  · rw [if_pos h1] at h; cases h
  rw [if_neg h1] at h ⊢
  by_cases h2 : k < 0 ∨ k ≥ ((s.d.len n).1 : Int)
  · rw [if_pos h2] at h; cases h
  rw [if_neg h2] at h ⊢
  by_cases h3 : s.room.2 ≠ 0
  · rw [if_pos h3] at h; cases h
  rw [if_neg h3] at h ⊢
  by_cases h4 : (s.room.1.d.read n k).2 ≠ 0
  · rw [if_pos h4] at h; cases h
  rw [if_neg h4] at h ⊢
  cases ho : openP (s.room.1.d.read n k).1 with
  | none => rw [ho] at h; cases h
  | some kb =>
    rw [ho] at h
    simp only [Option.some.injEq] at h
    subst h
    have hlen : kb.2.length ≤ 504 := by
      unfold openP at ho
      split at ho
      · rename_i q; cases ho; simp; omega
      · cases ho
    exact ⟨rfl, rfl, by omega, rfl, by simp only; omega, hlen, rfl, rfl, by simp only; omega⟩
theorem Pl.load_none {s : Pl} {n : ByteArray} {k : Int} (h : (s.load n k).2.1 = none) : (s.load n k).2.2 ≠ 0 := by
  unfold Pl.load at h ⊢
  split
  · rename_i h1; exact h1
  · rename_i h1
    rw [if_neg h1] at h
    split
    · show (12 : Int) ≠ 0; decide
    · rename_i h2
      rw [if_neg h2] at h
      split
      · rename_i h3; exact h3
      · rename_i h3
        rw [if_neg h3] at h
        split
        · rename_i h4; exact h4
        · rename_i h4
          rw [if_neg h4] at h
          split
          · show (20 : Int) ≠ 0; decide
          · rename_i kb hk; rw [hk] at h; cases h

theorem load_ok {x : PG} {D : Nat → Prop} {H : Heap} {p dp : Nat} {s : Pl} {n : ByteArray} {k : Int} {K : (Option Addr × Int) → Heap → Prop} (hg : Gl H) (h : PoolD x D H p dp s) (hlogs : s.d.logs < 68719476736)
    (hE : (s.load n k).2.1 = none → ∀ q x' D' H', PoolD x' D' H' p dp (s.load n k).1 → Step (fun b => D b ∨ x.all p b) (fun b => D' b ∨ x'.all p b) H H' → K (q, (s.load n k).2.2) H')
    (hS : ∀ f, (s.load n k).2.1 = some f → ∀ g x' D' H', PoolD x' D' H' p dp s.room.1 → Step (fun b => D b ∨ x.all p b) (fun b => D' b ∨ x'.all p b) H H' → NewAt x' D' H' p g f → (∀ b, g.fp b → H.size ≤ b) → K (at0 g.p, 0) H') :
    pool_Pool_load.sp (at0 p) n k H K := by
  refine pool_Pool_load.of ?_
  unfold pool_Pool_load.vc
  simp only [optK_eq]
  refine newC_rowT fun H1 s1 r1 e1 => ?_
  have h1 := h.ext e1
  have hg1 : Gl H1 := hg.mod e1 id
  refine h1.pool.head.ld (c := cPtr) (i := 0) (x := at0 dp) rfl ?_
  refine r1.ld (c := cStr) (i := 0) (x := n) rfl ?_
  refine Len_ok h1.disk ?_
  unfold Pl.load at hE hS
  refine br_mk (fun hz => ?_) (fun hz => ?_)
  · have hz' : (s.d.len n).2 ≠ 0 := by simpa using hz
    rw [if_pos hz'] at hE
    exact hE rfl _ x D H1 h1 (.ext e1)
  have hz' : ¬ (s.d.len n).2 ≠ 0 := by simpa using hz
  rw [if_neg hz'] at hE hS
  refine r1.ld (c := cInt .i64) (i := 1) (x := k) rfl ?_
  refine br_mk (fun hk => ?_) (fun hk => ?_)
  · have hk' : k < 0 := by simpa using hk
    rw [if_pos (.inl hk')] at hE
    exact hE rfl _ x D H1 h1 (.ext e1)
  refine r1.ld (c := cInt .i64) (i := 1) (x := k) rfl ?_
  refine br_mk (fun hk2 => ?_) (fun hk2 => ?_)
  · have hk' : k ≥ ((s.d.len n).1 : Int) := by simpa using hk2
    rw [if_pos (.inr hk')] at hE
    exact hE rfl _ x D H1 h1 (.ext e1)
  have hk0 : 0 ≤ k := by simp at hk; omega
  have hkk : ¬ (k < 0 ∨ k ≥ ((s.d.len n).1 : Int)) := by simp at hk hk2; omega
  rw [if_neg hkk] at hE hS
  refine room_ok hg1 h1 hlogs fun x2 D2 H2 h2 S2 => ?_
  have S02 := (Step.ext (F := fun b => D b ∨ x.all p b) e1).trans S2
  have hg2 : Gl H2 := h1.gl hg1 S2.mod
  have hvoff : ¬ (D H.size ∨ x.all p H.size) := fun q => by have := h.lt _ q; omega
  have r2 : RowT H2 H.size ty_pool_spot #[.string n, .int .i64 k] := S2.mod.at r1 hvoff
  refine br_mk (fun hz2 => ?_) (fun hz2 => ?_)
  · have hz2' : s.room.2 ≠ 0 := by simpa using hz2
    rw [if_pos hz2'] at hE
    exact hE rfl _ x2 D2 H2 h2 S02
  have hz2' : ¬ s.room.2 ≠ 0 := by simpa using hz2
  rw [if_neg hz2'] at hE hS
  refine h2.pool.head.ld (c := cPtr) (i := 0) (x := at0 dp) rfl ?_
  refine r2.ld (c := cStr) (i := 0) (x := n) rfl ?_
  refine r2.ld (c := cInt .i64) (i := 1) (x := k) rfl ?_
  refine Read_ok h2.disk fun r H3 o3 e3 f3 => ?_
  have hrl := s.room.1.d.read_len n k
  refine br_mk (fun hz3 => ?_) (fun hz3 => ?_)
  · have hz3' : (s.room.1.d.read n k).2 ≠ 0 := by simpa using hz3
    rw [if_pos hz3'] at hE
    exact hE rfl _ x2 D2 H3 (h2.ext e3) (S02.behind e3)
  have hz3' : ¬ (s.room.1.d.read n k).2 ≠ 0 := by simpa using hz3
  rw [if_neg hz3'] at hE hS
  have r3 := r2.ext e3
  refine RowT.ldA (x := (n, k)) r3 rfl rfl ?_
  refine newC_rowT fun H4 s4 r4 e4 => ?_
  have e34 : Ext H2 H4 := e3.trans e4
  have hg4 : Gl H4 := hg2.mod e34 id
  have z02 := S02.mod.size
  have z24 := e34.size
  have z3 := e3.size
  have o4 : SlE EB ty_uint8 H4 r (s.room.1.d.read n k).1 := o3.keep fun b _ hl => e4.same b hl id
  have h512 : (s.room.1.d.read n k).1.length = 512 := hrl.2 (by omega)
  have fin : ∀ (H5 : Heap) (kd : Int) (sl : Sl) (er : Int), Ext H4 H5 → (∀ H6, RowT H6 H3.size ty_pool_frame #[.string n, .int .i64 k, .int .u8 kd, sl.v, .bool false, .int .i64 0, .int .i64 0] → Mod (fun b => b = H3.size) H5 H6 → H6.size = H5.size → K (some ⟨H3.size, 0, none⟩, er) H6) →
      st H5 (Addr.add ⟨H3.size, 0, none⟩ 2) (.int .u8 kd) fun H7 => st H7 (Addr.add ⟨H3.size, 0, none⟩ 3) sl.v fun H8 => K (some ⟨H3.size, 0, none⟩, er) H8 := by
    intro H5 kd sl er e45 hK
    refine RowT.st (r4.ext e45) (i := 2) (by decide : 2 < 7) (by rfl) fun H7 r7 m7 z7 => ?_
    refine RowT.st r7 (i := 3) (by decide : 3 < 7) (by rfl) fun H8 r8 m8 z8 => ?_
    exact hK H8 r8 (m7.trans m8) (by omega)
  have stays : ∀ (H5 H6 : Heap), Ext H4 H5 → Mod (fun b => b = H3.size) H5 H6 → PoolD x2 D2 H6 p dp s.room.1 ∧ Step (fun b => D b ∨ x.all p b) (fun b => D2 b ∨ x2.all p b) H H6 := by
    intro H5 H6 e45 m56
    have e26 : Ext H2 H6 := ⟨by have := e45.size; have := m56.size; omega, fun b hb _ => (m56.same b (by have := e45.size; omega) (by omega)).trans ((e34.trans e45).same b hb id)⟩
    exact ⟨h2.ext e26, S02.behind e26⟩
  refine Open_ok hg4 (SlB_byts o4) (by omega) o4.cap (fun q => absurd h512 q) (fun _ ho => ?_) (fun kd b s' H5 _ ho hbl o5 e45 f5 => ?_)
  · rw [ho] at hE
    refine fin H4 0 (Sl.mk none 0 0) 20 (.refl _ _) fun H6 r6 m6 z6 => ?_
    obtain ⟨q1, q2⟩ := stays H4 H6 (.refl _ _) m6
    exact hE rfl _ x2 D2 H6 q1 q2
  · rw [ho] at hS
    refine fin H5 _ s' 0 e45 fun H6 r6 m6 z6 => ?_
    obtain ⟨q1, q2⟩ := stays H5 H6 e45 m6
    have hfb : ∀ b, FrG.fp ⟨H3.size, s'⟩ b → H3.size ≤ b := by
      rintro b (e | hb)
      · exact Nat.le_of_eq e.symm
      · have := f5 b hb; omega
    have z45 := e45.size
    refine hS _ rfl ⟨H3.size, s'⟩ x2 D2 H6 q1 q2 ⟨⟨?_, o5.keep fun b hb hl => m6.same b hl ?_⟩, fun b hb => ?_⟩ (fun b hb => by have := hfb b hb; omega)
    · have ek : ((k.toNat : Nat) : Int) = k := by omega
      unfold frC
      simp only [ek]
      exact r6
    · have := f5 b hb; omega
    · have h3 := hfb b hb
      refine ⟨fun q => ?_, fun q => ?_, fun q => ?_⟩
      · have := h2.lt b (.inl q); omega
      · have := h2.lt b (.inr q); omega
      · have := hg2.lt; omega

end Go.Proofs.YtbgpkpbejldlcaaGreatDoor

/-
  The pool: the calls on pages and handles.
-/
namespace Go.Proofs.YtbgpkpbejldlcaaGreatDoor
open Go.MapKept

theorem PoolAt.ext {F : Nat → Prop} {H H' : Heap} {p dp : Nat} {s : Pl} (h : PoolAt F H p dp s) (e : Ext H H') : PoolAt F H' p dp s := h.keep fun b _ hl => e.same b hl id
/-- What is laid ahead of a step goes with it. -/
theorem Step.ahead {F G : Nat → Prop} {A B C : Heap} (e : Ext A B) (h : Step F G B C) : Step F G A C := (Step.ext e).trans h
theorem zc_spot : (zc Tryz.prog ty_pool_spot).size = 2 := by kernel_rfl

theorem Pin_ok {F : Nat → Prop} {H : Heap} {p dp : Nat} {s : Pl} {n : ByteArray} {k : Int} {K : (Int × Int) → Heap → Prop} (hg : Gl H) (h : PoolAt F H p dp s) (hn : n.size ≤ 9223372036854775807) (h0 : -9223372036854775808 ≤ k) (h1 : k ≤ 9223372036854775807)
    (hlogs : s.d.logs < 68719476736) (hnx : s.next < 9223372036854775807) (hK : ∀ F' H', PoolAt F' H' p dp (s.pin n k).1 → Step F F' H H' → K ((s.pin n k).2.1, (s.pin n k).2.2) H') : pool_Pool_Pin.sp (at0 p) n k H K := by
  have h00 := h
  obtain ⟨x, D, hd, hF⟩ := h
  refine pool_Pool_Pin.of ?_
  unfold pool_Pool_Pin.vc
  simp only [optK_eq]
  refine ready_pool hd.pool ?_
  unfold Pl.pin at hK
  refine br_mk (fun hw => ?_) (fun hw => ?_)
  · have hw' : s.wrong ≠ 0 := by simpa using hw
    rw [if_pos hw'] at hK
    exact hK F H h00 (.refl _ _)
  have hw' : ¬ s.wrong ≠ 0 := by simpa using hw
  rw [if_neg hw'] at hK
  refine newC_rowT fun H1 s1 r1 e1 => ?_
  have hs2 := zc_spot
  refine RowT.stAll r1 (cs := #[.string n, .int .i64 k]) (by kernel_rfl) hs2 (by intro v hv; simp at hv; rcases hv with rfl | rfl <;> rfl) fun H2 r2 m2 z2 => ?_
  have e2 : Ext H H2 := ⟨by have := e1.size; have := m2.size; omega, fun b hb _ => (m2.same b (by omega) (by omega)).trans (e1.same b hb id)⟩
  have hd2 := hd.ext e2
  have hg2 : Gl H2 := hg.mod e2 id
  refine hd2.pool.head.ld (c := cMap) (i := 2) (x := some x.mf) rfl ?_
  refine RowT.ldA (x := (n, k)) r2 rfl rfl ?_
  refine lookF_ok hd2.pool hn h0 h1 (fun i f g hi hz _ _ => ?_) (fun hi => ?_)
  · rw [hi] at hK
    have hfs : s.fs[i]? = some f := by rw [hd.pool.fs]; simp [PG.fs, hz]
    have hpl : f.pins.length ≤ s.pins := le_sum (fun f : Fr => f.pins.length) s.fs i f hfs
    have ht := hd.pool.wf.tick
    refine br_t rfl ?_
    refine pinAt_ok hg2 hd2 hz hnx (hd.pool.wf.pinAt hfs hnx) (by omega) fun x' H3 h3 S3 => ?_
    obtain ⟨F', q1, q2⟩ := h3.out (x := x) (D := D) (F := F) (H := H2) hF S3
    exact hK F' H3 q1 (q2.ahead e2)
  · rw [hi] at hK
    refine br_f rfl ?_
    refine RowT.ldA (x := (n, k)) r2 rfl rfl ?_
    refine load_ok hg2 hd2 hlogs (fun hno q x' D' H3 h3 S3 => ?_) (fun f hf g x' D' H3 h3 S3 hN hfp => ?_)
    · have hne := Pl.load_none hno
      obtain ⟨q', hq'⟩ : ∃ q', s.load n k = q' := ⟨_, rfl⟩
      obtain ⟨t, fo, e⟩ := q'
      rw [hq'] at hno hne h3 hK ⊢
      simp only at hno hne h3 hK ⊢
      subst hno
      simp only at hK
      refine br_t (by simpa using hne) ?_
      have hg3 : Gl H3 := hd2.gl hg2 S3.mod
      refine met_ok hg3 h3 fun H4 h4 S4 => ?_
      obtain ⟨F', q1, q2⟩ := h4.out (x := x) (D := D) (F := F) (H := H2) hF (S3.trans S4)
      exact hK F' H4 q1 (q2.ahead e2)
    · obtain ⟨a1, a2, a3, a4, a5, a6, a7, a8, a9⟩ := Pl.load_some hd.disk.wf hf
      obtain ⟨q', hq'⟩ : ∃ q', s.load n k = q' := ⟨_, rfl⟩
      obtain ⟨t, fo, e⟩ := q'
      rw [hq'] at hf a1 a2 hK
      simp only at hf a1 a2 hK
      subst hf
      simp only at hK
      rw [a1] at hK
      refine br_f rfl ?_
      have hg3 : Gl H3 := hd2.gl hg2 S3.mod
      have hrs := s.room_same
      have hrw := hd.pool.wf.roomed
      refine take_ok hg3 h3 hN (by rw [hrs.1]; exact hrw.2 a3) (by rw [hrs.2.1]; exact hnx) (by rw [a4, a5]; exact Pl.room_find hi) a6 a9 (by rw [a4]; exact hn) a7 a8 fun x4 H4 h4 S4 => ?_
      have S24 : Step (fun b => D b ∨ x.all p b) (fun b => D' b ∨ x4.all p b) H2 H4 := by
        refine ⟨S3.mod.trans' S4.mod fun b hb q => ?_, fun b hb => ?_⟩
        · rcases q with q | q
          · exact (S3.own b q).resolve_right (by omega)
          · have := hfp b q; omega
        · rcases S4.own b hb with q | q
          · rcases q with q | q
            · exact S3.own b q
            · exact .inr (hfp b q)
          · exact .inr (Nat.le_trans S3.mod.size q)
      obtain ⟨F', q1, q2⟩ := h4.out (x := x) (D := D) (F := F) (H := H2) hF S24
      exact hK F' H4 q1 (q2.ahead e2)

theorem Fresh_ok {F : Nat → Prop} {H : Heap} {p dp : Nat} {s : Pl} {n : ByteArray} {K : (Int × Int × Int) → Heap → Prop} (hg : Gl H) (h : PoolAt F H p dp s) (hn : n.size ≤ 9223372036854775807)
    (hlogs : s.d.logs < 68719476735) (hnx : s.next < 9223372036854775807) (hfit : s.Fit)
    (hK : ∀ F' H', PoolAt F' H' p dp (s.fresh n).1 → Step F F' H H' → K ((s.fresh n).2.1, (s.fresh n).2.2.1, (s.fresh n).2.2.2) H') : pool_Pool_Fresh.sp (at0 p) n H K := by
  have h00 := h
  obtain ⟨x, D, hd, hF⟩ := h
  refine pool_Pool_Fresh.of ?_
  unfold pool_Pool_Fresh.vc
  simp only [optK_eq]
  refine ready_pool hd.pool ?_
  unfold Pl.fresh at hK
  refine br_mk (fun hw => ?_) (fun hw => ?_)
  · have hw' : s.wrong ≠ 0 := by simpa using hw
    rw [if_pos hw'] at hK
    exact hK F H h00 (.refl _ _)
  have hw' : ¬ s.wrong ≠ 0 := by simpa using hw
  rw [if_neg hw'] at hK
  refine hd.pool.head.ld (c := cPtr) (i := 0) (x := at0 dp) rfl ?_
  refine Len_ok hd.disk ?_
  have fail : ∀ (e : Int) (x' : PG) (D' : Nat → Prop) (H1 : Heap) (s' : Pl), PoolD x' D' H1 p dp s' → Step (fun b => D b ∨ x.all p b) (fun b => D' b ∨ x'.all p b) H H1 → (∀ F' H', PoolAt F' H' p dp (s'.met e) → Step F F' H H' → K (0, 0, e) H') →
      pool_Pool_met.sp (at0 p) e H1 fun r H2 => K (0, 0, r) H2 := by
    intro e x' D' H1 s' h1 S1 hk
    refine met_ok (hd.gl hg S1.mod) h1 fun H2 h2 S2 => ?_
    obtain ⟨F', q1, q2⟩ := h2.out (x := x) (D := D) (F := F) (H := H) hF (S1.trans S2)
    exact hk F' H2 q1 q2
  refine br_mk (fun hz => ?_) (fun hz => ?_)
  · have hz' : (s.d.len n).2 = 0 := by simpa using hz
    rw [if_neg (by simpa using hz')] at hK
    refine room_ok hg hd (by omega) fun x1 D1 H1 h1 S1 => ?_
    have hg1 : Gl H1 := hd.gl hg S1.mod
    refine newC_rowT fun H2 s2 r2 e2 => ?_
    have h2 := h1.ext e2
    have S2 := S1.behind e2
    have hg2 : Gl H2 := hg1.mod e2 id
    refine br_mk (fun hr => ?_) (fun hr => ?_)
    · have hr' : s.room.2 = 0 := by simpa using hr
      rw [if_neg (by simpa using hr')] at hK
      have hA : FrAt H2 ⟨H1.size, Sl.mk none 0 0⟩ ⟨n, (s.d.len n).1, 0, [], false, [], 0⟩ := ⟨r2, SlE.nil _ _ _⟩
      have hfp : ∀ b, FrG.fp ⟨H1.size, Sl.mk none 0 0⟩ b → b = H1.size := by
        rintro b (e | ⟨ad, q, _⟩)
        · exact e
        · cases q
      have hoff1 : ∀ b, D1 b ∨ x1.all p b → b < H1.size := h1.lt
      have hlg : s.room.1.d.logs < 68719476736 := by
        have : s.room.1.d.logs ≤ s.d.logs + 1 := s.room_logs
        omega
      refine writeF_ok (f := ⟨n, (s.d.len n).1, 0, [], false, [], 0⟩) hg2 h2.disk h2.pool.head rfl hA (by simp) (fun b hb q => by have := hfp b hb; have := hoff1 b (.inl q); omega) hlg (fun hne D3 H3 a3 S3 => ?_) (fun he D3 H3 H4 a3 S3 hf4 m4 z4 => ?_)
      · have hne' : (s.room.1.d.write n ((s.d.len n).1 : Int) (sealP 0 [])).2 ≠ 0 := hne
        rw [if_pos hne'] at hK
        obtain ⟨q1, q2⟩ := h2.stepD hg2 a3 S3
        refine br_t (by simpa using hne) ?_
        exact fail _ x1 D3 H3 _ q1 (S2.trans q2) hK
      · have he' : ¬ (s.room.1.d.write n ((s.d.len n).1 : Int) (sealP 0 [])).2 ≠ 0 := fun q => q he
        rw [if_neg he'] at hK
        obtain ⟨q1, q2⟩ := h2.stepD hg2 a3 S3
        refine br_f rfl ?_
        have hl4 : ∀ b, b < H1.size → H4[b]? = H3[b]? := fun b hb => m4.same b (by have := e2.size; have := S3.mod.size; omega) (by show b ≠ H1.size; omega)
        have hin : ∀ b, D3 b ∨ x1.all p b → b ≠ H1.size := by
          intro b q e
          subst e
          rcases q with q | q
          · rcases S3.own _ q with r | r
            · have := hoff1 _ (.inl r); omega
            · have := e2.size; omega
          · have := hoff1 _ (.inr q); omega
        have q4 : PoolD x1 D3 H4 p dp (s.room.1.setD (s.room.1.d.write n ((s.d.len n).1 : Int) (sealP 0 [])).1) :=
          ⟨q1.pool.keep fun b hb hl => m4.same b hl (hin b (.inr hb)), q1.disk.keep fun b hb hl => m4.same b hl (hin b (.inl hb)), q1.apart, q1.glob⟩
        have S4 : Step (fun b => D b ∨ x.all p b) (fun b => D3 b ∨ x1.all p b) H H4 := by
          have S3' := S2.trans q2
          refine ⟨S3'.mod.trans' m4 fun b hb q => ?_, S3'.own⟩
          have : b = H1.size := q
          have := S1.mod.size; omega
        have hg4 : Gl H4 := hd.gl hg S4.mod
        have hNew : NewAt x1 D3 H4 p ⟨H1.size, Sl.mk none 0 0⟩ ⟨n, (s.d.len n).1, 0, [], false, [], 0⟩ := by
          refine ⟨hf4, fun b hb => ?_⟩
          have eb := hfp b hb
          refine ⟨fun q => hin b (.inl q) eb, fun q => hin b (.inr q) eb, fun q => ?_⟩
          have := hg1.lt; omega
        have hrs := s.room_same
        have hrw := hd.pool.wf.roomed
        have hle := Dk.len_le hd.disk.wf n
        obtain ⟨f, hf⟩ : ∃ f : Fr, f = ⟨n, (s.d.len n).1, 0, [], false, [], 0⟩ := ⟨_, rfl⟩
        rw [← hf] at hNew hK
        have c1 : f.name = n := by rw [hf]
        have c2 : f.page = (s.d.len n).1 := by rw [hf]
        have c3 : f.b = [] := by rw [hf]
        have c4 : f.pins = [] := by rw [hf]
        have c5 : f.left = 0 := by rw [hf]
        have d1 : (s.room.1.setD (s.room.1.d.write n ((s.d.len n).1 : Int) (sealP 0 [])).1).fs.length < (s.room.1.setD (s.room.1.d.write n ((s.d.len n).1 : Int) (sealP 0 [])).1).most := by
          show _ < s.room.1.most; rw [hrs.1]; exact hrw.2 hr'
        have d2 : (s.room.1.setD (s.room.1.d.write n ((s.d.len n).1 : Int) (sealP 0 [])).1).next < 9223372036854775807 := by
          show s.room.1.next < _; rw [hrs.2.1]; exact hnx
        have d3 : (s.room.1.setD (s.room.1.d.write n ((s.d.len n).1 : Int) (sealP 0 [])).1).find f.name f.page = none := by
          rw [c1, c2]; exact Pl.room_find (hfit.new hz')
        have d4 : f.b.length ≤ 504 := by rw [c3]; exact Nat.zero_le _
        have d5 : f.page < 1048577 := by rw [c2]; omega
        have d6 : f.name.size ≤ 9223372036854775807 := by rw [c1]; exact hn
        show pool_Pool_take.sp (at0 p) (at0 H1.size) H4 (fun r H7 => K (r, ((s.d.len n).1 : Int), 0) H7)
        refine take_ok (g := ⟨H1.size, Sl.mk none 0 0⟩) (K := fun r H7 => K (r, ((s.d.len n).1 : Int), 0) H7) hg4 q4 hNew d1 d2 d3 d4 d5 d6 c4 c5 fun x5 H5 h5 S5 => ?_
        have S45 : Step (fun b => D b ∨ x.all p b) (fun b => D3 b ∨ x5.all p b) H H5 := by
          refine ⟨S4.mod.trans' S5.mod fun b hb q => ?_, fun b hb => ?_⟩
          · rcases q with q | q
            · exact (S4.own b q).resolve_right (by omega)
            · have := hfp b q; have := S1.mod.size; omega
          · rcases S5.own b hb with q | q
            · rcases q with q | q
              · exact S4.own b q
              · have := hfp b q; have := S1.mod.size; exact .inr (by omega)
            · exact .inr (Nat.le_trans S4.mod.size q)
        obtain ⟨F', t1, t2⟩ := h5.out (x := x) (D := D) (F := F) (H := H) hF S45
        exact hK F' H5 t1 t2
    · have hr' : s.room.2 ≠ 0 := by simpa using hr
      rw [if_pos hr'] at hK
      refine br_t (by simpa using hr') ?_
      exact fail _ x1 D1 H2 _ h2 S2 hK
  · have hz' : (s.d.len n).2 ≠ 0 := by simpa using hz
    rw [if_pos hz'] at hK
    refine newC_rowT fun H2 s2 r2 e2 => ?_
    refine br_f hz ?_
    have ht : ((s.d.len n).2 != 0) = true := by simpa using hz'
    refine br_t ht ?_
    exact fail _ x D H2 s (hd.ext e2) (Step.ext e2) hK

end Go.Proofs.YtbgpkpbejldlcaaGreatDoor

/-
  The pool: the calls on handles; what a pool tells of itself.
-/
namespace Go.Proofs.YtbgpkpbejldlcaaGreatDoor
open Go.MapKept

theorem held_ok {x : PG} {H : Heap} {p dp : Nat} {s : Pl} {k : Int} {K : (Option Addr × Int) → Heap → Prop} (h : PoolG x H p dp s) (hW : s.wrong ≠ 0 → K (none, s.wrong) H)
    (hN : s.wrong = 0 → s.held k = none → K (none, 32) H) (hF : ∀ i f g, s.wrong = 0 → s.held k = some i → x.zs[i]? = some (f, g) → k ∈ f.pins → K (at0 g.p, 0) H) : pool_Pool_held.sp (at0 p) k H K := by
  refine pool_Pool_held.of ?_
  unfold pool_Pool_held.vc
  simp only [optK_eq]
  refine ready_pool h ?_
  refine br_mk (fun hw => hW (by simpa using hw)) (fun hw => ?_)
  have hw' : s.wrong = 0 := by simpa using hw
  refine h.head.ld (c := cMap) (i := 3) (x := some x.mh) rfl ?_
  exact lookH_ok h (fun i f g hi hz hk => hF i f g hw' hi hz hk) (fun hi => hN hw' hi)

theorem Get_ok {F : Nat → Prop} {H : Heap} {p dp : Nat} {s : Pl} {k : Int} {K : (Int × Sl × Int) → Heap → Prop} (h : PoolAt F H p dp s)
    (hK : ∀ sl H', SlE EB ty_uint8 H' sl (s.get k).2.1 → Ext H H' → (∀ b, ownB sl b → H.size ≤ b) → K (((s.get k).1.toNat : Int), sl, (s.get k).2.2) H') : pool_Pool_Get.sp (at0 p) k H K := by
  obtain ⟨x, D, hd, hF⟩ := h
  refine pool_Pool_Get.of ?_
  unfold pool_Pool_Get.vc
  unfold Pl.get at hK
  have nil : ∀ b, ownB (Sl.mk none 0 0) b → H.size ≤ b := by rintro b ⟨ad, q, _⟩; cases q
  refine held_ok hd.pool (fun hw => ?_) (fun hw hh => ?_) (fun i f g hw hh hz hk => ?_)
  · rw [if_pos hw] at hK
    exact br_t (by simpa using hw) (hK _ H (SlE.nil _ _ _) (.refl _ _) nil)
  · rw [if_neg (fun q => q hw), hh] at hK
    exact br_t rfl (hK _ H (SlE.nil _ _ _) (.refl _ _) nil)
  · have hfs : s.fs[i]? = some f := by rw [hd.pool.fs]; simp [PG.fs, hz]
    rw [if_neg (fun q => q hw), hh] at hK
    simp only [Pl.frame_eq hfs] at hK
    have hA := hd.pool.frames.each _ (List.mem_of_getElem? hz)
    refine br_f rfl ⟨fun H' => Ext H H', .refl _ _, ?_⟩
    simp only [optK_eq]
    refine ⟨(f.kind.toNat : Int), fun H' e => ?_, ?_⟩
    · rw [add_lit0]
      exact RowT.cell (RowT.ext hA.row e) rfl
    · refine hA.row.ld (c := cSl) (i := 3) (x := g.b) rfl ?_
      have hroom := hd.pool.wf.room f (List.mem_of_getElem? hfs)
      refine CloneByte_ok (SlB_byts hA.b) (by show f.b.length ≤ _; omega) fun sl H' o m fr => ⟨m, hK sl H' o m fr⟩

/-- A frame of the pool is turned; its handles stay. -/
theorem PoolD.turnF {x : PG} {D : Nat → Prop} {H H' : Heap} {p dp : Nat} {s : Pl} {i : Nat} {f : Fr} {g g' : FrG} {u : Fr → Fr} (hg : Gl H) (h : PoolD x D H p dp s) (hz : x.zs[i]? = some (f, g)) (hk : (u f).key = f.key) (hpi : (u f).pins = f.pins) (hl : (u f).left = f.left) (hb5 : (u f).b.length ≤ 504) (hp : g'.p = g.p)
    (hq : FrAt H' g' (u f)) (hm : Mod (fun b => b = g.p) H H') (hb : ∀ b, g'.fp b → g.fp b ∨ H.size ≤ b) :
    PoolD { x with zs := x.zs.set i (u f, g') } D H' p dp (s.turn i u) ∧ Step (fun b => D b ∨ x.all p b) (fun b => D b ∨ PG.all { x with zs := x.zs.set i (u f, g') } p b) H H' := by
  have hzm := List.mem_of_getElem? hz
  have hfs : s.fs[i]? = some f := by rw [h.pool.fs]; simp [PG.fs, hz]
  have h1 : (u f).name = f.name := congrArg Prod.fst hk
  have h2 : (u f).page = f.page := congrArg Prod.snd hk
  obtain ⟨t1, t2⟩ := h.pool.frames.turn (H' := H') (z' := (u f, g')) hz h1 h2 hpi hp hq (fun b _ hn hl => hm.same b hl fun e => hn (e ▸ .inl rfl)) hb
  have hp2 : PoolG { x with zs := x.zs.set i (u f, g') } H' p dp (s.turn i u) := by
    refine ⟨hm.at h.pool.head fun e => PoolG.off h.pool.head h.pool.frames (e ▸ .inr (.inr ⟨_, hzm, .inl rfl⟩)), t1, ?_, h.pool.wf.turn hfs hk hpi hl hb5⟩
    show s.fs.modify i u = (x.zs.set i (u f, g')).map (·.1)
    rw [modify_set hfs, h.pool.fs]
    simp [PG.fs, List.map_set]
  exact h.stepP hg hp2 rfl (hm.mono fun b _ e => .inr (.inr (.inr ⟨_, hzm, .inl e⟩))) t2

theorem Put_ok {F : Nat → Prop} {H : Heap} {p dp : Nat} {s : Pl} {k : Int} {kd : UInt8} {b : Sl} {l : List UInt8} {K : Int → Heap → Prop} (hg : Gl H) (h : PoolAt F H p dp s) (hb : Byts H b l)
    (hK : ∀ F' H', PoolAt F' H' p dp (s.set k kd l).1 → Step F F' H H' → K (s.set k kd l).2 H') : pool_Pool_Put.sp (at0 p) k (kd.toNat : Int) b H K := by
  have h00 := h
  obtain ⟨x, D, hd, hF⟩ := h
  refine pool_Pool_Put.of ?_
  unfold pool_Pool_Put.vc
  unfold Pl.set at hK
  have hn := hb.n
  refine held_ok hd.pool (fun hw => ?_) (fun hw hh => ?_) (fun i f g hw hh hz hk => ?_)
  · rw [if_pos hw] at hK
    exact br_t (by simpa using hw) (hK F H h00 (.refl _ _))
  · rw [if_neg (fun q => q hw), hh] at hK
    exact br_t rfl (hK F H h00 (.refl _ _))
  · rw [if_neg (fun q => q hw), hh] at hK
    simp only at hK
    refine br_f rfl (br_mk (fun hl => ?_) (fun hl => ?_))
    · have hl' : l.length > 504 := by rw [hn] at hl; simp at hl; omega
      rw [if_pos hl'] at hK
      exact hK F H h00 (.refl _ _)
    · have hl' : ¬ l.length > 504 := by rw [hn] at hl; simp at hl; omega
      rw [if_neg hl'] at hK
      refine CloneByte_ok hb (by omega) fun sl H1 o1 m1 f1 => ?_
      have hd1 := hd.ext m1
      have hg1 : Gl H1 := hg.mod m1 id
      have hzm := List.mem_of_getElem? hz
      have hA := hd1.pool.frames.each _ hzm
      simp only [optK_eq]
      refine hA.row.st (i := 2) (by decide : 2 < 7) (by rfl) fun H2 r2 m2 z2 => ?_
      refine r2.st (i := 3) (by decide : 3 < 7) (by rfl) fun H3 r3 m3 z3 => ?_
      refine r3.st (i := 4) (by decide : 4 < 7) (by rfl) fun H4 r4 m4 z4 => ?_
      have m14 : Mod (fun b => b = g.p) H1 H4 := (m2.trans m3).trans m4
      have m04 : Mod (fun b => b = g.p) H H4 := (Ext.mod m1).trans m14
      have hgH : g.p < H.size := obj_lt (hd.pool.frames.each _ hzm).row
      have hq : FrAt H4 ⟨g.p, sl⟩ (Fr.set kd l f) := by
        refine ⟨r4, o1.keep fun b hb hl => m14.same b hl fun e => ?_⟩
        have hb1 := f1 b hb
        have : b = g.p := e
        omega
      obtain ⟨q1, q2⟩ := hd.turnF (g' := ⟨g.p, sl⟩) (u := Fr.set kd l) hg hz rfl rfl rfl (by show l.length ≤ 504; omega) rfl hq m04 (by
        rintro b (e | hb)
        · exact .inl (.inl e)
        · exact .inr (f1 b hb))
      obtain ⟨F', t1, t2⟩ := q1.out (x := x) (D := D) (F := F) (H := H) hF q2
      exact hK F' H4 t1 t2

theorem kvH_unpin {h t : Int} {zs : List FZ} {i : Nat} {f : Fr} {g : FrG} (hz : zs[i]? = some (f, g)) (hd : ((zs.map (·.1)).flatMap (·.pins)).Nodup) (hh : h ∈ f.pins) : ∀ k v, (k, v) ∈ kvH (zs.set i (Fr.unpin h t f, g)) ↔ (k, v) ∈ kvH zs ∧ k ≠ .int .i64 h := by
  intro k v
  have hil := (List.getElem?_eq_some_iff.1 hz).1
  have other : ∀ j (z : FZ), zs[j]? = some z → h ∈ z.1.pins → j = i := by
    intro j z hj hm
    exact flat_inj hd (i := j) (j := i) (f := z.1) (g := f) (by simp [hj]) (by simp [hz]) hm hh
  unfold kvH
  simp only [List.mem_flatMap]
  constructor
  · rintro ⟨z, hzs, e⟩
    rcases mem_set' hzs with ⟨j, hji, hj⟩ | rfl
    · refine ⟨⟨z, List.mem_of_getElem? hj, e⟩, fun q => ?_⟩
      obtain ⟨y, hy, e2⟩ := List.mem_map.1 e
      simp only [Prod.mk.injEq] at e2
      rw [q] at e2
      simp only [Value.int.injEq, true_and] at e2
      rw [e2.1] at hy
      exact hji (other j z hj hy)
    · obtain ⟨y, hy, e2⟩ := List.mem_map.1 e
      have hy' := List.mem_filter.1 hy
      simp only [Prod.mk.injEq] at e2
      refine ⟨⟨(f, g), List.mem_of_getElem? hz, List.mem_map.2 ⟨y, hy'.1, by simp only [Prod.mk.injEq]; exact e2⟩⟩, fun q => ?_⟩
      rw [q] at e2
      simp only [Value.int.injEq, true_and] at e2
      have := hy'.2
      rw [e2.1] at this
      simp at this
  · rintro ⟨⟨z, hzm, e⟩, hne⟩
    obtain ⟨j, hj⟩ := List.mem_iff_getElem?.1 hzm
    by_cases hij : i = j
    · subst hij
      rw [hz] at hj; cases hj
      refine ⟨(Fr.unpin h t f, g), List.mem_iff_getElem?.2 ⟨i, by simp [hil]⟩, ?_⟩
      obtain ⟨y, hy, e2⟩ := List.mem_map.1 e
      refine List.mem_map.2 ⟨y, List.mem_filter.2 ⟨hy, ?_⟩, e2⟩
      simp only [Prod.mk.injEq] at e2
      have : y ≠ h := fun q => hne (by rw [← e2.1, q])
      simp [this]
    · exact ⟨z, List.mem_iff_getElem?.2 ⟨j, by rw [List.getElem?_set, if_neg hij]; exact hj⟩, e⟩

theorem Unpin_ok {F : Nat → Prop} {H : Heap} {p dp : Nat} {s : Pl} {k : Int} {K : Int → Heap → Prop} (hg : Gl H) (h : PoolAt F H p dp s) (hnx : s.next < 9223372036854775807)
    (hK : ∀ F' H', PoolAt F' H' p dp (s.unpin k).1 → Step F F' H H' → K (s.unpin k).2 H') : pool_Pool_Unpin.sp (at0 p) k H K := by
  have h00 := h
  obtain ⟨x, D, hd, hF⟩ := h
  refine pool_Pool_Unpin.of ?_
  unfold pool_Pool_Unpin.vc
  have hwf := hd.pool.wf.unpin k hnx
  unfold Pl.unpin at hK hwf
  refine held_ok hd.pool (fun hw => ?_) (fun hw hh => ?_) (fun i f g hw hh hz hk => ?_)
  · rw [if_pos hw] at hK
    exact br_t (by simpa using hw) (hK F H h00 (.refl _ _))
  · rw [if_neg (fun q => q hw), hh] at hK
    exact br_t rfl (hK F H h00 (.refl _ _))
  · rw [if_neg (fun q => q hw), hh] at hK hwf
    simp only at hK hwf
    refine br_f rfl ?_
    simp only [optK_eq]
    have hzm := List.mem_of_getElem? hz
    have hfs : s.fs[i]? = some f := by rw [hd.pool.fs]; simp [PG.fs, hz]
    have hfl : f.pins.length ≤ s.pins := le_sum (fun f : Fr => f.pins.length) s.fs i f hfs
    have ht := hd.pool.wf.tick
    have hA := hd.pool.frames.each _ hzm
    have hoff := hd.pool.frames.off hzm
    refine hd.pool.head.ld (c := cMap) (i := 3) (x := some x.mh) rfl ?_
    obtain ⟨et, inf, hu, hdd, _, _⟩ := mapHand
    refine doT_delete hu hdd hd.pool.frames.hmap (k := .int .i64 k) (show IntKind.i64 = IntKind.i64 from rfl) fun es' H1 hm1 it _ mo1 z1 => ?_
    have hpm : p ≠ x.mh := fun e => PoolG.off hd.pool.head hd.pool.frames (.inr (.inl e))
    have hd1 : RowT H1 p ty_pool_Pool (headP dp x s) := mo1.at hd.pool.head hpm
    refine hd1.ld (c := cInt .i64) (i := 5) (x := s.tick) rfl ?_
    refine hd1.st (i := 5) (by decide : 5 < 8) (by rfl) fun H2 r2 m2 z2 => ?_
    have hgm : g.p ≠ x.mh := fun e => hoff.2 (.inl e.symm)
    have hpg : p ≠ g.p := fun e => PoolG.off hd.pool.head hd.pool.frames (e ▸ .inr (.inr ⟨_, hzm, .inl rfl⟩))
    have hA2 : RowT H2 g.p ty_pool_frame (frC g f) := m2.at (mo1.at hA.row hgm) (fun e => hpg e.symm)
    refine hA2.ld (c := cInt .i64) (i := 5) (x := (f.pins.length : Int)) rfl ?_
    refine r2.ld (c := cInt .i64) (i := 5) (x := w64 (s.tick + 1)) rfl ?_
    refine hA2.st (i := 5) (by decide : 5 < 7) (by rfl) fun H3 r3 m3 z3 => ?_
    refine r3.st (i := 6) (by decide : 6 < 7) (by rfl) fun H4 r4 m4 z4 => ?_
    have hm04 : Mod (fun b => b = g.p ∨ b = x.mh ∨ b = p) H H4 := (((mo1.mono fun b _ e => .inr (.inl e)).trans (m2.mono fun b _ e => .inr (.inr e))).trans (m3.mono fun b _ e => .inl e)).trans (m4.mono fun b _ e => .inl e)
    have hlen := filter_one (flat_nodup hd.pool.wf.pins hfs) hk
    have ew : IntKind.i64.wrap ((f.pins.length : Int) - 1) = (((Fr.unpin k (w64 (s.tick + 1)) f).pins.length : Nat) : Int) := by
      show _ = (((f.pins.filter fun x => decide (x ≠ k)).length : Nat) : Int)
      rw [wrap64 (by omega) (by omega)]; omega
    have hq : FrAt H4 g (Fr.unpin k (w64 (s.tick + 1)) f) := by
      refine ⟨?_, hA.b.keep fun b hb hl => hm04.same b hl ?_⟩
      · rw [ew] at r4; exact r4
      · obtain ⟨c, q⟩ := hA.b.obj b hb
        rintro (e | e | e)
        · rw [e] at q; exact absurd (cells_ty hA.row q) (by decide)
        · rw [e, hd.pool.frames.hmap.obj] at q; cases q
        · rw [e] at q; exact absurd (cells_ty hd.pool.head q) (by decide)
    have hpins := hd.pool.wf.pins
    rw [hd.pool.fs] at hpins
    have m24 : Mod (fun b => b = g.p) H2 H4 := m3.trans m4
    obtain ⟨t1, t2⟩ := hd.pool.frames.set (H' := H4) (z' := (Fr.unpin k (w64 (s.tick + 1)) f, g)) (eh' := es') (ch' := x.ch) hz rfl rfl rfl hq (hm1.keep ((m24.same _ (by have := hm1.lt; omega) (fun e => hgm e.symm)).trans (m2.same _ hm1.lt (fun e => hpm e.symm)))) (fun a v => by
      rw [it, hd.pool.frames.entH, kvH_unpin hz hpins hk]) (fun b hb hn1 hn2 hl => hm04.same b hl (by
        rintro (e | e | e)
        · exact hn1 (.inl e)
        · exact hn2 e
        · exact PoolG.off hd.pool.head hd.pool.frames (e ▸ hb))) (fun b hb => .inl hb)
    have hp4 : PoolG { x with zs := x.zs.set i (Fr.unpin k (w64 (s.tick + 1)) f, g), eh := es', ch := x.ch } H4 p dp { s with fs := s.fs.modify i (Fr.unpin k (w64 (s.tick + 1))), tick := w64 (s.tick + 1) } := by
      refine ⟨m24.at r2 hpg, t1, ?_, hwf⟩
      show s.fs.modify i _ = (x.zs.set i _).map (·.1)
      rw [modify_set hfs, hd.pool.fs]
      simp [PG.fs, List.map_set]
    obtain ⟨q1, q2⟩ := hd.stepP hg hp4 rfl (hm04.mono fun b _ e => by
      rcases e with e | e | e
      · exact .inr (.inr (.inr ⟨_, hzm, .inl e⟩))
      · exact .inr (.inr (.inl e))
      · exact .inl e) t2
    obtain ⟨F', t3, t4⟩ := q1.out (x := x) (D := D) (F := F) (H := H) hF q2
    exact hK F' H4 t3 t4

/-! ### What a pool tells of itself -/

theorem PDisk_ok {F : Nat → Prop} {H : Heap} {p dp : Nat} {s : Pl} {K : Option Addr → Heap → Prop} (h : PoolAt F H p dp s) (hK : K (at0 dp) H) : pool_Pool_Disk.sp (at0 p) H K := by
  obtain ⟨x, D, hd, hF⟩ := h
  refine pool_Pool_Disk.of ?_
  unfold pool_Pool_Disk.vc
  refine br_f rfl ?_
  exact hd.pool.head.ld (c := cPtr) (i := 0) (x := at0 dp) rfl hK
/-- The pool's disk makes a step of its own. -/
theorem PoolAt.disk {F : Nat → Prop} {H : Heap} {p dp : Nat} {s : Pl} (hg : Gl H) (h : PoolAt F H p dp s) : ∃ D, DiskAt D H dp s.d ∧ (∀ b, D b → F b) ∧ ∀ D' H' d, DiskAt D' H' dp d → Step D D' H H' → ∃ F', PoolAt F' H' p dp (s.setD d) ∧ Step F F' H H' := by
  obtain ⟨x, D, hd, hF⟩ := h
  refine ⟨D, hd.disk, fun b hb => (hF b).2 (.inl hb), fun D' H' d hd' hS => ?_⟩
  obtain ⟨q1, q2⟩ := hd.stepD hg hd' hS
  exact q1.out (x := x) (D := D) (F := F) (H := H) hF q2

theorem kvF_nodup {zs : List FZ} (h : ((zs.map (·.1)).map Fr.key).Nodup) : (kvF zs).Nodup := by
  have e : (zs.map (·.1)).map Fr.key = zs.map fun z => (z.1.name, z.1.page) := by simp [Fr.key]
  rw [e] at h
  unfold kvF
  unfold List.Nodup at h ⊢
  rw [List.pairwise_map] at h ⊢
  refine h.imp fun {a b} hne q => hne ?_
  simp only [Prod.mk.injEq] at q
  have := keyV_inj q.1
  simp only [Prod.mk.injEq]
  exact ⟨this.1, by omega⟩
theorem PoolG.perm {x : PG} {H : Heap} {p dp : Nat} {s : Pl} (h : PoolG x H p dp s) : (x.ef.toList.map fun e => (e.key, e.val)).Perm (kvF x.zs) := by
  have hk := h.wf.keys
  rw [h.fs] at hk
  have hst := h.frames.fmap.stamped
  have hnd : (x.ef.toList.map fun e => (e.key, e.val)).Nodup := by
    have := hst.2.2
    unfold List.Nodup at this ⊢
    rw [List.pairwise_map] at this ⊢
    exact this.imp fun hne q => hne (congrArg Prod.fst q)
  rw [List.perm_ext_iff_of_nodup hnd (kvF_nodup hk)]
  rintro ⟨k, v⟩
  rw [← h.frames.entF k v]
  constructor
  · intro q
    obtain ⟨e, he, q2⟩ := List.mem_map.1 q
    simp only [Prod.mk.injEq] at q2
    exact ⟨e, he, q2.1, q2.2⟩
  · rintro ⟨e, he, q1, q2⟩
    exact List.mem_map.2 ⟨e, he, by rw [q1, q2]⟩

open Classical in
/-- Is the frame behind a pointer held? -/
noncomputable def pinW (x : PG) (kv : Value × Value) : Nat := if ∃ z ∈ x.zs, kv.2 = ptrV z.2.p ∧ z.1.pins ≠ [] then 1 else 0
theorem pinW_at {x : PG} {H : Heap} (h : FramesAt H x) {z : FZ} (hz : z ∈ x.zs) {k : Value} : pinW x (k, ptrV z.2.p) = if z.1.pins.isEmpty then 0 else 1 := by
  unfold pinW
  by_cases hp : z.1.pins = []
  · rw [if_neg, if_pos (List.isEmpty_iff.2 hp)]
    rintro ⟨y, hy, e, hyp⟩
    have := h.ptr hz hy (ptrV_inj e)
    subst this
    exact hyp hp
  · rw [if_pos ⟨z, hz, rfl, hp⟩, if_neg (fun q => hp (List.isEmpty_iff.1 q))]
theorem pinned_sum {x : PG} {H : Heap} (h : FramesAt H x) : ((kvF x.zs).map (pinW x)).sum = ((x.fs.filter fun f => !f.pins.isEmpty)).length := by
  have key : ∀ l : List FZ, (∀ z ∈ l, z ∈ x.zs) → ((kvF l).map (pinW x)).sum = ((l.map (·.1)).filter fun f => !f.pins.isEmpty).length := by
    intro l
    induction l with
    | nil => intro _; rfl
    | cons z l ih =>
      intro hl
      have ih' := ih fun y hy => hl y (List.mem_cons_of_mem _ hy)
      simp only [kvF, List.map_cons, List.sum_cons, List.filter_cons] at ih' ⊢
      rw [pinW_at h (hl z List.mem_cons_self), ih']
      cases z.1.pins.isEmpty <;> simp <;> omega
  exact key x.zs fun _ hz => hz

theorem Pinned_ok {F : Nat → Prop} {H : Heap} {p dp : Nat} {s : Pl} {K : Int → Heap → Prop} (h : PoolAt F H p dp s) (hnx : s.next < 9223372036854775807) (hK : ∀ H', Ext H H' → K (s.pinned : Int) H') : pool_Pool_Pinned.sp (at0 p) H K := by
  obtain ⟨x, D, hd, hF⟩ := h
  refine pool_Pool_Pinned.of ?_
  unfold pool_Pool_Pinned.vc
  refine br_t rfl ?_
  simp only [optK_eq]
  refine hd.pool.head.ld (c := cMap) (i := 2) (x := some x.mf) rfl ?_
  obtain ⟨et, inf, hu, _⟩ := mapSpot
  have hF0 := hd.pool.frames
  refine doT_rangeW hu hF0.fmap fun H1 hit e1 => ?_
  have hsz := obj_lt hit
  have hF1 : FramesAt H1 x := hF0.keep fun b _ hl => e1.same b hl id
  have hlen := hd.pool.wf.len
  have hmost := hd.pool.wf.most
  have hn := hd.pool.n
  have hle1 : ∀ kv, pinW x kv ≤ 1 := by intro kv; unfold pinW; split <;> omega
  have hbound : ∀ l : List MapEntry, (l.map fun e => pinW x (e.key, e.val)).sum ≤ l.length := by
    intro l
    induction l with
    | nil => exact Nat.le_refl _
    | cons a l ih => simp only [List.map_cons, List.sum_cons, List.length_cons]; have := hle1 (a.key, a.val); omega
  refine map_rangeW (it := H.size) (fun l n A => n = (((l.map fun e => pinW x (e.key, e.val)).sum : Nat) : Int) ∧ Mod (fun k => k = H.size) H1 A) hF1.fmap hit ⟨rfl, .refl _ _⟩ (fun l b A A' q m _ => ⟨q.1, q.2.trans m⟩) ?_ ?_
  · rintro l e n A next ⟨rfl, hM⟩ he hel hsub hnd _ _ hnext
    obtain ⟨z, hz, hke, hv⟩ := hF0.entry he
    have hA : FramesAt A x := hF1.keep fun c hc hl => hM.same c hl fun q => by have := hF0.lt c hc; omega
    have hz1 := hA.each z hz
    refine ⟨at0 z.2.p, by rw [hv]; rfl, ?_⟩
    simp only [optK_eq]
    refine hz1.row.ld (c := cInt .i64) (i := 5) (x := (z.1.pins.length : Int)) rfl ?_
    refine hnext _ _ ⟨?_, hM⟩ rfl rfl
    have hll : l.length ≤ x.ef.size := by
      have := List.Nodup.length_le_of_subset hnd (l₂ := x.ef.toList) (fun y hy => hsub y hy)
      simpa using this
    have hb := hbound l
    have e1 : pinW x (e.key, e.val) = if z.1.pins.isEmpty then 0 else 1 := by rw [hv]; exact pinW_at hF0 hz
    rw [List.map_append, List.sum_append, List.map_cons, List.map_nil, List.sum_cons, List.sum_nil, e1]
    have e2 : (if (1 : Int) < (z.1.pins.length : Int) then (1 : Int) else (z.1.pins.length : Int)) = ((if z.1.pins.isEmpty then 0 else 1 : Nat) : Int) := by
      cases hq : z.1.pins with
      | nil => rfl
      | cons a r =>
        simp only [List.length_cons, List.isEmpty_cons]
        split <;> simp <;> omega
    rw [e2, wrap64 (by omega) (by split <;> omega)]
    omega
  · rintro l n A ⟨rfl, hM⟩ hperm _
    have hE : Ext H A := ⟨by have := e1.size; have := hM.size; omega, fun c hc _ => (hM.same c (by omega) (by omega)).trans (e1.same c hc id)⟩
    have e3 : (l.map fun e => pinW x (e.key, e.val)).sum = s.pinned := by
      have h1 : (l.map fun e => (e.key, e.val)).Perm (kvF x.zs) := (hperm.map _).trans hd.pool.perm
      have h2 := (h1.map (pinW x)).sum_nat
      rw [pinned_sum hF0, List.map_map] at h2
      unfold Pl.pinned
      rw [hd.pool.fs]
      exact h2
    rw [e3]; exact hK A hE

end Go.Proofs.YtbgpkpbejldlcaaGreatDoor
