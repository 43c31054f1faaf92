/-
  The pool in plain words, over one file on a disk that stays up: what the pages tell.
-/
import Derived.Test.YtbhddkmfhampbaaDoorPln
namespace Go.Proofs.YtbhddkmfhampbaaDoor

/-- A disk that is up, of one file with these pages. -/
structure Live (d : Dk) (n : ByteArray) (pg : List Pg) (q : Nat) : Prop where
  up : d.down = false
  calm : d.crash = none
  file : ∃ f, d.files = [f] ∧ f.name = n ∧ f.pages = pg
  quota : d.quota = q

theorem Live.idx {d : Dk} {n : ByteArray} {pg : List Pg} {q : Nat} (h : Live d n pg q) : d.idx n = some 0 := by
  obtain ⟨f, h1, h2, _⟩ := h.file
  unfold Dk.idx; rw [h1]; simp [h2]
theorem Live.at {d : Dk} {n : ByteArray} {pg : List Pg} {q : Nat} (h : Live d n pg q) : ∃ f, d.files[0]? = some f ∧ f.name = n ∧ f.pages = pg ∧ d.files = [f] := by
  obtain ⟨f, h1, h2, h3⟩ := h.file
  exact ⟨f, by rw [h1]; rfl, h2, h3, h1⟩
theorem Live.pages {d : Dk} {n : ByteArray} {pg : List Pg} {q : Nat} (h : Live d n pg q) : (d.file 0).pages = pg := by
  obtain ⟨f, h1, _, h3, _⟩ := h.at
  rw [Dk.file_eq h1, h3]
theorem Live.len {d : Dk} {n : ByteArray} {pg : List Pg} {q : Nat} (h : Live d n pg q) : d.len n = (pg.length, 0) := by
  unfold Dk.len Dk.open
  rw [if_neg (by rw [h.up]; simp), h.idx]
  simp only [h.pages]
theorem Live.size {d : Dk} {n : ByteArray} {pg : List Pg} {q : Nat} (h : Live d n pg q) : d.size n = pg.length := by
  unfold Dk.size; rw [h.idx]; simp only [h.pages]
theorem Live.used {d : Dk} {n : ByteArray} {pg : List Pg} {q : Nat} (h : Live d n pg q) : d.used = pg.length := by
  obtain ⟨f, _, _, h3, h4⟩ := h.at
  unfold Dk.used; rw [h4]; simp [h3]
theorem Live.read {d : Dk} {n : ByteArray} {pg : List Pg} {q : Nat} (h : Live d n pg q) {k : Nat} {b : Pg} (hk : pg[k]? = some b) : d.read n k = (b.1, 0) := by
  unfold Dk.read Dk.open
  rw [if_neg (by rw [h.up]; simp), h.idx]
  simp only [h.pages]
  rw [if_neg (by omega), Int.toNat_natCast, hk]
theorem Live.step {d : Dk} {n : ByteArray} {pg : List Pg} {q : Nat} (h : Live d n pg q) (f : Dk → Dk) : d.step f = (f { d with ops := w64 (d.ops + 1) }, 0) := by
  have : d.change = ({ d with ops := w64 (d.ops + 1) }, 0) := by unfold Dk.change; rw [h.calm]
  unfold Dk.step; rw [this, if_pos rfl]
/-- A page is written. -/
def putAt (pg : List Pg) (k : Nat) (b : Pg) : List Pg := putP pg ⟨0, k, b⟩
theorem putAt_length (pg : List Pg) (k : Nat) (b : Pg) : (putAt pg k b).length = max pg.length (k + 1) := putP_length _ _
theorem putAt_get {pg : List Pg} {k : Nat} {b : Pg} (hk : k ≤ pg.length) (j : Nat) : (putAt pg k b)[j]? = if j = k then some b else pg[j]? := by
  unfold putAt putP
  simp only
  by_cases e : j = k
  · subst e
    rw [if_pos rfl, List.getElem?_set, if_pos rfl, if_pos (by simp; omega)]
  · rw [if_neg e, List.getElem?_set, if_neg (fun q => e q.symm)]
    by_cases hj : j < pg.length
    · rw [List.getElem?_append_left hj]
    · rw [List.getElem?_append_right (by omega), List.getElem?_eq_none (by simp; omega), List.getElem?_eq_none (by omega)]
theorem Live.write {d : Dk} {n : ByteArray} {pg : List Pg} {q : Nat} (h : Live d n pg q) {k : Nat} {b : List UInt8} (hb : b.length = 512) (hk : k ≤ pg.length) (hq : k = pg.length → pg.length < q) :
    (d.write n k b).2 = 0 ∧ Live (d.write n k b).1 n (putAt pg k ⟨b, hb⟩) q ∧ (d.write n k b).1.ops = w64 (d.ops + 1) := by
  obtain ⟨f, h1, h2, h3, h4⟩ := h.at
  have e : d.write n k b = d.step fun t => (t.addW 0 ⟨t.next, k, ⟨b, hb⟩⟩).setMost (max t.most (t.addW 0 ⟨t.next, k, ⟨b, hb⟩⟩).used) := by
    unfold Dk.write
    rw [if_neg (by rw [h.up]; simp), dif_pos hb, h.idx]
    simp only [h.pages]
    rw [if_neg (by omega), if_neg (by rw [h.used, h.quota]; rintro ⟨q1, q2⟩; have := hq (by omega); omega), Int.toNat_natCast]
  rw [e, h.step]
  refine ⟨rfl, ⟨h.up, h.calm, ⟨{ f with log := f.log ++ [⟨d.next, k, ⟨b, hb⟩⟩] }, ?_, h2, ?_⟩, h.quota⟩, rfl⟩
  · show d.files.modify 0 _ = _
    rw [h4]; rfl
  · rw [Fl.addW_pages, h3]; rfl
theorem Live.sync {d : Dk} {n : ByteArray} {pg : List Pg} {q : Nat} (h : Live d n pg q) :
    (d.sync n).2 = 0 ∧ Live (d.sync n).1 n pg q ∧ (d.sync n).1.ops = w64 (d.ops + 1) ∧ (∃ f, (d.sync n).1.files = [f] ∧ f.name = n ∧ f.synced = pg ∧ f.log = []) := by
  obtain ⟨f, h1, h2, h3, h4⟩ := h.at
  have e : d.sync n = d.step fun t => t.upd 0 fun f => { f with synced := f.pages, log := [] } := by
    unfold Dk.sync
    rw [if_neg (by rw [h.up]; simp), h.idx]
  rw [e, h.step]
  have hf : ({ d with ops := w64 (d.ops + 1) } : Dk).upd 0 (fun f => { f with synced := f.pages, log := [] }) = { d with files := [{ f with synced := f.pages, log := [] }], ops := w64 (d.ops + 1) } := by
    unfold Dk.upd
    simp only [h4]
    rfl
  rw [hf]
  exact ⟨rfl, ⟨h.up, h.calm, ⟨_, rfl, h2, by simp [Fl.pages]; exact h3⟩, h.quota⟩, rfl, ⟨_, rfl, h2, h3, rfl⟩⟩

/-! ### A pool over such a disk -/

structure Told (p : Pl) (n : ByteArray) (N q : Nat) (T : Nat → UInt8 × List UInt8) (pg : List Pg) : Prop where
  wrong : p.wrong = 0
  disk : Live p.d n pg q
  len : pg.length = N
  mine : ∀ f ∈ p.fs, f.name = n ∧ f.page < N ∧ T f.page = (f.kind, f.b)
  rest : ∀ (k : Nat) (b : Pg), pg[k]? = some b → (∀ f ∈ p.fs, f.page = k → f.dirty = false) → openP b.1 = some (T k)

theorem Told.fit {p : Pl} {n : ByteArray} {N q : Nat} {T : Nat → UInt8 × List UInt8} {pg : List Pg} (h : Told p n N q T pg) : p.Fit := by
  intro f hf
  obtain ⟨h1, h2, _⟩ := h.mine f hf
  rw [h1, h.disk.size, h.len]; exact h2
theorem Told.inj {p : Pl} {n : ByteArray} {N q : Nat} {T : Nat → UInt8 × List UInt8} {pg : List Pg} (h : Told p n N q T pg) (hw : p.WF) {i j : Nat} {f g : Fr} (hi : p.fs[i]? = some f) (hj : p.fs[j]? = some g) (e : f.page = g.page) : i = j :=
  key_inj hw.keys hi hj ((h.mine f (List.mem_of_getElem? hi)).1.trans (h.mine g (List.mem_of_getElem? hj)).1.symm) e
theorem Told.put {p : Pl} {n : ByteArray} {N q : Nat} {T : Nat → UInt8 × List UInt8} {pg : List Pg} (h : Told p n N q T pg) (hw : p.WF) {i : Nat} {f : Fr} (hf : p.fs[i]? = some f) :
    (p.put i).2 = 0 ∧ (p.put i).1.fs = p.fs.modify i Fr.clean ∧ (p.put i).1.d.ops = w64 (p.d.ops + 1) ∧ ∃ pg', Told (p.put i).1 n N q T pg' := by
  have hfm := List.mem_of_getElem? hf
  obtain ⟨h1, h2, h3⟩ := h.mine f hfm
  have hb := hw.room f hfm
  have hs : f.sealF.length = 512 := sealP_length hb
  obtain ⟨w1, w2, w3⟩ := h.disk.write (k := f.page) hs (by rw [h.len]; omega) (by rw [h.len]; omega)
  have e : p.put i = ((p.setD (p.d.write f.name f.page f.sealF).1).turn i Fr.clean, 0) := by
    unfold Pl.put; rw [Pl.frame_eq hf, if_pos (by rw [h1]; exact w1)]
  rw [e, h1]
  refine ⟨rfl, rfl, w3, putAt pg f.page ⟨f.sealF, hs⟩, h.wrong, w2, ?_, ?_, ?_⟩
  · rw [putAt_length, h.len]; omega
  · intro g hg
    have hg : g ∈ p.fs.modify i Fr.clean := hg
    rcases mem_modify hf hg with r | r
    · exact h.mine g r
    · subst r; exact h.mine f hfm
  · intro k b hk hcl
    rw [putAt_get (by rw [h.len]; omega)] at hk
    split at hk
    · rename_i e; cases hk; subst e
      rw [h3]; exact openP_sealP hb
    · rename_i hne
      refine h.rest k b hk fun g hg hgk => hcl g ?_ hgk
      show g ∈ p.fs.modify i Fr.clean
      obtain ⟨j, hj⟩ := List.mem_iff_getElem?.1 hg
      have hij : i ≠ j := by
        rintro rfl
        rw [hf] at hj; cases hj; exact hne hgk.symm
      exact List.mem_of_getElem? (by rw [modify_other hij]; exact hj)
theorem Told.erase {p : Pl} {n : ByteArray} {N q : Nat} {T : Nat → UInt8 × List UInt8} {pg : List Pg} (h : Told p n N q T pg) {i : Nat} {f : Fr} (hf : p.fs[i]? = some f) (hd : f.dirty = false) : Told (p.drop i) n N q T pg := by
  refine ⟨h.wrong, h.disk, h.len, fun g hg => h.mine g (List.mem_of_mem_eraseIdx hg), fun k b hk hcl => h.rest k b hk fun g hg hgk => ?_⟩
  obtain ⟨j, hj⟩ := List.mem_iff_getElem?.1 hg
  by_cases e : j = i
  · subst e; rw [hf] at hj; cases hj; exact hd
  · exact hcl g (mem_erase.2 ⟨j, e, hj⟩) hgk
theorem modify_erase {α : Type} (u : α → α) : ∀ (l : List α) (i : Nat), (l.modify i u).eraseIdx i = l.eraseIdx i
  | [], i => by simp
  | a :: l, 0 => by simp
  | a :: l, i + 1 => by simp [modify_erase u l i]

theorem Pl.room_free {p : Pl} (h : p.fs.length < p.most) : p.room = (p, 0) := by unfold Pl.room; rw [if_pos h]
theorem Pl.best_none_of {p : Pl} (h : ∀ f ∈ p.fs, f.pins ≠ []) : p.best = none := by
  cases hb : p.best with
  | none => rfl
  | some i =>
    obtain ⟨f, h1, h2, _⟩ := Pl.best_some hb
    exact absurd h2 (h f (List.mem_of_getElem? h1))
theorem Pl.room_full {p : Pl} (h : ¬ p.fs.length < p.most) (hp : ∀ f ∈ p.fs, f.pins ≠ []) : p.room = (p, 31) := by
  unfold Pl.room; rw [if_neg h, Pl.best_none_of hp]
/-- Room is made: the frame that is given up is one that none holds. -/
theorem Told.make {p : Pl} {n : ByteArray} {N q : Nat} {T : Nat → UInt8 × List UInt8} {pg : List Pg} (h : Told p n N q T pg) (hw : p.WF) (hl : ¬ p.fs.length < p.most) {g : Fr} (hg : g ∈ p.fs) (hgp : g.pins = []) :
    ∃ i f pg', p.fs[i]? = some f ∧ f.pins = [] ∧ p.room.2 = 0 ∧ p.room.1.fs = p.fs.eraseIdx i ∧ Told p.room.1 n N q T pg' := by
  cases hb : p.best with
  | none => exact absurd hgp (Pl.best_none hb g hg)
  | some i =>
    obtain ⟨f, h1, h2, _⟩ := Pl.best_some hb
    have e : p.room = if (p.frame i).dirty then (if (p.put i).2 = 0 then ((p.put i).1.drop i, 0) else p.put i) else (p.drop i, 0) := by
      unfold Pl.room; rw [if_neg hl, hb]
    rw [e, Pl.frame_eq h1]
    cases hd : f.dirty with
    | true =>
      obtain ⟨w1, w2, _, pg', w4⟩ := h.put hw h1
      rw [if_pos rfl, if_pos w1]
      refine ⟨i, f, pg', h1, h2, rfl, ?_, w4.erase (f := f.clean) (by rw [w2]; exact modify_same h1) rfl⟩
      show (p.put i).1.fs.eraseIdx i = _
      rw [w2, modify_erase]
    | false =>
      rw [if_neg (by simp)]
      exact ⟨i, f, pg, h1, h2, rfl, rfl, h.erase h1 hd⟩
/-- Room, whichever way. -/
theorem Told.roomy {p : Pl} {n : ByteArray} {N q : Nat} {T : Nat → UInt8 × List UInt8} {pg : List Pg} (h : Told p n N q T pg) (hw : p.WF) (hg : p.fs.length < p.most ∨ ∃ g ∈ p.fs, g.pins = []) :
    p.room.2 = 0 ∧ (∃ pg', Told p.room.1 n N q T pg') ∧ (∀ g ∈ p.room.1.fs, g ∈ p.fs) ∧ (∀ g ∈ p.fs, g.pins ≠ [] → g ∈ p.room.1.fs) := by
  by_cases hl : p.fs.length < p.most
  · rw [Pl.room_free hl]; exact ⟨rfl, ⟨pg, h⟩, fun _ q => q, fun _ q _ => q⟩
  · obtain ⟨g, hgm, hgp⟩ := hg.resolve_left hl
    obtain ⟨i, f, pg', h1, h2, h3, h4, h5⟩ := h.make hw hl hgm hgp
    refine ⟨h3, ⟨pg', h5⟩, fun x hx => by rw [h4] at hx; exact List.mem_of_mem_eraseIdx hx, fun x hx hxp => ?_⟩
    rw [h4]
    obtain ⟨j, hj⟩ := List.mem_iff_getElem?.1 hx
    refine mem_erase.2 ⟨j, ?_, hj⟩
    rintro rfl
    rw [h1] at hj; cases hj; exact hxp h2

theorem modify_last {α : Type} (l : List α) (a : α) (u : α → α) : (l ++ [a]).modify l.length u = l ++ [u a] := by
  have ha : (l ++ [a])[l.length]? = some a := by simp
  rw [modify_set ha]; simp
theorem Pl.take_fs (p : Pl) (f : Fr) : (p.take f).fs = p.fs ++ [Fr.pin p.next f] := modify_last p.fs f _

def setT (T : Nat → UInt8 × List UInt8) (k : Nat) (v : UInt8 × List UInt8) : Nat → UInt8 × List UInt8 := fun j => if j = k then v else T j
theorem setT_same (T : Nat → UInt8 × List UInt8) (k : Nat) (v : UInt8 × List UInt8) : setT T k v k = v := if_pos rfl
theorem setT_other {T : Nat → UInt8 × List UInt8} {k j : Nat} {v : UInt8 × List UInt8} (h : j ≠ k) : setT T k v j = T j := if_neg h

/-- A frame that was read is held. -/
theorem Told.take {p : Pl} {n : ByteArray} {N q : Nat} {T : Nat → UInt8 × List UInt8} {pg : List Pg} (h : Told p n N q T pg) {f : Fr} (hn : f.name = n) (hp : f.page < N) (hT : T f.page = (f.kind, f.b)) (hno : ∀ g ∈ p.fs, g.page ≠ f.page) (hd : f.dirty = false) : Told (p.take f) n N q T pg := by
  refine ⟨h.wrong, h.disk, h.len, fun g hg => ?_, fun k b hk hcl => h.rest k b hk fun g hg hgk => hcl g ?_ hgk⟩
  · rw [Pl.take_fs] at hg
    rcases List.mem_append.1 hg with r | r
    · exact h.mine g r
    · simp at r; subst r; exact ⟨hn, hp, hT⟩
  · rw [Pl.take_fs]; exact List.mem_append_left _ hg

/-- A page more. -/
theorem Told.fresh {p : Pl} {n : ByteArray} {N q : Nat} {T : Nat → UInt8 × List UInt8} {pg : List Pg} (h : Told p n N q T pg) (hw : p.WF) (hg : p.fs.length < p.most ∨ ∃ g ∈ p.fs, g.pins = []) (hN : N < q) :
    (p.fresh n).2 = (p.next, (N : Int), 0) ∧ (p.fresh n).1.fs = p.room.1.fs ++ [⟨n, N, 0, [], false, [p.next], 0⟩] ∧ (p.fresh n).1.next = w64 (p.next + 1) ∧ (p.fresh n).1.most = p.most ∧ (p.fresh n).1.tick = p.tick ∧
    (p.fresh n).1.d.ops = w64 (p.room.1.d.ops + 1) ∧ ∃ pg', Told (p.fresh n).1 n (N + 1) q (setT T N (0, [])) pg' := by
  obtain ⟨h1, ⟨pg1, h2⟩, h3, _⟩ := h.roomy hw hg
  have hs : (sealP 0 []).length = 512 := sealP_length (by simp)
  obtain ⟨w1, w2, w3⟩ := h2.disk.write (k := N) hs (by rw [h2.len]; omega) (by rw [h2.len]; intro _; exact hN)
  have hrs := p.room_same
  have hlen : p.d.len n = (N, 0) := by rw [h.disk.len, h.len]
  have e : p.fresh n = ((p.room.1.setD (p.room.1.d.write n (N : Int) (sealP 0 [])).1).take ⟨n, N, 0, [], false, [], 0⟩, p.room.1.next, (N : Int), 0) := by
    unfold Pl.fresh
    rw [if_neg (by rw [h.wrong]; simp), hlen]
    simp only
    rw [if_neg (by simp), if_neg (by rw [h1]; simp), if_neg (by rw [w1]; simp)]
  rw [e]
  have hnx : (p.room.1.setD (p.room.1.d.write n (N : Int) (sealP 0 [])).1).next = p.next := hrs.2.1
  have ht : Told (p.room.1.setD (p.room.1.d.write n (N : Int) (sealP 0 [])).1) n (N + 1) q (setT T N (0, [])) (putAt pg1 N ⟨sealP 0 [], hs⟩) := by
    refine ⟨h2.wrong, w2, ?_, fun g hgm => ?_, fun k b hk hcl => ?_⟩
    · rw [putAt_length, h2.len]; omega
    · obtain ⟨a1, a2, a3⟩ := h2.mine g hgm
      exact ⟨a1, by omega, by rw [setT_other (by omega)]; exact a3⟩
    · rw [putAt_get (by rw [h2.len]; omega)] at hk
      split at hk
      · rename_i ek; cases hk; subst ek
        rw [setT_same]; exact openP_sealP (by simp)
      · rename_i ek
        rw [setT_other ek]
        exact h2.rest k b hk hcl
  refine ⟨by rw [hrs.2.1], ?_, ?_, hrs.1, hrs.2.2.1, w3, _, ht.take (f := ⟨n, N, 0, [], false, [], 0⟩) rfl (Nat.lt_succ_self _) (setT_same _ _ _) (fun g hgm => ?_) rfl⟩
  · rw [Pl.take_fs, hnx]; rfl
  · show w64 ((p.room.1.setD (p.room.1.d.write n (N : Int) (sealP 0 [])).1).next + 1) = _
    rw [hnx]
  · have := (h2.mine g hgm).2.1
    simp only; omega
theorem Told.fresh_full {p : Pl} {n : ByteArray} {N q : Nat} {T : Nat → UInt8 × List UInt8} {pg : List Pg} (h : Told p n N q T pg) (hl : ¬ p.fs.length < p.most) (hp : ∀ f ∈ p.fs, f.pins ≠ []) : p.fresh n = (p, 0, 0, 31) := by
  unfold Pl.fresh
  rw [if_neg (by rw [h.wrong]; simp), h.disk.len]
  simp only
  rw [if_neg (by simp), Pl.room_full hl hp, if_pos (by simp)]
  rfl

/-- A frame's handles are turned, or when it was left. -/
theorem Told.turn {p p' : Pl} {n : ByteArray} {N q : Nat} {T : Nat → UInt8 × List UInt8} {pg : List Pg} (h : Told p n N q T pg) {i : Nat} {f : Fr} {u : Fr → Fr} (hf : p.fs[i]? = some f) (hd : p'.d = p.d) (hw : p'.wrong = p.wrong) (hfs : p'.fs = p.fs.modify i u)
    (hu : (u f).name = f.name ∧ (u f).page = f.page ∧ (u f).kind = f.kind ∧ (u f).b = f.b ∧ (u f).dirty = f.dirty) : Told p' n N q T pg := by
  obtain ⟨u1, u2, u3, u4, u5⟩ := hu
  refine ⟨by rw [hw]; exact h.wrong, by rw [hd]; exact h.disk, h.len, fun g hg => ?_, fun k b hk hcl => h.rest k b hk fun g hg hgk => ?_⟩
  · rw [hfs] at hg
    rcases mem_modify hf hg with r | r
    · exact h.mine g r
    · subst r; rw [u1, u2, u3, u4]; exact h.mine f (List.mem_of_getElem? hf)
  · obtain ⟨j, hj⟩ := List.mem_iff_getElem?.1 hg
    by_cases e : i = j
    · subst e
      rw [hf] at hj; cases hj
      rw [← u5]
      exact hcl (u f) (by rw [hfs]; exact List.mem_of_getElem? (modify_same hf)) (by rw [u2]; exact hgk)
    · exact hcl g (by rw [hfs]; exact List.mem_of_getElem? (by rw [modify_other e]; exact hj)) hgk
theorem Told.pin_in {p : Pl} {n : ByteArray} {N q : Nat} {T : Nat → UInt8 × List UInt8} {pg : List Pg} (h : Told p n N q T pg) {k : Nat} {i : Nat} {f : Fr} (hi : p.find n k = some i) (hf : p.fs[i]? = some f) :
    p.pin n k = (p.pinAt i, p.next, 0) ∧ Told (p.pinAt i) n N q T pg := by
  refine ⟨?_, h.turn hf rfl rfl rfl ⟨rfl, rfl, rfl, rfl, rfl⟩⟩
  unfold Pl.pin
  rw [if_neg (by rw [h.wrong]; simp), hi]
theorem Told.pin_out {p : Pl} {n : ByteArray} {N q : Nat} {T : Nat → UInt8 × List UInt8} {pg : List Pg} (h : Told p n N q T pg) (hw : p.WF) {k : Nat} (hi : p.find n k = none) (hk : k < N) (hg : p.fs.length < p.most ∨ ∃ g ∈ p.fs, g.pins = []) :
    (p.pin n k).2 = (p.next, 0) ∧ (p.pin n k).1.fs = p.room.1.fs ++ [⟨n, k, (T k).1, (T k).2, false, [p.next], 0⟩] ∧ (p.pin n k).1.next = w64 (p.next + 1) ∧ (p.pin n k).1.most = p.most ∧ ∃ pg', Told (p.pin n k).1 n N q T pg' := by
  obtain ⟨h1, ⟨pg1, h2⟩, h3, _⟩ := h.roomy hw hg
  have hrs := p.room_same
  have hlen : p.d.len n = (N, 0) := by rw [h.disk.len, h.len]
  have hno : ∀ g ∈ p.room.1.fs, g.page ≠ k := fun g hgm e => Pl.find_none hi g (h3 g hgm) (h2.mine g hgm).1 (by omega)
  obtain ⟨b, hb⟩ : ∃ b, pg1[k]? = some b := ⟨_, List.getElem?_eq_getElem (by rw [h2.len]; exact hk)⟩
  have ho := h2.rest k b hb fun g hgm e => absurd e (hno g hgm)
  have el : p.load n k = (p.room.1, some ⟨n, k, (T k).1, (T k).2, false, [], 0⟩, 0) := by
    unfold Pl.load
    rw [hlen]
    simp only
    rw [if_neg (by simp), if_neg (by omega), if_neg (by rw [h1]; simp), h2.disk.read hb]
    simp only
    rw [if_neg (by simp), ho]
    simp
  have e : p.pin n k = (p.room.1.take ⟨n, k, (T k).1, (T k).2, false, [], 0⟩, p.room.1.next, 0) := by
    unfold Pl.pin
    rw [if_neg (by rw [h.wrong]; simp), hi, el]
  rw [e]
  refine ⟨by rw [hrs.2.1], ?_, ?_, hrs.1, pg1, h2.take (f := ⟨n, k, (T k).1, (T k).2, false, [], 0⟩) rfl hk rfl hno rfl⟩
  · rw [Pl.take_fs, hrs.2.1]; rfl
  · show w64 (p.room.1.next + 1) = _
    rw [hrs.2.1]
theorem Told.pin_full {p : Pl} {n : ByteArray} {N q : Nat} {T : Nat → UInt8 × List UInt8} {pg : List Pg} (h : Told p n N q T pg) {k : Nat} (hi : p.find n k = none) (hk : k < N) (hl : ¬ p.fs.length < p.most) (hp : ∀ f ∈ p.fs, f.pins ≠ []) : p.pin n k = (p, 0, 31) := by
  have hlen : p.d.len n = (N, 0) := by rw [h.disk.len, h.len]
  have el : p.load n k = (p, none, 31) := by
    unfold Pl.load
    rw [hlen]
    simp only
    rw [if_neg (by simp), if_neg (by omega), Pl.room_full hl hp, if_pos (by simp)]
  unfold Pl.pin
  rw [if_neg (by rw [h.wrong]; simp), hi, el]
  rfl
theorem Told.get {p : Pl} {n : ByteArray} {N q : Nat} {T : Nat → UInt8 × List UInt8} {pg : List Pg} (h : Told p n N q T pg) (hw : p.WF) {f : Fr} {x : Int} (hf : f ∈ p.fs) (hx : x ∈ f.pins) : p.get x = ((T f.page).1, (T f.page).2, 0) := by
  obtain ⟨i, hi⟩ := List.mem_iff_getElem?.1 hf
  unfold Pl.get
  rw [if_neg (by rw [h.wrong]; simp), Pl.held_eq hw hi hx]
  simp only [Pl.frame_eq hi, (h.mine f hf).2.2]
theorem Told.set {p : Pl} {n : ByteArray} {N q : Nat} {T : Nat → UInt8 × List UInt8} {pg : List Pg} (h : Told p n N q T pg) (hw : p.WF) {i : Nat} {f : Fr} {x : Int} (hf : p.fs[i]? = some f) (hx : x ∈ f.pins) {k : UInt8} {b : List UInt8} (hb : b.length ≤ 504) :
    p.set x k b = (p.turn i (Fr.set k b), 0) ∧ Told (p.turn i (Fr.set k b)) n N q (setT T f.page (k, b)) pg := by
  constructor
  · unfold Pl.set
    rw [if_neg (by rw [h.wrong]; simp), Pl.held_eq hw hf hx]
    simp only
    rw [if_neg (by omega)]
  · refine ⟨h.wrong, h.disk, h.len, fun g hg => ?_, fun j c hj hcl => ?_⟩
    · have hg : g ∈ p.fs.modify i (Fr.set k b) := hg
      rw [modify_set hf] at hg
      rcases mem_set' hg with ⟨j, hji, hj⟩ | r
      · have hne : g.page ≠ f.page := fun e => hji (h.inj hw hj hf e)
        rw [setT_other hne]
        exact h.mine g (List.mem_of_getElem? hj)
      · subst r
        obtain ⟨a1, a2, _⟩ := h.mine f (List.mem_of_getElem? hf)
        exact ⟨a1, a2, setT_same _ _ _⟩
    · by_cases e : j = f.page
      · subst e
        have := hcl (Fr.set k b f) (List.mem_of_getElem? (modify_same hf)) rfl
        cases this
      · rw [setT_other e]
        refine h.rest j c hj fun g hg hgj => hcl g ?_ hgj
        obtain ⟨a, ha⟩ := List.mem_iff_getElem?.1 hg
        have : i ≠ a := by
          rintro rfl
          rw [hf] at ha; cases ha; exact e hgj.symm
        exact List.mem_of_getElem? (by show (p.fs.modify i _)[a]? = _; rw [modify_other this]; exact ha)
theorem Told.unpin {p : Pl} {n : ByteArray} {N q : Nat} {T : Nat → UInt8 × List UInt8} {pg : List Pg} (h : Told p n N q T pg) (hw : p.WF) {i : Nat} {f : Fr} {x : Int} (hf : p.fs[i]? = some f) (hx : x ∈ f.pins) :
    p.unpin x = ({ p with fs := p.fs.modify i (Fr.unpin x (w64 (p.tick + 1))), tick := w64 (p.tick + 1) }, 0) ∧ Told (p.unpin x).1 n N q T pg := by
  have e : p.unpin x = ({ p with fs := p.fs.modify i (Fr.unpin x (w64 (p.tick + 1))), tick := w64 (p.tick + 1) }, 0) := by
    unfold Pl.unpin
    rw [if_neg (by rw [h.wrong]; simp), Pl.held_eq hw hf hx]
  refine ⟨e, ?_⟩
  rw [e]
  exact h.turn hf rfl rfl rfl ⟨rfl, rfl, rfl, rfl, rfl⟩

/-! ### Flush -/

theorem Told.flushL {n : ByteArray} {N q : Nat} {T : Nat → UInt8 × List UInt8} : ∀ (l : List Nat) {p : Pl} {pg : List Pg}, Told p n N q T pg → p.WF → (∀ f ∈ p.fs, f.dirty = true → f.page ∈ l) →
    (Pl.flushL n l p).2 = 0 ∧ (∃ pg', Told (Pl.flushL n l p).1 n N q T pg') ∧ (∀ f ∈ (Pl.flushL n l p).1.fs, f.dirty = false) ∧ (Pl.flushL n l p).1.fs = p.fs.map Fr.clean ∧ (Pl.flushL n l p).1.peak = p.peak ∧ (Pl.flushL n l p).1.most = p.most
  | [], p, pg, h, hw, hd => by
    have hcl : ∀ f ∈ p.fs, f.dirty = false := fun f hf => by
      cases e : f.dirty with
      | false => rfl
      | true => have := hd f hf e; cases this
    refine ⟨rfl, ⟨pg, h⟩, hcl, ?_, rfl, rfl⟩
    show p.fs = p.fs.map Fr.clean
    have : p.fs.map Fr.clean = p.fs.map id := List.map_congr_left fun f hf => by
      have := hcl f hf
      cases f; simp only [Fr.clean, id] at *; rw [this]
    rw [this, List.map_id]
  | k :: l, p, pg, h, hw, hd => by
    unfold Pl.flushL
    have skip : (∀ f ∈ p.fs, f.page = k → f.dirty = false) → ∀ f ∈ p.fs, f.dirty = true → f.page ∈ l := by
      intro hk f hf e
      rcases List.mem_cons.1 (hd f hf e) with r | r
      · rw [hk f hf r] at e; cases e
      · exact r
    cases hi : p.find n k with
    | none =>
      exact Told.flushL l h hw (skip fun f hf e => absurd (by omega) (Pl.find_none hi f hf (h.mine f hf).1))
    | some i =>
      obtain ⟨f, hf, hfn, hfp⟩ := Pl.find_some hi
      have hfp' : f.page = k := by omega
      simp only [Pl.frame_eq hf]
      cases hdt : f.dirty with
      | false =>
        rw [if_neg (by simp)]
        refine Told.flushL l h hw (skip fun g hg e => ?_)
        obtain ⟨j, hj⟩ := List.mem_iff_getElem?.1 hg
        have := h.inj hw hj hf (by omega)
        subst this
        rw [hf] at hj; cases hj; exact hdt
      | true =>
        obtain ⟨w1, w2, w3, pg', w4⟩ := h.put hw hf
        rw [if_pos rfl, if_pos w1]
        have hsame := p.put_same i
        obtain ⟨r1, r2, r3, r4, r5, r6⟩ := Told.flushL l w4 (hw.put hf) (fun g hg e => by
          rw [w2] at hg
          rw [modify_set hf] at hg
          rcases mem_set' hg with ⟨j, hji, hj⟩ | r
          · have hgm := List.mem_of_getElem? hj
            rcases List.mem_cons.1 (hd g hgm e) with r | r
            · exact absurd (h.inj hw hj hf (by omega)) hji
            · exact r
          · subst r; cases e)
        refine ⟨r1, r2, r3, ?_, by rw [r5]; exact hsame.2.2.2.1, by rw [r6]; exact hsame.1⟩
        rw [r4, w2, modify_set hf]
        rw [List.map_set]
        apply List.ext_getElem?
        intro j
        rw [List.getElem?_set]
        split
        · rename_i e; subst e
          have hl := (List.getElem?_eq_some_iff.1 hf).1
          rw [if_pos (by simpa using hl), List.getElem?_map, hf]; rfl
        · rfl
theorem Told.flush {p : Pl} {n : ByteArray} {N q : Nat} {T : Nat → UInt8 × List UInt8} {pg : List Pg} (h : Told p n N q T pg) (hw : p.WF) :
    (p.flush n).2 = 0 ∧ (∃ pg', Told (p.flush n).1 n N q T pg' ∧ ∃ f, (p.flush n).1.d.files = [f] ∧ f.name = n ∧ f.synced = pg' ∧ f.log = []) ∧ (p.flush n).1.fs = p.fs.map Fr.clean ∧ (p.flush n).1.peak = p.peak ∧ (p.flush n).1.most = p.most := by
  obtain ⟨r1, ⟨pg1, r2⟩, r3, r4, r5, r6⟩ := h.flushL (p.pagesOf n) hw (fun f hf _ => by
    unfold Pl.pagesOf
    rw [List.mem_mergeSort]
    exact List.mem_map.2 ⟨f, List.mem_filter.2 ⟨hf, by rw [(h.mine f hf).1]; simp⟩, rfl⟩)
  obtain ⟨s1, s2, s3, s4⟩ := r2.disk.sync
  have e : p.flush n = ((Pl.flushL n (p.pagesOf n) p).1.setD ((Pl.flushL n (p.pagesOf n) p).1.d.sync n).1, 0) := by
    unfold Pl.flush
    rw [if_neg (by rw [h.wrong]; simp), h.disk.len]
    simp only
    rw [if_neg (by simp), if_neg (by rw [r1]; simp), s1]
    rfl
  rw [e]
  exact ⟨rfl, ⟨pg1, ⟨r2.wrong, s2, r2.len, r2.mine, r2.rest⟩, s4⟩, r4, r5, r6⟩

end Go.Proofs.YtbhddkmfhampbaaDoor
