/-
 Trees of rows in pages, in plain words.
-/
import Derived.Test.YtacfhncgbgijhaaGreatJ33
import Derived.Test.YtacfhncgbgijhaaGreatJ34
import Derived.Test.YtacfhncgbgijhaaGreatJ39
import Derived.Test.YtacfhncgbgijhaaGreatFxw
namespace Go.Proofs.YtacfhncgbgijhaaGreat
structure St where
 N : Nat
 T : Nat → UInt8 × List UInt8
def Pl.over [Tab] (p : Pl) (n : ByteArray) (k : Int) (kd : UInt8) (b : List UInt8) : Pl × Int :=
 if (p.pin n k).2.2 ≠ 0 then ((p.pin n k).1, (p.pin n k).2.2) else Pl.leave ((p.pin n k).1.set (p.pin n k).2.1 kd b) (p.pin n k).2.1
section
variable {s : Pl} {n : ByteArray} {g : Int} {k : UInt8} {b : List UInt8}
end
theorem setT_room {T : Nat → UInt8 × List UInt8} (h : ∀ k, (T k).2.length ≤ 504) {j : Nat} {v : UInt8 × List UInt8} (hv : v.2.length ≤ 504) : ∀ k, (setT T j v k).2.length ≤ 504 := by
 intro k
 by_cases e : k = j
 ·subst e; rw [setT_same]; exact hv
 ·rw [setT_other e]; exact h k
abbrev Files := ByteArray → Option St
open Classical in
noncomputable def setF (M : Files) (n : ByteArray) (x : Option St) : Files := fun m => if m = n then x else M m
theorem setF_same (M : Files) (n : ByteArray) (x : Option St) : setF M n x n = x := by unfold setF; rw [if_pos rfl]
theorem setF_other {M : Files} {n m : ByteArray} {x : Option St} (h : m ≠ n) : setF M n x m = M m := by unfold setF; rw [if_neg h]
theorem setF_set (M : Files) (n : ByteArray) (x y : Option St) : setF (setF M n x) n y = setF M n y := by
 funext m
 by_cases h : m = n
 ·subst h; rw [setF_same, setF_same]
 ·rw [setF_other h, setF_other h, setF_other h]
def Cl (l : List Fr) (n : ByteArray) (k : Nat) : Prop := ∀ g ∈ l, g.name = n → g.page = k → g.dirty = false
structure ToldM [Tab] (p : Pl) (M : Files) (Q U : Nat) : Prop where
 wrong : p.wrong = 0
 up : p.d.down = false
 calm : p.d.crash = none
 quota : p.d.quota = Q
 used : p.d.used = U
 nodup : (p.d.files.map fun f => f.name.toList).Nodup
 file : ∀ (i : Nat) (f : Fl), p.d.files[i]? = some f → ∃ x, M f.name = some x ∧ f.pages.length = x.N ∧ ∀ (k : Nat) (b : Pg), f.pages[k]? = some b → Cl p.fs f.name k → openP b.1 = some (x.T k)
 there : ∀ n x, M n = some x → ∃ (i : Nat) (f : Fl), p.d.files[i]? = some f ∧ f.name = n
 mine : ∀ g ∈ p.fs, ∃ x, M g.name = some x ∧ g.page < x.N ∧ x.T g.page = (g.kind, g.b)
theorem idx_at [Tab] {d : Dk} (hn : (d.files.map fun f => f.name.toList).Nodup) {i : Nat} {f : Fl} (hf : d.files[i]? = some f) : d.idx f.name = some i := by
 unfold Dk.idx
 refine findIdx_uniq hf (by simp) fun j y hj hy => ?_
 have e : y.name.toList = f.name.toList := by simpa using hy
 have hi := (List.getElem?_eq_some_iff.1 hf).1
 have hj' := (List.getElem?_eq_some_iff.1 hj).1
 refine ((List.getElem?_inj (l := d.files.map fun f => f.name.toList) (by simpa using hi) hn).1 ?_).symm
 rw [List.getElem?_map, List.getElem?_map, hf, hj]
 simp [e]
theorem write_at [Tab] {d : Dk} (hu : d.down = false) (hc : d.crash = none) {n : ByteArray} {i : Nat} {f : Fl} (hx : d.idx n = some i) (hf : d.files[i]? = some f) {k : Nat} {b : List UInt8} (hb : b.length = 512) (hk : k ≤ f.pages.length) (hq : k = f.pages.length → d.used < d.quota) :
  ∃ d', d.write n k b = (d', 0) ∧ d'.down = false ∧ d'.crash = none ∧ d'.quota = d.quota ∧ d'.files = d.files.modify i (fun f => { f with log := f.log ++ [⟨d.next, k, ⟨b, hb⟩⟩] }) ∧ d'.used = d.used + (if k = f.pages.length then 1 else 0) := by
 have hch : d.change = ({ d with ops := w64 (d.ops + 1) }, 0) := by unfold Dk.change; rw [hc]
 have hfi : d.file i = f := Dk.file_eq hf
 have e : d.write n k b = d.step fun t => (t.addW i ⟨t.next, k, ⟨b, hb⟩⟩).setMost (max t.most (t.addW i ⟨t.next, k, ⟨b, hb⟩⟩).used) := by
  unfold Dk.write
  rw [if_neg (by rw [hu]; simp), dif_pos hb, hx]
  simp only [hfi]
  rw [if_neg (by omega), if_neg (by rintro ⟨q1, q2⟩; have := hq (by omega); omega), Int.toNat_natCast]
 have hstep : ∀ F : Dk → Dk, d.step F = (F { d with ops := w64 (d.ops + 1) }, 0) := fun F => by unfold Dk.step; rw [hch, if_pos rfl]
 rw [e, hstep]
 refine ⟨_, rfl, hu, hc, rfl, rfl, ?_⟩
 have hp : ({ f with log := f.log ++ [⟨d.next, k, ⟨b, hb⟩⟩] } : Fl).pages.length = max f.pages.length (k + 1) := by rw [Fl.addW_pages]; exact putP_length _ _
 have hs : ((d.files.modify i (fun f => { f with log := f.log ++ [⟨d.next, k, ⟨b, hb⟩⟩] })).map (fun f : Fl => f.pages.length)).sum + f.pages.length = (d.files.map (fun f : Fl => f.pages.length)).sum + max f.pages.length (k + 1) := by
  rw [← hp]; exact sum_modify (fun f : Fl => f.pages.length) _ d.files i f hf
 show ((d.files.modify i (fun f => { f with log := f.log ++ [⟨d.next, k, ⟨b, hb⟩⟩] })).map (fun f : Fl => f.pages.length)).sum = (d.files.map (fun f : Fl => f.pages.length)).sum + (if k = f.pages.length then 1 else 0)
 generalize ((d.files.modify i (fun f => { f with log := f.log ++ [⟨d.next, k, ⟨b, hb⟩⟩] })).map (fun f : Fl => f.pages.length)).sum = S at *
 generalize (d.files.map (fun f : Fl => f.pages.length)).sum = S0 at *
 split
 ·omega
 ·omega
section
variable {p p' : Pl} {M : Files} {Q U : Nat} {n : ByteArray} {x : St}
theorem ToldM.at [Tab] (h : ToldM p M Q U) (hM : M n = some x) : ∃ (i : Nat) (f : Fl), p.d.idx n = some i ∧ p.d.files[i]? = some f ∧ f.name = n ∧ f.pages.length = x.N ∧ ∀ (k : Nat) (b : Pg), f.pages[k]? = some b → Cl p.fs n k → openP b.1 = some (x.T k) := by
 obtain ⟨i, f, h1, h2⟩ := h.there n x hM
 subst h2
 obtain ⟨y, y1, y2, y3⟩ := h.file i f h1
 rw [hM] at y1
 cases y1
 exact ⟨i, f, idx_at h.nodup h1, h1, rfl, y2, y3⟩
theorem ToldM.len [Tab] (h : ToldM p M Q U) (hM : M n = some x) : p.d.len n = (x.N, 0) := by
 obtain ⟨i, f, h1, h2, h3, h4, _⟩ := h.at hM
 unfold Dk.len Dk.open
 rw [if_neg (by rw [h.up]; simp), h1]
 simp only [Dk.file_eq h2, h4]
theorem ToldM.chg [Tab] (h : ToldM p M Q U) (hd : p'.d = p.d) (hw : p'.wrong = p.wrong) (hm : ∀ g ∈ p'.fs, ∃ x, M g.name = some x ∧ g.page < x.N ∧ x.T g.page = (g.kind, g.b)) (hc : ∀ n k, Cl p'.fs n k → Cl p.fs n k) : ToldM p' M Q U :=
 ⟨by rw [hw]; exact h.wrong, by rw [hd]; exact h.up, by rw [hd]; exact h.calm, by rw [hd]; exact h.quota, by rw [hd]; exact h.used, by rw [hd]; exact h.nodup, fun i f hf => by
  rw [hd] at hf
  obtain ⟨x, a, b, c⟩ := h.file i f hf
  exact ⟨x, a, b, fun k b hk hcl => c k b hk (hc _ _ hcl)⟩, fun n x hx => by rw [hd]; exact h.there n x hx, hm⟩
theorem ToldM.put [Tab] (h : ToldM p M Q U) (hw : p.WF) {i : Nat} {g : Fr} (hg : p.fs[i]? = some g) :
  (p.put i).2 = 0 ∧ (p.put i).1.fs = p.fs.modify i Fr.clean ∧ ToldM (p.put i).1 M Q U := by
 have hgm := List.mem_of_getElem? hg
 obtain ⟨x, h1, h2, h3⟩ := h.mine g hgm
 have hb := hw.room g hgm
 have hs : g.sealF.length = 512 := sealP_length hb
 obtain ⟨j, f, a1, a2, a3, a4, a5⟩ := h.at h1
 obtain ⟨d', w1, w2, w3, w4, w5, w6⟩ := write_at h.up h.calm a1 a2 (k := g.page) hs (by omega) (by omega)
 have e : p.put i = ((p.setD d').turn i Fr.clean, 0) := by
  unfold Pl.put; rw [Pl.frame_eq hg, w1, if_pos rfl]
 rw [e]
 have hcl : ∀ m k, (m ≠ g.name ∨ k ≠ g.page) → Cl (p.fs.modify i Fr.clean) m k → Cl p.fs m k := by
  intro m k hne hc g' hg' e1 e2
  obtain ⟨j', hj'⟩ := List.mem_iff_getElem?.1 hg'
  by_cases q : i = j'
  ·subst q
   rw [hg] at hj'; cases hj'
   rcases hne with u | u
   ·exact absurd e1.symm u
   ·exact absurd e2.symm u
  ·exact hc g' (List.mem_of_getElem? (by rw [modify_other q]; exact hj')) e1 e2
 refine ⟨rfl, rfl, h.wrong, w2, w3, w4.trans h.quota, ?_, ?_, fun j' f' hf' => ?_, fun m y hy => ?_, fun g' hg' => ?_⟩
 ·show d'.used = U
  rw [w6, if_neg (by omega), h.used, Nat.add_zero]
 ·show (d'.files.map _).Nodup
  rw [w5, map_modify_all (fun f : Fl => f.name.toList) (fun f => { f with log := f.log ++ [⟨p.d.next, g.page, ⟨g.sealF, hs⟩⟩] }) (fun _ => rfl)]
  exact h.nodup
 ·have hf' : d'.files[j']? = some f' := hf'
  rw [w5] at hf'
  by_cases q : j = j'
  ·subst q
   rw [modify_same a2] at hf'
   cases hf'
   refine ⟨x, by show M f.name = _; rw [a3]; exact h1, ?_, fun k b hk hc => ?_⟩
   ·rw [Fl.addW_pages]
    show (putAt f.pages g.page ⟨g.sealF, hs⟩).length = _
    rw [putAt_length]; omega
   ·rw [Fl.addW_pages] at hk
    have hk : (putAt f.pages g.page ⟨g.sealF, hs⟩)[k]? = some b := hk
    rw [putAt_get (by omega)] at hk
    split at hk
    ·rename_i ek; cases hk; subst ek
     rw [h3]; exact openP_sealP hb
    ·rename_i ek
     exact a5 k b hk (hcl g.name k (.inr ek) (by rw [← a3]; exact hc))
  ·rw [modify_other q] at hf'
   obtain ⟨y, b1, b2, b3⟩ := h.file j' f' hf'
   refine ⟨y, b1, b2, fun k b hk hc => b3 k b hk (hcl _ k (.inl fun e => q ?_) hc)⟩
   have := idx_at h.nodup hf'
   rw [e, a1] at this
   exact Option.some.inj this
 ·obtain ⟨j', f', b1, b2⟩ := h.there m y hy
  show ∃ (i : Nat) (f : Fl), d'.files[i]? = some f ∧ f.name = m
  rw [w5]
  by_cases q : j = j'
  ·subst q
   exact ⟨j, _, modify_same b1, b2⟩
  ·exact ⟨j', f', by rw [modify_other q]; exact b1, b2⟩
 ·have hg' : g' ∈ p.fs.modify i Fr.clean := hg'
  rcases mem_modify hg hg' with r | r
  ·exact h.mine g' r
  ·subst r; exact h.mine g hgm
theorem ToldM.erase [Tab] (h : ToldM p M Q U) {i : Nat} {g : Fr} (hg : p.fs[i]? = some g) (hd : g.dirty = false) : ToldM (p.drop i) M Q U := by
 refine h.chg rfl rfl (fun g' hg' => h.mine g' (List.mem_of_mem_eraseIdx hg')) fun m k hc g' hg' e1 e2 => ?_
 obtain ⟨j, hj⟩ := List.mem_iff_getElem?.1 hg'
 by_cases e : j = i
 ·subst e; rw [hg] at hj; cases hj; exact hd
 ·exact hc g' (mem_erase.2 ⟨j, e, hj⟩) e1 e2
theorem ToldM.make [Tab] (h : ToldM p M Q U) (hw : p.WF) (hl : ¬ p.fs.length < p.most) {g : Fr} (hg : g ∈ p.fs) (hgp : g.pins = []) :
  ∃ i f, p.fs[i]? = some f ∧ f.pins = [] ∧ p.room.2 = 0 ∧ p.room.1.fs = p.fs.eraseIdx i ∧ ToldM p.room.1 M Q U := by
 cases hb : p.best with
 | none => exact absurd hgp (Pl.best_none hb g hg)
 | some i =>
   obtain ⟨f, h1, h2, _⟩ := Pl.best_some hb
   have e : p.room = if (p.frame i).dirty then (if (p.put i).2 = 0 then ((p.put i).1.drop i, 0) else p.put i) else (p.drop i, 0) := by
    unfold Pl.room; rw [if_neg hl, hb]
   rw [e, Pl.frame_eq h1]
   cases hd : f.dirty with
   | true =>
     obtain ⟨w1, w2, w4⟩ := h.put hw h1
     rw [if_pos rfl, if_pos w1]
     refine ⟨i, f, h1, h2, rfl, ?_, w4.erase (g := f.clean) (by rw [w2]; exact modify_same h1) rfl⟩
     show (p.put i).1.fs.eraseIdx i = _
     rw [w2, modify_erase]
   | false =>
     rw [if_neg (by simp)]
     exact ⟨i, f, h1, h2, rfl, rfl, h.erase h1 hd⟩
theorem ToldM.roomy [Tab] (h : ToldM p M Q U) (hw : p.WF) (hg : p.fs.length < p.most ∨ ∃ g ∈ p.fs, g.pins = []) :
  p.room.2 = 0 ∧ ToldM p.room.1 M Q U ∧ (∀ g ∈ p.room.1.fs, g ∈ p.fs) ∧ (∀ g ∈ p.fs, g.pins ≠ [] → g ∈ p.room.1.fs) := by
 by_cases hl : p.fs.length < p.most
 ·rw [Pl.room_free hl]; exact ⟨rfl, h, fun _ q => q, fun _ q _ => q⟩
 ·obtain ⟨g, hgm, hgp⟩ := hg.resolve_left hl
  obtain ⟨i, f, h1, h2, h3, h4, h5⟩ := h.make hw hl hgm hgp
  refine ⟨h3, h5, fun x hx => by rw [h4] at hx; exact List.mem_of_mem_eraseIdx hx, fun x hx hxp => ?_⟩
  rw [h4]
  obtain ⟨j, hj⟩ := List.mem_iff_getElem?.1 hx
  refine mem_erase.2 ⟨j, ?_, hj⟩
  rintro rfl
  rw [h1] at hj; cases hj; exact hxp h2
theorem ToldM.take [Tab] (h : ToldM p M Q U) {f : Fr} (hM : M f.name = some x) (hp : f.page < x.N) (hT : x.T f.page = (f.kind, f.b)) : ToldM (p.take f) M Q U := by
 refine h.chg rfl rfl (fun g hg => ?_) fun m k hc g hg e1 e2 => hc g (by rw [Pl.take_fs]; exact List.mem_append_left _ hg) e1 e2
 rw [Pl.take_fs] at hg
 rcases List.mem_append.1 hg with r | r
 ·exact h.mine g r
 ·simp at r; subst r; exact ⟨x, hM, hp, hT⟩
end
theorem change_at {d : Dk} (hc : d.crash = none) : d.change = ({ d with ops := w64 (d.ops + 1) }, 0) := by unfold Dk.change; rw [hc]
section
variable {p p' : Pl} {M : Files} {Q U : Nat} {n : ByteArray} {x : St}
theorem ToldM.fresh [Tab] (h : ToldM p M Q U) (hM : M n = some x) (hw : p.WF) (hg : p.fs.length < p.most ∨ ∃ g ∈ p.fs, g.pins = []) (hN : U < Q) :
  (p.fresh n).2 = (p.next, (x.N : Int), 0) ∧ (p.fresh n).1.fs = p.room.1.fs ++ [⟨n, x.N, 0, [], false, [p.next], 0⟩] ∧ (p.fresh n).1.next = w64 (p.next + 1) ∧ (p.fresh n).1.most = p.most ∧ (p.fresh n).1.tick = p.tick ∧
  ToldM (p.fresh n).1 (setF M n (some ⟨x.N + 1, setT x.T x.N (0, [])⟩)) Q (U + 1) ∧ (x.N < 1048577 → n.size ≤ 9223372036854775807 → p.next < 9223372036854775807 → (p.fresh n).1.WF) := by
 obtain ⟨h1, h2, h3, _⟩ := h.roomy hw hg
 have hs : (sealP 0 []).length = 512 := sealP_length (by simp)
 obtain ⟨j, f, a1, a2, a3, a4, a5⟩ := h2.at hM
 obtain ⟨d', w1, w2, w3, w4, w5, w6⟩ := write_at h2.up h2.calm a1 a2 (k := x.N) hs (by omega) (by rw [h2.used, h2.quota]; omega)
 have hrs := p.room_same
 have hlen := h.len hM
 have e : p.fresh n = ((p.room.1.setD d').take ⟨n, x.N, 0, [], false, [], 0⟩, p.room.1.next, (x.N : Int), 0) := by
  unfold Pl.fresh
  rw [if_neg (by rw [h.wrong]; simp), hlen]
  simp only
  rw [if_neg (by simp), if_neg (by rw [h1]; simp), if_neg (by rw [w1]; simp), w1]
 rw [e]
 have hnx : (p.room.1.setD d').next = p.next := hrs.2.1
 have nocl : ∀ g ∈ p.room.1.fs, g.name = n → g.page < x.N := fun g hg hgn => by
  obtain ⟨y, b1, b2, _⟩ := h2.mine g hg
  rw [hgn, hM] at b1; cases b1; exact b2
 have ht : ToldM (p.room.1.setD d') (setF M n (some ⟨x.N + 1, setT x.T x.N (0, [])⟩)) Q (U + 1) := by
  refine ⟨h2.wrong, w2, w3, w4.trans h2.quota, ?_, ?_, fun j' f' hf' => ?_, fun m y hy => ?_, fun g hgm => ?_⟩
  ·show d'.used = U + 1
   rw [w6, if_pos a4.symm, h2.used]
  ·show (d'.files.map _).Nodup
   rw [w5, map_modify_all (fun f : Fl => f.name.toList) (fun f => { f with log := f.log ++ [⟨p.room.1.d.next, x.N, ⟨sealP 0 [], hs⟩⟩] }) (fun _ => rfl)]
   exact h2.nodup
  ·have hf' : d'.files[j']? = some f' := hf'
   rw [w5] at hf'
   by_cases q : j = j'
   ·subst q
    rw [modify_same a2] at hf'
    cases hf'
    refine ⟨_, by show setF M n _ f.name = _; rw [a3, setF_same], ?_, fun k b hk hc => ?_⟩
    ·rw [Fl.addW_pages]
     show (putAt f.pages x.N ⟨sealP 0 [], hs⟩).length = x.N + 1
     rw [putAt_length]; omega
    ·rw [Fl.addW_pages] at hk
     have hk : (putAt f.pages x.N ⟨sealP 0 [], hs⟩)[k]? = some b := hk
     rw [putAt_get (by omega)] at hk
     show openP b.1 = some (setT x.T x.N (0, []) k)
     split at hk
     ·rename_i ek; cases hk; subst ek
      rw [setT_same]; exact openP_sealP (by simp)
     ·rename_i ek
      rw [setT_other ek]
      exact a5 k b hk (by rw [← a3]; exact hc)
   ·rw [modify_other q] at hf'
    obtain ⟨y, b1, b2, b3⟩ := h2.file j' f' hf'
    have hne : f'.name ≠ n := fun e => q (by
     have := idx_at h2.nodup hf'
     rw [e, a1] at this
     exact Option.some.inj this)
    exact ⟨y, by rw [setF_other hne]; exact b1, b2, b3⟩
  ·have key : ∀ m y, M m = some y → ∃ (i : Nat) (f : Fl), d'.files[i]? = some f ∧ f.name = m := fun m y hy => by
    obtain ⟨j', f', b1, b2⟩ := h2.there m y hy
    rw [w5]
    by_cases q : j = j'
    ·subst q
     exact ⟨j, _, modify_same b1, b2⟩
    ·exact ⟨j', f', by rw [modify_other q]; exact b1, b2⟩
   by_cases q : m = n
   ·subst q; exact key m x hM
   ·rw [setF_other q] at hy
    exact key m y hy
  ·have hgm : g ∈ p.room.1.fs := hgm
   obtain ⟨y, b1, b2, b3⟩ := h2.mine g hgm
   by_cases q : g.name = n
   ·rw [q, hM] at b1; cases b1
    exact ⟨_, by rw [q, setF_same], by show g.page < x.N + 1; omega, by show setT x.T x.N (0, []) g.page = _; rw [setT_other (by omega)]; exact b3⟩
   ·exact ⟨y, by rw [setF_other q]; exact b1, b2, b3⟩
 refine ⟨by rw [hrs.2.1], ?_, ?_, hrs.1, hrs.2.2.1, ht.take (f := ⟨n, x.N, 0, [], false, [], 0⟩) (setF_same _ _ _) (Nat.lt_succ_self _) (setT_same _ _ _), fun hb hsz hx => ?_⟩
 ·rw [Pl.take_fs, hnx]; rfl
 ·show w64 ((p.room.1.setD d').next + 1) = _
  rw [hnx]
 ·obtain ⟨v1, v2⟩ := hw.roomed
  have hno : p.room.1.find n (x.N : Int) = none := Pl.find_none_of fun g hg hgn => by have := nocl g hg hgn; omega
  exact (v1.setD _).take (by show p.room.1.fs.length < p.room.1.most; rw [hrs.1]; exact v2 h1) (by show p.room.1.next < _; rw [hrs.2.1]; exact hx) hno (by simp) hb hsz rfl rfl
theorem ToldM.turn [Tab] (h : ToldM p M Q U) {i : Nat} {f : Fr} {u : Fr → Fr} (hf : p.fs[i]? = some f) (hd : p'.d = p.d) (hw : p'.wrong = p.wrong) (hfs : p'.fs = p.fs.modify i u)
  (hu : (u f).name = f.name ∧ (u f).page = f.page ∧ (u f).kind = f.kind ∧ (u f).b = f.b ∧ (u f).dirty = f.dirty) : ToldM p' M Q U := by
 obtain ⟨u1, u2, u3, u4, u5⟩ := hu
 refine h.chg hd hw (fun g hg => ?_) fun m k hc g hg e1 e2 => ?_
 ·rw [hfs] at hg
  rcases mem_modify hf hg with r | r
  ·exact h.mine g r
  ·subst r; rw [u1, u2, u3, u4]; exact h.mine f (List.mem_of_getElem? hf)
 ·obtain ⟨j, hj⟩ := List.mem_iff_getElem?.1 hg
  by_cases e : i = j
  ·subst e
   rw [hf] at hj; cases hj
   rw [← u5]
   exact hc (u f) (by rw [hfs]; exact List.mem_of_getElem? (modify_same hf)) (by rw [u1]; exact e1) (by rw [u2]; exact e2)
  ·exact hc g (by rw [hfs]; exact List.mem_of_getElem? (by rw [modify_other e]; exact hj)) e1 e2
theorem ToldM.pin_in [Tab] (h : ToldM p M Q U) {k : Nat} {i : Nat} {f : Fr} (hi : p.find n k = some i) (hf : p.fs[i]? = some f) :
  p.pin n k = (p.pinAt i, p.next, 0) ∧ ToldM (p.pinAt i) M Q U := by
 refine ⟨?_, h.turn hf rfl rfl rfl ⟨rfl, rfl, rfl, rfl, rfl⟩⟩
 unfold Pl.pin
 rw [if_neg (by rw [h.wrong]; simp), hi]
theorem ToldM.pin_out [Tab] (h : ToldM p M Q U) (hM : M n = some x) (hw : p.WF) {k : Nat} (hi : p.find n k = none) (hk : k < x.N) (hg : p.fs.length < p.most ∨ ∃ g ∈ p.fs, g.pins = []) :
  (p.pin n k).2 = (p.next, 0) ∧ (p.pin n k).1.fs = p.room.1.fs ++ [⟨n, k, (x.T k).1, (x.T k).2, false, [p.next], 0⟩] ∧ (p.pin n k).1.next = w64 (p.next + 1) ∧ (p.pin n k).1.most = p.most ∧ ToldM (p.pin n k).1 M Q U ∧
  (x.N ≤ 1048576 → n.size ≤ 9223372036854775807 → p.next < 9223372036854775807 → (p.pin n k).1.WF) := by
 obtain ⟨h1, h2, h3, _⟩ := h.roomy hw hg
 have hrs := p.room_same
 have hlen := h.len hM
 have hno : ∀ g ∈ p.room.1.fs, g.name = n → g.page ≠ k := fun g hgm hgn e => Pl.find_none hi g (h3 g hgm) hgn (by omega)
 obtain ⟨j, f, a1, a2, a3, a4, a5⟩ := h2.at hM
 obtain ⟨b, hb⟩ : ∃ b, f.pages[k]? = some b := ⟨_, List.getElem?_eq_getElem (by omega)⟩
 have ho := a5 k b hb fun g hgm hgn e => absurd e (hno g hgm hgn)
 have hrd : p.room.1.d.read n k = (b.1, 0) := by
  unfold Dk.read Dk.open
  rw [if_neg (by rw [h2.up]; simp), a1]
  simp only [Dk.file_eq a2]
  rw [if_neg (by omega), Int.toNat_natCast, hb]
 have el : p.load n k = (p.room.1, some ⟨n, k, (x.T k).1, (x.T k).2, false, [], 0⟩, 0) := by
  unfold Pl.load
  rw [hlen]
  simp only
  rw [if_neg (by simp), if_neg (by omega), if_neg (by rw [h1]; simp), hrd]
  simp only
  rw [if_neg (by simp), ho]
  simp
 have e : p.pin n k = (p.room.1.take ⟨n, k, (x.T k).1, (x.T k).2, false, [], 0⟩, p.room.1.next, 0) := by
  unfold Pl.pin
  rw [if_neg (by rw [h.wrong]; simp), hi, el]
 rw [e]
 refine ⟨by rw [hrs.2.1], ?_, ?_, hrs.1, h2.take (f := ⟨n, k, (x.T k).1, (x.T k).2, false, [], 0⟩) hM hk rfl, fun hN hsz hx => ?_⟩
 ·rw [Pl.take_fs, hrs.2.1]; rfl
 ·show w64 (p.room.1.next + 1) = _
  rw [hrs.2.1]
 ·obtain ⟨v1, v2⟩ := hw.roomed
  have hfind : p.room.1.find n (k : Int) = none := Pl.find_none_of fun g hg hgn => by have := hno g hg hgn; omega
  exact v1.take (by rw [hrs.1]; exact v2 h1) (by rw [hrs.2.1]; omega) hfind (openP_room ho) (by simp only; omega) hsz rfl rfl
theorem ToldM.get [Tab] (h : ToldM p M Q U) (hw : p.WF) {f : Fr} {c : Int} (hf : f ∈ p.fs) (hM : M f.name = some x) (hx : c ∈ f.pins) : p.get c = ((x.T f.page).1, (x.T f.page).2, 0) := by
 obtain ⟨i, hi⟩ := List.mem_iff_getElem?.1 hf
 obtain ⟨y, b1, b2, b3⟩ := h.mine f hf
 rw [hM] at b1; cases b1
 unfold Pl.get
 rw [if_neg (by rw [h.wrong]; simp), Pl.held_eq hw hi hx]
 simp only [Pl.frame_eq hi, b3]
theorem ToldM.set [Tab] (h : ToldM p M Q U) (hw : p.WF) {i : Nat} {f : Fr} {c : Int} (hf : p.fs[i]? = some f) (hM : M f.name = some x) (hx : c ∈ f.pins) {k : UInt8} {b : List UInt8} (hb : b.length ≤ 504) :
  p.set c k b = (p.turn i (Fr.set k b), 0) ∧ ToldM (p.turn i (Fr.set k b)) (setF M f.name (some { x with T := setT x.T f.page (k, b) })) Q U := by
 constructor
 ·unfold Pl.set
  rw [if_neg (by rw [h.wrong]; simp), Pl.held_eq hw hf hx]
  simp only
  rw [if_neg (by omega)]
 ·have hcl : ∀ m j, (m ≠ f.name ∨ j ≠ f.page) → Cl (p.fs.modify i (Fr.set k b)) m j → Cl p.fs m j := by
   intro m j hne hc g hg e1 e2
   obtain ⟨a, ha⟩ := List.mem_iff_getElem?.1 hg
   by_cases q : i = a
   ·subst q
    rw [hf] at ha; cases ha
    rcases hne with u | u
    ·exact absurd e1.symm u
    ·exact absurd e2.symm u
   ·exact hc g (List.mem_of_getElem? (by rw [modify_other q]; exact ha)) e1 e2
  refine ⟨h.wrong, h.up, h.calm, h.quota, h.used, h.nodup, fun j g hg => ?_, fun m y hy => ?_, fun g hg => ?_⟩
  ·obtain ⟨y, b1, b2, b3⟩ := h.file j g hg
   by_cases q : g.name = f.name
   ·rw [q, hM] at b1; cases b1
    refine ⟨{ x with T := setT x.T f.page (k, b) }, by rw [q, setF_same], b2, fun a c hc hcc => ?_⟩
    show openP c.1 = some (setT x.T f.page (k, b) a)
    by_cases e : a = f.page
    ·subst e
     have := hcc (Fr.set k b f) (List.mem_of_getElem? (modify_same hf)) q.symm rfl
     cases this
    ·rw [setT_other e]
     exact b3 a c hc (hcl _ _ (.inr e) hcc)
   ·exact ⟨y, by rw [setF_other q]; exact b1, b2, fun a c hc hcc => b3 a c hc (hcl _ _ (.inl q) hcc)⟩
  ·by_cases q : m = f.name
   ·subst q; exact h.there _ x hM
   ·rw [setF_other q] at hy; exact h.there m y hy
  ·have hg : g ∈ p.fs.modify i (Fr.set k b) := hg
   rw [modify_set hf] at hg
   rcases mem_set' hg with ⟨j, hji, hj⟩ | r
   ·obtain ⟨y, b1, b2, b3⟩ := h.mine g (List.mem_of_getElem? hj)
    by_cases q : g.name = f.name
    ·rw [q, hM] at b1; cases b1
     have hne : g.page ≠ f.page := fun e => hji (key_inj hw.keys hj hf q e)
     exact ⟨{ x with T := setT x.T f.page (k, b) }, by rw [q, setF_same], b2, by show setT x.T f.page (k, b) g.page = _; rw [setT_other hne]; exact b3⟩
    ·exact ⟨y, by rw [setF_other q]; exact b1, b2, b3⟩
   ·subst r
    obtain ⟨y, b1, b2, _⟩ := h.mine f (List.mem_of_getElem? hf)
    rw [hM] at b1; cases b1
    exact ⟨_, setF_same _ _ _, b2, setT_same _ _ _⟩
theorem ToldM.unpin [Tab] (h : ToldM p M Q U) (hw : p.WF) {i : Nat} {f : Fr} {c : Int} (hf : p.fs[i]? = some f) (hx : c ∈ f.pins) :
  p.unpin c = ({ p with fs := p.fs.modify i (Fr.unpin c (w64 (p.tick + 1))), tick := w64 (p.tick + 1) }, 0) ∧ ToldM (p.unpin c).1 M Q U := by
 have e : p.unpin c = ({ p with fs := p.fs.modify i (Fr.unpin c (w64 (p.tick + 1))), tick := w64 (p.tick + 1) }, 0) := by
  unfold Pl.unpin
  rw [if_neg (by rw [h.wrong]; simp), Pl.held_eq hw hf hx]
 refine ⟨e, ?_⟩
 rw [e]
 exact h.turn hf rfl rfl rfl ⟨rfl, rfl, rfl, rfl, rfl⟩
theorem ToldM.create [Tab] (h : ToldM p M Q U) (hM : M n = none) (hn : named n = true) (hl : p.d.files.length < 4096) (T0 : Nat → UInt8 × List UInt8) :
  (p.d.create n).2 = 0 ∧ ToldM (p.setD (p.d.create n).1) (setF M n (some ⟨0, T0⟩)) Q U ∧ (p.d.create n).1.files.length = p.d.files.length + 1 ∧ (p.d.create n).1.logs = p.d.logs := by
 have hx : p.d.idx n = none := by
  unfold Dk.idx
  rw [List.findIdx?_eq_none_iff]
  intro f hf
  obtain ⟨i, hi⟩ := List.mem_iff_getElem?.1 hf
  obtain ⟨x, a, _⟩ := h.file i f hi
  have : ¬ f.name.toList = n.toList := fun q => by
   have e : f.name = n := ba_eq q
   rw [e, hM] at a; cases a
  simpa using this
 have hch := change_at h.calm
 have e : p.d.create n = ({ p.d with files := p.d.files ++ [⟨n, [], []⟩], ops := w64 (p.d.ops + 1) }, 0) := by
  unfold Dk.create
  rw [if_neg (by rw [h.up]; simp), if_neg (by rw [hn]; simp), if_neg (by rw [hx]; simp), if_neg (by omega)]
  unfold Dk.step
  rw [hch, if_pos rfl]
 rw [e]
 have hne : ∀ f ∈ p.d.files, f.name ≠ n := fun f hf q => by
  obtain ⟨i, hi⟩ := List.mem_iff_getElem?.1 hf
  obtain ⟨x, a, _⟩ := h.file i f hi
  rw [q, hM] at a; cases a
 have hnx : ∀ m x, M m = some x → m ≠ n := fun m x hx2 q => by subst q; rw [hM] at hx2; cases hx2
 refine ⟨rfl, ⟨h.wrong, h.up, h.calm, h.quota, ?_, ?_, fun i f hf => ?_, fun m y hy => ?_, fun g hg => ?_⟩, by simp, by simp [Dk.logs]⟩
 ·have := h.used
  show ((p.d.files ++ [(⟨n, [], []⟩ : Fl)]).map fun f : Fl => f.pages.length).sum = U
  unfold Dk.used at this
  rw [List.map_append, List.sum_append, this]
  simp [Fl.pages]
 ·show ((p.d.files ++ [(⟨n, [], []⟩ : Fl)]).map fun f : Fl => f.name.toList).Nodup
  rw [List.map_append, List.nodup_append]
  refine ⟨h.nodup, by simp, fun a ha b hb => ?_⟩
  obtain ⟨f, hf, rfl⟩ := List.mem_map.1 ha
  have hb : b = n.toList := by simpa using hb
  rw [hb]
  exact fun q => hne f hf (ba_eq q)
 ·have hf : (p.d.files ++ [(⟨n, [], []⟩ : Fl)])[i]? = some f := hf
  rw [List.getElem?_append] at hf
  split at hf
  ·obtain ⟨x, a, b, c⟩ := h.file i f hf
   exact ⟨x, by rw [setF_other (hne f (List.mem_of_getElem? hf))]; exact a, b, c⟩
  ·have : i - p.d.files.length = 0 := by
    have := (List.getElem?_eq_some_iff.1 hf).1
    simp at this; omega
   rw [this] at hf
   have hf : f = ⟨n, [], []⟩ := by simpa using hf.symm
   subst hf
   exact ⟨_, setF_same _ _ _, rfl, fun k b hk => by simp [Fl.pages] at hk⟩
 ·show ∃ (i : Nat) (f : Fl), (p.d.files ++ [(⟨n, [], []⟩ : Fl)])[i]? = some f ∧ f.name = m
  by_cases q : m = n
  ·subst q
   exact ⟨p.d.files.length, ⟨m, [], []⟩, by simp, rfl⟩
  ·rw [setF_other q] at hy
   obtain ⟨i, f, a, b⟩ := h.there m y hy
   exact ⟨i, f, by rw [List.getElem?_append_left (List.getElem?_eq_some_iff.1 a).1]; exact a, b⟩
 ·obtain ⟨y, a, b⟩ := h.mine g hg
  exact ⟨y, by rw [setF_other (hnx _ _ a)]; exact a, b⟩
end
structure CalmM [Tab] (p : Pl) (M : Files) (Q U : Nat) : Prop where
 told : ToldM p M Q U
 wf : p.WF
 free : ∀ f ∈ p.fs, f.pins = []
section
variable {p : Pl} {M : Files} {Q U : Nat} {n : ByteArray} {x : St}
theorem CalmM.roomy [Tab] (h : CalmM p M Q U) : p.fs.length < p.most ∨ ∃ g ∈ p.fs, g.pins = [] := by
 by_cases hl : p.fs.length < p.most
 ·exact .inl hl
 ·right
  have := h.wf.most
  match hf : p.fs with
  | [] => rw [hf] at hl; simp at hl; omega
  | f :: _ => exact ⟨f, List.mem_cons_self, h.free f (by rw [hf]; exact List.mem_cons_self)⟩
theorem CalmM.give [Tab] (hw : p.WF) (t : ToldM p M Q U) {i : Nat} {f : Fr} {c : Int} (hf : p.fs[i]? = some f) (hx : f.pins = [c]) (hl : ∀ j g, j ≠ i → p.fs[j]? = some g → g.pins = []) (hn : p.next < 9223372036854775807) :
  (p.unpin c).2 = 0 ∧ CalmM (p.unpin c).1 M Q U ∧ (p.unpin c).1.next = p.next ∧ (p.unpin c).1.most = p.most := by
 obtain ⟨u1, u2⟩ := t.unpin hw hf (c := c) (by rw [hx]; simp)
 refine ⟨by rw [u1], ⟨u2, hw.unpin c hn, ?_⟩, by rw [u1], by rw [u1]⟩
 rw [u1]
 intro g hg
 obtain ⟨j, hj⟩ := List.mem_iff_getElem?.1 hg
 have hj : (p.fs.modify i (Fr.unpin c (w64 (p.tick + 1))))[j]? = some g := hj
 by_cases e : i = j
 ·subst e
  rw [modify_same hf] at hj
  cases hj; simp [Fr.unpin, hx]
 ·rw [modify_other e] at hj
  exact hl j g (fun q => e q.symm) hj
theorem last_free {l : List Fr} {f : Fr} {fs : List Fr} (hf : fs = l ++ [f]) (hl : ∀ g ∈ l, g.pins = []) : fs[l.length]? = some f ∧ ∀ j g, j ≠ l.length → fs[j]? = some g → g.pins = [] := by
 subst hf
 refine ⟨by simp, fun j g hj hg => ?_⟩
 rcases Nat.lt_or_ge j l.length with hlt | hge
 ·rw [List.getElem?_append_left hlt] at hg
  exact hl g (List.mem_of_getElem? hg)
 ·rw [List.getElem?_append_right hge] at hg
  obtain ⟨m, hm⟩ : ∃ m, j - l.length = m + 1 := ⟨j - l.length - 1, by omega⟩
  rw [hm] at hg; simp at hg
theorem CalmM.more [Tab] (h : CalmM p M Q U) (hM : M n = some x) (hN : U < Q) (hb0 : x.N < 1048577) (hs : n.size ≤ 9223372036854775807) (h0 : 0 ≤ p.next) (h1 : p.next < 1099511627776) {k : UInt8} {b : List UInt8} (hb : b.length ≤ 504) (hk : k ≠ 0) :
  (p.more n k b).2 = 0 ∧ (p.fresh n).2.2.1 = x.N ∧ CalmM (p.more n k b).1 (setF M n (some ⟨x.N + 1, setT x.T x.N (k, b)⟩)) Q (U + 1) ∧ (p.more n k b).1.next = p.next + 1 ∧ (p.more n k b).1.most = p.most := by
 obtain ⟨r1, r2, r3, r4, _, r6, r7⟩ := h.told.fresh hM h.wf h.roomy hN
 obtain ⟨_, _, hsub, _⟩ := h.told.roomy h.wf h.roomy
 have hfree : ∀ g ∈ p.room.1.fs, g.pins = [] := fun g hg => h.free g (hsub g hg)
 have hnx : (p.fresh n).1.next = p.next + 1 := by rw [r3]; exact w64_up h0 h1
 have hwf : (p.fresh n).1.WF := r7 hb0 hs (by omega)
 generalize p.room.1.fs = l at r2 hfree
 unfold Pl.more
 rw [r1]
 generalize (p.fresh n).1 = s at *
 simp only
 rw [if_neg (by simp), if_neg hk]
 obtain ⟨hi, hl⟩ := last_free r2 hfree
 obtain ⟨s1, s2⟩ := r6.set hwf hi (c := p.next) (k := k) (b := b) (setF_same _ _ _) (by simp) hb
 have hw2 := hwf.set p.next k b
 rw [s1] at hw2 ⊢
 have e2 : (s.turn l.length (Fr.set k b)).fs = l ++ [⟨n, x.N, k, b, true, [p.next], 0⟩] := by
  show s.fs.modify _ _ = _
  rw [r2, modify_last]; rfl
 have et : setT (setT x.T x.N (0, [])) x.N (k, b) = setT x.T x.N (k, b) := by
  funext j
  by_cases e : j = x.N
  ·subst e; rw [setT_same, setT_same]
  ·rw [setT_other e, setT_other e, setT_other e]
 rw [setF_set] at s2
 have s2' : ToldM (s.turn l.length (Fr.set k b)) (setF M n (some ⟨x.N + 1, setT (setT x.T x.N (0, [])) x.N (k, b)⟩)) Q (U + 1) := s2
 rw [et] at s2'
 obtain ⟨i2, l2⟩ := last_free e2 hfree
 obtain ⟨b1, b2, b3, b4⟩ := CalmM.give (c := p.next) hw2 s2' i2 rfl l2 (by show s.next < _; omega)
 exact ⟨b1, by first | trivial | rfl, b2, b3.trans hnx, b4.trans r4⟩
theorem CalmM.pin [Tab] (h : CalmM p M Q U) (hM : M n = some x) (hb0 : x.N ≤ 1048576) (hs : n.size ≤ 9223372036854775807) (h0 : 0 ≤ p.next) (h1 : p.next < 1099511627776) {k : Nat} (hk : k < x.N) :
  (p.pin n k).2 = (p.next, 0) ∧ (p.pin n k).1.WF ∧ ToldM (p.pin n k).1 M Q U ∧ (p.pin n k).1.next = p.next + 1 ∧ (p.pin n k).1.most = p.most ∧
  ∃ (i : Nat) (f : Fr), (p.pin n k).1.fs[i]? = some f ∧ f.pins = [p.next] ∧ f.name = n ∧ f.page = k ∧ ∀ j g, j ≠ i → (p.pin n k).1.fs[j]? = some g → g.pins = [] := by
 have t := h.told
 have hnx : w64 (p.next + 1) = p.next + 1 := w64_up h0 h1
 cases hi : p.find n (k : Int) with
 | some i =>
   obtain ⟨f, hf, hfn, hfk⟩ := Pl.find_some hi
   obtain ⟨r1, r2⟩ := t.pin_in hi hf
   rw [r1]
   refine ⟨rfl, h.wf.pinAt hf (by omega), r2, hnx, rfl, i, Fr.pin p.next f, modify_same hf, ?_, hfn, by show f.page = k; omega, fun j g hj hg => ?_⟩
   ·show f.pins ++ [p.next] = _
    rw [h.free f (List.mem_of_getElem? hf)]; rfl
   ·have hg : (p.fs.modify i (Fr.pin p.next))[j]? = some g := hg
    rw [modify_other (fun e => hj e.symm)] at hg
    exact h.free g (List.mem_of_getElem? hg)
 | none =>
   obtain ⟨r1, r2, r3, r4, r5, r6⟩ := t.pin_out hM h.wf hi hk h.roomy
   obtain ⟨_, _, hsub, _⟩ := t.roomy h.wf h.roomy
   obtain ⟨i2, l2⟩ := last_free r2 fun g hg => h.free g (hsub g hg)
   exact ⟨r1, r6 hb0 hs (by omega), r5, r3.trans hnx, r4, _, _, i2, rfl, rfl, rfl, l2⟩
theorem CalmM.look [Tab] (h : CalmM p M Q U) (hM : M n = some x) (hb0 : x.N ≤ 1048576) (hs : n.size ≤ 9223372036854775807) (h0 : 0 ≤ p.next) (h1 : p.next < 1099511627776) {k : Nat} (hk : k < x.N) :
  (p.look n k).2 = ((x.T k).1, (x.T k).2, 0) ∧ CalmM (p.look n k).1 M Q U ∧ (p.look n k).1.next = p.next + 1 ∧ (p.look n k).1.most = p.most := by
 obtain ⟨r1, r2, t, r4, r5, i, f, r6, r7, rn, r8, r9⟩ := h.pin hM hb0 hs h0 h1 hk
 unfold Pl.look
 rw [r1]
 generalize (p.pin n k).1 = s at *
 have g1 := t.get r2 (c := p.next) (List.mem_of_getElem? r6) (by rw [rn]; exact hM) (by rw [r7]; simp)
 obtain ⟨b1, b2, b3, b4⟩ := CalmM.give r2 t r6 r7 r9 (by omega)
 simp only
 rw [if_neg (by simp), g1]
 simp only
 rw [if_neg (by simp), b1, r8]
 exact ⟨rfl, b2, b3.trans r4, b4.trans r5⟩
theorem CalmM.over [Tab] (h : CalmM p M Q U) (hM : M n = some x) (hb0 : x.N ≤ 1048576) (hs : n.size ≤ 9223372036854775807) (h0 : 0 ≤ p.next) (h1 : p.next < 1099511627776) {k : Nat} (hk : k < x.N) {kd : UInt8} {b : List UInt8} (hb : b.length ≤ 504) :
  (p.over n (k : Int) kd b).2 = 0 ∧ CalmM (p.over n (k : Int) kd b).1 (setF M n (some { x with T := setT x.T k (kd, b) })) Q U ∧ (p.over n (k : Int) kd b).1.next = p.next + 1 ∧ (p.over n (k : Int) kd b).1.most = p.most := by
 obtain ⟨r1, r2, t, r4, r5, i, f, r6, r7, rn, r8, r9⟩ := h.pin hM hb0 hs h0 h1 hk
 unfold Pl.over
 rw [r1]
 simp only
 rw [if_neg (by simp)]
 generalize (p.pin n k).1 = s at *
 obtain ⟨s1, s2⟩ := t.set r2 r6 (c := p.next) (k := kd) (b := b) (by rw [rn]; exact hM) (by rw [r7]; simp) hb
 have hw2 := r2.set p.next kd b
 rw [s1] at hw2 ⊢
 rw [r8, rn] at s2
 have e1 : Pl.leave (s.turn i (Fr.set kd b), 0) p.next = (s.turn i (Fr.set kd b)).unpin p.next := if_pos rfl
 rw [e1]
 have e6 : (s.turn i (Fr.set kd b)).fs[i]? = some (Fr.set kd b f) := modify_same r6
 obtain ⟨b1, b2, b3, b4⟩ := CalmM.give (c := p.next) hw2 s2 e6 (by simpa [Fr.set] using r7) (fun j g hj hg => r9 j g hj (by
  have hg : (s.fs.modify i (Fr.set kd b))[j]? = some g := hg
  rw [modify_other (fun e => hj e.symm)] at hg; exact hg)) (by show s.next < _; omega)
 exact ⟨b1, b2, b3.trans r4, b4.trans r5⟩
end
theorem nodup_len {α : Type} : ∀ {A B : List α}, A.Nodup → (∀ a ∈ A, a ∈ B) → A.length ≤ B.length
 | [], _, _, _ => Nat.zero_le _
 | a :: A, B, h, hs => by
   have ha := hs a List.mem_cons_self
   obtain ⟨C, D, rfl⟩ := List.append_of_mem ha
   obtain ⟨h1, h2⟩ := List.nodup_cons.1 h
   have := nodup_len (A := A) (B := C ++ D) h2 fun b hb => by
    have hb2 := hs b (List.mem_cons_of_mem _ hb)
    rcases List.mem_append.1 hb2 with u | u
    ·exact List.mem_append.2 (.inl u)
    ·rcases List.mem_cons.1 u with v | v
     ·subst v; exact absurd hb h1
     ·exact List.mem_append.2 (.inr v)
   simp only [List.length_append, List.length_cons] at this ⊢
   omega
theorem mem_sum {α : Type} (w : α → Nat) : ∀ {l : List α} {a : α}, a ∈ l → w a ≤ (l.map w).sum
 | b :: l, a, h => by
   rw [List.map_cons, List.sum_cons]
   rcases List.mem_cons.1 h with u | u
   ·subst u; omega
   ·have := mem_sum w u; omega
section
variable {p : Pl} {M : Files} {Q U : Nat} {n : ByteArray} {x : St}
theorem ToldM.N_le [Tab] (h : ToldM p M Q U) (hM : M n = some x) : x.N ≤ U := by
 obtain ⟨i, f, _, h2, _, h4, _⟩ := h.at hM
 have := mem_sum (fun f : Fl => f.pages.length) (List.mem_of_getElem? h2)
 have hu := h.used
 unfold Dk.used at hu
 omega
theorem ToldM.files_le [Tab] (h : ToldM p M Q U) {ns : List ByteArray} (hs : ∀ n x, M n = some x → n ∈ ns) : p.d.files.length ≤ ns.length := by
 have hn : (p.d.files.map (·.name)).Nodup := by
  have := h.nodup
  have e : (p.d.files.map fun f => f.name.toList) = (p.d.files.map (·.name)).map ByteArray.toList := by rw [List.map_map]; rfl
  rw [e] at this
  exact List.Pairwise.imp (fun {a b} hne e => hne (by rw [e])) (List.pairwise_map.1 this)
 have := nodup_len hn (B := ns) fun a ha => by
  obtain ⟨f, hf, rfl⟩ := List.mem_map.1 ha
  obtain ⟨i, hi⟩ := List.mem_iff_getElem?.1 hf
  obtain ⟨y, b1, _⟩ := h.file i f hi
  exact hs _ _ b1
 rwa [List.length_map] at this
end
section
variable {p p' : Pl} {M : Files} {Q U : Nat} {n : ByteArray} {x : St}
theorem nodup_same {α β : Type} {f : α → β} : ∀ {l : List α}, (l.map f).Nodup → ∀ {a b : α}, a ∈ l → b ∈ l → f a = f b → a = b
 | c :: l, h, a, b, ha, hb, e => by
   rw [List.map_cons, List.nodup_cons] at h
   obtain ⟨h1, h2⟩ := h
   rcases List.mem_cons.1 ha with ea | ha
   ·rcases List.mem_cons.1 hb with eb | hb
    ·rw [ea, eb]
    ·exact absurd (List.mem_map.2 ⟨b, hb, by rw [← e, ea]⟩) h1
   ·rcases List.mem_cons.1 hb with eb | hb
    ·exact absurd (List.mem_map.2 ⟨a, ha, by rw [e, eb]⟩) h1
    ·exact nodup_same h2 ha hb e
theorem ToldM.same_pages [Tab] (h : ToldM p M Q U) {d' : Dk} {i : Nat} {u : Fl → Fl} (hu : d'.down = false) (hc : d'.crash = none) (hq : d'.quota = p.d.quota) (hf : d'.files = p.d.files.modify i u) (hn : ∀ f, (u f).name = f.name) (hp : ∀ f, (u f).pages = f.pages) : ToldM (p.setD d') M Q U := by
 have hg : ∀ j, d'.files[j]? = (p.d.files[j]?).map (if i = j then u else id) := fun j => by
  rw [hf, List.getElem?_modify]
  split <;> simp
 have hmap : ∀ {γ : Type} (w : Fl → γ), (∀ f, w (u f) = w f) → d'.files.map w = p.d.files.map w := fun w hw => by
  apply List.ext_getElem?
  intro j
  rw [List.getElem?_map, List.getElem?_map, hg]
  cases p.d.files[j]? with
  | none => rfl
  | some f => by_cases e : i = j <;> simp [e, hw]
 refine ⟨h.wrong, hu, hc, hq.trans h.quota, ?_, ?_, fun j f hj => ?_, fun m y hy => ?_, h.mine⟩
 ·show (d'.files.map fun f : Fl => f.pages.length).sum = U
  rw [hmap _ fun f => by rw [hp]]
  exact h.used
 ·show (d'.files.map fun f : Fl => f.name.toList).Nodup
  rw [hmap _ fun f => by rw [hn]]
  exact h.nodup
 ·have hj : d'.files[j]? = some f := hj
  rw [hg] at hj
  obtain ⟨g, h1, h2⟩ := Option.map_eq_some_iff.1 hj
  obtain ⟨y, a, b, c⟩ := h.file j g h1
  have e1 : f.name = g.name := by
   rw [← h2]; by_cases e : i = j <;> simp [e, hn]
  have e2 : f.pages = g.pages := by
   rw [← h2]; by_cases e : i = j <;> simp [e, hp]
  rw [e1, e2]
  exact ⟨y, a, b, c⟩
 ·obtain ⟨j, f, h1, h2⟩ := h.there m y hy
  refine ⟨j, (if i = j then u else id) f, ?_, ?_⟩
  ·show d'.files[j]? = _
   rw [hg, h1]; rfl
  ·by_cases e : i = j <;> simp [e, hn, h2]
theorem Pl.WF.one [Tab] (hw : p.WF) {f g : Fr} (hf : f ∈ p.fs) (hg : g ∈ p.fs) (e1 : f.name = g.name) (e2 : f.page = g.page) : f = g :=
 nodup_same hw.keys hf hg (by unfold Fr.key; rw [e1, e2])
theorem ToldM.flushL [Tab] : ∀ (l : List Nat) {p : Pl}, ToldM p M Q U → p.WF → (∀ f ∈ p.fs, f.name = n → f.dirty = true → f.page ∈ l) →
  (Pl.flushL n l p).2 = 0 ∧ ToldM (Pl.flushL n l p).1 M Q U ∧ (∀ f ∈ (Pl.flushL n l p).1.fs, f.name = n → f.dirty = false) ∧ (∀ g ∈ (Pl.flushL n l p).1.fs, ∃ g0 ∈ p.fs, g.pins = g0.pins) ∧ (Pl.flushL n l p).1.most = p.most
 | [], p, h, hw, hd => by
   refine ⟨rfl, h, fun f hf hn => ?_, fun g hg => ⟨g, hg, rfl⟩, rfl⟩
   cases e : f.dirty with
   | false => rfl
   | true => have := hd f hf hn e; cases this
 | k :: l, p, h, hw, hd => by
   unfold Pl.flushL
   have skip : (∀ f ∈ p.fs, f.name = n → f.page = k → f.dirty = false) → ∀ f ∈ p.fs, f.name = n → f.dirty = true → f.page ∈ l := by
    intro hk f hf hn e
    rcases List.mem_cons.1 (hd f hf hn e) with r | r
    ·rw [hk f hf hn r] at e; cases e
    ·exact r
   cases hi : p.find n k with
   | none => exact ToldM.flushL l h hw (skip fun f hf hn e => absurd (by omega) (Pl.find_none hi f hf hn))
   | some i =>
     obtain ⟨f, hf, hfn, hfp⟩ := Pl.find_some hi
     have hfp' : f.page = k := by omega
     have hfm := List.mem_of_getElem? hf
     simp only [Pl.frame_eq hf]
     cases hdt : f.dirty with
     | false =>
       rw [if_neg (by simp)]
       refine ToldM.flushL l h hw (skip fun g hg hn e => ?_)
       rw [hw.one hg hfm (by rw [hn, hfn]) (by omega)]; exact hdt
     | true =>
       obtain ⟨w1, w2, w3⟩ := h.put hw hf
       rw [if_pos rfl, if_pos w1]
       have hsame := p.put_same i
       have hmem : ∀ g ∈ (p.put i).1.fs, (∃ j, j ≠ i ∧ p.fs[j]? = some g) ∨ g = Fr.clean f := fun g hg => by
        rw [w2, modify_set hf] at hg
        rcases mem_set' hg with ⟨j, hji, hj⟩ | r
        ·exact .inl ⟨j, hji, hj⟩
        ·exact .inr r
       obtain ⟨r1, r2, r3, r4, r5⟩ := ToldM.flushL l w3 (hw.put hf) (fun g hg hn e => by
        rcases hmem g hg with ⟨j, hji, hj⟩ | r
        ·have hgm := List.mem_of_getElem? hj
         rcases List.mem_cons.1 (hd g hgm hn e) with r | r
         ·exfalso
          have := hw.one hgm hfm (by rw [hn, hfn]) (by omega)
          subst this
          have hki := hw.keys
          have hil := (List.getElem?_eq_some_iff.1 hf).1
          have hjl := (List.getElem?_eq_some_iff.1 hj).1
          exact hji ((List.getElem?_inj (l := p.fs.map Fr.key) (by simpa using hjl) hki).1 (by rw [List.getElem?_map, List.getElem?_map, hf, hj]))
         ·exact r
        ·subst r; cases e)
       refine ⟨r1, r2, r3, fun g hg => ?_, by rw [r5]; exact hsame.1⟩
       obtain ⟨g0, h0, h1⟩ := r4 g hg
       rcases hmem g0 h0 with ⟨j, _, hj⟩ | r
       ·exact ⟨g0, List.mem_of_getElem? hj, h1⟩
       ·subst r; exact ⟨f, hfm, h1⟩
theorem CalmM.flush [Tab] (h : CalmM p M Q U) (hM : M n = some x) : (p.flush n).2 = 0 ∧ CalmM (p.flush n).1 M Q U ∧ (p.flush n).1.most = p.most := by
 obtain ⟨r1, r2, r3, r4, r5⟩ := h.told.flushL (n := n) (p.pagesOf n) h.wf (fun f hf hn _ => by
  unfold Pl.pagesOf
  rw [List.mem_mergeSort]
  exact List.mem_map.2 ⟨f, List.mem_filter.2 ⟨hf, by rw [hn]; simp⟩, rfl⟩)
 obtain ⟨i, f, i1, i2, _⟩ := r2.at hM
 have hs : (Pl.flushL n (p.pagesOf n) p).1.d.sync n = ({ (Pl.flushL n (p.pagesOf n) p).1.d with ops := w64 ((Pl.flushL n (p.pagesOf n) p).1.d.ops + 1) }.upd i fun f => { f with synced := f.pages, log := [] }, 0) := by
  unfold Dk.sync
  rw [if_neg (by rw [r2.up]; simp), i1]
  simp only
  unfold Dk.step
  rw [change_at r2.calm, if_pos rfl]
 have e : p.flush n = ((Pl.flushL n (p.pagesOf n) p).1.setD ((Pl.flushL n (p.pagesOf n) p).1.d.sync n).1, 0) := by
  unfold Pl.flush
  rw [if_neg (by rw [h.told.wrong]; simp), h.told.len hM]
  simp only
  rw [if_neg (by simp), if_neg (by rw [r1]; simp), hs]
  rfl
 have hwf := h.wf.flush n
 rw [e] at hwf ⊢
 refine ⟨rfl, ⟨?_, hwf, fun g hg => ?_⟩, r5⟩
 ·rw [hs]
  exact r2.same_pages (i := i) r2.up r2.calm rfl rfl (fun f => rfl) fun f => rfl
 ·obtain ⟨g0, h0, h1⟩ := r4 g hg
  rw [h1]; exact h.free g0 h0
theorem Dk.drop_at [Tab] {d : Dk} {i : Nat} (h : d.idx n = some i) : d.drop n = { d with files := d.files.eraseIdx i } := by unfold Dk.drop; rw [h]
theorem CalmM.dropF [Tab] (h : CalmM p M Q U) (hM : M n = some x) : (p.dropF n).2 = 0 ∧ CalmM (p.dropF n).1 (setF M n none) Q (U - x.N) ∧ (p.dropF n).1.most = p.most ∧ (p.dropF n).1.next = p.next := by
 obtain ⟨i, f, i1, i2, i3, i4, _⟩ := h.told.at hM
 have hr : p.d.remove n = ({ { p.d with ops := w64 (p.d.ops + 1) } with files := p.d.files.eraseIdx i }, 0) := by
  unfold Dk.remove
  rw [if_neg (by rw [h.told.up]; simp), if_neg (by rw [i1]; simp)]
  unfold Dk.step
  rw [change_at h.told.calm, if_pos rfl]
  exact congrArg (fun d : Dk => (d, (0 : Int))) (Dk.drop_at (d := { p.d with ops := w64 (p.d.ops + 1) }) i1)
 have e : p.dropF n = ((p.forget n).setD (p.d.remove n).1, 0) := by
  unfold Pl.dropF
  rw [if_neg (by rw [h.told.wrong]; simp), h.told.len hM]
  simp only
  rw [if_neg (by simp), if_neg (by
   rw [List.any_eq_true]
   rintro ⟨g, hg, h2⟩
   rw [h.free g hg] at h2
   simp at h2), hr]
  rfl
 rw [e]
 refine ⟨rfl, ⟨?_, (h.wf.forget n).setD _, fun g hg => h.free g (List.mem_filter.1 hg).1⟩, rfl, rfl⟩
 rw [hr]
 have hil := (List.getElem?_eq_some_iff.1 i2).1
 have hname : ∀ (j : Nat) (g : Fl), p.d.files[j]? = some g → g.name = n → j = i := fun j g hj hg => by
  have := idx_at h.told.nodup hj
  rw [hg, i1] at this
  exact (Option.some.inj this).symm
 have hget : ∀ j g, (p.d.files.eraseIdx i)[j]? = some g → ∃ j', j' ≠ i ∧ p.d.files[j']? = some g := fun j g hj => by
  rw [List.getElem?_eraseIdx] at hj
  split at hj
  ·rename_i q; exact ⟨j, by omega, hj⟩
  ·rename_i q; exact ⟨j + 1, by omega, hj⟩
 refine ⟨h.told.wrong, h.told.up, h.told.calm, h.told.quota, ?_, ?_, fun j g hj => ?_, fun m y hy => ?_, fun g hg => ?_⟩
 ·have := sum_erase (fun f : Fl => f.pages.length) p.d.files i f i2
  have hu := h.told.used
  unfold Dk.used at hu
  show ((p.d.files.eraseIdx i).map fun f : Fl => f.pages.length).sum = _
  rw [← i4]
  omega
 ·exact h.told.nodup.sublist ((List.eraseIdx_sublist _ _).map _)
 ·obtain ⟨j', h1, h2⟩ := hget j g hj
  obtain ⟨y, a, b, c⟩ := h.told.file j' g h2
  have hne : g.name ≠ n := fun q => h1 (hname j' g h2 q)
  refine ⟨y, by rw [setF_other hne]; exact a, b, fun k bb hk hcl => c k bb hk fun f' hf' hn' hp' => hcl f' (List.mem_filter.2 ⟨hf', ?_⟩) hn' hp'⟩
  have : ¬ f'.name.toList = n.toList := fun q => hne (by rw [← hn']; exact ba_eq q)
  simpa using this
 ·have hne : m ≠ n := fun q => by rw [q, setF_same] at hy; cases hy
  rw [setF_other hne] at hy
  obtain ⟨j, g, h1, h2⟩ := h.told.there m y hy
  have hji : j ≠ i := fun q => by subst q; rw [i2] at h1; cases h1; exact hne (h2.symm.trans i3)
  rcases Nat.lt_or_ge j i with q | q
  ·exact ⟨j, g, by show (p.d.files.eraseIdx i)[j]? = _; rw [List.getElem?_eraseIdx, if_pos q]; exact h1, h2⟩
  ·exact ⟨j - 1, g, by show (p.d.files.eraseIdx i)[j - 1]? = _; rw [List.getElem?_eraseIdx, if_neg (by omega), show j - 1 + 1 = j by omega]; exact h1, h2⟩
 ·obtain ⟨g1, g2⟩ := List.mem_filter.1 hg
  obtain ⟨y, a, b, c⟩ := h.told.mine g g1
  have hne : g.name ≠ n := fun q => by rw [q] at g2; simp at g2
  exact ⟨y, by rw [setF_other hne]; exact a, b, c⟩
end
def RoomyM (M : Files) : Prop := ∀ n x, M n = some x → ∀ k, (x.T k).2.length ≤ 504
theorem RoomyM.set [Tab] {M : Files} {n : ByteArray} {x : St} (h : RoomyM M) (hx : ∀ k, (x.T k).2.length ≤ 504) : RoomyM (setF M n (some x)) := fun a y hy => by
 by_cases q : a = n
 ·subst q; rw [setF_same] at hy; cases hy; exact hx
 ·rw [setF_other q] at hy; exact h a y hy
theorem RoomyM.less {M : Files} {n : ByteArray} (h : RoomyM M) : RoomyM (setF M n none) := fun a y hy => by
 by_cases q : a = n
 ·subst q; rw [setF_same] at hy; cases hy
 ·rw [setF_other q] at hy; exact h a y hy
section
variable {p : Pl} {M : Files} {Q U : Nat} {n : ByteArray} {x : St}
theorem CalmM.more0 [Tab] (h : CalmM p M Q U) (hM : M n = some x) (hN : U < Q) (hb0 : x.N < 1048577) (hs : n.size ≤ 9223372036854775807) (h0 : 0 ≤ p.next) (h1 : p.next < 1099511627776) :
  (p.more n 0 []).2 = 0 ∧ CalmM (p.more n 0 []).1 (setF M n (some ⟨x.N + 1, setT x.T x.N (0, [])⟩)) Q (U + 1) ∧ (p.more n 0 []).1.next = p.next + 1 ∧ (p.more n 0 []).1.most = p.most := by
 obtain ⟨r1, r2, r3, r4, _, r6, r7⟩ := h.told.fresh hM h.wf h.roomy hN
 obtain ⟨_, _, hsub, _⟩ := h.told.roomy h.wf h.roomy
 have hfree : ∀ g ∈ p.room.1.fs, g.pins = [] := fun g hg => h.free g (hsub g hg)
 have hnx : (p.fresh n).1.next = p.next + 1 := by rw [r3]; exact w64_up h0 h1
 have hwf : (p.fresh n).1.WF := r7 hb0 hs (by omega)
 generalize p.room.1.fs = l at r2 hfree
 unfold Pl.more
 rw [r1]
 generalize (p.fresh n).1 = s at *
 simp only
 rw [if_neg (by simp), if_pos trivial]
 obtain ⟨hi, hl⟩ := last_free r2 hfree
 have e1 : Pl.leave (s, 0) p.next = s.unpin p.next := if_pos rfl
 rw [e1]
 obtain ⟨b1, b2, b3, b4⟩ := CalmM.give (c := p.next) hwf r6 hi rfl hl (by omega)
 exact ⟨b1, b2, b3.trans hnx, b4.trans r4⟩
structure RunM (M : Files) (w : RW) (n : ByteArray) (W room : Nat) (rs : List (List Int)) (i : Nat) : Prop where
 file : ∃ T, M n = some ⟨1 + i / room, T⟩ ∧ ∀ k, k < 1 + i / room → T k = runT rs room k
 b : w.b = ⟨n, W, 0, false⟩
 rows : w.rows = i
 n : w.n = i % room
 wait : w.wait = rowsB ((rs.drop (i / room * room)).take (i % room))
 last : 0 < i → w.last = rs.getD (i - 1) []
 le : i ≤ rs.length
structure RanM (M : Files) (n : ByteArray) (W room : Nat) (rs : List (List Int)) : Prop where
 file : ∃ T, M n = some ⟨1 + pagesN rs.length room, T⟩ ∧ T 0 = (2, headB W rs.length) ∧ ∀ k, k < pagesN rs.length room → T (k + 1) = (1, rowsB (pageR rs room k))
structure Went [Tab] (p p' : Pl) (M M' : Files) (n : ByteArray) : Prop where
 other : ∀ a, a ≠ n → M' a = M a
 room : RoomyM M'
 next : p.next ≤ p'.next ∧ p'.next ≤ p.next + 2
 most : p'.most = p.most
variable {w : RW} {W : Nat} {rs : List (List Int)} {i : Nat}
theorem RunM.ready [Tab] {room : Nat} (h : RunM M w n W room rs i) : w.b.ready = 0 := by rw [h.b]; rfl
theorem RanM.keep [Tab] {room : Nat} {M' : Files} (h : RanM M n W room rs) (e : M' n = M n) : RanM M' n W room rs := ⟨by rw [e]; exact h.file⟩
theorem make_m [Tab] (h : CalmM p M Q U) (hr : RoomyM M) (hM : M n = none) (hn : named n = true) (hs : n.size ≤ 9223372036854775807) (hl : p.d.files.length < 4096) (hU : U < Q) (h0 : 0 ≤ p.next) (h1 : p.next < 1099511627776) (hW : 0 ≤ W) (hW2 : W ≤ 16) :
  rnMake p n W = (((p.setD (p.d.create n).1).more n 0 []).1, some (rw0 n W), 0) ∧ ∃ M', CalmM (rnMake p n W).1 M' Q (U + 1) ∧ RunM M' (rw0 n W) n W (rmW W) rs 0 ∧ Went p (rnMake p n W).1 M M' n := by
 obtain ⟨r1, r2, r3, r4⟩ := roomL_width hW hW2
 obtain ⟨c1, c2, c3, c4⟩ := h.told.create hM hn hl (fun _ => (0, []))
 have h2 : CalmM (p.setD (p.d.create n).1) (setF M n (some ⟨0, fun _ => (0, [])⟩)) Q U := ⟨c2, h.wf.setD _, h.free⟩
 obtain ⟨a1, a2, a3, a4⟩ := h2.more0 (setF_same _ _ _) hU (by show (0 : Nat) < _; decide) hs h0 h1
 have e : rnMake p n W = (((p.setD (p.d.create n).1).more n 0 []).1, some (rw0 n W), 0) := by
  unfold rnMake
  rw [if_neg (by rw [r1]; omega), if_neg (by rw [c1]; simp), if_neg (by rw [a1]; simp)]
 rw [e]
 refine ⟨rfl, _, a2, ⟨⟨_, by rw [setF_same, Nat.zero_div], fun k hk => ?_⟩, rfl, rfl, by rw [Nat.zero_mod]; rfl, by rw [Nat.zero_mod]; rfl, fun u => absurd u (Nat.lt_irrefl _), Nat.zero_le _⟩, ⟨fun a ha => by rw [setF_other ha, setF_other ha], (hr.set (x := ⟨0, fun _ => (0, [])⟩) fun k => Nat.zero_le _).set fun k => ?_, ⟨?_, ?_⟩, a4⟩⟩
 ·have : k = 0 := by rw [Nat.zero_div] at hk; omega
  subst this
  exact setT_same _ _ _
 ·show (setT (fun _ => (0, [])) 0 (0, []) k).2.length ≤ 504
  unfold setT
  split <;> exact Nat.zero_le _
 ·show p.next ≤ _
  rw [a3]; show p.next ≤ p.next + 1; omega
 ·show _ ≤ p.next + 2
  rw [a3]; show p.next + 1 ≤ _; omega
theorem RunM.add [Tab] (h : RunM M w n W (rmW W) rs i) (hC : CalmM p M Q U) (hR : RoomyM M) (h1 : 0 ≤ W) (h2 : W ≤ 16) (hr : Rise W rs) (hi : i < rs.length) (hs : n.size ≤ 9223372036854775807) (hQ : Q ≤ 1048576) (hU : U < Q) (h0 : 0 ≤ p.next) (hx : p.next < 1099511627776) :
  (w.add p (rs.getD i [])).2.2 = 0 ∧ ∃ M' U', CalmM (w.add p (rs.getD i [])).1 M' Q U' ∧ RunM M' (w.add p (rs.getD i [])).2.1 n W (rmW W) rs (i + 1) ∧ Went p (w.add p (rs.getD i [])).1 M M' n ∧ U' + i / (rmW W) = U + (i + 1) / (rmW W) ∧ U' ≤ U + 1 := by
 obtain ⟨r1, r2, r3, r4⟩ := roomL_width h1 h2
 generalize hroom : rmW W = room at *
 obtain ⟨T, c1, c2⟩ := h.file
 have hmem : rs.getD i [] ∈ rs := by
  rw [List.getD, List.getElem?_eq_getElem hi]; exact List.getElem_mem hi
 have hlen := hr.len _ hmem
 have hup : 0 < i → 0 < cmpL (rs.getD i []) w.last := fun h0 => by
  rw [h.last h0, cmpL_gt]
  have := hr.up (i - 1) (by omega)
  rwa [Nat.sub_add_cancel h0] at this
 have e : w.add p (rs.getD i []) = if i % room + 1 < room then (p, w.push (rs.getD i []), 0) else (w.push (rs.getD i [])).out p := by
  unfold RW.add
  rw [if_neg (by rw [h.ready]; simp), if_neg (by rw [h.b, hlen]; simp), if_neg (by
   rintro ⟨a, b⟩
   rw [h.rows] at a
   have := hup a
   omega), h.b, h.n]
  simp only [r1]
  by_cases hc : i % room + 1 < room
  ·rw [if_pos hc, if_pos (by omega)]
  ·rw [if_neg hc, if_neg (by omega)]
 have hwait : (w.push (rs.getD i [])).wait = rowsB ((rs.drop (i / room * room)).take (i % room + 1)) := by
  have hd := Nat.div_add_mod i room
  have hmc : room * (i / room) = i / room * room := Nat.mul_comm _ _
  show w.wait ++ rowB (rs.getD i []) = _
  rw [h.wait]
  have hx : (rs.drop (i / room * room))[i % room]? = some (rs.getD i []) := by
   rw [List.getElem?_drop]
   have : i / room * room + i % room = i := by omega
   rw [this, List.getD, List.getElem?_eq_getElem hi]; rfl
  have ht : (rs.drop (i / room * room)).take (i % room + 1) = (rs.drop (i / room * room)).take (i % room) ++ [rs.getD i []] := by
   rw [List.take_add_one, hx]; rfl
  rw [ht]
  unfold rowsB
  rw [List.flatMap_append]; simp
 have hbase : (w.push (rs.getD i [])).b = ⟨n, W, 0, false⟩ := h.b
 rcases mod_step (i := i) (room := room) (by omega) with ⟨m1, m2, m3⟩ | ⟨m1, m2, m3⟩
 ·rw [e, if_pos m1]
  refine ⟨rfl, M, U, hC, ⟨⟨T, by rw [m2]; exact ⟨c1, c2⟩⟩, hbase, ?_, ?_, ?_, fun _ => rfl, by omega⟩, ⟨fun _ _ => rfl, hR, ⟨Int.le_refl _, by show p.next ≤ p.next + 2; omega⟩, rfl⟩, by omega, by omega⟩
  ·show w.rows + 1 = _; rw [h.rows]
  ·show w.n + 1 = _; rw [h.n, m3]
  ·rw [hwait, m2, m3]
 ·rw [e, if_neg (by omega)]
  have hpg : rowsB ((rs.drop (i / room * room)).take (i % room + 1)) = rowsB (pageR rs room (i / room)) := by rw [m1]; rfl
  have hbl : (rowsB (pageR rs room (i / room))).length ≤ 504 := by
   rw [rowsB_length h1 (L := pageR rs room (i / room)) (fun l hl => hr.len l (List.mem_of_mem_drop (List.mem_of_mem_take (show l ∈ (rs.drop _).take _ from hl))))]
   have : (pageR rs room (i / room)).length ≤ room := List.length_take_le _ _
   calc _ ≤ room * szW W := Nat.mul_le_mul_right _ this
    _ ≤ 504 := r3
  have eo : (w.push (rs.getD i [])).out p = ((p.more n 1 (rowsB (pageR rs room (i / room)))).1, { w.push (rs.getD i []) with b := (w.push (rs.getD i [])).b.broke (p.more n 1 (rowsB (pageR rs room (i / room)))).2, wait := [], n := 0 }, (p.more n 1 (rowsB (pageR rs room (i / room)))).2) := by
   unfold RW.out
   rw [if_neg (by show w.n + 1 ≠ 0; omega), hbase, hwait, hpg]
  rw [eo]
  have hN := hC.told.N_le c1
  obtain ⟨a1, a0, a2, a3, a4⟩ := hC.more c1 (k := 1) (b := rowsB (pageR rs room (i / room))) hU (by show 1 + i / room < _; have : 1 + i / room ≤ U := hN; omega) hs h0 hx hbl (by decide)
  refine ⟨a1, _, U + 1, a2, ⟨⟨_, by rw [setF_same, m2]; rfl, fun k hk => ?_⟩, ?_, ?_, m3.symm, ?_, fun _ => rfl, by omega⟩, ⟨fun a ha => setF_other ha, hR.set fun k => setT_room (hR n _ c1) hbl k, ⟨by rw [a3]; omega, by rw [a3]; omega⟩, a4⟩, by omega, Nat.le_refl _⟩
  ·show setT T (1 + i / room) _ k = _
   by_cases ek : k = 1 + i / room
   ·subst ek
    rw [setT_same, Nat.add_comm 1]; rfl
   ·rw [setT_other ek]; exact c2 k (by omega)
  ·show (w.push (rs.getD i [])).b.broke _ = _
   rw [a1, hbase]; rfl
  ·show w.rows + 1 = _; rw [h.rows]
  ·show [] = _; rw [m3]; simp [rowsB]
theorem over_eq [Tab] (w : RW) (p : Pl) (h1 : (p.pin w.b.name 0).2.2 = 0) : (p.over w.b.name 0 2 (headB w.b.width w.rows)) = Pl.leave ((p.pin w.b.name 0).1.set (p.pin w.b.name 0).2.1 2 (headB w.b.width w.rows)) (p.pin w.b.name 0).2.1 := by
 unfold Pl.over
 rw [if_neg (by rw [h1]; simp)]
theorem RunM.close [Tab] (h : RunM M w n W (rmW W) rs rs.length) (hC : CalmM p M Q U) (hR : RoomyM M) (h1 : 0 ≤ W) (h2 : W ≤ 16) (hr : Rise W rs) (hs : n.size ≤ 9223372036854775807) (hQ : Q ≤ 1048576) (hU : U < Q) (h0 : 0 ≤ p.next) (hx : p.next < 1099511627770) :
  (w.close p).2.2 = (rs.length, 0) ∧ ∃ M' U', CalmM (w.close p).1 M' Q U' ∧ RanM M' n W (rmW W) rs ∧ Went p (w.close p).1 M M' n ∧ U' + rs.length / (rmW W) = U + pagesN rs.length (rmW W) ∧ U' ≤ U + 1 ∧ ∃ p1, (w.close p).1 = (p1.flush n).1 ∧ p1.fs.length ≤ 4096 ∧ p1 = ((w.out p).1.over n 0 2 (headB W rs.length)).1 := by
 obtain ⟨r1, r2, r3, r4⟩ := roomL_width h1 h2
 have pb := pageR_bytes h1 hr r3
 generalize hroom : rmW W = room at *
 obtain ⟨T, c1, c2⟩ := h.file
 obtain ⟨d1, d2⟩ := pagesN_div (n := rs.length) (room := room) (by omega)
 have hm := Nat.mod_lt rs.length (show 0 < room by omega)
 have hdm := Nat.div_add_mod rs.length room
 have out : (w.out p).2.2 = 0 ∧ (w.out p).2.1.b = ⟨n, W, 0, false⟩ ∧ (w.out p).2.1.rows = rs.length ∧ p.next ≤ (w.out p).1.next ∧ (w.out p).1.next ≤ p.next + 1 ∧ (w.out p).1.most = p.most ∧
   ∃ M' U' T', CalmM (w.out p).1 M' Q U' ∧ M' n = some ⟨1 + pagesN rs.length room, T'⟩ ∧ (∀ k, k < 1 + pagesN rs.length room → T' k = runT rs room k) ∧ (∀ a, a ≠ n → M' a = M a) ∧ RoomyM M' ∧ U' + rs.length / room = U + pagesN rs.length room ∧ U' ≤ U + 1 := by
  unfold RW.out
  by_cases hz : w.n = 0
  ·rw [if_pos hz]
   rw [h.n] at hz
   rw [d1 hz]
   exact ⟨rfl, h.b, h.rows, Int.le_refl _, by show p.next ≤ p.next + 1; omega, rfl, M, U, T, hC, c1, c2, fun _ _ => rfl, hR, rfl, by omega⟩
  ·rw [if_neg hz]
   rw [h.n] at hz
   rw [d2 hz]
   have hw : w.wait = rowsB (pageR rs room (rs.length / room)) := by
    rw [h.wait]
    unfold pageR
    congr 1
    have hmc : room * (rs.length / room) = rs.length / room * room := Nat.mul_comm _ _
    rw [List.take_of_length_le (i := room) (by rw [List.length_drop]; omega), List.take_of_length_le (by rw [List.length_drop]; omega)]
   rw [hw, h.b]
   simp only
   have hN := hC.told.N_le c1
   obtain ⟨a1, a0, a2, a3, a4⟩ := hC.more c1 (k := 1) (b := rowsB (pageR rs room (rs.length / room))) hU (by show 1 + rs.length / room < _; have : 1 + rs.length / room ≤ U := hN; omega) hs h0 (by omega) (pb _) (by decide)
   refine ⟨a1, ?_, h.rows, by rw [a3]; omega, by rw [a3]; omega, a4, _, U + 1, _, a2, setF_same _ _ _, fun k hk => ?_, fun a ha => setF_other ha, hR.set fun k => setT_room (hR n _ c1) (pb _) k, by omega, Nat.le_refl _⟩
   ·rw [a1]; rfl
   ·show setT T (1 + rs.length / room) _ k = _
    by_cases ek : k = 1 + rs.length / room
    ·subst ek
     rw [setT_same, Nat.add_comm 1]; rfl
    ·rw [setT_other ek]; exact c2 k (by omega)
 have hrdy : ¬ w.b.ready ≠ 0 := by rw [h.ready]; simp
 obtain ⟨o1, o2, o3, o4, o5, om, M', U', T', o6, o7, o8, o9, oR, oU, oU2⟩ := out
 have e : w.close p = (w.out p).2.1.ends (w.out p).1 := by
  unfold RW.close
  rw [if_neg hrdy, if_neg (by rw [o1]; simp)]
 rw [e]
 have hhb : (headB W rs.length).length ≤ 504 := by simp [headB, putL, wordL]
 have hN := o6.told.N_le o7
 have hUQ : U' ≤ 1048576 := by
  have := o6.told.used
  omega
 obtain ⟨t1, t2, t3, t4⟩ := o6.over o7 (by show 1 + pagesN rs.length room ≤ _; have : 1 + pagesN rs.length room ≤ U' := hN; omega) hs (by omega) (by omega) (k := 0) (by show 0 < 1 + pagesN rs.length room; omega) (kd := 2) (b := headB W rs.length) hhb
 obtain ⟨q1, q2, _⟩ := o6.pin o7 (by show 1 + pagesN rs.length room ≤ _; have : 1 + pagesN rs.length room ≤ U' := hN; omega) hs (by omega) (by omega) (k := 0) (by show 0 < 1 + pagesN rs.length room; omega)
 obtain ⟨f1, f2, f3⟩ := t2.flush (setF_same _ _ _)
 have eo : (w.out p).1.over n 0 2 (headB W rs.length) = Pl.leave (((w.out p).1.pin n 0).1.set ((w.out p).1.pin n 0).2.1 2 (headB W rs.length)) ((w.out p).1.pin n 0).2.1 := by
  have := over_eq (w.out p).2.1 (w.out p).1 (by rw [o2]; show ((w.out p).1.pin n 0).2.2 = 0; have q1' : ((w.out p).1.pin n 0).2 = ((w.out p).1.next, 0) := q1; rw [q1'])
  rw [o2, o3] at this
  exact this
 have eh : (w.out p).2.1.head (w.out p).1 = ((w.out p).1.over n 0 2 (headB W rs.length)).1.flush n := by
  unfold RW.head
  rw [o2, o3]
  simp only
  have q1' : ((w.out p).1.pin n 0).2 = ((w.out p).1.next, 0) := q1
  rw [if_neg (by rw [q1']; simp), if_neg (by rw [← eo]; have : ((w.out p).1.over n 0 2 (headB W rs.length)).2 = 0 := t1; rw [this]; simp), ← eo]
 have ee : (w.out p).2.1.ends (w.out p).1 = (((w.out p).2.1.head (w.out p).1).1, (w.out p).2.1.stop, (w.out p).2.1.rows, 0) := by
  unfold RW.ends
  rw [if_neg (by rw [eh]; have : (((w.out p).1.over n 0 2 (headB W rs.length)).1.flush n).2 = 0 := f1; rw [this]; simp)]
 rw [ee, eh, o3]
 have hT : ∀ k, k < 1 + pagesN rs.length room → setT T' 0 (2, headB W rs.length) k = if k = 0 then (2, headB W rs.length) else (1, rowsB (pageR rs room (k - 1))) := by
  intro k hk
  by_cases q0 : k = 0
  ·subst q0; rw [setT_same, if_pos rfl]
  ·rw [setT_other q0, o8 k hk, if_neg q0]
   obtain ⟨m, rfl⟩ : ∃ m, k = m + 1 := ⟨k - 1, by omega⟩
   rfl
 have fn : (((w.out p).1.over n 0 2 (headB W rs.length)).1.flush n).1.next = (w.out p).1.next + 1 := (Pl.flush_next _ n).trans t3
 refine ⟨rfl, _, U', f2, ⟨_, setF_same _ _ _, ?_, fun k hk => ?_⟩, ⟨fun a ha => (setF_other ha).trans (o9 a ha), oR.set fun k => setT_room (oR n _ o7) hhb k, ⟨by rw [fn]; omega, by rw [fn]; omega⟩, f3.trans (t4.trans om)⟩, oU, oU2, _, rfl, Nat.le_trans t2.wf.len t2.wf.most.2, rfl⟩
 ·show setT T' 0 _ 0 = _
  rw [hT 0 (by omega), if_pos rfl]
 ·show setT T' 0 _ (k + 1) = _
  rw [hT (k + 1) (by omega), if_neg (by omega)]; rfl
end
section
variable {p : Pl} {M : Files} {Q U : Nat} {n : ByteArray} {r : RR} {W : Nat} {rs : List (List Int)}
theorem RdOn.fine [Tab] (h : RdOn r n W (rmW W) rs) (h1 : 0 ≤ W) (h2 : W ≤ 16) (hbig : rs.length ≤ 1000000) : r.Ok := by
 have hrm := h.room h1 h2
 have r2 := (roomL_width h1 h2).2.1
 refine ⟨by rw [hrm]; omega, by rw [h.rows]; exact h.at_, fun j hj => ?_, by rw [h.rows]; omega, h.cols⟩
 obtain ⟨_, j2⟩ := h.page j hj
 rw [j2, hrm, h.rows, pageR_len]
theorem RanM.opened [Tab] (h : RanM M n W (rmW W) rs) (hC : CalmM p M Q U) (h1 : 0 ≤ W) (h2 : W ≤ 16) (hs : n.size ≤ 9223372036854775807) (hQ : Q ≤ 1048576) (hU : U ≤ Q) (hbig : rs.length ≤ 1000000) (h0 : 0 ≤ p.next) (hnx : p.next < 1099511627776) :
  (rnOpen p n W).2 = (some (rr0 n W rs.length), 0) ∧ CalmM (rnOpen p n W).1 M Q U ∧ RdOn (rr0 n W rs.length) n W (rmW W) rs ∧ (rnOpen p n W).1.next = p.next + 1 ∧ (rnOpen p n W).1.most = p.most ∧ ((p.look n 0).1.d.len n).1 < 4611686018427387904 ∧ (rr0 n W rs.length).Ok := by
 obtain ⟨r1, r2, r3, r4⟩ := roomL_width h1 h2
 generalize rmW W = room at *
 obtain ⟨T, c1, c2, c3⟩ := h.file
 have hNU : 1 + pagesN rs.length room ≤ U := hC.told.N_le c1
 obtain ⟨l1, l2, l3, l4⟩ := hC.look c1 (k := 0) (by show 1 + pagesN rs.length room ≤ _; omega) hs h0 hnx (by show 0 < 1 + pagesN rs.length room; omega)
 have c2' : (St.T ⟨1 + pagesN rs.length room, T⟩ 0) = (2, headB W rs.length) := c2
 rw [c2'] at l1
 have e0 : ((0 : Nat) : Int) = 0 := rfl
 rw [e0] at l1 l2 l3 l4
 have hl : (p.look n 0).1.d.len n = (1 + pagesN rs.length room, 0) := l2.told.len c1
 have hN := pagesN_le (n := rs.length) (show 0 < room by omega)
 have hw : wordOf (u8i ((headB W rs.length).drop 1)) = (rs.length : Int) := word_back (by omega)
 have hW : ((headB W rs.length).getD 0 0).toNat = W := by
  show (UInt8.ofNat (W : Int).toNat).toNat = W
  rw [Int.toNat_natCast, UInt8.toNat_ofNat']; omega
 have h9 : (headB W rs.length).length = 9 := by simp [headB, putL, wordL]
 have e : rnOpen p n W = ((p.look n 0).1, some (rr0 n W rs.length), 0) := by
  unfold rnOpen
  rw [if_neg (by rw [r1]; omega), l1, if_neg (by simp)]
  simp only
  rw [if_neg (fun q => q ⟨by first | trivial | rfl, h9, by rw [hW]⟩), hl]
  simp only
  rw [if_neg (by simp), hw, if_pos ⟨by omega, by rw [r1, Int.toNat_natCast, Int.toNat_natCast]⟩]
  rfl
 rw [e]
 exact ⟨rfl, l2, ⟨rfl, rfl, Nat.zero_le _, fun j hj => (by cases hj), fun l hl => (by cases hl)⟩, l3, l4, by rw [hl]; show 1 + pagesN rs.length room < _; omega, (rnOpen_ok (s := p) (n := n) (W := W) (by rw [e])).1⟩
theorem RanM.load [Tab] (h : RanM M n W (rmW W) rs) (hC : CalmM p M Q U) (hd : RdOn r n W (rmW W) rs) (h1 : 0 ≤ W) (h2 : W ≤ 16) (hr : Rise W rs) (hs : n.size ≤ 9223372036854775807) (hQ : Q ≤ 1048576) (hU : U ≤ Q)
  (h0 : 0 ≤ p.next) (hnx : p.next < 1099511627776) {j : Nat} (hj : j < pagesN rs.length (rmW W)) :
  (r.load p j).2.2 = 0 ∧ CalmM (r.load p j).1 M Q U ∧ RdOn (r.load p j).2.1 n W (rmW W) rs ∧ (r.load p j).2.1.ins = pageR rs (rmW W) j ∧ (r.load p j).2.1.at_ = r.at_ ∧ p.next ≤ (r.load p j).1.next ∧ (r.load p j).1.next ≤ p.next + 1 ∧ (r.load p j).1.most = p.most := by
 have hrm := hd.room h1 h2
 obtain ⟨r1, r2, r3, r4⟩ := roomL_width h1 h2
 generalize rmW W = room at *
 unfold RR.load
 by_cases hp : r.page = some j
 ·rw [if_pos hp]
  exact ⟨rfl, hC, hd, (hd.page j hp).2, rfl, Int.le_refl _, by show p.next ≤ p.next + 1; omega, rfl⟩
 rw [if_neg hp]
 obtain ⟨T, c1, c2, c3⟩ := h.file
 have hNU : 1 + pagesN rs.length room ≤ U := hC.told.N_le c1
 obtain ⟨l1, l2, l3, l4⟩ := hC.look c1 (k := j + 1) (by show 1 + pagesN rs.length room ≤ _; omega) hs h0 hnx (by show j + 1 < 1 + pagesN rs.length room; omega)
 have e1 : ((j + 1 : Nat) : Int) = (j : Int) + 1 := by omega
 have c3' : (St.T ⟨1 + pagesN rs.length room, T⟩ (j + 1)) = (1, rowsB (pageR rs room j)) := c3 j hj
 rw [e1, c3'] at l1
 rw [e1] at l2 l3 l4
 rw [hd.b]
 simp only
 rw [l1]
 simp only
 have hsub : ∀ l ∈ pageR rs room j, l ∈ rs := fun l hl => List.mem_of_mem_drop (List.mem_of_mem_take (show l ∈ (rs.drop _).take _ from hl))
 obtain ⟨g1, g2⟩ := read_again h2 (fun l hl => hr.len l (hsub l hl)) (fun l hl => hr.fit l (hsub l hl))
 rw [← u8i_rowsB] at g1 g2
 have hok : getOK (u8i (rowsB (pageR rs room j))) W = true := by
  unfold getE at g2
  cases e : getOK (u8i (rowsB (pageR rs room j))) W with
  | true => rfl
  | false => rw [e] at g2; simp at g2
 have hfit : r.fits j 1 (rowsB (pageR rs room j)) = true := by
  unfold RR.fits
  rw [hd.b, hd.rows]
  simp only
  rw [hok, g1, pageR_len]
  have : Rb.room ⟨n, W, 0, false⟩ = room := by rw [← hd.b]; exact hrm
  rw [this]; simp
 rw [if_neg (by simp), if_pos hfit]
 refine ⟨rfl, l2, ⟨rfl, hd.rows, hd.at_, fun i hi => ?_, getL_cols⟩, g1, rfl, ?_, ?_, l4⟩
 ·simp only at hi; cases hi
  exact ⟨hj, g1⟩
 ·rw [l3]; omega
 ·rw [l3]; exact Int.le_refl _
theorem RanM.next [Tab] (h : RanM M n W (rmW W) rs) (hC : CalmM p M Q U) (hd : RdOn r n W (rmW W) rs) (h1 : 0 ≤ W) (h2 : W ≤ 16) (hr : Rise W rs) (hs : n.size ≤ 9223372036854775807) (hQ : Q ≤ 1048576) (hU : U ≤ Q)
  (h0 : 0 ≤ p.next) (hnx : p.next < 1099511627776) :
  (r.at_ < rs.length → (r.next p).2.2 = (rs.getD r.at_ [], true, 0) ∧ CalmM (r.next p).1 M Q U ∧ RdOn (r.next p).2.1 n W (rmW W) rs ∧ (r.next p).2.1.at_ = r.at_ + 1 ∧ p.next ≤ (r.next p).1.next ∧ (r.next p).1.next ≤ p.next + 1 ∧ (r.next p).1.most = p.most) ∧
  (r.at_ = rs.length → r.next p = (p, r, [], false, 0)) := by
 have hrdy : ¬ r.b.ready ≠ 0 := by rw [hd.b]; simp [Rb.ready]
 have hrm := hd.room h1 h2
 refine ⟨fun ha => ?_, fun ha => ?_⟩
 ·have hr3 := (roomL_width h1 h2).2.1
  have hpj : r.at_ / (rmW W) < pagesN rs.length (rmW W) := by
   unfold pagesN
   rw [Nat.lt_iff_add_one_le, Nat.le_div_iff_mul_le (by omega), Nat.add_mul]
   have := Nat.div_mul_le_self r.at_ (rmW W)
   omega
  obtain ⟨l1, l2, l3, l4, l5, l6, l7, l8⟩ := h.load hC hd h1 h2 hr hs hQ hU h0 hnx hpj
  unfold RR.next
  rw [if_neg hrdy, if_neg (by rw [hd.rows]; omega), hrm, if_neg (by rw [l1]; simp)]
  simp only
  have hm := Nat.mod_lt r.at_ (show 0 < rmW W by omega)
  have hdm := Nat.div_add_mod r.at_ (rmW W)
  have hmc : (rmW W) * (r.at_ / (rmW W)) = r.at_ / (rmW W) * (rmW W) := Nat.mul_comm _ _
  have hat : r.at_ / (rmW W) * (rmW W) + r.at_ % (rmW W) = r.at_ := by omega
  have eg : (r.load p (r.at_ / (rmW W))).2.1.ins.getD (r.at_ % (rmW W)) [] = rs.getD r.at_ [] := by rw [l4, pageR_get hm, hat]
  rw [eg]
  exact ⟨by first | trivial | rfl, l2, ⟨l3.b, l3.rows, by show r.at_ + 1 ≤ _; omega, l3.page, l3.cols⟩, by first | trivial | rfl, l6, l7, l8⟩
 ·unfold RR.next
  rw [if_neg hrdy, if_pos (by rw [hd.rows]; exact ha)]
end
theorem bestL_none : ∀ {hs : List (Option (List Int))}, bestL hs = none → ∀ (j : Nat) (y : List Int), hs[j]? ≠ some (some y)
 | [], _, j, y => by simp
 | none :: t, h, j, y => by
   simp only [bestL, Option.map_eq_none_iff] at h
   cases j with
   | zero => simp
   | succ j => simpa using bestL_none h j y
 | some a :: t, h, j, y => by
   simp only [bestL] at h
   cases e : bestL t with
   | none => rw [e] at h; cases h
   | some q =>
     obtain ⟨k, z⟩ := q
     rw [e] at h
     simp only at h
     split at h <;> cases h
theorem bestL_some : ∀ {hs : List (Option (List Int))} {i : Nat} {x : List Int}, bestL hs = some (i, x) → hs[i]? = some (some x) ∧ ∀ (j : Nat) (y : List Int), hs[j]? = some (some y) → cmpL x y ≤ 0 ∧ (j < i → cmpL x y < 0)
 | [], i, x, h => by simp [bestL] at h
 | none :: t, i, x, h => by
   simp only [bestL, Option.map_eq_some_iff] at h
   obtain ⟨⟨k, z⟩, h1, h2⟩ := h
   cases h2
   obtain ⟨a, b⟩ := bestL_some h1
   refine ⟨by simpa using a, fun j y hj => ?_⟩
   cases j with
   | zero => simp at hj
   | succ j =>
     obtain ⟨c, d⟩ := b j y (by simpa using hj)
     exact ⟨c, fun q => d (by simpa using q)⟩
 | some a :: t, i, x, h => by
   simp only [bestL] at h
   cases e : bestL t with
   | none =>
     rw [e] at h
     cases h
     refine ⟨rfl, fun j y hj => ?_⟩
     cases j with
     | zero => simp at hj; subst hj; exact ⟨Int.le_of_eq (cmpL_self _), fun q => absurd q (Nat.lt_irrefl _)⟩
     | succ j => exact absurd (by simpa using hj) (bestL_none e j y)
   | some q =>
     obtain ⟨k, z⟩ := q
     rw [e] at h
     obtain ⟨u, v⟩ := bestL_some e
     simp only at h
     split at h
     ·rename_i hlt
      cases h
      refine ⟨by simpa using u, fun j y hj => ?_⟩
      cases j with
      | zero => simp at hj; subst hj; exact ⟨Int.le_of_lt hlt, fun _ => hlt⟩
      | succ j =>
        obtain ⟨c, d⟩ := v j y (by simpa using hj)
        exact ⟨c, fun q => d (by omega)⟩
     ·rename_i hge
      cases h
      have hax : cmpL a z ≤ 0 := by have := cmpL_swap a z; omega
      refine ⟨rfl, fun j y hj => ⟨?_, fun q => absurd q (Nat.not_lt_zero _)⟩⟩
      cases j with
      | zero => simp at hj; subst hj; exact Int.le_of_eq (cmpL_self _)
      | succ j => exact cmpL_le_trans hax (v j y (by simpa using hj)).1
structure MgX where
 n : ByteArray
 L : List (List Int)
 rem : List (List Int)
 r : RR
 h : Option (List Int)
structure MgX.Good [Tab] (x : MgX) (M : Files) (W : Nat) : Prop where
 run : RanM M x.n W (rmW W) x.L
 rise : Rise W x.L
 on : RdOn x.r x.n W (rmW W) x.L
 head : x.h = x.rem.head?
 rem : x.rem.tail = x.L.drop x.r.at_
 pos : x.h.isSome = true → 1 ≤ x.r.at_ ∧ x.rem = x.L.drop (x.r.at_ - 1)
 size : x.n.size ≤ 9223372036854775807
 big : x.L.length ≤ 1000000
def remsL (xs : List MgX) : List (List Int) := xs.flatMap (·.rem)
section
variable {M : Files} {W : Nat} {x : MgX} {xs : List MgX}
theorem MgX.Good.up [Tab] (h : x.Good M W) : x.rem.Pairwise (fun a b => cmpL a b < 0) := by
 have hL : x.L.Pairwise (fun a b => cmpL a b < 0) := by
  refine List.pairwise_iff_getElem.2 fun i j hi hj hij => ?_
  have := h.rise.mono hij hj
  rwa [List.getD, List.getElem?_eq_getElem hi, List.getD, List.getElem?_eq_getElem hj] at this
 cases e : x.h with
 | none =>
   have := h.head
   rw [e] at this
   rw [List.head?_eq_none_iff.1 this.symm]
   exact List.Pairwise.nil
 | some z =>
   obtain ⟨_, b⟩ := h.pos (by rw [e]; rfl)
   rw [b]
   exact hL.sublist (List.drop_sublist _ _)
theorem MgX.Good.count [Tab] (h : x.Good M W) : x.r.rows - x.r.at_ + (if x.h.isSome then 1 else 0) = x.rem.length := by
 have h1 := h.on.rows
 have h2 := h.on.at_
 have h3 := congrArg List.length h.rem
 rw [List.length_tail, List.length_drop] at h3
 cases e : x.h with
 | none =>
   have := h.head
   rw [e] at this
   have h4 := List.head?_eq_none_iff.1 this.symm
   rw [h4] at h3 ⊢
   simp at h3 ⊢
   omega
 | some z =>
   have h4 : x.rem ≠ [] := fun q => by
    have := h.head
    rw [e, q] at this; cases this
   have := List.length_pos_iff.2 h4
   simp
   omega
theorem MgX.Good.keep [Tab] {M' : Files} (h : x.Good M W) (e : M' x.n = M x.n) : x.Good M' W := ⟨h.run.keep e, h.rise, h.on, h.head, h.rem, h.pos, h.size, h.big⟩
theorem rems_count [Tab] : ∀ {xs : List MgX}, (∀ x ∈ xs, x.Good M W) → restL (xs.map (·.r)) + waitN (xs.map (·.h)) = (remsL xs).length
 | [], _ => rfl
 | x :: xs, h => by
   have a := (h x List.mem_cons_self).count
   have b := rems_count (xs := xs) fun y hy => h y (List.mem_cons_of_mem _ hy)
   simp only [restL, waitN, remsL, List.map_cons, List.sum_cons, List.flatMap_cons, List.length_append] at b ⊢
   omega
theorem rems_set [Tab] : ∀ {xs : List MgX} {j : Nat} {x x' : MgX} {y : List Int}, xs[j]? = some x → x.rem = y :: x'.rem → (remsL xs).Perm (y :: remsL (xs.set j x'))
 | [], j, x, x', y, h, _ => by simp at h
 | a :: xs, 0, x, x', y, h, e => by
   simp at h; subst h
   simp only [remsL, List.set_cons_zero, List.flatMap_cons]
   rw [e]; exact .refl _
 | a :: xs, j + 1, x, x', y, h, e => by
   have := rems_set (xs := xs) (j := j) (by simpa using h) e
   simp only [remsL, List.set_cons_succ, List.flatMap_cons] at this ⊢
   exact (this.append_left _).trans List.perm_middle
theorem rems_none [Tab] (h : ∀ x ∈ xs, x.Good M W) (e : bestL (xs.map (·.h)) = none) : remsL xs = [] := by
 unfold remsL
 rw [List.flatMap_eq_nil_iff]
 intro x hx
 obtain ⟨j, hj⟩ := List.mem_iff_getElem?.1 hx
 have hh := (h x hx).head
 cases q : x.h with
 | none => rw [q] at hh; exact List.head?_eq_none_iff.1 hh.symm
 | some y => exact absurd (by rw [List.getElem?_map, hj]; simp [q]) (bestL_none e j y)
theorem rems_best [Tab] {j : Nat} {y : List Int} (h : ∀ x ∈ xs, x.Good M W) (e : bestL (xs.map (·.h)) = some (j, y)) : ∃ x s, xs[j]? = some x ∧ x.h = some y ∧ x.rem = y :: x.rem.tail ∧ srtL (remsL xs) = y :: s ∧ ∀ x', x'.rem = x.rem.tail → srtL (remsL (xs.set j x')) = s := by
 obtain ⟨a, b⟩ := bestL_some e
 rw [List.getElem?_map, Option.map_eq_some_iff] at a
 obtain ⟨x, h1, h2⟩ := a
 have hx := h x (List.mem_of_getElem? h1)
 have hr : x.rem = y :: x.rem.tail := by
  have := hx.head
  rw [h2] at this
  cases q : x.rem with
  | nil => rw [q] at this; cases this
  | cons z t => rw [q] at this; cases this; rfl
 suffices key : ∀ x', x'.rem = x.rem.tail → srtL (remsL xs) = y :: srtL (remsL (xs.set j x')) by
  have k0 := key ⟨x.n, x.L, x.rem.tail, x.r, x.h⟩ rfl
  exact ⟨x, _, h1, h2, hr, k0, fun x' e' => (List.cons.inj ((key x' e').symm.trans k0)).2⟩
 intro x' e'
 have hp := rems_set (x' := x') h1 (by rw [e']; exact hr)
 have least : ∀ z ∈ remsL xs, cmpL y z ≤ 0 := fun z hz => by
  obtain ⟨u, hu, hz⟩ := List.mem_flatMap.1 hz
  obtain ⟨k, hk⟩ := List.mem_iff_getElem?.1 hu
  have gu := h u hu
  cases q : u.rem with
  | nil => rw [q] at hz; cases hz
  | cons v t =>
    have hv : u.h = some v := by rw [gu.head, q]; rfl
    have h3 := (b k v (by rw [List.getElem?_map, hk]; simp [hv])).1
    rw [q] at hz
    rcases List.mem_cons.1 hz with rfl | hz
    ·exact h3
    ·have := gu.up
     rw [q] at this
     exact cmpL_le_trans h3 (Int.le_of_lt ((List.pairwise_cons.1 this).1 z hz))
 refine sorted_one ((srtL_perm _).trans (hp.trans ((srtL_perm _).symm.cons _))) (srtL_up _) (List.pairwise_cons.2 ⟨fun z hz => ?_, srtL_up _⟩)
 exact least z (hp.mem_iff.2 (List.mem_cons_of_mem _ ((srtL_perm _).mem_iff.1 hz)))
def todoL (i : Nat) (last : List Int) (s : List (List Int)) : List (List Int) := if i = 0 then onceL s else dd last s
theorem todoL_nil (i : Nat) (last : List Int) : todoL i last [] = [] := by unfold todoL; split <;> rfl
theorem todoL_cons (i : Nat) (last y : List Int) (s : List (List Int)) : todoL i last (y :: s) = if i = 0 ∨ cmpL y last ≠ 0 then y :: dd y s else dd last s := by
 unfold todoL
 by_cases h : i = 0
 ·rw [if_pos h, if_pos (.inl h)]; rfl
 ·rw [if_neg h]
  simp only [dd]
  by_cases q : y = last
  ·rw [if_pos q, if_neg (by rintro (u | u); exact h u; exact u (cmpL_zero.2 q)), q]
  ·rw [if_neg q, if_pos (.inr fun u => q (cmpL_zero.1 u))]
variable {p : Pl} {Q U : Nat}
theorem next_good [Tab] {n : ByteArray} {L : List (List Int)} {r : RR} (hrun : RanM M n W (rmW W) L) (hr : Rise W L) (hon : RdOn r n W (rmW W) L) (hs : n.size ≤ 9223372036854775807) (hb : L.length ≤ 1000000) (hC : CalmM p M Q U) (h2 : W ≤ 16) (hQ : Q ≤ 1048576) (hU : U ≤ Q) (h0 : 0 ≤ p.next) (hnx : p.next < 1099511627776) :
  (r.next p).2.2.2.2 = 0 ∧ CalmM (r.next p).1 M Q U ∧ p.next ≤ (r.next p).1.next ∧ (r.next p).1.next ≤ p.next + 1 ∧ (r.next p).1.most = p.most ∧
   (⟨n, L, L.drop r.at_, (r.next p).2.1, toldO (r.next p).2.2.1 (r.next p).2.2.2.1⟩ : MgX).Good M W := by
 obtain ⟨n1, n2⟩ := hrun.next hC hon (Nat.zero_le _) h2 hr hs hQ hU h0 hnx
 have hat := hon.at_
 rcases Nat.lt_or_ge r.at_ L.length with hc | hc
 ·obtain ⟨a1, a2, a3, a4, a5, a6, a7⟩ := n1 hc
  refine ⟨by rw [a1], a2, a5, a6, a7, hrun, hr, a3, ?_, ?_, fun _ => ?_, hs, hb⟩
  ·show toldO _ _ = (L.drop r.at_).head?
   rw [a1]
   show some _ = _
   rw [List.head?_drop, List.getD, List.getElem?_eq_getElem hc]; rfl
  ·show (L.drop r.at_).tail = L.drop (r.next p).2.1.at_
   rw [a4, List.tail_drop]
  ·show 1 ≤ (r.next p).2.1.at_ ∧ _ = L.drop ((r.next p).2.1.at_ - 1)
   rw [a4]
   exact ⟨by omega, rfl⟩
 ·have e := n2 (by omega)
  have hd : L.drop r.at_ = [] := List.drop_of_length_le hc
  rw [e]
  refine ⟨rfl, hC, Int.le_refl _, by show p.next ≤ p.next + 1; omega, rfl, hrun, hr, hon, ?_, ?_, fun q => (by cases q), hs, hb⟩
  ·show none = (L.drop r.at_).head?
   rw [hd]; rfl
  ·show (L.drop r.at_).tail = L.drop r.at_
   rw [hd]; rfl
end
open Go.MapKept
section
variable {L L' : List Hx} {hs : List (Option (List Int))}
theorem HeadsOf.nil (k : Nat) : HeadsOf [] (List.replicate k none) := ⟨List.Pairwise.nil, fun i y => ⟨fun h => by
 rw [List.getElem?_replicate] at h
 split at h <;> simp at h, fun ⟨x, h, _⟩ => by cases h⟩⟩
theorem HeadsOf.empty (h : HeadsOf [] hs) : bestL hs = none := by
 cases e : bestL hs with
 | none => rfl
 | some q =>
   obtain ⟨i, y⟩ := q
   obtain ⟨x, hx, _⟩ := (h.mem i y).1 (bestL_some e).1
   cases hx
theorem HeadsOf.one [Tab] (h : HeadsOf L hs) {x y : Hx} (hx : x ∈ L) (hy : y ∈ L) (e : x.no = y.no) : x = y := nodup_same (f := Hx.no) h.nodup hx hy e
theorem HeadsOf.top [Tab] (h : HeadsOf L hs) (hO : Hp ahead L) {top : Hx} (ht : L[0]? = some top) : bestL hs = some (top.no, top.row) := by
 have mt := List.mem_of_getElem? ht
 cases e : bestL hs with
 | none => exact absurd ((h.mem top.no top.row).2 ⟨top, mt, rfl, rfl⟩) (bestL_none e _ _)
 | some q =>
   obtain ⟨i, y⟩ := q
   obtain ⟨b1, b2⟩ := bestL_some e
   obtain ⟨x, hx, hi, hy⟩ := (h.mem i y).1 b1
   obtain ⟨c1, c2⟩ := b2 top.no top.row ((h.mem _ _).2 ⟨top, mt, rfl, rfl⟩)
   obtain ⟨j, hj⟩ := List.mem_iff_getElem?.1 hx
   have hn := hp_least ahead_ord hO ht j x hj
   have e2 : x.no = top.no := by
    rcases Nat.lt_trichotomy x.no top.no with u | u | u
    ·refine absurd ?_ hn
     rcases Int.lt_or_eq_of_le c1 with v | v
     ·exact .inl (by rw [hy]; exact v)
     ·exact .inr ⟨by rw [hy]; exact v, u⟩
    ·exact u
    ·exact absurd (.inl (by rw [hy]; exact c2 (by omega))) hn
   have e3 := h.one hx mt e2
   subst e3
   rw [← hi, ← hy]
theorem HeadsOf.pop [Tab] (h : HeadsOf L hs) {top : Hx} (hP : L.Perm (top :: L')) : HeadsOf L' (hs.set top.no none) ∧ ∀ x ∈ L', x.no ≠ top.no := by
 have hnd := (hP.map Hx.no).nodup_iff.1 h.nodup
 rw [List.map_cons, List.nodup_cons] at hnd
 have hne : ∀ x ∈ L', x.no ≠ top.no := fun x hx q => hnd.1 (List.mem_map.2 ⟨x, hx, q⟩)
 refine ⟨⟨hnd.2, fun i y => ?_⟩, hne⟩
 by_cases e : i = top.no
 ·subst e
  refine ⟨fun q => ?_, fun ⟨x, hx, q, _⟩ => absurd q (hne x hx)⟩
  rw [List.getElem?_set] at q
  rw [if_pos rfl] at q
  split at q <;> simp at q
 ·rw [List.getElem?_set_ne (Ne.symm e), h.mem]
  refine ⟨fun ⟨x, hx, q, r⟩ => ?_, fun ⟨x, hx, q⟩ => ⟨x, hP.mem_iff.2 (List.mem_cons_of_mem _ hx), q⟩⟩
  rcases List.mem_cons.1 (hP.mem_iff.1 hx) with u | u
  ·subst u; exact absurd q.symm e
  ·exact ⟨x, u, q, r⟩
theorem HeadsOf.push [Tab] (h : HeadsOf L hs) {x : Hx} (hi : x.no < hs.length) (hn : ∀ y ∈ L, y.no ≠ x.no) (hP : L'.Perm (L ++ [x])) : HeadsOf L' (hs.set x.no (some x.row)) := by
 refine ⟨?_, fun i y => ?_⟩
 ·refine (hP.map Hx.no).nodup_iff.2 ?_
  rw [List.map_append, List.nodup_append]
  refine ⟨h.nodup, by simp, fun a ha c hc => ?_⟩
  simp at hc
  obtain ⟨z, z1, z2⟩ := List.mem_map.1 ha
  rw [hc, ← z2]; exact hn z z1
 ·by_cases e : i = x.no
  ·subst e
   rw [List.getElem?_set_self hi]
   refine ⟨fun q => ?_, fun ⟨z, hz, q, r⟩ => ?_⟩
   ·simp at q
    exact ⟨x, hP.mem_iff.2 (by simp), rfl, q⟩
   ·rcases List.mem_append.1 (hP.mem_iff.1 hz) with u | u
    ·exact absurd q (hn z u)
    ·rw [List.mem_singleton] at u
     subst u; rw [r]
  ·rw [List.getElem?_set_ne (Ne.symm e), h.mem]
   refine ⟨fun ⟨z, hz, q⟩ => ⟨z, hP.mem_iff.2 (List.mem_append_left _ hz), q⟩, fun ⟨z, hz, q, r⟩ => ?_⟩
   rcases List.mem_append.1 (hP.mem_iff.1 hz) with u | u
   ·exact ⟨z, u, q, r⟩
   ·rw [List.mem_singleton] at u
    subst u; exact absurd q.symm e
theorem HeadsOf.len [Tab] (h : HeadsOf L hs) : L.length ≤ hs.length := by
 have := nodup_len h.nodup (B := List.range hs.length) fun a ha => by
  obtain ⟨x, hx, rfl⟩ := List.mem_map.1 ha
  have := (h.mem x.no x.row).2 ⟨x, hx, rfl, rfl⟩
  exact List.mem_range.2 (List.getElem?_eq_some_iff.1 this).1
 simpa using this
end
structure RWOk (w : RW) (nm : ByteArray) (c : Nat) : Prop where
 wait : w.wait.length ≤ 129 * w.n
 n : w.n ≤ 504
 rows : w.rows ≤ c
 width : 0 ≤ w.b.width ∧ w.b.width ≤ 16
 name : w.b.name = nm
theorem rnMake_w [Tab] {s : Pl} {n : ByteArray} {W : Int} : ((rnMake s n W).2.1 = none → (rnMake s n W).2.2 ≠ 0) ∧ ∀ w, (rnMake s n W).2.1 = some w → (rnMake s n W).2.2 = 0 ∧ w = rw0 n W ∧ 0 ≤ W ∧ W ≤ 16 := by
 unfold rnMake
 split
 ·exact ⟨fun _ => (by simp), fun w q => (by cases q)⟩
 ·rename_i hr
  have hW : 0 ≤ W ∧ W ≤ 16 := by
   refine Classical.byContradiction fun u => hr ?_
   have : sizeL W = 0 := by unfold sizeL; rw [if_pos (by omega)]
   unfold roomL; rw [if_pos this]
  split
  ·rename_i h; exact ⟨fun _ => h, fun w q => (by cases q)⟩
  ·split
   ·rename_i h; exact ⟨fun _ => h, fun w q => (by cases q)⟩
   ·exact ⟨fun q => (by cases q), fun w q => (by cases q; exact ⟨rfl, rfl, hW⟩)⟩
theorem RWOk.mono [Tab] {w : RW} {n : ByteArray} {c d : Nat} (h : RWOk w n c) (hd : c ≤ d) : RWOk w n d := ⟨h.wait, h.n, Nat.le_trans h.rows hd, h.width, h.name⟩
theorem rw0_ok (n : ByteArray) {W : Int} (h1 : 0 ≤ W) (h2 : W ≤ 16) : RWOk (rw0 n W) n 0 := ⟨Nat.zero_le _, Nat.zero_le _, Nat.le_refl _, ⟨h1, h2⟩, rfl⟩
theorem RWOk.add [Tab] {w : RW} {n : ByteArray} {c : Nat} (h : RWOk w n c) (s : Pl) (l : List Int) : RWOk (w.add s l).2.1 n (c + 1) ∧ ((w.add s l).2.2 = 0 → (w.add s l).2.1.last = l ∧ 0 < (w.add s l).2.1.rows) := by
 have m := h.mono (Nat.le_succ c)
 unfold RW.add
 split
 ·rename_i q; exact ⟨m, fun u => absurd u q⟩
 ·split
  ·exact ⟨m, fun u => by simp at u⟩
  ·rename_i hl
   split
   ·exact ⟨m, fun u => by simp at u⟩
   ·have hw := h.width
    have hp := putL_most l
    have hln : (l.length : Int) = w.b.width := Classical.not_not.1 hl
    split
    ·rename_i hr
     have := (roomL_nat w.b)
     refine ⟨⟨?_, ?_, ?_, h.width, h.name⟩, fun _ => ⟨rfl, Nat.succ_pos _⟩⟩
     ·show (w.wait ++ bytesI (putL l)).length ≤ 129 * (w.n + 1)
      have := h.wait
      rw [List.length_append, bytesI_length]
      omega
     ·show w.n + 1 ≤ 504
      omega
     ·show w.rows + 1 ≤ c + 1
      have := h.rows; omega
    ·unfold RW.out
     rw [if_neg (by show w.n + 1 ≠ 0; omega)]
     refine ⟨⟨Nat.zero_le _, Nat.zero_le _, by show w.rows + 1 ≤ c + 1; have := h.rows; omega, ?_, ?_⟩, fun _ => ⟨rfl, Nat.succ_pos _⟩⟩
     ·show 0 ≤ ((w.push l).b.broke _).width ∧ ((w.push l).b.broke _).width ≤ 16
      rw [(Rb.broke_room _ _).2.1]; exact h.width
     ·show ((w.push l).b.broke _).name = n
      rw [(Rb.broke_room _ _).2.2]; exact h.name
section
variable {H0 A : Heap} {F0 F : Nat → Prop} {col : Nat → Nat} {p dp : Nat} {s : Pl} {xs : List RdX} {l : Sl} {kw : Nat} {w : RW} {sw sl : Sl} {kh : Nat} {hs : Sl} {L : List Hx}
theorem MgB.add [Tab] {K : Int → Heap → Prop} {row : Sl} {y : List Int} {to : ByteArray} {c u v : Nat} (h : MgB H0 F0 col p dp F A s xs l kw w sw sl kh hs L) (hg : Gl H0) (h0 : ¬ F0 gSteps) (ok : RWOk w to c) (hc : c < 1000000000000) (hto : to.size ≤ 9223372036854775807) (b : Bd s u v) (hu : u < 1000000000000) (hv : v < 68719460000) (hy : y.length ≤ 16)
  (hrow : Ints .u64 A row y) (hoff : ∀ ad, row.a = some ad → col ad.block = 3)
  (hK : ∀ F' B col' sw' sl', MgB H0 F0 col' p dp F' B (w.add s y).1 xs l kw (w.add s y).2.1 sw' sl' kh hs L → A.size ≤ B.size → (∀ b, b < A.size → col b ≠ 0 → col b ≠ 2 → col' b = col b ∧ B[b]? = A[b]?) → K (w.add s y).2.2 B) : Zcv.sp (at0 kw) row A K := by
 have hgA := h.rds.gl hg h0
 have hgl := hg.lt
 have dis : ∀ b, F b → ¬ wrO kw sw sl b := fun b hb q => by
  have := (h.rds.cF b hb).1
  have := (h.cW b q).1
  omega
 have hlo := b.lo
 have hhi := b.hi
 have hlg := b.logs
 have o1 := ok.wait
 have o2 := ok.n
 have o3 := ok.rows
 refine radd_ok hgA (fun q => (h.cW _ q).2.elim h0 fun u => by omega) h.wr h.rds.pool dis hrow (fun ad ha q => by have := hoff ad ha; have := (h.cW _ q).1; omega) (by omega) (by omega) (by omega) (by omega) (by rw [ok.name]; exact hto) (by omega) (by omega) hlo b.fit fun F' sw' sl' B q1 q2 q3 S => ?_
 have hcol : ∃ col' : Nat → Nat, (∀ b, F' b → col' b = 0) ∧ (∀ b, wrO kw sw' sl' b → col' b = 2) ∧ ∀ b, ¬ F' b → ¬ wrO kw sw' sl' b → col' b = col b := by
  classical
  refine ⟨fun b => if F' b then 0 else if wrO kw sw' sl' b then 2 else col b, fun b hb => if_pos hb, fun b hb => ?_, fun b h1 h2 => ?_⟩
  ·show (if F' b then _ else _) = _
   rw [if_neg fun q => q3 b q hb, if_pos hb]
  ·show (if F' b then _ else _) = _
   rw [if_neg h1, if_neg h2]
 obtain ⟨col', c1, c2, c3⟩ := hcol
 have z0 := h.rds.mod.size
 have old : ∀ b, b < A.size → F' b ∨ wrO kw sw' sl' b → col b = 0 ∨ col b = 2 := fun b hb q => by
  rcases (S.own b q).resolve_right (by omega) with u | u
  ·exact .inl (h.rds.cF b u).1
  ·exact .inr (h.cW b u).1
 have same : ∀ b, b < A.size → col b ≠ 0 → col b ≠ 2 → col' b = col b := fun b hb n0 n2 => c3 b (fun q => by rcases old b hb (.inl q) with u | u <;> omega) fun q => by rcases old b hb (.inr q) with u | u <;> omega
 have base : ∀ b, F' b ∨ wrO kw sw' sl' b → F0 b ∨ H0.size ≤ b := fun b q => by
  rcases S.own b q with (u | u) | u
  ·exact (h.rds.cF b u).2
  ·exact (h.cW b u).2
  ·exact .inr (by omega)
 have hG : ∀ b, b < A.size → (F b ∨ wrO kw sw sl b) → col b = 0 ∨ col b = 2 := fun b _ q => q.imp (fun u => (h.rds.cF b u).1) fun u => (h.cW b u).1
 refine hK F' B col' sw' sl' ⟨h.rds.went q1 S.mod (fun b hb q => by have := hG b hb q; omega) (fun b hb q => ?_) (fun b hb => ⟨c1 b hb, base b (.inl hb)⟩) (fun b hb q => same b hb (by omega) (by omega)), q2, h.keepH S.mod (fun b hb q => by have := hG b hb q; omega), fun b hb => ⟨c2 b hb, base b (.inr hb)⟩, fun b hb => ?_, fun x hx b hb => ?_, h.ptr, h.ord⟩ S.mod.size fun b hb n0 n2 => ⟨same b hb n0 n2, S.mod.same b hb fun q => by have := hG b hb q; omega⟩
 ·rcases q with u | u
  ·exact (h.rds.cF b u).2.resolve_right (by omega)
  ·exact (h.cW b u).2.resolve_right (by omega)
 ·have a := h.cH b hb
  rw [same b (h.heap.lt b hb) (by omega) (by omega)]; exact a
 ·have a := h.cX x hx b hb
  rw [same b ((h.heap.own x hx).lt b hb) (by omega) (by omega)]; exact a
theorem RdsAt.stop [Tab] {K : Unit → Heap → Prop} {i : Nat} {x : RdX} (h : RdsAt H0 F0 col p dp F A s xs l) (hx : xs[i]? = some x)
  (hK : ∀ B, RdsAt H0 F0 col p dp F B s (xs.set i ⟨x.k, x.r.stop, x.si, x.srs⟩) l → Mod (fun b => b = x.k) A B → K () B) : ZbW.sp (at0 x.k) A K := by
 refine ZbW.of ?_
 unfold ZbW.vc
 unfold at0
 refine br_t rfl ?_
 simp only [optK_eq, add_add, Nat.reduceAdd]
 have hr := h.rds i x hx
 have hi := (List.getElem?_eq_some_iff.1 hx).1
 have ck : ∀ b, b = x.k → col b = 5 + i ∧ H0.size ≤ b := fun b q => h.cR i x hx b (.inl q)
 refine RowT.st hr.row (i := 5) (by simp [baseV]) rfl fun B r m z => ?_
 rw [baseV_closed] at r
 have keep : ∀ (j : Nat) (y : RdX), j ≠ i → xs[j]? = some y → ∀ b, y.own b → ¬ (b = x.k) := fun j y hj hy b hb q => by
  have := (h.cR j y hy b hb).1
  have := (ck b q).1
  omega
 refine hK B ⟨h.pool.keep fun b hb hl => m.same b hl fun q => ?_, fun j y hy => ?_, fun y hy => ?_, ?_, h.cF, fun j y hy b hb => ?_, h.cL, ?_⟩ m
 ·have := (h.cF b hb).1
  have := (ck b q).1
  omega
 ·by_cases q : j = i
  ·subst q
   rw [List.getElem?_set_self hi] at hy
   cases hy
   exact ⟨r, hr.ins.mod m (fun b hb q => hr.offI (q ▸ hb)) fun y hy b hb q => hr.offR y hy (q ▸ hb)⟩
  ·rw [List.getElem?_set_ne (Ne.symm q)] at hy
   exact (h.rds j y hy).mod m (keep j y q hy)
 ·rcases List.mem_or_eq_of_mem_set hy with q | q
  ·exact h.oks y q
  ·subst q
   obtain ⟨o, n⟩ := h.oks x (List.mem_of_getElem? hx)
   exact ⟨⟨o.room, o.at_, o.page, o.rows, o.cols⟩, n⟩
 ·have e : (xs.set i ⟨x.k, x.r.stop, x.si, x.srs⟩).map (·.k) = xs.map (·.k) := by
   rw [List.map_set]
   apply List.ext_getElem?
   intro j
   rw [List.getElem?_set]
   split
   ·rename_i q
    subst q
    rw [List.getElem?_map, hx]
    simp [hi]
   ·rfl
  rw [e]
  exact h.list.mod m fun b hb q => by
   have := (h.cL b hb).1
   have := (ck b q).1
   omega
 ·by_cases q : j = i
  ·subst q
   rw [List.getElem?_set_self hi] at hy
   cases hy
   exact h.cR j x hx b hb
  ·rw [List.getElem?_set_ne (Ne.symm q)] at hy
   exact h.cR j y hy b hb
 ·exact h.mod.trans' m fun b hb q => by have := (ck b q).2; omega
end
theorem restL_set [Tab] : ∀ {rs : List RR} {i : Nat} {r r' : RR}, rs[i]? = some r → restL (rs.set i r') + (r.rows - r.at_) = restL rs + (r'.rows - r'.at_)
 | [], i, r, r', h => by simp at h
 | a :: rs, 0, r, r', h => by
   simp at h; subst h
   unfold restL
   simp only [List.set_cons_zero, List.map_cons, List.sum_cons]
   omega
 | a :: rs, i + 1, r, r', h => by
   have := restL_set (rs := rs) (i := i) (r' := r') (by simpa using h)
   unfold restL at this ⊢
   simp only [List.set_cons_succ, List.map_cons, List.sum_cons]
   omega
theorem waitN_set [Tab] : ∀ {hs : List (Option (List Int))} {i : Nat} {a b : Option (List Int)}, hs[i]? = some a → waitN (hs.set i b) + (if a.isSome then 1 else 0) = waitN hs + (if b.isSome then 1 else 0)
 | [], i, a, b, h => by simp at h
 | c :: hs, 0, a, b, h => by
   simp at h; subst h
   unfold waitN
   simp only [List.set_cons_zero, List.map_cons, List.sum_cons]
   omega
 | c :: hs, i + 1, a, b, h => by
   have := waitN_set (hs := hs) (i := i) (b := b) (by simpa using h)
   unfold waitN at this ⊢
   simp only [List.set_cons_succ, List.map_cons, List.sum_cons]
   omega
theorem waitN_none (k : Nat) : waitN (List.replicate k none) = 0 := by
 induction k with
 | zero => rfl
 | succ k ih =>
   unfold waitN at ih ⊢
   rw [List.replicate_succ, List.map_cons, List.sum_cons, ih]; rfl
theorem RR.next_count [Tab] {r : RR} (h : r.Ok) (s : Pl) : ((r.next s).2.1.rows - (r.next s).2.1.at_) + (if (toldO (r.next s).2.2.1 (r.next s).2.2.2.1).isSome then 1 else 0) = r.rows - r.at_ := by
 obtain ⟨_, _, k1, k2, k3⟩ := RR.next_keeps h s
 have ha := h.at_
 unfold toldO
 cases e : (r.next s).2.2.2.1 with
 | true =>
   obtain ⟨q1, q2, _⟩ := k2 e
   rw [k1, q2]
   simp
   omega
 | false =>
   rw [k1, k3 e]
   simp
structure HeadsAt [Tab] (xs0 : List RdX) (s0 : Pl) (i : Nat) (s : Pl) (xs : List RdX) (L : List Hx) (hs : List (Option (List Int))) : Prop where
 len : xs.length = xs0.length
 hlen : hs.length = xs0.length
 later : xs.drop i = xs0.drop i
 rest : hs.drop i = List.replicate (xs0.length - i) none
 heads : HeadsOf L hs
 eq : headsL (xs0.map (·.r)) s0 = ((headsL ((xs.drop i).map (·.r)) s).1, (xs.take i).map (·.r) ++ (headsL ((xs.drop i).map (·.r)) s).2.1, hs.take i ++ (headsL ((xs.drop i).map (·.r)) s).2.2.1, (headsL ((xs.drop i).map (·.r)) s).2.2.2)
 count : restL (xs.map (·.r)) + waitN hs ≤ restL (xs0.map (·.r))
theorem HeadsAt.first [Tab] (xs : List RdX) (s : Pl) : HeadsAt xs s 0 s xs [] (List.replicate xs.length none) :=
 ⟨rfl, List.length_replicate, rfl, by simp, .nil _, by simp, by rw [waitN_none]; exact Nat.le_refl _⟩
section
variable {xs0 xs : List RdX} {s0 s : Pl} {i : Nat} {L L' : List Hx} {hs : List (Option (List Int))} {y y' : RdX}
theorem HeadsAt.at_ [Tab] (h : HeadsAt xs0 s0 i s xs L hs) (hi : i < xs0.length) : ∃ y, xs[i]? = some y ∧ hs[i]? = some none ∧ (∀ x ∈ L, x.no ≠ i) ∧ xs.drop i = y :: xs.drop (i + 1) := by
 have hix : i < xs.length := by rw [h.len]; exact hi
 have hn : hs[i]? = some none := by
  have : (hs.drop i)[0]? = some none := by rw [h.rest, List.getElem?_replicate, if_pos (by omega)]
  rwa [List.getElem?_drop, Nat.add_zero] at this
 refine ⟨xs[i], List.getElem?_eq_getElem hix, hn, fun x hx q => ?_, List.drop_eq_getElem_cons hix⟩
 have := (h.heads.mem i x.row).2 ⟨x, hx, q, rfl⟩
 rw [hn] at this; simp at this
theorem HeadsAt.next [Tab] (h : HeadsAt xs0 s0 i s xs L hs) (hi : i < xs0.length) (hy : xs[i]? = some y) (ok : y.r.Ok) (hy' : y'.r = (y.r.next s).2.1) (he : (y.r.next s).2.2.2.2 = 0)
  (h1 : (y.r.next s).2.2.2.1 = true → ∃ row ptr, L'.Perm (L ++ [⟨i, row, ptr, (y.r.next s).2.2.1⟩])) (h2 : (y.r.next s).2.2.2.1 = false → L' = L) :
  HeadsAt xs0 s0 (i + 1) (y.r.next s).1 (xs.set i y') L' (hs.set i (toldO (y.r.next s).2.2.1 (y.r.next s).2.2.2.1)) := by
 obtain ⟨y0, a1, a2, a3, a4⟩ := h.at_ hi
 rw [hy] at a1; cases a1
 have hix : i < xs.length := by rw [h.len]; exact hi
 have hih : i < hs.length := by rw [h.hlen]; exact hi
 have d1 : (xs.set i y').drop (i + 1) = xs.drop (i + 1) := List.drop_set_of_lt (by omega)
 have t1 : (xs.set i y').take (i + 1) = xs.take i ++ [y'] := by
  rw [List.take_succ_eq_append_getElem (by simpa using hix)]
  rw [List.take_set_of_le (Nat.le_refl _)]
  simp
 have t2 : ∀ v : Option (List Int), (hs.set i v).take (i + 1) = hs.take i ++ [v] := fun v => by
  rw [List.take_succ_eq_append_getElem (by simpa using hih)]
  rw [List.take_set_of_le (Nat.le_refl _)]
  simp
 have hd : HeadsOf L' (hs.set i (toldO (y.r.next s).2.2.1 (y.r.next s).2.2.2.1)) := by
  cases e : (y.r.next s).2.2.2.1 with
  | true =>
    obtain ⟨row, ptr, hP⟩ := h1 e
    exact h.heads.push (x := ⟨i, row, ptr, (y.r.next s).2.2.1⟩) hih a3 hP
  | false =>
    rw [h2 e]
    have : hs.set i (toldO (y.r.next s).2.2.1 false) = hs := by
     apply List.ext_getElem?
     intro j
     rw [List.getElem?_set]
     split
     ·rename_i q
      subst q
      rw [a2]; rfl
     ·rfl
    rw [this]; exact h.heads
 refine ⟨by rw [List.length_set]; exact h.len, by rw [List.length_set]; exact h.hlen, ?_, ?_, hd, ?_, ?_⟩
 ·rw [d1]
  have := congrArg (List.drop 1) h.later
  rwa [List.drop_drop, List.drop_drop] at this
 ·rw [List.drop_set_of_lt (by omega)]
  have := congrArg (List.drop 1) h.rest
  rw [List.drop_drop, List.drop_replicate] at this
  rw [this]
  rfl
 ·rw [h.eq, a4, List.map_cons, d1, t1, t2]
  simp only [headsL]
  rw [if_neg (by rw [he]; simp)]
  simp [hy']
 ·have c1 := restL_set (rs := xs.map (·.r)) (i := i) (r := y.r) (r' := y'.r) (by rw [List.getElem?_map, hy]; rfl)
  have c2 := waitN_set (i := i) (b := toldO (y.r.next s).2.2.1 (y.r.next s).2.2.2.1) a2
  have c3 := RR.next_count ok s
  have c4 := h.count
  rw [List.map_set]
  rw [hy'] at c1 ⊢
  simp only [Option.isSome_none] at c2
  simp only [Bool.false_eq_true, if_false, Nat.add_zero] at c2
  omega
theorem HeadsAt.bad [Tab] (h : HeadsAt xs0 s0 i s xs L hs) (hi : i < xs0.length) (hy : xs[i]? = some y) (he : (y.r.next s).2.2.2.2 ≠ 0) : (headsL (xs0.map (·.r)) s0).1 = (y.r.next s).1 ∧ (headsL (xs0.map (·.r)) s0).2.2.2 = (y.r.next s).2.2.2.2 := by
 obtain ⟨y0, a1, a2, a3, a4⟩ := h.at_ hi
 rw [hy] at a1; cases a1
 rw [h.eq, a4, List.map_cons]
 simp only [headsL]
 rw [if_pos he]
 exact ⟨rfl, rfl⟩
theorem HeadsAt.done [Tab] (h : HeadsAt xs0 s0 xs0.length s xs L hs) : headsL (xs0.map (·.r)) s0 = (s, xs.map (·.r), hs, 0) := by
 have e := h.eq
 rw [← h.len, List.drop_length, List.take_length, h.len, ← h.hlen, List.take_length] at e
 simpa [headsL] using e
end
structure MergeAt [Tab] (H0 : Heap) (F0 : Nat → Prop) (p dp : Nat) (A : Heap) (l : Sl) (kw kh : Nat) (to : ByteArray) (f0 u v : Nat) (res : Pl × Nat × Int) (f : Nat) (z : Sl × Bool) : Prop where
 ex : ∃ col F s xs w sw sl hs L hl, MgB H0 F0 col p dp F A s xs l kw w sw sl kh hs L ∧ HeadsOf L hl ∧ hl.length = xs.length ∧ xs.length ≤ 1000000 ∧ restL (xs.map (·.r)) + waitN hl < f ∧ res = mgLoop f s (xs.map (·.r)) hl w ∧ RWOk w to (f0 - f) ∧ Bd s (u + 2 * (f0 - f)) (v + 3 * (f0 - f)) ∧ f ≤ f0 ∧ z.2 = decide (w.rows = 0) ∧ (w.rows ≠ 0 → Owns A 0 YaM 1 z.1 (w.last.map (Value.int .u64)) ∧ w.last.length ≤ 16 ∧ ∀ b, ownB z.1 b → col b = 3)
theorem MgB.recol [Tab] {H0 A : Heap} {F0 F : Nat → Prop} {col col' : Nat → Nat} {p dp : Nat} {s : Pl} {xs : List RdX} {l : Sl} {kw : Nat} {w : RW} {sw sl : Sl} {kh : Nat} {hs : Sl} {L : List Hx} (h : MgB H0 F0 col p dp F A s xs l kw w sw sl kh hs L) (hc : ∀ b, b < A.size → col' b = col b) : MgB H0 F0 col' p dp F A s xs l kw w sw sl kh hs L :=
 ⟨h.rds.went (G := fun _ => False) h.rds.pool (.refl _ _) (fun _ _ q => q.elim) (fun _ _ q => q.elim) (fun b hb => by rw [hc b (h.rds.pool.lt b hb)]; exact h.rds.cF b hb) (fun b hb _ => hc b hb), h.wr, h.heap,
  fun b hb => by rw [hc b (h.wr.lt b hb)]; exact h.cW b hb, fun b hb => by rw [hc b (h.heap.lt b hb)]; exact h.cH b hb, fun x hx b hb => by rw [hc b ((h.heap.own x hx).lt b hb)]; exact h.cX x hx b hb, h.ptr, h.ord⟩
section
variable {H : Heap} {F : Nat → Prop} {p dp : Nat} {s : Pl} {names : Sl} {ns : List ByteArray} {to : ByteArray} {W : Int}
set_option maxHeartbeats 2000000 in
theorem mgLoop_ok [Tab] {K : (Int × Int) → Heap → Prop} {A : Heap} {l : Sl} {kw kh f0 f u v : Nat} {res : Pl × Nat × Int} (hg : Gl H) (h0 : ¬ F gSteps) (hto : to.size ≤ 9223372036854775807) (hf0 : f0 ≤ 2000000000) (hu : u < 900000000000) (hv : v < 60000000000)
  (h : MergeAt H F p dp A l kw kh to f0 u v res f (Sl.mk none 0 0, true))
  (hK : ∀ F' B, PoolAt F' B p dp res.1 → Step F F' H B → K ((res.2.1 : Int), res.2.2) B) :
  LoopVC (Sl × Bool) ((Sl.mk none 0 0), true) A fun next_1 z_1 H6 => ld cSl H6 ((⟨kh, 0, none⟩ : Addr).add 0) fun (x : Sl) => br (decide ((x.n : Int) > (0 : Int))) (Zbm.sp (some ⟨kh, 0, none⟩) H6 fun (r_3 : (Int × Sl × Option Addr)) H7 => newC H7 (zc Tryz.prog Yat) Yat fun p_1 H8 => doU Tryz.prog (Instr.storeAt Yat (.pointer (some p_1)) (.agg #[(.int .i64 r_3.1), r_3.2.1.v, (.pointer r_3.2.2)])) H8 fun H9 => cut Unit (fun J => br z_1.2 (ld cSl H9 (p_1.add 1) fun (x_1 : Sl) => Zcv.sp (at0 kw) x_1 H9 fun (e_1 : Int) H11 => br (e_1 != (0 : Int)) (K ((0 : Int), e_1) H11) (J () H11)) (ld cSl H9 (p_1.add 1) fun (x_2 : Sl) => ZdM.sp x_2 z_1.1 H9 fun (r_4 : Int) H12 => br (r_4 != (0 : Int)) (ld cSl H12 (p_1.add 1) fun (x_3 : Sl) => Zcv.sp (at0 kw) x_3 H12 fun (e_2 : Int) H13 => br (e_2 != (0 : Int)) (K ((0 : Int), e_2) H13) (J () H13)) (J () H12))) fun (_ : Unit) H10 => ld cSl H10 (p_1.add 1) fun (last : Sl) => ldA (cAgg [(cInt .i64), cSl, cPtr]) 3 H10 p_1 fun (x_4 : (Int × Sl × Option Addr)) => Zds.sp (some ⟨kh, 0, none⟩) x_4.1 x_4.2.1 x_4.2.2 H10 fun (e_3 : Int) H14 => br (e_3 != (0 : Int)) (K ((0 : Int), e_3) H14) (next_1 (last, false) H14)) (LoopVC Int (0 : Int) H6 fun next_2 z_3 H15 => br (decide (z_3 < (l.n : Int))) (optK l.a fun a_1 => (0 ≤ z_3 ∧ z_3 < (l.n : Int)) ∧ ld cPtr H15 (a_1.add (z_3.toNat * 1)) fun (r_5 : Option Addr) => ZbW.sp r_5 H15 fun (_ : Unit) H16 => next_2 (IntKind.i64.wrap (z_3 + (1 : Int))) H16) (Zce.sp (at0 kw) H15 fun (r_7 : (Int × Int)) H17 => K (r_7.1, r_7.2) H17)) := by
 refine ⟨Nat, fun f z A => MergeAt H F p dp A l kw kh to f0 u v res f z, fun f => f, ⟨f, h⟩, ?_⟩
 rintro f ⟨last, fst⟩ A ⟨col, F', s', xs, w, sw, sl, hs, L, hl, hM, hT, hlen, hxl, hf, hres, hw, bd, hff, hfst, hlast⟩
 simp only at hfst hlast
 cases f with
 | zero => exact absurd hf (Nat.not_lt_zero _)
 | succ f =>
 have hgl := hg.lt
 refine RowT.ld (c := cSl) (i := 0) (x := hs) hM.heap.row rfl ?_
 have hn : hs.n = L.length := SlE.n hM.heap.els (by decide)
 have hLl : L.length ≤ 1000000 := by have := hT.len; omega
 cases hLc : L with
 | nil =>
   rw [hLc] at hn
   refine br_f (by rw [hn]; rfl) ?_
   have hb : bestL hl = none := by rw [hLc] at hT; exact hT.empty
   have er : res = ((w.close s').1, (w.close s').2.2.1, (w.close s').2.2.2) := by
    rw [hres]
    unfold mgLoop
    rw [hb]
   rw [er] at hK
   refine loop_upto xs.length (fun i z B => z = (i : Int) ∧ ∃ ys, ys.length = xs.length ∧ RdsAt H F col p dp F' B s' ys l ∧ WrB B kw p w sw sl) ⟨rfl, xs, rfl, hM.rds, hM.wr⟩ ?_
   rintro i z B next hi ⟨rfl, ys, hyl, hR, hWr⟩ hnext
   have hln : l.n = ys.length := by rw [SlE.n hR.list (by decide)]; simp
   refine br_mk (fun hc => ?_) (fun hc => ?_)
   ·have hlt : i < ys.length := by have : (i : Int) < (l.n : Int) := by simpa using hc
                                   omega
    have hy : ys[i]? = some ys[i] := List.getElem?_eq_getElem hlt
    refine RdE.one (E := EPtr) (c := cPtr) (y := at0 ys[i].k) hR.list.rd (by rw [hln]; simp) rfl (i := i) (x := ys[i].k) (by rw [List.getElem?_map, hy]; rfl) rfl ?_
    refine hR.stop hy fun C hC mC => ?_
    rw [succ64 i (by omega)]
    exact hnext (by omega) _ C ⟨rfl, _, by simp; exact hyl, hC, hWr.mod mC fun b hb q => by
     have := (hM.cW b hb).1
     have := (hR.cR i _ hy b (.inl q)).1
     omega⟩
   ·have hgB := hR.gl hg h0
    have q1 := bd.lo
    have q2 := bd.hi
    have q3 := bd.logs
    have o := bd.out (w := w) (by omega)
    have o1 := o.hi
    have o2 := o.logs
    refine rclose_ok hgB (fun q => (hM.cW _ q).2.elim h0 fun r => by omega) hWr hR.pool (fun b hb q => by have := (hR.cF b hb).1; have := (hM.cW b q).1; omega) (by have := hw.rows; omega) hw.width.1 (by rw [hw.name]; exact hto) (by omega) (by omega) q1 bd.fit (by omega) (by omega) (fun x hd => ?_) fun F2 sw' C p2 w2 d2 S2 => ?_
    ·rw [Pl.leave_d, Pl.set_d]
     have := (w.out s').1.pin_logs w.b.name 0
     omega
    ·refine hK F2 C p2 ⟨hR.mod.trans' S2.mod fun b hb q => ?_, fun b hb => ?_⟩
     ·rcases q with r | r
      ·exact (hR.cF b r).2.resolve_right (by omega)
      ·exact (hM.cW b r).2.resolve_right (by omega)
     ·rcases S2.own b (.inl hb) with (r | r) | r
      ·exact (hR.cF b r).2
      ·exact (hM.cW b r).2
      ·have := hR.mod.size
       exact .inr (by omega)
 | cons top L0 =>
   have ht : L[0]? = some top := by rw [hLc]; rfl
   have mt := List.mem_of_getElem? ht
   have hb := hT.top hM.ord ht
   refine br_t (by rw [hn, hLc]; simp) ?_
   obtain ⟨y, hy, hptr⟩ := hM.ptr top mt
   refine hpop_ok hM.heap hM.ord ht hLl fun hs' L' A1 hA hO hP mA oA => ?_
   have mem' : ∀ x ∈ L', x ∈ L := fun x hx => hP.mem_iff.2 (List.mem_cons_of_mem _ hx)
   obtain ⟨col1, c1, hM1⟩ := hM.heapGo hA hO mA (fun b hb => .inl (oA b hb)) (fun x hx b hb => ⟨(hM.heap.own x (mem' x hx)).lt b hb, hM.cX x (mem' x hx) b hb⟩) fun x hx => hM.ptr x (mem' x hx)
   have ownT := hM.heap.own top mt
   have offH : ∀ b, col b = 3 → ¬ (b = kh ∨ ownB hs b) := fun b hb q => by have := (hM.cH b q).1; omega
   have ownT1 : Owns A1 0 YaM 1 top.sl (top.row.map (Value.int .u64)) := ownT.mod mA fun b hb => offH b (hM.cX top mt b hb)
   have cT1 : ∀ b, ownB top.sl b → col1 b = 3 := fun b hb => by rw [c1 b (ownT.lt b hb)]; exact hM.cX top mt b hb
   refine newC_rowT fun A2 z2 r2 e2 => ?_
   refine RowT.stAll (cs := (hxV top).toArray) r2 size_head zc_head (fun x hx => EHx.one top x (show x ∈ hxV top by simpa using hx)) fun A3 r3 m3 z3 => ?_
   have e3 : Ext A1 A3 := ⟨by have := m3.size; omega, fun b hb _ => (m3.same b (by omega) (by intro q; have : b = A1.size := q; omega)).trans (e2.same b hb id)⟩
   obtain ⟨colx, x1, x2⟩ := colours col1 A1.size (fun _ => False) (fun _ => False) (fun _ => True) 1 1 3 (fun _ q => q.elim) (fun _ q => q.elim) fun _ q => q.elim
   have hM3 := (hM1.recol x1).ext e3
   have cT3 : ∀ b, ownB top.sl b → colx b = 3 := fun b hb => by rw [x1 b (ownT1.lt b hb)]; exact cT1 b hb
   have ownT3 := ownT1.ext e3
   obtain ⟨hT', hne⟩ := hT.pop hP
   have f16 := hM.heap.few top mt
   have htl : top.no < hl.length := by
    have := (hT.mem top.no top.row).2 ⟨top, mt, rfl, rfl⟩
    exact (List.getElem?_eq_some_iff.1 this).1
   have er : res = if (mgAdd s' w top.row).2.2 ≠ 0 then ((mgAdd s' w top.row).1, 0, (mgAdd s' w top.row).2.2)
    else if (y.r.next (mgAdd s' w top.row).1).2.2.2.2 ≠ 0 then ((y.r.next (mgAdd s' w top.row).1).1, 0, (y.r.next (mgAdd s' w top.row).1).2.2.2.2)
    else mgLoop f (y.r.next (mgAdd s' w top.row).1).1 ((xs.map (·.r)).set top.no (y.r.next (mgAdd s' w top.row).1).2.1) (hl.set top.no (toldO (y.r.next (mgAdd s' w top.row).1).2.2.1 (y.r.next (mgAdd s' w top.row).1).2.2.2.1)) (mgAdd s' w top.row).2.1 := by
    have hgj : (xs.map (·.r)).getD top.no default = y.r := by rw [List.getD, List.getElem?_map, hy]; rfl
    rw [hres]
    show (match bestL hl with | none => _ | some (i, x) => _) = _
    rw [hb]
    simp only
    rw [hgj]
   have zA3 : A.size ≤ A3.size := by have := mA.size; have := e3.size; omega
   have old3 : ∀ b, b < A.size → col b = 3 → A3[b]? = A[b]? := fun b hb hc => (e3.same b (by have := mA.size; omega) id).trans (mA.same b hb (offH b hc))
   refine ⟨fun _ B => (mgAdd s' w top.row).2.2 = 0 ∧ ∃ col2 F2 sw2 sl2, MgB H F col2 p dp F2 B (mgAdd s' w top.row).1 xs l kw (mgAdd s' w top.row).2.1 sw2 sl2 kh hs' L' ∧ RWOk (mgAdd s' w top.row).2.1 to (f0 - f) ∧ (mgAdd s' w top.row).2.1.last = top.row ∧ 0 < (mgAdd s' w top.row).2.1.rows ∧ Bd (mgAdd s' w top.row).1 (u + 2 * (f0 - (f + 1)) + 1) (v + 3 * (f0 - (f + 1)) + 2) ∧
    RowT B A1.size Yat (hxV top).toArray ∧ Owns B 0 YaM 1 top.sl (top.row.map (Value.int .u64)) ∧ (∀ b, ownB top.sl b → col2 b = 3) ∧ A3.size ≤ B.size, ?_, ?_⟩
   ·have added : ∀ (Kb : Int → Heap → Prop), (mgAdd s' w top.row) = w.add s' top.row → (∀ B, (w.add s' top.row).2.2 ≠ 0 → (∃ F2, PoolAt F2 B p dp (w.add s' top.row).1 ∧ Step F F2 H B) → Kb (w.add s' top.row).2.2 B) →
      (∀ B, ((mgAdd s' w top.row).2.2 = 0 ∧ ∃ col2 F2 sw2 sl2, MgB H F col2 p dp F2 B (mgAdd s' w top.row).1 xs l kw (mgAdd s' w top.row).2.1 sw2 sl2 kh hs' L' ∧ RWOk (mgAdd s' w top.row).2.1 to (f0 - f) ∧ (mgAdd s' w top.row).2.1.last = top.row ∧ 0 < (mgAdd s' w top.row).2.1.rows ∧ Bd (mgAdd s' w top.row).1 (u + 2 * (f0 - (f + 1)) + 1) (v + 3 * (f0 - (f + 1)) + 2) ∧
       RowT B A1.size Yat (hxV top).toArray ∧ Owns B 0 YaM 1 top.sl (top.row.map (Value.int .u64)) ∧ (∀ b, ownB top.sl b → col2 b = 3) ∧ A3.size ≤ B.size) → (w.add s' top.row).2.2 = 0 → Kb (w.add s' top.row).2.2 B) → Zcv.sp (at0 kw) top.sl A3 Kb := by
     intro Kb ea k1 k2
     refine hM3.add hg h0 hw (by omega) hto bd (by omega) (by omega) f16 ownT3.ints (fun ad ha => cT3 _ ⟨ad, ha, rfl⟩) fun F2 B col2 sw2 sl2 hB zB oB => ?_
     by_cases e0 : (w.add s' top.row).2.2 = 0
     ·have ra := hw.add s' top.row
      have hp1 := oB A1.size (by omega) (by rw [(x2 A1.size (Nat.le_refl _)).2.2 trivial]; decide) (by rw [(x2 A1.size (Nat.le_refl _)).2.2 trivial]; decide)
      refine k2 B ?_ e0
      rw [ea]
      refine ⟨e0, col2, F2, sw2, sl2, hB, ra.1.mono (by omega), (ra.2 e0).1, (ra.2 e0).2, bd.add (by omega) _, hp1.2.trans r3, ownT3.keep fun b hb hlt => ?_, fun b hb => ?_, zB⟩
      ·have c := cT3 b hb
       exact (oB b hlt (by omega) (by omega)).2
      ·have c := cT3 b hb
       exact (oB b (ownT3.lt b hb) (by omega) (by omega)).1.trans c
     ·exact k1 B e0 ⟨F2, hB.rds.pool, hB.rds.step⟩
    have bad : ∀ B, (mgAdd s' w top.row) = w.add s' top.row → (w.add s' top.row).2.2 ≠ 0 → (∃ F2, PoolAt F2 B p dp (w.add s' top.row).1 ∧ Step F F2 H B) → K ((0 : Int), (w.add s' top.row).2.2) B := fun B ea e0 ⟨F2, p2, S2⟩ => by
     have er2 := er
     rw [ea, if_pos e0] at er2
     rw [er2] at hK
     exact hK F2 B p2 S2
    by_cases hr0 : w.rows = 0
    ·have ea : mgAdd s' w top.row = w.add s' top.row := by unfold mgAdd; rw [if_pos (.inl hr0)]
     refine br_t (by rw [hfst]; exact decide_eq_true hr0) ?_
     refine RowT.ld (c := cSl) (i := 1) (x := top.sl) r3 rfl ?_
     refine added _ ea (fun B e0 q => br_t (by simpa using e0) (bad B ea e0 q)) fun B hJ e0 => br_f (by rw [e0]; rfl) hJ
    ·refine br_f (by rw [hfst]; exact decide_eq_false hr0) ?_
     obtain ⟨l1, l2, l3⟩ := hlast hr0
     refine RowT.ld (c := cSl) (i := 1) (x := top.sl) r3 rfl ?_
     have l3' : Ints .u64 A3 last w.last := (l1.keep fun b hb hlt => old3 b hlt (l3 b hb)).ints
     refine rowCmp_ok ownT3.ints l3' (by omega) ?_
     by_cases hcmp : cmpL top.row w.last = 0
     ·have ea : mgAdd s' w top.row = (s', w, 0) := by unfold mgAdd; rw [if_neg (by rintro (q | q); exact hr0 q; exact q hcmp)]
      refine br_f (by rw [hcmp]; rfl) ?_
      rw [ea]
      exact ⟨rfl, colx, F', sw, sl, hM3, hw.mono (by omega), (cmpL_zero.1 hcmp).symm, Nat.pos_of_ne_zero hr0, bd.mono (by omega) (by omega), r3, ownT3, cT3, Nat.le_refl _⟩
     ·have ea : mgAdd s' w top.row = w.add s' top.row := by unfold mgAdd; rw [if_pos (.inr hcmp)]
      refine br_t (by simpa using hcmp) ?_
      refine RowT.ld (c := cSl) (i := 1) (x := top.sl) r3 rfl ?_
      refine added _ ea (fun B e0 q => br_t (by simpa using e0) (bad B ea e0 q)) fun B hJ e0 => br_f (by rw [e0]; rfl) hJ
   ·rintro _ B ⟨e0, col2, F2, sw2, sl2, hB, rw2, hla, hro, bd2, rB, oB, cB, zB⟩
    rw [if_neg (by rw [e0]; simp)] at er
    generalize mgAdd s' w top.row = a at *
    refine RowT.ld (c := cSl) (i := 1) (x := top.sl) rB rfl ?_
    refine RowT.ldA (x := ((top.no : Int), top.sl, top.ptr)) rB rfl rfl ?_
    rw [hptr]
    refine snext_ok hB hg h0 hy bd2 (by omega) (by omega) (by have := hP.length_eq; simp at this; omega) fun F3 C col3 y' hs2 L2 hC q2 q3 q4 q5 q6 q7 => ?_
    by_cases e1 : (y.r.next a.1).2.2.2.2 = 0
    ·rw [if_neg (by rw [e1]; simp)] at er
     refine br_f (by rw [e1]; rfl) ?_
     have bd3 := bd2.next (r := y.r) (by omega)
     have hset : (hl.set top.no none).set top.no (toldO (y.r.next a.1).2.2.1 (y.r.next a.1).2.2.2.1) = hl.set top.no (toldO (y.r.next a.1).2.2.1 (y.r.next a.1).2.2.2.1) := List.set_set _
     have hd : HeadsOf L2 (hl.set top.no (toldO (y.r.next a.1).2.2.1 (y.r.next a.1).2.2.2.1)) := by
      cases e : (y.r.next a.1).2.2.2.1 with
      | true =>
        obtain ⟨row, ptr, hP2⟩ := q3 e
        rw [e] at hset
        rw [← hset]
        exact hT'.push (x := ⟨top.no, row, ptr, (y.r.next a.1).2.2.1⟩) (by simpa using htl) hne hP2
      | false =>
        rw [q4 e]
        exact hT'
     have c1 := restL_set (rs := xs.map (·.r)) (i := top.no) (r := y.r) (r' := y'.r) (by rw [List.getElem?_map, hy]; rfl)
     have c2 := waitN_set (i := top.no) (b := toldO (y.r.next a.1).2.2.1 (y.r.next a.1).2.2.2.1) ((hT.mem top.no top.row).2 ⟨top, mt, rfl, rfl⟩)
     have c3 := RR.next_count (hM.rds.oks y (List.mem_of_getElem? hy)).1 a.1
     rw [q2] at c1
     simp only [Option.isSome_some, if_true] at c2
     refine ⟨f, ⟨col3, F3, _, xs.set top.no y', a.2.1, sw2, sl2, hs2, L2, _, hC, hd, by simp; exact hlen, by simp; exact hxl, ?_, ?_, rw2, bd3.mono (by omega) (by omega), by omega, (decide_eq_false (by omega)).symm, fun _ => ⟨?_, by rw [hla]; exact f16, fun b hb => ?_⟩⟩, Nat.lt_succ_self _⟩
     ·rw [List.map_set, q2]; omega
     ·rw [er, List.map_set, q2]
     ·rw [hla]
      exact oB.keep fun b hb hlt => q7 b hlt (cB b hb)
     ·rw [q5 b (oB.lt b hb)]; exact cB b hb
    ·rw [if_pos e1] at er
     rw [er] at hK
     exact br_t (by simpa using e1) (hK F3 C hC.rds.pool hC.rds.step)
end
theorem openL_bdd [Tab] {W : Int} {ns : List ByteArray} {s : Pl} {x y : Nat} (b : Bd s x y) (hl : ns.length ≤ 1000000) (hx : x < 900000000000) : Bd (openL W ns s).1 (x + 1000000) (y + 1000000) :=
 (openL_bd (ns := ns) (W := W) b (by omega)).mono (by omega) (by omega)
theorem mgMake_of [Tab] {rs : List RR} {m : Pl × Option RW × Int} {w : RW} (h : m.2.1 = some w) : mgMake rs m = mgGo (headsL rs m.1) w := by unfold mgMake; rw [h]
section
variable {H : Heap} {F : Nat → Prop} {p dp : Nat} {s : Pl} {names : Sl} {ns : List ByteArray} {to : ByteArray} {W : Int}
set_option maxHeartbeats 2000000 in
theorem Merge_ok [Tab] {K : (Int × Int) → Heap → Prop} {x y N : Nat} (hg : Gl H) (hp : PoolAt F H p dp s) (hn : names.n = ns.length) (hns : ∀ A, Mod F H A → RdE ESt A names.a ns) (hsz : ∀ n ∈ ns, n.size ≤ 9223372036854775807) (hto : to.size ≤ 9223372036854775807) (b : Bd s x y) (hl : ns.length ≤ 1000000) (hx : x < 800000000000) (hy : y < 50000000000)
  (hN : restL (openL W ns s).2.1 ≤ N) (hN1 : N ≤ 1000000000)
  (hK : ∀ F' A, PoolAt F' A p dp (mergeP s ns to W).1 → Step F F' H A → K (((mergeP s ns to W).2.1 : Int), (mergeP s ns to W).2.2) A) : Zdk.sp (at0 p) names to W H K := by
 refine Zdk.of ?_
 unfold Zdk.vc
 have hF0 := hp.glob
 have hgl := hg.lt
 refine br_f rfl ?_
 unfold mergeP at hK
 by_cases hne : ns = []
 ·rw [if_pos hne] at hK
  refine br_t (by rw [hn, hne]; rfl) ?_
  exact hK F H hp (.refl _ _)
 rw [if_neg hne] at hK
 have hnz : names.n ≠ 0 := by rw [hn]; exact fun q => hne (List.eq_nil_of_length_eq_zero q)
 refine br_f (by simpa using hnz) ?_
 have bO := openL_bdd (W := W) b hl (by omega)
 refine sopen_ok hg hp hn hns hsz b hl (by omega) (by omega) (fun e0 F1 A p1 S1 => ?_) (fun e0 F1 A col xs l hR hr hlen => ?_)
 ·rw [if_pos e0] at hK
  exact br_t (by simpa using e0) (hK F1 A p1 S1)
 rw [if_neg (by rw [e0]; simp)] at hK
 refine br_f rfl ?_
 rw [← hr] at hK hN
 generalize (openL W ns s).1 = s1 at *
 have hgA := hR.gl hg hF0
 have q1 := bO.lo
 have q2 := bO.hi
 have q3 := bO.logs
 have bM := bO.make (n := to) (W := W) (by omega)
 refine rmake_ok hgA hR.pool hto (by omega) (by omega) q1 bO.fit (fun F2 B p2 S2 o2 => ?_) (fun F2 B kw w p2 S2 o2 w2 k1 k2 => ?_)
 ·have e1 := rnMake_w.1 o2
  have em : mgMake (xs.map (·.r)) (rnMake s1 to W) = ((rnMake s1 to W).1, 0, (rnMake s1 to W).2.2) := by unfold mgMake; rw [o2]
  rw [em] at hK
  exact br_t (by simpa using e1) (hK F2 B p2 (hR.step.trans S2))
 obtain ⟨e1, hw, W0, W16⟩ := rnMake_w.2 w o2
 subst hw
 rw [mgMake_of o2] at hK
 generalize (rnMake s1 to W).1 = s2 at *
 rw [e1]
 refine br_f rfl ?_
 refine newC_rowT fun C zC rC eC => ?_
 have zR := hR.mod.size
 have zS := S2.mod.size
 have wrk : ∀ b, wrO kw nilS nilS b → b = kw := by
  rintro b (q | q | q)
  ·exact q
  ·exact absurd q (nilS_own b)
  ·exact absurd q (nilS_own b)
 have kwl := w2.lt kw (.inl rfl)
 obtain ⟨col1, c1, c2⟩ := colours col A.size F2 (fun b => b = kw) (fun b => b = B.size) 0 2 1 (fun b q r => k2 (r ▸ q)) (fun b q r => by have := p2.lt b q; omega) (fun b q r => by omega)
 have hR2 := hR.went (col' := col1) p2 S2.mod (fun b hb q => by rw [(hR.cF b q).1]; decide) (fun b hb q => (hR.cF b q).2.resolve_right (by omega)) (fun b q => by
  rcases S2.own b q with r | r
  ·rw [c1 b (hR.pool.lt b r)]; exact hR.cF b r
  ·exact ⟨(c2 b r).1 q, .inr (by omega)⟩) fun b hb _ => c1 b hb
 have hM : MgB H F col1 p dp F2 C s2 xs l kw (rw0 to W) nilS nilS B.size nilS [] := by
  refine ⟨hR2.ext eC, w2.mod eC fun _ _ => id, ⟨rC, SlE.nil _ _ _, fun x hx => (by cases hx), fun x hx => (by cases hx)⟩, fun b hb => ?_, fun b hb => ?_, fun x hx => (by cases hx), fun x hx => (by cases hx), fun i a b _ ha => by simp at ha⟩
  ·have := wrk b hb
   subst this
   exact ⟨(c2 b k1).2.1 rfl, .inr (by omega)⟩
  ·rcases hb with q | q
   ·subst q
    exact ⟨(c2 B.size (by omega)).2.2 rfl, by omega⟩
   ·exact absurd q (nilS_own b)
 have hxl : xs.length ≤ 1000000 := by omega
 have hln : l.n = xs.length := by rw [SlE.n hR.list (by decide)]; simp
 refine loop_upto xs.length (fun i z A => z = (i : Int) ∧ ∃ F' s' col xs' L hs hsl, MgB H F col p dp F' A s' xs' l kw (rw0 to W) nilS nilS B.size hsl L ∧ HeadsAt xs s2 i s' xs' L hs ∧ Bd s' (x + 1000001 + i) (y + 1000002 + i)) ⟨rfl, F2, s2, col1, xs, [], _, nilS, hM, .first xs s2, bM⟩ ?_
 rintro i z A' next hi ⟨rfl, F3, s3, col3, xs3, L3, hs3, hsl3, hM3, hH, b3⟩ hnext
 refine br_mk (fun hc => ?_) (fun hc => ?_)
 ·have hlt : i < xs.length := by have : (i : Int) < (l.n : Int) := by simpa using hc
                                 omega
  obtain ⟨yx, hyx, _⟩ := hH.at_ hlt
  have ok := (hM3.rds.oks yx (List.mem_of_getElem? hyx)).1
  refine RdE.one (E := EPtr) (c := cPtr) (y := at0 yx.k) hM3.rds.list.rd (by rw [hln]; simp [hH.len]) rfl (i := i) (x := yx.k) (by rw [List.getElem?_map, hyx]; rfl) rfl ?_
  refine snext_ok hM3 hg hF0 hyx b3 (by omega) (by omega) (by have := hH.heads.len; have := hH.hlen; omega) fun F4 B4 col4 y4 hs4 L4 hM4 r2 r3 r4 r5 r6 r7 => ?_
  by_cases ee : (yx.r.next s3).2.2.2.2 = 0
  ·refine br_f (by rw [ee]; rfl) ?_
   rw [succ64 i (by omega)]
   exact hnext hlt _ B4 ⟨rfl, F4, _, col4, _, L4, _, hs4, hM4, hH.next hlt hyx ok r2 ee r3 r4, (b3.next (r := yx.r) (by omega)).mono (by omega) (by omega)⟩
  ·obtain ⟨d1, d2⟩ := hH.bad hlt hyx ee
   unfold mgGo at hK
   rw [if_pos (by rw [d2]; exact ee), d1, d2] at hK
   exact br_t (by simpa using ee) (hK F4 B4 hM4.rds.pool hM4.rds.step)
 ·have hge : i = xs.length := by have : ¬ (i : Int) < (l.n : Int) := by simpa using hc
                                 omega
  subst hge
  have hd := hH.done
  unfold mgGo at hK
  rw [hd] at hK
  simp only at hK
  rw [if_neg (by simp)] at hK
  have hcnt := hH.count
  have hMA : MergeAt H F p dp A' l kw B.size to (restL (xs3.map (·.r)) + waitN hs3 + 1) (x + 2000002) (y + 2000004) (mgLoop (restL (xs3.map (·.r)) + waitN hs3 + 1) s3 (xs3.map (·.r)) hs3 (rw0 to W)) (restL (xs3.map (·.r)) + waitN hs3 + 1) (Sl.mk none 0 0, true) :=
   ⟨col3, F3, s3, xs3, rw0 to W, nilS, nilS, hsl3, L3, hs3, hM3, hH.heads, by rw [hH.hlen, hH.len], by rw [hH.len]; exact hxl, Nat.lt_succ_self _, rfl, by rw [Nat.sub_self]; exact rw0_ok to W0 W16, b3.mono (by omega) (by omega), Nat.le_refl _, rfl, fun q => absurd rfl q⟩
  exact mgLoop_ok hg hF0 hto (by omega) (by omega) (by omega) hMA hK
end
theorem addsL_bd [Tab] : ∀ {L : List (List Int)} {s : Pl} {w : RW} {x y : Nat}, Bd s x y → x + L.length < 1000000000000 → Bd (addsL L s w).1 (x + L.length) (y + 2 * L.length)
 | [], s, w, x, y, h, _ => h
 | l :: L, s, w, x, y, h, hx => by
   rw [List.length_cons] at hx ⊢
   have h1 := h.add (w := w) (by omega) l
   simp only [addsL]
   split
   ·exact h1.mono (by omega) (by omega)
   ·exact (addsL_bd (L := L) h1 (by omega)).mono (by omega) (by omega)
section
variable {A0 : Heap} {F : Nat → Prop} {p dp : Nat} {s : Pl} {name : ByteArray} {W : Int} {l : Sl} {qs : List Qr}
set_option maxHeartbeats 1000000 in
theorem wrRun_ok [Tab] {K : Int → Heap → Prop} {x y : Nat} (hg : Gl A0) (hp : PoolAt F A0 p dp s) (hq : QrAt A0 l qs) (hlF : ∀ b, ownB l b → ¬ F b) (hqF : ∀ q ∈ qs, ∀ b, ownB q.1 b → ¬ F b) (hl : qs.length ≤ 1000000) (hn : name.size ≤ 9223372036854775807) (b : Bd s x y) (hx : x < 800000000000) (hy : y < 50000000000)
  (hK : ∀ F' B, PoolAt F' B p dp (wrRun s name W (qs.map (·.2))).1 → Step F F' A0 B → K (wrRun s name W (qs.map (·.2))).2 B) :
  Zdy.sp (at0 p) name W A0 fun (r_1 : (Option Addr × Int)) H8 => br (r_1.2 != (0 : Int)) (K r_1.2 H8) (LoopVC Int (0 : Int) H8 fun next z H9 => br (decide (z < (l.n : Int))) (optK l.a fun a_7 => (0 ≤ z ∧ z < (l.n : Int)) ∧ ld cSl H9 (a_7.add (z.toNat * 1)) fun (x_5 : Sl) => Zcv.sp r_1.1 x_5 H9 fun (e : Int) H10 => br (e != (0 : Int)) (K e H10) (next (IntKind.i64.wrap (z + (1 : Int))) H10)) (Zce.sp r_1.1 H9 fun (r_2 : (Int × Int)) H11 => K r_2.2 H11)) := by
 have q1 := b.lo
 have q2 := b.hi
 have q3 := b.logs
 have bM := b.make (n := name) (W := W) (by omega)
 have hgl := hg.lt
 have hF0 := hp.glob
 unfold wrRun at hK
 refine rmake_ok hg hp hn (by omega) (by omega) q1 b.fit (fun F2 B p2 S2 o2 => ?_) (fun F2 B kw w p2 S2 o2 w2 k1 k2 => ?_)
 ·have e1 := rnMake_w.1 o2
  rw [o2] at hK
  exact br_t (by simpa using e1) (hK F2 B p2 S2)
 obtain ⟨e1, hw, W0, W16⟩ := rnMake_w.2 w o2
 subst hw
 rw [o2] at hK
 simp only at hK
 generalize (rnMake s name W).1 = s1 at *
 rw [e1]
 refine br_f rfl ?_
 have hln : l.n = qs.length := SlE.n hq.out (by decide)
 have wrk : ∀ b, wrO kw nilS nilS b → b = kw := by
  rintro b (q | q | q)
  ·exact q
  ·exact absurd q (nilS_own b)
  ·exact absurd q (nilS_own b)
 refine loop_upto qs.length (fun i z B => z = (i : Int) ∧ ∃ F' s' w sw sl, PoolAt F' B p dp s' ∧ WrB B kw p w sw sl ∧ (∀ b, F' b → ¬ wrO kw sw sl b) ∧ (∀ b, F' b ∨ wrO kw sw sl b → F b ∨ A0.size ≤ b) ∧ Mod F A0 B ∧ Bd s' (x + 1 + i) (y + 2 + 2 * i) ∧ RWOk w name i ∧
   addsL (qs.map (·.2)) s1 (rw0 name W) = addsL ((qs.map (·.2)).drop i) s' w) ⟨rfl, F2, s1, rw0 name W, nilS, nilS, p2, w2, fun b hb q => k2 ((wrk b q) ▸ hb), fun b hb => ?_, S2.mod, bM, rw0_ok name W0 W16, rfl⟩ ?_
 ·rcases hb with q | q
  ·exact S2.own b q
  ·have := wrk b q; exact .inr (by omega)
 rintro i z B next hi ⟨rfl, F', s', w, sw, sl, pB, wB, dB, oB, mB, bB, rB, eB⟩ hnext
 have hgB := hg.mod mB hF0
 have u1 := bB.lo
 have u2 := bB.hi
 have u3 := bB.logs
 have hgs : ¬ wrO kw sw sl gSteps := fun q => (oB _ (.inr q)).elim hF0 fun r => by omega
 have c1 := rB.wait
 have c2 := rB.n
 have c3 := rB.rows
 have offZ : ∀ b, b < A0.size → ¬ F b → ¬ (F' b ∨ wrO kw sw sl b) := fun b hb hn q => by
  rcases oB b q with r | r
  ·exact hn r
  ·omega
 refine br_mk (fun hc => ?_) (fun hc => ?_)
 ·have hlt : i < qs.length := by have : (i : Int) < (l.n : Int) := by simpa using hc
                                 omega
  obtain ⟨q, gq⟩ : ∃ q, qs[i]? = some q := ⟨_, List.getElem?_eq_getElem hlt⟩
  have mq := List.mem_of_getElem? gq
  have hqB : QrAt B l qs := ⟨hq.out.mod mB hlF, fun a ha => (hq.own a ha).mod mB (hqF a ha), hq.few⟩
  refine hqB.get gq ?_
  have hd : (qs.map (·.2)).drop i = q.2 :: (qs.map (·.2)).drop (i + 1) := by
   rw [List.drop_eq_getElem_cons (by simpa using hlt)]
   congr 1
   rw [List.getElem?_eq_getElem hlt] at gq
   rw [List.getElem_map, Option.some.inj gq]
  rw [hd] at eB
  simp only [addsL] at eB
  have bB' := bB.add (w := w) (by omega) q.2
  have rB' := (rB.add s' q.2).1
  refine radd_ok hgB hgs wB pB dB (hqB.ints mq) (fun ad ha r => offZ ad.block ((hq.own q mq).lt _ ⟨ad, ha, rfl⟩) (hqF q mq _ ⟨ad, ha, rfl⟩) (.inr r)) (by have := hq.few q mq; omega) (by omega) (by omega) (by omega) (by rw [rB.name]; exact hn) (by omega) (by omega) u1 bB.fit fun F3 sw3 sl3 C p3 w3 d3 S3 => ?_
  have o3 : ∀ b, F3 b ∨ wrO kw sw3 sl3 b → F b ∨ A0.size ≤ b := fun b r => by
   rcases S3.own b r with u | u
   ·exact oB b u
   ·have := mB.size; exact .inr (by omega)
  have m3 : Mod F A0 C := mB.trans' S3.mod fun b hb r => (oB b r).resolve_right (by omega)
  by_cases e0 : (w.add s' q.2).2.2 = 0
  ·rw [if_neg (by rw [e0]; simp)] at eB
   rw [e0]
   refine br_f rfl ?_
   rw [succ64 i (by omega)]
   exact hnext hlt _ C ⟨rfl, F3, _, _, sw3, sl3, p3, w3, d3, o3, m3, bB'.mono (by omega) (by omega), rB', eB⟩
  ·rw [if_pos e0] at eB
   rw [eB] at hK
   unfold endsL at hK
   rw [if_pos e0] at hK
   exact br_t (by simpa using e0) (hK F3 C p3 ⟨m3, fun b r => o3 b (.inl r)⟩)
 ·have hge : i = qs.length := by have : ¬ (i : Int) < (l.n : Int) := by simpa using hc
                                 omega
  subst hge
  have hd : (qs.map (·.2)).drop qs.length = [] := List.drop_of_length_le (by simp)
  rw [hd] at eB
  simp only [addsL] at eB
  rw [eB] at hK
  unfold endsL at hK
  rw [if_neg (by simp)] at hK
  have o := bB.out (w := w) (by omega)
  have o1 := o.hi
  have o2 := o.logs
  refine rclose_ok hgB hgs wB pB dB (by omega) rB.width.1 (by rw [rB.name]; exact hn) (by omega) (by omega) u1 bB.fit (by omega) (by omega) (fun h hd => ?_) fun F3 sw' C p3 w3 d3 S3 => ?_
  ·rw [Pl.leave_d, Pl.set_d]
   have := (w.out s').1.pin_logs w.b.name 0
   omega
  ·refine hK F3 C p3 ⟨mB.trans' S3.mod fun b hb r => (oB b r).resolve_right (by omega), fun b r => ?_⟩
   rcases S3.own b (.inl r) with u | u
   ·exact oB b u
   ·have := mB.size; exact .inr (by omega)
end
end Go.Proofs.YtacfhncgbgijhaaGreat
namespace Go.Proofs.YtacfhncgbgijhaaGreat
section
variable {M : Files} {W : Nat} {p : Pl} {Q U : Nat} {to : ByteArray} {out : List (List Int)} {w : RW} {i : Nat}
structure Wrote [Tab] (p p' : Pl) (M M' : Files) (to : ByteArray) (Q U' k : Nat) : Prop where
 calm : CalmM p' M' Q U'
 other : ∀ a, a ≠ to → M' a = M a
 room : RoomyM M'
 next : p.next ≤ p'.next ∧ p'.next ≤ p.next + k
 most : p'.most = p.most
theorem Wrote.trans [Tab] {p1 p2 : Pl} {M1 M2 : Files} {U1 U2 k1 k2 : Nat} (h : Wrote p p1 M M1 to Q U1 k1) (k : Wrote p1 p2 M1 M2 to Q U2 k2) : Wrote p p2 M M2 to Q U2 (k1 + k2) :=
 ⟨k.calm, fun a ha => (k.other a ha).trans (h.other a ha), k.room, by have := h.next; have := k.next; omega, k.most.trans h.most⟩
theorem mgAdd_on [Tab] (h2 : W ≤ 16) (ho : Rise W out) (hs : to.size ≤ 9223372036854775807) (hQ : Q ≤ 1048576) {y : List Int} {s : List (List Int)} (hC : CalmM p M Q U) (hR : RoomyM M) (hw : RunM M w to W (rmW W) out i) (ht : out.drop i = todoL i w.last (y :: s)) (hU : U + (out.length - i) < Q) (h0 : 0 ≤ p.next) (hx : p.next < 1099511627776) :
  (mgAdd p w y).2.2 = 0 ∧ ∃ M1 U1 i1, Wrote p (mgAdd p w y).1 M M1 to Q U1 2 ∧ RunM M1 (mgAdd p w y).2.1 to W (rmW W) out i1 ∧ U1 + i / rmW W = U + i1 / rmW W ∧ U1 + (out.length - i1) < Q ∧ out.drop i1 = todoL i1 (mgAdd p w y).2.1.last s := by
 rw [todoL_cons] at ht
 unfold mgAdd
 rw [hw.rows]
 by_cases hc : i = 0 ∨ cmpL y w.last ≠ 0
 ·rw [if_pos hc] at ht ⊢
  have hi : i < out.length := by
   have := congrArg List.length ht
   rw [List.length_drop, List.length_cons] at this
   omega
  rw [List.drop_eq_getElem_cons hi] at ht
  obtain ⟨hy, hd⟩ := List.cons.inj ht
  have hg : out.getD i [] = y := by rw [List.getD, List.getElem?_eq_getElem hi]; exact hy
  obtain ⟨a1, M', U', c1, c2, c3, c4, c5⟩ := hw.add hC hR (Nat.zero_le _) h2 ho hi hs hQ (by omega) h0 hx
  rw [hg] at a1 c1 c2 c3
  refine ⟨a1, M', U', i + 1, ⟨c1, c3.other, c3.room, c3.next, c3.most⟩, c2, c4, by omega, ?_⟩
  have hl := c2.last (Nat.succ_pos _)
  rw [Nat.add_sub_cancel, hg] at hl
  rw [hl, hd]
  unfold todoL
  rw [if_neg (by omega)]
 ·rw [if_neg hc] at ht ⊢
  refine ⟨rfl, M, U, i, ⟨hC, fun _ _ => rfl, hR, ⟨Int.le_refl _, by show p.next ≤ p.next + _; omega⟩, rfl⟩, hw, rfl, hU, ?_⟩
  rw [ht]
  unfold todoL
  rw [if_neg fun q => hc (.inl q)]
theorem mgLoop_on [Tab] (h2 : W ≤ 16) (ho : Rise W out) (hbig : out.length ≤ 1000000) (hs : to.size ≤ 9223372036854775807) (hQ : Q ≤ 1048576) : ∀ (f : Nat) {p : Pl} {M : Files} {U : Nat} {xs : List MgX} {w : RW} {i : Nat}, CalmM p M Q U → RoomyM M → (∀ x ∈ xs, x.Good M W ∧ x.n ≠ to) → RunM M w to W (rmW W) out i → out.drop i = todoL i w.last (srtL (remsL xs)) → (remsL xs).length < f → U + (out.length - i) < Q → 0 ≤ p.next → p.next + 3 * f < 1099511627770 →
  (mgLoop f p (xs.map (·.r)) (xs.map (·.h)) w).2 = (out.length, 0) ∧ ∃ M' U', Wrote p (mgLoop f p (xs.map (·.r)) (xs.map (·.h)) w).1 M M' to Q U' (3 * f) ∧ RanM M' to W (rmW W) out ∧ U' + i / rmW W = U + pagesN out.length (rmW W)
 | 0, p, M, U, xs, w, i, _, _, _, _, _, hf, _, _, _ => absurd hf (Nat.not_lt_zero _)
 | f + 1, p, M, U, xs, w, i, hC, hR, hx, hw, ht, hf, hU, h0, hn => by
   unfold mgLoop
   cases e : bestL (xs.map (·.h)) with
   | none =>
     have hr := rems_none (fun x q => (hx x q).1) e
     rw [hr] at ht
     have e0 : srtL [] = [] := List.eq_nil_of_length_eq_zero (by rw [(srtL_perm []).length_eq]; rfl)
     rw [e0, todoL_nil] at ht
     have hi : i = out.length := by
      have := hw.le
      have := congrArg List.length ht
      rw [List.length_drop, List.length_nil] at this
      omega
     subst hi
     obtain ⟨a1, M', U', c1, c2, c3, c4, _⟩ := hw.close hC hR (Nat.zero_le _) h2 ho hs hQ (by omega) h0 (by omega)
     simp only
     rw [a1]
     exact ⟨rfl, M', U', ⟨c1, c3.other, c3.room, ⟨c3.next.1, by have := c3.next.2; omega⟩, c3.most⟩, c2, c4⟩
   | some q =>
     obtain ⟨j, y⟩ := q
     obtain ⟨x, s, hj, hh, hrem, hs0, hsr⟩ := rems_best (fun x q => (hx x q).1) e
     obtain ⟨gx, nx⟩ := hx x (List.mem_of_getElem? hj)
     rw [hs0] at ht
     obtain ⟨a0, M1, U1, i1, W1, w1, u1, u2, t1⟩ := mgAdd_on h2 ho hs hQ hC hR hw ht hU h0 (by omega)
     simp only
     rw [if_neg (by rw [a0]; simp)]
     generalize mgAdd p w y = a at *
     have hgj : (xs.map (·.r)).getD j default = x.r := by rw [List.getD, List.getElem?_map, hj]; rfl
     rw [hgj]
     have g1 := gx.keep (W1.other _ nx)
     have q1 := W1.next
     obtain ⟨b0, b1, b2, b3, b4, b5⟩ := next_good g1.run g1.rise g1.on g1.size g1.big W1.calm h2 hQ (by omega) (by omega) (by omega)
     rw [if_neg (by rw [b0]; simp)]
     obtain ⟨x', e1, e2, e3, e4, g'⟩ : ∃ x' : MgX, x'.r = (x.r.next a.1).2.1 ∧ x'.h = toldO (x.r.next a.1).2.2.1 (x.r.next a.1).2.2.2.1 ∧ x'.rem = x.rem.tail ∧ x'.n = x.n ∧ x'.Good M1 W := ⟨⟨x.n, x.L, x.L.drop x.r.at_, (x.r.next a.1).2.1, toldO (x.r.next a.1).2.2.1 (x.r.next a.1).2.2.2.1⟩, rfl, rfl, gx.rem.symm, rfl, b5⟩
     rw [← e1, ← e2, ← List.map_set, ← List.map_set]
     have hlen := (rems_set (x' := x') hj (by rw [hrem, e3])).length_eq
     rw [List.length_cons] at hlen
     rw [← hsr x' e3] at t1
     obtain ⟨r1, M2, U2, r2, r3, r4⟩ := mgLoop_on h2 ho hbig hs hQ f (p := (x.r.next a.1).1) (xs := xs.set j x') b1 W1.room (fun z hz => by
      rcases List.mem_or_eq_of_mem_set hz with q | q
      ·obtain ⟨g, n⟩ := hx z q
       exact ⟨g.keep (W1.other _ n), n⟩
      ·subst q; exact ⟨g', by rw [e4]; exact nx⟩) w1 t1 (by omega) u2 (by omega) (by omega)
     refine ⟨r1, M2, U2, ?_, r3, by omega⟩
     have := (W1.trans ⟨b1, fun _ _ => rfl, W1.room, ⟨b2, b3⟩, b4⟩ : Wrote p (x.r.next a.1).1 M M1 to Q U1 (2 + 1)).trans r2
     exact ⟨this.calm, this.other, this.room, ⟨this.next.1, by have := this.next.2; omega⟩, this.most⟩
theorem dd_len : ∀ (l : List (List Int)) (a : List Int), (dd a l).length ≤ l.length
 | [], _ => Nat.le_refl _
 | b :: l, a => by
   simp only [dd]
   have h1 := dd_len l a
   have h2 := dd_len l b
   split <;> simp only [List.length_cons] <;> omega
theorem once_len (l : List (List Int)) : (onceL (srtL l)).length ≤ l.length := by
 have h := (srtL_perm l).length_eq
 cases e : srtL l with
 | nil => exact Nat.zero_le _
 | cons a t =>
   rw [e] at h
   simp only [onceL, List.length_cons] at h ⊢
   have := dd_len t a
   omega
structure FileG (M : Files) (W : Nat) (a : ByteArray × List (List Int)) : Prop where
 run : RanM M a.1 W (rmW W) a.2
 rise : Rise W a.2
 size : a.1.size ≤ 9223372036854775807
 big : a.2.length ≤ 1000000
theorem FileG.keep [Tab] {M' : Files} {a : ByteArray × List (List Int)} (h : FileG M W a) (e : M' a.1 = M a.1) : FileG M' W a := ⟨h.run.keep e, h.rise, h.size, h.big⟩
def rrOf (W : Nat) (a : ByteArray × List (List Int)) : RR := rr0 a.1 W a.2.length
theorem openL_on [Tab] (h2 : W ≤ 16) (hQ : Q ≤ 1048576) (hU : U ≤ Q) : ∀ {fs : List (ByteArray × List (List Int))} {p : Pl}, CalmM p M Q U → (∀ a ∈ fs, FileG M W a) → 0 ≤ p.next → p.next + fs.length < 1099511627776 →
  (openL W (fs.map (·.1)) p).2 = (fs.map (rrOf W), 0) ∧ CalmM (openL W (fs.map (·.1)) p).1 M Q U ∧ p.next ≤ (openL W (fs.map (·.1)) p).1.next ∧ (openL W (fs.map (·.1)) p).1.next ≤ p.next + fs.length ∧ (openL W (fs.map (·.1)) p).1.most = p.most
 | [], p, hC, _, h0, _ => ⟨rfl, hC, Int.le_refl _, by show p.next ≤ p.next + 0; omega, rfl⟩
 | a :: fs, p, hC, hf, h0, hn => by
   have g := hf a List.mem_cons_self
   rw [List.length_cons] at hn
   obtain ⟨c1, c2, c3, c4, c5, _⟩ := g.run.opened hC (Nat.zero_le _) h2 g.size hQ hU g.big h0 (by omega)
   obtain ⟨d1, d2, d3, d4, d5⟩ := openL_on h2 hQ hU (fs := fs) c2 (fun b hb => hf b (List.mem_cons_of_mem _ hb)) (by omega) (by omega)
   have e : openL W ((a :: fs).map (·.1)) p = ((openL W (fs.map (·.1)) (rnOpen p a.1 W).1).1, rr0 a.1 W a.2.length :: (openL W (fs.map (·.1)) (rnOpen p a.1 W).1).2.1, (openL W (fs.map (·.1)) (rnOpen p a.1 W).1).2.2) := by
    rw [List.map_cons]
    simp only [openL]
    rw [c1]
   rw [e, d1]
   rw [List.length_cons]
   exact ⟨rfl, d2, by show p.next ≤ (openL _ _ _).1.next; omega, by show (openL _ _ _).1.next ≤ _; omega, d5.trans c5⟩
theorem headsL_on [Tab] (h2 : W ≤ 16) (hQ : Q ≤ 1048576) (hU : U ≤ Q) : ∀ {fs : List (ByteArray × List (List Int))} {p : Pl}, CalmM p M Q U → (∀ a ∈ fs, FileG M W a) → 0 ≤ p.next → p.next + fs.length < 1099511627776 →
  (headsL (fs.map (rrOf W)) p).2.2.2 = 0 ∧ CalmM (headsL (fs.map (rrOf W)) p).1 M Q U ∧ p.next ≤ (headsL (fs.map (rrOf W)) p).1.next ∧ (headsL (fs.map (rrOf W)) p).1.next ≤ p.next + fs.length ∧ (headsL (fs.map (rrOf W)) p).1.most = p.most ∧
   ∃ xs : List MgX, (headsL (fs.map (rrOf W)) p).2.1 = xs.map (·.r) ∧ (headsL (fs.map (rrOf W)) p).2.2.1 = xs.map (·.h) ∧ (∀ x ∈ xs, x.Good M W ∧ (x.n, x.L) ∈ fs) ∧ remsL xs = fs.flatMap (·.2)
 | [], p, hC, _, h0, _ => ⟨rfl, hC, Int.le_refl _, by show p.next ≤ p.next + 0; omega, rfl, [], rfl, rfl, by simp, rfl⟩
 | a :: fs, p, hC, hf, h0, hn => by
   have g := hf a List.mem_cons_self
   rw [List.length_cons] at hn
   have hon : RdOn (rr0 a.1 W a.2.length) a.1 W (rmW W) a.2 := ⟨rfl, rfl, Nat.zero_le _, fun j hj => (by cases hj), fun l hl => (by cases hl)⟩
   obtain ⟨c1, c2, c3, c4, c5, c6⟩ := next_good g.run g.rise hon g.size g.big hC h2 hQ hU h0 (by omega)
   obtain ⟨d1, d2, d3, d4, d5, xs, x1, x2, x3, x4⟩ := headsL_on h2 hQ hU (fs := fs) c2 (fun b hb => hf b (List.mem_cons_of_mem _ hb)) (by omega) (by omega)
   have hr : rrOf W a = rr0 a.1 W a.2.length := rfl
   rw [← hr] at c1 c2 c3 c4 c5 c6 d1 d2 d3 d4 d5 x1 x2
   have e : headsL ((a :: fs).map (rrOf W)) p = ((headsL (fs.map (rrOf W)) ((rrOf W a).next p).1).1, ((rrOf W a).next p).2.1 :: (headsL (fs.map (rrOf W)) ((rrOf W a).next p).1).2.1, toldO ((rrOf W a).next p).2.2.1 ((rrOf W a).next p).2.2.2.1 :: (headsL (fs.map (rrOf W)) ((rrOf W a).next p).1).2.2.1, (headsL (fs.map (rrOf W)) ((rrOf W a).next p).1).2.2.2) := by
    rw [List.map_cons]
    simp only [headsL]
    rw [if_neg (by rw [c1]; simp)]
   rw [e, List.length_cons]
   refine ⟨d1, d2, by show p.next ≤ (headsL _ _).1.next; omega, by show (headsL _ _).1.next ≤ _; omega, d5.trans c5, ⟨a.1, a.2, a.2.drop (rrOf W a).at_, ((rrOf W a).next p).2.1, toldO ((rrOf W a).next p).2.2.1 ((rrOf W a).next p).2.2.2.1⟩ :: xs, ?_, ?_, ?_, ?_⟩
   ·rw [List.map_cons, ← x1]
   ·rw [List.map_cons, ← x2]
   ·intro x hx
    rcases List.mem_cons.1 hx with q | q
    ·subst q; exact ⟨c6, List.mem_cons_self⟩
    ·exact ⟨(x3 x q).1, List.mem_cons_of_mem _ (x3 x q).2⟩
   ·unfold remsL at x4 ⊢
    rw [List.flatMap_cons, List.flatMap_cons, x4]
    rfl
theorem mergeP_on [Tab] (h2 : W ≤ 16) (hQ : Q ≤ 1048576) {fs : List (ByteArray × List (List Int))} (hC : CalmM p M Q U) (hR : RoomyM M) (hf : ∀ a ∈ fs, FileG M W a) (hne : fs ≠ []) (hM : M to = none) (hn : named to = true) (hs : to.size ≤ 9223372036854775807) {ns : List ByteArray} (hns : ∀ a y, M a = some y → a ∈ ns) (hnl : ns.length < 4096)
  (hout : out = onceL (srtL (fs.flatMap (·.2)))) (hbig : (fs.flatMap (·.2)).length ≤ 1000000) (hfl : fs.length ≤ 1000000) (hU : U + 1 + out.length < Q) (h0 : 0 ≤ p.next) (hnx : p.next < 1000000000000) :
  (mergeP p (fs.map (·.1)) to W).2 = (out.length, 0) ∧ ∃ M' U', Wrote p (mergeP p (fs.map (·.1)) to W).1 M M' to Q U' (2 * fs.length + 3 * (fs.flatMap (·.2)).length + 5) ∧ RanM M' to W (rmW W) out ∧ Rise W out ∧ U' = U + 1 + pagesN out.length (rmW W) := by
 obtain ⟨o1, o2, o3, o4, o5⟩ := openL_on h2 hQ (by omega) hC hf h0 (by omega)
 have hfl' : (openL W (fs.map (·.1)) p).1.d.files.length < 4096 := by have := o2.told.files_le hns; omega
 have ho : Rise W out := by
  rw [hout]
  have hmem : ∀ y ∈ onceL (srtL (fs.flatMap (·.2))), ∃ a ∈ fs, y ∈ a.2 := fun y hy => List.mem_flatMap.1 ((srtL_perm _).mem_iff.1 (onceL_mem.1 hy))
  refine rise_of (onceL_up (srtL_up _)) (fun y hy => ?_) (fun y hy => ?_)
  ·obtain ⟨a, ha, q⟩ := hmem y hy; exact (hf a ha).rise.len y q
  ·obtain ⟨a, ha, q⟩ := hmem y hy; exact (hf a ha).rise.fit y q
 obtain ⟨e, M1, c1, c2, c3⟩ := make_m (rs := out) o2 hR hM hn hs hfl' (by omega) (by omega) (by omega) (Nat.zero_le _) h2
 have hto : ∀ a ∈ fs, a.1 ≠ to := fun a ha q => by
  obtain ⟨T, q1, _⟩ := (hf a ha).run.file
  rw [q, hM] at q1; cases q1
 have q3 := c3.next
 obtain ⟨d1, d2, d3, d4, d5, xs, x1, x2, x3, x4⟩ := headsL_on h2 hQ (by omega) c1 (fun a ha => (hf a ha).keep (c3.other _ (hto a ha))) (by omega) (by omega)
 have em : mergeP p (fs.map (·.1)) to W = mgGo (headsL (fs.map (rrOf W)) (rnMake (openL W (fs.map (·.1)) p).1 to W).1) (rw0 to W) := by
  unfold mergeP
  rw [if_neg (by simpa using hne), o1]
  simp only
  rw [if_neg (by simp)]
  unfold mgMake
  have : (rnMake (openL W (fs.map (·.1)) p).1 to W).2.1 = some (rw0 to W) := by rw [e]
  rw [this]
 rw [em]
 unfold mgGo
 rw [if_neg (by rw [d1]; simp), x1, x2]
 have hlen : restL (xs.map (·.r)) + waitN (xs.map (·.h)) = (fs.flatMap (·.2)).length := by rw [← x4]; exact rems_count fun x hx => (x3 x hx).1
 have hol : out.length ≤ (fs.flatMap (·.2)).length := by rw [hout]; exact once_len _
 obtain ⟨r1, M2, U2, r2, r3, r4⟩ := mgLoop_on h2 ho (by omega) hs hQ (restL (xs.map (·.r)) + waitN (xs.map (·.h)) + 1) (xs := xs) d2 c3.room (fun x hx => ⟨(x3 x hx).1, hto _ (x3 x hx).2⟩) c2 (by
  rw [x4, List.drop_zero, hout]; rfl) (by rw [x4]; omega) (by omega) (by omega) (by omega)
 refine ⟨r1, M2, U2, ⟨r2.calm, fun a ha => (r2.other a ha).trans (c3.other a ha), r2.room, ⟨by have := r2.next; omega, by have := r2.next; omega⟩, r2.most.trans (d5.trans (c3.most.trans o5))⟩, r3, ho, ?_⟩
 rw [Nat.zero_div] at r4
 omega
end
section
variable {M : Files} {W : Nat} {p : Pl} {Q U : Nat} {to : ByteArray} {out : List (List Int)}
theorem addsL_on [Tab] (h2 : W ≤ 16) (ho : Rise W out) (hs : to.size ≤ 9223372036854775807) (hQ : Q ≤ 1048576) : ∀ (l : List (List Int)) {p : Pl} {M : Files} {U : Nat} {w : RW} {i : Nat}, l = out.drop i → CalmM p M Q U → RoomyM M → RunM M w to W (rmW W) out i → U + (out.length - i) < Q → 0 ≤ p.next → p.next + 2 * l.length < 1099511627776 →
  (addsL l p w).2.2 = 0 ∧ ∃ M' U', Wrote p (addsL l p w).1 M M' to Q U' (2 * l.length) ∧ RunM M' (addsL l p w).2.1 to W (rmW W) out out.length ∧ U' + i / rmW W = U + out.length / rmW W ∧ U' < Q
 | [], p, M, U, w, i, hl, hC, hR, hw, hU, h0, _ => by
   have hi : i = out.length := by
    have := hw.le
    have := congrArg List.length hl
    rw [List.length_drop, List.length_nil] at this
    omega
   subst hi
   exact ⟨rfl, M, U, ⟨hC, fun _ _ => rfl, hR, ⟨Int.le_refl _, by show p.next ≤ p.next + _; omega⟩, rfl⟩, hw, rfl, by omega⟩
 | y :: l, p, M, U, w, i, hl, hC, hR, hw, hU, h0, hn => by
   have hi : i < out.length := by
    have := congrArg List.length hl
    rw [List.length_drop, List.length_cons] at this
    omega
   rw [List.drop_eq_getElem_cons hi] at hl
   obtain ⟨hy, hd⟩ := List.cons.inj hl
   have hg : out.getD i [] = y := by rw [List.getD, List.getElem?_eq_getElem hi]; exact hy.symm
   rw [List.length_cons] at hn
   obtain ⟨a1, M1, U1, c1, c2, c3, c4, c5⟩ := hw.add hC hR (Nat.zero_le _) h2 ho hi hs hQ (by omega) h0 (by omega)
   rw [hg] at a1 c1 c2 c3
   have q3 := c3.next
   obtain ⟨d1, M2, U2, d2, d3, d4, d5⟩ := addsL_on h2 ho hs hQ l hd c1 c3.room c2 (by omega) (by omega) (by omega)
   simp only [addsL]
   rw [if_neg (by rw [a1]; simp), List.length_cons]
   refine ⟨d1, M2, U2, ⟨d2.calm, fun a ha => (d2.other a ha).trans (c3.other a ha), d2.room, ⟨by have := d2.next; omega, by have := d2.next; omega⟩, d2.most.trans c3.most⟩, d3, by omega, d5⟩
theorem wrRun_on [Tab] (h2 : W ≤ 16) (hQ : Q ≤ 1048576) (hC : CalmM p M Q U) (hR : RoomyM M) (ho : Rise W out) (hM : M to = none) (hn : named to = true) (hs : to.size ≤ 9223372036854775807) {ns : List ByteArray} (hns : ∀ a y, M a = some y → a ∈ ns) (hnl : ns.length < 4096)
  (hbig : out.length ≤ 1000000) (hU : U + 1 + out.length < Q) (h0 : 0 ≤ p.next) (hnx : p.next < 1000000000000) :
  (wrRun p to W out).2 = 0 ∧ ∃ M' U', Wrote p (wrRun p to W out).1 M M' to Q U' (2 * out.length + 4) ∧ RanM M' to W (rmW W) out ∧ U' = U + 1 + pagesN out.length (rmW W) := by
 have hfl := hC.told.files_le hns
 obtain ⟨e, M1, c1, c2, c3⟩ := make_m (rs := out) hC hR hM hn hs (by omega) (by omega) h0 (by omega) (Nat.zero_le _) h2
 have q3 := c3.next
 obtain ⟨d1, M2, U2, d2, d3, d4, d5⟩ := addsL_on h2 ho hs hQ out rfl c1 c3.room c2 (by omega) (by omega) (by omega)
 have q4 := d2.next
 obtain ⟨a1, M3, U3, k1, k2, k3, k4, _⟩ := d3.close d2.calm d2.room (Nat.zero_le _) h2 ho hs hQ d5 (by omega) (by omega)
 have em : wrRun p to W out = endsL (addsL out (rnMake p to W).1 (rw0 to W)) := by
  unfold wrRun
  have : (rnMake p to W).2.1 = some (rw0 to W) := by rw [e]
  rw [this]
 rw [em]
 unfold endsL
 rw [if_neg (by rw [d1]; simp), a1]
 have q5 := k3.next
 rw [Nat.zero_div] at d4
 exact ⟨rfl, M3, U3, ⟨k1, fun a ha => (k3.other a ha).trans ((d2.other a ha).trans (c3.other a ha)), k3.room, ⟨by show _ ≤ (RW.close _ _).1.next; omega, by show (RW.close _ _).1.next ≤ _; omega⟩, k3.most.trans (d2.most.trans c3.most)⟩, k2, by omega⟩
def pagesL (W : Nat) (fs : List (ByteArray × List (List Int))) : Nat := (fs.map fun a => 1 + pagesN a.2.length (rmW W)).sum
theorem dropL_on [Tab] : ∀ {fs : List (ByteArray × List (List Int))} {p : Pl} {M : Files} {U : Nat}, CalmM p M Q U → RoomyM M → (∀ a ∈ fs, FileG M W a) → (fs.map (·.1)).Nodup →
  (dropL (fs.map (·.1)) p).2 = 0 ∧ ∃ M', CalmM (dropL (fs.map (·.1)) p).1 M' Q (U - pagesL W fs) ∧ RoomyM M' ∧ (∀ a, a ∉ fs.map (·.1) → M' a = M a) ∧ (∀ a ∈ fs.map (·.1), M' a = none) ∧ (dropL (fs.map (·.1)) p).1.next = p.next ∧ (dropL (fs.map (·.1)) p).1.most = p.most
 | [], p, M, U, hC, hR, _, _ => ⟨rfl, M, hC, hR, fun _ _ => rfl, fun a ha => (by cases ha), rfl, rfl⟩
 | x :: fs, p, M, U, hC, hR, hf, hd => by
   rw [List.map_cons, List.nodup_cons] at hd
   obtain ⟨T, q1, _⟩ := (hf x List.mem_cons_self).run.file
   obtain ⟨a1, a2, a3, a4⟩ := hC.dropF q1
   have hne : ∀ a ∈ fs, a.1 ≠ x.1 := fun a ha q => hd.1 (List.mem_map.2 ⟨a, ha, q⟩)
   obtain ⟨b1, M', b2, b3, b4, b5, b6, b7⟩ := dropL_on (fs := fs) a2 hR.less (fun a ha => (hf a (List.mem_cons_of_mem _ ha)).keep (setF_other (hne a ha))) hd.2
   rw [List.map_cons]
   simp only [dropL]
   rw [if_neg (by rw [a1]; simp)]
   have eU : U - pagesL W (x :: fs) = U - (1 + pagesN x.2.length (rmW W)) - pagesL W fs := by
    unfold pagesL
    rw [List.map_cons, List.sum_cons]; omega
   rw [eU]
   refine ⟨b1, M', b2, b3, fun a ha => ?_, fun a ha => ?_, b6.trans a4, b7.trans a3⟩
   ·rw [List.mem_cons, not_or] at ha
    rw [b4 a ha.2, setF_other ha.1]
   ·by_cases q : a ∈ fs.map (·.1)
    ·exact b5 a q
    ·rw [b4 a q]
     rcases List.mem_cons.1 ha with u | u
     ·rw [u, setF_same]
     ·exact absurd u q
theorem pagesN_some {n room : Nat} (h : 1 ≤ room) : pagesN n room ≤ n := by
 unfold pagesN
 rw [Nat.div_le_iff_le_mul_add_pred h]
 have : n ≤ room * n := Nat.le_mul_of_pos_left _ h
 omega
theorem pagesL_le (h2 : W ≤ 16) : ∀ fs : List (ByteArray × List (List Int)), pagesL W fs ≤ fs.length + (fs.flatMap (·.2)).length
 | [] => Nat.le_refl _
 | a :: fs => by
   have h := pagesL_le h2 fs
   have r := (roomL_width (Nat.zero_le _) h2).2.1
   have := pagesN_some (n := a.2.length) (show 1 ≤ rmW W by omega)
   unfold pagesL at h ⊢
   rw [List.map_cons, List.sum_cons, List.flatMap_cons, List.length_append, List.length_cons]
   omega
theorem pagesL_append (fs gs : List (ByteArray × List (List Int))) : pagesL W (fs ++ gs) = pagesL W fs + pagesL W gs := by
 unfold pagesL; rw [List.map_append, List.sum_append]
end
theorem sideN_inj [Tab] {n : ByteArray} {i j : Nat} (hi : i < 100) (hj : j < 100) (h : sideN n i = sideN n j) : i = j := by
 have h1 := congrArg (fun b : ByteArray => b.data.toList) h
 unfold sideN at h1
 simp only [ByteArray.data_append, Array.toList_append] at h1
 have h2 := List.append_cancel_left h1
 have e : itoaB i = itoaB j := ByteArray.ext (Array.ext' h2)
 have a := (itoa_all i hi).1
 have b := (itoa_all j hj).1
 rw [e] at a
 exact a.symm.trans b
theorem sideN_size [Tab] (n : ByteArray) (i : Nat) : (sideN n i).size = n.size + 1 + (itoaB i).size := by
 unfold sideN
 rw [ByteArray.size_append, ByteArray.size_append]
 rfl
theorem sideN_ne [Tab] (n : ByteArray) (i : Nat) : sideN n i ≠ n := fun h => by
 have := congrArg ByteArray.size h
 rw [sideN_size] at this
 omega
theorem sideN_named [Tab] {n : ByteArray} {i : Nat} (hi : i < 100) (hn : n.size ≤ 97) : named (sideN n i) = true := by
 have := (itoa_all i hi).2
 unfold named
 rw [sideN_size]
 simp only [Bool.and_eq_true, decide_eq_true_eq]
 omega
open Go.MapKept
def soV [Tab] (p : Nat) (t : So) (sw ss : Sl) : Array Value := #[.pointer (at0 p), .string t.name, .int .i64 t.width, .int .i64 t.frames, sw.v, ss.v, .int .i64 (t.next : Int), .int .i64 t.wrong, .bool t.closed]
structure SoR [Tab] (H : Heap) (k p : Nat) (t : So) (sw : Sl) (rs : List Sl) (ss : Sl) : Prop where
 row : RowT H k Yal (soV p t sw ss)
 wait : RowsOwn H 0 sw rs t.wait
 names : RdE ESt H ss.a t.side
 n : ss.n = t.side.length ∧ ss.n ≤ ss.c
 few : ∀ l ∈ t.wait, l.length ≤ 16
structure SoB [Tab] (H : Heap) (k p : Nat) (t : So) (sw : Sl) (rs : List Sl) (ss : Sl) : Prop where
 rd : SoR H k p t sw rs ss
 side : SlE ESt YaL H ss t.side
def soO (k : Nat) (sw : Sl) (rs : List Sl) (ss : Sl) (b : Nat) : Prop := b = k ∨ ownB sw b ∨ (∃ x ∈ rs, ownB x b) ∨ ownB ss b
structure SoZ [Tab] (t : So) : Prop where
 name : t.name.size ≤ 1000000
 wait : t.wait.length ≤ 400000
 side : t.side.length ≤ 1000
 sizes : ∀ n ∈ t.side, n.size ≤ 9223372036854775807
 next : t.next < 100
 frames : 0 ≤ t.frames ∧ t.frames ≤ 1000000
section
variable {H : Heap} {k p dp : Nat} {t : So} {sw ss : Sl} {rs : List Sl} {F : Nat → Prop} {s : Pl}
theorem SoB.mk' [Tab] (row : RowT H k Yal (soV p t sw ss)) (wait : RowsOwn H 0 sw rs t.wait) (side : SlE ESt YaL H ss t.side) (few : ∀ l ∈ t.wait, l.length ≤ 16) : SoB H k p t sw rs ss :=
 ⟨⟨row, wait, side.rd, ⟨SlE.n side (by decide), Owns.cap side⟩, few⟩, side⟩
theorem SoR.offW [Tab] (h : SoR H k p t sw rs ss) : ¬ ownB sw k := fun q => by
 obtain ⟨cur, hc⟩ := h.wait.out.obj k q
 exact absurd (cells_ty hc h.row) (by decide)
theorem SoR.offR [Tab] (h : SoR H k p t sw rs ss) : ∀ x ∈ rs, ¬ ownB x k := fun x hx q => by
 obtain ⟨l, hl⟩ := h.wait.rowAt hx
 obtain ⟨cur, hc⟩ := hl.obj k q
 exact absurd (cells_ty hc h.row) (by decide)
theorem SoB.offS [Tab] (h : SoB H k p t sw rs ss) : ¬ ownB ss k := fun q => by
 obtain ⟨cur, hc⟩ := h.side.obj k q
 exact absurd (cells_ty hc h.rd.row) (by decide)
theorem SoB.lt [Tab] (h : SoB H k p t sw rs ss) : ∀ b, soO k sw rs ss b → b < H.size := by
 rintro b (q | q | ⟨x, hx, q⟩ | q)
 ·subst q; exact obj_lt h.rd.row
 ·exact (h.rd.wait.block.1 b q).2
 ·exact (h.rd.wait.block.2 x hx b q).2
 ·exact h.side.lt b q
theorem SoB.mod [Tab] {G : Nat → Prop} {H' : Heap} (h : SoB H k p t sw rs ss) (m : Mod G H H') (hn : ∀ b, soO k sw rs ss b → ¬ G b) : SoB H' k p t sw rs ss :=
 .mk' (h.rd.row.mod m (hn k (.inl rfl))) (h.rd.wait.mod m (fun b hb => hn b (.inr (.inl hb))) fun x hx b hb => hn b (.inr (.inr (.inl ⟨x, hx, hb⟩)))) (h.side.mod m fun b hb => hn b (.inr (.inr (.inr hb)))) h.rd.few
theorem soReady_ok [Tab] {K : Int → Heap → Prop} (h : RowT H k Yal (soV p t sw ss)) (hK : K t.ready H) : ZbQ.sp (at0 k) H K := by
 refine ZbQ.of ?_
 unfold ZbQ.vc
 unfold So.ready at hK
 unfold at0
 simp only [optK_eq]
 refine br_f rfl ?_
 refine h.ld (c := cInt .i64) (i := 7) (x := t.wrong) rfl ?_
 refine br_mk (fun hc => ?_) (fun hc => ?_)
 ·refine h.ld (c := cInt .i64) (i := 7) (x := t.wrong) rfl ?_
  rw [if_pos (by simpa using hc)] at hK
  exact hK
 ·rw [if_neg (by simpa using hc)] at hK
  refine h.ld (c := cBool) (i := 8) (x := t.closed) rfl ?_
  cases hcl : t.closed with
  | true => rw [hcl, if_pos rfl] at hK; exact hK
  | false => rw [hcl, if_neg (by simp)] at hK; exact hK
theorem itoaB_size [Tab] {n : Nat} (h : n < 100) : (itoaB n).size ≤ 2 := (itoa_all n h).2
theorem sideName_ok [Tab] {K : ByteArray → Heap → Prop} (h : RowT H k Yal (soV p t sw ss)) (hn : t.next < 100) (hs : t.name.size ≤ 1000000)
  (hK : ∀ H', RowT H' k Yal (soV p (t.to (t.next + 1)) sw ss) → Mod (fun b => b = k) H H' → H'.size = H.size → K (sideN t.name t.next) H') : ZbF.sp (at0 k) H K := by
 refine ZbF.of ?_
 unfold ZbF.vc
 unfold at0
 simp only [optK_eq]
 refine h.ld (c := cInt .i64) (i := 6) (x := (t.next : Int)) rfl ?_
 rw [succ64 t.next (by omega)]
 refine RowT.st h (i := 6) (by simp [soV]) rfl fun H1 r1 m1 z1 => ?_
 have r1' : RowT H1 k Yal (soV p (t.to (t.next + 1)) sw ss) := r1
 have h1 : tilB.size = 1 := rfl
 refine ⟨fun A => RowT A k Yal (soV p (t.to (t.next + 1)) sw ss), r1', ?_⟩
 refine RowT.ldC (c := cStr) (i := 1) (x := t.name) (cs := fun _ => _) (fun _ q => q) (fun _ _ => rfl) ?_
 have hsz : t.name.size + (ByteArray.mk #[126]).size ≤ 1000001 := by show t.name.size + 1 ≤ _; omega
 refine ⟨by omega, ?_⟩
 refine r1'.ld (c := cInt .i64) (i := 6) (x := ((t.next + 1 : Nat) : Int)) rfl ?_
 have e : IntKind.i64.wrap (((t.next + 1 : Nat) : Int) - 1) = (t.next : Int) := by rw [wrap64 (by omega) (by omega)]; omega
 rw [e]
 refine Itoa_ok hn ⟨r1', ?_, hK H1 r1' m1 z1⟩
 have := itoaB_size hn
 rw [ByteArray.size_append]
 omega
set_option maxHeartbeats 1000000 in
theorem aside_ok [Tab] {K : Int → Heap → Prop} {x y : Nat} (hg : Gl H) (hgs : ¬ soO k sw rs ss gSteps) (h : SoB H k p t sw rs ss) (hp : PoolAt F H p dp s) (dis : ∀ b, F b → ¬ soO k sw rs ss b) (hz : SoZ t) (b : Bd s x y) (hx : x < 800000000000) (hy : y < 50000000000)
  (hK : ∀ F' ss' H', PoolAt F' H' p dp (t.aside s).1 → SoB H' k p (t.aside s).2.1 nilS [] ss' → (∀ b, F' b → ¬ soO k nilS [] ss' b) → Step (fun b => F b ∨ soO k sw rs ss b) (fun b => F' b ∨ soO k nilS [] ss' b) H H' → K (t.aside s).2.2 H') : ZbN.sp (at0 k) H K := by
 refine ZbN.of ?_
 unfold ZbN.vc
 unfold at0
 simp only [optK_eq]
 have hqs := h.rd.wait.qr h.rd.few
 obtain ⟨z1, z2⟩ := qr_zip h.rd.wait.len
 have hql : (rs.zip t.wait).length ≤ 400000 := by
  have := congrArg List.length z2
  rw [List.length_map] at this
  have := hz.wait; omega
 have offQ : ∀ q ∈ rs.zip t.wait, ∀ b, ownB q.1 b → ∃ x ∈ rs, ownB x b := fun q hq b hb => ⟨q.1, by rw [← z1]; exact List.mem_map.2 ⟨q, hq, rfl⟩, hb⟩
 have hoffW := h.rd.offW
 have hoffS := h.offS
 have hk := obj_lt h.rd.row
 refine h.rd.row.ld (c := cSl) (i := 4) (x := sw) rfl ?_
 refine sortRows_ok hqs (by omega) fun qs' A hP hsort hA mA => ?_
 have rA := h.rd.row.mod mA hoffW
 refine rA.ld (c := cSl) (i := 4) (x := sw) rfl ?_
 have hPl := hP.length_eq
 refine compact_ok hA (by omega) fun n B hn hB mB => ?_
 have mAB : Mod (ownB sw) H B := mA.trans mB
 have rB := h.rd.row.mod mAB hoffW
 refine sideName_ok rB hz.next hz.name fun C rC mC zC => ?_
 have sOff : ∀ b, ownB ss b → ¬ ownB sw b := fun b hb => h.side.apart h.rd.wait.out (by decide) b hb
 have sC : SlE ESt YaL C ss t.side := (h.side.mod mAB sOff).mod mC fun b hb q => hoffS (q ▸ hb)
 refine rC.ld (c := cSl) (i := 5) (x := ss) rfl ?_
 refine SlE.push (E := ESt) (x := sideN t.name t.next) elSt sC rfl (by have := hz.side; omega) (by have := hz.side; omega) fun ss' D oD gD _ => ?_
 have zAB := mAB.size
 have newOff : ¬ ownB ss' k := fun q => by
  rcases gD.2 k q with r | r
  ·exact hoffS r
  ·omega
 have rD := rC.mod gD.1 hoffS
 refine RowT.st rD (i := 4) (by simp [soV]) rfl fun D1 r1 m1 z1' => ?_
 refine RowT.st r1 (i := 5) (by simp [soV]) rfl fun D2 r2 m2 z2' => ?_
 have m12 : Mod (fun q => q = k) D D2 := m1.trans m2
 have r2' : RowT D2 k Yal (soV p t.asided nilS ss') := r2
 have o2 : SlE ESt YaL D2 ss' (t.side ++ [sideN t.name t.next]) := oD.mod m12 fun b hb q => newOff (q ▸ hb)
 refine r2'.ld (c := cPtr) (i := 0) (x := at0 p) rfl ?_
 refine r2'.ld (c := cInt .i64) (i := 2) (x := t.width) rfl ?_
 -- what was written so far
 have zCD := gD.1.size
 have zD2 := m12.size
 have mH : Mod (soO k sw rs ss) H D2 := by
  have a1 : Mod (soO k sw rs ss) H C := (mAB.mono fun b _ q => .inr (.inl q)).trans' mC fun b _ q => .inl q
  have a2 : Mod (soO k sw rs ss) H D := a1.trans' gD.1 fun b _ q => .inr (.inr (.inr q))
  exact a2.trans' m12 fun b _ q => .inl q
 have pD : PoolAt F D2 p dp s := hp.keep fun b hb hl => mH.same b hl (dis b hb)
 have gD2 : Gl D2 := hg.mod mH hgs
 have lB : ∀ b, ownB (⟨sw.a, n, sw.c⟩ : Sl) b → ownB sw b := fun b hb => hb
 have memQ : ∀ q ∈ onceQ qs', q ∈ rs.zip t.wait := fun q hq => hP.mem_iff.1 (onceQ_sub hq)
 have ssW : ∀ b, ownB sw b → b < H.size := fun b hb => (h.rd.wait.block.1 b hb).2
 have rowsD : QrAt D2 ⟨sw.a, n, sw.c⟩ (onceQ qs') := by
  have keepO : ∀ b, b < H.size → ¬ ownB ss b → b ≠ k → D2[b]? = B[b]? := fun b hb n1 n2 => by
   have a1 := mC.same b (by omega) n2
   have a2 := gD.1.same b (by omega) n1
   have a3 := m12.same b (by omega) n2
   rw [a3, a2, a1]
  refine ⟨hB.out.keep fun b hb _ => keepO b (ssW b hb) (fun q => sOff b q hb) fun q => hoffW (q ▸ hb), fun q hq => (hB.own q hq).keep fun b hb _ => ?_, hB.few⟩
  obtain ⟨x, hx, hb'⟩ := offQ q (memQ q hq) b hb
  obtain ⟨l, hl⟩ := h.rd.wait.rowAt hx
  exact keepO b ((h.rd.wait.block.2 x hx b hb').2) (fun q => h.side.apart hl (by decide) b q hb') fun q => h.rd.offR x hx (q ▸ hb')
 have ekey : (onceQ qs').map (·.2) = onceL (srtL t.wait) := by rw [onceQ_map, hsort, z2]
 have hol : (onceQ qs').length ≤ 400000 := by
  have a := once_len t.wait
  have c := congrArg List.length ekey
  rw [List.length_map] at c
  have := hz.wait; omega
 unfold So.aside at hK
 rw [← ekey] at hK
 refine wrRun_ok gD2 pD rowsD (fun b hb q => dis b q (.inr (.inl hb))) (fun q hq b hb r => dis b r (.inr (.inr (.inl (offQ q (memQ q hq) b hb))))) (by omega) (by have := itoaB_size hz.next; have := hz.name; rw [sideN_size]; omega) b hx hy fun F' E pE SE => ?_
 have offE : ∀ b, soO k nilS [] ss' b → ¬ F b := by
  rintro b (q | q | ⟨x, hx, _⟩ | q) hb
  ·exact dis b hb (.inl q)
  ·exact absurd q (nilS_own b)
  ·cases hx
  ·rcases gD.2 b q with r | r
   ·exact dis b hb (.inr (.inr (.inr r)))
   ·have := hp.lt b hb; omega
 have ltE : ∀ b, soO k nilS [] ss' b → b < D2.size := by
  rintro b (q | q | ⟨x, hx, _⟩ | q)
  ·omega
  ·exact absurd q (nilS_own b)
  ·cases hx
  ·exact o2.lt b q
 have hB2 : SoB D2 k p t.asided nilS [] ss' := .mk' r2' (RowsOwn.nil _ _) o2 fun l hl => (by cases hl)
 refine hK F' ss' E pE (hB2.mod SE.mod offE) (fun b hb q => ?_) ⟨(mH.mono fun b _ q => .inr q).trans' SE.mod fun b _ q => .inl q, fun b hb => ?_⟩
 ·rcases SE.own b hb with r | r
  ·exact offE b q r
  ·have := ltE b q; omega
 ·rcases hb with q | q | q | ⟨x, hx, _⟩ | q
  ·rcases SE.own b q with r | r
   ·exact .inl (.inl r)
   ·exact .inr (by omega)
  ·exact .inl (.inr (.inl q))
  ·exact absurd q (nilS_own b)
  ·cases hx
  ·rcases gD.2 b q with r | r
   ·exact .inl (.inr (.inr (.inr (.inr r))))
   ·exact .inr (by omega)
end
end Go.Proofs.YtacfhncgbgijhaaGreat
namespace Go.Proofs.YtacfhncgbgijhaaGreat
theorem headsL_bd [Tab] : ∀ {rs : List RR} {s : Pl} {x y : Nat}, Bd s x y → x + rs.length < 1000000000000 → Bd (headsL rs s).1 (x + rs.length) (y + rs.length)
 | [], s, x, y, h, _ => h
 | r :: rs, s, x, y, h, hx => by
   rw [List.length_cons] at hx ⊢
   have h1 := h.next (r := r) (by omega)
   simp only [headsL]
   split
   ·exact h1.mono (by omega) (by omega)
   ·exact (headsL_bd (rs := rs) h1 (by omega)).mono (by omega) (by omega)
theorem mgAdd_bd [Tab] {s : Pl} {w : RW} {l : List Int} {x y : Nat} (h : Bd s x y) (hx : x < 1000000000000) : Bd (mgAdd s w l).1 (x + 1) (y + 2) := by
 unfold mgAdd
 split
 ·exact h.add hx l
 ·exact h.mono (by omega) (by omega)
theorem mgLoop_bd [Tab] : ∀ (f : Nat) {s : Pl} {rs : List RR} {hs : List (Option (List Int))} {w : RW} {x y : Nat}, Bd s x y → x + 2 * f < 999999999990 → (mgLoop f s rs hs w).1.fs.length ≤ 4096 → Bd (mgLoop f s rs hs w).1 (x + 2 * f + 2) (y + 3 * f + 4200)
 | 0, s, rs, hs, w, x, y, h, _, _ => h.mono (by omega) (by omega)
 | f + 1, s, rs, hs, w, x, y, h, hx, hw => by
   unfold mgLoop at hw ⊢
   split at hw
   ·exact (h.close (by omega) hw).mono (by omega) (by omega)
   ·rename_i i l e
    have h1 := mgAdd_bd (w := w) (l := l) h (by omega)
    split at hw
    ·rename_i e1
     rw [if_pos e1]
     exact h1.mono (by omega) (by omega)
    ·rename_i e1
     rw [if_neg e1]
     have h2 := h1.next (r := rs.getD i default) (by omega)
     split at hw
     ·rename_i e2
      rw [if_pos e2]
      exact h2.mono (by omega) (by omega)
     ·rename_i e2
      rw [if_neg e2]
      exact (mgLoop_bd f h2 (by omega) hw).mono (by omega) (by omega)
theorem openL_len [Tab] {W : Int} : ∀ {ns : List ByteArray} {s : Pl}, (openL W ns s).2.1.length ≤ ns.length
 | [], s => Nat.le_refl _
 | n :: ns, s => by
   simp only [openL]
   split
   ·exact Nat.zero_le _
   ·simp only [List.length_cons]
    have := openL_len (W := W) (ns := ns) (s := (rnOpen s n W).1)
    omega
theorem headsL_count [Tab] : ∀ {rs : List RR} {s : Pl}, (∀ r ∈ rs, r.Ok) → restL (headsL rs s).2.1 + waitN (headsL rs s).2.2.1 ≤ restL rs
 | [], s, _ => Nat.le_refl _
 | r :: rs, s, h => by
   simp only [headsL]
   split
   ·exact Nat.zero_le _
   ·have a := RR.next_count (h r List.mem_cons_self) s
    have b := headsL_count (rs := rs) (s := (r.next s).1) fun x hx => h x (List.mem_cons_of_mem _ hx)
    simp only [restL, waitN, List.map_cons, List.sum_cons] at b ⊢
    omega
theorem openL_ok [Tab] {W : Int} : ∀ {ns : List ByteArray} {s : Pl}, ∀ r ∈ (openL W ns s).2.1, r.Ok
 | [], s, r, h => by cases h
 | n :: ns, s, r, h => by
   simp only [openL] at h
   split at h
   ·cases h
   ·rename_i q e
    rcases List.mem_cons.1 h with u | u
    ·subst u; exact (rnOpen_ok e).1
    ·exact openL_ok (ns := ns) r u
theorem mergeP_bd [Tab] {s : Pl} {ns : List ByteArray} {to : ByteArray} {W : Int} {x y N : Nat} (h : Bd s x y) (hl : ns.length ≤ 1000) (hx : x + 2 * N < 900000000000) (hN : restL (openL W ns s).2.1 ≤ N) (hw : (mergeP s ns to W).1.fs.length ≤ 4096) : Bd (mergeP s ns to W).1 (x + 2 * N + 3000) (y + 3 * N + 9000) := by
 unfold mergeP at hw ⊢
 split at hw
 ·rename_i e
  rw [if_pos e]
  exact h.mono (by omega) (by omega)
 ·rename_i e
  rw [if_neg e]
  have h1 := openL_bd (ns := ns) (W := W) h (by omega)
  split at hw
  ·rename_i e1
   rw [if_pos e1]
   exact h1.mono (by omega) (by omega)
  ·rename_i e1
   rw [if_neg e1]
   have h2 := h1.make (n := to) (W := W) (by omega)
   unfold mgMake at hw ⊢
   split at hw
   ·exact h2.mono (by omega) (by omega)
   ·rename_i w e2
    have hr := openL_len (W := W) (ns := ns) (s := s)
    have h3 := headsL_bd (rs := (openL W ns s).2.1) h2 (by omega)
    have hc := headsL_count (s := (rnMake (openL W ns s).1 to W).1) (openL_ok (W := W) (ns := ns) (s := s))
    unfold mgGo at hw ⊢
    split at hw
    ·rename_i e3
     rw [if_pos e3]
     exact h3.mono (by omega) (by omega)
    ·rename_i e3
     rw [if_neg e3]
     exact (mgLoop_bd _ h3 (by omega) hw).mono (by omega) (by omega)
theorem wrRun_bd [Tab] {s : Pl} {n : ByteArray} {W : Int} {L : List (List Int)} {x y : Nat} (h : Bd s x y) (hx : x + L.length < 900000000000) (hw : (wrRun s n W L).1.fs.length ≤ 4096) : Bd (wrRun s n W L).1 (x + L.length + 10) (y + 2 * L.length + 5000) := by
 have h1 := h.make (n := n) (W := W) (by omega)
 unfold wrRun at hw ⊢
 split at hw
 ·exact h1.mono (by omega) (by omega)
 ·rename_i w e
  have h2 := addsL_bd (L := L) (w := w) h1 (by omega)
  unfold endsL at hw ⊢
  split at hw
  ·rename_i e1
   rw [if_pos e1]
   exact h2.mono (by omega) (by omega)
  ·rename_i e1
   rw [if_neg e1]
   exact (h2.close (by omega) hw).mono (by omega) (by omega)
open Go.MapKept
section
variable {H : Heap} {k p dp : Nat} {t : So} {sw ss : Sl} {rs : List Sl} {F : Nat → Prop} {s : Pl}
theorem PoolAt.frames [Tab] (h : PoolAt F H p dp s) : s.fs.length ≤ 4096 := Nat.le_trans h.wf.len h.wf.most.2
theorem soNew_ok [Tab] {n : ByteArray} {W fr : Int} {K : (Option Addr × Int) → Heap → Prop} (hp : PoolAt F H p dp s)
  (hK0 : (soNew s n W fr).1 = none → K (none, (soNew s n W fr).2) H) (hK1 : (soNew s n W fr).1 = some (so0 n W fr) → (soNew s n W fr).2 = 0 → ∀ H', Ext H H' → SoB H' H.size p (so0 n W fr) nilS [] nilS → K (at0 H.size, 0) H') : Zdt.sp (at0 p) n W fr H K := by
 refine Zdt.of ?_
 unfold Zdt.vc
 unfold soNew at hK0 hK1
 have made : roomL W ≠ 0 → ¬ (fr < 3 ∨ fr > s.most) → newC H #[(.pointer (at0 p)), (.string n), (.int .i64 W), (.int .i64 fr), (.slice none 0 0), (.slice none 0 0), (.int .i64 (0 : Int)), (.int .i64 (0 : Int)), (.bool false)] Yal fun p_1 H2 => K (some p_1, (0 : Int)) H2 := fun h1 h2 => by
  rw [if_neg h1, if_neg h2] at hK1
  refine newC_rowT fun H1 z1 r1 e1 => ?_
  exact hK1 rfl rfl H1 e1 (.mk' r1 (RowsOwn.nil _ _) (SlE.nil _ _ _) fun l hl => (by cases hl))
 refine br_f rfl ?_
 refine rowRoom_ok ?_
 refine br_mk (fun hc => ?_) (fun hc => ?_)
 ·have h1 : roomL W = 0 := by simpa using hc
  rw [if_pos h1] at hK0
  exact hK0 rfl
 have h1 : roomL W ≠ 0 := by simpa using hc
 rw [if_neg h1] at hK0
 refine br_mk (fun hc => ?_) (fun hc => ?_)
 ·have h2 : fr < 3 := by simpa using hc
  rw [if_pos (.inl h2)] at hK0
  exact br_t hc (hK0 rfl)
 have h2 : ¬ fr < 3 := by simpa using hc
 refine Frames_ok hp ?_
 refine br_mk (fun hc => ?_) (fun hc => ?_)
 ·have h3 : fr > s.most := by simpa using hc
  rw [if_pos (.inr h3)] at hK0
  exact hK0 rfl
 have h3 : ¬ fr > s.most := by simpa using hc
 exact made h1 fun q => q.elim h2 h3
set_option maxHeartbeats 1000000 in
theorem SAdd_ok [Tab] {K : Int → Heap → Prop} {l : Sl} {ll : List Int} {x y : Nat} (hg : Gl H) (hgs : ¬ soO k sw rs ss gSteps) (h : SoB H k p t sw rs ss) (hp : PoolAt F H p dp s) (dis : ∀ b, F b → ¬ soO k sw rs ss b) (hz : SoZ t) (hz2 : t.wait.length < 400000) (hW : t.width ≤ 16) (hl : Ints .u64 H l ll) (b : Bd s x y) (hx : x < 800000000000) (hy : y < 50000000000)
  (hK : ∀ F' sw' rs' ss' H', PoolAt F' H' p dp (t.add s ll).1 → SoB H' k p (t.add s ll).2.1 sw' rs' ss' → (∀ b, F' b → ¬ soO k sw' rs' ss' b) → Step (fun b => F b ∨ soO k sw rs ss b) (fun b => F' b ∨ soO k sw' rs' ss' b) H H' → K (t.add s ll).2.2 H') : ZbX.sp (at0 k) l H K := by
 refine ZbX.of ?_
 unfold ZbX.vc
 unfold So.add at hK
 refine soReady_ok h.rd.row ?_
 unfold at0
 simp only [optK_eq]
 refine br_mk (fun hc => ?_) (fun hc => ?_)
 ·rw [if_pos (by simpa using hc)] at hK
  exact hK F sw rs ss H hp h dis (.refl _ _)
 rw [if_neg (by simpa using hc)] at hK
 refine h.rd.row.ld (c := cInt .i64) (i := 2) (x := t.width) rfl ?_
 have hln := hl.len
 refine br_mk (fun hc => ?_) (fun hc => ?_)
 ·have e1 : (ll.length : Int) ≠ t.width := by rw [← hln]; simpa using hc
  rw [if_pos e1] at hK
  exact hK F sw rs ss H hp h dis (.refl _ _)
 have e1 : ¬ (ll.length : Int) ≠ t.width := by rw [← hln]; simpa using hc
 rw [if_neg e1] at hK
 have hll : ll.length ≤ 16 := by omega
 refine ⟨fun A => RowT A k Yal (soV p t sw ss), h.rd.row, ?_⟩
 refine RowT.ldC (c := cSl) (i := 4) (x := sw) (cs := fun _ => _) (fun _ q => q) (fun _ _ => rfl) ?_
 refine CloneU_ok hl (by omega) fun r A oA eA fA => ?_
 have hA := h.mod eA fun _ _ => id
 have hk := obj_lt h.rd.row
 refine ⟨hA.rd.row, ?_⟩
 have hwn := h.rd.wait.n
 show RowT (A.push _) k _ _ ∧ _
 refine ⟨hA.rd.row.ext (Mod.push _ _ _), RowsOwn.pushG (base := 0) hA.rd.wait oA (fun x hx b hb hb' => ?_) (by omega) (Nat.zero_le _) fun s' B n1 o1 m1 g1 => ?_⟩
 ·have := fA b hb
  have := (h.rd.wait.block.2 x hx b hb').2
  omega
 have hoffW := hA.rd.offW
 have zA := eA.size
 have newOff : ¬ ownB s' k := fun q => by
  rcases g1 k q with r | r
  ·exact hoffW r
  ·omega
 refine RowT.st (hA.rd.row.mod m1 hoffW) (i := 4) (by simp [soV]) rfl fun C rC mC zC => ?_
 obtain ⟨t1, ht1⟩ : ∃ t1 : So, t1 = { t with wait := t.wait ++ [ll] } := ⟨_, rfl⟩
 rw [← ht1] at hK
 have rC' : RowT C k Yal (soV p t1 s' ss) := by rw [ht1]; exact rC
 have rowOff : ∀ x ∈ rs ++ [r], ¬ ownB x k := fun x hx q => by
  rcases List.mem_append.1 hx with u | u
  ·exact hA.rd.offR x u q
  ·rw [List.mem_singleton] at u
   subst u
   have := fA k q; omega
 have hC : SoB C k p t1 s' (rs ++ [r]) ss := by
  refine .mk' rC' ?_ ?_ ?_
  ·rw [ht1]
   exact o1.mod mC (fun b hb q => newOff (q ▸ hb)) fun x hx b hb q => rowOff x hx (q ▸ hb)
  ·rw [ht1]
   exact (hA.side.mod m1 fun b hb q => hA.side.apart hA.rd.wait.out (by decide) b hb q).mod mC fun b hb q => hA.offS (q ▸ hb)
  ·rw [ht1]
   intro x hx
   rcases List.mem_append.1 hx with u | u
   ·exact h.rd.few x u
   ·rw [List.mem_singleton] at u
    subst u; exact hll
 have z1 := m1.size
 have mHC : Mod (fun b => b = k ∨ ownB sw b) H C := ((Ext.mod eA).trans' m1 fun b _ q => .inr q).trans' mC fun b _ q => .inl q
 have own' : ∀ b, soO k s' (rs ++ [r]) ss b → soO k sw rs ss b ∨ H.size ≤ b := by
  rintro b (q | q | ⟨x, hx, q⟩ | q)
  ·exact .inl (.inl q)
  ·rcases g1 b q with u | u
   ·exact .inl (.inr (.inl u))
   ·exact .inr (by omega)
  ·rcases List.mem_append.1 hx with u | u
   ·exact .inl (.inr (.inr (.inl ⟨x, u, q⟩)))
   ·rw [List.mem_singleton] at u
    subst u
    exact .inr (fA b q)
  ·exact .inl (.inr (.inr (.inr q)))
 have dis' : ∀ b, F b → ¬ soO k s' (rs ++ [r]) ss b := fun b hb q => by
  rcases own' b q with u | u
  ·exact dis b hb u
  ·have := hp.lt b hb; omega
 have pC : PoolAt F C p dp s := hp.keep fun b hb hlt => mHC.same b hlt fun q => dis b hb (q.imp_right .inl)
 refine ⟨fun A => RowT A k Yal (soV p t1 s' ss), rC', ?_⟩
 refine RowT.ldC (c := cSl) (i := 4) (x := s') (cs := fun _ => _) (fun _ q => q) (fun _ _ => rfl) ?_
 refine RowT.ldC (c := cInt .i64) (i := 3) (x := t.frames) (cs := fun _ => _) (fun _ q => q) (fun _ _ => by rw [ht1]; rfl) ?_
 refine rC'.ld (c := cInt .i64) (i := 2) (x := t.width) (by rw [ht1]; rfl) ?_
 refine rowRoom_ok ⟨rC', ?_⟩
 obtain ⟨rm1, rm2⟩ := roomL_nat ⟨t.name, t.width, 0, false⟩
 simp only at rm1
 have hf := hz.frames
 have p1 : t.frames * roomL t.width ≤ 1000000 * 504 := Int.mul_le_mul hf.2 (by omega) (by omega) (by decide)
 have p0 : 0 ≤ t.frames * roomL t.width := Int.mul_nonneg hf.1 (by omega)
 rw [wrap64 (by omega) (by omega)]
 have zH := mHC.size
 refine br_mk (fun hc => ?_) (fun hc => ?_)
 ·have e2 : ((t.wait.length + 1 : Nat) : Int) < t.frames * roomL t.width := by
   have : (s'.n : Int) < t.frames * roomL t.width := by simpa using hc
   omega
  rw [if_pos e2] at hK
  refine hK F s' (rs ++ [r]) ss C pC hC dis' ⟨mHC.mono fun b _ q => .inr (q.imp_right .inl), fun b hb => ?_⟩
  rcases hb with u | u
  ·exact .inl (.inl u)
  ·exact (own' b u).imp .inr id
 ·have e2 : ¬ ((t.wait.length + 1 : Nat) : Int) < t.frames * roomL t.width := by
   have : ¬ (s'.n : Int) < t.frames * roomL t.width := by simpa using hc
   omega
  rw [if_neg e2] at hK
  have hz1 : SoZ t1 := by rw [ht1]; exact ⟨hz.name, by simp; omega, hz.side, hz.sizes, hz.next, hz.frames⟩
  have gC : Gl C := hg.mod mHC fun q => hgs (q.imp_right .inl)
  refine aside_ok gC (fun q => (own' _ q).elim hgs fun u => by have := hg.lt; omega) hC pC dis' hz1 b hx hy fun F2 ss2 D pD hD dD SD => ?_
  have offN : ∀ b, soO k nilS [] ss2 b → ¬ b = k → ownB ss2 b := by
   rintro b (q | q | ⟨x, hx, _⟩ | q) hn
   ·exact absurd q hn
   ·exact absurd q (nilS_own b)
   ·cases hx
   ·exact q
  refine RowT.st hD.rd.row (i := 7) (by simp [soV]) rfl fun E rE mE zE => ?_
  have rE' : RowT E k Yal (soV p { t1.asided with wrong := (t1.aside s).2.2 } nilS ss2) := rE
  refine rE'.ld (c := cInt .i64) (i := 7) (x := (t1.aside s).2.2) rfl ?_
  have hoffS := hD.offS
  refine hK F2 nilS [] ss2 E (pD.keep fun b hb hlt => mE.same b hlt fun q => dD b hb (.inl q)) (.mk' rE' (RowsOwn.nil _ _) (hD.side.mod mE fun b hb q => hoffS (q ▸ hb)) fun l hl => (by cases hl)) dD ⟨?_, fun b hb => ?_⟩
  ·have a1 : Mod (fun b => F b ∨ soO k sw rs ss b) H D := (mHC.mono fun b _ q => .inr (q.imp_right .inl)).trans' SD.mod fun b hb q => q.imp_right fun u => (own' b u).resolve_right (by omega)
   exact a1.trans' mE fun b _ q => .inr (.inl q)
  ·rcases SD.own b hb with (u | u) | u
   ·exact .inl (.inl u)
   ·exact (own' b u).imp .inr id
   ·exact .inr (by omega)
end
section
variable {H : Heap} {k p dp : Nat} {t : So} {sw ss : Sl} {rs : List Sl} {F : Nat → Prop} {s : Pl}
theorem slA_own {a : Option Addr} {c lo n n' c' b : Nat} (h : ownB (Sl.mk (slA a c lo 1) n c') b) : ownB (Sl.mk a n' c) b := by
 obtain ⟨ad, e1, e2⟩ := h
 have e1 : slA a c lo 1 = some ad := e1
 unfold slA at e1
 split at e1
 ·exact ⟨ad, e1, e2⟩
 ·cases a with
  | none => cases e1
  | some a0 =>
    simp at e1
    exact ⟨a0, rfl, by rw [← e2, ← e1, add_block]⟩
set_option maxHeartbeats 1000000 in
theorem smerge_ok [Tab] {K : (Int × Int) → Heap → Prop} {c x y N : Nat} {to : ByteArray} (hg : Gl H) (hgs : ¬ soO k sw rs ss gSteps) (h : SoB H k p t sw rs ss) (hp : PoolAt F H p dp s) (dis : ∀ b, F b → ¬ soO k sw rs ss b) (hz : SoZ t) (hto : to.size ≤ 9223372036854775807) (hc : c ≤ t.side.length) (b : Bd s x y) (hx : x + 2 * N < 700000000000) (hy : y + 3 * N < 40000000000)
  (hN : restL (openL t.width (t.side.take c) s).2.1 ≤ N) (hN1 : N ≤ 1000000000)
  (hK : ∀ F' ss' H', PoolAt F' H' p dp (t.merge s c to).1 → SoR H' k p (t.merge s c to).2.1 sw rs ss' → (∀ b, ownB ss' b → ownB ss b) → Mod (fun b => F b ∨ b = k) H H' → (∀ b, F' b → F b ∨ H.size ≤ b) → Bd (t.merge s c to).1 (x + 2 * N + 3000) (y + 3 * N + 9000) → K (((t.merge s c to).2.2.1 : Int), (t.merge s c to).2.2.2) H') : ZbP.sp (at0 k) (c : Int) to H K := by
 refine ZbP.of ?_
 unfold ZbP.vc
 unfold at0
 simp only [optK_eq]
 have hn := h.rd.n
 have hF0 := hp.glob
 refine h.rd.row.ld (c := cSl) (i := 5) (x := ss) rfl ?_
 refine ⟨⟨by omega, by omega⟩, ?_⟩
 simp only [Int.toNat_natCast, Nat.sub_zero, slA_z]
 refine h.rd.row.ld (c := cPtr) (i := 0) (x := at0 p) rfl ?_
 refine h.rd.row.ld (c := cInt .i64) (i := 2) (x := t.width) rfl ?_
 have hsS := hz.side
 have htl : (t.side.take c).length = c := by rw [List.length_take]; omega
 have offS : ∀ b, ownB ss b → ¬ F b := fun b hb q => dis b q (.inr (.inr (.inr hb)))
 have rdA : ∀ A, Mod F H A → RdE ESt A ss.a t.side := fun A m => h.rd.names.keep fun ad ha hlt => m.same _ hlt fun q => offS _ ⟨ad, ha, rfl⟩ q
 refine Merge_ok (names := Sl.mk ss.a c ss.c) hg hp htl.symm (fun A m => (rdA A m).take) (fun n hn => hz.sizes n (List.mem_of_mem_take hn)) hto b (by omega) (by omega) (by omega) hN hN1 fun F1 A p1 S1 => ?_
 have bM := mergeP_bd (to := to) b (by omega) (by omega) hN p1.frames
 unfold So.merge at hK
 generalize mergeP s (t.side.take c) to t.width = m at *
 -- the side runs are dropped
 refine loop_upto c (fun i z B => z.2 = (i : Int) ∧ ∃ F' s', PoolAt F' B p dp s' ∧ Step F F' H B ∧ Bd s' (x + 2 * N + 3000) (y + 3 * N + 9000) ∧ dropM (t.side.take c) m = (if z.1 ≠ 0 then (s', z.1) else dropL ((t.side.take c).drop i) s')) ⟨rfl, F1, m.1, p1, S1, bM, rfl⟩ ?_
 rintro i ⟨e, j⟩ B next hi ⟨hj, F2, s2, p2, S2, b2, h2⟩ hnext
 simp only at hj
 subst hj
 simp only at h2 ⊢
 have rowB : RowT B k Yal (soV p t sw ss) := h.rd.row.mod S2.mod fun q => dis k q (.inl rfl)
 have hgB := hg.mod S2.mod hF0
 refine br_mk (fun hc2 => ?_) (fun hc2 => ?_)
 ·have hlt : i < c := by have : (i : Int) < (c : Int) := by simpa using hc2
                         omega
  have hni : (t.side.take c)[i]? = some ((t.side.take c)[i]'(by omega)) := List.getElem?_eq_getElem (by omega)
  have hd : (t.side.take c).drop i = (t.side.take c)[i]'(by omega) :: (t.side.take c).drop (i + 1) := List.drop_eq_getElem_cons (by omega)
  rw [hd] at h2
  refine RdE.one (E := ESt) (c := cStr) (s := Sl.mk ss.a c ss.c) (rdA B S2.mod).take htl.symm rfl hni rfl ?_
  rw [succ64 i (by omega)]
  refine br_mk (fun hc3 => ?_) (fun hc3 => ?_)
  ·have e0 : e = 0 := by simpa using hc3
   rw [if_neg (by rw [e0]; simp)] at h2
   refine rowB.ld (c := cPtr) (i := 0) (x := at0 p) rfl ?_
   refine Drop_ok hgB p2 fun F3 C p3 S3 => ?_
   refine hnext hlt _ C ⟨rfl, F3, _, p3, S2.trans S3, b2.dropF, ?_⟩
   rw [h2]
   rfl
  ·have e0 : e ≠ 0 := by simpa using hc3
   rw [if_pos e0] at h2
   refine hnext hlt _ B ⟨rfl, F2, s2, p2, S2, b2, ?_⟩
   simp only
   rw [if_pos e0]; exact h2
 ·have hge : i = c := by have : ¬ (i : Int) < (c : Int) := by simpa using hc2
                         omega
  subst hge
  have hd : (t.side.take i).drop i = [] := List.drop_of_length_le (by omega)
  rw [hd] at h2
  have he : dropM (t.side.take i) m = (s2, e) := by
   rw [h2]
   by_cases q : e ≠ 0
   ·rw [if_pos q]
   ·rw [if_neg q]
    simp only [dropL]
    rw [Classical.not_not.1 q]
  rw [he] at hK
  refine rowB.ld (c := cSl) (i := 5) (x := ss) rfl ?_
  refine ⟨⟨by omega, by omega⟩, ?_⟩
  refine RowT.st rowB (i := 5) (by simp [soV]) rfl fun C rC mC zC => ?_
  have mHC : Mod (fun b => F b ∨ b = k) H C := (S2.mod.mono fun b _ q => .inl q).trans' mC fun b _ q => .inr q
  have offK : ¬ F2 k := fun q => (S2.own k q).elim (fun r => dis k r (.inl rfl)) fun r => by have := obj_lt h.rd.row; omega
  have hoffS := h.offS
  have hoffW := h.rd.offW
  have offO : ∀ b, soO k sw rs ss b → b ≠ k → ¬ (F b ∨ b = k) := fun b hb hn q => q.elim (fun u => dis b u hb) hn
  refine hK F2 ⟨slA ss.a ss.c i 1, ss.n - i, ss.c - i⟩ C (p2.keep fun b hb hlt => mC.same b hlt fun q => offK (q ▸ hb)) ⟨rC, ?_, ?_, ⟨by show ss.n - i = (t.side.drop i).length; rw [List.length_drop]; omega, by show ss.n - i ≤ ss.c - i; omega⟩, h.rd.few⟩ (fun b hb => slA_own hb) mHC S2.own b2
  ·exact h.rd.wait.mod mHC (fun b hb => offO b (.inr (.inl hb)) fun q => hoffW (q ▸ hb)) fun x hx b hb => offO b (.inr (.inr (.inl ⟨x, hx, hb⟩))) fun q => h.rd.offR x hx (q ▸ hb)
  ·have r1 : RdE ESt C ss.a t.side := h.rd.names.keep fun ad ha hlt => mHC.same _ hlt (offO ad.block (.inr (.inr (.inr ⟨ad, ha, rfl⟩))) fun q => hoffS (q ▸ ⟨ad, ha, rfl⟩))
   exact r1.drop (E := ESt) (by omega)
end
def So.roundsLe [Tab] (N : Nat) : Nat → So → Pl → Prop
 | 0, _, _ => True
 | f + 1, t, s => t.frames ≤ (t.side.length : Int) → restL (openL t.width (t.side.take (t.frames - 1).toNat) s).2.1 ≤ N ∧ ((t.round s).2.2.2 = 0 → So.roundsLe N f { (t.round s).2.1 with side := t.side.drop (t.frames - 1).toNat ++ [sideN t.name t.next] } (t.round s).1)
def So.lastLe [Tab] (N : Nat) (r : Pl × So × Int) : Prop := r.2.2 = 0 → restL (openL r.2.1.width (r.2.1.side.take r.2.1.side.length) r.1).2.1 ≤ N
def So.goesLe [Tab] (N : Nat) (r : Pl × So × Int) : Prop := r.2.2 = 0 → r.2.1.roundsLe N r.2.1.side.length r.1 ∧ So.lastLe N (r.2.1.rounds r.2.1.side.length r.1)
section
variable {H : Heap} {k p dp : Nat} {t : So} {sw ss : Sl} {rs : List Sl} {F : Nat → Prop} {s : Pl}
theorem CloneSt_ok [Tab] {sl : Sl} {l : List ByteArray} {K : Sl → Heap → Prop} (h : RdE ESt H sl.a l) (hn : sl.n = l.length) (hl : l.length ≤ 1000000)
  (hK : ∀ s' H', SlE ESt YaL H' s' l → Ext H H' → (∀ b, ownB s' b → H.size ≤ b) → K s' H') : ZaZ.sp sl H K := by
 refine ZaZ.of ?_
 unfold ZaZ.vc
 refine br_mk (fun hc => ?_) (fun hc => ?_)
 ·have : l = [] := by
   cases l with
   | nil => rfl
   | cons x r =>
     obtain ⟨ad, ha⟩ := h.addr (by decide) (by simp)
     rw [ha] at hc; cases hc
  subst this
  exact hK _ H (SlE.nil _ _ _) (.refl _ _) (by rintro b ⟨ad, q, _⟩; cases q)
 ·refine newC_rowT fun H1 s1 r1 m1 => ?_
  have o1 : SlE ESt YaL H1 (Sl.mk (some ⟨H.size, 0, none⟩) 0 0) [] := ⟨rfl, .inr ⟨H.size, 0, #[], rfl, Nat.zero_le _, r1, Nat.le_refl _, by unfold maxLen; omega, rfl, rfl⟩⟩
  have h1 : RdE ESt H1 sl.a l := h.keep fun ad _ hlt => m1.same _ hlt id
  refine SlE.append (E := ESt) (s := Sl.mk (some ⟨H.size, 0, none⟩) 0 0) (x := sl) (l := []) (r := l) elSt o1 h1 hn (by simp; omega) (by simp; omega) fun s' H' o' g' _ => ?_
  refine hK s' H' (by simpa using o') ⟨Nat.le_trans m1.size g'.1.size, fun b hb _ => (g'.1.same b (by omega) (by rintro ⟨ad, e1, e2⟩; cases e1; have : H.size = b := e2; omega)).trans (m1.same b hb id)⟩ fun b hb => ?_
  rcases g'.2 b hb with ⟨ad, e1, e2⟩ | q
  ·cases e1; have : H.size = b := e2; omega
  ·omega
theorem soO_other {ss2 : Sl} {b : Nat} (h : soO k sw rs ss2 b) (hs : ∀ b, ownB ss2 b → ownB ss b) : soO k sw rs ss b := by
 rcases h with q | q | q | q
 ·exact .inl q
 ·exact .inr (.inl q)
 ·exact .inr (.inr (.inl q))
 ·exact .inr (.inr (.inr (hs b q)))
set_option maxRecDepth 100000 in
set_option maxHeartbeats 2000000 in
theorem all_ok [Tab] {K : (Int × Int) → Heap → Prop} {x y N : Nat} (hg : Gl H) (hgs : ¬ soO k sw rs ss gSteps) (h : SoB H k p t sw rs ss) (hp : PoolAt F H p dp s) (dis : ∀ b, F b → ¬ soO k sw rs ss b) (hz : SoZ t) (h100 : t.next + t.side.length + 2 ≤ 100) (hfr : 3 ≤ t.frames) (b : Bd s x y) (hN1 : N ≤ 90000000) (hx : x < 100000000000) (hy : y < 3000000000)
  (hle : So.goesLe N (t.first s))
  (hK : ∀ F' sw' rs' ss' H', PoolAt F' H' p dp (So.goes (t.first s)).1 → SoR H' k p (So.goes (t.first s)).2.1 sw' rs' ss' → (∀ b, F' b → ¬ soO k sw' rs' ss' b) → Step (fun b => F b ∨ soO k sw rs ss b) (fun b => F' b ∨ soO k sw' rs' ss' b) H H' → Bd (So.goes (t.first s)).1 (x + 400010 + 101 * (2 * N + 3000)) (y + 805000 + 101 * (3 * N + 9000)) → K (((So.goes (t.first s)).2.2.1 : Int), (So.goes (t.first s)).2.2.2) H') : ZbZ.sp (at0 k) H K := by
 refine ZbZ.of ?_
 unfold ZbZ.vc
 unfold at0
 simp only [optK_eq]
 have hgl := hg.lt
 have hwn := h.rd.wait.n
 refine ⟨fun _ B => (t.first s).2.2 = 0 ∧ ∃ F' sw' rs' ss', PoolAt F' B p dp (t.first s).1 ∧ SoB B k p (t.first s).2.1 sw' rs' ss' ∧ (∀ b, F' b → ¬ soO k sw' rs' ss' b) ∧ Step (fun b => F b ∨ soO k sw rs ss b) (fun b => F' b ∨ soO k sw' rs' ss' b) H B ∧ Bd (t.first s).1 (x + 400010) (y + 805000) ∧ SoZ (t.first s).2.1 ∧ (t.first s).2.1.next + (t.first s).2.1.side.length ≤ 100 ∧ (t.first s).2.1.frames = t.frames, ?_, ?_⟩
 ·have aside : ∀ (Kb : Int → Heap → Prop), (t.wait ≠ [] ∨ t.side = []) → (∀ e B, e ≠ 0 → K (0, e) B → Kb e B) → (∀ B, ((t.first s).2.2 = 0 ∧ ∃ F' sw' rs' ss', PoolAt F' B p dp (t.first s).1 ∧ SoB B k p (t.first s).2.1 sw' rs' ss' ∧ (∀ b, F' b → ¬ soO k sw' rs' ss' b) ∧ Step (fun b => F b ∨ soO k sw rs ss b) (fun b => F' b ∨ soO k sw' rs' ss' b) H B ∧ Bd (t.first s).1 (x + 400010) (y + 805000) ∧ SoZ (t.first s).2.1 ∧ (t.first s).2.1.next + (t.first s).2.1.side.length ≤ 100 ∧ (t.first s).2.1.frames = t.frames) → Kb 0 B) →
    ZbN.sp (some ⟨k, 0, none⟩) H Kb := fun Kb hc k1 k2 => by
   have ef : t.first s = t.aside s := if_pos hc
   rw [ef] at hK k2
   refine aside_ok hg hgs h hp dis hz b (by omega) (by omega) fun F' ss' B pB sB dB SB => ?_
   have hol := once_len t.wait
   have hw := hz.wait
   have bd : Bd (t.aside s).1 (x + 400010) (y + 805000) := (wrRun_bd b (by omega) pB.frames).mono (by omega) (by omega)
   by_cases e0 : (t.aside s).2.2 = 0
   ·rw [e0]
    refine k2 B ⟨e0, F', nilS, [], ss', pB, sB, dB, SB, bd, ⟨hz.name, Nat.zero_le _, ?_, fun n hn => ?_, ?_, hz.frames⟩, ?_, rfl⟩
    ·show (t.side ++ [_]).length ≤ 1000
     simp; omega
    ·rcases List.mem_append.1 (show n ∈ t.side ++ [sideN t.name t.next] from hn) with u | u
     ·exact hz.sizes n u
     ·rw [List.mem_singleton] at u
      subst u
      have := itoaB_size hz.next
      have := hz.name
      rw [sideN_size]; omega
    ·show t.next + 1 < 100
     omega
    ·show t.next + 1 + (t.side ++ [_]).length ≤ 100
     simp; omega
   ·unfold So.goes at hK
    rw [if_pos e0] at hK
    exact k1 _ B e0 (hK F' nilS [] ss' B pB sB.rd dB SB (bd.mono (by omega) (by omega)))
  refine h.rd.row.ld (c := cSl) (i := 4) (x := sw) rfl ?_
  refine br_mk (fun hc => ?_) (fun hc => ?_)
  ·have hw : t.wait ≠ [] := fun q => by rw [q] at hwn; rw [hwn] at hc; simp at hc
   exact aside _ (.inl hw) (fun e B e0 q => br_t (by simpa using e0) q) fun B q => br_f rfl q
  ·have hw : t.wait = [] := by
    have : ¬ (sw.n : Int) > 0 := by simpa using hc
    exact List.eq_nil_of_length_eq_zero (by omega)
   refine h.rd.row.ld (c := cSl) (i := 5) (x := ss) rfl ?_
   have hn := h.rd.n.1
   refine br_mk (fun hc => ?_) (fun hc => ?_)
   ·have hs : t.side = [] := by
     have : (ss.n : Int) = 0 := by simpa using hc
     exact List.eq_nil_of_length_eq_zero (by omega)
    exact aside _ (.inr hs) (fun e B e0 q => br_t (by simpa using e0) q) fun B q => br_f rfl q
   ·have hs : t.side ≠ [] := fun q => by rw [q] at hn; rw [hn] at hc; simp at hc
    have ef : t.first s = (s, t, 0) := if_neg (by rintro (q | q); exact q hw; exact hs q)
    rw [ef]
    exact ⟨rfl, F, sw, rs, ss, hp, h, dis, .refl _ _, b.mono (by omega) (by omega), hz, by show t.next + t.side.length ≤ 100; omega, rfl⟩
 ·rintro _ A ⟨e0, F1, sw1, rs1, ss1, pA, sA, dA, SA, bA, zA, nA, fA⟩
  obtain ⟨hle1, hle2⟩ := hle e0
  have eg : So.goes (t.first s) = So.last ((t.first s).2.1.rounds (t.first s).2.1.side.length (t.first s).1) := if_neg (by rw [e0]; simp)
  rw [eg] at hK
  generalize hl : (t.first s).2.1.side.length = f0 at *
  have hl0 : (t.first s).2.1.side.length ≤ f0 := Nat.le_of_eq hl
  have hf0 : f0 ≤ 100 := by omega
  generalize (t.first s).2.1 = t1 at *
  generalize (t.first s).1 = s1 at *
  have hmul : f0 * (2 * N + 3000) ≤ 100 * (2 * N + 3000) := Nat.mul_le_mul_right _ hf0
  have hmul2 : f0 * (3 * N + 9000) ≤ 100 * (3 * N + 9000) := Nat.mul_le_mul_right _ hf0
  refine ⟨Nat, fun f _ B => ∃ F' sw' rs' ss' t' s' xx yy, PoolAt F' B p dp s' ∧ SoB B k p t' sw' rs' ss' ∧ (∀ b, F' b → ¬ soO k sw' rs' ss' b) ∧ Step (fun b => F b ∨ soO k sw rs ss b) (fun b => F' b ∨ soO k sw' rs' ss' b) H B ∧ Bd s' xx yy ∧ xx + f * (2 * N + 3000) ≤ x + 400010 + f0 * (2 * N + 3000) ∧ yy + f * (3 * N + 9000) ≤ y + 805000 + f0 * (3 * N + 9000) ∧ SoZ t' ∧ t'.next + t'.side.length ≤ 100 ∧ t'.frames = t.frames ∧ t'.side.length ≤ f ∧ t1.rounds f0 s1 = t'.rounds f s' ∧ t'.roundsLe N f s', fun f => f,
   ⟨f0, F1, sw1, rs1, ss1, t1, s1, x + 400010, y + 805000, pA, sA, dA, SA, bA, Nat.le_refl _, Nat.le_refl _, zA, by rw [hl]; exact nA, fA, hl0, rfl, hle1⟩, ?_⟩
  rintro f _ B ⟨F2, sw2, rs2, ss2, t2, s2, xx, yy, pB, sB, dB, SB, bB, bx, by', zB, nB, fB, lB, eB, leB⟩
  have hgB : Gl B := hg.keep (SB.mod.same _ hgl fun q => q.elim hp.glob hgs)
  have hgsB : ¬ soO k sw2 rs2 ss2 gSteps := fun q => by
   rcases SB.own _ (.inr q) with u | u
   ·exact u.elim hp.glob hgs
   ·omega
  have hnB := sB.rd.n.1
  refine sB.rd.row.ld (c := cSl) (i := 5) (x := ss2) rfl ?_
  refine sB.rd.row.ld (c := cInt .i64) (i := 3) (x := t2.frames) rfl ?_
  refine br_mk (fun hc => ?_) (fun hc => ?_)
  ·have hge : t2.frames ≤ (t2.side.length : Int) := by
    have : (ss2.n : Int) ≥ t2.frames := by simpa using hc
    omega
   cases f with
   | zero => exact absurd lB (by omega)
   | succ f =>
   rw [Nat.succ_mul] at bx by'
   obtain ⟨le1, le2⟩ := leB hge
   have er : t2.rounds (f + 1) s2 = if (t2.round s2).2.2.2 ≠ 0 then ((t2.round s2).1, (t2.round s2).2.1, (t2.round s2).2.2.2) else So.rounds f { (t2.round s2).2.1 with side := t2.side.drop (t2.frames - 1).toNat ++ [sideN t2.name t2.next] } (t2.round s2).1 := if_pos hge
   have hnx : t2.next < 98 := by omega
   refine sideName_ok sB.rd.row (by omega) zB.name fun C rC mC zC => ?_
   have offK : ¬ F2 k := fun q => dB k q (.inl rfl)
   have hoffW := sB.rd.offW
   have hoffS := sB.offS
   have sC : SoB C k p (t2.to (t2.next + 1)) sw2 rs2 ss2 := .mk' rC (sB.rd.wait.mod mC (fun b hb q => hoffW (q ▸ hb)) fun x hx b hb q => sB.rd.offR x hx (q ▸ hb)) (sB.side.mod mC fun b hb q => hoffS (q ▸ hb)) sB.rd.few
   have pC : PoolAt F2 C p dp s2 := pB.keep fun b hb hlt => mC.same b hlt fun q => offK (q ▸ hb)
   have gC : Gl C := hgB.keep (mC.same _ hgB.lt fun q => hgsB (.inl q))
   refine rC.ld (c := cInt .i64) (i := 3) (x := t2.frames) rfl ?_
   have hf := zB.frames
   have ec : IntKind.i64.wrap (t2.frames - 1) = (((t2.frames - 1).toNat : Nat) : Int) := by rw [wrap64 (by omega) (by omega)]; omega
   rw [ec]
   have zC2 : SoZ (t2.to (t2.next + 1)) := ⟨zB.name, zB.wait, zB.side, zB.sizes, by show t2.next + 1 < 100; omega, zB.frames⟩
   refine smerge_ok (t := t2.to (t2.next + 1)) (c := (t2.frames - 1).toNat) gC hgsB sC pC dB zC2 (by have := itoaB_size zB.next; have := zB.name; rw [sideN_size]; omega) (by show (t2.frames - 1).toNat ≤ t2.side.length; omega) bB (by omega) (by omega) le1 (by omega) fun F3 ss3 D pD sD oD mD wD bD => ?_
   have em : (t2.to (t2.next + 1)).merge s2 (t2.frames - 1).toNat (sideN t2.name t2.next) = t2.round s2 := rfl
   rw [em] at pD sD bD ⊢
   have zBC := mC.size
   have SD : Step (fun b => F2 b ∨ soO k sw2 rs2 ss2 b) (fun b => F3 b ∨ soO k sw2 rs2 ss3 b) B D := by
    refine ⟨(mC.mono fun b _ q => .inr (.inl q)).trans' mD fun b _ q => q.elim .inl fun u => .inr (.inl u), fun b hb => ?_⟩
    rcases hb with u | u
    ·rcases wD b u with v | v
     ·exact .inl (.inl v)
     ·exact .inr (by omega)
    ·exact .inl (.inr (soO_other u oD))
   have dD : ∀ b, F3 b → ¬ soO k sw2 rs2 ss3 b := fun b hb q => by
    have q2 := soO_other q oD
    rcases wD b hb with v | v
    ·exact dB b v q2
    ·have := sC.lt b q2; omega
   by_cases ee : (t2.round s2).2.2.2 = 0
   ·rw [if_neg (by rw [ee]; simp)] at er
    refine br_f (by rw [ee]; rfl) ?_
    have e3 : (t2.round s2).2.1 = { t2.to (t2.next + 1) with side := t2.side.drop (t2.frames - 1).toNat } := rfl
    have sD' : SoR D k p { t2.to (t2.next + 1) with side := t2.side.drop (t2.frames - 1).toNat } sw2 rs2 ss3 := sD
    refine sD'.row.ld (c := cSl) (i := 5) (x := ss3) rfl ?_
    have hsl := zB.side
    refine CloneSt_ok sD'.names sD'.n.1 (by show (t2.side.drop _).length ≤ _; rw [List.length_drop]; omega) fun ss4 E oE eE fE => ?_
    refine SlE.push (E := ESt) (x := sideN t2.name t2.next) elSt oE rfl (by show (t2.side.drop _).length + 1 ≤ _; rw [List.length_drop]; omega) (by show ((t2.side.drop _).length + 1) * _ ≤ _; rw [List.length_drop]; omega) fun ss5 G oG gG _ => ?_
    have kD := obj_lt sD'.row
    have k5 : ¬ ownB ss5 k := fun q => by
     rcases gG.2 k q with u | u
     ·have := fE k u; omega
     ·have := eE.size; omega
    have k4 : ¬ ownB ss4 k := fun q => by have := fE k q; omega
    have rG : RowT G k Yal (soV p { t2.to (t2.next + 1) with side := t2.side.drop (t2.frames - 1).toNat } sw2 ss3) := (sD'.row.ext eE).mod gG.1 k4
    refine RowT.st rG (i := 5) (by simp [soV]) rfl fun I rI mI zI => ?_
    have zE := eE.size
    have zG := gG.1.size
    have mDI : Mod (fun b => b = k) D I := by
     refine ⟨by have := mI.size; omega, fun b hb hn => ?_⟩
     rw [mI.same b (by omega) hn, gG.1.same b (by omega) (fun q => by have := fE b q; omega), eE.same b hb id]
    have own5 : ∀ b, ownB ss5 b → D.size ≤ b := fun b hb => by
     rcases gG.2 b hb with u | u
     ·exact fE b u
     ·omega
    have sI : SoB I k p { (t2.round s2).2.1 with side := t2.side.drop (t2.frames - 1).toNat ++ [sideN t2.name t2.next] } sw2 rs2 ss5 := by
     refine .mk' rI ?_ (oG.mod mI fun b hb q => k5 (q ▸ hb)) sB.rd.few
     exact sD'.wait.mod mDI (fun b hb q => sD'.offW (q ▸ hb)) fun x hx b hb q => sD'.offR x hx (q ▸ hb)
    have off3 : ¬ F3 k := fun q => dD k q (.inl rfl)
    have z3 := mD.size
    refine ⟨f, ⟨F3, sw2, rs2, ss5, _, (t2.round s2).1, xx + 2 * N + 3000, yy + 3 * N + 9000, pD.keep fun b hb hlt => mDI.same b hlt fun q => off3 (q ▸ hb), sI, fun b hb q => ?_, ?_, bD, by omega, by omega, ⟨zB.name, zB.wait, ?_, fun n hn => ?_, by show t2.next + 1 < 100; omega, zB.frames⟩, ?_, fB, ?_, ?_, le2 ee⟩, Nat.lt_succ_self _⟩
    ·rcases q with u | u | u | u
     ·exact dD b hb (.inl u)
     ·exact dD b hb (.inr (.inl u))
     ·exact dD b hb (.inr (.inr (.inl u)))
     ·have := own5 b u
      have := pD.lt b hb
      omega
    ·have zHB := SB.mod.size
     refine ⟨(SB.mod.trans' SD.mod fun b hb q => ?_).trans' mDI fun b hb q => ?_, fun b hb => ?_⟩
     ·rcases SB.own b q with u | u
      ·exact u
      ·omega
     ·rcases SB.own b (.inr (.inl q)) with u | u
      ·exact u
      ·omega
     ·have up : ∀ b, (F3 b ∨ soO k sw2 rs2 ss3 b) → (F b ∨ soO k sw rs ss b) ∨ H.size ≤ b := fun b hb => by
       rcases SD.own b hb with u | u
       ·exact SB.own b u
       ·exact .inr (by omega)
      rcases hb with u | u | u | u | u
      ·exact up b (.inl u)
      ·exact up b (.inr (.inl u))
      ·exact up b (.inr (.inr (.inl u)))
      ·exact up b (.inr (.inr (.inr (.inl u))))
      ·exact .inr (by have := own5 b u; omega)
    ·show (t2.side.drop _ ++ [_]).length ≤ 1000
     simp; omega
    ·rcases List.mem_append.1 (show n ∈ t2.side.drop (t2.frames - 1).toNat ++ [sideN t2.name t2.next] from hn) with u | u
     ·exact zB.sizes n (List.mem_of_mem_drop u)
     ·rw [List.mem_singleton] at u
      subst u
      have := itoaB_size zB.next
      have := zB.name
      rw [sideN_size]; omega
    ·show t2.next + 1 + (t2.side.drop _ ++ [_]).length ≤ 100
     simp; omega
    ·show (t2.side.drop _ ++ [_]).length ≤ f
     simp; omega
    ·rw [eB, er]
   ·rw [if_pos ee] at er
    rw [eB, er] at hK
    unfold So.last at hK
    rw [if_pos ee] at hK
    refine br_t (by simpa using ee) (hK F3 sw2 rs2 ss3 D pD sD dD ⟨SB.mod.trans' SD.mod fun b hb q => (SB.own b q).resolve_right (by omega), fun b hb => ?_⟩ (bD.mono (by omega) (by omega)))
    rcases SD.own b hb with u | u
    ·exact SB.own b u
    ·have := SB.mod.size; exact .inr (by omega)
  ·have hlt : ¬ t2.frames ≤ (t2.side.length : Int) := by
    have : ¬ (ss2.n : Int) ≥ t2.frames := by simpa using hc
    omega
   have er : t2.rounds f s2 = (s2, t2, 0) := by
    cases f with
    | zero => rfl
    | succ f => exact if_neg hlt
   rw [eB, er] at hK hle2
   have hN2 : restL (openL t2.width (t2.side.take t2.side.length) s2).2.1 ≤ N := hle2 rfl
   unfold So.last at hK
   rw [if_neg (by simp)] at hK
   refine sB.rd.row.ld (c := cSl) (i := 5) (x := ss2) rfl ?_
   refine sB.rd.row.ld (c := cStr) (i := 1) (x := t2.name) rfl ?_
   rw [hnB]
   have : 0 ≤ f * (2 * N + 3000) := Nat.zero_le _
   have : 0 ≤ f * (3 * N + 9000) := Nat.zero_le _
   refine smerge_ok (c := t2.side.length) hgB hgsB sB pB dB zB (by have := zB.name; omega) (Nat.le_refl _) bB (by omega) (by omega) hN2 (by omega) fun F3 ss3 D pD sD oD mD wD bD => ?_
   have zHB := SB.mod.size
   refine hK F3 sw2 rs2 ss3 D pD sD (fun b hb q => ?_) ⟨SB.mod.trans' mD fun b hb q => ?_, fun b hb => ?_⟩ (bD.mono (by omega) (by omega))
   ·have q2 := soO_other q oD
    rcases wD b hb with v | v
    ·exact dB b v q2
    ·have := sB.lt b q2; omega
   ·have : F2 b ∨ soO k sw2 rs2 ss2 b := q.elim .inl fun u => .inr (.inl u)
    exact (SB.own b this).resolve_right (by omega)
   ·rcases hb with u | u
    ·rcases wD b u with v | v
     ·exact SB.own b (.inl v)
     ·exact .inr (by omega)
    ·exact SB.own b (.inr (soO_other u oD))
set_option maxRecDepth 100000 in
theorem SDone_ok [Tab] {K : (Int × Int) → Heap → Prop} {x y N : Nat} (hg : Gl H) (hgs : ¬ soO k sw rs ss gSteps) (h : SoB H k p t sw rs ss) (hp : PoolAt F H p dp s) (dis : ∀ b, F b → ¬ soO k sw rs ss b) (hz : SoZ t) (h100 : t.next + t.side.length + 2 ≤ 100) (hfr : 3 ≤ t.frames) (b : Bd s x y) (hN1 : N ≤ 90000000) (hx : x < 100000000000) (hy : y < 3000000000)
  (hle : t.ready = 0 → So.goesLe N (t.first s))
  (hK : ∀ F' sw' rs' ss' H', PoolAt F' H' p dp (t.done s).1 → RowT H' k Yal (soV p (t.done s).2.1 sw' ss') → (∀ b, F' b → ¬ soO k sw' rs' ss' b) → Step (fun b => F b ∨ soO k sw rs ss b) (fun b => F' b ∨ soO k sw' rs' ss' b) H H' → Bd (t.done s).1 (x + 400010 + 101 * (2 * N + 3000)) (y + 805000 + 101 * (3 * N + 9000)) → K (((t.done s).2.2.1 : Int), (t.done s).2.2.2) H') : ZbS.sp (at0 k) H K := by
 refine ZbS.of ?_
 unfold ZbS.vc
 refine soReady_ok h.rd.row ?_
 unfold So.done at hK
 refine br_mk (fun hc => ?_) (fun hc => ?_)
 ·rw [if_pos (by simpa using hc)] at hK
  exact hK F sw rs ss H hp h.rd.row dis (.refl _ _) (b.mono (Nat.le_trans (Nat.le_add_right x 400010) (Nat.le_add_right _ _)) (Nat.le_trans (Nat.le_add_right y 805000) (Nat.le_add_right _ _)))
 have hr : ¬ t.ready ≠ 0 := by simpa using hc
 rw [if_neg hr] at hK
 refine all_ok hg hgs h hp dis hz h100 hfr b hN1 hx hy (hle (Classical.not_not.1 hr)) fun F1 sw1 rs1 ss1 A pA sA dA SA bA => ?_
 unfold at0
 simp only [optK_eq]
 unfold So.ends at hK
 have go : ∀ (B : Heap), Mod (fun b => b = k) A B → B.size = A.size → PoolAt F1 B p dp (So.goes (t.first s)).1 ∧ Step (fun b => F b ∨ soO k sw rs ss b) (fun b => F1 b ∨ soO k sw1 rs1 ss1 b) H B := fun B m z =>
  ⟨pA.keep fun b hb hlt => m.same b hlt fun q => dA b hb (.inl q), ⟨SA.mod.trans' m fun b hb q => (SA.own b (.inr (.inl q))).resolve_right (by omega), SA.own⟩⟩
 refine br_mk (fun hc => ?_) (fun hc => ?_)
 ·rw [if_pos (by simpa using hc)] at hK
  refine RowT.st sA.row (i := 7) (by simp [soV]) rfl fun B rB mB zB => ?_
  obtain ⟨q1, q2⟩ := go B mB zB
  exact hK F1 sw1 rs1 ss1 B q1 rB dA q2 bA
 ·rw [if_neg (by simpa using hc)] at hK
  refine RowT.st sA.row (i := 8) (by simp [soV]) rfl fun B rB mB zB => ?_
  obtain ⟨q1, q2⟩ := go B mB zB
  exact hK F1 sw1 rs1 ss1 B q1 rB dA q2 bA
end
end Go.Proofs.YtacfhncgbgijhaaGreat
