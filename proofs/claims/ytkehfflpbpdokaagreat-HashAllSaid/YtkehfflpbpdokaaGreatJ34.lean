/-
 Trees of rows in pages, in plain words.
-/
import Derived.Test.YtkehfflpbpdokaaGreatRows
import Derived.Test.YtkehfflpbpdokaaGreatVc
import Derived.Test.YtkehfflpbpdokaaGreatFxk
import Derived.Test.YtkehfflpbpdokaaGreatDkm
import Derived.Test.YtkehfflpbpdokaaGreatFxh
import Derived.Test.YtkehfflpbpdokaaGreatFxo
import Derived.Test.YtkehfflpbpdokaaGreatJ31
import Derived.Test.YtkehfflpbpdokaaGreatFxw
namespace Go.Proofs.YtkehfflpbpdokaaGreat
structure St where
 N : Nat
 T : Nat → UInt8 × List UInt8
def Pl.over [Tab] (p : Pl) (n : ByteArray) (k : Int) (kd : UInt8) (b : List UInt8) : Pl × Int :=
 if (p.pin n k).2.2 ≠ 0 then ((p.pin n k).1, (p.pin n k).2.2) else Pl.leave ((p.pin n k).1.set (p.pin n k).2.1 kd b) (p.pin n k).2.1
structure Store [Tab] (n : ByteArray) (q : Nat) (I : Pl → St → Nat → Prop) (B C : Pl → Int → Prop) : Prop where
 name : n.size ≤ 9223372036854775807
 small : q ≤ 1048576
 pre : ∀ {s x m}, I s x m → s.d.logs ≤ 2 * m ∧ 0 ≤ s.next ∧ s.next ≤ m ∧ s.Fit ∧ x.N ≤ 1048576 ∧ ∀ k, (x.T k).2.length ≤ 504
 look : ∀ {s x m k}, I s x m → m < 30000000000 → k < x.N → ((s.look n (k : Int)).2 = ((x.T k).1, (x.T k).2, 0) ∧ I (s.look n (k : Int)).1 x (m + 1)) ∨ C (s.look n (k : Int)).1 (s.look n (k : Int)).2.2.2
 far : ∀ {s x m k}, I s x m → m < 30000000000 → x.N ≤ k → ((s.look n (k : Int)).2.2.2 = 12 ∧ I (s.look n (k : Int)).1 x (m + 1)) ∨ C (s.look n (k : Int)).1 (s.look n (k : Int)).2.2.2
 more : ∀ {s x m kd b}, I s x m → m < 30000000000 → b.length ≤ 504 → kd ≠ 0 → x.N < q →
  ((s.more n kd b).2 = 0 ∧ (s.fresh n).2.2.1 = x.N ∧ I (s.more n kd b).1 ⟨x.N + 1, setT x.T x.N (kd, b)⟩ (m + 1)) ∨ C (s.more n kd b).1 (s.more n kd b).2
 full : ∀ {s x m kd b}, I s x m → m < 30000000000 → b.length ≤ 504 → kd ≠ 0 → ¬ x.N < q → B (s.more n kd b).1 (s.more n kd b).2 ∨ C (s.more n kd b).1 (s.more n kd b).2
 over : ∀ {s x m k kd b}, I s x m → m < 30000000000 → b.length ≤ 504 → k < x.N → ((s.over n (k : Int) kd b).2 = 0 ∧ I (s.over n (k : Int) kd b).1 { x with T := setT x.T k (kd, b) } (m + 1)) ∨ C (s.over n (k : Int) kd b).1 (s.over n (k : Int) kd b).2
 up : ∀ {s x m k}, I s x m → m ≤ k → I s x k
 errB : ∀ {s e}, B s e → e ≠ 0 ∧ e ≠ 12
 errC : ∀ {s e}, C s e → e ≠ 0 ∧ e ≠ 12
theorem Pl.leave_d' [Tab] (r : Pl × Int) (h : Int) : (Pl.leave r h).1.d = r.1.d := by
 unfold Pl.leave; split
 ·exact Pl.unpin_d _ _
 ·rfl
section
variable {s : Pl} {n : ByteArray} {g : Int} {k : UInt8} {b : List UInt8}
theorem Pl.look_logs' [Tab] : (s.look n g).1.d.logs ≤ s.d.logs + 1 := by
 have a := s.pin_logs n g
 unfold Pl.look
 split
 ·exact a
 ·split
  ·exact a
  ·rw [Pl.unpin_d]; exact a
theorem Pl.more_logs' [Tab] : (s.more n k b).1.d.logs ≤ s.d.logs + 2 := by
 have a := s.fresh_logs n
 unfold Pl.more
 split
 ·exact a
 ·rw [Pl.leave_d']
  split
  ·exact a
  ·rw [Pl.set_d]; exact a
theorem Pl.over_logs' [Tab] : (s.over n g k b).1.d.logs ≤ s.d.logs + 1 := by
 have a := s.pin_logs n g
 unfold Pl.over
 split
 ·exact a
 ·rw [Pl.leave_d', Pl.set_d]; exact a
end
theorem setT_room {T : Nat → UInt8 × List UInt8} (h : ∀ k, (T k).2.length ≤ 504) {j : Nat} {v : UInt8 × List UInt8} (hv : v.2.length ≤ 504) : ∀ k, (setT T j v k).2.length ≤ 504 := by
 intro k
 by_cases e : k = j
 ·subst e; rw [setT_same]; exact hv
 ·rw [setT_other e]; exact h k
abbrev Files := ByteArray → Option St
open Classical in
noncomputable def setF (M : Files) (n : ByteArray) (x : Option St) : Files := fun m => if m = n then x else M m
theorem setF_same (M : Files) (n : ByteArray) (x : Option St) : setF M n x n = x := by unfold setF; rw [if_pos rfl]
theorem setF_other {M : Files} {n m : ByteArray} {x : Option St} (h : m ≠ n) : setF M n x m = M m := by unfold setF; rw [if_neg h]
theorem setF_set (M : Files) (n : ByteArray) (x y : Option St) : setF (setF M n x) n y = setF M n y := by
 funext m
 by_cases h : m = n
 ·subst h; rw [setF_same, setF_same]
 ·rw [setF_other h, setF_other h, setF_other h]
theorem setF_id {M : Files} {n : ByteArray} {x : Option St} (h : M n = x) : setF M n x = M := by
 funext m
 by_cases e : m = n
 ·subst e; rw [setF_same, h]
 ·rw [setF_other e]
def Cl (l : List Fr) (n : ByteArray) (k : Nat) : Prop := ∀ g ∈ l, g.name = n → g.page = k → g.dirty = false
structure ToldM [Tab] (p : Pl) (M : Files) (Q U : Nat) : Prop where
 wrong : p.wrong = 0
 up : p.d.down = false
 calm : p.d.crash = none
 quota : p.d.quota = Q
 used : p.d.used = U
 nodup : (p.d.files.map fun f => f.name.toList).Nodup
 file : ∀ (i : Nat) (f : Fl), p.d.files[i]? = some f → ∃ x, M f.name = some x ∧ f.pages.length = x.N ∧ ∀ (k : Nat) (b : Pg), f.pages[k]? = some b → Cl p.fs f.name k → openP b.1 = some (x.T k)
 there : ∀ n x, M n = some x → ∃ (i : Nat) (f : Fl), p.d.files[i]? = some f ∧ f.name = n
 mine : ∀ g ∈ p.fs, ∃ x, M g.name = some x ∧ g.page < x.N ∧ x.T g.page = (g.kind, g.b)
theorem idx_at [Tab] {d : Dk} (hn : (d.files.map fun f => f.name.toList).Nodup) {i : Nat} {f : Fl} (hf : d.files[i]? = some f) : d.idx f.name = some i := by
 unfold Dk.idx
 refine findIdx_uniq hf (by simp) fun j y hj hy => ?_
 have e : y.name.toList = f.name.toList := by simpa using hy
 have hi := (List.getElem?_eq_some_iff.1 hf).1
 have hj' := (List.getElem?_eq_some_iff.1 hj).1
 refine ((List.getElem?_inj (l := d.files.map fun f => f.name.toList) (by simpa using hi) hn).1 ?_).symm
 rw [List.getElem?_map, List.getElem?_map, hf, hj]
 simp [e]
theorem write_at [Tab] {d : Dk} (hu : d.down = false) (hc : d.crash = none) {n : ByteArray} {i : Nat} {f : Fl} (hx : d.idx n = some i) (hf : d.files[i]? = some f) {k : Nat} {b : List UInt8} (hb : b.length = 512) (hk : k ≤ f.pages.length) (hq : k = f.pages.length → d.used < d.quota) :
  ∃ d', d.write n k b = (d', 0) ∧ d'.down = false ∧ d'.crash = none ∧ d'.quota = d.quota ∧ d'.files = d.files.modify i (fun f => { f with log := f.log ++ [⟨d.next, k, ⟨b, hb⟩⟩] }) ∧ d'.used = d.used + (if k = f.pages.length then 1 else 0) := by
 have hch : d.change = ({ d with ops := w64 (d.ops + 1) }, 0) := by unfold Dk.change; rw [hc]
 have hfi : d.file i = f := Dk.file_eq hf
 have e : d.write n k b = d.step fun t => (t.addW i ⟨t.next, k, ⟨b, hb⟩⟩).setMost (max t.most (t.addW i ⟨t.next, k, ⟨b, hb⟩⟩).used) := by
  unfold Dk.write
  rw [if_neg (by rw [hu]; simp), dif_pos hb, hx]
  simp only [hfi]
  rw [if_neg (by omega), if_neg (by rintro ⟨q1, q2⟩; have := hq (by omega); omega), Int.toNat_natCast]
 have hstep : ∀ F : Dk → Dk, d.step F = (F { d with ops := w64 (d.ops + 1) }, 0) := fun F => by unfold Dk.step; rw [hch, if_pos rfl]
 rw [e, hstep]
 refine ⟨_, rfl, hu, hc, rfl, rfl, ?_⟩
 have hp : ({ f with log := f.log ++ [⟨d.next, k, ⟨b, hb⟩⟩] } : Fl).pages.length = max f.pages.length (k + 1) := by rw [Fl.addW_pages]; exact putP_length _ _
 have hs : ((d.files.modify i (fun f => { f with log := f.log ++ [⟨d.next, k, ⟨b, hb⟩⟩] })).map (fun f : Fl => f.pages.length)).sum + f.pages.length = (d.files.map (fun f : Fl => f.pages.length)).sum + max f.pages.length (k + 1) := by
  rw [← hp]; exact sum_modify (fun f : Fl => f.pages.length) _ d.files i f hf
 show ((d.files.modify i (fun f => { f with log := f.log ++ [⟨d.next, k, ⟨b, hb⟩⟩] })).map (fun f : Fl => f.pages.length)).sum = (d.files.map (fun f : Fl => f.pages.length)).sum + (if k = f.pages.length then 1 else 0)
 generalize ((d.files.modify i (fun f => { f with log := f.log ++ [⟨d.next, k, ⟨b, hb⟩⟩] })).map (fun f : Fl => f.pages.length)).sum = S at *
 generalize (d.files.map (fun f : Fl => f.pages.length)).sum = S0 at *
 split
 ·omega
 ·omega
section
variable {p p' : Pl} {M : Files} {Q U : Nat} {n : ByteArray} {x : St}
theorem ToldM.at [Tab] (h : ToldM p M Q U) (hM : M n = some x) : ∃ (i : Nat) (f : Fl), p.d.idx n = some i ∧ p.d.files[i]? = some f ∧ f.name = n ∧ f.pages.length = x.N ∧ ∀ (k : Nat) (b : Pg), f.pages[k]? = some b → Cl p.fs n k → openP b.1 = some (x.T k) := by
 obtain ⟨i, f, h1, h2⟩ := h.there n x hM
 subst h2
 obtain ⟨y, y1, y2, y3⟩ := h.file i f h1
 rw [hM] at y1
 cases y1
 exact ⟨i, f, idx_at h.nodup h1, h1, rfl, y2, y3⟩
theorem ToldM.len [Tab] (h : ToldM p M Q U) (hM : M n = some x) : p.d.len n = (x.N, 0) := by
 obtain ⟨i, f, h1, h2, h3, h4, _⟩ := h.at hM
 unfold Dk.len Dk.open
 rw [if_neg (by rw [h.up]; simp), h1]
 simp only [Dk.file_eq h2, h4]
theorem ToldM.size [Tab] (h : ToldM p M Q U) (hM : M n = some x) : p.d.size n = x.N := by
 obtain ⟨i, f, h1, h2, h3, h4, _⟩ := h.at hM
 unfold Dk.size; rw [h1]; simp only [Dk.file_eq h2, h4]
theorem ToldM.fit [Tab] (h : ToldM p M Q U) : p.Fit := by
 intro f hf
 obtain ⟨x, h1, h2, _⟩ := h.mine f hf
 rw [h.size h1]; exact h2
theorem ToldM.chg [Tab] (h : ToldM p M Q U) (hd : p'.d = p.d) (hw : p'.wrong = p.wrong) (hm : ∀ g ∈ p'.fs, ∃ x, M g.name = some x ∧ g.page < x.N ∧ x.T g.page = (g.kind, g.b)) (hc : ∀ n k, Cl p'.fs n k → Cl p.fs n k) : ToldM p' M Q U :=
 ⟨by rw [hw]; exact h.wrong, by rw [hd]; exact h.up, by rw [hd]; exact h.calm, by rw [hd]; exact h.quota, by rw [hd]; exact h.used, by rw [hd]; exact h.nodup, fun i f hf => by
  rw [hd] at hf
  obtain ⟨x, a, b, c⟩ := h.file i f hf
  exact ⟨x, a, b, fun k b hk hcl => c k b hk (hc _ _ hcl)⟩, fun n x hx => by rw [hd]; exact h.there n x hx, hm⟩
theorem ToldM.put [Tab] (h : ToldM p M Q U) (hw : p.WF) {i : Nat} {g : Fr} (hg : p.fs[i]? = some g) :
  (p.put i).2 = 0 ∧ (p.put i).1.fs = p.fs.modify i Fr.clean ∧ ToldM (p.put i).1 M Q U := by
 have hgm := List.mem_of_getElem? hg
 obtain ⟨x, h1, h2, h3⟩ := h.mine g hgm
 have hb := hw.room g hgm
 have hs : g.sealF.length = 512 := sealP_length hb
 obtain ⟨j, f, a1, a2, a3, a4, a5⟩ := h.at h1
 obtain ⟨d', w1, w2, w3, w4, w5, w6⟩ := write_at h.up h.calm a1 a2 (k := g.page) hs (by omega) (by omega)
 have e : p.put i = ((p.setD d').turn i Fr.clean, 0) := by
  unfold Pl.put; rw [Pl.frame_eq hg, w1, if_pos rfl]
 rw [e]
 have hcl : ∀ m k, (m ≠ g.name ∨ k ≠ g.page) → Cl (p.fs.modify i Fr.clean) m k → Cl p.fs m k := by
  intro m k hne hc g' hg' e1 e2
  obtain ⟨j', hj'⟩ := List.mem_iff_getElem?.1 hg'
  by_cases q : i = j'
  ·subst q
   rw [hg] at hj'; cases hj'
   rcases hne with u | u
   ·exact absurd e1.symm u
   ·exact absurd e2.symm u
  ·exact hc g' (List.mem_of_getElem? (by rw [modify_other q]; exact hj')) e1 e2
 refine ⟨rfl, rfl, h.wrong, w2, w3, w4.trans h.quota, ?_, ?_, fun j' f' hf' => ?_, fun m y hy => ?_, fun g' hg' => ?_⟩
 ·show d'.used = U
  rw [w6, if_neg (by omega), h.used, Nat.add_zero]
 ·show (d'.files.map _).Nodup
  rw [w5, map_modify_all (fun f : Fl => f.name.toList) (fun f => { f with log := f.log ++ [⟨p.d.next, g.page, ⟨g.sealF, hs⟩⟩] }) (fun _ => rfl)]
  exact h.nodup
 ·have hf' : d'.files[j']? = some f' := hf'
  rw [w5] at hf'
  by_cases q : j = j'
  ·subst q
   rw [modify_same a2] at hf'
   cases hf'
   refine ⟨x, by show M f.name = _; rw [a3]; exact h1, ?_, fun k b hk hc => ?_⟩
   ·rw [Fl.addW_pages]
    show (putAt f.pages g.page ⟨g.sealF, hs⟩).length = _
    rw [putAt_length]; omega
   ·rw [Fl.addW_pages] at hk
    have hk : (putAt f.pages g.page ⟨g.sealF, hs⟩)[k]? = some b := hk
    rw [putAt_get (by omega)] at hk
    split at hk
    ·rename_i ek; cases hk; subst ek
     rw [h3]; exact openP_sealP hb
    ·rename_i ek
     exact a5 k b hk (hcl g.name k (.inr ek) (by rw [← a3]; exact hc))
  ·rw [modify_other q] at hf'
   obtain ⟨y, b1, b2, b3⟩ := h.file j' f' hf'
   refine ⟨y, b1, b2, fun k b hk hc => b3 k b hk (hcl _ k (.inl fun e => q ?_) hc)⟩
   have := idx_at h.nodup hf'
   rw [e, a1] at this
   exact Option.some.inj this
 ·obtain ⟨j', f', b1, b2⟩ := h.there m y hy
  show ∃ (i : Nat) (f : Fl), d'.files[i]? = some f ∧ f.name = m
  rw [w5]
  by_cases q : j = j'
  ·subst q
   exact ⟨j, _, modify_same b1, b2⟩
  ·exact ⟨j', f', by rw [modify_other q]; exact b1, b2⟩
 ·have hg' : g' ∈ p.fs.modify i Fr.clean := hg'
  rcases mem_modify hg hg' with r | r
  ·exact h.mine g' r
  ·subst r; exact h.mine g hgm
theorem ToldM.erase [Tab] (h : ToldM p M Q U) {i : Nat} {g : Fr} (hg : p.fs[i]? = some g) (hd : g.dirty = false) : ToldM (p.drop i) M Q U := by
 refine h.chg rfl rfl (fun g' hg' => h.mine g' (List.mem_of_mem_eraseIdx hg')) fun m k hc g' hg' e1 e2 => ?_
 obtain ⟨j, hj⟩ := List.mem_iff_getElem?.1 hg'
 by_cases e : j = i
 ·subst e; rw [hg] at hj; cases hj; exact hd
 ·exact hc g' (mem_erase.2 ⟨j, e, hj⟩) e1 e2
theorem ToldM.make [Tab] (h : ToldM p M Q U) (hw : p.WF) (hl : ¬ p.fs.length < p.most) {g : Fr} (hg : g ∈ p.fs) (hgp : g.pins = []) :
  ∃ i f, p.fs[i]? = some f ∧ f.pins = [] ∧ p.room.2 = 0 ∧ p.room.1.fs = p.fs.eraseIdx i ∧ ToldM p.room.1 M Q U := by
 cases hb : p.best with
 | none => exact absurd hgp (Pl.best_none hb g hg)
 | some i =>
   obtain ⟨f, h1, h2, _⟩ := Pl.best_some hb
   have e : p.room = if (p.frame i).dirty then (if (p.put i).2 = 0 then ((p.put i).1.drop i, 0) else p.put i) else (p.drop i, 0) := by
    unfold Pl.room; rw [if_neg hl, hb]
   rw [e, Pl.frame_eq h1]
   cases hd : f.dirty with
   | true =>
     obtain ⟨w1, w2, w4⟩ := h.put hw h1
     rw [if_pos rfl, if_pos w1]
     refine ⟨i, f, h1, h2, rfl, ?_, w4.erase (g := f.clean) (by rw [w2]; exact modify_same h1) rfl⟩
     show (p.put i).1.fs.eraseIdx i = _
     rw [w2, modify_erase]
   | false =>
     rw [if_neg (by simp)]
     exact ⟨i, f, h1, h2, rfl, rfl, h.erase h1 hd⟩
theorem ToldM.roomy [Tab] (h : ToldM p M Q U) (hw : p.WF) (hg : p.fs.length < p.most ∨ ∃ g ∈ p.fs, g.pins = []) :
  p.room.2 = 0 ∧ ToldM p.room.1 M Q U ∧ (∀ g ∈ p.room.1.fs, g ∈ p.fs) ∧ (∀ g ∈ p.fs, g.pins ≠ [] → g ∈ p.room.1.fs) := by
 by_cases hl : p.fs.length < p.most
 ·rw [Pl.room_free hl]; exact ⟨rfl, h, fun _ q => q, fun _ q _ => q⟩
 ·obtain ⟨g, hgm, hgp⟩ := hg.resolve_left hl
  obtain ⟨i, f, h1, h2, h3, h4, h5⟩ := h.make hw hl hgm hgp
  refine ⟨h3, h5, fun x hx => by rw [h4] at hx; exact List.mem_of_mem_eraseIdx hx, fun x hx hxp => ?_⟩
  rw [h4]
  obtain ⟨j, hj⟩ := List.mem_iff_getElem?.1 hx
  refine mem_erase.2 ⟨j, ?_, hj⟩
  rintro rfl
  rw [h1] at hj; cases hj; exact hxp h2
theorem ToldM.take [Tab] (h : ToldM p M Q U) {f : Fr} (hM : M f.name = some x) (hp : f.page < x.N) (hT : x.T f.page = (f.kind, f.b)) : ToldM (p.take f) M Q U := by
 refine h.chg rfl rfl (fun g hg => ?_) fun m k hc g hg e1 e2 => hc g (by rw [Pl.take_fs]; exact List.mem_append_left _ hg) e1 e2
 rw [Pl.take_fs] at hg
 rcases List.mem_append.1 hg with r | r
 ·exact h.mine g r
 ·simp at r; subst r; exact ⟨x, hM, hp, hT⟩
end
theorem change_at {d : Dk} (hc : d.crash = none) : d.change = ({ d with ops := w64 (d.ops + 1) }, 0) := by unfold Dk.change; rw [hc]
section
variable {p p' : Pl} {M : Files} {Q U : Nat} {n : ByteArray} {x : St}
theorem ToldM.fresh [Tab] (h : ToldM p M Q U) (hM : M n = some x) (hw : p.WF) (hg : p.fs.length < p.most ∨ ∃ g ∈ p.fs, g.pins = []) (hN : U < Q) :
  (p.fresh n).2 = (p.next, (x.N : Int), 0) ∧ (p.fresh n).1.fs = p.room.1.fs ++ [⟨n, x.N, 0, [], false, [p.next], 0⟩] ∧ (p.fresh n).1.next = w64 (p.next + 1) ∧ (p.fresh n).1.most = p.most ∧ (p.fresh n).1.tick = p.tick ∧
  ToldM (p.fresh n).1 (setF M n (some ⟨x.N + 1, setT x.T x.N (0, [])⟩)) Q (U + 1) ∧ (x.N < 1048577 → n.size ≤ 9223372036854775807 → p.next < 9223372036854775807 → (p.fresh n).1.WF) := by
 obtain ⟨h1, h2, h3, _⟩ := h.roomy hw hg
 have hs : (sealP 0 []).length = 512 := sealP_length (by simp)
 obtain ⟨j, f, a1, a2, a3, a4, a5⟩ := h2.at hM
 obtain ⟨d', w1, w2, w3, w4, w5, w6⟩ := write_at h2.up h2.calm a1 a2 (k := x.N) hs (by omega) (by rw [h2.used, h2.quota]; omega)
 have hrs := p.room_same
 have hlen := h.len hM
 have e : p.fresh n = ((p.room.1.setD d').take ⟨n, x.N, 0, [], false, [], 0⟩, p.room.1.next, (x.N : Int), 0) := by
  unfold Pl.fresh
  rw [if_neg (by rw [h.wrong]; simp), hlen]
  simp only
  rw [if_neg (by simp), if_neg (by rw [h1]; simp), if_neg (by rw [w1]; simp), w1]
 rw [e]
 have hnx : (p.room.1.setD d').next = p.next := hrs.2.1
 have nocl : ∀ g ∈ p.room.1.fs, g.name = n → g.page < x.N := fun g hg hgn => by
  obtain ⟨y, b1, b2, _⟩ := h2.mine g hg
  rw [hgn, hM] at b1; cases b1; exact b2
 have ht : ToldM (p.room.1.setD d') (setF M n (some ⟨x.N + 1, setT x.T x.N (0, [])⟩)) Q (U + 1) := by
  refine ⟨h2.wrong, w2, w3, w4.trans h2.quota, ?_, ?_, fun j' f' hf' => ?_, fun m y hy => ?_, fun g hgm => ?_⟩
  ·show d'.used = U + 1
   rw [w6, if_pos a4.symm, h2.used]
  ·show (d'.files.map _).Nodup
   rw [w5, map_modify_all (fun f : Fl => f.name.toList) (fun f => { f with log := f.log ++ [⟨p.room.1.d.next, x.N, ⟨sealP 0 [], hs⟩⟩] }) (fun _ => rfl)]
   exact h2.nodup
  ·have hf' : d'.files[j']? = some f' := hf'
   rw [w5] at hf'
   by_cases q : j = j'
   ·subst q
    rw [modify_same a2] at hf'
    cases hf'
    refine ⟨_, by show setF M n _ f.name = _; rw [a3, setF_same], ?_, fun k b hk hc => ?_⟩
    ·rw [Fl.addW_pages]
     show (putAt f.pages x.N ⟨sealP 0 [], hs⟩).length = x.N + 1
     rw [putAt_length]; omega
    ·rw [Fl.addW_pages] at hk
     have hk : (putAt f.pages x.N ⟨sealP 0 [], hs⟩)[k]? = some b := hk
     rw [putAt_get (by omega)] at hk
     show openP b.1 = some (setT x.T x.N (0, []) k)
     split at hk
     ·rename_i ek; cases hk; subst ek
      rw [setT_same]; exact openP_sealP (by simp)
     ·rename_i ek
      rw [setT_other ek]
      exact a5 k b hk (by rw [← a3]; exact hc)
   ·rw [modify_other q] at hf'
    obtain ⟨y, b1, b2, b3⟩ := h2.file j' f' hf'
    have hne : f'.name ≠ n := fun e => q (by
     have := idx_at h2.nodup hf'
     rw [e, a1] at this
     exact Option.some.inj this)
    exact ⟨y, by rw [setF_other hne]; exact b1, b2, b3⟩
  ·have key : ∀ m y, M m = some y → ∃ (i : Nat) (f : Fl), d'.files[i]? = some f ∧ f.name = m := fun m y hy => by
    obtain ⟨j', f', b1, b2⟩ := h2.there m y hy
    rw [w5]
    by_cases q : j = j'
    ·subst q
     exact ⟨j, _, modify_same b1, b2⟩
    ·exact ⟨j', f', by rw [modify_other q]; exact b1, b2⟩
   by_cases q : m = n
   ·subst q; exact key m x hM
   ·rw [setF_other q] at hy
    exact key m y hy
  ·have hgm : g ∈ p.room.1.fs := hgm
   obtain ⟨y, b1, b2, b3⟩ := h2.mine g hgm
   by_cases q : g.name = n
   ·rw [q, hM] at b1; cases b1
    exact ⟨_, by rw [q, setF_same], by show g.page < x.N + 1; omega, by show setT x.T x.N (0, []) g.page = _; rw [setT_other (by omega)]; exact b3⟩
   ·exact ⟨y, by rw [setF_other q]; exact b1, b2, b3⟩
 refine ⟨by rw [hrs.2.1], ?_, ?_, hrs.1, hrs.2.2.1, ht.take (f := ⟨n, x.N, 0, [], false, [], 0⟩) (setF_same _ _ _) (Nat.lt_succ_self _) (setT_same _ _ _), fun hb hsz hx => ?_⟩
 ·rw [Pl.take_fs, hnx]; rfl
 ·show w64 ((p.room.1.setD d').next + 1) = _
  rw [hnx]
 ·obtain ⟨v1, v2⟩ := hw.roomed
  have hno : p.room.1.find n (x.N : Int) = none := Pl.find_none_of fun g hg hgn => by have := nocl g hg hgn; omega
  exact (v1.setD _).take (by show p.room.1.fs.length < p.room.1.most; rw [hrs.1]; exact v2 h1) (by show p.room.1.next < _; rw [hrs.2.1]; exact hx) hno (by simp) hb hsz rfl rfl
theorem ToldM.turn [Tab] (h : ToldM p M Q U) {i : Nat} {f : Fr} {u : Fr → Fr} (hf : p.fs[i]? = some f) (hd : p'.d = p.d) (hw : p'.wrong = p.wrong) (hfs : p'.fs = p.fs.modify i u)
  (hu : (u f).name = f.name ∧ (u f).page = f.page ∧ (u f).kind = f.kind ∧ (u f).b = f.b ∧ (u f).dirty = f.dirty) : ToldM p' M Q U := by
 obtain ⟨u1, u2, u3, u4, u5⟩ := hu
 refine h.chg hd hw (fun g hg => ?_) fun m k hc g hg e1 e2 => ?_
 ·rw [hfs] at hg
  rcases mem_modify hf hg with r | r
  ·exact h.mine g r
  ·subst r; rw [u1, u2, u3, u4]; exact h.mine f (List.mem_of_getElem? hf)
 ·obtain ⟨j, hj⟩ := List.mem_iff_getElem?.1 hg
  by_cases e : i = j
  ·subst e
   rw [hf] at hj; cases hj
   rw [← u5]
   exact hc (u f) (by rw [hfs]; exact List.mem_of_getElem? (modify_same hf)) (by rw [u1]; exact e1) (by rw [u2]; exact e2)
  ·exact hc g (by rw [hfs]; exact List.mem_of_getElem? (by rw [modify_other e]; exact hj)) e1 e2
theorem ToldM.pin_in [Tab] (h : ToldM p M Q U) {k : Nat} {i : Nat} {f : Fr} (hi : p.find n k = some i) (hf : p.fs[i]? = some f) :
  p.pin n k = (p.pinAt i, p.next, 0) ∧ ToldM (p.pinAt i) M Q U := by
 refine ⟨?_, h.turn hf rfl rfl rfl ⟨rfl, rfl, rfl, rfl, rfl⟩⟩
 unfold Pl.pin
 rw [if_neg (by rw [h.wrong]; simp), hi]
theorem ToldM.pin_out [Tab] (h : ToldM p M Q U) (hM : M n = some x) (hw : p.WF) {k : Nat} (hi : p.find n k = none) (hk : k < x.N) (hg : p.fs.length < p.most ∨ ∃ g ∈ p.fs, g.pins = []) :
  (p.pin n k).2 = (p.next, 0) ∧ (p.pin n k).1.fs = p.room.1.fs ++ [⟨n, k, (x.T k).1, (x.T k).2, false, [p.next], 0⟩] ∧ (p.pin n k).1.next = w64 (p.next + 1) ∧ (p.pin n k).1.most = p.most ∧ ToldM (p.pin n k).1 M Q U ∧
  (x.N ≤ 1048576 → n.size ≤ 9223372036854775807 → p.next < 9223372036854775807 → (p.pin n k).1.WF) := by
 obtain ⟨h1, h2, h3, _⟩ := h.roomy hw hg
 have hrs := p.room_same
 have hlen := h.len hM
 have hno : ∀ g ∈ p.room.1.fs, g.name = n → g.page ≠ k := fun g hgm hgn e => Pl.find_none hi g (h3 g hgm) hgn (by omega)
 obtain ⟨j, f, a1, a2, a3, a4, a5⟩ := h2.at hM
 obtain ⟨b, hb⟩ : ∃ b, f.pages[k]? = some b := ⟨_, List.getElem?_eq_getElem (by omega)⟩
 have ho := a5 k b hb fun g hgm hgn e => absurd e (hno g hgm hgn)
 have hrd : p.room.1.d.read n k = (b.1, 0) := by
  unfold Dk.read Dk.open
  rw [if_neg (by rw [h2.up]; simp), a1]
  simp only [Dk.file_eq a2]
  rw [if_neg (by omega), Int.toNat_natCast, hb]
 have el : p.load n k = (p.room.1, some ⟨n, k, (x.T k).1, (x.T k).2, false, [], 0⟩, 0) := by
  unfold Pl.load
  rw [hlen]
  simp only
  rw [if_neg (by simp), if_neg (by omega), if_neg (by rw [h1]; simp), hrd]
  simp only
  rw [if_neg (by simp), ho]
  simp
 have e : p.pin n k = (p.room.1.take ⟨n, k, (x.T k).1, (x.T k).2, false, [], 0⟩, p.room.1.next, 0) := by
  unfold Pl.pin
  rw [if_neg (by rw [h.wrong]; simp), hi, el]
 rw [e]
 refine ⟨by rw [hrs.2.1], ?_, ?_, hrs.1, h2.take (f := ⟨n, k, (x.T k).1, (x.T k).2, false, [], 0⟩) hM hk rfl, fun hN hsz hx => ?_⟩
 ·rw [Pl.take_fs, hrs.2.1]; rfl
 ·show w64 (p.room.1.next + 1) = _
  rw [hrs.2.1]
 ·obtain ⟨v1, v2⟩ := hw.roomed
  have hfind : p.room.1.find n (k : Int) = none := Pl.find_none_of fun g hg hgn => by have := hno g hg hgn; omega
  exact v1.take (by rw [hrs.1]; exact v2 h1) (by rw [hrs.2.1]; omega) hfind (openP_room ho) (by simp only; omega) hsz rfl rfl
theorem ToldM.get [Tab] (h : ToldM p M Q U) (hw : p.WF) {f : Fr} {c : Int} (hf : f ∈ p.fs) (hM : M f.name = some x) (hx : c ∈ f.pins) : p.get c = ((x.T f.page).1, (x.T f.page).2, 0) := by
 obtain ⟨i, hi⟩ := List.mem_iff_getElem?.1 hf
 obtain ⟨y, b1, b2, b3⟩ := h.mine f hf
 rw [hM] at b1; cases b1
 unfold Pl.get
 rw [if_neg (by rw [h.wrong]; simp), Pl.held_eq hw hi hx]
 simp only [Pl.frame_eq hi, b3]
theorem ToldM.set [Tab] (h : ToldM p M Q U) (hw : p.WF) {i : Nat} {f : Fr} {c : Int} (hf : p.fs[i]? = some f) (hM : M f.name = some x) (hx : c ∈ f.pins) {k : UInt8} {b : List UInt8} (hb : b.length ≤ 504) :
  p.set c k b = (p.turn i (Fr.set k b), 0) ∧ ToldM (p.turn i (Fr.set k b)) (setF M f.name (some { x with T := setT x.T f.page (k, b) })) Q U := by
 constructor
 ·unfold Pl.set
  rw [if_neg (by rw [h.wrong]; simp), Pl.held_eq hw hf hx]
  simp only
  rw [if_neg (by omega)]
 ·have hcl : ∀ m j, (m ≠ f.name ∨ j ≠ f.page) → Cl (p.fs.modify i (Fr.set k b)) m j → Cl p.fs m j := by
   intro m j hne hc g hg e1 e2
   obtain ⟨a, ha⟩ := List.mem_iff_getElem?.1 hg
   by_cases q : i = a
   ·subst q
    rw [hf] at ha; cases ha
    rcases hne with u | u
    ·exact absurd e1.symm u
    ·exact absurd e2.symm u
   ·exact hc g (List.mem_of_getElem? (by rw [modify_other q]; exact ha)) e1 e2
  refine ⟨h.wrong, h.up, h.calm, h.quota, h.used, h.nodup, fun j g hg => ?_, fun m y hy => ?_, fun g hg => ?_⟩
  ·obtain ⟨y, b1, b2, b3⟩ := h.file j g hg
   by_cases q : g.name = f.name
   ·rw [q, hM] at b1; cases b1
    refine ⟨{ x with T := setT x.T f.page (k, b) }, by rw [q, setF_same], b2, fun a c hc hcc => ?_⟩
    show openP c.1 = some (setT x.T f.page (k, b) a)
    by_cases e : a = f.page
    ·subst e
     have := hcc (Fr.set k b f) (List.mem_of_getElem? (modify_same hf)) q.symm rfl
     cases this
    ·rw [setT_other e]
     exact b3 a c hc (hcl _ _ (.inr e) hcc)
   ·exact ⟨y, by rw [setF_other q]; exact b1, b2, fun a c hc hcc => b3 a c hc (hcl _ _ (.inl q) hcc)⟩
  ·by_cases q : m = f.name
   ·subst q; exact h.there _ x hM
   ·rw [setF_other q] at hy; exact h.there m y hy
  ·have hg : g ∈ p.fs.modify i (Fr.set k b) := hg
   rw [modify_set hf] at hg
   rcases mem_set' hg with ⟨j, hji, hj⟩ | r
   ·obtain ⟨y, b1, b2, b3⟩ := h.mine g (List.mem_of_getElem? hj)
    by_cases q : g.name = f.name
    ·rw [q, hM] at b1; cases b1
     have hne : g.page ≠ f.page := fun e => hji (key_inj hw.keys hj hf q e)
     exact ⟨{ x with T := setT x.T f.page (k, b) }, by rw [q, setF_same], b2, by show setT x.T f.page (k, b) g.page = _; rw [setT_other hne]; exact b3⟩
    ·exact ⟨y, by rw [setF_other q]; exact b1, b2, b3⟩
   ·subst r
    obtain ⟨y, b1, b2, _⟩ := h.mine f (List.mem_of_getElem? hf)
    rw [hM] at b1; cases b1
    exact ⟨_, setF_same _ _ _, b2, setT_same _ _ _⟩
theorem ToldM.unpin [Tab] (h : ToldM p M Q U) (hw : p.WF) {i : Nat} {f : Fr} {c : Int} (hf : p.fs[i]? = some f) (hx : c ∈ f.pins) :
  p.unpin c = ({ p with fs := p.fs.modify i (Fr.unpin c (w64 (p.tick + 1))), tick := w64 (p.tick + 1) }, 0) ∧ ToldM (p.unpin c).1 M Q U := by
 have e : p.unpin c = ({ p with fs := p.fs.modify i (Fr.unpin c (w64 (p.tick + 1))), tick := w64 (p.tick + 1) }, 0) := by
  unfold Pl.unpin
  rw [if_neg (by rw [h.wrong]; simp), Pl.held_eq hw hf hx]
 refine ⟨e, ?_⟩
 rw [e]
 exact h.turn hf rfl rfl rfl ⟨rfl, rfl, rfl, rfl, rfl⟩
theorem ToldM.create [Tab] (h : ToldM p M Q U) (hM : M n = none) (hn : named n = true) (hl : p.d.files.length < 4096) (T0 : Nat → UInt8 × List UInt8) :
  (p.d.create n).2 = 0 ∧ ToldM (p.setD (p.d.create n).1) (setF M n (some ⟨0, T0⟩)) Q U ∧ (p.d.create n).1.files.length = p.d.files.length + 1 ∧ (p.d.create n).1.logs = p.d.logs := by
 have hx : p.d.idx n = none := by
  unfold Dk.idx
  rw [List.findIdx?_eq_none_iff]
  intro f hf
  obtain ⟨i, hi⟩ := List.mem_iff_getElem?.1 hf
  obtain ⟨x, a, _⟩ := h.file i f hi
  have : ¬ f.name.toList = n.toList := fun q => by
   have e : f.name = n := ba_eq q
   rw [e, hM] at a; cases a
  simpa using this
 have hch := change_at h.calm
 have e : p.d.create n = ({ p.d with files := p.d.files ++ [⟨n, [], []⟩], ops := w64 (p.d.ops + 1) }, 0) := by
  unfold Dk.create
  rw [if_neg (by rw [h.up]; simp), if_neg (by rw [hn]; simp), if_neg (by rw [hx]; simp), if_neg (by omega)]
  unfold Dk.step
  rw [hch, if_pos rfl]
 rw [e]
 have hne : ∀ f ∈ p.d.files, f.name ≠ n := fun f hf q => by
  obtain ⟨i, hi⟩ := List.mem_iff_getElem?.1 hf
  obtain ⟨x, a, _⟩ := h.file i f hi
  rw [q, hM] at a; cases a
 have hnx : ∀ m x, M m = some x → m ≠ n := fun m x hx2 q => by subst q; rw [hM] at hx2; cases hx2
 refine ⟨rfl, ⟨h.wrong, h.up, h.calm, h.quota, ?_, ?_, fun i f hf => ?_, fun m y hy => ?_, fun g hg => ?_⟩, by simp, by simp [Dk.logs]⟩
 ·have := h.used
  show ((p.d.files ++ [(⟨n, [], []⟩ : Fl)]).map fun f : Fl => f.pages.length).sum = U
  unfold Dk.used at this
  rw [List.map_append, List.sum_append, this]
  simp [Fl.pages]
 ·show ((p.d.files ++ [(⟨n, [], []⟩ : Fl)]).map fun f : Fl => f.name.toList).Nodup
  rw [List.map_append, List.nodup_append]
  refine ⟨h.nodup, by simp, fun a ha b hb => ?_⟩
  obtain ⟨f, hf, rfl⟩ := List.mem_map.1 ha
  have hb : b = n.toList := by simpa using hb
  rw [hb]
  exact fun q => hne f hf (ba_eq q)
 ·have hf : (p.d.files ++ [(⟨n, [], []⟩ : Fl)])[i]? = some f := hf
  rw [List.getElem?_append] at hf
  split at hf
  ·obtain ⟨x, a, b, c⟩ := h.file i f hf
   exact ⟨x, by rw [setF_other (hne f (List.mem_of_getElem? hf))]; exact a, b, c⟩
  ·have : i - p.d.files.length = 0 := by
    have := (List.getElem?_eq_some_iff.1 hf).1
    simp at this; omega
   rw [this] at hf
   have hf : f = ⟨n, [], []⟩ := by simpa using hf.symm
   subst hf
   exact ⟨_, setF_same _ _ _, rfl, fun k b hk => by simp [Fl.pages] at hk⟩
 ·show ∃ (i : Nat) (f : Fl), (p.d.files ++ [(⟨n, [], []⟩ : Fl)])[i]? = some f ∧ f.name = m
  by_cases q : m = n
  ·subst q
   exact ⟨p.d.files.length, ⟨m, [], []⟩, by simp, rfl⟩
  ·rw [setF_other q] at hy
   obtain ⟨i, f, a, b⟩ := h.there m y hy
   exact ⟨i, f, by rw [List.getElem?_append_left (List.getElem?_eq_some_iff.1 a).1]; exact a, b⟩
 ·obtain ⟨y, a, b⟩ := h.mine g hg
  exact ⟨y, by rw [setF_other (hnx _ _ a)]; exact a, b⟩
end
structure CalmM [Tab] (p : Pl) (M : Files) (Q U : Nat) : Prop where
 told : ToldM p M Q U
 wf : p.WF
 free : ∀ f ∈ p.fs, f.pins = []
section
variable {p : Pl} {M : Files} {Q U : Nat} {n : ByteArray} {x : St}
theorem CalmM.roomy [Tab] (h : CalmM p M Q U) : p.fs.length < p.most ∨ ∃ g ∈ p.fs, g.pins = [] := by
 by_cases hl : p.fs.length < p.most
 ·exact .inl hl
 ·right
  have := h.wf.most
  match hf : p.fs with
  | [] => rw [hf] at hl; simp at hl; omega
  | f :: _ => exact ⟨f, List.mem_cons_self, h.free f (by rw [hf]; exact List.mem_cons_self)⟩
theorem CalmM.give [Tab] (hw : p.WF) (t : ToldM p M Q U) {i : Nat} {f : Fr} {c : Int} (hf : p.fs[i]? = some f) (hx : f.pins = [c]) (hl : ∀ j g, j ≠ i → p.fs[j]? = some g → g.pins = []) (hn : p.next < 9223372036854775807) :
  (p.unpin c).2 = 0 ∧ CalmM (p.unpin c).1 M Q U ∧ (p.unpin c).1.next = p.next ∧ (p.unpin c).1.most = p.most := by
 obtain ⟨u1, u2⟩ := t.unpin hw hf (c := c) (by rw [hx]; simp)
 refine ⟨by rw [u1], ⟨u2, hw.unpin c hn, ?_⟩, by rw [u1], by rw [u1]⟩
 rw [u1]
 intro g hg
 obtain ⟨j, hj⟩ := List.mem_iff_getElem?.1 hg
 have hj : (p.fs.modify i (Fr.unpin c (w64 (p.tick + 1))))[j]? = some g := hj
 by_cases e : i = j
 ·subst e
  rw [modify_same hf] at hj
  cases hj; simp [Fr.unpin, hx]
 ·rw [modify_other e] at hj
  exact hl j g (fun q => e q.symm) hj
theorem last_free {l : List Fr} {f : Fr} {fs : List Fr} (hf : fs = l ++ [f]) (hl : ∀ g ∈ l, g.pins = []) : fs[l.length]? = some f ∧ ∀ j g, j ≠ l.length → fs[j]? = some g → g.pins = [] := by
 subst hf
 refine ⟨by simp, fun j g hj hg => ?_⟩
 rcases Nat.lt_or_ge j l.length with hlt | hge
 ·rw [List.getElem?_append_left hlt] at hg
  exact hl g (List.mem_of_getElem? hg)
 ·rw [List.getElem?_append_right hge] at hg
  obtain ⟨m, hm⟩ : ∃ m, j - l.length = m + 1 := ⟨j - l.length - 1, by omega⟩
  rw [hm] at hg; simp at hg
theorem CalmM.more [Tab] (h : CalmM p M Q U) (hM : M n = some x) (hN : U < Q) (hb0 : x.N < 1048577) (hs : n.size ≤ 9223372036854775807) (h0 : 0 ≤ p.next) (h1 : p.next < 1099511627776) {k : UInt8} {b : List UInt8} (hb : b.length ≤ 504) (hk : k ≠ 0) :
  (p.more n k b).2 = 0 ∧ (p.fresh n).2.2.1 = x.N ∧ CalmM (p.more n k b).1 (setF M n (some ⟨x.N + 1, setT x.T x.N (k, b)⟩)) Q (U + 1) ∧ (p.more n k b).1.next = p.next + 1 ∧ (p.more n k b).1.most = p.most := by
 obtain ⟨r1, r2, r3, r4, _, r6, r7⟩ := h.told.fresh hM h.wf h.roomy hN
 obtain ⟨_, _, hsub, _⟩ := h.told.roomy h.wf h.roomy
 have hfree : ∀ g ∈ p.room.1.fs, g.pins = [] := fun g hg => h.free g (hsub g hg)
 have hnx : (p.fresh n).1.next = p.next + 1 := by rw [r3]; exact w64_up h0 h1
 have hwf : (p.fresh n).1.WF := r7 hb0 hs (by omega)
 generalize p.room.1.fs = l at r2 hfree
 unfold Pl.more
 rw [r1]
 generalize (p.fresh n).1 = s at *
 simp only
 rw [if_neg (by simp), if_neg hk]
 obtain ⟨hi, hl⟩ := last_free r2 hfree
 obtain ⟨s1, s2⟩ := r6.set hwf hi (c := p.next) (k := k) (b := b) (setF_same _ _ _) (by simp) hb
 have hw2 := hwf.set p.next k b
 rw [s1] at hw2 ⊢
 have e2 : (s.turn l.length (Fr.set k b)).fs = l ++ [⟨n, x.N, k, b, true, [p.next], 0⟩] := by
  show s.fs.modify _ _ = _
  rw [r2, modify_last]; rfl
 have et : setT (setT x.T x.N (0, [])) x.N (k, b) = setT x.T x.N (k, b) := by
  funext j
  by_cases e : j = x.N
  ·subst e; rw [setT_same, setT_same]
  ·rw [setT_other e, setT_other e, setT_other e]
 rw [setF_set] at s2
 have s2' : ToldM (s.turn l.length (Fr.set k b)) (setF M n (some ⟨x.N + 1, setT (setT x.T x.N (0, [])) x.N (k, b)⟩)) Q (U + 1) := s2
 rw [et] at s2'
 obtain ⟨i2, l2⟩ := last_free e2 hfree
 obtain ⟨b1, b2, b3, b4⟩ := CalmM.give (c := p.next) hw2 s2' i2 rfl l2 (by show s.next < _; omega)
 exact ⟨b1, by first | trivial | rfl, b2, b3.trans hnx, b4.trans r4⟩
theorem CalmM.pin [Tab] (h : CalmM p M Q U) (hM : M n = some x) (hb0 : x.N ≤ 1048576) (hs : n.size ≤ 9223372036854775807) (h0 : 0 ≤ p.next) (h1 : p.next < 1099511627776) {k : Nat} (hk : k < x.N) :
  (p.pin n k).2 = (p.next, 0) ∧ (p.pin n k).1.WF ∧ ToldM (p.pin n k).1 M Q U ∧ (p.pin n k).1.next = p.next + 1 ∧ (p.pin n k).1.most = p.most ∧
  ∃ (i : Nat) (f : Fr), (p.pin n k).1.fs[i]? = some f ∧ f.pins = [p.next] ∧ f.name = n ∧ f.page = k ∧ ∀ j g, j ≠ i → (p.pin n k).1.fs[j]? = some g → g.pins = [] := by
 have t := h.told
 have hnx : w64 (p.next + 1) = p.next + 1 := w64_up h0 h1
 cases hi : p.find n (k : Int) with
 | some i =>
   obtain ⟨f, hf, hfn, hfk⟩ := Pl.find_some hi
   obtain ⟨r1, r2⟩ := t.pin_in hi hf
   rw [r1]
   refine ⟨rfl, h.wf.pinAt hf (by omega), r2, hnx, rfl, i, Fr.pin p.next f, modify_same hf, ?_, hfn, by show f.page = k; omega, fun j g hj hg => ?_⟩
   ·show f.pins ++ [p.next] = _
    rw [h.free f (List.mem_of_getElem? hf)]; rfl
   ·have hg : (p.fs.modify i (Fr.pin p.next))[j]? = some g := hg
    rw [modify_other (fun e => hj e.symm)] at hg
    exact h.free g (List.mem_of_getElem? hg)
 | none =>
   obtain ⟨r1, r2, r3, r4, r5, r6⟩ := t.pin_out hM h.wf hi hk h.roomy
   obtain ⟨_, _, hsub, _⟩ := t.roomy h.wf h.roomy
   obtain ⟨i2, l2⟩ := last_free r2 fun g hg => h.free g (hsub g hg)
   exact ⟨r1, r6 hb0 hs (by omega), r5, r3.trans hnx, r4, _, _, i2, rfl, rfl, rfl, l2⟩
theorem CalmM.look [Tab] (h : CalmM p M Q U) (hM : M n = some x) (hb0 : x.N ≤ 1048576) (hs : n.size ≤ 9223372036854775807) (h0 : 0 ≤ p.next) (h1 : p.next < 1099511627776) {k : Nat} (hk : k < x.N) :
  (p.look n k).2 = ((x.T k).1, (x.T k).2, 0) ∧ CalmM (p.look n k).1 M Q U ∧ (p.look n k).1.next = p.next + 1 ∧ (p.look n k).1.most = p.most := by
 obtain ⟨r1, r2, t, r4, r5, i, f, r6, r7, rn, r8, r9⟩ := h.pin hM hb0 hs h0 h1 hk
 unfold Pl.look
 rw [r1]
 generalize (p.pin n k).1 = s at *
 have g1 := t.get r2 (c := p.next) (List.mem_of_getElem? r6) (by rw [rn]; exact hM) (by rw [r7]; simp)
 obtain ⟨b1, b2, b3, b4⟩ := CalmM.give r2 t r6 r7 r9 (by omega)
 simp only
 rw [if_neg (by simp), g1]
 simp only
 rw [if_neg (by simp), b1, r8]
 exact ⟨rfl, b2, b3.trans r4, b4.trans r5⟩
theorem CalmM.over [Tab] (h : CalmM p M Q U) (hM : M n = some x) (hb0 : x.N ≤ 1048576) (hs : n.size ≤ 9223372036854775807) (h0 : 0 ≤ p.next) (h1 : p.next < 1099511627776) {k : Nat} (hk : k < x.N) {kd : UInt8} {b : List UInt8} (hb : b.length ≤ 504) :
  (p.over n (k : Int) kd b).2 = 0 ∧ CalmM (p.over n (k : Int) kd b).1 (setF M n (some { x with T := setT x.T k (kd, b) })) Q U ∧ (p.over n (k : Int) kd b).1.next = p.next + 1 ∧ (p.over n (k : Int) kd b).1.most = p.most := by
 obtain ⟨r1, r2, t, r4, r5, i, f, r6, r7, rn, r8, r9⟩ := h.pin hM hb0 hs h0 h1 hk
 unfold Pl.over
 rw [r1]
 simp only
 rw [if_neg (by simp)]
 generalize (p.pin n k).1 = s at *
 obtain ⟨s1, s2⟩ := t.set r2 r6 (c := p.next) (k := kd) (b := b) (by rw [rn]; exact hM) (by rw [r7]; simp) hb
 have hw2 := r2.set p.next kd b
 rw [s1] at hw2 ⊢
 rw [r8, rn] at s2
 have e1 : Pl.leave (s.turn i (Fr.set kd b), 0) p.next = (s.turn i (Fr.set kd b)).unpin p.next := if_pos rfl
 rw [e1]
 have e6 : (s.turn i (Fr.set kd b)).fs[i]? = some (Fr.set kd b f) := modify_same r6
 obtain ⟨b1, b2, b3, b4⟩ := CalmM.give (c := p.next) hw2 s2 e6 (by simpa [Fr.set] using r7) (fun j g hj hg => r9 j g hj (by
  have hg : (s.fs.modify i (Fr.set kd b))[j]? = some g := hg
  rw [modify_other (fun e => hj e.symm)] at hg; exact hg)) (by show s.next < _; omega)
 exact ⟨b1, b2, b3.trans r4, b4.trans r5⟩
theorem CalmM.far [Tab] (h : CalmM p M Q U) (hM : M n = some x) {k : Nat} (hk : x.N ≤ k) : p.look n (k : Int) = (p, 0, [], 12) := by
 have t := h.told
 have hf : p.find n (k : Int) = none := Pl.find_none_of fun g hg hgn => by
  obtain ⟨y, b1, b2, _⟩ := t.mine g hg
  rw [hgn, hM] at b1; cases b1
  omega
 have hl : p.load n (k : Int) = (p, none, 12) := by
  unfold Pl.load
  rw [t.len hM]
  simp only
  rw [if_neg (by simp), if_pos (by omega)]
 have e : p.pin n (k : Int) = (p, 0, 12) := by
  unfold Pl.pin
  rw [if_neg (by rw [t.wrong]; simp), hf]
  simp only [hl]
  rfl
 unfold Pl.look
 rw [e]
 simp only
 rw [if_pos (by decide)]
theorem CalmM.full [Tab] (h : CalmM p M Q U) (hM : M n = some x) (hN : U = Q) {k : UInt8} {b : List UInt8} : (p.more n k b).2 = 5 := by
 obtain ⟨h1, h2, h3, _⟩ := h.told.roomy h.wf h.roomy
 have hs5 : (sealP 0 []).length = 512 := sealP_length (by simp)
 obtain ⟨j, f, a1, a2, a3, a4, a5⟩ := h2.at hM
 have hwr : p.room.1.d.write n (x.N : Int) (sealP 0 []) = (p.room.1.d, 5) := by
  unfold Dk.write
  rw [if_neg (by rw [h2.up]; simp), dif_pos hs5, a1]
  simp only [Dk.file_eq a2]
  rw [if_neg (by omega), if_pos (by rw [h2.used, h2.quota]; omega)]
 have e : p.fresh n = ((p.room.1.setD p.room.1.d).met 5, 0, 0, 5) := by
  unfold Pl.fresh
  rw [if_neg (by rw [h.told.wrong]; simp), h.told.len hM]
  simp only
  rw [if_neg (by simp), if_neg (by rw [h1]; simp), if_pos (by rw [hwr]; simp), hwr]
 unfold Pl.more
 rw [e]
 simp only
 rw [if_pos (by decide)]
end
structure ManyI [Tab] (n : ByteArray) (Mo : Files) (Q R most : Nat) (s : Pl) (x : St) (m : Nat) : Prop where
 calm : CalmM s (setF Mo n (some x)) Q (x.N + R)
 lo : 0 ≤ s.next
 hi : s.next ≤ m
 logs : s.d.logs ≤ 2 * m
 le : x.N + R ≤ Q
 room : ∀ k, (x.T k).2.length ≤ 504
 most : s.most = most
theorem many_store [Tab] {n : ByteArray} {Mo : Files} {Q R most : Nat} (hn : n.size ≤ 9223372036854775807) (hq : Q ≤ 1048576) : Store n (Q - R) (ManyI n Mo Q R most) (fun _ e => e = 5) (fun _ _ => False) where
 name := hn
 small := by omega
 pre {s x m} h := ⟨h.logs, h.lo, h.hi, h.calm.told.fit, by have := h.le; omega, h.room⟩
 look {s x m k} h hm hk := by
  have lo := h.lo; have hi := h.hi; have le := h.le
  obtain ⟨a1, a2, a3, a4⟩ := h.calm.look (setF_same _ _ _) (by omega) hn lo (by omega) hk
  exact .inl ⟨a1, a2, by omega, by omega, by have := Pl.look_logs' (s := s) (n := n) (g := (k : Int)); have := h.logs; omega, le, h.room, a4.trans h.most⟩
 far {s x m k} h hm hk := by
  have e := h.calm.far (setF_same _ _ _) hk
  rw [e]
  exact .inl ⟨rfl, h.calm, h.lo, by have := h.hi; show s.next ≤ _; omega, by have := h.logs; show s.d.logs ≤ _; omega, h.le, h.room, h.most⟩
 more {s x m kd b} h hm hb hk hN := by
  have lo := h.lo; have hi := h.hi; have le := h.le
  obtain ⟨a1, a2, a3, a4, a5⟩ := h.calm.more (setF_same _ _ _) (by omega) (by omega) hn lo (by omega) (k := kd) (b := b) hb hk
  rw [setF_set] at a3
  exact .inl ⟨a1, a2, ⟨by show CalmM _ _ _ (x.N + 1 + R); rw [show x.N + 1 + R = x.N + R + 1 by omega]; exact a3, by omega, by omega, by have := Pl.more_logs' (s := s) (n := n) (k := kd) (b := b); have := h.logs; omega, by show x.N + 1 + R ≤ Q; omega, setT_room h.room hb, a5.trans h.most⟩⟩
 full {s x m kd b} h hm hb hk hN := .inl (h.calm.full (setF_same _ _ _) (by have := h.le; omega))
 over {s x m k kd b} h hm hb hk := by
  have lo := h.lo; have hi := h.hi; have le := h.le
  obtain ⟨a1, a2, a3, a4⟩ := h.calm.over (setF_same _ _ _) (by omega) hn lo (by omega) hk (kd := kd) (b := b) hb
  rw [setF_set] at a2
  have hl := Pl.over_logs' (s := s) (n := n) (g := (k : Int)) (k := kd) (b := b)
  have hg := h.logs
  exact .inl ⟨a1, a2, by omega, by omega, by omega, le, setT_room h.room hb, a4.trans h.most⟩
 up {s x m k} h hk := ⟨h.calm, h.lo, by have := h.hi; omega, by have := h.logs; omega, h.le, h.room, h.most⟩
 errB h := by rw [h]; decide
 errC h := h.elim
theorem nodup_len {α : Type} : ∀ {A B : List α}, A.Nodup → (∀ a ∈ A, a ∈ B) → A.length ≤ B.length
 | [], _, _, _ => Nat.zero_le _
 | a :: A, B, h, hs => by
   have ha := hs a List.mem_cons_self
   obtain ⟨C, D, rfl⟩ := List.append_of_mem ha
   obtain ⟨h1, h2⟩ := List.nodup_cons.1 h
   have := nodup_len (A := A) (B := C ++ D) h2 fun b hb => by
    have hb2 := hs b (List.mem_cons_of_mem _ hb)
    rcases List.mem_append.1 hb2 with u | u
    ·exact List.mem_append.2 (.inl u)
    ·rcases List.mem_cons.1 u with v | v
     ·subst v; exact absurd hb h1
     ·exact List.mem_append.2 (.inr v)
   simp only [List.length_append, List.length_cons] at this ⊢
   omega
theorem mem_sum {α : Type} (w : α → Nat) : ∀ {l : List α} {a : α}, a ∈ l → w a ≤ (l.map w).sum
 | b :: l, a, h => by
   rw [List.map_cons, List.sum_cons]
   rcases List.mem_cons.1 h with u | u
   ·subst u; omega
   ·have := mem_sum w u; omega
section
variable {p : Pl} {M : Files} {Q U : Nat} {n : ByteArray} {x : St}
theorem ToldM.N_le [Tab] (h : ToldM p M Q U) (hM : M n = some x) : x.N ≤ U := by
 obtain ⟨i, f, _, h2, _, h4, _⟩ := h.at hM
 have := mem_sum (fun f : Fl => f.pages.length) (List.mem_of_getElem? h2)
 have hu := h.used
 unfold Dk.used at hu
 omega
theorem ToldM.files_le [Tab] (h : ToldM p M Q U) {ns : List ByteArray} (hs : ∀ n x, M n = some x → n ∈ ns) : p.d.files.length ≤ ns.length := by
 have hn : (p.d.files.map (·.name)).Nodup := by
  have := h.nodup
  have e : (p.d.files.map fun f => f.name.toList) = (p.d.files.map (·.name)).map ByteArray.toList := by rw [List.map_map]; rfl
  rw [e] at this
  exact List.Pairwise.imp (fun {a b} hne e => hne (by rw [e])) (List.pairwise_map.1 this)
 have := nodup_len hn (B := ns) fun a ha => by
  obtain ⟨f, hf, rfl⟩ := List.mem_map.1 ha
  obtain ⟨i, hi⟩ := List.mem_iff_getElem?.1 hf
  obtain ⟨y, b1, _⟩ := h.file i f hi
  exact hs _ _ b1
 rwa [List.length_map] at this
end
section
variable {p p' : Pl} {M : Files} {Q U : Nat} {n : ByteArray} {x : St}
theorem Dk.drop_at [Tab] {d : Dk} {i : Nat} (h : d.idx n = some i) : d.drop n = { d with files := d.files.eraseIdx i } := by unfold Dk.drop; rw [h]
theorem CalmM.dropF [Tab] (h : CalmM p M Q U) (hM : M n = some x) : (p.dropF n).2 = 0 ∧ CalmM (p.dropF n).1 (setF M n none) Q (U - x.N) ∧ (p.dropF n).1.most = p.most ∧ (p.dropF n).1.next = p.next := by
 obtain ⟨i, f, i1, i2, i3, i4, _⟩ := h.told.at hM
 have hr : p.d.remove n = ({ { p.d with ops := w64 (p.d.ops + 1) } with files := p.d.files.eraseIdx i }, 0) := by
  unfold Dk.remove
  rw [if_neg (by rw [h.told.up]; simp), if_neg (by rw [i1]; simp)]
  unfold Dk.step
  rw [change_at h.told.calm, if_pos rfl]
  exact congrArg (fun d : Dk => (d, (0 : Int))) (Dk.drop_at (d := { p.d with ops := w64 (p.d.ops + 1) }) i1)
 have e : p.dropF n = ((p.forget n).setD (p.d.remove n).1, 0) := by
  unfold Pl.dropF
  rw [if_neg (by rw [h.told.wrong]; simp), h.told.len hM]
  simp only
  rw [if_neg (by simp), if_neg (by
   rw [List.any_eq_true]
   rintro ⟨g, hg, h2⟩
   rw [h.free g hg] at h2
   simp at h2), hr]
  rfl
 rw [e]
 refine ⟨rfl, ⟨?_, (h.wf.forget n).setD _, fun g hg => h.free g (List.mem_filter.1 hg).1⟩, rfl, rfl⟩
 rw [hr]
 have hil := (List.getElem?_eq_some_iff.1 i2).1
 have hname : ∀ (j : Nat) (g : Fl), p.d.files[j]? = some g → g.name = n → j = i := fun j g hj hg => by
  have := idx_at h.told.nodup hj
  rw [hg, i1] at this
  exact (Option.some.inj this).symm
 have hget : ∀ j g, (p.d.files.eraseIdx i)[j]? = some g → ∃ j', j' ≠ i ∧ p.d.files[j']? = some g := fun j g hj => by
  rw [List.getElem?_eraseIdx] at hj
  split at hj
  ·rename_i q; exact ⟨j, by omega, hj⟩
  ·rename_i q; exact ⟨j + 1, by omega, hj⟩
 refine ⟨h.told.wrong, h.told.up, h.told.calm, h.told.quota, ?_, ?_, fun j g hj => ?_, fun m y hy => ?_, fun g hg => ?_⟩
 ·have := sum_erase (fun f : Fl => f.pages.length) p.d.files i f i2
  have hu := h.told.used
  unfold Dk.used at hu
  show ((p.d.files.eraseIdx i).map fun f : Fl => f.pages.length).sum = _
  rw [← i4]
  omega
 ·exact h.told.nodup.sublist ((List.eraseIdx_sublist _ _).map _)
 ·obtain ⟨j', h1, h2⟩ := hget j g hj
  obtain ⟨y, a, b, c⟩ := h.told.file j' g h2
  have hne : g.name ≠ n := fun q => h1 (hname j' g h2 q)
  refine ⟨y, by rw [setF_other hne]; exact a, b, fun k bb hk hcl => c k bb hk fun f' hf' hn' hp' => hcl f' (List.mem_filter.2 ⟨hf', ?_⟩) hn' hp'⟩
  have : ¬ f'.name.toList = n.toList := fun q => hne (by rw [← hn']; exact ba_eq q)
  simpa using this
 ·have hne : m ≠ n := fun q => by rw [q, setF_same] at hy; cases hy
  rw [setF_other hne] at hy
  obtain ⟨j, g, h1, h2⟩ := h.told.there m y hy
  have hji : j ≠ i := fun q => by subst q; rw [i2] at h1; cases h1; exact hne (h2.symm.trans i3)
  rcases Nat.lt_or_ge j i with q | q
  ·exact ⟨j, g, by show (p.d.files.eraseIdx i)[j]? = _; rw [List.getElem?_eraseIdx, if_pos q]; exact h1, h2⟩
  ·exact ⟨j - 1, g, by show (p.d.files.eraseIdx i)[j - 1]? = _; rw [List.getElem?_eraseIdx, if_neg (by omega), show j - 1 + 1 = j by omega]; exact h1, h2⟩
 ·obtain ⟨g1, g2⟩ := List.mem_filter.1 hg
  obtain ⟨y, a, b, c⟩ := h.told.mine g g1
  have hne : g.name ≠ n := fun q => by rw [q] at g2; simp at g2
  exact ⟨y, by rw [setF_other hne]; exact a, b, c⟩
end
open Go.MapKept
structure PoolM [Tab] (H0 A : Heap) (F : Nat → Prop) (p dp : Nat) (s : Pl) (M : Files) (Q U most m : Nat) : Prop where
 ext : Ext H0 A
 pool : PoolAt F A p dp s
 old : ∀ b, F b → H0.size ≤ b
 calm : CalmM s M Q U
 lo : 0 ≤ s.next
 hi : s.next ≤ m
 logs : s.d.logs ≤ 2 * m
 le : U ≤ Q
 room : ∀ n x, M n = some x → ∀ k, (x.T k).2.length ≤ 504
 most : s.most = most
section
variable {H0 A B : Heap} {F F' : Nat → Prop} {p dp Q U most m : Nat} {s s' : Pl} {M M' : Files} {n : ByteArray} {x x' : St}
theorem PoolM.gl [Tab] (h : PoolM H0 A F p dp s M Q U most m) (hg : Gl H0) : Gl A := hg.mod h.ext id
theorem PoolM.many [Tab] (h : PoolM H0 A F p dp s M Q U most m) (hM : M n = some x) : ManyI n M Q (U - x.N) most s x m := by
 have hN := h.calm.told.N_le hM
 have e : x.N + (U - x.N) = U := by omega
 exact ⟨by rw [setF_id hM, e]; exact h.calm, h.lo, h.hi, h.logs, by rw [e]; exact h.le, h.room n x hM, h.most⟩
theorem PoolM.goes [Tab] {R m' : Nat} {Y Y' : Nat → Prop} (h : PoolM H0 A F p dp s M Q U most m) (hI : ManyI n M Q R most s' x' m') (hp : PoolAt F' B p dp s') (S : Step Y Y' A B) (h1 : ∀ b, Y b → H0.size ≤ b) (h2 : ∀ b, F' b → Y' b) : PoolM H0 B F' p dp s' (setF M n (some x')) Q (x'.N + R) most m' := by
 have hz := h.ext.size
 refine ⟨⟨Nat.le_trans hz S.mod.size, fun b hb _ => (S.mod.same b (by omega) fun u => by have := h1 b u; omega).trans (h.ext.same b hb id)⟩, hp, fun b hb => ?_, hI.calm, hI.lo, hI.hi, hI.logs, hI.le, fun a y hy j => ?_, hI.most⟩
 ·rcases S.own b (h2 b hb) with u | u
  ·exact h1 b u
  ·omega
 ·by_cases q : a = n
  ·subst q
   rw [setF_same] at hy
   cases hy
   exact hI.room j
  ·rw [setF_other q] at hy
   exact h.room a y hy j
theorem PoolM.grow [Tab] (h : PoolM H0 A F p dp s M Q U most m) (e : Ext A B) : PoolM H0 B F p dp s M Q U most m :=
 ⟨h.ext.trans e, h.pool.ext e, h.old, h.calm, h.lo, h.hi, h.logs, h.le, h.room, h.most⟩
theorem PoolM.later [Tab] {m' : Nat} (h : PoolM H0 A F p dp s M Q U most m) (hm : m ≤ m') : PoolM H0 A F p dp s M Q U most m' :=
 ⟨h.ext, h.pool, h.old, h.calm, h.lo, by have := h.hi; omega, by have := h.logs; omega, h.le, h.room, h.most⟩
theorem PoolM.aside [Tab] (h : PoolM H0 A F p dp s M Q U most m) (e : Ext H0 B) (hs : ∀ b, F b → B[b]? = A[b]?) : PoolM H0 B F p dp s M Q U most m :=
 ⟨e, h.pool.keep fun b hb _ => hs b hb, h.old, h.calm, h.lo, h.hi, h.logs, h.le, h.room, h.most⟩
end
theorem Step.widen [Tab] {X X' Y Y' : Nat → Prop} {A B : Heap} (S : Step Y Y' A B) (h1 : ∀ b, Y b → X b) (h2 : ∀ b, X' b → X b ∨ Y' b) : Step X X' A B :=
 ⟨S.mod.mono fun b _ u => h1 b u, fun b hb => (h2 b hb).elim .inl fun u => (S.own b u).imp (h1 b) id⟩
section
variable {H0 A B : Heap} {X X' E E' N : Nat → Prop}
end
section
variable {H0 A B : Heap} {J : Heap → (Nat → Prop) → (Nat → Prop) → Prop} {X X1 X1' E E' : Nat → Prop}
end
abbrev Jg := Heap → (Nat → Prop) → (Nat → Prop) → Prop
section
variable {H0 : Heap} {J1 J2 : Jg}
end
def Al (X1 X2 O E : Nat → Prop) (b : Nat) : Prop := E b ∨ X1 b ∨ X2 b ∨ O b
def Ow (X1 X2 O : Nat → Prop) (b : Nat) : Prop := X1 b ∨ X2 b ∨ O b
structure Wk (J1 J2 : Jg) (A : Heap) (X1 X2 O E : Nat → Prop) : Prop where
 j1 : J1 A X1 (fun b => E b ∨ X2 b ∨ O b)
 j2 : J2 A X2 (fun b => E b ∨ X1 b ∨ O b)
 o : ∀ b, O b → ¬ E b
section
variable {H0 A B : Heap} {J1 J1' J2 J2' : Jg} {X1 X1' X2 X2' O O' E E' N X X' : Nat → Prop} {C : (Nat → Prop) → (Nat → Prop) → Heap → Prop}
def Two (J1 J2 : Jg) (C : (Nat → Prop) → (Nat → Prop) → Heap → Prop) : Jg := fun A X E => ∃ X1 X2 O, (∀ b, X b ↔ Ow X1 X2 O b) ∧ Wk J1 J2 A X1 X2 O E ∧ C O (Al X1 X2 O E) A
end
end Go.Proofs.YtkehfflpbpdokaaGreat
namespace Go.Proofs.YtkehfflpbpdokaaGreat
def chs {α : Type} (k : Nat) : Nat → List α → List (List α)
 | 0, _ => []
 | _ + 1, [] => []
 | n + 1, x :: l => (x :: l).take k :: chs k n ((x :: l).drop k)
theorem chs_nil {α : Type} (k n : Nat) : chs k n ([] : List α) = [] := by cases n <;> rfl
theorem chs_cons {α : Type} {k n : Nat} {l : List α} (h : l ≠ []) : chs k (n + 1) l = l.take k :: chs k n (l.drop k) := by
 cases l with
 | nil => exact absurd rfl h
 | cons x r => rfl
theorem chs_more {α : Type} {k : Nat} (hk : 0 < k) : ∀ {n : Nat} {l : List α}, l.length ≤ n → chs k n l = chs k l.length l
 | n, [], _ => by rw [chs_nil, chs_nil]
 | 0, x :: l, h => by simp at h
 | n + 1, x :: l, h => by
   have h : l.length + 1 ≤ n + 1 := h
   rw [chs_cons (by simp), show (x :: l).length = l.length + 1 from rfl, chs_cons (by simp)]
   have hd : ((x :: l).drop k).length ≤ l.length := by rw [List.length_drop, List.length_cons]; omega
   rw [chs_more hk (n := n) (l := (x :: l).drop k) (by omega), chs_more hk (n := l.length) (l := (x :: l).drop k) hd]
def pairL (C A : List (List Int)) : List (List Int) := A.flatMap fun a => C.map fun b => a ++ b
theorem pairL_cons (C : List (List Int)) (a : List Int) (A : List (List Int)) : pairL C (a :: A) = C.map (fun b => a ++ b) ++ pairL C A := List.flatMap_cons ..
theorem pairL_nil (A : List (List Int)) : pairL [] A = [] := by
 unfold pairL
 induction A with
 | nil => rfl
 | cons a A ih => rw [List.flatMap_cons, ih]; rfl
theorem pairL_len (C A : List (List Int)) : (pairL C A).length = A.length * C.length := by
 induction A with
 | nil => simp [pairL]
 | cons a A ih => rw [pairL_cons, List.length_append, List.length_map, ih, List.length_cons, Nat.succ_mul]; omega
theorem pairL_app (C D A : List (List Int)) : (pairL (C ++ D) A).Perm (pairL C A ++ pairL D A) := by
 induction A with
 | nil => exact List.Perm.refl _
 | cons a A ih =>
   rw [pairL_cons, pairL_cons, pairL_cons, List.map_append, List.append_assoc, List.append_assoc]
   refine List.Perm.append_left _ ?_
   refine ((List.Perm.append_left _ ih)).trans ?_
   rw [← List.append_assoc, ← List.append_assoc]
   exact List.Perm.append_right _ List.perm_append_comm
def passL (k : Nat) (B A : List (List Int)) : List (List Int) := (chs k B.length B).flatMap fun C => pairL C A
theorem passL_perm_aux {k : Nat} (hk : 0 < k) (A : List (List Int)) : ∀ {n : Nat} {B : List (List Int)}, B.length ≤ n → ((chs k n B).flatMap fun C => pairL C A).Perm (pairL B A)
 | n, [], _ => by rw [chs_nil, pairL_nil]; exact List.Perm.refl _
 | 0, x :: l, h => by simp at h
 | n + 1, x :: l, h => by
   have h : l.length + 1 ≤ n + 1 := h
   rw [chs_cons (by simp), List.flatMap_cons]
   refine (List.Perm.append_left _ (passL_perm_aux hk A (n := n) (by rw [List.length_drop, List.length_cons]; omega))).trans ?_
   have := (pairL_app ((x :: l).take k) ((x :: l).drop k) A).symm
   rwa [List.take_append_drop] at this
theorem passL_perm {k : Nat} (hk : 0 < k) (B A : List (List Int)) : (passL k B A).Perm (pairL B A) := passL_perm_aux hk A (Nat.le_refl _)
theorem passL_nilA (k : Nat) (B : List (List Int)) : passL k B [] = [] := by
 unfold passL pairL
 simp
theorem passL_cut {k : Nat} (hk : 0 < k) {B : List (List Int)} (hB : B ≠ []) (A : List (List Int)) : passL k B A = pairL (B.take k) A ++ passL k (B.drop k) A := by
 unfold passL
 match B, hB with
 | x :: l, _ =>
   rw [show (x :: l).length = l.length + 1 from rfl, chs_cons (by simp), List.flatMap_cons, chs_more hk (n := l.length) (l := (x :: l).drop k) (by rw [List.length_drop, List.length_cons]; omega)]
open Go.MapKept
theorem callB_fn {P : Program} {g : FuncId} {caps : Array Value} {args : List Value} {H : Heap} {K : Bool → Heap → Prop} (arr : Array Value) (ha : (args ++ caps.toList).toArray = arr) (hc : callable P g = true) (h : SpecT cBool P g arr H K) : CallB P (.func (.func g) #[] caps) args H K := by
 unfold CallB
 simp only [hc, cond_true]
 subst ha
 simpa using h
theorem callV_fn {c : Cod} {P : Program} {g : FuncId} {caps : Array Value} {args : List Value} {H : Heap} {K : c.α → Heap → Prop} (arr : Array Value) (ha : (args ++ caps.toList).toArray = arr) (hc : callable P g = true) (h : SpecT c P g arr H K) : CallV c P (.func (.func g) #[] caps) args H K := by
 unfold CallV
 simp only [hc, cond_true]
 subst ha
 simpa using h
theorem callV_meth {c : Cod} {P : Program} {n : String} {t : TypeId} {v : Value} {g : FuncId} {caps : Array Value} {H : Heap} {K : c.α → Heap → Prop} (hm : methOf P t n = some g) (hc : callable P g = true) (h : SpecT c P g #[v] H K) : CallV c P (.func (.method n) #[.iface t v] caps) [] H K := by
 unfold CallV
 show MethV c P n [.iface t v] H K
 unfold MethV
 simp only [hm, hc, cond_true]
 exact h
section
variable {P : Program} {t kt et : TypeId} {d : TypeDesc} {H : Heap} {r : Nat} {es : Array MapEntry} {clk : Nat} {k : Value}
theorem isRd_miss {z : Value} {inf : TypeInfo} (ht : P.underlying t = some (.map kt et)) (hd : P.underlying kt = some d) (hi : P.info? et = some inf) (hz : inf.zero = some z) (hm : MapAt d H r es clk) (hk : IsKey d k) (hno : ∀ v, ¬ HasE es k v) : isRd P (Instr.lookup t (.map (some r)) k false) H z := by
 have hck : ∀ (e : Bool) (w : World), (Instr.checkKey e 10000 kt k).run P w = .ok () w := fun e w => run_checkKey hd hk e 9999
 rcases findNow_spec hk es.toList 0 hm.keys with ⟨h1, h2⟩ | ⟨j, e, h1, h2, h3⟩
 ·intro w hw
  subst hw
  have hf : (Instr.findKey kt k es.toList).run P w = .ok none w := run_findKey hd h1
  have ho := hm.obj
  simp [Instr.lookup, run_underlying ht, getObj, Sem.run, ho, hck, hf, zeroValue, typeInfo, hi, hz]
 ·exact absurd ⟨e, List.mem_of_getElem? h2, h3, rfl⟩ (hno e.val)
theorem isRd_hit {u : Value} (ht : P.underlying t = some (.map kt et)) (hd : P.underlying kt = some d) (hm : MapAt d H r es clk) (hk : IsKey d k) (hu : HasE es k u) (hone : ∀ v, HasE es k v → v = u) : isRd P (Instr.lookup t (.map (some r)) k false) H u := by
 have hck : ∀ (e : Bool) (w : World), (Instr.checkKey e 10000 kt k).run P w = .ok () w := fun e w => run_checkKey hd hk e 9999
 rcases findNow_spec hk es.toList 0 hm.keys with ⟨h1, h2⟩ | ⟨j, e, h1, h2, h3⟩
 ·obtain ⟨e, he, hek, _⟩ := hu
  exact absurd hek (h2 e he)
 ·intro w hw
  subst hw
  have hf : (Instr.findKey kt k es.toList).run P w = .ok (some (0 + j, e.val)) w := run_findKey hd h1
  have ho := hm.obj
  have hv := hone e.val ⟨e, List.mem_of_getElem? h2, h3, rfl⟩
  subst hv
  simp [Instr.lookup, run_underlying ht, getObj, Sem.run, ho, hck, hf]
theorem hasE_push {es : Array MapEntry} {k v k' v' : Value} {c : Nat} : HasE (es.push { key := k, val := v, born := c }) k' v' ↔ HasE es k' v' ∨ (k' = k ∧ v' = v) := by
 unfold HasE
 simp only [Array.toList_push, List.mem_append, List.mem_singleton]
 constructor
 ·rintro ⟨e, h | h, h1, h2⟩
  ·exact .inl ⟨e, h, h1, h2⟩
  ·subst h; exact .inr ⟨h1.symm, h2.symm⟩
 ·rintro (⟨e, h, h1, h2⟩ | ⟨rfl, rfl⟩)
  ·exact ⟨e, .inl h, h1, h2⟩
  ·exact ⟨_, .inr rfl, rfl, rfl⟩
end
structure RowsX (X : Nat → Prop) (H : Heap) (s : Sl) (ls : List (List Int)) : Prop where
 len : s.n = ls.length
 off : ∀ ad, s.a = some ad → ad.block < H.size ∧ ¬ X ad.block
 at' : ∀ i (h : i < ls.length), ∃ ad r, s.a = some ad ∧ hCell H (ad.add i) = some (Sl.v r) ∧ (∀ a, r.a = some a → a.block < H.size ∧ ¬ X a.block) ∧ Ints .u64 H r ls[i]
theorem RowsX.mod {X : Nat → Prop} {H B : Heap} {s : Sl} {ls : List (List Int)} (h : RowsX X H s ls) (m : Mod X H B) : RowsX X B s ls :=
 ⟨h.len, fun ad ha => ⟨by have := (h.off ad ha).1; have := m.size; omega, (h.off ad ha).2⟩, fun i hi => by
  obtain ⟨ad, r, q1, q2, q3, q4⟩ := h.at' i hi
  exact ⟨ad, r, q1, m.cell q2 (by rw [add_block]; exact (h.off ad q1).2), fun a ha => ⟨by have := (q3 a ha).1; have := m.size; omega, (q3 a ha).2⟩, q4.mod m fun a ha => (q3 a ha).2⟩⟩
theorem RowsX.less {X Y : Nat → Prop} {H : Heap} {s : Sl} {ls : List (List Int)} (h : RowsX X H s ls) (hs : ∀ b, b < H.size → Y b → X b) : RowsX Y H s ls :=
 ⟨h.len, fun ad ha => ⟨(h.off ad ha).1, fun u => (h.off ad ha).2 (hs _ (h.off ad ha).1 u)⟩, fun i hi => by
  obtain ⟨ad, r, q1, q2, q3, q4⟩ := h.at' i hi
  exact ⟨ad, r, q1, q2, fun a ha => ⟨(q3 a ha).1, fun u => (q3 a ha).2 (hs _ (q3 a ha).1 u)⟩, q4⟩⟩
theorem RowsX.drop {X : Nat → Prop} {H : Heap} {s : Sl} {ls : List (List Int)} (h : RowsX X H s ls) (hc : s.n ≤ s.c) {i : Nat} (hi : i ≤ ls.length) : RowsX X H ⟨slA s.a s.c i 1, s.n - i, s.c - i⟩ (ls.drop i) := by
 have hln := h.len
 refine ⟨by rw [List.length_drop]; show s.n - i = _; omega, fun ad ha => ?_, fun j hj => ?_⟩
 ·have ha : slA s.a s.c i 1 = some ad := ha
  unfold slA at ha
  split at ha
  ·exact h.off ad ha
  ·cases hsa : s.a with
   | none => rw [hsa] at ha; simp at ha
   | some a0 =>
     rw [hsa] at ha
     simp at ha
     subst ha
     rw [add_block]
     exact h.off a0 hsa
 ·rw [List.length_drop] at hj
  obtain ⟨ad, r, q1, q2, q3, q5⟩ := h.at' (i + j) (by omega)
  refine ⟨ad.add i, r, ?_, by rw [add_add]; exact q2, q3, ?_⟩
  ·show slA s.a s.c i 1 = _
   unfold slA
   rw [if_neg (by omega), q1, Nat.mul_one]; rfl
  ·rw [List.getElem_drop]; exact q5
theorem RowsX.ofOwn {X : Nat → Prop} {H : Heap} {base : Nat} {s : Sl} {rs : List Sl} {ls : List (List Int)} (h : RowsOwn H base s rs ls) (hX : ∀ b, base ≤ b → ¬ X b) : RowsX X H s ls := by
 obtain ⟨b1, b2⟩ := h.block
 refine ⟨h.n, fun ad ha => ?_, fun i hi => ?_⟩
 ·have := b1 _ ⟨ad, ha, rfl⟩
  exact ⟨this.2, hX _ this.1⟩
 ·have hir : i < rs.length := by rw [h.len]; exact hi
  obtain ⟨ad, ha, hc⟩ := h.out.reads.at (i := i) (by simpa using hir)
  refine ⟨ad, rs[i], ha, by simpa using hc, fun a q => ?_, (h.row i _ _ (List.getElem?_eq_getElem hir) (List.getElem?_eq_getElem hi)).ints⟩
  have := b2 _ (List.getElem_mem hir) _ ⟨a, q, rfl⟩
  exact ⟨this.2, hX _ this.1⟩
theorem emptyB' {H : Heap} {t : TypeId} {K : Addr → Heap → Prop} (hK : ∀ H', Owns H' 0 t 1 ⟨some ⟨H.size, 0, none⟩, 0, 0⟩ [] → Ext H H' → K ⟨H.size, 0, none⟩ H') : newC H #[] t K :=
 hK _ ⟨rfl, .inr ⟨H.size, 0, #[], rfl, Nat.zero_le _, by simp, by simp, Nat.zero_le _, by simp, by simp⟩⟩ (Mod.push _ _ _)
theorem elI64 : El Tryz.prog YaI YaM 8 (.int .i64 0) := El_of (zb := isInt0 .i64) isInt0_eq rfl (by kernel_rfl)
theorem hclone_ok {H : Heap} {s : Sl} {l : List Int} {K : Sl → Heap → Prop} (h : Ints .u64 H s l) (hl : l.length ≤ 1000000)
  (hK : ∀ s' H', Owns H' 0 YaJ 1 s' (l.map (Value.int .u64)) → Ext H H' → (∀ b, ownB s' b → H.size ≤ b) → K s' H') : ZaS.sp s H K := by
 refine ZaS.of ?_
 unfold ZaS.vc
 have hn := h.len
 refine br_mk (fun hc => ?_) (fun hc => ?_)
 ·have hl0 : l = [] := by
   cases l with
   | nil => rfl
   | cons x r =>
     obtain ⟨ad, e, _⟩ := h.at (i := 0) (by simp)
     rw [e] at hc; simp at hc
  subst hl0
  exact hK _ H (Owns.nil _ _ _ _) (.refl _ _) fun b u => by obtain ⟨ad, ha, _⟩ := u; cases ha
 ·refine emptyB' fun H1 o1 e1 => ?_
  refine elU64.append (base := 0) (s := ⟨some ⟨H.size, 0, none⟩, 0, 0⟩) (x := s) (xs := []) (ws := l.map (Value.int .u64)) o1 (by simp; omega) (h.ext e1).reads (intsOne _ _) (by simp only; omega) (by simp only; omega) (Nat.zero_le _) ?_
  intro s' H2 n2 o2 m2 b2 _
  have f1 : ∀ b, ownB (Sl.mk (some ⟨H.size, 0, none⟩) 0 0) b → H.size ≤ b := by
   rintro b ⟨ad, ha, rfl⟩
   cases ha; exact Nat.le_refl _
  refine hK s' H2 (by simpa using o2) (((Ext.mod e1).trans m2).ext f1) fun b u => ?_
  rcases b2 b u with v | v
  ·exact f1 b v
  ·have := e1.size; omega
theorem hcloneI_ok {H : Heap} {s : Sl} {l : List Int} {K : Sl → Heap → Prop} (h : Ints .i64 H s l) (hl : l.length ≤ 1000000)
  (hK : ∀ s' H', Owns H' 0 YaM 1 s' (l.map (Value.int .i64)) → Ext H H' → (∀ b, ownB s' b → H.size ≤ b) → K s' H') : Zbv.sp s H K := by
 refine Zbv.of ?_
 unfold Zbv.vc
 have hn := h.len
 refine br_mk (fun hc => ?_) (fun hc => ?_)
 ·have hl0 : l = [] := by
   cases l with
   | nil => rfl
   | cons x r =>
     obtain ⟨ad, e, _⟩ := h.at (i := 0) (by simp)
     rw [e] at hc; simp at hc
  subst hl0
  exact hK _ H (Owns.nil _ _ _ _) (.refl _ _) fun b u => by obtain ⟨ad, ha, _⟩ := u; cases ha
 ·refine emptyB' fun H1 o1 e1 => ?_
  refine elI64.append (base := 0) (s := ⟨some ⟨H.size, 0, none⟩, 0, 0⟩) (x := s) (xs := []) (ws := l.map (Value.int .i64)) o1 (by simp; omega) (h.ext e1).reads (intsOne _ _) (by simp only; omega) (by simp only; omega) (Nat.zero_le _) ?_
  intro s' H2 n2 o2 m2 b2 _
  have f1 : ∀ b, ownB (Sl.mk (some ⟨H.size, 0, none⟩) 0 0) b → H.size ≤ b := by
   rintro b ⟨ad, ha, rfl⟩
   cases ha; exact Nat.le_refl _
  refine hK s' H2 (by simpa using o2) (((Ext.mod e1).trans m2).ext f1) fun b u => ?_
  rcases b2 b u with v | v
  ·exact f1 b v
  ·have := e1.size; omega
def sum0 (level : Int) : Int := IntKind.u64.wrap ((14695981039346656037 : Int) + (IntKind.u64.wrap ((1099511628211 : Int) * (IntKind.u64.wrap level))))
def sum1 (n w : Int) : Int := ixor .u64 (IntKind.u64.wrap ((ixor .u64 n w) * (1099511628211 : Int))) (ishr .u64 (IntKind.u64.wrap ((ixor .u64 n w) * (1099511628211 : Int))) (29 : Int))
def sumW (l : List Int) (level : Int) : Int := l.foldl sum1 (sum0 level)
theorem hashSum_ok {l : Sl} {ll : List Int} {level : Int} {H : Heap} {K : Int → Heap → Prop} (h : Ints .u64 H l ll) (hl : ll.length ≤ 1000000) (hK : K (sumW ll level) H) : Zdo.sp l level H K := by
 refine Zdo.of ?_
 unfold Zdo.vc
 have hn := h.len
 refine loop_upto ll.length (fun i z A => H = A ∧ z = (sumW (ll.take i) level, (i : Int))) ⟨rfl, rfl⟩ ?_
 rintro i _ _ next hi ⟨rfl, rfl⟩ hnext
 refine br_mk (fun hc => ?_) (fun hc => ?_)
 ·have hlt : i < ll.length := by have : (i : Int) < (l.n : Int) := by simpa using hc
                                 omega
  refine ints_get h (i := (i : Int)) (j := i) rfl hlt fun ad _ => ?_
  refine hnext hlt _ _ ⟨rfl, ?_⟩
  have e : sumW (ll.take (i + 1)) level = sum1 (sumW (ll.take i) level) (ll.getD i 0) := by
   unfold sumW
   rw [List.take_add_one, List.getElem?_eq_getElem hlt, List.foldl_append, List.getD, List.getElem?_eq_getElem hlt]; rfl
  rw [e]
  show (_, IntKind.i64.wrap ((i : Int) + 1)) = _
  rw [succ64 i (by omega)]; rfl
 ·have hge : i = ll.length := by have : ¬ (i : Int) < (l.n : Int) := by simpa using hc
                                 omega
  subst hge
  rw [List.take_length]
  exact hK
theorem Owns.reb {H : Heap} {base base' : Nat} {e : TypeId} {size : Nat} {s : Sl} {xs : List Value} (h : Owns H base e size s xs) (hb : ∀ b, ownB s b → base' ≤ b) : Owns H base' e size s xs := by
 refine ⟨h.1, h.2.imp id ?_⟩
 rintro ⟨g, cap, cur, e1, _, h3⟩
 refine ⟨g, cap, cur, e1, hb g ?_, h3⟩
 cases s; simp only [Sl.v, Value.slice.injEq] at e1
 exact ⟨_, e1.1, rfl⟩
def srcV (w : Int) (f : Value) (wrong : Int) (feed : Value) (closed ended : Bool) : Array Value := #[.int .i64 w, f, .slice none 0 0, .int .i64 wrong, feed, .bool closed, .bool ended]
theorem made_ok {w e : Int} {fn : Fn} {fi ca : Array Value} {H : Heap} {K : Option Addr → Heap → Prop} (hK : ∀ A, RowT A H.size Yar (srcV w (.func fn fi ca) e .nilIface false false) → Ext H A → A.size = H.size + 1 → K (some ⟨H.size, 0, none⟩) A) : Zdj.sp w (Sl.mk none 0 0) e fn fi ca H K := by
 refine Zdj.of ?_
 unfold Zdj.vc
 refine loop_upto 0 (fun _ z A => z.1 = e ∧ z.2 = 0 ∧ H = A) ⟨rfl, rfl, rfl⟩ ?_
 rintro i ⟨_, _⟩ _ next hi ⟨rfl, rfl, rfl⟩ _
 refine br_f rfl ?_
 exact newC_rowT fun A z r m => hK A r m z
theorem width_ok {sb : Nat} {w : Int} {f feed : Value} {wrong : Int} {c d : Bool} {H : Heap} {K : Int → Heap → Prop} (r : RowT H sb Yar (srcV w f wrong feed c d)) (hK : K w H) : ZbT.sp (some ⟨sb, 0, none⟩) H K := by
 refine ZbT.of ?_
 unfold ZbT.vc
 refine br_f rfl ?_
 simp only [optK_eq]
 exact RowT.ld (c := cInt .i64) (i := 0) (x := w) r rfl hK
def srcW (w : Int) (f : Value) (un : Sl) (wrong : Int) (feed : Value) (closed ended : Bool) : Array Value := #[.int .i64 w, f, un.v, .int .i64 wrong, feed, .bool closed, .bool ended]
set_option maxHeartbeats 1000000 in
theorem next_srcW {sb : Nat} {w : Int} {f feed : Value} {un : Sl} {H : Heap} {K : (Sl × Bool × Int) → Heap → Prop} (r : RowT H sb Yar (srcW w f un 0 feed false false))
  (hc : CallV (cTup [cSl, cBool, (cInt .i64)]) Tryz.prog f [] H fun q A => RowT A sb Yar (srcW w f un 0 feed false false) ∧
   ((q.2.2 ≠ 0 ∨ q.2.1 = false) → ∀ B, RowT B sb Yar (srcW w f un q.2.2 feed false true) → Mod (fun b => b = sb) A B → B.size = A.size → K (Sl.mk none 0 0, false, q.2.2) B) ∧
   (q.2.2 = 0 → q.2.1 = true → K (q.1, true, 0) A)) : ZbW.sp (some ⟨sb, 0, none⟩) H K := by
 refine ZbW.of ?_
 unfold ZbW.vc
 refine ⟨fun _ A => H = A, ?_, ?_⟩
 ·refine br_f rfl ?_
  simp only [optK_eq]
  refine RowT.ld (c := cBool) (i := 5) (x := false) r rfl ?_
  refine br_f rfl ?_
  refine ⟨fun b A => b = false ∧ H = A, ?_, ?_⟩
  ·refine RowT.ld (c := cInt .i64) (i := 3) (x := 0) r rfl ?_
   refine br_f rfl ?_
   refine RowT.ld (c := cBool) (i := 6) (x := false) r rfl ?_
   exact ⟨rfl, rfl⟩
  ·rintro _ _ ⟨rfl, rfl⟩
   exact br_f rfl rfl
 ·rintro _ _ rfl
  simp only [optK_eq]
  refine RowT.ld (c := cRaw) (i := 1) (x := f) r rfl ?_
  have mono : ∀ {K1 K2 : (cTup [cSl, cBool, (cInt .i64)]).α → Heap → Prop}, (∀ q A, K1 q A → K2 q A) → CallV (cTup [cSl, cBool, (cInt .i64)]) Tryz.prog f [] H K1 → CallV (cTup [cSl, cBool, (cInt .i64)]) Tryz.prog f [] H K2 := by
   intro K1 K2 hk h
   unfold CallV at h ⊢
   split at h
   ·rename_i g first cap
    cases hcl : callable Tryz.prog g with
    | true =>
      rw [hcl] at h
      simp only [cond_true] at h ⊢
      exact fun w hw => (h w hw).mono fun e w' ⟨v, he, ⟨x, hx, hk1⟩, ha⟩ => ⟨v, he, ⟨x, hx, hk _ _ hk1⟩, ha⟩
    | false =>
      rw [hcl] at h
      simp only [cond_false] at h ⊢
      exact fun w hw => by obtain ⟨v, w', h1, ⟨x, hx, hk1⟩, ha⟩ := h w hw; exact ⟨v, w', h1, ⟨x, hx, hk _ _ hk1⟩, ha⟩
   ·exact h
   ·unfold MethV at h ⊢
    split at h
    ·split at h
     ·rename_i g hm
      cases hcl : callable Tryz.prog g with
      | true =>
        rw [hcl] at h
        simp only [cond_true] at h ⊢
        exact fun w hw => (h w hw).mono fun e w' ⟨v, he, ⟨x, hx, hk1⟩, ha⟩ => ⟨v, he, ⟨x, hx, hk _ _ hk1⟩, ha⟩
      | false => rw [hcl] at h; exact h.elim
     ·exact h
    ·exact h
   ·exact h
  refine mono ?_ hc
  rintro ⟨q1, q2, q3⟩ A ⟨rA, k1, k2⟩
  simp only at k1 k2 ⊢
  refine br_mk (fun hb => ?_) (fun hb => ?_)
  ·have hb : q3 ≠ 0 ∨ q2 = false := by simpa using hb
   refine RowT.st rA (i := 3) (by simp [srcW]) rfl fun B rB mB zB => ?_
   refine RowT.st rB (i := 6) (by simp [srcW]) rfl fun C rC mC zC => ?_
   exact k1 hb C rC (mB.trans mC) (by omega)
  ·have hb : q3 = 0 ∧ q2 = true := by
    have : ¬ (q3 ≠ 0 ∨ q2 = false) := by simpa using hb
    exact ⟨Decidable.of_not_not fun u => this (.inl u), by cases q2 with | true => rfl | false => exact absurd (.inr rfl) this⟩
   exact k2 hb.1 hb.2
theorem next_src {sb : Nat} {w : Int} {f feed : Value} {H : Heap} {K : (Sl × Bool × Int) → Heap → Prop} (r : RowT H sb Yar (srcV w f 0 feed false false))
  (hc : CallV (cTup [cSl, cBool, (cInt .i64)]) Tryz.prog f [] H fun q A => RowT A sb Yar (srcV w f 0 feed false false) ∧
   ((q.2.2 ≠ 0 ∨ q.2.1 = false) → ∀ B, RowT B sb Yar (srcV w f q.2.2 feed false true) → Mod (fun b => b = sb) A B → B.size = A.size → K (Sl.mk none 0 0, false, q.2.2) B) ∧
   (q.2.2 = 0 → q.2.1 = true → K (q.1, true, 0) A)) : ZbW.sp (some ⟨sb, 0, none⟩) H K := next_srcW (un := Sl.mk none 0 0) r hc
theorem next_ended {sb : Nat} {w : Int} {f feed : Value} {un : Sl} {H : Heap} {K : (Sl × Bool × Int) → Heap → Prop} (r : RowT H sb Yar (srcW w f un 0 feed false true)) (hK : K (Sl.mk none 0 0, false, 0) H) : ZbW.sp (some ⟨sb, 0, none⟩) H K := by
 refine ZbW.of ?_
 unfold ZbW.vc
 refine ⟨fun _ A => False, ?_, fun _ _ h => h.elim⟩
 refine br_f rfl ?_
 simp only [optK_eq]
 refine RowT.ld (c := cBool) (i := 5) (x := false) r rfl ?_
 refine br_f rfl ?_
 refine ⟨fun b A => b = true ∧ H = A, ?_, ?_⟩
 ·refine RowT.ld (c := cInt .i64) (i := 3) (x := 0) r rfl ?_
  refine br_f rfl ?_
  refine RowT.ld (c := cBool) (i := 6) (x := true) r rfl ?_
  exact ⟨rfl, rfl⟩
 ·rintro _ _ ⟨rfl, rfl⟩
  refine br_t rfl ?_
  exact RowT.ld (c := cInt .i64) (i := 3) (x := 0) r rfl hK
def fromF (lb wb : Nat) : Value := .func (.func Zda.no) #[] #[.pointer (some ⟨lb, 0, none⟩), .pointer (some ⟨wb, 0, none⟩)]
theorem zc_slsl : zc Tryz.prog Yam = #[.slice none 0 0] := by kernel_rfl
set_option maxHeartbeats 1000000 in
theorem From_ok {rows : Sl} {ls : List (List Int)} {w : Int} {H : Heap} {K : Option Addr → Heap → Prop} (h : Rows H rows ls) (hn : ls.length ≤ 1000) (hl : ∀ l ∈ ls, l.length ≤ 1000)
  (hK : ∀ sb lb wb s rs A, RowT A sb Yar (srcV w (fromF lb wb) (if w < 0 then 2 else 0) .nilIface false false) → RowT A lb Yam #[s.v] → RowT A wb YaM #[.int .i64 w] → RowsOwn A (H.size + 2) s rs ls → (∀ b, (ownB s b ∨ ∃ r ∈ rs, ownB r b) → b < sb) → Ext H A →
   wb = H.size → lb = H.size + 1 → H.size + 2 ≤ sb → sb < A.size → K (some ⟨sb, 0, none⟩) A) : Zdf.sp rows w H K := by
 refine Zdf.of ?_
 unfold Zdf.vc
 refine newC_rowT fun H1 z1 r1 e1 => ?_
 refine newC_rowT fun H2 z2 r2 e2 => ?_
 rw [zc_slsl] at r2
 have hrn := h.len
 have e12 := e1.trans e2
 refine loop_upto ls.length (fun i z A => z = (i : Int) ∧ ∃ s rs, RowT A H1.size Yam #[s.v] ∧ RowsOwn A H2.size s rs (ls.take i) ∧ Mod (fun b => b = H1.size) H2 A) ⟨rfl, Sl.mk none 0 0, [], r2, RowsOwn.nil _ _, .refl _ _⟩ ?_
 rintro i _ A next hi ⟨rfl, s, rs, rA, oA, mA⟩ hnext
 have zA := mA.size
 have rw1 : RowT A H.size YaM #[.int .i64 w] := (r1.ext e2).mod mA fun u => by omega
 have eHA : Ext H A := ⟨by omega, fun b hb _ => by rw [mA.same b (by omega) fun u => by omega]; exact e12.same b hb id⟩
 refine br_mk (fun hc => ?_) (fun hc => ?_)
 ·have hlt : i < ls.length := by have : (i : Int) < (rows.n : Int) := by simpa using hc
                                 omega
  have hA : Rows A rows ls := ⟨h.len, fun j hj => by
   obtain ⟨ad, r, q1, q2, q3⟩ := h.at' j hj
   exact ⟨ad, r, q1, eHA.cell q2 id, q3.ext eHA⟩⟩
  refine hA.ld hlt fun ad x _ ix => ?_
  refine ⟨fun B => Ext A B, .refl _ _, ?_⟩
  refine ⟨s, fun B hB => by
   have := (rA.ext hB).cell (i := 0) (v := s.v) rfl
   exact this, ?_⟩
  refine hclone_ok ix (by have := hl _ (List.getElem_mem hlt); omega) fun r B oB eB fB => ?_
  refine ⟨eB, ?_⟩
  have zB := eB.size
  have oAB := oA.ext eB
  have bA := oA.block
  -- the cell, then the append
  refine ⟨(Mod.push (fun _ => False) B (.cells #[r.v] YaB)) |> fun e => eB.trans e, ?_⟩
  have key := oAB.push (ty := Yam) (r := r) (l := ls[i]) (oB.reb (base' := H2.size) fun b hb => by have := fB b hb; omega) (fun r' hr' b hb hb' => by have := fB b hb; have := (bA.2 r' hr' b hb').2; omega) (by rw [oA.n, List.length_take]; omega) (by omega)
   (K := fun s' C => Go.Proofs.YtkehfflpbpdokaaGreat.st C ⟨H1.size, 0, none⟩ s'.v fun D => next (IntKind.i64.wrap ((i : Int) + (1 : Int))) D)
  refine key fun s' C n' oC mC => ?_
  have rC : RowT C H1.size Yam #[s.v] := (rA.ext eB).mod mC fun u => by have := (bA.1 _ u).1; omega
  refine RowT.st (i := 0) rC (by simp) rfl fun D rD mD zD => ?_
  refine hnext hlt _ _ ⟨succ64 i (by omega), s', rs ++ [r], rD, ?_, ?_⟩
  ·have htk : ls.take i ++ [ls[i]] = ls.take (i + 1) := by rw [List.take_add_one, List.getElem?_eq_getElem hlt]; rfl
   rw [htk] at oC
   have bC := oC.block
   exact oC.mod mD (fun b hb u => by have := (bC.1 b hb).1; omega) fun r' hr' b hb u => by have := (bC.2 r' hr' b hb).1; omega
  ·have zC := mC.size
   refine ⟨by omega, fun b hb _ => ?_⟩
   rename_i hne
   rw [mD.same b (by omega) hne, mC.same b (by omega) fun u => by have := (bA.1 b u).1; omega, eB.same b (by omega) id]
   exact mA.same b hb hne
 ·have hge : i = ls.length := by have : ¬ (i : Int) < (rows.n : Int) := by simpa using hc
                                 omega
  subst hge
  rw [List.take_length] at oA
  have bA := oA.block
  have fin : ∀ e : Int, (e = if w < 0 then 2 else 0) → Zdj.sp w (Sl.mk none 0 0) e (.func Zda.no) #[] #[(.pointer (some ⟨H1.size, 0, none⟩)), (.pointer (some ⟨H.size, 0, none⟩))] A K := by
   intro e he
   subst he
   refine made_ok fun B rB eB zB => ?_
   have e2' : H2.size = H.size + 2 := by omega
   have e1' : H1.size = H.size + 1 := by omega
   have oB := oA.ext eB
   rw [e2'] at oB
   rw [e1'] at rA
   rw [e1'] at rB
   refine hK A.size (H.size + 1) H.size s rs B rB (rA.ext eB) (rw1.ext eB) oB (fun b hb => ?_) (eHA.trans eB) rfl rfl (by omega) (by omega)
   rcases hb with v | ⟨r, hr, v⟩
   ·exact (bA.1 b v).2
   ·exact (bA.2 r hr b v).2
  have ldw : ∀ {M : Int → Prop}, M w → Go.Proofs.YtkehfflpbpdokaaGreat.ld (cInt .i64) A ⟨H.size, 0, none⟩ M := fun {M} hM => ⟨w, rw1.cell (i := 0) rfl, hM⟩
  refine ldw ?_
  refine br_mk (fun hc2 => ?_) (fun hc2 => ?_)
  ·have hw : w < 0 := by simpa using hc2
   exact ldw (fin 2 (by rw [if_pos hw]))
  ·have hw : ¬ w < 0 := by simpa using hc2
   exact ldw (fin 0 (by rw [if_neg hw]))
structure FromB (X : Nat → Prop) (H : Heap) (sb lb wb : Nat) (W : Nat) (ended : Bool) (s : Sl) (ls : List (List Int)) : Prop where
 row : RowT H sb Yar (srcV W (fromF lb wb) 0 .nilIface false ended)
 cell : RowT H lb Yam #[s.v]
 wid : RowT H wb YaM #[.int .i64 W]
 rows : RowsX X H s ls
 cap : s.n ≤ s.c
 cols : ∀ l ∈ ls, l.length = W
 xs : X sb ∧ X lb ∧ ¬ X wb
 ne : sb ≠ lb
section
variable {X Y : Nat → Prop} {H B : Heap} {sb lb wb W : Nat} {ended : Bool} {s : Sl} {ls : List (List Int)}
theorem FromB.keep (h : FromB X H sb lb wb W ended s ls) (m : Mod Y H B) (hy : ∀ b, Y b → X b) (h1 : ¬ Y sb) (h2 : ¬ Y lb) : FromB X B sb lb wb W ended s ls :=
 ⟨h.row.mod m h1, h.cell.mod m h2, h.wid.mod m fun u => h.xs.2.2 (hy _ u), h.rows.mod (m.mono fun _ _ u => hy _ u), h.cap, h.cols, h.xs, h.ne⟩
theorem FromB.more (h : FromB X H sb lb wb W ended s ls) (hs : ∀ b, b < H.size → Y b → X b) (h1 : ∀ b, X b → Y b) : FromB Y H sb lb wb W ended s ls :=
 ⟨h.row, h.cell, h.wid, h.rows.less hs, h.cap, h.cols, ⟨h1 _ h.xs.1, h1 _ h.xs.2.1, fun u => h.xs.2.2 (hs _ (obj_lt h.wid) u)⟩, h.ne⟩
set_option maxRecDepth 100000 in
set_option maxHeartbeats 1000000 in
theorem from_next {K : (Sl × Bool × Int) → Heap → Prop} (h : FromB X H sb lb wb W false s ls)
  (hK1 : ∀ l r x A s', ls = l :: r → FromB X A sb lb wb W false s' r → Mod (fun b => b = lb) H A → Ints .u64 A x l → (∀ a, x.a = some a → a.block < A.size ∧ ¬ X a.block) → K (x, true, 0) A)
  (hK0 : ls = [] → ∀ A, FromB X A sb lb wb W true s [] → Mod (fun b => b = sb) H A → K (Sl.mk none 0 0, false, 0) A) : ZbW.sp (some ⟨sb, 0, none⟩) H K := by
 have hn := h.rows.len
 refine next_src h.row (callV_fn #[.pointer (some ⟨lb, 0, none⟩), .pointer (some ⟨wb, 0, none⟩)] rfl (by kernel_rfl) ?_)
 refine Zda.of ?_
 unfold Zda.vc
 have ldc : ∀ {A : Heap} {s : Sl} {M : Sl → Prop}, RowT A lb Yam #[s.v] → M s → Go.Proofs.YtkehfflpbpdokaaGreat.ld cSl A ⟨lb, 0, none⟩ M := fun {A s M} r hM => ⟨s, r.cell (i := 0) rfl, hM⟩
 refine ldc h.cell ?_
 cases hls : ls with
 | nil =>
   subst hls
   have h0 : s.n = 0 := hn
   refine br_t (by rw [h0]; rfl) ⟨h.row, fun _ B rB mB zB => ?_, fun _ u => by cases u⟩
   exact hK0 rfl B ⟨rB, h.cell.mod mB (Ne.symm h.ne), h.wid.mod mB (fun u => h.xs.2.2 (u ▸ h.xs.1)), h.rows.mod (mB.mono fun b _ u => by subst u; exact h.xs.1), h.cap, h.cols, h.xs, h.ne⟩ mB
 | cons l r =>
   subst hls
   have h0 : s.n = r.length + 1 := hn
   refine br_f (by rw [h0]; simp; omega) ?_
   refine ldc h.cell ?_
   obtain ⟨ad, x, q1, q2, q3, q4⟩ := h.rows.at' 0 (by simp)
   refine optK_mk ad q1 ⟨⟨Int.le_refl _, by omega⟩, x, by simpa using q2, ?_⟩
   refine ldc h.cell ?_
   refine ⟨⟨by decide, by omega⟩, ?_⟩
   have e1 : ((1 : Int).toNat) = 1 := rfl
   rw [e1]
   have hst := RowT.st (i := 0) (v := Sl.v ⟨slA s.a s.c 1 1, s.n - 1, s.c - 1⟩) h.cell (by simp) rfl
    (K := fun H1 => Go.Proofs.YtkehfflpbpdokaaGreat.ld (cInt .i64) H1 ⟨wb, 0, none⟩ fun (x_4 : Int) => br ((x.n : Int) != x_4)
     (RowT H1 sb Yar (srcV W (fromF lb wb) 0 .nilIface false false) ∧ ((60 : Int) ≠ 0 ∨ false = false → ∀ B, RowT B sb Yar (srcV W (fromF lb wb) 60 .nilIface false true) → Mod (fun b => b = sb) H1 B → B.size = H1.size → K (Sl.mk none 0 0, false, 60) B) ∧ ((60 : Int) = 0 → false = true → K (Sl.mk none 0 0, true, 0) H1))
     (RowT H1 sb Yar (srcV W (fromF lb wb) 0 .nilIface false false) ∧ ((0 : Int) ≠ 0 ∨ true = false → ∀ B, RowT B sb Yar (srcV W (fromF lb wb) 0 .nilIface false true) → Mod (fun b => b = sb) H1 B → B.size = H1.size → K (Sl.mk none 0 0, false, 0) B) ∧ ((0 : Int) = 0 → true = true → K (x, true, 0) H1)))
   refine hst fun A rA mA zA => ?_
   have mX : Mod X H A := mA.mono fun b _ u => by subst u; exact h.xs.2.1
   have wA : RowT A wb YaM #[.int .i64 W] := h.wid.mod mA fun u => h.xs.2.2 (u ▸ h.xs.2.1)
   refine ⟨(W : Int), wA.cell (i := 0) rfl, ?_⟩
   have hxl := q4.len
   have hlW := h.cols l List.mem_cons_self
   refine br_f (by
    have : x.n = W := by rw [hxl]; exact hlW
    rw [this]; simp) ⟨h.row.mod mA h.ne, fun u => by rcases u with u | u <;> exact absurd u (by simp), fun _ _ => ?_⟩
   refine hK1 l r x A ⟨slA s.a s.c 1 1, s.n - 1, s.c - 1⟩ rfl ⟨h.row.mod mA h.ne, by simpa using rA, wA, ?_, by have := h.cap; show s.n - 1 ≤ s.c - 1; omega, fun y hy => h.cols y (List.mem_cons_of_mem _ hy), h.xs, h.ne⟩ mA (q4.mod mX fun a ha => (q3 a ha).2) fun a ha => ⟨by have := (q3 a ha).1; omega, (q3 a ha).2⟩
   have := (h.rows.drop h.cap (i := 1) (by simp)).mod mX
   simpa using this
end
structure Cfg where
 pb : Nat
 sa : Nat
 la : Nat
 wa : Nat
 sb : Nat
 lb : Nat
 wb : Nat
 j : Nat
 ca : Sl
 cb : Sl
def hNm : ByteArray := ByteArray.mk #[104]
def joV (c : Cfg) (begun : Bool) (tbl : Option Nat) (held : Int) (row mt : Sl) : Array Value :=
 #[.pointer (some ⟨c.pb, 0, none⟩), .string hNm, .pointer (some ⟨c.sa, 0, none⟩), c.ca.v, .int .i64 2, .pointer (some ⟨c.sb, 0, none⟩), c.cb.v, .int .i64 2, .int .i64 3, .int .i64 0, .bool begun, .slice none 0 0, .slice none 0 0, .pointer none, .pointer none, .int .i64 0, .map tbl, .int .i64 held, .pointer none, .pointer none, row.v, mt.v]
section
variable {H : Heap} {j : Nat} {cs : Array Value} {l cols : Sl} {ll : List Int}
theorem key_ok {i : Nat} {K : Sl → Heap → Prop} (r : RowT H j Yaq cs) (hi : cs[i + 1]? = some cols.v) (hl : Ints .u64 H l ll) (hc : Ints .i64 H cols [0]) (h1 : 1 ≤ ll.length) 
  (hK : ∀ s A, Owns A H.size YaJ 1 s ([ll.getD 0 0].map (Value.int .u64)) → Ext H A → K s A) : ZcV.sp (some (Addr.add ⟨j, 0, none⟩ i)) l H K := by
 refine ZcV.of ?_
 unfold ZcV.vc
 simp only [optK_eq, add_add]
 refine RowT.ld (c := cSl) (i := i + 1) (x := cols) r hi ?_
 refine rowTurn_ok hl hc (by simp) fun s A oA eA => ?_
 have e : turnL ll [0] = [ll.getD 0 0] := by
  have hl0 : 0 < ll.length := h1
  unfold turnL turnOK
  simp [hl0]
 rw [e] at oA
 exact hK s A oA eA
theorem clear_ok {c : Cfg} {begun : Bool} {tbl : Option Nat} {held : Int} {row mt : Sl} {K : Unit → Heap → Prop} (r : RowT H c.j Yaq (joV c begun tbl held row mt))
  (hK : ∀ A, RowT A c.j Yaq (joV c begun (some H.size) 0 row mt) → MapAt (.int .u64) A H.size #[] 0 → Mod (fun b => b = c.j) H A → A.size = H.size + 1 → K () A) : ZbS.sp (some ⟨c.j, 0, none⟩) H K := by
 have hj := obj_lt r
 refine ZbS.of ?_
 unfold ZbS.vc
 refine newM_map (d := .int .u64) fun A1 z1 m1 e1 => ?_
 simp only [optK_eq]
 refine RowT.st (r.ext e1) (i := 16) (by simp [joV]) rfl fun A2 r2 m2 z2 => ?_
 refine RowT.st r2 (i := 17) (by simp [joV]) rfl fun A3 r3 m3 z3 => ?_
 exact hK A3 r3 ((m1.mod m2 fun u => by omega).mod m3 fun u => by omega) ((Ext.mod e1).trans (m2.trans m3)) (by omega)
theorem most_ok {c : Cfg} {begun : Bool} {tbl : Option Nat} {held : Int} {row mt : Sl} {K : Int → Heap → Prop} (r : RowT H c.j Yaq (joV c begun tbl held row mt)) (hK : K 93 H) : Zcb.sp (some ⟨c.j, 0, none⟩) H K := by
 refine Zcb.of ?_
 unfold Zcb.vc
 refine ⟨fun A => H = A, rfl, ?_⟩
 simp only [optK_eq, add_add, Nat.reduceAdd]
 refine RowT.ldC (c := cInt .i64) (i := 8) (x := 3) (cs := fun _ => joV c begun tbl held row mt) (fun A hA => hA ▸ r) (fun _ _ => rfl) ?_
 refine RowT.ld (c := cInt .i64) (i := 7) (x := 2) r rfl ?_
 refine rowRoom_ok ⟨rfl, ?_⟩
 have e : IntKind.i64.wrap (3 * roomL 2) = 93 := by decide
 rw [e]; exact hK
end
def keyN (l : List Int) : Int := sumW [l.getD 0 0] (-1)
structure TabAt (X : Nat → Prop) (H : Heap) (mb : Nat) (ls : List (List Int)) : Prop where
 at_ : ∃ es clk, MapAt (.int .u64) H mb es clk ∧ (∀ k v, HasE es k v → ∃ l s, l ∈ ls ∧ k = .int .u64 (keyN l) ∧ v = Sl.v s ∧ RowsX X H s [l]) ∧ ∀ l ∈ ls, ∃ s, HasE es (.int .u64 (keyN l)) (Sl.v s) ∧ RowsX X H s [l]
section
variable {X : Nat → Prop} {H B : Heap} {mb : Nat} {ls : List (List Int)}
theorem tab_type : Tryz.prog.underlying Yac = some (.map YaJ Yam) := by kernel_rfl
theorem u64_type : Tryz.prog.underlying YaJ = some (.int .u64) := by kernel_rfl
theorem slsl_info : ∃ inf, Tryz.prog.info? Yam = some inf ∧ inf.zero = some (.slice none 0 0) := by
 have h : ((Tryz.prog.info? Yam).bind (·.zero)) = some (.slice none 0 0) := by kernel_rfl
 obtain ⟨inf, h1, h2⟩ := Option.bind_eq_some_iff.1 h
 exact ⟨inf, h1, h2⟩
theorem TabAt.mod (h : TabAt X H mb ls) (m : Mod X H B) (hm : B[mb]? = H[mb]?) : TabAt X B mb ls := by
 obtain ⟨es, clk, h1, h2, h3⟩ := h.at_
 refine ⟨es, clk, ⟨hm.trans h1.obj, h1.stamped, h1.keys⟩, fun k v hv => ?_, fun l hl => ?_⟩
 ·obtain ⟨l, s, a, b, c, d⟩ := h2 k v hv
  exact ⟨l, s, a, b, c, d.mod m⟩
 ·obtain ⟨s, a, b⟩ := h3 l hl
  exact ⟨s, a, b.mod m⟩
theorem TabAt.miss (h : TabAt X H mb ls) {n : Int} (hn : ∀ l ∈ ls, keyN l ≠ n) : isRd Tryz.prog (Instr.lookup Yac (.map (some mb)) (.int .u64 n) false) H (.slice none 0 0) := by
 obtain ⟨es, clk, h1, h2, h3⟩ := h.at_
 obtain ⟨inf, i1, i2⟩ := slsl_info
 refine isRd_miss tab_type u64_type i1 i2 h1 rfl fun v hv => ?_
 obtain ⟨l, s, a, b, _⟩ := h2 _ v hv
 have : n = keyN l := (Value.int.inj b).2
 exact hn l a this.symm
theorem TabAt.hit (h : TabAt X H mb ls) {l : List Int} (hl : l ∈ ls) : ∃ s, isRd Tryz.prog (Instr.lookup Yac (.map (some mb)) (.int .u64 (keyN l)) false) H (Sl.v s) ∧ RowsX X H s [l] := by
 obtain ⟨es, clk, h1, h2, h3⟩ := h.at_
 obtain ⟨s, a, b⟩ := h3 l hl
 refine ⟨s, isRd_hit tab_type u64_type h1 rfl a fun v hv => ?_, b⟩
 obtain ⟨e1, he1, k1, v1⟩ := hv
 obtain ⟨e2, he2, k2, v2⟩ := a
 have hp := (stamped_iff es clk).1 h1.stamped |>.2.2
 rw [← v1, ← v2]
 congr 1
 apply Classical.byContradiction
 intro hne
 obtain ⟨i1, hi1, g1⟩ := List.mem_iff_getElem.1 he1
 obtain ⟨i2, hi2, g2⟩ := List.mem_iff_getElem.1 he2
 have hij : i1 ≠ i2 := fun q => hne (by subst q; rw [← g1, ← g2])
 have hpw := List.pairwise_iff_getElem.1 hp
 rcases Nat.lt_or_ge i1 i2 with q | q
 ·have := hpw i1 i2 hi1 hi2 q
  rw [g1, g2, k1, k2] at this
  exact this rfl
 ·have := hpw i2 i1 hi2 hi1 (by omega)
  rw [g1, g2, k1, k2] at this
  exact this rfl
set_option maxHeartbeats 1000000 in
theorem hold_ok {c : Cfg} {begun : Bool} {held : Int} {row mt l : Sl} {ll : List Int} {K : Unit → Heap → Prop} (r : RowT H c.j Yaq (joV c begun (some mb) held row mt)) (hcb : Ints .i64 H c.cb [0]) (ht : TabAt X H mb ls) (hXj : X c.j) (hXm : X mb) (hne : c.j ≠ mb)
  (hX : ∀ b, X b → b < H.size) (hl : Ints .u64 H l ll) (hlo : ∀ a, l.a = some a → a.block < H.size ∧ ¬ X a.block) (h2 : 1 ≤ ll.length) (hh : 0 ≤ held ∧ held ≤ 1000) (hnew : ∀ l' ∈ ls, keyN l' ≠ keyN ll)
  (hK : ∀ A, RowT A c.j Yaq (joV c begun (some mb) (held + 1) row mt) → TabAt X A mb (ls ++ [ll]) → Mod (fun b => b = c.j ∨ b = mb) H A → K () A) : Zcm.sp (some ⟨c.j, 0, none⟩) l H K := by
 refine Zcm.of ?_
 unfold Zcm.vc
 simp only [optK_eq]
 refine key_ok (i := 5) r rfl hl hcb h2 fun s A o1 e1 => ?_
 refine hashSum_ok o1.ints (by simp) ?_
 have z1 := e1.size
 have hjl := obj_lt r
 have rA := r.ext e1
 have hmb : mb < H.size := by obtain ⟨es, clk, h1, _⟩ := ht.at_; exact h1.lt
 have tA : TabAt X A mb ls := ht.mod (Ext.mod e1) (e1.same mb hmb id)
 refine ⟨fun B => Ext A B, .refl _ _, ?_⟩
 have tb : ∀ B, Ext A B → TabAt X B mb ls := fun B e => tA.mod (Ext.mod e) (e.same mb (by omega) id)
 refine RowT.ldC (c := cMap) (i := 16) (x := some mb) (cs := fun _ => joV c begun (some mb) held row mt) (fun B hB => rA.ext hB) (fun _ _ => rfl) ?_
 refine RowT.ldC (c := cMap) (i := 16) (x := some mb) (cs := fun _ => joV c begun (some mb) held row mt) (fun B hB => rA.ext hB) (fun _ _ => rfl) ?_
 refine ⟨Sl.mk none 0 0, fun B hB => (tb B hB).miss hnew, ?_⟩
 have key := elRow.push (ty := Yam) (H := A) (base := A.size) (s := Sl.mk none 0 0) (xs := []) (v := l.v) (Owns.nil _ _ _ _) rfl (by decide) (by decide) (Nat.le_refl _)
  (K := fun s' B => Ext A B ∧ doU Tryz.prog (Instr.mapUpdate Yac (.map (some mb)) (.int .u64 (sumW [ll.getD 0 0] (-1))) s'.v) B fun H5 => Go.Proofs.YtkehfflpbpdokaaGreat.ld (cInt .i64) H5 (Addr.add ⟨c.j, 0, none⟩ 17) fun (x_3 : Int) => Go.Proofs.YtkehfflpbpdokaaGreat.st H5 (Addr.add ⟨c.j, 0, none⟩ 17) (.int .i64 (IntKind.i64.wrap (x_3 + (1 : Int)))) fun H6 => K () H6)
 refine ⟨Mod.push _ _ _, ?_⟩
 refine key fun s' B n' oB mB bB _ => ?_
 have eB : Ext A B := mB.ext fun b u => by obtain ⟨ad, ha, _⟩ := u; cases ha
 refine ⟨eB, ?_⟩
 obtain ⟨es, clk, m1, m2, m3⟩ := (tb B eB).at_
 have hno : ∀ u, ¬ HasE es (.int .u64 (sumW [ll.getD 0 0] (-1))) u := fun u hu => by
  obtain ⟨l', s, a, b, _⟩ := m2 _ u hu
  have : sumW [ll.getD 0 0] (-1) = keyN l' := (Value.int.inj b).2
  exact hnew l' a this.symm
 refine doU_insert tab_type u64_type m1 rfl hno fun C mC modC zC => ?_
 have zB := eB.size
 have rB := rA.ext eB
 have rC : RowT C c.j Yaq (joV c begun (some mb) held row mt) := rB.mod modC hne
 refine RowT.ld (c := cInt .i64) (i := 17) (x := held) rC rfl ?_
 refine RowT.st rC (i := 17) (by simp [joV]) rfl fun D rD modD zD => ?_
 have hw : IntKind.i64.wrap (held + 1) = held + 1 := wrap64 (by omega) (by omega)
 rw [hw] at rD
 have mXC : Mod X B C := modC.mono fun b _ u => by subst u; exact hXm
 have mXD : Mod X C D := modD.mono fun b _ u => by subst u; exact hXj
 have mX : Mod X B D := mXC.trans mXD
 have eHB := e1.trans eB
 have rowsN : RowsX X B s' [ll] := by
  have hb := oB.block
  have n1 : s'.n = 1 := n'
  refine ⟨n1, fun ad ha => ?_, fun i hi => ?_⟩
  ·have := hb _ ⟨ad, ha, rfl⟩
   exact ⟨this.2, fun u => by have := hX _ u; omega⟩
  ·have hi0 : i = 0 := by simp at hi; omega
   subst hi0
   obtain ⟨ad, ha, hc⟩ := oB.reads.at (i := 0) (by simp)
   exact ⟨ad, l, ha, by simpa using hc, fun a q => ⟨by have := (hlo a q).1; omega, (hlo a q).2⟩, hl.ext eHB⟩
 refine hK D rD ⟨_, _, mC.mod modD (Ne.symm hne), fun k v hv => ?_, fun l' hl' => ?_⟩ ((Ext.mod eHB).trans ((modC.mono fun _ _ u => .inr u).trans (modD.mono fun _ _ u => .inl u)))
 ·rcases hasE_push.1 hv with q | ⟨q1, q2⟩
  ·obtain ⟨l', s, a, b, c, d⟩ := m2 k v q
   exact ⟨l', s, List.mem_append.2 (.inl a), b, c, d.mod mX⟩
  ·exact ⟨ll, s', List.mem_append.2 (.inr (List.mem_singleton.2 rfl)), q1, q2, rowsN.mod mX⟩
 ·rcases List.mem_append.1 hl' with q | q
  ·obtain ⟨s, a, b⟩ := m3 l' q
   exact ⟨s, hasE_push.2 (.inl a), b.mod mX⟩
  ·have e : l' = ll := List.mem_singleton.1 q
   subst e
   exact ⟨s', hasE_push.2 (.inr ⟨rfl, rfl⟩), rowsN.mod mX⟩
end
theorem Drop1_ok {H : Heap} {z : FZ} {K : Bool → Heap → Prop} (hA : FrAt H z.2 z.1) (hK : K (!z.1.pins.isEmpty) H) : ZbK.sp (at0 z.2.p) H K := by
 refine ZbK.of ?_
 unfold ZbK.vc
 simp only [optK_eq]
 refine hA.row.ld (c := cInt .i64) (i := 5) (x := (z.1.pins.length : Int)) rfl ?_
 have e : decide ((z.1.pins.length : Int) > 0) = !z.1.pins.isEmpty := by
  cases z.1.pins with
  | nil => rfl
  | cons a l => simp
 rw [e]; exact hK
theorem IndexDrop_ok [Tab] {H : Heap} {s : Sl} {l : List FZ} {K : Int → Heap → Prop} (h : SlE EPtr Yai H s (l.map fun z => z.2.p)) (hA : ∀ z ∈ l, FrAt H z.2 z.1) (hl : l.length ≤ 1048576)
  (hK : ∀ r : Int, decide (r ≥ 0) = (l.any fun z => !z.1.pins.isEmpty) → K r H) : Zaj.sp s H K := by
 refine Zaj.of ?_
 unfold Zaj.vc
 have hn := h.n (by decide)
 rw [List.length_map] at hn
 refine loop_upto l.length (fun k x H1 => H = H1 ∧ x = (k : Int) ∧ ∀ z ∈ l.take k, z.1.pins.isEmpty = true) ⟨rfl, rfl, by simp⟩ ?_
 rintro k _ _ next hk ⟨rfl, rfl, hf⟩ hnext
 refine br_mk (fun hc => ?_) (fun hc => ?_)
 ·have hlt : k < l.length := by rw [hn] at hc; simpa using hc
  refine ptr_ld h (i := k) (q := l[k].2.p) (by simp [hlt]) rfl fun ad ha => ?_
  refine Drop1_ok (hA _ (List.getElem_mem hlt)) ?_
  cases hs : l[k].1.pins.isEmpty with
  | false =>
    refine br_t rfl (hK _ ?_)
    rw [decide_eq_true (by omega)]
    exact (List.any_eq_true.2 ⟨l[k], List.getElem_mem hlt, by rw [hs]; rfl⟩).symm
  | true =>
    refine br_f rfl (hnext hlt _ _ ⟨rfl, succ64 k (by omega), ?_⟩)
    intro z hz
    rw [List.take_succ_eq_append_getElem hlt] at hz
    rcases List.mem_append.1 hz with q | q
    ·exact hf z q
    ·simp at q; subst q; exact hs
 ·have hge : k = l.length := by rw [hn] at hc; simp at hc; omega
  rw [hge, List.take_of_length_le (Nat.le_refl _)] at hf
  refine hK _ ?_
  have : (l.any fun z => !z.1.pins.isEmpty) = false := by
   rw [List.any_eq_false]
   intro z hz
   rw [hf z hz]; simp
  rw [this]; rfl
theorem ContainsDrop_ok [Tab] {H : Heap} {s : Sl} {l : List FZ} {K : Bool → Heap → Prop} (h : SlE EPtr Yai H s (l.map fun z => z.2.p)) (hA : ∀ z ∈ l, FrAt H z.2 z.1) (hl : l.length ≤ 1048576)
  (hK : K (l.any fun z => !z.1.pins.isEmpty) H) : Zaf.sp s H K := by
 refine Zaf.of ?_
 unfold Zaf.vc
 exact IndexDrop_ok h hA hl fun r hr => by rw [hr]; exact hK
theorem erase_filter : ∀ {l : List FZ} {i : Nat} {a : FZ}, (∀ (i j : Nat) (z z' : FZ), l[i]? = some z → l[j]? = some z' → z.2.p = z'.2.p → i = j) → l[i]? = some a → l.eraseIdx i = l.filter fun z => !(z.2.p == a.2.p)
 | [], i, a, _, h => by simp at h
 | b :: l, 0, a, hu, h => by
   simp at h; subst h
   rw [List.eraseIdx_cons_zero, List.filter_cons, if_neg (by simp)]
   refine (List.filter_eq_self.2 fun z hz => ?_).symm
   obtain ⟨j, hj⟩ := List.mem_iff_getElem?.1 hz
   have : z.2.p ≠ b.2.p := fun e => by have := hu (j + 1) 0 z b (by simpa using hj) rfl e; omega
   simpa using this
 | b :: l, i + 1, a, hu, h => by
   simp only [List.getElem?_cons_succ] at h
   have hne : b.2.p ≠ a.2.p := fun e => by have := hu 0 (i + 1) b a rfl (by simpa using h) e; omega
   rw [List.eraseIdx_cons_succ, List.filter_cons, if_pos (by simpa using hne)]
   rw [erase_filter (fun i j z z' h1 h2 e => by have := hu (i + 1) (j + 1) z z' (by simpa using h1) (by simpa using h2) e; omega) h]
def leftZ (zs w : List FZ) : List FZ := zs.filter fun z => !(w.any fun u => u.2.p == z.2.p)
theorem leftZ_snoc (zs w : List FZ) (a : FZ) : leftZ zs (w ++ [a]) = (leftZ zs w).filter fun z => !(z.2.p == a.2.p) := by
 unfold leftZ
 rw [List.filter_filter]
 refine List.filter_congr fun z _ => ?_
 rw [List.any_append, List.any_cons, List.any_nil, Bool.or_false, Bool.not_or, Bool.and_comm]
 congr 2
 exact Bool.beq_comm
theorem Drop_ok [Tab] {F : Nat → Prop} {H : Heap} {p dp : Nat} {s : Pl} {n : ByteArray} {K : Int → Heap → Prop} (hg : Gl H) (h : PoolAt F H p dp s)
  (hK : ∀ F' H', PoolAt F' H' p dp (s.dropF n).1 → Step F F' H H' → K (s.dropF n).2 H') : ZcH.sp (at0 p) n H K := by
 have h00 := h
 obtain ⟨x, D, hd, hF⟩ := h
 refine ZcH.of ?_
 unfold ZcH.vc
 simp only [optK_eq]
 refine ready_pool hd.pool ?_
 unfold Pl.dropF at hK
 refine br_mk (fun hw => ?_) (fun hw => ?_)
 ·have hw' : s.wrong ≠ 0 := by simpa using hw
  rw [if_pos hw'] at hK
  exact hK F H h00 (.refl _ _)
 have hw' : ¬ s.wrong ≠ 0 := by simpa using hw
 rw [if_neg hw'] at hK
 refine hd.pool.head.ld (c := cPtr) (i := 0) (x := at0 dp) rfl ?_
 refine Len_ok hd.disk ?_
 have fin : ∀ (e : Int) (x' : PG) (D' : Nat → Prop) (H1 : Heap) (t : Pl), PoolD x' D' H1 p dp t → Step (fun b => D b ∨ x.all p b) (fun b => D' b ∨ x'.all p b) H H1 → (∀ F' H', PoolAt F' H' p dp (Pl.out (t, e)).1 → Step F F' H H' → K (Pl.out (t, e)).2 H') →
   ZcP.sp (at0 p) e H1 fun r H2 => K r H2 := by
  intro e x' D' H1 t h1 S1 hk
  refine met_ok (hd.gl hg S1.mod) h1 fun H2 h2 S2 => ?_
  obtain ⟨F', q1, q2⟩ := h2.out (x := x) (D := D) (F := F) (H := H) hF (S1.trans S2)
  exact hk F' H2 q1 q2
 refine br_mk (fun hz => ?_) (fun hz => ?_)
 ·have hz' : (s.d.len n).2 ≠ 0 := by simpa using hz
  rw [if_pos hz'] at hK
  exact fin _ x D H s hd (.refl _ _) hK
 have hz' : ¬ (s.d.len n).2 ≠ 0 := by simpa using hz
 rw [if_neg hz'] at hK
 refine of_ok hd.pool fun sl H1 o1 e1 f1 => ?_
 have hd1 := hd.ext e1
 have hlen1 := o1.n (by decide)
 rw [List.length_map] at hlen1
 have hll : (x.of n).length ≤ 4096 := by
  have h1 := PG.of_pages hd.pool.fs n
  have h2 := s.pagesOf_length n
  rw [← h1, List.length_map] at h2
  have := hd.pool.wf.len; have := hd.pool.wf.most; omega
 have hany : ((x.of n).any fun z => !z.1.pins.isEmpty) = s.fs.any (fun f => f.name.toList == n.toList && !f.pins.isEmpty) := by
  rw [Bool.eq_iff_iff, List.any_eq_true, List.any_eq_true]
  constructor
  ·rintro ⟨z, hz, e⟩
   obtain ⟨q1, q2⟩ := PG.of_mem.1 hz
   refine ⟨z.1, by rw [hd.pool.fs]; exact List.mem_map.2 ⟨z, q1, rfl⟩, ?_⟩
   rw [q2, e]; simp
  ·rintro ⟨f, hf, e⟩
   rw [hd.pool.fs] at hf
   obtain ⟨z, hz, rfl⟩ := List.mem_map.1 hf
   simp only [Bool.and_eq_true] at e
   exact ⟨z, PG.of_mem.2 ⟨hz, ba_eq (by simpa using e.1)⟩, e.2⟩
 refine ContainsDrop_ok o1 (fun z hz => hd1.pool.frames.each z (PG.of_mem.1 hz).1) (by omega) ?_
 rw [hany]
 cases hb : s.fs.any (fun f => f.name.toList == n.toList && !f.pins.isEmpty) with
 | true =>
   rw [hb, if_pos rfl] at hK
   obtain ⟨F', q1, q2⟩ := hd1.out (x := x) (D := D) (F := F) (H := H) hF (Step.ext e1)
   exact br_t rfl (hK F' H1 q1 q2)
 | false =>
   rw [hb, if_neg (by simp)] at hK
   refine br_f rfl ?_
   have hfree : ∀ z ∈ x.of n, z.1.pins = [] := by
    intro z hz
    rw [hb] at hany
    have := (List.any_eq_false.1 hany) z hz
    simpa using this
   refine loop_upto (x.of n).length (fun k z A => z = (k : Int) ∧ ∃ y, PoolD y D A p dp { s with fs := (leftZ x.zs ((x.of n).take k)).map (·.1) } ∧ y.zs = leftZ x.zs ((x.of n).take k) ∧ Step (fun b => D b ∨ x.all p b) (fun b => D b ∨ y.all p b) H1 A ∧ SlE EPtr Yai A sl ((x.of n).map fun z => z.2.p)) ⟨rfl, x, ?_, ?_, .refl _ _, o1⟩ ?_
   ·have e : (leftZ x.zs ((x.of n).take 0)).map (·.1) = s.fs := by
     rw [hd.pool.fs]; unfold leftZ PG.fs
     rw [List.filter_eq_self.2 (fun _ _ => by simp)]
    rw [e]; exact hd1
   ·unfold leftZ
    rw [List.filter_eq_self.2 (fun _ _ => by simp)]
   rintro k _ A next hk ⟨rfl, y, hdA, hy, SA, oA⟩ hnext
   have hgA : Gl A := hd1.gl (hg.mod e1 id) SA.mod
   refine br_mk (fun hc => ?_) (fun hc => ?_)
   ·have hlt : k < (x.of n).length := by rw [hlen1] at hc; simpa using hc
    have hzk : (x.of n)[k] ∈ x.of n := List.getElem_mem hlt
    obtain ⟨hzx, hzn⟩ := PG.of_mem.1 hzk
    have hzy : (x.of n)[k] ∈ y.zs := by
     rw [hy]
     unfold leftZ
     rw [List.mem_filter]
     refine ⟨hzx, ?_⟩
     rw [Bool.not_eq_true', List.any_eq_false]
     intro u hu e
     obtain ⟨j, hj, rfl⟩ := List.getElem_of_mem hu
     simp only [List.length_take] at hj
     simp only [List.getElem_take, beq_iff_eq] at e
     have hjm : (x.of n)[j] ∈ x.of n := List.getElem_mem (by omega)
     have e2 := hd.pool.frames.ptr (PG.of_mem.1 hjm).1 hzx e
     have hnd : (x.of n).Nodup := by
      have hz : x.zs.Nodup := by
       have := hd.pool.wf.keys
       rw [hd.pool.fs] at this
       unfold PG.fs at this
       rw [List.map_map] at this
       exact nodup_of_map _ this
      unfold PG.of
      exact (List.mergeSort_perm _ _).symm.nodup (hz.filter _)
     have := (List.getElem_inj hnd).1 e2
     omega
    obtain ⟨i, hi⟩ := List.mem_iff_getElem?.1 hzy
    refine ptr_ld oA (i := k) (q := (x.of n)[k].2.p) (by simp [hlt]) rfl fun ad ha => ?_
    refine hdA.pool.head.ld (c := cMap) (i := 2) (x := some y.mf) rfl ?_
    simp only [optK_eq]
    refine FrAt.at_ld (hdA.pool.frames.each _ hzy) ?_
    refine del_ok hgA hdA hi (hfree _ hzk) fun ef' v A2 h2 S2 m2 => ?_
    have e2 : y.zs.eraseIdx i = leftZ x.zs ((x.of n).take (k + 1)) := by
     rw [List.take_succ_eq_append_getElem hlt, leftZ_snoc, ← hy]
     refine erase_filter (fun a c z z' q1 q2 e => ?_) hi
     by_cases hac : a = c
     ·exact hac
     ·exact absurd (.inl e) (hdA.pool.frames.apart a c z z' q1 q2 hac z.2.p (.inl rfl))
    refine hnext hlt _ _ ⟨succ64 k (by omega), _, ?_, e2, SA.trans S2, ?_⟩
    ·have e3 : (Pl.drop { s with fs := (leftZ x.zs ((x.of n).take k)).map (·.1) } i) = { s with fs := (leftZ x.zs ((x.of n).take (k + 1))).map (·.1) } := by
      unfold Pl.drop
      simp only
      rw [← map_erase, ← e2, hy]
     rw [← e3]; exact h2
    ·refine oA.keep fun b hb hl => m2.same b hl ?_
     intro e
     obtain ⟨c, q⟩ := oA.obj b hb
     rw [e, hdA.pool.frames.fmap.obj] at q; cases q
   ·have hge : k = (x.of n).length := by rw [hlen1] at hc; simp at hc; omega
    have e4 : ({ s with fs := (leftZ x.zs ((x.of n).take k)).map (·.1) } : Pl) = s.forget n := by
     unfold Pl.forget
     rw [hge, List.take_of_length_le (Nat.le_refl _), hd.pool.fs]
     unfold leftZ PG.fs
     rw [List.filter_map]
     congr 2
     refine List.filter_congr fun z hz => ?_
     show (!_) = !(z.1.name.toList == n.toList)
     congr 1
     rw [Bool.eq_iff_iff, List.any_eq_true, beq_iff_eq]
     constructor
     ·rintro ⟨u, hu, e⟩
      obtain ⟨q1, q2⟩ := PG.of_mem.1 hu
      have := hd.pool.frames.ptr q1 hz (by simpa using e)
      rw [← this, q2]
     ·intro e
      exact ⟨z, PG.of_mem.2 ⟨hz, ba_eq e⟩, by simp⟩
    rw [e4] at hdA
    refine hdA.pool.head.ld (c := cPtr) (i := 0) (x := at0 dp) rfl ?_
    refine Remove_ok hdA.disk fun D2 H2 a2 S2 => ?_
    obtain ⟨q1, q2⟩ := hdA.stepD hgA a2 S2
    exact fin _ y D2 H2 _ q1 ((SA.trans q2).ahead e1) hK
section
variable {H0 A B : Heap} {F F' : Nat → Prop} {p dp Q U U' most m : Nat} {s s' : Pl} {M M' : Files} {n : ByteArray} {x : St}
theorem PoolM.dropM [Tab] {K : Int → Heap → Prop} (h : PoolM H0 A F p dp s M Q U most m) (hg : Gl H0) (hM : M n = some x)
  (hK : ∀ F' s' B, PoolM H0 B F' p dp s' (setF M n none) Q (U - x.N) most (m + 2100) → Step F F' A B → K 0 B) : ZcH.sp (at0 p) n A K := by
 obtain ⟨d1, d2, d3, d4⟩ := h.calm.dropF hM
 have dl := s.dropF_logs n
 have hz := h.ext.size
 have lo := h.lo
 have hi := h.hi
 have hl := h.logs
 refine Drop_ok (h.gl hg) h.pool fun F' B q1 S => ?_
 rw [d1]
 refine hK F' _ B ⟨⟨Nat.le_trans hz S.mod.size, fun b hb _ => (S.mod.same b (by omega) fun u => by have := h.old b u; omega).trans (h.ext.same b hb id)⟩, q1, fun b hb => ?_, d2, by omega, by omega, by omega, by have := h.le; omega, fun a y hy => ?_, d3.trans h.most⟩ S
 ·rcases S.own b hb with u | u
  ·exact h.old b u
  ·omega
 ·by_cases e : a = n
  ·subst e; rw [setF_same] at hy; cases hy
  ·rw [setF_other e] at hy; exact h.room a y hy
end
end Go.Proofs.YtkehfflpbpdokaaGreat
namespace Go.Proofs.YtkehfflpbpdokaaGreat
open Go.ChangeShapes Go.WideShapes Go.ChangeAt Go.RowKit
end Go.Proofs.YtkehfflpbpdokaaGreat
namespace Go.Proofs.YtkehfflpbpdokaaGreat
theorem byteL_lit (n : Int) (k : Nat) (d : Int) (hd : (2 : Int) ^ (min (56 - 8 * (k : Int)).toNat IntKind.u64.bits) = d) (h0 : 0 ≤ d) : byteL n k = n / d % 256 := by
 unfold byteL ishr
 rw [IntKind.wrap_u8, hd, Int.fdiv_eq_ediv_of_nonneg _ h0]
theorem wordL_bytes {n : Int} (h0 : 0 ≤ n) (h1 : n < 18446744073709551616) : ∃ b0 b1 b2 b3 b4 b5 b6 b7 : Int, wordL n = [b0, b1, b2, b3, b4, b5, b6, b7] ∧
  (0 ≤ b0 ∧ b0 < 256) ∧ (0 ≤ b1 ∧ b1 < 256) ∧ (0 ≤ b2 ∧ b2 < 256) ∧ (0 ≤ b3 ∧ b3 < 256) ∧ (0 ≤ b4 ∧ b4 < 256) ∧ (0 ≤ b5 ∧ b5 < 256) ∧ (0 ≤ b6 ∧ b6 < 256) ∧ (0 ≤ b7 ∧ b7 < 256) ∧
  n = b0 * 72057594037927936 + b1 * 281474976710656 + b2 * 1099511627776 + b3 * 4294967296 + b4 * 16777216 + b5 * 65536 + b6 * 256 + b7 := by
 refine ⟨byteL n 0, byteL n 1, byteL n 2, byteL n 3, byteL n 4, byteL n 5, byteL n 6, byteL n 7, rfl, byteL_range n 0, byteL_range n 1, byteL_range n 2, byteL_range n 3, byteL_range n 4, byteL_range n 5, byteL_range n 6, byteL_range n 7, ?_⟩
 rw [byteL_lit n 0 72057594037927936 (by decide) (by decide), byteL_lit n 1 281474976710656 (by decide) (by decide), byteL_lit n 2 1099511627776 (by decide) (by decide), byteL_lit n 3 4294967296 (by decide) (by decide),
  byteL_lit n 4 16777216 (by decide) (by decide), byteL_lit n 5 65536 (by decide) (by decide), byteL_lit n 6 256 (by decide) (by decide), byteL_lit n 7 1 (by decide) (by decide)]
 omega
theorem wstep_small {w b : Int} (h0 : 0 ≤ w) (h1 : w < 72057594037927936) (h2 : 0 ≤ b) (h3 : b < 256) : wstep w b = w * 256 + b := by
 unfold wstep
 simp only [u64_wrap]
 omega
theorem wordOf_wordL {n : Int} (h0 : 0 ≤ n) (h1 : n < 18446744073709551616) : wordOf (wordL n) = n := by
 obtain ⟨b0, b1, b2, b3, b4, b5, b6, b7, e, r0, r1, r2, r3, r4, r5, r6, r7, hs⟩ := wordL_bytes h0 h1
 rw [e]
 unfold wordOf
 simp only [List.foldl_cons, List.foldl_nil]
 rw [wstep_small (w := 0) (by omega) (by omega) r0.1 r0.2, wstep_small (by omega) (by omega) r1.1 r1.2, wstep_small (by omega) (by omega) r2.1 r2.2, wstep_small (by omega) (by omega) r3.1 r3.2,
  wstep_small (by omega) (by omega) r4.1 r4.2, wstep_small (by omega) (by omega) r5.1 r5.2, wstep_small (by omega) (by omega) r6.1 r6.2, wstep_small (by omega) (by omega) r7.1 r7.2]
 omega
def fitsL (l : List Int) : Prop := ∀ x ∈ l, 0 ≤ x ∧ x < 18446744073709551616
theorem chunk_flat {n : Nat} : ∀ (L : List (List Int)), (∀ l ∈ L, l.length = n) → ∀ k (hk : k < L.length), ((L.flatten).drop (k * n)).take n = L[k]
 | [], _, k, hk => by simp at hk
 | l :: L, h, 0, _ => by
   have := h l List.mem_cons_self
   simp [← this]
 | l :: L, h, k + 1, hk => by
   have h1 := h l List.mem_cons_self
   have ih := chunk_flat L (fun x hx => h x (List.mem_cons_of_mem _ hx)) k (by simpa using hk)
   rw [List.flatten_cons, Nat.succ_mul, Nat.add_comm, List.drop_append, List.drop_of_length_le (by omega), List.nil_append]
   have : n + k * n - l.length = k * n := by omega
   rw [this]
   simpa using ih
theorem flat_len {n : Nat} : ∀ (L : List (List Int)), (∀ l ∈ L, l.length = n) → L.flatten.length = L.length * n
 | [], _ => by simp
 | l :: L, h => by
   rw [List.flatten_cons, List.length_append, h l List.mem_cons_self, flat_len L (fun x hx => h x (List.mem_cons_of_mem _ hx))]
   simp [Nat.succ_mul]; omega
theorem rowOf_put {l : List Int} {w : Nat} (hl : l.length = w) (hf : fitsL l) : rowOf (putL l) w = l := by
 by_cases h : l = []
 ·subst h; simp at hl; subst hl; rfl
 ·unfold putL
  rw [if_neg h]
  apply List.ext_getElem
  ·simp [rowOf, hl]
  ·intro j h1 h2
   simp only [rowOf, List.getElem_map, List.getElem_range]
   have := chunk_flat (n := 8) (l.map wordL) (by intro x hx; obtain ⟨y, _, rfl⟩ := List.mem_map.1 hx; exact wordL_length y) j (by simpa using h2)
   rw [← List.flatMap_def] at this
   rw [Nat.mul_comm, this]
   simp only [List.getElem_map]
   exact wordOf_wordL (hf _ (List.getElem_mem h2)).1 (hf _ (List.getElem_mem h2)).2
theorem put_len {l : List Int} {w : Nat} (hl : l.length = w) (hw : w ≤ 16) : (putL l).length = (sizeL w).toNat ∧ 0 < (sizeL w).toNat := by
 unfold putL sizeL
 by_cases h : l = []
 ·subst h; simp at hl; subst hl; simp
 ·have : 0 < l.length := List.length_pos_iff.2 h
  rw [if_neg h, if_neg (by omega), if_neg (by omega), flat_length]
  omega
theorem read_again {L : List (List Int)} {w : Nat} (hw : w ≤ 16) (hl : ∀ l ∈ L, l.length = w) (hf : ∀ l ∈ L, fitsL l) : getL (L.flatMap putL) w = L ∧ getE (L.flatMap putL) w = 0 := by
 have hlen : ∀ l ∈ L.map putL, l.length = (sizeL w).toNat := by
  intro l h
  obtain ⟨x, hx, rfl⟩ := List.mem_map.1 h
  exact (put_len (hl x hx) hw).1
 have hn0 : 0 < (sizeL w).toNat := (put_len (l := List.replicate w 0) (by simp) hw).2
 have htot : (L.flatMap putL).length = L.length * (sizeL w).toNat := by
  rw [List.flatMap_def, flat_len _ hlen]; simp
 have hok : getOK (L.flatMap putL) w = true := by
  refine getOK_good (by omega) ?_ ?_
  ·have e : sizeL w = (((sizeL w).toNat : Nat) : Int) := by omega
   rw [e, htot, ← Int.ofNat_tmod, Nat.mul_mod_left]; rfl
  ·intro h0 k hk
   have h0' : w = 0 := by omega
   subst h0'
   have : ∀ x ∈ L.flatMap putL, x = 0 := by
    intro x hx
    obtain ⟨l, h1, h2⟩ := List.mem_flatMap.1 hx
    have : l = [] := List.eq_nil_of_length_eq_zero (hl l h1)
    subst this
    simpa [putL] using h2
   simp only [List.getD, List.getElem?_eq_getElem hk, Option.getD_some]
   exact this _ (List.getElem_mem hk)
 unfold getL getE
 rw [hok, if_pos rfl, if_pos rfl, htot, Nat.mul_div_cancel _ hn0]
 refine ⟨?_, rfl⟩
 apply List.ext_getElem
 ·simp [rowsOf]
 ·intro k h1 h2
  simp only [rowsOf, List.getElem_map, List.getElem_range]
  have := chunk_flat (L.map putL) hlen k (by simpa using h2)
  rw [← List.flatMap_def] at this
  unfold chunkOf
  rw [this]
  simp only [List.getElem_map, Int.toNat_natCast]
  exact rowOf_put (hl _ (List.getElem_mem h2)) (hf _ (List.getElem_mem h2))
open Go.MapKept
section
variable {H0 A B : Heap} {F F' : Nat → Prop} {p dp Q U most m : Nat} {s s' : Pl} {M M' : Files} {n : ByteArray} {x x' : St}
theorem PoolM.createM [Tab] {K : Int → Heap → Prop} {ns : List ByteArray} (hP : PoolM H0 A F p dp s M Q U most m) (hg : Gl H0) (hnm : named n = true) (hM : M n = none) (hns : ∀ a y, M a = some y → a ∈ ns) (hnl : ns.length < 4096)
  (hK : ∀ F' s' B, PoolM H0 B F' p dp s' (setF M n (some ⟨0, fun _ => (0, [])⟩)) Q U most m → Step F F' A B → K 0 B) : Zcd.sp (at0 dp) n A K := by
 have hfl := hP.calm.told.files_le hns
 obtain ⟨c1, c2, c3, c4⟩ := hP.calm.told.create hM hnm (by omega) (fun _ => (0, []))
 have I0 : ManyI n M Q U most (s.setD (s.d.create n).1) ⟨0, fun _ => (0, [])⟩ m := ⟨by show CalmM _ _ _ (0 + U); rw [Nat.zero_add]; exact ⟨c2, hP.calm.wf.setD _, hP.calm.free⟩, hP.lo, hP.hi, by show (s.d.create n).1.logs ≤ _; rw [c4]; exact hP.logs, by show 0 + U ≤ Q; have := hP.le; omega, fun _ => by show ([] : List UInt8).length ≤ 504; decide, hP.most⟩
 obtain ⟨D, hD, _, hdisk⟩ := hP.pool.disk (hP.gl hg)
 refine Create_ok hD fun D' B hD' S => ?_
 rw [c1]
 obtain ⟨F', p', S'⟩ := hdisk D' B _ hD' S
 have hp1 := hP.goes I0 p' S' hP.old (fun b hb => hb)
 have e0 : (⟨0, fun _ => (0, [])⟩ : St).N + U = U := Nat.zero_add U
 rw [e0] at hp1
 exact hK F' _ B hp1 S'
theorem PoolM.more_at [Tab] (h : PoolM H0 A F p dp s M Q U most m) (hM : M n = some x) (hU : U < Q) (hQ : Q ≤ 1048576) (hs : n.size ≤ 9223372036854775807) (hm : m < 30000000000) {kd : UInt8} {b : List UInt8} (hb : b.length ≤ 504) (hk : kd ≠ 0) :
  (s.fresh n).2.2.2 = 0 ∧ ((s.fresh n).1.set (s.fresh n).2.1 kd b).2 = 0 ∧ (((s.fresh n).1.set (s.fresh n).2.1 kd b).1.unpin (s.fresh n).2.1).2 = 0 ∧ s.Fit ∧ s.d.logs < 68719470000 ∧ s.next < 1099511627776 ∧
  ManyI n M Q (U - x.N) most (((s.fresh n).1.set (s.fresh n).2.1 kd b).1.unpin (s.fresh n).2.1).1 ⟨x.N + 1, setT x.T x.N (kd, b)⟩ (m + 1) := by
 have I := h.many hM
 have hN := h.calm.told.N_le hM
 have S := many_store (n := n) (Mo := M) (Q := Q) (R := U - x.N) (most := most) hs hQ
 obtain ⟨l1, l2, l3, l4, _, _⟩ := S.pre I
 rcases S.more (kd := kd) (b := b) I hm hb hk (by omega) with ⟨a1, a2, a3⟩ | hC
 ·unfold Pl.more at a1 a3
  by_cases e0 : (s.fresh n).2.2.2 = 0
  ·rw [if_neg (by simpa using e0), if_neg hk] at a1 a3
   unfold Pl.leave at a1 a3
   by_cases e1 : ((s.fresh n).1.set (s.fresh n).2.1 kd b).2 = 0
   ·rw [if_pos e1] at a1 a3
    exact ⟨e0, e1, a1, l4, by omega, by omega, a3⟩
   ·rw [if_neg e1] at a1
    exact absurd a1 e1
  ·rw [if_pos e0] at a1
   exact absurd a1 e0
 ·exact hC.elim
end
structure HFile where
 blk : Nat
 name : ByteArray
 made : Bool
 cs : List (List (List Int))
 pd : List (List Int)
 wait : Sl
def hB (L : List (List Int)) : List UInt8 := L.flatMap fun l => bytesI (putL l)
theorem u8i_hB : ∀ (L : List (List Int)), u8i (hB L) = L.flatMap putL
 | [] => rfl
 | l :: L => by
   have a := u8i_bytesI (putL_range l)
   have b := u8i_hB L
   unfold u8i at a b ⊢
   show List.map _ (bytesI (putL l) ++ hB L) = _
   rw [List.map_append, a, b]
   rfl
def HFile.rows (f : HFile) : List (List Int) := f.cs.flatten ++ f.pd
def fileV (W : Int) (f : HFile) : Array Value := #[.string f.name, .bool f.made, .int .i64 W, .int .i64 (f.rows.length : Int), .int .i64 (f.cs.length : Int), f.wait.v, .int .i64 (f.pd.length : Int)]
structure HFileAt (A : Heap) (W : Int) (f : HFile) : Prop where
 row : RowT A f.blk Yaz (fileV W f)
 wait : SlE EB YaL A f.wait (hB f.pd)
def Pgs (x : St) (cs : List (List (List Int))) : Prop := x.N = cs.length ∧ ∀ k (h : k < cs.length), x.T k = (1, hB cs[k])
structure Stored (M : Files) (f : HFile) : Prop where
 made : f.made = true → ∃ x, M f.name = some x ∧ Pgs x f.cs
 none : f.made = false → M f.name = none ∧ f.cs = []
def outF (f : HFile) : HFile := { f with made := true, cs := f.cs ++ [f.pd], pd := [], wait := Sl.mk none 0 0 }
def OutX (j : Nat) (fs : Sl) (f : HFile) (b : Nat) : Prop := b = j ∨ b = f.blk ∨ ownB fs b ∨ ownB f.wait b
theorem Pgs.more [Tab] {x : St} {cs : List (List (List Int))} (h : Pgs x cs) (L : List (List Int)) : Pgs ⟨x.N + 1, setT x.T x.N (1, hB L)⟩ (cs ++ [L]) := by
 obtain ⟨h1, h2⟩ := h
 refine ⟨by show x.N + 1 = _; rw [List.length_append, h1]; rfl, fun k hk => ?_⟩
 rw [List.length_append] at hk
 have hk : k < cs.length + 1 := hk
 show setT x.T x.N (1, hB L) k = _
 by_cases e : k = cs.length
 ·have h3 : (cs ++ [L])[k] = L := by subst e; simp
  rw [h3, e, ← h1, setT_same]
 ·rw [setT_other (by omega), h2 k (by omega), List.getElem_append_left (by omega)]
def isPtrN : Value → Bool
 | .pointer none => true
 | _ => false
theorem isPtrN_eq : ∀ v, isPtrN v = true → v = .pointer none := by
 intro v h
 cases v with
 | pointer p => cases p with
   | none => rfl
   | some a => cases h
 | _ => cases h
theorem elFile : El Tryz.prog Yaf Yal 8 (.pointer none) := El_of (zb := isPtrN) isPtrN_eq rfl (by kernel_rfl)
theorem set_same {cs : Array Value} {i : Nat} {v : Value} (h : cs[i]? = some v) : cs.setIfInBounds i v = cs := by
 apply Array.ext_getElem?
 intro k
 rw [Array.getElem?_setIfInBounds]
 split
 ·rename_i e
  subst e
  have hi := (Array.getElem?_eq_some_iff.1 h).1
  rw [if_pos hi, h]
 ·rfl
theorem set_twice {cs : Array Value} {i : Nat} {v w : Value} : (cs.setIfInBounds i v).setIfInBounds i w = cs.setIfInBounds i w := by
 apply Array.ext_getElem?
 intro k
 rw [Array.getElem?_setIfInBounds, Array.getElem?_setIfInBounds, Array.getElem?_setIfInBounds]
 by_cases e : i = k
 ·rw [if_pos e, if_pos e]; simp
 ·rw [if_neg e, if_neg e, if_neg e]
theorem rowNe {A : Heap} {x y : Nat} {t u : TypeId} {cs ds : Array Value} (h1 : RowT A x t cs) (h2 : RowT A y u ds) (hne : t ≠ u) : x ≠ y := fun e => hne (cells_ty (e ▸ h1) h2)
theorem own_ne {A : Heap} {x : Nat} {t e : TypeId} {cs : Array Value} {base size : Nat} {s : Sl} {xs : List Value} (h1 : RowT A x t cs) (h2 : Owns A base e size s xs) (hne : t ≠ e) : ¬ ownB s x := fun hb => by
 obtain ⟨cur, h⟩ := h2.obj x hb
 exact hne (cells_ty h1 h)
theorem own_own {A : Heap} {e e' : TypeId} {b1 b2 n1 n2 : Nat} {s s' : Sl} {xs ys : List Value} (h1 : Owns A b1 e n1 s xs) (h2 : Owns A b2 e' n2 s' ys) (hne : e ≠ e') : ∀ b, ownB s b → ¬ ownB s' b := fun b hb hb' => by
 obtain ⟨c1, g1⟩ := h1.obj b hb
 obtain ⟨c2, g2⟩ := h2.obj b hb'
 exact hne (cells_ty g1 g2)
theorem nilOwn (b : Nat) : ¬ ownB (Sl.mk none 0 0) b := fun u => by obtain ⟨ad, h, _⟩ := u; cases h
section
variable {H0 A B : Heap} {F F' : Nat → Prop} {p dp Q U most m j : Nat} {s s' : Pl} {M M' : Files} {f : HFile} {W : Int} {fs : Sl} {bl : List Nat} {cs0 : Array Value}
def madeF (f : HFile) : HFile := { f with made := true }
set_option maxHeartbeats 2000000 in
set_option maxRecDepth 10000 in
theorem out_ok [Tab] {K : Int → Heap → Prop} {ns : List ByteArray} (hP : PoolM H0 A F p dp s M Q U most m) (hg : Gl H0) (hQ : Q ≤ 1048576) (hU : U < Q) (hm : m < 30000000000) (jo : RowT A j Yaq cs0) (h0 : cs0[0]? = some (.pointer (at0 p))) (h12 : cs0[12]? = some fs.v) (hj0 : H0.size ≤ j)
  (fsl : Owns A 0 Yal 1 fs (bl.map ptrV)) (hbl : bl.length ≤ 1000) (ff : HFileAt A W f) (st : Stored M f) (hpd : f.pd ≠ []) (hlen : (hB f.pd).length ≤ 504) (hcs : f.cs.length ≤ 1000000) (hnm : named f.name = true) (hsn : f.name.size ≤ 9223372036854775807) (hns : ∀ a y, M a = some y → a ∈ ns) (hnl : ns.length < 4096)
  (off : ∀ b, OutX j fs f b → H0.size ≤ b ∧ ¬ F b)
  (hK : ∀ F' s' M' fs' B, PoolM H0 B F' p dp s' M' Q (U + 1) most (m + 1) → RowT B j Yaq (cs0.setIfInBounds 12 fs'.v) → Owns B 0 Yal 1 fs' ((bl ++ if f.made then [] else [f.blk]).map ptrV) → HFileAt B W (outF f) → Stored M' (outF f) → (∀ a, a ≠ f.name → M' a = M a) → Step (fun b => F b ∨ OutX j fs f b) (fun b => F' b ∨ OutX j fs' (outF f) b) A B → (∀ b, OutX j fs' (outF f) b → H0.size ≤ b ∧ ¬ F' b) → K 0 B) : Zcy.sp (at0 j) (at0 f.blk) A K := by
 have jf : j ≠ f.blk := rowNe jo ff.row (by decide)
 have hjs := (Array.getElem?_eq_some_iff.1 h12).1
 refine Zcy.of ?_
 unfold Zcy.vc
 simp only [optK_eq, at0]
 refine RowT.ld (c := cInt .i64) (i := 6) (x := (f.pd.length : Int)) ff.row rfl ?_
 refine br_f (by
  have : f.pd.length ≠ 0 := fun e => hpd (List.length_eq_zero_iff.1 e)
  refine beq_eq_false_iff_ne.2 ?_
  omega) ?_
 -- the file is made
 refine ⟨fun _ B => ∃ F1 s1 M1 x1 fs1, PoolM H0 B F1 p dp s1 M1 Q U most m ∧ RowT B j Yaq (cs0.setIfInBounds 12 fs1.v) ∧ Owns B 0 Yal 1 fs1 ((bl ++ if f.made then [] else [f.blk]).map ptrV) ∧ HFileAt B W (madeF f) ∧ (M1 f.name = some x1 ∧ Pgs x1 f.cs) ∧ (∀ a, a ≠ f.name → M1 a = M a) ∧ Step (fun b => F b ∨ OutX j fs f b) (fun b => F1 b ∨ OutX j fs1 (madeF f) b) A B ∧ ∀ b, OutX j fs1 (madeF f) b → H0.size ≤ b ∧ ¬ F1 b, ?_, ?_⟩
 ·refine RowT.ld (c := cBool) (i := 1) (x := f.made) ff.row rfl ?_
  cases hmd : f.made with
  | true =>
    obtain ⟨x1, e1, e2⟩ := st.made hmd
    have ef : madeF f = f := by
     cases f; simp only at hmd; subst hmd; rfl
    refine br_f rfl ⟨F, s, M, x1, fs, hP, by rw [set_same h12]; exact jo, by simpa using fsl, by rw [ef]; exact ff, ⟨e1, e2⟩, fun _ _ => rfl, by rw [ef]; exact .refl _ _, by rw [ef]; exact off⟩
  | false =>
    obtain ⟨e1, e2⟩ := st.none hmd
    refine br_t rfl ?_
    refine ⟨fun D => D = A, rfl, ?_⟩
    refine RowT.ld (c := cPtr) (i := 0) (x := at0 p) jo h0 ?_
    refine PDisk_ok hP.pool ⟨rfl, ?_⟩
    refine RowT.ldC (c := cStr) (i := 0) (x := f.name) (cs := fun _ => fileV W f) (fun D hD => hD ▸ ff.row) (fun _ _ => rfl) ?_
    refine hP.createM hg hnm e1 hns hnl fun F1 s1 B1 P1 S1 => ?_
    refine br_f rfl ?_
    have oF : ∀ b, OutX j fs f b → ¬ F b := fun b u => (off b u).2
    have rowf := ff.row.mod S1.mod (oF _ (.inr (.inl rfl)))
    refine RowT.st (i := 1) rowf (by simp [fileV]) rfl fun B2 r2 m2 z2 => ?_
    have jo2 := (jo.mod S1.mod (oF _ (.inl rfl))).mod m2 jf
    refine RowT.ld (c := cSl) (i := 12) (x := fs) jo2 h12 ?_
    have fs1 : Owns B1 0 Yal 1 fs (bl.map ptrV) := fsl.mod S1.mod fun b hb u => oF b (.inr (.inr (.inl hb))) u
    have fs2 : Owns B2 0 Yal 1 fs (bl.map ptrV) := fs1.mod m2 fun b hb u => own_ne rowf fs1 (by decide) (u ▸ hb)
    have hfn : fs.n = bl.length := by have := fsl.1; simp at this; omega
    refine elFile.push (base := 0) (v := ptrV f.blk) fs2 rfl (by omega) (by omega) (Nat.zero_le _) fun fs3 B3 n3 o3 m3 b3 _ => ?_
    have jo3 := jo2.mod m3 (own_ne jo2 fs2 (by decide))
    have z1 := S1.mod.size
    have z3 := m3.size
    refine RowT.st (i := 12) jo3 hjs (by cases fs3; rfl) fun B4 r4 m4 z4 => ?_
    have wait1 : SlE EB YaL B1 f.wait (hB f.pd) := Owns.mod ff.wait S1.mod fun b hb u => oF b (.inr (.inr (.inr hb))) u
    have wait2 : SlE EB YaL B2 f.wait (hB f.pd) := Owns.mod wait1 m2 fun b hb u => own_ne rowf wait1 (by decide) (u ▸ hb)
    have wait3 : SlE EB YaL B3 f.wait (hB f.pd) := Owns.mod wait2 m3 fun b hb u => own_own wait2 fs2 (by decide) b hb u
    have wait4 : SlE EB YaL B4 f.wait (hB f.pd) := Owns.mod wait3 m4 fun b hb u => own_ne jo3 wait3 (by decide) (u ▸ hb)
    have r2 : RowT B2 f.blk Yaz (fileV W (madeF f)) := r2
    have r3 := r2.mod m3 (own_ne r2 fs2 (by decide))
    have ff4 : HFileAt B4 W (madeF f) := ⟨r3.mod m4 (Ne.symm jf), wait4⟩
    have o4 : Owns B4 0 Yal 1 fs3 (bl.map ptrV ++ [ptrV f.blk]) := o3.mod m4 fun b hb u => own_ne jo3 o3 (by decide) (u ▸ hb)
    have mAll : Mod (fun b => b = f.blk ∨ ownB fs b ∨ b = j) B1 B4 := ((m2.mono fun b _ u => .inl u).trans (m3.mono fun b _ u => .inr (.inl u))).trans (m4.mono fun b _ u => .inr (.inr u))
    have offF1 : ∀ b, OutX j fs f b → ¬ F1 b := fun b u v => (S1.own b v).elim (oF b u) fun w => by
     have hb : b < A.size := by
      rcases u with u | u | u | u
      ·rw [u]; exact obj_lt jo
      ·rw [u]; exact obj_lt ff.row
      ·exact (fsl.block b u).2
      ·exact (Owns.block ff.wait b u).2
     omega
    have P4 : PoolM H0 B4 F1 p dp s1 (setF M f.name (some ⟨0, fun _ => (0, [])⟩)) Q U most m := P1.aside ⟨Nat.le_trans P1.ext.size mAll.size, fun b hb _ => (mAll.same b (Nat.lt_of_lt_of_le hb P1.ext.size) fun u => by
      have : H0.size ≤ b := by
       rcases u with u | u | u
       ·exact (off b (.inr (.inl u))).1
       ·exact (off b (.inr (.inr (.inl u)))).1
       ·exact (off b (.inl u)).1
      omega).trans (P1.ext.same b hb id)⟩ fun b hb => mAll.same b (P1.pool.lt b hb) fun u => by
      rcases u with u | u | u
      ·exact offF1 b (.inr (.inl u)) hb
      ·exact offF1 b (.inr (.inr (.inl u))) hb
      ·exact offF1 b (.inl u) hb
    refine ⟨F1, s1, _, _, fs3, P4, r4, by rw [if_neg (by simp), List.map_append]; exact o4, ff4, ⟨setF_same _ _ _, by rw [e2]; exact ⟨rfl, fun k hk => by simp at hk⟩⟩, fun a ha => setF_other ha, ⟨?_, fun b u => ?_⟩, fun b u => ?_⟩
    ·exact (S1.mod.mono fun b _ u => .inl u).trans (mAll.mono fun b _ u => .inr (by
      rcases u with u | u | u
      ·exact .inr (.inl u)
      ·exact .inr (.inr (.inl u))
      ·exact .inl u))
    ·rcases u with u | u | u | u | u
     ·exact (S1.own b u).imp .inl id
     ·exact .inl (.inr (.inl u))
     ·exact .inl (.inr (.inr (.inl u)))
     ·rcases b3 b u with v | v
      ·exact .inl (.inr (.inr (.inr (.inl v))))
      ·exact .inr (by omega)
     ·exact .inl (.inr (.inr (.inr (.inr u))))
    ·have hz := hP.ext.size
     rcases u with u | u | u | u
     ·exact ⟨(off b (.inl u)).1, offF1 b (.inl u)⟩
     ·exact ⟨(off b (.inr (.inl u))).1, offF1 b (.inr (.inl u))⟩
     ·rcases b3 b u with v | v
      ·exact ⟨(off b (.inr (.inr (.inl v)))).1, offF1 b (.inr (.inr (.inl v)))⟩
      ·refine ⟨by omega, fun w => ?_⟩
       have := P1.pool.lt b w
       omega
     ·exact ⟨(off b (.inr (.inr (.inr u)))).1, offF1 b (.inr (.inr (.inr u)))⟩
 ·rintro _ B1 ⟨F1, s1, M1, x1, fs1, P1, jo1, fsl1, ff1, ⟨hM1, pg1⟩, oth1, S1, off1⟩
  have h0' : (cs0.setIfInBounds 12 fs1.v)[0]? = some (.pointer (at0 p)) := by rw [Array.getElem?_setIfInBounds_ne (by decide)]; exact h0
  obtain ⟨a1, a2, a3, lfit, llogs, lnext, aI⟩ := P1.more_at hM1 hU hQ hsn hm (kd := 1) (b := hB f.pd) hlen (by decide)
  have lo1 := P1.lo
  have oF1 : ∀ b, OutX j fs1 (madeF f) b → ¬ F1 b := fun b u => (off1 b u).2
  have ltX : ∀ b, OutX j fs1 (madeF f) b → b < B1.size := fun b u => by
   rcases u with u | u | u | u
   ·rw [u]; exact obj_lt jo1
   ·rw [u]; exact obj_lt ff1.row
   ·exact (fsl1.block b u).2
   ·exact (Owns.block ff1.wait b u).2
  refine RowT.ld (c := cPtr) (i := 0) (x := at0 p) jo1 h0' ?_
  refine RowT.ld (c := cStr) (i := 0) (x := f.name) ff1.row rfl ?_
  refine Fresh_ok (P1.gl hg) P1.pool hsn (by omega) (by omega) lfit fun F2 B2 p2 S2 => ?_
  have hg2 : Gl B2 := (P1.gl hg).mod S2.mod P1.pool.glob
  have jo2 := jo1.mod S2.mod (oF1 _ (.inl rfl))
  have row2 := ff1.row.mod S2.mod (oF1 _ (.inr (.inl rfl)))
  have wait2 : SlE EB YaL B2 f.wait (hB f.pd) := Owns.mod ff1.wait S2.mod fun b hb u => oF1 b (.inr (.inr (.inr hb))) u
  have oF2 : ∀ b, OutX j fs1 (madeF f) b → ¬ F2 b := fun b u v => (S2.own b v).elim (oF1 b u) fun w => by have := ltX b u; omega
  refine ⟨fun z C => z = 0 ∧ ∃ F3, PoolAt F3 C p dp ((s1.fresh f.name).1.set (s1.fresh f.name).2.1 1 (hB f.pd)).1 ∧ Step F2 F3 B2 C, ?_, ?_⟩
  ·refine br_t (by show ((s1.fresh f.name).2.2.2 == 0) = true; rw [a1]; rfl) ?_
   refine RowT.ld (c := cPtr) (i := 0) (x := at0 p) jo2 h0' ?_
   refine RowT.ld (c := cSl) (i := 5) (x := f.wait) row2 rfl ?_
   refine Put_ok (kd := 1) hg2 p2 (SlB_byts wait2) fun F3 B3 p3 S3 => ?_
   exact ⟨a2, F3, p3, S3⟩
  ·rintro z B3 ⟨rfl, F3, p3, S3⟩
   have hg3 : Gl B3 := hg2.mod S3.mod p2.glob
   have hn3 : ((s1.fresh f.name).1.set (s1.fresh f.name).2.1 1 (hB f.pd)).1.next = (s1.fresh f.name).1.next := Pl.set_next _ _ _ _
   have hn2 : (s1.fresh f.name).1.next ≤ s1.next + 1 := s1.fresh_next lo1 lnext
   have jo3 := jo2.mod S3.mod (oF2 _ (.inl rfl))
   refine br_t rfl ?_
   refine RowT.ld (c := cPtr) (i := 0) (x := at0 p) jo3 h0' ?_
   refine Unpin_ok hg3 p3 (by omega) fun F4 B4 p4 S4 => ?_
   rw [a3]
   have S14 : Step F1 F4 B1 B4 := (S2.trans S3).trans S4
   have hp4 := P1.goes aI p4 S14 P1.old (fun b hb => hb)
   have hN := P1.calm.told.N_le hM1
   have eU : (⟨x1.N + 1, setT x1.T x1.N (1, hB f.pd)⟩ : St).N + (U - x1.N) = U + 1 := by show x1.N + 1 + (U - x1.N) = U + 1; omega
   rw [eU] at hp4
   have oF4 : ∀ b, OutX j fs1 (madeF f) b → ¬ F4 b := fun b u v => (S14.own b v).elim (oF1 b u) fun w => by have := ltX b u; omega
   have row4 := ff1.row.mod S14.mod (oF1 _ (.inr (.inl rfl)))
   have jo4 := jo1.mod S14.mod (oF1 _ (.inl rfl))
   have fs4 : Owns B4 0 Yal 1 fs1 ((bl ++ if f.made then [] else [f.blk]).map ptrV) := fsl1.mod S14.mod fun b hb u => oF1 b (.inr (.inr (.inl hb))) u
   refine RowT.st (i := 5) row4 (by simp [fileV]) rfl fun C1 r1 m1 z1 => ?_
   refine RowT.st (i := 6) r1 (by simp [fileV]) rfl fun C2 r2 m2 z2 => ?_
   refine RowT.ld (c := cInt .i64) (i := 4) (x := (f.cs.length : Int)) r2 rfl ?_
   rw [succ64 f.cs.length (by omega)]
   refine RowT.st (i := 4) r2 (by simp [fileV]) rfl fun C3 r3 m3 z3 => ?_
   have m13 : Mod (fun b => b = f.blk) B4 C3 := (m1.trans m2).trans m3
   have erow : (outF f).rows.length = f.rows.length := by
    unfold HFile.rows outF
    simp [List.flatten_append]
   have r3 : RowT C3 f.blk Yaz (fileV W (outF f)) := by
    have e : fileV W (outF f) = #[.string f.name, .bool true, .int .i64 W, .int .i64 (f.rows.length : Int), .int .i64 ((f.cs.length + 1 : Nat) : Int), .slice none 0 0, .int .i64 0] := by
     unfold fileV
     rw [erow]
     simp [outF, Sl.v]
    rw [e]
    exact r3
   have P3 : PoolM H0 C3 F4 p dp _ (setF M1 f.name (some ⟨x1.N + 1, setT x1.T x1.N (1, hB f.pd)⟩)) Q (U + 1) most (m + 1) := hp4.aside ⟨Nat.le_trans hp4.ext.size m13.size, fun b hb _ => (m13.same b (Nat.lt_of_lt_of_le hb hp4.ext.size) fun u => by
     have := (off1 f.blk (.inr (.inl rfl))).1
     omega).trans (hp4.ext.same b hb id)⟩ fun b hb => m13.same b (hp4.pool.lt b hb) fun u => oF4 f.blk (.inr (.inl rfl)) (u ▸ hb)
   have sub : ∀ b, OutX j fs1 (outF f) b → OutX j fs1 (madeF f) b := fun b u => by
    rcases u with u | u | u | u
    ·exact .inl u
    ·exact .inr (.inl u)
    ·exact .inr (.inr (.inl u))
    ·exact absurd u (nilOwn b)
   refine hK F4 _ _ fs1 C3 P3 (jo4.mod m13 jf) (fs4.mod m13 fun b hb u => own_ne row4 fs4 (by decide) (u ▸ hb)) ⟨r3, SlE.nil _ _ _⟩ ⟨fun _ => ⟨_, setF_same _ _ _, pg1.more f.pd⟩, fun u => by cases u⟩ (fun a ha => (setF_other ha).trans (oth1 a ha)) ?_ fun b u => ⟨(off1 b (sub b u)).1, oF4 b (sub b u)⟩
   refine S1.trans ⟨(S14.mod.mono fun b _ u => .inl u).trans (m13.mono fun b _ u => .inr (.inr (.inl u))), fun b u => ?_⟩
   rcases u with u | u
   ·exact (S14.own b u).imp .inl id
   ·exact .inl (.inr (sub b u))
end
theorem bytes_pg {l : List Int} : pgV (bytesI (putL l)) = (putL l).map (Value.int .u8) := by
 rw [← u8i_vals, u8i_bytesI (putL_range l)]
theorem hB_snoc (L : List (List Int)) (l : List Int) : EB.all (hB (L ++ [l])) = EB.all (hB L) ++ (putL l).map (Value.int .u8) := by
 rw [EB_all, EB_all, ← bytes_pg]
 unfold hB pgV
 rw [List.flatMap_append, List.map_append]
 congr 2
 simp
theorem hB_len {L : List (List Int)} {W : Nat} (hW : W ≤ 16) (h : ∀ l ∈ L, l.length = W) : (hB L).length = L.length * (sizeL W).toNat := by
 induction L with
 | nil => simp [hB]
 | cons l L ih =>
   have e : hB (l :: L) = bytesI (putL l) ++ hB L := rfl
   rw [e, List.length_append, ih fun x hx => h x (List.mem_cons_of_mem _ hx)]
   have : (bytesI (putL l)).length = (putL l).length := by unfold bytesI; rw [List.length_map]
   rw [this, (put_len (h l List.mem_cons_self) hW).1, List.length_cons, Nat.succ_mul]
   omega
structure FOK (rm W : Nat) (f : HFile) : Prop where
 pd : f.pd.length < rm
 cs : ∀ c ∈ f.cs, c ≠ [] ∧ c.length ≤ rm
 rows : ∀ l ∈ f.rows, l.length = W ∧ fitsL l
def filesL (bl : List Nat) (f f' : HFile) : List Nat := bl ++ if f'.made && !f.made then [f.blk] else []
section
variable {H0 A B : Heap} {F F' : Nat → Prop} {p dp Q U most m j rm W : Nat} {s s' : Pl} {M M' : Files} {f : HFile} {fs : Sl} {bl : List Nat} {cs0 : Array Value} {l : Sl} {ll : List Int}
def waitF (f : HFile) (ll : List Int) (w : Sl) : HFile := { f with pd := f.pd ++ [ll], wait := w }
theorem waitF_rows (f : HFile) (ll : List Int) (w : Sl) : (waitF f ll w).rows = f.rows ++ [ll] := (List.append_assoc ..).symm
theorem outF_rows (f : HFile) : (outF f).rows = f.rows := by
 unfold HFile.rows outF
 simp [List.flatten_append]
theorem FOK.len [Tab] (h : FOK rm W f) : f.cs.length ≤ f.rows.length := by
 have : ∀ cs : List (List (List Int)), (∀ c ∈ cs, c ≠ []) → cs.length ≤ cs.flatten.length := by
  intro cs hc
  induction cs with
  | nil => exact Nat.zero_le _
  | cons c cs ih =>
    rw [List.flatten_cons, List.length_append, List.length_cons]
    have := ih fun x hx => hc x (List.mem_cons_of_mem _ hx)
    have : 0 < c.length := List.length_pos_iff.2 (hc c List.mem_cons_self)
    omega
 have h1 := this f.cs fun c hc => (h.cs c hc).1
 unfold HFile.rows
 rw [List.length_append]
 omega
set_option maxHeartbeats 2000000 in
set_option maxRecDepth 10000 in
theorem add_ok [Tab] {K : Int → Heap → Prop} {ns : List ByteArray} (hP : PoolM H0 A F p dp s M Q U most m) (hg : Gl H0) (hQ : Q ≤ 1048576) (hU : U < Q) (hm : m < 30000000000) (jo : RowT A j Yaq cs0) (h0 : cs0[0]? = some (.pointer (at0 p))) (h12 : cs0[12]? = some fs.v) (hj0 : H0.size ≤ j)
  (fsl : Owns A 0 Yal 1 fs (bl.map ptrV)) (hbl : bl.length ≤ 1000) (ff : HFileAt A W f) (st : Stored M f) (ok : FOK rm W f) (hW : W ≤ 16) (hrm : roomL W = (rm : Int)) (hsz : rm * (sizeL W).toNat ≤ 504) (hrm0 : rm ≤ 1000) (hrows : f.rows.length ≤ 100000) (hnm : named f.name = true) (hsn : f.name.size ≤ 9223372036854775807) (hns : ∀ a y, M a = some y → a ∈ ns) (hnl : ns.length < 4096)
  (hl : Ints .u64 A l ll) (hll : ll.length = W ∧ fitsL ll) (off : ∀ b, OutX j fs f b → H0.size ≤ b ∧ ¬ F b)
  (hK : ∀ F' s' M' U' fs' f' B, PoolM H0 B F' p dp s' M' Q U' most (m + 1) → U' ≤ U + 1 → RowT B j Yaq (cs0.setIfInBounds 12 fs'.v) → Owns B 0 Yal 1 fs' ((filesL bl f f').map ptrV) → HFileAt B W f' → Stored M' f' → FOK rm W f' → (f'.blk = f.blk ∧ f'.name = f.name ∧ f'.rows = f.rows ++ [ll] ∧ (f.made = true → f'.made = true)) → (∀ a, a ≠ f.name → M' a = M a) → Step (fun b => F b ∨ OutX j fs f b) (fun b => F' b ∨ OutX j fs' f' b) A B → (∀ b, OutX j fs' f' b → H0.size ≤ b ∧ ¬ F' b) → K 0 B) : Zcr.sp (at0 j) (at0 f.blk) l A K := by
 have jf : j ≠ f.blk := rowNe jo ff.row (by decide)
 have hln := hl.len
 refine Zcr.of ?_
 unfold Zcr.vc
 simp only [optK_eq, at0]
 refine ⟨fun D => Ext A D, .refl _ _, ?_⟩
 refine RowT.ldC (c := cSl) (i := 5) (x := f.wait) (cs := fun _ => fileV W f) (fun D hD => ff.row.ext hD) (fun _ _ => rfl) ?_
 refine rowPut_ok hl (by omega) fun r A1 o1 e1 => ⟨e1, ?_⟩
 have w1 : Owns A1 0 YaL 1 f.wait (EB.all (hB f.pd)) := (show Owns A 0 YaL 1 f.wait (EB.all (hB f.pd)) from ff.wait).ext e1
 have hpl := (put_len (l := ll) hll.1 hW).1
 have hs0 := sizeL_cases W
 have hwl := hB_len (L := f.pd) hW fun x hx => (ok.rows x (List.mem_append.2 (.inr hx))).1
 have hpd := ok.pd
 have rn : r.n = (putL ll).length := by have := o1.1; simp at this; omega
 have wn : f.wait.n = (hB f.pd).length := by have := w1.1; rw [EB_all] at this; unfold pgV at this; simp at this; omega
 have hmul : f.pd.length * (sizeL W).toNat ≤ rm * (sizeL W).toNat := Nat.mul_le_mul_right _ (by omega)
 refine elU8.append (base := 0) w1 (by rw [List.length_map]; omega) o1.reads (intsOne _ _) (by omega) (by omega) (Nat.zero_le _) fun w2 A2 n2 o2 m2 b2 _ => ?_
 rw [← hB_snoc] at o2
 have row2 := (ff.row.ext e1).mod m2 (own_ne (ff.row.ext e1) w1 (by decide))
 refine RowT.st (i := 5) row2 (by simp [fileV]) (by cases w2; rfl) fun A3 r3 m3 z3 => ?_
 refine RowT.ld (c := cInt .i64) (i := 3) (x := (f.rows.length : Int)) r3 rfl ?_
 rw [succ64 f.rows.length (by omega)]
 refine RowT.st (i := 3) r3 (by simp [fileV]) rfl fun A4 r4 m4 z4 => ?_
 refine RowT.ld (c := cInt .i64) (i := 6) (x := (f.pd.length : Int)) r4 rfl ?_
 rw [succ64 f.pd.length (by omega)]
 refine RowT.st (i := 6) r4 (by simp [fileV]) rfl fun A5 r5 m5 z5 => ?_
 have m25 : Mod (fun b => b = f.blk) A2 A5 := (m3.trans m4).trans m5
 have r5 : RowT A5 f.blk Yaz (fileV W (waitF f ll w2)) := by
  have e : fileV W (waitF f ll w2) = #[.string f.name, .bool f.made, .int .i64 W, .int .i64 ((f.rows.length + 1 : Nat) : Int), .int .i64 (f.cs.length : Int), w2.v, .int .i64 ((f.pd.length + 1 : Nat) : Int)] := by
   unfold fileV
   rw [waitF_rows]
   simp [waitF]
  rw [e]
  exact r5
 have o5 : SlE EB YaL A5 w2 (hB (f.pd ++ [ll])) := Owns.mod o2 m25 fun b hb u => own_ne row2 o2 (by decide) (u ▸ hb)
 have ff5 : HFileAt A5 W (waitF f ll w2) := ⟨r5, o5⟩
 have z1 := e1.size
 have z2 := m2.size
 have oF : ∀ b, OutX j fs f b → ¬ F b := fun b u => (off b u).2
 have mAll : Mod (fun b => b = f.blk ∨ ownB f.wait b) A A5 := ((Ext.mod e1).trans (m2.mono fun b _ u => .inr u)).trans (m25.mono fun b _ u => .inl u)
 have P5 : PoolM H0 A5 F p dp s M Q U most m := hP.aside ⟨Nat.le_trans hP.ext.size mAll.size, fun b hb _ => (mAll.same b (Nat.lt_of_lt_of_le hb hP.ext.size) fun u => by
   have : H0.size ≤ b := by
    rcases u with u | u
    ·exact (off b (.inr (.inl u))).1
    ·exact (off b (.inr (.inr (.inr u)))).1
   omega).trans (hP.ext.same b hb id)⟩ fun b hb => mAll.same b (hP.pool.lt b hb) fun u => by
   rcases u with u | u
   ·exact oF b (.inr (.inl u)) hb
   ·exact oF b (.inr (.inr (.inr u))) hb
 have wty : ∀ b, ownB f.wait b → ∃ cur, A[b]? = some (.cells cur YaL (0, 0)) := fun b hb => Owns.obj (show Owns A 0 YaL 1 f.wait (EB.all (hB f.pd)) from ff.wait) b hb
 have jo5 := jo.mod mAll fun u => u.elim jf fun v => own_ne jo (show Owns A 0 YaL 1 f.wait (EB.all (hB f.pd)) from ff.wait) (by decide) v
 have fs5 : Owns A5 0 Yal 1 fs (bl.map ptrV) := fsl.mod mAll fun b hb u => u.elim (fun v => own_ne ff.row fsl (by decide) (v ▸ hb)) fun v => own_own fsl (show Owns A 0 YaL 1 f.wait (EB.all (hB f.pd)) from ff.wait) (by decide) b hb v
 have S5 : Step (fun b => F b ∨ OutX j fs f b) (fun b => F b ∨ OutX j fs (waitF f ll w2) b) A A5 := ⟨mAll.mono fun b _ u => .inr (u.elim (fun v => .inr (.inl v)) fun v => .inr (.inr (.inr v))), fun b u => by
  rcases u with u | u | u | u | u
  ·exact .inl (.inl u)
  ·exact .inl (.inr (.inl u))
  ·exact .inl (.inr (.inr (.inl u)))
  ·exact .inl (.inr (.inr (.inr (.inl u))))
  ·rcases b2 b u with v | v
   ·exact .inl (.inr (.inr (.inr (.inr v))))
   ·exact .inr (by omega)⟩
 have off5 : ∀ b, OutX j fs (waitF f ll w2) b → H0.size ≤ b ∧ ¬ F b := fun b u => by
  rcases u with u | u | u | u
  ·exact off b (.inl u)
  ·exact off b (.inr (.inl u))
  ·exact off b (.inr (.inr (.inl u)))
  ·rcases b2 b u with v | v
   ·exact off b (.inr (.inr (.inr v)))
   ·have := hP.ext.size
    exact ⟨by omega, fun w => by have := hP.pool.lt b w; omega⟩
 have rows5 : ∀ x ∈ (waitF f ll w2).rows, x.length = W ∧ fitsL x := fun x hx => by
  rw [waitF_rows] at hx
  rcases List.mem_append.1 hx with u | u
  ·exact ok.rows x u
  ·rw [List.mem_singleton.1 u]; exact hll
 refine ⟨fun D => D = A5, rfl, ?_⟩
 refine RowT.ldC (c := cInt .i64) (i := 6) (x := ((f.pd.length + 1 : Nat) : Int)) (cs := fun _ => fileV W (waitF f ll w2)) (fun D hD => hD ▸ r5) (fun _ _ => by simp [fileV, waitF]) ?_
 refine RowT.ld (c := cInt .i64) (i := 2) (x := (W : Int)) r5 rfl ?_
 refine rowRoom_ok ⟨rfl, ?_⟩
 rw [hrm]
 refine br_mk (fun hc => ?_) (fun hc => ?_)
 ·have hc : f.pd.length + 1 < rm := by have := of_decide_eq_true hc; omega
  refine hK F s M U fs (waitF f ll w2) A5 (P5.later (Nat.le_succ m)) (Nat.le_succ U) (by rw [set_same h12]; exact jo5) (by
   have : filesL bl f (waitF f ll w2) = bl := by
    unfold filesL waitF
    cases f.made <;> simp
   rw [this]; exact fs5) ff5 ⟨st.made, st.none⟩ ⟨by show (f.pd ++ [ll]).length < rm; rw [List.length_append]; exact hc, ok.cs, rows5⟩ ⟨rfl, rfl, waitF_rows _ _ _, fun u => u⟩ (fun _ _ => rfl) S5 off5
 ·have hc : ¬ f.pd.length + 1 < rm := fun u => by have := of_decide_eq_false hc; omega
  have hlen5 := hB_len (L := f.pd ++ [ll]) hW fun x hx => (rows5 x (List.mem_append.2 (.inr hx))).1
  have hcl := ok.len
  have hmul2 : (f.pd ++ [ll]).length * (sizeL W).toNat ≤ rm * (sizeL W).toNat := Nat.mul_le_mul_right _ (by rw [List.length_append, List.length_singleton]; omega)
  refine out_ok (f := waitF f ll w2) P5 hg hQ hU hm jo5 h0 h12 hj0 fs5 hbl ff5 ⟨st.made, st.none⟩ (by show f.pd ++ [ll] ≠ []; simp) (by show (hB (f.pd ++ [ll])).length ≤ 504; omega) (by show f.cs.length ≤ 1000000; omega) hnm hsn hns hnl off5 fun F' s' M' fs' B P' jo' fsl' ff' st' oth' S' off' => ?_
  refine hK F' s' M' (U + 1) fs' (outF (waitF f ll w2)) B P' (Nat.le_refl _) jo' (by
   have : filesL bl f (outF (waitF f ll w2)) = bl ++ if (waitF f ll w2).made then [] else [(waitF f ll w2).blk] := by
    unfold filesL waitF outF
    cases f.made <;> simp
   rw [this]; exact fsl') ff' st' ⟨by show 0 < rm; omega, fun c hc' => ?_, fun x hx => rows5 x (by rw [outF_rows] at hx; exact hx)⟩ ⟨rfl, rfl, by rw [outF_rows, waitF_rows], fun _ => rfl⟩ oth' (S5.trans S') off'
  rcases List.mem_append.1 (show c ∈ f.cs ++ [f.pd ++ [ll]] from hc') with u | u
  ·exact ok.cs c u
  ·rw [List.mem_singleton.1 u]
   exact ⟨by simp, by rw [List.length_append, List.length_singleton]; omega⟩
end
def digB : ByteArray := ByteArray.mk #[48, 49, 50, 51, 52, 53, 54, 55, 56, 57, 97, 98, 99, 100, 101, 102, 103, 104, 105, 106, 107, 108, 109, 110, 111, 112, 113, 114, 115, 116, 117, 118, 119, 120, 121, 122]
def smB : ByteArray := ByteArray.mk #[48, 48, 48, 49, 48, 50, 48, 51, 48, 52, 48, 53, 48, 54, 48, 55, 48, 56, 48, 57, 49, 48, 49, 49, 49, 50, 49, 51, 49, 52, 49, 53, 49, 54, 49, 55, 49, 56, 49, 57, 50, 48, 50, 49, 50, 50, 50, 51, 50, 52, 50, 53, 50, 54, 50, 55, 50, 56, 50, 57, 51, 48, 51, 49, 51, 50, 51, 51, 51, 52, 51, 53, 51, 54, 51, 55, 51, 56, 51, 57, 52, 48, 52, 49, 52, 50, 52, 51, 52, 52, 52, 53, 52, 54, 52, 55, 52, 56, 52, 57, 53, 48, 53, 49, 53, 50, 53, 51, 53, 52, 53, 53, 53, 54, 53, 55, 53, 56, 53, 57, 54, 48, 54, 49, 54, 50, 54, 51, 54, 52, 54, 53, 54, 54, 54, 55, 54, 56, 54, 57, 55, 48, 55, 49, 55, 50, 55, 51, 55, 52, 55, 53, 55, 54, 55, 55, 55, 56, 55, 57, 56, 48, 56, 49, 56, 50, 56, 51, 56, 52, 56, 53, 56, 54, 56, 55, 56, 56, 56, 57, 57, 48, 57, 49, 57, 50, 57, 51, 57, 52, 57, 53, 57, 54, 57, 55, 57, 56, 57, 57]
def itoaB (n : Nat) : ByteArray := if n < 10 then digB.extract n (n + 1) else if n < 100 then smB.extract (2 * n) (2 * n + 2) else if n < 1000 then ByteArray.mk #[UInt8.ofNat (48 + n / 100)] ++ smB.extract (2 * (n % 100)) (2 * (n % 100) + 2) else ByteArray.empty
theorem Itoa_ok {n : Nat} {H : Heap} {K : ByteArray → Heap → Prop} (hn : n < 100) (hK : K (itoaB n) H) : ZcY.sp (n : Int) H K := by
 refine ZcY.of ?_
 unfold ZcY.vc
 refine Zby.of ?_
 unfold Zby.vc
 refine Zbn.of ?_
 unfold Zbn.vc
 refine br_t rfl ?_
 refine br_t (by simp; omega) ?_
 refine Zbx.of ?_
 unfold Zbx.vc
 rw [succ64 n (by omega)]
 have e2 : IntKind.i64.wrap ((n : Int) * 2) = ((2 * n : Nat) : Int) := by rw [wrap64 (by omega) (by omega)]; omega
 rw [e2]
 have e3 : IntKind.i64.wrap (((2 * n : Nat) : Int) + 2) = ((2 * n + 2 : Nat) : Int) := by rw [wrap64 (by omega) (by omega)]; omega
 rw [e3]
 simp only [Int.toNat_natCast]
 unfold itoaB at hK
 refine br_mk (fun hc => ?_) (fun hc => ?_)
 ·have h1 : n < 10 := by have : (n : Int) < 10 := of_decide_eq_true hc
                         omega
  rw [if_pos h1] at hK
  have hs : digB.size = 36 := by decide
  refine ⟨⟨by omega, ?_⟩, ⟨by omega, by omega⟩, hK⟩
  show ((n + 1 : Nat) : Int) ≤ ((digB.size : Nat) : Int)
  omega
 ·have h1 : ¬ n < 10 := by have : ¬ (n : Int) < 10 := of_decide_eq_false hc
                           omega
  rw [if_neg h1, if_pos hn] at hK
  have hs : smB.size = 200 := by decide +kernel
  refine ⟨⟨by omega, ?_⟩, ⟨by omega, by omega⟩, hK⟩
  show ((2 * n + 2 : Nat) : Int) ≤ ((smB.size : Nat) : Int)
  omega
def valB (l : List UInt8) : Nat := l.foldl (fun a c => 10 * a + (c.toNat - 48)) 0
theorem itoa_most : ∀ n, n < 1000 → valB (itoaB n).toList = n ∧ (itoaB n).size ≤ 3 := by decide +kernel
theorem itoa_some : ∀ n, n < 1000 → itoaB n ≠ ByteArray.empty := by decide +kernel
end Go.Proofs.YtkehfflpbpdokaaGreat
namespace Go.Proofs.YtkehfflpbpdokaaGreat
def nmR (name : ByteArray) (j : Nat) : ByteArray := (name ++ ByteArray.mk #[46]) ++ itoaB j
theorem nmR_inj {name : ByteArray} {i j : Nat} (hi : i < 1000) (hj : j < 1000) (h : nmR name i = nmR name j) : i = j := by
 have e : itoaB i = itoaB j := by
  have h1 := congrArg (fun b => b.toList) h
  unfold nmR at h1
  simp only [ByteArray.toList_eq, ByteArray.data_append, Array.toList_append] at h1
  have h2 := List.append_cancel_left h1
  exact ByteArray.ext (Array.toList_inj.1 h2)
 rw [← (itoa_most i hi).1, ← (itoa_most j hj).1, e]
theorem nmR_far {name : ByteArray} {i j : Nat} (hi : i < 1000) (hj : ¬ j < 1000) : nmR name j ≠ nmR name i := by
 intro h
 have e : itoaB j = itoaB i := by
  have h1 := congrArg (fun b => b.toList) h
  unfold nmR at h1
  simp only [ByteArray.toList_eq, ByteArray.data_append, Array.toList_append] at h1
  have h2 := List.append_cancel_left h1
  exact ByteArray.ext (Array.toList_inj.1 h2)
 have e2 : itoaB j = ByteArray.empty := by
  unfold itoaB
  rw [if_neg (by omega), if_neg (by omega), if_neg (by omega)]
 have := (itoa_most i hi).1
 have h0 := itoa_some i hi
 rw [← e, e2] at h0
 exact h0 rfl
theorem nmR_ne {name : ByteArray} {i j : Nat} (hi : i < 1000) (h : j ≠ i) : nmR name j ≠ nmR name i := fun e => by
 by_cases q : j < 1000
 ·exact h (nmR_inj q hi e)
 ·exact nmR_far hi q e
theorem nmR_size {name : ByteArray} {j : Nat} (hj : j < 1000) : (nmR name j).size ≤ name.size + 4 ∧ name.size + 1 ≤ (nmR name j).size := by
 have := (itoa_most j hj).2
 unfold nmR
 rw [ByteArray.size_append, ByteArray.size_append]
 have : (ByteArray.mk #[46]).size = 1 := rfl
 omega
theorem nmR_named {name : ByteArray} {j : Nat} (hj : j < 1000) (hn : name.size ≤ 90) : named (nmR name j) = true := by
 have := nmR_size (name := name) hj
 unfold named
 simp only [Bool.and_eq_true, decide_eq_true_eq]
 omega
open Go.MapKept
def newF (blk n : Nat) : HFile := ⟨blk, nmR hNm n, false, [], [], Sl.mk none 0 0⟩
section
variable {H0 A B : Heap} {j W n : Nat} {cs0 : Array Value}
theorem file_ok [Tab] {K : Option Addr → Heap → Prop} (jo : RowT A j Yaq cs0) (h1 : cs0[1]? = some (.string hNm)) (h9 : cs0[9]? = some (.int .i64 (n : Int))) (hn : n < 100)
  (hK : ∀ B, RowT B j Yaq (cs0.setIfInBounds 9 (.int .i64 ((n + 1 : Nat) : Int))) → HFileAt B W (newF A.size n) → Mod (fun b => b = j) A B → B.size = A.size + 1 → K (at0 A.size) B) : Zce.sp (at0 j) (W : Int) A K := by
 have hs := (Array.getElem?_eq_some_iff.1 h9).1
 have jl := obj_lt jo
 have sz := nmR_size (name := hNm) (j := n) (by omega)
 have hh : hNm.size = 1 := rfl
 have hd : (ByteArray.mk #[46]).size = 1 := rfl
 have si : (itoaB n).size ≤ 3 := (itoa_most n (by omega)).2
 refine Zce.of ?_
 unfold Zce.vc
 simp only [optK_eq, at0]
 refine ⟨fun D => D = A, rfl, ?_⟩
 refine RowT.ldC (c := cStr) (i := 1) (x := hNm) (cs := fun _ => cs0) (fun D hD => hD ▸ jo) (fun _ _ => h1) ?_
 refine ⟨by omega, ?_⟩
 refine RowT.ld (c := cInt .i64) (i := 9) (x := (n : Int)) jo h9 ?_
 refine Itoa_ok hn ⟨rfl, ?_⟩
 refine ⟨by rw [ByteArray.size_append]; omega, ?_⟩
 refine newC_rowT fun B1 z1 r1 e1 => ?_
 refine RowT.ld (c := cInt .i64) (i := 9) (x := (n : Int)) (jo.ext e1) h9 ?_
 rw [succ64 n (by omega)]
 refine RowT.st (i := 9) (jo.ext e1) hs rfl fun B2 r2 m2 z2 => ?_
 exact hK B2 r2 ⟨r1.mod m2 (by omega), SlE.nil _ _ _⟩ ((Ext.mod e1).trans m2) (by omega)
set_option maxHeartbeats 1000000 in
theorem parts_ok [Tab] {K : Sl → Heap → Prop} (jo : RowT A j Yaq cs0) (h1 : cs0[1]? = some (.string hNm)) (h9 : cs0[9]? = some (.int .i64 (n : Int))) (hn : n < 90) (h8 : cs0[8]? = some (.int .i64 3))
  (hK : ∀ l f0 f1 B, RowT B j Yaq (cs0.setIfInBounds 9 (.int .i64 ((n + 2 : Nat) : Int))) → HFileAt B W (newF f0 n) → HFileAt B W (newF f1 (n + 1)) → f0 ≠ f1 → A.size ≤ f0 → A.size ≤ f1 → Owns B 0 Yal 1 l ([f0, f1].map ptrV) → (∀ b, ownB l b → A.size ≤ b) → Mod (fun b => b = j) A B → K l B) : ZbL.sp (at0 j) (W : Int) A K := by
 have hs := (Array.getElem?_eq_some_iff.1 h9).1
 have jl := obj_lt jo
 refine ZbL.of ?_
 unfold ZbL.vc
 simp only [optK_eq, at0]
 refine RowT.ld (c := cInt .i64) (i := 8) (x := 3) jo h8 ?_
 have w2 : IntKind.i64.wrap ((3 : Int) - 1) = 2 := by decide
 rw [w2]
 refine elFile.make (base := 0) (by decide) (by decide) (by decide) (by decide) (Nat.zero_le _) fun l B1 ln o1 e1 b1 hne => ?_
 have ln : l.n = 2 := ln
 have z1 := e1.size
 have hln : ∀ b, ownB l b → b < B1.size := fun b hb => (o1.block b hb).2
 -- two rounds
 have n8 : ∀ {m : Nat}, (cs0.setIfInBounds 9 (.int .i64 (m : Int)))[1]? = some (.string hNm) := fun {m} => by rw [Array.getElem?_setIfInBounds_ne (by decide)]; exact h1
 have n9 : ∀ {m : Nat}, (cs0.setIfInBounds 9 (.int .i64 (m : Int)))[9]? = some (.int .i64 (m : Int)) := fun {m} => by rw [Array.getElem?_setIfInBounds_self_of_lt hs]
 refine loop_upto 2 (fun i z C => z = (i : Int) ∧ Mod (fun b => b = j ∨ ownB l b) B1 C ∧ RowT C j Yaq (cs0.setIfInBounds 9 (.int .i64 ((n + i : Nat) : Int))) ∧
   ((i = 0 ∧ Owns C 0 Yal 1 l [.pointer none, .pointer none]) ∨ (i = 1 ∧ ∃ f0, HFileAt C W (newF f0 n) ∧ B1.size ≤ f0 ∧ Owns C 0 Yal 1 l [ptrV f0, .pointer none]) ∨
   (i = 2 ∧ ∃ f0 f1, HFileAt C W (newF f0 n) ∧ HFileAt C W (newF f1 (n + 1)) ∧ f0 ≠ f1 ∧ B1.size ≤ f0 ∧ B1.size ≤ f1 ∧ Owns C 0 Yal 1 l [ptrV f0, ptrV f1]))) ⟨rfl, .refl _ _, by rw [Nat.add_zero, set_same h9]; exact jo.ext e1, .inl ⟨rfl, o1⟩⟩ ?_
 rintro i _ C next hi ⟨rfl, mC, joC, hC⟩ hnext
 have zC := mC.size
 rcases hC with ⟨rfl, oC⟩ | ⟨rfl, f0, ff0, hf0, oC⟩ | ⟨rfl, f0, f1, ff0, ff1, h01, hf0, hf1, oC⟩
 ·refine br_t (by rw [ln]; rfl) ?_
  refine file_ok (W := W) (n := n + 0) joC n8 n9 (by omega) fun D joD fD mD zD => ?_
  have oD : Owns D 0 Yal 1 l [.pointer none, .pointer none] := oC.mod mD fun b hb u => own_ne joC oC (by decide) (u ▸ hb)
  refine oD.st (i := ((0 : Nat) : Int)) (v := ptrV C.size) (by decide) (by rw [ln]; decide) rfl fun E oE mE zE => ?_
  have oE : Owns E 0 Yal 1 l [ptrV C.size, .pointer none] := oE
  have nl : ∀ {x : Nat} {t : TypeId} {cs : Array Value}, RowT D x t cs → t ≠ Yal → ¬ ownB l x := fun r hne => own_ne r oD hne
  refine hnext (by decide) _ _ ⟨by decide, (mC.trans (mD.mono fun b _ u => .inl u)).trans (mE.mono fun b _ u => .inr u), ?_, .inr (.inl ⟨rfl, C.size, ⟨fD.row.mod mE (nl fD.row (by decide)), SlE.nil _ _ _⟩, zC, oE⟩)⟩
  rw [set_twice] at joD
  exact joD.mod mE (nl joD (by decide))
 ·refine br_t (by rw [ln]; rfl) ?_
  refine file_ok (W := W) (n := n + 1) joC n8 n9 (by omega) fun D joD fD mD zD => ?_
  have oD : Owns D 0 Yal 1 l [ptrV f0, .pointer none] := oC.mod mD fun b hb u => own_ne joC oC (by decide) (u ▸ hb)
  refine oD.st (i := ((1 : Nat) : Int)) (v := ptrV C.size) (by decide) (by rw [ln]; decide) rfl fun E oE mE zE => ?_
  have oE : Owns E 0 Yal 1 l [ptrV f0, ptrV C.size] := oE
  have nl : ∀ {x : Nat} {t : TypeId} {cs : Array Value}, RowT D x t cs → t ≠ Yal → ¬ ownB l x := fun r hne => own_ne r oD hne
  have f0D := ff0.row.mod mD (Ne.symm (rowNe joC ff0.row (by decide)))
  have hlt := obj_lt ff0.row
  refine hnext (by decide) _ _ ⟨by decide, (mC.trans (mD.mono fun b _ u => .inl u)).trans (mE.mono fun b _ u => .inr u), ?_, .inr (.inr ⟨rfl, f0, C.size, ⟨f0D.mod mE (nl f0D (by decide)), SlE.nil _ _ _⟩, ⟨fD.row.mod mE (nl fD.row (by decide)), SlE.nil _ _ _⟩, by
   have : f0 < C.size := hlt
   omega, hf0, zC, oE⟩)⟩
  rw [set_twice] at joD
  exact joD.mod mE (nl joD (by decide))
 ·refine br_f (by rw [ln]; rfl) ?_
  have mAll : Mod (fun b => b = j) A C := ⟨by omega, fun b hb hne => (mC.same b (by omega) fun u => u.elim hne fun v => by have := b1 b v; omega).trans (e1.same b hb id)⟩
  exact hK l f0 f1 C joC ff0 ff1 h01 (by omega) (by omega) oC b1 mAll
end
end Go.Proofs.YtkehfflpbpdokaaGreat
