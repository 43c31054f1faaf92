/-
 The disk: what it tells of itself; a change; files looked up and made.
-/
import Derived.Test.YtkehfflpbpdokaaGreatDka
namespace Go.Proofs.YtkehfflpbpdokaaGreat
open Go.MapKept
abbrev at0 (d : Nat) : Option Addr := some ⟨d, 0, none⟩
theorem New_ok {q : Int} {H : Heap} {K : Option Addr → Heap → Prop} (hq : q ≤ 9223372036854775807) (hK : ∀ F d H', DiskAt F H' d (dk0 q) → Mod (fun _ => False) H H' → (∀ b, F b → H.size ≤ b) → K (at0 d) H') : Zdp.sp q H K := by
 refine Zdp.of ?_
 unfold Zdp.vc
 refine newM_map (d := .string) fun H1 hs1 m1 e1 => ?_
 refine newC_rowT fun H2 s2 r2 e2 => ?_
 refine hK (fun b => b = H1.size ∨ b = H.size) _ H2 ⟨⟨H.size, #[], 0, []⟩, 0, 0, ⟨?_, ?_, ?_, ?_⟩, ?_⟩ (e1.trans e2) ?_
 ·have : ((if (1048576 : Int) < (if (0 : Int) > q then (0 : Int) else q) then (1048576 : Int) else (if (0 : Int) > q then (0 : Int) else q))) = ((dk0 q).quota : Int) := by
   unfold dk0; simp only; split <;> split <;> omega
  rw [this] at r2
  exact r2
 ·intro i k h; cases h
 ·exact ⟨m1.keep (e2.at m1.obj id |>.trans m1.obj.symm), rfl, rfl, by intro i f g h; simp [dk0] at h, by rintro k v ⟨e, he, _⟩; simp at he, by intro i j g g' h; simp at h⟩
 ·exact ⟨by simp [dk0], by simp [dk0, Dk.used], by simp [dk0], by simp [dk0]; omega, by simp [dk0], by simp [dk0], by intro i k h; cases h⟩
 ·intro b
  constructor
  ·rintro (e | e)
   ·exact .inl e
   ·exact .inr (.inl e)
  ·rintro (e | e | ⟨g, hg, _⟩)
   ·exact .inl e
   ·exact .inr e
   ·simp at hg
 ·rintro b (e | e) <;> omega
theorem DiskG.turn {x : DG} {cin kp cin' kp' : Int} {H H' : Heap} {d : Nat} {s s' : Dk} (h : DiskG x cin kp H d s) (hr : RowT H' d YaE (headC x.m s'.used s'.most s'.quota s'.ops s'.next s'.crash.isSome cin' kp' s'.down))
  (hm : Mod (fun b => b = d) H H') (hf : s'.files = s.files) (hc : crashOk s' cin' kp') (hwf : s'.WF) : DiskG x cin' kp' H' d s' :=
 ⟨hr, hc, by rw [hf]; exact h.files.keep fun b hb hl => hm.same b hl fun e => DiskG.fileTy h.head h.files (e ▸ hb), hwf⟩
theorem Dk.WF.change {s : Dk} (h : s.WF) : s.change.1.WF := by
 unfold Dk.change
 split
 ·rename_i hc
  exact ⟨h.nodup, h.used, h.most, h.quota, h.files, by intro hd; have := h.down hd; rw [hc] at this; simp at this, by intro i k e; rw [hc] at e; cases e⟩
 ·rename_i i k hc
  have hi := h.cin i k hc
  split
  ·exact ⟨h.nodup, h.used, h.most, h.quota, h.files, fun _ => by simp [hc], h.cin⟩
  ·refine ⟨h.nodup, h.used, h.most, h.quota, h.files, fun _ => rfl, fun i' k' e => ?_⟩
   simp only [Option.some.injEq, Prod.mk.injEq] at e
   obtain ⟨rfl, rfl⟩ := e
   unfold w64
   rw [wrap64 (by omega) (by omega)]; omega
theorem Dk.change_files (s : Dk) : s.change.1.files = s.files := by
 unfold Dk.change
 split
 ·rfl
 ·split <;> rfl
theorem Dk.change_keep (s : Dk) : s.change.1.most = s.most ∧ s.change.1.quota = s.quota ∧ s.change.1.next = s.next ∧ s.change.1.used = s.used := by
 unfold Dk.change
 split
 ·exact ⟨rfl, rfl, rfl, rfl⟩
 ·split <;> exact ⟨rfl, rfl, rfl, rfl⟩
theorem change_ok {x : DG} {cin kp : Int} {d : Nat} {s : Dk} {H : Heap} {K : Int → Heap → Prop} (h : DiskG x cin kp H d s)
  (hK : ∀ cin' H', DiskG x cin' kp H' d s.change.1 → Mod (fun b => b = d) H H' → H'.size = H.size → K s.change.2 H') : Zcj.sp (at0 d) H K := by
 refine Zcj.of ?_
 unfold Zcj.vc
 simp only [optK_eq, add_add, Nat.reduceAdd]
 have hwf := h.wf.change
 have hfi := s.change_files
 have hup : ∀ (cin' : Int) (H' : Heap), RowT H' d YaE (headC x.m s.change.1.used s.change.1.most s.change.1.quota s.change.1.ops s.change.1.next s.change.1.crash.isSome cin' kp s.change.1.down) → crashOk s.change.1 cin' kp → Mod (fun b => b = d) H H' → H'.size = H.size → K s.change.2 H' :=
  fun cin' H' hr hc hm hs => hK cin' H' (h.turn hr hm hfi hc hwf) hm hs
 refine h.head.ld (c := cBool) (i := 6) (x := s.crash.isSome) rfl ?_
 have hh := h.head
 have hcr := h.crash
 cases hc : s.crash with
 | none =>
   refine br_f rfl ?_
   refine hh.ld (c := cInt .i64) (i := 4) (x := s.ops) rfl ?_
   refine hh.st (i := 4) (by decide : 4 < 10) (by rfl) fun H' r' m' s' => ?_
   have e : s.change = ({ s with ops := w64 (s.ops + 1) }, 0) := by unfold Dk.change; rw [hc]
   rw [e] at hup
   exact hup cin H' r' (by intro i k q; rw [show ({ s with ops := w64 (s.ops + 1) } : Dk).crash = s.crash from rfl, hc] at q; cases q) m' s'
 | some ik =>
   obtain ⟨i, k⟩ := ik
   obtain ⟨rfl, rfl⟩ := hcr i k hc
   refine br_t rfl ?_
   refine hh.ld (c := cInt .i64) (i := 7) (x := cin) rfl ?_
   refine br_mk (fun hz => ?_) (fun hz => ?_)
   ·have hz' : cin = 0 := by simpa using hz
    have e : s.change = ({ s with down := true }, 4) := by unfold Dk.change; rw [hc]; simp [hz']
    rw [e] at hup
    refine hh.st (i := 9) (by decide : 9 < 10) (by rfl) fun H' r' m' s' => ?_
    exact hup cin H' r' (by intro i k q; exact hcr i k q) m' s'
   ·have hz' : cin ≠ 0 := by simpa using hz
    have e : s.change = ({ s with crash := some (w64 (cin - 1), kp), ops := w64 (s.ops + 1) }, 0) := by unfold Dk.change; rw [hc]; simp [hz']
    rw [e] at hup
    refine hh.ld (c := cInt .i64) (i := 7) (x := cin) rfl ?_
    refine hh.st (i := 7) (by decide : 7 < 10) (by rfl) fun H1 r1 m1 s1 => ?_
    refine r1.ld (c := cInt .i64) (i := 4) (x := s.ops) rfl ?_
    refine r1.st (i := 4) (by decide : 4 < 10) (by rfl) fun H2 r2 m2 s2 => ?_
    refine hup (w64 (cin - 1)) H2 ?_ (by intro i k q; simp only [Option.some.injEq, Prod.mk.injEq] at q; exact q) (m1.trans m2) (by omega)
    rw [hc] at r2
    exact r2
theorem mapFiles : MapPT Tryz.prog Yab YaK .string := MapPT_of (by kernel_rfl) (by kernel_rfl)
theorem lookup_ok {x : DG} {fs : List Fl} {s : Dk} {H : Heap} {n : ByteArray} {K : (Option Addr × Bool) → Prop} (h : FilesAt H x fs) (hfs : s.files = fs) (hw : s.WF)
  (hK : ∀ i f g, s.idx n = some i → fs[i]? = some f → f.name = n → x.gs[i]? = some g → FileAt H g f → K (some ⟨g.p, 0, none⟩, true)) (hN : s.idx n = none → K (none, false)) :
  rdV (cTup [cPtr, cBool]) Tryz.prog (Instr.lookup Yab (.map (some x.m)) (.string n) true) H K := by
 obtain ⟨et, inf, hu, hd, hi, hz⟩ := mapFiles
 refine rdV_lookup hu hd hi hz h.map (k := .string n) trivial ?_ ?_
 ·rintro v hv
  obtain ⟨i, f, g, h1, h2, h3, h4⟩ := h.ent' _ _ hv
  have e : n = f.name := by cases h3; rfl
  have hix : s.idx n = some i := by rw [e]; exact Dk.idx_eq hw (by rw [hfs]; exact h1)
  exact ⟨(some ⟨g.p, 0, none⟩, true), by rw [h4]; rfl, hK i f g hix h1 e.symm h2 (h.ent i f g h1 h2).2⟩
 ·intro hno
  refine ⟨(none, false), rfl, hN ?_⟩
  cases hx : s.idx n with
  | none => rfl
  | some i =>
    obtain ⟨f, hf, hn⟩ := Dk.idx_some hx
    rw [hfs] at hf
    obtain ⟨g, _, he, _⟩ := h.gAt hf
    rw [hn] at he
    exact absurd he (hno _)
theorem open_ok {x : DG} {cin kp : Int} {d : Nat} {s : Dk} {H : Heap} {n : ByteArray} {K : (Option Addr × Int) → Heap → Prop} (h : DiskG x cin kp H d s)
  (hD : s.down = true → K (none, 4) H) (hN : s.down = false → s.idx n = none → K (none, 11) H)
  (hK : ∀ i f g, s.down = false → s.idx n = some i → s.files[i]? = some f → f.name = n → x.gs[i]? = some g → FileAt H g f → K (at0 g.p, 0) H) : ZcN.sp (at0 d) n H K := by
 refine ZcN.of ?_
 unfold ZcN.vc
 refine ready_ok h.head (down := s.down) rfl ?_
 cases hd : s.down with
 | true => exact hD hd
 | false =>
   refine br_f rfl ?_
   refine h.head.ld (c := cMap) (i := 0) (x := some x.m) rfl ?_
   refine lookup_ok h.files rfl h.wf (fun i f g h1 h2 h3 h4 h5 => ?_) (fun h1 => ?_)
   ·exact hK i f g hd h1 h2 h3 h4 h5
   ·exact hN hd h1
theorem Len_ok {F : Nat → Prop} {d : Nat} {s : Dk} {H : Heap} {n : ByteArray} {K : (Int × Int) → Heap → Prop} (h : DiskAt F H d s) (hK : K ((s.len n).1, (s.len n).2) H) : ZcS.sp (at0 d) n H K := by
 obtain ⟨x, cin, kp, g, _⟩ := h
 refine ZcS.of ?_
 unfold ZcS.vc
 refine open_ok g (fun hd => ?_) (fun hd hN => ?_) (fun i f gf hd hi hf hn hg hF => ?_)
 ·have e : s.len n = (0, 4) := by unfold Dk.len Dk.open; rw [hd]; rfl
  rw [e] at hK; exact hK
 ·have e : s.len n = (0, 11) := by unfold Dk.len Dk.open; rw [hd, hN]; rfl
  rw [e] at hK; exact hK
 ·have e : s.len n = (f.pages.length, 0) := by unfold Dk.len Dk.open; rw [hd, hi]; simp [Dk.file_eq hf]
  rw [e] at hK
  refine br_f rfl ?_
  refine hF.row.ld (c := cSl) (i := 0) (x := gf.now) rfl ?_
  have := hF.now.n (by decide)
  rw [this]; exact hK
end Go.Proofs.YtkehfflpbpdokaaGreat
