/-
 The disk: Write and Read.
-/
import Derived.Test.YtkehfflpbpdokaaGreatDke
namespace Go.Proofs.YtkehfflpbpdokaaGreat
open Go.MapKept
def u8i (b : List UInt8) : List Int := b.map fun x => (x.toNat : Int)
abbrev Byts (H : Heap) (s : Sl) (b : List UInt8) : Prop := Ints .u8 H s (u8i b)
theorem u8i_vals (b : List UInt8) : (u8i b).map (Value.int .u8) = pgV b := by simp [u8i, pgV]
theorem Byts.n {H : Heap} {s : Sl} {b : List UInt8} (h : Byts H s b) : s.n = b.length := by have := h.len; simpa [u8i] using this
theorem Byts.cells {H : Heap} {s : Sl} {b : List UInt8} (h : Byts H s b) : Reads H s.a (pgV b) := by rw [← u8i_vals]; exact h.reads
theorem Byts.row {H : Heap} {s : Sl} {b : List UInt8} {ad : Addr} (h : Byts H s b) (ha : s.a = some ad) : hRow H ad b.length (.agg (pgV b).toArray) := by
 refine ⟨_, rfl, by simp [pgV], fun i hi => ?_⟩
 have hv : (pgV b)[i]? = some ((pgV b)[i]'(by simpa [pgV] using hi)) := List.getElem?_eq_getElem _
 obtain ⟨ad', e1, hc⟩ := h.cells _ _ hv
 rw [ha] at e1; cases e1
 rw [hc]; simp
theorem Byts.keep {H H' : Heap} {s : Sl} {b : List UInt8} (h : Byts H s b) (k : ∀ ad, s.a = some ad → ad.block < H.size → H'[ad.block]? = H[ad.block]?) : Byts H' s b := by
 refine ⟨h.len, fun i v hv => ?_⟩
 obtain ⟨ad, ha, hc⟩ := h.reads i v hv
 have hlt := hCell_lt hc
 rw [add_block] at hlt
 exact ⟨ad, ha, (hCell_congr (by rw [add_block]; exact k ad ha hlt)).trans hc⟩
theorem Byts.addr {H : Heap} {s : Sl} {b : List UInt8} (h : Byts H s b) (hb : 0 < b.length) : ∃ ad, s.a = some ad ∧ ad.block < H.size := by
 obtain ⟨ad, ha, hc⟩ := h.reads.at (i := 0) (by simp [u8i]; exact hb)
 have := hCell_lt hc
 rw [add_block] at this
 exact ⟨ad, ha, this⟩
theorem hRow_keep {H H' : Heap} {ad : Addr} {n : Nat} {v : Value} (h : hRow H ad n v) (k : H'[ad.block]? = H[ad.block]?) : hRow H' ad n v := by
 obtain ⟨cs, e, hn, hc⟩ := h
 exact ⟨cs, e, hn, fun i hi => (hCell_congr (by rw [add_block]; exact k)).trans (hc i hi)⟩
theorem built_mark (parts : List (Nat × Value)) : Tryz.prog.built YaF parts = Instr.fill (fun i => (#[(0, 1), (1, 1), (2, 512)] : Array (Nat × Nat))[i]?) (zc Tryz.prog YaF) parts := by kernel_rfl
theorem zc_mark_size : (zc Tryz.prog YaF).size = 514 := by kernel_rfl
theorem fill_mark {no page : Int} {cs z : Array Value} (hz : z.size = 514) (hc : cs.size = 512) :
  Instr.fill (fun i => (#[(0, 1), (1, 1), (2, 512)] : Array (Nat × Nat))[i]?) z [(0, (.int .i64 no)), (1, (.int .i64 page)), (2, (.agg cs))] = some (#[.int .i64 no, .int .i64 page] ++ cs) := by
 have c1 : (Value.int .i64 no).cells = #[.int .i64 no] := rfl
 have c2 : (Value.int .i64 page).cells = #[.int .i64 page] := rfl
 have c3 : (Value.agg cs).cells = cs := rfl
 rw [fill_step (off := 0) (n := 1) (v := .int .i64 no) rfl rfl (by omega), fill_step (off := 1) (n := 1) (v := .int .i64 page) rfl rfl (by simp [c1]; omega), fill_step (off := 2) (n := 512) (v := .agg cs) rfl hc (by simp [c1, c2]; omega)]
 simp only [Instr.fill, c1, c2, c3]
 refine congrArg some (Array.ext' ?_)
 simp
 omega
theorem build_mark {no page : Int} {cs : Array Value} {K : Array Value → Prop} (hc : cs.size = 512) (hK : K (#[.int .i64 no, .int .i64 page] ++ cs)) :
  pureV cArr Tryz.prog (Instr.build YaF #[(0, (.int .i64 no)), (1, (.int .i64 page)), (2, (.agg cs))]) K := by
 refine ⟨_, fun w => ?_, hK⟩
 refine run_build w _ _ _ ?_
 rw [built_mark]
 exact fill_mark zc_mark_size hc
set_option maxHeartbeats 1000000 in
theorem Write_ok {F : Nat → Prop} {d : Nat} {s : Dk} {H : Heap} {n : ByteArray} {page : Int} {p3 : Sl} {b : List UInt8} {K : Int → Heap → Prop} (h : DiskAt F H d s) (hb : Byts H p3 b) (hpb : ∀ ad, p3.a = some ad → ¬ F ad.block) (hlogs : s.logs < 68719476736)
  (hK : ∀ F' H', DiskAt F' H' d (s.write n page b).1 → Step F F' H H' → K (s.write n page b).2 H') : Zcz.sp (at0 d) n page p3 H K := by
 have h0 := h
 obtain ⟨x, cin, kp, g, hF⟩ := h
 refine Zcz.of ?_
 unfold Zcz.vc
 simp only [optK_eq]
 have stay : ∀ e : Int, s.write n page b = (s, e) → K e H := by
  intro e he
  have := hK F H (by rw [he]; exact h0) (.refl _ _)
  rw [he] at this; exact this
 refine ready_ok g.head (down := s.down) rfl ?_
 cases hd : s.down with
 | true => exact stay 4 (by unfold Dk.write; rw [hd]; rfl)
 | false =>
   refine br_f rfl ?_
   have hbn := hb.n
   refine br_mk (fun hne => stay 2 ?_) (fun hne => ?_)
   ·have : b.length ≠ 512 := by simp at hne; omega
    unfold Dk.write; rw [hd]; simp [this]
   have hb512 : b.length = 512 := by simp at hne; omega
   refine open_ok g (fun hd' => by rw [hd] at hd'; cases hd') (fun _ hN => ?_) (fun i f gf _ hi hf hfn hg hFl => ?_)
   ·refine ⟨fun _ _ => False, stay 11 ?_, fun _ _ h => h.elim⟩
    unfold Dk.write; rw [hd]; simp [hb512, hN]
   have hfile : s.file i = f := Dk.file_eq hf
   have hnow := hFl.now.n (by decide)
   have w1 := g.wf.used; have w2 := g.wf.most; have w3 := g.wf.quota
   have hpl := Dk.pages_le hf
   have e12 : page < 0 ∨ page > f.pages.length → s.write n page b = (s, 12) := by
    intro hp
    unfold Dk.write; rw [hd]; simp only [Bool.false_eq_true, if_false, hb512, dif_pos, hi, hfile]
    rw [if_pos hp]
   have e5 : ¬ (page < 0 ∨ page > f.pages.length) → page = f.pages.length → s.used = s.quota → s.write n page b = (s, 5) := by
    intro hp h1 h2
    unfold Dk.write; rw [hd]; simp only [Bool.false_eq_true, if_false, hb512, dif_pos, hi, hfile]
    rw [if_neg hp, if_pos ⟨h1, by omega⟩]
   refine ⟨fun _ H' => H' = H ∧ ¬ (page < 0 ∨ page > f.pages.length) ∧ ¬ (page = f.pages.length ∧ s.used = s.quota), ?_, ?_⟩
   ·refine br_f rfl ?_
    refine br_mk (fun hp => ?_) (fun hp => ?_)
    ·exact br_t hp (stay 12 (e12 (.inl (by simpa using hp))))
    ·have hp0 : ¬ page < 0 := by simpa using hp
     simp only [optK_eq]
     refine hFl.row.ld (c := cSl) (i := 0) (x := gf.now) rfl ?_
     refine br_mk (fun hp => ?_) (fun hp => ?_)
     ·exact stay 12 (e12 (.inr (by simp at hp; omega)))
     ·have hp1 : ¬ (page < 0 ∨ page > f.pages.length) := by simp at hp; omega
      refine hFl.row.ld (c := cSl) (i := 0) (x := gf.now) rfl ?_
      refine br_mk (fun he => ?_) (fun he => ?_)
      ·have he' : page = f.pages.length := by simp at he; omega
       refine g.head.ld (c := cInt .i64) (i := 1) (x := s.used) rfl ?_
       refine g.head.ld (c := cInt .i64) (i := 3) (x := s.quota) rfl ?_
       refine br_mk (fun hq => ?_) (fun hq => ?_)
       ·exact stay 5 (e5 hp1 he' (by simp at hq; omega))
       ·exact ⟨by trivial, hp1, fun hh => by simp at hq; omega⟩
      ·exact ⟨by trivial, hp1, fun hh => by simp at he; omega⟩
   ·rintro _ H0 ⟨rfl, hp1, hp2⟩
    obtain ⟨pg, rfl⟩ : ∃ k : Nat, page = k := ⟨page.toNat, by omega⟩
    have hpg : pg ≤ f.pages.length := by omega
    have hr : s.write n pg b = s.step fun t => (t.addW i ⟨t.next, pg, ⟨b, hb512⟩⟩).setMost (max t.most (t.addW i ⟨t.next, pg, ⟨b, hb512⟩⟩).used) := by
     unfold Dk.write; rw [hd]; simp only [Bool.false_eq_true, if_false, hb512, dif_pos, hi, hfile]
     rw [if_neg hp1, if_neg (by omega)]
     rfl
    rw [hr] at hK
    unfold Dk.step at hK
    refine change_ok g fun cin' H4 g4 m4 s4 => ?_
    refine br_mk (fun hz => ?_) (fun hz => ?_)
    ·have hz' : s.change.2 ≠ 0 := by simpa using hz
     rw [if_neg hz'] at hK
     obtain ⟨F', q1, q2⟩ := g4.out (x := x) (F := F) (H := H0) hF (m4.mono fun b _ e => (hF b).2 (.inl e)) (fun b q => .inl q)
     exact hK F' H4 q1 q2
    have hz' : s.change.2 = 0 := by simpa using hz
    rw [if_pos hz'] at hK
    obtain ⟨k1, k2, k3, k4⟩ := s.change_keep
    have hfs := s.change_files
    generalize ht : s.change.1 = t at *
    have hf4 : t.files[i]? = some f := by rw [hfs]; exact hf
    have hFl4 := (g4.files.ent i f gf hf4 hg).2
    have hgm := List.mem_of_getElem? hg
    have hdx := DiskG.fileTy g4.head g4.files
    -- how many pages there are then
    obtain ⟨u, hu⟩ : ∃ u : Nat, u = if pg = f.pages.length then t.used + 1 else t.used := ⟨_, rfl⟩
    refine ⟨fun _ H5 => RowT H5 d YaE (headC x.m u (max t.most u : Nat) t.quota t.ops t.next t.crash.isSome cin' kp t.down) ∧ Mod (fun b => b = d) H4 H5 ∧ H5.size = H4.size, ?_, ?_⟩
    ·refine hFl4.row.ld (c := cSl) (i := 0) (x := gf.now) rfl ?_
     refine br_mk (fun he => ?_) (fun he => ?_)
     ·have he' : pg = f.pages.length := by simp at he; omega
      rw [if_pos he'] at hu
      refine g4.head.ld (c := cInt .i64) (i := 1) (x := t.used) rfl ?_
      refine g4.head.st (i := 1) (by simp [headC]) (by rfl) fun H6 r6 m6 s6 => ?_
      have eu : IntKind.i64.wrap ((t.used : Int) + 1) = (u : Int) := by rw [wrap64 (by omega) (by omega)]; omega
      rw [eu] at r6
      refine r6.ld (c := cInt .i64) (i := 2) (x := t.most) rfl ?_
      refine r6.ld (c := cInt .i64) (i := 1) (x := u) rfl ?_
      refine r6.st (i := 2) (by simp [headC]) (by rfl) fun H7 r7 m7 s7 => ?_
      have em : (if (u : Int) > (t.most : Int) then (u : Int) else (t.most : Int)) = ((max t.most u : Nat) : Int) := by split <;> omega
      rw [em] at r7
      exact ⟨r7, m6.trans m7, by omega⟩
     ·have he' : pg ≠ f.pages.length := by simp at he; omega
      rw [if_neg he'] at hu
      have em : (max t.most u : Nat) = t.most := by have := g4.wf.used; omega
      rw [em, hu]
      exact ⟨g4.head, .refl _ _, rfl⟩
    ·rintro _ H5 ⟨r5, m5, s5⟩
     obtain ⟨ad, ha, hal⟩ := hb.addr (by omega)
     have hadF : ¬ F ad.block := hpb ad ha
     have hadx : ∀ b, (b = d ∨ x.fp b) → b ≠ ad.block := fun b hb e => hadF ((hF _).2 (e ▸ hb))
     have hadd : ad.block ≠ d := fun e => hadx d (.inl rfl) e.symm
     have row0 := hb.row ha
     rw [hb512] at row0
     have row4 : hRow H4 ad 512 (.agg (pgV b).toArray) := hRow_keep row0 (m4.same _ hal hadd)
     have s04 : H4.size = H0.size := s4
     have row5 : hRow H5 ad 512 (.agg (pgV b).toArray) := hRow_keep row4 (m5.same _ (by omega) hadd)
     have hgd : ¬ gf.fp d := fun hb => hdx (.inr ⟨gf, hgm, hb⟩)
     have files5 : FilesAt H5 x t.files := g4.files.keep fun b hb hl => m5.same b hl fun e => hdx (e ▸ hb)
     have F5 := (files5.ent i f gf hf4 hg).2
     refine ⟨fun H' => RowT H' gf.p YaA #[gf.now.v, gf.syn.v, gf.log.v] ∧ hRow H' ad 512 (.agg (pgV b).toArray), ⟨F5.row, row5⟩, ?_⟩
     refine ⟨gf.log, fun H' hG => by rw [add_lit0]; exact hG.1.cell rfl, ?_⟩
     refine r5.ld (c := cInt .i64) (i := 5) (x := t.next) rfl ?_
     refine ⟨by omega, ?_⟩
     rw [ha]
     refine ⟨(pgV b).toArray, fun H' hG => hG.2, ?_⟩
     refine build_mark (by simp [pgV, hb512]) ?_
     have hll := Dk.log_le hf
     refine SlE.pushBJ (E := EMk) elMark (x := ⟨t.next, pg, ⟨b, hb512⟩⟩) F5.log (by simp [EMk]) (by decide) (by omega) (by omega) _ (fun H8 s8 m8 => ?_) fun s9 H9 o9 g9 _ => ?_
     ·exact ⟨F5.row.ext m8, hRow_keep row5 (m8.same _ (by omega) id)⟩
     ·have ty1 : ∀ b, ownB gf.log b → b ≠ gf.p := fun b hb e => by
       obtain ⟨c, q⟩ := F5.log.obj b hb
       rw [e] at q
       exact absurd (cells_ty F5.row q) (by decide)
      have ty2 : ∀ b, ownB gf.now b → b ≠ gf.p := fun b hb e => by
       obtain ⟨c, q⟩ := F5.now.obj b hb
       rw [e] at q
       exact absurd (cells_ty F5.row q) (by decide)
      have ty3 : ∀ b, ownB gf.syn b → b ≠ gf.p := fun b hb e => by
       obtain ⟨c, q⟩ := F5.syn.obj b hb
       rw [e] at q
       exact absurd (cells_ty F5.row q) (by decide)
      have ty4 : ∀ b, ownB gf.log b → ¬ ownB gf.now b := F5.log.apart F5.now (by decide)
      have ty5 : ∀ b, ownB gf.log b → ¬ ownB gf.syn b := F5.log.apart F5.syn (by decide)
      have lnow := F5.now.lt; have lsyn := F5.syn.lt; have llog := F5.log.lt
      have lp : gf.p < H5.size := obj_lt F5.row
      have F9 : RowT H9 gf.p YaA #[gf.now.v, gf.syn.v, gf.log.v] := F5.row.mod g9.1 (fun hb => ty1 _ hb rfl)
      simp only [optK_eq]
      refine F9.st (i := 2) (by simp) (by rfl) fun H10 r10 m10 s10 => ?_
      have hadp : ad.block ≠ gf.p := fun e => hadx _ (.inr (.inr ⟨gf, hgm, .inl rfl⟩)) e.symm
      have hadl : ¬ ownB gf.log ad.block := fun hb => hadx _ (.inr (.inr ⟨gf, hgm, .inr (.inr (.inr hb))⟩)) rfl
      have row10 : hRow H10 ad 512 (.agg (pgV b).toArray) := hRow_keep row5 ((m10.same _ (by have := g9.1.size; omega) hadp).trans (g9.1.same _ (by omega) hadl))
      refine r10.ld (c := cSl) (i := 0) (x := gf.now) rfl ?_
      refine ⟨by omega, ?_⟩
      refine ⟨(pgV b).toArray, row10, ?_⟩
      have now10 : SlE EPg Yat H10 gf.now f.pages := F5.now.keep fun b hb hl => (m10.same b (by have := g9.1.size; omega) (ty2 b hb)).trans (g9.1.same b hl fun hh => ty4 b hh hb)
      have syn10 : SlE EPg Yat H10 gf.syn f.synced := F5.syn.keep fun b hb hl => (m10.same b (by have := g9.1.size; omega) (ty3 b hb)).trans (g9.1.same b hl fun hh => ty5 b hh hb)
      have hs9 : ∀ b, ownB s9 b → b ≠ gf.p := fun b hb e => by
       obtain ⟨c, q⟩ := o9.obj b hb
       rw [e] at q
       exact absurd (cells_ty F9 q) (by decide)
      have log10 : SlE EMk YaF H10 s9 (f.log ++ [⟨t.next, pg, ⟨b, hb512⟩⟩]) := o9.keep fun b hb hl => m10.same b hl (hs9 b hb)
      refine put_ok (no := t.next) (b := ⟨b, hb512⟩) now10 (by omega) (by omega) fun s11 H11 o11 g11 => ?_
      have lp10 : gf.p < H10.size := obj_lt r10
      have r11 : RowT H11 gf.p YaA #[gf.now.v, gf.syn.v, s9.v] := r10.mod g11.1 (fun hb => ty2 _ hb rfl)
      refine r11.st (i := 0) (by simp) (by rfl) fun H12 r12 m12 s12 => ?_
      have hs11 : ∀ b, ownB s11 b → b ≠ gf.p := fun b hb e => by
       obtain ⟨c, q⟩ := o11.obj b hb
       rw [e] at q
       exact absurd (cells_ty r11 q) (by decide)
      have q12 : FileAt H12 ⟨gf.p, s11, gf.syn, s9⟩ { f with log := f.log ++ [⟨t.next, pg, ⟨b, hb512⟩⟩] } := by
       have lsyn10 := syn10.lt; have llog10 := log10.lt
       refine ⟨r12, ?_, ?_, ?_, ?_⟩
       ·have := o11.keep (H' := H12) fun b hb hl => m12.same b hl (hs11 b hb)
        have e : ({ f with log := f.log ++ [⟨t.next, pg, ⟨b, hb512⟩⟩] } : Fl).pages = putP f.pages ⟨t.next, pg, ⟨b, hb512⟩⟩ := by simp [Fl.pages]
        rw [e]; exact this
       ·exact syn10.keep fun b hb hl => (m12.same b (by have := g11.1.size; omega) (ty3 b hb)).trans (g11.1.same b hl fun hh => F5.apart b hh hb)
       ·refine log10.keep fun b hb hl => (m12.same b (by have := g11.1.size; omega) (hs9 b hb)).trans (g11.1.same b hl fun hh => ?_)
        exact (log10.apart now10 (by decide)) b hb hh
       ·intro b hb hb2
        rcases g11.2 b hb with q | q
        ·exact F5.apart b q hb2
        ·have := lsyn10 b hb2; omega
      have m512 : Mod gf.fp H5 H12 := by
       have z1 := g9.1.size; have z2 := g11.1.size
       refine ⟨by omega, fun b hb hn => ?_⟩
       have n1 : b ≠ gf.p := fun e => hn (.inl e)
       have n2 : ¬ ownB gf.now b := fun e => hn (.inr (.inl e))
       have n3 : ¬ ownB gf.log b := fun e => hn (.inr (.inr (.inr e)))
       exact (m12.same b (by omega) n1).trans ((g11.1.same b (by omega) n2).trans ((m10.same b (by omega) n1).trans (g9.1.same b hb n3)))
      have r12d := r5.mod m512 hgd
      refine r12d.ld (c := cInt .i64) (i := 5) (x := t.next) rfl ?_
      refine r12d.st (i := 5) (by simp [headC]) (by rfl) fun H13 r13 m13 s13 => ?_
      obtain ⟨fa, fb⟩ := files5.set hf4 hg (f' := { f with log := f.log ++ [⟨t.next, pg, ⟨b, hb512⟩⟩] }) (g' := ⟨gf.p, s11, gf.syn, s9⟩) rfl rfl q12 m512 (by
       have z1 := g9.1.size
       rintro b (e | hb | hb | hb)
       ·exact .inl (.inl e)
       ·rcases g11.2 b hb with q | q
        ·exact .inl (.inr (.inl q))
        ·right; omega
       ·exact .inl (.inr (.inr (.inl hb)))
       ·exact (g9.2 b hb).imp (fun q => .inr (.inr (.inr q))) id)
      have hused : (t.addW i ⟨t.next, pg, ⟨b, hb512⟩⟩).used = u := by
       have h1 := Dk.used_modify (s := t) (g := fun f => { f with log := f.log ++ [⟨t.next, pg, ⟨b, hb512⟩⟩] }) hf4
       have h2 : ({ f with log := f.log ++ [⟨t.next, pg, ⟨b, hb512⟩⟩] } : Fl).pages.length = max f.pages.length (pg + 1) := by
        have e : ({ f with log := f.log ++ [⟨t.next, pg, ⟨b, hb512⟩⟩] } : Fl).pages = putP f.pages ⟨t.next, pg, ⟨b, hb512⟩⟩ := by simp [Fl.pages]
        rw [e, putP_length]
       have h3 : (t.addW i ⟨t.next, pg, ⟨b, hb512⟩⟩).used = (t.upd i (fun f => { f with log := f.log ++ [⟨t.next, pg, ⟨b, hb512⟩⟩] })).used := rfl
       rw [h3]
       split at hu <;> omega
      dsimp only at hK
      rw [hused] at hK
      have hd12 : ¬ DG.fp { x with gs := x.gs.set i ⟨gf.p, s11, gf.syn, s9⟩ } d := by
       intro hb
       exact DiskG.fileTy r12d fa hb
      have fa13 := fa.keep (H' := H13) fun b hb hl => m13.same b hl fun e => hd12 (e ▸ hb)
      have gg : DiskG { x with gs := x.gs.set i ⟨gf.p, s11, gf.syn, s9⟩ } cin' kp H13 d ((t.addW i ⟨t.next, pg, ⟨b, hb512⟩⟩).setMost (max t.most u)) := by
       refine ⟨?_, g4.crash, ?_, ?_⟩
       ·have e : ((t.addW i ⟨t.next, pg, ⟨b, hb512⟩⟩).setMost (max t.most u)).used = u := hused
        rw [e]; exact r13
       ·rw [← modify_set hf4 (g := fun f => { f with log := f.log ++ [⟨t.next, pg, ⟨b, hb512⟩⟩] })] at fa13; exact fa13
       ·refine g4.wf.modify (g := fun f => { f with log := f.log ++ [⟨t.next, pg, ⟨b, hb512⟩⟩] }) hf4 rfl rfl ?_ ?_ rfl rfl rfl
        ·have e : ((t.addW i ⟨t.next, pg, ⟨b, hb512⟩⟩).setMost (max t.most u)).used = u := hused
         rw [e]; exact Nat.le_max_right _ _
        ·show max t.most u ≤ t.quota
         split at hu <;> omega
      have hmm : Mod F H0 H13 := ((m4.trans m5).mono fun b _ e => (hF b).2 (.inl e)).trans ((m512.mono fun b _ e => (hF b).2 (.inr (.inr ⟨gf, hgm, e⟩))).trans (m13.mono fun b _ e => (hF b).2 (.inl e)))
      obtain ⟨F', q1, q2⟩ := gg.out (x := x) (F := F) (H := H0) hF hmm (fun b hb => (fb b hb).imp id (fun q => by omega))
      exact hK F' H13 q1 q2
end Go.Proofs.YtkehfflpbpdokaaGreat
