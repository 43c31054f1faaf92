/-
 The disk in memory.
-/
import Derived.Test.YtkehfflpbpdokaaGreatVc
import Derived.Test.YtkehfflpbpdokaaGreatFxm
import Derived.Test.YtkehfflpbpdokaaGreatDkm
namespace Go.Proofs.YtkehfflpbpdokaaGreat
open Go.MapKept
def pgV (p : List UInt8) : List Value := p.map fun x => .int .u8 (x.toNat : Int)
def strB (l : List UInt8) : ByteArray := ⟨l.toArray⟩
def EPg : Enc Pg := ⟨512, fun p => pgV p.1, fun p => by rw [pgV, List.length_map]; exact p.2, fun p u hu => by obtain ⟨x, _, rfl⟩ := List.mem_map.1 hu; rfl⟩
def EMk : Enc Wr := ⟨514, fun w => .int .i64 w.no :: .int .i64 w.page :: pgV w.b.1, fun w => by simp only [List.length_cons, pgV, List.length_map, w.b.2], fun w u hu => by
 rcases List.mem_cons.1 hu with e | hu
 ·rw [e]; rfl
 ·rcases List.mem_cons.1 hu with e | hu
  ·rw [e]; rfl
  ·obtain ⟨x, _, rfl⟩ := List.mem_map.1 hu; rfl⟩
structure FG where
 p : Nat
 now : Sl
 syn : Sl
 log : Sl
def FG.fp (g : FG) (b : Nat) : Prop := b = g.p ∨ ownB g.now b ∨ ownB g.syn b ∨ ownB g.log b
structure FileAt (H : Heap) (g : FG) (f : Fl) : Prop where
 row : RowT H g.p YaA #[g.now.v, g.syn.v, g.log.v]
 now : SlE EPg Yat H g.now f.pages
 syn : SlE EPg Yat H g.syn f.synced
 log : SlE EMk YaF H g.log f.log
 apart : ∀ b, ownB g.now b → ¬ ownB g.syn b
theorem FileAt.lt {H : Heap} {g : FG} {f : Fl} (h : FileAt H g f) : ∀ b, g.fp b → b < H.size := by
 rintro b (rfl | hb | hb | hb)
 ·exact obj_lt h.row
 ·exact h.now.lt b hb
 ·exact h.syn.lt b hb
 ·exact h.log.lt b hb
theorem FileAt.keep {H H' : Heap} {g : FG} {f : Fl} (h : FileAt H g f) (k : ∀ b, g.fp b → b < H.size → H'[b]? = H[b]?) : FileAt H' g f :=
 ⟨(k _ (.inl rfl) (obj_lt h.row)).trans h.row, h.now.keep fun b hb => k b (.inr (.inl hb)), h.syn.keep fun b hb => k b (.inr (.inr (.inl hb))), h.log.keep fun b hb => k b (.inr (.inr (.inr hb))), h.apart⟩
theorem FileAt.obj {H : Heap} {g : FG} {f : Fl} (h : FileAt H g f) : ∀ b, g.fp b → ∃ cs t, H[b]? = some (.cells cs t (0, 0)) ∧ (t = YaA ∨ t = Yat ∨ t = YaF) := by
 rintro b (rfl | hb | hb | hb)
 ·exact ⟨_, _, h.row, .inl rfl⟩
 ·obtain ⟨c, q⟩ := h.now.obj b hb; exact ⟨c, _, q, .inr (.inl rfl)⟩
 ·obtain ⟨c, q⟩ := h.syn.obj b hb; exact ⟨c, _, q, .inr (.inl rfl)⟩
 ·obtain ⟨c, q⟩ := h.log.obj b hb; exact ⟨c, _, q, .inr (.inr rfl)⟩
structure DG where
 m : Nat
 es : Array MapEntry
 clk : Nat
 gs : List FG
def DG.fp (x : DG) (b : Nat) : Prop := b = x.m ∨ ∃ g ∈ x.gs, g.fp b
def ptrV (p : Nat) : Value := .pointer (some ⟨p, 0, none⟩)
structure FilesAt (H : Heap) (x : DG) (fs : List Fl) : Prop where
 map : MapAt .string H x.m x.es x.clk
 len : x.gs.length = fs.length
 size : x.es.size = fs.length
 ent : ∀ (i : Nat) (f : Fl) (g : FG), fs[i]? = some f → x.gs[i]? = some g → HasE x.es (.string f.name) (ptrV g.p) ∧ FileAt H g f
 ent' : ∀ k v, HasE x.es k v → ∃ (i : Nat) (f : Fl) (g : FG), fs[i]? = some f ∧ x.gs[i]? = some g ∧ k = .string f.name ∧ v = ptrV g.p
 apart : ∀ (i j : Nat) (g g' : FG), x.gs[i]? = some g → x.gs[j]? = some g' → i ≠ j → ∀ b, g.fp b → ¬ g'.fp b
theorem FilesAt.gAt {H : Heap} {x : DG} {fs : List Fl} (h : FilesAt H x fs) {i : Nat} {f : Fl} (hi : fs[i]? = some f) : ∃ g, x.gs[i]? = some g ∧ HasE x.es (.string f.name) (ptrV g.p) ∧ FileAt H g f := by
 have hlt := (List.getElem?_eq_some_iff.1 hi).1
 have hg : x.gs[i]? = some (x.gs[i]'(by rw [h.len]; exact hlt)) := List.getElem?_eq_getElem _
 exact ⟨_, hg, h.ent i f _ hi hg⟩
theorem FilesAt.fAt {H : Heap} {x : DG} {fs : List Fl} (h : FilesAt H x fs) {i : Nat} {g : FG} (hi : x.gs[i]? = some g) : ∃ f, fs[i]? = some f ∧ HasE x.es (.string f.name) (ptrV g.p) ∧ FileAt H g f := by
 have hlt := (List.getElem?_eq_some_iff.1 hi).1
 have hg : fs[i]? = some (fs[i]'(by rw [← h.len]; exact hlt)) := List.getElem?_eq_getElem _
 exact ⟨_, hg, h.ent i _ g hg hi⟩
theorem FilesAt.lt {H : Heap} {x : DG} {fs : List Fl} (h : FilesAt H x fs) : ∀ b, x.fp b → b < H.size := by
 rintro b (rfl | ⟨g, hg, hb⟩)
 ·exact h.map.lt
 ·obtain ⟨i, hi⟩ := List.mem_iff_getElem?.1 hg
  obtain ⟨f, _, _, q⟩ := h.fAt hi
  exact q.lt b hb
theorem FilesAt.keep {H H' : Heap} {x : DG} {fs : List Fl} (h : FilesAt H x fs) (k : ∀ b, x.fp b → b < H.size → H'[b]? = H[b]?) : FilesAt H' x fs :=
 ⟨h.map.keep (k _ (.inl rfl) h.map.lt), h.len, h.size, fun i f g hf hg => ⟨(h.ent i f g hf hg).1, (h.ent i f g hf hg).2.keep fun b hb => k b (.inr ⟨g, List.mem_of_getElem? hg, hb⟩)⟩, h.ent', h.apart⟩
theorem FilesAt.mapOff {H : Heap} {x : DG} {fs : List Fl} (h : FilesAt H x fs) {g : FG} (hg : g ∈ x.gs) : ¬ g.fp x.m := by
 intro hb
 obtain ⟨i, hi⟩ := List.mem_iff_getElem?.1 hg
 obtain ⟨f, _, _, q⟩ := h.fAt hi
 obtain ⟨cs, t, e, _⟩ := q.obj _ hb
 rw [h.map.obj] at e; cases e
theorem FilesAt.setK {H H' : Heap} {x : DG} {fs : List Fl} (h : FilesAt H x fs) {i : Nat} {f f' : Fl} {g g' : FG} (hf : fs[i]? = some f) (hg : x.gs[i]? = some g) (hp : g'.p = g.p) (hn : f'.name = f.name) (hq : FileAt H' g' f')
  (hm : ∀ b, x.fp b → ¬ g.fp b → b < H.size → H'[b]? = H[b]?) (hb : ∀ b, g'.fp b → g.fp b ∨ H.size ≤ b) : FilesAt H' { x with gs := x.gs.set i g' } (fs.set i f') ∧ (∀ b, DG.fp { x with gs := x.gs.set i g' } b → x.fp b ∨ H.size ≤ b) := by
 have hil := (List.getElem?_eq_some_iff.1 hf).1
 have hgl := (List.getElem?_eq_some_iff.1 hg).1
 have hgm := List.mem_of_getElem? hg
 have others : ∀ j gj, x.gs[j]? = some gj → i ≠ j → ∀ b, gj.fp b → ¬ g.fp b := fun j gj hj hij b h1 h2 => h.apart i j g gj hg hj hij b h2 h1
 refine ⟨⟨h.map.keep (hm _ (.inl rfl) (h.mapOff hgm) h.map.lt), by simp [h.len], by simp [h.size], ?_, ?_, ?_⟩, ?_⟩
 ·intro j fj gj h1 h2
  rw [List.getElem?_set] at h1
  simp only [List.getElem?_set] at h2
  by_cases hij : i = j
  ·subst hij
   rw [if_pos rfl, if_pos hil] at h1
   rw [if_pos rfl, if_pos hgl] at h2
   cases h1; cases h2
   refine ⟨?_, hq⟩
   rw [hn, hp]
   exact (h.ent i f g hf hg).1
  ·rw [if_neg hij] at h1 h2
   refine ⟨(h.ent j fj gj h1 h2).1, (h.ent j fj gj h1 h2).2.keep fun b hb hbl => hm b (.inr ⟨gj, List.mem_of_getElem? h2, hb⟩) (others j gj h2 hij b hb) hbl⟩
 ·intro k v hkv
  obtain ⟨j, fj, gj, h1, h2, h3, h4⟩ := h.ent' k v hkv
  by_cases hij : i = j
  ·subst hij
   rw [hf] at h1; rw [hg] at h2; cases h1; cases h2
   exact ⟨i, f', g', by simp [hil], by simp [hgl], by rw [hn]; exact h3, by rw [hp]; exact h4⟩
  ·exact ⟨j, fj, gj, by rw [List.getElem?_set, if_neg hij]; exact h1, by simp only [List.getElem?_set]; rw [if_neg hij]; exact h2, h3, h4⟩
 ·intro a c ga gc h1 h2 hac b hb1 hb2
  simp only [List.getElem?_set] at h1 h2
  by_cases hia : i = a
  ·subst hia
   rw [if_neg hac] at h2
   rw [if_pos rfl, if_pos hgl] at h1
   cases h1
   have hbl : b < H.size := by obtain ⟨fc, _, _, q⟩ := h.fAt h2; exact q.lt b hb2
   rcases hb b hb1 with q | q
   ·exact others c gc h2 hac b hb2 q
   ·omega
  ·rw [if_neg hia] at h1
   have hbl : b < H.size := by obtain ⟨fc, _, _, q⟩ := h.fAt h1; exact q.lt b hb1
   by_cases hic : i = c
   ·subst hic
    rw [if_pos rfl, if_pos hgl] at h2
    cases h2
    rcases hb b hb2 with q | q
    ·exact others a ga h1 hia b hb1 q
    ·omega
   ·rw [if_neg hic] at h2
    exact h.apart a c ga gc h1 h2 hac b hb1 hb2
 ·rintro b (rfl | ⟨gj, hgj, hb1⟩)
  ·exact .inl (.inl rfl)
  ·rcases List.mem_or_eq_of_mem_set hgj with q | q
   ·exact .inl (.inr ⟨gj, q, hb1⟩)
   ·subst q
    exact (hb b hb1).imp (fun q => .inr ⟨g, hgm, q⟩) id
theorem FilesAt.set {H H' : Heap} {x : DG} {fs : List Fl} (h : FilesAt H x fs) {i : Nat} {f f' : Fl} {g g' : FG} (hf : fs[i]? = some f) (hg : x.gs[i]? = some g) (hp : g'.p = g.p) (hn : f'.name = f.name) (hq : FileAt H' g' f')
  (hm : Mod g.fp H H') (hb : ∀ b, g'.fp b → g.fp b ∨ H.size ≤ b) : FilesAt H' { x with gs := x.gs.set i g' } (fs.set i f') ∧ (∀ b, DG.fp { x with gs := x.gs.set i g' } b → x.fp b ∨ H.size ≤ b) :=
 h.setK hf hg hp hn hq (fun b _ hn hl => hm.same b hl hn) hb
def headC (m : Nat) (used most quota ops next : Int) (laid : Bool) (cin kp : Int) (down : Bool) : Array Value :=
 #[.map (some m), .int .i64 used, .int .i64 most, .int .i64 quota, .int .i64 ops, .int .i64 next, .bool laid, .int .i64 cin, .int .u64 kp, .bool down]
def crashOk (s : Dk) (cin kp : Int) : Prop := ∀ i k, s.crash = some (i, k) → cin = i ∧ kp = k
structure DiskG (x : DG) (cin kp : Int) (H : Heap) (d : Nat) (s : Dk) : Prop where
 head : RowT H d YaE (headC x.m s.used s.most s.quota s.ops s.next s.crash.isSome cin kp s.down)
 crash : crashOk s cin kp
 files : FilesAt H x s.files
 wf : s.WF
def DiskAt (F : Nat → Prop) (H : Heap) (d : Nat) (s : Dk) : Prop := ∃ x cin kp, DiskG x cin kp H d s ∧ ∀ b, F b ↔ b = d ∨ x.fp b
structure Step (F F' : Nat → Prop) (H H' : Heap) : Prop where
 mod : Mod F H H'
 own : ∀ b, F' b → F b ∨ H.size ≤ b
theorem Step.refl (F : Nat → Prop) (H : Heap) : Step F F H H := ⟨.refl _ _, fun _ h => .inl h⟩
theorem Step.trans {F G K : Nat → Prop} {A B C : Heap} (h : Step F G A B) (k : Step G K B C) : Step F K A C := by
 refine ⟨h.mod.trans' k.mod fun b hb hg => (h.own b hg).resolve_right (by omega), fun b hb => ?_⟩
 rcases k.own b hb with q | q
 ·exact h.own b q
 ·exact .inr (Nat.le_trans h.mod.size q)
theorem DiskG.fileTy {x : DG} {H : Heap} {d : Nat} {fs : List Fl} {cs : Array Value} (hd : RowT H d YaE cs) (h : FilesAt H x fs) : ¬ x.fp d := by
 rintro (e | ⟨g, hg, hb⟩)
 ·have := h.map.obj
  rw [← e, hd] at this; cases this
 ·obtain ⟨i, hi⟩ := List.mem_iff_getElem?.1 hg
  obtain ⟨f, _, _, q⟩ := h.fAt hi
  obtain ⟨c, t, e, ht⟩ := q.obj _ hb
  have := cells_ty hd e
  rw [← this] at ht
  exact absurd ht (by decide)
theorem DiskAt.lt {F : Nat → Prop} {H : Heap} {d : Nat} {s : Dk} (h : DiskAt F H d s) : ∀ b, F b → b < H.size := by
 obtain ⟨x, cin, kp, g, hF⟩ := h
 intro b hb
 rcases (hF b).1 hb with rfl | q
 ·exact obj_lt g.head
 ·exact g.files.lt b q
theorem DiskAt.keep {F : Nat → Prop} {H H' : Heap} {d : Nat} {s : Dk} (h : DiskAt F H d s) (k : ∀ b, F b → b < H.size → H'[b]? = H[b]?) : DiskAt F H' d s := by
 obtain ⟨x, cin, kp, g, hF⟩ := h
 exact ⟨x, cin, kp, ⟨(k d ((hF d).2 (.inl rfl)) (obj_lt g.head)).trans g.head, g.crash, g.files.keep fun b hb => k b ((hF b).2 (.inr hb)), g.wf⟩, hF⟩
theorem DiskAt.wf {F : Nat → Prop} {H : Heap} {d : Nat} {s : Dk} (h : DiskAt F H d s) : s.WF := by
 obtain ⟨x, cin, kp, g, hF⟩ := h; exact g.wf
theorem DiskG.out {x x' : DG} {cin kp : Int} {F : Nat → Prop} {H H' : Heap} {d : Nat} {s : Dk} (h : DiskG x' cin kp H' d s) (hF : ∀ b, F b ↔ b = d ∨ x.fp b) (hm : Mod F H H') (ho : ∀ b, x'.fp b → x.fp b ∨ H.size ≤ b) :
  ∃ F', DiskAt F' H' d s ∧ Step F F' H H' :=
 ⟨fun b => b = d ∨ x'.fp b, ⟨x', cin, kp, h, fun _ => Iff.rfl⟩, hm, by
  rintro b (e | q)
  ·exact .inl ((hF b).2 (.inl e))
  ·exact (ho b q).imp (fun q => (hF b).2 (.inr q)) id⟩
theorem ready_ok {d : Nat} {cs : Array Value} {down : Bool} {H : Heap} {K : Int → Heap → Prop} (h : RowT H d YaE cs) (hd : cs[9]? = some (.bool down)) (hK : K (if down then 4 else 0) H) : Zcu.sp (some ⟨d, 0, none⟩) H K := by
 refine Zcu.of ?_
 unfold Zcu.vc
 refine h.ld (c := cBool) (i := 9) (x := down) hd ?_
 cases down with
 | true => exact hK
 | false => exact hK
theorem named_ok {n : ByteArray} {H : Heap} {K : Bool → Heap → Prop} (hK : K (named n) H) : Zdd.sp n H K := by
 refine Zdd.of ?_
 unfold Zdd.vc
 have e : ((!(n.toList == ByteArray.empty.toList)) && (decide ((n.size : Int) ≤ (100 : Int)))) = named n := by
  unfold named
  congr 1
  ·rw [Bool.eq_iff_iff]
   simp only [Bool.not_eq_true', beq_eq_false_iff_ne, ne_eq, decide_eq_true_eq]
   rw [ba_iff]
   constructor
   ·intro h
    rcases Nat.eq_zero_or_pos n.size with q | q
    ·exact absurd (ByteArray.ext (Array.eq_empty_of_size_eq_zero q)) h
    ·exact q
   ·intro h e; subst e; simp at h
  ·rw [decide_eq_decide]; omega
 rw [e]; exact hK
end Go.Proofs.YtkehfflpbpdokaaGreat
