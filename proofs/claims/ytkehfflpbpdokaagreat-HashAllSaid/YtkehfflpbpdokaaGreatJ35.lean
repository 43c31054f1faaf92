/-
 A joiner's file is taken away: the walk.
-/
import Derived.LaidEqlPtr
import Derived.Test.YtkehfflpbpdokaaGreatJ34
namespace Go.Proofs.YtkehfflpbpdokaaGreat
open Go.MapKept
theorem ldp {c : Cod} {x : c.α} {A : Heap} {b : Nat} {t : TypeId} {K : c.α → Prop} (r : RowT A b t #[c.enc x]) (hK : K x) : ld c A ⟨b, 0, none⟩ K := ⟨x, r.cell (i := 0) rfl, hK⟩
theorem fptr_type : Tryz.prog.underlying Yal = some (.pointer Yaz) := by kernel_rfl
theorem file_info [Tab] : ∃ i, Tryz.prog.info? Yaz = some i ∧ i.size = 7 := by
 have h : (Tryz.prog.info? Yaz).map (·.size) = some 7 := by kernel_rfl
 obtain ⟨i, h1, h2⟩ := Option.map_eq_some_iff.1 h
 exact ⟨i, h1, h2⟩
section
variable {H A B : Heap} {cap fb : Nat} {s : Sl} {ps : List Nat}
theorem drop1_ok [Tab] {q : Nat} {c1 c2 : Array Value} {K : Bool → Heap → Prop} (hc : RowT H cap Yal #[.pointer (at0 fb)]) (hq : RowT H q Yaz c1) (hf : RowT H fb Yaz c2) (hK : K (decide (q = fb)) H) : ZbI.sp (at0 q) ⟨cap, 0, none⟩ H K := by
 refine ZbI.of ?_
 unfold ZbI.vc
 refine ldp (c := cPtr) (x := at0 fb) hc ?_
 obtain ⟨i, hi, hz⟩ := file_info
 refine ⟨decide (q = fb), fun w hw => ?_, hK⟩
 subst hw
 by_cases h : q = fb
 ·subst h
  have := run_eql_ptr_same w ⟨q, 0, none⟩ fptr_type hi
  simp [eqGuard, at0, this]
 ·have := run_eql_ptr_other w (a := ⟨q, 0, none⟩) (b := ⟨fb, 0, none⟩) fptr_type hi (by omega) (fun e => h (congrArg Addr.block e)) hq hf
  rw [decide_eq_false h]
  simp [eqGuard, at0, this]
theorem fptr_ld [Tab] (h : Owns H 0 Yal 1 s (ps.map ptrV)) {i : Nat} {q : Nat} (hi : ps[i]? = some q) {z : Int} (hz : z = (i : Int)) {K : Addr → Option Addr → Prop} (hK : ∀ ad, s.a = some ad → K ad (at0 q)) :
  optK s.a fun a => (0 ≤ z ∧ z < (s.n : Int)) ∧ ld cPtr H (a.add (z.toNat * 1)) fun v => K a v := by
 subst hz
 have hil := (List.getElem?_eq_some_iff.1 hi).1
 have hn : s.n = ps.length := by have := h.1; simp at this; omega
 obtain ⟨ad, ha, hc⟩ := h.reads.at (i := i) (by rw [List.length_map]; exact hil)
 refine optK_mk ad ha ⟨⟨by omega, by omega⟩, at0 q, ?_, hK ad ha⟩
 rw [Int.toNat_natCast, Nat.mul_one, hc]
 have : ps[i] = q := (List.getElem?_eq_some_iff.1 hi).2
 simp [this]
 rfl
def selF (fb : Nat) (q : Nat) : Bool := decide (q ≠ fb)
theorem fIndex_ok [Tab] {K : Int → Heap → Prop} (h : Owns H 0 Yal 1 s (ps.map ptrV)) (hc : RowT H cap Yal #[.pointer (at0 fb)]) (hl : ps.length ≤ 1048576) (hall : ∀ q ∈ ps, ∃ cs, RowT H q Yaz cs) {c2 : Array Value} (hfb : RowT H fb Yaz c2)
  (hN : ps.filter (selF fb) = ps → K (-1) H) (hF : ∀ i, i < ps.length → (ps.take i).filter (selF fb) = ps.take i → (∃ q, ps[i]? = some q ∧ selF fb q = false) → K (i : Int) H) : Zam.sp s ⟨cap, 0, none⟩ H K := by
 refine Zam.of ?_
 unfold Zam.vc
 have hn : s.n = ps.length := by have := h.1; simp at this; omega
 refine loop_upto ps.length (fun k x H1 => H = H1 ∧ x = (k : Int) ∧ (ps.take k).filter (selF fb) = ps.take k) ⟨rfl, rfl, by simp⟩ ?_
 rintro k _ _ next hk' ⟨rfl, rfl, hf⟩ hnext
 refine br_mk (fun hc' => ?_) (fun hc' => ?_)
 ·have hlt : k < ps.length := by rw [hn] at hc'; simpa using hc'
  have hq : ps[k]? = some ps[k] := List.getElem?_eq_getElem hlt
  refine fptr_ld h hq rfl fun ad ha => ?_
  obtain ⟨c1, r1⟩ := hall _ (List.getElem_mem hlt)
  refine drop1_ok hc r1 hfb ?_
  by_cases hs : ps[k] = fb
  ·exact br_t (decide_eq_true hs) (hF k hlt hf ⟨_, hq, decide_eq_false fun u => u hs⟩)
  ·refine br_f (decide_eq_false hs) (hnext hlt _ _ ⟨rfl, succ64 k (by omega), ?_⟩)
   rw [List.take_succ_eq_append_getElem hlt, List.filter_append, hf]
   have : selF fb ps[k] = true := decide_eq_true hs
   simp [this]
 ·have hge : k = ps.length := by rw [hn] at hc'; simp at hc'; omega
  rw [hge, List.take_of_length_le (Nat.le_refl _)] at hf
  exact hN hf
end
theorem zeroFP : ∀ w : World, (zeroValue Yal).run Tryz.prog w = .ok (.pointer none) w := Tryz.zeroValue64
theorem elFPI : Tryz.prog.underlying Yaf = some (.slice Yal) := by kernel_rfl
theorem fdoT_clear [Tab] {H : Heap} {s : Sl} {ps : List Nat} {lo : Nat} {ty : TypeId} {K : Value → Heap → Prop} (h : SlE EPtr Yal H s ps) (hlo : lo < ps.length)
  (hK : ∀ v H', SlE EPtr Yal H' (Sl.mk s.a lo s.c) (ps.take lo) → Mod (ownB s) H H' → K v H') :
  doT cRaw Tryz.prog (Builtin.clear_ #[Yaf] ty #[(.slice (slA s.a s.c lo 1) (s.n - lo) (s.c - lo))]) H K := by
 intro w hw
 subst hw
 have hn := h.n (by decide)
 rcases h.2 with ⟨e1, e2⟩ | ⟨g, cap, cur, e1, hb, hg, h4, h5, h6, h7⟩
 ·omega
 ·cases s with
  | mk sa sn sc =>
  simp only [Sl.v, Value.slice.injEq] at e1
  obtain ⟨rfl, _, rfl⟩ := e1
  simp only at hn h4 h7 hK ⊢
  have hE1 : EPtr.size = 1 := rfl
  rw [hE1, Nat.mul_one] at h6 h7
  have ea : slA (some ⟨g, 0, none⟩) sc lo 1 = some ⟨g, lo, none⟩ := by
   unfold slA
   rw [if_neg (by omega)]
   simp [add_lit0]
  rw [ea]
  have hr := Lib.run_clear_slice (P := Tryz.prog) w Yaf Yal ty (.pointer none) elFPI zeroFP rfl rfl g lo (sn - lo) (sc - lo) (by omega) (fun j hj => by simp [World.cell?, hg]; omega) (fun j hj => by simp [World.frozen?, hg])
  rw [setCells_row (P := Tryz.prog) hg (by simp; omega) (by intro v hv; rw [List.eq_of_mem_replicate hv]; rfl)] at hr
  have hown : ∀ k, ownB (Sl.mk (some ⟨g, 0, none⟩) sn sc) k ↔ k = g := fun k => ⟨fun ⟨ad, h1, h2⟩ => by cases h1; exact h2.symm, fun h => ⟨_, rfl, h.symm⟩⟩
  refine ⟨_, _, hr, ⟨_, rfl, hK _ _ ?_ ⟨by simp [World.setRow], fun k _ hk => setRow_other w g k _ (fun e => hk ((hown k).2 e))⟩⟩, ⟨rfl, Nat.le_refl _⟩⟩
  refine ⟨by rw [EPtr_all]; simp [hE1]; omega, .inr ⟨g, sc, _, rfl, Nat.zero_le _, setRow_heap w g cur _ _ _ hg, by simp only; omega, h5, ?_, ?_⟩⟩
  ·simp only [hE1, Nat.mul_one, List.size_toArray, List.length_append, List.length_take, List.length_replicate, List.length_drop, Array.length_toList]
   omega
  ·simp only [hE1, Nat.mul_one]
   rw [List.append_assoc, List.take_append_of_le_length (by simp; omega), List.take_take, Nat.min_self]
   have e1 : EPtr.all (ps.take lo) = (EPtr.all ps).take lo := by rw [EPtr_all, EPtr_all, List.map_take]
   rw [e1, ← h7, List.take_take, Nat.min_eq_left (by omega)]
theorem fDelete_ok [Tab] {H : Heap} {cap fb : Nat} {s : Sl} {ps : List Nat} {c2 : Array Value} {K : Sl → Heap → Prop} (h : SlE EPtr Yal H s ps) (hc0 : RowT H cap Yal #[.pointer (at0 fb)]) (hall : ∀ q ∈ ps, ∃ cs, RowT H q Yaz cs) (hfb : RowT H fb Yaz c2) (hl : ps.length ≤ 1048576) (hcap : ∀ b, ownB s b → b ≠ cap)
  (hK : ∀ s' H', SlE EPtr Yal H' s' (ps.filter (selF fb)) → Mod (ownB s) H H' → (∀ b, ownB s' b → ownB s b) → K s' H') : Zak.sp s ⟨cap, 0, none⟩ H K := by
 refine Zak.of ?_
 unfold Zak.vc
 have hn := h.n (by decide)
 have hcp := Owns.cap h
 refine fIndex_ok (EPtr_all ps ▸ h) hc0 hl hall hfb (fun hall => br_t rfl (hK s H (by rw [hall]; exact h) (.refl _ _) fun _ q => q)) (fun i hi hpre hno => ?_)
 refine br_f (by simp) ?_
 have keepK : ∀ {A : Heap}, Mod (ownB s) H A → RowT A cap Yal #[.pointer (at0 fb)] ∧ (∀ q ∈ ps, ∃ cs, RowT A q Yaz cs) ∧ RowT A fb Yaz c2 := by
  intro A hM
  have nf : ∀ {x : Nat} {cs : Array Value}, RowT H x Yaz cs → ¬ ownB s x := fun {x cs} r hb => by
   obtain ⟨c, e⟩ := h.obj x hb
   exact absurd (cells_ty r e) (by decide)
  refine ⟨hc0.mod hM fun q => hcap cap q rfl, fun q hq => ?_, hfb.mod hM (nf hfb)⟩
  obtain ⟨cs, r⟩ := hall q hq
  exact ⟨cs, r.mod hM (nf r)⟩
 obtain ⟨q0, hq0, hs0⟩ := hno
 have hw0 : IntKind.i64.wrap ((i : Int) + 1) = ((i + 1 : Nat) : Int) := succ64 i (by omega)
 rw [hw0]
 refine ⟨Nat × Nat × List Nat, fun t z A => z = ((t.1 : Int), (t.2.1 : Int)) ∧ SlE EPtr Yal A s t.2.2 ∧ t.2.2.length = ps.length ∧ t.2.2.take t.1 = (ps.take t.2.1).filter (selF fb) ∧ t.2.2.drop t.2.1 = ps.drop t.2.1 ∧ t.1 < t.2.1 ∧ t.2.1 ≤ ps.length ∧ Mod (ownB s) H A, fun t => ps.length - t.2.1, ⟨(i, i + 1, ps), rfl, h, rfl, ?_, rfl, Nat.lt_succ_self _, hi, .refl _ _⟩, ?_⟩
 ·show ps.take i = (ps.take (i + 1)).filter (selF fb)
  have hq : ps[i] = q0 := by rw [List.getElem?_eq_getElem hi] at hq0; exact Option.some.inj hq0
  rw [List.take_succ_eq_append_getElem hi, List.filter_append, hpre, hq]
  simp [hs0]
 ·rintro ⟨a, j, cur⟩ z A ⟨rfl, o, hlen, htk, hdr, haj, hj, hM⟩
  simp only at o hlen htk hdr haj hj ⊢
  obtain ⟨hcA, hallA, hfbA⟩ := keepK hM
  refine br_mk (fun hc => ?_) (fun hc => ?_)
  ·have hjl : j < ps.length := by rw [hn] at hc; simp at hc; omega
   have hcj : cur[j]? = some ps[j] := by
    have e1 : (cur.drop j)[0]? = (ps.drop j)[0]? := by rw [hdr]
    rw [List.getElem?_drop, List.getElem?_drop, Nat.add_zero, List.getElem?_eq_getElem hjl] at e1
    exact e1
   refine fptr_ld (EPtr_all cur ▸ o) hcj rfl fun ad ha => ?_
   obtain ⟨c1, r1⟩ := hallA _ (List.getElem_mem hjl)
   refine drop1_ok hcA r1 hfbA ?_
   have hdec : decide (ps[j] = fb) = !selF fb ps[j] := by unfold selF; by_cases u : ps[j] = fb <;> simp [u]
   rw [hdec]
   have hwj : IntKind.i64.wrap ((j : Int) + 1) = ((j + 1 : Nat) : Int) := succ64 j (by omega)
   have hdr' : ∀ l : List Nat, l.drop j = ps.drop j → l.drop (j + 1) = ps.drop (j + 1) := by
    intro l e
    have : (l.drop j).drop 1 = (ps.drop j).drop 1 := by rw [e]
    rwa [List.drop_drop, List.drop_drop] at this
   cases hs : selF fb ps[j] with
   | false =>
     refine br_f rfl ⟨(a, j + 1, cur), ⟨by rw [hwj], o, hlen, ?_, hdr' cur hdr, by simp only; omega, hjl, hM⟩, by simp only; omega⟩
     simp only
     rw [List.take_succ_eq_append_getElem hjl, List.filter_append, htk]
     simp [hs]
   | true =>
     refine br_t rfl ?_
     rw [ha]
     refine ⟨⟨by omega, by omega⟩, ?_⟩
     have hal : a < cur.length := by omega
     have hca : cur[a]? = some cur[a] := List.getElem?_eq_getElem hal
     rw [Int.toNat_natCast]
     show st A (Addr.add (Addr.add ad (a * 1)) 0) (ptrV ps[j]) _
     refine SlE.st (i := a) (j := 0) (x := cur[a]) (y := ps[j]) o ha hca (by decide) rfl rfl rfl fun A' o' m' z' => ?_
     have hwa : IntKind.i64.wrap ((a : Int) + 1) = ((a + 1 : Nat) : Int) := succ64 a (by omega)
     refine ⟨(a + 1, j + 1, cur.set a ps[j]), ⟨by rw [hwa, hwj], o', by simp [hlen], ?_, ?_, by simp only; omega, hjl, hM.trans m'⟩, by simp only; omega⟩
     ·simp only
      rw [List.take_succ_eq_append_getElem hjl, List.filter_append, ← htk, List.take_succ_eq_append_getElem (by simp; omega), List.take_set_of_le (Nat.le_refl _)]
      simp [hs]
     ·simp only
      rw [List.drop_set_of_lt (by omega)]
      exact hdr' cur hdr
  ·have hje : j = ps.length := by rw [hn] at hc; simp at hc; omega
   subst hje
   rw [List.take_of_length_le (Nat.le_refl _)] at htk
   refine ⟨⟨by omega, by omega⟩, ?_⟩
   rw [Int.toNat_natCast]
   refine fdoT_clear o (by omega) fun v A' o' m' => ⟨⟨by omega, by omega⟩, ?_⟩
   rw [slA_zero, Nat.sub_zero, Nat.sub_zero]
   rw [htk] at o'
   exact hK _ A' o' (hM.trans m') fun b q => q
noncomputable def goneM (M : Files) (f : HFile) : Files := if f.made then setF M f.name none else M
def goneB (bl : List Nat) (f : HFile) : List Nat := if f.made then bl.filter (selF f.blk) else bl
def DrX (j : Nat) (fs : Sl) (b : Nat) : Prop := b = j ∨ ownB fs b
section
variable {H0 A B : Heap} {F F' : Nat → Prop} {p dp Q U most m j : Nat} {s s' : Pl} {M M' : Files} {f g : HFile} {W : Int} {fs : Sl} {bl : List Nat} {cs0 : Array Value}
set_option maxHeartbeats 1000000 in
set_option maxRecDepth 10000 in
theorem jdrop_ok [Tab] {K : Int → Heap → Prop} (hP : PoolM H0 A F p dp s M Q U most m) (hg : Gl H0) (jo : RowT A j Yaq cs0) (h0 : cs0[0]? = some (.pointer (at0 p))) (h12 : cs0[12]? = some fs.v)
  (fsl : Owns A 0 Yal 1 fs (bl.map ptrV)) (hbl : bl.length ≤ 1000) (hall : ∀ q ∈ bl, ∃ cs, RowT A q Yaz cs) (row : RowT A f.blk Yaz (fileV W f)) (st : Stored M f) (fF : ¬ F f.blk)
  (off : ∀ b, DrX j fs b → H0.size ≤ b ∧ ¬ F b)
  (hK : ∀ F' s' U' fs' B, PoolM H0 B F' p dp s' (goneM M f) Q U' most (m + 2100) → U' ≤ U → RowT B j Yaq (cs0.setIfInBounds 12 fs'.v) → Owns B 0 Yal 1 fs' ((goneB bl f).map ptrV) → Step (fun b => F b ∨ DrX j fs b) (fun b => F' b ∨ DrX j fs' b) A B → (∀ b, DrX j fs' b → H0.size ≤ b ∧ ¬ F' b) → (∀ b, F' b → F b ∨ A.size ≤ b) → K 0 B) : Zck.sp (at0 j) (at0 f.blk) A K := by
 have hjs := (Array.getElem?_eq_some_iff.1 h12).1
 refine Zck.of ?_
 unfold Zck.vc
 simp only [optK_eq, at0]
 refine newC_rowT fun A1 z1 r1 e1 => ?_
 have r1 : RowT A1 A.size Yal #[.pointer (at0 f.blk)] := r1
 refine ldp (c := cPtr) (x := at0 f.blk) r1 ?_
 refine optK_mk ⟨f.blk, 0, none⟩ rfl ?_
 have row1 := row.ext e1
 refine RowT.ld (c := cBool) (i := 1) (x := f.made) row1 rfl ?_
 have P1 := hP.grow e1
 cases hmd : f.made with
 | false =>
   refine br_t rfl (hK F s U fs A1 ?_ (Nat.le_refl _) ?_ ?_ ⟨Ext.mod e1, fun b u => .inl u⟩ off fun b u => .inl u)
   ·unfold goneM
    rw [hmd, if_neg (by simp)]
    exact P1.later (by omega)
   ·rw [set_same h12]; exact jo.ext e1
   ·unfold goneB
    rw [hmd, if_neg (by simp)]
    exact fsl.ext e1
 | true =>
   obtain ⟨x, hM, _⟩ := st.made hmd
   refine br_f rfl ?_
   refine RowT.ld (c := cSl) (i := 12) (x := fs) (jo.ext e1) h12 ?_
   have oF : ∀ b, DrX j fs b → ¬ F b := fun b u => (off b u).2
   have fs1 := fsl.ext e1
   have flt : ∀ b, ownB fs b → b < A.size := fun b hb => (fsl.block b hb).2
   refine fDelete_ok (fb := f.blk) (ps := bl) (by rw [← EPtr_all] at fs1; exact fs1) r1 (fun q hq => (hall q hq).imp fun cs r => r.ext e1) row1 (by omega) (fun b hb => by have := flt b hb; omega) fun fs2 A2 o2 m2 b2 => ?_
   have o2 : Owns A2 0 Yal 1 fs2 ((bl.filter (selF f.blk)).map ptrV) := by rw [← EPtr_all]; exact o2
   have jo2 := (jo.ext e1).mod m2 (own_ne (jo.ext e1) fs1 (by decide))
   refine RowT.st (i := 12) jo2 hjs (by cases fs2; rfl) fun A3 r3 m3 z3 => ?_
   have m13 : Mod (fun b => ownB fs b ∨ b = j) A1 A3 := (m2.mono fun b _ u => .inl u).trans (m3.mono fun b _ u => .inr u)
   have h03 : (cs0.setIfInBounds 12 fs2.v)[0]? = some (.pointer (at0 p)) := by rw [Array.getElem?_setIfInBounds_ne (by decide)]; exact h0
   refine RowT.ld (c := cPtr) (i := 0) (x := at0 p) r3 h03 ?_
   have jl := obj_lt jo
   have p3 : RowT A3 A.size Yal #[.pointer (at0 f.blk)] := r1.mod m13 fun u => u.elim (fun v => by have := flt _ v; omega) fun v => by omega
   refine ldp (c := cPtr) (x := at0 f.blk) p3 ?_
   refine optK_mk ⟨f.blk, 0, none⟩ rfl ?_
   have row3 := row1.mod m13 fun u => u.elim (own_ne row1 fs1 (by decide)) fun v => rowNe row jo (by decide) v
   refine RowT.ld (c := cStr) (i := 0) (x := f.name) row3 rfl ?_
   have offs : ∀ b, (ownB fs b ∨ b = j) → H0.size ≤ b ∧ ¬ F b := fun b u => u.elim (fun v => off b (.inr v)) fun v => off b (.inl v)
   have P3 : PoolM H0 A3 F p dp s M Q U most m := P1.aside ⟨Nat.le_trans P1.ext.size m13.size, fun b hb _ => (m13.same b (Nat.lt_of_lt_of_le hb P1.ext.size) fun u => by have := (offs b u).1; omega).trans (P1.ext.same b hb id)⟩ fun b hb => m13.same b (P1.pool.lt b hb) fun u => (offs b u).2 hb
   refine P3.dropM hg hM fun F4 s4 B P4 S4 => ?_
   have z3' := m13.size
   have oF4 : ∀ b, b < A3.size → ¬ F b → ¬ F4 b := fun b hb h v => (S4.own b v).elim h fun w => by omega
   have fs2b : ∀ b, ownB fs2 b → ownB fs b := b2
   have offX : ∀ b, DrX j fs2 b → H0.size ≤ b ∧ ¬ F4 b := fun b u => by
    rcases u with u | u
    ·exact ⟨(off b (.inl u)).1, oF4 b (by omega) (oF b (.inl u))⟩
    ·have := flt b (fs2b b u)
     exact ⟨(off b (.inr (fs2b b u))).1, oF4 b (by omega) (oF b (.inr (fs2b b u)))⟩
   have o3 : Owns A3 0 Yal 1 fs2 ((bl.filter (selF f.blk)).map ptrV) := o2.mod m3 fun b hb u => own_ne jo2 o2 (by decide) (u ▸ hb)
   have e2 := e1.size
   refine hK F4 s4 (U - x.N) fs2 B ?_ (Nat.sub_le _ _) (r3.mod S4.mod (oF j (.inl rfl))) ?_ ⟨⟨by have := S4.mod.size; omega, fun b hb hn => ?_⟩, fun b u => ?_⟩ offX fun b u => (S4.own b u).imp id fun v => by omega
   ·unfold goneM
    rw [hmd, if_pos rfl]
    exact P4
   ·unfold goneB
    rw [hmd, if_pos rfl]
    exact o3.mod S4.mod fun b hb u => oF b (.inr (fs2b b hb)) u
   ·exact (S4.mod.same b (by omega) fun u => hn (.inl u)).trans ((m13.same b (by omega) fun u => hn (.inr (u.elim .inr .inl))).trans (e1.same b hb id))
   ·rcases u with u | u | u
    ·exact (S4.own b u).imp .inl fun v => by omega
    ·exact .inl (.inr (.inl u))
    ·exact .inl (.inr (.inr (fs2b b u)))
end
section
variable {H0 A B : Heap} {F F' : Nat → Prop} {p dp Q U most m j rb rm W pg : Nat} {s s' : Pl} {M M' : Files} {n : ByteArray} {x : St} {f : HFile} {ins : Sl} {cs0 : Array Value} {L : List (List Int)} {Y : Nat → Prop}
theorem PoolM.look_at [Tab] (h : PoolM H0 A F p dp s M Q U most m) (hM : M n = some x) (hQ : Q ≤ 1048576) (hs : n.size ≤ 9223372036854775807) (hm : m < 30000000000) {k : Nat} (hk : k < x.N) :
  (s.pin n (k : Int)).2.2 = 0 ∧ (s.pin n (k : Int)).1.get (s.pin n (k : Int)).2.1 = ((x.T k).1, (x.T k).2, 0) ∧ ((s.pin n (k : Int)).1.unpin (s.pin n (k : Int)).2.1).2 = 0 ∧ s.d.logs < 68719470000 ∧ s.next < 1099511627776 ∧
  ManyI n M Q (U - x.N) most ((s.pin n (k : Int)).1.unpin (s.pin n (k : Int)).2.1).1 x (m + 1) := by
 have I := h.many hM
 have S := many_store (n := n) (Mo := M) (Q := Q) (R := U - x.N) (most := most) hs hQ
 obtain ⟨l1, l2, l3, l4, _, _⟩ := S.pre I
 rcases S.look (k := k) I hm hk with ⟨a1, a3⟩ | hC
 ·unfold Pl.look at a1 a3
  by_cases e0 : (s.pin n (k : Int)).2.2 = 0
  ·rw [if_neg (by simpa using e0)] at a1 a3
   by_cases e1 : ((s.pin n (k : Int)).1.get (s.pin n (k : Int)).2.1).2.2 = 0
   ·rw [if_neg (by simpa using e1)] at a1 a3
    simp only [Prod.mk.injEq] at a1
    refine ⟨e0, ?_, a1.2.2, by omega, by omega, a3⟩
    rw [← a1.1, ← a1.2.1, ← e1]
   ·rw [if_pos e1] at a1
    have := congrArg (fun z => z.2.2) a1
    exact absurd this e1
  ·rw [if_pos e0] at a1
   have := congrArg (fun z => z.2.2) a1
   exact absurd this e0
 ·exact hC.elim
def rdrV (fb : Nat) (pg : Nat) (ins : Sl) : Array Value := #[.pointer (at0 fb), .int .i64 (pg : Int), ins.v]
set_option maxHeartbeats 2000000 in
set_option maxRecDepth 10000 in
theorem read_ok [Tab] {K : (Sl × Bool × Int) → Heap → Prop} (hP : PoolM H0 A F p dp s M Q U most m) (hg : Gl H0) (hQ : Q ≤ 1048576) (hm : m + 1 < 30000000000) (jo : RowT A j Yaq cs0) (h0 : cs0[0]? = some (.pointer (at0 p))) (jF : ¬ F j)
  (rd : RowT A rb Yas (rdrV f.blk pg ins)) (rF : H0.size ≤ rb ∧ ¬ F rb) (rows : RowsX (fun b => Y b ∨ F b) A ins L) (hcap : ins.n ≤ ins.c) (hY : ∀ b, Y b → b < A.size) (hYr : Y rb)
  (ff : RowT A f.blk Yaz (fileV W f)) (fF : ¬ F f.blk) (st : Stored M f) (ok : FOK rm W f) (hpg : pg ≤ f.cs.length) (hW : W ≤ 16) (hlen : ∀ c ∈ f.cs, (hB c).length ≤ 504) (hcs : f.cs.length ≤ 1000000) (hsn : f.name.size ≤ 9223372036854775807)
  (hK0 : L = [] → pg = f.cs.length → K (Sl.mk none 0 0, false, 0) A)
  (hK1 : ∀ l L' pg' ins' y B F' s', L ++ (f.cs.drop pg).flatten = l :: (L' ++ (f.cs.drop pg').flatten) → PoolM H0 B F' p dp s' M Q U most (m + 1) → RowT B rb Yas (rdrV f.blk pg' ins') → RowsX (fun b => Y b ∨ F' b) B ins' L' → ins'.n ≤ ins'.c → pg' ≤ f.cs.length → Ints .u64 B y l → (∀ ad, y.a = some ad → ad.block < B.size ∧ ¬ (Y ad.block ∨ F' ad.block)) → Step (fun b => F b ∨ b = rb) (fun b => F' b ∨ b = rb) A B → (∀ b, F' b → F b ∨ A.size ≤ b) → K (y, true, 0) B) : Zcg.sp (at0 j) (at0 rb) A K := by
 have jr : j ≠ rb := rowNe jo rd (by decide)
 have fr : f.blk ≠ rb := rowNe ff rd (by decide)
 refine Zcg.of ?_
 unfold Zcg.vc
 simp only [optK_eq, at0]
 -- the row that is told, out of those in memory
 have tell : ∀ {B : Heap} {F1 : Nat → Prop} {s1 : Pl} {m1 : Nat} {L1 : List (List Int)} {l : List Int} {pg1 : Nat} {i1 : Sl}, PoolM H0 B F1 p dp s1 M Q U most m1 → m1 ≤ m + 1 → RowT B rb Yas (rdrV f.blk pg1 i1) → ¬ F1 rb → RowsX (fun b => Y b ∨ F1 b) B i1 (l :: L1) → i1.n ≤ i1.c → pg1 ≤ f.cs.length → L ++ (f.cs.drop pg).flatten = l :: (L1 ++ (f.cs.drop pg1).flatten) → Step (fun b => F b ∨ b = rb) (fun b => F1 b ∨ b = rb) A B → (∀ b, F1 b → F b ∨ A.size ≤ b) →
   ld cSl B (Addr.add ⟨rb, 0, none⟩ 2) fun (x_18 : Sl) => optK x_18.a fun a_25 => (0 ≤ (0 : Int) ∧ (0 : Int) < (x_18.n : Int)) ∧ ld cSl B (a_25.add ((0 : Int).toNat * 1)) fun (l : Sl) => ld cSl B (Addr.add ⟨rb, 0, none⟩ 2) fun (x_19 : Sl) => (0 ≤ (1 : Int) ∧ (1 : Int) ≤ (x_19.n : Int)) ∧ Go.Proofs.YtkehfflpbpdokaaGreat.st B (Addr.add ⟨rb, 0, none⟩ 2) (.slice (slA x_19.a x_19.c ((1 : Int).toNat) 1) (x_19.n - ((1 : Int).toNat)) (x_19.c - ((1 : Int).toNat))) fun H13 => K (l, true, (0 : Int)) H13 := by
  intro B F1 s1 m1 L1 l pg1 i1 P1 hm1 rd1 rF1 rows1 hc1 hpg1 hL S1 hF1
  have hn1 := rows1.len
  have hn1 : i1.n = L1.length + 1 := hn1
  refine RowT.ld (c := cSl) (i := 2) (x := i1) rd1 rfl ?_
  obtain ⟨ad, r, q1, q2, q3, q4⟩ := rows1.at' 0 (by simp)
  refine optK_mk ad q1 ⟨⟨Int.le_refl _, by omega⟩, r, by simpa using q2, ?_⟩
  refine RowT.ld (c := cSl) (i := 2) (x := i1) rd1 rfl ?_
  refine ⟨⟨by decide, by omega⟩, ?_⟩
  have e1 : ((1 : Int).toNat) = 1 := rfl
  rw [e1]
  refine RowT.st (i := 2) (v := Sl.v ⟨slA i1.a i1.c 1 1, i1.n - 1, i1.c - 1⟩) rd1 (by simp [rdrV]) rfl fun C rC mC zC => ?_
  have drop := rows1.drop hc1 (i := 1) (by simp)
  have mY : Mod (fun b => Y b ∨ F1 b) B C := mC.mono fun b _ u => .inl (u ▸ hYr)
  have PC : PoolM H0 C F1 p dp s1 M Q U most (m + 1) := (P1.later hm1).aside ⟨Nat.le_trans P1.ext.size mC.size, fun b hb _ => (mC.same b (Nat.lt_of_lt_of_le hb P1.ext.size) fun u => by have := rF.1; omega).trans (P1.ext.same b hb id)⟩ fun b hb => mC.same b (P1.pool.lt b hb) fun u => rF1 (u ▸ hb)
  refine hK1 l L1 pg1 ⟨slA i1.a i1.c 1 1, i1.n - 1, i1.c - 1⟩ r C F1 s1 hL PC rC (drop.mod mY) (by show i1.n - 1 ≤ i1.c - 1; omega) hpg1 (q4.mod mY fun a ha => (q3 a ha).2) (fun a ha => ⟨by have := (q3 a ha).1; omega, (q3 a ha).2⟩) (S1.trans ⟨mC.mono fun b _ u => .inr u, fun b u => .inl u⟩) hF1
 refine loop_upto 1 (fun i _ B => (i = 0 ∧ B = A) ∨ (i = 1 ∧ ∃ F1 s1 L1 l pg1 i1, PoolM H0 B F1 p dp s1 M Q U most (m + 1) ∧ RowT B rb Yas (rdrV f.blk pg1 i1) ∧ ¬ F1 rb ∧ RowsX (fun b => Y b ∨ F1 b) B i1 (l :: L1) ∧ i1.n ≤ i1.c ∧ pg1 ≤ f.cs.length ∧ L ++ (f.cs.drop pg).flatten = l :: (L1 ++ (f.cs.drop pg1).flatten) ∧ Step (fun b => F b ∨ b = rb) (fun b => F1 b ∨ b = rb) A B ∧ ∀ b, F1 b → F b ∨ A.size ≤ b)) (.inl ⟨rfl, rfl⟩) ?_
 rintro i _ B next hi (⟨rfl, rfl⟩ | ⟨rfl, F1, s1, L1, l, pg1, i1, P1, rd1, rF1, rows1, hc1, hpg1, hL, S1, hF1⟩) hnext
 ·refine RowT.ld (c := cSl) (i := 2) (x := ins) rd rfl ?_
  have hin := rows.len
  rcases L with _ | ⟨l, L1⟩
  ·have hin : ins.n = 0 := hin
   refine br_t (by rw [hin]; rfl) ?_
   refine RowT.ld (c := cInt .i64) (i := 1) (x := (pg : Int)) rd rfl ?_
   refine RowT.ld (c := cPtr) (i := 0) (x := at0 f.blk) rd rfl ?_
   refine optK_mk ⟨f.blk, 0, none⟩ rfl ?_
   refine RowT.ld (c := cInt .i64) (i := 4) (x := (f.cs.length : Int)) ff rfl ?_
   refine br_mk (fun hc => ?_) (fun hc => ?_)
   ·have hc : (pg : Int) = (f.cs.length : Int) := by simpa using hc
    exact hK0 rfl (by omega)
   ·have hc : ¬ (pg : Int) = (f.cs.length : Int) := by simpa using hc
    have hlt : pg < f.cs.length := by omega
    -- the page is looked at
    have hmade : f.made = true := by
     cases h : f.made with
     | true => rfl
     | false =>
       have := (st.none h).2
       rw [this] at hlt
       exact absurd hlt (Nat.not_lt_zero _)
    obtain ⟨x, hM, px1, px2⟩ := st.made hmade
    obtain ⟨a1, a2, a3, llogs, lnext, aI⟩ := hP.look_at hM hQ hsn (by omega) (k := pg) (by omega)
    rw [px2 pg hlt] at a2
    obtain ⟨hc1, hc2⟩ := ok.cs _ (List.getElem_mem hlt)
    have hcl := hlen _ (List.getElem_mem hlt)
    have hcw : ∀ z ∈ f.cs[pg], z.length = W ∧ fitsL z := fun z hz => ok.rows z (List.mem_append.2 (.inl (List.mem_flatten.2 ⟨_, List.getElem_mem hlt, hz⟩)))
    obtain ⟨g1, g2⟩ := read_again hW (fun z hz => (hcw z hz).1) fun z hz => (hcw z hz).2
    have lo := hP.lo
    refine RowT.ld (c := cPtr) (i := 0) (x := at0 p) jo h0 ?_
    refine RowT.ld (c := cPtr) (i := 0) (x := at0 f.blk) rd rfl ?_
    refine optK_mk ⟨f.blk, 0, none⟩ rfl ?_
    refine RowT.ld (c := cStr) (i := 0) (x := f.name) ff rfl ?_
    refine RowT.ld (c := cInt .i64) (i := 1) (x := (pg : Int)) rd rfl ?_
    refine Pin_ok (hP.gl hg) hP.pool hsn (by omega) (by omega) (by omega) (by omega) fun F1 B1 p1 S1 => ?_
    have hg1 : Gl B1 := (hP.gl hg).mod S1.mod hP.pool.glob
    have jo1 := jo.mod S1.mod jF
    have rd1 := rd.mod S1.mod rF.2
    have ff1 := ff.mod S1.mod fF
    refine br_f (by show ((s.pin f.name (pg : Int)).2.2 != 0) = false; rw [a1]; rfl) ?_
    refine RowT.ld (c := cPtr) (i := 0) (x := at0 p) jo1 h0 ?_
    refine Get_ok p1 fun sl B2 o2 e2 b2 => ?_
    rw [a2] at o2
    rw [a2]
    refine br_t rfl ?_
    have jo2 := jo1.ext e2
    refine RowT.ld (c := cPtr) (i := 0) (x := at0 p) jo2 h0 ?_
    have hn1 : (s.pin f.name (pg : Int)).1.next ≤ s.next + 1 := s.pin_next lo lnext
    refine Unpin_ok (hg1.mod e2 id) (p1.ext e2) (by omega) fun F3 B3 p3 S3 => ?_
    rw [a3]
    refine br_t rfl ?_
    have S13 : Step F F3 B B3 := (S1.trans ⟨Ext.mod e2, fun b u => .inl u⟩).trans S3
    have hp3 := hP.goes aI p3 S13 hP.old (fun b hb => hb)
    have hN := hP.calm.told.N_le hM
    rw [setF_id hM, show x.N + (U - x.N) = U by omega] at hp3
    have rd3 := rd.mod S13.mod rF.2
    have ff3 := ff.mod S13.mod fF
    have jF3 : ∀ k, k < B.size → ¬ F k → ¬ F3 k := fun k hk h v => (S13.own k v).elim h fun w => by omega
    refine RowT.ld (c := cPtr) (i := 0) (x := at0 f.blk) rd3 rfl ?_
    refine optK_mk ⟨f.blk, 0, none⟩ rfl ?_
    refine RowT.ld (c := cInt .i64) (i := 2) (x := (W : Int)) ff3 rfl ?_
    have o2' : Owns B2 0 YaL 1 sl ((f.cs[pg].flatMap putL).map (Value.int .u8)) := by
     rw [← u8i_hB, u8i_vals, ← EB_all]
     exact o2
    have z1 := S1.mod.size
    have ob3 : Owns B3 0 YaL 1 sl ((f.cs[pg].flatMap putL).map (Value.int .u8)) := o2'.mod S3.mod fun k hk u => by
     have := b2 k hk
     have := p1.lt k u
     omega
    have hlb : (f.cs[pg].flatMap putL).length = (hB f.cs[pg]).length := by rw [← u8i_hB]; unfold u8i; rw [List.length_map]
    refine rowGet_ok ob3.ints (Owns.cap ob3) (fun z hz => ?_) (by omega) fun sr rs B4 ro e4 => ?_
    ·obtain ⟨l, _, hz⟩ := List.mem_flatMap.1 hz
     exact putL_range l z hz
    rw [g1] at ro
    rw [g2]
    have rd4 := rd3.ext e4
    refine RowT.st (i := 2) rd4 (by simp [rdrV]) (by cases sr; rfl) fun B5 r5 m5 z5 => ?_
    refine br_f rfl ?_
    refine RowT.ld (c := cInt .i64) (i := 1) (x := (pg : Int)) r5 rfl ?_
    rw [succ64 pg (by omega)]
    refine RowT.st (i := 1) r5 (by simp [rdrV]) rfl fun B6 r6 m6 z6 => ?_
    have r6 : RowT B6 rb Yas (rdrV f.blk (pg + 1) sr) := r6
    have m46 : Mod (fun k => k = rb) B4 B6 := m5.trans m6
    have z4 := e4.size
    have z3 := S13.mod.size
    have hrb := obj_lt rd
    have P6 : PoolM H0 B6 F3 p dp _ M Q U most (m + 1) := (hp3.grow e4).aside ⟨by have := hp3.ext.size; have := m46.size; omega, fun b hb _ => (m46.same b (by have := hp3.ext.size; omega) fun u => by have := rF.1; omega).trans ((hp3.grow e4).ext.same b hb id)⟩ fun b hb => m46.same b ((hp3.grow e4).pool.lt b hb) fun u => jF3 rb hrb rF.2 (u ▸ hb)
    have rows4 : RowsX (fun b => Y b ∨ F3 b) B4 sr f.cs[pg] := RowsX.ofOwn ro fun k hk u => u.elim (fun v => by have := hY k v; omega) fun v => by have := hp3.pool.lt k v; omega
    have rows6 : RowsX (fun b => Y b ∨ F3 b) B6 sr f.cs[pg] := rows4.mod (m46.mono fun b _ u => .inl (u ▸ hYr))
    obtain ⟨l, L1, hl⟩ : ∃ l L1, f.cs[pg] = l :: L1 := by
     cases h : f.cs[pg] with
     | nil => exact absurd h hc1
     | cons l L1 => exact ⟨l, L1, rfl⟩
    rw [hl] at rows6
    refine hnext (by decide) _ _ (.inr ⟨rfl, F3, _, L1, l, pg + 1, sr, P6, r6, jF3 rb hrb rF.2, rows6, Owns.cap ro.out, hlt, ?_, ?_, fun b u => S13.own b u⟩)
    ·rw [List.nil_append, List.drop_eq_getElem_cons hlt, List.flatten_cons, hl]
     rfl
    ·exact ⟨((S13.mod.mono fun b _ u => .inl u).trans (Ext.mod e4)).trans (m46.mono fun b _ u => .inr u), fun b u => u.elim (fun v => (S13.own b v).imp .inl id) fun v => .inl (.inr v)⟩
  ·refine br_f (by
    refine beq_eq_false_iff_ne.2 ?_
    have : ins.n = L1.length + 1 := hin
    omega) ?_
   exact tell hP (Nat.le_succ m) rd rF.2 rows hcap hpg rfl (.refl _ _) fun b u => .inl u
 ·refine RowT.ld (c := cSl) (i := 2) (x := i1) rd1 rfl ?_
  have hin : i1.n = L1.length + 1 := rows1.len
  refine br_f (by
   refine beq_eq_false_iff_ne.2 ?_
   omega) ?_
  exact tell P1 (Nat.le_refl _) rd1 rF1 rows1 hc1 hpg1 hL S1 hF1
end
end Go.Proofs.YtkehfflpbpdokaaGreat
