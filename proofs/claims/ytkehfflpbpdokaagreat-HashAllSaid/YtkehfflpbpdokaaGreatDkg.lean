/-
 The disk: Read, a step's bytes, Copy.
-/
import Derived.Test.YtkehfflpbpdokaaGreatDkf
namespace Go.Proofs.YtkehfflpbpdokaaGreat
open Go.MapKept
def EB : Enc UInt8 := ⟨1, fun x => [.int .u8 (x.toNat : Int)], fun _ => rfl, fun x u hu => by simp at hu; subst hu; rfl⟩
theorem EB_all (b : List UInt8) : EB.all b = pgV b := by
 induction b with
 | nil => rfl
 | cons x b ih =>
   have e1 : EB.all (x :: b) = .int .u8 (x.toNat : Int) :: EB.all b := rfl
   have e2 : pgV (x :: b) = .int .u8 (x.toNat : Int) :: pgV b := rfl
   rw [e1, e2, ih]
theorem elByte : ElT Tryz.prog YaG YaL EB.size 1 := ElT_of (by kernel_rfl)
theorem SlB_byts {H : Heap} {s : Sl} {b : List UInt8} (h : SlE EB YaL H s b) : Byts H s b := by
 have hn := h.n (by decide)
 have hr := h.rd
 unfold RdE at hr
 rw [EB_all, ← u8i_vals] at hr
 exact ⟨by rw [hn]; simp [u8i], hr⟩
theorem CloneByte_ok {s : Sl} {l : List UInt8} {H : Heap} {K : Sl → Heap → Prop} (h : Byts H s l) (hl : l.length ≤ 1099511627776)
  (hK : ∀ s' H', SlE EB YaL H' s' l → Mod (fun _ => False) H H' → (∀ b, ownB s' b → H.size ≤ b) → K s' H') : Zbu.sp s H K := by
 refine Zbu.of ?_
 unfold Zbu.vc
 refine br_mk (fun hn => ?_) (fun hn => ?_)
 ·have : l = [] := by
   cases l with
   | nil => rfl
   | cons x r =>
     obtain ⟨ad, ha, _⟩ := h.addr (by simp)
     rw [ha] at hn; cases hn
  subst this
  exact hK _ H (SlE.nil _ _ _) (.refl _ _) (by rintro b ⟨ad, q, _⟩; cases q)
 ·refine newC_rowT fun H1 s1 r1 m1 => ?_
  have o1 : SlE EB YaL H1 ⟨some ⟨H.size, 0, none⟩, 0, 0⟩ [] := ⟨rfl, .inr ⟨H.size, 0, #[], rfl, Nat.zero_le _, r1, Nat.le_refl _, by unfold maxLen; omega, rfl, rfl⟩⟩
  have hr : RdE EB H1 s.a l := by unfold RdE; rw [EB_all]; exact (h.keep fun ad ha hl => m1.same _ hl id).cells
  refine SlE.append elByte (s := ⟨some ⟨H.size, 0, none⟩, 0, 0⟩) (x := s) o1 hr h.n (by simp; omega) (by simp; omega) fun s' H' o' g' _ => ?_
  refine hK s' H' o' ⟨Nat.le_trans m1.size g'.1.size, fun b hb _ => (g'.1.same b (by omega) ?_).trans (m1.same b hb id)⟩ (fun b hb => ?_)
  ·rintro ⟨ad, e1, e2⟩
   cases e1; have : H.size = b := e2; omega
  ·rcases g'.2 b hb with ⟨ad, e1, e2⟩ | q
   ·cases e1; have : H.size = b := e2; omega
   ·omega
theorem Read_ok {F : Nat → Prop} {d : Nat} {s : Dk} {H : Heap} {n : ByteArray} {page : Int} {K : (Sl × Int) → Heap → Prop} (h : DiskAt F H d s)
  (hK : ∀ r H', SlE EB YaL H' r (s.read n page).1 → Mod (fun _ => False) H H' → (∀ b, ownB r b → H.size ≤ b) → K (r, (s.read n page).2) H') : ZcI.sp (at0 d) n page H K := by
 obtain ⟨x, cin, kp, g, _⟩ := h
 refine ZcI.of ?_
 unfold ZcI.vc
 have err : ∀ e : Int, s.read n page = ([], e) → K (Sl.mk none 0 0, e) H := by
  intro e he
  have := hK (Sl.mk none 0 0) H (by rw [he]; exact SlE.nil _ _ _) (.refl _ _) (by rintro b ⟨ad, q, _⟩; cases q)
  rw [he] at this; exact this
 refine open_ok g (fun hd => ?_) (fun hd hN => ?_) (fun i f gf hd hi hf hn hg hF => ?_)
 ·refine ⟨fun _ _ => False, err 4 ?_, fun _ _ h => h.elim⟩
  unfold Dk.read Dk.open; rw [hd]; rfl
 ·refine ⟨fun _ _ => False, err 11 ?_, fun _ _ h => h.elim⟩
  unfold Dk.read Dk.open; rw [hd, hN]; rfl
 ·have hfile : s.file i = f := Dk.file_eq hf
  have hnow := hF.now.n (by decide)
  have e0 : s.read n page = if page < 0 then ([], (12 : Int)) else match f.pages[page.toNat]? with | some p => (p.1, (0 : Int)) | none => ([], (12 : Int)) := by
   unfold Dk.read Dk.open; rw [hd, hi]; simp [hfile]; rfl
  refine ⟨fun _ H' => H' = H ∧ 0 ≤ page ∧ page < f.pages.length, ?_, ?_⟩
  ·refine br_f rfl ?_
   refine br_mk (fun hp => ?_) (fun hp => ?_)
   ·refine br_t hp (err 12 ?_)
    rw [e0, if_pos (by simpa using hp)]
   ·have hp0 : ¬ page < 0 := by simpa using hp
    refine hF.row.ld (c := cSl) (i := 0) (x := gf.now) rfl ?_
    refine br_mk (fun hp => err 12 ?_) (fun hp => ?_)
    ·simp at hp
     rw [e0, if_neg hp0, List.getElem?_eq_none (by omega)]
    ·simp at hp
     exact ⟨rfl, by omega, by omega⟩
  ·rintro _ H0 ⟨rfl, h1, h2⟩
   obtain ⟨pg, rfl⟩ : ∃ k : Nat, page = k := ⟨page.toNat, by omega⟩
   have hlt : pg < f.pages.length := by omega
   refine hF.row.ld (c := cSl) (i := 0) (x := gf.now) rfl ?_
   obtain ⟨ad, ha⟩ := RdE.addr hF.now.rd (by decide) (by omega)
   rw [ha]
   refine ⟨⟨by omega, by omega⟩, ?_⟩
   have hp : f.pages[pg]? = some f.pages[pg] := List.getElem?_eq_getElem hlt
   have hrow := hF.now.rd.row ha hp
   have hby : Byts H0 ⟨slA (some (ad.add ((pg : Int).toNat * 512))) 512 0 1, 512 - 0, 512 - 0⟩ f.pages[pg].1 := by
    refine ⟨by simp [u8i, f.pages[pg].2], ?_⟩
    rw [u8i_vals, slA_zero]
    intro j v hv
    have hj : j < 512 := by
     have := (List.getElem?_eq_some_iff.1 hv).1
     simpa [pgV, f.pages[pg].2] using this
    refine ⟨_, rfl, ?_⟩
    obtain ⟨cs, e1, e2, e3⟩ := hrow
    have := e3 j hj
    rw [show EPg.size = 512 from rfl] at this
    simp only [Int.toNat_natCast]
    rw [this]
    cases e1
    simp [EPg]; exact hv
   refine CloneByte_ok hby (by have := f.pages[pg].2; omega) fun s' H' o' m' f' => ?_
   have er : s.read n pg = (f.pages[pg].1, 0) := by
    rw [e0, if_neg (by omega)]; simp [hp]
   rw [er] at hK
   exact hK s' H' o' m' f'
end Go.Proofs.YtkehfflpbpdokaaGreat
