/-
 The disk: copies of pages, Sync, a page put, Write.
-/
import Derived.Test.YtkehfflpbpdokaaGreatDkd
namespace Go.Proofs.YtkehfflpbpdokaaGreat
open Go.MapKept
theorem elSheet : ElT Tryz.prog Yaj Yat EPg.size 512 := ElT_of (by kernel_rfl)
theorem elMark : ElT Tryz.prog Yan YaF EMk.size 528 := ElT_of (by kernel_rfl)
theorem zc_sheet : (zc Tryz.prog Yat).toList = EPg.enc pg0 := by kernel_rfl
theorem put_ok {l : Sl} {ps : List Pg} {page : Nat} {no : Int} {b : Pg} {H : Heap} {K : Sl → Heap → Prop} (h : SlE EPg Yat H l ps) (hlen : ps.length ≤ 2097152) (hpage : page < 2097152)
  (hK : ∀ l' H', SlE EPg Yat H' l' (putP ps ⟨no, page, b⟩) → Grown l l' H H' → K l' H') : Zdm.sp l page (pgV b.1).toArray H K := by
 refine Zdm.of ?_
 unfold Zdm.vc
 refine newC_rowT fun H1 s1 r1 m1 => ?_
 have own0 := h.lt
 refine ⟨Nat, fun k l1 H2 => SlE EPg Yat H2 l1 (ps ++ List.replicate k pg0) ∧ k ≤ page + 1 - ps.length ∧ Mod (ownB l) H1 H2 ∧ (∀ b, ownB l1 b → ownB l b ∨ H1.size ≤ b), fun k => page + 1 - ps.length - k, ⟨0, by simpa using Owns.ext h m1, Nat.zero_le _, .refl _ _, fun b hb => .inl hb⟩, ?_⟩
 rintro k l1 H2 ⟨o2, hk, m2, f2⟩
 have hn : l1.n = ps.length + k := by rw [SlE.n o2 (by decide)]; simp
 refine br_mk (fun hc => ?_) (fun hc => ?_)
 ·have hc' : l1.n ≤ page := by simpa using hc
  refine SlE.pushB (E := EPg) elSheet (x := pg0) (cs := zc Tryz.prog Yat) o2 zc_sheet (by decide) (by simp; omega) (by simp; omega) fun s' H' o' g' _ => ?_
  refine ⟨k + 1, ⟨?_, by omega, ?_, ?_⟩, by show _ - _ < _ - _; omega⟩
  ·rw [List.append_assoc, ← List.replicate_succ'] at o'; exact o'
  ·grind [Mod]
  ·grind [Mod]
 ·have hc' : page < l1.n := by simpa using hc
  have hp : RowT H2 H.size Yat (pgV b.1).toArray := r1.mod m2 (fun hb => by have := own0 _ hb; omega)
  refine hp.ldA (c := cArr) (x := (pgV b.1).toArray) rfl (by simp [pgV, b.2]) ?_
  obtain ⟨ad, ha⟩ := RdE.addr o2.rd (by decide) (by simp; omega)
  rw [ha]
  refine ⟨⟨by omega, by omega⟩, ?_⟩
  refine SlE.stAt (E := EPg) o2 ha (i := page) (y := b) (by simp; omega) (by simp [EPg]) (by kernel_rfl) (by simp [EPg]) fun H3 o3 m3 s3 => ?_
  have hkk : k = page + 1 - ps.length := by omega
  refine hK l1 H3 (by unfold putP; rw [← hkk]; exact o3) ⟨?_, ?_⟩
  ·grind [Mod]
  ·grind [Mod]
end Go.Proofs.YtkehfflpbpdokaaGreat
