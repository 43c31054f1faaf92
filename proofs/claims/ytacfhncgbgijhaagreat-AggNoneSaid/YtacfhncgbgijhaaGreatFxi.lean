/-
 Ground, ninth text: maps.
-/
import Derived.Test.YtacfhncgbgijhaaGreatFxg
import Derived.ProofKit
namespace Go.Proofs.YtacfhncgbgijhaaGreat
open Go.MapKept
structure MapAt (d : TypeDesc) (H : Heap) (r : Nat) (es : Array MapEntry) (clk : Nat) : Prop where
 obj : H[r]? = some (.map es clk)
 stamped : Stamped es clk
 keys : ∀ x ∈ es.toList, IsKey d x.key
def HasE (es : Array MapEntry) (k v : Value) : Prop := ∃ e ∈ es.toList, e.key = k ∧ e.val = v
theorem MapAt.lt {d : TypeDesc} {H : Heap} {r : Nat} {es : Array MapEntry} {clk : Nat} (h : MapAt d H r es clk) : r < H.size := (Array.getElem?_eq_some_iff.1 h.obj).1
theorem MapAt.new (d : TypeDesc) (H : Heap) : MapAt d (H.push (.map #[] 0)) H.size #[] 0 := ⟨by simp, stamped_empty 0, by simp⟩
section
variable {P : Program} {t kt et : TypeId} {d : TypeDesc} {H : Heap} {r : Nat} {es : Array MapEntry} {clk : Nat} {k : Value}
theorem rdV_lookup {z : Value} {inf : TypeInfo} (ht : P.underlying t = some (.map kt et)) (hd : P.underlying kt = some d) (hi : P.info? et = some inf) (hz : inf.zero = some z) (hm : MapAt d H r es clk) (hk : IsKey d k) {c : Cod} {K : c.α → Prop}
  (hfound : ∀ v, HasE es k v → ∃ x : c.α, c.enc x = .tuple #[v, .bool true] ∧ K x) (hnone : (∀ v, ¬ HasE es k v) → ∃ x : c.α, c.enc x = .tuple #[z, .bool false] ∧ K x) :
  rdV c P (Instr.lookup t (.map (some r)) k true) H K := by
 have hck : ∀ (e : Bool) (w : World), (Instr.checkKey e 10000 kt k).run P w = .ok () w := fun e w => run_checkKey hd hk e 9999
 rcases findNow_spec hk es.toList 0 hm.keys with ⟨h1, h2⟩ | ⟨j, e, h1, h2, h3⟩
 ·obtain ⟨x, hx, hK⟩ := hnone (fun v ⟨e, he, hek, _⟩ => h2 e he hek)
  refine ⟨x, fun w hw => ?_, hK⟩
  subst hw
  have hf : (Instr.findKey kt k es.toList).run P w = .ok none w := run_findKey hd h1
  have ho := hm.obj
  rw [hx]
  simp [Instr.lookup, run_underlying ht, getObj, Sem.run, ho, hck, hf, zeroValue, typeInfo, hi, hz]
 ·obtain ⟨x, hx, hK⟩ := hfound e.val ⟨e, List.mem_of_getElem? h2, h3, rfl⟩
  refine ⟨x, fun w hw => ?_, hK⟩
  subst hw
  have hf : (Instr.findKey kt k es.toList).run P w = .ok (some (0 + j, e.val)) w := run_findKey hd h1
  have ho := hm.obj
  rw [hx]
  simp [Instr.lookup, run_underlying ht, getObj, Sem.run, ho, hck, hf]
theorem MapAt.set {H : Heap} {es es' : Array MapEntry} {clk clk' : Nat} (h : MapAt d H r es clk) (hs : Stamped es' clk') (hk : ∀ x ∈ es'.toList, IsKey d x.key) :
  MapAt d (H.setIfInBounds r (.map es' clk')) r es' clk' ∧ Mod (fun b => b = r) H (H.setIfInBounds r (.map es' clk')) :=
 ⟨⟨by simp [h.lt], hs, hk⟩, ⟨by simp, fun b _ hn => Array.getElem?_setIfInBounds_ne (fun e => hn e.symm)⟩⟩
theorem doU_insert {v : Value} {K : Heap → Prop} (ht : P.underlying t = some (.map kt et)) (hd : P.underlying kt = some d) (hm : MapAt d H r es clk) (hk : IsKey d k) (hno : ∀ u, ¬ HasE es k u)
  (hK : ∀ H', MapAt d H' r (es.push { key := k, val := v, born := clk }) (clk + 1) → Mod (fun b => b = r) H H' → H'.size = H.size → K H') : doU P (Instr.mapUpdate t (.map (some r)) k v) H K := by
 intro w hw
 subst hw
 have hb := hm.obj
 rcases findNow_spec hk es.toList 0 hm.keys with ⟨h1, h2⟩ | ⟨j, e, h1, h2, h3⟩
 ·obtain ⟨m1, m2⟩ := hm.set (stamped_push (val := v) hm.stamped h2) (by
   intro x hx
   simp only [Array.toList_push, List.mem_append, List.mem_singleton] at hx
   rcases hx with hx | rfl
   ·exact hm.keys x hx
   ·exact hk)
  refine ⟨(), { w with heap := w.heap.setIfInBounds r (.map (es.push { key := k, val := v, born := clk }) (clk + 1)) }, ?_, hK _ m1 m2 (by simp), (.of_le rfl (Nat.le_refl _))⟩
  simp [Instr.mapUpdate, run_underlying ht, MapKept.run_getObj_map hb, run_checkKey hd hk, run_findKey hd h1, MapKept.run_setObj_map _ hb, Result.andThen]
 ·exact absurd ⟨e, List.mem_of_getElem? h2, h3, rfl⟩ (hno e.val)
theorem doT_delete {ty : TypeId} {K : Value → Heap → Prop} (ht : P.underlying t = some (.map kt et)) (hd : P.underlying kt = some d) (hm : MapAt d H r es clk) (hk : IsKey d k) {t2 : TypeId}
  (hK : ∀ es' H', MapAt d H' r es' clk → (∀ k' v, HasE es' k' v ↔ HasE es k' v ∧ k' ≠ k) → (∀ u, HasE es k u → es'.size + 1 = es.size) → Mod (fun b => b = r) H H' → H'.size = H.size → K (.tuple #[]) H') : doT cRaw P (Builtin.delete_ #[t, t2] ty #[.map (some r), k]) H K := by
 intro w hw
 subst hw
 have hb := hm.obj
 have hck : ∀ (e : Bool) (w : World), (Instr.checkKey e 10000 kt k).run P w = .ok () w := fun e w => run_checkKey hd hk e 9999
 rcases findNow_spec hk es.toList 0 hm.keys with ⟨h1, h2⟩ | ⟨j, e, h1, h2, h3⟩
 ·obtain ⟨m1, m2⟩ := hm.set hm.stamped hm.keys
  refine ⟨.tuple #[], { w with heap := w.heap.setIfInBounds r (.map es clk) }, ?_, ⟨.tuple #[], rfl, hK _ _ m1 (fun k' v => ⟨fun ⟨e, he, q1, q2⟩ => ⟨⟨e, he, q1, q2⟩, by rw [← q1]; exact h2 e he⟩, fun h => h.1⟩) (fun u ⟨e, he, q1, _⟩ => absurd q1 (h2 e he)) m2 (by simp)⟩, (.of_le rfl (Nat.le_refl _))⟩
  simp [Builtin.delete_, run_underlying ht, MapKept.run_getObj_map hb, hck, run_findKey hd h1, MapKept.run_setObj_map _ hb, Result.andThen]
 ·have hj : j < es.toList.length := (List.getElem?_eq_some_iff.1 h2).1
  have hj' : j < es.size := by simpa using hj
  have et' : (es.eraseIdxIfInBounds j).toList = es.toList.eraseIdx j := by
   unfold Array.eraseIdxIfInBounds
   rw [dif_pos hj']; simp
  have hsub : ∀ x ∈ (es.eraseIdxIfInBounds j).toList, x ∈ es.toList := by
   intro x hx; rw [et'] at hx; exact List.mem_of_mem_eraseIdx hx
  obtain ⟨m1, m2⟩ := hm.set (stamped_erase hm.stamped j) (fun x hx => hm.keys x (hsub x hx))
  refine ⟨.tuple #[], { w with heap := w.heap.setIfInBounds r (.map (es.eraseIdxIfInBounds j) clk) }, ?_, ⟨.tuple #[], rfl, hK _ _ m1 (fun k' v => ?_) (fun _ _ => by unfold Array.eraseIdxIfInBounds; rw [dif_pos hj']; simp; omega) m2 (by simp)⟩, (.of_le rfl (Nat.le_refl _))⟩
  ·simp [Builtin.delete_, run_underlying ht, MapKept.run_getObj_map hb, hck, run_findKey hd h1, MapKept.run_setObj_map _ hb, Result.andThen]
  ·have hnd := hm.stamped.2.2
   have huniq : ∀ i x, es.toList[i]? = some x → x.key = k → i = j := by
    intro i x hx hxk
    have hi : i < es.toList.length := (List.getElem?_eq_some_iff.1 hx).1
    have e1 : (es.toList.map (·.key))[i]? = (es.toList.map (·.key))[j]? := by
     rw [List.getElem?_map, List.getElem?_map, hx, h2]; simp [hxk, h3]
    exact (List.getElem?_inj (by simpa using hi) hnd).1 e1
   constructor
   ·rintro ⟨x, hx, q1, q2⟩
    rw [et', List.mem_eraseIdx_iff_getElem?] at hx
    obtain ⟨i, hij, hxi⟩ := hx
    refine ⟨⟨x, List.mem_of_getElem? hxi, q1, q2⟩, fun hkk => hij (huniq i x hxi (by rw [q1]; exact hkk))⟩
   ·rintro ⟨⟨x, hx, q1, q2⟩, hne⟩
    refine ⟨x, ?_, q1, q2⟩
    rw [et', List.mem_eraseIdx_iff_getElem?]
    obtain ⟨i, hxi⟩ := List.mem_iff_getElem?.1 hx
    refine ⟨i, fun hij => ?_, hxi⟩
    subst hij
    rw [h2] at hxi
    cases hxi
    exact hne (by rw [← q1]; exact h3)
end
end Go.Proofs.YtacfhncgbgijhaaGreat
