/-
 Ground, fourteenth text: maps whose keys are structs (or whatever has the kit's law on keys). The proofs are those of the ninth and the twelfth text.
-/
import Derived.Test.YtkehfflpbpdokaaGreatFxm
import Derived.DeepKeys5
namespace Go.Proofs.YtkehfflpbpdokaaGreat
open Go.MapKept
def KeyW (P : Program) (kt : TypeId) (v : Value) : Prop := ∃ l, Go.keyOf P kt v = some l
structure MapW (P : Program) (kt : TypeId) (H : Heap) (r : Nat) (es : Array MapEntry) (clk : Nat) : Prop where
 obj : H[r]? = some (.map es clk)
 stamped : Stamped es clk
 keys : ∀ x ∈ es.toList, KeyW P kt x.key
theorem MapW.lt {P : Program} {kt : TypeId} {H : Heap} {r : Nat} {es : Array MapEntry} {clk : Nat} (h : MapW P kt H r es clk) : r < H.size := (Array.getElem?_eq_some_iff.1 h.obj).1
theorem MapW.mod {P : Program} {kt : TypeId} {F : Nat → Prop} {H H' : Heap} {r : Nat} {es : Array MapEntry} {clk : Nat} (h : MapW P kt H r es clk) (hm : Mod F H H') (hn : ¬ F r) : MapW P kt H' r es clk :=
 ⟨(hm.same r h.lt hn).trans h.obj, h.stamped, h.keys⟩
theorem MapW.find {P : Program} {kt : TypeId} {H : Heap} {r : Nat} {es : Array MapEntry} {clk : Nat} {k : Value} (hm : MapW P kt H r es clk) (KL : WideMaps.KeyLaw P kt) (hk : KeyW P kt k) :
  ((∀ w : World, (Instr.findKey kt k es.toList).run P w = .ok none w) ∧ ∀ e ∈ es.toList, e.key ≠ k) ∨ ∃ j e, (∀ w : World, (Instr.findKey kt k es.toList).run P w = .ok (some (j, e.val)) w) ∧ es.toList[j]? = some e ∧ e.key = k := by
 obtain ⟨l, hl⟩ := hk
 by_cases hex : ∃ e ∈ es.toList, e.key = k
 ·obtain ⟨e, he, hek⟩ := hex
  obtain ⟨j, hj⟩ := List.mem_iff_getElem?.1 he
  refine .inr ⟨j, e, fun w => ?_, hj, hek⟩
  rcases KL.find w hl es.toList hm.keys with ⟨_, h2⟩ | ⟨j', e', h1, h2, h3⟩
  ·exact absurd hek (h2 e he)
  ·have hjl := (List.getElem?_eq_some_iff.1 hj).1
   have e1 : (es.toList.map (·.key))[j]? = (es.toList.map (·.key))[j']? := by
    rw [List.getElem?_map, List.getElem?_map, hj, h2]; simp [hek, h3]
   have : j = j' := (List.getElem?_inj (by simpa using hjl) hm.stamped.2.2).1 e1
   subst this
   rw [hj] at h2; cases h2
   exact h1
 ·refine .inl ⟨fun w => ?_, fun e he h => hex ⟨e, he, h⟩⟩
  rcases KL.find w hl es.toList hm.keys with ⟨h1, _⟩ | ⟨j', e', h1, h2, h3⟩
  ·exact h1
  ·exact absurd ⟨e', List.mem_of_getElem? h2, h3⟩ hex
section
variable {P : Program} {t kt et : TypeId} {H : Heap} {r : Nat} {es : Array MapEntry} {clk : Nat} {k : Value}
theorem rdV_lookupW {z : Value} {inf : TypeInfo} (ht : P.underlying t = some (.map kt et)) (KL : WideMaps.KeyLaw P kt) (hi : P.info? et = some inf) (hz : inf.zero = some z) (hm : MapW P kt H r es clk) (hk : KeyW P kt k) {c : Cod} {K : c.α → Prop}
  (hfound : ∀ v, HasE es k v → ∃ x : c.α, c.enc x = .tuple #[v, .bool true] ∧ K x) (hnone : (∀ v, ¬ HasE es k v) → ∃ x : c.α, c.enc x = .tuple #[z, .bool false] ∧ K x) :
  rdV c P (Instr.lookup t (.map (some r)) k true) H K := by
 have hck : ∀ (e : Bool) (w : World), (Instr.checkKey e 10000 kt k).run P w = .ok () w := fun e w => KL.check w e hk.choose_spec
 rcases hm.find KL hk with ⟨h1, h2⟩ | ⟨j, e, h1, h2, h3⟩
 ·obtain ⟨x, hx, hK⟩ := hnone (fun v ⟨e, he, hek, _⟩ => h2 e he hek)
  refine ⟨x, fun w hw => ?_, hK⟩
  subst hw
  have hf := h1 w
  have ho := hm.obj
  rw [hx]
  simp [Instr.lookup, run_underlying ht, getObj, Sem.run, ho, hck, hf, zeroValue, typeInfo, hi, hz]
 ·obtain ⟨x, hx, hK⟩ := hfound e.val ⟨e, List.mem_of_getElem? h2, h3, rfl⟩
  refine ⟨x, fun w hw => ?_, hK⟩
  subst hw
  have hf := h1 w
  have ho := hm.obj
  rw [hx]
  simp [Instr.lookup, run_underlying ht, getObj, Sem.run, ho, hck, hf]
theorem MapW.set {H : Heap} {es es' : Array MapEntry} {clk clk' : Nat} (h : MapW P kt H r es clk) (hs : Stamped es' clk') (hk : ∀ x ∈ es'.toList, KeyW P kt x.key) :
  MapW P kt (H.setIfInBounds r (.map es' clk')) r es' clk' ∧ Mod (fun b => b = r) H (H.setIfInBounds r (.map es' clk')) :=
 ⟨⟨by simp [h.lt], hs, hk⟩, ⟨by simp, fun b _ hn => Array.getElem?_setIfInBounds_ne (fun e => hn e.symm)⟩⟩
theorem doU_insertW {v : Value} {K : Heap → Prop} (ht : P.underlying t = some (.map kt et)) (KL : WideMaps.KeyLaw P kt) (hm : MapW P kt H r es clk) (hk : KeyW P kt k) (hno : ∀ u, ¬ HasE es k u)
  (hK : ∀ H', MapW P kt H' r (es.push { key := k, val := v, born := clk }) (clk + 1) → Mod (fun b => b = r) H H' → H'.size = H.size → K H') : doU P (Instr.mapUpdate t (.map (some r)) k v) H K := by
 intro w hw
 subst hw
 have hb := hm.obj
 rcases hm.find KL hk with ⟨h1, h2⟩ | ⟨j, e, h1, h2, h3⟩
 ·obtain ⟨m1, m2⟩ := hm.set (stamped_push (val := v) hm.stamped h2) (by
   intro x hx
   simp only [Array.toList_push, List.mem_append, List.mem_singleton] at hx
   rcases hx with hx | rfl
   ·exact hm.keys x hx
   ·exact hk)
  refine ⟨(), { w with heap := w.heap.setIfInBounds r (.map (es.push { key := k, val := v, born := clk }) (clk + 1)) }, ?_, hK _ m1 m2 (by simp), (.of_le rfl (Nat.le_refl _))⟩
  simp [Instr.mapUpdate, run_underlying ht, MapKept.run_getObj_map hb, KL.check _ _ hk.choose_spec, h1 _, MapKept.run_setObj_map _ hb, Result.andThen]
 ·exact absurd ⟨e, List.mem_of_getElem? h2, h3, rfl⟩ (hno e.val)
theorem doT_deleteW {ty : TypeId} {K : Value → Heap → Prop} (ht : P.underlying t = some (.map kt et)) (KL : WideMaps.KeyLaw P kt) (hm : MapW P kt H r es clk) (hk : KeyW P kt k) {t2 : TypeId}
  (hK : ∀ es' H', MapW P kt H' r es' clk → (∀ k' v, HasE es' k' v ↔ HasE es k' v ∧ k' ≠ k) → (∀ u, HasE es k u → es'.size + 1 = es.size) → Mod (fun b => b = r) H H' → H'.size = H.size → K (.tuple #[]) H') : doT cRaw P (Builtin.delete_ #[t, t2] ty #[.map (some r), k]) H K := by
 intro w hw
 subst hw
 have hb := hm.obj
 have hck : ∀ (e : Bool) (w : World), (Instr.checkKey e 10000 kt k).run P w = .ok () w := fun e w => KL.check w e hk.choose_spec
 rcases hm.find KL hk with ⟨h1, h2⟩ | ⟨j, e, h1, h2, h3⟩
 ·obtain ⟨m1, m2⟩ := hm.set hm.stamped hm.keys
  refine ⟨.tuple #[], { w with heap := w.heap.setIfInBounds r (.map es clk) }, ?_, ⟨.tuple #[], rfl, hK _ _ m1 (fun k' v => ⟨fun ⟨e, he, q1, q2⟩ => ⟨⟨e, he, q1, q2⟩, by rw [← q1]; exact h2 e he⟩, fun h => h.1⟩) (fun u ⟨e, he, q1, _⟩ => absurd q1 (h2 e he)) m2 (by simp)⟩, (.of_le rfl (Nat.le_refl _))⟩
  simp [Builtin.delete_, run_underlying ht, MapKept.run_getObj_map hb, hck, h1 _, MapKept.run_setObj_map _ hb, Result.andThen]
 ·have hj : j < es.toList.length := (List.getElem?_eq_some_iff.1 h2).1
  have hj' : j < es.size := by simpa using hj
  have et' : (es.eraseIdxIfInBounds j).toList = es.toList.eraseIdx j := by
   unfold Array.eraseIdxIfInBounds
   rw [dif_pos hj']; simp
  have hsub : ∀ x ∈ (es.eraseIdxIfInBounds j).toList, x ∈ es.toList := by
   intro x hx; rw [et'] at hx; exact List.mem_of_mem_eraseIdx hx
  obtain ⟨m1, m2⟩ := hm.set (stamped_erase hm.stamped j) (fun x hx => hm.keys x (hsub x hx))
  refine ⟨.tuple #[], { w with heap := w.heap.setIfInBounds r (.map (es.eraseIdxIfInBounds j) clk) }, ?_, ⟨.tuple #[], rfl, hK _ _ m1 (fun k' v => ?_) (fun _ _ => by unfold Array.eraseIdxIfInBounds; rw [dif_pos hj']; simp; omega) m2 (by simp)⟩, (.of_le rfl (Nat.le_refl _))⟩
  ·simp [Builtin.delete_, run_underlying ht, MapKept.run_getObj_map hb, hck, h1 _, MapKept.run_setObj_map _ hb, Result.andThen]
  ·have hnd := hm.stamped.2.2
   have huniq : ∀ i x, es.toList[i]? = some x → x.key = k → i = j := by
    intro i x hx hxk
    have hi : i < es.toList.length := (List.getElem?_eq_some_iff.1 hx).1
    have e1 : (es.toList.map (·.key))[i]? = (es.toList.map (·.key))[j]? := by
     rw [List.getElem?_map, List.getElem?_map, hx, h2]; simp [hxk, h3]
    exact (List.getElem?_inj (by simpa using hi) hnd).1 e1
   constructor
   ·rintro ⟨x, hx, q1, q2⟩
    rw [et', List.mem_eraseIdx_iff_getElem?] at hx
    obtain ⟨i, hij, hxi⟩ := hx
    refine ⟨⟨x, List.mem_of_getElem? hxi, q1, q2⟩, fun hkk => hij (huniq i x hxi (by rw [q1]; exact hkk))⟩
   ·rintro ⟨⟨x, hx, q1, q2⟩, hne⟩
    refine ⟨x, ?_, q1, q2⟩
    rw [et', List.mem_eraseIdx_iff_getElem?]
    obtain ⟨i, hxi⟩ := List.mem_iff_getElem?.1 hx
    refine ⟨i, fun hij => ?_, hxi⟩
    subst hij
    rw [h2] at hxi
    cases hxi
    exact hne (by rw [← q1]; exact h3)
theorem doT_rangeW {K : Option Addr → Heap → Prop} (ht : P.underlying t = some (.map kt et)) (hm : MapW P kt H r es clk)
  (hK : ∀ H', H'[H.size]? = some (.mapIter (some r) clk #[] clk) → Ext H H' → K (some ⟨H.size, 0, none⟩) H') : doT cPtr P (Instr.range t (.map (some r))) H K := by
 intro w hw
 subst hw
 have hb := hm.obj
 refine ⟨.pointer (some ⟨w.heap.size, 0, none⟩), { w with heap := w.heap.push (.mapIter (some r) clk #[] clk) }, ?_, ⟨some ⟨w.heap.size, 0, none⟩, rfl, hK _ (by simp) (Mod.push _ _ _)⟩, (.of_le rfl (Nat.le_refl _))⟩
 simp [Instr.range, run_underlying ht, MapKept.run_getObj_map hb, Result.andThen, newObj, Sem.run]
theorem doT_entryW {it : Nat} {seen : Array Nat} {e : MapEntry} {K : Value × Value → Heap → Prop} (hm : MapW P kt H r es clk) (hit : H[it]? = some (.mapIter (some r) clk (seen.push e.born) clk)) (he : e ∈ es.toList)
  (hK : K (e.key, e.val) H) : doT cTwo P (Instr.entry (.pointer (some ⟨it, 0, none⟩))) H K := by
 intro w hw
 subst hw
 have hb := hm.obj
 have hfind : es.find? (fun x => x.born == e.born) = some e := by
  rw [← Array.find?_toList]
  have key : ∀ l : List MapEntry, (l.map (·.born)).Nodup → e ∈ l → l.find? (fun x => x.born == e.born) = some e := by
   intro l
   induction l with
   | nil => intro _ h; cases h
   | cons x l ih =>
     intro hnd he
     rw [List.map_cons, List.nodup_cons] at hnd
     rw [List.find?_cons]
     rcases List.mem_cons.1 he with q | q
     ·subst q; simp
     ·have hne : x.born ≠ e.born := fun h => hnd.1 (by rw [h]; exact List.mem_map_of_mem q)
      have : (x.born == e.born) = false := by simpa using hne
      rw [this]
      exact ih hnd.2 q
  exact key _ hm.stamped.2.1 he
 refine ⟨.tuple #[e.key, e.val], w, ?_, ⟨(e.key, e.val), rfl, hK⟩, .refl w⟩
 simp [Instr.entry, getObj, Sem.run, hit, hb, hfind]
theorem cands_specW (es : Array MapEntry) (seen : Array Nat) (clk : Nat) (hclk : ∀ x ∈ es.toList, x.born < clk) (cand : Array (Option MapEntry)) (hc : ((if (Array.filter (fun x : MapEntry => decide (x.born < clk)) (Array.filter (fun e : MapEntry => !seen.contains e.born) es)).isEmpty = true then #[none] else #[]) ++
   Array.map some (Array.filter (fun x : MapEntry => decide (x.born < clk)) (Array.filter (fun e : MapEntry => !seen.contains e.born) es) ++ Array.filter (fun x : MapEntry => decide (x.born ≥ clk)) (Array.filter (fun e : MapEntry => !seen.contains e.born) es))) = cand) :
  0 < cand.size ∧ ∀ (i : Nat) (x : Option MapEntry), cand[i]? = some x → (x = none ∧ ∀ e ∈ es.toList, seen.contains e.born = true) ∨ ∃ e, x = some e ∧ e ∈ es.toList ∧ seen.contains e.born = false := by
 subst hc
 constructor
 ·split
  ·simp; omega
  ·rename_i h
   have : 0 < (Array.filter (fun x : MapEntry => decide (x.born < clk)) (Array.filter (fun e : MapEntry => !seen.contains e.born) es)).size := by
    rw [Array.isEmpty_iff_size_eq_zero] at h; omega
   simp only [Array.size_append, Array.size_map]
   omega
 ·intro i x hx
  have hmem := Array.mem_of_getElem? hx
  rw [Array.mem_append] at hmem
  rcases hmem with hmem | hmem
  ·split at hmem
   ·rename_i h
    left
    refine ⟨by simpa using hmem, fun e he => ?_⟩
    cases hs : seen.contains e.born with
    | true => rfl
    | false =>
      have hin : e ∈ Array.filter (fun x : MapEntry => decide (x.born < clk)) (Array.filter (fun e : MapEntry => !seen.contains e.born) es) := by
       rw [Array.mem_filter, Array.mem_filter]
       exact ⟨⟨by simpa using he, by rw [hs]; rfl⟩, by simpa using hclk e he⟩
      rw [Array.isEmpty_iff] at h
      rw [h] at hin
      simp at hin
   ·simp at hmem
  ·right
   rw [Array.mem_map] at hmem
   obtain ⟨e, he, rfl⟩ := hmem
   rw [Array.mem_append] at he
   have h2 : e ∈ Array.filter (fun e : MapEntry => !seen.contains e.born) es := by
    rcases he with he | he
    ·exact (Array.mem_filter.1 he).1
    ·exact (Array.mem_filter.1 he).1
   obtain ⟨h3, h4⟩ := Array.mem_filter.1 h2
   exact ⟨e, rfl, by simpa using h3, by simpa using h4⟩
theorem doT_nextW {it : Nat} {seen : Array Nat} {ty : TypeId} {K : Bool × List Value → Heap → Prop} (hm : MapW P kt H r es clk) (hit : H[it]? = some (.mapIter (some r) clk seen clk))
  (hstep : ∀ e ∈ es.toList, seen.contains e.born = false → ∀ H', H'[it]? = some (.mapIter (some r) clk (seen.push e.born) clk) → Mod (fun b => b = it) H H' → H'.size = H.size → K (true, [e.key, e.val]) H')
  (hover : (∀ e ∈ es.toList, seen.contains e.born = true) → K (false, []) H) : doT cNext P (Instr.next (.pointer (some ⟨it, 0, none⟩)) false ty) H K := by
 refine runS_of_wpS ?_
 have hlt : it < H.size := (Array.getElem?_eq_some_iff.1 hit).1
 have hb := hm.obj
 unfold Instr.next
 refine wpS_bind _ _ ⟨_, hit, rfl, ?_⟩
 refine wpS_bind _ _ ⟨_, hb, rfl, ?_⟩
 have hlast : (!seen.isEmpty && !es.isEmpty && es.all (fun x => decide (x.born ≥ clk))) = false := by
  cases hes : es.toList with
  | nil => have : es.isEmpty = true := by simp [Array.isEmpty, ← Array.length_toList, hes]
           rw [this]; simp
  | cons x l =>
    have hx : x ∈ es.toList := by rw [hes]; exact List.mem_cons_self
    have h1 := hm.stamped.1 x hx
    have : es.all (fun x => decide (x.born ≥ clk)) = false := by
     rw [← Array.all_toList, List.all_eq_false]
     exact ⟨x, hx, by simp; omega⟩
    rw [this]; simp
 simp only [hlast, wpS]
 rw [if_neg (by simp)]
 generalize hc : ((if (Array.filter (fun x : MapEntry => decide (x.born < clk)) (Array.filter (fun e : MapEntry => !seen.contains e.born) es)).isEmpty = true then #[none] else #[]) ++
   Array.map some (Array.filter (fun x : MapEntry => decide (x.born < clk)) (Array.filter (fun e : MapEntry => !seen.contains e.born) es) ++ Array.filter (fun x : MapEntry => decide (x.born ≥ clk)) (Array.filter (fun e : MapEntry => !seen.contains e.born) es))) = cand
 obtain ⟨hsz, hx⟩ := cands_specW es seen clk hm.stamped.1 cand hc
 have fin : ∀ i, i < cand.size → wpS P (match cand[i]? with
   | some (some e) => do
     setObj it (Obj.mapIter (some r) clk (seen.push e.born) clk)
     pure (Value.tuple #[Value.bool true, e.key, e.val])
   | some none => pure (Value.tuple #[Value.bool false])
   | none => stuck "Next: no such candidate") H (fun v H' => ∃ x : cNext.α, v = cNext.enc x ∧ K x H') := by
  intro i hi
  have hci : cand[i]? = some cand[i] := Array.getElem?_eq_getElem hi
  rcases hx i _ hci with ⟨h1, h2⟩ | ⟨e, h1, h2, h3⟩
  ·rw [hci, h1]
   exact ⟨(false, []), rfl, hover h2⟩
  ·rw [hci, h1]
   refine wpS_bind _ _ ⟨⟨_, hit, rfl⟩, ⟨(true, [e.key, e.val]), rfl, hstep e h2 h3 _ (by simp [hlt]) ⟨by simp, fun b _ hn => Array.getElem?_setIfInBounds_ne (fun e => hn e.symm)⟩ (by simp)⟩⟩
 refine wpS_bind _ _ ?_
 unfold choose
 simp only [wpS]
 split
 ·exact fin 0 hsz
 ·exact fun t => fin _ (Nat.mod_lt _ hsz)
end
theorem map_rangeW {P : Program} {kt : TypeId} {H : Heap} {r : Nat} {es : Array MapEntry} {clk it : Nat} {α : Type} {x0 : α} {ty : TypeId}
  {B : (α → Heap → Prop) → α → (Value × Value) → Heap → Prop} {E : α → Heap → Prop} (I : List MapEntry → α → Heap → Prop)
  (hm : MapW P kt H r es clk) (hit : H[it]? = some (.mapIter (some r) clk #[] clk)) (h0 : I [] x0 H)
  (hfr : ∀ l x A A', I l x A → Mod (fun b => b = it) A A' → A'.size = A.size → I l x A')
  (hs : ∀ l e x A next, I l x A → e ∈ es.toList → e ∉ l → (∀ y ∈ l, y ∈ es.toList) → l.Nodup → A[r]? = some (.map es clk) → (∃ o, A[it]? = some o) →
   (∀ x' A', I (l ++ [e]) x' A' → A'[r]? = A[r]? → A'[it]? = A[it]? → next x' A') → B next x (e.key, e.val) A)
  (hE : ∀ l x A, I l x A → l.Perm es.toList → A[r]? = some (.map es clk) → E x A) :
  LoopVC α x0 H (fun next x H2 => doT cNext P (Instr.next (.pointer (some ⟨it, 0, none⟩)) false ty) H2 fun (nx : Bool × List Value) H3 =>
   br nx.1 (doT cTwo P (Instr.entry (.pointer (some ⟨it, 0, none⟩))) H3 fun (en : Value × Value) H4 => B next x en H4) (E x H3)) := by
 have hst := hm.stamped
 have hnd := stamped_nodup hst
 refine ⟨List MapEntry, fun l x A => I l x A ∧ A[it]? = some (.mapIter (some r) clk (l.map (·.born)).toArray clk) ∧ A[r]? = some (.map es clk) ∧ l.Nodup ∧ (∀ y ∈ l, y ∈ es.toList), fun l => es.size - l.length, ⟨[], h0, by simpa using hit, hm.obj, List.nodup_nil, by simp⟩, ?_⟩
 rintro l x A ⟨hI, hi, hr, hl, hsub⟩
 have hmA : MapW P kt A r es clk := ⟨hr, hst, hm.keys⟩
 have hri : r ≠ it := by intro e; rw [← e, hr] at hi; cases hi
 refine doT_nextW hmA hi ?_ ?_
 ·intro e he hne A' hi' hmod hsz
  have hel : e ∉ l := fun h => by
   have : (l.map (·.born)).toArray.contains e.born = true := by simp; exact ⟨e, h, rfl⟩
   rw [this] at hne; cases hne
  have hr' : A'[r]? = some (.map es clk) := (hmod.same r (obj_lt hr) hri).trans hr
  refine doT_entryW (hmA.mod hmod hri) hi' he ?_
  refine hs l e x A' _ (hfr l x A A' hI hmod hsz) he hel hsub hl hr' ⟨_, hi'⟩ fun x' A'' hI'' h1 h2 => ⟨l ++ [e], ⟨hI'', ?_, by rw [h1]; exact hr', ?_, ?_⟩, ?_⟩
  ·rw [h2, hi']; simp
  ·rw [List.nodup_append]
   exact ⟨hl, by simp, by intro a ha b hb; simp at hb; subst hb; intro e2; subst e2; exact hel ha⟩
  ·intro y hy
   rcases List.mem_append.1 hy with q | q
   ·exact hsub y q
   ·simp at q; subst q; exact he
  ·have hlt : (l ++ [e]).length ≤ es.toList.length := by
    refine List.Nodup.length_le_of_subset ?_ ?_
    ·rw [List.nodup_append]
     exact ⟨hl, by simp, by intro a ha b hb; simp at hb; subst hb; intro e2; subst e2; exact hel ha⟩
    ·intro y hy
     rcases List.mem_append.1 hy with q | q
     ·exact hsub y q
     ·simp at q; subst q; exact he
   simp at hlt ⊢
   omega
 ·intro hall
  refine hE l x A hI ?_ hr
  rw [List.perm_ext_iff_of_nodup hl hnd]
  intro y
  refine ⟨hsub y, fun hy => ?_⟩
  have h1 := hall y hy
  simp at h1
  obtain ⟨z, hz, hzb⟩ := h1
  have := stamped_born hst (hsub z hz) hy hzb
  rw [← this]; exact hz
end Go.Proofs.YtkehfflpbpdokaaGreat
