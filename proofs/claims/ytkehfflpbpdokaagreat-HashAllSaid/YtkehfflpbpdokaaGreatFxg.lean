/-
 Ground, seventh text: memory that reads as lists, what a piece of code may have written, and the laws of the memory operations in these words.
-/
import Derived.Test.YtkehfflpbpdokaaGreatFxf
namespace Go.Proofs.YtkehfflpbpdokaaGreat
structure Mod (F : Nat → Prop) (H H' : Heap) : Prop where
 size : H.size ≤ H'.size
 same : ∀ b, b < H.size → ¬ F b → H'[b]? = H[b]?
abbrev Ext (H H' : Heap) : Prop := Mod (fun _ => False) H H'
theorem Mod.refl (F : Nat → Prop) (H : Heap) : Mod F H H := ⟨Nat.le_refl _, fun _ _ _ => rfl⟩
theorem Mod.mono {F G : Nat → Prop} {H H' : Heap} (h : Mod F H H') (hs : ∀ b, b < H.size → F b → G b) : Mod G H H' := ⟨h.size, fun b hb hn => h.same b hb fun hf => hn (hs b hb hf)⟩
theorem Mod.trans {F : Nat → Prop} {A B C : Heap} (h : Mod F A B) (k : Mod F B C) : Mod F A C :=
 ⟨Nat.le_trans h.size k.size, fun b hb hn => (k.same b (Nat.lt_of_lt_of_le hb h.size) hn).trans (h.same b hb hn)⟩
theorem Mod.trans' {F G : Nat → Prop} {A B C : Heap} (h : Mod F A B) (k : Mod G B C) (hg : ∀ b, b < A.size → G b → F b) : Mod F A C :=
 ⟨Nat.le_trans h.size k.size, fun b hb hn => (k.same b (Nat.lt_of_lt_of_le hb h.size) fun hf => hn (hg b hb hf)).trans (h.same b hb hn)⟩
theorem Mod.ext {F : Nat → Prop} {A B : Heap} (h : Mod F A B) (hf : ∀ b, F b → A.size ≤ b) : Ext A B := ⟨h.size, fun b hb _ => h.same b hb fun h1 => by have := hf b h1; omega⟩
theorem Ext.mod {F : Nat → Prop} {A B : Heap} (h : Ext A B) : Mod F A B := ⟨h.size, fun b hb _ => h.same b hb id⟩
theorem Mod.push (F : Nat → Prop) (H : Heap) (o : Obj) : Mod F H (H.push o) :=
 ⟨by simp, fun b hb _ => by rw [Array.getElem?_push, if_neg (by omega)]⟩
theorem hSet_size (H : Heap) (a : Addr) (v : Value) : (hSet H a v).size = H.size := by simp [hSet]
theorem hSet_ne {H : Heap} {a : Addr} {v : Value} {b : Nat} (h : b ≠ a.block) : (hSet H a v)[b]? = H[b]? := by
 unfold hSet
 rw [Array.getElem?_modify, if_neg (Ne.symm h)]
theorem hSet_at {H : Heap} {a : Addr} {v : Value} {c : Array Value} {t : TypeId} {fz : Nat × Nat} (h : H[a.block]? = some (.cells c t fz)) (hs : a.spot = none) :
  (hSet H a v)[a.block]? = some (.cells (c.setIfInBounds a.off v) t fz) := by
 unfold hSet
 rw [Array.getElem?_modify, if_pos rfl, h]
 simp [hs]
theorem Mod.set {F : Nat → Prop} {H : Heap} {a : Addr} {v : Value} (h : F a.block) : Mod F H (hSet H a v) :=
 ⟨by rw [hSet_size]; exact Nat.le_refl _, fun b _ hn => hSet_ne (by intro e; subst e; exact hn h)⟩
theorem hCell_congr {H H' : Heap} {a : Addr} (h : H'[a.block]? = H[a.block]?) : hCell H' a = hCell H a := by unfold hCell; rw [h]
theorem hCell_lt {H : Heap} {a : Addr} {v : Value} (h : hCell H a = some v) : a.block < H.size := by
 unfold hCell at h
 rcases Nat.lt_or_ge a.block H.size with h1 | h1
 ·exact h1
 ·rw [Array.getElem?_eq_none h1] at h; cases h
theorem Mod.cell {F : Nat → Prop} {H H' : Heap} (hm : Mod F H H') {a : Addr} {v : Value} (h : hCell H a = some v) (hn : ¬ F a.block) : hCell H' a = some v :=
 (hCell_congr (hm.same _ (hCell_lt h) hn)).trans h
theorem hCell_of {H : Heap} {b o : Nat} {c : Array Value} {t : TypeId} {fz : Nat × Nat} {v : Value} (h : H[b]? = some (.cells c t fz)) (hv : c[o]? = some v) : hCell H ⟨b, o, none⟩ = some v := by
 unfold hCell; simp [h, hv]
theorem hFrozen_of {H : Heap} {b o : Nat} {c : Array Value} {t : TypeId} (h : H[b]? = some (.cells c t (0, 0))) : hFrozen H ⟨b, o, none⟩ = false := by
 unfold hFrozen; simp [h]
theorem add_block (a : Addr) (n : Nat) : (a.add n).block = a.block := by unfold Addr.add; split <;> rfl
theorem add_zero' (a : Addr) : a.add 0 = a := rfl
theorem add_lit (b o n : Nat) : (⟨b, o, none⟩ : Addr).add n = ⟨b, o + n, none⟩ := by
 unfold Addr.add
 split
 ·rename_i h; subst h; rfl
 ·rfl
theorem add_add (a : Addr) (m n : Nat) : (a.add m).add n = a.add (m + n) := by
 unfold Addr.add
 by_cases hm : m = 0
 ·subst hm; simp
 ·by_cases hn : n = 0
  ·subst hn; simp [hm]
  ·simp [hm, hn, Nat.add_assoc]
def Reads (H : Heap) (a : Option Addr) (vs : List Value) : Prop := ∀ i v, vs[i]? = some v → ∃ ad, a = some ad ∧ hCell H (ad.add i) = some v
theorem Reads.nil (H : Heap) (a : Option Addr) : Reads H a [] := fun i v h => by simp at h
theorem Reads.mod {F : Nat → Prop} {H H' : Heap} {a : Option Addr} {vs : List Value} (h : Reads H a vs) (hm : Mod F H H') (hn : ∀ ad, a = some ad → ¬ F ad.block) : Reads H' a vs := by
 intro i v hv
 obtain ⟨ad, ha, hc⟩ := h i v hv
 exact ⟨ad, ha, hm.cell hc (by rw [add_block]; exact hn ad ha)⟩
theorem Reads.ext {H H' : Heap} {a : Option Addr} {vs : List Value} (h : Reads H a vs) (hm : Ext H H') : Reads H' a vs := h.mod hm (fun _ _ => id)
theorem Reads.at {H : Heap} {a : Option Addr} {vs : List Value} (h : Reads H a vs) {i : Nat} (hi : i < vs.length) : ∃ ad, a = some ad ∧ hCell H (ad.add i) = some vs[i] :=
 h i _ (List.getElem?_eq_getElem hi)
theorem Reads.take {H : Heap} {a : Option Addr} {vs : List Value} (h : Reads H a vs) (n : Nat) : Reads H a (vs.take n) := fun i v hv => h i v (by
 rw [List.getElem?_take] at hv; split at hv
 ·exact hv
 ·cases hv)
structure Ints (k : IntKind) (H : Heap) (s : Sl) (l : List Int) : Prop where
 len : s.n = l.length
 reads : Reads H s.a (l.map (Value.int k))
theorem Ints.mod {F : Nat → Prop} {k : IntKind} {H H' : Heap} {s : Sl} {l : List Int} (h : Ints k H s l) (hm : Mod F H H') (hn : ∀ ad, s.a = some ad → ¬ F ad.block) : Ints k H' s l := ⟨h.len, h.reads.mod hm hn⟩
theorem Ints.ext {k : IntKind} {H H' : Heap} {s : Sl} {l : List Int} (h : Ints k H s l) (hm : Ext H H') : Ints k H' s l := ⟨h.len, h.reads.ext hm⟩
theorem Ints.at {k : IntKind} {H : Heap} {s : Sl} {l : List Int} (h : Ints k H s l) {i : Nat} (hi : i < l.length) : ∃ ad, s.a = some ad ∧ hCell H (ad.add i) = some (.int k l[i]) := by
 obtain ⟨ad, h1, h2⟩ := h.reads.at (i := i) (by simpa using hi)
 exact ⟨ad, h1, by simpa using h2⟩
theorem Ints.ld {k : IntKind} {H : Heap} {s : Sl} {l : List Int} (h : Ints k H s l) {i : Int} (h0 : 0 ≤ i) (h1 : i < l.length) {K : Addr → Int → Prop} (hK : ∀ ad, s.a = some ad → K ad (l.getD i.toNat 0)) :
  optK s.a fun a => (0 ≤ i ∧ i < (s.n : Int)) ∧ ld (cInt k) H (a.add (i.toNat * 1)) fun x => K a x := by
 have hi : i.toNat < l.length := by omega
 obtain ⟨ad, e, hc⟩ := h.at hi
 refine optK_mk ad e ⟨⟨h0, by rw [h.len]; omega⟩, l.getD i.toNat 0, ?_, hK ad e⟩
 rw [Nat.mul_one, hc]
 simp [List.getD, List.getElem?_eq_getElem hi]
def Owns (H : Heap) (base : Nat) (e : TypeId) (size : Nat) (s : Sl) (xs : List Value) : Prop :=
 xs.length = s.n * size ∧
 ((s.v = .slice none 0 0 ∧ s.n = 0) ∨
  ∃ g cap cur, s.v = .slice (some ⟨g, 0, none⟩) s.n cap ∧ base ≤ g ∧ H[g]? = some (.cells cur e (0, 0)) ∧ s.n ≤ cap ∧ cap ≤ maxLen ∧ cur.size = cap * size ∧ cur.toList.take (s.n * size) = xs)
def ownB (s : Sl) (b : Nat) : Prop := ∃ ad, s.a = some ad ∧ ad.block = b
theorem Owns.nil (H : Heap) (base : Nat) (e : TypeId) (size : Nat) : Owns H base e size (Sl.mk none 0 0) [] := ⟨by simp, .inl ⟨rfl, rfl⟩⟩
theorem Owns.block {H : Heap} {base : Nat} {e : TypeId} {size : Nat} {s : Sl} {xs : List Value} (h : Owns H base e size s xs) : ∀ b, ownB s b → base ≤ b ∧ b < H.size := by
 rintro b ⟨ad, ha, rfl⟩
 rcases h.2 with ⟨e1, _⟩ | ⟨g, cap, cur, e1, hb, hg, _⟩
 ·cases s; simp only [Sl.v, Value.slice.injEq] at e1 ha; rw [e1.1] at ha; cases ha
 ·cases s
  simp only [Sl.v, Value.slice.injEq] at e1 ha
  rw [e1.1] at ha
  cases ha
  refine ⟨hb, ?_⟩
  rcases Nat.lt_or_ge g H.size with h1 | h1
  ·exact h1
  ·rw [Array.getElem?_eq_none h1] at hg; cases hg
theorem Owns.mod {F : Nat → Prop} {H H' : Heap} {base : Nat} {e : TypeId} {size : Nat} {s : Sl} {xs : List Value} (h : Owns H base e size s xs) (hm : Mod F H H') (hn : ∀ b, ownB s b → ¬ F b) : Owns H' base e size s xs := by
 refine ⟨h.1, h.2.imp id ?_⟩
 rintro ⟨g, cap, cur, e1, hb, hg, h3⟩
 refine ⟨g, cap, cur, e1, hb, ?_, h3⟩
 have hs : ownB s g := by
  cases s; simp only [Sl.v, Value.slice.injEq] at e1
  exact ⟨_, e1.1, rfl⟩
 exact (hm.same g (h.block g hs).2 (hn g hs)).trans hg
theorem Owns.ext {H H' : Heap} {base : Nat} {e : TypeId} {size : Nat} {s : Sl} {xs : List Value} (h : Owns H base e size s xs) (hm : Ext H H') : Owns H' base e size s xs := h.mod hm (fun _ _ => id)
theorem Owns.reads {H : Heap} {base : Nat} {e : TypeId} {size : Nat} {s : Sl} {xs : List Value} (h : Owns H base e size s xs) : Reads H s.a xs := by
 intro i v hv
 rcases h.2 with ⟨_, e2⟩ | ⟨g, cap, cur, e1, hb, hg, h4, h5, h6, h7⟩
 ·have := h.1; rw [e2, Nat.zero_mul] at this
  rw [List.length_eq_zero_iff.1 this] at hv; simp at hv
 ·cases s
  simp only [Sl.v, Value.slice.injEq] at e1 h7
  refine ⟨_, e1.1, ?_⟩
  rw [add_lit, Nat.zero_add]
  refine hCell_of hg ?_
  rw [← h7, List.getElem?_take] at hv
  split at hv
  ·simpa using hv
  ·cases hv
theorem Owns.ints {k : IntKind} {H : Heap} {base : Nat} {e : TypeId} {s : Sl} {l : List Int} (h : Owns H base e 1 s (l.map (Value.int k))) : Ints k H s l :=
 ⟨by have := h.1; simp at this; omega, h.reads⟩
theorem Owns.fresh {H : Heap} {base : Nat} {e : TypeId} {size n cap : Nat} {cur : Array Value} {xs : List Value} (hb : base ≤ H.size) (hn : n ≤ cap) (hc : cap ≤ maxLen) (hs : cur.size = cap * size) (hx : xs.length = n * size)
  (ht : cur.toList.take (n * size) = xs) : Owns (H.push (.cells cur e)) base e size (Sl.mk (some ⟨H.size, 0, none⟩) n cap) xs :=
 ⟨hx, .inr ⟨H.size, cap, cur, rfl, hb, by simp, hn, hc, hs, ht⟩⟩
theorem doT_appendBig {P : Program} {t ty e : TypeId} {inf : TypeInfo} {z : Value} {H : Heap} {base : Nat} {s x : Sl} {xs ws : List Value} {K : Sl → Heap → Prop}
  (ht : P.underlying t = some (.slice e)) (hi : P.info? e = some inf) (hz : inf.zero = some z) (hzs : z.cells.size = inf.size) (hsz : 0 < inf.size)
  (hown : Owns H base e inf.size s xs) (hl : ws.length = x.n * inf.size) (hx : Reads H x.a ws) (h1 : ∀ u ∈ ws, u.oneCell' = true)
  (hn : s.n + x.n ≤ 4611686018427387904) (hbytes : (s.n + x.n) * inf.bytes ≤ 140737488355328) (hbase : base ≤ H.size)
  (hK : ∀ (s' : Sl) (H' : Heap), s'.n = s.n + x.n → Owns H' base e inf.size s' (xs ++ ws) → Mod (ownB s) H H' → (∀ b, ownB s' b → ownB s b ∨ H.size ≤ b) → (s'.a = none ↔ s.a = none ∧ x.n = 0) → K s' H') :
  doT cSl P (Builtin.append_ #[t, t] ty #[s.v, x.v]) H K := by
 intro w hw
 subst hw
 obtain ⟨sa, sn, sc⟩ := s
 obtain ⟨xa, xn, xc⟩ := x
 simp only [Sl.v] at *
 have h63 : sn + xn ≤ maxLen := by unfold maxLen; omega
 by_cases hx0 : xn = 0
 ·subst hx0
  have hws : ws = [] := List.eq_nil_of_length_eq_zero (by simpa using hl)
  subst hws
  have hcap : sn ≤ sc := by
   rcases hown.2 with ⟨e1, e2⟩ | ⟨g, cap, cur, e1, hb, hg, h4, _⟩
   ·simp only [Sl.v, Value.slice.injEq] at e1; simp only at e2; omega
   ·simp only [Sl.v, Value.slice.injEq] at e1; simp only at h4; omega
  have hr : (Builtin.append_ #[t, t] ty #[.slice sa sn sc, .slice xa 0 xc]).run P w = .ok (.slice sa sn sc) w := by
   cases xa <;> cases sa <;> simp [Builtin.append_, run_underlying ht, sizeOf, typeInfo, hi, Builtin.lenOf, Builtin.firstCells, hcap, loadCells, loadCellsFrom, storeCells]
  refine ⟨_, w, hr, ⟨⟨sa, sn, sc⟩, rfl, hK _ _ rfl (by simpa using hown) (.refl _ _) (fun b hb => .inl hb) (by simp)⟩, .refl w⟩
 ·have hpos : 0 < ws.length := by rw [hl]; exact Nat.mul_pos (by omega) hsz
  obtain ⟨ad, ea, _⟩ := hx.at hpos
  subst ea
  have hnews : ∀ j u, ws[j]? = some u → w.cell? (ad.add j) = some u := fun j u hu => by
   obtain ⟨ad', e1, hc⟩ := hx j u hu
   cases e1; exact hc
  have hlen : (xs ++ ws).length = (sn + xn) * inf.size := by rw [List.length_append, hown.1, hl, Nat.add_mul]
  rcases hown.2 with ⟨e1, e2⟩ | ⟨g, cap, cur, e1, hbg, hg, hnc, hcm, hcs, htake⟩
  ·simp only [Sl.v, Value.slice.injEq] at e1
   obtain ⟨rfl, rfl, rfl⟩ := e1
   have hxs : xs = [] := List.eq_nil_of_length_eq_zero (by simpa using hown.1)
   subst hxs
   have hr := run_append_nil (P := P) w t ty e inf z ht hi hz ad xn xc ws hl hnews (by omega) (by omega) (by simp only [Nat.zero_add] at hbytes; omega)
   have hge := grownCap_ge w xn 0 e
   have hcm : grownCap w xn 0 e ≤ maxLen := grownCap_le_maxLen w xn 0 e (by omega)
   refine ⟨_, _, hr, ⟨⟨some ⟨w.heap.size, 0, none⟩, xn, grownCap w xn 0 e⟩, rfl, hK _ _ (by simp) ?_ (Mod.push _ _ _) (fun b hb => .inr ?_) (by simp [hx0])⟩, (.of_le rfl (Nat.le_succ _))⟩
   ·refine Owns.fresh hbase hge hcm ?_ (by simpa using hlen) ?_
    ·simp only [Array.size_append, List.size_toArray, size_zeroCells, hzs, hl, ← Nat.add_mul]
     congr 1; omega
    ·simp only [Array.toList_append, List.nil_append, ← hl]
     exact List.take_left
   ·obtain ⟨ad', e3, e4⟩ := hb
    cases e3; have : w.heap.size = b := e4; omega
  ·simp only [Sl.v, Value.slice.injEq] at e1
   obtain ⟨rfl, _, rfl⟩ := e1
   simp only at hnc hcm hcs htake
   by_cases hroom : sn + xn ≤ sc
   ·have hfit : sn * inf.size + ws.length ≤ cur.size := by rw [hl, hcs, ← Nat.add_mul]; exact Nat.mul_le_mul_right _ hroom
    have hr := run_append_room (P := P) w t ty e inf ht hi g sn sc cur hg ad xn xc ws hl hnews h1 hroom hfit
    refine ⟨_, _, hr, ⟨⟨some ⟨g, 0, none⟩, sn + xn, sc⟩, rfl, hK _ _ rfl ⟨hlen, .inr ⟨g, sc, _, rfl, hbg, setRow_heap w g cur _ e _ hg, hroom, hcm, ?_, ?_⟩⟩ ⟨by simp [World.setRow], fun b _ hb => setRow_other w g b _ (fun e3 => hb ⟨_, rfl, e3.symm⟩)⟩ (fun b hb => .inl ?_) (by simp)⟩, (.of_le rfl (Nat.le_refl _))⟩
    ·simp only [List.size_toArray, List.length_append, List.length_take, List.length_drop, Array.length_toList]
     omega
    ·simp only
     rw [htake, ← hlen]
     exact List.take_left
    ·obtain ⟨ad', e3, e4⟩ := hb
     exact ⟨ad', e3, e4⟩
   ·have holds : ∀ j u, xs[j]? = some u → w.cell? ((⟨g, 0, none⟩ : Addr).add j) = some u := fun j u hu => by
     obtain ⟨ad', e3, hc⟩ := hown.reads j u hu
     cases e3; exact hc
    have hr := run_append_grow (P := P) w t ty e inf z ht hi hz ⟨g, 0, none⟩ sn sc xs hown.1 holds ad xn xc ws hl hnews (by omega) (by omega) (growslice_fits (by omega) hbytes)
    have hge := grownCap_ge w (sn + xn) sc e
    have hcm2 : grownCap w (sn + xn) sc e ≤ maxLen := grownCap_le_maxLen w (sn + xn) sc e h63
    refine ⟨_, _, hr, ⟨⟨some ⟨w.heap.size, 0, none⟩, sn + xn, grownCap w (sn + xn) sc e⟩, rfl, hK _ _ rfl ?_ (Mod.push _ _ _) (fun b hb => .inr ?_) (by simp)⟩, (.of_le rfl (Nat.le_succ _))⟩
    ·refine Owns.fresh hbase hge hcm2 ?_ hlen ?_
     ·simp only [Array.size_append, List.size_toArray, size_zeroCells, hzs, hown.1, hl, ← Nat.add_mul]
      congr 1; omega
     ·simp only [Array.toList_append, List.append_assoc]
      rw [← List.append_assoc, ← hlen]
      exact List.take_left
    ·obtain ⟨ad', e3, e4⟩ := hb
     cases e3; have : w.heap.size = b := e4; omega
theorem doT_append {P : Program} {t ty e : TypeId} {inf : TypeInfo} {z : Value} {H : Heap} {base : Nat} {s x : Sl} {xs ws : List Value} {K : Sl → Heap → Prop}
  (ht : P.underlying t = some (.slice e)) (hi : P.info? e = some inf) (hz : inf.zero = some z) (hzs : z.cells.size = inf.size) (hsz : 0 < inf.size)
  (hown : Owns H base e inf.size s xs) (hl : ws.length = x.n * inf.size) (hx : Reads H x.a ws) (h1 : ∀ u ∈ ws, u.oneCell' = true)
  (hn : s.n + x.n ≤ 1099511627776) (hbytes : (s.n + x.n) * inf.bytes ≤ 140737488355328) (hbase : base ≤ H.size)
  (hK : ∀ (s' : Sl) (H' : Heap), s'.n = s.n + x.n → Owns H' base e inf.size s' (xs ++ ws) → Mod (ownB s) H H' → (∀ b, ownB s' b → ownB s b ∨ H.size ≤ b) → (s'.a = none ↔ s.a = none ∧ x.n = 0) → K s' H') :
  doT cSl P (Builtin.append_ #[t, t] ty #[s.v, x.v]) H K :=
 doT_appendBig ht hi hz hzs hsz hown hl hx h1 (by omega) hbytes hbase hK
theorem doT_make {P : Program} {t e : TypeId} {inf : TypeInfo} {z : Value} {H : Heap} {kl kc : IntKind} {l c : Int} {K : Sl → Heap → Prop}
  (ht : P.underlying t = some (.slice e)) (hi : P.info? e = some inf) (hz : inf.zero = some z) (h0 : 0 ≤ l) (hlc : l ≤ c) (hbytes : (inf.bytes : Int) * c ≤ 281474976710656) (h63 : c ≤ 9223372036854775807)
  (hK : K ⟨some ⟨H.size, 0, none⟩, l.toNat, c.toNat⟩ (H.push (.cells (madeCells z.cells (c.toNat * inf.size)) e))) :
  doT cSl P (Instr.makeSlice t (.int kl l) (.int kc c)) H K := by
 intro w hw
 subst hw
 exact ⟨_, _, run_make (P := P) w t e inf z ht hi hz kl kc l c h0 hlc hbytes h63, ⟨⟨some ⟨w.heap.size, 0, none⟩, l.toNat, c.toNat⟩, rfl, hK⟩, (.of_le rfl (Nat.le_refl _))⟩
def El (P : Program) (t e : TypeId) (bytes : Nat) (z : Value) : Prop := ∃ inf : TypeInfo, P.underlying t = some (.slice e) ∧ P.info? e = some inf ∧ inf.zero = some z ∧ z.cells = #[z] ∧ inf.size = 1 ∧ inf.bytes = bytes
theorem El.push {P : Program} {t ty e : TypeId} {bytes : Nat} {z : Value} (h : El P t e bytes z) {H : Heap} {base : Nat} {s : Sl} {xs : List Value} {v : Value} {K : Sl → Heap → Prop}
  (hown : Owns H base e 1 s xs) (h1 : v.oneCell' = true) (hn : s.n + 1 ≤ 1099511627776) (hb : (s.n + 1) * bytes ≤ 140737488355328) (hbase : base ≤ H.size)
  (hK : ∀ (s' : Sl) (H' : Heap), s'.n = s.n + 1 → Owns H' base e 1 s' (xs ++ [v]) → Mod (ownB s) H H' → (∀ b, ownB s' b → ownB s b ∨ H.size ≤ b) → s'.a ≠ none → K s' H') :
  newC H #[v] e fun p H1 => doT cSl P (Builtin.append_ #[t, t] ty #[s.v, .slice (some p) 1 1]) H1 K := by
 obtain ⟨inf, ht, hi, hz, hzc, hs1, hbt⟩ := h
 have hpush : Mod (fun _ => False) H (H.push (.cells #[v] e)) := Mod.push _ _ _
 refine doT_append (base := base) (s := s) (x := ⟨some ⟨H.size, 0, none⟩, 1, 1⟩) (xs := xs) (ws := [v]) ht hi hz (by rw [hzc, hs1]; rfl) (by omega) (by rw [hs1]; exact hown.ext hpush) (by simp [hs1]) ?_ (by simpa using h1) (by simpa using hn) (by rw [hbt]; exact hb) (by simp; omega) ?_
 ·intro i u hu
  cases i with
  | zero => simp at hu; subst hu; exact ⟨_, rfl, hCell_of (c := #[v]) (t := e) (fz := (0, 0)) (by simp) (by simp)⟩
  | succ i => simp at hu
 ·intro s' H' h2 h3 h4 h5 h6
  refine hK s' H' h2 (by rw [hs1] at h3; exact h3) ((Ext.mod hpush).trans h4) (fun b hb => ?_) (fun hh => by have := (h6.1 hh).2; simp at this)
  rcases h5 b hb with h7 | h7
  ·exact .inl h7
  ·simp at h7; exact .inr (by omega)
theorem El.append {P : Program} {t ty e : TypeId} {bytes : Nat} {z : Value} (h : El P t e bytes z) {H : Heap} {base : Nat} {s x : Sl} {xs ws : List Value} {K : Sl → Heap → Prop}
  (hown : Owns H base e 1 s xs) (hl : ws.length = x.n) (hx : Reads H x.a ws) (h1 : ∀ u ∈ ws, u.oneCell' = true)
  (hn : s.n + x.n ≤ 1099511627776) (hb : (s.n + x.n) * bytes ≤ 140737488355328) (hbase : base ≤ H.size)
  (hK : ∀ (s' : Sl) (H' : Heap), s'.n = s.n + x.n → Owns H' base e 1 s' (xs ++ ws) → Mod (ownB s) H H' → (∀ b, ownB s' b → ownB s b ∨ H.size ≤ b) → (s'.a = none ↔ s.a = none ∧ x.n = 0) → K s' H') :
  doT cSl P (Builtin.append_ #[t, t] ty #[s.v, x.v]) H K := by
 obtain ⟨inf, ht, hi, hz, hzc, hs1, hbt⟩ := h
 exact doT_append ht hi hz (by rw [hzc, hs1]; rfl) (by omega) (by rw [hs1]; exact hown) (by rw [hs1]; omega) hx h1 hn (by rw [hbt]; exact hb) hbase (by rw [hs1]; exact hK)
theorem madeCells_one (z : Value) (hz : z.cells = #[z]) (n : Nat) : (madeCells z.cells n).toList = List.replicate n z := by
 rw [hz]
 apply List.ext_getElem?
 intro i
 simp only [madeCells, List.size_toArray, List.length_singleton, Nat.mod_one, Array.toList_map, Array.toList_range, List.getElem?_map, List.getElem?_replicate]
 by_cases hi : i < n
 ·rw [List.getElem?_range hi]; simp [hi]
 ·rw [List.getElem?_eq_none (by simp; omega)]; simp [hi]
theorem El.make {P : Program} {t e : TypeId} {bytes : Nat} {z : Value} (h : El P t e bytes z) {H : Heap} {base : Nat} {kl kc : IntKind} {l c : Int} {K : Sl → Heap → Prop}
  (h0 : 0 ≤ l) (hlc : l ≤ c) (hb : (bytes : Int) * c ≤ 281474976710656) (h63 : c ≤ 9223372036854775807) (hbase : base ≤ H.size)
  (hK : ∀ (s' : Sl) (H' : Heap), s'.n = l.toNat → Owns H' base e 1 s' (List.replicate l.toNat z) → Ext H H' → (∀ b, ownB s' b → H.size ≤ b) → s'.a ≠ none → K s' H') :
  doT cSl P (Instr.makeSlice t (.int kl l) (.int kc c)) H K := by
 obtain ⟨inf, ht, hi, hz, hzc, hs1, hbt⟩ := h
 refine doT_make ht hi hz h0 hlc (by rw [hbt]; exact hb) h63 (hK _ _ rfl ?_ (Mod.push _ _ _) (fun b hb => ?_) (by simp))
 ·refine Owns.fresh hbase (by omega) (by unfold maxLen; omega) ?_ (by simp) ?_
  ·have := congrArg List.length (madeCells_one z hzc (c.toNat * inf.size)); simp at this; rw [this, hs1]
  ·rw [madeCells_one z hzc, hs1]; simp; omega
 ·obtain ⟨ad', e3, e4⟩ := hb
  cases e3; have : H.size = b := e4; omega
theorem Owns.st {H : Heap} {base : Nat} {e : TypeId} {s : Sl} {xs : List Value} {v : Value} {K : Heap → Prop} (h : Owns H base e 1 s xs) {i : Int} (h0 : 0 ≤ i) (h1 : i < (s.n : Int)) (hp : plainV v = true)
  (hK : ∀ H', Owns H' base e 1 s (xs.set i.toNat v) → Mod (ownB s) H H' → H'.size = H.size → K H') :
  optK s.a fun a => (0 ≤ i ∧ i < (s.n : Int)) ∧ st H (a.add (i.toNat * 1)) v K := by
 have hlen := h.1
 rcases h.2 with ⟨e1, e2⟩ | ⟨g, cap, cur, e1, hb, hg, h4, h5, h6, h7⟩
 ·omega
 ·have ea : s.a = some ⟨g, 0, none⟩ := by
   cases s; simp only [Sl.v, Value.slice.injEq] at e1; exact e1.1
  have hi : i.toNat < cur.size := by omega
  refine optK_mk _ ea ⟨⟨h0, h1⟩, hp, ?_, ?_, hK _ ?_ (Mod.set ?_) (hSet_size _ _ _)⟩
  ·rw [Nat.mul_one, add_lit, Nat.zero_add]
   exact ⟨_, hCell_of hg (Array.getElem?_eq_getElem hi)⟩
  ·rw [Nat.mul_one, add_lit]; exact hFrozen_of hg
  ·rw [Nat.mul_one, add_lit, Nat.zero_add]
   refine ⟨by simpa using hlen, .inr ⟨g, cap, cur.setIfInBounds i.toNat v, e1, hb, hSet_at (a := ⟨g, i.toNat, none⟩) hg rfl, h4, h5, by simpa using h6, ?_⟩⟩
   rw [← h7]
   simp [List.take_set]
  ·rw [add_block]; exact ⟨_, ea, rfl⟩
def Var (H : Heap) (p : Addr) (v : Value) : Prop := p.spot = none ∧ p.off = 0 ∧ ∃ t, H[p.block]? = some (.cells #[v] t (0, 0))
theorem Var.cell {H : Heap} {p : Addr} {v : Value} (h : Var H p v) : hCell H p = some v := by
 obtain ⟨b, o, sp⟩ := p
 obtain ⟨h1, h2, t, h3⟩ := h
 simp only at h1 h2 h3
 subst h1; subst h2
 exact hCell_of h3 rfl
theorem Var.ld {c : Cod} {H : Heap} {p : Addr} {x : c.α} {K : c.α → Prop} (h : Var H p (c.enc x)) (hK : K x) : ld c H p K := ⟨x, h.cell, hK⟩
theorem Var.lt {H : Heap} {p : Addr} {v : Value} (h : Var H p v) : p.block < H.size := hCell_lt h.cell
theorem loop_upto {α : Type} {x0 : α} {H : Heap} {body : (α → Heap → Prop) → α → Heap → Prop} (n : Nat) (I : Nat → α → Heap → Prop) (h0 : I 0 x0 H)
  (hs : ∀ k x H' next, k ≤ n → I k x H' → (k < n → ∀ x'' H'', I (k + 1) x'' H'' → next x'' H'') → body next x H') : LoopVC α x0 H body := by
 refine ⟨Nat, fun k x H' => k ≤ n ∧ I k x H', fun k => n - k, ⟨0, Nat.zero_le _, h0⟩, ?_⟩
 rintro k x H' ⟨hk, hI⟩
 exact hs k x H' _ hk hI (fun hlt x'' H'' hI' => ⟨k + 1, ⟨hlt, hI'⟩, by show n - (k + 1) < n - k; omega⟩)
theorem wrap64 {x : Int} (h0 : -9223372036854775808 ≤ x) (h1 : x ≤ 9223372036854775807) : IntKind.i64.wrap x = x := by
 rw [IntKind.wrap_i64]; omega
theorem succ64 (k : Nat) (h : k < 4611686018427387904) : IntKind.i64.wrap ((k : Int) + 1) = ((k + 1 : Nat) : Int) := by
 rw [wrap64 (by omega) (by omega)]; omega
end Go.Proofs.YtkehfflpbpdokaaGreat
