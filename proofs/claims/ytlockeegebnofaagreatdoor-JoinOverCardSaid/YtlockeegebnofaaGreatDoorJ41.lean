/-
 JoinOver: for every input the law returns true, and its arguments read as before; the tables are laid as the program's text lays them. No condition beside that.
-/
import Derived.Test.YtlockeegebnofaaGreatDoorPkr
import Derived.Test.YtlockeegebnofaaGreatDoorFxn
import Derived.Test.YtlockeegebnofaaGreatDoorFxt
import Derived.Test.YtlockeegebnofaaGreatDoorJ32
import Derived.Test.YtlockeegebnofaaGreatDoorJ36
import Derived.Test.YtlockeegebnofaaGreatDoorJ40
/-
 Rows brought to two words; JoinOver: the walk.
-/
namespace Go.Proofs.YtlockeegebnofaaGreatDoor
open Go.MapKept
theorem Rows.ext {H B : Heap} {s : Sl} {ls : List (List Int)} (h : Rows H s ls) (e : Ext H B) : Rows B s ls := ⟨h.len, fun i hi => by
 obtain ⟨ad, r, q1, q2, q3⟩ := h.at' i hi
 exact ⟨ad, r, q1, e.cell q2 id, q3.ext e⟩⟩
def fitR (W : Nat) (r : List Int) : List Int := r.take W ++ List.replicate (W - r.length) 0
theorem fitR_length (W : Nat) (r : List Int) : (fitR W r).length = W := by unfold fitR; simp; omega
set_option maxHeartbeats 1000000 in
theorem cut_rows {rows : Sl} {rl : List (List Int)} {W : Nat} {H : Heap} {K : Sl × Int → Heap → Prop} (hr : Rows H rows rl) (hn : rl.length ≤ 300) (hW : W ≤ 16)
  (hK : ∀ l rs A, RowsOwn A H.size l rs (rl.map (fitR W)) → Ext H A → K (l, (rl.length : Int)) A) :
  LoopVC (Sl × Int) ((Sl.mk none 0 0), (0 : Int)) H fun next z H2 => br (decide (z.2 < (rows.n : Int))) (doT cSl Tryz.prog (Instr.makeSlice YaE (.int .i64 (W : Int)) (.int .i64 (W : Int))) H2 fun (x : Sl) H3 => optK rows.a fun a => (0 ≤ z.2 ∧ z.2 < (rows.n : Int)) ∧ ld cSl H3 (a.add (z.2.toNat * 1)) fun (x_1 : Sl) => doT (cInt .i64) Tryz.prog (Builtin.copy_ #[YaE, YaE] YaT #[x.v, x_1.v]) H3 fun (_ : Int) H4 => newC H4 #[x.v] YaE fun p H5 => doT cSl Tryz.prog (Builtin.append_ #[Yaq, Yaq] Yaq #[z.1.v, (.slice (some p) 1 1)]) H5 fun (l : Sl) H6 => next (l, IntKind.i64.wrap (z.2 + (1 : Int))) H6) (K z H2) := by
 have hrn := hr.len
 refine loop_upto rl.length (fun i z A => z.2 = (i : Int) ∧ ∃ rs, RowsOwn A H.size z.1 rs ((rl.take i).map (fitR W)) ∧ Ext H A) ⟨rfl, [], RowsOwn.nil _ _, .refl _ _⟩ ?_
 rintro i ⟨out, _⟩ A next hi ⟨rfl, rs, ro, eA⟩ hnext
 simp only
 refine br_mk (fun hc => ?_) (fun hc => ?_)
 ·have hlt : i < rl.length := by have : (i : Int) < (rows.n : Int) := by simpa using hc
                                 omega
  refine elU64.make (base := H.size) (by omega) (Int.le_refl _) (by omega) (by omega) eA.size fun x A1 ln o1 e1 f1 hxa => ?_
  rw [Int.toNat_natCast] at ln o1
  have z1 := e1.size
  refine (hr.ext (eA.trans e1)).ld hlt fun ad r _ ri => ?_
  have hcs : ((rl[i].take W).map (Value.int .u64)).length = Nat.min r.n x.n := by
   rw [List.length_map, List.length_take, ln, ri.len]
   show min _ _ = min _ _
   exact Nat.min_comm _ _
  have hrd : Reads A1 r.a ((rl[i].take W).map (Value.int .u64)) := by
   have := ri.reads.take W
   rwa [← List.map_take] at this
  refine Owns.copyAt (o := 0) (s := x) (dl := x.n) (dc := x.c) (by kernel_rfl) (by kernel_rfl) o1 (fun _ => ?_) hrd hcs (by
   have := Nat.min_le_right r.n x.n
   rw [hcs]; show 0 + min r.n x.n ≤ x.n; omega) (fun v hv => ?_) fun A4 o4 m4 s4 => ?_
  ·cases hxa2 : x.a with
   | none => rfl
   | some a => rfl
  ·obtain ⟨y, _, rfl⟩ := List.mem_map.1 hv
   rfl
  have e4 : (List.replicate W (Value.int .u64 0)).take 0 ++ (rl[i].take W).map (Value.int .u64) ++ (List.replicate W (Value.int .u64 0)).drop (0 + ((rl[i].take W).map (Value.int .u64)).length) = (fitR W rl[i]).map (Value.int .u64) := by
   unfold fitR
   rw [List.take_zero, List.nil_append, List.map_append, List.map_replicate, List.drop_replicate, List.length_map, List.length_take]
   congr 2
   omega
  rw [e4] at o4
  have z4 := m4.size
  have zA := eA.size
  have ro4 : RowsOwn A4 H.size out rs ((rl.take i).map (fitR W)) := (ro.ext e1).mod m4 (fun b hb q => by have := (ro.block.1 b hb).2; have := f1 b q; omega) fun y hy b hb q => by have := (ro.block.2 y hy b hb).2; have := f1 b q; omega
  refine ro4.push (ty := Yaq) o4 (fun r' hr' b hb hb' => by have := (ro.block.2 r' hr' b hb').2; have := f1 b hb; omega) (by rw [ro.n, List.length_map, List.length_take]; omega) (by omega) fun s' H' _ r5 m5 => ?_
  refine hnext hlt _ _ ⟨succ64 i (by omega), rs ++ [x], ?_, ⟨by have := m5.size; omega, fun b hb _ => ?_⟩⟩
  ·rw [List.take_add_one, List.getElem?_eq_getElem hlt, List.map_append]
   exact r5
  ·exact (m5.same b (by omega) (fun q => by have := (ro.block.1 b q).1; omega)).trans ((m4.same b (by omega) (fun q => by have := f1 b q; omega)).trans ((e1.same b (by omega) id).trans (eA.same b hb id)))
 ·have hie : i = rl.length := by
   have : ¬ (i : Int) < (rows.n : Int) := by simpa using hc
   omega
  subst hie
  rw [List.take_length] at ro
  exact hK out rs A ro eA
theorem same_ok {rows : Sl} {rl : List (List Int)} {H : Heap} {K : Sl → Heap → Prop} (hr : Rows H rows rl) (hn : rl.length ≤ 300) (hK : ∀ l rs A, RowsOwn A H.size l rs (rl.map (fitR 2)) → Ext H A → K l A) : ZbP.sp rows H K := by
 refine ZbP.of ?_
 unfold ZbP.vc
 exact cut_rows (W := 2) (K := fun z A => K z.1 A) hr hn (by decide) hK
structure ClS (B0 A : Heap) (X : Nat → Prop) (ub ku fs kb kk gb tb : Nat) (g ff kf : Value) (s : Sl) (ls : List (List Int)) (e : Int) (uc fc kc tc : Bool) (cl : Int) : Prop where
 cu : RowT A ub Yau (srcW 2 g ⟨at0 ku, 2, 2⟩ 0 .nilIface uc false)
 cku : RowT A ku Yak #[.pointer (at0 fs), .pointer (at0 kb)]
 cfs : RowT A fs Yau (srcW 2 ff (Sl.mk none 0 0) 0 .nilIface fc false)
 ckb : RowT A kb Yau (srcW 2 kf ⟨at0 kk, 1, 1⟩ 0 .nilIface kc false)
 ckk : RowT A kk Yak #[.pointer (at0 tb)]
 ov : OvM X A gb tb s ls e cl 0 false tc false
 mod : Mod (fun b => b = ub ∨ b = fs ∨ b = kb ∨ b = gb ∨ b = tb) B0 A
 ne : (ub ≠ fs ∧ ub ≠ kb ∧ ub ≠ tb) ∧ fs ≠ kb ∧ fs ≠ tb ∧ kb ≠ tb
 x : X ub ∧ X fs ∧ X kb
section
variable {B0 A B : Heap} {X : Nat → Prop} {ub ku fs kb kk gb tb : Nat} {g ff kf : Value} {s : Sl} {ls : List (List Int)} {e cl : Int} {uc fc kc tc : Bool}
theorem close_keep {K : Unit → Heap → Prop} (h : ClS B0 A X ub ku fs kb kk gb tb g ff kf s ls e uc fc kc tc cl) (hc : 0 ≤ cl ∧ cl < 1000)
  (hK : ∀ B, ClS B0 B X ub ku fs kb kk gb tb g ff kf s ls e uc fc true true (if tc = true then cl else cl + 1) → K () B) : ZbG.sp (at0 kb) A K := by
 have ty : ∀ {x y : Nat} {t u : TypeId} {cs ds : Array Value}, RowT A x t cs → RowT A y u ds → t ≠ u → x ≠ y := fun {x y t u cs ds} h1 h2 hne e => hne (cells_ty (e ▸ h1) h2)
 have n1 : ku ≠ kb := ty h.cku h.ckb (by decide)
 have n2 : kk ≠ kb := ty h.ckk h.ckb (by decide)
 have n3 : gb ≠ kb := ty h.ov.feed h.ckb (by decide)
 have n4 : ku ≠ gb := ty h.cku h.ov.feed (by decide)
 have n5 : kk ≠ gb := ty h.ckk h.ov.feed (by decide)
 have n6 : ku ≠ tb := ty h.cku h.ov.row (by decide)
 have n7 : kk ≠ tb := ty h.ckk h.ov.row (by decide)
 have n8 : ub ≠ gb := ty h.cu h.ov.feed (by decide)
 have n9 : fs ≠ gb := ty h.cfs h.ov.feed (by decide)
 refine close_ok (us := [tb]) (fun i D => if i = 0 then ClS B0 D X ub ku fs kb kk gb tb g ff kf s ls e uc fc true tc cl else ClS B0 D X ub ku fs kb kk gb tb g ff kf s ls e uc fc true true (if tc = true then cl else cl + 1)) h.ckb (one_src h.ckk) (by simp) (fun D rD mD => ?_) (fun i D hI hi => ?_) (fun i D hi M hI hM => ?_) fun D hI => ?_
 ·rw [if_pos rfl]
  exact ⟨h.cu.mod mD h.ne.1.2.1, h.cku.mod mD n1, h.cfs.mod mD h.ne.2.1, rD, h.ckk.mod mD n2, h.ov.keep mD (fun b u => u ▸ h.x.2.2) n3 (Ne.symm h.ne.2.2.2), h.mod.trans (mD.mono fun b _ u => .inr (.inr (.inl u))), h.ne, h.x⟩
 ·have hi0 : i = 0 := by simpa using hi
  rw [if_pos hi0] at hI
  exact (one_src hI.ckk).reads
 ·have hi0 : i = 0 := by simpa using hi
  subst hi0
  rw [if_pos rfl] at hI
  refine close_over hI.ov hc fun E oE mE => hM E ?_
  rw [if_neg (by decide)]
  exact ⟨hI.cu.mod mE fun u => u.elim n8 h.ne.1.2.2, hI.cku.mod mE fun u => u.elim n4 n6, hI.cfs.mod mE fun u => u.elim n9 h.ne.2.2.1, hI.ckb.mod mE fun u => u.elim (Ne.symm n3) h.ne.2.2.2, hI.ckk.mod mE fun u => u.elim n5 n7, oE, hI.mod.trans (mE.mono fun b _ u => .inr (.inr (.inr u))), h.ne, h.x⟩
 ·rw [if_neg (by simp)] at hI
  exact hK D hI
theorem close_union {K : Unit → Heap → Prop} (h : ClS B0 A X ub ku fs kb kk gb tb g ff kf s ls e uc fc kc tc cl) (hc : 0 ≤ cl ∧ cl < 1000)
  (hK : ∀ B, ClS B0 B X ub ku fs kb kk gb tb g ff kf s ls e true true true true (if tc = true then cl else cl + 1) → K () B) : ZbG.sp (at0 ub) A K := by
 have ty : ∀ {x y : Nat} {t u : TypeId} {cs ds : Array Value}, RowT A x t cs → RowT A y u ds → t ≠ u → x ≠ y := fun {x y t u cs ds} h1 h2 hne e => hne (cells_ty (e ▸ h1) h2)
 have n1 : ku ≠ ub := ty h.cku h.cu (by decide)
 have n2 : kk ≠ ub := ty h.ckk h.cu (by decide)
 have n3 : gb ≠ ub := ty h.ov.feed h.cu (by decide)
 have n4 : ku ≠ fs := ty h.cku h.cfs (by decide)
 have n5 : kk ≠ fs := ty h.ckk h.cfs (by decide)
 have n6 : gb ≠ fs := ty h.ov.feed h.cfs (by decide)
 refine close_ok (us := [fs, kb]) (fun i D => if i = 0 then ClS B0 D X ub ku fs kb kk gb tb g ff kf s ls e true fc kc tc cl else if i = 1 then ClS B0 D X ub ku fs kb kk gb tb g ff kf s ls e true true kc tc cl else ClS B0 D X ub ku fs kb kk gb tb g ff kf s ls e true true true true (if tc = true then cl else cl + 1)) h.cu (two_src h.cku) (by simp) (fun D rD mD => ?_) (fun i D hI hi => ?_) (fun i D hi M hI hM => ?_) fun D hI => ?_
 ·rw [if_pos rfl]
  exact ⟨rD, h.cku.mod mD n1, h.cfs.mod mD (Ne.symm h.ne.1.1), h.ckb.mod mD (Ne.symm h.ne.1.2.1), h.ckk.mod mD n2, h.ov.keep mD (fun b u => u ▸ h.x.1) n3 (Ne.symm h.ne.1.2.2), h.mod.trans (mD.mono fun b _ u => .inl u), h.ne, h.x⟩
 ·have hi2 : i = 0 ∨ i = 1 := by simp at hi; omega
  rcases hi2 with rfl | rfl
  ·rw [if_pos rfl] at hI
   exact (two_src hI.cku).reads
  ·rw [if_neg (by decide), if_pos rfl] at hI
   exact (two_src hI.cku).reads
 ·have hi2 : i = 0 ∨ i = 1 := by simp at hi; omega
  rcases hi2 with rfl | rfl
  ·rw [if_pos rfl] at hI
   refine close_leaf hI.cfs fun E rE mE => hM E ?_
   rw [if_neg (by decide), if_pos rfl]
   exact ⟨hI.cu.mod mE h.ne.1.1, hI.cku.mod mE n4, rE, hI.ckb.mod mE (Ne.symm h.ne.2.1), hI.ckk.mod mE n5, hI.ov.keep mE (fun b u => u ▸ h.x.2.1) n6 (Ne.symm h.ne.2.2.1), hI.mod.trans (mE.mono fun b _ u => .inr (.inl u)), h.ne, h.x⟩
  ·rw [if_neg (by decide), if_pos rfl] at hI
   refine close_keep hI hc fun E cE => hM E ?_
   rw [if_neg (by decide), if_neg (by decide)]
   exact cE
 ·rw [if_neg (by simp), if_neg (by simp)] at hI
  exact hK D hI
end
set_option maxHeartbeats 4000000 in
set_option maxRecDepth 10000 in
theorem JoinOver_ok {rows : Sl} {rl : List (List Int)} {e stop : Int} {H : Heap} {K : Bool → Heap → Prop} (hg : Gl H) (hr : Rows H rows rl) (hK : ∀ B, Ext H B → K true B) : ZbA.sp rows e stop H K := by
 refine ZbA.of ?_
 unfold ZbA.vc
 have hrn := hr.len
 refine br_mk (fun _ => hK H (.refl _ _)) (fun hc => ?_)
 have hn60 : rl.length ≤ 60 := by
  have : ¬ (rows.n : Int) > 60 := by simpa using hc
  omega
 refine same_ok hr (by omega) fun l rs A1 own e1 => ?_
 obtain ⟨ls, hls⟩ : ∃ ls, ls = rl.map (fitR 2) := ⟨_, rfl⟩
 rw [← hls] at own
 have hnl : ls.length ≤ 60 := by rw [hls, List.length_map]; exact hn60
 have h2 : ∀ y ∈ ls, y.length = 2 := fun y hy => by
  rw [hls] at hy
  obtain ⟨z, _, rfl⟩ := List.mem_map.1 hy
  exact fitR_length 2 z
 have hlen : l.n = ls.length := own.n
 refine newC_rowT fun A2 z2 r2 e2 => ?_
 refine newC_rowT fun A3 z3 r3 e3 => ?_
 refine Over_ok (fb := A1.size) fun A4 r4 e4 z4 => ?_
 refine Over_ok (fb := A2.size) fun A5 r5 e5 z5 => ?_
 refine Over_none fun A6 r6 e6 z6 => ?_
 refine next_stop r6 (.inl (by decide)) ?_
 refine br_f rfl (br_f rfl ?_)
 have e16 := (((e2.trans e3).trans e4).trans e5).trans e6
 have e06 := e1.trans e16
 have s1 := e1.size
 obtain ⟨X, hX⟩ : ∃ X : Nat → Prop, X = fun b => A1.size ≤ b := ⟨_, rfl⟩
 have inX : ∀ b, X b ↔ A1.size ≤ b := fun b => by rw [hX]
 obtain ⟨b1, b2⟩ := own.block
 have rows1 : RowsX X A1 l ls := rowsX_own own fun b hb u => by
  have u := (inX b).1 u
  rcases hb with v | ⟨r, hr, v⟩
  ·have := (b1 b v).2; omega
  ·have := (b2 r hr b v).2; omega
 have rows6 : RowsX X A6 l ls := rows1.mod (Ext.mod e16)
 have ovf : OvM X A6 A1.size A3.size l ls e 0 0 false false false := ⟨(((r2.ext e3).ext e4).ext e5).ext e6, (r4.ext e5).ext e6, rows6, own.out.cap, (inX _).2 (by omega), (inX _).2 (by omega)⟩
 have ovg : OvM X A6 A2.size A4.size l ls e 0 0 false false false := ⟨((r3.ext e4).ext e5).ext e6, r5.ext e6, rows6, own.out.cap, (inX _).2 (by omega), (inX _).2 (by omega)⟩
 refine widthW_ok ovf.row ?_
 refine br_f rfl ?_
 refine widthW_ok r6 ?_
 refine br_f rfl ?_
 -- all rows of the first feed
 refine loop_upto ls.length (fun i z A => z = (i : Int) ∧ ∃ s', OvM X A A1.size A3.size s' (ls.drop i) e 0 0 false false false ∧ Mod (fun b => b = A1.size ∨ b = A3.size) A6 A) ⟨rfl, l, ovf, .refl _ _⟩ ?_
 rintro i _ A next hi ⟨rfl, s', ov, mA⟩ hnext
 refine br_mk (fun hc => ?_) (fun hc => ?_)
 ·have hlt : i < ls.length := by have : (i : Int) < (l.n : Int) := by simpa using hc
                                 omega
  have hd := List.drop_eq_getElem_cons hlt
  refine next_over ov (fun y r x B s2 hy ov2 mB ix => ?_) (fun h0 => by rw [h0] at hd; cases hd)
  rw [hd] at hy
  obtain ⟨rfl, rfl⟩ := List.cons.inj hy
  refine br_f rfl ?_
  have mB6 : Mod (fun b => b = A1.size ∨ b = A3.size) A6 B := mA.trans (mB.mono fun _ _ u => .inl u)
  have rowsB : RowsX X B l ls := rows6.mod (mB6.mono fun b _ u => (inX b).2 (by omega))
  refine rowsB.rows.ld hlt fun ad y _ iy => ?_
  refine SameRow_ok ix iy (by rw [h2 _ (List.getElem_mem hlt)]; decide) ?_
  rw [decide_eq_true rfl]
  refine br_f rfl ?_
  exact hnext hlt _ _ ⟨succ64 i (by omega), s2, ov2, mB6⟩
 have hge : i = ls.length := by have : ¬ (i : Int) < (l.n : Int) := by simpa using hc
                                omega
 subst hge
 rw [List.drop_length] at ov
 clear hnext hc hi next
 -- its end
 refine loop_upto 3 (fun i z B => z = (i : Int) ∧ ∃ wr fe en, OvM X B A1.size A3.size s' [] e 0 wr fe false en ∧ ((i = 0 ∧ wr = 0 ∧ fe = false ∧ en = false) ∨ (0 < i ∧ wr = e ∧ fe = true ∧ en = true)) ∧ Mod (fun b => b = A1.size ∨ b = A3.size) A6 B) ⟨rfl, _, _, _, ov, .inl ⟨rfl, rfl, rfl, rfl⟩, mA⟩ ?_
 rintro i _ B next hi ⟨rfl, wr, fe, en, ovB, hst, mB⟩ hnext
 refine br_mk (fun hc => ?_) (fun hc => ?_)
 ·have hlt : i < 3 := by have : (i : Int) < (3 : Int) := by simpa using hc
                         omega
  have bad : (((false || decide (((Sl.mk none 0 0).n : Int) > (0 : Int))) || (e != e)) = false) := by simp
  rcases hst with ⟨rfl, rfl, rfl, rfl⟩ | ⟨h0, rfl, rfl, rfl⟩
  ·refine next_over ovB (fun y r x C s2 hy => by cases hy) (fun _ C ovC mC => ?_)
   refine br_f bad ?_
   exact hnext hlt _ _ ⟨succ64 0 (by decide), _, _, _, ovC, .inr ⟨by decide, rfl, rfl, rfl⟩, mB.trans mC⟩
  ·refine next_stop ovB.row (.inr rfl) ?_
   refine br_f bad ?_
   exact hnext hlt _ _ ⟨succ64 i (by omega), _, _, _, ovB, .inr ⟨by omega, rfl, rfl, rfl⟩, mB⟩
 have hi3 : i = 3 := by have : ¬ (i : Int) < (3 : Int) := by simpa using hc
                        omega
 subst hi3
 obtain ⟨rfl, rfl, rfl⟩ : wr = e ∧ fe = true ∧ en = true := by
  rcases hst with ⟨h, _⟩ | ⟨_, h⟩
  ·cases h
  ·exact h
 clear hnext hc hi next hst ov
 -- so many rows of the other
 have hw1 : IntKind.i64.wrap ((l.n : Int) + 1) = (ls.length : Int) + 1 := by rw [wrap64 (by omega) (by omega), hlen]
 rw [hw1]
 refine PickN_ok (by omega) ?_
 rw [if_neg (by omega)]
 have p0 := Int.emod_nonneg stop (show (ls.length : Int) + 1 ≠ 0 by omega)
 have p1 := Int.emod_lt_of_pos stop (show 0 < (ls.length : Int) + 1 by omega)
 obtain ⟨k, hk⟩ : ∃ k : Nat, stop.emod ((ls.length : Int) + 1) = (k : Int) := ⟨(stop.emod ((ls.length : Int) + 1)).toNat, (Int.toNat_of_nonneg p0).symm⟩
 have hkl : k ≤ ls.length := by
  have : (k : Int) < (ls.length : Int) + 1 := hk ▸ p1
  omega
 rw [hk]
 have ovgB : OvM X B A2.size A4.size l ls wr 0 0 false false false := ovg.keep mB (fun b u => (inX b).2 (by omega)) (by omega) (by omega)
 refine loop_upto k (fun i z C => z = (i : Int) ∧ ∃ s2, OvM X C A2.size A4.size s2 (ls.drop i) wr 0 0 false false false ∧ Mod (fun b => b = A2.size ∨ b = A4.size) B C) ⟨rfl, l, ovgB, .refl _ _⟩ ?_
 rintro i _ C next hi ⟨rfl, s2, ovC, mC⟩ hnext
 refine br_mk (fun hc => ?_) (fun hc => ?_)
 ·have hlt : i < k := by have : (i : Int) < (k : Int) := by simpa using hc
                         omega
  have hd := List.drop_eq_getElem_cons (show i < ls.length by omega)
  refine next_over ovC (fun y r x D s3 hy ov2 mD ix => ?_) (fun h0 => by rw [h0] at hd; cases hd)
  rw [hd] at hy
  obtain ⟨rfl, rfl⟩ := List.cons.inj hy
  exact hnext hlt _ _ ⟨succ64 i (by omega), s3, ov2, mC.trans (mD.mono fun _ _ u => .inl u)⟩
 have hik : i = k := by have : ¬ (i : Int) < (k : Int) := by simpa using hc
                        omega
 subst hik
 clear hnext hc next
 have ovfC : OvM X C A1.size A3.size s' [] wr 0 wr true false true := ovB.keep mC (fun b u => (inX b).2 (by omega)) (by omega) (by omega)
 have zB := mB.size
 have zC := mC.size
 refine From_ok (ls := []) ⟨rfl, fun i hi => by simp at hi⟩ (by simp) (by simp) fun fs lb wb _ _ A18 rfs _ _ _ _ e18 _ _ lo18 hi18 => ?_
 rw [if_neg (by decide)] at rfs
 have ovg18 := ovC.row.ext e18
 refine Keep_ok ovg18 ⟨Int.le_refl _, by decide⟩ ⟨Int.le_refl _, by decide⟩ fun kb p q kk want A19 wh e19 lo19 hi19 => ?_
 refine Union_ok (show RowT A19 fs Yau (srcW 2 (fromF lb wb) (Sl.mk none 0 0) 0 .nilIface false false) from rfs.ext e19) wh.row fun ub g ku A20 ru rku e20 lo20 hi20 => ?_
 have z18 := e18.size
 have z19 := e19.size
 have e1820 := e19.trans e20
 have eC20 := e18.trans e1820
 have ovg20 : OvM X A20 A2.size A4.size s2 (ls.drop i) wr 0 0 false false false := ovC.keep (Y := fun _ => False) eC20 (fun b u => u.elim) id id
 have ovf20 : OvM X A20 A1.size A3.size s' [] wr 0 wr true false true := ovfC.keep (Y := fun _ => False) eC20 (fun b u => u.elim) id id
 have cs0 : ClS A20 A20 X ub ku fs kb kk A2.size A4.size g (fromF lb wb) (.func (.func ZcQ.no) #[] #[.pointer (at0 p), .pointer (at0 q)]) s2 (ls.drop i) wr false false false false 0 :=
  ⟨ru, rku, show RowT A20 fs Yau (srcW 2 (fromF lb wb) (Sl.mk none 0 0) 0 .nilIface false false) from rfs.ext e1820, wh.row.ext e20, wh.ck.ext e20, ovg20, .refl _ _, ⟨⟨by omega, by omega, by omega⟩, by omega, by omega, by omega⟩, (inX _).2 (by omega), (inX _).2 (by omega), (inX _).2 (by omega)⟩
 refine close_union cs0 ⟨by decide, by decide⟩ fun A21 cs1 => ?_
 refine close_union cs1 ⟨by decide, by decide⟩ fun A22 cs2 => ?_
 refine next_shut cs2.ov.row ?_
 have m22 := cs2.mod
 have z22 := m22.size
 have ovf22 : OvM X A22 A1.size A3.size s' [] wr 0 wr true false true := ovf20.keep m22 (fun b u => (inX b).2 (by omega)) (by omega) (by omega)
 refine close_over ovf22 ⟨by decide, by decide⟩ fun A24 ovf24 m24 => ?_
 have ovg24 := cs2.ov.keep m24 (fun b u => (inX b).2 (by omega)) (by omega) (by omega)
 refine RowT.ld (c := cInt .i64) (i := 2) (x := 0) ovf24.feed rfl ?_
 refine br_t rfl ?_
 refine RowT.ld (c := cInt .i64) (i := 3) (x := 1) ovf24.feed rfl ?_
 refine br_t rfl ?_
 refine RowT.ld (c := cInt .i64) (i := 3) (x := 1) ovg24.feed rfl ?_
 refine br_t rfl ?_
 refine RowT.ld (c := cSl) (i := 0) (x := s2) ovg24.feed rfl ?_
 have hs2 : s2.n = ls.length - i := by have := ovg24.rows.len; rw [List.length_drop] at this; exact this
 refine br_t (by rw [hs2, hlen, wrap64 (by omega) (by omega)]; simp; omega) ?_
 have e6B : Ext H B := Ext.more e06 mB fun b u => by omega
 have eC : Ext H C := Ext.more e6B mC fun b u => by omega
 have e22 : Ext H A22 := Ext.more (eC.trans eC20) m22 fun b u => by omega
 have e24 : Ext H A24 := Ext.more e22 m24 fun b u => by omega
 exact jworks_ok (Gl.mod hg e24 id) fun D eD => hK D (e24.trans eD)
end Go.Proofs.YtlockeegebnofaaGreatDoor
namespace Go.Proofs.YtlockeegebnofaaGreatDoor
open Go.ChangeShapes Go.WideShapes Go.ChangeAt Go.RowKit
set_option maxRecDepth 100000 in
theorem joinOver_lifted (os : Os) (started : os.Started) (H : Type) (enc : TypeId × Value → H) :
  ReturnsInHanded {} Tryz.checked os 4 .any (fun w args => (Rows.joinOverSpec.pre enc Tryz.prog Tryz.f4 [] false w args ∧ laidMetH Tryz.prog laidS w) ∧ sizedMet enc Tryz.prog Tryz.f4 (OpenSpec.ofChange Rows.joinOverSpec) false w args)
   (Rows.joinOverSpec.post enc Tryz.prog Tryz.f4 false true false false) := by
 refine returnsInHanded_of_change_and (C := Tryz.checked) (X := fun w _ => laidMetH Tryz.prog laidS w) (fun _ _ _ hh h => h.of_heap hh) pprog_own started (by kernel_rfl) Tryz.func4
  (ChangeSpec.witness_shaped (enc := enc) (C := Tryz.checked) (os := os) (X := fun w _ => laidMetH Tryz.prog laidS w) false (World.doorLaid Tryz.prog 400 os) #[.slice none 0 0, .int .i64 0, .int .i64 0] 8 rfl (World.shaped_of_RefB (by kernel_rfl) (by kernel_rfl)) (by kernel_rfl) (by kernel_rfl) (by kernel_rfl) (door_met os _)) ?_
 intro W base args ds gs before hval0 hW _ _ hL _
 have hval : ∀ (j : Nat) t v, Tryz.f4.params[j]? = some t → args[j]? = some v → Value.okWide Tryz.prog W .any base t v := hval0
 have hW' := hW
 obtain ⟨p, q, hA0, hV, rfl, hfz, hnd⟩ := hW
 have hA : DataW.TrodAll enc Tryz.prog W 0 (fun _ => true) true Tryz.f4.params.toList args.toList ds p := hA0
 rw [Tryz.params4] at hA hval
 obtain ⟨v0, v1, v2, d0, d1, d2, p0, p1, p2, rfl, rfl, rfl, h0, h1, h2⟩ := trodAll_three hA
 obtain ⟨rfl, rfl⟩ := trodVars_none hV
 obtain ⟨rows, rl, rfl, rn, _, ra⟩ := open_sl_sl_ints (k := .u64) (e := YaE) (e2 := YaP) (by kernel_rfl) (by kernel_rfl) (by kernel_rfl) (by kernel_rfl) (by kernel_rfl) (hval 0 Yaq v0 rfl rfl) h0
 obtain ⟨e, rfl, _⟩ := wide_int (k := .i64) (hval 1 YaA v1 rfl rfl) (by kernel_rfl)
 obtain ⟨stop, rfl, _⟩ := wide_int (k := .i64) (hval 2 YaT v2 rfl rfl) (by kernel_rfl)
 have hspec := JoinOver_ok (rows := rows) (rl := rl) (e := e) (stop := stop) (H := W.heap) (K := fun b H' => b = true ∧ Ext W.heap H') (gl_of_laid hL) ⟨rn, fun i hi => by obtain ⟨ad, rr, q1, q2, q3, _⟩ := ra i hi; exact ⟨ad, rr, q1, q2, q3⟩⟩ (fun H' e => ⟨rfl, e⟩)
 refine (hspec W rfl).mono fun e W' ⟨v, he, ⟨x, hx, hb, hext⟩, hal⟩ => ?_
 subst he; subst hx; subst hb
 exact ⟨_, rfl, law_post pprog_laidOut (by decide +kernel) rfl (by kernel_rfl) rfl rfl rfl rfl hW' hext hal⟩
theorem joinOver_row : Rows.JoinOverSaid :=
 OpenClaim.holds_of_wide 4 Tryz.f4 rfl rfl rfl rfl rfl rfl rfl ⟨rfl, rfl, rfl, rfl, rfl⟩ rfl rfl rfl rfl rfl (by kernel_rfl) Tryz.func4 (by kernel_rfl)
  (of_decide_eq_true (by kernel_rfl)) (by unfold Func.isWrapper; first | (rw [if_pos (by decide +kernel)]; kernel_rfl) | (rw [if_neg (by decide +kernel)]; exact ⟨rfl, rfl⟩))
  (fun os started H enc _ => joinOver_lifted os started H enc)
theorem joinOver_holds : Rows.JoinOverCardSaid :=
 Claim7.holds_tied_plain_at .later [] [.data, .data, .data, .data] true _ false
  joinOver_row (fun _ h => by cases h) (by kernel_rfl) (fun _ h => by cases h) joinOver_row_tie rfl ⟨rfl, rfl⟩ (by kernel_rfl) rfl
  (fun f fn hf hfn => by
   obtain rfl : f = 4 := Option.some.inj ((show Tryz.prog.funcNamed "fathom/fathomlaw11.JoinOver" = some 4 by kernel_rfl).symm.trans hf) |>.symm
   obtain rfl : fn = Tryz.f4 := (Option.some.inj (Tryz.func4.symm.trans hfn)).symm
   exact ⟨by kernel_rfl, fun j t ht => by
    rw [Tryz.params4] at ht
    have hm : t ∈ [Yaq, YaA, YaT] := by simpa using Array.mem_of_getElem? ht
    have hall : ([Yaq, YaA, YaT].all fun u => !Tryz.prog.wantsStandIn u) = true := by kernel_rfl
    exact (show Tryz.prog.wantsStandIn t = false by simpa using List.all_eq_true.1 hall t hm)⟩)
  (by kernel_rfl)
#print axioms joinOver_holds
end Go.Proofs.YtlockeegebnofaaGreatDoor
