/-
  Written by wip/tools/lay2.py: where the library's functions lie in this program, for the kit's contracts.
-/
import Derived.Shelf.Bytes.WriteAt
import Derived.Shelf.Bytes.WriteStringAt
import Derived.Test.YtjjfngnokbboeaaDoorProg
import Derived.Test.YtjjfngnokbboeaaDoorJ26
import Derived.Test.YtjjfngnokbboeaaDoorJ36
import Derived.Test.YtjjfngnokbboeaaDoorJ42
namespace Go.Proofs.YtjjfngnokbboeaaDoor
open Go.Shelf
def bufWrite_ren : Go.Shelf.Ren := ⟨fun | 180 => 28 | 251 => 63 | 252 => 64 | 181 => 77 | 184 => 78 | 290 => 79 | 324 => 84 | n => n, fun | 130 => 115 | 37 => 25 | 3 => 3 | 75 => 61 | 0 => 0 | 93 => 57 | 91 => 55 | 131 => 116 | 4 => 4 | 20 => 20 | 5 => 5 | 80 => 70 | 9 => 9 | n => n, fun | 14 => 0 | n => n⟩
theorem bufWrite : Go.Proofs.LaysM.n180 Tryd.prog bufWrite_ren := {
  mixed := by kernel_rfl,
  f180 := Tryd.func28.trans (congrArg some (by kernel_rfl)),
  f181 := Tryd.func77.trans (congrArg some (by kernel_rfl)),
  f184 := Tryd.func78.trans (congrArg some (by kernel_rfl)),
  f251 := Tryd.func63.trans (congrArg some (by kernel_rfl)),
  f252 := Tryd.func64.trans (congrArg some (by kernel_rfl)),
  f290 := Tryd.func79.trans (congrArg some (by kernel_rfl)),
  f324 := Tryd.func84.trans (congrArg some (by kernel_rfl)),
  t0 := Tryd.underlying0,
  a0 := Tryd.isAgg0,
  z0 := Tryd.sizeOf0,
  v0 := Tryd.zeroValue0,
  t3 := Tryd.underlying3,
  a3 := Tryd.isAgg3,
  z3 := Tryd.sizeOf3,
  v3 := Tryd.zeroValue3,
  t4 := Tryd.underlying4,
  a4 := Tryd.isAgg4,
  z4 := Tryd.sizeOf4,
  v4 := Tryd.zeroValue4,
  t20 := Tryd.underlying20,
  a20 := Tryd.isAgg20,
  z20 := Tryd.sizeOf20,
  v20 := Tryd.zeroValue20,
  t37 := Tryd.underlying25,
  a37 := Tryd.isAgg25,
  z37 := Tryd.sizeOf25,
  v37 := Tryd.zeroValue25,
  t75 := Tryd.underlying61,
  a75 := Tryd.isAgg61,
  z75 := Tryd.sizeOf61,
  v75 := Tryd.zeroValue61,
  t91 := Tryd.underlying55,
  a91 := Tryd.isAgg55,
  z91 := Tryd.sizeOf55,
  v91 := Tryd.zeroValue55,
  t93 := Tryd.underlying57,
  a93 := Tryd.isAgg57,
  z93 := Tryd.sizeOf57,
  v93 := Tryd.zeroValue57,
  t130 := Tryd.underlying115,
  a130 := Tryd.isAgg115,
  z130 := Tryd.sizeOf115,
  v130 := Tryd.zeroValue115,
  t131 := Tryd.underlying116,
  a131 := Tryd.isAgg116,
  z131 := Tryd.sizeOf116,
  v131 := Tryd.zeroValue116,
  g14 := by kernel_rfl,
  t5 := Tryd.underlying5,
  a5 := Tryd.isAgg5,
  z5 := Tryd.sizeOf5,
  v5 := Tryd.zeroValue5,
  t9 := Tryd.underlying9,
  a9 := Tryd.isAgg9,
  z9 := Tryd.sizeOf9,
  v9 := Tryd.zeroValue9,
  t80 := Tryd.underlying70,
  a80 := Tryd.isAgg70,
  z80 := Tryd.sizeOf70,
  v80 := Tryd.zeroValue70,
  i0 := by kernel_rfl,
  i3 := by kernel_rfl,
  i4 := by kernel_rfl,
  i5 := by kernel_rfl,
  i9 := by kernel_rfl,
  i20 := by kernel_rfl,
  i37 := by kernel_rfl,
  i75 := by kernel_rfl,
  i80 := by kernel_rfl,
  i91 := by kernel_rfl,
  i93 := by kernel_rfl,
  i130 := by kernel_rfl,
  i131 := by kernel_rfl,
  m14 := by kernel_rfl }
def bufText_ren : Go.Shelf.Ren := ⟨fun | 178 => 65 | 251 => 63 | 252 => 64 | 181 => 77 | 184 => 78 | 290 => 79 | 324 => 84 | n => n, fun | 130 => 115 | 9 => 9 | 3 => 3 | 75 => 61 | 0 => 0 | 93 => 57 | 91 => 55 | 131 => 116 | 4 => 4 | 37 => 25 | 20 => 20 | 80 => 70 | 5 => 5 | n => n, fun | 14 => 0 | n => n⟩
theorem bufText : Go.Proofs.LaysM.n178 Tryd.prog bufText_ren := {
  mixed := by kernel_rfl,
  f178 := Tryd.func65.trans (congrArg some (by kernel_rfl)),
  f181 := Tryd.func77.trans (congrArg some (by kernel_rfl)),
  f184 := Tryd.func78.trans (congrArg some (by kernel_rfl)),
  f251 := Tryd.func63.trans (congrArg some (by kernel_rfl)),
  f252 := Tryd.func64.trans (congrArg some (by kernel_rfl)),
  f290 := Tryd.func79.trans (congrArg some (by kernel_rfl)),
  f324 := Tryd.func84.trans (congrArg some (by kernel_rfl)),
  t0 := Tryd.underlying0,
  a0 := Tryd.isAgg0,
  z0 := Tryd.sizeOf0,
  v0 := Tryd.zeroValue0,
  t3 := Tryd.underlying3,
  a3 := Tryd.isAgg3,
  z3 := Tryd.sizeOf3,
  v3 := Tryd.zeroValue3,
  t4 := Tryd.underlying4,
  a4 := Tryd.isAgg4,
  z4 := Tryd.sizeOf4,
  v4 := Tryd.zeroValue4,
  t9 := Tryd.underlying9,
  a9 := Tryd.isAgg9,
  z9 := Tryd.sizeOf9,
  v9 := Tryd.zeroValue9,
  t20 := Tryd.underlying20,
  a20 := Tryd.isAgg20,
  z20 := Tryd.sizeOf20,
  v20 := Tryd.zeroValue20,
  t37 := Tryd.underlying25,
  a37 := Tryd.isAgg25,
  z37 := Tryd.sizeOf25,
  v37 := Tryd.zeroValue25,
  t75 := Tryd.underlying61,
  a75 := Tryd.isAgg61,
  z75 := Tryd.sizeOf61,
  v75 := Tryd.zeroValue61,
  t91 := Tryd.underlying55,
  a91 := Tryd.isAgg55,
  z91 := Tryd.sizeOf55,
  v91 := Tryd.zeroValue55,
  t93 := Tryd.underlying57,
  a93 := Tryd.isAgg57,
  z93 := Tryd.sizeOf57,
  v93 := Tryd.zeroValue57,
  t130 := Tryd.underlying115,
  a130 := Tryd.isAgg115,
  z130 := Tryd.sizeOf115,
  v130 := Tryd.zeroValue115,
  t131 := Tryd.underlying116,
  a131 := Tryd.isAgg116,
  z131 := Tryd.sizeOf116,
  v131 := Tryd.zeroValue116,
  g14 := by kernel_rfl,
  t5 := Tryd.underlying5,
  a5 := Tryd.isAgg5,
  z5 := Tryd.sizeOf5,
  v5 := Tryd.zeroValue5,
  t80 := Tryd.underlying70,
  a80 := Tryd.isAgg70,
  z80 := Tryd.sizeOf70,
  v80 := Tryd.zeroValue70,
  i0 := by kernel_rfl,
  i3 := by kernel_rfl,
  i4 := by kernel_rfl,
  i5 := by kernel_rfl,
  i9 := by kernel_rfl,
  i20 := by kernel_rfl,
  i37 := by kernel_rfl,
  i75 := by kernel_rfl,
  i80 := by kernel_rfl,
  i91 := by kernel_rfl,
  i93 := by kernel_rfl,
  i130 := by kernel_rfl,
  i131 := by kernel_rfl,
  m14 := by kernel_rfl }
end Go.Proofs.YtjjfngnokbboeaaDoor

/-
  Manifests: what puts bytes together, by the kit's contracts of bytes.Buffer: the walk of 'Encode'.
-/
namespace Go.Proofs.YtjjfngnokbboeaaDoor
open Go.MapKept Go.RowKit

/-- A writer at the block 'q' that holds some bytes; all of it lies from 'base' on. -/
def BufA (base : Nat) (A : Heap) (q : Nat) (l : List UInt8) : Prop :=
  base ≤ q ∧ ∃ (s : Sl) (lr : Int), RowT A q ty_manifest_writer #[s.v, .int .i64 0, .int .i8 lr] ∧ Owns A base ty_uint8 1 s (pgV l) ∧ ¬ ownB s q

theorem BufA.lt {base : Nat} {A : Heap} {q : Nat} {l : List UInt8} (h : BufA base A q l) : q < A.size := by
  obtain ⟨_, s, lr, r, _⟩ := h; exact obj_lt r
theorem BufA.ext {base : Nat} {A B : Heap} {q : Nat} {l : List UInt8} (h : BufA base A q l) (e : Ext A B) : BufA base B q l := by
  obtain ⟨h0, s, lr, r, o, n⟩ := h
  exact ⟨h0, s, lr, r.ext e, o.ext e, n⟩
theorem pgV_one (l : List UInt8) : ∀ v ∈ pgV l, v.oneCell' = true := by
  intro v hv
  obtain ⟨x, _, rfl⟩ := List.mem_map.1 hv
  rfl
theorem BufA.toKit {base : Nat} {w : World} {q : Nat} {l : List UInt8} (h : BufA base w.heap q l) : LibA.IsBuffer ty_manifest_writer (fun _ => none) ty_uint8 base q 0 (pgV l) w := by
  obtain ⟨h0, s, lr, r, o, n⟩ := h
  have hn : s.n = (pgV l).length := by have := o.1; omega
  refine ⟨h0, s.v, lr, ⟨_, r, rfl, rfl, rfl, fun i hi => Array.getElem?_eq_none (by simp; omega)⟩, ?_, ?_⟩
  · rw [← hn]; exact Owns.iff.2 o
  · unfold Sl.v Value.ownBlock
    cases ha : s.a with
    | none => simp
    | some ad =>
      simp only [ne_eq, Option.some.injEq]
      exact fun e => n ⟨ad, ha, e⟩
theorem BufA.ofKit {base : Nat} {w : World} {q : Nat} {bs : List Value} {l : List UInt8} (h : LibA.IsBuffer ty_manifest_writer (fun _ => none) ty_uint8 base q 0 bs w) (hb : bs = pgV l) : BufA base w.heap q l := by
  obtain ⟨h0, v, lr, ⟨cs, c1, c2, c3, c4, c5⟩, o, n⟩ := h
  subst hb
  obtain ⟨s, rfl, hsn⟩ : ∃ s : Sl, v = s.v ∧ s.n = (pgV l).length := by
    rcases o.2 with ⟨hv, h0⟩ | ⟨g, cap, cur, hv, _⟩
    · exact ⟨Sl.mk none 0 0, hv, h0.symm⟩
    · exact ⟨Sl.mk (some ⟨g, 0, none⟩) (pgV l).length cap, hv, rfl⟩
  have hcs : cs = #[s.v, .int .i64 0, .int .i8 lr] := by
    apply Array.ext_getElem?
    intro i
    match i with
    | 0 => rw [c2]; rfl
    | 1 => rw [c3]; rfl
    | 2 => rw [c4]; rfl
    | i + 3 => rw [c5 (i + 3) (.inr (by omega))]; rw [Array.getElem?_eq_none (by simp)]
  subst hcs
  refine ⟨h0, s, lr, c1, ?_, fun hb => n ?_⟩
  · rw [← hsn] at o; exact Owns.iff.1 o
  · obtain ⟨ad, ha, hq⟩ := hb
    unfold Sl.v Value.ownBlock
    rw [ha]; simp [hq]
theorem below_alike {B : Nat} {w w' : World} (h : Below B w w') : Alike w w' := by
  refine ⟨?_⟩
  have h1 := h.os; have h2 := h.tape; have h3 := h.output
  cases w; cases w'
  simp only at h1 h2 h3
  subst h1 h2 h3
  rfl
theorem below_mod {B : Nat} {w w' : World} (h : Below B w w') : Mod (fun b => B ≤ b) w.heap w'.heap := ⟨h.size, fun b _ hn => h.block b (by omega)⟩

/-- All but the writer and rows of bytes lies as it lay. -/
def KeptB (q : Nat) (A A' : Heap) : Prop := ∀ (k : Nat) (o : Obj), A[k]? = some o → k ≠ q → (∀ c fz, o ≠ .cells c ty_uint8 fz) → A'[k]? = some o
theorem KeptB.trans {q : Nat} {A B C : Heap} (h : KeptB q A B) (k : KeptB q B C) : KeptB q A C := fun i o h1 h2 h3 => k i o (h i o h1 h2 h3) h2 h3
theorem KeptB.of_ext {q : Nat} {A B : Heap} (e : Ext A B) : KeptB q A B := fun i o h1 _ _ => (e.same i (obj_lt h1) id).trans h1
theorem KeptB.row {q : Nat} {A B : Heap} (h : KeptB q A B) {b : Nat} {t : TypeId} {cs : Array Value} (r : RowT A b t cs) (ht : t ≠ ty_uint8) (hb : b ≠ q) : RowT B b t cs :=
  h b _ r hb fun c fz e => ht (by injection e)
theorem bufWrite_ok {base q : Nat} {l bs : List UInt8} {x : Sl} {ad : Addr} {A : Heap} {K : Int × Value → Heap → Prop} (h : BufA base A q l) (hx : Byts A x bs) (ha : x.a = some ad) (hq : ad.block ≠ q) (hl : l.length + bs.length ≤ 1099511627776)
    (hK : ∀ A', BufA base A' q (l ++ bs) → Mod (fun b => base ≤ b) A A' → KeptB q A A' → K ((x.n : Int), .nilIface) A') : bytes_Buffer_Write.sp (at0 q) x A K := by
  intro w hw
  subst hw
  have hlt := h.lt
  have hn := hx.n
  have hv : x.v = .slice (some ad) x.n x.c := by unfold Sl.v; rw [ha]
  have hc := Any.Buffer_Write_at bufWrite ty_manifest_writer (fun _ => none) base q 0 (pgV l) (pgV bs) ad x.n x.c w h.toKit (by have := h.1; omega) (pgV_one l) (by simp [pgV]; omega) hq
    (fun j v hj => by
      obtain ⟨ad', ha', hcell⟩ := hx.cells j v hj
      rw [ha] at ha'; cases ha'
      exact hcell) (pgV_one bs) (by simp only [pgV, List.length_map]; omega)
  rw [hv]
  refine hc.mono fun e w' ⟨he, hb, hbel, hoth⟩ => ⟨_, he, ⟨((x.n : Int), .nilIface), rfl, hK _ (BufA.ofKit hb (by simp [pgV])) (below_mod hbel) fun k o h1 h2 h3 => hoth k o h1 (by simpa using h2) h3⟩, below_alike hbel⟩
theorem byteCells_pgV (l : List UInt8) : Lib.byteCells l = pgV l := rfl
theorem bufText_ok {base q : Nat} {l : List UInt8} {x : ByteArray} {A : Heap} {K : Int × Value → Heap → Prop} (h : BufA base A q l) (hl : l.length + x.size ≤ 1099511627776)
    (hK : ∀ A', BufA base A' q (l ++ x.data.toList) → Mod (fun b => base ≤ b) A A' → KeptB q A A' → K ((x.size : Int), .nilIface) A') : bytes_Buffer_WriteString.sp (at0 q) x A K := by
  intro w hw
  subst hw
  have hlt := h.lt
  have hc := Any.Buffer_WriteString_at bufText ty_manifest_writer (fun _ => none) base q 0 (pgV l) x w h.toKit (by have := h.1; omega) (pgV_one l) (by simp only [pgV, List.length_map]; omega)
  refine hc.mono fun e w' ⟨he, hb, hbel, hoth⟩ => ⟨_, he, ⟨((x.size : Int), .nilIface), rfl, hK _ (BufA.ofKit hb (by rw [byteCells_pgV]; simp [pgV])) (below_mod hbel) fun k o h1 h2 h3 => hoth k o h1 (by simpa using h2) h3⟩, below_alike hbel⟩

theorem mod_ext {base : Nat} {A B : Heap} {H0 : Heap} (e : Ext H0 A) (hb : H0.size ≤ base) (m : Mod (fun b => base ≤ b) A B) : Ext H0 B :=
  ⟨Nat.le_trans e.size m.size, fun b hb' _ => (m.same b (Nat.lt_of_lt_of_le hb' e.size) (by omega)).trans (e.same b hb' id)⟩

theorem wnumber_ok {base q n : Nat} {l : List UInt8} {A : Heap} {K : Unit → Heap → Prop} (h : BufA base A q l) (hn : n < 18446744073709551616) (hl : l.length ≤ 1000000000)
    (hK : ∀ A', BufA base A' q (l ++ beN 4 n) → Mod (fun b => base ≤ b) A A' → KeptB q A A' → K () A') : manifest_writer_number.sp (at0 q) (n : Int) A K := by
  refine manifest_writer_number.of ?_
  unfold manifest_writer_number.vc at0
  simp only [optK_eq]
  have hu : IntKind.u64.wrap (n : Int) = (n : Int) := by rw [wrapU64]; omega
  rw [hu]
  have hlt := h.lt
  refine bytesOf_ok (many := 4) (by decide) (by decide) fun s A1 o1 e1 f1 ha => ?_
  obtain ⟨ad, ha⟩ := Option.ne_none_iff_exists'.1 ha
  have had := f1 ad.block ⟨ad, ha, rfl⟩
  rw [add_zero']
  refine bufWrite_ok (h.ext e1) (SlB_byts o1) ha (by omega) (by simp; omega) fun A2 b2 m2 k2 => ?_
  exact hK A2 b2 ((Ext.mod e1).trans m2) ((KeptB.of_ext e1).trans k2)
theorem wtext_ok {base q : Nat} {l : List UInt8} {x : ByteArray} {A : Heap} {K : Unit → Heap → Prop} (h : BufA base A q l) (hx : x.size ≤ 1000000) (hl : l.length ≤ 900000000)
    (hK : ∀ A', BufA base A' q (l ++ txtB x) → Mod (fun b => base ≤ b) A A' → KeptB q A A' → K () A') : manifest_writer_text.sp (at0 q) x A K := by
  refine manifest_writer_text.of ?_
  unfold manifest_writer_text.vc
  refine wnumber_ok h (by omega) (by omega) fun A1 b1 m1 k1 => ?_
  unfold at0
  simp only [optK_eq]
  rw [add_zero']
  refine bufText_ok b1 (by simp; omega) fun A2 b2 m2 k2 => ?_
  rw [List.append_assoc] at b2
  exact hK A2 b2 (m1.trans m2) (k1.trans k2)
theorem zc_wr : zc Tryd.prog ty_manifest_writer = #[.slice none 0 0, .int .i64 0, .int .i8 0] := by kernel_rfl

/-- How many bytes a manifest has at the most. -/
theorem sumB_le (l : List Sv) (h : ∀ x ∈ l, svOK x = true) : (l.flatMap svB).length ≤ l.length * 66000 := by
  induction l with
  | nil => simp
  | cons x l ih =>
    have h1 := h x List.mem_cons_self
    unfold svOK at h1
    simp only [Bool.and_eq_true, decide_eq_true_eq] at h1
    have := ih fun y hy => h y (List.mem_cons_of_mem _ hy)
    rw [List.flatMap_cons, List.length_append, List.length_cons, Nat.add_mul]
    have e := svB_length x
    omega
set_option maxHeartbeats 1000000 in
set_option maxRecDepth 100000 in
theorem Encode_ok {m : Mf} {rs : Sl} {H : Heap} {K : Sl × Int → Heap → Prop} (h : Rels H rs m.rels) (hl : m.rels.length < 4611686018427387904) (ho : 0 ≤ m.opts ∧ m.opts < 256)
    (hK0 : mayM m = false → ∀ A', Ext H A' → K (Sl.mk none 0 0, 2) A')
    (hK1 : mayM m = true → ∀ s A', SlE EB ty_uint8 A' s (encM m) → (∀ b, ownB s b → H.size ≤ b) → s.n ≤ s.c → Ext H A' → K (s, 0) A') : manifest_Encode.sp m.opts m.next m.input m.terms rs H K := by
  refine manifest_Encode.of ?_
  unfold manifest_Encode.vc
  refine newC_rowT fun H1 z1 r1 e1 => ?_
  have rM : RowT H1 H.size ty_api_Manifest #[.int .u8 m.opts, .int .i64 m.next, .string m.input, .string m.terms, rs.v] := r1
  refine rM.ldA (c := cAgg [(cInt .u8), (cInt .i64), cStr, cStr, cSl]) (x := (m.opts, m.next, m.input, m.terms, rs)) rfl rfl ?_
  refine may_ok (h.ext e1) hl fun H2 e2 => ?_
  have e02 := e1.trans e2
  refine br_mk (fun q => hK0 (by simpa using q) H2 e02) (fun q => ?_)
  have hm : mayM m = true := by simpa using q
  have hm0 := hm
  unfold mayM at hm
  simp only [Bool.and_eq_true, decide_eq_true_eq, List.all_eq_true] at hm
  obtain ⟨⟨⟨⟨⟨⟨h1, h2⟩, h3⟩, h4⟩, h5⟩, h6⟩, h7⟩ := hm
  have r2 := rM.ext e2
  rw [zc_wr]
  refine newC_rowT fun H3 z3 r3 e3 => ?_
  have e03 := e02.trans e3
  have b3 : BufA H2.size H3 H2.size [] := ⟨Nat.le_refl _, Sl.mk none 0 0, 0, r3, Owns.nil _ _ _ _, fun ⟨ad, q, _⟩ => by cases q⟩
  have hbase : H.size ≤ H2.size := e02.size
  have low : ∀ {A : Heap}, Mod (fun b => H2.size ≤ b) H3 A → RowT A H.size ty_api_Manifest #[.int .u8 m.opts, .int .i64 m.next, .string m.input, .string m.terms, rs.v] ∧ Ext H A := fun m => ⟨(r2.ext e3).mod m (by have := e1.size; have := e2.size; omega), mod_ext e03 hbase m⟩
  refine (low (.refl _ _)).1.ld (c := cInt .u8) (i := 0) (x := m.opts) rfl ?_
  refine newC_rowT fun H4 z4 r4 e4 => ?_
  have hb4 : Byts H4 (Sl.mk (some ⟨H3.size, 0, none⟩) 2 2) [1, UInt8.ofNat m.opts.toNat] := by
    refine ⟨rfl, fun i v hv => ⟨_, rfl, ?_⟩⟩
    have ho2 : ((UInt8.ofNat m.opts.toNat).toNat : Int) = m.opts := by rw [UInt8.toNat_ofNat']; omega
    rw [add_lit0]
    match i, hv with
    | 0, hv => exact r4.cell hv
    | 1, hv =>
      have : v = .int .u8 ((UInt8.ofNat m.opts.toNat).toNat : Int) := (Option.some.inj hv).symm
      rw [this, ho2]; exact r4.cell rfl
    | i + 2, hv => simp [u8i] at hv
  rw [add_lit0]
  refine bufWrite_ok (b3.ext e4) hb4 rfl (by simp only; omega) (by simp) fun A1 b1 m1 _ => ?_
  have m01 : Mod (fun b => H2.size ≤ b) H3 A1 := (Ext.mod e4).trans m1
  refine (low m01).1.ld (c := cInt .i64) (i := 1) (x := m.next) rfl ?_
  obtain ⟨nx, hnx⟩ : ∃ nx : Nat, m.next = (nx : Int) := ⟨m.next.toNat, by omega⟩
  rw [hnx]
  refine wnumber_ok (n := nx) b1 (by omega) (by simp) fun A2 b2 m2 _ => ?_
  have m02 := m01.trans m2
  refine (low m02).1.ld (c := cStr) (i := 2) (x := m.input) rfl ?_
  refine wtext_ok b2 (by omega) (by simp) fun A3 b3 m3 _ => ?_
  have m03 := m02.trans m3
  refine (low m03).1.ld (c := cStr) (i := 3) (x := m.terms) rfl ?_
  have lt3 : (txtB m.input).length ≤ 104 := by rw [txtB_length]; omega
  have lt4 : (txtB m.terms).length ≤ 104 := by rw [txtB_length]; omega
  refine wtext_ok b3 (by omega) (by simp; omega) fun A4 b4 m4 _ => ?_
  have m04 := m03.trans m4
  have hn := h.n
  refine (low m04).1.ld (c := cSl) (i := 4) (x := rs) rfl ?_
  rw [hn]
  refine wnumber_ok (n := m.rels.length) b4 (by omega) (by simp; omega) fun A5 b5 m5 _ => ?_
  have m05 := m04.trans m5
  refine (low m05).1.ld (c := cSl) (i := 4) (x := rs) rfl ?_
  refine loop_upto m.rels.length (fun i z A => z = (i : Int) ∧ Mod (fun b => H2.size ≤ b) H3 A ∧
    BufA H2.size A H2.size (1 :: UInt8.ofNat m.opts.toNat :: (beN 4 nx ++ (txtB m.input ++ (txtB m.terms ++ (beN 4 m.rels.length ++ (m.rels.take i).flatMap svB)))))) ⟨rfl, m05, by simpa using b5⟩ ?_
  rintro i _ A next hi ⟨rfl, mA, bA⟩ hnext
  have hsum : ((m.rels.take i).flatMap svB).length ≤ 256 * 66000 := by
    refine Nat.le_trans (sumB_le _ fun x hx => h7 x (List.mem_of_mem_take hx)) ?_
    exact Nat.mul_le_mul_right _ (by rw [List.length_take]; omega)
  refine br_mk (fun q => ?_) (fun q => ?_)
  · have hlt : i < m.rels.length := by have : (i : Int) < (rs.n : Int) := by simpa using q
                                       omega
    have hx : m.rels[i]? = some m.rels[i] := List.getElem?_eq_getElem hlt
    have hok := h7 _ (List.getElem_mem hlt)
    unfold svOK at hok
    simp only [Bool.and_eq_true, decide_eq_true_eq] at hok
    have rd := (h.ext (low mA).2).rd
    obtain ⟨ad, had⟩ := rd.addr (by decide) (by omega)
    refine optK_mk ad had ⟨⟨by omega, by omega⟩, ?_⟩
    refine RdE.ldA (c := cAgg [cStr, cStr, cInt .i64]) (y := (m.rels[i].rel, m.rels[i].file, m.rels[i].rows)) rd had hx rfl (n := (i : Int).toNat * 3) (by rw [Int.toNat_natCast]; rfl) rfl ?_
    rw [zc_sv]
    refine newC_rowT fun B1 y1 s1 f1 => ?_
    refine s1.stAll (cs := #[.string m.rels[i].rel, .string m.rels[i].file, .int .i64 m.rels[i].rows]) size_sv rfl (by intro v hv; simp at hv; rcases hv with rfl | rfl | rfl <;> rfl) fun B2 s2 g2 y2 => ?_
    have hAs := bA.lt
    have bB2 : BufA H2.size B2 H2.size (1 :: UInt8.ofNat m.opts.toNat :: (beN 4 nx ++ (txtB m.input ++ (txtB m.terms ++ (beN 4 m.rels.length ++ (m.rels.take i).flatMap svB))))) := by
      have b1' := bA.ext f1
      obtain ⟨h0, s, lr, r, o, n⟩ := bA
      have hb := o.block
      refine ⟨h0, s, lr, (r.ext f1).mod g2 (by omega), (o.ext f1).mod g2 (fun b hb' q => by have := (hb b hb').2; omega), n⟩
    have mB2 : Mod (fun b => H2.size ≤ b) A B2 := (Ext.mod f1).trans (g2.mono fun b _ q => by omega)
    have lr1 : (txtB m.rels[i].rel).length ≤ 65540 := by rw [txtB_length]; omega
    have lr2 : (txtB m.rels[i].file).length ≤ 104 := by rw [txtB_length]; omega
    have hne : A.size ≠ H2.size := by omega
    generalize hL : (1 :: UInt8.ofNat m.opts.toNat :: (beN 4 nx ++ (txtB m.input ++ (txtB m.terms ++ (beN 4 m.rels.length ++ (m.rels.take i).flatMap svB))))) = L at bB2
    have hLl : L.length ≤ 20000000 := by
      rw [← hL]
      simp only [List.length_cons, List.length_append, beN_length]; omega
    refine s2.ld (c := cStr) (i := 0) (x := m.rels[i].rel) rfl ?_
    refine wtext_ok bB2 (by omega) (by omega) fun B3 c3 g3 k3 => ?_
    have s3 := k3.row s2 (by decide) hne
    refine s3.ld (c := cStr) (i := 1) (x := m.rels[i].file) rfl ?_
    refine wtext_ok c3 (by omega) (by simp; omega) fun B4 c4 g4 k4 => ?_
    have s4 := k4.row s3 (by decide) hne
    refine s4.ld (c := cInt .i64) (i := 2) (x := m.rels[i].rows) rfl ?_
    obtain ⟨rw', hrw⟩ : ∃ n : Nat, m.rels[i].rows = (n : Int) := ⟨m.rels[i].rows.toNat, by omega⟩
    rw [hrw]
    refine wnumber_ok (n := rw') c4 (by omega) (by simp; omega) fun B5 c5 g5 k5 => ?_
    refine hnext hlt _ _ ⟨succ64 i (by omega), (((mA.trans mB2).trans g3).trans g4).trans g5, ?_⟩
    have ht : m.rels.take (i + 1) = m.rels.take i ++ [m.rels[i]] := by rw [List.take_add_one, hx]; rfl
    have e : L ++ txtB m.rels[i].rel ++ txtB m.rels[i].file ++ beN 4 rw' = 1 :: UInt8.ofNat m.opts.toNat :: (beN 4 nx ++ (txtB m.input ++ (txtB m.terms ++ (beN 4 m.rels.length ++ (m.rels.take (i + 1)).flatMap svB)))) := by
      rw [← hL, ht, List.flatMap_append]
      have : svB m.rels[i] = txtB m.rels[i].rel ++ (txtB m.rels[i].file ++ beN 4 rw') := by unfold svB; rw [hrw]; rfl
      simp [this]
    rw [← e]; exact c5
  · have hge : i = m.rels.length := by have : ¬ (i : Int) < (rs.n : Int) := by simpa using q
                                       omega
    subst hge
    rw [List.take_length] at bA
    have hL : encM m = (1 :: UInt8.ofNat m.opts.toNat :: (beN 4 nx ++ (txtB m.input ++ (txtB m.terms ++ (beN 4 m.rels.length ++ m.rels.flatMap svB))))) := by
      unfold encM; rw [hnx]; rfl
    rw [← hL] at bA
    obtain ⟨h0, s, lr, r, o, n⟩ := bA
    refine bytes_Buffer_Bytes.of ?_
    unfold bytes_Buffer_Bytes.vc
    simp only [optK_eq]
    rw [add_zero']
    refine r.ld (c := cSl) (i := 0) (x := s) rfl ?_
    refine r.ld (c := cInt .i64) (i := 1) (x := 0) rfl ⟨⟨by omega, by omega⟩, ?_⟩
    have hcap : s.n ≤ s.c := by
      rcases o.2 with ⟨hv, h0⟩ | ⟨g, cap, cur, hv, _, _, h4, _⟩
      · omega
      · have : s.c = cap := by unfold Sl.v at hv; injection hv
        omega
    have e0 : Sl.mk (slA s.a s.c (0 : Int).toNat 1) (s.n - (0 : Int).toNat) (s.c - (0 : Int).toNat) = s := by
      rw [show (0 : Int).toNat = 0 from rfl, slA_zero]; rfl
    rw [e0]
    exact hK1 hm0 s A (SlB_of (Owns.base0 o)) (fun b hb => Nat.le_trans hbase (o.block b hb).1) hcap (low mA).2
end Go.Proofs.YtjjfngnokbboeaaDoor

/-
  A manifest committed: the walk of 'Commit'.
-/
namespace Go.Proofs.YtjjfngnokbboeaaDoor
open Go.MapKept

theorem call_c1 : callable Tryd.prog manifest_Commit_c1.no = true := by kernel_rfl
theorem call_c2 : callable Tryd.prog manifest_Commit_c2.no = true := by kernel_rfl
theorem zc_slB : zc Tryd.prog ty_sl_uint8 = #[.slice none 0 0] := by kernel_rfl
theorem putM_logs (s : Dk) (n : ByteArray) (l : List UInt8) : (s.putM n l).1.logs ≤ s.logs + (l.length + 511) / 504 := by
  have h1 : (s.clear n).1.logs ≤ s.logs := by
    unfold Dk.clear
    split
    · exact s.remove_logs n
    · exact Nat.le_refl _
  have h2 : ∀ t : Dk, (t.make n l).1.logs ≤ t.logs + (l.length + 511) / 504 := by
    intro t
    unfold Dk.make
    have h3 := t.create_logs n
    split
    · omega
    · unfold Dk.fill
      have h4 := wr_logs n (pieces (allM l)) 0 (t.create n).1
      rw [pieces_length] at h4
      have h5 : (allM l).length = 8 + l.length := by simp [allM]
      split
      · omega
      · have := ((wrPages n (pieces (allM l)) 0 (t.create n).1).1).sync_logs n
        omega
  unfold Dk.putM
  split
  · omega
  · have := h2 (s.clear n).1
    omega
set_option maxRecDepth 100000 in
set_option maxHeartbeats 2000000 in
theorem Commit_ok {F : Nat → Prop} {d : Nat} {s : Dk} {m : Mf} {rs : Sl} {H : Heap} {K : Int → Heap → Prop} (h : DiskAt F H d s) (hr : Rels H rs m.rels) (hl : m.rels.length < 4611686018427387904) (ho : 0 ≤ m.opts ∧ m.opts < 256)
    (hlog : s.logs ≤ 60000000000) (hlen : mayM m = true → (encM m).length ≤ 900000) (hg : Gl H) (hgF : ¬ F gSteps)
    (hK : ∀ F' H', DiskAt F' H' d (s.commit m).1 → Step F F' H H' → K (s.commit m).2 H') : manifest_Commit.sp (at0 d) m.opts m.next m.input m.terms rs H K := by
  refine manifest_Commit.of ?_
  unfold manifest_Commit.vc
  refine newC_varT fun p H1 hp s1 v1 e1 => ?_
  refine newC_rowT fun H2 s2 r2 e2 => ?_
  refine (v1.ext e2).ld (c := cPtr) (x := at0 d) ?_
  refine br_mk (fun q => by simp [at0] at q) (fun _ => ?_)
  refine r2.ldA (c := cAgg [cInt .u8, cInt .i64, cStr, cStr, cSl]) (n := 5) (x := (m.opts, m.next, m.input, m.terms, rs)) rfl rfl ?_
  have e02 : Ext H H2 := e1.trans e2
  refine Encode_ok (hr.ext e02) hl ho (fun hm A' e3 => ?_) (fun hm r A' o3 f3 c3 e3 => ?_)
  · have hc : s.commit m = (s, 2) := by unfold Dk.commit; rw [if_pos hm]
    rw [zc_slB]
    refine newC_varT fun p2 H4 hp2 s4 v4 e4 => ?_
    refine v4.st rfl fun H5 v5 m5 s5 => ?_
    refine br_mk (fun _ => ?_) (fun q => by simp at q)
    have e05 : Ext H H5 := ((Ext.mod (F := fun b => b = p2.block) ((Mod.trans e02 e3).trans e4)).trans m5).ext (fun b hb => by have := (Mod.trans e02 e3).size; omega)
    have := hK F H5 (by rw [hc]; exact h.keep fun b _ hl2 => e05.same b hl2 id) ⟨Ext.mod e05, fun _ q => .inl q⟩
    rwa [hc] at this
  · rw [zc_slB]
    have e03 : Ext H A' := Mod.trans e02 e3
    refine newC_varT fun p2 H4 hp2 s4 v4 e4 => ?_
    refine v4.st rfl fun H5 v5 m5 s5 => ?_
    refine br_mk (fun q => by simp at q) (fun _ => ?_)
    have e35 : Ext A' H5 := ((Ext.mod (F := fun b => b = p2.block) e4).trans m5).ext (fun b hb => by omega)
    have e05 : Ext H H5 := Mod.trans e03 e35
    refine newC_rowT fun H6 s6 r6 e6 => ?_
    have e06 : Ext H H6 := Mod.trans e05 e6
    refine manifest_first.of ?_
    unfold manifest_first.vc
    have hlt := h.lt
    have z1 := e02.size
    have z3 := e03.size
    have z5 := e05.size
    have w1 : VarT H6 p ty_ptr_disk_Disk (.pointer (at0 d)) := ((v1.ext e2).ext e3).ext (Mod.trans e35 e6)
    have w2 : VarT H6 p2 ty_sl_uint8 r.v := v5.ext e6
    have hcm : ¬ mayM m = false := by rw [hm]; simp
    have hrb : ∀ ad, r.a = some ad → H.size ≤ ad.block := fun ad ha => by have := f3 ad.block ⟨ad, ha, rfl⟩; omega
    have hb6 := SlB_byts ((o3.ext e35).ext e6)
    have hplen := hlen hm
    have dk6 := h.keep fun b _ hl2 => e06.same b hl2 id
    let St : Nat → Heap → Prop := fun k A => match k with
      | 0 => A = H6
      | 1 => ∃ F1, DiskAt F1 A d (s.putM nmN (encM m)).1 ∧ Step F F1 H A ∧ (s.putM nmN (encM m)).2 = 0 ∧ VarT A p ty_ptr_disk_Disk (.pointer (at0 d)) ∧ RowT A H5.size ty_func_api_Errno #[(.func (.func manifest_Commit_c1.no) #[] #[(.pointer (some p)), (.pointer (some p2))]), (.func (.func manifest_Commit_c2.no) #[] #[(.pointer (some p))])]
      | _ => ∃ F1, DiskAt F1 A d (s.commit m).1 ∧ Step F F1 H A ∧ (s.commit m).2 = 0
    refine loop_upto 2 (fun k z A => z = (k : Int) ∧ St k A) ⟨rfl, rfl⟩ ?_
    rintro k _ A next hk ⟨rfl, hst⟩ hnext
    match k, hk, hst, hnext with
    | 0, _, hst, hnext =>
      have hst : A = H6 := hst
      subst hst
      refine br_mk (fun _ => ?_) (fun q => by simp at q)
      refine ⟨⟨by decide, by simp⟩, ?_⟩
      refine r6.ld (c := cRaw) (i := 0) (x := .func (.func manifest_Commit_c1.no) #[] #[(.pointer (some p)), (.pointer (some p2))]) rfl ?_
      refine callV_func #[.pointer (some p), .pointer (some p2)] rfl call_c1 ?_
      show manifest_Commit_c1.sp p p2 A _
      refine manifest_Commit_c1.of ?_
      unfold manifest_Commit_c1.vc
      refine w1.ld (c := cPtr) (x := at0 d) ?_
      refine w2.ld (c := cSl) (x := r) ?_
      refine Put_ok (n := nmN) dk6 hb6 (fun _ ad ha hF => by have := hlt _ hF; have := hrb ad ha; omega) hplen hlog (hg.mod e06 id) hgF fun F1 A1 d1 S1 => ?_
      have S01 : Step F F1 H A1 := ⟨(Ext.mod e06).trans' S1.mod fun b _ q => q, fun b hb => (S1.own b hb).elim .inl fun q => .inr (by have := e06.size; omega)⟩
      refine br_mk (fun q => ?_) (fun q => ?_)
      · have q : (s.putM nmN (encM m)).2 ≠ 0 := by simpa using q
        have hc : s.commit m = s.putM nmN (encM m) := by unfold Dk.commit; rw [if_neg hcm, if_pos q]
        have := hK F1 A1 (by rw [hc]; exact d1) S01
        rwa [hc] at this
      · have q : (s.putM nmN (encM m)).2 = 0 := by simpa using q
        refine hnext (by decide) _ _ ⟨rfl, F1, d1, S01, q, w1.mod S1.mod fun hF => by have := hlt _ hF; omega, r6.mod S1.mod fun hF => by have := hlt _ hF; omega⟩
    | 1, _, hst, hnext =>
      obtain ⟨F1, d1, S01, q0, x1, x3⟩ := hst
      refine br_mk (fun _ => ?_) (fun q => by simp at q)
      refine ⟨⟨by decide, by simp⟩, ?_⟩
      refine x3.ld (c := cRaw) (i := 1) (x := .func (.func manifest_Commit_c2.no) #[] #[(.pointer (some p))]) rfl ?_
      refine callV_func #[.pointer (some p)] rfl call_c2 ?_
      show manifest_Commit_c2.sp p A _
      refine manifest_Commit_c2.of ?_
      unfold manifest_Commit_c2.vc
      refine x1.ld (c := cPtr) (x := at0 d) ?_
      refine Rename_ok (n := nmN) (to := nmM) d1 fun F2 A2 d2 S2 => ?_
      have hc : s.commit m = (s.putM nmN (encM m)).1.rename nmN nmM := by unfold Dk.commit; rw [if_neg hcm, if_neg (by simpa using q0)]
      refine br_mk (fun q => ?_) (fun q => ?_)
      · have := hK F2 A2 (by rw [hc]; exact d2) (S01.trans S2)
        rwa [hc] at this
      · refine hnext (by decide) _ _ ⟨rfl, F2, by rw [hc]; exact d2, S01.trans S2, by rw [hc]; simpa using q⟩
    | 2, _, hst, hnext =>
      obtain ⟨F1, d1, S01, q0⟩ := hst
      refine br_mk (fun q => by simp at q) (fun _ => ?_)
      have := hK F1 A d1 S01
      rwa [q0] at this
end Go.Proofs.YtjjfngnokbboeaaDoor

/-
  A directory swept: what stays is named in a map; the walk.
-/
namespace Go.Proofs.YtjjfngnokbboeaaDoor
open Go.MapKept

/-- What is looked up without asking whether it is there. -/
theorem rdV_look1 {P : Program} {t kt et : TypeId} {d : TypeDesc} {H : Heap} {r : Nat} {es : Array MapEntry} {clk : Nat} {k z : Value} {inf : TypeInfo} (ht : P.underlying t = some (.map kt et)) (hd : P.underlying kt = some d) (hi : P.info? et = some inf) (hz : inf.zero = some z) (hm : MapAt d H r es clk) (hk : IsKey d k) {c : Cod} {K : c.α → Prop}
    (hfound : ∀ v, HasE es k v → ∃ x : c.α, c.enc x = v ∧ K x) (hnone : (∀ v, ¬ HasE es k v) → ∃ x : c.α, c.enc x = z ∧ K x) :
    rdV c P (Instr.lookup t (.map (some r)) k false) H K := by
  have hck : ∀ (e : Bool) (w : World), (Instr.checkKey e 10000 kt k).run P w = .ok () w := fun e w => run_checkKey hd hk e 9999
  rcases findNow_spec hk es.toList 0 hm.keys with ⟨h1, h2⟩ | ⟨j, e, h1, h2, h3⟩
  · obtain ⟨x, hx, hK⟩ := hnone (fun v ⟨e, he, hek, _⟩ => h2 e he hek)
    refine ⟨x, fun w hw => ?_, hK⟩
    subst hw
    have hf : (Instr.findKey kt k es.toList).run P w = .ok none w := run_findKey hd h1
    have ho := hm.obj
    rw [hx]
    simp [Instr.lookup, run_underlying ht, getObj, Sem.run, ho, hck, hf, zeroValue, typeInfo, hi, hz]
  · obtain ⟨x, hx, hK⟩ := hfound e.val ⟨e, List.mem_of_getElem? h2, h3, rfl⟩
    refine ⟨x, fun w hw => ?_, hK⟩
    subst hw
    have hf : (Instr.findKey kt k es.toList).run P w = .ok (some (0 + j, e.val)) w := run_findKey hd h1
    have ho := hm.obj
    rw [hx]
    simp [Instr.lookup, run_underlying ht, getObj, Sem.run, ho, hck, hf]

def mapBTB (P : Program) (t kt : TypeId) : Bool :=
  match P.underlying t with | some (.map kt' et) => Nat.beq kt' kt && (match P.info? et with | some inf => (match inf.zero with | some (.bool false) => true | _ => false) | none => false) | _ => false
def MapBT (P : Program) (t kt : TypeId) (d : TypeDesc) : Prop := ∃ (et : TypeId) (inf : TypeInfo), P.underlying t = some (.map kt et) ∧ P.underlying kt = some d ∧ P.info? et = some inf ∧ inf.zero = some (.bool false)
theorem MapBT_of {P : Program} {t kt : TypeId} {d : TypeDesc} (h : mapBTB P t kt = true) (hd : P.underlying kt = some d) : MapBT P t kt d := by
  unfold mapBTB at h
  split at h
  · rename_i kt' et q
    simp only [Bool.and_eq_true] at h
    obtain ⟨h1, h2⟩ := h
    have := Nat.eq_of_beq_eq_true h1
    subst this
    split at h2
    · rename_i inf q2
      split at h2
      · rename_i q3; exact ⟨et, inf, q, hd, q2, q3⟩
      · cases h2
    · cases h2
  · cases h
theorem mapKeep : MapBT Tryd.prog ty_maparr_string_bool ty_string .string := MapBT_of (by kernel_rfl) (by kernel_rfl)
/-- A map of names that holds those of which 'S' is true. -/
def KeepAt (H : Heap) (r : Nat) (S : ByteArray → Bool) : Prop := ∃ es clk, MapAt .string H r es clk ∧ ∀ k, (S k = true → HasE es (.string k) (.bool true)) ∧ (∀ v, HasE es (.string k) v → S k = true ∧ v = .bool true)
theorem KeepAt.lt {H : Heap} {r : Nat} {S : ByteArray → Bool} (h : KeepAt H r S) : r < H.size := by obtain ⟨_, _, m, _⟩ := h; exact m.lt
theorem KeepAt.keep {H H' : Heap} {r : Nat} {S : ByteArray → Bool} (h : KeepAt H r S) (k : H'[r]? = H[r]?) : KeepAt H' r S := by
  obtain ⟨es, clk, m, q⟩ := h; exact ⟨es, clk, m.keep k, q⟩
theorem KeepAt.mod {F : Nat → Prop} {H H' : Heap} {r : Nat} {S : ByteArray → Bool} (h : KeepAt H r S) (m : Mod F H H') (hn : ¬ F r) : KeepAt H' r S := h.keep (m.same _ h.lt hn)
theorem KeepAt.cells {H : Heap} {r : Nat} {S : ByteArray → Bool} (h : KeepAt H r S) {cs : Array Value} {t : TypeId} {f : Nat × Nat} : H[r]? ≠ some (.cells cs t f) := by
  obtain ⟨es, clk, m, _⟩ := h
  rw [m.obj]; intro e; cases e
theorem keep_new {H : Heap} {K : Nat → Heap → Prop} (hK : ∀ r H', r = H.size → H'.size = H.size + 1 → KeepAt H' r (fun _ => false) → Ext H H' → K r H') : newM H K :=
  newM_map (d := .string) fun H' s m e => hK _ H' rfl s ⟨#[], 0, m, fun k => ⟨fun q => (by cases q), fun v q => (by obtain ⟨x, hx, _⟩ := q; simp at hx)⟩⟩ e
theorem KeepAt.put {H : Heap} {r : Nat} {S : ByteArray → Bool} {n : ByteArray} {K : Heap → Prop} (h : KeepAt H r S) (hK : ∀ H', KeepAt H' r (fun x => decide (x = n) || S x) → Mod (fun b => b = r) H H' → H'.size = H.size → K H') :
    doU Tryd.prog (Instr.mapUpdate ty_maparr_string_bool (.map (some r)) (.string n) (.bool true)) H K := by
  obtain ⟨es, clk, m, q⟩ := h
  obtain ⟨et, inf, hu, hd, hi, hz⟩ := mapKeep
  cases hS : S n with
  | true =>
    refine doU_update hu hd m (k := .string n) trivial ((q n).1 hS) fun es' H' m' hE _ mm hs => hK H' ⟨es', clk, m', fun k => ?_⟩ mm hs
    constructor
    · intro hk
      refine (hE _ _).2 ?_
      by_cases e : k = n
      · exact .inl ⟨by rw [e], rfl⟩
      · refine .inr ⟨fun h => e (str_inj h), (q k).1 ?_⟩
        simpa [e] using hk
    · intro v hv
      rcases (hE _ _).1 hv with ⟨e1, e2⟩ | ⟨_, e2⟩
      · exact ⟨by simp [str_inj e1], e2⟩
      · obtain ⟨a, b⟩ := (q k).2 v e2
        exact ⟨by simp [a], b⟩
  | false =>
    refine doU_insert hu hd m (k := .string n) trivial (fun u hu' => by have := ((q n).2 u hu').1; rw [hS] at this; cases this) fun H' m' mm hs => hK H' ⟨_, _, m', fun k => ?_⟩ mm hs
    constructor
    · intro hk
      refine HasE_push.2 ?_
      by_cases e : k = n
      · exact .inr ⟨by rw [e], rfl⟩
      · exact .inl ((q k).1 (by simpa [e] using hk))
    · intro v hv
      rcases HasE_push.1 hv with e2 | ⟨e1, e2⟩
      · obtain ⟨a, b⟩ := (q k).2 v e2
        exact ⟨by simp [a], b⟩
      · exact ⟨by simp [str_inj e1], e2⟩
theorem KeepAt.look {H : Heap} {r : Nat} {S : ByteArray → Bool} {n : ByteArray} {K : Bool → Prop} (h : KeepAt H r S) (hK : K (S n)) :
    rdV cBool Tryd.prog (Instr.lookup ty_maparr_string_bool (.map (some r)) (.string n) false) H K := by
  obtain ⟨es, clk, m, q⟩ := h
  obtain ⟨et, inf, hu, hd, hi, hz⟩ := mapKeep
  refine rdV_look1 hu hd hi hz m (k := .string n) trivial (fun v hv => ?_) (fun hno => ?_)
  · obtain ⟨a, b⟩ := (q n).2 v hv
    exact ⟨true, b.symm, by rw [a] at hK; exact hK⟩
  · cases hS : S n with
    | true => exact absurd ((q n).1 hS) (hno _)
    | false => exact ⟨false, rfl, by rw [hS] at hK; exact hK⟩

theorem sweep_cons (f : Option Mf) (n : List UInt8) (l : List (List UInt8)) (d : Dk) : Dk.sweep f (n :: l) d = if keeps f n then Dk.sweep f l d else if (d.remove (baOf n)).2 ≠ 0 then d.remove (baOf n) else Dk.sweep f l (d.remove (baOf n)).1 := rfl
theorem list_le {s : Dk} (hw : s.WF) : s.list.length ≤ 4096 := by
  unfold Dk.list
  split
  · exact Nat.zero_le _
  · rw [List.length_mergeSort, List.length_map]; exact hw.files

/-- What the walk of 'Recover' asks from the sweeping on. -/
def sweepT (d : Option Addr) (p p_1 : Addr) (keep : Nat) (fd : Bool) (H26 : Heap) (R : ((Int × Int × ByteArray × ByteArray × Sl) × Bool × Int) → Heap → Prop) : Prop :=
  disk_Disk_List.sp d H26 fun (r_4 : Sl) H27 => LoopVC Int (0 : Int) H27 fun next_3 z_3 H28 => br (decide (z_3 < (r_4.n : Int))) (optK r_4.a fun a_3 => (0 ≤ z_3 ∧ z_3 < (r_4.n : Int)) ∧ ld cStr H28 (a_3.add (z_3.toNat * 1)) fun (name_2 : ByteArray) => rdV cBool Tryd.prog (Instr.lookup ty_maparr_string_bool (.map (some keep)) (.string name_2) false) H28 fun (x_9 : Bool) => br x_9 (next_3 (IntKind.i64.wrap (z_3 + (1 : Int))) H28) (disk_Disk_Remove.sp d name_2 H28 fun (e_2 : Int) H29 => br (e_2 != (0 : Int)) (doU Tryd.prog (Instr.storeAt ty_api_Manifest (.pointer (some p)) (.agg #[(.int .u8 (0 : Int)), (.int .i64 (0 : Int)), (.string ByteArray.empty), (.string ByteArray.empty), (.slice none 0 0)])) H29 fun H30 => ldA (cAgg [(cInt .u8), (cInt .i64), cStr, cStr, cSl]) 5 H30 p fun (res_6 : (Int × Int × ByteArray × ByteArray × Sl)) => R ((res_6.1, res_6.2.1, res_6.2.2.1, res_6.2.2.2.1, res_6.2.2.2.2), false, e_2) H30) (next_3 (IntKind.i64.wrap (z_3 + (1 : Int))) H29))) (ldA (cAgg [(cInt .u8), (cInt .i64), cStr, cStr, cSl]) 5 H28 p_1 fun (x_10 : (Int × Int × ByteArray × ByteArray × Sl)) => doU Tryd.prog (Instr.storeAt ty_api_Manifest (.pointer (some p)) (.agg #[(.int .u8 x_10.1), (.int .i64 x_10.2.1), (.string x_10.2.2.1), (.string x_10.2.2.2.1), x_10.2.2.2.2.v])) H28 fun H31 => ldA (cAgg [(cInt .u8), (cInt .i64), cStr, cStr, cSl]) 5 H31 p fun (res_7 : (Int × Int × ByteArray × ByteArray × Sl)) => R ((res_7.1, res_7.2.1, res_7.2.2.1, res_7.2.2.2.1, res_7.2.2.2.2), fd, (0 : Int)) H31)

set_option maxRecDepth 100000 in
set_option maxHeartbeats 2000000 in
theorem sweep_ok {F : Nat → Prop} {d : Nat} {s : Dk} {H : Heap} {p p1 keep : Nat} {fd : Bool} {cs : Array Value} {o nx : Int} {it tt : ByteArray} {rs : Sl} {f : Option Mf} {S : ByteArray → Bool} {R : ((Int × Int × ByteArray × ByteArray × Sl) × Bool × Int) → Heap → Prop}
    (h : DiskAt F H d s) (hk : KeepAt H keep S) (hS : ∀ n, S (baOf n) = keeps f n) (r0 : RowT H p ty_api_Manifest cs) (hcs : cs.size = 5) (r1 : RowT H p1 ty_api_Manifest (headM o nx it tt rs)) (hne : p ≠ p1) (nF : ¬ F p ∧ ¬ F p1 ∧ ¬ F keep)
    (hR : ∀ F' H' x b, DiskAt F' H' d (Dk.sweep f s.list s).1 → Mod (fun b => F b ∨ b = p) H H' → (∀ b, F' b → F b ∨ H.size ≤ b) → ((Dk.sweep f s.list s).2 ≠ 0 → x = (0, 0, ByteArray.empty, ByteArray.empty, Sl.mk none 0 0) ∧ b = false) → ((Dk.sweep f s.list s).2 = 0 → x = (o, nx, it, tt, rs) ∧ b = fd) → R (x, b, (Dk.sweep f s.list s).2) H') :
    sweepT (at0 d) ⟨p, 0, none⟩ ⟨p1, 0, none⟩ keep fd H R := by
  unfold sweepT
  refine List_ok h fun l H1 o1 e1 f1 => ?_
  have hlt := h.lt
  have z1 := e1.size
  have dk1 := h.keep fun b _ hl => e1.same b hl id
  have hk1 := hk.mod e1 id
  have q0 := r0.ext e1
  have q1 := r1.ext e1
  have lp : p < H.size := (Array.getElem?_eq_some_iff.1 r0).1
  have lp1 : p1 < H.size := (Array.getElem?_eq_some_iff.1 r1).1
  have hln : l.n = s.list.length := o1.n (by decide)
  have hbig : s.list.length ≤ 4096 := list_le h.wf
  refine loop_upto s.list.length (fun i z A => z = (i : Int) ∧ ∃ F2 s2, DiskAt F2 A d s2 ∧ Step F F2 H1 A ∧ Dk.sweep f (s.list.drop i) s2 = Dk.sweep f s.list s) ⟨rfl, F, s, dk1, .refl _ _, by simp⟩ ?_
  rintro i _ A next hi ⟨rfl, F2, s2, dk2, S2, hsw⟩ hnext
  have nF2 : ∀ b, b < H.size → ¬ F b → ¬ F2 b := fun b hb hn q => (S2.own b q).elim hn fun h => by omega
  have x0 := q0.mod S2.mod nF.1
  have x1 := q1.mod S2.mod nF.2.1
  refine br_mk (fun hc => ?_) (fun hc => ?_)
  · have hlt2 : i < s.list.length := by
      have : (i : Int) < (l.n : Int) := by simpa using hc
      omega
    have hx : s.list[i]? = some s.list[i] := List.getElem?_eq_getElem hlt2
    have oA : SlE EN ty_string A l s.list := Owns.mod o1 S2.mod fun b hb q => by have := f1 b hb; have := hlt b q; omega
    have rd := oA.rd
    obtain ⟨ad, hadd⟩ := rd.addr (by decide) (by omega)
    refine optK_mk ad hadd ⟨⟨by omega, by omega⟩, ?_⟩
    refine rd.ld (c := cStr) hadd (j := 0) (y := baOf s.list[i]) hx rfl (n := (i : Int).toNat * 1) (by rw [Int.toNat_natCast]; rfl) ?_
    have hd : s.list.drop i = s.list[i] :: s.list.drop (i + 1) := List.drop_eq_getElem_cons hlt2
    rw [hd, sweep_cons] at hsw
    refine (hk1.mod S2.mod nF.2.2).look ?_
    rw [hS]
    refine br_mk (fun hq => ?_) (fun hq => ?_)
    · rw [if_pos hq] at hsw
      exact hnext hlt2 _ _ ⟨succ64 i (by omega), F2, s2, dk2, S2, hsw⟩
    · rw [if_neg (by rw [hq]; simp)] at hsw
      refine Remove_ok dk2 fun F3 A3 dk3 S3 => ?_
      have S03 := S2.trans S3
      refine br_mk (fun hq2 => ?_) (fun hq2 => ?_)
      · have hq3 : (s2.remove (baOf s.list[i])).2 ≠ 0 := by simpa using hq2
        rw [if_pos hq3] at hsw
        rw [hsw] at dk3 hq3 ⊢
        have y0 := q0.mod S03.mod nF.1
        refine mf_put (s := Sl.mk none 0 0) y0 hcs fun A4 r4 m4 s4 => ?_
        refine mf_ld r4 ?_
        refine hR F3 A4 _ _ (dk3.keep fun b hb hl => m4.same b hl fun q => ?_) ?_ (fun b hb => (S03.own b hb).imp id fun q => by omega) (fun _ => ⟨rfl, rfl⟩) (fun q => absurd q hq3)
        · subst q
          exact (S03.own b hb).elim nF.1 (by omega)
        · exact ((Ext.mod e1).trans (S03.mod.mono fun b _ q => .inl q)).trans (m4.mono fun b _ q => .inr q)
      · have hq3 : ¬ (s2.remove (baOf s.list[i])).2 ≠ 0 := by simpa using hq2
        rw [if_neg hq3] at hsw
        exact hnext hlt2 _ _ ⟨succ64 i (by omega), F3, _, dk3, S03, hsw⟩
  · have hge : i = s.list.length := by
      have : ¬ (i : Int) < (l.n : Int) := by simpa using hc
      omega
    rw [hge, List.drop_length] at hsw
    have hnil : Dk.sweep f [] s2 = (s2, 0) := rfl
    rw [hnil] at hsw
    have h0 : (Dk.sweep f s.list s).2 = 0 := by rw [← hsw]
    have h1 : (Dk.sweep f s.list s).1 = s2 := by rw [← hsw]
    refine mf_ld x1 ?_
    refine mf_put x0 hcs fun A4 r4 m4 s4 => ?_
    refine mf_ld r4 ?_
    rw [← h0]
    refine hR F2 A4 _ _ (by rw [h1]; exact dk2.keep fun b hb hl => m4.same b hl fun q => nF2 _ lp nF.1 (q ▸ hb)) ?_ (fun b hb => (S2.own b hb).imp id fun q => by omega) (fun q => absurd h0 q) (fun _ => ⟨rfl, rfl⟩)
    exact ((Ext.mod e1).trans (S2.mod.mono fun b _ q => .inl q)).trans (m4.mono fun b _ q => .inr q)
end Go.Proofs.YtjjfngnokbboeaaDoor

/-
  A manifest found again: the walk of 'Recover'.
-/
namespace Go.Proofs.YtjjfngnokbboeaaDoor
open Go.MapKept

def Dk.recover (s : Dk) : (Mf × Bool × Int) × Dk :=
  if (s.getM nmM).2 = 4 then ((mf0, false, 4), s)
  else if (Dk.sweep s.foundM s.list s).2 ≠ 0 then ((mf0, false, (Dk.sweep s.foundM s.list s).2), (Dk.sweep s.foundM s.list s).1)
  else ((s.foundM.getD mf0, s.foundM.isSome, 0), (Dk.sweep s.foundM s.list s).1)

theorem decM_may {l : List UInt8} {m : Mf} (h : decM l = some m) : mayM m = true := by
  unfold decM at h
  split at h
  · cases h
  · split at h
    · rename_i q; cases h; exact q.2.2
    · cases h
theorem rels_len {m : Mf} (h : mayM m = true) : m.rels.length ≤ 256 := by
  unfold mayM at h
  simp only [Bool.and_eq_true, decide_eq_true_eq] at h
  exact h.1.2
theorem baOf_eq {n : List UInt8} {x : ByteArray} : decide (baOf n = x) = decide (n = x.data.toList) := by
  rw [decide_eq_decide]
  constructor
  · rintro rfl; simp [baOf]
  · rintro rfl; simp [baOf]

theorem Recover_none {H : Heap} {R : ((Int × Int × ByteArray × ByteArray × Sl) × Bool × Int) → Heap → Prop} (hR : ∀ H', Ext H H' → R ((0, 0, ByteArray.empty, ByteArray.empty, Sl.mk none 0 0), false, 1) H') : manifest_Recover.sp none H R := by
  refine manifest_Recover.of ?_
  unfold manifest_Recover.vc
  rw [zc_mf]
  refine newC_rowT fun H1 s1 r1 e1 => ?_
  refine br_mk (fun _ => ?_) (fun q => by simp at q)
  refine mf_put (s := Sl.mk none 0 0) r1 rfl fun A r2 m2 s2 => mf_ld r2 ?_
  exact hR A ((Ext.mod (F := fun b => b = H.size) e1).trans m2 |>.ext fun b hb => by omega)
set_option maxRecDepth 100000 in
set_option maxHeartbeats 4000000 in
theorem Recover_ok {F : Nat → Prop} {d : Nat} {s : Dk} {H : Heap} {R : ((Int × Int × ByteArray × ByteArray × Sl) × Bool × Int) → Heap → Prop} (h : DiskAt F H d s) (hg : Gl H)
    (hR : ∀ F' H' rs, DiskAt F' H' d s.recover.2 → Step F F' H H' → SlE ESv ty_api_Saved H' rs s.recover.1.1.rels → (∀ b, ownB rs b → H.size ≤ b ∧ ¬ F' b) →
      R ((s.recover.1.1.opts, s.recover.1.1.next, s.recover.1.1.input, s.recover.1.1.terms, rs), s.recover.1.2.1, s.recover.1.2.2) H') : manifest_Recover.sp (at0 d) H R := by
  have hlt := h.lt
  refine manifest_Recover.of ?_
  unfold manifest_Recover.vc
  rw [zc_mf]
  refine newC_rowT fun H1 s1 r1 e1 => ?_
  refine br_mk (fun q => by simp [at0] at q) (fun _ => ?_)
  have dk1 := h.keep fun b _ hl => e1.same b hl id
  refine Get_ok (n := nmM) dk1 (hg.mod e1 id) fun r H3 b3 l3 c3 f3 e3 => ?_
  have z13 := e3.size
  have e03 : Ext H H3 := Mod.trans e1 e3
  have z3 := e03.size
  have r3 := r1.ext e3
  have dk3 := h.keep fun b _ hl => e03.same b hl id
  -- what lies there without a manifest
  have nil0 : ∀ (A : Heap) (F' : Nat → Prop), DiskAt F' A d s.recover.2 → Step F F' H A → s.recover.1.1 = mf0 → R ((0, 0, ByteArray.empty, ByteArray.empty, Sl.mk none 0 0), s.recover.1.2.1, s.recover.1.2.2) A := by
    intro A F' a1 a2 a3
    have := hR F' A (Sl.mk none 0 0) a1 a2 (by rw [a3]; exact SlE.nil _ _ _) (by rintro b ⟨ad, q, _⟩; cases q)
    rw [a3] at this; exact this
  refine br_mk (fun hc => ?_) (fun hc => ?_)
  · have hc' : (s.getM nmM).2 = 4 := by simpa using hc
    have hrec : s.recover = ((mf0, false, 4), s) := by unfold Dk.recover; rw [if_pos hc']
    refine mf_put (s := Sl.mk none 0 0) r3 rfl fun A r2 m2 s2 => mf_ld r2 ?_
    have eA : Ext H A := ((Ext.mod (F := fun b => b = H.size) e03).trans m2).ext fun b hb => by omega
    have := nil0 A F (by rw [hrec]; exact h.keep fun b _ hl => eA.same b hl id) ⟨Ext.mod eA, fun _ q => .inl q⟩ (by rw [hrec])
    rw [hrec] at this
    rw [hc']
    exact this
  have hc' : ¬ (s.getM nmM).2 = 4 := by simpa using hc
  refine newC_rowT fun H5 s5 r5 e5 => ?_
  have e05 : Ext H H5 := Mod.trans e03 e5
  have z5 := e05.size
  -- the sweep's answers
  have fin : ∀ (A : Heap) (keep : Nat) (S : ByteArray → Bool) (m : Mf) (rs : Sl) (fd : Bool), Ext H A → KeepAt A keep S → H.size ≤ keep → (∀ n, S (baOf n) = keeps s.foundM n) → RowT A H.size ty_api_Manifest #[.int .u8 0, .int .i64 0, .string ByteArray.empty, .string ByteArray.empty, .slice none 0 0] →
      RowT A H3.size ty_api_Manifest (headM m.opts m.next m.input m.terms rs) → SlE ESv ty_api_Saved A rs m.rels → (∀ b, ownB rs b → H.size < b) → s.foundM.getD mf0 = m → s.foundM.isSome = fd → sweepT (at0 d) ⟨H.size, 0, none⟩ ⟨H3.size, 0, none⟩ keep fd A R := by
    intro A keep S m rs fd eA hk hkb hS q0 q1 oA fA hm hfd
    have dkA := h.keep fun b _ hl => eA.same b hl id
    refine sweep_ok (f := s.foundM) dkA hk hS q0 rfl q1 (by omega) ⟨fun q => by have := hlt _ q; omega, fun q => by have := hlt _ q; omega, fun q => by have := hlt _ q; omega⟩ fun F' A' x b d' m' own' hbad hgood => ?_
    have St : Step F F' H A' := ⟨(Ext.mod eA).trans' m' fun b hb q => q.elim id fun q => absurd q (by omega), fun b hb => (own' b hb).imp id fun q => by have := eA.size; omega⟩
    by_cases he : (Dk.sweep s.foundM s.list s).2 = 0
    · have hrec : s.recover = ((m, fd, 0), (Dk.sweep s.foundM s.list s).1) := by unfold Dk.recover; rw [if_neg hc', if_neg (by simpa using he), hm, hfd]
      obtain ⟨rfl, rfl⟩ := hgood he
      have oA' : SlE ESv ty_api_Saved A' rs m.rels := by
        refine Owns.mod oA m' fun b hb q => ?_
        have := fA b hb
        rcases q with q | q
        · have := hlt b q; omega
        · omega
      have oB : ∀ b, ownB rs b → H.size ≤ b ∧ ¬ F' b := by
        intro b hb
        have h1 := Owns.lt oA b hb
        have h2 := fA b hb
        refine ⟨by omega, fun q => ?_⟩
        rcases own' b q with q | q
        · have := hlt b q; omega
        · omega
      have := hR F' A' rs (by rw [hrec]; exact d') St (by rw [hrec]; exact oA') oB
      rw [hrec] at this
      rw [he]
      exact this
    · have hrec : s.recover = ((mf0, false, (Dk.sweep s.foundM s.list s).2), (Dk.sweep s.foundM s.list s).1) := by unfold Dk.recover; rw [if_neg hc', if_pos he]
      obtain ⟨rfl, rfl⟩ := hbad he
      have := nil0 A' F' (by rw [hrec]; exact d') St (by rw [hrec])
      rw [hrec] at this
      exact this
  refine br_mk (fun hd => ?_) (fun hd => ?_)
  · have hd' : (s.getM nmM).2 = 0 := by simpa using hd
    have hfm : s.foundM = decM (s.getM nmM).1 := by unfold Dk.foundM; rw [if_pos hd']
    have hlen : (s.getM nmM).1.length < 4611686018427387904 := by omega
    refine Decode_ok (b3.ext e5) c3 hlen (fun hn A6 e6 => ?_) (fun m rs A6 hm o6 f6 e6 => ?_)
    · have hf : s.foundM = none := by rw [hfm, hn]
      have q5 := r5.ext e6
      refine mf_put (s := Sl.mk none 0 0) q5 rfl fun A7 r7 m7 s7 => ?_
      have e07 : Ext H A7 := ((Ext.mod (F := fun b => b = H3.size) (Mod.trans e05 e6)).trans m7).ext fun b hb => by omega
      have r07 : RowT A7 H.size ty_api_Manifest #[.int .u8 0, .int .i64 0, .string ByteArray.empty, .string ByteArray.empty, .slice none 0 0] := ((r3.ext e5).ext e6).mod m7 (by omega)
      refine keep_new fun keep A8 hk8 s8 k8 e8 => ?_
      refine br_mk (fun q => by simp [failM] at q) (fun _ => ?_)
      have e08 : Ext H A8 := Mod.trans e07 e8
      have := e07.size
      exact fin A8 keep (fun _ => false) mf0 (Sl.mk none 0 0) false e08 k8 (by omega) (fun n => by rw [hf]; rfl) (r07.ext e8) (r7.ext e8) (SlE.nil _ _ _) (by rintro b ⟨ad, q, _⟩; cases q) (by rw [hf]; rfl) (by rw [hf]; rfl)
    · have hf : s.foundM = some m := by rw [hfm, hm]
      have q5 := r5.ext e6
      refine mf_put (s := rs) q5 rfl fun A7 r7 m7 s7 => ?_
      have z6 := (Mod.trans e05 e6).size
      have z56 := e6.size
      have e07 : Ext H A7 := ((Ext.mod (F := fun b => b = H3.size) (Mod.trans e05 e6)).trans m7).ext fun b hb => by omega
      have r07 : RowT A7 H.size ty_api_Manifest #[.int .u8 0, .int .i64 0, .string ByteArray.empty, .string ByteArray.empty, .slice none 0 0] := ((r3.ext e5).ext e6).mod m7 (by omega)
      have o7 : SlE ESv ty_api_Saved A7 rs m.rels := Owns.mod o6 m7 fun b hb q => by have := f6 b hb; omega
      refine keep_new fun keep A8 hk8 s8 k8 e8 => ?_
      refine br_mk (fun _ => ?_) (fun q => by simp at q)
      have z7 := e07.size
      refine ⟨fun A => RowT A H3.size ty_api_Manifest (headM m.opts m.next m.input m.terms rs), r7.ext e8, RowT.ldC (c := cStr) (i := 2) (x := m.input) (cs := fun _ => headM m.opts m.next m.input m.terms rs) (fun _ h => h) (fun _ _ => rfl) (RowT.ldC (c := cStr) (i := 3) (x := m.terms) (cs := fun _ => headM m.opts m.next m.input m.terms rs) (fun _ h => h) (fun _ _ => rfl) ?_)⟩
      have hH3 : H3.size < A7.size := (Array.getElem?_eq_some_iff.1 r7).1
      refine k8.put fun A9 k9 m9 s9 => ⟨(r7.ext e8).mod m9 (by omega), ?_⟩
      refine k9.put fun A10 k10 m10 s10 => ⟨((r7.ext e8).mod m9 (by omega)).mod m10 (by omega), ?_⟩
      refine k10.put fun A11 k11 m11 s11 => ?_
      have m811 := (m9.trans m10).trans m11
      have r11 := (r7.ext e8).mod m811 (by omega)
      refine r11.ld (c := cSl) (i := 4) (x := rs) rfl ?_
      have hrn : rs.n = m.rels.length := o7.n (by decide)
      have hrl : m.rels.length ≤ 256 := rels_len (decM_may hm)
      refine loop_upto m.rels.length (fun i z A => z = (i : Int) ∧ Mod (fun b => b = keep) A8 A ∧ KeepAt A keep (fun x => (m.rels.take i).any (fun v => decide (x = v.file)) || (decide (x = m.terms) || (decide (x = m.input) || (decide (x = nmM) || false))))) ⟨rfl, m811, k11⟩ ?_
      rintro i _ A next hi ⟨rfl, mA, kA⟩ hnext
      have rA := (r7.ext e8).mod mA (by omega)
      have oA : SlE ESv ty_api_Saved A rs m.rels := Owns.mod (o7.ext e8) mA fun b hb q => by have := o7.lt b hb; omega
      have e0A : Ext H A := ((Ext.mod (F := fun b => b = keep) (Mod.trans e07 e8)).trans mA).ext fun b hb => by omega
      refine br_mk (fun hc2 => ?_) (fun hc2 => ?_)
      · have hlt2 : i < m.rels.length := by
          have : (i : Int) < (rs.n : Int) := by simpa using hc2
          omega
        have hx : m.rels[i]? = some m.rels[i] := List.getElem?_eq_getElem hlt2
        obtain ⟨ad, hadd⟩ := oA.rd.addr (by decide) (by omega)
        refine optK_mk ad hadd ⟨⟨by omega, by omega⟩, ?_⟩
        refine RdE.ldA (c := cAgg [cStr, cStr, cInt .i64]) (y := (m.rels[i].rel, m.rels[i].file, m.rels[i].rows)) oA.rd hadd hx rfl (n := (i : Int).toNat * 3) (by rw [Int.toNat_natCast]; rfl) rfl ?_
        rw [zc_sv]
        refine newC_rowT fun B1 t1 g1 y1 => ?_
        refine g1.stAll (cs := #[.string m.rels[i].rel, .string m.rels[i].file, .int .i64 m.rels[i].rows]) size_sv rfl (by intro v hv; simp at hv; rcases hv with rfl | rfl | rfl <;> rfl) fun B2 g2 y2 t2 => ?_
        refine g2.ld (c := cStr) (i := 1) (x := m.rels[i].file) rfl ?_
        have hka := kA.lt
        have mB : Mod (fun b => b = keep) A B2 := ⟨by have := y1.size; omega, fun b hb _ => (y2.same b (by have := y1.size; omega) (by omega)).trans (y1.same b hb id)⟩
        have kB : KeepAt B2 keep _ := kA.keep ((y2.same keep (by have := y1.size; omega) (by omega)).trans (y1.same keep hka id))
        refine kB.put fun B3 k3 m3 s3 => ?_
        refine hnext hlt2 _ _ ⟨succ64 i (by omega), (mA.trans mB).trans m3, ?_⟩
        have e : (fun x => decide (x = m.rels[i].file) || ((m.rels.take i).any (fun v => decide (x = v.file)) || (decide (x = m.terms) || (decide (x = m.input) || (decide (x = nmM) || false))))) = fun x => (m.rels.take (i + 1)).any (fun v => decide (x = v.file)) || (decide (x = m.terms) || (decide (x = m.input) || (decide (x = nmM) || false))) := by
          funext x
          rw [List.take_add_one, hx, List.any_append]
          simp only [Option.toList_some, List.any_cons, List.any_nil, Bool.or_false]
          rw [← Bool.or_assoc, Bool.or_comm (decide (x = m.rels[i].file))]
        rw [← e]; exact k3
      · have hge : i = m.rels.length := by
          have : ¬ (i : Int) < (rs.n : Int) := by simpa using hc2
          omega
        subst hge
        rw [List.take_length] at kA
        refine fin A keep _ m rs true e0A kA (by omega) (fun n => ?_) ((r07.ext e8).mod mA (by omega)) rA oA (fun b hb => by have := f6 b hb; omega) (by rw [hf]; rfl) (by rw [hf]; rfl)
        rw [hf]
        unfold keeps
        simp only [baOf_eq, Bool.or_false]
        rw [Bool.or_comm, Bool.or_comm (decide (n = m.terms.data.toList)), Bool.or_comm (decide (n = m.input.data.toList))]
  · have hd' : ¬ (s.getM nmM).2 = 0 := by simpa using hd
    have hf : s.foundM = none := by unfold Dk.foundM; rw [if_neg hd']
    refine keep_new fun keep A8 hk8 s8 k8 e8 => ?_
    exact fin A8 keep (fun _ => false) mf0 (Sl.mk none 0 0) false (Mod.trans e05 e8) k8 (by omega) (fun n => by rw [hf]; rfl) ((r3.ext e5).ext e8) (r5.ext e8) (SlE.nil _ _ _) (by rintro b ⟨ad, q, _⟩; cases q) (by rw [hf]; rfl) (by rw [hf]; rfl)
end Go.Proofs.YtjjfngnokbboeaaDoor

/-
  Manifests put, committed, found again, in plain words: disks that do not crash.
-/
namespace Go.Proofs.YtjjfngnokbboeaaDoor

/-- A disk that is up and does not crash. -/
structure Fine (d : Dk) (fs : List Fl) (q : Nat) : Prop where
  files : d.files = fs
  down : d.down = false
  crash : d.crash = none
  quota : d.quota = q
theorem Dk.step_fine {d : Dk} {fs : List Fl} {q : Nat} (h : Fine d fs q) (f : Dk → Dk) : ∃ t : Dk, Fine t fs q ∧ d.step f = (f t, 0) := by
  rcases d.step_res f with ⟨t, t1, t2, t3, _, _, t6, t7⟩ | ⟨_, q2⟩
  · exact ⟨t, ⟨t1.trans h.files, t3.trans h.down, t6 h.crash, t2.trans h.quota⟩, t7⟩
  · exact absurd h.crash q2
theorem put_fine {d : Dk} {fs : List Fl} {q : Nat} {n : ByteArray} {b : List UInt8} (h : Fine d fs q) (hn : named n = true) (hno : ∀ g ∈ fs, g.name ≠ n) (hf : fs.length < 4096) (hq : usedL fs + (pieces (allM b)).length ≤ q) :
    ∃ pg : List Pg, pg.map (·.1) = (pieces (allM b)).map (sealP 3) ∧ Fine (d.putM n b).1 (fs ++ [⟨n, pg, []⟩]) q ∧ (d.putM n b).2 = 0 := by
  have hx : d.idx n = none := by unfold Dk.idx; rw [h.files]; exact idx_absent hno
  have hl : ¬ (d.len n).2 = 0 := by
    unfold Dk.len Dk.open
    rw [if_neg (by rw [h.down]; simp), hx]; simp
  have hp : d.putM n b = d.make n b := by
    unfold Dk.putM Dk.clear
    rw [if_neg hl]; rfl
  obtain ⟨rest, h1, h2, h3⟩ := make_tail (n := n) (b := b) h.down hn (by rw [h.files]; exact hno) (by rw [h.files]; exact hf) (by rw [h.files, h.quota]; exact hq)
  rw [hp]
  rcases h3 with ⟨a1, a2, ⟨pg, a3, a4⟩, a5⟩ | ⟨_, _, a3, _⟩
  · exact ⟨pg, a4, ⟨by rw [h1, h.files, a3], a2, a5 h.crash, h2.trans h.quota⟩, a1⟩
  · exact absurd h.crash a3
theorem idx_last {d : Dk} {fs : List Fl} {f : Fl} {n : ByteArray} (h : d.files = fs ++ [f]) (hn : f.name = n) (hno : ∀ g ∈ fs, g.name ≠ n) : d.idx n = some fs.length := Tail.idx ⟨h, hn, hno⟩
theorem rename_fine {d : Dk} {fs : List Fl} {f : Fl} {q : Nat} {n m : ByteArray} (h : Fine d (fs ++ [f]) q) (hf : f.name = n) (hno : ∀ g ∈ fs, g.name ≠ n) (hm : named m = true) (hnm : n ≠ m) (hnom : ∀ g ∈ fs, g.name ≠ m) :
    Fine (d.rename n m).1 (fs ++ [{ f with name := m }]) q ∧ (d.rename n m).2 = 0 := by
  unfold Dk.rename
  rw [if_neg (by rw [h.down]; simp), if_neg (by rw [hm]; simp), if_neg (by rw [idx_last h.files hf hno]; simp)]
  obtain ⟨t, ht, e⟩ := Dk.step_fine h fun t => if n.toList = m.toList then t else (t.drop m).setName n m
  rw [e, if_neg fun q => hnm (ba_eq q)]
  have hd : t.drop m = t := by
    unfold Dk.drop
    have : t.idx m = none := by
      unfold Dk.idx
      rw [ht.files]
      refine idx_absent fun g hg => ?_
      rcases List.mem_append.1 hg with q | q
      · exact hnom g q
      · simp at q; rw [q, hf]; exact hnm
    rw [this]
  rw [hd]
  have hs : (t.setName n m) = { t with files := t.files.modify fs.length fun f => { f with name := m } } := by
    unfold Dk.setName; rw [idx_last ht.files hf hno]
  rw [hs]
  refine ⟨⟨?_, ht.down, ht.crash, ht.quota⟩, rfl⟩
  show t.files.modify _ _ = _
  rw [ht.files, modify_tail]
theorem erase_filter {n : ByteArray} : ∀ (fs : List Fl) (i : Nat), (fs.map (·.name)).Nodup → fs.findIdx? (fun f => f.name.toList == n.toList) = some i → fs.eraseIdx i = fs.filter fun g => !(decide (g.name = n))
  | [], i, _, h => by simp at h
  | f :: fs, i, hd, h => by
    rw [List.map_cons, List.nodup_cons] at hd
    rw [List.findIdx?_cons] at h
    by_cases hf : f.name = n
    · rw [if_pos (by rw [hf]; simp)] at h
      cases h
      rw [List.eraseIdx_zero, List.tail_cons, List.filter_cons, if_neg (by simp [hf])]
      refine (List.filter_eq_self.2 fun g hg => ?_).symm
      have : g.name ≠ n := fun q => hd.1 (List.mem_map.2 ⟨g, hg, by rw [q, hf]⟩)
      simpa using this
    · have hb : (f.name.toList == n.toList) = false := by
        have : ¬ f.name.toList = n.toList := fun q => hf (ba_eq q)
        simpa using this
      rw [if_neg (by rw [hb]; simp)] at h
      cases hx : fs.findIdx? (fun f => f.name.toList == n.toList) with
      | none => rw [hx] at h; cases h
      | some j =>
        rw [hx] at h; cases h
        show f :: fs.eraseIdx j = _
        rw [erase_filter fs j hd.2 hx, List.filter_cons, if_pos (by simpa using hf)]
theorem remove_fine {d : Dk} {fs : List Fl} {q : Nat} {n : ByteArray} (h : Fine d fs q) (hd : (fs.map (·.name)).Nodup) (hm : ∃ g ∈ fs, g.name = n) : Fine (d.remove n).1 (fs.filter fun g => !(decide (g.name = n))) q ∧ (d.remove n).2 = 0 := by
  have hi : ∃ i, fs.findIdx? (fun f => f.name.toList == n.toList) = some i := by
    cases hx : fs.findIdx? (fun f => f.name.toList == n.toList) with
    | some i => exact ⟨i, rfl⟩
    | none =>
      rw [List.findIdx?_eq_none_iff] at hx
      obtain ⟨g, hg, e⟩ := hm
      have := hx g hg
      rw [e] at this; simp at this
  obtain ⟨i, hi⟩ := hi
  have hx : d.idx n = some i := by unfold Dk.idx; rw [h.files]; exact hi
  unfold Dk.remove
  rw [if_neg (by rw [h.down]; simp), if_neg (by rw [hx]; simp)]
  obtain ⟨t, ht, e⟩ := Dk.step_fine h fun t => t.drop n
  rw [e]
  have hs : t.drop n = { t with files := t.files.eraseIdx i } := by
    unfold Dk.drop
    have : t.idx n = some i := by unfold Dk.idx; rw [ht.files]; exact hi
    rw [this]
  rw [hs]
  exact ⟨⟨by show t.files.eraseIdx i = _; rw [ht.files]; exact erase_filter fs i hd hi, ht.down, ht.crash, ht.quota⟩, rfl⟩
theorem keeps_name (f : Option Mf) (n : ByteArray) : keeps f n.toList = keeps f n.data.toList := by rw [ByteArray.toList_eq]
/-- What a sweep leaves. -/
theorem sweep_fine {f : Option Mf} {q : Nat} : ∀ (l : List (List UInt8)) (d : Dk) (fs : List Fl), Fine d fs q → (fs.map (·.name)).Nodup → l.Nodup → (∀ n ∈ l, ∃ g ∈ fs, g.name = baOf n) →
    Fine (Dk.sweep f l d).1 (fs.filter fun g => keeps f g.name.data.toList || !(l.contains g.name.data.toList)) q ∧ (Dk.sweep f l d).2 = 0
  | [], d, fs, h, _, _, _ => by
    refine ⟨?_, rfl⟩
    have : (fs.filter fun g => keeps f g.name.data.toList || !(([] : List (List UInt8)).contains g.name.data.toList)) = fs := List.filter_eq_self.2 fun g hg => by simp
    rw [this]; exact h
  | n :: l, d, fs, h, hd, hl, hm => by
    rw [List.nodup_cons] at hl
    rw [sweep_cons]
    by_cases hk : keeps f n = true
    · rw [if_pos hk]
      obtain ⟨h1, h2⟩ := sweep_fine l d fs h hd hl.2 fun x hx => hm x (List.mem_cons_of_mem _ hx)
      refine ⟨?_, h2⟩
      have e : (fs.filter fun g => keeps f g.name.data.toList || !((n :: l).contains g.name.data.toList)) = fs.filter fun g => keeps f g.name.data.toList || !(l.contains g.name.data.toList) := by
        refine List.filter_congr fun g hg => ?_
        by_cases hg2 : g.name.data.toList = n
        · rw [hg2, hk]; simp
        · rw [List.contains_cons, show (g.name.data.toList == n) = false by simpa using hg2, Bool.false_or]
      rw [e]; exact h1
    · rw [if_neg hk]
      obtain ⟨r1, r2⟩ := remove_fine h hd (hm n List.mem_cons_self)
      rw [if_neg (by rw [r2]; simp)]
      have hd2 : ((fs.filter fun g => !(decide (g.name = baOf n))).map (·.name)).Nodup := hd.sublist (List.Sublist.map _ List.filter_sublist)
      obtain ⟨h1, h2⟩ := sweep_fine l (d.remove (baOf n)).1 _ r1 hd2 hl.2 (fun x hx => by
        obtain ⟨g, hg, e⟩ := hm x (List.mem_cons_of_mem _ hx)
        refine ⟨g, List.mem_filter.2 ⟨hg, ?_⟩, e⟩
        have : ¬ g.name = baOf n := fun q => hl.1 (by
          rw [e] at q
          have : x = n := by have := congrArg (fun z : ByteArray => z.data.toList) q; simpa [baOf] using this
          rw [← this]; exact hx)
        simpa using this)
      refine ⟨?_, h2⟩
      have e : (fs.filter fun g => keeps f g.name.data.toList || !((n :: l).contains g.name.data.toList)) = (fs.filter fun g => !(decide (g.name = baOf n))).filter fun g => keeps f g.name.data.toList || !(l.contains g.name.data.toList) := by
        rw [List.filter_filter]
        refine List.filter_congr fun g hg => ?_
        by_cases hg2 : g.name.data.toList = n
        · have e3 : g.name = baOf n := by rw [← hg2]; rfl
          have hk2 : keeps f n = false := by simpa using hk
          rw [hg2, hk2, e3]; simp
        · have e3 : ¬ g.name = baOf n := fun q => hg2 (by rw [q]; simp [baOf])
          rw [List.contains_cons, show (g.name.data.toList == n) = false by simpa using hg2, Bool.false_or]
          simp [e3]
      rw [e]; exact h1
theorem list_perm {d : Dk} {fs : List Fl} {q : Nat} (h : Fine d fs q) : d.list.Perm (fs.map fun f => f.name.data.toList) := by
  unfold Dk.list
  rw [if_neg (by rw [h.down]; simp), h.files]
  have : (fs.map fun f => f.name.toList) = fs.map fun f => f.name.data.toList := List.map_congr_left fun f _ => ByteArray.toList_eq _
  rw [this]
  exact List.mergeSort_perm _ _
/-- What a sweep of all leaves. -/
theorem sweep_all {d : Dk} {fs : List Fl} {q : Nat} {f : Option Mf} (h : Fine d fs q) (hd : (fs.map (·.name)).Nodup) :
    Fine (Dk.sweep f d.list d).1 (fs.filter fun g => keeps f g.name.data.toList) q ∧ (Dk.sweep f d.list d).2 = 0 := by
  have hp := list_perm h
  have hd2 : (fs.map fun f => f.name.data.toList).Nodup := by
    have : (fs.map fun f => f.name.data.toList) = (fs.map (·.name)).map fun n => n.data.toList := by rw [List.map_map]; rfl
    rw [this]
    refine List.Pairwise.map _ ?_ hd
    intro a b hab e
    exact hab (ba_eq (by rw [ByteArray.toList_eq, ByteArray.toList_eq]; exact e))
  obtain ⟨h1, h2⟩ := sweep_fine (f := f) d.list d fs h hd (hp.nodup_iff.2 hd2) (fun n hn => by
    obtain ⟨g, hg, e⟩ := List.mem_map.1 (hp.mem_iff.1 hn)
    exact ⟨g, hg, by rw [← e]; rfl⟩)
  refine ⟨?_, h2⟩
  have e : (fs.filter fun g => keeps f g.name.data.toList) = fs.filter fun g => keeps f g.name.data.toList || !(d.list.contains g.name.data.toList) := by
    refine List.filter_congr fun g hg => ?_
    have : d.list.contains g.name.data.toList = true := by
      rw [List.contains_iff_mem]
      exact hp.mem_iff.2 (List.mem_map.2 ⟨g, hg, rfl⟩)
    rw [this]; simp
  rw [e]; exact h1
theorem getM_fine {d : Dk} {fs : List Fl} {q : Nat} {n : ByteArray} {b : List UInt8} {i : Nat} {f : Fl} (h : Fine d fs q) (hi : fs.findIdx? (fun f => f.name.toList == n.toList) = some i) (hf : fs[i]? = some f) (hp : f.pages.map (·.1) = (pieces (allM b)).map (sealP 3)) (hb : b.length < 18446744073709551616) : d.getM n = (b, 0) := by
  refine getM_of h.down (i := i) (by unfold Dk.idx; rw [h.files]; exact hi) ?_ hb
  rw [Dk.file_eq (by rw [h.files]; exact hf)]
  exact hp
theorem dk0_fine (q : Int) : Fine (dk0 q) [] (dk0 q).quota := ⟨rfl, rfl, rfl, rfl⟩
theorem keeps_iff {m : Mf} {n : ByteArray} : keeps (some m) n.data.toList = (decide (n = nmM) || decide (n = m.input) || decide (n = m.terms) || m.rels.any fun x => decide (n = x.file)) := by
  have e : ∀ x : ByteArray, decide (n.data.toList = x.data.toList) = decide (n = x) := fun x => by
    rw [decide_eq_decide]
    exact ⟨fun q => ba_eq (by rw [ByteArray.toList_eq, ByteArray.toList_eq]; exact q), fun q => by rw [q]⟩
  unfold keeps
  simp only [e]
end Go.Proofs.YtjjfngnokbboeaaDoor

/-
  What the law asks beside: does the whole work? The walk of 'works'.
-/
namespace Go.Proofs.YtjjfngnokbboeaaDoor
open Go.MapKept

def nmI : ByteArray := ByteArray.mk #[105]
def nmX : ByteArray := ByteArray.mk #[120]
def mfW : Mf := ⟨3, 1, nmI, ByteArray.empty, [⟨ByteArray.mk #[112], ByteArray.mk #[102], 2⟩]⟩

theorem RowT.rdM {α : Type} {E : Enc α} {H : Heap} {b : Nat} {t : TypeId} {cs : Array Value} {xs : List α} (h : RowT H b t cs) (e : E.all xs = cs.toList) : RdE E H (some ⟨b, 0, none⟩) xs := by
  intro i v hv
  refine ⟨_, rfl, ?_⟩
  rw [add_lit0]
  refine h.cell ?_
  have hv' : (E.all xs)[i]? = some v := hv
  rw [e] at hv'
  simpa using hv'
theorem pieces1 {b : List UInt8} (h : b.length ≤ 496) : (pieces (allM b)).length = 1 := by
  rw [pieces_length]
  have : (allM b).length = 8 + b.length := by simp [allM]
  omega
theorem ne_of_data {a b : ByteArray} (h : a.data.toList ≠ b.data.toList) : a ≠ b := fun e => h (by rw [e])
theorem works_plain : ∃ s1 s2 s3 s4 : Dk, (dk0 9).putM nmI [1, 2] = (s1, 0) ∧ s1.putM nmX [] = (s2, 0) ∧ s2.commit mfW = (s3, 0) ∧ s3.recover = ((mfW, true, 0), s4) ∧ s4.getM nmI = ([1, 2], 0) ∧ s4.list = [[105], nmM.data.toList] := by
  have f0 := dk0_fine 9
  have q9 : (dk0 9).quota = 9 := rfl
  rw [q9] at f0
  obtain ⟨pi, hi, f1, e1⟩ := put_fine (n := nmI) (b := [1, 2]) f0 (by decide) (by simp) (by decide) (by rw [pieces1 (by decide)]; decide)
  have li : pi.length = 1 := by
    have := congrArg List.length hi
    rw [List.length_map, List.length_map, pieces1 (by decide)] at this; exact this
  have nIX : nmI ≠ nmX := ne_of_data (by decide)
  have nIN : nmI ≠ nmN := ne_of_data (by decide)
  have nXN : nmX ≠ nmN := ne_of_data (by decide)
  have nIM : nmI ≠ nmM := ne_of_data (by decide)
  have nXM : nmX ≠ nmM := ne_of_data (by decide)
  have nNM : nmN ≠ nmM := ne_of_data (by decide)
  have u1 : usedL ([] ++ [(⟨nmI, pi, []⟩ : Fl)]) = 1 := by
    simp [usedL, Fl.pages, li]
  obtain ⟨px, hx, f2, e2⟩ := put_fine (n := nmX) (b := []) f1 (by decide) (by intro g hg; simp at hg; rw [hg]; exact nIX) (by simp) (by rw [pieces1 (by decide), u1]; decide)
  have lx : px.length = 1 := by
    have := congrArg List.length hx
    rw [List.length_map, List.length_map, pieces1 (by decide)] at this; exact this
  have u2 : usedL ([] ++ [(⟨nmI, pi, []⟩ : Fl)] ++ [⟨nmX, px, []⟩]) = 2 := by
    simp [usedL, Fl.pages, li, lx]
  have hm : mayM mfW = true := by decide
  have hle : (encM mfW).length ≤ 496 := by decide
  obtain ⟨pm, hpm, f3, e3⟩ := put_fine (n := nmN) (b := encM mfW) f2 (by decide) (by
    intro g hg
    simp at hg
    rcases hg with rfl | rfl
    · exact nIN
    · exact nXN) (by simp) (by rw [pieces1 hle, u2]; decide)
  obtain ⟨f4, e4⟩ := rename_fine (m := nmM) f3 rfl (by
    intro g hg
    simp at hg
    rcases hg with rfl | rfl
    · exact nIN
    · exact nXN) (by decide) nNM (by
    intro g hg
    simp at hg
    rcases hg with rfl | rfl
    · exact nIM
    · exact nXM)
  have hc : (((dk0 9).putM nmI [1, 2]).1.putM nmX []).1.commit mfW = (((((dk0 9).putM nmI [1, 2]).1.putM nmX []).1.putM nmN (encM mfW)).1.rename nmN nmM) := by
    unfold Dk.commit
    rw [if_neg (by rw [hm]; simp), if_neg (by rw [e3]; simp)]
  generalize hs2 : (((dk0 9).putM nmI [1, 2]).1.putM nmX []) = s2 at *
  generalize hs1 : (dk0 9).putM nmI [1, 2] = s1 at *
  rw [← hc] at f4 e4
  generalize hs3 : s2.1.commit mfW = s3 at *
  have hfs : ([] ++ [(⟨nmI, pi, []⟩ : Fl)] ++ [⟨nmX, px, []⟩] ++ [{ (⟨nmN, pm, []⟩ : Fl) with name := nmM }]) = [⟨nmI, pi, []⟩, ⟨nmX, px, []⟩, ⟨nmM, pm, []⟩] := rfl
  rw [hfs] at f4
  have bI : (nmI.toList == nmM.toList) = false := by rw [ByteArray.toList_eq, ByteArray.toList_eq]; decide
  have bX : (nmX.toList == nmM.toList) = false := by rw [ByteArray.toList_eq, ByteArray.toList_eq]; decide
  have gM : s3.1.getM nmM = (encM mfW, 0) := by
    refine getM_fine f4 (i := 2) (f := ⟨nmM, pm, []⟩) ?_ rfl hpm (by omega)
    simp [List.findIdx?_cons, bI, bX]
  have fm : s3.1.foundM = some mfW := by
    unfold Dk.foundM
    rw [gM, if_pos rfl]
    exact dec_enc hm (by decide)
  have nd : ([(⟨nmI, pi, []⟩ : Fl), ⟨nmX, px, []⟩, ⟨nmM, pm, []⟩].map (·.name)).Nodup := by
    simp [nIX, nIM, nXM]
  obtain ⟨f5, e5⟩ := sweep_all (f := some mfW) f4 nd
  have k1 : keeps (some mfW) nmI.data.toList = true := by decide
  have k2 : keeps (some mfW) nmX.data.toList = false := by decide
  have k3 : keeps (some mfW) nmM.data.toList = true := by decide
  have hfl : ([(⟨nmI, pi, []⟩ : Fl), ⟨nmX, px, []⟩, ⟨nmM, pm, []⟩].filter fun g => keeps (some mfW) g.name.data.toList) = [⟨nmI, pi, []⟩, ⟨nmM, pm, []⟩] := by
    simp [List.filter_cons, k1, k2, k3]
  rw [hfl] at f5
  have hr : s3.1.recover = ((mfW, true, 0), (Dk.sweep (some mfW) s3.1.list s3.1).1) := by
    unfold Dk.recover
    rw [gM, if_neg (by decide), fm, if_neg (by rw [e5]; simp)]
    rfl
  refine ⟨s1.1, s2.1, s3.1, _, Prod.ext rfl e1, hs2.trans (Prod.ext rfl e2), hs3.trans (Prod.ext rfl e4), hr, ?_, ?_⟩
  · refine getM_fine f5 (i := 0) (f := ⟨nmI, pi, []⟩) ?_ rfl hi (by decide)
    simp [List.findIdx?_cons]
  · generalize (Dk.sweep (some mfW) s3.1.list s3.1).1 = s4 at f5 ⊢
    unfold Dk.list
    rw [if_neg (by rw [f5.down]; simp), f5.files]
    have e : ([(⟨nmI, pi, []⟩ : Fl), ⟨nmM, pm, []⟩].map fun f => f.name.toList) = [[105], nmM.data.toList] := by
      simp only [List.map_cons, List.map_nil, ByteArray.toList_eq]; rfl
    rw [e]
    refine List.mergeSort_of_pairwise ?_
    decide
theorem SameTexts2_ok {a b : Sl} {L : List (List UInt8)} {H : Heap} {K : Bool → Heap → Prop} (ha : SlE EN ty_string H a L) (hb : RdE EN H b.a L) (bn : b.n = L.length) (hl : L.length < 4611686018427387904) (hK : K true H) : fathomkit_SameTexts.sp a b H K := by
  refine fathomkit_SameTexts.of ?_
  unfold fathomkit_SameTexts.vc
  have an := ha.n (by decide)
  refine br_f (by simp; omega) ?_
  refine loop_upto L.length (fun k i H1 => i = (k : Int) ∧ H1 = H) ⟨rfl, rfl⟩ ?_
  rintro k _ H1 next hk ⟨rfl, rfl⟩ hnext
  refine br_mk (fun hc => ?_) (fun _ => hK)
  have hlt : k < L.length := by rw [an] at hc; simpa using hc
  have hx : L[k]? = some L[k] := List.getElem?_eq_getElem hlt
  obtain ⟨ad, had⟩ := ha.rd.addr (by decide) (by omega)
  obtain ⟨ad2, had2⟩ := hb.addr (by decide) (by omega)
  refine optK_mk ad had ⟨⟨by omega, by omega⟩, ?_⟩
  refine ha.rd.ld (c := cStr) had (j := 0) (y := baOf L[k]) hx rfl (n := (k : Int).toNat * 1) (by rw [Int.toNat_natCast]; rfl) ?_
  refine optK_mk ad2 had2 ⟨⟨by omega, by omega⟩, ?_⟩
  refine hb.ld (c := cStr) had2 (j := 0) (y := baOf L[k]) hx rfl (n := (k : Int).toNat * 1) (by rw [Int.toNat_natCast]; rfl) ?_
  refine br_f (by simp) (hnext hlt _ _ ⟨succ64 k (by omega), rfl⟩)

set_option maxRecDepth 100000 in
set_option maxHeartbeats 2000000 in
theorem mworks_ok {H : Heap} {K : Bool → Heap → Prop} (hg : Gl H) (hK : ∀ H', Ext H H' → K true H') : fathomlaw28_works.sp H K := by
  obtain ⟨s1, s2, s3, s4, w1, w2, w3, w4, w5, w6⟩ := works_plain
  have hgl := hg.lt
  refine fathomlaw28_works.of ?_
  unfold fathomlaw28_works.vc
  refine New_ok (by decide) fun F d H1 d1 e1 f1 => ?_
  refine newC_rowT fun H2 z2 r2 e2 => ?_
  rw [zc_mf]
  refine newC_rowT fun H3 z3 r3 e3 => ?_
  refine mf_put (s := Sl.mk (some ⟨H1.size, 0, none⟩) 1 1) r3 rfl fun H4 r4 m4 z4 => ?_
  refine newC_rowT fun H5 z5 r5 e5 => ?_
  have hlt := d1.lt
  have y1 := e1.size
  have e14 : Ext H1 H4 := ((Ext.mod (F := fun b => b = H2.size) (Mod.trans e2 e3)).trans m4).ext fun b hb => by omega
  have e15 : Ext H1 H5 := Mod.trans e14 e5
  have d5 := d1.keep fun b _ hl => e15.same b hl id
  have g5 : Gl H5 := hg.mod (Mod.trans e1 e15) id
  have nG : ¬ F gSteps := fun q => by have := f1 _ q; omega
  have q2 : RowT H5 H1.size ty_api_Saved #[.string (ByteArray.mk #[112]), .string (ByteArray.mk #[102]), .int .i64 2] := (((r2.ext e3).mod m4 (by omega)).ext e5)
  have q4 := r4.ext e5
  have hb : Byts H5 (Sl.mk (some ⟨H4.size, 0, none⟩) 2 2) [1, 2] := RowB.byts (l := [1, 2]) r5 (by decide)
  have l0 : (dk0 9).logs = 0 := rfl
  refine Put_ok (n := nmI) d5 hb (fun _ ad ha hF => by cases ha; have := hlt _ hF; simp at this; omega) (by decide) (by rw [l0]; decide) g5 nG fun F6 H6 d6 S6 => ?_
  rw [w1] at d6 ⊢
  have l1 : s1.logs ≤ 10 := by have := putM_logs (dk0 9) nmI [1, 2]; rw [w1, l0] at this; simp at this; omega
  refine br_mk (fun q => by simp at q) (fun _ => ?_)
  have nF : ∀ b, H1.size ≤ b → ¬ F b := fun b hb q => by have := hlt _ q; omega
  have y5 := e15.size
  have nG6 : ¬ F6 gSteps := fun q => (S6.own _ q).elim nG (by omega)
  have g6 := g5.mod S6.mod nG
  refine Put_ok (n := nmX) d6 (byts0 H6) (fun h => absurd rfl h) (by decide) (by show s1.logs ≤ 60000000000; omega) g6 nG6 fun F7 H7 d7 S7 => ?_
  rw [w2] at d7 ⊢
  have l2 : s2.logs ≤ 20 := by have := putM_logs s1 nmX []; rw [w2] at this; simp at this; omega
  refine br_mk (fun q => by simp at q) (fun _ => ?_)
  have S57 := S6.trans S7
  have nG7 : ¬ F7 gSteps := fun q => (S57.own _ q).elim nG (by omega)
  have g7 := g5.mod S57.mod nG
  have q47 := q4.mod S57.mod (nF _ (by omega))
  have q27 := q2.mod S57.mod (nF _ (Nat.le_refl _))
  refine mf_ld q47 ?_
  refine Commit_ok (m := mfW) (rs := Sl.mk (some ⟨H1.size, 0, none⟩) 1 1) d7 ⟨q27.rdM rfl, rfl⟩ (by decide) (by decide) (by show s2.logs ≤ 60000000000; omega) (fun _ => by decide) g7 nG7 fun F8 H8 d8 S8 => ?_
  rw [w3] at d8 ⊢
  refine br_mk (fun q => by simp at q) (fun _ => ?_)
  have S58 := S57.trans S8
  have g8 := g5.mod S58.mod nG
  refine Recover_ok d8 g8 fun F9 H9 rs d9 S9 o9 f9 => ?_
  rw [w4] at d9 o9 ⊢
  have S59 := S58.trans S9
  refine newC_rowT fun H10 z10 r10 e10 => ?_
  refine mf_put (s := rs) r10 rfl fun H11 r11 m11 z11 => ?_
  have e911 : Ext H9 H11 := ((Ext.mod (F := fun b => b = H9.size) e10).trans m11).ext fun b hb => by omega
  have d11 := d9.keep fun b _ hl => e911.same b hl id
  have g11 := (g5.mod S59.mod nG).mod e911 id
  refine Get_ok (n := nmI) d11 g11 fun r H12 b12 l12 c12 f12 e12 => ?_
  rw [w5] at b12 ⊢
  have e912 : Ext H9 H12 := Mod.trans e911 e12
  have q412 := (q4.mod S59.mod (nF _ (by omega))).ext e912
  have q212 := (q2.mod S59.mod (nF _ (Nat.le_refl _))).ext e912
  refine mf_ld q412 ?_
  refine mf_ld (r11.ext e12) ?_
  refine SameM_ok (a := mfW) (b := mfW) (ra := Sl.mk (some ⟨H1.size, 0, none⟩) 1 1) (rb := rs) ⟨q212.rdM rfl, rfl⟩ (SlE.rels (o9.ext e912)) (by decide) (by decide) (by decide) fun H13 e13 => ?_
  rw [decide_eq_true (rfl : mfW = mfW)]
  refine br_mk (fun _ => ?_) (fun q => by simp at q)
  refine strB_eq (b12.keep fun ad _ hl => e13.same _ hl id) ?_
  refine br_mk (fun _ => ?_) (fun q => ?_)
  · have d13 := d9.keep fun b _ hl => (Mod.trans e912 e13 : Ext H9 H13).same b hl id
    refine List_ok d13 fun l H14 o14 e14' f14 => ?_
    rw [w6] at o14
    refine newC_rowT fun H15 z15 r15 e15' => ?_
    refine SameTexts2_ok (L := [[105], nmM.data.toList]) (o14.ext e15') (RowT.rdM r15 rfl) rfl (by decide) ?_
    have e05 : Ext H H5 := Mod.trans e1 e15
    have e09 : Ext H H9 := ⟨Nat.le_trans e05.size S59.mod.size, fun b hb _ => (S59.mod.same b (Nat.lt_of_lt_of_le hb e05.size) (fun q => by have := f1 b q; omega)).trans (e05.same b hb id)⟩
    exact hK H15 (Mod.trans (Mod.trans (Mod.trans e09 (Mod.trans e912 e13)) e14') e15')
  · exfalso
    revert q
    have : (strB [1, 2]).toList = (ByteArray.mk #[1, 2]).toList := rfl
    rw [this]
    simp
end Go.Proofs.YtjjfngnokbboeaaDoor

/-
  Manifests: the statements on codes and on what comes back: the walk.
-/
namespace Go.Proofs.YtjjfngnokbboeaaDoor
open Go.MapKept

def encR (m : Mf) : List UInt8 × Int := if mayM m then (encM m, 0) else ([], 2)
def decR (l : List UInt8) : Mf × Int := match decM l with | none => (mf0, 280) | some m => (m, 0)
theorem decR_ok (l : List UInt8) : (decR l).1.rels.length ≤ 1000 ∧ ∀ x ∈ (decR l).1.rels, svOK x = true := by
  unfold decR
  split
  · exact ⟨by decide, by decide⟩
  · rename_i m h
    have hm := decM_may h
    refine ⟨Nat.le_trans (rels_len hm) (by decide), fun x hx => ?_⟩
    unfold mayM at hm
    simp only [Bool.and_eq_true, List.all_eq_true] at hm
    exact hm.2 x hx
theorem Encode2_ok {m : Mf} {rs : Sl} {H : Heap} {K : Sl × Int → Heap → Prop} (h : Rels H rs m.rels) (hl : m.rels.length < 4611686018427387904) (ho : 0 ≤ m.opts ∧ m.opts < 256)
    (hK : ∀ s A', Byts A' s (encR m).1 → s.n ≤ s.c → Ext H A' → K (s, (encR m).2) A') : manifest_Encode.sp m.opts m.next m.input m.terms rs H K := by
  unfold encR at hK
  refine Encode_ok h hl ho (fun hm A' e => ?_) (fun hm s A' o f c e => ?_)
  · rw [if_neg (by rw [hm]; simp)] at hK
    exact hK _ A' (byts0 A') (Nat.le_refl _) e
  · rw [if_pos hm] at hK
    exact hK s A' (SlB_byts o) c e
theorem Decode2_ok {b : Sl} {l : List UInt8} {H : Heap} {R : ((Int × Int × ByteArray × ByteArray × Sl) × Int) → Heap → Prop} (hb : Byts H b l) (hc : b.n ≤ b.c) (hl : l.length < 4611686018427387904)
    (hK : ∀ rs A', SlE ESv ty_api_Saved A' rs (decR l).1.rels → Ext H A' → R (((decR l).1.opts, (decR l).1.next, (decR l).1.input, (decR l).1.terms, rs), (decR l).2) A') : manifest_Decode.sp b H R := by
  unfold decR at hK
  refine Decode_ok hb hc hl (fun hm A' e => ?_) (fun m rs A' hm o f e => ?_)
  · rw [hm] at hK
    exact hK (Sl.mk none 0 0) A' (SlE.nil _ _ _) e
  · rw [hm] at hK
    exact hK rs A' o e
def thick (l : List Sv) : Nat := (l.map fun x => x.rel.size + x.file.size).sum
theorem thick_snoc (l : List Sv) (x : Sv) : thick (l ++ [x]) = thick l + (x.rel.size + x.file.size) := by simp [thick]
theorem svBs_length : ∀ l : List Sv, (l.flatMap svB).length = 12 * l.length + thick l
  | [] => rfl
  | x :: l => by
    rw [List.flatMap_cons, List.length_append, svB_length, svBs_length l]
    have : thick (x :: l) = x.rel.size + x.file.size + thick l := by simp [thick]
    rw [this, List.length_cons]; omega
theorem encM_length (m : Mf) : (encM m).length = 18 + m.input.size + m.terms.size + (12 * m.rels.length + thick m.rels) := by
  unfold encM
  simp only [List.length_cons, List.length_append, beN_length, txtB_length, svBs_length]
  omega
def nmF : ByteArray := ByteArray.mk #[102]
theorem back_plain {b : List UInt8} (hb : b.length ≤ 20000) : ∃ s1 : Dk, (dk0 200).putM nmF b = (s1, 0) ∧ s1.getM nmF = (b, 0) := by
  have f0 := dk0_fine 200
  have q9 : (dk0 200).quota = 200 := rfl
  rw [q9] at f0
  obtain ⟨pi, hi, f1, e1⟩ := put_fine (n := nmF) (b := b) f0 (by decide) (by simp) (by decide) (by
    rw [pieces_length]
    have : (allM b).length = 8 + b.length := by simp [allM]
    have u : usedL [] = 0 := rfl
    rw [u]; omega)
  refine ⟨_, Prod.ext rfl e1, ?_⟩
  refine getM_fine f1 (i := 0) (f := ⟨nmF, pi, []⟩) ?_ rfl hi (by omega)
  simp [List.findIdx?_cons]

end Go.Proofs.YtjjfngnokbboeaaDoor
