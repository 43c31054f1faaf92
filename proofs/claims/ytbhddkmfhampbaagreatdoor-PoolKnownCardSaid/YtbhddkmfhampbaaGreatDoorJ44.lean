/-
  The document's pool in memory.
-/
import Derived.Test.YtbhddkmfhampbaaGreatDoorJ35
import Derived.Test.YtbhddkmfhampbaaGreatDoorDrd
namespace Go.Proofs.YtbhddkmfhampbaaGreatDoor
open Go.MapKept

abbrev RZ := Fr × Sl
def ERp : Enc RZ := ⟨7, fun z => [.string z.1.name, .int .i64 (z.1.page : Int), .int .u8 (z.1.kind.toNat : Int), .string (strB z.1.b), .bool z.1.dirty, z.2.v, .int .i64 z.1.left], fun _ => rfl, fun x u hu => by simp at hu; rcases hu with rfl | rfl | rfl | rfl | rfl | rfl | rfl <;> rfl⟩
theorem elRp : ElT Tryz.prog ty_sl_fathomref03_Frame ty_fathomref03_Frame ERp.size 88 := ElT_of (by kernel_rfl)

/-- The frames of the document's pool. -/
structure RFr (H : Heap) (ll : Sl) (zs : List RZ) : Prop where
  arr : SlE ERp ty_fathomref03_Frame H ll zs
  ent : ∀ z ∈ zs, SlE EI ty_int H z.2 z.1.pins
  apart : ∀ (i j : Nat) (z z' : RZ), zs[i]? = some z → zs[j]? = some z' → i ≠ j → ∀ b, ownB z.2 b → ¬ ownB z'.2 b
def rpp (ll : Sl) (zs : List RZ) (b : Nat) : Prop := ownB ll b ∨ ∃ z ∈ zs, ownB z.2 b
def rpf (zs : List RZ) : List Fr := zs.map (·.1)

theorem RFr.lt {H : Heap} {ll : Sl} {zs : List RZ} (h : RFr H ll zs) : ∀ b, rpp ll zs b → b < H.size := by
  rintro b (q | ⟨z, hz, q⟩)
  · exact h.arr.lt b q
  · exact (h.ent z hz).lt b q
theorem RFr.keep {H H' : Heap} {ll : Sl} {zs : List RZ} (h : RFr H ll zs) (k : ∀ b, rpp ll zs b → b < H.size → H'[b]? = H[b]?) : RFr H' ll zs :=
  ⟨h.arr.keep fun b hb => k b (.inl hb), fun z hz => (h.ent z hz).keep fun b hb => k b (.inr ⟨z, hz, hb⟩), h.apart⟩
theorem RFr.ty {H : Heap} {ll : Sl} {zs : List RZ} (h : RFr H ll zs) : ∀ b, rpp ll zs b → ∃ cs t, H[b]? = some (.cells cs t (0, 0)) ∧ (t = ty_fathomref03_Frame ∨ t = ty_int) := by
  rintro b (q | ⟨z, hz, q⟩)
  · obtain ⟨c, e⟩ := h.arr.obj b q; exact ⟨c, _, e, .inl rfl⟩
  · obtain ⟨c, e⟩ := (h.ent z hz).obj b q; exact ⟨c, _, e, .inr rfl⟩
theorem RFr.arrOff {H : Heap} {ll : Sl} {zs : List RZ} (h : RFr H ll zs) {z : RZ} (hz : z ∈ zs) : ∀ b, ownB z.2 b → ¬ ownB ll b := by
  intro b hb hl
  obtain ⟨c, e⟩ := (h.ent z hz).obj b hb
  obtain ⟨c', e'⟩ := h.arr.obj b hl
  exact absurd (cells_ty e e') (by decide)

def headM (dp : Nat) (ll : Sl) (s : Pl) : Array Value := #[ptrV dp, .int .i64 (s.most : Int), ll.v, .int .i64 s.next, .int .i64 s.tick, .int .i64 (s.peak : Int), .int .i64 s.wrong]
structure RPoolG (ll : Sl) (zs : List RZ) (H : Heap) (p dp : Nat) (s : Pl) : Prop where
  head : RowT H p ty_fathomref03_Pool (headM dp ll s)
  frames : RFr H ll zs
  fs : s.fs = rpf zs
  wf : s.WF
def rpa (ll : Sl) (zs : List RZ) (p b : Nat) : Prop := b = p ∨ rpp ll zs b
theorem RPoolG.off {H : Heap} {p : Nat} {ll : Sl} {zs : List RZ} {cs : Array Value} (hd : RowT H p ty_fathomref03_Pool cs) (h : RFr H ll zs) : ¬ rpp ll zs p := by
  intro hb
  obtain ⟨c, t, e, ht⟩ := h.ty p hb
  rw [← cells_ty hd e] at ht
  exact absurd ht (by decide)
theorem RPoolG.lt {ll : Sl} {zs : List RZ} {H : Heap} {p dp : Nat} {s : Pl} (h : RPoolG ll zs H p dp s) : ∀ b, rpa ll zs p b → b < H.size := by
  rintro b (rfl | hb)
  · exact obj_lt h.head
  · exact h.frames.lt b hb
theorem RPoolG.keep {ll : Sl} {zs : List RZ} {H H' : Heap} {p dp : Nat} {s : Pl} (h : RPoolG ll zs H p dp s) (k : ∀ b, rpa ll zs p b → b < H.size → H'[b]? = H[b]?) : RPoolG ll zs H' p dp s :=
  ⟨(k p (.inl rfl) (obj_lt h.head)).trans h.head, h.frames.keep fun b hb => k b (.inr hb), h.fs, h.wf⟩
theorem RPoolG.setD {ll : Sl} {zs : List RZ} {H : Heap} {p dp : Nat} {s : Pl} (h : RPoolG ll zs H p dp s) (d : Dk) : RPoolG ll zs H p dp (s.setD d) := ⟨h.head, h.frames, h.fs, h.wf.setD d⟩
theorem RPoolG.at {ll : Sl} {zs : List RZ} {H : Heap} {p dp : Nat} {s : Pl} (h : RPoolG ll zs H p dp s) {i : Nat} {f : Fr} (hf : s.fs[i]? = some f) : ∃ g, zs[i]? = some (f, g) := by
  rw [h.fs] at hf
  unfold rpf at hf
  rw [List.getElem?_map, Option.map_eq_some_iff] at hf
  obtain ⟨⟨f', g⟩, h1, rfl⟩ := hf
  exact ⟨g, h1⟩
theorem RPoolG.len {ll : Sl} {zs : List RZ} {H : Heap} {p dp : Nat} {s : Pl} (h : RPoolG ll zs H p dp s) : s.fs.length = zs.length := by rw [h.fs]; simp [rpf]
theorem RPoolG.n {ll : Sl} {zs : List RZ} {H : Heap} {p dp : Nat} {s : Pl} (h : RPoolG ll zs H p dp s) : ll.n = s.fs.length := by rw [h.frames.arr.n (by decide), h.len]

/-- The document's pool and its disk. -/
structure RPoolD (ll : Sl) (zs : List RZ) (D : Nat → Prop) (H : Heap) (p dp : Nat) (s : Pl) : Prop where
  pool : RPoolG ll zs H p dp s
  disk : RefAt D H dp s.d
  apart : ∀ b, D b → ¬ rpa ll zs p b
def RPoolAt (F : Nat → Prop) (H : Heap) (p dp : Nat) (s : Pl) : Prop := ∃ ll zs D, RPoolD ll zs D H p dp s ∧ ∀ b, F b ↔ D b ∨ rpa ll zs p b
theorem RPoolD.lt {ll : Sl} {zs : List RZ} {D : Nat → Prop} {H : Heap} {p dp : Nat} {s : Pl} (h : RPoolD ll zs D H p dp s) : ∀ b, D b ∨ rpa ll zs p b → b < H.size := by
  rintro b (hb | hb)
  · exact h.disk.lt b hb
  · exact h.pool.lt b hb
theorem RPoolD.keep {ll : Sl} {zs : List RZ} {D : Nat → Prop} {H H' : Heap} {p dp : Nat} {s : Pl} (h : RPoolD ll zs D H p dp s) (k : ∀ b, D b ∨ rpa ll zs p b → b < H.size → H'[b]? = H[b]?) : RPoolD ll zs D H' p dp s :=
  ⟨h.pool.keep fun b hb => k b (.inr hb), h.disk.keep fun b hb => k b (.inl hb), h.apart⟩
theorem RPoolD.ext {ll : Sl} {zs : List RZ} {D : Nat → Prop} {H H' : Heap} {p dp : Nat} {s : Pl} (h : RPoolD ll zs D H p dp s) (e : Ext H H') : RPoolD ll zs D H' p dp s := h.keep fun b _ hl => e.same b hl id
theorem RPoolAt.lt {F : Nat → Prop} {H : Heap} {p dp : Nat} {s : Pl} (h : RPoolAt F H p dp s) : ∀ b, F b → b < H.size := by
  obtain ⟨ll, zs, D, g, hF⟩ := h
  exact fun b hb => g.lt b ((hF b).1 hb)
theorem RPoolAt.keep {F : Nat → Prop} {H H' : Heap} {p dp : Nat} {s : Pl} (h : RPoolAt F H p dp s) (k : ∀ b, F b → b < H.size → H'[b]? = H[b]?) : RPoolAt F H' p dp s := by
  obtain ⟨ll, zs, D, g, hF⟩ := h
  exact ⟨ll, zs, D, g.keep fun b hb => k b ((hF b).2 hb), hF⟩
theorem RPoolAt.ext {F : Nat → Prop} {H H' : Heap} {p dp : Nat} {s : Pl} (h : RPoolAt F H p dp s) (e : Ext H H') : RPoolAt F H' p dp s := h.keep fun b _ hl => e.same b hl id
/-- The disk makes a step. -/
theorem RPoolD.stepD {ll : Sl} {zs : List RZ} {D D' : Nat → Prop} {H H' : Heap} {p dp : Nat} {s : Pl} {d : Dk} (h : RPoolD ll zs D H p dp s) (hd : RefAt D' H' dp d) (hs : Step D D' H H') :
    RPoolD ll zs D' H' p dp (s.setD d) ∧ Step (fun b => D b ∨ rpa ll zs p b) (fun b => D' b ∨ rpa ll zs p b) H H' := by
  obtain ⟨q1, q2⟩ := hs.side h.apart h.pool.lt
  exact ⟨⟨(h.pool.keep fun b hb hl => hs.mod.same b hl fun q => h.apart b q hb).setD d, hd, q1⟩, q2⟩
/-- The pool itself makes a step. -/
theorem RPoolD.stepP {ll ll' : Sl} {zs zs' : List RZ} {D : Nat → Prop} {H H' : Heap} {p dp : Nat} {s s' : Pl} (h : RPoolD ll zs D H p dp s) (hp : RPoolG ll' zs' H' p dp s') (hd : s'.d = s.d) (hm : Mod (rpa ll zs p) H H') (ho : ∀ b, rpp ll' zs' b → rpp ll zs b ∨ H.size ≤ b) :
    RPoolD ll' zs' D H' p dp s' ∧ Step (fun b => D b ∨ rpa ll zs p b) (fun b => D b ∨ rpa ll' zs' p b) H H' := by
  have hl := h.disk.lt
  refine ⟨⟨hp, by rw [hd]; exact h.disk.keep fun b hb hbl => hm.same b hbl (h.apart b hb), ?_⟩, hm.mono fun b _ q => .inr q, ?_⟩
  · rintro b hb (q | q)
    · exact h.apart b hb (.inl q)
    · rcases ho b q with r | r
      · exact h.apart b hb (.inr r)
      · have := hl b hb; omega
  · rintro b (q | q | q)
    · exact .inl (.inl q)
    · exact .inl (.inr (.inl q))
    · exact (ho b q).imp (fun r => .inr (.inr r)) id
theorem RPoolD.out {ll ll' : Sl} {zs zs' : List RZ} {D D' : Nat → Prop} {F : Nat → Prop} {H H' : Heap} {p dp : Nat} {s : Pl} (h : RPoolD ll' zs' D' H' p dp s) (hF : ∀ b, F b ↔ D b ∨ rpa ll zs p b) (hs : Step (fun b => D b ∨ rpa ll zs p b) (fun b => D' b ∨ rpa ll' zs' p b) H H') :
    ∃ F', RPoolAt F' H' p dp s ∧ Step F F' H H' :=
  ⟨fun b => D' b ∨ rpa ll' zs' p b, ⟨ll', zs', D', h, fun _ => Iff.rfl⟩, hs.mod.mono fun b _ q => (hF b).2 q, fun b hb => (hs.own b hb).imp (hF b).2 id⟩
/-- The head is turned. -/
theorem RPoolG.turnHead {ll : Sl} {zs : List RZ} {H H' : Heap} {p dp : Nat} {s s' : Pl} (h : RPoolG ll zs H p dp s) (hr : RowT H' p ty_fathomref03_Pool (headM dp ll s')) (hm : Mod (fun b => b = p) H H') (hf : s'.fs = s.fs) (hw : s'.WF) : RPoolG ll zs H' p dp s' :=
  ⟨hr, h.frames.keep fun b hb hl => hm.same b hl fun e => RPoolG.off h.head h.frames (e ▸ hb), hf.trans h.fs, hw⟩

/-! ### A frame's cells -/

theorem RFr.ld {H : Heap} {ll : Sl} {zs : List RZ} (h : RFr H ll zs) {i j : Nat} {z : RZ} (hz : zs[i]? = some z) {c : Cod} {y : c.α} (hj : (ERp.enc z)[j]? = some (c.enc y)) {K : c.α → Prop} (hK : K y) :
    optK ll.a fun a => (0 ≤ (i : Int) ∧ (i : Int) < (ll.n : Int)) ∧ Go.Proofs.YtbhddkmfhampbaaGreatDoor.ld c H ((a.add ((i : Int).toNat * 7)).add j) K := by
  have hi := (List.getElem?_eq_some_iff.1 hz).1
  obtain ⟨ad, ha⟩ := RdE.addr h.arr.rd (by decide) (by omega)
  rw [ha]
  refine ⟨⟨by omega, by rw [h.arr.n (by decide)]; omega⟩, ?_⟩
  exact RdE.ld (E := ERp) (c := c) h.arr.rd ha hz hj (by simp [ERp]) hK
/-- A frame's cell is written. -/
theorem RFr.st {H : Heap} {ll : Sl} {zs : List RZ} (h : RFr H ll zs) {i j : Nat} {z z' : RZ} {v : Value} (hz : zs[i]? = some z) (hj : j < 7) (hp : plainV v = true) (hy : ERp.enc z' = (ERp.enc z).set j v) {K : Heap → Prop}
    (hK : ∀ H', SlE ERp ty_fathomref03_Frame H' ll (zs.set i z') → Mod (ownB ll) H H' → H'.size = H.size → K H') :
    optK ll.a fun a => (0 ≤ (i : Int) ∧ (i : Int) < (ll.n : Int)) ∧ Go.Proofs.YtbhddkmfhampbaaGreatDoor.st H ((a.add ((i : Int).toNat * 7)).add j) v K := by
  have hi := (List.getElem?_eq_some_iff.1 hz).1
  obtain ⟨ad, ha⟩ := RdE.addr h.arr.rd (by decide) (by omega)
  rw [ha]
  refine ⟨⟨by omega, by rw [h.arr.n (by decide)]; omega⟩, ?_⟩
  exact SlE.st (E := ERp) h.arr ha hz hj hp hy (by simp [ERp]) hK
/-- A frame is turned. -/
theorem RFr.set {H H' : Heap} {ll : Sl} {zs : List RZ} (h : RFr H ll zs) {i : Nat} {z z' : RZ} (hz : zs[i]? = some z) (harr : SlE ERp ty_fathomref03_Frame H' ll (zs.set i z')) (he : SlE EI ty_int H' z'.2 z'.1.pins)
    (hm : ∀ u ∈ zs, ∀ b, ownB u.2 b → ¬ ownB z.2 b → b < H.size → H'[b]? = H[b]?) (ho : ∀ b, ownB z'.2 b → ownB z.2 b ∨ H.size ≤ b) :
    RFr H' ll (zs.set i z') ∧ ∀ b, rpp ll (zs.set i z') b → rpp ll zs b ∨ H.size ≤ b := by
  have hil := (List.getElem?_eq_some_iff.1 hz).1
  refine ⟨⟨harr, fun u hu => ?_, ?_⟩, ?_⟩
  · rcases mem_set' hu with ⟨j, hji, hj⟩ | rfl
    · have hum := List.mem_of_getElem? hj
      exact (h.ent u hum).keep fun b hb hl => hm u hum b hb (fun q => h.apart j i u z hj hz hji b hb q) hl
    · exact he
  · intro a c u v h1 h2 hac b hb1 hb2
    rw [List.getElem?_set] at h1 h2
    by_cases hia : i = a
    · subst hia
      rw [if_neg hac] at h2
      rw [if_pos rfl, if_pos hil] at h1
      cases h1
      rcases ho b hb1 with q | q
      · exact h.apart i c z v hz h2 hac b q hb2
      · have := (h.ent v (List.mem_of_getElem? h2)).lt b hb2; omega
    · rw [if_neg hia] at h1
      by_cases hic : i = c
      · subst hic
        rw [if_pos rfl, if_pos hil] at h2
        cases h2
        rcases ho b hb2 with q | q
        · exact h.apart a i u z h1 hz hac b hb1 q
        · have := (h.ent u (List.mem_of_getElem? h1)).lt b hb1; omega
      · rw [if_neg hic] at h2
        exact h.apart a c u v h1 h2 hac b hb1 hb2
  · rintro b (q | ⟨u, hu, q⟩)
    · exact .inl (.inl q)
    · rcases mem_set' hu with ⟨j, _, hj⟩ | rfl
      · exact .inl (.inr ⟨u, List.mem_of_getElem? hj, q⟩)
      · exact (ho b q).imp (fun r => .inr ⟨z, List.mem_of_getElem? hz, r⟩) id

end Go.Proofs.YtbhddkmfhampbaaGreatDoor
