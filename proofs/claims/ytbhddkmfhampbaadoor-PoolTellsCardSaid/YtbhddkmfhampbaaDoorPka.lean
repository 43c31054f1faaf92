/-
  The pool in memory: its frames and its two maps.
-/
import Derived.Test.YtbhddkmfhampbaaDoorPgb
import Derived.Test.YtbhddkmfhampbaaDoorFxo
import Derived.Test.YtbhddkmfhampbaaDoorPlm
namespace Go.Proofs.YtbhddkmfhampbaaDoor
open Go.MapKept

/-- A frame's places. -/
structure FrG where
  p : Nat
  b : Sl
def FrG.fp (g : FrG) (b : Nat) : Prop := b = g.p ∨ ownB g.b b
def frC (g : FrG) (f : Fr) : Array Value := #[.string f.name, .int .i64 (f.page : Int), .int .u8 (f.kind.toNat : Int), g.b.v, .bool f.dirty, .int .i64 (f.pins.length : Int), .int .i64 f.left]
structure FrAt (H : Heap) (g : FrG) (f : Fr) : Prop where
  row : RowT H g.p ty_pool_frame (frC g f)
  b : SlE EB ty_uint8 H g.b f.b

theorem FrAt.lt {H : Heap} {g : FrG} {f : Fr} (h : FrAt H g f) : ∀ b, g.fp b → b < H.size := by
  rintro b (rfl | hb)
  · exact obj_lt h.row
  · exact h.b.lt b hb
theorem FrAt.keep {H H' : Heap} {g : FrG} {f : Fr} (h : FrAt H g f) (k : ∀ b, g.fp b → b < H.size → H'[b]? = H[b]?) : FrAt H' g f :=
  ⟨(k _ (.inl rfl) (obj_lt h.row)).trans h.row, h.b.keep fun b hb => k b (.inr hb)⟩
theorem FrAt.obj {H : Heap} {g : FrG} {f : Fr} (h : FrAt H g f) : ∀ b, g.fp b → ∃ cs t, H[b]? = some (.cells cs t (0, 0)) ∧ (t = ty_pool_frame ∨ t = ty_uint8) := by
  rintro b (rfl | hb)
  · exact ⟨_, _, h.row, .inl rfl⟩
  · obtain ⟨c, q⟩ := h.b.obj b hb; exact ⟨c, _, q, .inr rfl⟩

def keyV (n : ByteArray) (g : Int) : Value := .agg #[.string n, .int .i64 g]
theorem keyV_inj {n m : ByteArray} {g k : Int} (h : keyV n g = keyV m k) : n = m ∧ g = k := by
  unfold keyV at h
  simp at h
  exact h
abbrev FZ := Fr × FrG
def kvF (zs : List FZ) : List (Value × Value) := zs.map fun z => (keyV z.1.name (z.1.page : Int), ptrV z.2.p)
def kvP (z : FZ) : List (Value × Value) := z.1.pins.map fun h => (Value.int .i64 h, ptrV z.2.p)
def kvH (zs : List FZ) : List (Value × Value) := zs.flatMap kvP

/-- A pool's places. -/
structure PG where
  mf : Nat
  ef : Array MapEntry
  cf : Nat
  mh : Nat
  eh : Array MapEntry
  ch : Nat
  zs : List FZ
def PG.fs (x : PG) : List Fr := x.zs.map (·.1)
def PG.fp (x : PG) (b : Nat) : Prop := b = x.mf ∨ b = x.mh ∨ ∃ z ∈ x.zs, z.2.fp b

/-- Is 'kt' a struct of a text and an integer? -/
def spotB (P : Program) (kt : TypeId) : Bool :=
  match P.underlying kt with
  | some (.struct fs) => (match fs.toList with
    | [f0, f1] => (match P.underlying f0.type with | some .string => true | _ => false) && (match P.underlying f1.type with | some (.int .i64) => true | _ => false)
      && Nat.beq f0.offset 0 && Nat.beq f1.offset 1 && Nat.beq (P.cellsOf f0.type) 1 && Nat.beq (P.cellsOf f1.type) 1 && (f0.name != "_") && (f1.name != "_") && Nat.beq (P.cellsOf kt) 2 && P.keyType kt && Nat.blt 0 P.types.size
    | _ => false)
  | _ => false
theorem spot_key {P : Program} {kt : TypeId} (h : spotB P kt = true) {n : ByteArray} {g : Int} (hn : n.size ≤ 9223372036854775807) (h0 : -9223372036854775808 ≤ g) (h1 : g ≤ 9223372036854775807) : KeyW P kt (keyV n g) := by
  unfold spotB at h
  split at h
  · rename_i fs hu
    split at h
    · rename_i f0 f1 hfs
      simp only [Bool.and_eq_true, bne_iff_ne, ne_eq] at h
      obtain ⟨⟨⟨⟨⟨⟨⟨⟨⟨⟨a1, a2⟩, a3⟩, a4⟩, a5⟩, a6⟩, a7⟩, a8⟩, a9⟩, a10⟩, a11⟩ := h
      have e3 := Nat.eq_of_beq_eq_true a3
      have e4 := Nat.eq_of_beq_eq_true a4
      have e5 := Nat.eq_of_beq_eq_true a5
      have e6 := Nat.eq_of_beq_eq_true a6
      have e9 := Nat.eq_of_beq_eq_true a9
      have hpos : 0 < P.types.size := blt_t.1 a11
      obtain ⟨m, hm⟩ : ∃ m, P.types.size = m + 1 := ⟨P.types.size - 1, by omega⟩
      split at a1
      · rename_i u0
        split at a2
        · rename_i u1
          have hform : Value.formed P kt (keyV n g) = true := by
            unfold keyV Value.formed
            simp only [hu, e9]
            rfl
          have hwf : (Lit.int .i64 g).wf = true := by
            unfold Lit.wf
            simp only [Bool.and_eq_true, decide_eq_true_eq]
            exact ⟨by show (-9223372036854775808 : Int) ≤ g; exact h0, by show g ≤ (9223372036854775807 : Int); exact h1⟩
          have hall : fs.all (fun f => f.name != "_") = true := by
            rw [← Array.all_toList, hfs]
            simp [a7, a8]
          have l0 : P.keyLits (m + 1) f0.type [.string n] = some [.string n.data.toList] := by
            unfold Program.keyLits
            simp only [u0]
            rw [if_pos (by unfold maxLen; omega)]
          have l1 : P.keyLits (m + 1) f1.type [.int .i64 g] = some [.int .i64 g] := by
            unfold Program.keyLits
            simp only [u1]
            rw [if_pos ⟨trivial, hwf⟩]
          refine ⟨.string (keyBytes [.string n.data.toList, .int .i64 g]), ?_⟩
          unfold Go.keyOf
          simp only [hu]
          rw [if_pos (by rw [a10, hform]; rfl), hm]
          unfold Program.keyLits
          simp only [hu]
          have hc2 : (keyV n g).cells.toList = [.string n, .int .i64 g] := rfl
          rw [hc2, if_pos ⟨by rw [e9]; rfl, hall⟩, hfs]
          simp [List.mapM_cons, e3, e4, e5, e6, l0, l1]
        · cases a2
      · cases a1
    · cases h
  · cases h

theorem keySpot : WideMaps.KeyLaw Tryd.prog ty_pool_spot := Go.deep_law_gate (by kernel_rfl) (Nat.le_of_ble_eq_true (by kernel_rfl)) (Nat.le_of_ble_eq_true (by kernel_rfl)) (by kernel_rfl) (by kernel_rfl)
theorem keyW_spot {n : ByteArray} {g : Int} (hn : n.size ≤ 9223372036854775807) (h0 : -9223372036854775808 ≤ g) (h1 : g ≤ 9223372036854775807) : KeyW Tryd.prog ty_pool_spot (keyV n g) := spot_key (by kernel_rfl) hn h0 h1

/-- The frames of a pool. -/
structure FramesAt (H : Heap) (x : PG) : Prop where
  fmap : MapW Tryd.prog ty_pool_spot H x.mf x.ef x.cf
  hmap : MapAt (.int .i64) H x.mh x.eh x.ch
  ne : x.mf ≠ x.mh
  size : x.ef.size = x.zs.length
  entF : ∀ k v, HasE x.ef k v ↔ (k, v) ∈ kvF x.zs
  entH : ∀ k v, HasE x.eh k v ↔ (k, v) ∈ kvH x.zs
  each : ∀ z ∈ x.zs, FrAt H z.2 z.1
  apart : ∀ (i j : Nat) (z z' : FZ), x.zs[i]? = some z → x.zs[j]? = some z' → i ≠ j → ∀ b, z.2.fp b → ¬ z'.2.fp b

theorem FramesAt.lt {H : Heap} {x : PG} (h : FramesAt H x) : ∀ b, x.fp b → b < H.size := by
  rintro b (rfl | rfl | ⟨z, hz, hb⟩)
  · exact h.fmap.lt
  · exact h.hmap.lt
  · exact (h.each z hz).lt b hb
theorem FramesAt.keep {H H' : Heap} {x : PG} (h : FramesAt H x) (k : ∀ b, x.fp b → b < H.size → H'[b]? = H[b]?) : FramesAt H' x :=
  ⟨⟨(k _ (.inl rfl) h.fmap.lt).trans h.fmap.obj, h.fmap.stamped, h.fmap.keys⟩, h.hmap.keep (k _ (.inr (.inl rfl)) h.hmap.lt), h.ne, h.size, h.entF, h.entH,
    fun z hz => (h.each z hz).keep fun b hb => k b (.inr (.inr ⟨z, hz, hb⟩)), h.apart⟩
/-- A block of a frame is no map. -/
theorem FramesAt.off {H : Heap} {x : PG} (h : FramesAt H x) {z : FZ} (hz : z ∈ x.zs) : ¬ z.2.fp x.mf ∧ ¬ z.2.fp x.mh := by
  constructor
  · intro hb
    obtain ⟨cs, t, e, _⟩ := (h.each z hz).obj _ hb
    rw [h.fmap.obj] at e; cases e
  · intro hb
    obtain ⟨cs, t, e, _⟩ := (h.each z hz).obj _ hb
    rw [h.hmap.obj] at e; cases e
theorem FramesAt.at {H : Heap} {x : PG} (_h : FramesAt H x) {i : Nat} {f : Fr} (hf : x.fs[i]? = some f) : ∃ g, x.zs[i]? = some (f, g) := by
  unfold PG.fs at hf
  rw [List.getElem?_map, Option.map_eq_some_iff] at hf
  obtain ⟨⟨f', g⟩, h1, rfl⟩ := hf
  exact ⟨g, h1⟩

theorem mem_set' {α : Type} {l : List α} {i : Nat} {a y : α} (hy : y ∈ l.set i a) : (∃ j, j ≠ i ∧ l[j]? = some y) ∨ y = a := by
  obtain ⟨j, hj⟩ := List.mem_iff_getElem?.1 hy
  by_cases e : i = j
  · subst e
    have hl : i < l.length := by have := (List.getElem?_eq_some_iff.1 hj).1; simpa using this
    rw [List.getElem?_set, if_pos rfl, if_pos hl] at hj; cases hj; exact .inr rfl
  · rw [List.getElem?_set, if_neg e] at hj; exact .inl ⟨j, fun q => e q.symm, hj⟩
theorem set_apart {H : Heap} {x : PG} (h : FramesAt H x) {i : Nat} {z z' : FZ} (hz : x.zs[i]? = some z) (hb : ∀ b, z'.2.fp b → z.2.fp b ∨ H.size ≤ b) :
    ∀ (a c : Nat) (u v : FZ), (x.zs.set i z')[a]? = some u → (x.zs.set i z')[c]? = some v → a ≠ c → ∀ b, u.2.fp b → ¬ v.2.fp b := by
  have hil := (List.getElem?_eq_some_iff.1 hz).1
  intro a c u v h1 h2 hac b hb1 hb2
  rw [List.getElem?_set] at h1 h2
  by_cases hia : i = a
  · subst hia
    rw [if_neg hac] at h2
    rw [if_pos rfl, if_pos hil] at h1
    cases h1
    have hbl := (h.each v (List.mem_of_getElem? h2)).lt b hb2
    rcases hb b hb1 with q | q
    · exact h.apart i c z v hz h2 hac b q hb2
    · omega
  · rw [if_neg hia] at h1
    have hbl := (h.each u (List.mem_of_getElem? h1)).lt b hb1
    by_cases hic : i = c
    · subst hic
      rw [if_pos rfl, if_pos hil] at h2
      cases h2
      rcases hb b hb2 with q | q
      · exact h.apart a i u z h1 hz hac b hb1 q
      · omega
    · rw [if_neg hic] at h2
      exact h.apart a c u v h1 h2 hac b hb1 hb2

/-- A frame is turned: its key and its block stay; the handles' map may be another. -/
theorem FramesAt.set {H H' : Heap} {x : PG} (h : FramesAt H x) {i : Nat} {z z' : FZ} {eh' : Array MapEntry} {ch' : Nat} (hz : x.zs[i]? = some z) (hn : z'.1.name = z.1.name) (hpg : z'.1.page = z.1.page) (hp : z'.2.p = z.2.p)
    (hq : FrAt H' z'.2 z'.1) (hh : MapAt (.int .i64) H' x.mh eh' ch') (hent : ∀ k v, HasE eh' k v ↔ (k, v) ∈ kvH (x.zs.set i z'))
    (hm : ∀ b, x.fp b → ¬ z.2.fp b → b ≠ x.mh → b < H.size → H'[b]? = H[b]?) (hb : ∀ b, z'.2.fp b → z.2.fp b ∨ H.size ≤ b) :
    FramesAt H' { x with zs := x.zs.set i z', eh := eh', ch := ch' } ∧ (∀ b, PG.fp { x with zs := x.zs.set i z', eh := eh', ch := ch' } b → x.fp b ∨ H.size ≤ b) := by
  have hzm := List.mem_of_getElem? hz
  have hoff := h.off hzm
  refine ⟨⟨⟨(hm _ (.inl rfl) hoff.1 h.ne h.fmap.lt).trans h.fmap.obj, h.fmap.stamped, h.fmap.keys⟩, hh, h.ne, by simp [h.size], ?_, hent, ?_, set_apart h hz hb⟩, ?_⟩
  · intro k v
    have : kvF (x.zs.set i z') = kvF x.zs := by
      unfold kvF
      rw [show x.zs.set i z' = x.zs.modify i (fun _ => z') from (modify_set (g := fun _ => z') hz).symm]
      exact map_modify_same _ _ _ _ _ hz (by simp only [hn, hpg, hp])
    rw [this]; exact h.entF k v
  · intro u hu
    rcases mem_set' hu with ⟨j, hji, hj⟩ | rfl
    · have hum := List.mem_of_getElem? hj
      exact (h.each u hum).keep fun b hb1 hl => hm b (.inr (.inr ⟨u, hum, hb1⟩)) (fun q => h.apart j i u z hj hz hji b hb1 q) (fun e => (h.off hum).2 (e ▸ hb1)) hl
    · exact hq
  · rintro b (e | e | ⟨u, hu, hb1⟩)
    · exact .inl (.inl e)
    · exact .inl (.inr (.inl e))
    · rcases mem_set' hu with ⟨j, _, hj⟩ | rfl
      · exact .inl (.inr (.inr ⟨u, List.mem_of_getElem? hj, hb1⟩))
      · exact (hb b hb1).imp (fun q => .inr (.inr ⟨z, hzm, q⟩)) id
/-- A frame is turned, its handles stay. -/
theorem FramesAt.turn {H H' : Heap} {x : PG} (h : FramesAt H x) {i : Nat} {z z' : FZ} (hz : x.zs[i]? = some z) (hn : z'.1.name = z.1.name) (hpg : z'.1.page = z.1.page) (hpi : z'.1.pins = z.1.pins) (hp : z'.2.p = z.2.p)
    (hq : FrAt H' z'.2 z'.1) (hm : ∀ b, x.fp b → ¬ z.2.fp b → b < H.size → H'[b]? = H[b]?) (hb : ∀ b, z'.2.fp b → z.2.fp b ∨ H.size ≤ b) :
    FramesAt H' { x with zs := x.zs.set i z' } ∧ (∀ b, PG.fp { x with zs := x.zs.set i z' } b → x.fp b ∨ H.size ≤ b) := by
  have hzm := List.mem_of_getElem? hz
  have hoff := h.off hzm
  refine h.set hz hn hpg hp hq (h.hmap.keep (hm _ (.inr (.inl rfl)) hoff.2 h.hmap.lt)) (fun k v => ?_) (fun b h1 h2 _ h4 => hm b h1 h2 h4) hb
  have : kvH (x.zs.set i z') = kvH x.zs := by
    unfold kvH
    rw [show x.zs.set i z' = x.zs.modify i (fun _ => z') from (modify_set (g := fun _ => z') hz).symm]
    exact flatMap_modify _ _ _ _ _ hz (by simp only [kvP, hpi, hp])
  rw [this]; exact h.entH k v

theorem kvF_append (l r : List FZ) : kvF (l ++ r) = kvF l ++ kvF r := by simp [kvF]
theorem kvH_append (l r : List FZ) : kvH (l ++ r) = kvH l ++ kvH r := by simp [kvH]
theorem kvP_nil {z : FZ} (h : z.1.pins = []) : kvP z = [] := by simp [kvP, h]
/-- A frame more. -/
theorem FramesAt.push {H H' : Heap} {x : PG} (h : FramesAt H x) {z : FZ} {ef' : Array MapEntry} {cf' : Nat} (hq : FrAt H' z.2 z.1) (hp : z.1.pins = []) (hf : MapW Tryd.prog ty_pool_spot H' x.mf ef' cf')
    (hent : ∀ k v, HasE ef' k v ↔ HasE x.ef k v ∨ (k = keyV z.1.name (z.1.page : Int) ∧ v = ptrV z.2.p)) (hs : ef'.size = x.ef.size + 1)
    (hm : ∀ b, x.fp b → b ≠ x.mf → b < H.size → H'[b]? = H[b]?) (hg : ∀ b, z.2.fp b → H.size ≤ b) : FramesAt H' { x with zs := x.zs ++ [z], ef := ef', cf := cf' } := by
  have old : ∀ u ∈ x.zs, FrAt H' u.2 u.1 := fun u hu => (h.each u hu).keep fun b hb hl => hm b (.inr (.inr ⟨u, hu, hb⟩)) (fun e => (h.off hu).1 (e ▸ hb)) hl
  refine ⟨hf, h.hmap.keep (hm _ (.inr (.inl rfl)) h.ne.symm h.hmap.lt), h.ne, by simp [hs, h.size], ?_, ?_, ?_, ?_⟩
  · intro k v
    rw [hent k v, kvF_append, List.mem_append, h.entF k v]
    simp [kvF]
  · intro k v
    rw [kvH_append, h.entH k v]
    simp [kvH, kvP_nil hp]
  · intro u hu
    rcases List.mem_append.1 hu with q | q
    · exact old u q
    · simp at q; subst q; exact hq
  · intro i j u v h1 h2 hij b hb1 hb2
    have ex : ∀ (i : Nat) (u : FZ), (x.zs ++ [z])[i]? = some u → (x.zs[i]? = some u) ∨ (i = x.zs.length ∧ u = z) := by
      intro i u h1
      by_cases hi : i < x.zs.length
      · rw [List.getElem?_append_left hi] at h1; exact .inl h1
      · rw [List.getElem?_append_right (by omega)] at h1
        have : i = x.zs.length := by
          have := (List.getElem?_eq_some_iff.1 h1).1; simp at this; omega
        subst this
        simp at h1
        exact .inr ⟨rfl, h1.symm⟩
    rcases ex i u h1 with q1 | ⟨e1, rfl⟩ <;> rcases ex j v h2 with q2 | ⟨e2, rfl⟩
    · exact h.apart i j u v q1 q2 hij b hb1 hb2
    · have := (h.each u (List.mem_of_getElem? q1)).lt b hb1
      have := hg b hb2; omega
    · have := (h.each v (List.mem_of_getElem? q2)).lt b hb2
      have := hg b hb1; omega
    · omega

theorem erase_back {α : Type} {l : List α} {i j : Nat} {a : α} (ha : (l.eraseIdx i)[j]? = some a) : ∃ j', j' ≠ i ∧ l[j']? = some a ∧ j' = if j < i then j else j + 1 := by
  rw [List.getElem?_eraseIdx] at ha
  split at ha
  · rename_i q; exact ⟨j, by omega, ha, by rw [if_pos q]⟩
  · rename_i q; exact ⟨j + 1, by omega, ha, by rw [if_neg q]⟩
theorem mem_erase {α : Type} {l : List α} {i : Nat} {a : α} : a ∈ l.eraseIdx i ↔ ∃ j, j ≠ i ∧ l[j]? = some a := List.mem_eraseIdx_iff_getElem?
/-- A frame less, of which there is no handle. -/
theorem FramesAt.erase {H H' : Heap} {x : PG} (h : FramesAt H x) {i : Nat} {z : FZ} {ef' : Array MapEntry} (hz : x.zs[i]? = some z) (hp : z.1.pins = []) (hk : (x.fs.map Fr.key).Nodup) (hf : MapW Tryd.prog ty_pool_spot H' x.mf ef' x.cf)
    (hent : ∀ k v, HasE ef' k v ↔ HasE x.ef k v ∧ k ≠ keyV z.1.name (z.1.page : Int)) (hs : ∀ u, HasE x.ef (keyV z.1.name (z.1.page : Int)) u → ef'.size + 1 = x.ef.size)
    (hm : ∀ b, x.fp b → b ≠ x.mf → b < H.size → H'[b]? = H[b]?) : FramesAt H' { x with zs := x.zs.eraseIdx i, ef := ef' } := by
  have old : ∀ u ∈ x.zs, FrAt H' u.2 u.1 := fun u hu => (h.each u hu).keep fun b hb hl => hm b (.inr (.inr ⟨u, hu, hb⟩)) (fun e => (h.off hu).1 (e ▸ hb)) hl
  have hil := (List.getElem?_eq_some_iff.1 hz).1
  have hzm := List.mem_of_getElem? hz
  have hsz := hs _ ((h.entF _ _).2 (List.mem_map.2 ⟨z, hzm, rfl⟩))
  have inj : ∀ (j : Nat) (u : FZ), x.zs[j]? = some u → u.1.name = z.1.name → u.1.page = z.1.page → j = i := by
    intro j u hj e1 e2
    have hjl := (List.getElem?_eq_some_iff.1 hj).1
    refine (List.getElem?_inj (l := x.fs.map Fr.key) (by simpa [PG.fs] using hjl) hk).1 ?_
    simp [PG.fs, hj, hz, Fr.key, e1, e2]
  refine ⟨hf, h.hmap.keep (hm _ (.inr (.inl rfl)) h.ne.symm h.hmap.lt), h.ne, ?_, ?_, ?_, ?_, ?_⟩
  · simp only; rw [List.length_eraseIdx_of_lt hil]; have := h.size; omega
  · intro k v
    rw [hent k v, h.entF k v]
    unfold kvF
    simp only [List.mem_map]
    constructor
    · rintro ⟨⟨u, hu, e⟩, hne⟩
      refine ⟨u, ?_, e⟩
      obtain ⟨j, hj⟩ := List.mem_iff_getElem?.1 hu
      refine mem_erase.2 ⟨j, fun q => ?_, hj⟩
      subst q; rw [hz] at hj; cases hj
      simp only [Prod.mk.injEq] at e
      exact hne e.1.symm
    · rintro ⟨u, hu, e⟩
      obtain ⟨j, hji, hj⟩ := mem_erase.1 hu
      refine ⟨⟨u, List.mem_of_getElem? hj, e⟩, fun q => hji ?_⟩
      simp only [Prod.mk.injEq] at e
      have := keyV_inj (e.1.trans q)
      exact inj j u hj this.1 (by omega)
  · intro k v
    rw [h.entH k v]
    unfold kvH
    simp only [List.mem_flatMap]
    constructor
    · rintro ⟨u, hu, e⟩
      refine ⟨u, ?_, e⟩
      obtain ⟨j, hj⟩ := List.mem_iff_getElem?.1 hu
      refine mem_erase.2 ⟨j, fun q => ?_, hj⟩
      subst q; rw [hz] at hj; cases hj
      rw [kvP_nil hp] at e; cases e
    · rintro ⟨u, hu, e⟩
      obtain ⟨j, hji, hj⟩ := mem_erase.1 hu
      exact ⟨u, List.mem_of_getElem? hj, e⟩
  · intro u hu
    exact old u (List.mem_of_mem_eraseIdx hu)
  · intro a c u v h1 h2 hac
    obtain ⟨j1, n1, q1, e1⟩ := erase_back h1
    obtain ⟨j2, n2, q2, e2⟩ := erase_back h2
    refine h.apart j1 j2 u v q1 q2 ?_
    rw [e1, e2]
    split <;> split <;> omega

/-- What stands at the head of a pool. -/
def headP (dp : Nat) (x : PG) (s : Pl) : Array Value := #[ptrV dp, .int .i64 (s.most : Int), .map (some x.mf), .map (some x.mh), .int .i64 s.next, .int .i64 s.tick, .int .i64 (s.peak : Int), .int .i64 s.wrong]
structure PoolG (x : PG) (H : Heap) (p dp : Nat) (s : Pl) : Prop where
  head : RowT H p ty_pool_Pool (headP dp x s)
  frames : FramesAt H x
  fs : s.fs = x.fs
  wf : s.WF
def PG.all (x : PG) (p b : Nat) : Prop := b = p ∨ x.fp b
theorem PoolG.off {x : PG} {H : Heap} {p : Nat} {cs : Array Value} (hd : RowT H p ty_pool_Pool cs) (h : FramesAt H x) : ¬ x.fp p := by
  rintro (e | e | ⟨z, hz, hb⟩)
  · have := h.fmap.obj; rw [← e, hd] at this; cases this
  · have := h.hmap.obj; rw [← e, hd] at this; cases this
  · obtain ⟨c, t, e, ht⟩ := (h.each z hz).obj _ hb
    have := cells_ty hd e
    rw [← this] at ht
    exact absurd ht (by decide)
theorem PoolG.lt {x : PG} {H : Heap} {p dp : Nat} {s : Pl} (h : PoolG x H p dp s) : ∀ b, x.all p b → b < H.size := by
  rintro b (rfl | hb)
  · exact obj_lt h.head
  · exact h.frames.lt b hb
theorem PoolG.keep {x : PG} {H H' : Heap} {p dp : Nat} {s : Pl} (h : PoolG x H p dp s) (k : ∀ b, x.all p b → b < H.size → H'[b]? = H[b]?) : PoolG x H' p dp s :=
  ⟨(k p (.inl rfl) (obj_lt h.head)).trans h.head, h.frames.keep fun b hb => k b (.inr hb), h.fs, h.wf⟩
theorem PoolG.setD {x : PG} {H : Heap} {p dp : Nat} {s : Pl} (h : PoolG x H p dp s) (d : Dk) : PoolG x H p dp (s.setD d) := ⟨h.head, h.frames, h.fs, h.wf.setD d⟩
theorem PoolG.at {x : PG} {H : Heap} {p dp : Nat} {s : Pl} (h : PoolG x H p dp s) {i : Nat} {f : Fr} (hf : s.fs[i]? = some f) : ∃ g, x.zs[i]? = some (f, g) ∧ FrAt H g f := by
  rw [h.fs] at hf
  obtain ⟨g, hg⟩ := h.frames.at hf
  exact ⟨g, hg, h.frames.each _ (List.mem_of_getElem? hg)⟩
theorem PoolG.n {x : PG} {H : Heap} {p dp : Nat} {s : Pl} (h : PoolG x H p dp s) : x.ef.size = s.fs.length := by rw [h.fs, h.frames.size]; simp [PG.fs]

/-- A pool and its disk. -/
structure PoolD (x : PG) (D : Nat → Prop) (H : Heap) (p dp : Nat) (s : Pl) : Prop where
  pool : PoolG x H p dp s
  disk : DiskAt D H dp s.d
  apart : ∀ b, D b → ¬ x.all p b
  glob : ¬ D gSteps ∧ ¬ x.all p gSteps
/-- At block 'p' lies the pool 's', over the disk at block 'dp', in the blocks 'F'. -/
def PoolAt (F : Nat → Prop) (H : Heap) (p dp : Nat) (s : Pl) : Prop := ∃ x D, PoolD x D H p dp s ∧ ∀ b, F b ↔ D b ∨ x.all p b

theorem PoolD.lt {x : PG} {D : Nat → Prop} {H : Heap} {p dp : Nat} {s : Pl} (h : PoolD x D H p dp s) : ∀ b, D b ∨ x.all p b → b < H.size := by
  rintro b (hb | hb)
  · exact h.disk.lt b hb
  · exact h.pool.lt b hb
theorem PoolAt.lt {F : Nat → Prop} {H : Heap} {p dp : Nat} {s : Pl} (h : PoolAt F H p dp s) : ∀ b, F b → b < H.size := by
  obtain ⟨x, D, g, hF⟩ := h
  exact fun b hb => g.lt b ((hF b).1 hb)
theorem PoolAt.keep {F : Nat → Prop} {H H' : Heap} {p dp : Nat} {s : Pl} (h : PoolAt F H p dp s) (k : ∀ b, F b → b < H.size → H'[b]? = H[b]?) : PoolAt F H' p dp s := by
  obtain ⟨x, D, g, hF⟩ := h
  exact ⟨x, D, ⟨g.pool.keep fun b hb => k b ((hF b).2 (.inr hb)), g.disk.keep fun b hb => k b ((hF b).2 (.inl hb)), g.apart, g.glob⟩, hF⟩
theorem PoolAt.wf {F : Nat → Prop} {H : Heap} {p dp : Nat} {s : Pl} (h : PoolAt F H p dp s) : s.WF := by obtain ⟨x, D, g, hF⟩ := h; exact g.pool.wf
theorem PoolAt.dwf {F : Nat → Prop} {H : Heap} {p dp : Nat} {s : Pl} (h : PoolAt F H p dp s) : s.d.WF := by obtain ⟨x, D, g, hF⟩ := h; exact g.disk.wf

/-- Two owners side by side: the one makes a step. -/
theorem Step.side {D D' P : Nat → Prop} {H H' : Heap} (h : Step D D' H H') (ha : ∀ b, D b → ¬ P b) (hl : ∀ b, P b → b < H.size) : (∀ b, D' b → ¬ P b) ∧ Step (fun b => D b ∨ P b) (fun b => D' b ∨ P b) H H' := by
  refine ⟨fun b hb hp => ?_, h.mod.mono fun b _ q => .inl q, ?_⟩
  · rcases h.own b hb with q | q
    · exact ha b q hp
    · have := hl b hp; omega
  · rintro b (q | q)
    · exact (h.own b q).imp .inl id
    · exact .inl (.inr q)
/-- The disk of a pool makes a step. -/
theorem PoolD.stepD {x : PG} {D D' : Nat → Prop} {H H' : Heap} {p dp : Nat} {s : Pl} {d : Dk} (hg : Gl H) (h : PoolD x D H p dp s) (hd : DiskAt D' H' dp d) (hs : Step D D' H H') :
    PoolD x D' H' p dp (s.setD d) ∧ Step (fun b => D b ∨ x.all p b) (fun b => D' b ∨ x.all p b) H H' := by
  obtain ⟨q1, q2⟩ := hs.side h.apart h.pool.lt
  exact ⟨⟨(h.pool.keep fun b hb hl => hs.mod.same b hl fun q => h.apart b q hb).setD d, hd, q1, fun q => by
    rcases hs.own _ q with r | r
    · exact h.glob.1 r
    · have := hg.lt; omega, h.glob.2⟩, q2⟩
/-- The pool itself makes a step. -/
theorem PoolD.stepP {x x' : PG} {D : Nat → Prop} {H H' : Heap} {p dp : Nat} {s s' : Pl} (hg : Gl H) (h : PoolD x D H p dp s) (hp : PoolG x' H' p dp s') (hd : s'.d = s.d) (hm : Mod (x.all p) H H') (ho : ∀ b, x'.fp b → x.fp b ∨ H.size ≤ b) :
    PoolD x' D H' p dp s' ∧ Step (fun b => D b ∨ x.all p b) (fun b => D b ∨ x'.all p b) H H' := by
  have hl := h.disk.lt
  refine ⟨⟨hp, by rw [hd]; exact h.disk.keep fun b hb hbl => hm.same b hbl (h.apart b hb), ?_, h.glob.1, ?_⟩, hm.mono fun b _ q => .inr q, ?_⟩
  · rintro b hb (q | q)
    · exact h.apart b hb (.inl q)
    · rcases ho b q with r | r
      · exact h.apart b hb (.inr r)
      · have := hl b hb; omega
  · rintro (q | q)
    · exact h.glob.2 (.inl q)
    · rcases ho _ q with r | r
      · exact h.glob.2 (.inr r)
      · have := hg.lt; omega
  · rintro b (q | q | q)
    · exact .inl (.inl q)
    · exact .inl (.inr (.inl q))
    · exact (ho b q).imp (fun r => .inr (.inr r)) id
theorem PoolAt.glob {F : Nat → Prop} {H : Heap} {p dp : Nat} {s : Pl} (h : PoolAt F H p dp s) : ¬ F gSteps := by
  obtain ⟨x, D, g, hF⟩ := h
  intro q
  rcases (hF _).1 q with r | r
  · exact g.glob.1 r
  · exact g.glob.2 r
theorem PoolD.gl {x : PG} {D : Nat → Prop} {H H' : Heap} {p dp : Nat} {s : Pl} (hg : Gl H) (h : PoolD x D H p dp s) (hm : Mod (fun b => D b ∨ x.all p b) H H') : Gl H' :=
  hg.mod hm fun r => r.elim h.glob.1 h.glob.2
/-- The end of a call. -/
theorem PoolD.out {x x' : PG} {D D' : Nat → Prop} {F : Nat → Prop} {H H' : Heap} {p dp : Nat} {s : Pl} (h : PoolD x' D' H' p dp s) (hF : ∀ b, F b ↔ D b ∨ x.all p b) (hs : Step (fun b => D b ∨ x.all p b) (fun b => D' b ∨ x'.all p b) H H') :
    ∃ F', PoolAt F' H' p dp s ∧ Step F F' H H' :=
  ⟨fun b => D' b ∨ x'.all p b, ⟨x', D', h, fun _ => Iff.rfl⟩, hs.mod.mono fun b _ q => (hF b).2 q, fun b hb => (hs.own b hb).imp (hF b).2 id⟩

end Go.Proofs.YtbhddkmfhampbaaDoor
