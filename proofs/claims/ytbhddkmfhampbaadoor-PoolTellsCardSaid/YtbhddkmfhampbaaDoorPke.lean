/-
  The pool: made; a page looked up, read, pinned; a page more.
-/
import Derived.Test.YtbhddkmfhampbaaDoorPkd
namespace Go.Proofs.YtbhddkmfhampbaaDoor
open Go.MapKept

theorem PoolD.ext {x : PG} {D : Nat → Prop} {H H' : Heap} {p dp : Nat} {s : Pl} (h : PoolD x D H p dp s) (e : Ext H H') : PoolD x D H' p dp s :=
  ⟨h.pool.keep fun b _ hl => e.same b hl id, h.disk.keep fun b _ hl => e.same b hl id, h.apart, h.glob⟩
theorem Step.ext {F : Nat → Prop} {H H' : Heap} (e : Ext H H') : Step F F H H' := ⟨Ext.mod e, fun _ q => .inl q⟩
/-- What is laid behind may go with the step. -/
theorem Step.behind {F G : Nat → Prop} {A B C : Heap} (h : Step F G A B) (e : Ext B C) : Step F G A C := h.trans (Step.ext e)

theorem PoolNew_ok {D : Nat → Prop} {H : Heap} {dp : Nat} {d : Dk} {m : Nat} {K : (Option Addr × Int) → Heap → Prop} (hg : Gl H) (hd : DiskAt D H dp d) (hD : ¬ D gSteps) (h8 : 8 ≤ m) (hm : m ≤ 4096)
    (hK : ∀ F p H', PoolAt F H' p dp (pl0 d m) → Ext H H' → (∀ b, F b → D b ∨ H.size ≤ b) → K (at0 p, 0) H') : pool_New.sp (at0 dp) (m : Int) H K := by
  refine pool_New.of ?_
  unfold pool_New.vc
  refine br_f rfl (br_f (by simp; omega) (br_f (by simp; omega) ?_))
  refine newM_map (d := .int .i64) fun H1 s1 m1 e1 => ?_
  refine newM_map (d := .int .i64) fun H2 s2 m2 e2 => ?_
  refine newC_rowT fun H3 s3 r3 e3 => ?_
  have hl := hd.lt
  have hgl := hg.lt
  have e03 : Ext H H3 := (e1.trans e2).trans e3
  have hx : PoolG ⟨H.size, #[], 0, H1.size, #[], 0, []⟩ H3 H2.size dp (pl0 d m) := by
    refine ⟨r3, ⟨?_, ?_, by simp only; omega, rfl, ?_, ?_, by simp, by simp⟩, rfl, pl0_wf h8 hm⟩
    · exact ⟨(e2.trans e3).at m1.obj id, stamped_empty 0, by simp⟩
    · exact m2.keep (e3.same _ m2.lt id)
    · intro k v
      constructor
      · rintro ⟨e, he, _⟩; simp at he
      · intro q; simp [kvF] at q
    · intro k v
      constructor
      · rintro ⟨e, he, _⟩; simp at he
      · intro q; simp [kvH] at q
  have hall : ∀ b, PG.all ⟨H.size, #[], 0, H1.size, #[], 0, []⟩ H2.size b → H.size ≤ b := by
    rintro b (e | e | e | ⟨z, hz, _⟩)
    · omega
    · simp only at e; omega
    · simp only at e; omega
    · simp at hz
  refine hK _ H2.size H3 ⟨_, D, ⟨hx, hd.keep fun b _ hl => e03.same b hl id, fun b hb hx => ?_, hD, fun hx => ?_⟩, fun b => Iff.rfl⟩ e03 ?_
  · have := hall b hx; have := hl b hb; omega
  · have := hall _ hx; omega
  · rintro b (q | q)
    · exact .inl q
    · exact .inr (hall b q)
theorem PoolNew_nil {fr : Int} {H : Heap} {K : (Option Addr × Int) → Heap → Prop} (hK : K (none, 1) H) : pool_New.sp none fr H K := by
  refine pool_New.of ?_
  unfold pool_New.vc
  exact br_t rfl hK
theorem PoolNew_bad {dp : Nat} {fr : Int} {H : Heap} {K : (Option Addr × Int) → Heap → Prop} (hf : fr < 8 ∨ 4096 < fr) (hK : K (none, if fr < 8 then 30 else 3) H) : pool_New.sp (at0 dp) fr H K := by
  refine pool_New.of ?_
  unfold pool_New.vc
  refine br_f rfl (br_mk (fun h => ?_) (fun h => ?_))
  · rw [if_pos (by simpa using h)] at hK; exact hK
  · have h' : ¬ fr < 8 := by simpa using h
    rw [if_neg h'] at hK
    exact br_t (by simp; omega) hK

/-! ### Looking up -/

theorem lookF_ok {x : PG} {H : Heap} {p dp : Nat} {s : Pl} {n : ByteArray} {k : Int} {K : (Option Addr × Bool) → Prop} (h : PoolG x H p dp s) (hn : n.size ≤ 9223372036854775807) (h0 : -9223372036854775808 ≤ k) (h1 : k ≤ 9223372036854775807)
    (hF : ∀ i f g, s.find n k = some i → x.zs[i]? = some (f, g) → f.name = n → (f.page : Int) = k → K (at0 g.p, true)) (hN : s.find n k = none → K (none, false)) :
    rdV (cTup [cPtr, cBool]) Tryd.prog (Instr.lookup ty_maparr_pool_spot_ptr_pool_frame (.map (some x.mf)) (.agg #[(.string n), (.int .i64 k)]) true) H K := by
  obtain ⟨et, inf, hu, hi, hz⟩ := mapSpot
  refine rdV_lookupW (k := keyV n k) hu keySpot hi hz h.frames.fmap (keyW_spot hn h0 h1) ?_ ?_
  · intro v hv
    obtain ⟨z, hzm, e⟩ := List.mem_map.1 ((h.frames.entF _ _).1 hv)
    simp only [Prod.mk.injEq] at e
    obtain ⟨e1, e2⟩ := keyV_inj e.1
    obtain ⟨i, hi⟩ := List.mem_iff_getElem?.1 hzm
    have hfs : s.fs[i]? = some z.1 := by rw [h.fs]; simp [PG.fs, hi]
    refine ⟨(at0 z.2.p, true), by rw [← e.2]; rfl, hF i z.1 z.2 ?_ hi e1 e2⟩
    rw [← e1, ← e2]
    exact Pl.find_eq h.wf hfs
  · intro hno
    refine ⟨(none, false), rfl, hN ?_⟩
    cases hx : s.find n k with
    | none => rfl
    | some i =>
      obtain ⟨f, hf, e1, e2⟩ := Pl.find_some hx
      obtain ⟨g, hg, _⟩ := h.at hf
      refine absurd ((h.frames.entF (keyV n k) (ptrV g.p)).2 (List.mem_map.2 ⟨(f, g), List.mem_of_getElem? hg, ?_⟩)) (hno _)
      simp only [e1, e2]
theorem lookH_ok {x : PG} {H : Heap} {p dp : Nat} {s : Pl} {k : Int} {K : (Option Addr × Bool) → Prop} (h : PoolG x H p dp s)
    (hF : ∀ i f g, s.held k = some i → x.zs[i]? = some (f, g) → k ∈ f.pins → K (at0 g.p, true)) (hN : s.held k = none → K (none, false)) :
    rdV (cTup [cPtr, cBool]) Tryd.prog (Instr.lookup ty_maparr_int_ptr_pool_frame (.map (some x.mh)) (.int .i64 k) true) H K := by
  obtain ⟨et, inf, hu, hd, hi, hz⟩ := mapHand
  refine rdV_lookup hu hd hi hz h.frames.hmap (k := .int .i64 k) (show IntKind.i64 = IntKind.i64 from rfl) ?_ ?_
  · intro v hv
    obtain ⟨z, hzm, hk⟩ := List.mem_flatMap.1 ((h.frames.entH _ _).1 hv)
    obtain ⟨q, hq, e⟩ := List.mem_map.1 hk
    simp only [Prod.mk.injEq, Value.int.injEq, true_and] at e
    obtain ⟨i, hi⟩ := List.mem_iff_getElem?.1 hzm
    have hfs : s.fs[i]? = some z.1 := by rw [h.fs]; simp [PG.fs, hi]
    rw [e.1] at hq
    exact ⟨(at0 z.2.p, true), by rw [← e.2]; rfl, hF i z.1 z.2 (Pl.held_eq h.wf hfs hq) hi hq⟩
  · intro hno
    refine ⟨(none, false), rfl, hN ?_⟩
    cases hx : s.held k with
    | none => rfl
    | some i =>
      obtain ⟨f, hf, hm⟩ := Pl.held_some hx
      obtain ⟨g, hg, _⟩ := h.at hf
      exact absurd ((h.frames.entH (.int .i64 k) (ptrV g.p)).2 (List.mem_flatMap.2 ⟨(f, g), List.mem_of_getElem? hg, List.mem_map.2 ⟨k, hm, rfl⟩⟩)) (hno _)

/-! ### A page is read -/

theorem Dk.len_le {s : Dk} (h : s.WF) (n : ByteArray) : (s.len n).1 ≤ 1048576 := by
  have h1 := h.used; have h2 := h.most; have h3 := h.quota
  unfold Dk.len
  split
  · rename_i i e hi
    have : (s.file i).pages.length ≤ s.used := by
      unfold Dk.open at hi
      split at hi
      · cases hi
      · split at hi
        · rename_i j hj
          cases hi
          obtain ⟨f, hf, _⟩ := Dk.idx_some hj
          rw [Dk.file_eq hf]; exact Dk.pages_le hf
        · cases hi
    show (s.file i).pages.length ≤ _
    omega
  · exact Nat.zero_le _
theorem Dk.read_len (s : Dk) (n : ByteArray) (k : Int) : (s.read n k).1.length ≤ 512 ∧ ((s.read n k).2 = 0 → (s.read n k).1.length = 512) := by
  unfold Dk.read Dk.open
  split
  · rename_i i e hi
    split
    · exact ⟨by simp, fun q => by cases q⟩
    · split
      · rename_i pg _; exact ⟨by rw [pg.2]; exact Nat.le_refl _, fun _ => pg.2⟩
      · exact ⟨by simp, fun q => by cases q⟩
  · rename_i e hi
    refine ⟨by simp, fun q => ?_⟩
    split at hi
    · simp at hi; subst hi; cases q
    · split at hi
      · cases hi
      · simp at hi; subst hi; cases q

theorem Pl.room_keys (s : Pl) : ∀ f ∈ s.room.1.fs, ∃ f' ∈ s.fs, f'.key = f.key := by
  have hput : ∀ i, ∀ f ∈ (s.put i).1.fs, ∃ f' ∈ s.fs, f'.key = f.key := by
    intro i f hf
    unfold Pl.put at hf
    split at hf
    · have hf : f ∈ s.fs.modify i Fr.clean := hf
      obtain ⟨j, hj⟩ := List.mem_iff_getElem?.1 hf
      rw [List.getElem?_modify] at hj
      cases hx : s.fs[j]? with
      | none => rw [hx] at hj; cases hj
      | some y =>
        rw [hx] at hj
        have hj' : (if i = j then y.clean else y) = f := Option.some.inj hj
        refine ⟨y, List.mem_of_getElem? hx, ?_⟩
        rw [← hj']; split <;> rfl
    · exact ⟨f, hf, rfl⟩
  intro f hf
  unfold Pl.room at hf
  split at hf
  · exact ⟨f, hf, rfl⟩
  · split at hf
    · exact ⟨f, hf, rfl⟩
    · rename_i i _
      split at hf
      · split at hf
        · exact hput i f (List.mem_of_mem_eraseIdx hf)
        · exact hput i f hf
      · exact ⟨f, List.mem_of_mem_eraseIdx hf, rfl⟩
theorem Pl.find_none_of {s : Pl} {n : ByteArray} {k : Int} (h : ∀ f ∈ s.fs, f.name = n → (f.page : Int) ≠ k) : s.find n k = none := by
  unfold Pl.find
  rw [List.findIdx?_eq_none_iff]
  intro f hf
  cases hq : f.name.toList == n.toList with
  | false => rfl
  | true =>
    have := h f hf (ba_eq (by simpa using hq))
    show (true && decide ((f.page : Int) = k)) = false
    rw [Bool.true_and]; exact decide_eq_false this
theorem Pl.room_find {s : Pl} {n : ByteArray} {k : Int} (h : s.find n k = none) : s.room.1.find n k = none := by
  refine Pl.find_none_of fun f hf e1 e2 => ?_
  obtain ⟨f', hf', hk⟩ := s.room_keys f hf
  have h1 : f'.name = f.name := congrArg Prod.fst hk
  have h2 : f'.page = f.page := congrArg Prod.snd hk
  exact Pl.find_none h f' hf' (h1.trans e1) (by rw [h2]; exact e2)
theorem Pl.load_some {s : Pl} (hd : s.d.WF) {n : ByteArray} {k : Int} {f : Fr} (h : (s.load n k).2.1 = some f) :
    (s.load n k).1 = s.room.1 ∧ (s.load n k).2.2 = 0 ∧ s.room.2 = 0 ∧ f.name = n ∧ (f.page : Int) = k ∧ f.b.length ≤ 504 ∧ f.pins = [] ∧ f.left = 0 ∧ f.page < 1048577 := by
  have hl := Dk.len_le hd n
  unfold Pl.load at h ⊢
  by_cases h1 : (s.d.len n).2 ≠ 0
  · rw [if_pos h1] at h; cases h
  rw [if_neg h1] at h ⊢
  by_cases h2 : k < 0 ∨ k ≥ ((s.d.len n).1 : Int)
  · rw [if_pos h2] at h; cases h
  rw [if_neg h2] at h ⊢
  by_cases h3 : s.room.2 ≠ 0
  · rw [if_pos h3] at h; cases h
  rw [if_neg h3] at h ⊢
  by_cases h4 : (s.room.1.d.read n k).2 ≠ 0
  · rw [if_pos h4] at h; cases h
  rw [if_neg h4] at h ⊢
  cases ho : openP (s.room.1.d.read n k).1 with
  | none => rw [ho] at h; cases h
  | some kb =>
    rw [ho] at h
    simp only [Option.some.injEq] at h
    subst h
    have hlen : kb.2.length ≤ 504 := by
      unfold openP at ho
      split at ho
      · rename_i q; cases ho; simp; omega
      · cases ho
    exact ⟨rfl, rfl, by omega, rfl, by simp only; omega, hlen, rfl, rfl, by simp only; omega⟩
theorem Pl.load_none {s : Pl} {n : ByteArray} {k : Int} (h : (s.load n k).2.1 = none) : (s.load n k).2.2 ≠ 0 := by
  unfold Pl.load at h ⊢
  split
  · rename_i h1; exact h1
  · rename_i h1
    rw [if_neg h1] at h
    split
    · show (12 : Int) ≠ 0; decide
    · rename_i h2
      rw [if_neg h2] at h
      split
      · rename_i h3; exact h3
      · rename_i h3
        rw [if_neg h3] at h
        split
        · rename_i h4; exact h4
        · rename_i h4
          rw [if_neg h4] at h
          split
          · show (20 : Int) ≠ 0; decide
          · rename_i kb hk; rw [hk] at h; cases h

theorem load_ok {x : PG} {D : Nat → Prop} {H : Heap} {p dp : Nat} {s : Pl} {n : ByteArray} {k : Int} {K : (Option Addr × Int) → Heap → Prop} (hg : Gl H) (h : PoolD x D H p dp s) (hlogs : s.d.logs < 68719476736)
    (hE : (s.load n k).2.1 = none → ∀ q x' D' H', PoolD x' D' H' p dp (s.load n k).1 → Step (fun b => D b ∨ x.all p b) (fun b => D' b ∨ x'.all p b) H H' → K (q, (s.load n k).2.2) H')
    (hS : ∀ f, (s.load n k).2.1 = some f → ∀ g x' D' H', PoolD x' D' H' p dp s.room.1 → Step (fun b => D b ∨ x.all p b) (fun b => D' b ∨ x'.all p b) H H' → NewAt x' D' H' p g f → (∀ b, g.fp b → H.size ≤ b) → K (at0 g.p, 0) H') :
    pool_Pool_load.sp (at0 p) n k H K := by
  refine pool_Pool_load.of ?_
  unfold pool_Pool_load.vc
  simp only [optK_eq]
  refine newC_rowT fun H1 s1 r1 e1 => ?_
  have h1 := h.ext e1
  have hg1 : Gl H1 := hg.mod e1 id
  refine h1.pool.head.ld (c := cPtr) (i := 0) (x := at0 dp) rfl ?_
  refine r1.ld (c := cStr) (i := 0) (x := n) rfl ?_
  refine Len_ok h1.disk ?_
  unfold Pl.load at hE hS
  refine br_mk (fun hz => ?_) (fun hz => ?_)
  · have hz' : (s.d.len n).2 ≠ 0 := by simpa using hz
    rw [if_pos hz'] at hE
    exact hE rfl _ x D H1 h1 (.ext e1)
  have hz' : ¬ (s.d.len n).2 ≠ 0 := by simpa using hz
  rw [if_neg hz'] at hE hS
  refine r1.ld (c := cInt .i64) (i := 1) (x := k) rfl ?_
  refine br_mk (fun hk => ?_) (fun hk => ?_)
  · have hk' : k < 0 := by simpa using hk
    rw [if_pos (.inl hk')] at hE
    exact hE rfl _ x D H1 h1 (.ext e1)
  refine r1.ld (c := cInt .i64) (i := 1) (x := k) rfl ?_
  refine br_mk (fun hk2 => ?_) (fun hk2 => ?_)
  · have hk' : k ≥ ((s.d.len n).1 : Int) := by simpa using hk2
    rw [if_pos (.inr hk')] at hE
    exact hE rfl _ x D H1 h1 (.ext e1)
  have hk0 : 0 ≤ k := by simp at hk; omega
  have hkk : ¬ (k < 0 ∨ k ≥ ((s.d.len n).1 : Int)) := by simp at hk hk2; omega
  rw [if_neg hkk] at hE hS
  refine room_ok hg1 h1 hlogs fun x2 D2 H2 h2 S2 => ?_
  have S02 := (Step.ext (F := fun b => D b ∨ x.all p b) e1).trans S2
  have hg2 : Gl H2 := h1.gl hg1 S2.mod
  have hvoff : ¬ (D H.size ∨ x.all p H.size) := fun q => by have := h.lt _ q; omega
  have r2 : RowT H2 H.size ty_pool_spot #[.string n, .int .i64 k] := S2.mod.at r1 hvoff
  refine br_mk (fun hz2 => ?_) (fun hz2 => ?_)
  · have hz2' : s.room.2 ≠ 0 := by simpa using hz2
    rw [if_pos hz2'] at hE
    exact hE rfl _ x2 D2 H2 h2 S02
  have hz2' : ¬ s.room.2 ≠ 0 := by simpa using hz2
  rw [if_neg hz2'] at hE hS
  refine h2.pool.head.ld (c := cPtr) (i := 0) (x := at0 dp) rfl ?_
  refine r2.ld (c := cStr) (i := 0) (x := n) rfl ?_
  refine r2.ld (c := cInt .i64) (i := 1) (x := k) rfl ?_
  refine Read_ok h2.disk fun r H3 o3 e3 f3 => ?_
  have hrl := s.room.1.d.read_len n k
  refine br_mk (fun hz3 => ?_) (fun hz3 => ?_)
  · have hz3' : (s.room.1.d.read n k).2 ≠ 0 := by simpa using hz3
    rw [if_pos hz3'] at hE
    exact hE rfl _ x2 D2 H3 (h2.ext e3) (S02.behind e3)
  have hz3' : ¬ (s.room.1.d.read n k).2 ≠ 0 := by simpa using hz3
  rw [if_neg hz3'] at hE hS
  have r3 := r2.ext e3
  refine RowT.ldA (x := (n, k)) r3 rfl rfl ?_
  refine newC_rowT fun H4 s4 r4 e4 => ?_
  have e34 : Ext H2 H4 := e3.trans e4
  have hg4 : Gl H4 := hg2.mod e34 id
  have z02 := S02.mod.size
  have z24 := e34.size
  have z3 := e3.size
  have o4 : SlE EB ty_uint8 H4 r (s.room.1.d.read n k).1 := o3.keep fun b _ hl => e4.same b hl id
  have h512 : (s.room.1.d.read n k).1.length = 512 := hrl.2 (by omega)
  have fin : ∀ (H5 : Heap) (kd : Int) (sl : Sl) (er : Int), Ext H4 H5 → (∀ H6, RowT H6 H3.size ty_pool_frame #[.string n, .int .i64 k, .int .u8 kd, sl.v, .bool false, .int .i64 0, .int .i64 0] → Mod (fun b => b = H3.size) H5 H6 → H6.size = H5.size → K (some ⟨H3.size, 0, none⟩, er) H6) →
      st H5 (Addr.add ⟨H3.size, 0, none⟩ 2) (.int .u8 kd) fun H7 => st H7 (Addr.add ⟨H3.size, 0, none⟩ 3) sl.v fun H8 => K (some ⟨H3.size, 0, none⟩, er) H8 := by
    intro H5 kd sl er e45 hK
    refine RowT.st (r4.ext e45) (i := 2) (by decide : 2 < 7) (by rfl) fun H7 r7 m7 z7 => ?_
    refine RowT.st r7 (i := 3) (by decide : 3 < 7) (by rfl) fun H8 r8 m8 z8 => ?_
    exact hK H8 r8 (m7.trans m8) (by omega)
  have stays : ∀ (H5 H6 : Heap), Ext H4 H5 → Mod (fun b => b = H3.size) H5 H6 → PoolD x2 D2 H6 p dp s.room.1 ∧ Step (fun b => D b ∨ x.all p b) (fun b => D2 b ∨ x2.all p b) H H6 := by
    intro H5 H6 e45 m56
    have e26 : Ext H2 H6 := ⟨by have := e45.size; have := m56.size; omega, fun b hb _ => (m56.same b (by have := e45.size; omega) (by omega)).trans ((e34.trans e45).same b hb id)⟩
    exact ⟨h2.ext e26, S02.behind e26⟩
  refine Open_ok hg4 (SlB_byts o4) (by omega) o4.cap (fun q => absurd h512 q) (fun _ ho => ?_) (fun kd b s' H5 _ ho hbl o5 e45 f5 => ?_)
  · rw [ho] at hE
    refine fin H4 0 (Sl.mk none 0 0) 20 (.refl _ _) fun H6 r6 m6 z6 => ?_
    obtain ⟨q1, q2⟩ := stays H4 H6 (.refl _ _) m6
    exact hE rfl _ x2 D2 H6 q1 q2
  · rw [ho] at hS
    refine fin H5 _ s' 0 e45 fun H6 r6 m6 z6 => ?_
    obtain ⟨q1, q2⟩ := stays H5 H6 e45 m6
    have hfb : ∀ b, FrG.fp ⟨H3.size, s'⟩ b → H3.size ≤ b := by
      rintro b (e | hb)
      · exact Nat.le_of_eq e.symm
      · have := f5 b hb; omega
    have z45 := e45.size
    refine hS _ rfl ⟨H3.size, s'⟩ x2 D2 H6 q1 q2 ⟨⟨?_, o5.keep fun b hb hl => m6.same b hl ?_⟩, fun b hb => ?_⟩ (fun b hb => by have := hfb b hb; omega)
    · have ek : ((k.toNat : Nat) : Int) = k := by omega
      unfold frC
      simp only [ek]
      exact r6
    · have := f5 b hb; omega
    · have h3 := hfb b hb
      refine ⟨fun q => ?_, fun q => ?_, fun q => ?_⟩
      · have := h2.lt b (.inl q); omega
      · have := h2.lt b (.inr q); omega
      · have := hg2.lt; omega

end Go.Proofs.YtbhddkmfhampbaaDoor
