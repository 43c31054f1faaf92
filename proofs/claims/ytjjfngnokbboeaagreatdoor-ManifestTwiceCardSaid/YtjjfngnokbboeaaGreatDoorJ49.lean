/-
  ManifestTwice: for every input the law returns true, and its arguments read as before; the laid variables are laid as the program's text lays them. No condition beside that.
-/
import Derived.Carry
import Derived.Test.YtjjfngnokbboeaaGreatDoorJ47
import Derived.Test.YtjjfngnokbboeaaGreatDoorDkw
/-
  ManifestTwice: the walk.
-/
namespace Go.Proofs.YtjjfngnokbboeaaGreatDoor
open Go.MapKept

/-- What the walk asks from the copy on. -/
def twTail (d : Option Addr) (p_1 : Addr) (H19 : Heap) (R : Bool → Heap → Prop) : Prop :=
  disk_Disk_Copy.sp d H19 fun (c : Option Addr) H20 => disk_Disk_Crash.sp c (1073741824 : Int) (0 : Int) H20 fun (_ : Unit) H21 => disk_Disk_Ops.sp c H21 fun (k : Int) H22 => manifest_Recover.sp c H22 fun (r_13 : ((Int × Int × ByteArray × ByteArray × Sl) × Bool × Int)) H23 => newC H23 (zc Tryz.prog ty_api_Manifest) ty_api_Manifest fun p_3 H24 => doU Tryz.prog (Instr.storeAt ty_api_Manifest (.pointer (some p_3)) (.agg #[(.int .u8 r_13.1.1), (.int .i64 r_13.1.2.1), (.string r_13.1.2.2.1), (.string r_13.1.2.2.2.1), r_13.1.2.2.2.2.v])) H24 fun H25 => br (r_13.2.1 && (r_13.2.2 == (0 : Int))) (ldA (cAgg [(cInt .u8), (cInt .i64), cStr, cStr, cSl]) 5 H25 p_3 fun (x_5 : (Int × Int × ByteArray × ByteArray × Sl)) => ldA (cAgg [(cInt .u8), (cInt .i64), cStr, cStr, cSl]) 5 H25 p_1 fun (x_6 : (Int × Int × ByteArray × ByteArray × Sl)) => fathomkit_SameManifest.sp x_5.1 x_5.2.1 x_5.2.2.1 x_5.2.2.2.1 x_5.2.2.2.2 x_6.1 x_6.2.1 x_6.2.2.1 x_6.2.2.2.1 x_6.2.2.2.2 H25 fun (r_14 : Bool) H26 => br r_14 (disk_Disk_Ops.sp c H26 fun (r_15 : Int) H27 => br (r_15 == k) (fathomlaw28_works.sp H27 fun (r_16 : Bool) H28 => R r_16 H28) (R false H27)) (R false H26)) (R false H25)
theorem oka_ok {x : Mf} (hx : mayM x = true) : ∀ y ∈ x.rels, svOK y = true := by
  unfold mayM at hx
  simp only [Bool.and_eq_true, List.all_eq_true] at hx
  exact hx.2
set_option maxRecDepth 100000 in
set_option maxHeartbeats 2000000 in
theorem twTail_ok {m : Mf} {rs : Sl} {d p1 : Nat} {H H5 A : Heap} {s : Dk} {K : Bool → Heap → Prop} (c : CrS H H5 p1 p1 m m rs rs d A s) (y5 : H.size ≤ H5.size) (hp1 : p1 < H5.size) (hm : Rels H rs m.rels) (hy : mayM m = true) (hl : s.logs = 0) (hs : Still s m) (hg : Gl H) (hK : ∀ H', Ext H H' → K true H') :
    twTail (at0 d) ⟨p1, 0, none⟩ A K := by
  unfold twTail
  obtain ⟨F, d1, n1, g1⟩ := c.go y5 hp1 hp1
  refine Copy_ok d1 (by omega) fun F2 p B d2 e2 f2 => ?_
  have zA := c.z
  have c2 : CrS H H5 p1 p1 m m rs rs p B s := ⟨⟨F2, d2, fun b hb => Nat.le_trans zA (f2 b hb)⟩, Mod.trans c.e e2, Nat.le_trans zA e2.size, c.r1.ext e2, c.r2.ext e2⟩
  obtain ⟨F2', d2', n2, g2⟩ := c2.go y5 hp1 hp1
  refine Crash_ok d2' (by decide) fun F3 H3 d3 S3 => ?_
  have c3 := g2 _ _ _ d3 S3
  obtain ⟨F3', d3', n3, g3⟩ := c3.go y5 hp1 hp1
  refine Ops_ok d3' ?_
  have hr := hs 1073741824 0
  refine Recover_ok d3' (hg.mod c3.e id) fun F4 H4 rs2 d4 S4 o4 b4 => ?_
  rw [hr] at d4 o4 ⊢
  have c4 := g3 _ _ _ d4 S4
  rw [zc_mf]
  refine newC_rowT fun H5 s5 r5 e5 => ?_
  refine mf_put (s := rs2) r5 rfl fun H6 r6 m6 s6 => ?_
  have e46 : Ext H4 H6 := ((Ext.mod (F := fun b => b = H4.size) e5).trans m6).ext fun b hb => by omega
  have c6 := c4.ext e46
  refine br_mk (fun _ => ?_) (fun q => by simp at q)
  refine mf_ld r6 ?_
  refine mf_ld c6.r1 ?_
  refine SameM_ok (a := m) (b := m) (SlE.rels (o4.ext e46)) (hm.ext c6.e) (Nat.le_trans (rels_len hy) (by decide)) (oka_ok hy) (oka_ok hy) fun H7 e7 => ?_
  have c7 := c6.ext e7
  rw [decide_eq_true (rfl : m = m)]
  refine br_mk (fun _ => ?_) (fun q => by simp at q)
  obtain ⟨F7, d7, n7, g7⟩ := c7.go y5 hp1 hp1
  refine Ops_ok d7 ?_
  refine br_mk (fun _ => ?_) (fun q => by simp at q)
  exact mworks_ok (hg.mod c7.e id) fun H' e => hK H' (Mod.trans c7.e e)

theorem CrS.wr {H H5 A B : Heap} {p1 p2 : Nat} {old m : Mf} {ro rm : Sl} {d x : Nat} {s : Dk} {F : Nat → Prop} (c : CrS H H5 p1 p2 old m ro rm d A s) (h5 : H.size ≤ H5.size) (hp1 : p1 < H5.size) (hp2 : p2 < H5.size) (hF : DiskAt F A d s) (nF : ∀ b, b < H5.size → ¬ F b) (nx : ¬ F x) (hx : H5.size ≤ x) (k : Mod (fun b => b = x) A B) : CrS H H5 p1 p2 old m ro rm d B s := by
  have hz := c.e.size
  refine ⟨⟨F, hF.keep fun b hb hl => k.same b hl fun q => nx (q ▸ hb), fun b hb => ?_⟩, ((Ext.mod (F := fun b => b = x) c.e).trans k).ext fun b hb => by omega, Nat.le_trans c.z k.size, c.r1.mod k (by omega), c.r2.mod k (by omega)⟩
  rcases Nat.lt_or_ge b H5.size with h | h
  · exact absurd hb (nF b h)
  · exact h
theorem create_fine {s : Dk} {fs : List Fl} {q : Nat} (h : Fine s fs q) (n : ByteArray) : Fine (s.create n).1 fs q ∨ ((∀ g ∈ fs, g.name ≠ n) ∧ Fine (s.create n).1 (fs ++ [⟨n, [], []⟩]) q) := by
  unfold Dk.create
  rw [if_neg (by rw [h.down]; simp)]
  split
  · exact .inl h
  · split
    · exact .inl h
    · rename_i hx
      split
      · exact .inl h
      · have hx : s.idx n = none := by
          cases hq : s.idx n with
          | none => rfl
          | some i => rw [hq] at hx; simp at hx
        have hno := Dk.idx_none hx
        rw [h.files] at hno
        obtain ⟨t, ht, e⟩ := Dk.step_fine h fun t => { t with files := t.files ++ [⟨n, [], []⟩] }
        rw [e]
        exact .inr ⟨hno, ⟨by show t.files ++ _ = _; rw [ht.files], ht.down, ht.crash, ht.quota⟩⟩
/-- What lies about: files of names, and nothing in them. -/
structure About (s : Dk) (i : Nat) : Prop where
  ex : ∃ fs, Fine s fs 400 ∧ (fs.map (·.name)).Nodup ∧ (∀ g ∈ fs, g.synced = [] ∧ g.log = []) ∧ fs.length ≤ i
theorem About.create {s : Dk} {i : Nat} (h : About s i) (n : ByteArray) : About (s.create n).1 (i + 1) := by
  obtain ⟨fs, h1, h2, h3, h4⟩ := h.ex
  rcases create_fine h1 n with q | ⟨hno, q⟩
  · exact ⟨fs, q, h2, h3, by omega⟩
  · refine ⟨_, q, ?_, ?_, by simp; omega⟩
    · rw [List.map_append, List.nodup_append]
      refine ⟨h2, by simp, ?_⟩
      intro a ha b hb
      simp at hb
      obtain ⟨g, hg, rfl⟩ := List.mem_map.1 ha
      rw [hb]; exact hno g hg
    · intro g hg
      rcases List.mem_append.1 hg with q | q
      · exact h3 g q
      · simp at q; rw [q]; exact ⟨rfl, rfl⟩

set_option maxRecDepth 100000 in
set_option maxHeartbeats 4000000 in
theorem ManifestTwice_ok {m : Mf} {rs names : Sl} {L : List (List UInt8)} {p keep : Int} {H : Heap} {K : Bool → Heap → Prop} (hm : Rels H rs m.rels) (om : 0 ≤ m.opts ∧ m.opts < 256)
    (hN : RdE EN H names.a L) (hn : names.n = L.length) (hg : Gl H) (hK : ∀ H', Ext H H' → K true H') : fathomlaw28_ManifestTwice.sp m.opts m.next m.input m.terms rs names p keep H K := by
  have hgl := hg.lt
  refine fathomlaw28_ManifestTwice.of ?_
  unfold fathomlaw28_ManifestTwice.vc
  refine newC_rowT fun H1 s1 r1 e1 => ?_
  have r1' : RowT H1 H.size ty_api_Manifest (headM m.opts m.next m.input m.terms rs) := r1
  have wk : ∀ A, Ext H A → fathomlaw28_works.sp A K := fun A e => mworks_ok (hg.mod e id) fun H' e' => hK H' (Mod.trans e e')
  refine mf_ld r1' ?_
  refine size_ok (hm.ext e1) fun z H5 e5 hz => ?_
  have e05 : Ext H H5 := Mod.trans e1 e5
  refine br_mk (fun _ => wk H5 e05) (fun q2 => ?_)
  have q2 : ¬ (z > 20000) ∧ ¬ ((names.n : Int) > 100) := by
    simp only [Bool.or_eq_false_iff, decide_eq_false_iff_not] at q2
    exact q2
  have sm := hz (by omega)
  have y5 := e05.size
  have y1 : H1.size ≤ H5.size := e5.size
  have hp1 : H.size < H5.size := by omega
  have hgF : gSteps < H5.size := by omega
  refine New_ok (by decide) fun F d H7 d7 e7 f7 => ?_
  have e57 : Ext H5 H7 := e7
  have c7 : CrS H H5 H.size H.size m m rs rs d H7 (dk0 400) := ⟨⟨F, d7, f7⟩, Mod.trans e05 e57, e57.size, (r1'.ext e5).ext e7, (r1'.ext e5).ext e7⟩
  refine loop_upto L.length (fun i z A => z = (i : Int) ∧ ∃ s, CrS H H5 H.size H.size m m rs rs d A s ∧ About s i) ⟨rfl, dk0 400, c7, ⟨[], dk0_fine 400, by simp, by simp, by simp⟩⟩ ?_
  rintro i _ A next hi ⟨rfl, s, cA, hs⟩ hnext
  obtain ⟨FA, dA, nA, gA⟩ := cA.go y5 hp1 hp1
  refine br_mk (fun hc => ?_) (fun hc => ?_)
  · have hlt2 : i < L.length := by
      have : (i : Int) < (names.n : Int) := by simpa using hc
      omega
    have hx : L[i]? = some L[i] := List.getElem?_eq_getElem hlt2
    have rd : RdE EN A names.a L := RdE.keep hN fun ad _ hl => cA.e.same _ hl id
    obtain ⟨ad, hadd⟩ := rd.addr (by decide) (by omega)
    refine optK_mk ad hadd ⟨⟨by omega, by omega⟩, ?_⟩
    refine rd.ld (c := cStr) hadd (j := 0) (y := baOf L[i]) hx rfl (n := (i : Int).toNat * 1) (by rw [Int.toNat_natCast]; rfl) ?_
    refine Create_ok dA fun F2 A2 d2 S2 => ?_
    exact hnext hlt2 _ _ ⟨succ64 i (by omega), _, gA _ _ _ d2 S2, hs.create _⟩
  have hge : i = L.length := by
    have : ¬ (i : Int) < (names.n : Int) := by simpa using hc
    omega
  obtain ⟨fs, h1, h2, h3, h4⟩ := hs.ex
  have hlog0 : s.logs = 0 := logs0 h1.files fun g hg => (h3 g hg).2
  refine mf_ld cA.r1 ?_
  refine Commit_ok (m := m) (rs := rs) dA (hm.ext cA.e) (by omega) om (by omega) (fun hy => by have := may_len hy (by omega); omega) (hg.mod cA.e id) (nA _ hgF) fun F8 H8 d8 S8 => ?_
  have c8 := gA _ _ _ d8 S8
  rcases twice_plain h1 h2 h3 (by omega) (by omega) om with ⟨hy, hcm⟩ | ⟨hy, s2, hcm, lg2, hall⟩
  · rw [hcm] at c8 ⊢
    refine br_mk (fun _ => ?_) (fun q => by simp at q)
    exact br_mk (fun _ => wk H8 c8.e) (fun q => by simp at q)
  rw [hcm] at c8 ⊢
  refine br_mk (fun q => by simp at q) (fun _ => ?_)
  refine pick_ok (by decide) ?_
  generalize hi : (if (20 : Int) < 1 then (0 : Int) else p.emod 20) = k
  have hk2 : k ≤ 9223372036854775807 := by
    have := Int.emod_lt_of_pos p (show (0 : Int) < 20 by decide)
    have e2 : p % 20 = p.emod 20 := rfl
    rw [← hi, if_neg (by decide)]; omega
  obtain ⟨s4, res, hrec, lg4, hcase⟩ := hall k keep
  obtain ⟨F8', d8', n8, g8⟩ := c8.go y5 hp1 hp1
  refine Crash_ok (s := s2) d8' hk2 fun F9 H9 d9 S9 => ?_
  have c9 := g8 _ _ _ d9 S9
  obtain ⟨F9', d9', n9, g9⟩ := c9.go y5 hp1 hp1
  refine Recover_ok d9' (hg.mod c9.e id) fun F10 H10 rs1 d10 S10 o10 b10 => ?_
  have c10 := g9 _ _ _ d10 S10
  rw [hrec] at c10 o10 ⊢
  rw [zc_mf]
  refine newC_rowT fun H11 s11 r11 e11 => ?_
  refine mf_put (s := rs1) r11 rfl fun H12 r12 m12 s12 => ?_
  have e1012 : Ext H10 H12 := ((Ext.mod (F := fun b => b = H10.size) e11).trans m12).ext fun b hb => by omega
  have c12 := c10.ext e1012
  have n12 : ∀ b, b < H5.size → ¬ F10 b := fun b hb q => (S10.own b q).elim (n9 b hb) fun h => by have := c9.z; omega
  have d12 := d10.keep fun b _ hl => e1012.same b hl id
  rw [hrec] at d12
  have g12 := c12.via y5 hp1 hp1 n12
  have nx : ∀ b, H10.size ≤ b → ¬ F10 b := fun b hb q => by have := d10.lt b q; omega
  refine Down_ok d12 ?_
  rcases hcase with ⟨hdn, hres, hst⟩ | ⟨hdn, hres, s6, hrec2, lg6, hdn6, hst⟩
  · subst hres
    refine br_mk (fun q => by rw [hdn] at q; cases q) (fun _ => ?_)
    refine br_mk (fun q => by simp at q) (fun _ => ?_)
    refine mf_ld r12 ?_
    refine mf_ld c12.r1 ?_
    refine SameM_ok (a := m) (b := m) (SlE.rels (o10.ext e1012)) (hm.ext c12.e) (Nat.le_trans (rels_len hy) (by decide)) (oka_ok hy) (oka_ok hy) fun H13 e13 => ?_
    have c13 := c12.ext e13
    rw [decide_eq_true (rfl : m = m)]
    refine br_mk (fun q => by simp at q) (fun _ => ?_)
    obtain ⟨F13, d13, n13, g13⟩ := c13.go y5 hp1 hp1
    refine Down_ok d13 ?_
    refine br_mk (fun q => by rw [hdn] at q; cases q) (fun _ => ?_)
    exact twTail_ok c13 y5 hp1 hm hy lg4 hst hg hK
  · subst hres
    refine br_mk (fun _ => ?_) (fun q => by rw [hdn] at q; cases q)
    refine br_mk (fun q => by simp at q) (fun _ => ?_)
    refine Restart_ok d12 (by show s4.logs < 68719476736; omega) fun F15 H15 d15 S15 => ?_
    have c15 : CrS H H5 H.size H.size m m rs rs d H15 s4.restart := g12 _ _ _ d15 S15
    have hH10 : H10.size < H12.size := (Array.getElem?_eq_some_iff.1 r12).1
    have z12 := c12.z
    have n15 : ∀ b, b < H5.size → ¬ F15 b := fun b hb q => (S15.own b q).elim (n12 b hb) fun h => by omega
    have x15 : ¬ F15 H10.size := fun q => (S15.own _ q).elim (nx _ (Nat.le_refl _)) fun h => by omega
    have g15 := c15.via y5 hp1 hp1 n15
    have d15' : DiskAt F15 H15 d s4.restart := d15
    have z15 := S15.mod.size
    refine Recover_ok d15' (hg.mod c15.e id) fun F16 H16 rs2 d16 S16 o16 b16 => ?_
    have c16 := g15 _ _ _ d16 S16
    rw [hrec2] at c16 o16 d16 ⊢
    have r16 := (r12.mod S15.mod (nx _ (Nat.le_refl _))).mod S16.mod x15
    refine mf_put (s := rs2) r16 rfl fun H17 r17 m17 s17 => ?_
    have n16 : ∀ b, b < H5.size → ¬ F16 b := fun b hb q => (S16.own b q).elim (n15 b hb) fun h => by omega
    have x16 : ¬ F16 H10.size := fun q => (S16.own _ q).elim x15 fun h => by omega
    have c17 := c16.wr y5 hp1 hp1 d16 n16 x16 c10.z m17
    have o17 : SlE ESv ty_api_Saved H17 rs2 m.rels := Owns.mod o16 m17 fun b hb q => by have := (b16 b hb).1; omega
    refine br_mk (fun q => by simp at q) (fun _ => ?_)
    refine mf_ld r17 ?_
    refine mf_ld c17.r1 ?_
    refine SameM_ok (a := m) (b := m) (SlE.rels o17) (hm.ext c17.e) (Nat.le_trans (rels_len hy) (by decide)) (oka_ok hy) (oka_ok hy) fun H18 e18 => ?_
    have c18 := c17.ext e18
    rw [decide_eq_true (rfl : m = m)]
    refine br_mk (fun q => by simp at q) (fun _ => ?_)
    obtain ⟨F18, d18, n18, g18⟩ := c18.go y5 hp1 hp1
    refine Down_ok d18 ?_
    refine br_mk (fun q => by rw [hdn6] at q; cases q) (fun _ => ?_)
    exact twTail_ok c18 y5 hp1 hm hy lg6 hst hg hK
end Go.Proofs.YtjjfngnokbboeaaGreatDoor

/-
  ManifestTwice: for every input the law returns true, and its arguments read as before; the laid variables are laid as the program's text lays them. No condition beside that.
-/
namespace Go.Proofs.YtjjfngnokbboeaaGreatDoor
open Go.ChangeShapes Go.WideShapes Go.ChangeAt Go.RowKit

set_option maxRecDepth 100000 in
/-- An argument: a slice of texts. -/
theorem open_texts {H : Type} {enc : TypeId × Value → H} {r : Reach} {b0 : Nat} {W : World} {v : Value} {d : DataW H} {ps : List MemPlace}
    (hval : Value.okWide Tryz.prog W r b0 ty_sl_string v) (h : DataW.Trod enc Tryz.prog W 0 (fun _ => true) true ty_sl_string v d ps) :
    ∃ (s : Sl) (xs : List (List UInt8)), v = Sl.v s ∧ RdE EN W.heap s.a xs ∧ s.n = xs.length ∧ s.n ≤ s.c ∧ ∀ x ∈ xs, True := by
  refine open_structs (E := EN) (fine := fun _ => True) (e := ty_string) (by kernel_rfl) (by kernel_rfl) (by decide) ?_ hval h
  intro a cs fuel y hlen _ hy
  obtain ⟨x, e, _⟩ := DataW.trod_string (by kernel_rfl) hy
  refine ⟨x.data.toList, trivial, ?_⟩
  rw [e]
  simp [EN]

set_option maxRecDepth 100000 in
theorem manifestTwice_lifted (os : Os) (started : os.Started) (H : Type) (enc : TypeId × Value → H) :
    ReturnsInHanded {} Tryz.checked os 5 .any (fun w args => (Rows.manifestTwiceSpec.pre enc Tryz.prog Tryz.f5 [] false w args ∧ laidMetH Tryz.prog laidM w) ∧ sizedMet enc Tryz.prog Tryz.f5 (OpenSpec.ofChange Rows.manifestTwiceSpec) false w args)
      (Rows.manifestTwiceSpec.post enc Tryz.prog Tryz.f5 false true false false) := by
  refine returnsInHanded_of_change_and (C := Tryz.checked) (X := fun w _ => laidMetH Tryz.prog laidM w) (fun _ _ _ hh h => h.of_heap hh) pprog_own started (by kernel_rfl) Tryz.func5
    (ChangeSpec.witness_shaped (enc := enc) (C := Tryz.checked) (os := os) (X := fun w _ => laidMetH Tryz.prog laidM w) false (World.doorLaid Tryz.prog 400 os) #[.agg #[.int .u8 0, .int .i64 0, .string ByteArray.empty, .string ByteArray.empty, .slice none 0 0], .slice none 0 0, .int .i64 0, .int .u64 0] 8 rfl (World.shaped_of_RefB (by kernel_rfl) (by kernel_rfl)) (by kernel_rfl) (by kernel_rfl) (by kernel_rfl) (door_met os _)) ?_
  intro W base args ds gs before hval0 hW _ _ hL _
  have hval : ∀ (j : Nat) t v, Tryz.f5.params[j]? = some t → args[j]? = some v → Value.okWide Tryz.prog W .any base t v := hval0
  have hW' := hW
  obtain ⟨p, q, hA0, hV, rfl, hfz, hnd⟩ := hW
  have hA : DataW.TrodAll enc Tryz.prog W 0 (fun _ => true) true Tryz.f5.params.toList args.toList ds p := hA0
  rw [Tryz.params5] at hA hval
  obtain ⟨v0, v1, v2, v3, d0, d1, d2, d3, p0, p1, p2, p3, rfl, rfl, rfl, h0, h1, h2, h3⟩ := trodAll_four hA
  obtain ⟨rfl, rfl⟩ := trodVars_none hV
  obtain ⟨m, rs, rfl, hr, ho1, ho2, _⟩ := open_mf (hval 0 ty_api_Manifest v0 rfl rfl) h0
  obtain ⟨names, L, rfl, hN, hn, _, _⟩ := open_texts (hval 1 ty_sl_string v1 rfl rfl) h1
  obtain ⟨pp, rfl, _⟩ := wide_int (k := .i64) (hval 2 ty_int v2 rfl rfl) (by kernel_rfl)
  obtain ⟨keep, rfl, _⟩ := wide_int (k := .u64) (hval 3 26 v3 rfl rfl) (by kernel_rfl)
  have hspec := ManifestTwice_ok (m := m) (rs := rs) (names := names) (L := L) (p := pp) (keep := keep) (H := W.heap) (K := fun b H' => b = true ∧ Ext W.heap H') hr ⟨ho1, ho2⟩ hN hn (gl_of_laid hL) (fun H' e => ⟨rfl, e⟩)
  refine (hspec W rfl).mono fun e W' ⟨v, he, ⟨x, hx, hb, hext⟩, hal⟩ => ?_
  subst he; subst hx; subst hb
  exact ⟨_, rfl, law_post pprog_laidOut (by decide +kernel) rfl (by kernel_rfl) rfl rfl rfl rfl hW' hext hal⟩

theorem manifestTwice_row : Rows.ManifestTwiceSaid :=
  OpenClaim.holds_of_wide 5 Tryz.f5 rfl rfl rfl rfl rfl rfl rfl ⟨rfl, rfl, rfl, rfl, rfl⟩ rfl rfl rfl rfl rfl (by kernel_rfl) Tryz.func5 (by kernel_rfl)
    (of_decide_eq_true (by kernel_rfl)) (by unfold Func.isWrapper; first | (rw [if_pos (by decide +kernel)]; kernel_rfl) | (rw [if_neg (by decide +kernel)]; exact ⟨rfl, rfl⟩))
    (fun os started H enc _ => manifestTwice_lifted os started H enc)

/-- The card: the laid variables tied to the program's text. -/
theorem manifestTwice_holds : Rows.ManifestTwiceCardSaid :=
  Claim7.holds_tied_plain_at .later [] [.data, .sentinel] true _ false
    manifestTwice_row (fun _ h => by cases h) (by kernel_rfl) (fun _ h => by cases h) manifestTwice_row_tie rfl ⟨rfl, rfl⟩ (by kernel_rfl) rfl
    (fun f fn hf hfn => by
      obtain rfl : f = 5 := Option.some.inj ((show Tryz.prog.funcNamed "fathom/fathomlaw28.ManifestTwice" = some 5 by kernel_rfl).symm.trans hf) |>.symm
      obtain rfl : fn = Tryz.f5 := (Option.some.inj (Tryz.func5.symm.trans hfn)).symm
      exact ⟨by kernel_rfl, fun j t ht => by
        rw [Tryz.params5] at ht
        have hm : t ∈ [ty_api_Manifest, ty_sl_string, ty_int, 26] := by simpa using Array.mem_of_getElem? ht
        have hall : ([ty_api_Manifest, ty_sl_string, ty_int, 26].all fun u => !Tryz.prog.wantsStandIn u) = true := by kernel_rfl
        exact (show Tryz.prog.wantsStandIn t = false by simpa using List.all_eq_true.1 hall t hm)⟩)
    (by kernel_rfl)
#print axioms manifestTwice_holds
end Go.Proofs.YtjjfngnokbboeaaGreatDoor
