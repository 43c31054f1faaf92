/-
  The document's disk in memory; its files' pages; what it looks up.
-/
import Derived.Test.YtjjfngnokbboeaaGreatDoorDku
namespace Go.Proofs.YtjjfngnokbboeaaGreatDoor
open Go.MapKept

def EStr : Enc Pg := ⟨1, fun p => [.string (strB p.1)], fun _ => rfl, fun x u hu => by simp at hu; subst hu; rfl⟩
def EWr : Enc Wr := ⟨3, fun w => [.int .i64 w.no, .int .i64 w.page, .string (strB w.b.1)], fun _ => rfl, fun x u hu => by simp at hu; rcases hu with rfl | rfl | rfl <;> rfl⟩
def ERf : Enc (ByteArray × Sl × Sl) := ⟨3, fun f => [.string f.1, f.2.1.v, f.2.2.v], fun _ => rfl, fun x u hu => by simp at hu; rcases hu with rfl | rfl | rfl <;> rfl⟩
theorem elStr : ElT Tryz.prog ty_sl_string ty_string EStr.size 16 := ElT_of (by kernel_rfl)
theorem elWr : ElT Tryz.prog ty_sl_fathomref01_Write ty_fathomref01_Write EWr.size 32 := ElT_of (by kernel_rfl)
theorem elRf : ElT Tryz.prog ty_sl_fathomref01_File ty_fathomref01_File ERf.size 64 := ElT_of (by kernel_rfl)

/-- The files' cells. -/
def rfs : List Fl → List (Sl × Sl) → List (ByteArray × Sl × Sl)
  | f :: fs, g :: gs => (f.name, g.1, g.2) :: rfs fs gs
  | _, _ => []
theorem rfs_get : ∀ (fs : List Fl) (gs : List (Sl × Sl)) (i : Nat) (f : Fl) (g : Sl × Sl), fs[i]? = some f → gs[i]? = some g → (rfs fs gs)[i]? = some (f.name, g.1, g.2)
  | [], _, _, _, _, h, _ => by simp at h
  | _ :: _, [], _, _, _, _, h => by simp at h
  | f :: fs, g :: gs, 0, _, _, h1, h2 => by simp at h1 h2; subst h1; subst h2; rfl
  | f :: fs, g :: gs, i + 1, f', g', h1, h2 => by simpa [rfs] using rfs_get fs gs i f' g' (by simpa using h1) (by simpa using h2)
theorem rfs_length : ∀ (fs : List Fl) (gs : List (Sl × Sl)), gs.length = fs.length → (rfs fs gs).length = fs.length
  | [], _, _ => by cases ‹List (Sl × Sl)› <;> rfl
  | _ :: _, [], h => by simp at h
  | f :: fs, g :: gs, h => by simp [rfs, rfs_length fs gs (by simpa using h)]

structure RefFiles (H : Heap) (fl : Sl) (gs : List (Sl × Sl)) (fs : List Fl) : Prop where
  arr : SlE ERf ty_fathomref01_File H fl (rfs fs gs)
  len : gs.length = fs.length
  ent : ∀ (i : Nat) (f : Fl) (g : Sl × Sl), fs[i]? = some f → gs[i]? = some g → SlE EStr ty_string H g.1 f.synced ∧ SlE EWr ty_fathomref01_Write H g.2 f.log
  apart : ∀ (i j : Nat) (g g' : Sl × Sl), gs[i]? = some g → gs[j]? = some g' → i ≠ j → ∀ b, ownB g.2 b → ¬ ownB g'.2 b

def rfp (fl : Sl) (gs : List (Sl × Sl)) (b : Nat) : Prop := ownB fl b ∨ ∃ g ∈ gs, ownB g.1 b ∨ ownB g.2 b

theorem RefFiles.gAt {H : Heap} {fl : Sl} {gs : List (Sl × Sl)} {fs : List Fl} (h : RefFiles H fl gs fs) {i : Nat} {f : Fl} (hi : fs[i]? = some f) : ∃ g, gs[i]? = some g ∧ SlE EStr ty_string H g.1 f.synced ∧ SlE EWr ty_fathomref01_Write H g.2 f.log := by
  have hlt := (List.getElem?_eq_some_iff.1 hi).1
  have hg : gs[i]? = some (gs[i]'(by rw [h.len]; exact hlt)) := List.getElem?_eq_getElem _
  exact ⟨_, hg, h.ent i f _ hi hg⟩
theorem RefFiles.fAt {H : Heap} {fl : Sl} {gs : List (Sl × Sl)} {fs : List Fl} (h : RefFiles H fl gs fs) {i : Nat} {g : Sl × Sl} (hi : gs[i]? = some g) : ∃ f, fs[i]? = some f ∧ SlE EStr ty_string H g.1 f.synced ∧ SlE EWr ty_fathomref01_Write H g.2 f.log := by
  have hlt := (List.getElem?_eq_some_iff.1 hi).1
  have hg : fs[i]? = some (fs[i]'(by rw [← h.len]; exact hlt)) := List.getElem?_eq_getElem _
  exact ⟨_, hg, h.ent i _ g hg hi⟩
theorem RefFiles.lt {H : Heap} {fl : Sl} {gs : List (Sl × Sl)} {fs : List Fl} (h : RefFiles H fl gs fs) : ∀ b, rfp fl gs b → b < H.size := by
  rintro b (q | ⟨g, hg, q⟩)
  · exact h.arr.lt b q
  · obtain ⟨i, hi⟩ := List.mem_iff_getElem?.1 hg
    obtain ⟨f, _, q1, q2⟩ := h.fAt hi
    rcases q with q | q
    · exact q1.lt b q
    · exact q2.lt b q
theorem RefFiles.keep {H H' : Heap} {fl : Sl} {gs : List (Sl × Sl)} {fs : List Fl} (h : RefFiles H fl gs fs) (k : ∀ b, rfp fl gs b → b < H.size → H'[b]? = H[b]?) : RefFiles H' fl gs fs :=
  ⟨h.arr.keep fun b hb => k b (.inl hb), h.len, fun i f g hf hg => ⟨(h.ent i f g hf hg).1.keep fun b hb => k b (.inr ⟨g, List.mem_of_getElem? hg, .inl hb⟩), (h.ent i f g hf hg).2.keep fun b hb => k b (.inr ⟨g, List.mem_of_getElem? hg, .inr hb⟩)⟩, h.apart⟩
theorem RefFiles.ty {H : Heap} {fl : Sl} {gs : List (Sl × Sl)} {fs : List Fl} (h : RefFiles H fl gs fs) : ∀ b, rfp fl gs b → ∃ cs t, H[b]? = some (.cells cs t (0, 0)) ∧ (t = ty_fathomref01_File ∨ t = ty_string ∨ t = ty_fathomref01_Write) := by
  rintro b (q | ⟨g, hg, q⟩)
  · obtain ⟨c, e⟩ := h.arr.obj b q; exact ⟨c, _, e, .inl rfl⟩
  · obtain ⟨i, hi⟩ := List.mem_iff_getElem?.1 hg
    obtain ⟨f, _, q1, q2⟩ := h.fAt hi
    rcases q with q | q
    · obtain ⟨c, e⟩ := q1.obj b q; exact ⟨c, _, e, .inr (.inl rfl)⟩
    · obtain ⟨c, e⟩ := q2.obj b q; exact ⟨c, _, e, .inr (.inr rfl)⟩

def headR (fl : Sl) (most quota ops next : Int) (laid : Bool) (cin kp : Int) (down : Bool) : Array Value :=
  #[fl.v, .int .i64 most, .int .i64 quota, .int .i64 ops, .int .i64 next, .bool laid, .int .i64 cin, .int .u64 kp, .bool down]

structure RefG (fl : Sl) (gs : List (Sl × Sl)) (cin kp : Int) (H : Heap) (d : Nat) (s : Dk) : Prop where
  head : RowT H d ty_fathomref01_Disk (headR fl s.most s.quota s.ops s.next s.crash.isSome cin kp s.down)
  crash : crashOk s cin kp
  files : RefFiles H fl gs s.files
  wf : s.WF

/-- At block 'd' lies the document's disk 's', in the blocks 'F'. -/
def RefAt (F : Nat → Prop) (H : Heap) (d : Nat) (s : Dk) : Prop := ∃ fl gs cin kp, RefG fl gs cin kp H d s ∧ ∀ b, F b ↔ b = d ∨ rfp fl gs b

theorem RefG.off {H : Heap} {d : Nat} {fl : Sl} {gs : List (Sl × Sl)} {fs : List Fl} {cs : Array Value} (hd : RowT H d ty_fathomref01_Disk cs) (h : RefFiles H fl gs fs) : ¬ rfp fl gs d := by
  intro hb
  obtain ⟨c, t, e, ht⟩ := h.ty d hb
  rw [← cells_ty hd e] at ht
  exact absurd ht (by decide)
theorem RefAt.lt {F : Nat → Prop} {H : Heap} {d : Nat} {s : Dk} (h : RefAt F H d s) : ∀ b, F b → b < H.size := by
  obtain ⟨fl, gs, cin, kp, g, hF⟩ := h
  intro b hb
  rcases (hF b).1 hb with rfl | q
  · exact obj_lt g.head
  · exact g.files.lt b q
theorem RefAt.keep {F : Nat → Prop} {H H' : Heap} {d : Nat} {s : Dk} (h : RefAt F H d s) (k : ∀ b, F b → b < H.size → H'[b]? = H[b]?) : RefAt F H' d s := by
  obtain ⟨fl, gs, cin, kp, g, hF⟩ := h
  exact ⟨fl, gs, cin, kp, ⟨(k d ((hF d).2 (.inl rfl)) (obj_lt g.head)).trans g.head, g.crash, g.files.keep fun b hb => k b ((hF b).2 (.inr hb)), g.wf⟩, hF⟩
theorem RefAt.wf {F : Nat → Prop} {H : Heap} {d : Nat} {s : Dk} (h : RefAt F H d s) : s.WF := by
  obtain ⟨fl, gs, cin, kp, g, hF⟩ := h; exact g.wf
theorem RefG.out {fl fl' : Sl} {gs gs' : List (Sl × Sl)} {cin kp : Int} {F : Nat → Prop} {H H' : Heap} {d : Nat} {s : Dk} (h : RefG fl' gs' cin kp H' d s) (hF : ∀ b, F b ↔ b = d ∨ rfp fl gs b) (hm : Mod F H H') (ho : ∀ b, rfp fl' gs' b → rfp fl gs b ∨ H.size ≤ b) :
    ∃ F', RefAt F' H' d s ∧ Step F F' H H' :=
  ⟨fun b => b = d ∨ rfp fl' gs' b, ⟨fl', gs', cin, kp, h, fun _ => Iff.rfl⟩, hm, by
    rintro b (e | q)
    · exact .inl ((hF b).2 (.inl e))
    · exact (ho b q).imp (fun q => (hF b).2 (.inr q)) id⟩

/-! ### Pages -/

theorem SlE.one {α : Type} {E : Enc α} {e : TypeId} {H : Heap} {s : Sl} {l : List α} (h : SlE E e H s l) {i : Nat} {x : α} {c : Cod} {y : c.α} (hi : l[i]? = some x) (hs : E.size = 1) (hy : E.enc x = [c.enc y]) {ad : Addr} (ha : s.a = some ad) {K : c.α → Prop} (hK : K y) : ld c H (ad.add (i * 1)) K := by
  have := RdE.ld (c := c) (K := K) h.rd ha (i := i) (j := 0) hi (by rw [hy]; rfl) (n := i * 1) (by rw [hs]) hK
  rw [add_add] at this
  exact this

theorem putR_ok {l : Sl} {ps : List Pg} {w : Wr} {H : Heap} {K : Sl → Heap → Prop} (h : SlE EStr ty_string H l ps) (hlen : ps.length ≤ 2097152) (hpage : w.page < 2097152)
    (hK : ∀ l' H', SlE EStr ty_string H' l' (putP ps w) → Mod (fun _ => False) H H' → (∀ b, ownB l' b → H.size ≤ b) → K l' H') : fathomref01_put.sp l w.no w.page (strB w.b.1) H K := by
  refine fathomref01_put.of ?_
  unfold fathomref01_put.vc
  refine newC_rowT fun H1 s1 r1 m1 => ?_
  have hl1 : SlE EStr ty_string H1 l ps := h.ext m1
  refine SlE.append (E := EStr) elStr (s := Sl.mk none 0 0) (x := l) (l := []) (SlE.nil _ _ _) hl1.rd (hl1.n (by decide)) (by simp; omega) (by simp; omega) fun out H2 o2 g2 _ => ?_
  have f2 : ∀ b, ownB out b → H1.size ≤ b := fun b hb => (g2.2 b hb).resolve_left (by rintro ⟨ad, q, _⟩; cases q)
  have m12 : Mod (fun _ => False) H1 H2 := g2.1.mono fun b _ hb => by obtain ⟨ad, q, _⟩ := hb; cases q
  refine ⟨Nat, fun k l1 H3 => SlE EStr ty_string H3 l1 (ps ++ List.replicate k pg0) ∧ k ≤ w.page + 1 - ps.length ∧ Mod (fun _ => False) H1 H3 ∧ (∀ b, ownB l1 b → H1.size ≤ b), fun k => w.page + 1 - ps.length - k, ⟨0, by simpa using o2, Nat.zero_le _, m12, f2⟩, ?_⟩
  rintro k l1 H3 ⟨o3, hk, m3, f3⟩
  have hn : l1.n = ps.length + k := by rw [SlE.n o3 (by decide)]; simp
  have r3 := r1.ext m3
  refine r3.ld (c := cInt .i64) (i := 1) (x := (w.page : Int)) rfl ?_
  refine br_mk (fun hc => ?_) (fun hc => ?_)
  · have hc' : l1.n ≤ w.page := by simpa using hc
    refine elByte1.make (base := 0) (by omega) (Int.le_refl _) (by omega) (by omega) (Nat.zero_le _) fun b4 H4 hn4 o4 e4 f4 _ => ?_
    have o4' : SlE EB ty_uint8 H4 b4 pg0.1 := by
      refine SlB_of ?_
      have : pg0.1 = List.replicate 512 0 := rfl
      rw [this, pgV_rep]
      exact o4
    refine strB_eq (SlB_byts o4') ?_
    refine SlE.push (E := EStr) elStr (x := pg0) (o3.ext e4) rfl (by simp; omega) (by simp; omega) fun s5 H5 o5 g5 _ => ?_
    have z3 := m3.size; have z4 := e4.size; have z5 := g5.1.size
    refine ⟨k + 1, ⟨?_, by omega, ?_, ?_⟩, by show _ - _ < _ - _; omega⟩
    · rw [List.append_assoc, ← List.replicate_succ'] at o5; exact o5
    · refine ⟨by omega, fun b hb _ => (g5.1.same b (by omega) fun hh => by have := f3 b hh; omega).trans ((e4.same b (by omega) id).trans (m3.same b hb id))⟩
    · intro b hb
      rcases g5.2 b hb with q | q
      · exact f3 b q
      · omega
  · have hc' : w.page < l1.n := by simpa using hc
    refine r3.ld (c := cInt .i64) (i := 1) (x := (w.page : Int)) rfl ?_
    refine r3.ld (c := cStr) (i := 2) (x := strB w.b.1) rfl ?_
    obtain ⟨ad, ha⟩ := RdE.addr o3.rd (by decide) (by simp; omega)
    rw [ha]
    refine ⟨⟨by omega, by omega⟩, ?_⟩
    have hx : (ps ++ List.replicate k pg0)[w.page]? = some ((ps ++ List.replicate k pg0)[w.page]'(by simp; omega)) := List.getElem?_eq_getElem _
    have := SlE.st (E := EStr) o3 ha (i := w.page) (j := 0) (y := w.b) (v := .string (strB w.b.1)) (K := fun H7 => K l1 H7) hx (by decide) rfl rfl (n := w.page * 1) rfl fun H4 o4 m4 s4 => by
      have hkk : k = w.page + 1 - ps.length := by omega
      have z3 := m3.size
      refine hK l1 H4 (by unfold putP; rw [← hkk]; exact o4) ⟨by omega, fun b hb _ => (m4.same b (by omega) fun hh => by have := f3 b hh; omega).trans ((m3.same b (by omega) id).trans (m1.same b hb id))⟩ (fun b hb => by have := f3 b hb; omega)
    rw [add_add] at this
    simp only [Int.toNat_natCast]
    exact this

theorem Pages_ok {f : Fl} {g : Sl × Sl} {nm : ByteArray} {H : Heap} {K : Sl → Heap → Prop} (h1 : SlE EStr ty_string H g.1 f.synced) (h2 : SlE EWr ty_fathomref01_Write H g.2 f.log) (hp : f.pages.length ≤ 2097152) (hl : f.log.length < 68719476736)
    (hK : ∀ l H', SlE EStr ty_string H' l f.pages → Mod (fun _ => False) H H' → (∀ b, ownB l b → H.size ≤ b) → K l H') : fathomref01_File_Pages.sp nm g.1 g.2 H K := by
  refine fathomref01_File_Pages.of ?_
  unfold fathomref01_File_Pages.vc
  refine newC_rowT fun H1 s1 r1 m1 => ?_
  refine r1.ld (c := cSl) (i := 1) (x := g.1) rfl ?_
  have hsl := f.synced_le
  have a1 : SlE EStr ty_string H1 g.1 f.synced := h1.ext m1
  have b1 : SlE EWr ty_fathomref01_Write H1 g.2 f.log := h2.ext m1
  refine SlE.append (E := EStr) elStr (s := Sl.mk none 0 0) (x := g.1) (l := []) (SlE.nil _ _ _) a1.rd (a1.n (by decide)) (by simp; omega) (by simp; omega) fun out H2 o2 g2 _ => ?_
  have f2 : ∀ b, ownB out b → H1.size ≤ b := fun b hb => (g2.2 b hb).resolve_left (by rintro ⟨ad, q, _⟩; cases q)
  have m12 : Mod (fun _ => False) H1 H2 := g2.1.mono fun b _ hb => by obtain ⟨ad, q, _⟩ := hb; cases q
  have hn := b1.n (by decide)
  refine loop_upto f.log.length (fun k x H3 => x.2 = (k : Int) ∧ SlE EStr ty_string H3 x.1 ((f.log.take k).foldl putP f.synced) ∧ Mod (fun _ => False) H1 H3 ∧ (∀ b, ownB x.1 b → H1.size ≤ b)) ⟨rfl, by simpa using o2, m12, f2⟩ ?_
  rintro k ⟨l1, i⟩ H3 next hk ⟨hi, o3, m3, f3⟩ hnext
  simp only at hi
  subst hi
  simp only at o3 f3 hnext ⊢
  have r3 := r1.ext m3
  refine r3.ld (c := cSl) (i := 2) (x := g.2) rfl ?_
  refine br_mk (fun hc => ?_) (fun hc => ?_)
  · have hlt : k < f.log.length := by rw [hn] at hc; simpa using hc
    refine r3.ld (c := cSl) (i := 2) (x := g.2) rfl ?_
    have b3 := b1.ext m3
    obtain ⟨ad, ha⟩ := RdE.addr (SlE.rd b3) (by decide) (by omega)
    rw [ha]
    refine ⟨⟨by omega, by omega⟩, ?_⟩
    have hw : f.log[k]? = some f.log[k] := List.getElem?_eq_getElem hlt
    obtain ⟨w, hwe⟩ : ∃ w, w = f.log[k] := ⟨_, rfl⟩
    rw [← hwe] at hw
    refine RdE.ldA (E := EWr) (c := cAgg [(cInt .i64), (cInt .i64), cStr]) (y := (w.no, (w.page : Int), strB w.b.1)) (SlE.rd b3) ha hw rfl (by simp [EWr]) rfl ?_
    have hle : ((f.log.take k).foldl putP f.synced).length ≤ f.pages.length := by
      have := puts_take f.log (fun _ => true) k f.synced
      rw [List.filter_eq_self.2 (fun _ _ => rfl)] at this
      exact this
    have hpg := puts_page f.log f.synced w (List.mem_of_getElem? hw)
    have hpe : (f.log.foldl putP f.synced).length = f.pages.length := rfl
    refine putR_ok (w := w) o3 (by omega) (by omega) fun l4 H4 o4 m4 f4 => ?_
    have z3 := m3.size
    refine hnext hlt _ _ ⟨succ64 k (by omega), ?_, m3.trans m4, fun b hb => by have := f4 b hb; omega⟩
    rw [List.take_succ_eq_append_getElem hlt, ← hwe, List.foldl_append]
    exact o4
  · have hge : k = f.log.length := by rw [hn] at hc; simp at hc; omega
    rw [hge, List.take_of_length_le (Nat.le_refl _)] at o3
    exact hK l1 H3 o3 (m1.trans m3) (fun b hb => by have := f3 b hb; omega)

end Go.Proofs.YtjjfngnokbboeaaGreatDoor
