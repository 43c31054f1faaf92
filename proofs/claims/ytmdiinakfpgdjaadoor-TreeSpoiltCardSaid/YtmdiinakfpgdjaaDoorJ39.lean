/-
  Trees: Insert: the walk.
-/
import Derived.Test.YtmdiinakfpgdjaaDoorJ32
import Derived.Test.YtmdiinakfpgdjaaDoorJ35
import Derived.Test.YtmdiinakfpgdjaaDoorJ38
namespace Go.Proofs.YtmdiinakfpgdjaaDoor
open Go.MapKept

def Tr.ready (t : Tr) : Int := if t.wrong ≠ 0 then t.wrong else if t.gone then 2 else 0
def Tr.broke (t : Tr) (e : Int) : Tr := { t with wrong := e }
def Tr.up (t : Tr) (f : Bool) : Tr := if f then { t with count := t.count + 1 } else t
inductive InsR where
  | store
  | quota
  | ok (fresh : Bool) (t : Tr) (x : St)
def Tr.grown (t : Tr) (root depth : Nat) : Tr := { t with root := (root : Int), depth := (depth : Int) }
/-- A row is put in, in plain words. -/
def St.ins (x : St) (q : Nat) (t : Tr) (root depth : Nat) (ll : List Int) : InsR :=
  match x.add t.width q depth ll (depth - 1) root span0 with
  | .store => .store
  | .quota => .quota
  | .ok f none x' => .ok f (t.up f) x'
  | .ok f (some m) x' => if x'.N < q then .ok f ((t.grown x'.N (depth + 1)).up f) (x'.more ⟨[root, m.1], [m.2]⟩) else .quota

section
variable {H : Heap} {k p dp : Nat} {t : Tr} {F : Nat → Prop} {s : Pl} {q : Nat} {I : Pl → St → Nat → Prop} {B C : Pl → Int → Prop} {x : St} {m : Nat} {W root depth : Nat} {ll : List Int} {l : Sl}

theorem tready_ok {K : Int → Heap → Prop} (h : TreeB H k p t) (hK : K t.ready H) : tree_Tree_ready.sp (at0 k) H K := by
  refine tree_Tree_ready.of ?_
  unfold tree_Tree_ready.vc
  unfold Tr.ready at hK
  refine br_f rfl ?_
  simp only [optK_eq, at0]
  refine RowT.ld (c := cInt .i64) (i := 6) (x := t.wrong) h rfl ?_
  refine br_mk (fun hc => ?_) (fun hc => ?_)
  · rw [if_pos (by simpa using hc)] at hK
    exact RowT.ld (c := cInt .i64) (i := 6) (x := t.wrong) h rfl hK
  · rw [if_neg (by simpa using hc)] at hK
    refine RowT.ld (c := cBool) (i := 7) (x := t.gone) h rfl ?_
    cases hg : t.gone with
    | true => rw [hg, if_pos rfl] at hK; exact hK
    | false => rw [hg, if_neg (by simp)] at hK; exact hK
theorem tmet_ok {e : Int} {K : Int → Heap → Prop} (h : TreeB H k p t) (he : e ≠ 0) (hK : ∀ A, TreeB A k p (t.broke e) → Mod (fun b => b = k) H A → A.size = H.size → K e A) : tree_Tree_met.sp (at0 k) e H K := by
  refine tree_Tree_met.of ?_
  unfold tree_Tree_met.vc
  refine br_t (by simpa using he) ?_
  simp only [optK_eq, at0]
  exact RowT.st h (i := 6) (by simp [treV]) rfl fun A r m z => hK A r m z
theorem tmet_zero {K : Int → Heap → Prop} (hK : K 0 H) : tree_Tree_met.sp (at0 k) 0 H K := by
  refine tree_Tree_met.of ?_
  unfold tree_Tree_met.vc
  exact br_f rfl hK
theorem tclone_ok {H : Heap} {s : Sl} {l : List Int} {K : Sl → Heap → Prop} (h : Ints .u64 H s l) (hl : l.length ≤ 17592186044416)
    (hK : ∀ s' H', Owns H' 0 ty_uint64 1 s' (l.map (Value.int .u64)) → Ext H H' → (∀ b, ownB s' b → H.size ≤ b) → K s' H') : slices_Clone_sl_uint64_uint64.sp s H K := by
  refine slices_Clone_sl_uint64_uint64.of ?_
  unfold slices_Clone_sl_uint64_uint64.vc
  have hn := h.len
  refine br_mk (fun hc => ?_) (fun hc => ?_)
  · have hl0 : l = [] := by
      cases l with
      | nil => rfl
      | cons x r =>
        obtain ⟨ad, e, _⟩ := h.at (i := 0) (by simp)
        rw [e] at hc; simp at hc
    subst hl0
    exact hK nilT H (Owns.nil _ _ _ _) (.refl _ _) fun b u => absurd u (nilT_own b)
  · refine Owns.emptyB fun H1 o1 e1 => ?_
    refine elU64.appendBig (base := 0) (s := ⟨some ⟨H.size, 0, none⟩, 0, 0⟩) (x := s) (ws := l.map (Value.int .u64)) o1 (by simp; omega) (h.ext e1).reads (intsOne _ _) (by simp only; omega) (by simp only; omega) (Nat.zero_le _) ?_
    intro s' H2 n2 o2 m2 b2 _
    have f1 : ∀ b, ownB (Sl.mk (some ⟨H.size, 0, none⟩) 0 0) b → H.size ≤ b := by
      rintro b ⟨ad, ha, rfl⟩
      cases ha; exact Nat.le_refl _
    refine hK s' H2 (by simpa using o2) (((Ext.mod e1).trans m2).ext f1) fun b u => ?_
    rcases b2 b u with v | v
    · exact f1 b v
    · have := e1.size; omega

theorem Step.all {F : Nat → Prop} {A B : Heap} {k : Nat} (m : Mod (fun b => b = k) A B) : Step (fun b => F b ∨ b = k) (fun b => F b ∨ b = k) A B := ⟨m.mono fun _ _ u => .inr u, fun _ u => .inl u⟩
theorem PoolAt.offK {F : Nat → Prop} {A B : Heap} {k p dp : Nat} {s : Pl} (h : PoolAt F A p dp s) (m : Mod (fun b => b = k) A B) (hk : ¬ F k) : PoolAt F B p dp s := h.keep fun b hb hl => m.same b hl fun u => hk (u ▸ hb)
set_option maxHeartbeats 4000000 in
theorem tInsert_ok {K : (Bool × Int) → Heap → Prop} (S : Store t.name q I B C) (hw : t.width = (W : Int)) (hW : W ≤ 16) (hr : t.root = (root : Int)) (hd : t.depth = (depth : Int)) (hd1 : 1 ≤ depth ∧ depth ≤ 1000) (hroot : root ≤ 1000000000000) (hcnt : 0 ≤ t.count ∧ t.count ≤ 1000000000000)
    (hI : I s x m) (hm : m + 4000 ≤ 30000000000) (hg : Gl H) (ht : TreeB H k p t) (hp : PoolAt F H p dp s) (hk : ¬ F k) (hl : Ints .u64 H l ll)
    (hK0 : t.ready ≠ 0 → K (false, t.ready) H) (hKw : t.ready = 0 → ll.length ≠ W → K (false, 60) H)
    (hK1 : t.ready = 0 → ll.length = W → ∀ f t' x', x.ins q t root depth ll = .ok f t' x' → ∀ F' A s', PoolAt F' A p dp s' → Step (fun b => F b ∨ b = k) (fun b => F' b ∨ b = k) H A → ¬ F' k → TreeB A k p t' → I s' x' (m + 4000) → K (f, 0) A)
    (hK2 : t.ready = 0 → ll.length = W → x.ins q t root depth ll = .store → ∀ F' A s', PoolAt F' A p dp s' → Step (fun b => F b ∨ b = k) (fun b => F' b ∨ b = k) H A → ¬ F' k → TreeB A k p (t.broke 280) → I s' x (m + 4000) → K (false, 280) A)
    (hKB : t.ready = 0 → ll.length = W → x.ins q t root depth ll = .quota → ∀ F' A s' e, PoolAt F' A p dp s' → Step (fun b => F b ∨ b = k) (fun b => F' b ∨ b = k) H A → ¬ F' k → TreeB A k p (t.broke e) → B s' e → K (false, e) A)
    (hKC : ∀ F' A s' e, PoolAt F' A p dp s' → Step (fun b => F b ∨ b = k) (fun b => F' b ∨ b = k) H A → ¬ F' k → TreeB A k p (t.broke e) → C s' e → K (false, e) A) : tree_Tree_Insert.sp (at0 k) l H K := by
  refine tree_Tree_Insert.of ?_
  unfold tree_Tree_Insert.vc
  refine tready_ok ht ?_
  refine br_mk (fun hc => hK0 (by simpa using hc)) (fun hc => ?_)
  have hrd : t.ready = 0 := by simpa using hc
  clear hK0
  unfold at0
  simp only [optK_eq]
  refine RowT.ld (c := cInt .i64) (i := 2) (x := t.width) ht rfl ?_
  have hln := hl.len
  rw [hw]
  refine br_mk (fun hc2 => hKw hrd (by have : (l.n : Int) ≠ (W : Int) := by simpa using hc2
                                       omega)) (fun hc2 => ?_)
  have hlw : ll.length = W := by have : (l.n : Int) = (W : Int) := by simpa using hc2
                                 omega
  clear hKw
  have hK1 := hK1 hrd hlw
  have hK2 := hK2 hrd hlw
  have hKB := hKB hrd hlw
  have hkl := obj_lt ht
  refine ⟨fun D => Ext H D, .refl _ _, ?_⟩
  refine RowT.ldC (c := cInt .i64) (i := 3) (x := t.root) (cs := fun _ => (treV p t).toArray) (fun D hD => ht.ext hD) (fun _ _ => rfl) ?_
  refine RowT.ldC (c := cInt .i64) (i := 4) (x := t.depth) (cs := fun _ => (treV p t).toArray) (fun D hD => ht.ext hD) (fun _ _ => rfl) ?_
  refine tclone_ok hl (by omega) fun cl H2 o2 e2 f2 => ?_
  refine ⟨e2, ?_⟩
  rw [hr, hd]
  have ed : IntKind.i64.wrap ((depth : Int) - 1) = ((depth - 1 : Nat) : Int) := by rw [wrap64 (by omega) (by omega)]; omega
  rw [ed]
  have T2 : Step F F H H2 := .ofExt e2
  have p2 := hp.ext e2
  have cOk : RowOk F H2 cl ll := ⟨fun ad ha => ⟨(o2.block _ ⟨ad, ha, rfl⟩).2, fun u => by have := hp.lt _ u; have := f2 _ ⟨ad, ha, rfl⟩; omega⟩, o2.ints⟩
  -- the ends
  have tail0 : ∀ (f : Bool) (t1 : Tr) (A : Heap) (K' : (Bool × Int) → Heap → Prop), TreeB A k p t1 → (0 ≤ t1.count ∧ t1.count ≤ 1000000000000) → (∀ A', TreeB A' k p (t1.up f) → Mod (fun b => b = k) A A' → K' (f, 0) A') →
      br ((0 : Int) != (0 : Int)) (tree_Tree_met.sp (at0 k) 0 A fun (r_2 : Int) H17 => K' (false, r_2) H17) (br f (ld (cInt .i64) A (Addr.add ⟨k, 0, none⟩ 5) fun (x_9 : Int) => st A (Addr.add ⟨k, 0, none⟩ 5) (.int .i64 (IntKind.i64.wrap (x_9 + (1 : Int)))) fun H18 => K' (f, (0 : Int)) H18) (K' (f, (0 : Int)) A)) := by
    intro f t1 A K' h1 hc1 hk'
    refine br_f rfl ?_
    cases f with
    | true =>
      refine br_t rfl ?_
      refine RowT.ld (c := cInt .i64) (i := 5) (x := t1.count) h1 rfl ?_
      rw [wrap64 (x := t1.count + 1) (by omega) (by omega)]
      refine RowT.st h1 (i := 5) (by simp [treV]) rfl fun A' r m' z => hk' A' r m'
    | false => exact br_f rfl (hk' A h1 (.refl _ _))
  have tailE : ∀ (f : Bool) (e : Int) (A : Heap) (M : Prop), e ≠ 0 → TreeB A k p t → (∀ A', TreeB A' k p (t.broke e) → Mod (fun b => b = k) A A' → K (false, e) A') →
      br (e != (0 : Int)) (tree_Tree_met.sp (at0 k) e A fun (r_2 : Int) H17 => K (false, r_2) H17) M := by
    intro f e A M he h1 hk'
    exact br_t (by simpa using he) (tmet_ok h1 he fun A' r m' _ => hk' A' r m')
  have stepK : ∀ {F3 : Nat → Prop} {H3 : Heap}, Step F F3 H2 H3 → Step (fun b => F b ∨ b = k) (fun b => F3 b ∨ b = k) H H3 := fun S3 => (T2.trans S3).with k
  have offK : ∀ {F3 : Nat → Prop} {H3 : Heap}, Step F F3 H2 H3 → ¬ F3 k := fun S3 u => (S3.own _ u).elim hk fun v => by have := e2.size; omega
  have span : SpanAt F H2 (Sl.mk none 0 0) (Sl.mk none 0 0) span0 := ⟨rfl, rfl⟩
  unfold St.ins at hK1 hK2 hKB
  refine tadd_ok (l := cl) (ll := ll) S hw hW hd hlw (depth - 1) root span0 _ _ F H2 s m _ hI (by omega) (by omega) (hg.mod e2 id) (ht.ext e2) p2 hk hroot span cOk (fun f o x' hra F3 H3 s3 p3 S3 I3 => ?_) (fun hra F3 H3 s3 p3 S3 I3 => ?_) (fun hra F3 H3 s3 e f o up p3 S3 hB => ?_) (fun F3 H3 s3 e f o up p3 S3 hC => ?_)
  rotate_left
  · have t3 : TreeB H3 k p t := (ht.ext e2).mod S3.mod hk
    refine ⟨fun z A => z = 280 ∧ A = H3, br_f rfl ⟨rfl, rfl⟩, ?_⟩
    rintro _ A ⟨rfl, rfl⟩
    refine tailE false 280 A _ (by decide) t3 fun A' tA mA => ?_
    rw [hra] at hK2
    exact hK2 rfl F3 A' s3 (p3.offK mA (offK S3)) ((stepK S3).trans (Step.all (F := F3) mA)) (offK S3) tA (S.up I3 (by omega))
  · have t3 : TreeB H3 k p t := (ht.ext e2).mod S3.mod hk
    have he := (S.errB hB).1
    refine ⟨fun z A => z = e ∧ A = H3, br_f (by simpa using he) ⟨rfl, rfl⟩, ?_⟩
    rintro _ A ⟨rfl, rfl⟩
    refine tailE f _ A _ he t3 fun A' tA mA => ?_
    rw [hra] at hKB
    exact hKB rfl F3 A' s3 _ (p3.offK mA (offK S3)) ((stepK S3).trans (Step.all (F := F3) mA)) (offK S3) tA hB
  · have t3 : TreeB H3 k p t := (ht.ext e2).mod S3.mod hk
    have he := (S.errC hC).1
    refine ⟨fun z A => z = e ∧ A = H3, br_f (by simpa using he) ⟨rfl, rfl⟩, ?_⟩
    rintro _ A ⟨rfl, rfl⟩
    refine tailE f _ A _ he t3 fun A' tA mA => ?_
    exact hKC F3 A' s3 _ (p3.offK mA (offK S3)) ((stepK S3).trans (Step.all (F := F3) mA)) (offK S3) tA hC
  rw [hra] at hK1 hKB
  have t3 : TreeB H3 k p t := (ht.ext e2).mod S3.mod hk
  cases o with
  | none =>
    unfold AddK
    dsimp only
    refine ⟨fun z A => z = 0 ∧ A = H3, br_t rfl (br_f rfl ⟨rfl, rfl⟩), ?_⟩
    rintro _ A ⟨rfl, rfl⟩
    refine tail0 f t A K t3 hcnt fun A' tA mA => ?_
    exact hK1 f (t.up f) x' rfl F3 A' s3 (p3.offK mA (offK S3)) ((stepK S3).trans (Step.all (F := F3) mA)) (offK S3) tA (S.up I3 (by omega))
  | some pu =>
    obtain ⟨pg, ul⟩ := pu
    unfold AddK
    intro hul mb v1 v2 up rmb hmbF hmbz upOk
    dsimp only at hK1 hKB ⊢
    have hg3 : Gl H3 := (hg.mod e2 id).mod S3.mod p2.glob
    have kOff := offK S3
    have hzz := S3.mod.size
    have hz2 := e2.size
    have hmbk : mb ≠ k := by omega
    -- the new root
    have tops : ∀ (J : Int → Heap → Prop) (H7 : Heap) (tb : Nat) (sk sr : Sl), Ext H3 H7 → RowT H7 tb ty_tree_node #[.int .i64 (-1), sk.v, sr.v] → H3.size ≤ tb → ¬ F3 tb →
        Ints .i64 H7 sk ([root, pg].map Int.ofNat) → Off (fun b => F3 b ∨ b = tb) H7 sk → RowsN (fun b => F3 b ∨ b = tb) H7 sr [ul] →
        (x'.N < q → ∀ F8 A s8, PoolAt F8 A p dp s8 → Step (fun b => F b ∨ b = k) (fun b => F8 b ∨ b = k) H A → ¬ F8 k → TreeB A k p (t.grown x'.N (depth + 1)) → I s8 (x'.more ⟨[root, pg], [ul]⟩) (m + 4000) → J 0 A) →
        (∀ F8 A s8 e, PoolAt F8 A p dp s8 → Step (fun b => F b ∨ b = k) (fun b => F8 b ∨ b = k) H A → ¬ F8 k → TreeB A k p t → (B s8 e ∧ ¬ x'.N < q) ∨ C s8 e → J e A) →
        tree_Tree_write.sp (some ⟨k, 0, none⟩) (some ⟨tb, 0, none⟩) H7 fun (e_1 : Int) H8 => br (e_1 == (0 : Int)) (ld (cInt .i64) H8 (Addr.add ⟨tb, 0, none⟩ 0) fun (x_5 : Int) => st H8 (Addr.add ⟨k, 0, none⟩ 3) (.int .i64 x_5) fun H9 => ld (cInt .i64) H9 (Addr.add ⟨k, 0, none⟩ 4) fun (x_6 : Int) => st H9 (Addr.add ⟨k, 0, none⟩ 4) (.int .i64 (IntKind.i64.wrap (x_6 + (1 : Int)))) fun H10 => J e_1 H10) (J e_1 H8) := by
      intro J H7 tb sk sr e7 rtb htb hFtb hkd hko hrows hJ0 hJe
      have t7 : TreeB H7 k p t := t3.ext e7
      have hkt : k ≠ tb := by omega
      have nt : NodeR F3 H7 tb (-1) sk sr ⟨[root, pg], [ul]⟩ := ⟨rtb, hFtb, hkd, hko, hrows⟩
      have hs := sizeL_cases (W : Int)
      have hbl : (Nd.bytes ⟨[root, pg], [ul]⟩).length ≤ 504 := by
        rw [Nd.bytes_length hW (by intro y hy; simp at hy; subst hy; exact hul)]
        simp; omega
      have S7 : Step F F3 H2 H7 := S3.trans (.ofExt e7)
      have dropK : ∀ {F8 : Nat → Prop} {A : Heap}, Step (fun b => F3 b ∨ b = tb) (fun b => F8 b ∨ b = tb) H7 A → Step F F8 H2 A := fun S8 => S7.drop (by omega) S8
      have hNpre := (S.pre I3).2.2.2.2.1
      refine twrite_new S I3 (by omega) (hg3.mod e7 id) t7 (p3.ext e7) kOff hkt nt hbl (by simp) (by simp) (by intro y hy; simp at hy; subst hy; rw [hul]; exact hW) (fun hN F8 H8 s8 p8 S8 I8 n8 => ?_) (fun hN F8 H8 s8 e p8 S8 hF8 hB => ?_) (fun F8 H8 s8 e p8 S8 hF8 hC => ?_)
      · refine br_t rfl ?_
        have t8 : TreeB H8 k p t := t7.mod S8.mod fun u => u.elim kOff hkt
        refine RowT.ld (c := cInt .i64) (i := 0) (x := (x'.N : Int)) n8.row rfl ?_
        refine RowT.st t8 (i := 3) (by simp [treV]) rfl fun H9 r9 m9 z9 => ?_
        refine RowT.ld (c := cInt .i64) (i := 4) (x := t.depth) r9 (by simp [treV]) ?_
        rw [hd, succ64 _ (by omega)]
        refine RowT.st r9 (i := 4) (by simp [treV]) rfl fun H10 r10 m10 z10 => ?_
        have mm := m9.trans m10
        have S8' := dropK S8
        refine hJ0 hN F8 H10 s8 (p8.offK mm (offK S8')) ((stepK S8').trans (Step.all (F := F8) mm)) (offK S8') ?_ (S.up I8 (by omega))
        have et : ((treV p t).toArray.setIfInBounds 3 (.int .i64 (x'.N : Int))).setIfInBounds 4 (.int .i64 ((depth + 1 : Nat) : Int)) = (treV p (t.grown x'.N (depth + 1))).toArray := by
          simp [treV, Tr.grown]
        rw [et] at r10
        exact r10
      · have S8' := dropK S8
        refine br_f (by have := (S.errB hB).1; simpa using this) ?_
        exact hJe F8 H8 s8 e p8 (stepK S8') (offK S8') (t7.mod S8.mod fun u => u.elim kOff hkt) (.inl ⟨hB, hN⟩)
      · have S8' := dropK S8
        refine br_f (by have := (S.errC hC).1; simpa using this) ?_
        exact hJe F8 H8 s8 e p8 (stepK S8') (offK S8') (t7.mod S8.mod fun u => u.elim kOff hkt) (.inr hC)
    obtain ⟨JJ, hJJ⟩ : ∃ JJ : Int → Heap → Prop, ∀ z A, JJ z A ↔ ∃ F8 s8, PoolAt F8 A p dp s8 ∧ Step (fun b => F b ∨ b = k) (fun b => F8 b ∨ b = k) H A ∧ ¬ F8 k ∧ ((z = 0 ∧ x'.N < q ∧ TreeB A k p (t.grown x'.N (depth + 1)) ∧ I s8 (x'.more ⟨[root, pg], [ul]⟩) (m + 4000)) ∨ (TreeB A k p t ∧ ((B s8 z ∧ ¬ x'.N < q) ∨ C s8 z))) := ⟨_, fun _ _ => Iff.rfl⟩
    have hJ0 : x'.N < q → ∀ F8 A s8, PoolAt F8 A p dp s8 → Step (fun b => F b ∨ b = k) (fun b => F8 b ∨ b = k) H A → ¬ F8 k → TreeB A k p (t.grown x'.N (depth + 1)) → I s8 (x'.more ⟨[root, pg], [ul]⟩) (m + 4000) → JJ 0 A := fun hN F8 A s8 p8 S8 hF8 t8 I8 => (hJJ 0 A).2 ⟨F8, s8, p8, S8, hF8, .inl ⟨rfl, hN, t8, I8⟩⟩
    have hJe : ∀ F8 A s8 e, PoolAt F8 A p dp s8 → Step (fun b => F b ∨ b = k) (fun b => F8 b ∨ b = k) H A → ¬ F8 k → TreeB A k p t → (B s8 e ∧ ¬ x'.N < q) ∨ C s8 e → JJ e A := fun F8 A s8 e p8 S8 hF8 t8 hb => (hJJ e A).2 ⟨F8, s8, p8, S8, hF8, .inr ⟨t8, hb⟩⟩
    have upB : ∀ A, Ext H3 A → ∀ ad, up.a = some ad → ad.block < H3.size ∧ ¬ F3 ad.block := fun A eA ad ha => ⟨(upOk.off ad ha).1, fun u => (upOk.off ad ha).2 (.inl u)⟩
    refine ⟨JJ, ?_, ?_⟩
    · refine br_t rfl (br_t rfl ?_)
      refine ⟨fun D => Ext H3 D, .refl _ _, ?_⟩
      refine RowT.ldC (c := cInt .i64) (i := 3) (x := t.root) (cs := fun _ => (treV p t).toArray) (fun D hD => t3.ext hD) (fun _ _ => rfl) ?_
      simp only [optK_eq]
      refine RowT.ldC (c := cInt .i64) (i := 0) (x := (pg : Int)) (cs := fun _ => #[.int .i64 (pg : Int), v1, v2]) (fun D hD => rmb.ext hD) (fun _ _ => rfl) ?_
      rw [hr]
      have ek : #[Value.int .i64 (root : Int), Value.int .i64 (pg : Int)] = (([root, pg].map Int.ofNat).map (Value.int .i64)).toArray := rfl
      rw [ek]
      -- both orders
      constructor
      · refine newC_ints _ fun pk H5 z5 q5 a5 e5 => ⟨e5, ?_⟩
        refine newC_varT fun pr H6 q6 z6 v6 e6 => ⟨e5.trans e6, ?_⟩
        refine newC_rowT fun H7 z7 r7 e7 => ⟨(e5.trans e6).trans e7, ?_⟩
        have e37 := (e5.trans e6).trans e7
        have v7 := v6.ext e7
        refine tops JJ H7 H6.size ⟨some pk, 2, 2⟩ ⟨some pr, 1, 1⟩ e37 r7 (by omega) (fun u => by have := p3.lt _ u; omega) (((a5 2).ext e6).ext e7) (fun ad ha => ?_) ⟨rfl, fun ad ha => ?_, fun i hi => ?_⟩ hJ0 hJe
        · cases ha; exact ⟨by omega, fun u => u.elim (fun w => by have := p3.lt _ w; omega) fun w => by omega⟩
        · cases ha; exact ⟨by omega, fun u => u.elim (fun w => by have := p3.lt _ w; omega) fun w => by omega⟩
        · have hi0 : i = 0 := by simp at hi; omega
          subst hi0
          refine ⟨pr, up, rfl, v7.var.cell, fun ad ha => ?_, upOk.ints.ext e37⟩
          have := upB H7 e37 ad ha
          exact ⟨by omega, fun u => u.elim this.2 fun w => by omega⟩
      · refine newC_varT fun pr H5 q5 z5 v5 e5 => ⟨e5, ?_⟩
        refine newC_ints _ fun pk H6 z6 q6 a6 e6 => ⟨e5.trans e6, ?_⟩
        refine newC_rowT fun H7 z7 r7 e7 => ⟨(e5.trans e6).trans e7, ?_⟩
        have e37 := (e5.trans e6).trans e7
        have v7 := (v5.ext e6).ext e7
        refine tops JJ H7 H6.size ⟨some pk, 2, 2⟩ ⟨some pr, 1, 1⟩ e37 r7 (by omega) (fun u => by have := p3.lt _ u; omega) ((a6 2).ext e7) (fun ad ha => ?_) ⟨rfl, fun ad ha => ?_, fun i hi => ?_⟩ hJ0 hJe
        · cases ha; exact ⟨by omega, fun u => u.elim (fun w => by have := p3.lt _ w; omega) fun w => by omega⟩
        · cases ha; exact ⟨by omega, fun u => u.elim (fun w => by have := p3.lt _ w; omega) fun w => by omega⟩
        · have hi0 : i = 0 := by simp at hi; omega
          subst hi0
          refine ⟨pr, up, rfl, v7.var.cell, fun ad ha => ?_, upOk.ints.ext e37⟩
          have := upB H7 e37 ad ha
          exact ⟨by omega, fun u => u.elim this.2 fun w => by omega⟩
    · intro z A hz
      obtain ⟨F8, s8, p8, S8, hF8, hcase⟩ := (hJJ z A).1 hz
      rcases hcase with ⟨rfl, hN, t8, I8⟩ | ⟨t8, hb⟩
      · rw [if_pos hN] at hK1
        refine tail0 f _ A K t8 hcnt fun A' tA mA => ?_
        exact hK1 f _ _ rfl F8 A' s8 (p8.offK mA hF8) (S8.trans (Step.all (F := F8) mA)) hF8 tA I8
      · have he : z ≠ 0 := by
          rcases hb with hb | hb
          · exact (S.errB hb.1).1
          · exact (S.errC hb).1
        refine tailE f z A _ he t8 fun A' tA mA => ?_
        rcases hb with ⟨hb, hN⟩ | hb
        · rw [if_neg hN] at hKB
          exact hKB rfl F8 A' s8 z (p8.offK mA hF8) (S8.trans (Step.all (F := F8) mA)) hF8 tA hb
        · exact hKC F8 A' s8 z (p8.offK mA hF8) (S8.trans (Step.all (F := F8) mA)) hF8 tA hb
end
end Go.Proofs.YtmdiinakfpgdjaaDoor

/-
  Trees: Has, From, Next, Count, Depth: the walk; a tree that is not there.
-/
namespace Go.Proofs.YtmdiinakfpgdjaaDoor
open Go.MapKept

section
variable {H : Heap} {k p dp : Nat} {t : Tr} {F : Nat → Prop} {s : Pl} {q : Nat} {I : Pl → St → Nat → Prop} {B C : Pl → Int → Prop} {x : St} {m : Nat} {W root depth : Nat} {ll : List Int} {l : Sl}

def St.fnd (x : St) (t : Tr) (root depth : Nat) (ll : List Int) (strict : Bool) : Option (Option (List Int)) := (x.find t.width depth ll strict (depth - 1) root span0).2
theorem fnd_cost (S : Store t.name q I B C) (hI : I s x m) (hd1 : 1 ≤ depth ∧ depth ≤ 1000) {strict : Bool} : (x.find t.width depth ll strict (depth - 1) root span0).1 ≤ 1000000 := by
  have h := find_cost (x := x) (w := t.width) (low := ll) (strict := strict) (S.pre hI).2.2.2.2.2 (depth - 1) root span0 (show depth - 1 < depth by omega)
  have h2 : (depth - 1 + 1) * (depth - 1 + 1) ≤ 1000 * 1000 := Nat.mul_le_mul (by omega) (by omega)
  omega

set_option maxHeartbeats 1000000 in
theorem tHas_ok {K : (Bool × Int) → Heap → Prop} (S : Store t.name q I B C) (hw : t.width = (W : Int)) (hW : W ≤ 16) (hr : t.root = (root : Int)) (hd : t.depth = (depth : Int)) (hd1 : 1 ≤ depth ∧ depth ≤ 1000) (hroot : root ≤ 1000000000000)
    (hI : I s x m) (hm : m + 1000000 ≤ 30000000000) (hg : Gl H) (ht : TreeB H k p t) (hp : PoolAt F H p dp s) (hk : ¬ F k) (hl : Ints .u64 H l ll) (hlo : OffI F H l ll)
    (hK0 : t.ready ≠ 0 → K (false, t.ready) H) (hKw : t.ready = 0 → ll.length ≠ W → K (false, 60) H)
    (hK1 : t.ready = 0 → ll.length = W → ∀ o, x.fnd t root depth ll false = some o → ∀ F' A s', PoolAt F' A p dp s' → Step (fun b => F b ∨ b = k) (fun b => F' b ∨ b = k) H A → Step F F' H A → ¬ F' k → TreeB A k p t → I s' x (m + 1000000) → K ((match o with | none => false | some y => decide (cmpL y ll = 0)), 0) A)
    (hK2 : t.ready = 0 → ll.length = W → x.fnd t root depth ll false = none → ∀ F' A s', PoolAt F' A p dp s' → Step (fun b => F b ∨ b = k) (fun b => F' b ∨ b = k) H A → ¬ F' k → TreeB A k p (t.broke 280) → I s' x (m + 1000000) → K (false, 280) A)
    (hKC : ∀ F' A s' e, PoolAt F' A p dp s' → Step (fun b => F b ∨ b = k) (fun b => F' b ∨ b = k) H A → ¬ F' k → TreeB A k p (t.broke e) → C s' e → K (false, e) A) : tree_Tree_Has.sp (at0 k) l H K := by
  refine tree_Tree_Has.of ?_
  unfold tree_Tree_Has.vc
  refine tready_ok ht ?_
  refine br_mk (fun hc => hK0 (by simpa using hc)) (fun hc => ?_)
  have hrd : t.ready = 0 := by simpa using hc
  unfold at0
  simp only [optK_eq]
  refine RowT.ld (c := cInt .i64) (i := 2) (x := t.width) ht rfl ?_
  have hln := hl.len
  rw [hw]
  refine br_mk (fun hc2 => hKw hrd (by have : (l.n : Int) ≠ (W : Int) := by simpa using hc2
                                       omega)) (fun hc2 => ?_)
  have hlw : ll.length = W := by have : (l.n : Int) = (W : Int) := by simpa using hc2
                                 omega
  have hkl := obj_lt ht
  refine RowT.ld (c := cInt .i64) (i := 3) (x := t.root) ht rfl ?_
  refine RowT.ld (c := cInt .i64) (i := 4) (x := t.depth) ht rfl ?_
  rw [hr, hd]
  have ed : IntKind.i64.wrap ((depth : Int) - 1) = ((depth - 1 : Nat) : Int) := by rw [wrap64 (by omega) (by omega)]; omega
  rw [ed]
  have hcost := fnd_cost (root := root) (ll := ll) (strict := false) S hI hd1
  have span : SpanAt F H (Sl.mk none 0 0) (Sl.mk none 0 0) span0 := ⟨rfl, rfl⟩
  have hbroke : ∀ (F3 : Nat → Prop) (H3 : Heap) (s3 : Pl) (e : Int) (M : Prop), e ≠ 0 → PoolAt F3 H3 p dp s3 → Step F F3 H H3 → (∀ A, PoolAt F3 A p dp s3 → Step (fun b => F b ∨ b = k) (fun b => F3 b ∨ b = k) H A → ¬ F3 k → TreeB A k p (t.broke e) → K (false, e) A) →
      br (e != (0 : Int)) (tree_Tree_met.sp (some ⟨k, 0, none⟩) e H3 fun (r_1 : Int) H3 => K (false, r_1) H3) M := by
    intro F3 H3 s3 e M he p3 S3 hk'
    have k3 : ¬ F3 k := fun u => (S3.own _ u).elim hk fun v => by omega
    refine br_t (by simpa using he) (tmet_ok (ht.mod S3.mod hk) he fun A r mA _ => ?_)
    exact hk' A (p3.offK mA k3) ((S3.with k).trans (Step.all mA)) k3 r
  refine tfind_ok (ll := ll) (strict := false) S hw hW hd (depth - 1) root span0 _ _ F H s m _ hI (by omega) (by omega) hg ht hp hk hroot span hl hlo (fun F3 H3 s3 p3 S3 I3 => ?_) (fun F3 H3 s3 e p3 S3 hC => ?_)
  · have k3 : ¬ F3 k := fun u => (S3.own _ u).elim hk fun v => by omega
    have t3 : TreeB H3 k p t := ht.mod S3.mod hk
    have I4 := S.up I3 (k := m + 1000000) (by omega)
    unfold St.fnd at hK1 hK2
    cases hres : (x.find t.width depth ll false (depth - 1) root span0).2 with
    | none =>
      unfold FindK
      dsimp only
      refine hbroke F3 H3 s3 280 _ (by decide) p3 S3 fun A pA SA kA tA => ?_
      exact hK2 hrd hlw hres F3 A s3 pA SA kA tA I4
    | some o =>
      have hK1 := hK1 hrd hlw o hres
      cases o with
      | none =>
        unfold FindK
        dsimp only
        refine br_f rfl (br_f rfl ?_)
        exact hK1 F3 H3 s3 p3 (S3.with k) S3 k3 t3 I4
      | some y =>
        unfold FindK
        intro sl nn o5 f5
        dsimp only
        refine br_f rfl ?_
        refine br_t (by cases q9 : sl.a with | none => exact absurd q9 nn | some _ => rfl) ?_
        have hyl := o5.ints.len
        have hbig : y.length < 1099511627776 := by
          have hnode := find_len (ll := ll) (strict := false) (S.pre hI).2.2.2.2.2 (depth - 1) root span0 hres
          rw [hnode, hw]; simp; omega
        refine rowCmp_ok o5.ints (hlo.ints hl S3) hbig ?_
        have := hK1 F3 H3 s3 p3 (S3.with k) S3 k3 t3 I4
        have e0 : (cmpL y ll == 0) = decide (cmpL y ll = 0) := by rw [Bool.eq_iff_iff]; simp
        rw [e0]
        exact this
  · refine hbroke F3 H3 s3 e _ (S.errC hC).1 p3 S3 fun A pA SA kA tA => ?_
    exact hKC F3 A s3 e pA SA kA tA hC

/-! ### Cursors -/

structure CurB (H : Heap) (F : Nat → Prop) (k cb : Nat) (lo : Sl) (ll : List Int) (strict : Bool) : Prop where
  row : RowT H cb ty_tree_Cursor #[.pointer (at0 k), lo.v, .bool strict]
  ints : Ints .u64 H lo ll
  off : Off (fun b => F b ∨ b = k ∨ b = cb) H lo
  cb : ¬ F cb ∧ cb ≠ k
theorem tFrom_ok {K : Option Addr → Heap → Prop} (hl : Ints .u64 H l ll) (hlen : ll.length ≤ 17592186044416) (hF : ∀ b, F b → b < H.size) (hkl : k < H.size)
    (hK : ∀ A cb lo, Ext H A → CurB A F k cb lo ll false → H.size ≤ cb → K (some ⟨cb, 0, none⟩) A) : tree_Tree_From.sp (at0 k) l H K := by
  refine tree_Tree_From.of ?_
  unfold tree_Tree_From.vc
  refine br_f rfl ?_
  refine tclone_ok hl hlen fun cl H1 o1 e1 f1 => ?_
  refine newC_rowT fun H2 z2 r2 e2 => ?_
  have hz := e1.size
  refine hK H2 H1.size cl (e1.trans e2) ⟨r2, (o1.ext e2).ints, fun ad ha => ?_, fun u => by have := hF _ u; omega, by omega⟩ (by omega)
  have h1 := (o1.block _ ⟨ad, ha, rfl⟩).2
  have h2 := f1 _ ⟨ad, ha, rfl⟩
  exact ⟨by omega, fun u => by
    rcases u with u | u | u
    · have := hF _ u; omega
    · omega
    · omega⟩

set_option maxHeartbeats 1000000 in
theorem tNext_ok {K : (Sl × Bool × Int) → Heap → Prop} {cb : Nat} {lo : Sl} {strict : Bool} (S : Store t.name q I B C) (hw : t.width = (W : Int)) (hW : W ≤ 16) (hr : t.root = (root : Int)) (hd : t.depth = (depth : Int)) (hd1 : 1 ≤ depth ∧ depth ≤ 1000) (hroot : root ≤ 1000000000000)
    (hI : I s x m) (hm : m + 1000000 ≤ 30000000000) (hg : Gl H) (ht : TreeB H k p t) (hp : PoolAt F H p dp s) (hk : ¬ F k) (hc : CurB H F k cb lo ll strict)
    (hK0 : t.ready ≠ 0 → K (nilT, false, t.ready) H)
    (hK1 : t.ready = 0 → x.fnd t root depth ll strict = some none → ∀ F' A s', PoolAt F' A p dp s' → Step (fun b => F b ∨ b = k ∨ b = cb) (fun b => F' b ∨ b = k ∨ b = cb) H A → ¬ F' k → TreeB A k p t → CurB A F' k cb lo ll strict → I s' x (m + 1000000) → K (nilT, false, 0) A)
    (hK3 : t.ready = 0 → ∀ y, x.fnd t root depth ll strict = some (some y) → ∀ F' A s' sl lo', PoolAt F' A p dp s' → Step (fun b => F b ∨ b = k ∨ b = cb) (fun b => F' b ∨ b = k ∨ b = cb) H A → ¬ F' k → TreeB A k p t → CurB A F' k cb lo' y true → I s' x (m + 1000000) →
      Owns A 0 ty_uint64 1 sl (y.map (Value.int .u64)) → (∀ b, ownB sl b → H.size ≤ b ∧ ¬ F' b ∧ b ≠ k ∧ b ≠ cb ∧ ¬ ownB lo' b) → K (sl, true, 0) A)
    (hK2 : t.ready = 0 → x.fnd t root depth ll strict = none → ∀ F' A s', PoolAt F' A p dp s' → Step (fun b => F b ∨ b = k ∨ b = cb) (fun b => F' b ∨ b = k ∨ b = cb) H A → ¬ F' k → TreeB A k p (t.broke 280) → CurB A F' k cb lo ll strict → I s' x (m + 1000000) → K (nilT, false, 280) A)
    (hKC : ∀ F' A s' e, PoolAt F' A p dp s' → Step (fun b => F b ∨ b = k ∨ b = cb) (fun b => F' b ∨ b = k ∨ b = cb) H A → ¬ F' k → TreeB A k p (t.broke e) → C s' e → K (nilT, false, e) A) : tree_Cursor_Next.sp (some ⟨cb, 0, none⟩) H K := by
  refine tree_Cursor_Next.of ?_
  unfold tree_Cursor_Next.vc
  refine br_f rfl ?_
  simp only [optK_eq]
  refine RowT.ld (c := cPtr) (i := 0) (x := at0 k) hc.row rfl ?_
  refine tready_ok ht ?_
  refine br_mk (fun hc2 => hK0 (by simpa using hc2)) (fun hc2 => ?_)
  have hrd : t.ready = 0 := by simpa using hc2
  have hkl := obj_lt ht
  have hcl := obj_lt hc.row
  unfold at0
  simp only [optK_eq]
  refine RowT.ld (c := cInt .i64) (i := 3) (x := t.root) ht rfl ?_
  refine RowT.ld (c := cInt .i64) (i := 4) (x := t.depth) ht rfl ?_
  refine RowT.ld (c := cSl) (i := 1) (x := lo) hc.row rfl ?_
  refine RowT.ld (c := cBool) (i := 2) (x := strict) hc.row rfl ?_
  rw [hr, hd]
  have ed : IntKind.i64.wrap ((depth : Int) - 1) = ((depth - 1 : Nat) : Int) := by rw [wrap64 (by omega) (by omega)]; omega
  rw [ed]
  have hcost := fnd_cost (root := root) (ll := ll) (strict := strict) S hI hd1
  have span : SpanAt F H (Sl.mk none 0 0) (Sl.mk none 0 0) span0 := ⟨rfl, rfl⟩
  have offF : ∀ {F3 : Nat → Prop} {H3 : Heap}, Step F F3 H H3 → ¬ F3 k ∧ ¬ F3 cb := fun S3 => ⟨fun u => (S3.own _ u).elim hk fun v => by omega, fun u => (S3.own _ u).elim hc.cb.1 fun v => by omega⟩
  have curF : ∀ {F3 : Nat → Prop} {H3 : Heap}, Step F F3 H H3 → CurB H3 F3 k cb lo ll strict := fun {F3 H3} S3 => by
    have S3' : Step (fun b => F b ∨ b = k ∨ b = cb) (fun b => F3 b ∨ b = k ∨ b = cb) H H3 := S3.or (fun b => b = k ∨ b = cb)
    exact ⟨hc.row.mod S3.mod hc.cb.1, hc.off.ints hc.ints S3', hc.off.step S3', (offF S3).2, hc.cb.2⟩
  have hbroke : ∀ (F3 : Nat → Prop) (H3 : Heap) (s3 : Pl) (e : Int) (M : Prop), e ≠ 0 → PoolAt F3 H3 p dp s3 → Step F F3 H H3 → (∀ A, PoolAt F3 A p dp s3 → Step (fun b => F b ∨ b = k ∨ b = cb) (fun b => F3 b ∨ b = k ∨ b = cb) H A → ¬ F3 k → TreeB A k p (t.broke e) → CurB A F3 k cb lo ll strict → K (nilT, false, e) A) →
      br (e != (0 : Int)) (tree_Tree_met.sp (some ⟨k, 0, none⟩) e H3 fun (r_1 : Int) H3 => K ((Sl.mk none 0 0), false, r_1) H3) M := by
    intro F3 H3 s3 e M he p3 S3 hk'
    obtain ⟨k3, c3⟩ := offF S3
    refine br_t (by simpa using he) (tmet_ok (ht.mod S3.mod hk) he fun A r mA _ => ?_)
    have cF := curF S3
    have SA : Step (fun b => F3 b ∨ b = k ∨ b = cb) (fun b => F3 b ∨ b = k ∨ b = cb) H3 A := ⟨mA.mono fun _ _ u => .inr (.inl u), fun _ u => .inl u⟩
    refine hk' A (p3.offK mA k3) ((S3.or (fun b => b = k ∨ b = cb)).trans SA) k3 r ⟨cF.row.mod mA hc.cb.2, cF.off.ints cF.ints SA, cF.off.step SA, cF.cb⟩
  refine tfind_ok (ll := ll) (strict := strict) S hw hW hd (depth - 1) root span0 _ _ F H s m _ hI (by omega) (by omega) hg ht hp hk hroot span hc.ints ((hc.off.mono fun _ _ u => .inl u).toI _) (fun F3 H3 s3 p3 S3 I3 => ?_) (fun F3 H3 s3 e p3 S3 hC => ?_)
  · obtain ⟨k3, c3⟩ := offF S3
    have t3 : TreeB H3 k p t := ht.mod S3.mod hk
    have I4 := S.up I3 (k := m + 1000000) (by omega)
    have S3' : Step (fun b => F b ∨ b = k ∨ b = cb) (fun b => F3 b ∨ b = k ∨ b = cb) H H3 := S3.or (fun b => b = k ∨ b = cb)
    unfold St.fnd at hK1 hK2 hK3
    cases hres : (x.find t.width depth ll strict (depth - 1) root span0).2 with
    | none =>
      unfold FindK
      dsimp only
      refine hbroke F3 H3 s3 280 _ (by decide) p3 S3 fun A pA SA kA tA cA => ?_
      exact hK2 hrd hres F3 A s3 pA SA kA tA cA I4
    | some o =>
      cases o with
      | none =>
        unfold FindK
        dsimp only
        refine br_f rfl (br_t rfl (tmet_zero ?_))
        exact hK1 hrd hres F3 H3 s3 p3 S3' k3 t3 (curF S3) I4
      | some y =>
        unfold FindK
        intro sl nn o5 f5
        dsimp only
        refine br_f rfl ?_
        refine br_f (by cases q9 : sl.a with | none => exact absurd q9 nn | some _ => rfl) ?_
        have hyl : y.length ≤ 16 := by
          have hnode := find_len (ll := ll) (strict := strict) (S.pre hI).2.2.2.2.2 (depth - 1) root span0 hres
          rw [hnode, hw]; simpa using hW
        refine tclone_ok o5.ints (by omega) fun cl A1 o1 e1 f1 => ?_
        have cF := curF S3
        refine RowT.st (cF.row.ext e1) (i := 1) (by simp) rfl fun A2 r2 m2 z2 => ?_
        refine RowT.st r2 (i := 2) (by simp) rfl fun A3 r3 m3 z3 => ?_
        have m23 := m2.trans m3
        have hz1 := e1.size
        have hz3 := S3.mod.size
        have clB : ∀ b, ownB cl b → b ≠ cb := fun b u v => by have := f1 b u; omega
        have slB : ∀ b, ownB sl b → b ≠ cb := fun b u v => by have := (f5 b u).1; omega
        have S13 : Step (fun b => F3 b ∨ b = k ∨ b = cb) (fun b => F3 b ∨ b = k ∨ b = cb) H3 A3 := ⟨(Ext.mod e1).trans (m23.mono fun _ _ u => .inr (.inr u)), fun _ u => .inl u⟩
        have clo := o1.block
        refine hK3 hrd y hres F3 A3 s3 sl cl ((p3.ext e1).offK m23 c3) (S3'.trans S13) k3 ((t3.ext e1).mod m23 (Ne.symm hc.cb.2)) ⟨r3, (o1.mod m23 fun b u v => clB b u v).ints, fun ad ha => ?_, c3, hc.cb.2⟩ I4 ((o5.ext e1).mod m23 fun b u v => slB b u v) fun b u => ?_
        · have h1 := clo _ ⟨ad, ha, rfl⟩
          have h2 := f1 _ ⟨ad, ha, rfl⟩
          refine ⟨by omega, fun w => ?_⟩
          rcases w with w | w | w
          · have := p3.lt _ w; omega
          · omega
          · omega
        · have h1 := f5 b u
          have h2 := (o5.block b u).2
          exact ⟨h1.1, h1.2, by omega, by omega, fun w => by have := f1 b w; omega⟩
  · refine hbroke F3 H3 s3 e _ (S.errC hC).1 p3 S3 fun A pA SA kA tA cA => ?_
    exact hKC F3 A s3 e pA SA kA tA hC

theorem tCount_ok {K : Int → Heap → Prop} (ht : TreeB H k p t) (hK : K (if t.gone then 0 else t.count) H) : tree_Tree_Count.sp (at0 k) H K := by
  refine tree_Tree_Count.of ?_
  unfold tree_Tree_Count.vc
  refine br_f rfl ?_
  simp only [optK_eq, at0]
  refine RowT.ld (c := cBool) (i := 7) (x := t.gone) ht rfl ?_
  cases hg : t.gone with
  | true => rw [hg] at hK; exact br_t rfl hK
  | false =>
    rw [hg] at hK
    refine br_f rfl ?_
    exact RowT.ld (c := cInt .i64) (i := 5) (x := t.count) ht rfl hK
theorem tDepth_ok {K : Int → Heap → Prop} (ht : TreeB H k p t) (hK : K (if t.gone then 0 else t.depth) H) : tree_Tree_Depth.sp (at0 k) H K := by
  refine tree_Tree_Depth.of ?_
  unfold tree_Tree_Depth.vc
  refine br_f rfl ?_
  simp only [optK_eq, at0]
  refine RowT.ld (c := cBool) (i := 7) (x := t.gone) ht rfl ?_
  cases hg : t.gone with
  | true => rw [hg] at hK; exact br_t rfl hK
  | false =>
    rw [hg] at hK
    refine br_f rfl ?_
    exact RowT.ld (c := cInt .i64) (i := 4) (x := t.depth) ht rfl hK
end
end Go.Proofs.YtmdiinakfpgdjaaDoor

/-
  The pool: Drop.
-/
namespace Go.Proofs.YtmdiinakfpgdjaaDoor
open Go.MapKept

end Go.Proofs.YtmdiinakfpgdjaaDoor

/-
  PoolPins in plain words: all frames held, one given back, one more.
-/
namespace Go.Proofs.YtmdiinakfpgdjaaDoor

def v0 (j : Nat) (l : List Int) : Prop := l = [(j : Int) + 1]
end Go.Proofs.YtmdiinakfpgdjaaDoor

/-
  The pool's calls in a row: what a statement that makes them walks by; works.
-/
namespace Go.Proofs.YtmdiinakfpgdjaaDoor
open Go.MapKept

/-- A pool that was made since 'H'. -/
def TP (H A : Heap) (p dp : Nat) (s : Pl) : Prop := Ext H A ∧ ∃ F, PoolAt F A p dp s ∧ ∀ b, F b → H.size ≤ b

variable {H A : Heap} {p dp : Nat} {s : Pl} {n : ByteArray}
theorem TP.gl (t : TP H A p dp s) (hg : Gl H) : Gl A := hg.mod t.1 id
theorem TP.go (t : TP H A p dp s) : ∃ F, PoolAt F A p dp s ∧ ∀ (s' : Pl) (F' : Nat → Prop) (B : Heap), PoolAt F' B p dp s' → Step F F' A B → TP H B p dp s' := by
  obtain ⟨h1, F, h2, h3⟩ := t
  refine ⟨F, h2, fun s' F' B h4 S => ⟨⟨Nat.le_trans h1.size S.mod.size, fun b hb _ => (S.mod.same b (Nat.lt_of_lt_of_le hb h1.size) fun q => by have := h3 b q; omega).trans (h1.same b hb id)⟩, F', h4, fun b hb => ?_⟩⟩
  rcases S.own b hb with q | q
  · exact h3 b q
  · exact Nat.le_trans h1.size q
theorem TP.disk (t : TP H A p dp s) (hg : Gl H) : ∃ D, DiskAt D A dp s.d ∧ ∀ (d : Dk) (D' : Nat → Prop) (B : Heap), DiskAt D' B dp d → Step D D' A B → TP H B p dp (s.setD d) := by
  have hgA := t.gl hg
  obtain ⟨F, h1, h2⟩ := t.go
  obtain ⟨D, q1, q2, q3⟩ := h1.disk hgA
  refine ⟨D, q1, fun d D' B h4 S => ?_⟩
  obtain ⟨F', r1, r2⟩ := q3 D' B d h4 S
  exact h2 _ F' B r1 r2

theorem TP.fresh {K : (Int × Int × Int) → Heap → Prop} {r : Int × Int × Int} (t : TP H A p dp s) (hg : Gl H) (hn : n.size ≤ 9223372036854775807) (hl : s.d.logs < 68719470000) (hx : s.next < 9223372036854775807) (hf : s.Fit) (hr : (s.fresh n).2 = r)
    (hK : ∀ B, TP H B p dp (s.fresh n).1 → K r B) : pool_Pool_Fresh.sp (at0 p) n A K := by
  have hgA := t.gl hg
  obtain ⟨F, h1, h2⟩ := t.go
  refine Fresh_ok hgA h1 hn (by omega) hx hf fun F' B h3 S => ?_
  subst hr
  exact hK B (h2 _ F' B h3 S)
theorem TP.put {K : Int → Heap → Prop} {k e : Int} {kd : UInt8} {b : Sl} {l : List UInt8} (t : TP H A p dp s) (hg : Gl H) (hb : Byts A b l) (hr : (s.set k kd l).2 = e)
    (hK : ∀ B, TP H B p dp (s.set k kd l).1 → K e B) : pool_Pool_Put.sp (at0 p) k (kd.toNat : Int) b A K := by
  have hgA := t.gl hg
  obtain ⟨F, h2, h3⟩ := t.go
  refine Put_ok hgA h2 hb fun F' B h4 S => ?_
  rw [hr]
  exact hK B (h3 _ F' B h4 S)
theorem TP.unpin {K : Int → Heap → Prop} {k e : Int} (t : TP H A p dp s) (hg : Gl H) (hx : s.next < 9223372036854775807) (hr : (s.unpin k).2 = e)
    (hK : ∀ B, TP H B p dp (s.unpin k).1 → K e B) : pool_Pool_Unpin.sp (at0 p) k A K := by
  have hgA := t.gl hg
  obtain ⟨F, h2, h3⟩ := t.go
  refine Unpin_ok hgA h2 hx fun F' B h4 S => ?_
  rw [hr]
  exact hK B (h3 _ F' B h4 S)
theorem TP.new {D : Nat → Prop} {d : Dk} {m : Nat} {K : (Option Addr × Int) → Heap → Prop} (hg : Gl H) (e : Ext H A) (hd : DiskAt D A dp d) (hD : ∀ b, D b → H.size ≤ b) (h8 : 8 ≤ m) (hm : m ≤ 4096)
    (hK : ∀ p B, TP H B p dp (pl0 d m) → K (at0 p, 0) B) : pool_New.sp (at0 dp) (m : Int) A K := by
  refine PoolNew_ok (hg.mod e id) hd (fun q => by have := hD _ q; have := hg.lt; omega) h8 hm fun F p B h1 e1 f1 => ?_
  refine hK p B ⟨e.trans e1, F, h1, fun b hb => ?_⟩
  rcases f1 b hb with q | q
  · exact hD b q
  · exact Nat.le_trans e.size q

/-! ### A new disk of one file -/

def nmF : ByteArray := ByteArray.mk #[102]
theorem nmF_named : named nmF = true := by decide
theorem create_live {q : Int} (h0 : 0 ≤ q) (hq : q ≤ 1048576) {n : ByteArray} (hn : named n = true) : Live ((dk0 q).create n).1 n [] q.toNat ∧ ((dk0 q).create n).1.ops = 1 ∧ ((dk0 q).create n).2 = 0 ∧ ((dk0 q).create n).1.logs = 0 := by
  have e : (dk0 q).create n = ({ dk0 q with files := [⟨n, [], []⟩], ops := w64 (0 + 1) }, 0) := by
    unfold Dk.create
    rw [if_neg (by simp [dk0]), if_neg (by rw [hn]; simp), if_neg (by simp [dk0, Dk.idx]), if_neg (by simp [dk0])]
    rfl
  rw [e]
  refine ⟨⟨rfl, rfl, ⟨_, rfl, rfl, rfl⟩, ?_⟩, by show w64 (0 + 1) = 1; decide, rfl, rfl⟩
  show (min (max q 0) 1048576).toNat = q.toNat
  congr 1; omega
theorem pl0_told {d : Dk} {n : ByteArray} {q m : Nat} {T : Nat → UInt8 × List UInt8} (h : Live d n [] q) : Told (pl0 d m) n 0 q T [] :=
  ⟨rfl, h, rfl, by intro f hf; simp [pl0] at hf, by intro k b hk; simp at hk⟩

end Go.Proofs.YtmdiinakfpgdjaaDoor

/-
  The pool's statements: a step's bytes; a pool that is not there.
-/
namespace Go.Proofs.YtmdiinakfpgdjaaDoor
open Go.MapKept

end Go.Proofs.YtmdiinakfpgdjaaDoor

/-
  Trees: page 0; New, Open: the walk.
-/
namespace Go.Proofs.YtmdiinakfpgdjaaDoor
open Go.MapKept

def headT (W depth root count : Nat) : List UInt8 := UInt8.ofNat W :: UInt8.ofNat depth :: be4 root ++ bytesI (putL [(count : Int)])
theorem putOne (c : Int) : (putL [c]).length = 8 := by simp [putL, wordL]
theorem headT_length (W depth root count : Nat) : (headT W depth root count).length = 14 := by
  unfold headT
  rw [List.length_append, List.length_cons, List.length_cons, be4_length, bytesI_length, putOne]

theorem newC_bytes {H : Heap} {t : TypeId} (n : Nat) (l : List UInt8) {cs : Array Value} (hcs : cs = ((u8i l).map (Value.int .u8)).toArray) (hn : l.length = n) (hl : n ≤ 1000) {K : Addr → Heap → Prop}
    (hK : ∀ H', Owns H' 0 t 1 ⟨some ⟨H.size, 0, none⟩, n, n⟩ ((u8i l).map (Value.int .u8)) → Ext H H' → K ⟨H.size, 0, none⟩ H') : newC H cs t K := by
  subst hcs
  subst hn
  refine hK _ (Owns.fresh (n := l.length) (cap := l.length) (Nat.zero_le _) (Nat.le_refl _) (by unfold maxLen; omega) (by simp) (by simp) ?_) (Mod.push _ _ _)
  have e : l.length * 1 = ((u8i l).map (Value.int .u8)).length := by simp
  rw [e]
  exact List.take_length
section
variable {H : Heap} {k p dp : Nat} {t : Tr} {F : Nat → Prop} {s : Pl} {q : Nat} {I : Pl → St → Nat → Prop} {B C : Pl → Int → Prop} {x : St} {m : Nat} {W root depth count : Nat}

set_option maxHeartbeats 2000000 in
theorem thead_raw {fr : Bool} {K : Int → Heap → Prop} (hg : Gl H) (h : TreeB H k p t) (hp : PoolAt F H p dp s) (hk : ¬ F k) (hw : t.width = (W : Int)) (hr : t.root = (root : Int)) (hd : t.depth = (depth : Int)) (hc : t.count = (count : Int)) (hcb : count < 18446744073709551616)
    (hnm : t.name.size ≤ 9223372036854775807) (hlogs : s.d.logs < 68719470000) (hnx : s.next < 1099511627776) (h0 : 0 ≤ s.next) (hft : s.Fit)
    (hK1 : fr = true → ∀ F' H', PoolAt F' H' p dp (s.more t.name 5 (headT W depth root count)).1 → Step F F' H H' → K (s.more t.name 5 (headT W depth root count)).2 H')
    (hK2 : fr = false → ∀ F' H', PoolAt F' H' p dp (s.over t.name 0 5 (headT W depth root count)).1 → Step F F' H H' → K (s.over t.name 0 5 (headT W depth root count)).2 H') : tree_Tree_head.sp (at0 k) fr H K := by
  refine tree_Tree_head.of ?_
  unfold tree_Tree_head.vc
  have hkl0 := obj_lt h
  refine ⟨fun z A => ∃ F1 s1, PoolAt F1 A p dp s1 ∧ TreeB A k p t ∧ ¬ F1 k ∧ Gl A ∧ s1.next < 9223372036854775807 ∧ (z.2 ≠ 0 → K z.2 A) ∧
    (z.2 = 0 → ∀ F' H', PoolAt F' H' p dp (Pl.leave (s1.set z.1 5 (headT W depth root count)) z.1).1 → Step F1 F' A H' → K (Pl.leave (s1.set z.1 5 (headT W depth root count)) z.1).2 H'), ?_, ?_⟩
  · simp only [optK_eq, at0]
    cases fr with
    | true =>
      refine br_t rfl ?_
      refine RowT.ld (c := cPtr) (i := 0) (x := at0 p) h rfl ?_
      refine RowT.ld (c := cStr) (i := 1) (x := t.name) h rfl ?_
      refine Fresh_ok hg hp hnm (by omega) (by omega) hft fun F1 H1 p1 S1 => ?_
      have hK1 := hK1 rfl
      unfold Pl.more at hK1
      have hnx1 : (s.fresh t.name).1.next ≤ s.next + 1 := s.fresh_next h0 hnx
      generalize (s.fresh t.name).1 = s1 at *
      generalize (s.fresh t.name).2.1 = hd at *
      generalize (s.fresh t.name).2.2.2 = e at *
      have hkF1 : ¬ F1 k := fun u => (S1.own _ u).elim hk fun u => by omega
      refine ⟨F1, s1, p1, h.mod S1.mod hk, hkF1, hg.mod S1.mod hp.glob, by omega, fun he => ?_, fun he F' H' p3 S3 => ?_⟩
      · have he : e ≠ 0 := he
        rw [if_pos he] at hK1
        exact hK1 F1 H1 p1 S1
      · have he : ¬ e ≠ 0 := by simpa using he
        rw [if_neg he, if_neg (by decide)] at hK1
        exact hK1 F' H' p3 (S1.trans S3)
    | false =>
      refine br_f rfl ?_
      refine RowT.ld (c := cPtr) (i := 0) (x := at0 p) h rfl ?_
      refine RowT.ld (c := cStr) (i := 1) (x := t.name) h rfl ?_
      refine Pin_ok hg hp hnm (by decide) (by decide) (by omega) (by omega) fun F1 H1 p1 S1 => ?_
      have hK2 := hK2 rfl
      unfold Pl.over at hK2
      have hnx1 : (s.pin t.name 0).1.next ≤ s.next + 1 := s.pin_next h0 hnx
      generalize (s.pin t.name 0).1 = s1 at *
      generalize (s.pin t.name 0).2.1 = hd at *
      generalize (s.pin t.name 0).2.2 = e at *
      have hkF1 : ¬ F1 k := fun u => (S1.own _ u).elim hk fun u => by omega
      refine ⟨F1, s1, p1, h.mod S1.mod hk, hkF1, hg.mod S1.mod hp.glob, by omega, fun he => ?_, fun he F' H' p3 S3 => ?_⟩
      · have he : e ≠ 0 := he
        rw [if_pos he] at hK2
        exact hK2 F1 H1 p1 S1
      · have he : ¬ e ≠ 0 := by simpa using he
        rw [if_neg he] at hK2
        exact hK2 F' H' p3 (S1.trans S3)
  · rintro ⟨hdl, e⟩ H1 ⟨F1, s1, p1, t1, hkF1, g1, hnx1, c1, c2⟩
    dsimp only at c1 c2 ⊢
    refine br_mk (fun hc => c1 (by simpa using hc)) (fun hc2 => ?_)
    have c2 := c2 (by simpa using hc2)
    clear c1 hK1 hK2
    refine ⟨fun D => Ext H1 D, .refl _ _, ?_⟩
    simp only [optK_eq, at0]
    refine RowT.ldC (c := cInt .i64) (i := 2) (x := t.width) (cs := fun _ => (treV p t).toArray) (fun D hD => t1.ext hD) (fun _ _ => rfl) ?_
    refine RowT.ldC (c := cInt .i64) (i := 4) (x := t.depth) (cs := fun _ => (treV p t).toArray) (fun D hD => t1.ext hD) (fun _ _ => rfl) ?_
    refine RowT.ldC (c := cInt .i64) (i := 3) (x := t.root) (cs := fun _ => (treV p t).toArray) (fun D hD => t1.ext hD) (fun _ _ => rfl) ?_
    rw [hw, hd, hr, wrap8, wrap8]
    have ev : #[Value.int .u8 ((UInt8.ofNat W).toNat : Int), Value.int .u8 ((UInt8.ofNat depth).toNat : Int)] = ((u8i [UInt8.ofNat W, UInt8.ofNat depth]).map (Value.int .u8)).toArray := rfl
    -- the bytes' end
    have tail : ∀ (A : Heap) (b : Sl), Ext H1 A → Owns A 0 ty_uint8 1 b ((u8i ([UInt8.ofNat W, UInt8.ofNat depth] ++ be4 root)).map (Value.int .u8)) → (∀ c, ownB b c → H1.size ≤ c) →
        ∃ G_1 : Heap → Prop, G_1 A ∧ ldC cPtr G_1 (Addr.add ⟨k, 0, none⟩ 0) fun (x_7 : Option Addr) => ld (cInt .i64) A (Addr.add ⟨k, 0, none⟩ 5) fun (x_8 : Int) => newC A #[(.int .u64 (IntKind.u64.wrap x_8))] ty_uint64 fun p_1 H7 => G_1 H7 ∧ row_Put.sp (Sl.mk (some p_1) 1 1) H7 fun (r_3 : Sl) H8 => G_1 H8 ∧ doT cSl Tryd.prog (Builtin.append_ #[ty_sl_uint8, ty_sl_uint8] ty_sl_uint8 #[b.v, r_3.v]) H8 fun (s : Sl) H9 => G_1 H9 ∧ pool_Pool_Put.sp x_7 hdl (5 : Int) s H9 fun (e : Int) H10 => br (e == (0 : Int)) (ld cPtr H10 (Addr.add ⟨k, 0, none⟩ 0) fun (x_9 : Option Addr) => pool_Pool_Unpin.sp x_9 hdl H10 fun (e_1 : Int) H11 => K e_1 H11) (K e H10) := by
      intro A b eA ob fb
      refine ⟨fun D => Ext H1 D, eA, ?_⟩
      refine RowT.ldC (c := cPtr) (i := 0) (x := at0 p) (cs := fun _ => (treV p t).toArray) (fun D hD => t1.ext hD) (fun _ _ => rfl) ?_
      refine RowT.ld (c := cInt .i64) (i := 5) (x := t.count) (t1.ext eA) rfl ?_
      have ew : IntKind.u64.wrap t.count = (count : Int) := by rw [hc, IntKind.wrap_u64]; omega
      rw [ew]
      have eo : #[Value.int .u64 (count : Int)] = (([(count : Int)]).map (Value.int .u64)).toArray := rfl
      rw [eo]
      refine newC_ints _ fun pq H7 z7 q7 a7 e7 => ⟨eA.trans e7, ?_⟩
      refine rowPut_ok (a7 1) (by simp) fun sb H8 o8 e8 => ⟨(eA.trans e7).trans e8, ?_⟩
      have b8 : Byts H8 sb (bytesI (putL [(count : Int)])) := by
        unfold Byts
        rw [u8i_bytesI (putL_range _)]
        exact o8.ints
      have hz7 := (e7.trans e8).size
      refine appB (s := b) (x := sb) ((ob.ext e7).ext e8) b8 (by rw [bytesI_length, putOne]; show 6 + 8 ≤ 1000000; omega) fun b9 H9 o9 m9 f9 => ?_
      have e9 : Ext H1 H9 := ((Ext.mod ((eA.trans e7).trans e8)).trans m9).ext fb
      refine ⟨e9, ?_⟩
      have eb : [UInt8.ofNat W, UInt8.ofNat depth] ++ be4 root ++ bytesI (putL [(count : Int)]) = headT W depth root count := rfl
      rw [eb] at o9
      have SA : Step F1 F1 H1 H9 := .ofExt e9
      refine Put_ok (kd := 5) (l := headT W depth root count) (g1.mod e9 id) (p1.ext e9) o9.ints fun F2 H2 p2 S2 => ?_
      have hg2 : Gl H2 := (g1.mod e9 id).mod S2.mod p1.glob
      have hn2 : (s1.set hdl 5 (headT W depth root count)).1.next = s1.next := s1.set_next _ _ _
      generalize s1.set hdl 5 (headT W depth root count) = s2 at *
      refine br_mk (fun hc3 => ?_) (fun hc3 => ?_)
      · have e2 : s2.2 = 0 := by simpa using hc3
        refine RowT.ld (c := cPtr) (i := 0) (x := at0 p) ((t1.ext e9).mod S2.mod hkF1) rfl ?_
        refine Unpin_ok hg2 p2 (by omega) fun F3 H3 p3 S3 => ?_
        have el : Pl.leave s2 hdl = s2.1.unpin hdl := if_pos e2
        rw [el] at c2
        exact c2 F3 H3 p3 ((SA.trans S2).trans S3)
      · have e2 : s2.2 ≠ 0 := by simpa using hc3
        have el : Pl.leave s2 hdl = s2 := if_neg e2
        rw [el] at c2
        exact c2 F2 H2 p2 (SA.trans S2)
    have f5 : ∀ {A : Heap}, H1.size ≤ A.size → ∀ c, ownB (Sl.mk (some ⟨A.size, 0, none⟩) 2 2) c → H1.size ≤ c := by
      rintro A hA c ⟨ad, ha, rfl⟩
      cases ha; exact hA
    refine ⟨?_, ?_⟩
    · refine newC_bytes 2 [UInt8.ofNat W, UInt8.ofNat depth] ev rfl (by decide) fun H4 o4 e4 => And.intro e4 ?_
      refine tbytes_ok fun pb H5 b5 e5 q5 => And.intro (e4.trans e5) ?_
      have hz := (e4.trans e5).size
      refine appB (s := ⟨some ⟨H1.size, 0, none⟩, 2, 2⟩) (x := ⟨some pb, 4, 4⟩) (o4.ext e5) b5 (by rw [be4_length]; show 2 + 4 ≤ 1000000; omega) fun b6 H6 o6 m6 g6 => ?_
      have e6 : Ext H1 H6 := ((Ext.mod (e4.trans e5)).trans m6).ext (f5 (Nat.le_refl _))
      refine And.intro e6 (tail H6 b6 e6 o6 fun c u => ?_)
      rcases g6 c u with v | v
      · exact f5 (Nat.le_refl _) c v
      · omega
    · refine tbytes_ok fun pb H4 b4 e4 q4 => And.intro e4 ?_
      refine newC_bytes 2 [UInt8.ofNat W, UInt8.ofNat depth] ev rfl (by decide) fun H5 o5 e5 => And.intro (e4.trans e5) ?_
      have hz4 := e4.size
      have hz := (e4.trans e5).size
      refine appB (s := ⟨some ⟨H4.size, 0, none⟩, 2, 2⟩) (x := ⟨some pb, 4, 4⟩) o5 (b4.keep fun ad _ hl => e5.same _ hl id) (by rw [be4_length]; show 2 + 4 ≤ 1000000; omega) fun b6 H6 o6 m6 g6 => ?_
      have e6 : Ext H1 H6 := ((Ext.mod (e4.trans e5)).trans m6).ext (f5 hz4)
      refine And.intro e6 (tail H6 b6 e6 o6 fun c u => ?_)
      rcases g6 c u with v | v
      · exact f5 hz4 c v
      · omega

/-! ### New, Open -/

def tr0 (n : ByteArray) (W : Nat) : Tr := ⟨n, W, 1, 1, 0, 0, false⟩
def St.made (x : St) (W : Nat) : St := St.more ⟨x.N + 1, setT x.T x.N (5, headT W 1 1 0)⟩ ⟨[], []⟩

set_option maxHeartbeats 1000000 in
theorem tNew_ok {n : ByteArray} {x0 : St} {K : (Option Addr × Int) → Heap → Prop} (S : Store n q I B C) (hW : W ≤ 16) (hg : Gl H) (hp : PoolAt F H p dp s) (hm : m + 2 ≤ 30000000000)
    (hI : (s.d.create n).2 = 0 → I (s.setD (s.d.create n).1) x0 m)
    (hKc : (s.d.create n).2 ≠ 0 → ∀ F' A, PoolAt F' A p dp (s.setD (s.d.create n).1) → Step F F' H A → K (none, (s.d.create n).2) A)
    (hK1 : (s.d.create n).2 = 0 → x0.N + 1 < q → ∀ F' A s' k, PoolAt F' A p dp s' → Step F F' H A → TreeB A k p (tr0 n W) → ¬ F' k → H.size ≤ k → I s' (x0.made W) (m + 2) → K (at0 k, 0) A)
    (hKB : (s.d.create n).2 = 0 → ¬ x0.N + 1 < q → ∀ F' A s' e, PoolAt F' A p dp s' → Step F F' H A → B s' e → K (none, e) A)
    (hKC : ∀ F' A s' e, PoolAt F' A p dp s' → Step F F' H A → C s' e → K (none, e) A) : tree_New.sp (at0 p) n W H K := by
  refine tree_New.of ?_
  unfold tree_New.vc
  obtain ⟨_, _, hroom, _⟩ := fan_room hW
  refine br_f rfl ?_
  refine rowRoom_ok ?_
  refine br_f (by simp only [beq_eq_false_iff_ne, ne_eq]; omega) ?_
  refine PDisk_ok hp ?_
  obtain ⟨D, d1, _, d3⟩ := PoolAt.disk hg hp
  refine Create_ok d1 fun D' H3 d4 S4 => ?_
  obtain ⟨F3, p3, T3⟩ := d3 D' H3 _ d4 S4
  refine br_mk (fun hc => hKc (by simpa using hc) F3 H3 p3 T3) (fun hc => ?_)
  have hc0 : (s.d.create n).2 = 0 := by simpa using hc
  have hI := hI hc0
  have hK1 := hK1 hc0
  have hKB := hKB hc0
  clear hKc
  generalize s.setD (s.d.create n).1 = s3 at *
  have hg3 : Gl H3 := hg.mod T3.mod hp.glob
  refine newC_rowT fun H4 z4 r4 e4 => ?_
  have t4 : TreeB H4 H3.size p (tr0 n W) := r4
  have k4 : ¬ F3 H3.size := fun u => by have := p3.lt _ u; omega
  have T4 : Step F F3 H H4 := T3.trans (.ofExt e4)
  have hz3 := T3.mod.size
  obtain ⟨b1, b2, b3, b4, b5, b6⟩ := S.pre hI
  have hlen : (headT W 1 1 0).length ≤ 504 := by rw [headT_length]; omega
  refine thead_raw (fr := true) (W := W) (depth := 1) (root := 1) (count := 0) (hg3.mod e4 id) t4 (p3.ext e4) k4 rfl rfl rfl rfl (by decide) S.name (by omega) (by omega) b2 b4 (fun _ F5 H5 p5 S5 => ?_) (fun u => by cases u)
  have T5 := T4.trans S5
  have k5 : ¬ F5 H3.size := fun u => by
    rcases S5.own _ u with v | v
    · exact k4 v
    · omega
  have t5 : TreeB H5 H3.size p (tr0 n W) := t4.mod S5.mod k4
  have hz5 := S5.mod.size
  refine ⟨fun z A => ∃ F' s', PoolAt F' A p dp s' ∧ Step F F' H A ∧ ((z = 0 ∧ x0.N + 1 < q ∧ TreeB A H3.size p (tr0 n W) ∧ ¬ F' H3.size ∧ I s' (x0.made W) (m + 2)) ∨ (B s' z ∧ ¬ x0.N + 1 < q) ∨ C s' z), ?_, ?_⟩
  · change br ((s3.more n 5 (headT W 1 1 0)).2 == 0) _ _
    have hbad : ∀ e : Int, e ≠ 0 → ∀ (J : Int → Heap → Prop) (M : Prop), J e H5 → br (e == (0 : Int)) M (J e H5) := fun e he J M hj => br_f (by simpa using he) hj
    by_cases hN : x0.N < q
    · rcases S.more (kd := 5) (b := headT W 1 1 0) hI (by omega) hlen (by decide) hN with ⟨a1, a2, a3⟩ | hC
      · change PoolAt F5 H5 p dp (s3.more n 5 (headT W 1 1 0)).1 at p5
        rw [a1]
        refine br_t rfl ?_
        refine newC_rowT fun H7 z7 r7 e7 => ?_
        have hnb : ¬ F5 H5.size := fun u => by have := p5.lt _ u; omega
        have nd : NodeR F5 H7 H5.size (-1) (Sl.mk none 0 0) (Sl.mk none 0 0) ⟨[], []⟩ := ⟨r7, hnb, ⟨rfl, Reads.nil _ _⟩, (fun ad u => by cases u), ⟨rfl, (fun ad u => by cases u), fun i hi => by simp at hi⟩⟩
        have T7 : Step F F5 H H7 := T5.trans (.ofExt e7)
        have hg7 : Gl H7 := ((hg3.mod e4 id).mod S5.mod p3.glob).mod e7 id
        have hkn : H3.size ≠ H5.size := by omega
        have hdrop : ∀ {F8 : Nat → Prop} {A : Heap}, Step (fun b => F5 b ∨ b = H5.size) (fun b => F8 b ∨ b = H5.size) H7 A → Step F F8 H A := fun S8 => T7.drop (by omega) S8
        refine twrite_new (t := tr0 n W) S a3 (by omega) hg7 (t5.ext e7) (p5.ext e7) k5 hkn nd (by decide) (by simp) (by simp) (by simp) (fun hN2 F8 A s8 p8 S8 I8 n8 => ?_) (fun hN2 F8 A s8 e p8 S8 h8 hB => ?_) (fun F8 A s8 e p8 S8 h8 hC => ?_)
        · refine ⟨F8, s8, p8, hdrop S8, .inl ⟨rfl, hN2, (t5.ext e7).mod S8.mod fun u => u.elim k5 hkn, fun u => ?_, I8⟩⟩
          rcases S8.own _ (.inl u) with v | v
          · exact v.elim k5 hkn
          · omega
        · exact ⟨F8, s8, p8, hdrop S8, .inr (.inl ⟨hB, hN2⟩)⟩
        · exact ⟨F8, s8, p8, hdrop S8, .inr (.inr hC)⟩
      · exact br_f (by have := (S.errC hC).1; simpa using this) ⟨F5, _, p5, T5, .inr (.inr hC)⟩
    · rcases S.full (kd := 5) (b := headT W 1 1 0) hI (by omega) hlen (by decide) hN with hB | hC
      · exact br_f (by have := (S.errB hB).1; simpa using this) ⟨F5, _, p5, T5, .inr (.inl ⟨hB, by omega⟩)⟩
      · exact br_f (by have := (S.errC hC).1; simpa using this) ⟨F5, _, p5, T5, .inr (.inr hC)⟩
  · rintro z A ⟨F', s', pA, SA, hA⟩
    rcases hA with ⟨rfl, hN, tA, kA, IA⟩ | ⟨hB, hN⟩ | hC
    · exact br_f rfl (hK1 hN F' A s' H3.size pA SA tA kA hz3 IA)
    · exact br_t (by have := (S.errB hB).1; simpa using this) (hKB hN F' A s' z pA SA hB)
    · exact br_t (by have := (S.errC hC).1; simpa using this) (hKC F' A s' z pA SA hC)

def openT (n : ByteArray) (w : Int) (kb : UInt8 × List UInt8) : Option Tr :=
  if kb.1 = 5 ∧ kb.2.length = 14 ∧ ((kb.2.getD 0 0).toNat : Int) = w ∧ kb.2.getD 1 0 ≠ 0 ∧ wordOf (u8i (kb.2.drop 6)) ≤ 528482304 then
    some ⟨n, w, of4 (kb.2.drop 2), (kb.2.getD 1 0).toNat, wordOf (u8i (kb.2.drop 6)), 0, false⟩ else none
theorem getL_oneT {b : List Int} (h : b.length = 8) : getL b 1 = [[wordOf b]] := by
  have hs : sizeL 1 = 8 := by decide
  have ho : getOK b 1 = true := by unfold getOK; rw [hs, h]; rfl
  unfold getL
  rw [if_pos ho, hs, h]
  have : (8 / (8 : Int).toNat) = 1 := by decide
  rw [this]
  unfold rowsOf
  rw [hs]
  have ht : List.take 8 b = b := List.take_of_length_le (by omega)
  simp [List.range_succ, rowOf, chunkOf, ht]

set_option maxHeartbeats 1000000 in
theorem tOpen_ok {n : ByteArray} {w : Int} {K : (Option Addr × Int) → Heap → Prop} (S : Store n q I B C) (hg : Gl H) (hp : PoolAt F H p dp s) (hI : I s x m) (hm : m < 30000000000)
    (hKw : roomL w = 0 → K (none, 60) H)
    (hKf : roomL w ≠ 0 → x.N = 0 → ∀ F' A s', PoolAt F' A p dp s' → Step F F' H A → I s' x (m + 1) → K (none, 12) A)
    (hK0 : roomL w ≠ 0 → 0 < x.N → openT n w (x.T 0) = none → ∀ F' A s', PoolAt F' A p dp s' → Step F F' H A → I s' x (m + 1) → K (none, 280) A)
    (hK1 : roomL w ≠ 0 → 0 < x.N → ∀ t, openT n w (x.T 0) = some t → ∀ F' A s' k, PoolAt F' A p dp s' → Step F F' H A → TreeB A k p t → ¬ F' k → H.size ≤ k → I s' x (m + 1) → K (at0 k, 0) A)
    (hKC : ∀ F' A s' e, PoolAt F' A p dp s' → Step F F' H A → C s' e → K (none, e) A) : tree_Open.sp (at0 p) n w H K := by
  refine tree_Open.of ?_
  unfold tree_Open.vc
  refine br_f rfl ?_
  refine rowRoom_ok ?_
  refine br_mk (fun hc => hKw (by simpa using hc)) (fun hc => ?_)
  have hr : roomL w ≠ 0 := by simpa using hc
  refine newC_rowT fun H2 z2 r2 e2 => ?_
  have t2 : TreeB H2 H.size p ⟨n, w, 0, 0, 0, 0, false⟩ := r2
  have k2 : ¬ F H.size := fun u => by have := hp.lt _ u; omega
  have T2 : Step F F H H2 := .ofExt e2
  refine tlook_ok (t := ⟨n, w, 0, 0, 0, 0, false⟩) (g := 0) S hI hm (hg.mod e2 id) t2 (hp.ext e2) k2 (by omega) (fun hN F3 H3 s3 sl p3 S3 I3 o3 f3 => ?_) (fun hN F3 H3 s3 v sl p3 S3 I3 => ?_) (fun F3 H3 s3 v sl e p3 S3 hC => ?_)
  rotate_left
  · exact br_t rfl (hKf hr (by omega) F3 H3 s3 p3 (T2.trans S3) I3)
  · exact br_t (by have := (S.errC hC).1; simpa using this) (hKC F3 H3 s3 e p3 (T2.trans S3) hC)
  refine br_f rfl ?_
  have hK0 := hK0 hr hN
  have hK1 := hK1 hr hN
  have T3 := T2.trans S3
  have hsn : sl.n = (x.T 0).2.length := SlE.n o3 (by decide)
  have by3 := SlB_byts o3
  have hcap := o3.cap
  unfold openT at hK0 hK1
  generalize x.T 0 = kb at *
  dsimp only
  have bad : ∀ A, Ext H3 A → ¬ (kb.1 = 5 ∧ kb.2.length = 14 ∧ ((kb.2.getD 0 0).toNat : Int) = w ∧ kb.2.getD 1 0 ≠ 0 ∧ wordOf (u8i (kb.2.drop 6)) ≤ 528482304) → K (none, 280) A := fun A eA hn => hK0 (if_neg hn) F3 A s3 (p3.ext eA) (T3.trans (.ofExt eA)) I3
  refine br_mk (fun hc2 => bad H3 (.refl _ _) fun u => ?_) (fun hc2 => ?_)
  · rw [u.1, hsn, u.2.1] at hc2; simp at hc2
  have h5 : kb.1 = 5 := by
    simp only [Bool.or_eq_false_iff, bne_eq_false_iff_eq] at hc2
    exact UInt8.toNat_inj.1 (by have : (kb.1.toNat : Int) = 5 := hc2.1
                                have h : (5 : UInt8).toNat = 5 := rfl
                                omega)
  have h14 : kb.2.length = 14 := by
    simp only [Bool.or_eq_false_iff, bne_eq_false_iff_eq] at hc2
    omega
  have hul : (u8i kb.2).length = 14 := by rw [u8i_length]; exact h14
  refine ints_get by3 (j := 0) rfl (by omega) fun ad0 _ => ?_
  rw [u8iD]
  have hb0 := (kb.2.getD 0 0).toNat_lt
  have hb1 := (kb.2.getD 1 0).toNat_lt
  rw [wrap64 (x := ((kb.2.getD 0 0).toNat : Int)) (by omega) (by omega)]
  refine br_mk (fun hc3 => bad H3 (.refl _ _) fun u => ?_) (fun hc3 => ?_)
  · rw [u.2.2.1] at hc3; simp at hc3
  have hwid : ((kb.2.getD 0 0).toNat : Int) = w := by simpa only [bne_eq_false_iff_eq] using hc3
  refine ints_get by3 (j := 1) rfl (by omega) fun ad1 _ => ?_
  rw [u8iD]
  refine br_mk (fun hc4 => bad H3 (.refl _ _) fun u => u.2.2.2.1 (UInt8.toNat_inj.1 (by have : ((kb.2.getD 1 0).toNat : Int) = 0 := by simpa using hc4
                                                                                        have h : (0 : UInt8).toNat = 0 := rfl
                                                                                        omega))) (fun hc4 => ?_)
  have hdep : kb.2.getD 1 0 ≠ 0 := fun u => by rw [u] at hc4; simp at hc4
  refine ⟨by omega, ?_⟩
  have hd := by3.drop hcap 6
  have hl8 : (u8i (kb.2.drop 6)).length = 8 := by rw [u8i_length, List.length_drop]; omega
  refine rowGet_ok (b := u8i (kb.2.drop 6)) hd (by show sl.n - 6 ≤ sl.c - 6; omega) (fun y hy => ?_) (by omega) fun sr rs H5 ro e5 => ?_
  · unfold u8i at hy
    obtain ⟨c, _, rfl⟩ := List.mem_map.1 hy
    have := c.toNat_lt; omega
  rw [getL_oneT hl8] at ro
  refine ro.rows.ld (i := 0) (by simp) fun ad2 x1 ha2 hx1 => ?_
  have hx1' : Ints .u64 H5 x1 [wordOf (u8i (kb.2.drop 6))] := hx1
  refine ints_get hx1' (i := 0) (j := 0) rfl (by simp) fun ad3 ha3 => ?_
  have hwr := wordOf_range (u8i (kb.2.drop 6))
  simp only [List.getD_cons_zero]
  refine br_mk (fun hc5 => bad H5 e5 fun u => ?_) (fun hc5 => ?_)
  · have : wordOf (u8i (kb.2.drop 6)) > 528482304 := by simpa using hc5
    omega
  have hcnt : wordOf (u8i (kb.2.drop 6)) ≤ 528482304 := by simpa using hc5
  have hall : kb.1 = 5 ∧ kb.2.length = 14 ∧ ((kb.2.getD 0 0).toNat : Int) = w ∧ kb.2.getD 1 0 ≠ 0 ∧ wordOf (u8i (kb.2.drop 6)) ≤ 528482304 := ⟨h5, h14, hwid, hdep, hcnt⟩
  have hK1 := hK1 _ (if_pos hall)
  refine ⟨fun D => Ext H5 D, .refl _ _, ?_⟩
  obtain ⟨ad4, q4, c4⟩ := (by3.keep fun ad _ hl => e5.same _ hl id : Byts H5 sl kb.2).at (i := 1) (by omega)
  have e41 : (u8i kb.2)[1]'(by omega) = ((kb.2.getD 1 0).toNat : Int) := by
    rw [← u8iD]; simp [List.getD, List.getElem?_eq_getElem (show 1 < (u8i kb.2).length by omega)]
  rw [e41] at c4
  refine optK_mk ad4 q4 ⟨⟨by omega, by omega⟩, ((kb.2.getD 1 0).toNat : Int), fun D hD => hD.cell c4 id, ?_⟩
  refine ⟨by omega, ?_⟩
  have hd2 : Byts H5 (Sl.mk (slA sl.a sl.c 2 1) (sl.n - 2) (sl.c - 2)) (kb.2.drop 2) := (by3.drop hcap 2).keep fun ad _ hl => e5.same _ hl id
  refine tnumber_ok hd2 (by rw [List.length_drop]; omega) ?_
  refine ⟨.refl _ _, ?_⟩
  obtain ⟨ad5, y5, q5, c5, i5⟩ := ro.rows.at' 0 (by simp)
  have i5' : Ints .u64 H5 y5 [wordOf (u8i (kb.2.drop 6))] := i5
  refine optK_mk ad5 q5 ⟨⟨by omega, by rw [ro.n]; simp⟩, y5, fun D hD => hD.cell c5 id, ?_⟩
  obtain ⟨ad6, q6, c6⟩ := i5'.at (i := 0) (by simp)
  refine optK_mk ad6 q6 ⟨⟨by omega, by rw [i5'.len]; simp⟩, wordOf (u8i (kb.2.drop 6)), fun D hD => hD.cell c6 id, ?_⟩
  have t5 : TreeB H5 H.size p ⟨n, w, 0, 0, 0, 0, false⟩ := (t2.mod S3.mod k2).ext e5
  dsimp only
  rw [wrap64 (x := ((kb.2.getD 1 0).toNat : Int)) (by omega) (by omega), wrap64 (x := wordOf (u8i (kb.2.drop 6))) (by omega) (by omega)]
  refine RowT.st t5 (i := 4) (by simp [treV]) rfl fun A1 r1 m1 z1 => ?_
  refine RowT.st r1 (i := 3) (by simp [treV]) rfl fun A2 r2' m2 z2' => ?_
  refine RowT.st r2' (i := 5) (by simp [treV]) rfl fun A3 r3 m3 z3 => ?_
  have k3 : ¬ F3 H.size := fun u => by
    rcases S3.own _ u with v | v
    · exact k2 v
    · omega
  have mm := (m1.trans m2).trans m3
  have hz3 := T3.mod.size
  have hz5 := e5.size
  refine hK1 F3 A3 s3 H.size ((p3.ext e5).offK mm k3) ⟨⟨by have := mm.size; omega, fun b hb hF => ?_⟩, T3.own⟩ ?_ k3 (Nat.le_refl _) I3
  · rw [mm.same b (by omega) (by omega), e5.same b (by omega) id]
    exact T3.mod.same b hb hF
  · have et : (((treV p ⟨n, w, 0, 0, 0, 0, false⟩).toArray.setIfInBounds 4 (.int .i64 ((kb.2.getD 1 0).toNat : Int))).setIfInBounds 3 (.int .i64 (of4 (kb.2.drop 2) : Int))).setIfInBounds 5 (.int .i64 (wordOf (u8i (kb.2.drop 6)))) = (treV p ⟨n, w, of4 (kb.2.drop 2), (kb.2.getD 1 0).toNat, wordOf (u8i (kb.2.drop 6)), 0, false⟩).toArray := by
      simp [treV]
    rw [et] at r3
    exact r3
end
end Go.Proofs.YtmdiinakfpgdjaaDoor

/-
  Trees: a tree that was made; two rows, and a cursor (works); a tree that is not there.
-/
namespace Go.Proofs.YtmdiinakfpgdjaaDoor
open Go.MapKept

/-- A tree made since 'H0'. -/
structure TT (H0 A : Heap) (F : Nat → Prop) (k p dp : Nat) (s : Pl) (t : Tr) : Prop where
  ext : Ext H0 A
  pool : PoolAt F A p dp s
  row : TreeB A k p t
  off : ¬ F k
  old : ∀ b, F b ∨ b = k → H0.size ≤ b
section
variable {H0 A B : Heap} {F F' : Nat → Prop} {k p dp : Nat} {s s' : Pl} {t t' : Tr}
theorem TT.gl (h : TT H0 A F k p dp s t) (hg : Gl H0) : Gl A := hg.mod h.ext id
theorem TT.step (h : TT H0 A F k p dp s t) (S : Step (fun b => F b ∨ b = k) (fun b => F' b ∨ b = k) A B) (hp : PoolAt F' B p dp s') (ht : TreeB B k p t') (hk : ¬ F' k) : TT H0 B F' k p dp s' t' :=
  ⟨⟨Nat.le_trans h.ext.size S.mod.size, fun b hb _ => (S.mod.same b (Nat.lt_of_lt_of_le hb h.ext.size) fun q => by have := h.old b q; omega).trans (h.ext.same b hb id)⟩, hp, ht, hk, fun b hb => by
    rcases S.own b hb with q | q
    · exact h.old b q
    · exact Nat.le_trans h.ext.size q⟩
theorem TT.grow (h : TT H0 A F k p dp s t) (e : Ext A B) : TT H0 B F k p dp s t := ⟨h.ext.trans e, h.pool.ext e, h.row.ext e, h.off, h.old⟩
end

/-- A tree of one leaf. -/
structure Leaf (x : St) (rows : List (List Int)) : Prop where
  N : x.N = 2
  T : x.T 1 = Nd.page ⟨[], rows⟩
  fine : Nd.Fine ⟨[], rows⟩ 1 1 0 span0
theorem Leaf.node {x : St} {rows : List (List Int)} (h : Leaf x rows) : x.node ((1 : Nat) : Int) 1 0 1 span0 = some ⟨[], rows⟩ := by
  unfold St.node
  rw [h.N, if_pos (by decide), h.T]
  exact h.fine.read (by decide)
theorem leaf_fine {rows : List (List Int)} (h1 : span0.holds rows = true) (h2 : ∀ l ∈ rows, l.length = 1 ∧ fitsL l) (h3 : rows.length ≤ 60) : Nd.Fine ⟨[], rows⟩ 1 1 0 span0 := by
  refine ⟨fun _ => rfl, fun h => by omega, h1, fun h => by omega, h2, by simp, ?_⟩
  rw [Nd.bytes_length (W := 1) (by decide) fun l hl => (h2 l hl).1]
  have : (sizeL ((1 : Nat) : Int)).toNat = 8 := by decide
  rw [this]; simp; omega
theorem fits1 {a : Int} (h : 0 ≤ a ∧ a < 100) : fitsL [a] := fun x hx => by simp at hx; subst hx; omega

def works0 : Nat → UInt8 × List UInt8 := fun _ => (0, [])
theorem leaf0 : Leaf (St.made ⟨0, works0⟩ 1) [] := ⟨rfl, rfl, leaf_fine (by decide) (by simp) (by simp)⟩
theorem Leaf.ins {x : St} {rows : List (List Int)} {t : Tr} {l : List Int} {q : Nat} (h : Leaf x rows) (hw : t.width = ((1 : Nat) : Int)) :
    x.ins q t 1 1 l = if sameAt rows l then .ok false t x else match x.fin ((1 : Nat) : Int) q 0 1 ⟨[], insAt (below l rows) l rows⟩ with
      | .store => .store
      | .quota => .quota
      | .ok f none x' => .ok f (t.up f) x'
      | .ok f (some m) x' => if x'.N < q then .ok f ((t.grown x'.N 2).up f) (x'.more ⟨[1, m.1], [m.2]⟩) else .quota := by
  unfold St.ins
  rw [hw, show 1 - 1 = 0 from rfl]
  unfold St.add
  rw [h.node]
  simp only
  cases hs : sameAt rows l with
  | true => rw [if_pos rfl, if_pos rfl]; try rfl
  | false => rw [if_neg (by simp), if_neg (by simp)]; try rfl
theorem Leaf.fnd {x : St} {rows : List (List Int)} {t : Tr} {l : List Int} {strict : Bool} (h : Leaf x rows) (hw : t.width = ((1 : Nat) : Int)) : x.fnd t 1 1 l strict = some (leafAt rows l strict) := by
  unfold St.fnd
  rw [hw, show 1 - 1 = 0 from rfl]
  unfold St.find
  rw [h.node]

section
variable {H : Heap} {K : Bool → Heap → Prop}
theorem one_word {A B : Heap} {v : Int} (r : RowT B A.size ty_uint64 #[.int .u64 v]) : Ints .u64 B ⟨some ⟨A.size, 0, none⟩, 1, 1⟩ [v] := by
  refine ⟨rfl, fun i u hu => ⟨_, rfl, ?_⟩⟩
  have hi : i = 0 := by have := (List.getElem?_eq_some_iff.1 hu).1; simp at this; omega
  subst hi
  simp at hu; subst hu
  rw [add_lit0]
  exact r.cell rfl

set_option maxHeartbeats 2000000 in
theorem tworks_ok (hg : Gl H) (hK : ∀ B, Ext H B → K true B) : fathomlaw09_works.sp H K := by
  refine fathomlaw09_works.of ?_
  unfold fathomlaw09_works.vc
  have hsz : nmF.size ≤ 9223372036854775807 := by decide
  have S := calm_store (n := nmF) (q := 20) (most := 8) hsz (by decide)
  refine New_ok (by decide) fun F1 d H1 a1 e1 f1 => ?_
  refine TP.new (m := 8) hg e1 a1 f1 (by decide) (by decide) fun p H2 t2 => ?_
  obtain ⟨e2, F2, p2, f2⟩ := t2
  obtain ⟨c1, c2, c3, c4⟩ := create_live (q := 20) (n := nmF) (by decide) (by decide) nmF_named
  have hcr : ((pl0 (dk0 20) 8).d.create nmF).2 = 0 := c3
  have I0 : CalmI nmF 20 8 ((pl0 (dk0 20) 8).setD ((pl0 (dk0 20) 8).d.create nmF).1) ⟨0, works0⟩ 1 :=
    ⟨⟨⟨_, pl0_told c1⟩, pl0_wf (by decide) (by decide), by intro f hf; cases hf⟩, (by show (0 : Int) ≤ 1; decide), (by show (1 : Int) ≤ 1; decide), (by show ((dk0 20).create nmF).1.logs ≤ 2; rw [c4]; decide), (by decide), (fun _ => by show ([] : List UInt8).length ≤ 504; decide), rfl⟩
  refine tNew_ok (W := 1) (m := 1) (x0 := ⟨0, works0⟩) S (by decide) (hg.mod e2 id) p2 (by decide) (fun _ => I0) (fun u => absurd hcr u) (fun _ _ F3 H3 s3 k p3 S3 t3 k3 hk3 I3 => ?_) (fun _ u => absurd (show (0 + 1 : Nat) < 20 by decide) u) (fun F3 H3 s3 e p3 S3 hC => hC.elim)
  have T3 : TT H H3 F3 k p d s3 (tr0 nmF 1) := by
    refine ⟨⟨Nat.le_trans e2.size S3.mod.size, fun b hb _ => (S3.mod.same b (Nat.lt_of_lt_of_le hb e2.size) fun q => by have := f2 b q; omega).trans (e2.same b hb id)⟩, p3, t3, k3, fun b hb => ?_⟩
    rcases hb with u | u
    · rcases S3.own b u with v | v
      · exact f2 b v
      · exact Nat.le_trans e2.size v
    · subst u; exact Nat.le_trans e2.size hk3
  refine br_f rfl (br_f rfl ?_)
  have L0 := leaf0
  generalize St.made ⟨0, works0⟩ 1 = x0 at *
  -- an insertion
  have ins : ∀ (x : St) (t : Tr) (rows : List (List Int)) (v : Int) (m : Nat) (s : Pl) (F : Nat → Prop) (A : Heap) (K' : Bool × Int → Heap → Prop) (f : Bool) (t' : Tr) (rows' : List (List Int)), Leaf x rows → t.name = nmF → t.width = 1 → t.root = 1 → t.depth = 1 → 0 ≤ t.count ∧ t.count ≤ 10 → t.ready = 0 → m ≤ 1000000 →
      CalmI nmF 20 8 s x m → TT H A F k p d s t → (0 ≤ v ∧ v < 100) → (sameAt rows [v] = true ∧ f = false ∧ t' = t ∧ rows' = rows ∨ sameAt rows [v] = false ∧ f = true ∧ t' = t.up true ∧ rows' = insAt (below [v] rows) [v] rows ∧ rows'.length ≤ 10 ∧ span0.holds rows' = true ∧ ∀ l ∈ rows', l.length = 1 ∧ fitsL l) →
      (∀ F' B s' x', TT H B F' k p d s' t' → CalmI nmF 20 8 s' x' (m + 4000) → Leaf x' rows' → K' (f, 0) B) →
      newC A #[(.int .u64 v)] ty_uint64 fun pp H4 => tree_Tree_Insert.sp (at0 k) (Sl.mk (some pp) 1 1) H4 K' := by
    intro x t rows v m s F A K' f t' rows' hL hn hw hr hd hc hrd hm hI hT hv hcase hk'
    refine newC_rowT fun A4 z4 r4 e4 => ?_
    have hT4 := hT.grow e4
    have S' : Store t.name 20 (CalmI nmF 20 8) (FullB 20) (fun _ _ => False) := by rw [hn]; exact S
    refine tInsert_ok (W := 1) (root := 1) (depth := 1) (ll := [v]) S' hw (by decide) hr hd (by decide) (by decide) (by omega) hI (by omega) (hT4.gl hg) hT4.row hT4.pool hT4.off (one_word r4) (fun u => absurd hrd u) (fun _ u => absurd rfl u) (fun _ _ f2 t2 x2 hins F5 A5 s5 p5 S5 k5 t5 I5 => ?_) (fun _ _ hins => ?_) (fun _ _ hins => ?_) (fun _ _ _ _ _ _ _ _ hC => hC.elim)
    · rw [hL.ins hw] at hins
      rcases hcase with ⟨c1, rfl, rfl, rfl⟩ | ⟨c1, rfl, rfl, rfl, c5, c6, c7⟩
      · rw [if_pos c1] at hins
        cases hins
        exact hk' F5 A5 s5 _ (hT4.step S5 p5 t5 k5) I5 hL
      · rw [if_neg (by rw [c1]; simp)] at hins
        have hnf : (⟨[], insAt (below [v] rows) [v] rows⟩ : Nd).full ((1 : Nat) : Int) 0 = false := by
          unfold Nd.full
          have e1 : roomL ((1 : Nat) : Int) = 63 := by decide
          have e2 : fanL ((1 : Nat) : Int) = 42 := by decide
          rw [e1, e2]
          simp; omega
        have hfin : x.fin ((1 : Nat) : Int) 20 0 1 ⟨[], insAt (below [v] rows) [v] rows⟩ = .ok true none (x.put 1 ⟨[], insAt (below [v] rows) [v] rows⟩) := by
          unfold St.fin
          rw [hnf]; rfl
        rw [hfin] at hins
        simp only [InsR.ok.injEq] at hins
        obtain ⟨rfl, rfl, rfl⟩ := hins
        exact hk' F5 A5 s5 _ (hT4.step S5 p5 t5 k5) I5 ⟨hL.N, setT_same x.T 1 _, leaf_fine c6 c7 (by omega)⟩
    all_goals
      intro F5 A5 s5
      exfalso
      rw [hL.ins hw] at hins
      rcases hcase with ⟨c1, _⟩ | ⟨c1, _, _, rfl, c5, _⟩
      · rw [if_pos c1] at hins; cases hins
      · rw [if_neg (by rw [c1]; simp)] at hins
        have hnf : (⟨[], insAt (below [v] rows) [v] rows⟩ : Nd).full ((1 : Nat) : Int) 0 = false := by
          unfold Nd.full
          have e1 : roomL ((1 : Nat) : Int) = 63 := by decide
          have e2 : fanL ((1 : Nat) : Int) = 42 := by decide
          rw [e1, e2]
          simp; omega
        have hfin : x.fin ((1 : Nat) : Int) 20 0 1 ⟨[], insAt (below [v] rows) [v] rows⟩ = .ok true none (x.put 1 ⟨[], insAt (below [v] rows) [v] rows⟩) := by
          unfold St.fin
          rw [hnf]; rfl
        rw [hfin] at hins
        cases hins
  have I3' : CalmI nmF 20 8 s3 x0 3 := I3
  have lenc : ∀ l ∈ ([[5], [9]] : List (List Int)), l.length = 1 ∧ fitsL l := by
    intro l hl
    simp at hl
    rcases hl with rfl | rfl
    · exact ⟨rfl, fits1 (by decide)⟩
    · exact ⟨rfl, fits1 (by decide)⟩
  refine ins x0 _ [] 9 3 s3 F3 H3 _ true _ [[9]] L0 rfl rfl rfl rfl (by decide) rfl (by decide) I3' T3 (by decide) (.inr ⟨by decide, rfl, rfl, by decide, by decide, by decide, fun l hl => lenc l (by simp at hl; simp [hl])⟩) fun F5 H5 s5 x5 T5 I5 L5 => ?_
  refine ins x5 _ [[9]] 5 _ s5 F5 H5 _ true _ [[5], [9]] L5 rfl rfl rfl rfl (by decide) rfl (by decide) I5 T5 (by decide) (.inr ⟨by decide, rfl, rfl, by decide, by decide, by decide, lenc⟩) fun F7 H7 s7 x7 T7 I7 L7 => ?_
  refine ins x7 _ [[5], [9]] 5 _ s7 F7 H7 _ false _ [[5], [9]] L7 rfl rfl rfl rfl (by decide) rfl (by decide) I7 T7 (by decide) (.inl ⟨by decide, rfl, rfl, rfl⟩) fun F9 H9 s9 x9 T9 I9 L9 => ?_
  -- the cursor
  refine newC_rowT fun H10 z10 r10 e10 => ?_
  have T10 := T9.grow e10
  have hkl := obj_lt T10.row
  refine tFrom_ok (F := F9) (one_word r10) (by simp) (fun b u => T10.pool.lt b u) hkl fun H11 cb lo e11 c11 hcb => ?_
  refine br_f rfl ?_
  have T11 := T10.grow e11
  obtain ⟨tt, htt⟩ : ∃ tt, tt = ((tr0 nmF 1).up true).up true := ⟨_, rfl⟩
  have hz10 := T10.ext.size
  rw [← htt] at T11
  have e6 : x9.fnd tt 1 1 [6] false = some (some [9]) := by rw [L9.fnd (by rw [htt]; rfl)]; decide
  have e9 : x9.fnd tt 1 1 [9] true = some none := by rw [L9.fnd (by rw [htt]; rfl)]; decide
  have S' : Store tt.name 20 (CalmI nmF 20 8) (FullB 20) (fun _ _ => False) := by rw [htt]; exact S
  have hrd : tt.ready = 0 := by rw [htt]; rfl
  refine tNext_ok (W := 1) (root := 1) (depth := 1) S' (by rw [htt]; rfl) (by decide) (by rw [htt]; rfl) (by rw [htt]; rfl) (by decide) (by decide) I9 (by decide) (T11.gl hg) T11.row T11.pool T11.off c11 (fun u => absurd hrd u) (fun _ u => by rw [e6] at u; cases u) (fun _ y hy F12 H12 s12 sl lo' p12 S12 k12 t12 c12 I12 o12 f12 => ?_) (fun _ u => by rw [e6] at u; cases u) (fun _ _ _ _ _ _ _ _ hC => hC.elim)
  rw [e6] at hy
  cases hy
  refine tNext_ok (W := 1) (root := 1) (depth := 1) S' (by rw [htt]; rfl) (by decide) (by rw [htt]; rfl) (by rw [htt]; rfl) (by decide) (by decide) I12 (by decide) ((T11.gl hg).mod S12.mod fun u => ?_) t12 p12 k12 c12 (fun u => absurd hrd u) (fun _ _ F13 H13 s13 p13 S13 k13 t13 c13 I13 => ?_) (fun _ y hy => by rw [e9] at hy; cases hy) (fun _ u => by rw [e9] at u; cases u) (fun _ _ _ _ _ _ _ _ hC => hC.elim)
  · have hgl := hg.lt
    rcases u with u | u | u
    · have := T11.old _ (.inl u); omega
    · have := T11.old _ (.inr u); omega
    · omega
  · refine br_t ?_ ?_
    · have := o12.1
      simp at this
      simp [← this]
    have i13 : Ints .u64 H13 sl [9] := o12.ints.mod S13.mod fun ad ha u => by
      have := f12 _ ⟨ad, ha, rfl⟩
      rcases u with u | u | u
      · exact this.2.1 u
      · exact this.2.2.1 u
      · exact this.2.2.2.1 u
    refine ints_get i13 (i := 0) (j := 0) rfl (by simp) fun ad ha => ?_
    refine br_t rfl ?_
    refine tCount_ok t13 ?_
    have hcnt : ((if tt.gone then 0 else tt.count) == (2 : Int)) = true := by rw [htt]; rfl
    rw [hcnt]
    refine hK H13 ⟨?_, fun b hb _ => ?_⟩
    · have h1 := T11.ext.size; have h2 := S12.mod.size; have h3 := S13.mod.size; omega
    · have h1 := T11.ext.size; have h2 := S12.mod.size
      have hb11 : ∀ c, F9 c ∨ c = k ∨ c = cb → H.size ≤ c := fun c u => by
        rcases u with u | u | u
        · exact T11.old c (.inl u)
        · exact T11.old c (.inr u)
        · omega
      rw [S13.mod.same b (by omega) fun u => by
        rcases S12.own b u with v | v
        · have := hb11 b v; omega
        · omega, S12.mod.same b (by omega) fun u => by have := hb11 b u; omega]
      exact T11.ext.same b hb id
end
end Go.Proofs.YtmdiinakfpgdjaaDoor

/-
  TreeSpoilt: any pages taken for a tree's: the walk.
-/
namespace Go.Proofs.YtmdiinakfpgdjaaDoor
open Go.MapKept

/-- A page more, of any kind; or one that stays empty, where the bytes are too many. -/
theorem Calm.newPage {p : Pl} {n : ByteArray} {N q : Nat} {T : Nat → UInt8 × List UInt8} (h : Calm p n N q T) (hN : N < q) (hq : q ≤ 1048576) (hs : n.size ≤ 9223372036854775807) (h0 : 0 ≤ p.next) (h1 : p.next < 1099511627776) {k : UInt8} {b : List UInt8} :
    (p.fresh n).2 = (p.next, (N : Int), 0) ∧ (((p.fresh n).1.set p.next k b).2 = if b.length > 504 then 2 else 0) ∧ (((p.fresh n).1.set p.next k b).1.unpin p.next).2 = 0 ∧
    Calm (((p.fresh n).1.set p.next k b).1.unpin p.next).1 n (N + 1) q (setT T N (if b.length > 504 then (0, []) else (k, b))) ∧ (((p.fresh n).1.set p.next k b).1.unpin p.next).1.next = p.next + 1 ∧ (((p.fresh n).1.set p.next k b).1.unpin p.next).1.most = p.most := by
  obtain ⟨pg, t⟩ := h.told
  obtain ⟨r1, r2, r3, r4, _, _, pg', r6⟩ := t.fresh h.wf h.roomy hN
  obtain ⟨_, _, hsub, _⟩ := t.roomy h.wf h.roomy
  have hfree : ∀ g ∈ p.room.1.fs, g.pins = [] := fun g hg => h.free g (hsub g hg)
  have hnx : (p.fresh n).1.next = p.next + 1 := by rw [r3]; exact w64_up h0 h1
  have hwf : (p.fresh n).1.WF := t.fresh_wf h.wf h.roomy hN (by omega) hs (by omega)
  generalize p.room.1.fs = l at r2 hfree
  rw [r1]
  generalize (p.fresh n).1 = s at *
  refine ⟨rfl, ?_⟩
  have hi : s.fs[l.length]? = some ⟨n, N, 0, [], false, [p.next], 0⟩ := by rw [r2]; simp
  by_cases hb : b.length > 504
  · rw [if_pos hb, if_pos hb]
    have e : s.set p.next k b = (s, 2) := by
      unfold Pl.set
      rw [if_neg (by rw [r6.wrong]; simp)]
      have hh : s.held p.next = some l.length := Pl.held_eq hwf hi (by simp)
      rw [hh]
      simp only
      rw [if_pos hb]
    rw [e]
    obtain ⟨b1, b2, b3, b4⟩ := Calm.back hwf ⟨pg', r6⟩ r2 rfl hfree (by omega)
    exact ⟨rfl, b1, b2, by rw [← hnx]; exact b3, b4.trans r4⟩
  · rw [if_neg hb, if_neg hb]
    obtain ⟨s1, s2⟩ := r6.set hwf hi (x := p.next) (k := k) (b := b) (by simp) (by omega)
    have hw2 := hwf.set p.next k b
    rw [s1] at hw2 ⊢
    have e2 : (s.turn l.length (Fr.set k b)).fs = l ++ [⟨n, N, k, b, true, [p.next], 0⟩] := by
      show s.fs.modify _ _ = _
      rw [r2, modify_last]; rfl
    have et : setT (setT T N (0, [])) N (k, b) = setT T N (k, b) := by
      funext j
      by_cases e : j = N
      · subst e; rw [setT_same, setT_same]
      · rw [setT_other e, setT_other e, setT_other e]
    have s2' : Told (s.turn l.length (Fr.set k b)) n (N + 1) q (setT (setT T N (0, [])) N (k, b)) pg' := s2
    rw [et] at s2'
    obtain ⟨b1, b2, b3, b4⟩ := Calm.back (x := p.next) hw2 ⟨pg', s2'⟩ e2 rfl hfree (by show s.next < _; omega)
    exact ⟨rfl, b1, b2, b3.trans hnx, b4.trans r4⟩

/-- A tree over pages of any kind. -/
structure Sp (H0 A : Heap) (F : Nat → Prop) (k p dp : Nat) (s : Pl) (t : Tr) (W j : Nat) : Prop where
  tt : TT H0 A F k p dp s t
  gone : t.gone = false
  deep : 1 ≤ t.depth
  free : ∀ f ∈ s.fs, f.pins = []
  next : s.next < 1099511627776
  st : (t.wrong = 0 ∧ ∃ (x : St) (m root depth count : Nat), CalmI nmF 100 8 s x m ∧ m ≤ 1000 + j * 2000000 ∧ t = ⟨nmF, W, root, depth, count, 0, false⟩ ∧ 1 ≤ depth ∧ depth ≤ 255 + j ∧ root ≤ 5000000000 ∧ count ≤ 1000000000 + j) ∨ (t.wrong ≠ 0 ∧ (t.wrong = 5 → s.d.used = s.d.quota))

section
variable {H0 A : Heap} {F : Nat → Prop} {k p dp : Nat} {s : Pl} {t : Tr} {W j : Nat} {l : Sl} {ll : List Int}
theorem nmF_small : nmF.size ≤ 9223372036854775807 := by decide
theorem spStore (t : Tr) (h : t.name = nmF) : Store t.name 100 (CalmI nmF 100 8) (FullB 100) (fun _ _ => False) := by rw [h]; exact calm_store nmF_small (by decide)
theorem CalmI.next {n : ByteArray} {q most : Nat} {x : St} {m : Nat} (h : CalmI n q most s x m) (hm : m ≤ 1000000000000) : s.next < 1099511627776 := by have := h.hi; omega
theorem Sp.broken (h : Sp H0 A F k p dp s t W j) (hw : t.wrong ≠ 0) : t.ready = t.wrong := by unfold Tr.ready; rw [if_pos hw]
theorem Sp.whole (h : Sp H0 A F k p dp s t W j) (hw : t.wrong = 0) : t.ready = 0 := by unfold Tr.ready; rw [if_neg (by simpa using hw), h.gone]; rfl

theorem Sp.has {K : (Bool × Int) → Heap → Prop} (h : Sp H0 A F k p dp s t W j) (hg : Gl H0) (hW : W ≤ 16) (hj : j ≤ 700) (hl : Ints .u64 A l ll) (hlo : OffI F A l ll)
    (hK : ∀ b e F' B s' t', Sp H0 B F' k p dp s' t' W (j + 1) → Step (fun b => F b ∨ b = k) (fun b => F' b ∨ b = k) A B → (b = true → e = 0) → K (b, e) B) : tree_Tree_Has.sp (at0 k) l A K := by
  have ht := h.tt
  rcases h.st with ⟨h1, x, m, root, depth, count, hI, hm, ht0, hd1, hd2, hr, hc⟩ | ⟨h1, h2⟩
  · have hrd := h.whole h1
    have hm1 : m ≤ 1000 + (j + 1) * 2000000 := Nat.le_trans hm (Nat.add_le_add_left (Nat.mul_le_mul_right _ (Nat.le_succ j)) _)
    have same : ∀ m', m' ≤ 1000 + (j + 1) * 2000000 → ∀ F' B s', TT H0 B F' k p dp s' t → CalmI nmF 100 8 s' x m' → Sp H0 B F' k p dp s' t W (j + 1) := fun m' hm' F' B s' tB IB => ⟨tB, h.gone, h.deep, IB.calm.free, IB.next (by omega), .inl ⟨h1, x, m', root, depth, count, IB, hm', ht0, hd1, by omega, hr, by omega⟩⟩
    refine tHas_ok (W := W) (root := root) (depth := depth) (spStore t (by rw [ht0])) (by rw [ht0]) hW (by rw [ht0]) (by rw [ht0]) ⟨hd1, by omega⟩ (by omega) hI (by omega) (ht.gl hg) ht.row ht.pool ht.off hl hlo (fun u => absurd hrd u) (fun _ _ => ?_) (fun _ _ o _ F' B s' p1 S1 _ k1 t1 I1 => ?_) (fun _ _ _ F' B s' p1 S1 k1 t1 I1 => ?_) (fun _ _ _ _ _ _ _ _ hC => hC.elim)
    · have hs := same m hm1 F A s ht hI
      exact hK _ _ F A s t hs (Step.refl _ _) (fun u => by cases u)
    · exact hK _ _ F' B s' t (same _ (by omega) F' B s' (ht.step S1 p1 t1 k1) I1) S1 (fun _ => rfl)
    · exact hK _ _ F' B s' _ ⟨ht.step S1 p1 t1 k1, h.gone, h.deep, I1.calm.free, I1.next (by omega), .inr ⟨by show (280 : Int) ≠ 0; decide, fun u => by exact absurd (show (280 : Int) = 5 from u) (by decide)⟩⟩ S1 (fun u => by cases u)
  · have hrd : t.ready ≠ 0 := by rw [h.broken h1]; exact h1
    refine tree_Tree_Has.of ?_
    unfold tree_Tree_Has.vc
    refine tready_ok ht.row ?_
    refine br_t (by simpa using hrd) ?_
    exact hK _ _ F A s t ⟨ht, h.gone, h.deep, h.free, h.next, .inr ⟨h1, h2⟩⟩ (.refl _ _) (fun u => by cases u)

theorem Sp.insert {K : (Bool × Int) → Heap → Prop} (h : Sp H0 A F k p dp s t W j) (hg : Gl H0) (hW : W ≤ 16) (hj : j ≤ 700) (hl : Ints .u64 A l ll)
    (hK : ∀ b e F' B s' t', Sp H0 B F' k p dp s' t' W (j + 1) → Step (fun b => F b ∨ b = k) (fun b => F' b ∨ b = k) A B → (e = 280 → t'.wrong = 280) → (e = 5 → s'.d.used = s'.d.quota ∧ t'.wrong ≠ 0) → K (b, e) B) : tree_Tree_Insert.sp (at0 k) l A K := by
  have ht := h.tt
  rcases h.st with ⟨h1, x, m, root, depth, count, hI, hm, ht0, hd1, hd2, hr, hc⟩ | ⟨h1, h2⟩
  · have hrd := h.whole h1
    have hxN : x.N ≤ 100 := hI.le
    have hm1 : m ≤ 1000 + (j + 1) * 2000000 := Nat.le_trans hm (Nat.add_le_add_left (Nat.mul_le_mul_right _ (Nat.le_succ j)) _)
    refine tInsert_ok (W := W) (root := root) (depth := depth) (spStore t (by rw [ht0])) (by rw [ht0]) hW (by rw [ht0]) (by rw [ht0]) ⟨hd1, by omega⟩ (by omega) (by rw [ht0]; exact ⟨by simp, by show (count : Int) ≤ _; omega⟩) hI (by omega) (ht.gl hg) ht.row ht.pool ht.off hl (fun u => absurd hrd u) (fun _ _ => ?_) (fun _ _ f t' x' hins F' B s' p1 S1 k1 t1 I1 => ?_) (fun _ _ _ F' B s' p1 S1 k1 t1 I1 => ?_) (fun _ _ _ F' B s' e p1 S1 k1 t1 hB => ?_) (fun _ _ _ _ _ _ _ _ hC => hC.elim)
    · exact hK _ _ F A s t ⟨ht, h.gone, h.deep, h.free, h.next, .inl ⟨h1, x, m, root, depth, count, hI, hm1, ht0, hd1, by omega, hr, by omega⟩⟩ (Step.refl _ _) (fun u => by cases u) (fun u => by cases u)
    · have key : t'.gone = false ∧ t'.wrong = 0 ∧ ∃ root' depth' count' : Nat, t' = ⟨nmF, W, root', depth', count', 0, false⟩ ∧ 1 ≤ depth' ∧ depth' ≤ 255 + (j + 1) ∧ root' ≤ 5000000000 ∧ count' ≤ 1000000000 + (j + 1) := by
        have hup : ∀ (u : Tr) (f : Bool) (r d : Nat), u = ⟨nmF, W, r, d, count, 0, false⟩ → 1 ≤ d → d ≤ 255 + (j + 1) → r ≤ 5000000000 → (u.up f).gone = false ∧ (u.up f).wrong = 0 ∧ ∃ root' depth' count' : Nat, u.up f = ⟨nmF, W, root', depth', count', 0, false⟩ ∧ 1 ≤ depth' ∧ depth' ≤ 255 + (j + 1) ∧ root' ≤ 5000000000 ∧ count' ≤ 1000000000 + (j + 1) := by
          intro u f r d hu q1 q2 q3
          subst hu
          cases f with
          | true => exact ⟨rfl, rfl, r, d, count + 1, rfl, q1, q2, q3, by omega⟩
          | false => exact ⟨rfl, rfl, r, d, count, rfl, q1, q2, q3, by omega⟩
        unfold St.ins at hins
        split at hins
        · cases hins
        · cases hins
        · cases hins
          exact hup t _ root depth ht0 hd1 (by omega) hr
        · rename_i x2 hadd
          split at hins
          · rename_i hN
            cases hins
            refine hup _ _ x2.N (depth + 1) (by rw [ht0]; rfl) (by omega) (by omega) (by omega)
          · cases hins
      obtain ⟨g1, g2, root', depth', count', g3, g4, g5, g6, g7⟩ := key
      refine hK _ _ F' B s' t' ⟨ht.step S1 p1 t1 k1, g1, by rw [g3]; show (1 : Int) ≤ (depth' : Int); omega, I1.calm.free, I1.next (by omega), .inl ⟨g2, x', _, root', depth', count', I1, by omega, g3, g4, g5, g6, g7⟩⟩ S1 (fun u => by cases u) (fun u => by cases u)
    · exact hK _ _ F' B s' _ ⟨ht.step S1 p1 t1 k1, h.gone, h.deep, I1.calm.free, I1.next (by omega), .inr ⟨by show (280 : Int) ≠ 0; decide, fun u => by exact absurd (show (280 : Int) = 5 from u) (by decide)⟩⟩ S1 (fun _ => rfl) (fun u => by cases u)
    · have he := hB.err
      refine hK _ _ F' B s' _ ⟨ht.step S1 p1 t1 k1, h.gone, h.deep, hB.free, hB.next, .inr ⟨by show e ≠ 0; rw [he]; decide, fun _ => by rw [hB.used, hB.quota]⟩⟩ S1 (fun u => by rw [he] at u; cases u) (fun _ => ⟨by rw [hB.used, hB.quota], by show e ≠ 0; rw [he]; decide⟩)
  · have hrd : t.ready ≠ 0 := by rw [h.broken h1]; exact h1
    refine tree_Tree_Insert.of ?_
    unfold tree_Tree_Insert.vc
    refine tready_ok ht.row ?_
    refine br_t (by simpa using hrd) ?_
    refine hK _ _ F A s t ⟨ht, h.gone, h.deep, h.free, h.next, .inr ⟨h1, h2⟩⟩ (.refl _ _) (fun u => ?_) (fun u => ?_)
    · rw [h.broken h1] at u; exact u
    · rw [h.broken h1] at u; exact ⟨h2 u, h1⟩

theorem Sp.fromNext {K : (Sl × Bool × Int) → Heap → Prop} (h : Sp H0 A F k p dp s t W j) (hg : Gl H0) (hW : W ≤ 16) (hj : j ≤ 700) (hl : Ints .u64 A l ll) (hlen : ll.length ≤ 17592186044416)
    (hK : ∀ r b e F' B s' t', Sp H0 B F' k p dp s' t' W (j + 1) → Ext H0 B → (t.wrong = 280 → e = 280) → (s.d.used = s.d.quota → t.wrong ≠ 0 → s' = s) → K (r, b, e) B) :
    tree_Tree_From.sp (at0 k) l A fun (r_9 : Option Addr) H15 => tree_Cursor_Next.sp r_9 H15 K := by
  have ht := h.tt
  have hkl := obj_lt ht.row
  refine tFrom_ok (F := F) hl hlen (fun b u => ht.pool.lt b u) hkl fun A1 cb lo e1 c1 hcb => ?_
  have t1 := ht.grow e1
  have hzA := ht.ext.size
  have fr : ∀ {F' : Nat → Prop} {B : Heap} {s' : Pl} {t' : Tr}, PoolAt F' B p dp s' → Step (fun b => F b ∨ b = k ∨ b = cb) (fun b => F' b ∨ b = k ∨ b = cb) A1 B → ¬ F' k → TreeB B k p t' → TT H0 B F' k p dp s' t' := by
    intro F' B s' t' p1 S1 k1 tB
    have old : ∀ b, F b ∨ b = k ∨ b = cb → H0.size ≤ b := fun b u => by
      rcases u with u | u | u
      · exact ht.old b (.inl u)
      · exact ht.old b (.inr u)
      · omega
    refine ⟨⟨by have := t1.ext.size; have := S1.mod.size; omega, fun b hb _ => ?_⟩, p1, tB, k1, fun b hb => ?_⟩
    · have hz1 := t1.ext.size
      rw [S1.mod.same b (by omega) fun u => by have := old b u; omega]
      exact t1.ext.same b hb id
    · rcases S1.own b (hb.imp id .inl) with v | v
      · exact old b v
      · have := t1.ext.size; omega
  rcases h.st with ⟨h1, x, m, root, depth, count, hI, hm, ht0, hd1, hd2, hr, hc⟩ | ⟨h1, h2⟩
  · have hrd := h.whole h1
    have ok : ∀ {F' : Nat → Prop} {B : Heap} {s' : Pl}, TT H0 B F' k p dp s' t → CalmI nmF 100 8 s' x (m + 1000000) → Sp H0 B F' k p dp s' t W (j + 1) := fun tB IB => ⟨tB, h.gone, h.deep, IB.calm.free, IB.next (by omega), .inl ⟨h1, x, _, root, depth, count, IB, by omega, ht0, hd1, by omega, hr, by omega⟩⟩
    refine tNext_ok (W := W) (root := root) (depth := depth) (spStore t (by rw [ht0])) (by rw [ht0]) hW (by rw [ht0]) (by rw [ht0]) ⟨hd1, by omega⟩ (by omega) hI (by omega) (t1.gl hg) t1.row t1.pool t1.off c1 (fun u => absurd hrd u) (fun _ _ F' B s' p1 S1 k1 tB _ I1 => ?_) (fun _ y _ F' B s' sl lo' p1 S1 k1 tB _ I1 _ _ => ?_) (fun _ _ F' B s' p1 S1 k1 tB _ I1 => ?_) (fun _ _ _ _ _ _ _ _ hC => hC.elim)
    · have tt := fr p1 S1 k1 tB
      exact hK _ _ _ F' B s' t (ok tt I1) tt.ext (fun u => by rw [h1] at u; cases u) (fun _ u => absurd h1 u)
    · have tt := fr p1 S1 k1 tB
      exact hK _ _ _ F' B s' t (ok tt I1) tt.ext (fun u => by rw [h1] at u; cases u) (fun _ u => absurd h1 u)
    · have tt := fr p1 S1 k1 tB
      exact hK _ _ _ F' B s' _ ⟨tt, h.gone, h.deep, I1.calm.free, I1.next (by omega), .inr ⟨by show (280 : Int) ≠ 0; decide, fun u => by exact absurd (show (280 : Int) = 5 from u) (by decide)⟩⟩ tt.ext (fun _ => rfl) (fun _ u => absurd h1 u)
  · have hrd : t.ready ≠ 0 := by rw [h.broken h1]; exact h1
    refine tree_Cursor_Next.of ?_
    unfold tree_Cursor_Next.vc
    refine br_f rfl ?_
    simp only [optK_eq]
    refine RowT.ld (c := cPtr) (i := 0) (x := at0 k) c1.row rfl ?_
    refine tready_ok t1.row ?_
    refine br_t (by simpa using hrd) ?_
    exact hK _ _ _ F A1 s t ⟨t1, h.gone, h.deep, h.free, h.next, .inr ⟨h1, h2⟩⟩ t1.ext (fun u => by rw [h.broken h1]; exact u) (fun _ _ => rfl)
end
end Go.Proofs.YtmdiinakfpgdjaaDoor

/-
  TreeSpoilt: the whole of it: the walk.
-/
namespace Go.Proofs.YtmdiinakfpgdjaaDoor
open Go.MapKept

/-- Lists in a slice of slices. -/
structure ListsAt (k : IntKind) (H : Heap) (s : Sl) (ls : List (List Int)) : Prop where
  len : s.n = ls.length
  at' : ∀ i (h : i < ls.length), ∃ ad r, s.a = some ad ∧ hCell H (ad.add i) = some (Sl.v r) ∧ Ints k H r ls[i]
theorem ListsAt.ld {k : IntKind} {H H' : Heap} {s : Sl} {ls : List (List Int)} (h : ListsAt k H s ls) (e : Ext H H') {i : Nat} (hi : i < ls.length) {K : Addr → Sl → Prop} (hK : ∀ ad r, s.a = some ad → Ints k H' r (ls.getD i []) → (ls.getD i [] ≠ [] → ∀ a, r.a = some a → a.block < H.size) → K ad r) :
    optK s.a fun a => (0 ≤ (i : Int) ∧ (i : Int) < (s.n : Int)) ∧ Go.Proofs.YtmdiinakfpgdjaaDoor.ld cSl H' (a.add ((i : Int).toNat * 1)) fun x => K a x := by
  obtain ⟨ad, r, q1, q2, q3⟩ := h.at' i hi
  rw [getDo hi] at hK
  refine optK_mk ad q1 ⟨⟨by omega, by rw [h.len]; omega⟩, r, ?_, hK ad r q1 (q3.ext e) fun hne a ha => ?_⟩
  · simp only [Int.toNat_natCast, Nat.mul_one]; exact e.cell q2 id
  · obtain ⟨a', e1, e2⟩ := q3.at (i := 0) (List.length_pos_iff.2 hne)
    rw [ha] at e1; cases e1
    have := hCell_lt e2
    rwa [add_block] at this

set_option maxHeartbeats 4000000 in
theorem TreeSpoilt_ok {pages kinds rows : Sl} {width : Int} {pl rl : List (List Int)} {kl : List Int} {H : Heap} {K : Bool → Heap → Prop} (hg : Gl H) (hp : ListsAt .u8 H pages pl) (hpb : ∀ l ∈ pl, ∀ x ∈ l, 0 ≤ x ∧ x < 256) (hk : Ints .u8 H kinds kl) (hkb : ∀ x ∈ kl, 0 ≤ x ∧ x < 256)
    (hr : ListsAt .u64 H rows rl) (hrl : ∀ l ∈ rl, l.length ≤ 17592186044416) (hK : ∀ B, Ext H B → K true B) : fathomlaw09_TreeSpoilt.sp pages kinds width rows H K := by
  refine fathomlaw09_TreeSpoilt.of ?_
  unfold fathomlaw09_TreeSpoilt.vc
  have hpn := hp.len
  have hrn := hr.len
  have hkn := hk.len
  refine br_mk (fun _ => hK H (.refl _ _)) (fun hc => ?_)
  have hpl : pl.length ≤ 20 ∧ rl.length ≤ 40 := by
    simp only [Bool.or_eq_false_iff, decide_eq_false_iff_not] at hc
    omega
  refine New_ok (by decide) fun F1 d H1 a1 e1 f1 => ?_
  refine TP.new (m := 8) hg e1 a1 f1 (by decide) (by decide) fun p H2 t2 => ?_
  obtain ⟨c1, c2, c3, c4⟩ := create_live (q := 100) (n := nmF) (by decide) (by decide) nmF_named
  obtain ⟨D, d1, d2⟩ := t2.disk hg
  refine Create_ok (n := nmF) d1 fun D' H3 d4 S4 => ?_
  have t3 := d2 _ D' H3 d4 S4
  have I0 : CalmI nmF 100 8 ((pl0 (dk0 100) 8).setD ((pl0 (dk0 100) 8).d.create nmF).1) ⟨0, works0⟩ 1 :=
    ⟨⟨⟨_, pl0_told c1⟩, pl0_wf (by decide) (by decide), by intro f hf; cases hf⟩, (by show (0 : Int) ≤ 1; decide), (by show (1 : Int) ≤ 1; decide), (by show ((dk0 100).create nmF).1.logs ≤ 2; rw [c4]; decide), (by decide), (fun _ => by show ([] : List UInt8).length ≤ 504; decide), rfl⟩
  generalize (pl0 (dk0 100) 8).setD ((pl0 (dk0 100) 8).d.create nmF).1 = s0 at *
  refine loop_upto pl.length (fun i z A => z = (i : Int) ∧ ∃ s x, TP H A p d s ∧ CalmI nmF 100 8 s x (1 + 2 * i) ∧ x.N = i) ⟨rfl, s0, ⟨0, works0⟩, t3, I0, rfl⟩ ?_
  rintro i z A next hi ⟨rfl, s, x, tA, IA, hxN⟩ hnext
  refine br_mk (fun hc2 => ?_) (fun hc2 => ?_)
  · have hlt : i < pl.length := by have : (i : Int) < (pages.n : Int) := by simpa using hc2
                                   omega
    have hN : x.N < 100 := by omega
    have hlo := IA.lo
    have hhi := IA.hi
    have hlg := IA.logs
    obtain ⟨r1, _⟩ := IA.calm.newPage (k := 0) (b := []) hN (by decide) nmF_small hlo (by omega)
    refine TP.fresh tA hg nmF_small (by omega) (by omega) IA.calm.fit r1 fun A1 tA1 => ?_
    -- the kind
    refine ⟨fun z D => A1 = D ∧ ∃ kd : UInt8, z = (kd.toNat : Int), ?_, ?_⟩
    · refine br_mk (fun hc3 => ?_) (fun hc3 => ?_)
      · have hik : i < kl.length := by have : (i : Int) < (kinds.n : Int) := by simpa using hc3
                                       omega
        refine ints_get (hk.ext tA1.1) rfl hik fun ad _ => ?_
        have hb : 0 ≤ kl.getD i 0 ∧ kl.getD i 0 < 256 := by
          simp only [List.getD, List.getElem?_eq_getElem hik, Option.getD_some]
          exact hkb _ (List.getElem_mem hik)
        exact ⟨rfl, UInt8.ofNat (kl.getD i 0).toNat, (ofNat_toNat hb).symm⟩
      · exact ⟨rfl, 3, rfl⟩
    rintro _ _ ⟨rfl, kd, rfl⟩
    refine hp.ld tA1.1 hlt fun ad r _ hr1 _ => ?_
    have hbb : ∀ y ∈ pl.getD i [], 0 ≤ y ∧ y < 256 := by rw [getDo hlt]; exact hpb _ (List.getElem_mem hlt)
    have hby : Byts A1 r (bytesI (pl.getD i [])) := by
      unfold Byts
      rw [u8i_bytesI hbb]; exact hr1
    obtain ⟨_, r2, r3, r4, r5, r6⟩ := IA.calm.newPage (k := kd) (b := bytesI (pl.getD i [])) hN (by decide) nmF_small hlo (by omega)
    have hrN := hr1.len
    have hnx1 : ((s.fresh nmF).1.set s.next kd (bytesI (pl.getD i []))).1.next < 9223372036854775807 := by
      rw [Pl.set_next]
      have := Pl.fresh_next (s := s) (n := nmF) hlo (by omega)
      omega
    have hl2 : (((s.fresh nmF).1.set s.next kd (bytesI (pl.getD i []))).1.unpin s.next).1.d.logs ≤ s.d.logs + 2 := by
      rw [Pl.unpin_d, Pl.set_d]; exact s.fresh_logs nmF
    refine TP.put tA1 hg hby r2 fun A2 tA2 => ?_
    have hlen : (bytesI (pl.getD i [])).length = r.n := by rw [bytesI_length, hrN]
    rw [hlen] at r2 ⊢
    generalize hT : setT x.T x.N (if (bytesI (pl.getD i [])).length > 504 then (0, []) else (kd, bytesI (pl.getD i []))) = T' at *
    have hI' : CalmI nmF 100 8 (((s.fresh nmF).1.set s.next kd (bytesI (pl.getD i []))).1.unpin s.next).1 ⟨x.N + 1, T'⟩ (1 + 2 * (i + 1)) := by
      refine ⟨r4, by rw [r5]; omega, by rw [r5]; omega, by omega, by show x.N + 1 ≤ 100; omega, fun j => ?_, r6.trans IA.most⟩
      rw [← hT]
      refine setT_room IA.room ?_ j
      split
      · simp
      · rename_i hn
        show (bytesI (pl.getD i [])).length ≤ 504
        omega
    have fin : pool_Pool_Unpin.sp (at0 p) s.next A2 fun (r_4 : Int) H9 => br (r_4 != (0 : Int)) (K false H9) (next (IntKind.i64.wrap ((i : Int) + (1 : Int))) H9) := by
      refine TP.unpin tA2 hg hnx1 r3 fun A3 tA3 => ?_
      refine br_f rfl ?_
      exact hnext hlt _ _ ⟨succ64 i (by omega), _, _, tA3, hI', by show x.N + 1 = i + 1; omega⟩
    refine br_t rfl ?_
    refine br_mk (fun hc4 => ?_) (fun hc4 => ?_)
    · have hbig : r.n > 504 := by
        by_cases q : r.n > 504
        · exact q
        · rw [if_neg q] at hc4; simp at hc4
      refine hp.ld tA2.1 hlt fun ad2 r' _ hr2 _ => ?_
      have hr2n := hr2.len
      refine br_f (by simp; omega) fin
    · exact fin
  -- the tree
  have hge : i = pl.length := by have : ¬ (i : Int) < (pages.n : Int) := by simpa using hc2
                                 omega
  have S := calm_store (n := nmF) (q := 100) (most := 8) nmF_small (by decide)
  obtain ⟨eA, F, pA, fA⟩ := tA
  have hgA := hg.mod eA id
  have works : ∀ B, Ext H B → fathomlaw09_works.sp B fun (r_6 : Bool) H11 => K r_6 H11 := fun B eB => tworks_ok (hg.mod eB id) fun B' e' => hK B' (eB.trans e')
  have toExt : ∀ {F' : Nat → Prop} {B : Heap}, Step F F' A B → Ext H B := fun S' => ⟨by have := eA.size; have := S'.mod.size; omega, fun b hb _ => by
    have := eA.size
    rw [S'.mod.same b (by omega) fun u => by have := fA b u; omega]
    exact eA.same b hb id⟩
  refine tOpen_ok (n := nmF) S hgA pA IA (by omega) (fun _ => ?_) (fun _ _ F' B s' p1 S1 _ => ?_) (fun _ _ _ F' B s' p1 S1 _ => ?_) (fun hroom _ t ht F' B s' k p1 S1 t1 k1 hk1 I1 => ?_) (fun _ _ _ _ _ _ hC => hC.elim)
  · exact br_t rfl (br_t rfl (works A eA))
  · exact br_t rfl (br_t rfl (works B (toExt S1)))
  · exact br_t rfl (br_t rfl (works B (toExt S1)))
  refine br_f rfl ?_
  obtain ⟨W, hW, hWw⟩ : ∃ W : Nat, W ≤ 16 ∧ width = (W : Int) := by
    have : sizeL width ≠ 0 := by
      intro u
      unfold roomL at hroom
      rw [if_pos u] at hroom
      exact hroom rfl
    unfold sizeL at this
    split at this
    · exact absurd rfl this
    · exact ⟨width.toNat, by omega, by omega⟩
  have T1 : TT H B F' k p d s' t := ⟨toExt S1, p1, t1, k1, fun b hb => by
    rcases hb with u | u
    · rcases S1.own b u with v | v
      · exact fA b v
      · have := eA.size; omega
    · have := eA.size; omega⟩
  have sp0 : Sp H B F' k p d s' t W 0 := by
    unfold openT at ht
    split at ht
    · rename_i hcnd
      cases ht
      have h1 := (x.T 0).2.getD 1 0 |>.toNat_lt
      have h2 := of4_lt ((x.T 0).2.drop 2)
      have h3 := wordOf_range (u8i ((x.T 0).2.drop 6))
      have h4 := hcnd.2.2.2.2
      have h5 : ((x.T 0).2.getD 1 0).toNat ≠ 0 := fun u => hcnd.2.2.2.1 (UInt8.toNat_inj.1 u)
      refine ⟨T1, rfl, by show (1 : Int) ≤ (((x.T 0).2.getD 1 0).toNat : Int); omega, I1.calm.free, I1.next (by omega), .inl ⟨rfl, x, _, of4 ((x.T 0).2.drop 2), ((x.T 0).2.getD 1 0).toNat, (wordOf (u8i ((x.T 0).2.drop 6))).toNat, I1, by omega, ?_, by omega, by omega, by omega, by omega⟩⟩
      have e1 : ((wordOf (u8i ((x.T 0).2.drop 6))).toNat : Int) = wordOf (u8i ((x.T 0).2.drop 6)) := by omega
      rw [e1, hWw]
    · cases ht
  refine loop_upto rl.length (fun i z A => z = (i : Int) ∧ ∃ F s t, Sp H A F k p d s t W (3 * i)) ⟨rfl, F', s', t, sp0⟩ ?_
  rintro j z A2 next2 hj ⟨rfl, F2, s2, tt2, sp2⟩ hnext2
  refine br_mk (fun hc5 => ?_) (fun hc5 => ?_)
  · have hlt : j < rl.length := by have : (j : Int) < (rows.n : Int) := by simpa using hc5
                                   omega
    have hll : (rl.getD j []).length ≤ 17592186044416 := by rw [getDo hlt]; exact hrl _ (List.getElem_mem hlt)
    refine hr.ld sp2.tt.ext hlt fun ad r _ hr1 hrb => ?_
    have hoff : OffI F2 A2 r (rl.getD j []) := fun hne ad ha => by
      have h1 := hrb hne ad ha
      have h2 := sp2.tt.ext.size
      exact ⟨by omega, fun u => by have := sp2.tt.old _ (.inl u); omega⟩
    refine sp2.has hg hW (by omega) hr1 hoff fun b e F3 A3 s3 t3 sp3 S3 hbe => ?_
    refine hr.ld sp3.tt.ext hlt fun ad2 r2 _ hr2 _ => ?_
    refine sp3.insert hg hW (by omega) hr2 fun b4 e4 F4 A4 s4 t4 sp4 S4' h280 h5 => ?_
    refine hr.ld sp4.tt.ext hlt fun ad5 r5 _ hr5 _ => ?_
    refine sp4.fromNext hg hW (by omega) hr5 hll fun r6 b6 e6 F6 A6 s6 t6 sp6 x6 g280 gs => ?_
    refine br_t ?_ ?_
    · cases b with
      | true => rw [hbe rfl]; cases hq : (e4 == (280 : Int)) with
        | true => have : e6 = 280 := g280 (h280 (by simpa using hq))
                  rw [this]; rfl
        | false => rfl
      | false => cases hq : (e4 == (280 : Int)) with
        | true => have : e6 = 280 := g280 (h280 (by simpa using hq))
                  rw [this]; rfl
        | false => rfl
    have more : next2 (IntKind.i64.wrap ((j : Int) + (1 : Int))) A6 := hnext2 hlt _ _ ⟨succ64 j (by omega), F6, s6, t6, sp6⟩
    refine br_mk (fun hc6 => ?_) (fun _ => more)
    have he5 : e4 = 5 := by simpa using hc6
    obtain ⟨hu, hw4⟩ := h5 he5
    have hs6 : s6 = s4 := gs hu hw4
    obtain ⟨D6, q6, _, _⟩ := PoolAt.disk (hg.mod x6 id) sp6.tt.pool
    refine Used_ok q6 ?_
    refine Quota_ok q6 ?_
    rw [hs6, hu]
    exact br_f (by simp) more
  · have hge2 : j = rl.length := by have : ¬ (j : Int) < (rows.n : Int) := by simpa using hc5
                                    omega
    refine tDepth_ok sp2.tt.row ?_
    rw [sp2.gone]
    have hdp := sp2.deep
    refine br_t (by simpa using hdp) ?_
    refine Pinned_ok sp2.tt.pool (by have := sp2.next; omega) fun A3 e3 => ?_
    have h0 : s2.pinned = 0 := by
      unfold Pl.pinned
      rw [List.length_eq_zero_iff, List.filter_eq_nil_iff]
      intro f hf
      rw [sp2.free f hf]; simp
    rw [h0]
    refine br_t rfl ?_
    exact works A3 (sp2.tt.ext.trans e3)
end Go.Proofs.YtmdiinakfpgdjaaDoor
