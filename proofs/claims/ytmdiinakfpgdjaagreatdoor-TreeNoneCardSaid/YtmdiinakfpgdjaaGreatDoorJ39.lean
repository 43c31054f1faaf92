/-
  TreeNone: for every input the law returns true, and its arguments read as before; the table of the page's sum is laid as the program's text lays it. No condition beside that.
-/
import Derived.Test.YtmdiinakfpgdjaaGreatDoorPkp
import Derived.Test.YtmdiinakfpgdjaaGreatDoorFxn
import Derived.Test.YtmdiinakfpgdjaaGreatDoorFxt
import Derived.Test.YtmdiinakfpgdjaaGreatDoorJ32
import Derived.Test.YtmdiinakfpgdjaaGreatDoorJ35
import Derived.Test.YtmdiinakfpgdjaaGreatDoorJ38
/-
  Trees: Insert: the walk.
-/
namespace Go.Proofs.YtmdiinakfpgdjaaGreatDoor
open Go.MapKept

def Tr.ready (t : Tr) : Int := if t.wrong ≠ 0 then t.wrong else if t.gone then 2 else 0
def Tr.broke (t : Tr) (e : Int) : Tr := { t with wrong := e }
def Tr.up (t : Tr) (f : Bool) : Tr := if f then { t with count := t.count + 1 } else t
inductive InsR where
  | store
  | quota
  | ok (fresh : Bool) (t : Tr) (x : St)
def Tr.grown (t : Tr) (root depth : Nat) : Tr := { t with root := (root : Int), depth := (depth : Int) }
/-- A row is put in, in plain words. -/
def St.ins (x : St) (q : Nat) (t : Tr) (root depth : Nat) (ll : List Int) : InsR :=
  match x.add t.width q depth ll (depth - 1) root span0 with
  | .store => .store
  | .quota => .quota
  | .ok f none x' => .ok f (t.up f) x'
  | .ok f (some m) x' => if x'.N < q then .ok f ((t.grown x'.N (depth + 1)).up f) (x'.more ⟨[root, m.1], [m.2]⟩) else .quota

section
variable {H : Heap} {k p dp : Nat} {t : Tr} {F : Nat → Prop} {s : Pl} {q : Nat} {I : Pl → St → Nat → Prop} {B C : Pl → Int → Prop} {x : St} {m : Nat} {W root depth : Nat} {ll : List Int} {l : Sl}

theorem tready_ok {K : Int → Heap → Prop} (h : TreeB H k p t) (hK : K t.ready H) : tree_Tree_ready.sp (at0 k) H K := by
  refine tree_Tree_ready.of ?_
  unfold tree_Tree_ready.vc
  unfold Tr.ready at hK
  refine br_f rfl ?_
  simp only [optK_eq, at0]
  refine RowT.ld (c := cInt .i64) (i := 6) (x := t.wrong) h rfl ?_
  refine br_mk (fun hc => ?_) (fun hc => ?_)
  · rw [if_pos (by simpa using hc)] at hK
    exact RowT.ld (c := cInt .i64) (i := 6) (x := t.wrong) h rfl hK
  · rw [if_neg (by simpa using hc)] at hK
    refine RowT.ld (c := cBool) (i := 7) (x := t.gone) h rfl ?_
    cases hg : t.gone with
    | true => rw [hg, if_pos rfl] at hK; exact hK
    | false => rw [hg, if_neg (by simp)] at hK; exact hK
theorem tmet_ok {e : Int} {K : Int → Heap → Prop} (h : TreeB H k p t) (he : e ≠ 0) (hK : ∀ A, TreeB A k p (t.broke e) → Mod (fun b => b = k) H A → A.size = H.size → K e A) : tree_Tree_met.sp (at0 k) e H K := by
  refine tree_Tree_met.of ?_
  unfold tree_Tree_met.vc
  refine br_t (by simpa using he) ?_
  simp only [optK_eq, at0]
  exact RowT.st h (i := 6) (by simp [treV]) rfl fun A r m z => hK A r m z
theorem tmet_zero {K : Int → Heap → Prop} (hK : K 0 H) : tree_Tree_met.sp (at0 k) 0 H K := by
  refine tree_Tree_met.of ?_
  unfold tree_Tree_met.vc
  exact br_f rfl hK
theorem tclone_ok {H : Heap} {s : Sl} {l : List Int} {K : Sl → Heap → Prop} (h : Ints .u64 H s l) (hl : l.length ≤ 1000000)
    (hK : ∀ s' H', Owns H' 0 ty_uint64 1 s' (l.map (Value.int .u64)) → Ext H H' → (∀ b, ownB s' b → H.size ≤ b) → K s' H') : slices_Clone_sl_uint64_uint64.sp s H K := by
  refine slices_Clone_sl_uint64_uint64.of ?_
  unfold slices_Clone_sl_uint64_uint64.vc
  have hn := h.len
  refine br_mk (fun hc => ?_) (fun hc => ?_)
  · have hl0 : l = [] := by
      cases l with
      | nil => rfl
      | cons x r =>
        obtain ⟨ad, e, _⟩ := h.at (i := 0) (by simp)
        rw [e] at hc; simp at hc
    subst hl0
    exact hK nilT H (Owns.nil _ _ _ _) (.refl _ _) fun b u => absurd u (nilT_own b)
  · refine Owns.emptyB fun H1 o1 e1 => ?_
    refine elU64.append (base := 0) (s := ⟨some ⟨H.size, 0, none⟩, 0, 0⟩) (x := s) (ws := l.map (Value.int .u64)) o1 (by simp; omega) (h.ext e1).reads (intsOne _ _) (by simp only; omega) (by simp only; omega) (Nat.zero_le _) ?_
    intro s' H2 n2 o2 m2 b2 _
    have f1 : ∀ b, ownB (Sl.mk (some ⟨H.size, 0, none⟩) 0 0) b → H.size ≤ b := by
      rintro b ⟨ad, ha, rfl⟩
      cases ha; exact Nat.le_refl _
    refine hK s' H2 (by simpa using o2) (((Ext.mod e1).trans m2).ext f1) fun b u => ?_
    rcases b2 b u with v | v
    · exact f1 b v
    · have := e1.size; omega

theorem Step.all {F : Nat → Prop} {A B : Heap} {k : Nat} (m : Mod (fun b => b = k) A B) : Step (fun b => F b ∨ b = k) (fun b => F b ∨ b = k) A B := ⟨m.mono fun _ _ u => .inr u, fun _ u => .inl u⟩
theorem PoolAt.offK {F : Nat → Prop} {A B : Heap} {k p dp : Nat} {s : Pl} (h : PoolAt F A p dp s) (m : Mod (fun b => b = k) A B) (hk : ¬ F k) : PoolAt F B p dp s := h.keep fun b hb hl => m.same b hl fun u => hk (u ▸ hb)
set_option maxHeartbeats 4000000 in
theorem tInsert_ok {K : (Bool × Int) → Heap → Prop} (S : Store t.name q I B C) (hw : t.width = (W : Int)) (hW : W ≤ 16) (hr : t.root = (root : Int)) (hd : t.depth = (depth : Int)) (hd1 : 1 ≤ depth ∧ depth ≤ 1000) (hroot : root ≤ 1000000000000) (hcnt : 0 ≤ t.count ∧ t.count ≤ 1000000000000)
    (hI : I s x m) (hm : m + 4000 ≤ 30000000000) (hg : Gl H) (ht : TreeB H k p t) (hp : PoolAt F H p dp s) (hk : ¬ F k) (hl : Ints .u64 H l ll) (hlen : ll.length ≤ 1000000)
    (hK0 : t.ready ≠ 0 → K (false, t.ready) H) (hKw : t.ready = 0 → ll.length ≠ W → K (false, 60) H)
    (hK1 : t.ready = 0 → ll.length = W → ∀ f t' x', x.ins q t root depth ll = .ok f t' x' → ∀ F' A s', PoolAt F' A p dp s' → Step (fun b => F b ∨ b = k) (fun b => F' b ∨ b = k) H A → ¬ F' k → TreeB A k p t' → I s' x' (m + 4000) → K (f, 0) A)
    (hK2 : t.ready = 0 → ll.length = W → x.ins q t root depth ll = .store → ∀ F' A s', PoolAt F' A p dp s' → Step (fun b => F b ∨ b = k) (fun b => F' b ∨ b = k) H A → ¬ F' k → TreeB A k p (t.broke 280) → I s' x (m + 4000) → K (false, 280) A)
    (hKB : t.ready = 0 → ll.length = W → x.ins q t root depth ll = .quota → ∀ F' A s' e, PoolAt F' A p dp s' → Step (fun b => F b ∨ b = k) (fun b => F' b ∨ b = k) H A → ¬ F' k → TreeB A k p (t.broke e) → B s' e → K (false, e) A)
    (hKC : ∀ F' A s' e, PoolAt F' A p dp s' → Step (fun b => F b ∨ b = k) (fun b => F' b ∨ b = k) H A → ¬ F' k → TreeB A k p (t.broke e) → C s' e → K (false, e) A) : tree_Tree_Insert.sp (at0 k) l H K := by
  refine tree_Tree_Insert.of ?_
  unfold tree_Tree_Insert.vc
  refine tready_ok ht ?_
  refine br_mk (fun hc => hK0 (by simpa using hc)) (fun hc => ?_)
  have hrd : t.ready = 0 := by simpa using hc
  clear hK0
  unfold at0
  simp only [optK_eq]
  refine RowT.ld (c := cInt .i64) (i := 2) (x := t.width) ht rfl ?_
  have hln := hl.len
  rw [hw]
  refine br_mk (fun hc2 => hKw hrd (by have : (l.n : Int) ≠ (W : Int) := by simpa using hc2
                                       omega)) (fun hc2 => ?_)
  have hlw : ll.length = W := by have : (l.n : Int) = (W : Int) := by simpa using hc2
                                 omega
  clear hKw
  have hK1 := hK1 hrd hlw
  have hK2 := hK2 hrd hlw
  have hKB := hKB hrd hlw
  have hkl := obj_lt ht
  refine ⟨fun D => Ext H D, .refl _ _, ?_⟩
  refine RowT.ldC (c := cInt .i64) (i := 3) (x := t.root) (cs := fun _ => (treV p t).toArray) (fun D hD => ht.ext hD) (fun _ _ => rfl) ?_
  refine RowT.ldC (c := cInt .i64) (i := 4) (x := t.depth) (cs := fun _ => (treV p t).toArray) (fun D hD => ht.ext hD) (fun _ _ => rfl) ?_
  refine tclone_ok hl hlen fun cl H2 o2 e2 f2 => ?_
  refine ⟨e2, ?_⟩
  rw [hr, hd]
  have ed : IntKind.i64.wrap ((depth : Int) - 1) = ((depth - 1 : Nat) : Int) := by rw [wrap64 (by omega) (by omega)]; omega
  rw [ed]
  have T2 : Step F F H H2 := .ofExt e2
  have p2 := hp.ext e2
  have cOk : RowOk F H2 cl ll := ⟨fun ad ha => ⟨(o2.block _ ⟨ad, ha, rfl⟩).2, fun u => by have := hp.lt _ u; have := f2 _ ⟨ad, ha, rfl⟩; omega⟩, o2.ints⟩
  -- the ends
  have tail0 : ∀ (f : Bool) (t1 : Tr) (A : Heap) (K' : (Bool × Int) → Heap → Prop), TreeB A k p t1 → (0 ≤ t1.count ∧ t1.count ≤ 1000000000000) → (∀ A', TreeB A' k p (t1.up f) → Mod (fun b => b = k) A A' → K' (f, 0) A') →
      br ((0 : Int) != (0 : Int)) (tree_Tree_met.sp (at0 k) 0 A fun (r_2 : Int) H17 => K' (false, r_2) H17) (br f (ld (cInt .i64) A (Addr.add ⟨k, 0, none⟩ 5) fun (x_9 : Int) => st A (Addr.add ⟨k, 0, none⟩ 5) (.int .i64 (IntKind.i64.wrap (x_9 + (1 : Int)))) fun H18 => K' (f, (0 : Int)) H18) (K' (f, (0 : Int)) A)) := by
    intro f t1 A K' h1 hc1 hk'
    refine br_f rfl ?_
    cases f with
    | true =>
      refine br_t rfl ?_
      refine RowT.ld (c := cInt .i64) (i := 5) (x := t1.count) h1 rfl ?_
      rw [wrap64 (x := t1.count + 1) (by omega) (by omega)]
      refine RowT.st h1 (i := 5) (by simp [treV]) rfl fun A' r m' z => hk' A' r m'
    | false => exact br_f rfl (hk' A h1 (.refl _ _))
  have tailE : ∀ (f : Bool) (e : Int) (A : Heap) (M : Prop), e ≠ 0 → TreeB A k p t → (∀ A', TreeB A' k p (t.broke e) → Mod (fun b => b = k) A A' → K (false, e) A') →
      br (e != (0 : Int)) (tree_Tree_met.sp (at0 k) e A fun (r_2 : Int) H17 => K (false, r_2) H17) M := by
    intro f e A M he h1 hk'
    exact br_t (by simpa using he) (tmet_ok h1 he fun A' r m' _ => hk' A' r m')
  have stepK : ∀ {F3 : Nat → Prop} {H3 : Heap}, Step F F3 H2 H3 → Step (fun b => F b ∨ b = k) (fun b => F3 b ∨ b = k) H H3 := fun S3 => (T2.trans S3).with k
  have offK : ∀ {F3 : Nat → Prop} {H3 : Heap}, Step F F3 H2 H3 → ¬ F3 k := fun S3 u => (S3.own _ u).elim hk fun v => by have := e2.size; omega
  have span : SpanAt F H2 (Sl.mk none 0 0) (Sl.mk none 0 0) span0 := ⟨rfl, rfl⟩
  unfold St.ins at hK1 hK2 hKB
  refine tadd_ok (l := cl) (ll := ll) S hw hW hd hlw (depth - 1) root span0 _ _ F H2 s m _ hI (by omega) (by omega) (hg.mod e2 id) (ht.ext e2) p2 hk hroot span cOk (fun f o x' hra F3 H3 s3 p3 S3 I3 => ?_) (fun hra F3 H3 s3 p3 S3 I3 => ?_) (fun hra F3 H3 s3 e f o up p3 S3 hB => ?_) (fun F3 H3 s3 e f o up p3 S3 hC => ?_)
  rotate_left
  · have t3 : TreeB H3 k p t := (ht.ext e2).mod S3.mod hk
    refine ⟨fun z A => z = 280 ∧ A = H3, br_f rfl ⟨rfl, rfl⟩, ?_⟩
    rintro _ A ⟨rfl, rfl⟩
    refine tailE false 280 A _ (by decide) t3 fun A' tA mA => ?_
    rw [hra] at hK2
    exact hK2 rfl F3 A' s3 (p3.offK mA (offK S3)) ((stepK S3).trans (Step.all (F := F3) mA)) (offK S3) tA (S.up I3 (by omega))
  · have t3 : TreeB H3 k p t := (ht.ext e2).mod S3.mod hk
    have he := (S.errB hB).1
    refine ⟨fun z A => z = e ∧ A = H3, br_f (by simpa using he) ⟨rfl, rfl⟩, ?_⟩
    rintro _ A ⟨rfl, rfl⟩
    refine tailE f _ A _ he t3 fun A' tA mA => ?_
    rw [hra] at hKB
    exact hKB rfl F3 A' s3 _ (p3.offK mA (offK S3)) ((stepK S3).trans (Step.all (F := F3) mA)) (offK S3) tA hB
  · have t3 : TreeB H3 k p t := (ht.ext e2).mod S3.mod hk
    have he := (S.errC hC).1
    refine ⟨fun z A => z = e ∧ A = H3, br_f (by simpa using he) ⟨rfl, rfl⟩, ?_⟩
    rintro _ A ⟨rfl, rfl⟩
    refine tailE f _ A _ he t3 fun A' tA mA => ?_
    exact hKC F3 A' s3 _ (p3.offK mA (offK S3)) ((stepK S3).trans (Step.all (F := F3) mA)) (offK S3) tA hC
  rw [hra] at hK1 hKB
  have t3 : TreeB H3 k p t := (ht.ext e2).mod S3.mod hk
  cases o with
  | none =>
    unfold AddK
    dsimp only
    refine ⟨fun z A => z = 0 ∧ A = H3, br_t rfl (br_f rfl ⟨rfl, rfl⟩), ?_⟩
    rintro _ A ⟨rfl, rfl⟩
    refine tail0 f t A K t3 hcnt fun A' tA mA => ?_
    exact hK1 f (t.up f) x' rfl F3 A' s3 (p3.offK mA (offK S3)) ((stepK S3).trans (Step.all (F := F3) mA)) (offK S3) tA (S.up I3 (by omega))
  | some pu =>
    obtain ⟨pg, ul⟩ := pu
    unfold AddK
    intro hul mb v1 v2 up rmb hmbF hmbz upOk
    dsimp only at hK1 hKB ⊢
    have hg3 : Gl H3 := (hg.mod e2 id).mod S3.mod p2.glob
    have kOff := offK S3
    have hzz := S3.mod.size
    have hz2 := e2.size
    have hmbk : mb ≠ k := by omega
    -- the new root
    have tops : ∀ (J : Int → Heap → Prop) (H7 : Heap) (tb : Nat) (sk sr : Sl), Ext H3 H7 → RowT H7 tb ty_tree_node #[.int .i64 (-1), sk.v, sr.v] → H3.size ≤ tb → ¬ F3 tb →
        Ints .i64 H7 sk ([root, pg].map Int.ofNat) → Off (fun b => F3 b ∨ b = tb) H7 sk → RowsN (fun b => F3 b ∨ b = tb) H7 sr [ul] →
        (x'.N < q → ∀ F8 A s8, PoolAt F8 A p dp s8 → Step (fun b => F b ∨ b = k) (fun b => F8 b ∨ b = k) H A → ¬ F8 k → TreeB A k p (t.grown x'.N (depth + 1)) → I s8 (x'.more ⟨[root, pg], [ul]⟩) (m + 4000) → J 0 A) →
        (∀ F8 A s8 e, PoolAt F8 A p dp s8 → Step (fun b => F b ∨ b = k) (fun b => F8 b ∨ b = k) H A → ¬ F8 k → TreeB A k p t → (B s8 e ∧ ¬ x'.N < q) ∨ C s8 e → J e A) →
        tree_Tree_write.sp (some ⟨k, 0, none⟩) (some ⟨tb, 0, none⟩) H7 fun (e_1 : Int) H8 => br (e_1 == (0 : Int)) (ld (cInt .i64) H8 (Addr.add ⟨tb, 0, none⟩ 0) fun (x_5 : Int) => st H8 (Addr.add ⟨k, 0, none⟩ 3) (.int .i64 x_5) fun H9 => ld (cInt .i64) H9 (Addr.add ⟨k, 0, none⟩ 4) fun (x_6 : Int) => st H9 (Addr.add ⟨k, 0, none⟩ 4) (.int .i64 (IntKind.i64.wrap (x_6 + (1 : Int)))) fun H10 => J e_1 H10) (J e_1 H8) := by
      intro J H7 tb sk sr e7 rtb htb hFtb hkd hko hrows hJ0 hJe
      have t7 : TreeB H7 k p t := t3.ext e7
      have hkt : k ≠ tb := by omega
      have nt : NodeR F3 H7 tb (-1) sk sr ⟨[root, pg], [ul]⟩ := ⟨rtb, hFtb, hkd, hko, hrows⟩
      have hs := sizeL_cases (W : Int)
      have hbl : (Nd.bytes ⟨[root, pg], [ul]⟩).length ≤ 504 := by
        rw [Nd.bytes_length hW (by intro y hy; simp at hy; subst hy; exact hul)]
        simp; omega
      have S7 : Step F F3 H2 H7 := S3.trans (.ofExt e7)
      have dropK : ∀ {F8 : Nat → Prop} {A : Heap}, Step (fun b => F3 b ∨ b = tb) (fun b => F8 b ∨ b = tb) H7 A → Step F F8 H2 A := fun S8 => S7.drop (by omega) S8
      have hNpre := (S.pre I3).2.2.2.2.1
      refine twrite_new S I3 (by omega) (hg3.mod e7 id) t7 (p3.ext e7) kOff hkt nt hbl (by simp) (by simp) (by intro y hy; simp at hy; subst hy; rw [hul]; exact hW) (fun hN F8 H8 s8 p8 S8 I8 n8 => ?_) (fun hN F8 H8 s8 e p8 S8 hF8 hB => ?_) (fun F8 H8 s8 e p8 S8 hF8 hC => ?_)
      · refine br_t rfl ?_
        have t8 : TreeB H8 k p t := t7.mod S8.mod fun u => u.elim kOff hkt
        refine RowT.ld (c := cInt .i64) (i := 0) (x := (x'.N : Int)) n8.row rfl ?_
        refine RowT.st t8 (i := 3) (by simp [treV]) rfl fun H9 r9 m9 z9 => ?_
        refine RowT.ld (c := cInt .i64) (i := 4) (x := t.depth) r9 (by simp [treV]) ?_
        rw [hd, succ64 _ (by omega)]
        refine RowT.st r9 (i := 4) (by simp [treV]) rfl fun H10 r10 m10 z10 => ?_
        have mm := m9.trans m10
        have S8' := dropK S8
        refine hJ0 hN F8 H10 s8 (p8.offK mm (offK S8')) ((stepK S8').trans (Step.all (F := F8) mm)) (offK S8') ?_ (S.up I8 (by omega))
        have et : ((treV p t).toArray.setIfInBounds 3 (.int .i64 (x'.N : Int))).setIfInBounds 4 (.int .i64 ((depth + 1 : Nat) : Int)) = (treV p (t.grown x'.N (depth + 1))).toArray := by
          simp [treV, Tr.grown]
        rw [et] at r10
        exact r10
      · have S8' := dropK S8
        refine br_f (by have := (S.errB hB).1; simpa using this) ?_
        exact hJe F8 H8 s8 e p8 (stepK S8') (offK S8') (t7.mod S8.mod fun u => u.elim kOff hkt) (.inl ⟨hB, hN⟩)
      · have S8' := dropK S8
        refine br_f (by have := (S.errC hC).1; simpa using this) ?_
        exact hJe F8 H8 s8 e p8 (stepK S8') (offK S8') (t7.mod S8.mod fun u => u.elim kOff hkt) (.inr hC)
    obtain ⟨JJ, hJJ⟩ : ∃ JJ : Int → Heap → Prop, ∀ z A, JJ z A ↔ ∃ F8 s8, PoolAt F8 A p dp s8 ∧ Step (fun b => F b ∨ b = k) (fun b => F8 b ∨ b = k) H A ∧ ¬ F8 k ∧ ((z = 0 ∧ x'.N < q ∧ TreeB A k p (t.grown x'.N (depth + 1)) ∧ I s8 (x'.more ⟨[root, pg], [ul]⟩) (m + 4000)) ∨ (TreeB A k p t ∧ ((B s8 z ∧ ¬ x'.N < q) ∨ C s8 z))) := ⟨_, fun _ _ => Iff.rfl⟩
    have hJ0 : x'.N < q → ∀ F8 A s8, PoolAt F8 A p dp s8 → Step (fun b => F b ∨ b = k) (fun b => F8 b ∨ b = k) H A → ¬ F8 k → TreeB A k p (t.grown x'.N (depth + 1)) → I s8 (x'.more ⟨[root, pg], [ul]⟩) (m + 4000) → JJ 0 A := fun hN F8 A s8 p8 S8 hF8 t8 I8 => (hJJ 0 A).2 ⟨F8, s8, p8, S8, hF8, .inl ⟨rfl, hN, t8, I8⟩⟩
    have hJe : ∀ F8 A s8 e, PoolAt F8 A p dp s8 → Step (fun b => F b ∨ b = k) (fun b => F8 b ∨ b = k) H A → ¬ F8 k → TreeB A k p t → (B s8 e ∧ ¬ x'.N < q) ∨ C s8 e → JJ e A := fun F8 A s8 e p8 S8 hF8 t8 hb => (hJJ e A).2 ⟨F8, s8, p8, S8, hF8, .inr ⟨t8, hb⟩⟩
    have upB : ∀ A, Ext H3 A → ∀ ad, up.a = some ad → ad.block < H3.size ∧ ¬ F3 ad.block := fun A eA ad ha => ⟨(upOk.off ad ha).1, fun u => (upOk.off ad ha).2 (.inl u)⟩
    refine ⟨JJ, ?_, ?_⟩
    · refine br_t rfl (br_t rfl ?_)
      refine ⟨fun D => Ext H3 D, .refl _ _, ?_⟩
      refine RowT.ldC (c := cInt .i64) (i := 3) (x := t.root) (cs := fun _ => (treV p t).toArray) (fun D hD => t3.ext hD) (fun _ _ => rfl) ?_
      simp only [optK_eq]
      refine RowT.ldC (c := cInt .i64) (i := 0) (x := (pg : Int)) (cs := fun _ => #[.int .i64 (pg : Int), v1, v2]) (fun D hD => rmb.ext hD) (fun _ _ => rfl) ?_
      rw [hr]
      have ek : #[Value.int .i64 (root : Int), Value.int .i64 (pg : Int)] = (([root, pg].map Int.ofNat).map (Value.int .i64)).toArray := rfl
      rw [ek]
      -- both orders
      constructor
      · refine newC_ints _ fun pk H5 z5 q5 a5 e5 => ⟨e5, ?_⟩
        refine newC_varT fun pr H6 q6 z6 v6 e6 => ⟨e5.trans e6, ?_⟩
        refine newC_rowT fun H7 z7 r7 e7 => ⟨(e5.trans e6).trans e7, ?_⟩
        have e37 := (e5.trans e6).trans e7
        have v7 := v6.ext e7
        refine tops JJ H7 H6.size ⟨some pk, 2, 2⟩ ⟨some pr, 1, 1⟩ e37 r7 (by omega) (fun u => by have := p3.lt _ u; omega) (((a5 2).ext e6).ext e7) (fun ad ha => ?_) ⟨rfl, fun ad ha => ?_, fun i hi => ?_⟩ hJ0 hJe
        · cases ha; exact ⟨by omega, fun u => u.elim (fun w => by have := p3.lt _ w; omega) fun w => by omega⟩
        · cases ha; exact ⟨by omega, fun u => u.elim (fun w => by have := p3.lt _ w; omega) fun w => by omega⟩
        · have hi0 : i = 0 := by simp at hi; omega
          subst hi0
          refine ⟨pr, up, rfl, v7.var.cell, fun ad ha => ?_, upOk.ints.ext e37⟩
          have := upB H7 e37 ad ha
          exact ⟨by omega, fun u => u.elim this.2 fun w => by omega⟩
      · refine newC_varT fun pr H5 q5 z5 v5 e5 => ⟨e5, ?_⟩
        refine newC_ints _ fun pk H6 z6 q6 a6 e6 => ⟨e5.trans e6, ?_⟩
        refine newC_rowT fun H7 z7 r7 e7 => ⟨(e5.trans e6).trans e7, ?_⟩
        have e37 := (e5.trans e6).trans e7
        have v7 := (v5.ext e6).ext e7
        refine tops JJ H7 H6.size ⟨some pk, 2, 2⟩ ⟨some pr, 1, 1⟩ e37 r7 (by omega) (fun u => by have := p3.lt _ u; omega) ((a6 2).ext e7) (fun ad ha => ?_) ⟨rfl, fun ad ha => ?_, fun i hi => ?_⟩ hJ0 hJe
        · cases ha; exact ⟨by omega, fun u => u.elim (fun w => by have := p3.lt _ w; omega) fun w => by omega⟩
        · cases ha; exact ⟨by omega, fun u => u.elim (fun w => by have := p3.lt _ w; omega) fun w => by omega⟩
        · have hi0 : i = 0 := by simp at hi; omega
          subst hi0
          refine ⟨pr, up, rfl, v7.var.cell, fun ad ha => ?_, upOk.ints.ext e37⟩
          have := upB H7 e37 ad ha
          exact ⟨by omega, fun u => u.elim this.2 fun w => by omega⟩
    · intro z A hz
      obtain ⟨F8, s8, p8, S8, hF8, hcase⟩ := (hJJ z A).1 hz
      rcases hcase with ⟨rfl, hN, t8, I8⟩ | ⟨t8, hb⟩
      · rw [if_pos hN] at hK1
        refine tail0 f _ A K t8 hcnt fun A' tA mA => ?_
        exact hK1 f _ _ rfl F8 A' s8 (p8.offK mA hF8) (S8.trans (Step.all (F := F8) mA)) hF8 tA I8
      · have he : z ≠ 0 := by
          rcases hb with hb | hb
          · exact (S.errB hb.1).1
          · exact (S.errC hb).1
        refine tailE f z A _ he t8 fun A' tA mA => ?_
        rcases hb with ⟨hb, hN⟩ | hb
        · rw [if_neg hN] at hKB
          exact hKB rfl F8 A' s8 z (p8.offK mA hF8) (S8.trans (Step.all (F := F8) mA)) hF8 tA hb
        · exact hKC F8 A' s8 z (p8.offK mA hF8) (S8.trans (Step.all (F := F8) mA)) hF8 tA hb
end
end Go.Proofs.YtmdiinakfpgdjaaGreatDoor

/-
  Trees: Has, From, Next, Count, Depth: the walk; a tree that is not there.
-/
namespace Go.Proofs.YtmdiinakfpgdjaaGreatDoor
open Go.MapKept

section
variable {H : Heap} {k p dp : Nat} {t : Tr} {F : Nat → Prop} {s : Pl} {q : Nat} {I : Pl → St → Nat → Prop} {B C : Pl → Int → Prop} {x : St} {m : Nat} {W root depth : Nat} {ll : List Int} {l : Sl}

def St.fnd (x : St) (t : Tr) (root depth : Nat) (ll : List Int) (strict : Bool) : Option (Option (List Int)) := (x.find t.width depth ll strict (depth - 1) root span0).2
theorem fnd_cost (S : Store t.name q I B C) (hI : I s x m) (hd1 : 1 ≤ depth ∧ depth ≤ 1000) {strict : Bool} : (x.find t.width depth ll strict (depth - 1) root span0).1 ≤ 1000000 := by
  have h := find_cost (x := x) (w := t.width) (low := ll) (strict := strict) (S.pre hI).2.2.2.2.2 (depth - 1) root span0 (show depth - 1 < depth by omega)
  have h2 : (depth - 1 + 1) * (depth - 1 + 1) ≤ 1000 * 1000 := Nat.mul_le_mul (by omega) (by omega)
  omega

/-! ### Cursors -/

structure CurB (H : Heap) (F : Nat → Prop) (k cb : Nat) (lo : Sl) (ll : List Int) (strict : Bool) : Prop where
  row : RowT H cb ty_tree_Cursor #[.pointer (at0 k), lo.v, .bool strict]
  ints : Ints .u64 H lo ll
  off : Off (fun b => F b ∨ b = k ∨ b = cb) H lo
  cb : ¬ F cb ∧ cb ≠ k
theorem tFrom_ok {K : Option Addr → Heap → Prop} (hl : Ints .u64 H l ll) (hlen : ll.length ≤ 1000000) (hF : ∀ b, F b → b < H.size) (hkl : k < H.size)
    (hK : ∀ A cb lo, Ext H A → CurB A F k cb lo ll false → H.size ≤ cb → K (some ⟨cb, 0, none⟩) A) : tree_Tree_From.sp (at0 k) l H K := by
  refine tree_Tree_From.of ?_
  unfold tree_Tree_From.vc
  refine br_f rfl ?_
  refine tclone_ok hl hlen fun cl H1 o1 e1 f1 => ?_
  refine newC_rowT fun H2 z2 r2 e2 => ?_
  have hz := e1.size
  refine hK H2 H1.size cl (e1.trans e2) ⟨r2, (o1.ext e2).ints, fun ad ha => ?_, fun u => by have := hF _ u; omega, by omega⟩ (by omega)
  have h1 := (o1.block _ ⟨ad, ha, rfl⟩).2
  have h2 := f1 _ ⟨ad, ha, rfl⟩
  exact ⟨by omega, fun u => by
    rcases u with u | u | u
    · have := hF _ u; omega
    · omega
    · omega⟩

set_option maxHeartbeats 1000000 in
theorem tNext_ok {K : (Sl × Bool × Int) → Heap → Prop} {cb : Nat} {lo : Sl} {strict : Bool} (S : Store t.name q I B C) (hw : t.width = (W : Int)) (hW : W ≤ 16) (hr : t.root = (root : Int)) (hd : t.depth = (depth : Int)) (hd1 : 1 ≤ depth ∧ depth ≤ 1000) (hroot : root ≤ 1000000000000)
    (hI : I s x m) (hm : m + 1000000 ≤ 30000000000) (hg : Gl H) (ht : TreeB H k p t) (hp : PoolAt F H p dp s) (hk : ¬ F k) (hc : CurB H F k cb lo ll strict)
    (hK0 : t.ready ≠ 0 → K (nilT, false, t.ready) H)
    (hK1 : t.ready = 0 → x.fnd t root depth ll strict = some none → ∀ F' A s', PoolAt F' A p dp s' → Step (fun b => F b ∨ b = k ∨ b = cb) (fun b => F' b ∨ b = k ∨ b = cb) H A → ¬ F' k → TreeB A k p t → CurB A F' k cb lo ll strict → I s' x (m + 1000000) → K (nilT, false, 0) A)
    (hK3 : t.ready = 0 → ∀ y, x.fnd t root depth ll strict = some (some y) → ∀ F' A s' sl lo', PoolAt F' A p dp s' → Step (fun b => F b ∨ b = k ∨ b = cb) (fun b => F' b ∨ b = k ∨ b = cb) H A → ¬ F' k → TreeB A k p t → CurB A F' k cb lo' y true → I s' x (m + 1000000) →
      Owns A 0 ty_uint64 1 sl (y.map (Value.int .u64)) → (∀ b, ownB sl b → H.size ≤ b ∧ ¬ F' b ∧ b ≠ k ∧ b ≠ cb ∧ ¬ ownB lo' b) → K (sl, true, 0) A)
    (hK2 : t.ready = 0 → x.fnd t root depth ll strict = none → ∀ F' A s', PoolAt F' A p dp s' → Step (fun b => F b ∨ b = k ∨ b = cb) (fun b => F' b ∨ b = k ∨ b = cb) H A → ¬ F' k → TreeB A k p (t.broke 280) → CurB A F' k cb lo ll strict → I s' x (m + 1000000) → K (nilT, false, 280) A)
    (hKC : ∀ F' A s' e, PoolAt F' A p dp s' → Step (fun b => F b ∨ b = k ∨ b = cb) (fun b => F' b ∨ b = k ∨ b = cb) H A → ¬ F' k → TreeB A k p (t.broke e) → C s' e → K (nilT, false, e) A) : tree_Cursor_Next.sp (some ⟨cb, 0, none⟩) H K := by
  refine tree_Cursor_Next.of ?_
  unfold tree_Cursor_Next.vc
  refine br_f rfl ?_
  simp only [optK_eq]
  refine RowT.ld (c := cPtr) (i := 0) (x := at0 k) hc.row rfl ?_
  refine tready_ok ht ?_
  refine br_mk (fun hc2 => hK0 (by simpa using hc2)) (fun hc2 => ?_)
  have hrd : t.ready = 0 := by simpa using hc2
  have hkl := obj_lt ht
  have hcl := obj_lt hc.row
  unfold at0
  simp only [optK_eq]
  refine RowT.ld (c := cInt .i64) (i := 3) (x := t.root) ht rfl ?_
  refine RowT.ld (c := cInt .i64) (i := 4) (x := t.depth) ht rfl ?_
  refine RowT.ld (c := cSl) (i := 1) (x := lo) hc.row rfl ?_
  refine RowT.ld (c := cBool) (i := 2) (x := strict) hc.row rfl ?_
  rw [hr, hd]
  have ed : IntKind.i64.wrap ((depth : Int) - 1) = ((depth - 1 : Nat) : Int) := by rw [wrap64 (by omega) (by omega)]; omega
  rw [ed]
  have hcost := fnd_cost (root := root) (ll := ll) (strict := strict) S hI hd1
  have span : SpanAt F H (Sl.mk none 0 0) (Sl.mk none 0 0) span0 := ⟨rfl, rfl⟩
  have offF : ∀ {F3 : Nat → Prop} {H3 : Heap}, Step F F3 H H3 → ¬ F3 k ∧ ¬ F3 cb := fun S3 => ⟨fun u => (S3.own _ u).elim hk fun v => by omega, fun u => (S3.own _ u).elim hc.cb.1 fun v => by omega⟩
  have curF : ∀ {F3 : Nat → Prop} {H3 : Heap}, Step F F3 H H3 → CurB H3 F3 k cb lo ll strict := fun {F3 H3} S3 => by
    have S3' : Step (fun b => F b ∨ b = k ∨ b = cb) (fun b => F3 b ∨ b = k ∨ b = cb) H H3 := S3.or (fun b => b = k ∨ b = cb)
    exact ⟨hc.row.mod S3.mod hc.cb.1, hc.off.ints hc.ints S3', hc.off.step S3', (offF S3).2, hc.cb.2⟩
  have hbroke : ∀ (F3 : Nat → Prop) (H3 : Heap) (s3 : Pl) (e : Int) (M : Prop), e ≠ 0 → PoolAt F3 H3 p dp s3 → Step F F3 H H3 → (∀ A, PoolAt F3 A p dp s3 → Step (fun b => F b ∨ b = k ∨ b = cb) (fun b => F3 b ∨ b = k ∨ b = cb) H A → ¬ F3 k → TreeB A k p (t.broke e) → CurB A F3 k cb lo ll strict → K (nilT, false, e) A) →
      br (e != (0 : Int)) (tree_Tree_met.sp (some ⟨k, 0, none⟩) e H3 fun (r_1 : Int) H3 => K ((Sl.mk none 0 0), false, r_1) H3) M := by
    intro F3 H3 s3 e M he p3 S3 hk'
    obtain ⟨k3, c3⟩ := offF S3
    refine br_t (by simpa using he) (tmet_ok (ht.mod S3.mod hk) he fun A r mA _ => ?_)
    have cF := curF S3
    have SA : Step (fun b => F3 b ∨ b = k ∨ b = cb) (fun b => F3 b ∨ b = k ∨ b = cb) H3 A := ⟨mA.mono fun _ _ u => .inr (.inl u), fun _ u => .inl u⟩
    refine hk' A (p3.offK mA k3) ((S3.or (fun b => b = k ∨ b = cb)).trans SA) k3 r ⟨cF.row.mod mA hc.cb.2, cF.off.ints cF.ints SA, cF.off.step SA, cF.cb⟩
  refine tfind_ok (ll := ll) (strict := strict) S hw hW hd (depth - 1) root span0 _ _ F H s m _ hI (by omega) (by omega) hg ht hp hk hroot span hc.ints ((hc.off.mono fun _ _ u => .inl u).toI _) (fun F3 H3 s3 p3 S3 I3 => ?_) (fun F3 H3 s3 e p3 S3 hC => ?_)
  · obtain ⟨k3, c3⟩ := offF S3
    have t3 : TreeB H3 k p t := ht.mod S3.mod hk
    have I4 := S.up I3 (k := m + 1000000) (by omega)
    have S3' : Step (fun b => F b ∨ b = k ∨ b = cb) (fun b => F3 b ∨ b = k ∨ b = cb) H H3 := S3.or (fun b => b = k ∨ b = cb)
    unfold St.fnd at hK1 hK2 hK3
    cases hres : (x.find t.width depth ll strict (depth - 1) root span0).2 with
    | none =>
      unfold FindK
      dsimp only
      refine hbroke F3 H3 s3 280 _ (by decide) p3 S3 fun A pA SA kA tA cA => ?_
      exact hK2 hrd hres F3 A s3 pA SA kA tA cA I4
    | some o =>
      cases o with
      | none =>
        unfold FindK
        dsimp only
        refine br_f rfl (br_t rfl (tmet_zero ?_))
        exact hK1 hrd hres F3 H3 s3 p3 S3' k3 t3 (curF S3) I4
      | some y =>
        unfold FindK
        intro sl nn o5 f5
        dsimp only
        refine br_f rfl ?_
        refine br_f (by cases q9 : sl.a with | none => exact absurd q9 nn | some _ => rfl) ?_
        have hyl : y.length ≤ 16 := by
          have hnode := find_len (ll := ll) (strict := strict) (S.pre hI).2.2.2.2.2 (depth - 1) root span0 hres
          rw [hnode, hw]; simpa using hW
        refine tclone_ok o5.ints (by omega) fun cl A1 o1 e1 f1 => ?_
        have cF := curF S3
        refine RowT.st (cF.row.ext e1) (i := 1) (by simp) rfl fun A2 r2 m2 z2 => ?_
        refine RowT.st r2 (i := 2) (by simp) rfl fun A3 r3 m3 z3 => ?_
        have m23 := m2.trans m3
        have hz1 := e1.size
        have hz3 := S3.mod.size
        have clB : ∀ b, ownB cl b → b ≠ cb := fun b u v => by have := f1 b u; omega
        have slB : ∀ b, ownB sl b → b ≠ cb := fun b u v => by have := (f5 b u).1; omega
        have S13 : Step (fun b => F3 b ∨ b = k ∨ b = cb) (fun b => F3 b ∨ b = k ∨ b = cb) H3 A3 := ⟨(Ext.mod e1).trans (m23.mono fun _ _ u => .inr (.inr u)), fun _ u => .inl u⟩
        have clo := o1.block
        refine hK3 hrd y hres F3 A3 s3 sl cl ((p3.ext e1).offK m23 c3) (S3'.trans S13) k3 ((t3.ext e1).mod m23 (Ne.symm hc.cb.2)) ⟨r3, (o1.mod m23 fun b u v => clB b u v).ints, fun ad ha => ?_, c3, hc.cb.2⟩ I4 ((o5.ext e1).mod m23 fun b u v => slB b u v) fun b u => ?_
        · have h1 := clo _ ⟨ad, ha, rfl⟩
          have h2 := f1 _ ⟨ad, ha, rfl⟩
          refine ⟨by omega, fun w => ?_⟩
          rcases w with w | w | w
          · have := p3.lt _ w; omega
          · omega
          · omega
        · have h1 := f5 b u
          have h2 := (o5.block b u).2
          exact ⟨h1.1, h1.2, by omega, by omega, fun w => by have := f1 b w; omega⟩
  · refine hbroke F3 H3 s3 e _ (S.errC hC).1 p3 S3 fun A pA SA kA tA cA => ?_
    exact hKC F3 A s3 e pA SA kA tA hC

theorem tCount_ok {K : Int → Heap → Prop} (ht : TreeB H k p t) (hK : K (if t.gone then 0 else t.count) H) : tree_Tree_Count.sp (at0 k) H K := by
  refine tree_Tree_Count.of ?_
  unfold tree_Tree_Count.vc
  refine br_f rfl ?_
  simp only [optK_eq, at0]
  refine RowT.ld (c := cBool) (i := 7) (x := t.gone) ht rfl ?_
  cases hg : t.gone with
  | true => rw [hg] at hK; exact br_t rfl hK
  | false =>
    rw [hg] at hK
    refine br_f rfl ?_
    exact RowT.ld (c := cInt .i64) (i := 5) (x := t.count) ht rfl hK
end
end Go.Proofs.YtmdiinakfpgdjaaGreatDoor

/-
  The pool: Drop.
-/
namespace Go.Proofs.YtmdiinakfpgdjaaGreatDoor
open Go.MapKept

end Go.Proofs.YtmdiinakfpgdjaaGreatDoor

/-
  PoolPins in plain words: all frames held, one given back, one more.
-/
namespace Go.Proofs.YtmdiinakfpgdjaaGreatDoor

def v0 (j : Nat) (l : List Int) : Prop := l = [(j : Int) + 1]
end Go.Proofs.YtmdiinakfpgdjaaGreatDoor

/-
  The pool's calls in a row: what a statement that makes them walks by; works.
-/
namespace Go.Proofs.YtmdiinakfpgdjaaGreatDoor
open Go.MapKept

/-- A pool that was made since 'H'. -/
def TP (H A : Heap) (p dp : Nat) (s : Pl) : Prop := Ext H A ∧ ∃ F, PoolAt F A p dp s ∧ ∀ b, F b → H.size ≤ b

variable {H A : Heap} {p dp : Nat} {s : Pl} {n : ByteArray}
theorem TP.new {D : Nat → Prop} {d : Dk} {m : Nat} {K : (Option Addr × Int) → Heap → Prop} (hg : Gl H) (e : Ext H A) (hd : DiskAt D A dp d) (hD : ∀ b, D b → H.size ≤ b) (h8 : 8 ≤ m) (hm : m ≤ 4096)
    (hK : ∀ p B, TP H B p dp (pl0 d m) → K (at0 p, 0) B) : pool_New.sp (at0 dp) (m : Int) A K := by
  refine PoolNew_ok (hg.mod e id) hd (fun q => by have := hD _ q; have := hg.lt; omega) h8 hm fun F p B h1 e1 f1 => ?_
  refine hK p B ⟨e.trans e1, F, h1, fun b hb => ?_⟩
  rcases f1 b hb with q | q
  · exact hD b q
  · exact Nat.le_trans e.size q

/-! ### A new disk of one file -/

def nmF : ByteArray := ByteArray.mk #[102]
theorem nmF_named : named nmF = true := by decide
theorem create_live {q : Int} (h0 : 0 ≤ q) (hq : q ≤ 1048576) {n : ByteArray} (hn : named n = true) : Live ((dk0 q).create n).1 n [] q.toNat ∧ ((dk0 q).create n).1.ops = 1 ∧ ((dk0 q).create n).2 = 0 ∧ ((dk0 q).create n).1.logs = 0 := by
  have e : (dk0 q).create n = ({ dk0 q with files := [⟨n, [], []⟩], ops := w64 (0 + 1) }, 0) := by
    unfold Dk.create
    rw [if_neg (by simp [dk0]), if_neg (by rw [hn]; simp), if_neg (by simp [dk0, Dk.idx]), if_neg (by simp [dk0])]
    rfl
  rw [e]
  refine ⟨⟨rfl, rfl, ⟨_, rfl, rfl, rfl⟩, ?_⟩, by show w64 (0 + 1) = 1; decide, rfl, rfl⟩
  show (min (max q 0) 1048576).toNat = q.toNat
  congr 1; omega
theorem pl0_told {d : Dk} {n : ByteArray} {q m : Nat} {T : Nat → UInt8 × List UInt8} (h : Live d n [] q) : Told (pl0 d m) n 0 q T [] :=
  ⟨rfl, h, rfl, by intro f hf; simp [pl0] at hf, by intro k b hk; simp at hk⟩

end Go.Proofs.YtmdiinakfpgdjaaGreatDoor

/-
  The pool's statements: a step's bytes; a pool that is not there.
-/
namespace Go.Proofs.YtmdiinakfpgdjaaGreatDoor
open Go.MapKept

end Go.Proofs.YtmdiinakfpgdjaaGreatDoor

/-
  Trees: page 0; New, Open: the walk.
-/
namespace Go.Proofs.YtmdiinakfpgdjaaGreatDoor
open Go.MapKept

def headT (W depth root count : Nat) : List UInt8 := UInt8.ofNat W :: UInt8.ofNat depth :: be4 root ++ bytesI (putL [(count : Int)])
theorem putOne (c : Int) : (putL [c]).length = 8 := by simp [putL, wordL]
theorem headT_length (W depth root count : Nat) : (headT W depth root count).length = 14 := by
  unfold headT
  rw [List.length_append, List.length_cons, List.length_cons, be4_length, bytesI_length, putOne]

theorem newC_bytes {H : Heap} {t : TypeId} (n : Nat) (l : List UInt8) {cs : Array Value} (hcs : cs = ((u8i l).map (Value.int .u8)).toArray) (hn : l.length = n) (hl : n ≤ 1000) {K : Addr → Heap → Prop}
    (hK : ∀ H', Owns H' 0 t 1 ⟨some ⟨H.size, 0, none⟩, n, n⟩ ((u8i l).map (Value.int .u8)) → Ext H H' → K ⟨H.size, 0, none⟩ H') : newC H cs t K := by
  subst hcs
  subst hn
  refine hK _ (Owns.fresh (n := l.length) (cap := l.length) (Nat.zero_le _) (Nat.le_refl _) (by unfold maxLen; omega) (by simp) (by simp) ?_) (Mod.push _ _ _)
  have e : l.length * 1 = ((u8i l).map (Value.int .u8)).length := by simp
  rw [e]
  exact List.take_length
section
variable {H : Heap} {k p dp : Nat} {t : Tr} {F : Nat → Prop} {s : Pl} {q : Nat} {I : Pl → St → Nat → Prop} {B C : Pl → Int → Prop} {x : St} {m : Nat} {W root depth count : Nat}

set_option maxHeartbeats 2000000 in
theorem thead_raw {fr : Bool} {K : Int → Heap → Prop} (hg : Gl H) (h : TreeB H k p t) (hp : PoolAt F H p dp s) (hk : ¬ F k) (hw : t.width = (W : Int)) (hr : t.root = (root : Int)) (hd : t.depth = (depth : Int)) (hc : t.count = (count : Int)) (hcb : count < 18446744073709551616)
    (hnm : t.name.size ≤ 9223372036854775807) (hlogs : s.d.logs < 68719470000) (hnx : s.next < 1099511627776) (h0 : 0 ≤ s.next) (hft : s.Fit)
    (hK1 : fr = true → ∀ F' H', PoolAt F' H' p dp (s.more t.name 5 (headT W depth root count)).1 → Step F F' H H' → K (s.more t.name 5 (headT W depth root count)).2 H')
    (hK2 : fr = false → ∀ F' H', PoolAt F' H' p dp (s.over t.name 0 5 (headT W depth root count)).1 → Step F F' H H' → K (s.over t.name 0 5 (headT W depth root count)).2 H') : tree_Tree_head.sp (at0 k) fr H K := by
  refine tree_Tree_head.of ?_
  unfold tree_Tree_head.vc
  have hkl0 := obj_lt h
  refine ⟨fun z A => ∃ F1 s1, PoolAt F1 A p dp s1 ∧ TreeB A k p t ∧ ¬ F1 k ∧ Gl A ∧ s1.next < 9223372036854775807 ∧ (z.2 ≠ 0 → K z.2 A) ∧
    (z.2 = 0 → ∀ F' H', PoolAt F' H' p dp (Pl.leave (s1.set z.1 5 (headT W depth root count)) z.1).1 → Step F1 F' A H' → K (Pl.leave (s1.set z.1 5 (headT W depth root count)) z.1).2 H'), ?_, ?_⟩
  · simp only [optK_eq, at0]
    cases fr with
    | true =>
      refine br_t rfl ?_
      refine RowT.ld (c := cPtr) (i := 0) (x := at0 p) h rfl ?_
      refine RowT.ld (c := cStr) (i := 1) (x := t.name) h rfl ?_
      refine Fresh_ok hg hp hnm (by omega) (by omega) hft fun F1 H1 p1 S1 => ?_
      have hK1 := hK1 rfl
      unfold Pl.more at hK1
      have hnx1 : (s.fresh t.name).1.next ≤ s.next + 1 := s.fresh_next h0 hnx
      generalize (s.fresh t.name).1 = s1 at *
      generalize (s.fresh t.name).2.1 = hd at *
      generalize (s.fresh t.name).2.2.2 = e at *
      have hkF1 : ¬ F1 k := fun u => (S1.own _ u).elim hk fun u => by omega
      refine ⟨F1, s1, p1, h.mod S1.mod hk, hkF1, hg.mod S1.mod hp.glob, by omega, fun he => ?_, fun he F' H' p3 S3 => ?_⟩
      · have he : e ≠ 0 := he
        rw [if_pos he] at hK1
        exact hK1 F1 H1 p1 S1
      · have he : ¬ e ≠ 0 := by simpa using he
        rw [if_neg he, if_neg (by decide)] at hK1
        exact hK1 F' H' p3 (S1.trans S3)
    | false =>
      refine br_f rfl ?_
      refine RowT.ld (c := cPtr) (i := 0) (x := at0 p) h rfl ?_
      refine RowT.ld (c := cStr) (i := 1) (x := t.name) h rfl ?_
      refine Pin_ok hg hp hnm (by decide) (by decide) (by omega) (by omega) fun F1 H1 p1 S1 => ?_
      have hK2 := hK2 rfl
      unfold Pl.over at hK2
      have hnx1 : (s.pin t.name 0).1.next ≤ s.next + 1 := s.pin_next h0 hnx
      generalize (s.pin t.name 0).1 = s1 at *
      generalize (s.pin t.name 0).2.1 = hd at *
      generalize (s.pin t.name 0).2.2 = e at *
      have hkF1 : ¬ F1 k := fun u => (S1.own _ u).elim hk fun u => by omega
      refine ⟨F1, s1, p1, h.mod S1.mod hk, hkF1, hg.mod S1.mod hp.glob, by omega, fun he => ?_, fun he F' H' p3 S3 => ?_⟩
      · have he : e ≠ 0 := he
        rw [if_pos he] at hK2
        exact hK2 F1 H1 p1 S1
      · have he : ¬ e ≠ 0 := by simpa using he
        rw [if_neg he] at hK2
        exact hK2 F' H' p3 (S1.trans S3)
  · rintro ⟨hdl, e⟩ H1 ⟨F1, s1, p1, t1, hkF1, g1, hnx1, c1, c2⟩
    dsimp only at c1 c2 ⊢
    refine br_mk (fun hc => c1 (by simpa using hc)) (fun hc2 => ?_)
    have c2 := c2 (by simpa using hc2)
    clear c1 hK1 hK2
    refine ⟨fun D => Ext H1 D, .refl _ _, ?_⟩
    simp only [optK_eq, at0]
    refine RowT.ldC (c := cInt .i64) (i := 2) (x := t.width) (cs := fun _ => (treV p t).toArray) (fun D hD => t1.ext hD) (fun _ _ => rfl) ?_
    refine RowT.ldC (c := cInt .i64) (i := 4) (x := t.depth) (cs := fun _ => (treV p t).toArray) (fun D hD => t1.ext hD) (fun _ _ => rfl) ?_
    refine RowT.ldC (c := cInt .i64) (i := 3) (x := t.root) (cs := fun _ => (treV p t).toArray) (fun D hD => t1.ext hD) (fun _ _ => rfl) ?_
    rw [hw, hd, hr, wrap8, wrap8]
    have ev : #[Value.int .u8 ((UInt8.ofNat W).toNat : Int), Value.int .u8 ((UInt8.ofNat depth).toNat : Int)] = ((u8i [UInt8.ofNat W, UInt8.ofNat depth]).map (Value.int .u8)).toArray := rfl
    -- the bytes' end
    have tail : ∀ (A : Heap) (b : Sl), Ext H1 A → Owns A 0 ty_uint8 1 b ((u8i ([UInt8.ofNat W, UInt8.ofNat depth] ++ be4 root)).map (Value.int .u8)) → (∀ c, ownB b c → H1.size ≤ c) →
        ∃ G_1 : Heap → Prop, G_1 A ∧ ldC cPtr G_1 (Addr.add ⟨k, 0, none⟩ 0) fun (x_7 : Option Addr) => ld (cInt .i64) A (Addr.add ⟨k, 0, none⟩ 5) fun (x_8 : Int) => newC A #[(.int .u64 (IntKind.u64.wrap x_8))] ty_uint64 fun p_1 H7 => G_1 H7 ∧ row_Put.sp (Sl.mk (some p_1) 1 1) H7 fun (r_3 : Sl) H8 => G_1 H8 ∧ doT cSl Tryz.prog (Builtin.append_ #[ty_sl_uint8, ty_sl_uint8] ty_sl_uint8 #[b.v, r_3.v]) H8 fun (s : Sl) H9 => G_1 H9 ∧ pool_Pool_Put.sp x_7 hdl (5 : Int) s H9 fun (e : Int) H10 => br (e == (0 : Int)) (ld cPtr H10 (Addr.add ⟨k, 0, none⟩ 0) fun (x_9 : Option Addr) => pool_Pool_Unpin.sp x_9 hdl H10 fun (e_1 : Int) H11 => K e_1 H11) (K e H10) := by
      intro A b eA ob fb
      refine ⟨fun D => Ext H1 D, eA, ?_⟩
      refine RowT.ldC (c := cPtr) (i := 0) (x := at0 p) (cs := fun _ => (treV p t).toArray) (fun D hD => t1.ext hD) (fun _ _ => rfl) ?_
      refine RowT.ld (c := cInt .i64) (i := 5) (x := t.count) (t1.ext eA) rfl ?_
      have ew : IntKind.u64.wrap t.count = (count : Int) := by rw [hc, IntKind.wrap_u64]; omega
      rw [ew]
      have eo : #[Value.int .u64 (count : Int)] = (([(count : Int)]).map (Value.int .u64)).toArray := rfl
      rw [eo]
      refine newC_ints _ fun pq H7 z7 q7 a7 e7 => ⟨eA.trans e7, ?_⟩
      refine rowPut_ok (a7 1) (by simp) fun sb H8 o8 e8 => ⟨(eA.trans e7).trans e8, ?_⟩
      have b8 : Byts H8 sb (bytesI (putL [(count : Int)])) := by
        unfold Byts
        rw [u8i_bytesI (putL_range _)]
        exact o8.ints
      have hz7 := (e7.trans e8).size
      refine appB (s := b) (x := sb) ((ob.ext e7).ext e8) b8 (by rw [bytesI_length, putOne]; show 6 + 8 ≤ 1000000; omega) fun b9 H9 o9 m9 f9 => ?_
      have e9 : Ext H1 H9 := ((Ext.mod ((eA.trans e7).trans e8)).trans m9).ext fb
      refine ⟨e9, ?_⟩
      have eb : [UInt8.ofNat W, UInt8.ofNat depth] ++ be4 root ++ bytesI (putL [(count : Int)]) = headT W depth root count := rfl
      rw [eb] at o9
      have SA : Step F1 F1 H1 H9 := .ofExt e9
      refine Put_ok (kd := 5) (l := headT W depth root count) (g1.mod e9 id) (p1.ext e9) o9.ints fun F2 H2 p2 S2 => ?_
      have hg2 : Gl H2 := (g1.mod e9 id).mod S2.mod p1.glob
      have hn2 : (s1.set hdl 5 (headT W depth root count)).1.next = s1.next := s1.set_next _ _ _
      generalize s1.set hdl 5 (headT W depth root count) = s2 at *
      refine br_mk (fun hc3 => ?_) (fun hc3 => ?_)
      · have e2 : s2.2 = 0 := by simpa using hc3
        refine RowT.ld (c := cPtr) (i := 0) (x := at0 p) ((t1.ext e9).mod S2.mod hkF1) rfl ?_
        refine Unpin_ok hg2 p2 (by omega) fun F3 H3 p3 S3 => ?_
        have el : Pl.leave s2 hdl = s2.1.unpin hdl := if_pos e2
        rw [el] at c2
        exact c2 F3 H3 p3 ((SA.trans S2).trans S3)
      · have e2 : s2.2 ≠ 0 := by simpa using hc3
        have el : Pl.leave s2 hdl = s2 := if_neg e2
        rw [el] at c2
        exact c2 F2 H2 p2 (SA.trans S2)
    have f5 : ∀ {A : Heap}, H1.size ≤ A.size → ∀ c, ownB (Sl.mk (some ⟨A.size, 0, none⟩) 2 2) c → H1.size ≤ c := by
      rintro A hA c ⟨ad, ha, rfl⟩
      cases ha; exact hA
    refine ⟨?_, ?_⟩
    · refine newC_bytes 2 [UInt8.ofNat W, UInt8.ofNat depth] ev rfl (by decide) fun H4 o4 e4 => And.intro e4 ?_
      refine tbytes_ok fun pb H5 b5 e5 q5 => And.intro (e4.trans e5) ?_
      have hz := (e4.trans e5).size
      refine appB (s := ⟨some ⟨H1.size, 0, none⟩, 2, 2⟩) (x := ⟨some pb, 4, 4⟩) (o4.ext e5) b5 (by rw [be4_length]; show 2 + 4 ≤ 1000000; omega) fun b6 H6 o6 m6 g6 => ?_
      have e6 : Ext H1 H6 := ((Ext.mod (e4.trans e5)).trans m6).ext (f5 (Nat.le_refl _))
      refine And.intro e6 (tail H6 b6 e6 o6 fun c u => ?_)
      rcases g6 c u with v | v
      · exact f5 (Nat.le_refl _) c v
      · omega
    · refine tbytes_ok fun pb H4 b4 e4 q4 => And.intro e4 ?_
      refine newC_bytes 2 [UInt8.ofNat W, UInt8.ofNat depth] ev rfl (by decide) fun H5 o5 e5 => And.intro (e4.trans e5) ?_
      have hz4 := e4.size
      have hz := (e4.trans e5).size
      refine appB (s := ⟨some ⟨H4.size, 0, none⟩, 2, 2⟩) (x := ⟨some pb, 4, 4⟩) o5 (b4.keep fun ad _ hl => e5.same _ hl id) (by rw [be4_length]; show 2 + 4 ≤ 1000000; omega) fun b6 H6 o6 m6 g6 => ?_
      have e6 : Ext H1 H6 := ((Ext.mod (e4.trans e5)).trans m6).ext (f5 hz4)
      refine And.intro e6 (tail H6 b6 e6 o6 fun c u => ?_)
      rcases g6 c u with v | v
      · exact f5 hz4 c v
      · omega

/-! ### New, Open -/

def tr0 (n : ByteArray) (W : Nat) : Tr := ⟨n, W, 1, 1, 0, 0, false⟩
def St.made (x : St) (W : Nat) : St := St.more ⟨x.N + 1, setT x.T x.N (5, headT W 1 1 0)⟩ ⟨[], []⟩

set_option maxHeartbeats 1000000 in
theorem tNew_ok {n : ByteArray} {x0 : St} {K : (Option Addr × Int) → Heap → Prop} (S : Store n q I B C) (hW : W ≤ 16) (hg : Gl H) (hp : PoolAt F H p dp s) (hm : m + 2 ≤ 30000000000)
    (hI : (s.d.create n).2 = 0 → I (s.setD (s.d.create n).1) x0 m)
    (hKc : (s.d.create n).2 ≠ 0 → ∀ F' A, PoolAt F' A p dp (s.setD (s.d.create n).1) → Step F F' H A → K (none, (s.d.create n).2) A)
    (hK1 : (s.d.create n).2 = 0 → x0.N + 1 < q → ∀ F' A s' k, PoolAt F' A p dp s' → Step F F' H A → TreeB A k p (tr0 n W) → ¬ F' k → H.size ≤ k → I s' (x0.made W) (m + 2) → K (at0 k, 0) A)
    (hKB : (s.d.create n).2 = 0 → ¬ x0.N + 1 < q → ∀ F' A s' e, PoolAt F' A p dp s' → Step F F' H A → B s' e → K (none, e) A)
    (hKC : ∀ F' A s' e, PoolAt F' A p dp s' → Step F F' H A → C s' e → K (none, e) A) : tree_New.sp (at0 p) n W H K := by
  refine tree_New.of ?_
  unfold tree_New.vc
  obtain ⟨_, _, hroom, _⟩ := fan_room hW
  refine br_f rfl ?_
  refine rowRoom_ok ?_
  refine br_f (by simp only [beq_eq_false_iff_ne, ne_eq]; omega) ?_
  refine PDisk_ok hp ?_
  obtain ⟨D, d1, _, d3⟩ := PoolAt.disk hg hp
  refine Create_ok d1 fun D' H3 d4 S4 => ?_
  obtain ⟨F3, p3, T3⟩ := d3 D' H3 _ d4 S4
  refine br_mk (fun hc => hKc (by simpa using hc) F3 H3 p3 T3) (fun hc => ?_)
  have hc0 : (s.d.create n).2 = 0 := by simpa using hc
  have hI := hI hc0
  have hK1 := hK1 hc0
  have hKB := hKB hc0
  clear hKc
  generalize s.setD (s.d.create n).1 = s3 at *
  have hg3 : Gl H3 := hg.mod T3.mod hp.glob
  refine newC_rowT fun H4 z4 r4 e4 => ?_
  have t4 : TreeB H4 H3.size p (tr0 n W) := r4
  have k4 : ¬ F3 H3.size := fun u => by have := p3.lt _ u; omega
  have T4 : Step F F3 H H4 := T3.trans (.ofExt e4)
  have hz3 := T3.mod.size
  obtain ⟨b1, b2, b3, b4, b5, b6⟩ := S.pre hI
  have hlen : (headT W 1 1 0).length ≤ 504 := by rw [headT_length]; omega
  refine thead_raw (fr := true) (W := W) (depth := 1) (root := 1) (count := 0) (hg3.mod e4 id) t4 (p3.ext e4) k4 rfl rfl rfl rfl (by decide) S.name (by omega) (by omega) b2 b4 (fun _ F5 H5 p5 S5 => ?_) (fun u => by cases u)
  have T5 := T4.trans S5
  have k5 : ¬ F5 H3.size := fun u => by
    rcases S5.own _ u with v | v
    · exact k4 v
    · omega
  have t5 : TreeB H5 H3.size p (tr0 n W) := t4.mod S5.mod k4
  have hz5 := S5.mod.size
  refine ⟨fun z A => ∃ F' s', PoolAt F' A p dp s' ∧ Step F F' H A ∧ ((z = 0 ∧ x0.N + 1 < q ∧ TreeB A H3.size p (tr0 n W) ∧ ¬ F' H3.size ∧ I s' (x0.made W) (m + 2)) ∨ (B s' z ∧ ¬ x0.N + 1 < q) ∨ C s' z), ?_, ?_⟩
  · change br ((s3.more n 5 (headT W 1 1 0)).2 == 0) _ _
    have hbad : ∀ e : Int, e ≠ 0 → ∀ (J : Int → Heap → Prop) (M : Prop), J e H5 → br (e == (0 : Int)) M (J e H5) := fun e he J M hj => br_f (by simpa using he) hj
    by_cases hN : x0.N < q
    · rcases S.more (kd := 5) (b := headT W 1 1 0) hI (by omega) hlen (by decide) hN with ⟨a1, a2, a3⟩ | hC
      · change PoolAt F5 H5 p dp (s3.more n 5 (headT W 1 1 0)).1 at p5
        rw [a1]
        refine br_t rfl ?_
        refine newC_rowT fun H7 z7 r7 e7 => ?_
        have hnb : ¬ F5 H5.size := fun u => by have := p5.lt _ u; omega
        have nd : NodeR F5 H7 H5.size (-1) (Sl.mk none 0 0) (Sl.mk none 0 0) ⟨[], []⟩ := ⟨r7, hnb, ⟨rfl, Reads.nil _ _⟩, (fun ad u => by cases u), ⟨rfl, (fun ad u => by cases u), fun i hi => by simp at hi⟩⟩
        have T7 : Step F F5 H H7 := T5.trans (.ofExt e7)
        have hg7 : Gl H7 := ((hg3.mod e4 id).mod S5.mod p3.glob).mod e7 id
        have hkn : H3.size ≠ H5.size := by omega
        have hdrop : ∀ {F8 : Nat → Prop} {A : Heap}, Step (fun b => F5 b ∨ b = H5.size) (fun b => F8 b ∨ b = H5.size) H7 A → Step F F8 H A := fun S8 => T7.drop (by omega) S8
        refine twrite_new (t := tr0 n W) S a3 (by omega) hg7 (t5.ext e7) (p5.ext e7) k5 hkn nd (by decide) (by simp) (by simp) (by simp) (fun hN2 F8 A s8 p8 S8 I8 n8 => ?_) (fun hN2 F8 A s8 e p8 S8 h8 hB => ?_) (fun F8 A s8 e p8 S8 h8 hC => ?_)
        · refine ⟨F8, s8, p8, hdrop S8, .inl ⟨rfl, hN2, (t5.ext e7).mod S8.mod fun u => u.elim k5 hkn, fun u => ?_, I8⟩⟩
          rcases S8.own _ (.inl u) with v | v
          · exact v.elim k5 hkn
          · omega
        · exact ⟨F8, s8, p8, hdrop S8, .inr (.inl ⟨hB, hN2⟩)⟩
        · exact ⟨F8, s8, p8, hdrop S8, .inr (.inr hC)⟩
      · exact br_f (by have := (S.errC hC).1; simpa using this) ⟨F5, _, p5, T5, .inr (.inr hC)⟩
    · rcases S.full (kd := 5) (b := headT W 1 1 0) hI (by omega) hlen (by decide) hN with hB | hC
      · exact br_f (by have := (S.errB hB).1; simpa using this) ⟨F5, _, p5, T5, .inr (.inl ⟨hB, by omega⟩)⟩
      · exact br_f (by have := (S.errC hC).1; simpa using this) ⟨F5, _, p5, T5, .inr (.inr hC)⟩
  · rintro z A ⟨F', s', pA, SA, hA⟩
    rcases hA with ⟨rfl, hN, tA, kA, IA⟩ | ⟨hB, hN⟩ | hC
    · exact br_f rfl (hK1 hN F' A s' H3.size pA SA tA kA hz3 IA)
    · exact br_t (by have := (S.errB hB).1; simpa using this) (hKB hN F' A s' z pA SA hB)
    · exact br_t (by have := (S.errC hC).1; simpa using this) (hKC F' A s' z pA SA hC)

end
end Go.Proofs.YtmdiinakfpgdjaaGreatDoor

/-
  Trees: a tree that was made; two rows, and a cursor (works); a tree that is not there.
-/
namespace Go.Proofs.YtmdiinakfpgdjaaGreatDoor
open Go.MapKept

/-- A tree made since 'H0'. -/
structure TT (H0 A : Heap) (F : Nat → Prop) (k p dp : Nat) (s : Pl) (t : Tr) : Prop where
  ext : Ext H0 A
  pool : PoolAt F A p dp s
  row : TreeB A k p t
  off : ¬ F k
  old : ∀ b, F b ∨ b = k → H0.size ≤ b
section
variable {H0 A B : Heap} {F F' : Nat → Prop} {k p dp : Nat} {s s' : Pl} {t t' : Tr}
theorem TT.gl (h : TT H0 A F k p dp s t) (hg : Gl H0) : Gl A := hg.mod h.ext id
theorem TT.step (h : TT H0 A F k p dp s t) (S : Step (fun b => F b ∨ b = k) (fun b => F' b ∨ b = k) A B) (hp : PoolAt F' B p dp s') (ht : TreeB B k p t') (hk : ¬ F' k) : TT H0 B F' k p dp s' t' :=
  ⟨⟨Nat.le_trans h.ext.size S.mod.size, fun b hb _ => (S.mod.same b (Nat.lt_of_lt_of_le hb h.ext.size) fun q => by have := h.old b q; omega).trans (h.ext.same b hb id)⟩, hp, ht, hk, fun b hb => by
    rcases S.own b hb with q | q
    · exact h.old b q
    · exact Nat.le_trans h.ext.size q⟩
theorem TT.grow (h : TT H0 A F k p dp s t) (e : Ext A B) : TT H0 B F k p dp s t := ⟨h.ext.trans e, h.pool.ext e, h.row.ext e, h.off, h.old⟩
end

/-- A tree of one leaf. -/
structure Leaf (x : St) (rows : List (List Int)) : Prop where
  N : x.N = 2
  T : x.T 1 = Nd.page ⟨[], rows⟩
  fine : Nd.Fine ⟨[], rows⟩ 1 1 0 span0
theorem Leaf.node {x : St} {rows : List (List Int)} (h : Leaf x rows) : x.node ((1 : Nat) : Int) 1 0 1 span0 = some ⟨[], rows⟩ := by
  unfold St.node
  rw [h.N, if_pos (by decide), h.T]
  exact h.fine.read (by decide)
theorem leaf_fine {rows : List (List Int)} (h1 : span0.holds rows = true) (h2 : ∀ l ∈ rows, l.length = 1 ∧ fitsL l) (h3 : rows.length ≤ 60) : Nd.Fine ⟨[], rows⟩ 1 1 0 span0 := by
  refine ⟨fun _ => rfl, fun h => by omega, h1, fun h => by omega, h2, by simp, ?_⟩
  rw [Nd.bytes_length (W := 1) (by decide) fun l hl => (h2 l hl).1]
  have : (sizeL ((1 : Nat) : Int)).toNat = 8 := by decide
  rw [this]; simp; omega
theorem fits1 {a : Int} (h : 0 ≤ a ∧ a < 100) : fitsL [a] := fun x hx => by simp at hx; subst hx; omega

def works0 : Nat → UInt8 × List UInt8 := fun _ => (0, [])
theorem leaf0 : Leaf (St.made ⟨0, works0⟩ 1) [] := ⟨rfl, rfl, leaf_fine (by decide) (by simp) (by simp)⟩
theorem Leaf.ins {x : St} {rows : List (List Int)} {t : Tr} {l : List Int} {q : Nat} (h : Leaf x rows) (hw : t.width = ((1 : Nat) : Int)) :
    x.ins q t 1 1 l = if sameAt rows l then .ok false t x else match x.fin ((1 : Nat) : Int) q 0 1 ⟨[], insAt (below l rows) l rows⟩ with
      | .store => .store
      | .quota => .quota
      | .ok f none x' => .ok f (t.up f) x'
      | .ok f (some m) x' => if x'.N < q then .ok f ((t.grown x'.N 2).up f) (x'.more ⟨[1, m.1], [m.2]⟩) else .quota := by
  unfold St.ins
  rw [hw, show 1 - 1 = 0 from rfl]
  unfold St.add
  rw [h.node]
  simp only
  cases hs : sameAt rows l with
  | true => rw [if_pos rfl, if_pos rfl]; try rfl
  | false => rw [if_neg (by simp), if_neg (by simp)]; try rfl
theorem Leaf.fnd {x : St} {rows : List (List Int)} {t : Tr} {l : List Int} {strict : Bool} (h : Leaf x rows) (hw : t.width = ((1 : Nat) : Int)) : x.fnd t 1 1 l strict = some (leafAt rows l strict) := by
  unfold St.fnd
  rw [hw, show 1 - 1 = 0 from rfl]
  unfold St.find
  rw [h.node]

section
variable {H : Heap} {K : Bool → Heap → Prop}
theorem one_word {A B : Heap} {v : Int} (r : RowT B A.size ty_uint64 #[.int .u64 v]) : Ints .u64 B ⟨some ⟨A.size, 0, none⟩, 1, 1⟩ [v] := by
  refine ⟨rfl, fun i u hu => ⟨_, rfl, ?_⟩⟩
  have hi : i = 0 := by have := (List.getElem?_eq_some_iff.1 hu).1; simp at this; omega
  subst hi
  simp at hu; subst hu
  rw [add_lit0]
  exact r.cell rfl

set_option maxHeartbeats 2000000 in
theorem tworks_ok (hg : Gl H) (hK : ∀ B, Ext H B → K true B) : fathomlaw09_works.sp H K := by
  refine fathomlaw09_works.of ?_
  unfold fathomlaw09_works.vc
  have hsz : nmF.size ≤ 9223372036854775807 := by decide
  have S := calm_store (n := nmF) (q := 20) (most := 8) hsz (by decide)
  refine New_ok (by decide) fun F1 d H1 a1 e1 f1 => ?_
  refine TP.new (m := 8) hg e1 a1 f1 (by decide) (by decide) fun p H2 t2 => ?_
  obtain ⟨e2, F2, p2, f2⟩ := t2
  obtain ⟨c1, c2, c3, c4⟩ := create_live (q := 20) (n := nmF) (by decide) (by decide) nmF_named
  have hcr : ((pl0 (dk0 20) 8).d.create nmF).2 = 0 := c3
  have I0 : CalmI nmF 20 8 ((pl0 (dk0 20) 8).setD ((pl0 (dk0 20) 8).d.create nmF).1) ⟨0, works0⟩ 1 :=
    ⟨⟨⟨_, pl0_told c1⟩, pl0_wf (by decide) (by decide), by intro f hf; cases hf⟩, (by show (0 : Int) ≤ 1; decide), (by show (1 : Int) ≤ 1; decide), (by show ((dk0 20).create nmF).1.logs ≤ 2; rw [c4]; decide), (by decide), (fun _ => by show ([] : List UInt8).length ≤ 504; decide), rfl⟩
  refine tNew_ok (W := 1) (m := 1) (x0 := ⟨0, works0⟩) S (by decide) (hg.mod e2 id) p2 (by decide) (fun _ => I0) (fun u => absurd hcr u) (fun _ _ F3 H3 s3 k p3 S3 t3 k3 hk3 I3 => ?_) (fun _ u => absurd (show (0 + 1 : Nat) < 20 by decide) u) (fun F3 H3 s3 e p3 S3 hC => hC.elim)
  have T3 : TT H H3 F3 k p d s3 (tr0 nmF 1) := by
    refine ⟨⟨Nat.le_trans e2.size S3.mod.size, fun b hb _ => (S3.mod.same b (Nat.lt_of_lt_of_le hb e2.size) fun q => by have := f2 b q; omega).trans (e2.same b hb id)⟩, p3, t3, k3, fun b hb => ?_⟩
    rcases hb with u | u
    · rcases S3.own b u with v | v
      · exact f2 b v
      · exact Nat.le_trans e2.size v
    · subst u; exact Nat.le_trans e2.size hk3
  refine br_f rfl (br_f rfl ?_)
  have L0 := leaf0
  generalize St.made ⟨0, works0⟩ 1 = x0 at *
  -- an insertion
  have ins : ∀ (x : St) (t : Tr) (rows : List (List Int)) (v : Int) (m : Nat) (s : Pl) (F : Nat → Prop) (A : Heap) (K' : Bool × Int → Heap → Prop) (f : Bool) (t' : Tr) (rows' : List (List Int)), Leaf x rows → t.name = nmF → t.width = 1 → t.root = 1 → t.depth = 1 → 0 ≤ t.count ∧ t.count ≤ 10 → t.ready = 0 → m ≤ 1000000 →
      CalmI nmF 20 8 s x m → TT H A F k p d s t → (0 ≤ v ∧ v < 100) → (sameAt rows [v] = true ∧ f = false ∧ t' = t ∧ rows' = rows ∨ sameAt rows [v] = false ∧ f = true ∧ t' = t.up true ∧ rows' = insAt (below [v] rows) [v] rows ∧ rows'.length ≤ 10 ∧ span0.holds rows' = true ∧ ∀ l ∈ rows', l.length = 1 ∧ fitsL l) →
      (∀ F' B s' x', TT H B F' k p d s' t' → CalmI nmF 20 8 s' x' (m + 4000) → Leaf x' rows' → K' (f, 0) B) →
      newC A #[(.int .u64 v)] ty_uint64 fun pp H4 => tree_Tree_Insert.sp (at0 k) (Sl.mk (some pp) 1 1) H4 K' := by
    intro x t rows v m s F A K' f t' rows' hL hn hw hr hd hc hrd hm hI hT hv hcase hk'
    refine newC_rowT fun A4 z4 r4 e4 => ?_
    have hT4 := hT.grow e4
    have S' : Store t.name 20 (CalmI nmF 20 8) (FullB 20) (fun _ _ => False) := by rw [hn]; exact S
    refine tInsert_ok (W := 1) (root := 1) (depth := 1) (ll := [v]) S' hw (by decide) hr hd (by decide) (by decide) (by omega) hI (by omega) (hT4.gl hg) hT4.row hT4.pool hT4.off (one_word r4) (by simp) (fun u => absurd hrd u) (fun _ u => absurd rfl u) (fun _ _ f2 t2 x2 hins F5 A5 s5 p5 S5 k5 t5 I5 => ?_) (fun _ _ hins => ?_) (fun _ _ hins => ?_) (fun _ _ _ _ _ _ _ _ hC => hC.elim)
    · rw [hL.ins hw] at hins
      rcases hcase with ⟨c1, rfl, rfl, rfl⟩ | ⟨c1, rfl, rfl, rfl, c5, c6, c7⟩
      · rw [if_pos c1] at hins
        cases hins
        exact hk' F5 A5 s5 _ (hT4.step S5 p5 t5 k5) I5 hL
      · rw [if_neg (by rw [c1]; simp)] at hins
        have hnf : (⟨[], insAt (below [v] rows) [v] rows⟩ : Nd).full ((1 : Nat) : Int) 0 = false := by
          unfold Nd.full
          have e1 : roomL ((1 : Nat) : Int) = 63 := by decide
          have e2 : fanL ((1 : Nat) : Int) = 42 := by decide
          rw [e1, e2]
          simp; omega
        have hfin : x.fin ((1 : Nat) : Int) 20 0 1 ⟨[], insAt (below [v] rows) [v] rows⟩ = .ok true none (x.put 1 ⟨[], insAt (below [v] rows) [v] rows⟩) := by
          unfold St.fin
          rw [hnf]; rfl
        rw [hfin] at hins
        simp only [InsR.ok.injEq] at hins
        obtain ⟨rfl, rfl, rfl⟩ := hins
        exact hk' F5 A5 s5 _ (hT4.step S5 p5 t5 k5) I5 ⟨hL.N, setT_same x.T 1 _, leaf_fine c6 c7 (by omega)⟩
    all_goals
      intro F5 A5 s5
      exfalso
      rw [hL.ins hw] at hins
      rcases hcase with ⟨c1, _⟩ | ⟨c1, _, _, rfl, c5, _⟩
      · rw [if_pos c1] at hins; cases hins
      · rw [if_neg (by rw [c1]; simp)] at hins
        have hnf : (⟨[], insAt (below [v] rows) [v] rows⟩ : Nd).full ((1 : Nat) : Int) 0 = false := by
          unfold Nd.full
          have e1 : roomL ((1 : Nat) : Int) = 63 := by decide
          have e2 : fanL ((1 : Nat) : Int) = 42 := by decide
          rw [e1, e2]
          simp; omega
        have hfin : x.fin ((1 : Nat) : Int) 20 0 1 ⟨[], insAt (below [v] rows) [v] rows⟩ = .ok true none (x.put 1 ⟨[], insAt (below [v] rows) [v] rows⟩) := by
          unfold St.fin
          rw [hnf]; rfl
        rw [hfin] at hins
        cases hins
  have I3' : CalmI nmF 20 8 s3 x0 3 := I3
  have lenc : ∀ l ∈ ([[5], [9]] : List (List Int)), l.length = 1 ∧ fitsL l := by
    intro l hl
    simp at hl
    rcases hl with rfl | rfl
    · exact ⟨rfl, fits1 (by decide)⟩
    · exact ⟨rfl, fits1 (by decide)⟩
  refine ins x0 _ [] 9 3 s3 F3 H3 _ true _ [[9]] L0 rfl rfl rfl rfl (by decide) rfl (by decide) I3' T3 (by decide) (.inr ⟨by decide, rfl, rfl, by decide, by decide, by decide, fun l hl => lenc l (by simp at hl; simp [hl])⟩) fun F5 H5 s5 x5 T5 I5 L5 => ?_
  refine ins x5 _ [[9]] 5 _ s5 F5 H5 _ true _ [[5], [9]] L5 rfl rfl rfl rfl (by decide) rfl (by decide) I5 T5 (by decide) (.inr ⟨by decide, rfl, rfl, by decide, by decide, by decide, lenc⟩) fun F7 H7 s7 x7 T7 I7 L7 => ?_
  refine ins x7 _ [[5], [9]] 5 _ s7 F7 H7 _ false _ [[5], [9]] L7 rfl rfl rfl rfl (by decide) rfl (by decide) I7 T7 (by decide) (.inl ⟨by decide, rfl, rfl, rfl⟩) fun F9 H9 s9 x9 T9 I9 L9 => ?_
  -- the cursor
  refine newC_rowT fun H10 z10 r10 e10 => ?_
  have T10 := T9.grow e10
  have hkl := obj_lt T10.row
  refine tFrom_ok (F := F9) (one_word r10) (by simp) (fun b u => T10.pool.lt b u) hkl fun H11 cb lo e11 c11 hcb => ?_
  refine br_f rfl ?_
  have T11 := T10.grow e11
  obtain ⟨tt, htt⟩ : ∃ tt, tt = ((tr0 nmF 1).up true).up true := ⟨_, rfl⟩
  have hz10 := T10.ext.size
  rw [← htt] at T11
  have e6 : x9.fnd tt 1 1 [6] false = some (some [9]) := by rw [L9.fnd (by rw [htt]; rfl)]; decide
  have e9 : x9.fnd tt 1 1 [9] true = some none := by rw [L9.fnd (by rw [htt]; rfl)]; decide
  have S' : Store tt.name 20 (CalmI nmF 20 8) (FullB 20) (fun _ _ => False) := by rw [htt]; exact S
  have hrd : tt.ready = 0 := by rw [htt]; rfl
  refine tNext_ok (W := 1) (root := 1) (depth := 1) S' (by rw [htt]; rfl) (by decide) (by rw [htt]; rfl) (by rw [htt]; rfl) (by decide) (by decide) I9 (by decide) (T11.gl hg) T11.row T11.pool T11.off c11 (fun u => absurd hrd u) (fun _ u => by rw [e6] at u; cases u) (fun _ y hy F12 H12 s12 sl lo' p12 S12 k12 t12 c12 I12 o12 f12 => ?_) (fun _ u => by rw [e6] at u; cases u) (fun _ _ _ _ _ _ _ _ hC => hC.elim)
  rw [e6] at hy
  cases hy
  refine tNext_ok (W := 1) (root := 1) (depth := 1) S' (by rw [htt]; rfl) (by decide) (by rw [htt]; rfl) (by rw [htt]; rfl) (by decide) (by decide) I12 (by decide) ((T11.gl hg).mod S12.mod fun u => ?_) t12 p12 k12 c12 (fun u => absurd hrd u) (fun _ _ F13 H13 s13 p13 S13 k13 t13 c13 I13 => ?_) (fun _ y hy => by rw [e9] at hy; cases hy) (fun _ u => by rw [e9] at u; cases u) (fun _ _ _ _ _ _ _ _ hC => hC.elim)
  · have hgl := hg.lt
    rcases u with u | u | u
    · have := T11.old _ (.inl u); omega
    · have := T11.old _ (.inr u); omega
    · omega
  · refine br_t ?_ ?_
    · have := o12.1
      simp at this
      simp [← this]
    have i13 : Ints .u64 H13 sl [9] := o12.ints.mod S13.mod fun ad ha u => by
      have := f12 _ ⟨ad, ha, rfl⟩
      rcases u with u | u | u
      · exact this.2.1 u
      · exact this.2.2.1 u
      · exact this.2.2.2.1 u
    refine ints_get i13 (i := 0) (j := 0) rfl (by simp) fun ad ha => ?_
    refine br_t rfl ?_
    refine tCount_ok t13 ?_
    have hcnt : ((if tt.gone then 0 else tt.count) == (2 : Int)) = true := by rw [htt]; rfl
    rw [hcnt]
    refine hK H13 ⟨?_, fun b hb _ => ?_⟩
    · have h1 := T11.ext.size; have h2 := S12.mod.size; have h3 := S13.mod.size; omega
    · have h1 := T11.ext.size; have h2 := S12.mod.size
      have hb11 : ∀ c, F9 c ∨ c = k ∨ c = cb → H.size ≤ c := fun c u => by
        rcases u with u | u | u
        · exact T11.old c (.inl u)
        · exact T11.old c (.inr u)
        · omega
      rw [S13.mod.same b (by omega) fun u => by
        rcases S12.own b u with v | v
        · have := hb11 b v; omega
        · omega, S12.mod.same b (by omega) fun u => by have := hb11 b u; omega]
      exact T11.ext.same b hb id
end
end Go.Proofs.YtmdiinakfpgdjaaGreatDoor

/-
  TreeNone: a tree and a cursor that are not there: the walk.
-/
namespace Go.Proofs.YtmdiinakfpgdjaaGreatDoor

theorem tready_none {H : Heap} {K : Int → Heap → Prop} (hK : K 1 H) : tree_Tree_ready.sp none H K := by
  refine tree_Tree_ready.of ?_
  unfold tree_Tree_ready.vc
  exact br_t rfl hK
theorem tinsert_none {l : Sl} {H : Heap} {K : (Bool × Int) → Heap → Prop} (hK : K (false, 1) H) : tree_Tree_Insert.sp none l H K := by
  refine tree_Tree_Insert.of ?_
  unfold tree_Tree_Insert.vc
  exact tready_none (br_t rfl hK)
theorem thas_none {l : Sl} {H : Heap} {K : (Bool × Int) → Heap → Prop} (hK : K (false, 1) H) : tree_Tree_Has.sp none l H K := by
  refine tree_Tree_Has.of ?_
  unfold tree_Tree_Has.vc
  exact tready_none (br_t rfl hK)
theorem tnext_none {H : Heap} {K : (Sl × Bool × Int) → Heap → Prop} (hK : K (Sl.mk none 0 0, false, 1) H) : tree_Cursor_Next.sp none H K := by
  refine tree_Cursor_Next.of ?_
  unfold tree_Cursor_Next.vc
  exact br_t rfl hK
theorem tnew_none {n : ByteArray} {w : Int} {H : Heap} {K : (Option Addr × Int) → Heap → Prop} (hK : K (none, 1) H) : tree_New.sp none n w H K := by
  refine tree_New.of ?_
  unfold tree_New.vc
  exact br_t rfl hK
theorem topen_none {n : ByteArray} {w : Int} {H : Heap} {K : (Option Addr × Int) → Heap → Prop} (hK : K (none, 1) H) : tree_Open.sp none n w H K := by
  refine tree_Open.of ?_
  unfold tree_Open.vc
  exact br_t rfl hK
theorem tcount_none {H : Heap} {K : Int → Heap → Prop} (hK : K 0 H) : tree_Tree_Count.sp none H K := by
  refine tree_Tree_Count.of ?_
  unfold tree_Tree_Count.vc
  exact br_t rfl hK
theorem tdepth_none {H : Heap} {K : Int → Heap → Prop} (hK : K 0 H) : tree_Tree_Depth.sp none H K := by
  refine tree_Tree_Depth.of ?_
  unfold tree_Tree_Depth.vc
  exact br_t rfl hK
theorem tfrom_none {l : Sl} {H : Heap} {K : Option Addr → Heap → Prop} (hK : K none H) : tree_Tree_From.sp none l H K := by
  refine tree_Tree_From.of ?_
  unfold tree_Tree_From.vc
  exact br_t rfl hK
theorem tsave_none {H : Heap} {K : Int → Heap → Prop} (hK : K 1 H) : tree_Tree_Save.sp none H K := by
  refine tree_Tree_Save.of ?_
  unfold tree_Tree_Save.vc
  exact tready_none (br_t rfl hK)
theorem tdrop_none {H : Heap} {K : Int → Heap → Prop} (hK : K 1 H) : tree_Tree_Drop.sp none H K := by
  refine tree_Tree_Drop.of ?_
  unfold tree_Tree_Drop.vc
  exact tready_none (br_t rfl hK)
theorem TreeNone_ok {name : ByteArray} {width : Int} {l : Sl} {H : Heap} {K : Bool → Heap → Prop} (hg : Gl H) (hK : ∀ B, Ext H B → K true B) : fathomlaw09_TreeNone.sp name width l H K := by
  refine fathomlaw09_TreeNone.of ?_
  unfold fathomlaw09_TreeNone.vc
  refine tinsert_none (thas_none (tnext_none (tnew_none (topen_none ?_))))
  refine br_t rfl (br_t rfl (br_t rfl ?_))
  refine tcount_none (br_t rfl (tdepth_none (br_t rfl (tfrom_none (br_t rfl (tsave_none (br_t rfl (tdrop_none (br_t rfl ?_)))))))))
  exact tworks_ok hg hK
end Go.Proofs.YtmdiinakfpgdjaaGreatDoor

/-
  TreeNone: for every input the law returns true, and its arguments read as before; the table of the page's sum is laid as the program's text lays it. No condition beside that.
-/
namespace Go.Proofs.YtmdiinakfpgdjaaGreatDoor
open Go.ChangeShapes Go.WideShapes Go.ChangeAt Go.RowKit

theorem wide_str {P : Program} {w : World} {r : Reach} {base : Nat} {t : TypeId} {v : Value} (h : Value.okWide P w r base t v) (ht : P.underlying t = some .string) : ∃ s, v = .string s ∧ (s.size : Int) ≤ 9223372036854775807 := by
  unfold Value.okWide at h
  rw [ht] at h
  exact cell_str h ht

set_option maxRecDepth 100000 in
theorem treeNone_lifted (os : Os) (started : os.Started) (H : Type) (enc : TypeId × Value → H) :
    ReturnsInHanded {} Tryz.checked os 3 .any (fun w args => (Rows.treeNoneSpec.pre enc Tryz.prog Tryz.f3 [] false w args ∧ laidMetH Tryz.prog laidS w) ∧ sizedMet enc Tryz.prog Tryz.f3 (OpenSpec.ofChange Rows.treeNoneSpec) false w args)
      (Rows.treeNoneSpec.post enc Tryz.prog Tryz.f3 false true false false) := by
  refine returnsInHanded_of_change_and (C := Tryz.checked) (X := fun w _ => laidMetH Tryz.prog laidS w) (fun _ _ _ hh h => h.of_heap hh) pprog_own started (by kernel_rfl) Tryz.func3
    (ChangeSpec.witness_shaped (enc := enc) (C := Tryz.checked) (os := os) (X := fun w _ => laidMetH Tryz.prog laidS w) false (World.doorLaid Tryz.prog 400 os) #[.string ByteArray.empty, .int .i64 0, .slice none 0 0] 8 rfl (World.shaped_of_RefB (by kernel_rfl) (by kernel_rfl)) (by kernel_rfl) (by kernel_rfl) (by kernel_rfl) (door_met os _)) ?_
  intro W base args ds gs before hval0 hW _ _ hL _
  have hval : ∀ (j : Nat) t v, Tryz.f3.params[j]? = some t → args[j]? = some v → Value.okWide Tryz.prog W .any base t v := hval0
  have hW' := hW
  obtain ⟨p, q, hA0, hV, rfl, hfz, hnd⟩ := hW
  have hA : DataW.TrodAll enc Tryz.prog W 0 (fun _ => true) true Tryz.f3.params.toList args.toList ds p := hA0
  rw [Tryz.params3] at hA hval
  obtain ⟨v0, v1, v2, d0, d1, d2, p0, p1, p2, rfl, rfl, rfl, h0, h1, h2⟩ := trodAll_three hA
  obtain ⟨rfl, rfl⟩ := trodVars_none hV
  obtain ⟨name, rfl, _⟩ := wide_str (hval 0 ty_string v0 rfl rfl) (by kernel_rfl)
  obtain ⟨width, rfl, _⟩ := wide_int (k := .i64) (hval 1 ty_int v1 rfl rfl) (by kernel_rfl)
  obtain ⟨l, ll, rfl, il, cl, wl⟩ := open_sl_ints (k := .u64) (e := ty_uint64) (by kernel_rfl) (by kernel_rfl) (by kernel_rfl) (hval 2 ty_sl_uint64 v2 rfl rfl) h2
  have hspec := TreeNone_ok (name := name) (width := width) (l := l) (H := W.heap) (K := fun b H' => b = true ∧ Ext W.heap H') (gl_of_laid hL) (fun H' e => ⟨rfl, e⟩)
  refine (hspec W rfl).mono fun e W' ⟨v, he, ⟨x, hx, hb, hext⟩, hal⟩ => ?_
  subst he; subst hx; subst hb
  exact ⟨_, rfl, law_post pprog_laidOut (by decide +kernel) rfl (by kernel_rfl) rfl rfl rfl rfl hW' hext hal⟩

theorem treeNone_row : Rows.TreeNoneSaid :=
  OpenClaim.holds_of_wide 3 Tryz.f3 rfl rfl rfl rfl rfl rfl rfl ⟨rfl, rfl, rfl, rfl, rfl⟩ rfl rfl rfl rfl rfl (by kernel_rfl) Tryz.func3 (by kernel_rfl)
    (of_decide_eq_true (by kernel_rfl)) (by unfold Func.isWrapper; first | (rw [if_pos (by decide +kernel)]; kernel_rfl) | (rw [if_neg (by decide +kernel)]; exact ⟨rfl, rfl⟩))
    (fun os started H enc _ => treeNone_lifted os started H enc)

/-- The card: the table tied to the program's text. -/
theorem treeNone_holds : Rows.TreeNoneCardSaid :=
  Claim7.holds_tied_plain_at .later [] [.data] true _ false
    treeNone_row (fun _ h => by cases h) (by kernel_rfl) (fun _ h => by cases h) treeNone_row_tie rfl ⟨rfl, rfl⟩ (by kernel_rfl) rfl
    (fun f fn hf hfn => by
      obtain rfl : f = 3 := Option.some.inj ((show Tryz.prog.funcNamed "fathom/fathomlaw09.TreeNone" = some 3 by kernel_rfl).symm.trans hf) |>.symm
      obtain rfl : fn = Tryz.f3 := (Option.some.inj (Tryz.func3.symm.trans hfn)).symm
      exact ⟨by kernel_rfl, fun j t ht => by
        rw [Tryz.params3] at ht
        have hm : t ∈ [ty_string, ty_int, ty_sl_uint64] := by simpa using Array.mem_of_getElem? ht
        have hall : ([ty_string, ty_int, ty_sl_uint64].all fun u => !Tryz.prog.wantsStandIn u) = true := by kernel_rfl
        exact (show Tryz.prog.wantsStandIn t = false by simpa using List.all_eq_true.1 hall t hm)⟩)
    (by kernel_rfl)
#print axioms treeNone_holds
end Go.Proofs.YtmdiinakfpgdjaaGreatDoor
