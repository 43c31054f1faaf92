/-
  TreeTells: for every input the law returns true, and its arguments read as before; the table of the page's sum is laid as the program's text lays it. No condition beside that.
-/
import Derived.Test.YtmdiinakfpgdjaaGreatDoorPkp
import Derived.Test.YtmdiinakfpgdjaaGreatDoorFxn
import Derived.Test.YtmdiinakfpgdjaaGreatDoorFxt
import Derived.Test.YtmdiinakfpgdjaaGreatDoorJ35
import Derived.Test.YtmdiinakfpgdjaaGreatDoorJ39
import Derived.Test.YtmdiinakfpgdjaaGreatDoorDkt
/-
  TreeTells: a tree is filled; saved; opened again behind a crash: the walk.
-/
namespace Go.Proofs.YtmdiinakfpgdjaaGreatDoor
open Go.MapKept
theorem live_crashed {d : Dk} {n m : ByteArray} {pg : List Pg} {q : Nat} {k : Int} (h : Live d n pg q) (hs : ∃ f, d.files = [f] ∧ f.name = n ∧ f.synced = pg ∧ f.log = []) (hm : named m = true) (hne : n ≠ m) :
    Live ((d.setCrash 0 k).create m).1.restart n pg q ∧ ((d.setCrash 0 k).create m).1.logs = d.logs ∧ ((d.setCrash 0 k).create m).1.restart.logs = 0 := by
  obtain ⟨f, h1, h2, h3, h4⟩ := hs
  have e1 : d.setCrash 0 k = { d with crash := some (0, k) } := by
    unfold Dk.setCrash; rw [if_neg (by rw [h.up]; simp)]; rfl
  have hidx : ({ d with crash := some (0, k) } : Dk).idx m = none := by
    unfold Dk.idx
    rw [List.findIdx?_eq_none_iff]
    intro g hg
    have hg : g ∈ d.files := hg
    rw [h1] at hg
    simp at hg; subst hg
    have : ¬ g.name.toList = m.toList := fun q => hne (h2 ▸ ba_eq q)
    simpa using this
  have e2 : (({ d with crash := some (0, k) } : Dk).create m).1 = { d with crash := some (0, k), down := true } := by
    unfold Dk.create
    rw [if_neg (by show ¬ d.down = true; rw [h.up]; simp), if_neg (by rw [hm]; simp), if_neg (by rw [hidx]; simp), if_neg (by show ¬ d.files.length = 4096; rw [h1]; simp)]
    rfl
  rw [e1, e2]
  have e3 : ({ d with crash := some (0, k), down := true } : Dk).restart = { d with files := [⟨f.name, f.synced, []⟩], down := false, crash := none } := by
    unfold Dk.restart
    rw [if_pos rfl]
    have : d.files.map (({ d with crash := some (0, k), down := true } : Dk).after) = [⟨f.name, f.synced, []⟩] := by
      rw [h1]
      simp only [List.map_cons, List.map_nil, Dk.after, h4, List.filter_nil, List.foldl_nil]
    show ({ d with files := d.files.map _, down := false, crash := none } : Dk) = _
    rw [this]
  rw [e3]
  exact ⟨⟨rfl, rfl, ⟨⟨f.name, f.synced, []⟩, rfl, h2, h3⟩, h.quota⟩, rfl, by simp [Dk.logs]⟩
theorem calm_again {d : Dk} {n : ByteArray} {pg : List Pg} {q m : Nat} {x : St} (h : Live d n pg q) (hl : pg.length = x.N) (ho : ∀ (k : Nat) (b : Pg), pg[k]? = some b → openP b.1 = some (x.T k)) (h8 : 8 ≤ m) (hm : m ≤ 4096) : Calm (pl0 d m) n x.N q x.T :=
  ⟨⟨pg, ⟨rfl, h, hl, by intro f hf; simp [pl0] at hf, fun k b hk _ => ho k b hk⟩⟩, pl0_wf h8 hm, by intro f hf; simp [pl0] at hf⟩
theorem word_backT {x : Int} (h : 0 ≤ x ∧ x < 18446744073709551616) : wordOf (u8i (bytesI (putL [x]))) = x := by
  rw [u8i_bytesI (putL_range _)]
  have h8 : (putL [x]).length = 8 := by simp [putL, wordL]
  have a := getL_oneT h8
  obtain ⟨b, _⟩ := read_again (L := [[x]]) (w := 1) (by omega) (by simp) (fun l hl => by simp at hl; subst hl; intro y hy; simp at hy; subst hy; exact h)
  have e : [[x]].flatMap putL = putL [x] := by simp
  rw [e] at b
  have c := a.symm.trans b
  simpa using c
theorem openT_head {n : ByteArray} {W depth root count : Nat} (hW : W ≤ 16) (h1 : 1 ≤ depth) (h2 : depth ≤ 255) (hr : root < 4294967296) (hc : count ≤ 1000) : openT n (W : Int) (5, headT W depth root count) = some ⟨n, W, root, depth, count, 0, false⟩ := by
  have e0 : (headT W depth root count).getD 0 0 = UInt8.ofNat W := rfl
  have e1 : (headT W depth root count).getD 1 0 = UInt8.ofNat depth := rfl
  have e2 : (headT W depth root count).drop 2 = be4 root ++ bytesI (putL [(count : Int)]) := rfl
  have e6 : (headT W depth root count).drop 6 = bytesI (putL [(count : Int)]) := rfl
  have w : wordOf (u8i ((headT W depth root count).drop 6)) = (count : Int) := by rw [e6]; exact word_backT (by omega)
  have n0 : (UInt8.ofNat W).toNat = W := by rw [UInt8.toNat_ofNat']; omega
  have n1 : (UInt8.ofNat depth).toNat = depth := by rw [UInt8.toNat_ofNat']; omega
  have hne : UInt8.ofNat depth ≠ 0 := fun q => by rw [q] at n1; simp at n1; omega
  have o4 : of4 ((headT W depth root count).drop 2) = root := by rw [e2]; exact of4_be4 hr _
  unfold openT
  show (if (5 : UInt8) = 5 ∧ (headT W depth root count).length = 14 ∧ (((headT W depth root count).getD 0 0).toNat : Int) = (W : Int) ∧ (headT W depth root count).getD 1 0 ≠ 0 ∧ wordOf (u8i ((headT W depth root count).drop 6)) ≤ 528482304 then
    some (⟨n, (W : Int), (of4 ((headT W depth root count).drop 2) : Nat), (((headT W depth root count).getD 1 0).toNat : Nat), wordOf (u8i ((headT W depth root count).drop 6)), 0, false⟩ : Tr) else none) = _
  rw [w, o4, e1, n1, e0, n0, if_pos ⟨rfl, headT_length _ _ _ _, rfl, hne, by omega⟩]
theorem TreeOn.low {x : St} {W root depth : Nat} {L : List (List Int)} {P : List Nat} (h : TreeOn x W root depth L P) (hL : L.length ≤ 400) : depth ≤ 255 := by
  rcases Nat.lt_or_ge 10 depth with q | q
  · have h1 := (h.tn.sizes (by omega)).2
    have : 2 ^ 10 ≤ 2 ^ (depth - 1) := Nat.pow_le_pow_right (by decide) (by omega)
    have e : (2 : Nat) ^ 10 = 1024 := rfl
    omega
  · omega
set_option maxHeartbeats 1000000 in
theorem filled_ok {rows : Sl} {ls : List (List Int)} {W : Nat} {H : Heap} {K : (Option Addr × Option Addr × Bool) → Heap → Prop} (hg : Gl H) (hW : W ≤ 16) (hr : Rows H rows ls) (hls : ∀ l ∈ ls, l.length = W ∧ fitsL l) (hn : ls.length ≤ 300)
    (hK : ∀ k p d L B, TreeAt H (fun _ => False) B k p d W L 2000000 → (∀ y, y ∈ L ↔ y ∈ ls) → L.length ≤ ls.length → K (at0 k, at0 d, true) B) : fathomlaw09_filled.sp rows (W : Int) H K := by
  refine fathomlaw09_filled.of ?_
  unfold fathomlaw09_filled.vc
  refine New_ok (by decide) fun F1 d H1 a1 e1 f1 => ?_
  refine TP.new (m := 8) hg e1 a1 f1 (by decide) (by decide) fun p H2 t2 => ?_
  obtain ⟨e2, F2, p2, f2⟩ := t2
  obtain ⟨c1, c2, c3, c4⟩ := create_live (q := 5000) (n := nmF) (by decide) (by decide) nmF_named
  have hcr : ((pl0 (dk0 5000) 8).d.create nmF).2 = 0 := c3
  have I0 : CalmI nmF 5000 8 ((pl0 (dk0 5000) 8).setD ((pl0 (dk0 5000) 8).d.create nmF).1) ⟨0, works0⟩ 1 :=
    ⟨⟨⟨_, pl0_told c1⟩, pl0_wf (by decide) (by decide), by intro f hf; cases hf⟩, (by show (0 : Int) ≤ 1; decide), (by show (1 : Int) ≤ 1; decide), (by show ((dk0 5000).create nmF).1.logs ≤ 2; rw [c4]; decide), (by decide), (fun _ => by show ([] : List UInt8).length ≤ 504; decide), rfl⟩
  refine tNew_ok (W := W) (m := 1) (x0 := ⟨0, works0⟩) treeStore hW (hg.mod e2 id) p2 (by decide) (fun _ => I0) (fun u => absurd hcr u) (fun _ _ F3 H3 s3 k p3 S3 t3 k3 hk3 I3 => ?_) (fun _ u => absurd (show (0 + 1 : Nat) < 5000 by decide) u) (fun F3 H3 s3 e p3 S3 hC => hC.elim)
  have T3 : TT H H3 F3 k p d s3 (tr0 nmF W) := by
    refine ⟨⟨Nat.le_trans e2.size S3.mod.size, fun b hb _ => (S3.mod.same b (Nat.lt_of_lt_of_le hb e2.size) fun q => by have := f2 b q; omega).trans (e2.same b hb id)⟩, p3, t3, k3, fun b hb => ?_⟩
    rcases hb with u | u
    · rcases S3.own b u with v | v
      · exact f2 b v
      · exact Nat.le_trans e2.size v
    · subst u; exact Nat.le_trans e2.size hk3
  have T0 : TreeAt H (fun _ => False) H3 k p d W [] 3 := ⟨F3, s3, _, _, 1, 1, [1], ⟨T3, fun _ u => u.elim, fun _ u => u.elim⟩, I3, Nat.le_refl _, made_treeOn hW⟩
  refine loop_upto ls.length (fun i z B => z = (0, (i : Int)) ∧ ∃ L, TreeAt H (fun _ => False) B k p d W L (3 + i * 4000) ∧ (∀ y, y ∈ L ↔ y ∈ ls.take i) ∧ L.length ≤ i) ⟨rfl, [], T0, fun y => by simp, Nat.le_refl _⟩ ?_
  rintro i z B next hi ⟨rfl, L, tB, mB, lB⟩ hnext
  have hrn := hr.len
  refine br_mk (fun hc => ?_) (fun hc => ?_)
  · have hlt : i < ls.length := by
      have : (i : Int) < (rows.n : Int) := by simpa using hc
      omega
    have hrB : Rows B rows ls := ⟨hr.len, fun j hj => by
      obtain ⟨ad, r, q1, q2, q3⟩ := hr.at' j hj
      exact ⟨ad, r, q1, tB.ext.cell q2 id, q3.ext tB.ext⟩⟩
    refine hrB.ld hlt fun ad r _ ri => ?_
    refine tB.insert hg hW (by omega) (by omega) ri (hls _ (List.getElem_mem hlt)) fun f L' C hf tC pl _ hl _ => ?_
    refine hnext hlt _ _ ⟨?_, L', ?_, fun y => ?_, by omega⟩
    · show ((0 : Int), IntKind.i64.wrap ((i : Int) + 1)) = _
      rw [succ64 i (by omega)]
    · rw [Nat.add_mul, Nat.one_mul, ← Nat.add_assoc]; exact tC
    · rw [pl y, mB y, List.take_add_one, List.getElem?_eq_getElem hlt, List.mem_append]
      simp only [Option.toList_some, List.mem_singleton]
      exact Or.comm
  · have hge : i = ls.length := by
      have : ¬ (i : Int) < (rows.n : Int) := by simpa using hc
      omega
    subst hge
    rw [List.take_length] at mB
    exact hK k p d L B (tB.weak (by omega)) mB lB
section
variable {H0 A : Heap} {X : Nat → Prop} {k p dp W j : Nat} {L : List (List Int)}
structure SavedAt (H0 : Heap) (X : Nat → Prop) (B : Heap) (p dp W : Nat) (L : List (List Int)) : Prop where
  at_ : ∃ (F : Nat → Prop) (s : Pl) (x : St) (root depth : Nat) (P : List Nat) (pg : List Pg), Ext H0 B ∧ PoolAt F B p dp s ∧ (∀ b, F b → H0.size ≤ b) ∧ (∀ b, X b → ¬ F b) ∧ (∀ b, X b → b < B.size) ∧ TreeOn x W root depth L P ∧ x.T 0 = (5, headT W depth root L.length) ∧
    (∀ i, (x.T i).2.length ≤ 504) ∧ Live s.d nmF pg 5000 ∧ (∃ f, s.d.files = [f] ∧ f.name = nmF ∧ f.synced = pg ∧ f.log = []) ∧ pg.length = x.N ∧ ∀ (i : Nat) (b : Pg), pg[i]? = some b → openP b.1 = some (x.T i)
set_option maxHeartbeats 1000000 in
theorem save_ok {K : Int → Heap → Prop} (h : TreeAt H0 X A k p dp W L j) (hg : Gl H0) (hW : W ≤ 16) (hL : L.length ≤ 400) (hj : j ≤ 10000000000)
    (hK : ∀ B, SavedAt H0 X B p dp W L → (∀ b, X b → B[b]? = A[b]?) → A.size ≤ B.size → K 0 B) : tree_Tree_Save.sp (at0 k) A K := by
  obtain ⟨F, s, x, m, root, depth, P, tx, cI, hm, on⟩ := h.at_
  obtain ⟨b1, b2, b3, b4⟩ := on.bounds hL
  have hpre := treeStore.pre cI
  refine tree_Tree_Save.of ?_
  unfold tree_Tree_Save.vc
  refine tready_ok tx.tt.row ?_
  refine br_f rfl ?_
  have hov := (treeStore.over (k := 0) (kd := 5) (b := headT W depth root L.length) cI (by omega) (by rw [headT_length]; omega) (by omega)).resolve_right id
  have ov : (s.over nmF (0 : Int) 5 (headT W depth root L.length)).2 = 0 ∧ CalmI nmF 5000 8 (s.over nmF (0 : Int) 5 (headT W depth root L.length)).1 { x with T := setT x.T 0 (5, headT W depth root L.length) } (m + 1) := hov
  refine thead_raw (t := ⟨nmF, W, root, depth, L.length, 0, false⟩) (W := W) (root := root) (depth := depth) (count := L.length) (tx.tt.gl hg) tx.tt.row tx.tt.pool tx.tt.off rfl rfl rfl rfl (by omega) nmF_size (by omega) (by omega) hpre.2.1 hpre.2.2.2.1 (fun u => by cases u) (fun _ F1 B1 p1 S1 => ?_)
  show br ((s.over nmF (0 : Int) 5 (headT W depth root L.length)).2 == (0 : Int)) _ _
  rw [ov.1]
  refine br_t rfl ?_
  have p1 : PoolAt F1 B1 p dp (s.over nmF (0 : Int) 5 (headT W depth root L.length)).1 := p1
  generalize (s.over nmF (0 : Int) 5 (headT W depth root L.length)).1 = s1 at *
  have I1 := ov.2
  have tr1 : TreeB B1 k p ⟨nmF, W, root, depth, L.length, 0, false⟩ := RowT.mod tx.tt.row S1.mod tx.tt.off
  simp only [optK_eq, at0]
  refine RowT.ld (c := cPtr) (i := 0) (x := at0 p) tr1 rfl ?_
  refine RowT.ld (c := cStr) (i := 1) (x := nmF) tr1 rfl ?_
  have hz1 := tx.tt.ext.size
  have hg1 : Gl B1 := (tx.tt.gl hg).mod S1.mod fun u => by have := tx.tt.old _ (.inl u); have := hg.lt; omega
  have hpre1 := treeStore.pre I1
  refine Flush_ok hg1 p1 (by omega) fun F2 B2 p2 S2 => ?_
  obtain ⟨c1, c2, c3, f, g1, g2, g3, g4, g5⟩ := I1.calm.flush
  rw [c1]
  refine tmet_zero ?_
  have S12 := S1.trans S2
  have own2 : ∀ b, F2 b → F b ∨ A.size ≤ b := S12.own
  have same : ∀ b, X b → B2[b]? = A[b]? := fun b hb => S12.mod.same b (tx.lt b hb) fun u => tx.off b hb (.inl u)
  refine hK B2 ⟨F2, _, { x with T := setT x.T 0 (5, headT W depth root L.length) }, root, depth, P, f.synced, ?_, p2, fun b hb => ?_, fun b hb u => ?_, fun b hb => Nat.lt_of_lt_of_le (tx.lt b hb) S12.mod.size, on.congr rfl fun q hq _ => setT_other hq, (by exact setT_same x.T 0 _), I1.room, ?_, ⟨f, g1, g2, rfl, g3⟩, g4, g5⟩ same S12.mod.size
  · refine ⟨Nat.le_trans hz1 S12.mod.size, fun b hb _ => ?_⟩
    rw [S12.mod.same b (by omega) fun u => by have := tx.tt.old b (.inl u); omega]
    exact tx.tt.ext.same b hb id
  · rcases own2 b hb with v | v
    · exact tx.tt.old b (.inl v)
    · omega
  · rcases own2 b u with v | v
    · exact tx.off b hb (.inl v)
    · have := tx.lt b hb; omega
  · obtain ⟨pg, told⟩ := c2.told
    have lv := told.disk
    obtain ⟨f', g1', g2', g3'⟩ := lv.file
    have : f = f' := by rw [g1] at g1'; simpa using g1'
    subst this
    have e : f.pages = f.synced := by unfold Fl.pages; rw [g3]; rfl
    rw [← e, g3']; exact lv
set_option maxHeartbeats 1000000 in
theorem again_ok {keep : Int} {K : (Option Addr × Int) → Option Addr × Int → Heap → Prop} (h : SavedAt H0 X A p dp W L) (hg : Gl H0) (hW : W ≤ 16) (hL : L.length ≤ 400)
    (hK : ∀ q k B, TreeAt H0 X B k q dp W L 10 → (∀ b, X b → B[b]? = A[b]?) → A.size ≤ B.size → K (at0 q, 0) (at0 k, 0) B) :
    disk_Disk_Crash.sp (at0 dp) (0 : Int) keep A fun (_ : Unit) H13 => disk_Disk_Create.sp (at0 dp) (ByteArray.mk #[103]) H13 fun (_ : Int) H14 => disk_Disk_Restart.sp (at0 dp) H14 fun (_ : Unit) H15 => pool_New.sp (at0 dp) (8 : Int) H15 fun (r_6 : (Option Addr × Int)) H16 => tree_Open.sp r_6.1 (ByteArray.mk #[102]) (W : Int) H16 fun (r_7 : (Option Addr × Int)) H17 => K r_6 r_7 H17 := by
  obtain ⟨F, s, x, root, depth, P, pg, eA, pA, oldA, offA, ltA, on, hT0, hroom, live, sy, hpl, hop⟩ := h.at_
  obtain ⟨b1, b2, b3, b4⟩ := on.bounds hL
  have hgA := hg.mod eA id
  have hz0 := eA.size
  obtain ⟨D, d1, d2, _⟩ := PoolAt.disk hgA pA
  refine Crash_ok d1 (by decide) fun D1 C1 a1 S1 => ?_
  refine Create_ok (n := ByteArray.mk #[103]) a1 fun D2 C2 a2 S2 => ?_
  obtain ⟨lv, ll1, ll2⟩ := live_crashed (k := keep) live sy (m := ByteArray.mk #[103]) (by decide) (by decide)
  have hlg4 : s.d.logs = 0 := by
    obtain ⟨f, f1, f2, f3, f4⟩ := sy
    unfold Dk.logs; rw [f1]; simp [f4]
  refine Restart_ok a2 (by rw [ll1, hlg4]; decide) fun D3 C3 a3 S3 => ?_
  have S13 := (S1.trans S2).trans S3
  generalize ((s.d.setCrash 0 keep).create (ByteArray.mk #[103])).1.restart = dk at *
  have e3 : Ext H0 C3 := ⟨Nat.le_trans hz0 S13.mod.size, fun b hb _ => (S13.mod.same b (by omega) fun u => by have := oldA b (d2 b u); omega).trans (eA.same b hb id)⟩
  have old3 : ∀ b, D3 b → H0.size ≤ b ∧ ¬ X b := fun b hb => by
    rcases S13.own b hb with v | v
    · exact ⟨oldA b (d2 b v), fun u => offA b u (d2 b v)⟩
    · exact ⟨by omega, fun u => by have := ltA b u; omega⟩
  have same3 : ∀ b, X b → C3[b]? = A[b]? := fun b hb => S13.mod.same b (ltA b hb) fun u => offA b hb (d2 b u)
  have hgC := hg.mod e3 id
  refine PoolNew_ok (m := 8) hgC a3 (fun q => by have := (old3 _ q).1; have := hg.lt; omega) (by decide) (by decide) fun F4 q C4 p4 e4 f4 => ?_
  have old4 : ∀ b, F4 b → H0.size ≤ b ∧ ¬ X b := fun b hb => by
    rcases f4 b hb with v | v
    · exact old3 b v
    · have h1 := e3.size
      have h2 := S13.mod.size
      exact ⟨by omega, fun u => by have := ltA b u; omega⟩
  have I4 : CalmI nmF 5000 8 (pl0 dk 8) x 1 := ⟨calm_again lv hpl hop (by decide) (by decide), (by show (0 : Int) ≤ 1; decide), (by show (1 : Int) ≤ 1; decide), (by show dk.logs ≤ 2; rw [ll2]; decide), by omega, hroom, rfl⟩
  have e34 := e3.trans e4
  have hop2 := openT_head (n := nmF) (root := root) (count := L.length) hW on.deep (on.low hL) (by omega) (by omega)
  have hroom2 : roomL (W : Int) ≠ 0 := by have := (fan_room hW).2.2.1; omega
  refine tOpen_ok (n := nmF) treeStore (hg.mod e34 id) p4 I4 (by decide) (fun u => absurd u hroom2) (fun _ u => by omega) (fun _ _ u => by rw [hT0, hop2] at u; cases u) (fun _ _ t ht F5 B s5 k p5 S5 t5 k5 hk5 I5 => ?_) (fun _ _ _ _ _ _ hC => hC.elim)
  rw [hT0, hop2] at ht
  cases ht
  have hz4 := e34.size
  have hzA4 := e4.size
  have hzS := S13.mod.size
  refine hK q k B ⟨F5, s5, x, 1 + 1, root, depth, P, ⟨⟨⟨Nat.le_trans hz4 S5.mod.size, fun b hb _ => ?_⟩, p5, t5, k5, fun b hb => ?_⟩, fun b hb u => ?_, fun b hb => ?_⟩, I5, by omega, on⟩ (fun b hb => ?_) (by have := S5.mod.size; omega)
  · rw [S5.mod.same b (by omega) fun u => by have := (old4 b u).1; omega]
    exact e34.same b hb id
  · rcases hb with u | u
    · rcases S5.own b u with v | v
      · exact (old4 b v).1
      · omega
    · omega
  · have hbl := ltA b hb
    rcases u with u | u
    · rcases S5.own b u with v | v
      · exact (old4 b v).2 hb
      · omega
    · omega
  · have := ltA b hb; have := S5.mod.size; omega
  · have hbl := ltA b hb
    rw [S5.mod.same b (by omega) fun u => (old4 b u).2 hb, e4.same b (by omega) id]
    exact same3 b hb
end
end Go.Proofs.YtmdiinakfpgdjaaGreatDoor

/-
  TreeTells: the whole of it: the walk.
-/
namespace Go.Proofs.YtmdiinakfpgdjaaGreatDoor
open Go.MapKept
section
variable {H0 A : Heap} {X : Nat → Prop} {k p dp W j : Nat} {L : List (List Int)}
theorem TreeAt.own (h : TreeAt H0 X A k p dp W L j) : ∃ O : Nat → Prop, (∀ b, O b → b < A.size ∧ H0.size ≤ b) ∧ (∀ b, X b → ¬ O b) ∧
    ∀ (H0' B : Heap) (X' : Nat → Prop), Ext H0' B → (∀ b, O b → H0'.size ≤ b) → (∀ b, O b → B[b]? = A[b]?) → (∀ b, X' b → ¬ O b ∧ b < B.size) → TreeAt H0' X' B k p dp W L j := by
  obtain ⟨F, s, x, m, root, depth, P, tx, cI, hm, on⟩ := h.at_
  refine ⟨fun b => F b ∨ b = k, fun b hb => ⟨tx.own_lt b hb, tx.tt.old b hb⟩, fun b hb => tx.off b hb, fun H0' B X' e ho hs hx => ?_⟩
  exact ⟨F, s, x, m, root, depth, P, ⟨⟨e, tx.tt.pool.keep fun b hb _ => hs b (.inl hb), (hs k (.inr rfl)).trans tx.tt.row, tx.tt.off, ho⟩, fun b hb => (hx b hb).1, fun b hb => (hx b hb).2⟩, cI, hm, on⟩
end
theorem RowsOwn.keepB {A B : Heap} {base : Nat} {s : Sl} {rs : List Sl} {ls : List (List Int)} (h : RowsOwn A base s rs ls) (hz : A.size ≤ B.size) (k : ∀ b, outB s rs b → B[b]? = A[b]?) : RowsOwn B base s rs ls :=
  h.mod (F := fun b => ¬ outB s rs b) ⟨hz, fun b _ hb => k b (Classical.byContradiction hb)⟩ (fun _ hb u => u (.inl hb)) fun r hr _ hb u => u (.inr ⟨r, hr, hb⟩)
theorem Rows.cut {H : Heap} {s : Sl} {ls : List (List Int)} (h : Rows H s ls) (hc : s.n ≤ s.c) {i : Nat} (hi : i ≤ ls.length) : Rows H ⟨slA s.a s.c i 1, s.n - i, s.c - i⟩ (ls.drop i) := by
  have hln := h.len
  refine ⟨by rw [List.length_drop]; show s.n - i = _; omega, fun j hj => ?_⟩
  rw [List.length_drop] at hj
  obtain ⟨ad, r, q1, q2, q5⟩ := h.at' (i + j) (by omega)
  refine ⟨ad.add i, r, ?_, by rw [add_add]; exact q2, ?_⟩
  · show slA s.a s.c i 1 = _
    unfold slA
    rw [if_neg (by omega), q1, Nat.mul_one]; rfl
  · rw [List.getElem_drop]; exact q5
theorem Rows.ext {H B : Heap} {s : Sl} {ls : List (List Int)} (h : Rows H s ls) (e : Ext H B) : Rows B s ls := ⟨h.len, fun i hi => by
  obtain ⟨ad, r, q1, q2, q3⟩ := h.at' i hi
  exact ⟨ad, r, q1, e.cell q2 id, q3.ext e⟩⟩
theorem Rows.ldB {H B : Heap} {s : Sl} {ls : List (List Int)} (h : Rows H s ls) (e : Ext H B) {i : Nat} (hi : i < ls.length) {K : Addr → Sl → Prop} (hK : ∀ ad r, Ints .u64 B r ls[i] → (ls[i] ≠ [] → ∀ a, r.a = some a → a.block < H.size) → K ad r) :
    optK s.a fun a => (0 ≤ (i : Int) ∧ (i : Int) < (s.n : Int)) ∧ Go.Proofs.YtmdiinakfpgdjaaGreatDoor.ld cSl B (a.add ((i : Int).toNat * 1)) fun x => K a x := by
  obtain ⟨ad, r, q1, q2, q3⟩ := h.at' i hi
  refine optK_mk ad q1 ⟨⟨by omega, by rw [h.len]; omega⟩, r, ?_, hK ad r (q3.ext e) fun hne a ha => ?_⟩
  · simp only [Int.toNat_natCast, Nat.mul_one]; exact e.cell q2 id
  · obtain ⟨a', e1, e2⟩ := q3.at (i := 0) (List.length_pos_iff.2 hne)
    rw [ha] at e1; cases e1
    have := hCell_lt e2
    rwa [add_block] at this
def fitR (W : Nat) (r : List Int) : List Int := r.take W ++ List.replicate (W - r.length) 0
theorem fitR_length (W : Nat) (r : List Int) : (fitR W r).length = W := by unfold fitR; simp; omega
theorem fitR_fits {W : Nat} {r : List Int} (h : fitsL r) : fitsL (fitR W r) := fun x hx => by
  unfold fitR at hx
  rcases List.mem_append.1 hx with q | q
  · exact h x (List.mem_of_mem_take q)
  · have := (List.mem_replicate.1 q).2
    omega
set_option maxHeartbeats 1000000 in
theorem cut_rows {rows : Sl} {rl : List (List Int)} {W : Nat} {H : Heap} {K : Sl × Int → Heap → Prop} (hr : Rows H rows rl) (hn : rl.length ≤ 300) (hW : W ≤ 16)
    (hK : ∀ l rs A, RowsOwn A H.size l rs (rl.map (fitR W)) → Ext H A → K (l, (rl.length : Int)) A) :
    LoopVC (Sl × Int) ((Sl.mk none 0 0), (0 : Int)) H fun next z H2 => br (decide (z.2 < (rows.n : Int))) (doT cSl Tryz.prog (Instr.makeSlice ty_sl_uint64 (.int .i64 (W : Int)) (.int .i64 (W : Int))) H2 fun (x : Sl) H3 => optK rows.a fun a => (0 ≤ z.2 ∧ z.2 < (rows.n : Int)) ∧ ld cSl H3 (a.add (z.2.toNat * 1)) fun (x_1 : Sl) => doT (cInt .i64) Tryz.prog (Builtin.copy_ #[ty_sl_uint64, ty_sl_uint64] ty_int #[x.v, x_1.v]) H3 fun (_ : Int) H4 => newC H4 #[x.v] ty_sl_uint64 fun p H5 => doT cSl Tryz.prog (Builtin.append_ #[ty_sl_sl_uint64, ty_sl_sl_uint64] ty_sl_sl_uint64 #[z.1.v, (.slice (some p) 1 1)]) H5 fun (l : Sl) H6 => next (l, IntKind.i64.wrap (z.2 + (1 : Int))) H6) (K z H2) := by
  have hrn := hr.len
  refine loop_upto rl.length (fun i z A => z.2 = (i : Int) ∧ ∃ rs, RowsOwn A H.size z.1 rs ((rl.take i).map (fitR W)) ∧ Ext H A) ⟨rfl, [], RowsOwn.nil _ _, .refl _ _⟩ ?_
  rintro i ⟨out, _⟩ A next hi ⟨rfl, rs, ro, eA⟩ hnext
  simp only
  refine br_mk (fun hc => ?_) (fun hc => ?_)
  · have hlt : i < rl.length := by have : (i : Int) < (rows.n : Int) := by simpa using hc
                                   omega
    refine elU64.make (base := H.size) (by omega) (Int.le_refl _) (by omega) (by omega) eA.size fun x A1 ln o1 e1 f1 hxa => ?_
    rw [Int.toNat_natCast] at ln o1
    have z1 := e1.size
    refine (hr.ext (eA.trans e1)).ld hlt fun ad r _ ri => ?_
    have hcs : ((rl[i].take W).map (Value.int .u64)).length = Nat.min r.n x.n := by
      rw [List.length_map, List.length_take, ln, ri.len]
      show min _ _ = min _ _
      exact Nat.min_comm _ _
    have hrd : Reads A1 r.a ((rl[i].take W).map (Value.int .u64)) := by
      have := ri.reads.take W
      rwa [← List.map_take] at this
    refine Owns.copyAt (o := 0) (s := x) (dl := x.n) (dc := x.c) (by kernel_rfl) (by kernel_rfl) o1 (fun _ => ?_) hrd hcs (by
      have := Nat.min_le_right r.n x.n
      rw [hcs]; show 0 + min r.n x.n ≤ x.n; omega) (fun v hv => ?_) fun A4 o4 m4 s4 => ?_
    · cases hxa2 : x.a with
      | none => rfl
      | some a => rfl
    · obtain ⟨y, _, rfl⟩ := List.mem_map.1 hv
      rfl
    have e4 : (List.replicate W (Value.int .u64 0)).take 0 ++ (rl[i].take W).map (Value.int .u64) ++ (List.replicate W (Value.int .u64 0)).drop (0 + ((rl[i].take W).map (Value.int .u64)).length) = (fitR W rl[i]).map (Value.int .u64) := by
      unfold fitR
      rw [List.take_zero, List.nil_append, List.map_append, List.map_replicate, List.drop_replicate, List.length_map, List.length_take]
      congr 2
      omega
    rw [e4] at o4
    have z4 := m4.size
    have zA := eA.size
    have ro4 : RowsOwn A4 H.size out rs ((rl.take i).map (fitR W)) := (ro.ext e1).mod m4 (fun b hb q => by have := (ro.block.1 b hb).2; have := f1 b q; omega) fun y hy b hb q => by have := (ro.block.2 y hy b hb).2; have := f1 b q; omega
    refine ro4.push (ty := ty_sl_sl_uint64) o4 (fun r' hr' b hb hb' => by have := (ro.block.2 r' hr' b hb').2; have := f1 b hb; omega) (by rw [ro.n, List.length_map, List.length_take]; omega) (by omega) fun s' H' _ r5 m5 => ?_
    refine hnext hlt _ _ ⟨succ64 i (by omega), rs ++ [x], ?_, ⟨by have := m5.size; omega, fun b hb _ => ?_⟩⟩
    · rw [List.take_add_one, List.getElem?_eq_getElem hlt, List.map_append]
      exact r5
    · exact (m5.same b (by omega) (fun q => by have := (ro.block.1 b q).1; omega)).trans ((m4.same b (by omega) (fun q => by have := f1 b q; omega)).trans ((e1.same b (by omega) id).trans (eA.same b hb id)))
  · have hie : i = rl.length := by
      have : ¬ (i : Int) < (rows.n : Int) := by simpa using hc
      omega
    subst hie
    rw [List.take_length] at ro
    exact hK out rs A ro eA
set_option maxHeartbeats 1000000 in
theorem turn_rows {l : Sl} {ls : List (List Int)} {rs : List Sl} {base : Nat} {H : Heap} {K : Sl × Int → Heap → Prop} (hr : RowsOwn H base l rs ls) (hn : ls.length ≤ 300) (hbase : base ≤ H.size)
    (hK : ∀ t rs2 A i, RowsOwn A base t rs2 ls.reverse → Ext H A → K (t, i) A) :
    LoopVC (Sl × Int) ((Sl.mk none 0 0), IntKind.i64.wrap ((l.n : Int) - (1 : Int))) H fun next_1 z_1 H7 => br (decide (z_1.2 ≥ (0 : Int))) (optK l.a fun a_1 => (0 ≤ z_1.2 ∧ z_1.2 < (l.n : Int)) ∧ ld cSl H7 (a_1.add (z_1.2.toNat * 1)) fun (x_2 : Sl) => newC H7 #[x_2.v] ty_sl_uint64 fun p_1 H8 => doT cSl Tryz.prog (Builtin.append_ #[ty_sl_sl_uint64, ty_sl_sl_uint64] ty_sl_sl_uint64 #[z_1.1.v, (.slice (some p_1) 1 1)]) H8 fun (turned : Sl) H9 => next_1 (turned, IntKind.i64.wrap (z_1.2 - (1 : Int))) H9) (K z_1 H7) := by
  have hln := hr.n
  have hrl := hr.len
  refine loop_upto ls.length (fun j z A => z.2 = (ls.length : Int) - 1 - j ∧ ∃ rs2, RowsOwn A base z.1 rs2 (ls.reverse.take j) ∧ Ext H A ∧ (∀ b, ownB z.1 b → H.size ≤ b) ∧ ∀ r ∈ rs2, ∃ i, ls.length ≤ i + j ∧ rs[i]? = some r) ⟨?_, [], RowsOwn.nil _ _, .refl _ _, fun b u => absurd u (nilT_own b), fun r hr => (by cases hr)⟩ ?_
  · show IntKind.i64.wrap ((l.n : Int) - 1) = _
    rw [wrap64 (by omega) (by omega)]; omega
  rintro j ⟨out, _⟩ A next hi ⟨rfl, rs2, ro, eA, fo, fr⟩ hnext
  simp only
  refine br_mk (fun hc => ?_) (fun hc => ?_)
  · have hlt : j < ls.length := by
      have : (ls.length : Int) - 1 - j ≥ 0 := by simpa using hc
      omega
    obtain ⟨i, hij⟩ : ∃ i, i + 1 + j = ls.length := ⟨ls.length - 1 - j, by omega⟩
    have ei : (ls.length : Int) - 1 - j = (i : Int) := by omega
    rw [ei]
    have hil : i < ls.length := by omega
    have hir : i < rs.length := by omega
    have hrA := hr.ext eA
    obtain ⟨ad, ha, hc2⟩ := hrA.out.reads.at (i := i) (by simpa using hir)
    refine optK_mk ad ha ⟨⟨by omega, by omega⟩, rs[i], by simpa using hc2, ?_⟩
    have orow := hrA.row i _ _ (List.getElem?_eq_getElem hir) (List.getElem?_eq_getElem hil)
    have zA := eA.size
    refine ro.pushB (ty := ty_sl_sl_uint64) orow (fun r' hr' b hb hb' => ?_) (by rw [ro.n, List.length_take, List.length_reverse]; omega) (by omega) fun s' H' _ r5 m5 b5 => ?_
    · obtain ⟨i', h1, h2⟩ := fr r' hr'
      exact hr.apart i i' _ _ (by omega) (List.getElem?_eq_getElem hir) h2 b hb hb'
    refine hnext hlt _ _ ⟨?_, rs2 ++ [rs[i]], ?_, ⟨by have := m5.size; omega, fun b hb _ => ?_⟩, fun b u => ?_, fun r hr' => ?_⟩
    · show IntKind.i64.wrap ((i : Int) - 1) = _
      rw [wrap64 (by omega) (by omega)]; omega
    · have hjr : j < ls.reverse.length := by rw [List.length_reverse]; exact hlt
      rw [List.take_add_one, List.getElem?_eq_getElem hjr]
      have e : ls.reverse[j] = ls[i] := by
        rw [List.getElem_reverse]
        congr 1
        omega
      rw [e]; exact r5
    · exact (m5.same b (by omega) fun q => by have := fo b q; omega).trans (eA.same b hb id)
    · rcases b5 b u with v | v
      · exact fo b v
      · omega
    · rcases List.mem_append.1 hr' with v | v
      · obtain ⟨i', h1, h2⟩ := fr r v
        exact ⟨i', by omega, h2⟩
      · have e : r = rs[i] := by simpa using v
        exact ⟨i, by omega, by rw [e]; exact List.getElem?_eq_getElem hir⟩
  · have hje : j = ls.length := by
      have : ¬ (ls.length : Int) - 1 - j ≥ 0 := by simpa using hc
      omega
    subst hje
    rw [List.take_of_length_le (by simp)] at ro
    exact hK out rs2 A _ ro eA
set_option maxHeartbeats 4000000 in
theorem TreeTells_ok {rows low : Sl} {width keep : Int} {rl : List (List Int)} {ll : List Int} {H : Heap} {K : Bool → Heap → Prop} (hg : Gl H) (hr : Rows H rows rl) (hfr : ∀ l ∈ rl, fitsL l) (hlow : Ints .u64 H low ll) (hK : ∀ B, Ext H B → K true B) : fathomlaw09_TreeTells.sp rows width low keep H K := by
  refine fathomlaw09_TreeTells.of ?_
  unfold fathomlaw09_TreeTells.vc
  refine PickN_ok (by decide) ?_
  rw [if_neg (by decide)]
  obtain ⟨W, hWe, hW⟩ : ∃ W : Nat, width.emod 17 = (W : Int) ∧ W ≤ 16 := by
    have h0 : 0 ≤ width.emod 17 := Int.emod_nonneg width (show (17 : Int) ≠ 0 by decide)
    have h1 : width.emod 17 < 17 := Int.emod_lt_of_pos width (show (0 : Int) < 17 by decide)
    exact ⟨(width.emod 17).toNat, by omega, by omega⟩
  rw [hWe]
  have hrn := hr.len
  have hln := hlow.len
  refine br_mk (fun _ => hK H (.refl _ _)) (fun hc => ?_)
  simp only [Bool.or_eq_false_iff, decide_eq_false_iff_not] at hc
  have hn : rl.length ≤ 300 := by omega
  have hll : ll.length ≤ 100 := by omega
  refine cut_rows hr hn hW fun l rs H2 ro e2 => ?_
  simp only
  have hls : (rl.map (fitR W)).length ≤ 300 := by rw [List.length_map]; exact hn
  have hfit : ∀ y ∈ rl.map (fitR W), y.length = W ∧ fitsL y := fun y hy => by
    obtain ⟨r, hr', rfl⟩ := List.mem_map.1 hy
    exact ⟨fitR_length W r, fitR_fits (hfr r hr')⟩
  refine turn_rows ro hls e2.size fun tn rs2 H7 i2 rt e7 => ?_
  simp only
  have ro7 := (ro.ext e7).rows
  have hl7 := ro.n
  generalize rl.map (fitR W) = lw at *
  have e07 := e2.trans e7
  have hg7 := hg.mod e07 id
  refine filled_ok hg7 hW ro7 hfit hls fun k p d L H10 tt mt lt => ?_
  refine filled_ok (hg7.mod tt.ext id) hW (rt.rows.ext tt.ext) (fun y hy => hfit y (List.mem_reverse.1 hy)) (by rw [List.length_reverse]; exact hls) fun ku pu du Lu H11 tu mu lu => ?_
  have hLe : Lu = L := asc_eq tu.asc tt.asc fun y => by rw [mu y, mt y, List.mem_reverse]
  subst hLe
  have hL : Lu.length ≤ 400 := by omega
  refine br_f rfl ?_
  obtain ⟨Ot, ot1, ot2, ot3⟩ := tt.own
  obtain ⟨Ou, ou1, ou2, ou3⟩ := tu.own
  have tt11 : TreeAt H7 Ou H11 k p d W Lu 2000000 := ot3 H7 H11 Ou (tt.ext.trans tu.ext) (fun b hb => (ot1 b hb).2) (fun b hb => tu.ext.same b (ot1 b hb).1 id) fun b hb => ⟨fun u => by have := (ou1 b hb).2; have := (ot1 b u).1; omega, (ou1 b hb).1⟩
  refine save_ok tt11 hg7 hW hL (by decide) fun H12 sv x12 z12 => ?_
  refine br_f rfl ?_
  refine again_ok sv hg7 hW hL fun q kv H17 tv x17 z17 => ?_
  refine br_f rfl ?_
  obtain ⟨Ov, ov1, ov2, ov3⟩ := tv.own
  have hz10 := tt.ext.size
  have tu17 : TreeAt H7 Ov H17 ku pu du W Lu 2000000 := ou3 H7 H17 Ov tv.ext (fun b hb => by have := (ou1 b hb).2; omega) (fun b hb => (x17 b hb).trans (x12 b hb)) fun b hb => ⟨fun u => ov2 b u hb, (ov1 b hb).1⟩
  refine tv.count (tu17.count ?_)
  refine br_f (by simp) ?_
  refine all_ok (ll := []) tu17 hg7 hW hL (by decide) ⟨rfl, fun i v hv => by simp at hv⟩ (by simp) fun a rsa H20 tu20 roa xa za => ?_
  have hall : Lu.filter (pq [] false) = Lu := by
    rw [List.filter_eq_self]
    intro y _
    unfold pq
    cases y <;> simp [cmpL]
  rw [hall] at roa
  obtain ⟨Ow, ow1, ow2, ow3⟩ := tu20.own
  have tv20 : TreeAt H7 (fun b => Ow b ∨ outB a rsa b) H20 kv q d W Lu 10 := ov3 H7 H20 _ tu20.ext (fun b hb => (ov1 b hb).2) xa fun b hb => by
    rcases hb with u | u
    · exact ⟨fun v => ow2 b (.inl v) u, (ow1 b u).1⟩
    · have hb2 : H17.size ≤ b ∧ b < H20.size := by
        rcases u with u | ⟨r, hr', u⟩
        · exact roa.block.1 b u
        · exact roa.block.2 r hr' b u
      exact ⟨fun v => by have := (ov1 b v).1; omega, hb2.2⟩
  refine all_ok (ll := []) tv20 hg7 hW hL (by decide) ⟨rfl, fun i v hv => by simp at hv⟩ (by simp) fun b rsb H21 tv21 rob xb zb => ?_
  rw [hall] at rob
  refine all_ok (ll := ll) tv21 hg7 hW hL (by decide) (hlow.ext (e07.trans tv21.ext)) hll fun pt rsp H22 tv22 rop xp zp => ?_
  dsimp only
  refine br_f rfl ?_
  have roa22 : RowsOwn H22 H17.size a rsa Lu := roa.keepB (by omega) fun c hc => (xp c (.inl (.inr hc))).trans (xb c (.inr hc))
  have rob22 : RowsOwn H22 H20.size b rsb Lu := rob.keepB zp fun c hc => xp c (.inr hc)
  have hlen17 : ∀ y ∈ Lu, y.length = W := fun y hy => (hfit y ((mt y).1 hy)).1
  refine SameRows_ok roa22.rows rob22.rows (by omega) (fun y hy => by have := hlen17 y hy; omega) ?_
  refine br_f (by simp) ?_
  have tu22 : TreeAt H7 (fun _ => False) H22 ku pu du W Lu (2000000 + 500000000) := ow3 H7 H22 _ tv22.ext (fun c hc => by have := (ow1 c hc).2; omega) (fun c hc => (xp c (.inl (.inl hc))).trans (xb c (.inl hc))) fun c hc => hc.elim
  refine tu22.count ?_
  have han := roa22.n
  have hpn := rop.n
  have hML : (Lu.filter (pq ll false)).length ≤ Lu.length := List.length_filter_le _ _
  refine br_f (by rw [han]; simp; omega) ?_
  have ew : IntKind.i64.wrap ((a.n : Int) - (pt.n : Int)) = ((Lu.length - (Lu.filter (pq ll false)).length : Nat) : Int) := by rw [wrap64 (by omega) (by omega)]; omega
  rw [ew]
  obtain ⟨pd1, pd2⟩ := part_drop (low := ll) tt.asc
  generalize hoo : Lu.length - (Lu.filter (pq ll false)).length = o at *
  refine ⟨⟨by omega, by omega⟩, ?_⟩
  have hcut := roa22.rows.cut roa22.out.cap (i := o) (by omega)
  rw [Int.toNat_natCast]
  refine SameRows_ok rop.rows hcut (by omega) (fun y hy => by have := hlen17 y (List.mem_filter.1 hy).1; omega) ?_
  rw [← pd1]
  refine br_f (by simp) ?_
  -- rising
  have hasc := asc_rises.2 tt.asc
  refine loop_upto Lu.length (fun i z A => z = (i : Int) + 1 ∧ H22 = A) ⟨rfl, rfl⟩ ?_
  rintro i _ _ next2 hi ⟨rfl, rfl⟩ hnext2
  refine br_mk (fun hc2 => ?_) (fun hc2 => ?_)
  · have hlt : i + 1 < Lu.length := by
      have : (i : Int) + 1 < (a.n : Int) := by simpa using hc2
      omega
    have e1 : IntKind.i64.wrap ((i : Int) + 1 - 1) = (i : Int) := by rw [wrap64 (by omega) (by omega)]; omega
    rw [e1]
    refine roa22.rows.ld (i := i) (by omega) fun ad r _ ri => ?_
    have e2' : (i : Int) + 1 = ((i + 1 : Nat) : Int) := by omega
    rw [e2']
    refine roa22.rows.ld (i := i + 1) hlt fun ad2 r2 _ ri2 => ?_
    refine rowCmp_ok ri ri2 (by have := hlen17 _ (List.getElem_mem (show i < Lu.length by omega)); omega) ?_
    have hlt2 := rises_lt hasc (i := i) (j := i + 1) (by omega) hlt
    rw [getDo (by omega), getDo hlt] at hlt2
    refine br_f (by simpa using hlt2) ?_
    refine hnext2 (by omega) _ _ ⟨?_, rfl⟩
    rw [wrap64 (by omega) (by omega)]
  -- those that are not below
  refine loop_upto Lu.length (fun i z A => z = (i : Int) ∧ H22 = A) ⟨rfl, rfl⟩ ?_
  rintro i3 _ _ next3 hi3 ⟨rfl, rfl⟩ hnext3
  refine br_mk (fun hc3 => ?_) (fun hc3 => ?_)
  · have hlt : i3 < Lu.length := by
      have : (i3 : Int) < (a.n : Int) := by simpa using hc3
      omega
    refine roa22.rows.ld (i := i3) hlt fun ad r _ ri => ?_
    refine rowCmp_ok ri (hlow.ext (e07.trans tv22.ext)) (by have := hlen17 _ (List.getElem_mem hlt); omega) ?_
    have h3 := pd2 i3 hlt
    rw [getDo hlt] at h3
    refine br_f ?_ (hnext3 hlt _ _ ⟨succ64 i3 (by omega), rfl⟩)
    have e3 : decide (cmpL Lu[i3] ll ≥ 0) = decide ((i3 : Int) ≥ ((o : Nat) : Int)) := by
      apply decide_eq_decide.2
      rw [h3]; omega
    rw [e3]; simp
  -- all rows are there
  have tv0 : TreeAt H7 (fun _ => False) H22 kv q d W Lu (10 + 500000000 + 500000000 + 0 * 2000000) := tv22.less fun _ u => u.elim
  refine loop_upto lw.length (fun i z A => z = (i : Int) ∧ TreeAt H7 (fun _ => False) A kv q d W Lu (10 + 500000000 + 500000000 + i * 2000000)) ⟨rfl, tv0⟩ ?_
  rintro i4 _ A next4 hi4 ⟨rfl, tA⟩ hnext4
  refine br_mk (fun hc4 => ?_) (fun hc4 => ?_)
  · have hlt : i4 < lw.length := by
      have : (i4 : Int) < (l.n : Int) := by simpa using hc4
      omega
    have hmem : lw[i4] ∈ Lu := (mt _).2 (List.getElem_mem hlt)
    have hwi := hfit _ (List.getElem_mem hlt)
    refine ro7.ldB tA.ext hlt fun ad r ri hrb => ?_
    refine tA.has hg7 hW hL (by omega) ri hrb hwi.1 hmem fun B tB _ => ?_
    refine (ro7.ext tB.ext).ld (i := i4) hlt fun ad5 r5 _ ri5 => ?_
    refine tB.insert hg7 hW hL (by omega) ri5 hwi fun f L' C hf tC pl hsame _ _ => ?_
    have hff : f = false := by
      cases f with
      | false => rfl
      | true => exact absurd hmem (hf.1 rfl)
    subst hff
    rw [hsame rfl] at tC
    refine br_f rfl ?_
    refine hnext4 hlt _ _ ⟨succ64 i4 (by omega), tC.weak (by omega)⟩
  · have e := e07.trans tA.ext
    exact tworks_ok (hg.mod e id) fun B eB => hK B (e.trans eB)
end Go.Proofs.YtmdiinakfpgdjaaGreatDoor

/-
  TreeTells: for every input the law returns true, and its arguments read as before; the table of the page's sum is laid as the program's text lays it. No condition beside that.
-/
namespace Go.Proofs.YtmdiinakfpgdjaaGreatDoor
open Go.ChangeShapes Go.WideShapes Go.ChangeAt Go.RowKit
set_option maxRecDepth 100000 in
theorem treeTells_lifted (os : Os) (started : os.Started) (H : Type) (enc : TypeId × Value → H) :
    ReturnsInHanded {} Tryz.checked os 4 .any (fun w args => (Rows.treeTellsSpec.pre enc Tryz.prog Tryz.f4 [] false w args ∧ laidMetH Tryz.prog laidS w) ∧ sizedMet enc Tryz.prog Tryz.f4 (OpenSpec.ofChange Rows.treeTellsSpec) false w args)
      (Rows.treeTellsSpec.post enc Tryz.prog Tryz.f4 false true false false) := by
  refine returnsInHanded_of_change_and (C := Tryz.checked) (X := fun w _ => laidMetH Tryz.prog laidS w) (fun _ _ _ hh h => h.of_heap hh) pprog_own started (by kernel_rfl) Tryz.func4
    (ChangeSpec.witness_shaped (enc := enc) (C := Tryz.checked) (os := os) (X := fun w _ => laidMetH Tryz.prog laidS w) false (World.doorLaid Tryz.prog 400 os) #[.slice none 0 0, .int .i64 0, .slice none 0 0, .int .u64 0] 8 rfl (World.shaped_of_RefB (by kernel_rfl) (by kernel_rfl)) (by kernel_rfl) (by kernel_rfl) (by kernel_rfl) (door_met os _)) ?_
  intro W base args ds gs before hval0 hW _ hz hL _
  have hval : ∀ (j : Nat) t v, Tryz.f4.params[j]? = some t → args[j]? = some v → Value.okWide Tryz.prog W .any base t v := hval0
  have hW' := hW
  obtain ⟨p, q, hA0, hV, rfl, hfz, hnd⟩ := hW
  have hA : DataW.TrodAll enc Tryz.prog W 0 (fun _ => true) true Tryz.f4.params.toList args.toList ds p := hA0
  rw [Tryz.params4] at hA hval
  obtain ⟨v0, v1, v2, v3, d0, d1, d2, d3, p0, p1, p2, p3, rfl, rfl, rfl, h0, h1, h2, h3⟩ := trodAll_four hA
  obtain ⟨rfl, rfl⟩ := trodVars_none hV
  obtain ⟨rows, rl, rfl, rn, _, ra⟩ := open_sl_sl_ints (k := .u64) (e := ty_sl_uint64) (e2 := ty_uint64) (by kernel_rfl) (by kernel_rfl) (by kernel_rfl) (by kernel_rfl) (by kernel_rfl) (hval 0 _ v0 rfl rfl) h0
  obtain ⟨width, rfl, _⟩ := wide_int (k := .i64) (hval 1 ty_int v1 rfl rfl) (by kernel_rfl)
  obtain ⟨low, ll, rfl, il, _, wl⟩ := open_sl_ints (k := .u64) (e := ty_uint64) (by kernel_rfl) (by kernel_rfl) (by kernel_rfl) (hval 2 ty_sl_uint64 v2 rfl rfl) h2
  obtain ⟨keep, rfl, _⟩ := wide_int (k := .u64) (hval 3 38 v3 rfl rfl) (by kernel_rfl)
  have hspec := TreeTells_ok (rows := rows) (low := low) (width := width) (keep := keep) (rl := rl) (ll := ll) (H := W.heap) (K := fun b H' => b = true ∧ Ext W.heap H') (gl_of_laid hL)
    ⟨rn, fun i hi => by obtain ⟨ad, rr, q1, q2, q3, _⟩ := ra i hi; exact ⟨ad, rr, q1, q2, q3⟩⟩
    (fun l hl x hx => by
      obtain ⟨i, hi, rfl⟩ := List.mem_iff_getElem.1 hl
      obtain ⟨_, _, _, _, _, _, q⟩ := ra i hi
      exact fits_u64 (q x hx))
    il
    (fun H' e => ⟨rfl, e⟩)
  refine (hspec W rfl).mono fun e W' ⟨v, he, ⟨x, hx, hb, hext⟩, hal⟩ => ?_
  subst he; subst hx; subst hb
  exact ⟨_, rfl, law_post pprog_laidOut (by decide +kernel) rfl (by kernel_rfl) rfl rfl rfl rfl hW' hext hal⟩
theorem treeTells_row : Rows.TreeTellsSaid :=
  OpenClaim.holds_of_wide 4 Tryz.f4 rfl rfl rfl rfl rfl rfl rfl ⟨rfl, rfl, rfl, rfl, rfl⟩ rfl rfl rfl rfl rfl (by kernel_rfl) Tryz.func4 (by kernel_rfl)
    (of_decide_eq_true (by kernel_rfl)) (by unfold Func.isWrapper; first | (rw [if_pos (by decide +kernel)]; kernel_rfl) | (rw [if_neg (by decide +kernel)]; exact ⟨rfl, rfl⟩))
    (fun os started H enc _ => treeTells_lifted os started H enc)
theorem treeTells_holds : Rows.TreeTellsCardSaid :=
  Claim7.holds_tied_plain_at .later [] [.data] true _ false
    treeTells_row (fun _ h => by cases h) (by kernel_rfl) (fun _ h => by cases h) treeTells_row_tie rfl ⟨rfl, rfl⟩ (by kernel_rfl) rfl
    (fun f fn hf hfn => by
      obtain rfl : f = 4 := Option.some.inj ((show Tryz.prog.funcNamed "fathom/fathomlaw09.TreeTells" = some 4 by kernel_rfl).symm.trans hf) |>.symm
      obtain rfl : fn = Tryz.f4 := (Option.some.inj (Tryz.func4.symm.trans hfn)).symm
      exact ⟨by kernel_rfl, fun j t ht => by
        rw [Tryz.params4] at ht
        have hm : t ∈ [ty_sl_sl_uint64, ty_int, ty_sl_uint64, 38] := by simpa using Array.mem_of_getElem? ht
        have hall : ([ty_sl_sl_uint64, ty_int, ty_sl_uint64, 38].all fun u => !Tryz.prog.wantsStandIn u) = true := by kernel_rfl
        exact (show Tryz.prog.wantsStandIn t = false by simpa using List.all_eq_true.1 hall t hm)⟩)
    (by kernel_rfl)
#print axioms treeTells_holds
end Go.Proofs.YtmdiinakfpgdjaaGreatDoor
