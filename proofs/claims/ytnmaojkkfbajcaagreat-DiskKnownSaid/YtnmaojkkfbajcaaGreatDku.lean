/-
  The disk's statements: a step's bytes; what is written over; the short calls.
-/
import Derived.Test.YtnmaojkkfbajcaaGreatDkt
namespace Go.Proofs.YtnmaojkkfbajcaaGreat
open Go.MapKept

theorem elByte1 : El Tryz.prog ty_sl_uint8 ty_uint8 1 (.int .u8 0) := El_of (z := .int .u8 0) (zb := isInt0 .u8) isInt0_eq rfl (by kernel_rfl)
theorem pgV_rep (n : Nat) (x : UInt8) : pgV (List.replicate n x) = List.replicate n (.int .u8 (x.toNat : Int)) := by simp [pgV]
theorem pgV_set (l : List UInt8) (i : Nat) (x : UInt8) : (pgV l).set i (.int .u8 (x.toNat : Int)) = pgV (l.set i x) := by
  unfold pgV; rw [List.map_set]
theorem SlB_of {H : Heap} {s : Sl} {b : List UInt8} (h : Owns H 0 ty_uint8 1 s (pgV b)) : SlE EB ty_uint8 H s b := by
  unfold SlE; rw [EB_all]; exact h
theorem SlB_to {H : Heap} {s : Sl} {b : List UInt8} (h : SlE EB ty_uint8 H s b) : Owns H 0 ty_uint8 1 s (pgV b) := by
  unfold SlE at h; rw [EB_all] at h; exact h

def fillB (x4 : Int) (odd : Bool) : List UInt8 := List.replicate (if odd then x4.toNat else 512) (UInt8.ofNat x4.toNat)

theorem fill_loop {b : Sl} {n : Nat} {p : Nat} {f : UInt8} {cs : Array Value} {H : Heap} {K : Heap → Prop} (h : Owns H 0 ty_uint8 1 b (pgV (List.replicate n 0))) (hn : n < 4611686018427387904) (hp : RowT H p ty_fathomlaw01_Step cs) (hc : cs[4]? = some (.int .u8 (f.toNat : Int)))
    (hK : ∀ H', Owns H' 0 ty_uint8 1 b (pgV (List.replicate n f)) → Mod (ownB b) H H' → K H') :
    LoopVC Int (0 : Int) H fun next i H3 => br (decide (i < (n : Int))) (ld (cInt .u8) H3 (Addr.add ⟨p, 0, none⟩ 4) fun (x_8 : Int) => optK b.a fun a => (0 ≤ i ∧ i < (b.n : Int)) ∧ st H3 (a.add (i.toNat * 1)) (.int .u8 x_8) fun H4 => next (IntKind.i64.wrap (i + (1 : Int))) H4) (K H3) := by
  have hbn : b.n = n := by have := h.1; simp [pgV] at this; omega
  have hpb : ∀ q, ownB b q → q ≠ p := fun q hq e => by
    obtain ⟨c, r⟩ := h.obj q hq
    rw [e] at r
    exact absurd (cells_ty hp r) (by decide)
  refine loop_upto n (fun k i H3 => i = (k : Int) ∧ Owns H3 0 ty_uint8 1 b (pgV (List.replicate k f ++ List.replicate (n - k) 0)) ∧ Mod (ownB b) H H3) ⟨rfl, by simpa using h, .refl _ _⟩ ?_
  rintro k _ H3 next hk ⟨rfl, o, m⟩ hnext
  refine br_mk (fun hc' => ?_) (fun hc' => ?_)
  · have hlt : k < n := by simpa using hc'
    have p3 : RowT H3 p ty_fathomlaw01_Step cs := hp.mod m (fun hb => hpb _ hb rfl)
    refine p3.ld (c := cInt .u8) (i := 4) (x := (f.toNat : Int)) hc ?_
    refine o.st (by omega) (by omega) rfl fun H4 o4 m4 s4 => ?_
    refine hnext hlt _ _ ⟨succ64 k (by omega), ?_, m.trans m4⟩
    rw [Int.toNat_natCast, pgV_set] at o4
    have e : (List.replicate k f ++ List.replicate (n - k) (0 : UInt8)).set k f = List.replicate (k + 1) f ++ List.replicate (n - (k + 1)) 0 := by
      rw [List.set_append_right _ _ (by simp)]
      simp only [List.length_replicate, Nat.sub_self]
      rw [show n - k = (n - (k + 1)) + 1 by omega, List.replicate_succ, List.set_cons_zero, List.replicate_succ', List.append_assoc]
      rfl
    rw [e] at o4
    exact o4
  · have hge : k = n := by simp at hc'; omega
    subst hge
    simp only [Nat.sub_self, List.replicate_zero, List.append_nil] at o
    exact hK H3 o m

theorem bytes_ok {x : Int} {x1 x2 : ByteArray} {x3 x4 x6 : Int} {x5 : Bool} {H : Heap} {K : Sl → Heap → Prop} (h4 : 0 ≤ x4 ∧ x4 < 256)
    (hK : ∀ b H', SlE EB ty_uint8 H' b (fillB x4 x5) → Mod (fun _ => False) H H' → (∀ q, ownB b q → H.size ≤ q) → K b H') : fathomlaw01_Step_bytes.sp x x1 x2 x3 x4 x5 x6 H K := by
  refine fathomlaw01_Step_bytes.of ?_
  unfold fathomlaw01_Step_bytes.vc
  refine newC_rowT fun H1 s1 r1 m1 => ?_
  refine r1.ld (c := cBool) (i := 5) (x := x5) rfl ?_
  have hf : ((UInt8.ofNat x4.toNat).toNat : Int) = x4 := ofNat_toNat h4
  have hcell : (#[Value.int .i64 x, .string x1, .string x2, .int .i64 x3, .int .u8 x4, .bool x5, .int .u64 x6] : Array Value)[4]? = some (.int .u8 ((UInt8.ofNat x4.toNat).toNat : Int)) := by rw [hf]; rfl
  have go : ∀ (n : Nat) (b : Sl) (H2 : Heap), n < 4611686018427387904 → Owns H2 0 ty_uint8 1 b (List.replicate n (.int .u8 0)) → Ext H1 H2 → (∀ q, ownB b q → H1.size ≤ q) → n = (if x5 then x4.toNat else 512) →
      LoopVC Int (0 : Int) H2 fun next i H3 => br (decide (i < (n : Int))) (ld (cInt .u8) H3 (Addr.add ⟨H.size, 0, none⟩ 4) fun (x_8 : Int) => optK b.a fun a => (0 ≤ i ∧ i < (b.n : Int)) ∧ st H3 (a.add (i.toNat * 1)) (.int .u8 x_8) fun H4 => next (IntKind.i64.wrap (i + (1 : Int))) H4) (K b H3) := by
    intro n b H2 hn o e f hnn
    refine fill_loop (f := UInt8.ofNat x4.toNat) (by rw [pgV_rep]; exact o) hn (r1.ext e) hcell fun H3 o3 m3 => ?_
    refine hK b H3 ?_ ⟨?_, fun q hq _ => (m3.same q (by have := e.size; omega) fun hh => ?_).trans ((e.same q (by omega) id).trans (m1.same q hq id))⟩ (fun q hq => by have := f q hq; omega)
    · rw [fillB, ← hnn]; exact SlB_of o3
    · have := e.size; have := m3.size; omega
    · have := f q hh; omega
  refine br_mk (fun h5 => ?_) (fun h5 => ?_)
  · refine r1.ld (c := cInt .u8) (i := 4) (x := x4) rfl ?_
    rw [wrap64 (by omega) (by omega)]
    refine elByte1.make (base := 0) h4.1 (Int.le_refl _) (by omega) (by omega) (Nat.zero_le _) fun b H2 hn o e f _ => ?_
    have := go x4.toNat b H2 (by omega) o e f (by rw [if_pos h5])
    rw [Int.toNat_of_nonneg h4.1] at this
    exact this
  · refine elByte1.make (base := 0) (by omega) (Int.le_refl _) (by omega) (by omega) (Nat.zero_le _) fun b H2 hn o e f _ => ?_
    exact go 512 b H2 (by omega) o e f (by rw [if_neg (by simp [h5])])

/-- Cells of one's own are written over. -/
theorem spoil_ok {e : TypeId} {s : Sl} {xs : List Value} {v : Value} {H : Heap} {K : Heap → Prop} (h : Owns H 0 e 1 s xs) (hn : s.n < 4611686018427387904) (hp : plainV v = true) (hK : ∀ H', Mod (ownB s) H H' → K H') :
    LoopVC Int (0 : Int) H fun next z H9 => br (decide (z < (s.n : Int))) (optK s.a fun a => (0 ≤ z ∧ z < (s.n : Int)) ∧ st H9 (a.add (z.toNat * 1)) v fun H10 => next (IntKind.i64.wrap (z + (1 : Int))) H10) (K H9) := by
  refine loop_upto s.n (fun k i H3 => i = (k : Int) ∧ (∃ ys, Owns H3 0 e 1 s ys) ∧ Mod (ownB s) H H3) ⟨rfl, ⟨xs, h⟩, .refl _ _⟩ ?_
  rintro k _ H3 next hk ⟨rfl, ⟨ys, o⟩, m⟩ hnext
  refine br_mk (fun hc => ?_) (fun _ => hK H3 m)
  have hlt : k < s.n := by simpa using hc
  refine o.st (by omega) (by omega) hp fun H4 o4 m4 s4 => ?_
  exact hnext hlt _ _ ⟨succ64 k (by omega), ⟨_, o4⟩, m.trans m4⟩

/-! ### The short calls -/

def pgF (x : UInt8) : Pg := ⟨List.replicate 512 x, List.length_replicate⟩
theorem fillB_pg (x : Int) : fillB x false = (pgF (UInt8.ofNat x.toNat)).1 := rfl

section
variable (n : ByteArray) (hn : named n = true)
def st1 : Dk := ⟨[⟨n, [], []⟩], 0, 2, 1, 0, none, false⟩
def st2 : Dk := ⟨[⟨n, [], [⟨0, 0, pgF 1⟩]⟩], 1, 2, 2, 1, none, false⟩
def st3 : Dk := ⟨[⟨n, [pgF 1], []⟩], 1, 2, 3, 1, none, false⟩
def st4 : Dk := ⟨[⟨n, [pgF 1], [⟨1, 0, pgF 2⟩]⟩], 1, 2, 4, 2, none, false⟩
def st5 : Dk := ⟨[⟨n, [pgF 1], [⟨1, 0, pgF 2⟩]⟩], 1, 2, 4, 2, some (0, 0), false⟩
def st6 : Dk := ⟨[⟨n, [pgF 1], [⟨1, 0, pgF 2⟩]⟩], 1, 2, 4, 2, some (0, 0), true⟩
def st7 : Dk := ⟨[⟨n, [pgF 1], []⟩], 1, 2, 4, 2, none, false⟩

theorem w64_small {x : Int} (h0 : -9223372036854775808 ≤ x) (h1 : x ≤ 9223372036854775807) : w64 x = x := wrap64 h0 h1

include hn in
theorem go1 : (dk0 2).create n = (st1 n, 0) := by
  simp [Dk.create, dk0, hn, Dk.idx, Dk.step, Dk.change, st1, w64_small]
  rfl
theorem go2 : (st1 n).write n 0 (pgF 1).1 = (st2 n, 0) := by
  have h := (pgF 1).2
  simp [Dk.write, st1, Dk.idx, Dk.step, Dk.change, w64_small, h, Dk.file, Fl.pages, Dk.used, Dk.addW, Dk.setMost, st2, putP]
theorem go3 : (st2 n).sync n = (st3 n, 0) := by
  simp [Dk.sync, st2, Dk.idx, Dk.step, Dk.change, w64_small, Dk.upd, Fl.pages, st3, putP]
theorem go4 : (st3 n).write n 0 (pgF 2).1 = (st4 n, 0) := by
  have h := (pgF 2).2
  simp [Dk.write, st3, Dk.idx, Dk.step, Dk.change, w64_small, h, Dk.file, Fl.pages, Dk.used, Dk.addW, Dk.setMost, st4, putP]
theorem go5 : (st4 n).setCrash 0 0 = st5 n := by simp [Dk.setCrash, st4, st5]
theorem go6 : (st5 n).remove n = (st6 n, 4) := by
  simp [Dk.remove, st5, Dk.idx, Dk.step, Dk.change, st6]
theorem keep00 : keepBit 0 0 = false := by decide
theorem go7 : (st6 n).restart = st7 n := by
  have h : (st6 n).rank 1 = 0 := by simp [Dk.rank, Dk.nos, st6]
  have h2 : (st6 n).keep = 0 := rfl
  simp only [Dk.restart, st6, if_true]
  simp only [List.map_cons, List.map_nil, Dk.after, List.filter_cons, List.filter_nil]
  have h3 : keepBit (st6 n).keep ((st6 n).rank 1) = false := by rw [h, h2]; exact keep00
  simp only [st6] at h3
  simp [h3, st7]
theorem go8 : (st7 n).read n 0 = ((pgF 1).1, 0) := by
  simp [Dk.read, Dk.open, st7, Dk.idx, Dk.file, Fl.pages]
end

theorem named_f : named (ByteArray.mk #[102]) = true := by decide

theorem Byts.strAt {H : Heap} {s : Sl} {b : List UInt8} (h : Byts H s b) : bytesAt H s.a s.n (strB b) := by
  have e : bytesOf (u8i b) = strB b := by
    unfold bytesOf strB u8i
    congr 1
    rw [List.map_map]
    have : ((fun x : Int => UInt8.ofNat x.toNat) ∘ fun x : UInt8 => (x.toNat : Int)) = id := by
      funext x; simp
    rw [this]; simp
  rw [← e]
  refine Ints.bytesAt h fun x hx => ?_
  unfold u8i at hx
  obtain ⟨y, _, rfl⟩ := List.mem_map.1 hx
  have := y.toNat_lt; omega
theorem strB_eq {H : Heap} {s : Sl} {b : List UInt8} {K : ByteArray → Prop} (h : Byts H s b) (hK : K (strB b)) : b2s H s.a s.n K := ⟨_, h.strAt, hK⟩

theorem works_ok {H : Heap} {K : Bool → Heap → Prop} (hK : ∀ H', Mod (fun _ => False) H H' → K true H') : fathomlaw01_works.sp H K := by
  refine fathomlaw01_works.of ?_
  unfold fathomlaw01_works.vc
  refine New_ok (by omega) fun F0 d H1 a0 m1 f0 => ?_
  refine bytes_ok (by omega) fun b1 H2 o1 m2 f1 => ?_
  refine bytes_ok (by omega) fun b2 H3 o2 m3 f2 => ?_
  refine br_f rfl ?_
  have a0lt := a0.lt
  have z1 := m1.size; have z2 := m2.size; have z3 := m3.size
  have o1lt := o1.lt; have o2lt := o2.lt
  have a3 := (a0.keep (H' := H3) fun b hb hl => (m3.same b (by omega) id).trans (m2.same b hl id))
  have o13 : SlE EB ty_uint8 H3 b1 (fillB 1 false) := o1.keep fun b hb hl => m3.same b hl id
  have hnf := named_f
  generalize hnn : ByteArray.mk #[102] = n at hnf
  refine Create_ok a3 fun F1 H4 a4 t4 => ?_
  rw [go1 n hnf] at a4 ⊢
  refine br_f rfl ?_
  have ob1 : ∀ b, ownB b1 b → ¬ F0 b := fun b hb hF => by have := f1 b hb; have := a0lt b hF; omega
  have ob2 : ∀ b, ownB b2 b → ¬ F0 b := fun b hb hF => by have := f2 b hb; have := a0lt b hF; omega
  have ob1l : ∀ b, ownB b1 b → b < H3.size := fun b hb => by have := o1lt b hb; omega
  have ob2l : ∀ b, ownB b2 b → b < H3.size := o2lt
  have out : ∀ {F' : Nat → Prop} {A : Heap}, Step F0 F' H3 A → ∀ {s : Sl} {l : List UInt8}, (∀ b, ownB s b → ¬ F0 b) → (∀ b, ownB s b → b < H3.size) → SlE EB ty_uint8 H3 s l → SlE EB ty_uint8 A s l ∧ (∀ ad, s.a = some ad → ¬ F' ad.block) := by
    intro F' A t s l h1 h2 o
    refine ⟨o.keep fun b hb hl => t.mod.same b hl (h1 b hb), fun ad ha hF => ?_⟩
    have hb : ownB s ad.block := ⟨ad, ha, rfl⟩
    rcases t.own _ hF with q | q
    · exact h1 _ hb q
    · have := h2 _ hb; omega
  obtain ⟨p1, q1⟩ := out t4 ob1 ob1l o13
  refine Write_ok a4 (SlB_byts p1) q1 (by simp [Dk.logs, st1]) fun F2 H5 a5 t5 => ?_
  rw [show fillB 1 false = (pgF 1).1 from rfl, go2 n] at a5 ⊢
  refine br_f rfl ?_
  have t35 := t4.trans t5
  refine Sync_ok a5 fun F3 H6 a6 t6 => ?_
  rw [go3 n] at a6 ⊢
  refine br_f rfl ?_
  have t36 := t35.trans t6
  obtain ⟨p2, q2⟩ := out t36 ob2 ob2l o2
  refine Write_ok a6 (SlB_byts p2) q2 (by simp [Dk.logs, st3]) fun F4 H7 a7 t7 => ?_
  rw [show fillB 2 false = (pgF 2).1 from rfl, go4 n] at a7 ⊢
  refine br_f rfl ?_
  have t37 := t36.trans t7
  refine Crash_ok a7 (by omega) fun F5 H8 a8 t8 => ?_
  rw [go5 n] at a8
  have t38 := t37.trans t8
  refine Remove_ok a8 fun F6 H9 a9 t9 => ?_
  rw [go6 n] at a9 ⊢
  refine br_f rfl ?_
  have t39 := t38.trans t9
  refine Down_ok a9 ?_
  refine br_f rfl ?_
  refine Restart_ok a9 (by simp [Dk.logs, st6]) fun F7 H11 a11 t11 => ?_
  rw [go7 n] at a11
  have t311 := t39.trans t11
  refine Read_ok a11 fun r H12 o12 m12 f12 => ?_
  rw [go8 n] at o12 ⊢
  refine br_t rfl ?_
  obtain ⟨p3, _⟩ := out t311 ob1 ob1l o13
  refine strB_eq (SlB_byts o12) ?_
  refine strB_eq (SlB_byts (p3.keep (H' := H12) fun b hb hl => m12.same b hl id)) ?_
  refine br_t (by rw [show fillB 1 false = (pgF 1).1 from rfl]; simp) ?_
  have a12 := a11.keep (H' := H12) fun b hb hl => m12.same b hl id
  refine Used_ok a12 ?_
  refine br_t (by simp [Dk.used, st7, Fl.pages]) ?_
  refine Ops_ok a12 ?_
  refine hK H12 ⟨by have := t311.mod.size; have := m12.size; omega, fun b hb _ => (m12.same b (by have := t311.mod.size; omega) id).trans ((t311.mod.same b (by omega) fun hF => ?_).trans ((m3.same b (by omega) id).trans ((m2.same b (by omega) id).trans (m1.same b hb id))))⟩
  have := f0 b hF; omega

end Go.Proofs.YtnmaojkkfbajcaaGreat
