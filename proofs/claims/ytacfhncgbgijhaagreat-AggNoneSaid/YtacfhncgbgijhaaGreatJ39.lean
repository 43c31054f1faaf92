/-
 The library's sorting of texts, said of the heap.
-/
import Derived.Test.YtacfhncgbgijhaaGreatFxn
import Derived.Test.YtacfhncgbgijhaaGreatLay
import Derived.Test.YtacfhncgbgijhaaGreatFxy
import Derived.Test.YtacfhncgbgijhaaGreatJ32
import Derived.Test.YtacfhncgbgijhaaGreatJ33
import Derived.Test.YtacfhncgbgijhaaGreatDks
import Derived.Test.YtacfhncgbgijhaaGreatJ37
import Derived.Test.YtacfhncgbgijhaaGreatDkt
namespace Go.Proofs.YtacfhncgbgijhaaGreat
open Go.MapKept
section
variable {H A : Heap} {d : Nat} {s : Dk} {n : ByteArray}
end
theorem word_back [Tab] {x : Int} (h : 0 ≤ x ∧ x < 18446744073709551616) : wordOf (u8i (bytesI (putL [x]))) = x := by
 rw [u8i_bytesI (putL_range _)]
 have h8 : (putL [x]).length = 8 := by simp [putL, wordL]
 have a := getL_one h8
 obtain ⟨b, _⟩ := read_again (L := [[x]]) (w := 1) (by omega) (by simp) (fun l hl => by simp at hl; subst hl; intro y hy; simp at hy; subst hy; exact h)
 have e : [[x]].flatMap putL = putL [x] := by simp
 rw [e] at b
 have c := a.symm.trans b
 simpa using c
def rr0 (n : ByteArray) (W : Nat) (m : Nat) : RR := ⟨⟨n, W, 0, false⟩, m, 0, none, []⟩
theorem Pl.look_logs [Tab] (s : Pl) (n : ByteArray) (g : Int) : (s.look n g).1.d.logs ≤ s.d.logs + 1 := by
 have a := s.pin_logs n g
 unfold Pl.look
 split
 ·exact a
 ·split
  ·exact a
  ·simp only
   rw [Pl.unpin_d]; exact a
theorem rnOpen_logs [Tab] (s : Pl) (n : ByteArray) (W : Int) : (rnOpen s n W).1.d.logs ≤ s.d.logs + 1 := by
 have a := s.look_logs n 0
 unfold rnOpen
 split
 ·exact Nat.le_succ _
 ·split
  ·exact a
  ·split
   ·exact a
   ·split
    ·exact a
    ·split <;> exact a
theorem RR.load_logs [Tab] (r : RR) (s : Pl) (j : Nat) : (r.load s j).1.d.logs ≤ s.d.logs + 1 := by
 have := s.look_logs r.b.name ((j : Int) + 1)
 unfold RR.load
 split
 ·exact Nat.le_succ _
 ·split
  ·exact this
  ·split <;> exact this
theorem RR.next_logs [Tab] (r : RR) (s : Pl) : (r.next s).1.d.logs ≤ s.d.logs + 1 := by
 have := r.load_logs s (r.at_ / r.b.room)
 unfold RR.next
 split
 ·exact Nat.le_succ _
 ·split
  ·exact Nat.le_succ _
  ·split <;> exact this
end Go.Proofs.YtacfhncgbgijhaaGreat
namespace Go.Proofs.YtacfhncgbgijhaaGreat
structure Bd [Tab] (s : Pl) (x y : Nat) : Prop where
 fit : s.Fit
 lo : 0 ≤ s.next
 hi : s.next ≤ (x : Int)
 logs : s.d.logs ≤ y
section
variable {s : Pl} {x y : Nat} {n : ByteArray} {w : RW} {r : RR} {W : Int}
theorem Bd.mono [Tab] {x' y' : Nat} (h : Bd s x y) (hx : x ≤ x') (hy : y ≤ y') : Bd s x' y' := ⟨h.fit, h.lo, by have := h.hi; omega, Nat.le_trans h.logs hy⟩
theorem Pl.pin_up [Tab] {k : Int} (h0 : 0 ≤ s.next) (h1 : s.next < 1099511627776) : s.next ≤ (s.pin n k).1.next := by
 unfold Pl.pin
 split
 ·exact Int.le_refl _
 ·split
  ·rw [Pl.pinAt_next s _ h0 h1]; omega
  ·rcases s.load_cases n k with ⟨e, he⟩ | ⟨e, he⟩ | ⟨f, he, _⟩
   ·rw [he]; show _ ≤ (s.met e).next; rw [(s.met_d e).2.2.1]; omega
   ·rw [he]; show _ ≤ (s.room.1.met e).next; rw [(s.room.1.met_d e).2.2.1, s.room_same.2.1]; omega
   ·rw [he]; show _ ≤ (s.room.1.take f).next; rw [Pl.take_next _ _ (by rw [s.room_same.2.1]; exact h0) (by rw [s.room_same.2.1]; exact h1), s.room_same.2.1]; omega
theorem Pl.fresh_up [Tab] (h0 : 0 ≤ s.next) (h1 : s.next < 1099511627776) : s.next ≤ (s.fresh n).1.next := by
 have hr := s.room_same.2.1
 unfold Pl.fresh
 split
 ·exact Int.le_refl _
 ·split
  ·show _ ≤ (s.met _).next; rw [(s.met_d _).2.2.1]; omega
  ·split
   ·show _ ≤ (s.room.1.met _).next; rw [(s.room.1.met_d _).2.2.1, hr]; omega
   ·split
    ·show _ ≤ ((s.room.1.setD _).met _).next
     rw [((s.room.1.setD _).met_d _).2.2.1]
     show _ ≤ s.room.1.next; rw [hr]; omega
    ·show _ ≤ ((s.room.1.setD _).take _).next
     rw [Pl.take_next _ _ (by show 0 ≤ s.room.1.next; rw [hr]; exact h0) (by show s.room.1.next < _; rw [hr]; exact h1)]
     show _ ≤ s.room.1.next + 1; rw [hr]; omega
theorem Bd.pin [Tab] (h : Bd s x y) (hx : x < 1000000000000) (k : Int) : Bd (s.pin n k).1 (x + 1) (y + 1) := by
 have a := h.lo
 have b := h.hi
 have c := s.pin_next (n := n) (k := k) a (by omega)
 have d := s.pin_up (n := n) (k := k) a (by omega)
 have e := s.pin_logs n k
 have f := h.logs
 exact ⟨h.fit.pin n k, by omega, by omega, by omega⟩
theorem Bd.fresh [Tab] (h : Bd s x y) (hx : x < 1000000000000) : Bd (s.fresh n).1 (x + 1) (y + 2) := by
 have a := h.lo
 have b := h.hi
 have c := s.fresh_next (n := n) a (by omega)
 have d := s.fresh_up (n := n) a (by omega)
 have e := s.fresh_logs n
 have f := h.logs
 exact ⟨h.fit.fresh n, by omega, by omega, by omega⟩
theorem Bd.set [Tab] (h : Bd s x y) (c : Int) (k : UInt8) (b : List UInt8) : Bd (s.set c k b).1 x y :=
 ⟨h.fit.set c k b, by rw [Pl.set_next]; exact h.lo, by rw [Pl.set_next]; exact h.hi, by rw [Pl.set_d]; exact h.logs⟩
theorem Bd.unpin [Tab] (h : Bd s x y) (c : Int) : Bd (s.unpin c).1 x y :=
 ⟨h.fit.unpin c, by rw [Pl.unpin_next]; exact h.lo, by rw [Pl.unpin_next]; exact h.hi, by rw [Pl.unpin_d]; exact h.logs⟩
theorem Bd.leave [Tab] {q : Pl × Int} (h : Bd q.1 x y) (c : Int) : Bd (Pl.leave q c).1 x y := by
 unfold Pl.leave
 split
 ·exact h.unpin c
 ·exact h
theorem Bd.more [Tab] (h : Bd s x y) (hx : x < 1000000000000) (k : UInt8) (b : List UInt8) : Bd (s.more n k b).1 (x + 1) (y + 2) := by
 have f := h.fresh (n := n) hx
 unfold Pl.more
 split
 ·exact f
 ·refine Bd.leave ?_ _
  split
  ·exact f
  ·exact f.set _ _ _
theorem Bd.look [Tab] (h : Bd s x y) (hx : x < 1000000000000) (k : Int) : Bd (s.look n k).1 (x + 1) (y + 1) := by
 have f := h.pin (n := n) hx k
 unfold Pl.look
 split
 ·exact f
 ·split
  ·exact f
  ·exact f.unpin _
theorem Bd.create [Tab] (h : Bd s x y) : Bd (s.setD (s.d.create n).1) x y :=
 ⟨h.fit.setD (s.d.create_grows n), h.lo, h.hi, Nat.le_trans (s.d.create_logs n) h.logs⟩
theorem Bd.out [Tab] (h : Bd s x y) (hx : x < 1000000000000) : Bd (w.out s).1 (x + 1) (y + 2) := by
 have m := h.mono (Nat.le_succ x) (Nat.le_add_right y 2)
 unfold RW.out
 split
 ·exact m
 ·exact h.more hx _ _
theorem Bd.add [Tab] (h : Bd s x y) (hx : x < 1000000000000) (l : List Int) : Bd (w.add s l).1 (x + 1) (y + 2) := by
 have m := h.mono (Nat.le_succ x) (Nat.le_add_right y 2)
 unfold RW.add
 split
 ·exact m
 ·split
  ·exact m
  ·split
   ·exact m
   ·split
    ·exact m
    ·exact h.out hx
theorem Bd.make [Tab] (h : Bd s x y) (hx : x < 1000000000000) : Bd (rnMake s n W).1 (x + 1) (y + 2) := by
 have m := h.mono (Nat.le_succ x) (Nat.le_add_right y 2)
 have c := h.create (n := n)
 unfold rnMake
 split
 ·exact m
 ·split
  ·exact c.mono (Nat.le_succ x) (Nat.le_add_right y 2)
  ·split <;> exact c.more hx _ _
theorem Bd.open [Tab] (h : Bd s x y) (hx : x < 1000000000000) : Bd (rnOpen s n W).1 (x + 1) (y + 1) := by
 have m := h.mono (Nat.le_succ x) (Nat.le_succ y)
 have c := h.look (n := n) hx 0
 unfold rnOpen
 split
 ·exact m
 ·split
  ·exact c
  ·split
   ·exact c
   ·split
    ·exact c
    ·split <;> exact c
theorem Bd.load [Tab] (h : Bd s x y) (hx : x < 1000000000000) (j : Nat) : Bd (r.load s j).1 (x + 1) (y + 1) := by
 have m := h.mono (Nat.le_succ x) (Nat.le_succ y)
 have c := h.look (n := r.b.name) hx ((j : Int) + 1)
 unfold RR.load
 split
 ·exact m
 ·split
  ·exact c
  ·split <;> exact c
theorem Bd.next [Tab] (h : Bd s x y) (hx : x < 1000000000000) : Bd (r.next s).1 (x + 1) (y + 1) := by
 have m := h.mono (Nat.le_succ x) (Nat.le_succ y)
 have c := h.load (r := r) hx (r.at_ / r.b.room)
 unfold RR.next
 split
 ·exact m
 ·split
  ·exact m
  ·split <;> exact c
theorem flushL_len [Tab] {n : ByteArray} : ∀ (l : List Nat) {s : Pl}, (Pl.flushL n l s).1.fs.length = s.fs.length
 | [], s => rfl
 | k :: l, s => by
   unfold Pl.flushL
   split
   ·rename_i i _
    have hk : (s.put i).1.fs.length = s.fs.length := by simpa using congrArg List.length (s.put_keys i)
    split
    ·split
     ·rw [flushL_len l]; exact hk
     ·exact hk
    ·exact flushL_len l
   ·exact flushL_len l
theorem Bd.flush [Tab] (h : Bd s x y) (hf : s.fs.length ≤ 4096) : Bd (s.flush n).1 x (y + 4096) :=
 ⟨h.fit.flush n, by rw [Pl.flush_next]; exact h.lo, by rw [Pl.flush_next]; exact h.hi, by have := s.flush_logs n; have := h.logs; omega⟩
theorem Pl.out_len [Tab] (r : Pl × Int) : (Pl.out r).1.fs.length = r.1.fs.length := by
 show (r.1.met r.2).fs.length = _
 rw [(r.1.met_d r.2).2.1]
theorem Pl.flush_len [Tab] (s : Pl) (n : ByteArray) : (s.flush n).1.fs.length = s.fs.length := by
 unfold Pl.flush
 split
 ·rfl
 ·split
  ·exact Pl.out_len _
  ·split
   ·rw [Pl.out_len]; exact flushL_len _
   ·rw [Pl.out_len]; exact flushL_len _
theorem Bd.head [Tab] (h : Bd s x y) (hx : x < 1000000000000) (hw : (w.head s).1.fs.length ≤ 4096) : Bd (w.head s).1 (x + 1) (y + 4100) := by
 have f := h.pin (n := w.b.name) hx 0
 unfold RW.head at hw ⊢
 split
 ·exact f.mono (Nat.le_refl _) (by omega)
 ·rename_i h1
  rw [if_neg h1] at hw
  have g := (f.set (s.pin w.b.name 0).2.1 2 (headB w.b.width w.rows))
  have g2 := Bd.leave (q := (s.pin w.b.name 0).1.set (s.pin w.b.name 0).2.1 2 (headB w.b.width w.rows)) g (s.pin w.b.name 0).2.1
  split
  ·exact g2.mono (Nat.le_refl _) (by omega)
  ·rename_i h2
   rw [if_neg h2, Pl.flush_len] at hw
   exact (g2.flush (n := w.b.name) hw).mono (Nat.le_refl _) (by omega)
theorem Bd.close [Tab] (h : Bd s x y) (hx : x < 999999999999) (hw : (w.close s).1.fs.length ≤ 4096) : Bd (w.close s).1 (x + 2) (y + 4200) := by
 have o := h.out (w := w) (by omega)
 unfold RW.close at hw ⊢
 split
 ·exact h.mono (by omega) (by omega)
 ·rename_i h1
  rw [if_neg h1] at hw
  split
  ·exact o.mono (by omega) (by omega)
  ·rename_i h2
   rw [if_neg h2] at hw
   have e : ((w.out s).2.1.ends (w.out s).1).1 = ((w.out s).2.1.head (w.out s).1).1 := by unfold RW.ends; split <;> rfl
   rw [e] at hw ⊢
   exact (o.head (by omega) hw).mono (by omega) (by omega)
theorem Bd.dropF [Tab] (h : Bd s x y) : Bd (s.dropF n).1 x y :=
 ⟨h.fit.dropF n, by rw [Pl.dropF_next]; exact h.lo, by rw [Pl.dropF_next]; exact h.hi, Nat.le_trans (s.dropF_logs n) h.logs⟩
end
open Go.MapKept
def ESt : Enc ByteArray := ⟨1, fun x => [.string x], fun _ => rfl, fun x u hu => by simp at hu; subst hu; rfl⟩
theorem elSt : ElT Tryz.prog YaC YaL 1 16 := ElT_of (by kernel_rfl)
theorem elRp : ElT Tryz.prog Yae Yah 1 8 := ElT_of (by kernel_rfl)
theorem RdE.one [Tab] {α : Type} {E : Enc α} {H : Heap} {s : Sl} {l : List α} (h : RdE E H s.a l) (hn : s.n = l.length) (hs : E.size = 1) {i : Nat} {x : α} {c : Cod} {y : c.α} (hi : l[i]? = some x) (hy : E.enc x = [c.enc y]) {K : c.α → Prop} (hK : K y) :
  optK s.a fun a => (0 ≤ (i : Int) ∧ (i : Int) < (s.n : Int)) ∧ Go.Proofs.YtacfhncgbgijhaaGreat.ld c H (a.add ((i : Int).toNat * 1)) K := by
 have hl := (List.getElem?_eq_some_iff.1 hi).1
 obtain ⟨ad, ha⟩ := h.addr (by omega) (by omega)
 refine optK_mk ad ha ⟨⟨by omega, by omega⟩, ?_⟩
 have := RdE.ld (c := c) (K := K) h ha (i := i) (j := 0) hi (by rw [hy]; rfl) (n := i * 1) (by rw [hs]) hK
 rw [add_add] at this
 rw [Int.toNat_natCast]
 exact this
theorem rnOpen_e [Tab] {s : Pl} {n : ByteArray} {W : Int} : ((rnOpen s n W).2.1 = none → (rnOpen s n W).2.2 ≠ 0) ∧ ((rnOpen s n W).2.1 ≠ none → (rnOpen s n W).2.2 = 0) := by
 unfold rnOpen
 split
 ·exact ⟨fun _ => by simp, fun q => absurd rfl q⟩
 ·split
  ·rename_i h; exact ⟨fun _ => h, fun q => absurd rfl q⟩
  ·split
   ·exact ⟨fun _ => by simp, fun q => absurd rfl q⟩
   ·split
    ·rename_i h; exact ⟨fun _ => h, fun q => absurd rfl q⟩
    ·split
     ·exact ⟨fun q => (by cases q), fun _ => rfl⟩
     ·exact ⟨fun _ => by simp, fun q => absurd rfl q⟩
theorem openL_bd [Tab] {W : Int} : ∀ {ns : List ByteArray} {s : Pl} {x y : Nat}, Bd s x y → x + ns.length < 1000000000000 → Bd (openL W ns s).1 (x + ns.length) (y + ns.length)
 | [], s, x, y, h, _ => h
 | n :: ns, s, x, y, h, hx => by
   rw [List.length_cons] at hx ⊢
   have h1 := h.open (n := n) (W := W) (by omega)
   simp only [openL]
   split
   ·exact h1.mono (by omega) (by omega)
   ·have := openL_bd (W := W) (ns := ns) h1 (by omega)
    exact this.mono (by omega) (by omega)
theorem RR.next_keeps [Tab] {r : RR} (h : r.Ok) (s : Pl) : (r.next s).2.1.Ok ∧ (r.next s).2.1.b.name = r.b.name ∧ (r.next s).2.1.rows = r.rows ∧ ((r.next s).2.2.2.1 = true → r.at_ < r.rows ∧ (r.next s).2.1.at_ = r.at_ + 1 ∧ (r.next s).2.2.2.2 = 0 ∧ (r.next s).2.2.1.length ≤ 16) ∧ ((r.next s).2.2.2.1 = false → (r.next s).2.1.at_ = r.at_) := by
 obtain ⟨k1, k2, k3, k4, k5, k6⟩ := RR.load_ok (s := s) (j := r.at_ / r.b.room) h
 have ha := h.at_
 unfold RR.next
 split
 ·exact ⟨h, rfl, rfl, fun q => (by cases q), fun _ => rfl⟩
 ·split
  ·exact ⟨h, rfl, rfl, fun q => (by cases q), fun _ => rfl⟩
  ·rename_i hne
   split
   ·exact ⟨k1, k5, k2, fun q => (by cases q), fun _ => k3⟩
   ·refine ⟨⟨k1.room, ?_, k1.page, k1.rows, k1.cols⟩, k5, k2, fun _ => ⟨by omega, rfl, rfl, ?_⟩, fun q => (by cases q)⟩
    ·show r.at_ + 1 ≤ (r.load s (r.at_ / r.b.room)).2.1.rows
     rw [k2]; omega
    ·show ((r.load s (r.at_ / r.b.room)).2.1.ins.getD (r.at_ % r.b.room) []).length ≤ 16
     rw [List.getD]
     cases e : (r.load s (r.at_ / r.b.room)).2.1.ins[r.at_ % r.b.room]? with
     | none => exact Nat.zero_le _
     | some q => exact k1.cols q (List.mem_of_getElem? e)
structure RdX where
 k : Nat
 r : RR
 si : Sl
 srs : List Sl
def RdX.own (x : RdX) (b : Nat) : Prop := rdO x.k x.si x.srs b
structure RdsAt [Tab] (H0 : Heap) (F0 : Nat → Prop) (col : Nat → Nat) (p dp : Nat) (F : Nat → Prop) (A : Heap) (s : Pl) (xs : List RdX) (l : Sl) : Prop where
 pool : PoolAt F A p dp s
 rds : ∀ (i : Nat) (x : RdX), xs[i]? = some x → RdB A x.k p x.r x.si x.srs
 oks : ∀ x ∈ xs, x.r.Ok ∧ x.r.b.name.size ≤ 9223372036854775807
 list : SlE EPtr Yah A l (xs.map (·.k))
 cF : ∀ b, F b → col b = 0 ∧ (F0 b ∨ H0.size ≤ b)
 cR : ∀ (i : Nat) (x : RdX), xs[i]? = some x → ∀ b, x.own b → col b = 5 + i ∧ H0.size ≤ b
 cL : ∀ b, ownB l b → col b = 4 ∧ H0.size ≤ b
 mod : Mod F0 H0 A
section
variable {H0 A : Heap} {F0 F : Nat → Prop} {col : Nat → Nat} {p dp : Nat} {s : Pl} {xs : List RdX} {l : Sl}
theorem RdsAt.gl [Tab] (h : RdsAt H0 F0 col p dp F A s xs l) (hg : Gl H0) (h0 : ¬ F0 gSteps) : Gl A := hg.mod h.mod h0
theorem RdsAt.step [Tab] (h : RdsAt H0 F0 col p dp F A s xs l) : Step F0 F H0 A := ⟨h.mod, fun b hb => (h.cF b hb).2⟩
theorem RdsAt.lt [Tab] (h : RdsAt H0 F0 col p dp F A s xs l) {i : Nat} {x : RdX} (hx : xs[i]? = some x) : ∀ b, x.own b → b < A.size := (h.rds i x hx).lt
theorem RdsAt.went [Tab] {G : Nat → Prop} {F' : Nat → Prop} {B : Heap} {s' : Pl} {col' : Nat → Nat} (h : RdsAt H0 F0 col p dp F A s xs l) (hp : PoolAt F' B p dp s') (m : Mod G A B) (hG : ∀ b, b < A.size → G b → col b < 4) (hG0 : ∀ b, b < H0.size → G b → F0 b)
  (hF : ∀ b, F' b → col' b = 0 ∧ (F0 b ∨ H0.size ≤ b)) (hc : ∀ b, b < A.size → 4 ≤ col b → col' b = col b) : RdsAt H0 F0 col' p dp F' B s' xs l := by
 refine ⟨hp, fun i x hx => (h.rds i x hx).mod m fun b hb q => ?_, h.oks, h.list.mod m fun b hb q => ?_, hF, fun i x hx b hb => ?_, fun b hb => ?_, h.mod.trans' m hG0⟩
 ·have := hG b (h.lt hx b hb) q
  have := (h.cR i x hx b hb).1
  omega
 ·have := hG b (h.list.lt b hb) q
  have := (h.cL b hb).1
  omega
 ·have := h.cR i x hx b hb
  rw [hc b (h.lt hx b hb) (by omega)]; exact this
 ·have := h.cL b hb
  rw [hc b (h.list.lt b hb) (by omega)]; exact this
theorem RdsAt.ext [Tab] {B : Heap} (h : RdsAt H0 F0 col p dp F A s xs l) (e : Ext A B) : RdsAt H0 F0 col p dp F B s xs l :=
 h.went (h.pool.ext e) e (fun _ _ q => q.elim) (fun _ _ q => q.elim) h.cF fun _ _ _ => rfl
theorem colours (col : Nat → Nat) (n : Nat) (X Y Z : Nat → Prop) (cx cy cz : Nat) (h1 : ∀ b, X b → ¬ Y b) (h2 : ∀ b, X b → ¬ Z b) (h3 : ∀ b, Y b → ¬ Z b) : ∃ col' : Nat → Nat, (∀ b, b < n → col' b = col b) ∧ ∀ b, n ≤ b → (X b → col' b = cx) ∧ (Y b → col' b = cy) ∧ (Z b → col' b = cz) := by
 classical
 refine ⟨fun b => if b < n then col b else if X b then cx else if Y b then cy else cz, fun b hb => if_pos hb, fun b hb => ⟨fun q => ?_, fun q => ?_, fun q => ?_⟩⟩
 ·show (if b < n then _ else _) = _
  rw [if_neg (by omega), if_pos q]
 ·show (if b < n then _ else _) = _
  rw [if_neg (by omega), if_neg fun u => h1 b u q, if_pos q]
 ·show (if b < n then _ else _) = _
  rw [if_neg (by omega), if_neg fun u => h2 b u q, if_neg fun u => h3 b u q]
theorem RdsAt.next [Tab] {K : (Sl × Bool × Int) → Heap → Prop} {i : Nat} {x : RdX} {u v : Nat} (h : RdsAt H0 F0 col p dp F A s xs l) (hg : Gl H0) (h0 : ¬ F0 gSteps) (hx : xs[i]? = some x) (b : Bd s u v) (hu : u < 1000000000000) (hv : v < 68719470000)
  (hK : ∀ F' B col' x' row, RdsAt H0 F0 col' p dp F' B (x.r.next s).1 (xs.set i x') l → x'.k = x.k → x'.r = (x.r.next s).2.1 → Owns B 0 YaM 1 row ((x.r.next s).2.2.1.map (Value.int .u64)) → (∀ b, ownB row b → A.size ≤ b ∧ col' b = 3) → (∀ b, b < A.size → col' b = col b) → Mod (fun b => F b ∨ b = x.k) A B →
   K (row, (x.r.next s).2.2.2.1, (x.r.next s).2.2.2.2) B) : Zck.sp (at0 x.k) A K := by
 have hxm := List.mem_of_getElem? hx
 obtain ⟨ok, hn⟩ := h.oks x hxm
 have hi := (List.getElem?_eq_some_iff.1 hx).1
 have hgA := h.gl hg h0
 have dis : ∀ b, F b → ¬ rdO x.k x.si x.srs b := fun b hb q => by
  have := (h.cF b hb).1
  have := (h.cR i x hx b q).1
  omega
 have hlo := b.lo
 have hhi := b.hi
 have hlg := b.logs
 have hgs : gSteps ≠ x.k := fun q => by
  have := (h.cR i x hx x.k (.inl rfl)).2
  have := hg.lt
  omega
 refine rnext_ok hgA h.pool.glob hgs (⟨h.pool, h.rds i x hx, dis, .refl _ _, fun _ q => .inl q, fun _ q => .inl q⟩ : RedB A F (rdO x.k x.si x.srs) x.k p dp x.si x.srs F A s x.r) ok hn (by omega) (by omega) hlo fun F' si' srs' B row g o f => ?_
 obtain ⟨col', c1, c2⟩ := colours col A.size F' (rdO x.k si' srs') (ownB row) 0 (5 + i) 3 g.dis (fun b q r => (f b r).2.1 q) (fun b q r => (f b r).2.2 q)
 have ok' := RR.next_keeps ok s
 have z := g.mod.size
 have keep : ∀ (j : Nat) (y : RdX), j ≠ i → xs[j]? = some y → ∀ b, y.own b → ¬ (F b ∨ b = x.k) := fun j y hj hy b hb q => by
  have c := (h.cR j y hy b hb).1
  rcases q with q | q
  ·have := (h.cF b q).1; omega
  ·have := (h.cR i x hx b (by subst q; exact .inl rfl)).1; omega
 refine hK F' B col' ⟨x.k, (x.r.next s).2.1, si', srs'⟩ row ⟨g.pool, fun j y hy => ?_, fun y hy => ?_, ?_, fun b hb => ?_, fun j y hy b hb => ?_, fun b hb => ?_, ?_⟩ rfl rfl o (fun b hb => ⟨(f b hb).1, (c2 b (f b hb).1).2.2 hb⟩) c1 g.mod
 ·by_cases q : j = i
  ·subst q
   rw [List.getElem?_set_self hi] at hy
   cases hy
   exact g.rd
  ·rw [List.getElem?_set_ne (Ne.symm q)] at hy
   exact (h.rds j y hy).mod g.mod (keep j y q hy)
 ·rcases List.mem_or_eq_of_mem_set hy with q | q
  ·exact h.oks y q
  ·subst q
   exact ⟨ok'.1, by show (x.r.next s).2.1.b.name.size ≤ _; rw [ok'.2.1]; exact hn⟩
 ·have e : (xs.set i ⟨x.k, (x.r.next s).2.1, si', srs'⟩).map (·.k) = xs.map (·.k) := by
   rw [List.map_set]
   apply List.ext_getElem?
   intro j
   rw [List.getElem?_set]
   split
   ·rename_i q
    subst q
    rw [List.getElem?_map, hx]
    simp [hi]
   ·rfl
  rw [e]
  exact h.list.mod g.mod fun b hb q => by
   have c := (h.cL b hb).1
   rcases q with q | q
   ·have := (h.cF b q).1; omega
   ·have := (h.cR i x hx b (by subst q; exact .inl rfl)).1; omega
 ·rcases g.own b hb with q | q
  ·rw [c1 b (h.pool.lt b q)]; exact h.cF b q
  ·exact ⟨(c2 b q).1 hb, .inr (by have := h.mod.size; omega)⟩
 ·by_cases q : j = i
  ·subst q
   rw [List.getElem?_set_self hi] at hy
   cases hy
   rcases g.own2 b hb with q | q
   ·rw [c1 b (h.lt hx b q)]; exact h.cR j x hx b q
   ·exact ⟨(c2 b q).2.1 hb, by have := h.mod.size; omega⟩
  ·rw [List.getElem?_set_ne (Ne.symm q)] at hy
   rw [c1 b (h.lt hy b hb)]; exact h.cR j y hy b hb
 ·rw [c1 b (h.list.lt b hb)]; exact h.cL b hb
 ·refine h.mod.trans' g.mod fun b hb q => ?_
  rcases q with q | q
  ·exact (h.cF b q).2.resolve_right (by omega)
  ·have := (h.cR i x hx b (by subst q; exact .inl rfl)).2; omega
end
open Go.MapKept Go.Sort
abbrev Qr := Sl × List Int
def EQr : Enc Qr := ⟨1, fun x => [x.1.v], fun _ => rfl, fun x u hu => by simp at hu; subst hu; rfl⟩
theorem rowCmp_enters : ∀ args w, (callFunc ZdM.no args).run Tryz.prog w = .ok (.enter ZdM.no args) w := enters_of Tryz.func14 (by kernel_rfl) rfl
theorem rowCmp_spec [Tab] {a b : Sl} {la lb : List Int} {H : Heap} (ha : Ints .u64 H a la) (hb : Ints .u64 H b lb) (hl : la.length ≤ 16) :
  Spec Tryz.prog ZdM.no #[a.v, b.v] H fun v H' => v = .int .i64 (cmpL la lb) ∧ Mod (fun _ => False) H H' := by
 have := rowCmp_ok (H := H) (K := fun r H' => r = cmpL la lb ∧ Mod (fun _ => False) H H') ha hb (by omega) ⟨rfl, .refl _ _⟩
 refine Spec.mono this fun v H' ⟨x, hx, h3, h4⟩ => ?_
 subst hx
 exact ⟨by rw [h3], h4⟩
theorem lift_sub {α : Type} {P : α → Prop} : ∀ {l : List α}, (∀ x ∈ l, P x) → ∃ m : List { x // P x }, m.map (·.1) = l
 | [], _ => ⟨[], rfl⟩
 | a :: l, h => by
   obtain ⟨m, hm⟩ := lift_sub (l := l) fun x hx => h x (List.mem_cons_of_mem _ hx)
   exact ⟨⟨a, h a List.mem_cons_self⟩ :: m, by rw [List.map_cons, hm]⟩
section
variable {H : Heap} {s : Sl} {qs : List Qr}
structure QrAt (H : Heap) (s : Sl) (qs : List Qr) : Prop where
 out : SlE EQr YaE H s qs
 own : ∀ q ∈ qs, Owns H 0 YaM 1 q.1 (q.2.map (Value.int .u64))
 few : ∀ q ∈ qs, q.2.length ≤ 16
theorem QrAt.off [Tab] (h : QrAt H s qs) {q : Qr} (hq : Owns H 0 YaM 1 q.1 (q.2.map (Value.int .u64))) : ∀ b, ownB q.1 b → ¬ ownB s b := fun b hb => hq.apart h.out (by decide) b hb
theorem EQr_all [Tab] (qs : List Qr) : EQr.all qs = qs.map fun q => q.1.v := by
 induction qs with
 | nil => rfl
 | cons q qs ih =>
   have : EQr.all (q :: qs) = q.1.v :: EQr.all qs := rfl
   rw [this, ih]; rfl
theorem qr_zip : ∀ {rs : List Sl} {ls : List (List Int)}, rs.length = ls.length → (rs.zip ls).map (·.1) = rs ∧ (rs.zip ls).map (·.2) = ls
 | [], [], _ => ⟨rfl, rfl⟩
 | [], _ :: _, h => by simp at h
 | _ :: _, [], h => by simp at h
 | a :: rs, b :: ls, h => by
   obtain ⟨h1, h2⟩ := qr_zip (rs := rs) (ls := ls) (by simpa using h)
   simp only [List.zip_cons_cons, List.map_cons, h1, h2]
   exact ⟨trivial, trivial⟩
theorem RowsOwn.qr [Tab] {rs : List Sl} {ls : List (List Int)} (h : RowsOwn H 0 s rs ls) (hf : ∀ l ∈ ls, l.length ≤ 16) : QrAt H s (rs.zip ls) := by
 obtain ⟨z1, z2⟩ := qr_zip h.len
 refine ⟨?_, fun q hq => ?_, fun q hq => ?_⟩
 ·unfold SlE
  rw [EQr_all]
  have : ((rs.zip ls).map fun q => q.1.v) = rs.map Sl.v := by
   conv => rhs; rw [← z1]
   rw [List.map_map]; rfl
  rw [this]; exact h.out
 ·obtain ⟨i, hi⟩ := List.mem_iff_getElem?.1 hq
  have a : rs[i]? = some q.1 := by rw [← z1, List.getElem?_map, hi]; rfl
  have b : ls[i]? = some q.2 := by rw [← z2, List.getElem?_map, hi]; rfl
  exact h.row i _ _ a b
 ·exact hf _ (by rw [← z2]; exact List.mem_map.2 ⟨q, hq, rfl⟩)
theorem sortRows_ok [Tab] {K : Unit → Heap → Prop} (h : QrAt H s qs) (hl : qs.length ≤ 1000000)
  (hK : ∀ qs' H', qs'.Perm qs → qs'.map (·.2) = srtL (qs.map (·.2)) → QrAt H' s qs' → Mod (ownB s) H H' → K () H') : Zay.sp s (.func (.func ZdM.no) #[] #[]) H K := by
 let P : Qr → Prop := fun q => Owns H 0 YaM 1 q.1 (q.2.map (Value.int .u64)) ∧ q.2.length ≤ 16
 obtain ⟨la, hla⟩ := lift_sub (P := P) (l := qs) fun q hq => ⟨h.own q hq, h.few q hq⟩
 haveI : Inhabited { q // P q } := ⟨⟨(Sl.mk none 0 0, []), Owns.nil _ _ _ _, Nat.zero_le _⟩⟩
 let E : Enc { q // P q } := ⟨1, fun a => [a.1.1.v], fun _ => rfl, fun x u hu => by simp at hu; subst hu; rfl⟩
 have hEall : ∀ l : List { q // P q }, E.all l = EQr.all (l.map (·.1)) := by
  intro l
  induction l with
  | nil => rfl
  | cons a l ih =>
    have q1 : E.all (a :: l) = a.1.1.v :: E.all l := rfl
    have q2 : EQr.all ((a :: l).map (·.1)) = a.1.1.v :: EQr.all (l.map (·.1)) := rfl
    rw [q1, q2, ih]
 have oE : ∀ {A : Heap} {l : List { q // P q }}, SlE E YaE A s l ↔ SlE EQr YaE A s (l.map (·.1)) := by
  intro A l
  unfold SlE
  rw [hEall]
  exact Iff.rfl
 let cf : { q // P q } → { q // P q } → Int := fun a b => cmpL a.1.2 b.1.2
 have hlt : ∀ a b, ltOf cf a b = decide (cmpL a.1.2 b.1.2 < 0) := fun a b => rfl
 have hO : SWO (ltOf cf) := by
  refine ⟨fun a => by rw [hlt, cmpL_self]; rfl, fun a b c h1 h2 => ?_, fun a b c h1 h2 => ?_⟩
  ·rw [hlt] at *
   simp only [decide_eq_true_eq] at *
   exact cmpL_trans h1 h2
  ·rw [hlt] at *
   simp only [decide_eq_false_iff_not] at *
   have s1 := cmpL_swap a.1.2 b.1.2
   have s2 := cmpL_swap b.1.2 c.1.2
   have s3 := cmpL_swap a.1.2 c.1.2
   have := cmpL_le_trans (a := c.1.2) (b := b.1.2) (c := a.1.2) (by omega) (by omega)
   omega
 have hlal : la.length < 4611686018427387904 := by
  have := congrArg List.length hla
  rw [List.length_map] at this
  omega
 have offS : ∀ a : { q // P q }, ∀ b, ownB a.1.1 b → ¬ ownB s b := fun a => h.off a.2.1
 refine sortFunc_perm (ρ := sortRo_ren) (E := E) (e := fun a => a.1.1.v) sortRo (fun _ => rfl) rfl hO rowCmp_enters (by rw [oE, hla]; exact h.out) hlal (fun A mA a b => ?_) fun l' A hP hS oA mA => ?_
 ·have i1 : Ints .u64 A a.1.1 a.1.2 := (a.2.1.mod mA (offS a)).ints
  have i2 : Ints .u64 A b.1.1 b.1.2 := (b.2.1.mod mA (offS b)).ints
  exact rowCmp_spec i1 i2 a.2.2
 ·rw [oE] at oA
  have hP2 : (l'.map (·.1)).Perm qs := by rw [← hla]; exact hP.map _
  refine hK (l'.map (·.1)) A hP2 ?_ ⟨oA, fun q hq => ?_, fun q hq => h.few q (hP2.mem_iff.1 hq)⟩ mA
  ·refine sorted_one ((hP2.map _).trans (srtL_perm _).symm) ?_ (srtL_up _)
   rw [List.map_map, List.pairwise_map]
   refine hS.imp fun {a b} q => ?_
   rw [hlt] at q
   simp only [decide_eq_false_iff_not] at q
   have := cmpL_swap a.1.2 b.1.2
   show cmpL a.1.2 b.1.2 ≤ 0
   omega
  ·exact (h.own q (hP2.mem_iff.1 hq)).mod mA (h.off (h.own q (hP2.mem_iff.1 hq)))
def onceQ : List Qr → List Qr
 | [] => []
 | a :: l => a :: ddK (·.2) a l
theorem onceQ_map (l : List Qr) : (onceQ l).map (·.2) = onceL (l.map (·.2)) := by
 cases l with
 | nil => rfl
 | cons a l => simp only [onceQ, onceL, List.map_cons]; rw [ddK_map]
theorem onceQ_sub {l : List Qr} {q : Qr} (h : q ∈ onceQ l) : q ∈ l := by
 cases l with
 | nil => exact h
 | cons a l =>
   rcases List.mem_cons.1 h with e | e
   ·rw [e]; exact List.mem_cons_self
   ·exact List.mem_cons_of_mem _ (ddK_sub _ l a q e)
def lastQ : Qr → List Qr → Qr
 | a, [] => a
 | _, c :: l => lastQ c l
theorem ddK_snoc (b : Qr) : ∀ (l : List Qr) (a : Qr), ddK (·.2) a (l ++ [b]) = if b.2 = (lastQ a l).2 then ddK (·.2) a l else ddK (·.2) a l ++ [b]
 | [], a => by
   by_cases e : b.2 = a.2 <;> simp [ddK, lastQ, e]
 | c :: l, a => by
   have h2 := ddK_snoc b l c
   rw [List.cons_append]
   simp only [ddK, lastQ]
   rw [h2]
   split <;> split <;> simp
theorem lastQ_take [Tab] : ∀ (l : List Qr) (a : Qr) (j : Nat), j ≤ l.length → (a :: l)[j]? = some (lastQ a (l.take j))
 | l, a, 0, _ => by simp [lastQ]
 | [], a, j + 1, h => by simp at h
 | c :: l, a, j + 1, h => by
   rw [List.getElem?_cons_succ, List.take_succ_cons]
   exact lastQ_take l c j (by simpa using h)
theorem onceQ_step [Tab] {l : List Qr} {i : Nat} {p q : Qr} (h0 : 0 < i) (hq : l[i]? = some q) (hp : l[i - 1]? = some p) : onceQ (l.take (i + 1)) = if q.2 = p.2 then onceQ (l.take i) else onceQ (l.take i) ++ [q] := by
 obtain ⟨hi, hq'⟩ := List.getElem?_eq_some_iff.1 hq
 cases l with
 | nil => simp at hi
 | cons a l =>
   obtain ⟨j, rfl⟩ : ∃ j, i = j + 1 := ⟨i - 1, by omega⟩
   have hj : j < l.length := by simpa using hi
   rw [List.take_succ_cons, List.take_succ_cons]
   simp only [onceQ]
   have hlj : l[j] = q := hq'
   rw [List.take_succ_eq_append_getElem hj, ddK_snoc, hlj]
   have e := lastQ_take l a j (by omega)
   rw [Nat.add_sub_cancel] at hp
   rw [hp] at e
   cases e
   split <;> simp
theorem elQrI : (Tryz.prog).underlying Yap = some (.slice YaE) := by obtain ⟨inf, h, _⟩ := elRow; exact h
theorem zeroQr : ∀ w : World, (zeroValue YaE).run Tryz.prog w = .ok (.slice none 0 0) w := by
 obtain ⟨inf, _, h1, h2, _⟩ := elRow
 intro w
 simp [zeroValue, typeInfo, h1, h2]
theorem clearQr [Tab] {H : Heap} {s : Sl} {ps : List Qr} {lo : Nat} {ty : TypeId} {K : Value → Heap → Prop} (h : SlE EQr YaE H s ps) (hlo : lo < ps.length)
  (hK : ∀ v H', SlE EQr YaE H' (Sl.mk s.a lo s.c) (ps.take lo) → Mod (ownB s) H H' → K v H') :
  doT cRaw Tryz.prog (Builtin.clear_ #[Yap] ty #[(.slice (slA s.a s.c lo 1) (s.n - lo) (s.c - lo))]) H K := by
 intro w hw
 subst hw
 have hn := h.n (by decide)
 rcases h.2 with ⟨e1, e2⟩ | ⟨g, cap, cur, e1, hb, hg, h4, h5, h6, h7⟩
 ·omega
 ·cases s with
  | mk sa sn sc =>
  simp only [Sl.v, Value.slice.injEq] at e1
  obtain ⟨rfl, _, rfl⟩ := e1
  simp only at hn h4 h7 hK ⊢
  have hE1 : EQr.size = 1 := rfl
  rw [hE1, Nat.mul_one] at h6 h7
  have ea : slA (some ⟨g, 0, none⟩) sc lo 1 = some ⟨g, lo, none⟩ := by
   unfold slA
   rw [if_neg (by omega)]
   simp [add_lit0]
  rw [ea]
  have hr := Lib.run_clear_slice (P := Tryz.prog) w Yap YaE ty (.slice none 0 0) elQrI zeroQr rfl rfl g lo (sn - lo) (sc - lo) (by omega) (fun j hj => by simp [World.cell?, hg]; omega) (fun j hj => by simp [World.frozen?, hg])
  rw [setCells_row (P := Tryz.prog) hg (by simp; omega) (by intro v hv; rw [List.eq_of_mem_replicate hv]; rfl)] at hr
  have hown : ∀ k, ownB (Sl.mk (some ⟨g, 0, none⟩) sn sc) k ↔ k = g := fun k => ⟨fun ⟨ad, h1, h2⟩ => by cases h1; exact h2.symm, fun h => ⟨_, rfl, h.symm⟩⟩
  refine ⟨_, _, hr, ⟨_, rfl, hK _ _ ?_ ⟨by simp [World.setRow], fun k _ hk => setRow_other w g k _ (fun e => hk ((hown k).2 e))⟩⟩, ⟨rfl, Nat.le_refl _⟩⟩
  refine ⟨by rw [EQr_all]; simp [hE1]; omega, .inr ⟨g, sc, _, rfl, Nat.zero_le _, setRow_heap w g cur _ _ _ hg, by simp only; omega, h5, ?_, ?_⟩⟩
  ·simp only [hE1, Nat.mul_one, List.size_toArray, List.length_append, List.length_take, List.length_replicate, List.length_drop, Array.length_toList]
   omega
  ·simp only [hE1, Nat.mul_one]
   rw [List.append_assoc, List.take_append_of_le_length (by simp; omega), List.take_take, Nat.min_self]
   have e1 : EQr.all (ps.take lo) = (EQr.all ps).take lo := by rw [EQr_all, EQr_all, List.map_take]
   rw [e1, ← h7, List.take_take, Nat.min_eq_left (by omega)]
theorem same_ok {a b : Sl} {la lb : List Int} {H : Heap} {K : Bool → Heap → Prop} (ha : Ints .u64 H a la) (hb : Ints .u64 H b lb) (hl : la.length ≤ 16) (hK : K (decide (la = lb)) H) : ZbE.sp a b H K := by
 refine ZbE.of ?_
 unfold ZbE.vc
 refine rowCmp_ok ha hb (by omega) ?_
 have : (cmpL la lb == 0) = decide (la = lb) := by
  by_cases e : la = lb
  ·rw [decide_eq_true e, cmpL_zero.2 e]; rfl
  ·rw [decide_eq_false e]
   have : cmpL la lb ≠ 0 := fun q => e (cmpL_zero.1 q)
   simpa using this
 rw [this]; exact hK
theorem QrAt.get [Tab] (h : QrAt H s qs) {i : Nat} {q : Qr} (hi : qs[i]? = some q) {K : Sl → Prop} (hK : K q.1) : optK s.a fun a => (0 ≤ (i : Int) ∧ (i : Int) < (s.n : Int)) ∧ Go.Proofs.YtacfhncgbgijhaaGreat.ld cSl H (a.add ((i : Int).toNat * 1)) K :=
 RdE.one (E := EQr) (c := cSl) h.out.rd (SlE.n h.out (by decide)) rfl hi rfl hK
theorem QrAt.ints (h : QrAt H s qs) {q : Qr} (hq : q ∈ qs) : Ints .u64 H q.1 q.2 := (h.own q hq).ints
theorem QrAt.getBehind [Tab] (h : QrAt H s qs) {k j : Nat} {q : Qr} (hi : qs[k + j]? = some q) {K : Sl → Prop} (hK : K q.1) : optK (slA s.a s.c k 1) fun a => (0 ≤ (j : Int) ∧ (j : Int) < ((s.n - k : Nat) : Int)) ∧ Go.Proofs.YtacfhncgbgijhaaGreat.ld cSl H (a.add ((j : Int).toNat * 1)) K := by
 have hn := SlE.n h.out (by decide)
 have hc := Owns.cap h.out
 have hr : RdE EQr H (slA s.a s.c k EQr.size) (qs.drop k) := h.out.rd.drop (by omega)
 exact RdE.one (E := EQr) (c := cSl) (s := ⟨slA s.a s.c k 1, s.n - k, s.c - k⟩) hr (by rw [List.length_drop]; show s.n - k = _; omega) rfl (by rw [List.getElem?_drop]; exact hi) rfl hK
set_option maxHeartbeats 1000000 in
theorem compact_ok [Tab] {K : Sl → Heap → Prop} (h : QrAt H s qs) (hl : qs.length ≤ 1000000)
  (hK : ∀ n H', n = (onceQ qs).length → QrAt H' ⟨s.a, n, s.c⟩ (onceQ qs) → Mod (ownB s) H H' → K ⟨s.a, n, s.c⟩ H') : Zar.sp s H K := by
 refine Zar.of ?_
 unfold Zar.vc
 have hn := SlE.n h.out (by decide)
 have hcap := Owns.cap h.out
 have whole : onceQ qs = qs → K s H := fun e => by
  have hs : s = ⟨s.a, s.n, s.c⟩ := by cases s; rfl
  rw [hs]
  exact hK s.n H (by rw [e]; exact hn) (by rw [e, ← hs]; exact h) (.refl _ _)
 refine br_mk (fun hc => ?_) (fun hc => ?_)
 ·have : qs.length < 2 := by have : (s.n : Int) < 2 := by simpa using hc
                             omega
  refine whole ?_
  match qs, this with
  | [], _ => rfl
  | [a], _ => rfl
 have h2 : 2 ≤ qs.length := by have : ¬ (s.n : Int) < 2 := by simpa using hc
                               omega
 refine loop_upto (qs.length - 1) (fun k z A => z = ((k + 1 : Nat) : Int) ∧ A = H ∧ onceQ (qs.take (k + 1)) = qs.take (k + 1)) ⟨rfl, rfl, ?_⟩ ?_
 ·match qs, h2 with
  | a :: b :: l, _ => rfl
 rintro k z A next hk ⟨rfl, rfl, ho⟩ hnext
 refine br_mk (fun hc => ?_) (fun hc => ?_)
 ·have hlt : k + 1 < qs.length := by have : ((k + 1 : Nat) : Int) < (s.n : Int) := by simpa using hc
                                     omega
  obtain ⟨q, gq⟩ : ∃ q, qs[k + 1]? = some q := ⟨_, List.getElem?_eq_getElem hlt⟩
  obtain ⟨p, gp⟩ : ∃ p, qs[k]? = some p := ⟨_, List.getElem?_eq_getElem (by omega)⟩
  have step := onceQ_step (l := qs) (i := k + 1) (Nat.succ_pos _) gq gp
  have ek : IntKind.i64.wrap (((k + 1 : Nat) : Int) - 1) = (k : Int) := by rw [wrap64 (by omega) (by omega)]; omega
  refine h.get gq ?_
  rw [ek]
  refine h.get gp ?_
  refine same_ok (h.ints (List.mem_of_getElem? gq)) (h.ints (List.mem_of_getElem? gp)) (h.few q (List.mem_of_getElem? gq)) ?_
  refine br_mk (fun hc => ?_) (fun hc => ?_)
  ·have he : q.2 = p.2 := of_decide_eq_true hc
   rw [if_pos he] at step
   refine ⟨⟨by omega, by omega⟩, ?_⟩
   simp only [Int.toNat_natCast, Nat.sub_zero, slA_z]
   -- from here on rows are moved
   refine ⟨Nat, fun j z B => z.2 = (j : Int) ∧ 1 ≤ j ∧ k + 1 + j ≤ qs.length ∧ ∃ (w : Nat) (M : List Qr), z.1 = (w : Int) ∧ w ≤ k + j ∧ M.length = qs.length ∧ M.take w = onceQ (qs.take (k + 1 + j)) ∧ (∀ i, k + j ≤ i → M[i]? = qs[i]?) ∧ QrAt B s M ∧ Mod (ownB s) A B, fun j => qs.length - j,
    ⟨1, rfl, Nat.le_refl _, by omega, k + 1, qs, rfl, by omega, rfl, by rw [step]; exact ho.symm, fun _ _ => rfl, h, .refl _ _⟩, ?_⟩
   rintro j ⟨w0, j0⟩ B ⟨hj, j1, j2, w, M, hw, wle, ml, mt, mb, hB, mB⟩
   simp only at hj hw
   subst hj
   subst hw
   simp only
   refine br_mk (fun hc => ?_) (fun hc => ?_)
   ·have hlt2 : k + 1 + j < qs.length := by have : (j : Int) < ((s.n - (k + 1) : Nat) : Int) := by simpa using hc
                                            omega
    obtain ⟨q2, gq2⟩ : ∃ q, qs[k + 1 + j]? = some q := ⟨_, List.getElem?_eq_getElem hlt2⟩
    obtain ⟨p2, gp2⟩ : ∃ p, qs[k + 1 + j - 1]? = some p := ⟨_, List.getElem?_eq_getElem (by omega)⟩
    have step2 := onceQ_step (l := qs) (i := k + 1 + j) (by omega) gq2 gp2
    have gqM : M[k + 1 + j]? = some q2 := by rw [mb _ (by omega)]; exact gq2
    have gpM : M[k + 1 + (j - 1)]? = some p2 := by
     rw [mb _ (by omega), show k + 1 + (j - 1) = k + 1 + j - 1 by omega]; exact gp2
    have mq := List.mem_of_getElem? gqM
    have mp := List.mem_of_getElem? gpM
    have ej : IntKind.i64.wrap ((j : Int) - 1) = ((j - 1 : Nat) : Int) := by rw [wrap64 (by omega) (by omega)]; omega
    refine hB.getBehind gqM ?_
    rw [ej]
    refine hB.getBehind gpM ?_
    rw [succ64 j (by omega)]
    refine same_ok (hB.ints mq) (hB.ints mp) (hB.few q2 mq) ?_
    have e2 : k + 1 + j + 1 = k + 1 + (j + 1) := by omega
    refine br_mk (fun hc => ?_) (fun hc => ?_)
    ·have hne : ¬ q2.2 = p2.2 := by simpa using hc
     rw [if_neg hne] at step2
     refine hB.getBehind gqM ?_
     have hw : w < M.length := by omega
     rw [succ64 w (by omega)]
     refine Owns.st (i := (w : Int)) (xs := EQr.all M) (v := q2.1.v) hB.out (by omega) (by omega) rfl fun C oC mC zC => ?_
     have oC' : SlE EQr YaE C s (M.set w q2) := by
      unfold SlE
      rw [EQr_all] at oC ⊢
      rw [Int.toNat_natCast, ← List.map_set (f := fun q : Qr => q.1.v)] at oC
      exact oC
     have keepO : ∀ x ∈ M, Owns C 0 YaM 1 x.1 (x.2.map (Value.int .u64)) := fun x hx => (hB.own x hx).mod mC (hB.off (hB.own x hx))
     have memS : ∀ x ∈ M.set w q2, x ∈ M := fun x hx => by
      rcases List.mem_or_eq_of_mem_set hx with u | u
      ·exact u
      ·subst u; exact mq
     refine ⟨j + 1, ⟨rfl, by omega, by omega, w + 1, M.set w q2, rfl, by omega, by simp; exact ml, ?_, fun i hi => ?_, ⟨oC', fun x hx => keepO x (memS x hx), fun x hx => hB.few x (memS x hx)⟩, mB.trans mC⟩, by omega⟩
     ·rw [← e2, step2, ← mt, List.take_succ_eq_append_getElem (by simpa using hw), List.take_set_of_le (Nat.le_refl _)]
      simp
     ·rw [List.getElem?_set_ne (by omega)]
      exact mb i (by omega)
    ·have heq : q2.2 = p2.2 := by simpa using hc
     rw [if_pos heq] at step2
     exact ⟨j + 1, ⟨rfl, by omega, by omega, w, M, rfl, by omega, ml, by rw [← e2, step2]; exact mt, fun i hi => mb i (by omega), hB, mB⟩, by omega⟩
   ·have hge : k + 1 + j = qs.length := by have : ¬ (j : Int) < ((s.n - (k + 1) : Nat) : Int) := by simpa using hc
                                           omega
    rw [hge, List.take_length] at mt
    refine ⟨⟨by omega, by omega⟩, ?_⟩
    have hwl : w = (onceQ qs).length := by rw [← mt, List.length_take]; omega
    refine clearQr hB.out (by omega) fun v C oC mC => ⟨⟨by omega, by omega⟩, ?_⟩
    rw [Int.toNat_natCast] at oC ⊢
    rw [mt] at oC
    refine hK w C hwl ⟨oC, fun x hx => ?_, fun x hx => h.few x (onceQ_sub hx)⟩ (mB.trans mC)
    have hxM : x ∈ M := List.mem_of_mem_take (by rw [mt]; exact hx)
    exact (hB.own x hxM).mod mC (hB.off (hB.own x hxM))
  ·have he : ¬ q.2 = p.2 := of_decide_eq_false hc
   rw [if_neg he, ho] at step
   rw [succ64 (k + 1) (by omega)]
   refine hnext (by omega) _ A ⟨rfl, rfl, ?_⟩
   rw [step, List.take_succ_eq_append_getElem hlt]
   congr 2
   rw [List.getElem?_eq_getElem hlt] at gq
   exact (Option.some.inj gq).symm
 ·have hge : k + 1 = qs.length := by have : ¬ ((k + 1 : Nat) : Int) < (s.n : Int) := by simpa using hc
                                     omega
  rw [hge, List.take_length] at ho
  exact whole ho
end
end Go.Proofs.YtacfhncgbgijhaaGreat
namespace Go.Proofs.YtacfhncgbgijhaaGreat
open Go.MapKept
theorem sopen_ok [Tab] {names : Sl} {ns : List ByteArray} {W : Int} {H : Heap} {F : Nat → Prop} {p dp : Nat} {s : Pl} {x y : Nat} {K : (Sl × Int) → Heap → Prop} (hg : Gl H) (hp : PoolAt F H p dp s) (hn : names.n = ns.length) (hns : ∀ A, Mod F H A → RdE ESt A names.a ns) (hsz : ∀ n ∈ ns, n.size ≤ 9223372036854775807) (b : Bd s x y) (hl : ns.length ≤ 1000000) (hx : x < 900000000000) (hy : y < 60000000000)
  (hK0 : (openL W ns s).2.2 ≠ 0 → ∀ F' A, PoolAt F' A p dp (openL W ns s).1 → Step F F' H A → K (nilS, (openL W ns s).2.2) A)
  (hK1 : (openL W ns s).2.2 = 0 → ∀ F' A col xs l, RdsAt H F col p dp F' A (openL W ns s).1 xs l → xs.map (·.r) = (openL W ns s).2.1 → xs.length = ns.length → K (l, 0) A) : Zdq.sp (at0 p) names W H K := by
 refine Zdq.of ?_
 unfold Zdq.vc
 have hF0 := hp.glob
 refine loop_upto ns.length (fun i z A => z.2 = (i : Int) ∧ ∃ F' s' col xs, RdsAt H F col p dp F' A s' xs z.1 ∧ xs.length = i ∧ Bd s' (x + i) (y + i) ∧
  openL W ns s = ((openL W (ns.drop i) s').1, xs.map (·.r) ++ (openL W (ns.drop i) s').2.1, (openL W (ns.drop i) s').2.2)) ?_ ?_
 ·refine ⟨rfl, F, s, fun _ => 0, [], ⟨hp, fun i x hx => by simp at hx, fun x hx => (by cases hx), SlE.nil _ _ _, fun b hb => ⟨rfl, .inl hb⟩, fun i x hx => by simp at hx, fun b hb => absurd hb (nilS_own b), .refl _ _⟩, rfl, b, ?_⟩
  simp
 rintro i ⟨l, j⟩ A next hi ⟨hj, F', s', col, xs, hR, hxl, bd, he⟩ hnext
 simp only at hj
 subst hj
 simp only
 refine br_mk (fun hc => ?_) (fun hc => ?_)
 ·have hlt : i < ns.length := by
   have : (i : Int) < (names.n : Int) := by simpa using hc
   omega
  rw [List.drop_eq_getElem_cons hlt] at he
  have hni : ns[i]? = some ns[i] := List.getElem?_eq_getElem hlt
  refine RdE.one (E := ESt) (c := cStr) (hns A hR.mod) hn rfl hni rfl ?_
  have hgA := hR.gl hg hF0
  have q1 := bd.lo
  have q2 := bd.hi
  have q3 := bd.logs
  have bd' := bd.open (n := ns[i]) (W := W) (by omega)
  simp only [openL] at he
  refine ropen_ok hgA hR.pool (hsz _ (List.getElem_mem hlt)) (by omega) (by omega) q1 (fun F1 B p1 S1 o1 => ?_) (fun F1 B k r p1 S1 o1 r1 k1 k2 => ?_)
  ·have e0 := rnOpen_e.1 o1
   rw [o1] at he
   simp only [List.append_nil] at he
   refine br_t (by simpa using e0) ?_
   rw [he] at hK0
   exact hK0 e0 F1 B p1 (hR.step.trans S1)
  ·have e0 : (rnOpen s' ns[i] W).2.2 = 0 := rnOpen_e.2 (by rw [o1]; simp)
   rw [o1] at he
   simp only at he
   rw [e0]
   refine br_f rfl ?_
   obtain ⟨ok, rb, _⟩ := rnOpen_ok o1
   have z1 := S1.mod.size
   obtain ⟨col', c1, c2⟩ := colours col A.size F1 (fun b => b = k) (fun b => B.size ≤ b) 0 (5 + i) 4 (fun b q r => k2 (r ▸ q)) (fun b q r => by have := p1.lt b q; omega) (fun b q r => by have := r1.lt b (.inl q); omega)
   have h1 := hR.went (col' := col') p1 S1.mod (fun b hb q => by rw [(hR.cF b q).1]; decide) (fun b hb q => (hR.cF b q).2.resolve_right (by omega)) (fun b q => by
    rcases S1.own b q with u | u
    ·rw [c1 b (hR.pool.lt b u)]; exact hR.cF b u
    ·exact ⟨(c2 b u).1 q, .inr (by have := hR.mod.size; omega)⟩) fun b hb _ => c1 b hb
   refine SlE.push (E := EPtr) (x := k) elRp h1.list rfl (by simp; omega) (by simp; omega) fun l' C o3 g3 _ => ?_
   rw [succ64 i (by omega)]
   have off : ∀ b, ownB l b → col' b = 4 := fun b hb => (h1.cL b hb).1
   have kr : RdB C k p r nilS [] := r1.mod g3.1 fun b hb q => by
    have hk : b = k := by
     rcases hb with u | u | ⟨z, u, _⟩
     ·exact u
     ·exact absurd u (nilS_own b)
     ·cases u
    have a := h1.list.lt b q
    have b4 := off b q
    subst hk
    have := (c2 b k1).2.1 rfl
    omega
   have hz := h1.mod.size
   refine hnext hlt (l', ((i + 1 : Nat) : Int)) C ⟨rfl, F1, (rnOpen s' ns[i] W).1, col', xs ++ [⟨k, r, nilS, []⟩], ⟨?_, fun j x hx => ?_, fun x hx => ?_, ?_, fun b hb => h1.cF b hb, fun j x hx b hb => ?_, fun b hb => ?_, ?_⟩, ?_, ?_, ?_⟩
   ·exact h1.pool.keep fun b hb hlt => g3.1.same b hlt fun q => by have := (h1.cF b hb).1; have := off b q; omega
   ·rw [List.getElem?_append] at hx
    split at hx
    ·exact (h1.rds j x hx).mod g3.1 fun b hb q => by have := (h1.cR j x hx b hb).1; have := off b q; omega
    ·rename_i q
     have : j - xs.length = 0 := by have := (List.getElem?_eq_some_iff.1 hx).1; simp at this; omega
     rw [this] at hx
     simp at hx; subst hx
     exact kr
   ·rcases List.mem_append.1 hx with q | q
    ·exact h1.oks x q
    ·rw [List.mem_singleton] at q
     subst q
     exact ⟨ok, by show r.b.name.size ≤ _; rw [rb]; exact hsz _ (List.getElem_mem hlt)⟩
   ·rw [List.map_append]; exact o3
   ·rw [List.getElem?_append] at hx
    split at hx
    ·exact h1.cR j x hx b hb
    ·rename_i q
     have hj : j - xs.length = 0 := by have := (List.getElem?_eq_some_iff.1 hx).1; simp at this; omega
     rw [hj] at hx
     simp at hx; subst hx
     have hk : b = k := by
      rcases hb with u | u | ⟨z, u, _⟩
      ·exact u
      ·exact absurd u (nilS_own b)
      ·cases u
     subst hk
     have := (c2 b k1).2.1 rfl
     refine ⟨by omega, by have := hR.mod.size; omega⟩
   ·rcases g3.2 b hb with q | q
    ·exact h1.cL b q
    ·exact ⟨(c2 b (by omega)).2.2 q, by omega⟩
   ·exact h1.mod.trans' g3.1 fun b hb q => by have := (h1.cL b q).2; omega
   ·simp; exact hxl
   ·exact bd'.mono (by omega) (by omega)
   ·rw [he, List.map_append]
    simp
 ·have hge : i = ns.length := by
   have : ¬ (i : Int) < (names.n : Int) := by simpa using hc
   omega
  subst hge
  rw [List.drop_length] at he
  simp only [openL, List.append_nil] at he
  have e0 : (openL W ns s).2.2 = 0 := by rw [he]
  refine hK1 e0 F' A col xs l (by rw [he]; exact hR) (by rw [he]) hxl
structure HeadsOf (L : List Hx) (hs : List (Option (List Int))) : Prop where
 nodup : (L.map (·.no)).Nodup
 mem : ∀ (i : Nat) (y : List Int), hs[i]? = some (some y) ↔ ∃ x ∈ L, x.no = i ∧ x.row = y
structure MgB [Tab] (H0 : Heap) (F0 : Nat → Prop) (col : Nat → Nat) (p dp : Nat) (F : Nat → Prop) (A : Heap) (s : Pl) (xs : List RdX) (l : Sl) (kw : Nat) (w : RW) (sw sl : Sl) (kh : Nat) (hs : Sl) (L : List Hx) : Prop where
 rds : RdsAt H0 F0 col p dp F A s xs l
 wr : WrB A kw p w sw sl
 heap : HpB A kh hs L
 cW : ∀ b, wrO kw sw sl b → col b = 2 ∧ (F0 b ∨ H0.size ≤ b)
 cH : ∀ b, (b = kh ∨ ownB hs b) → col b = 1 ∧ H0.size ≤ b
 cX : ∀ x ∈ L, ∀ b, ownB x.sl b → col b = 3
 ptr : ∀ x ∈ L, ∃ y, xs[x.no]? = some y ∧ x.ptr = at0 y.k
 ord : Hp ahead L
section
variable {H0 A : Heap} {F0 F : Nat → Prop} {col : Nat → Nat} {p dp : Nat} {s : Pl} {xs : List RdX} {l : Sl} {kw : Nat} {w : RW} {sw sl : Sl} {kh : Nat} {hs : Sl} {L : List Hx}
theorem HpB.lt [Tab] (h : HpB A kh hs L) : ∀ b, (b = kh ∨ ownB hs b) → b < A.size := by
 rintro b (q | q)
 ·subst q; exact obj_lt h.row
 ·exact h.els.lt b q
theorem MgB.keepW [Tab] {G : Nat → Prop} {B : Heap} (h : MgB H0 F0 col p dp F A s xs l kw w sw sl kh hs L) (m : Mod G A B) (hG : ∀ b, b < A.size → G b → col b ≠ 2) : WrB B kw p w sw sl :=
 h.wr.mod m fun b hb q => hG b (h.wr.lt b hb) q (h.cW b hb).1
theorem MgB.keepH [Tab] {G : Nat → Prop} {B : Heap} (h : MgB H0 F0 col p dp F A s xs l kw w sw sl kh hs L) (m : Mod G A B) (hG : ∀ b, b < A.size → G b → col b ≠ 1 ∧ col b ≠ 3) : HpB B kh hs L :=
 h.heap.mod m (fun q => (hG kh (obj_lt h.heap.row) q).1 (h.cH kh (.inl rfl)).1) (fun b hb q => (hG b (h.heap.els.lt b hb) q).1 (h.cH b (.inr hb)).1) fun x hx b hb q => (hG b ((h.heap.own x hx).lt b hb) q).2 (h.cX x hx b hb)
theorem MgB.ext [Tab] {B : Heap} (h : MgB H0 F0 col p dp F A s xs l kw w sw sl kh hs L) (e : Ext A B) : MgB H0 F0 col p dp F B s xs l kw w sw sl kh hs L :=
 ⟨h.rds.ext e, h.keepW e fun _ _ q => q.elim, h.keepH e fun _ _ q => q.elim, h.cW, h.cH, h.cX, h.ptr, h.ord⟩
theorem MgB.heapGo [Tab] {B : Heap} {hs' : Sl} {L' : List Hx} (h : MgB H0 F0 col p dp F A s xs l kw w sw sl kh hs L) (hh : HpB B kh hs' L') (ho : Hp ahead L') (m : Mod (fun b => b = kh ∨ ownB hs b) A B) (hn : ∀ b, ownB hs' b → ownB hs b ∨ A.size ≤ b)
  (hX : ∀ x ∈ L', ∀ b, ownB x.sl b → b < A.size ∧ col b = 3) (hp : ∀ x ∈ L', ∃ y, xs[x.no]? = some y ∧ x.ptr = at0 y.k) : ∃ col', (∀ b, b < A.size → col' b = col b) ∧ MgB H0 F0 col' p dp F B s xs l kw w sw sl kh hs' L' := by
 obtain ⟨col', c1, c2⟩ := colours col A.size (fun _ => False) (fun _ => False) (fun _ => True) 1 1 1 (fun _ q => q.elim) (fun _ q => q.elim) fun _ q => q.elim
 have z := h.rds.mod.size
 refine ⟨col', c1, h.rds.went (h.rds.pool.keep fun b hb hl => m.same b hl fun q => ?_) m (fun b hb q => by rw [(h.cH b q).1]; decide) (fun b hb q => by have := (h.cH b q).2; omega) (fun b q => by rw [c1 b (h.rds.pool.lt b q)]; exact h.rds.cF b q) (fun b hb _ => c1 b hb),
  h.keepW m fun b hb q => by rw [(h.cH b q).1]; decide, hh, fun b hb => ?_, fun b hb => ?_, fun x hx b hb => ?_, hp, ho⟩
 ·have a := (h.rds.cF b hb).1
  have c := (h.cH b q).1
  omega
 ·rw [c1 b (h.wr.lt b hb)]; exact h.cW b hb
 ·rcases hb with q | q
  ·rw [c1 b (h.heap.lt b (.inl q))]; exact h.cH b (.inl q)
  ·rcases hn b q with u | u
   ·rw [c1 b (h.heap.els.lt b u)]; exact h.cH b (.inr u)
   ·exact ⟨(c2 b u).2.2 trivial, by omega⟩
 ·obtain ⟨q1, q2⟩ := hX x hx b hb
  rw [c1 b q1]; exact q2
theorem snext_ok [Tab] {K : Int → Heap → Prop} {i : Nat} {y : RdX} {sl0 : Sl} {u v : Nat} (h : MgB H0 F0 col p dp F A s xs l kw w sw sl kh hs L) (hg : Gl H0) (h0 : ¬ F0 gSteps) (hy : xs[i]? = some y) (b : Bd s u v) (hu : u < 1000000000000) (hv : v < 68719470000) (hl : L.length ≤ 1000000)
  (hK : ∀ F' B col' y' hs' L', MgB H0 F0 col' p dp F' B (y.r.next s).1 (xs.set i y') l kw w sw sl kh hs' L' → y'.r = (y.r.next s).2.1 →
   ((y.r.next s).2.2.2.1 = true → ∃ row ptr, L'.Perm (L ++ [⟨i, row, ptr, (y.r.next s).2.2.1⟩])) → ((y.r.next s).2.2.2.1 = false → L' = L) → (∀ b, b < A.size → col' b = col b) → A.size ≤ B.size → (∀ b, b < A.size → col b = 3 → B[b]? = A[b]?) → K (y.r.next s).2.2.2.2 B) : Zds.sp (at0 kh) (i : Int) sl0 (at0 y.k) A K := by
 refine Zds.of ?_
 unfold Zds.vc
 refine newC_rowT fun A1 z1 r1 e1 => ?_
 have h1 := h.ext e1
 refine RowT.ld (c := cPtr) (i := 2) (x := at0 y.k) r1 rfl ?_
 have hkeeps := RR.next_keeps (h1.rds.oks y (List.mem_of_getElem? hy)).1 s
 refine h1.rds.next hg h0 hy b hu hv fun F' B col' y' row q1 qk q2 q3 q4 q5 q6 => ?_
 have hkF : ∀ b, F b ∨ b = y.k → col b = 0 ∨ col b = 5 + i := fun b q => by
  rcases q with q | q
  ·exact .inl (h1.rds.cF b q).1
  ·exact .inr (h1.rds.cR i y hy b (by subst q; exact .inl rfl)).1
 have hi := (List.getElem?_eq_some_iff.1 hy).1
 have z := q6.size
 have h2 : MgB H0 F0 col' p dp F' B (y.r.next s).1 (xs.set i y') l kw w sw sl kh hs L := by
  refine ⟨q1, h1.keepW q6 fun b _ q => by have := hkF b q; omega, h1.keepH q6 fun b _ q => by have := hkF b q; omega, fun b hb => ?_, fun b hb => ?_, fun x hx b hb => ?_, fun x hx => ?_, h.ord⟩
  ·rw [q5 b (h1.wr.lt b hb)]; exact h.cW b hb
  ·rw [q5 b (h1.heap.lt b hb)]; exact h.cH b hb
  ·rw [q5 b ((h1.heap.own x hx).lt b hb)]; exact h.cX x hx b hb
  ·obtain ⟨a, a1, a2⟩ := h.ptr x hx
   by_cases e : x.no = i
   ·rw [e] at a1 ⊢
    rw [hy] at a1; cases a1
    exact ⟨y', List.getElem?_set_self hi, by rw [qk]; exact a2⟩
   ·exact ⟨a, by rw [List.getElem?_set_ne (Ne.symm e)]; exact a1, a2⟩
 have rowB : ∀ b, b < A.size → col b = 3 → B[b]? = A[b]? := fun b hb hc => (q6.same b (by omega) fun q => by have := hkF b q; omega).trans (e1.same b hb id)
 generalize (y.r.next s).2.2.2.2 = e at *
 by_cases hok : (y.r.next s).2.2.2.1 = true
 ·obtain ⟨_, _, he, hlen⟩ := hkeeps.2.2.2.1 hok
  subst he
  refine br_t (by rw [hok]; rfl) ?_
  have r2 : RowT B A.size Yat #[.int .i64 (i : Int), sl0.v, .pointer (at0 y.k)] := r1.mod q6 fun q => by
   have hs1 : A.size < A1.size := by omega
   rcases q with q | q
   ·have := h.rds.pool.lt _ q; omega
   ·have := h.rds.lt hy y.k (.inl rfl); omega
  refine RowT.ld (c := cInt .i64) (i := 0) (x := (i : Int)) r2 rfl ?_
  refine RowT.ld (c := cPtr) (i := 2) (x := at0 y.k) r2 rfl ?_
  refine hpush_ok (x := ⟨i, row, at0 y.k, (y.r.next s).2.2.1⟩) h2.heap h.ord q3 hlen hl fun hs' L' C hC hO hP mC oC => ?_
  have hX : ∀ x ∈ L', ∀ b, ownB x.sl b → b < B.size ∧ col' b = 3 := fun x hx b hb => by
   rcases List.mem_append.1 (hP.mem_iff.1 hx) with q | q
   ·exact ⟨(h2.heap.own x q).lt b hb, h2.cX x q b hb⟩
   ·rw [List.mem_singleton] at q
    subst q
    exact ⟨q3.lt b hb, (q4 b hb).2⟩
  have hPt : ∀ x ∈ L', ∃ a, (xs.set i y')[x.no]? = some a ∧ x.ptr = at0 a.k := fun x hx => by
   rcases List.mem_append.1 (hP.mem_iff.1 hx) with q | q
   ·exact h2.ptr x q
   ·rw [List.mem_singleton] at q
    subst q
    exact ⟨y', List.getElem?_set_self hi, by rw [qk]⟩
  obtain ⟨col2, c1, h3⟩ := h2.heapGo hC hO mC oC hX hPt
  refine hK F' C col2 y' hs' L' h3 q2 (fun _ => ⟨row, at0 y.k, hP⟩) (fun q => by rw [hok] at q; cases q) (fun b hb => (c1 b (by omega)).trans (q5 b (by omega))) (by have := mC.size; omega) fun b hb hc => ?_
  refine (mC.same b (by omega) fun q => ?_).trans (rowB b hb hc)
  have := (h2.cH b q).1
  rw [q5 b (by omega)] at this
  omega
 ·have hok' : (y.r.next s).2.2.2.1 = false := by simpa using hok
  refine br_f (by rw [hok']; simp) ?_
  exact hK F' B col' y' hs L h2 q2 (fun q => absurd q hok) (fun _ => rfl) (fun b hb => q5 b (by omega)) (by omega) rowB
end
end Go.Proofs.YtacfhncgbgijhaaGreat
