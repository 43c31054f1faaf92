/-
  The disk's statements: a step's bytes; what is written over; the short calls.
-/
import Derived.Test.YtjjfngnokbboeaaDoorDkt
namespace Go.Proofs.YtjjfngnokbboeaaDoor
open Go.MapKept

def fillB (x4 : Int) (odd : Bool) : List UInt8 := List.replicate (if odd then x4.toNat else 512) (UInt8.ofNat x4.toNat)

/-- Cells of one's own are written over. -/
theorem spoil_ok {e : TypeId} {s : Sl} {xs : List Value} {v : Value} {H : Heap} {K : Heap → Prop} (h : Owns H 0 e 1 s xs) (hn : s.n < 4611686018427387904) (hp : plainV v = true) (hK : ∀ H', Mod (ownB s) H H' → K H') :
    LoopVC Int (0 : Int) H fun next z H9 => br (decide (z < (s.n : Int))) (optK s.a fun a => (0 ≤ z ∧ z < (s.n : Int)) ∧ st H9 (a.add (z.toNat * 1)) v fun H10 => next (IntKind.i64.wrap (z + (1 : Int))) H10) (K H9) := by
  refine loop_upto s.n (fun k i H3 => i = (k : Int) ∧ (∃ ys, Owns H3 0 e 1 s ys) ∧ Mod (ownB s) H H3) ⟨rfl, ⟨xs, h⟩, .refl _ _⟩ ?_
  rintro k _ H3 next hk ⟨rfl, ⟨ys, o⟩, m⟩ hnext
  refine br_mk (fun hc => ?_) (fun _ => hK H3 m)
  have hlt : k < s.n := by simpa using hc
  refine o.st (by omega) (by omega) hp fun H4 o4 m4 s4 => ?_
  exact hnext hlt _ _ ⟨succ64 k (by omega), ⟨_, o4⟩, m.trans m4⟩

/-! ### The short calls -/

def pgF (x : UInt8) : Pg := ⟨List.replicate 512 x, List.length_replicate⟩
theorem fillB_pg (x : Int) : fillB x false = (pgF (UInt8.ofNat x.toNat)).1 := rfl

section
variable (n : ByteArray) (hn : named n = true)
def st1 : Dk := ⟨[⟨n, [], []⟩], 0, 2, 1, 0, none, false⟩
def st2 : Dk := ⟨[⟨n, [], [⟨0, 0, pgF 1⟩]⟩], 1, 2, 2, 1, none, false⟩
def st3 : Dk := ⟨[⟨n, [pgF 1], []⟩], 1, 2, 3, 1, none, false⟩
def st4 : Dk := ⟨[⟨n, [pgF 1], [⟨1, 0, pgF 2⟩]⟩], 1, 2, 4, 2, none, false⟩
def st5 : Dk := ⟨[⟨n, [pgF 1], [⟨1, 0, pgF 2⟩]⟩], 1, 2, 4, 2, some (0, 0), false⟩
def st6 : Dk := ⟨[⟨n, [pgF 1], [⟨1, 0, pgF 2⟩]⟩], 1, 2, 4, 2, some (0, 0), true⟩
def st7 : Dk := ⟨[⟨n, [pgF 1], []⟩], 1, 2, 4, 2, none, false⟩

theorem w64_small {x : Int} (h0 : -9223372036854775808 ≤ x) (h1 : x ≤ 9223372036854775807) : w64 x = x := wrap64 h0 h1

include hn in
theorem go1 : (dk0 2).create n = (st1 n, 0) := by
  simp [Dk.create, dk0, hn, Dk.idx, Dk.step, Dk.change, st1, w64_small]
  rfl
theorem go2 : (st1 n).write n 0 (pgF 1).1 = (st2 n, 0) := by
  have h := (pgF 1).2
  simp [Dk.write, st1, Dk.idx, Dk.step, Dk.change, w64_small, h, Dk.file, Fl.pages, Dk.used, Dk.addW, Dk.setMost, st2, putP]
theorem go3 : (st2 n).sync n = (st3 n, 0) := by
  simp [Dk.sync, st2, Dk.idx, Dk.step, Dk.change, w64_small, Dk.upd, Fl.pages, st3, putP]
theorem go4 : (st3 n).write n 0 (pgF 2).1 = (st4 n, 0) := by
  have h := (pgF 2).2
  simp [Dk.write, st3, Dk.idx, Dk.step, Dk.change, w64_small, h, Dk.file, Fl.pages, Dk.used, Dk.addW, Dk.setMost, st4, putP]
theorem go5 : (st4 n).setCrash 0 0 = st5 n := by simp [Dk.setCrash, st4, st5]
theorem go6 : (st5 n).remove n = (st6 n, 4) := by
  simp [Dk.remove, st5, Dk.idx, Dk.step, Dk.change, st6]
theorem keep00 : keepBit 0 0 = false := by decide
theorem go7 : (st6 n).restart = st7 n := by
  have h : (st6 n).rank 1 = 0 := by simp [Dk.rank, Dk.nos, st6]
  have h2 : (st6 n).keep = 0 := rfl
  simp only [Dk.restart, st6, if_true]
  simp only [List.map_cons, List.map_nil, Dk.after, List.filter_cons, List.filter_nil]
  have h3 : keepBit (st6 n).keep ((st6 n).rank 1) = false := by rw [h, h2]; exact keep00
  simp only [st6] at h3
  simp [h3, st7]
theorem go8 : (st7 n).read n 0 = ((pgF 1).1, 0) := by
  simp [Dk.read, Dk.open, st7, Dk.idx, Dk.file, Fl.pages]
end

theorem named_f : named (ByteArray.mk #[102]) = true := by decide

end Go.Proofs.YtjjfngnokbboeaaDoor
