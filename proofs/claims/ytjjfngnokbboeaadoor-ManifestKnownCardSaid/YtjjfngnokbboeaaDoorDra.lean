/-
  The document's disk in memory; its files' pages; what it looks up.
-/
import Derived.Test.YtjjfngnokbboeaaDoorDku
namespace Go.Proofs.YtjjfngnokbboeaaDoor
open Go.MapKept

def EStr : Enc Pg := ⟨1, fun p => [.string (strB p.1)], fun _ => rfl, fun x u hu => by simp at hu; subst hu; rfl⟩
def EWr : Enc Wr := ⟨3, fun w => [.int .i64 w.no, .int .i64 w.page, .string (strB w.b.1)], fun _ => rfl, fun x u hu => by simp at hu; rcases hu with rfl | rfl | rfl <;> rfl⟩
def ERf : Enc (ByteArray × Sl × Sl) := ⟨3, fun f => [.string f.1, f.2.1.v, f.2.2.v], fun _ => rfl, fun x u hu => by simp at hu; rcases hu with rfl | rfl | rfl <;> rfl⟩
theorem elStr : ElT Tryd.prog ty_sl_string ty_string EStr.size 16 := ElT_of (by kernel_rfl)
/-- The files' cells. -/
def rfs : List Fl → List (Sl × Sl) → List (ByteArray × Sl × Sl)
  | f :: fs, g :: gs => (f.name, g.1, g.2) :: rfs fs gs
  | _, _ => []
theorem rfs_get : ∀ (fs : List Fl) (gs : List (Sl × Sl)) (i : Nat) (f : Fl) (g : Sl × Sl), fs[i]? = some f → gs[i]? = some g → (rfs fs gs)[i]? = some (f.name, g.1, g.2)
  | [], _, _, _, _, h, _ => by simp at h
  | _ :: _, [], _, _, _, _, h => by simp at h
  | f :: fs, g :: gs, 0, _, _, h1, h2 => by simp at h1 h2; subst h1; subst h2; rfl
  | f :: fs, g :: gs, i + 1, f', g', h1, h2 => by simpa [rfs] using rfs_get fs gs i f' g' (by simpa using h1) (by simpa using h2)
theorem rfs_length : ∀ (fs : List Fl) (gs : List (Sl × Sl)), gs.length = fs.length → (rfs fs gs).length = fs.length
  | [], _, _ => by cases ‹List (Sl × Sl)› <;> rfl
  | _ :: _, [], h => by simp at h
  | f :: fs, g :: gs, h => by simp [rfs, rfs_length fs gs (by simpa using h)]

def rfp (fl : Sl) (gs : List (Sl × Sl)) (b : Nat) : Prop := ownB fl b ∨ ∃ g ∈ gs, ownB g.1 b ∨ ownB g.2 b

def headR (fl : Sl) (most quota ops next : Int) (laid : Bool) (cin kp : Int) (down : Bool) : Array Value :=
  #[fl.v, .int .i64 most, .int .i64 quota, .int .i64 ops, .int .i64 next, .bool laid, .int .i64 cin, .int .u64 kp, .bool down]

/-! ### Pages -/

theorem SlE.one {α : Type} {E : Enc α} {e : TypeId} {H : Heap} {s : Sl} {l : List α} (h : SlE E e H s l) {i : Nat} {x : α} {c : Cod} {y : c.α} (hi : l[i]? = some x) (hs : E.size = 1) (hy : E.enc x = [c.enc y]) {ad : Addr} (ha : s.a = some ad) {K : c.α → Prop} (hK : K y) : ld c H (ad.add (i * 1)) K := by
  have := RdE.ld (c := c) (K := K) h.rd ha (i := i) (j := 0) hi (by rw [hy]; rfl) (n := i * 1) (by rw [hs]) hK
  rw [add_add] at this
  exact this

end Go.Proofs.YtjjfngnokbboeaaDoor
