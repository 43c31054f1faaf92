/-
  The disk: where a number stands among sorted ones; the numbers of unsynced writes; a file behind a crash.
-/
import Derived.Test.YtjjfngnokbboeaaDoorDkg
import Derived.Test.YtjjfngnokbboeaaDoorDks
namespace Go.Proofs.YtjjfngnokbboeaaDoor
open Go.MapKept

theorem mid_ok {i j : Nat} (h : i + j < 4611686018427387904) : IntKind.i64.wrap (ishr .u64 (IntKind.u64.wrap (IntKind.i64.wrap ((i : Int) + (j : Int)))) 1) = (((i + j) / 2 : Nat) : Int) := by
  rw [show IntKind.i64.wrap ((i : Int) + (j : Int)) = (i : Int) + (j : Int) from wrap64 (by omega) (by omega)]
  have h1 : IntKind.u64.wrap ((i : Int) + (j : Int)) = ((i + j : Nat) : Int) := by
    rw [IntKind.wrap_u64]; omega
  rw [h1]
  have h2 : ishr .u64 ((i + j : Nat) : Int) 1 = (((i + j) / 2 : Nat) : Int) := by
    unfold ishr
    have : (2 : Int) ^ (min (1 : Int).toNat IntKind.u64.bits) = 2 := by decide
    rw [this, Int.fdiv_eq_ediv_of_nonneg _ (by omega)]
    omega
  rw [h2, wrap64 (by omega) (by omega)]

theorem count_lt {L : List Int} {t : Int} {i : Nat} (hi : i ≤ L.length) (h1 : ∀ k (hk : k < L.length), k < i → L[k] < t) (h2 : ∀ k (hk : k < L.length), i ≤ k → ¬ L[k] < t) : (L.filter fun x => decide (x < t)).length = i := by
  have e : L = L.take i ++ L.drop i := (List.take_append_drop i L).symm
  rw [e, List.filter_append, List.length_append]
  have a : (L.take i).filter (fun x => decide (x < t)) = L.take i := by
    rw [List.filter_eq_self]
    intro x hx
    obtain ⟨k, hk, rfl⟩ := List.getElem_of_mem hx
    simp at hk ⊢
    exact h1 k (by omega) (by omega)
  have b : (L.drop i).filter (fun x => decide (x < t)) = [] := by
    rw [List.filter_eq_nil_iff]
    intro x hx
    obtain ⟨k, hk, rfl⟩ := List.getElem_of_mem hx
    simp at hk ⊢
    have := h2 (i + k) (by omega) (by omega)
    omega
  rw [a, b]; simp; omega

theorem zc_mark_all : (zc Tryd.prog ty_disk_mark).size = 514 := zc_mark_size
theorem EMk_size : EMk.size = 514 := rfl

/-- A file behind a crash: 'q' tells which unsynced writes survive. -/
def backF (q : Wr → Bool) (f : Fl) : Fl := ⟨f.name, (f.log.filter q).foldl putP f.synced, []⟩

theorem puts_page : ∀ (ws : List Wr) (l : List Pg) (w : Wr), w ∈ ws → w.page + 1 ≤ (ws.foldl putP l).length
  | [], _, _, h => by cases h
  | a :: ws, l, w, h => by
    rcases List.mem_cons.1 h with e | h
    · subst e
      exact Nat.le_trans (by rw [putP_length]; omega) (puts_length ws (putP l w))
    · exact puts_page ws (putP l a) w h
theorem puts_take (ws : List Wr) (q : Wr → Bool) (k : Nat) (l : List Pg) : (((ws.take k).filter q).foldl putP l).length ≤ (ws.foldl putP l).length := by
  refine Nat.le_trans (puts_mono (ws.take k) q l l (Nat.le_refl _)) ?_
  conv => rhs; rw [← List.take_append_drop k ws, List.foldl_append]
  exact puts_length _ _

end Go.Proofs.YtjjfngnokbboeaaDoor
