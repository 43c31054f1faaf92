/-
  The document's disk: List, rank, Restart, Copy.
-/
import Derived.Test.YtbhddkmfhampbaaGreatDoorDrd
import Derived.Test.YtbhddkmfhampbaaGreatDoorDkl
namespace Go.Proofs.YtbhddkmfhampbaaGreatDoor
open Go.MapKept

theorem strB_list (l : List UInt8) : (strB l).toList = l := by
  rw [ByteArray.toList_eq]; rfl

theorem text_ld {H : Heap} {z : Sl} {L : List (List UInt8)} (h : SlE EN ty_string H z L) {i : Nat} (hi : i < L.length) {K : ByteArray → Prop} (hK : K (strB L[i])) : optK z.a fun a => (0 ≤ (i : Int) ∧ (i : Int) < (z.n : Int)) ∧ ld cStr H (a.add ((i : Int).toNat * 1)) K := by
  have hn := h.n (by decide)
  obtain ⟨ad, ha⟩ := RdE.addr h.rd (by decide) (by omega)
  rw [ha]
  refine ⟨⟨by omega, by omega⟩, ?_⟩
  simp only [Int.toNat_natCast]
  exact SlE.one (c := cStr) (y := strB L[i]) h (List.getElem?_eq_getElem hi) rfl rfl ha hK

theorem sorted_insert {L : List (List UInt8)} {x : List UInt8} {a : Nat} (hL : L.Pairwise (· ≤ ·)) (ha : a ≤ L.length) (h1 : ∀ j (hj : j < L.length), j < a → L[j] < x) (h2 : ∀ j (hj : j < L.length), a ≤ j → x ≤ L[j]) : (L.take a ++ [x] ++ L.drop a).Pairwise (· ≤ ·) := by
  rw [List.append_assoc, List.pairwise_append]
  refine ⟨hL.sublist (List.take_sublist _ _), ?_, ?_⟩
  · rw [List.singleton_append, List.pairwise_cons]
    refine ⟨fun y hy => ?_, hL.sublist (List.drop_sublist _ _)⟩
    obtain ⟨k, hk, rfl⟩ := List.getElem_of_mem hy
    simp at hk ⊢
    exact h2 (a + k) (by omega) (by omega)
  · intro y hy z hz
    obtain ⟨k, hk, rfl⟩ := List.getElem_of_mem hy
    simp at hk
    have hyx : L[k] < x := h1 k (by omega) (by omega)
    simp only [List.getElem_take]
    rcases List.mem_append.1 hz with q | q
    · simp at q; subst q; exact List.le_of_lt hyx
    · obtain ⟨m, hm, rfl⟩ := List.getElem_of_mem q
      simp at hm ⊢
      exact List.le_trans (List.le_of_lt hyx) (h2 (a + m) (by omega) (by omega))

theorem RList_ok {F : Nat → Prop} {d : Nat} {s : Dk} {H : Heap} {K : Sl → Heap → Prop} (h : RefAt F H d s) (hK : ∀ l H', SlE EN ty_string H' l s.list → Mod (fun _ => False) H H' → (∀ b, ownB l b → H.size ≤ b) → K l H') : fathomref01_Disk_List.sp (at0 d) H K := by
  obtain ⟨fl, gs, cin, kp, g, _⟩ := h
  refine fathomref01_Disk_List.of ?_
  unfold fathomref01_Disk_List.vc
  simp only [optK_eq]
  have hfl := g.wf.files
  have hn := g.files.n
  have fin : ∀ (L : List (List UInt8)) (l : Sl) (A : Heap), s.down = false → SlE EN ty_string A l L → L.Pairwise (· ≤ ·) → L.Perm (s.files.map fun f => f.name.toList) → Mod (fun _ => False) H A → (∀ b, ownB l b → H.size ≤ b) → K l A := by
    intro L l A hd o hs hp m f
    refine hK l A ?_ m f
    have e : s.list = L := by
      unfold Dk.list; rw [hd]
      simp only [Bool.false_eq_true, if_false]
      rw [← texts_sorted_eq hp]
      have tr : ∀ a b c : List UInt8, decide (a ≤ b) = true → decide (b ≤ c) = true → decide (a ≤ c) = true := fun a b c h1 h2 => by simp only [decide_eq_true_eq] at *; exact List.le_trans h1 h2
      have to : ∀ a b : List UInt8, (decide (a ≤ b) || decide (b ≤ a)) = true := fun a b => by simp only [Bool.or_eq_true, decide_eq_true_eq]; exact List.le_total a b
      refine List.Perm.eq_of_pairwise (le := fun a b => decide (a ≤ b) = true) (fun a b _ _ h1 h2 => ?_) (List.pairwise_mergeSort tr to L) (hs.imp fun h => by simpa using h) (List.mergeSort_perm L _)
      simp only [decide_eq_true_eq] at h1 h2
      exact List.le_antisymm h1 h2
    rw [e]; exact o
  refine loop_upto s.files.length (fun k x H1 => x.2 = (k : Int) ∧ Mod (fun _ => False) H H1 ∧ (∀ b, ownB x.1 b → H.size ≤ b) ∧ (s.down = true → k = 0 ∧ x.1 = Sl.mk none 0 0) ∧ ∃ L, SlE EN ty_string H1 x.1 L ∧ L.Pairwise (· ≤ ·) ∧ L.Perm ((s.files.take k).map fun f => f.name.toList)) ⟨rfl, .refl _ _, (by rintro b ⟨ad, q, _⟩; cases q), fun _ => ⟨rfl, rfl⟩, [], SlE.nil _ _ _, List.Pairwise.nil, by simp⟩ ?_
  rintro k ⟨l, i⟩ H1 next hk ⟨hi, m1, f1, hdn, L, o1, hs, hp⟩ hnext
  simp only at hi
  subst hi
  simp only at f1 hdn o1 hnext ⊢
  have d1 := g.head.ext m1
  have F1 : RefFiles H1 fl gs s.files := g.files.keep fun b hb hl => m1.same b hl id
  have downK : s.down = true → K l H1 := by
    intro hd
    obtain ⟨_, e⟩ := hdn hd
    rw [e]
    refine hK _ H1 ?_ m1 (by rintro b ⟨ad, q, _⟩; cases q)
    unfold Dk.list; rw [hd]; exact SlE.nil _ _ _
  refine d1.ld (c := cSl) (i := 0) (x := fl) rfl ?_
  refine br_mk (fun hc => ?_) (fun hc => ?_)
  · have hlt : k < s.files.length := by rw [hn] at hc; simpa using hc
    refine d1.ld (c := cBool) (i := 8) (x := s.down) rfl ?_
    cases hd : s.down with
    | true => exact br_f rfl (downK hd)
    | false =>
      refine br_t rfl ?_
      have hf : s.files[k]? = some s.files[k] := List.getElem?_eq_getElem hlt
      obtain ⟨f, hfe⟩ : ∃ f, f = s.files[k] := ⟨_, rfl⟩
      rw [← hfe] at hf
      obtain ⟨gg, hg, _, _⟩ := F1.gAt hf
      have hLl : L.length = k := by rw [hp.length_eq]; simp; omega
      have hln := o1.n (by decide)
      have hcap := o1.cap
      have hx := strB_toList f.name
      have ins : ∀ a : Nat, a ≤ L.length → (∀ j (hj : j < L.length), j < a → L[j] < f.name.toList) → (∀ j (hj : j < L.length), a ≤ j → f.name.toList ≤ L[j]) →
          ((0 ≤ (a : Int) ∧ (a : Int) ≤ (l.c : Int)) ∧ doT cSl Tryz.prog (Builtin.append_ #[ty_sl_string, ty_sl_string] ty_sl_string #[(.slice none 0 0), (.slice (slA l.a l.c 0 1) ((a : Int).toNat - 0) (l.c - 0))]) H1 fun (s_3 : Sl) H7 => ld cSl H7 (Addr.add ⟨d, 0, none⟩ 0) fun (x_7 : Sl) => optK x_7.a fun a_8 => (0 ≤ (k : Int) ∧ (k : Int) < (x_7.n : Int)) ∧ ld cStr H7 ((a_8.add ((k : Int).toNat * 3)).add 0) fun (x_8 : ByteArray) => newC H7 #[(.string x_8)] ty_string fun p_2 H8 => doT cSl Tryz.prog (Builtin.append_ #[ty_sl_string, ty_sl_string] ty_sl_string #[s_3.v, (.slice (some p_2) 1 1)]) H8 fun (s_4 : Sl) H9 => (0 ≤ (a : Int) ∧ (a : Int) ≤ (l.n : Int)) ∧ doT cSl Tryz.prog (Builtin.append_ #[ty_sl_string, ty_sl_string] ty_sl_string #[s_4.v, (.slice (slA l.a l.c (a : Int).toNat 1) (l.n - (a : Int).toNat) (l.c - (a : Int).toNat))]) H9 fun (s_5 : Sl) H10 => next (s_5, IntKind.i64.wrap ((k : Int) + (1 : Int))) H10) := by
        intro a ha h1 h2
        refine ⟨⟨by omega, by omega⟩, ?_⟩
        have t1 : RdE EN H1 (slA l.a l.c 0 1) (L.take a) := by rw [slA_zero']; exact o1.rd.take
        refine SlE.append (E := EN) elText (s := Sl.mk none 0 0) (x := ⟨slA l.a l.c 0 1, (a : Int).toNat - 0, l.c - 0⟩) (l := []) (SlE.nil _ _ _) t1 (by simp; omega) (by simp; omega) (by simp; omega) fun l2 H2 o2 g2 _ => ?_
        have f2 : ∀ b, ownB l2 b → H1.size ≤ b := fun b hb => (g2.2 b hb).resolve_left (by rintro ⟨ad, q, _⟩; cases q)
        have m2 : Mod (fun _ => False) H1 H2 := g2.1.mono fun b _ hb => by obtain ⟨ad, q, _⟩ := hb; cases q
        refine (d1.ext m2).ld (c := cSl) (i := 0) (x := fl) rfl ?_
        have F2 : RefFiles H2 fl gs s.files := F1.keep fun b hb hl => m2.same b hl id
        refine F2.ld1 hf hg (j := 0) (c := cStr) (y := f.name) rfl ?_
        refine SlE.push (E := EN) elText (x := f.name.toList) o2 (by unfold strB at hx; simp [EN, hx]) (by simp; omega) (by simp; omega) fun l3 H3 o3 g3 _ => ?_
        have z2 := m2.size; have z3 := g3.1.size
        have f3 : ∀ b, ownB l3 b → H1.size ≤ b := fun b hb => by
          rcases g3.2 b hb with q | q
          · exact f2 b q
          · omega
        have m13 : Mod (fun _ => False) H1 H3 := ⟨by omega, fun b hb _ => (g3.1.same b (by omega) fun hh => by have := f2 b hh; omega).trans (m2.same b hb id)⟩
        refine ⟨⟨by omega, by omega⟩, ?_⟩
        have o13 : SlE EN ty_string H3 l L := o1.ext m13
        have t3 : RdE EN H3 (slA l.a l.c a 1) (L.drop a) := RdE.drop o13.rd (by omega)
        simp only [Int.toNat_natCast]
        refine SlE.append (E := EN) elText (s := l3) (x := ⟨slA l.a l.c a 1, l.n - a, l.c - a⟩) o3 t3 (by simp; omega) (by simp; omega) (by simp; omega) fun l4 H4 o4 g4 _ => ?_
        have z4 := g4.1.size; have z1 := m1.size
        refine hnext hlt _ _ ⟨succ64 k (by omega), ⟨by omega, fun b hb _ => (g4.1.same b (by omega) fun hh => by have := f3 b hh; omega).trans ((m13.same b (by omega) id).trans (m1.same b hb id))⟩, ?_, (fun h => by rw [hd] at h; cases h), _, o4, ?_, ?_⟩
        · intro b hb
          rcases g4.2 b hb with q | q
          · have := f3 b q; omega
          · omega
        · simp only [List.nil_append]
          exact sorted_insert hs ha h1 h2
        · simp only [List.nil_append]
          rw [List.take_succ_eq_append_getElem hlt, ← hfe, List.map_append, List.map_cons, List.map_nil]
          refine List.Perm.trans ?_ (hp.append_right _)
          have e := List.take_append_drop a L
          conv => rhs; rw [← e]
          rw [List.append_assoc, List.append_assoc]
          exact List.Perm.append_left _ (List.perm_append_comm)
      refine loop_upto L.length (fun a x H2 => x = (a : Int) ∧ H2 = H1 ∧ ∀ j (hj : j < L.length), j < a → L[j] < f.name.toList) ⟨rfl, rfl, fun j _ h => by omega⟩ ?_
      rintro a _ H2 next1 ha ⟨rfl, rfl, hlo⟩ hnext1
      refine br_mk (fun hc1 => ?_) (fun hc1 => ?_)
      · have ha' : a < L.length := by rw [hln] at hc1; simpa using hc1
        refine text_ld o1 ha' ?_
        refine d1.ld (c := cSl) (i := 0) (x := fl) rfl ?_
        refine F1.ld1 hf hg (j := 0) (c := cStr) (y := f.name) rfl ?_
        rw [strB_list, bytesLess_eq]
        refine br_mk (fun hb => ?_) (fun hb => ?_)
        · have hb' : L[a] < f.name.toList := by simpa using hb
          refine hnext1 ha' _ _ ⟨succ64 a (by omega), rfl, fun j hj hja => ?_⟩
          rcases Nat.lt_or_ge j a with q | q
          · exact hlo j hj q
          · have : j = a := by omega
            subst this; exact hb'
        · have hb' : ¬ L[a] < f.name.toList := by simpa using hb
          refine ins a (by omega) hlo fun j hj haj => ?_
          refine List.le_trans (List.not_lt.1 hb') ?_
          rcases Nat.lt_or_ge a j with q | q
          · exact (List.pairwise_iff_getElem.1 hs) a j ha' hj q
          · have : a = j := by omega
            subst this; exact List.le_refl _
      · have hge : a = L.length := by rw [hln] at hc1; simp at hc1; omega
        exact ins a (by omega) hlo fun j hj haj => by omega
  · have hge : k = s.files.length := by rw [hn] at hc; simp at hc; omega
    rw [hge, List.take_of_length_le (Nat.le_refl _)] at hp
    cases hd : s.down with
    | true => exact downK hd
    | false => exact fin L l H1 hd o1 hs hp m1 f1

end Go.Proofs.YtbhddkmfhampbaaGreatDoor
