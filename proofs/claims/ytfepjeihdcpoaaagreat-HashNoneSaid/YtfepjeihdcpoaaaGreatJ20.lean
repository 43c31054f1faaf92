/-
  Sources of rows: what they have in memory; sources that tell rows of a list; lookups in maps: the walk.
-/
import Derived.Test.YtfepjeihdcpoaaaGreatJ15
import Derived.Test.YtfepjeihdcpoaaaGreatFxo
namespace Go.Proofs.YtfepjeihdcpoaaaGreat
open Go.MapKept

theorem callB_fn {P : Program} {g : FuncId} {caps : Array Value} {args : List Value} {H : Heap} {K : Bool → Heap → Prop} (arr : Array Value) (ha : (args ++ caps.toList).toArray = arr) (hc : callable P g = true) (h : SpecT cBool P g arr H K) : CallB P (.func (.func g) #[] caps) args H K := by
  unfold CallB
  simp only [hc, cond_true]
  subst ha
  simpa using h
theorem callV_fn {c : Cod} {P : Program} {g : FuncId} {caps : Array Value} {args : List Value} {H : Heap} {K : c.α → Heap → Prop} (arr : Array Value) (ha : (args ++ caps.toList).toArray = arr) (hc : callable P g = true) (h : SpecT c P g arr H K) : CallV c P (.func (.func g) #[] caps) args H K := by
  unfold CallV
  simp only [hc, cond_true]
  subst ha
  simpa using h
theorem callV_meth {c : Cod} {P : Program} {n : String} {t : TypeId} {v : Value} {g : FuncId} {caps : Array Value} {H : Heap} {K : c.α → Heap → Prop} (hm : methOf P t n = some g) (hc : callable P g = true) (h : SpecT c P g #[v] H K) : CallV c P (.func (.method n) #[.iface t v] caps) [] H K := by
  unfold CallV
  show MethV c P n [.iface t v] H K
  unfold MethV
  simp only [hm, hc, cond_true]
  exact h

/-! ### Lookups -/
section
variable {P : Program} {t kt et : TypeId} {d : TypeDesc} {H : Heap} {r : Nat} {es : Array MapEntry} {clk : Nat} {k : Value}
theorem isRd_miss {z : Value} {inf : TypeInfo} (ht : P.underlying t = some (.map kt et)) (hd : P.underlying kt = some d) (hi : P.info? et = some inf) (hz : inf.zero = some z) (hm : MapAt d H r es clk) (hk : IsKey d k) (hno : ∀ v, ¬ HasE es k v) : isRd P (Instr.lookup t (.map (some r)) k false) H z := by
  have hck : ∀ (e : Bool) (w : World), (Instr.checkKey e 10000 kt k).run P w = .ok () w := fun e w => run_checkKey hd hk e 9999
  rcases findNow_spec hk es.toList 0 hm.keys with ⟨h1, h2⟩ | ⟨j, e, h1, h2, h3⟩
  · intro w hw
    subst hw
    have hf : (Instr.findKey kt k es.toList).run P w = .ok none w := run_findKey hd h1
    have ho := hm.obj
    simp [Instr.lookup, run_underlying ht, getObj, Sem.run, ho, hck, hf, zeroValue, typeInfo, hi, hz]
  · exact absurd ⟨e, List.mem_of_getElem? h2, h3, rfl⟩ (hno e.val)
theorem isRd_hit {u : Value} (ht : P.underlying t = some (.map kt et)) (hd : P.underlying kt = some d) (hm : MapAt d H r es clk) (hk : IsKey d k) (hu : HasE es k u) (hone : ∀ v, HasE es k v → v = u) : isRd P (Instr.lookup t (.map (some r)) k false) H u := by
  have hck : ∀ (e : Bool) (w : World), (Instr.checkKey e 10000 kt k).run P w = .ok () w := fun e w => run_checkKey hd hk e 9999
  rcases findNow_spec hk es.toList 0 hm.keys with ⟨h1, h2⟩ | ⟨j, e, h1, h2, h3⟩
  · obtain ⟨e, he, hek, _⟩ := hu
    exact absurd hek (h2 e he)
  · intro w hw
    subst hw
    have hf : (Instr.findKey kt k es.toList).run P w = .ok (some (0 + j, e.val)) w := run_findKey hd h1
    have ho := hm.obj
    have hv := hone e.val ⟨e, List.mem_of_getElem? h2, h3, rfl⟩
    subst hv
    simp [Instr.lookup, run_underlying ht, getObj, Sem.run, ho, hck, hf]
theorem hasE_push {es : Array MapEntry} {k v k' v' : Value} {c : Nat} : HasE (es.push { key := k, val := v, born := c }) k' v' ↔ HasE es k' v' ∨ (k' = k ∧ v' = v) := by
  unfold HasE
  simp only [Array.toList_push, List.mem_append, List.mem_singleton]
  constructor
  · rintro ⟨e, h | h, h1, h2⟩
    · exact .inl ⟨e, h, h1, h2⟩
    · subst h; exact .inr ⟨h1.symm, h2.symm⟩
  · rintro (⟨e, h, h1, h2⟩ | ⟨rfl, rfl⟩)
    · exact ⟨e, .inl h, h1, h2⟩
    · exact ⟨_, .inr rfl, rfl, rfl⟩
end

/-! ### Rows that lie apart from some blocks -/
structure RowsX (X : Nat → Prop) (H : Heap) (s : Sl) (ls : List (List Int)) : Prop where
  len : s.n = ls.length
  off : ∀ ad, s.a = some ad → ad.block < H.size ∧ ¬ X ad.block
  at' : ∀ i (h : i < ls.length), ∃ ad r, s.a = some ad ∧ hCell H (ad.add i) = some (Sl.v r) ∧ (∀ a, r.a = some a → a.block < H.size ∧ ¬ X a.block) ∧ Ints .u64 H r ls[i]
theorem RowsX.mod {X : Nat → Prop} {H B : Heap} {s : Sl} {ls : List (List Int)} (h : RowsX X H s ls) (m : Mod X H B) : RowsX X B s ls :=
  ⟨h.len, fun ad ha => ⟨by have := (h.off ad ha).1; have := m.size; omega, (h.off ad ha).2⟩, fun i hi => by
    obtain ⟨ad, r, q1, q2, q3, q4⟩ := h.at' i hi
    exact ⟨ad, r, q1, m.cell q2 (by rw [add_block]; exact (h.off ad q1).2), fun a ha => ⟨by have := (q3 a ha).1; have := m.size; omega, (q3 a ha).2⟩, q4.mod m fun a ha => (q3 a ha).2⟩⟩
theorem RowsX.less {X Y : Nat → Prop} {H : Heap} {s : Sl} {ls : List (List Int)} (h : RowsX X H s ls) (hs : ∀ b, b < H.size → Y b → X b) : RowsX Y H s ls :=
  ⟨h.len, fun ad ha => ⟨(h.off ad ha).1, fun u => (h.off ad ha).2 (hs _ (h.off ad ha).1 u)⟩, fun i hi => by
    obtain ⟨ad, r, q1, q2, q3, q4⟩ := h.at' i hi
    exact ⟨ad, r, q1, q2, fun a ha => ⟨(q3 a ha).1, fun u => (q3 a ha).2 (hs _ (q3 a ha).1 u)⟩, q4⟩⟩
theorem RowsX.drop {X : Nat → Prop} {H : Heap} {s : Sl} {ls : List (List Int)} (h : RowsX X H s ls) (hc : s.n ≤ s.c) {i : Nat} (hi : i ≤ ls.length) : RowsX X H ⟨slA s.a s.c i 1, s.n - i, s.c - i⟩ (ls.drop i) := by
  have hln := h.len
  refine ⟨by rw [List.length_drop]; show s.n - i = _; omega, fun ad ha => ?_, fun j hj => ?_⟩
  · have ha : slA s.a s.c i 1 = some ad := ha
    unfold slA at ha
    split at ha
    · exact h.off ad ha
    · cases hsa : s.a with
      | none => rw [hsa] at ha; simp at ha
      | some a0 =>
        rw [hsa] at ha
        simp at ha
        subst ha
        rw [add_block]
        exact h.off a0 hsa
  · rw [List.length_drop] at hj
    obtain ⟨ad, r, q1, q2, q3, q5⟩ := h.at' (i + j) (by omega)
    refine ⟨ad.add i, r, ?_, by rw [add_add]; exact q2, q3, ?_⟩
    · show slA s.a s.c i 1 = _
      unfold slA
      rw [if_neg (by omega), q1, Nat.mul_one]; rfl
    · rw [List.getElem_drop]; exact q5
/-! ### Copies -/
theorem emptyB' {H : Heap} {t : TypeId} {K : Addr → Heap → Prop} (hK : ∀ H', Owns H' 0 t 1 ⟨some ⟨H.size, 0, none⟩, 0, 0⟩ [] → Ext H H' → K ⟨H.size, 0, none⟩ H') : newC H #[] t K :=
  hK _ ⟨rfl, .inr ⟨H.size, 0, #[], rfl, Nat.zero_le _, by simp, by simp, Nat.zero_le _, by simp, by simp⟩⟩ (Mod.push _ _ _)
theorem elI64 : El Tryz.prog ty_sl_int ty_int 8 (.int .i64 0) := El_of (zb := isInt0 .i64) isInt0_eq rfl (by kernel_rfl)
theorem hclone_ok {H : Heap} {s : Sl} {l : List Int} {K : Sl → Heap → Prop} (h : Ints .u64 H s l) (hl : l.length ≤ 1000000)
    (hK : ∀ s' H', Owns H' 0 ty_uint64 1 s' (l.map (Value.int .u64)) → Ext H H' → (∀ b, ownB s' b → H.size ≤ b) → K s' H') : slices_Clone_sl_uint64_uint64.sp s H K := by
  refine slices_Clone_sl_uint64_uint64.of ?_
  unfold slices_Clone_sl_uint64_uint64.vc
  have hn := h.len
  refine br_mk (fun hc => ?_) (fun hc => ?_)
  · have hl0 : l = [] := by
      cases l with
      | nil => rfl
      | cons x r =>
        obtain ⟨ad, e, _⟩ := h.at (i := 0) (by simp)
        rw [e] at hc; simp at hc
    subst hl0
    exact hK _ H (Owns.nil _ _ _ _) (.refl _ _) fun b u => by obtain ⟨ad, ha, _⟩ := u; cases ha
  · refine emptyB' fun H1 o1 e1 => ?_
    refine elU64.append (base := 0) (s := ⟨some ⟨H.size, 0, none⟩, 0, 0⟩) (x := s) (xs := []) (ws := l.map (Value.int .u64)) o1 (by simp; omega) (h.ext e1).reads (intsOne _ _) (by simp only; omega) (by simp only; omega) (Nat.zero_le _) ?_
    intro s' H2 n2 o2 m2 b2 _
    have f1 : ∀ b, ownB (Sl.mk (some ⟨H.size, 0, none⟩) 0 0) b → H.size ≤ b := by
      rintro b ⟨ad, ha, rfl⟩
      cases ha; exact Nat.le_refl _
    refine hK s' H2 (by simpa using o2) (((Ext.mod e1).trans m2).ext f1) fun b u => ?_
    rcases b2 b u with v | v
    · exact f1 b v
    · have := e1.size; omega
theorem hcloneI_ok {H : Heap} {s : Sl} {l : List Int} {K : Sl → Heap → Prop} (h : Ints .i64 H s l) (hl : l.length ≤ 1000000)
    (hK : ∀ s' H', Owns H' 0 ty_int 1 s' (l.map (Value.int .i64)) → Ext H H' → (∀ b, ownB s' b → H.size ≤ b) → K s' H') : slices_Clone_sl_int_int.sp s H K := by
  refine slices_Clone_sl_int_int.of ?_
  unfold slices_Clone_sl_int_int.vc
  have hn := h.len
  refine br_mk (fun hc => ?_) (fun hc => ?_)
  · have hl0 : l = [] := by
      cases l with
      | nil => rfl
      | cons x r =>
        obtain ⟨ad, e, _⟩ := h.at (i := 0) (by simp)
        rw [e] at hc; simp at hc
    subst hl0
    exact hK _ H (Owns.nil _ _ _ _) (.refl _ _) fun b u => by obtain ⟨ad, ha, _⟩ := u; cases ha
  · refine emptyB' fun H1 o1 e1 => ?_
    refine elI64.append (base := 0) (s := ⟨some ⟨H.size, 0, none⟩, 0, 0⟩) (x := s) (xs := []) (ws := l.map (Value.int .i64)) o1 (by simp; omega) (h.ext e1).reads (intsOne _ _) (by simp only; omega) (by simp only; omega) (Nat.zero_le _) ?_
    intro s' H2 n2 o2 m2 b2 _
    have f1 : ∀ b, ownB (Sl.mk (some ⟨H.size, 0, none⟩) 0 0) b → H.size ≤ b := by
      rintro b ⟨ad, ha, rfl⟩
      cases ha; exact Nat.le_refl _
    refine hK s' H2 (by simpa using o2) (((Ext.mod e1).trans m2).ext f1) fun b u => ?_
    rcases b2 b u with v | v
    · exact f1 b v
    · have := e1.size; omega

/-! ### Sums -/
def sum0 (level : Int) : Int := IntKind.u64.wrap ((14695981039346656037 : Int) + (IntKind.u64.wrap ((1099511628211 : Int) * (IntKind.u64.wrap level))))
def sum1 (n w : Int) : Int := ixor .u64 (IntKind.u64.wrap ((ixor .u64 n w) * (1099511628211 : Int))) (ishr .u64 (IntKind.u64.wrap ((ixor .u64 n w) * (1099511628211 : Int))) (29 : Int))
def sumW (l : List Int) (level : Int) : Int := l.foldl sum1 (sum0 level)
theorem Sum_ok {l : Sl} {ll : List Int} {level : Int} {H : Heap} {K : Int → Heap → Prop} (h : Ints .u64 H l ll) (hl : ll.length ≤ 1000000) (hK : K (sumW ll level) H) : hash_Sum.sp l level H K := by
  refine hash_Sum.of ?_
  unfold hash_Sum.vc
  have hn := h.len
  refine loop_upto ll.length (fun i z A => H = A ∧ z = (sumW (ll.take i) level, (i : Int))) ⟨rfl, rfl⟩ ?_
  rintro i _ _ next hi ⟨rfl, rfl⟩ hnext
  refine br_mk (fun hc => ?_) (fun hc => ?_)
  · have hlt : i < ll.length := by have : (i : Int) < (l.n : Int) := by simpa using hc
                                   omega
    refine ints_get h (i := (i : Int)) (j := i) rfl hlt fun ad _ => ?_
    refine hnext hlt _ _ ⟨rfl, ?_⟩
    have e : sumW (ll.take (i + 1)) level = sum1 (sumW (ll.take i) level) (ll.getD i 0) := by
      unfold sumW
      rw [List.take_add_one, List.getElem?_eq_getElem hlt, List.foldl_append, List.getD, List.getElem?_eq_getElem hlt]; rfl
    rw [e]
    show (_, IntKind.i64.wrap ((i : Int) + 1)) = _
    rw [succ64 i (by omega)]; rfl
  · have hge : i = ll.length := by have : ¬ (i : Int) < (l.n : Int) := by simpa using hc
                                   omega
    subst hge
    rw [List.take_length]
    exact hK
end Go.Proofs.YtfepjeihdcpoaaaGreat

/-
  Sources of rows: made; told of a list; the next row: the walk.
-/
namespace Go.Proofs.YtfepjeihdcpoaaaGreat
open Go.MapKept

theorem Owns.reb {H : Heap} {base base' : Nat} {e : TypeId} {size : Nat} {s : Sl} {xs : List Value} (h : Owns H base e size s xs) (hb : ∀ b, ownB s b → base' ≤ b) : Owns H base' e size s xs := by
  refine ⟨h.1, h.2.imp id ?_⟩
  rintro ⟨g, cap, cur, e1, _, h3⟩
  refine ⟨g, cap, cur, e1, hb g ?_, h3⟩
  cases s; simp only [Sl.v, Value.slice.injEq] at e1
  exact ⟨_, e1.1, rfl⟩

def srcV (w : Int) (f : Value) (wrong : Int) (feed : Value) (closed ended : Bool) : Array Value := #[.int .i64 w, f, .slice none 0 0, .int .i64 wrong, feed, .bool closed, .bool ended]
theorem made_ok {w e : Int} {fn : Fn} {fi ca : Array Value} {H : Heap} {K : Option Addr → Heap → Prop} (hK : ∀ A, RowT A H.size ty_join_Source (srcV w (.func fn fi ca) e .nilIface false false) → Ext H A → A.size = H.size + 1 → K (some ⟨H.size, 0, none⟩) A) : join_made.sp w (Sl.mk none 0 0) e fn fi ca H K := by
  refine join_made.of ?_
  unfold join_made.vc
  refine loop_upto 0 (fun _ z A => z.1 = e ∧ z.2 = 0 ∧ H = A) ⟨rfl, rfl, rfl⟩ ?_
  rintro i ⟨_, _⟩ _ next hi ⟨rfl, rfl, rfl⟩ _
  refine br_f rfl ?_
  exact newC_rowT fun A z r m => hK A r m z
theorem width_ok {sb : Nat} {w : Int} {f feed : Value} {wrong : Int} {c d : Bool} {H : Heap} {K : Int → Heap → Prop} (r : RowT H sb ty_join_Source (srcV w f wrong feed c d)) (hK : K w H) : join_Source_Width.sp (some ⟨sb, 0, none⟩) H K := by
  refine join_Source_Width.of ?_
  unfold join_Source_Width.vc
  refine br_f rfl ?_
  simp only [optK_eq]
  exact RowT.ld (c := cInt .i64) (i := 0) (x := w) r rfl hK

set_option maxHeartbeats 1000000 in
/-- The next row of a source that did not end. -/
theorem next_src {sb : Nat} {w : Int} {f feed : Value} {H : Heap} {K : (Sl × Bool × Int) → Heap → Prop} (r : RowT H sb ty_join_Source (srcV w f 0 feed false false))
    (hc : CallV (cTup [cSl, cBool, (cInt .i64)]) Tryz.prog f [] H fun q A => RowT A sb ty_join_Source (srcV w f 0 feed false false) ∧
      ((q.2.2 ≠ 0 ∨ q.2.1 = false) → ∀ B, RowT B sb ty_join_Source (srcV w f q.2.2 feed false true) → Mod (fun b => b = sb) A B → B.size = A.size → K (Sl.mk none 0 0, false, q.2.2) B) ∧
      (q.2.2 = 0 → q.2.1 = true → K (q.1, true, 0) A)) : join_Source_Next.sp (some ⟨sb, 0, none⟩) H K := by
  refine join_Source_Next.of ?_
  unfold join_Source_Next.vc
  refine ⟨fun _ A => H = A, ?_, ?_⟩
  · refine br_f rfl ?_
    simp only [optK_eq]
    refine RowT.ld (c := cBool) (i := 5) (x := false) r rfl ?_
    refine br_f rfl ?_
    refine ⟨fun b A => b = false ∧ H = A, ?_, ?_⟩
    · refine RowT.ld (c := cInt .i64) (i := 3) (x := 0) r rfl ?_
      refine br_f rfl ?_
      refine RowT.ld (c := cBool) (i := 6) (x := false) r rfl ?_
      exact ⟨rfl, rfl⟩
    · rintro _ _ ⟨rfl, rfl⟩
      exact br_f rfl rfl
  · rintro _ _ rfl
    simp only [optK_eq]
    refine RowT.ld (c := cRaw) (i := 1) (x := f) r rfl ?_
    have mono : ∀ {K1 K2 : (cTup [cSl, cBool, (cInt .i64)]).α → Heap → Prop}, (∀ q A, K1 q A → K2 q A) → CallV (cTup [cSl, cBool, (cInt .i64)]) Tryz.prog f [] H K1 → CallV (cTup [cSl, cBool, (cInt .i64)]) Tryz.prog f [] H K2 := by
      intro K1 K2 hk h
      unfold CallV at h ⊢
      split at h
      · rename_i g first cap
        cases hcl : callable Tryz.prog g with
        | true =>
          rw [hcl] at h
          simp only [cond_true] at h ⊢
          exact fun w hw => (h w hw).mono fun e w' ⟨v, he, ⟨x, hx, hk1⟩, ha⟩ => ⟨v, he, ⟨x, hx, hk _ _ hk1⟩, ha⟩
        | false =>
          rw [hcl] at h
          simp only [cond_false] at h ⊢
          exact fun w hw => by obtain ⟨v, w', h1, ⟨x, hx, hk1⟩, ha⟩ := h w hw; exact ⟨v, w', h1, ⟨x, hx, hk _ _ hk1⟩, ha⟩
      · exact h
      · unfold MethV at h ⊢
        split at h
        · split at h
          · rename_i g hm
            cases hcl : callable Tryz.prog g with
            | true =>
              rw [hcl] at h
              simp only [cond_true] at h ⊢
              exact fun w hw => (h w hw).mono fun e w' ⟨v, he, ⟨x, hx, hk1⟩, ha⟩ => ⟨v, he, ⟨x, hx, hk _ _ hk1⟩, ha⟩
            | false => rw [hcl] at h; exact h.elim
          · exact h
        · exact h
      · exact h
    refine mono ?_ hc
    rintro ⟨q1, q2, q3⟩ A ⟨rA, k1, k2⟩
    simp only at k1 k2 ⊢
    refine br_mk (fun hb => ?_) (fun hb => ?_)
    · have hb : q3 ≠ 0 ∨ q2 = false := by simpa using hb
      refine RowT.st rA (i := 3) (by simp [srcV]) rfl fun B rB mB zB => ?_
      refine RowT.st rB (i := 6) (by simp [srcV]) rfl fun C rC mC zC => ?_
      exact k1 hb C rC (mB.trans mC) (by omega)
    · have hb : q3 = 0 ∧ q2 = true := by
        have : ¬ (q3 ≠ 0 ∨ q2 = false) := by simpa using hb
        exact ⟨Decidable.of_not_not fun u => this (.inl u), by cases q2 with | true => rfl | false => exact absurd (.inr rfl) this⟩
      exact k2 hb.1 hb.2
/-! ### Rows of a list -/
def fromF (lb wb : Nat) : Value := .func (.func join_From_c1.no) #[] #[.pointer (some ⟨lb, 0, none⟩), .pointer (some ⟨wb, 0, none⟩)]
theorem zc_slsl : zc Tryz.prog ty_sl_sl_uint64 = #[.slice none 0 0] := by kernel_rfl

set_option maxHeartbeats 1000000 in
theorem From_ok {rows : Sl} {ls : List (List Int)} {w : Int} {H : Heap} {K : Option Addr → Heap → Prop} (h : Rows H rows ls) (hn : ls.length ≤ 1000) (hl : ∀ l ∈ ls, l.length ≤ 1000)
    (hK : ∀ sb lb wb s rs A, RowT A sb ty_join_Source (srcV w (fromF lb wb) (if w < 0 then 2 else 0) .nilIface false false) → RowT A lb ty_sl_sl_uint64 #[s.v] → RowT A wb ty_int #[.int .i64 w] → RowsOwn A (H.size + 2) s rs ls → (∀ b, (ownB s b ∨ ∃ r ∈ rs, ownB r b) → b < sb) → Ext H A →
      wb = H.size → lb = H.size + 1 → H.size + 2 ≤ sb → sb < A.size → K (some ⟨sb, 0, none⟩) A) : join_From.sp rows w H K := by
  refine join_From.of ?_
  unfold join_From.vc
  refine newC_rowT fun H1 z1 r1 e1 => ?_
  refine newC_rowT fun H2 z2 r2 e2 => ?_
  rw [zc_slsl] at r2
  have hrn := h.len
  have e12 := e1.trans e2
  refine loop_upto ls.length (fun i z A => z = (i : Int) ∧ ∃ s rs, RowT A H1.size ty_sl_sl_uint64 #[s.v] ∧ RowsOwn A H2.size s rs (ls.take i) ∧ Mod (fun b => b = H1.size) H2 A) ⟨rfl, Sl.mk none 0 0, [], r2, RowsOwn.nil _ _, .refl _ _⟩ ?_
  rintro i _ A next hi ⟨rfl, s, rs, rA, oA, mA⟩ hnext
  have zA := mA.size
  have rw1 : RowT A H.size ty_int #[.int .i64 w] := (r1.ext e2).mod mA fun u => by omega
  have eHA : Ext H A := ⟨by omega, fun b hb _ => by rw [mA.same b (by omega) fun u => by omega]; exact e12.same b hb id⟩
  refine br_mk (fun hc => ?_) (fun hc => ?_)
  · have hlt : i < ls.length := by have : (i : Int) < (rows.n : Int) := by simpa using hc
                                   omega
    have hA : Rows A rows ls := ⟨h.len, fun j hj => by
      obtain ⟨ad, r, q1, q2, q3⟩ := h.at' j hj
      exact ⟨ad, r, q1, eHA.cell q2 id, q3.ext eHA⟩⟩
    refine hA.ld hlt fun ad x _ ix => ?_
    refine ⟨fun B => Ext A B, .refl _ _, ?_⟩
    refine ⟨s, fun B hB => by
      have := (rA.ext hB).cell (i := 0) (v := s.v) rfl
      exact this, ?_⟩
    refine hclone_ok ix (by have := hl _ (List.getElem_mem hlt); omega) fun r B oB eB fB => ?_
    refine ⟨eB, ?_⟩
    have zB := eB.size
    have oAB := oA.ext eB
    have bA := oA.block
    -- the cell, then the append
    refine ⟨(Mod.push (fun _ => False) B (.cells #[r.v] ty_sl_uint64)) |> fun e => eB.trans e, ?_⟩
    have key := oAB.push (ty := ty_sl_sl_uint64) (r := r) (l := ls[i]) (oB.reb (base' := H2.size) fun b hb => by have := fB b hb; omega) (fun r' hr' b hb hb' => by have := fB b hb; have := (bA.2 r' hr' b hb').2; omega) (by rw [oA.n, List.length_take]; omega) (by omega)
      (K := fun s' C => Go.Proofs.YtfepjeihdcpoaaaGreat.st C ⟨H1.size, 0, none⟩ s'.v fun D => next (IntKind.i64.wrap ((i : Int) + (1 : Int))) D)
    refine key fun s' C n' oC mC => ?_
    have rC : RowT C H1.size ty_sl_sl_uint64 #[s.v] := (rA.ext eB).mod mC fun u => by have := (bA.1 _ u).1; omega
    refine RowT.st (i := 0) rC (by simp) rfl fun D rD mD zD => ?_
    refine hnext hlt _ _ ⟨succ64 i (by omega), s', rs ++ [r], rD, ?_, ?_⟩
    · have htk : ls.take i ++ [ls[i]] = ls.take (i + 1) := by rw [List.take_add_one, List.getElem?_eq_getElem hlt]; rfl
      rw [htk] at oC
      have bC := oC.block
      exact oC.mod mD (fun b hb u => by have := (bC.1 b hb).1; omega) fun r' hr' b hb u => by have := (bC.2 r' hr' b hb).1; omega
    · have zC := mC.size
      refine ⟨by omega, fun b hb _ => ?_⟩
      rename_i hne
      rw [mD.same b (by omega) hne, mC.same b (by omega) fun u => by have := (bA.1 b u).1; omega, eB.same b (by omega) id]
      exact mA.same b hb hne
  · have hge : i = ls.length := by have : ¬ (i : Int) < (rows.n : Int) := by simpa using hc
                                   omega
    subst hge
    rw [List.take_length] at oA
    have bA := oA.block
    have fin : ∀ e : Int, (e = if w < 0 then 2 else 0) → join_made.sp w (Sl.mk none 0 0) e (.func join_From_c1.no) #[] #[(.pointer (some ⟨H1.size, 0, none⟩)), (.pointer (some ⟨H.size, 0, none⟩))] A K := by
      intro e he
      subst he
      refine made_ok fun B rB eB zB => ?_
      have e2' : H2.size = H.size + 2 := by omega
      have e1' : H1.size = H.size + 1 := by omega
      have oB := oA.ext eB
      rw [e2'] at oB
      rw [e1'] at rA
      rw [e1'] at rB
      refine hK A.size (H.size + 1) H.size s rs B rB (rA.ext eB) (rw1.ext eB) oB (fun b hb => ?_) (eHA.trans eB) rfl rfl (by omega) (by omega)
      rcases hb with v | ⟨r, hr, v⟩
      · exact (bA.1 b v).2
      · exact (bA.2 r hr b v).2
    have ldw : ∀ {M : Int → Prop}, M w → Go.Proofs.YtfepjeihdcpoaaaGreat.ld (cInt .i64) A ⟨H.size, 0, none⟩ M := fun {M} hM => ⟨w, rw1.cell (i := 0) rfl, hM⟩
    refine ldw ?_
    refine br_mk (fun hc2 => ?_) (fun hc2 => ?_)
    · have hw : w < 0 := by simpa using hc2
      exact ldw (fin 2 (by rw [if_pos hw]))
    · have hw : ¬ w < 0 := by simpa using hc2
      exact ldw (fin 0 (by rw [if_neg hw]))
end Go.Proofs.YtfepjeihdcpoaaaGreat

/-
  A join of two lists by their first columns: what it has in memory; the smaller functions: the walk.
-/
namespace Go.Proofs.YtfepjeihdcpoaaaGreat
open Go.MapKept

/-- A source that tells a list's rows, beside other blocks that may change. -/
structure FromB (X : Nat → Prop) (H : Heap) (sb lb wb : Nat) (W : Nat) (ended : Bool) (s : Sl) (ls : List (List Int)) : Prop where
  row : RowT H sb ty_join_Source (srcV W (fromF lb wb) 0 .nilIface false ended)
  cell : RowT H lb ty_sl_sl_uint64 #[s.v]
  wid : RowT H wb ty_int #[.int .i64 W]
  rows : RowsX X H s ls
  cap : s.n ≤ s.c
  cols : ∀ l ∈ ls, l.length = W
  xs : X sb ∧ X lb ∧ ¬ X wb
  ne : sb ≠ lb
section
variable {X Y : Nat → Prop} {H B : Heap} {sb lb wb W : Nat} {ended : Bool} {s : Sl} {ls : List (List Int)}
theorem FromB.keep (h : FromB X H sb lb wb W ended s ls) (m : Mod Y H B) (hy : ∀ b, Y b → X b) (h1 : ¬ Y sb) (h2 : ¬ Y lb) : FromB X B sb lb wb W ended s ls :=
  ⟨h.row.mod m h1, h.cell.mod m h2, h.wid.mod m fun u => h.xs.2.2 (hy _ u), h.rows.mod (m.mono fun _ _ u => hy _ u), h.cap, h.cols, h.xs, h.ne⟩
theorem FromB.more (h : FromB X H sb lb wb W ended s ls) (hs : ∀ b, b < H.size → Y b → X b) (h1 : ∀ b, X b → Y b) : FromB Y H sb lb wb W ended s ls :=
  ⟨h.row, h.cell, h.wid, h.rows.less hs, h.cap, h.cols, ⟨h1 _ h.xs.1, h1 _ h.xs.2.1, fun u => h.xs.2.2 (hs _ (obj_lt h.wid) u)⟩, h.ne⟩

set_option maxRecDepth 100000 in
set_option maxHeartbeats 1000000 in
/-- The next row of a list's source. -/
theorem from_next {K : (Sl × Bool × Int) → Heap → Prop} (h : FromB X H sb lb wb W false s ls)
    (hK1 : ∀ l r x A s', ls = l :: r → FromB X A sb lb wb W false s' r → Mod (fun b => b = lb) H A → Ints .u64 A x l → (∀ a, x.a = some a → a.block < A.size ∧ ¬ X a.block) → K (x, true, 0) A)
    (hK0 : ls = [] → ∀ A, FromB X A sb lb wb W true s [] → Mod (fun b => b = sb) H A → K (Sl.mk none 0 0, false, 0) A) : join_Source_Next.sp (some ⟨sb, 0, none⟩) H K := by
  have hn := h.rows.len
  refine next_src h.row (callV_fn #[.pointer (some ⟨lb, 0, none⟩), .pointer (some ⟨wb, 0, none⟩)] rfl (by kernel_rfl) ?_)
  refine join_From_c1.of ?_
  unfold join_From_c1.vc
  have ldc : ∀ {A : Heap} {s : Sl} {M : Sl → Prop}, RowT A lb ty_sl_sl_uint64 #[s.v] → M s → Go.Proofs.YtfepjeihdcpoaaaGreat.ld cSl A ⟨lb, 0, none⟩ M := fun {A s M} r hM => ⟨s, r.cell (i := 0) rfl, hM⟩
  refine ldc h.cell ?_
  cases hls : ls with
  | nil =>
    subst hls
    have h0 : s.n = 0 := hn
    refine br_t (by rw [h0]; rfl) ⟨h.row, fun _ B rB mB zB => ?_, fun _ u => by cases u⟩
    exact hK0 rfl B ⟨rB, h.cell.mod mB (Ne.symm h.ne), h.wid.mod mB (fun u => h.xs.2.2 (u ▸ h.xs.1)), h.rows.mod (mB.mono fun b _ u => by subst u; exact h.xs.1), h.cap, h.cols, h.xs, h.ne⟩ mB
  | cons l r =>
    subst hls
    have h0 : s.n = r.length + 1 := hn
    refine br_f (by rw [h0]; simp; omega) ?_
    refine ldc h.cell ?_
    obtain ⟨ad, x, q1, q2, q3, q4⟩ := h.rows.at' 0 (by simp)
    refine optK_mk ad q1 ⟨⟨Int.le_refl _, by omega⟩, x, by simpa using q2, ?_⟩
    refine ldc h.cell ?_
    refine ⟨⟨by decide, by omega⟩, ?_⟩
    have e1 : ((1 : Int).toNat) = 1 := rfl
    rw [e1]
    have hst := RowT.st (i := 0) (v := Sl.v ⟨slA s.a s.c 1 1, s.n - 1, s.c - 1⟩) h.cell (by simp) rfl
      (K := fun H1 => Go.Proofs.YtfepjeihdcpoaaaGreat.ld (cInt .i64) H1 ⟨wb, 0, none⟩ fun (x_4 : Int) => br ((x.n : Int) != x_4)
        (RowT H1 sb ty_join_Source (srcV W (fromF lb wb) 0 .nilIface false false) ∧ ((60 : Int) ≠ 0 ∨ false = false → ∀ B, RowT B sb ty_join_Source (srcV W (fromF lb wb) 60 .nilIface false true) → Mod (fun b => b = sb) H1 B → B.size = H1.size → K (Sl.mk none 0 0, false, 60) B) ∧ ((60 : Int) = 0 → false = true → K (Sl.mk none 0 0, true, 0) H1))
        (RowT H1 sb ty_join_Source (srcV W (fromF lb wb) 0 .nilIface false false) ∧ ((0 : Int) ≠ 0 ∨ true = false → ∀ B, RowT B sb ty_join_Source (srcV W (fromF lb wb) 0 .nilIface false true) → Mod (fun b => b = sb) H1 B → B.size = H1.size → K (Sl.mk none 0 0, false, 0) B) ∧ ((0 : Int) = 0 → true = true → K (x, true, 0) H1)))
    refine hst fun A rA mA zA => ?_
    have mX : Mod X H A := mA.mono fun b _ u => by subst u; exact h.xs.2.1
    have wA : RowT A wb ty_int #[.int .i64 W] := h.wid.mod mA fun u => h.xs.2.2 (u ▸ h.xs.2.1)
    refine ⟨(W : Int), wA.cell (i := 0) rfl, ?_⟩
    have hxl := q4.len
    have hlW := h.cols l List.mem_cons_self
    refine br_f (by
      have : x.n = W := by rw [hxl]; exact hlW
      rw [this]; simp) ⟨h.row.mod mA h.ne, fun u => by rcases u with u | u <;> exact absurd u (by simp), fun _ _ => ?_⟩
    refine hK1 l r x A ⟨slA s.a s.c 1 1, s.n - 1, s.c - 1⟩ rfl ⟨h.row.mod mA h.ne, by simpa using rA, wA, ?_, by have := h.cap; show s.n - 1 ≤ s.c - 1; omega, fun y hy => h.cols y (List.mem_cons_of_mem _ hy), h.xs, h.ne⟩ mA (q4.mod mX fun a ha => (q3 a ha).2) fun a ha => ⟨by have := (q3 a ha).1; omega, (q3 a ha).2⟩
    have := (h.rows.drop h.cap (i := 1) (by simp)).mod mX
    simpa using this
end

/-- What is where. -/
structure Cfg where
  pb : Nat
  sa : Nat
  la : Nat
  wa : Nat
  sb : Nat
  lb : Nat
  wb : Nat
  j : Nat
  ca : Sl
  cb : Sl
def hNm : ByteArray := ByteArray.mk #[104]
def joV (c : Cfg) (begun : Bool) (tbl : Option Nat) (held : Int) (row mt : Sl) : Array Value :=
  #[.pointer (some ⟨c.pb, 0, none⟩), .string hNm, .pointer (some ⟨c.sa, 0, none⟩), c.ca.v, .int .i64 2, .pointer (some ⟨c.sb, 0, none⟩), c.cb.v, .int .i64 2, .int .i64 3, .int .i64 0, .bool begun, .slice none 0 0, .slice none 0 0, .pointer none, .pointer none, .int .i64 0, .map tbl, .int .i64 held, .pointer none, .pointer none, row.v, mt.v]

section
variable {H : Heap} {j : Nat} {cs : Array Value} {l cols : Sl} {ll : List Int}
theorem key_ok {i : Nat} {K : Sl → Heap → Prop} (r : RowT H j ty_hash_joiner cs) (hi : cs[i + 1]? = some cols.v) (hl : Ints .u64 H l ll) (hc : Ints .i64 H cols [0]) (h1 : 1 ≤ ll.length) 
    (hK : ∀ s A, Owns A H.size ty_uint64 1 s ([ll.getD 0 0].map (Value.int .u64)) → Ext H A → K s A) : hash_side_key.sp (some (Addr.add ⟨j, 0, none⟩ i)) l H K := by
  refine hash_side_key.of ?_
  unfold hash_side_key.vc
  simp only [optK_eq, add_add]
  refine RowT.ld (c := cSl) (i := i + 1) (x := cols) r hi ?_
  refine rowTurn_ok hl hc (by simp) fun s A oA eA => ?_
  have e : turnL ll [0] = [ll.getD 0 0] := by
    have hl0 : 0 < ll.length := h1
    unfold turnL turnOK
    simp [hl0]
  rw [e] at oA
  exact hK s A oA eA
theorem clear_ok {c : Cfg} {begun : Bool} {tbl : Option Nat} {held : Int} {row mt : Sl} {K : Unit → Heap → Prop} (r : RowT H c.j ty_hash_joiner (joV c begun tbl held row mt))
    (hK : ∀ A, RowT A c.j ty_hash_joiner (joV c begun (some H.size) 0 row mt) → MapAt (.int .u64) A H.size #[] 0 → Mod (fun b => b = c.j) H A → A.size = H.size + 1 → K () A) : hash_joiner_clear.sp (some ⟨c.j, 0, none⟩) H K := by
  have hj := obj_lt r
  refine hash_joiner_clear.of ?_
  unfold hash_joiner_clear.vc
  refine newM_map (d := .int .u64) fun A1 z1 m1 e1 => ?_
  simp only [optK_eq]
  refine RowT.st (r.ext e1) (i := 16) (by simp [joV]) rfl fun A2 r2 m2 z2 => ?_
  refine RowT.st r2 (i := 17) (by simp [joV]) rfl fun A3 r3 m3 z3 => ?_
  exact hK A3 r3 ((m1.mod m2 fun u => by omega).mod m3 fun u => by omega) ((Ext.mod e1).trans (m2.trans m3)) (by omega)
theorem most_ok {c : Cfg} {begun : Bool} {tbl : Option Nat} {held : Int} {row mt : Sl} {K : Int → Heap → Prop} (r : RowT H c.j ty_hash_joiner (joV c begun tbl held row mt)) (hK : K 93 H) : hash_joiner_most.sp (some ⟨c.j, 0, none⟩) H K := by
  refine hash_joiner_most.of ?_
  unfold hash_joiner_most.vc
  refine ⟨fun A => H = A, rfl, ?_⟩
  simp only [optK_eq, add_add, Nat.reduceAdd]
  refine RowT.ldC (c := cInt .i64) (i := 8) (x := 3) (cs := fun _ => joV c begun tbl held row mt) (fun A hA => hA ▸ r) (fun _ _ => rfl) ?_
  refine RowT.ld (c := cInt .i64) (i := 7) (x := 2) r rfl ?_
  refine rowRoom_ok ⟨rfl, ?_⟩
  have e : IntKind.i64.wrap (3 * roomL 2) = 93 := by decide
  rw [e]; exact hK
end

/-! ### The table -/
def keyN (l : List Int) : Int := sumW [l.getD 0 0] (-1)
/-- The rows of a table, by their sums. -/
structure TabAt (X : Nat → Prop) (H : Heap) (mb : Nat) (ls : List (List Int)) : Prop where
  at_ : ∃ es clk, MapAt (.int .u64) H mb es clk ∧ (∀ k v, HasE es k v → ∃ l s, l ∈ ls ∧ k = .int .u64 (keyN l) ∧ v = Sl.v s ∧ RowsX X H s [l]) ∧ ∀ l ∈ ls, ∃ s, HasE es (.int .u64 (keyN l)) (Sl.v s) ∧ RowsX X H s [l]
section
variable {X : Nat → Prop} {H B : Heap} {mb : Nat} {ls : List (List Int)}
theorem tab_type : Tryz.prog.underlying ty_maparr_uint64_sl_sl_uint64 = some (.map ty_uint64 ty_sl_sl_uint64) := by kernel_rfl
theorem u64_type : Tryz.prog.underlying ty_uint64 = some (.int .u64) := by kernel_rfl
theorem slsl_info : ∃ inf, Tryz.prog.info? ty_sl_sl_uint64 = some inf ∧ inf.zero = some (.slice none 0 0) := by
  have h : ((Tryz.prog.info? ty_sl_sl_uint64).bind (·.zero)) = some (.slice none 0 0) := by kernel_rfl
  obtain ⟨inf, h1, h2⟩ := Option.bind_eq_some_iff.1 h
  exact ⟨inf, h1, h2⟩
theorem TabAt.mod (h : TabAt X H mb ls) (m : Mod X H B) (hm : B[mb]? = H[mb]?) : TabAt X B mb ls := by
  obtain ⟨es, clk, h1, h2, h3⟩ := h.at_
  refine ⟨es, clk, ⟨hm.trans h1.obj, h1.stamped, h1.keys⟩, fun k v hv => ?_, fun l hl => ?_⟩
  · obtain ⟨l, s, a, b, c, d⟩ := h2 k v hv
    exact ⟨l, s, a, b, c, d.mod m⟩
  · obtain ⟨s, a, b⟩ := h3 l hl
    exact ⟨s, a, b.mod m⟩
theorem TabAt.miss (h : TabAt X H mb ls) {n : Int} (hn : ∀ l ∈ ls, keyN l ≠ n) : isRd Tryz.prog (Instr.lookup ty_maparr_uint64_sl_sl_uint64 (.map (some mb)) (.int .u64 n) false) H (.slice none 0 0) := by
  obtain ⟨es, clk, h1, h2, h3⟩ := h.at_
  obtain ⟨inf, i1, i2⟩ := slsl_info
  refine isRd_miss tab_type u64_type i1 i2 h1 rfl fun v hv => ?_
  obtain ⟨l, s, a, b, _⟩ := h2 _ v hv
  have : n = keyN l := (Value.int.inj b).2
  exact hn l a this.symm
theorem TabAt.hit (h : TabAt X H mb ls) {l : List Int} (hl : l ∈ ls) : ∃ s, isRd Tryz.prog (Instr.lookup ty_maparr_uint64_sl_sl_uint64 (.map (some mb)) (.int .u64 (keyN l)) false) H (Sl.v s) ∧ RowsX X H s [l] := by
  obtain ⟨es, clk, h1, h2, h3⟩ := h.at_
  obtain ⟨s, a, b⟩ := h3 l hl
  refine ⟨s, isRd_hit tab_type u64_type h1 rfl a fun v hv => ?_, b⟩
  obtain ⟨e1, he1, k1, v1⟩ := hv
  obtain ⟨e2, he2, k2, v2⟩ := a
  have hp := (stamped_iff es clk).1 h1.stamped |>.2.2
  rw [← v1, ← v2]
  congr 1
  apply Classical.byContradiction
  intro hne
  obtain ⟨i1, hi1, g1⟩ := List.mem_iff_getElem.1 he1
  obtain ⟨i2, hi2, g2⟩ := List.mem_iff_getElem.1 he2
  have hij : i1 ≠ i2 := fun q => hne (by subst q; rw [← g1, ← g2])
  have hpw := List.pairwise_iff_getElem.1 hp
  rcases Nat.lt_or_ge i1 i2 with q | q
  · have := hpw i1 i2 hi1 hi2 q
    rw [g1, g2, k1, k2] at this
    exact this rfl
  · have := hpw i2 i1 hi2 hi1 (by omega)
    rw [g1, g2, k1, k2] at this
    exact this rfl

set_option maxHeartbeats 1000000 in
/-- A row is taken into memory. -/
theorem hold_ok {c : Cfg} {begun : Bool} {held : Int} {row mt l : Sl} {ll : List Int} {K : Unit → Heap → Prop} (r : RowT H c.j ty_hash_joiner (joV c begun (some mb) held row mt)) (hcb : Ints .i64 H c.cb [0]) (ht : TabAt X H mb ls) (hXj : X c.j) (hXm : X mb) (hne : c.j ≠ mb)
    (hX : ∀ b, X b → b < H.size) (hl : Ints .u64 H l ll) (hlo : ∀ a, l.a = some a → a.block < H.size ∧ ¬ X a.block) (h2 : 1 ≤ ll.length) (hh : 0 ≤ held ∧ held ≤ 1000) (hnew : ∀ l' ∈ ls, keyN l' ≠ keyN ll)
    (hK : ∀ A, RowT A c.j ty_hash_joiner (joV c begun (some mb) (held + 1) row mt) → TabAt X A mb (ls ++ [ll]) → Mod (fun b => b = c.j ∨ b = mb) H A → K () A) : hash_joiner_hold.sp (some ⟨c.j, 0, none⟩) l H K := by
  refine hash_joiner_hold.of ?_
  unfold hash_joiner_hold.vc
  simp only [optK_eq]
  refine key_ok (i := 5) r rfl hl hcb h2 fun s A o1 e1 => ?_
  refine Sum_ok o1.ints (by simp) ?_
  have z1 := e1.size
  have hjl := obj_lt r
  have rA := r.ext e1
  have hmb : mb < H.size := by obtain ⟨es, clk, h1, _⟩ := ht.at_; exact h1.lt
  have tA : TabAt X A mb ls := ht.mod (Ext.mod e1) (e1.same mb hmb id)
  refine ⟨fun B => Ext A B, .refl _ _, ?_⟩
  have tb : ∀ B, Ext A B → TabAt X B mb ls := fun B e => tA.mod (Ext.mod e) (e.same mb (by omega) id)
  refine RowT.ldC (c := cMap) (i := 16) (x := some mb) (cs := fun _ => joV c begun (some mb) held row mt) (fun B hB => rA.ext hB) (fun _ _ => rfl) ?_
  refine RowT.ldC (c := cMap) (i := 16) (x := some mb) (cs := fun _ => joV c begun (some mb) held row mt) (fun B hB => rA.ext hB) (fun _ _ => rfl) ?_
  refine ⟨Sl.mk none 0 0, fun B hB => (tb B hB).miss hnew, ?_⟩
  have key := elRow.push (ty := ty_sl_sl_uint64) (H := A) (base := A.size) (s := Sl.mk none 0 0) (xs := []) (v := l.v) (Owns.nil _ _ _ _) rfl (by decide) (by decide) (Nat.le_refl _)
    (K := fun s' B => Ext A B ∧ doU Tryz.prog (Instr.mapUpdate ty_maparr_uint64_sl_sl_uint64 (.map (some mb)) (.int .u64 (sumW [ll.getD 0 0] (-1))) s'.v) B fun H5 => Go.Proofs.YtfepjeihdcpoaaaGreat.ld (cInt .i64) H5 (Addr.add ⟨c.j, 0, none⟩ 17) fun (x_3 : Int) => Go.Proofs.YtfepjeihdcpoaaaGreat.st H5 (Addr.add ⟨c.j, 0, none⟩ 17) (.int .i64 (IntKind.i64.wrap (x_3 + (1 : Int)))) fun H6 => K () H6)
  refine ⟨Mod.push _ _ _, ?_⟩
  refine key fun s' B n' oB mB bB _ => ?_
  have eB : Ext A B := mB.ext fun b u => by obtain ⟨ad, ha, _⟩ := u; cases ha
  refine ⟨eB, ?_⟩
  obtain ⟨es, clk, m1, m2, m3⟩ := (tb B eB).at_
  have hno : ∀ u, ¬ HasE es (.int .u64 (sumW [ll.getD 0 0] (-1))) u := fun u hu => by
    obtain ⟨l', s, a, b, _⟩ := m2 _ u hu
    have : sumW [ll.getD 0 0] (-1) = keyN l' := (Value.int.inj b).2
    exact hnew l' a this.symm
  refine doU_insert tab_type u64_type m1 rfl hno fun C mC modC zC => ?_
  have zB := eB.size
  have rB := rA.ext eB
  have rC : RowT C c.j ty_hash_joiner (joV c begun (some mb) held row mt) := rB.mod modC hne
  refine RowT.ld (c := cInt .i64) (i := 17) (x := held) rC rfl ?_
  refine RowT.st rC (i := 17) (by simp [joV]) rfl fun D rD modD zD => ?_
  have hw : IntKind.i64.wrap (held + 1) = held + 1 := wrap64 (by omega) (by omega)
  rw [hw] at rD
  have mXC : Mod X B C := modC.mono fun b _ u => by subst u; exact hXm
  have mXD : Mod X C D := modD.mono fun b _ u => by subst u; exact hXj
  have mX : Mod X B D := mXC.trans mXD
  have eHB := e1.trans eB
  have rowsN : RowsX X B s' [ll] := by
    have hb := oB.block
    have n1 : s'.n = 1 := n'
    refine ⟨n1, fun ad ha => ?_, fun i hi => ?_⟩
    · have := hb _ ⟨ad, ha, rfl⟩
      exact ⟨this.2, fun u => by have := hX _ u; omega⟩
    · have hi0 : i = 0 := by simp at hi; omega
      subst hi0
      obtain ⟨ad, ha, hc⟩ := oB.reads.at (i := 0) (by simp)
      exact ⟨ad, l, ha, by simpa using hc, fun a q => ⟨by have := (hlo a q).1; omega, (hlo a q).2⟩, hl.ext eHB⟩
  refine hK D rD ⟨_, _, mC.mod modD (Ne.symm hne), fun k v hv => ?_, fun l' hl' => ?_⟩ ((Ext.mod eHB).trans ((modC.mono fun _ _ u => .inr u).trans (modD.mono fun _ _ u => .inl u)))
  · rcases hasE_push.1 hv with q | ⟨q1, q2⟩
    · obtain ⟨l', s, a, b, c, d⟩ := m2 k v q
      exact ⟨l', s, List.mem_append.2 (.inl a), b, c, d.mod mX⟩
    · exact ⟨ll, s', List.mem_append.2 (.inr (List.mem_singleton.2 rfl)), q1, q2, rowsN.mod mX⟩
  · rcases List.mem_append.1 hl' with q | q
    · obtain ⟨s, a, b⟩ := m3 l' q
      exact ⟨s, hasE_push.2 (.inl a), b.mod mX⟩
    · have e : l' = ll := List.mem_singleton.1 q
      subst e
      exact ⟨s', hasE_push.2 (.inr ⟨rfl, rfl⟩), rowsN.mod mX⟩
end
end Go.Proofs.YtfepjeihdcpoaaaGreat

/-
  A join of two lists by their first columns: its rows: the walk.
-/
namespace Go.Proofs.YtfepjeihdcpoaaaGreat
open Go.MapKept

def XC (c : Cfg) (mb b : Nat) : Prop := b = c.j ∨ b = c.sa ∨ b = c.la ∨ b = c.sb ∨ b = c.lb ∨ b = mb
/-- A join at work. -/
structure JS (c : Cfg) (mb : Nat) (H : Heap) (begun : Bool) (tbl : Option Nat) (held : Int) (row mt : Sl) (eA : Bool) (sA : Sl) (lA : List (List Int)) (eB : Bool) (sB : Sl) (lB : List (List Int)) : Prop where
  jo : RowT H c.j ty_hash_joiner (joV c begun tbl held row mt)
  a : FromB (XC c mb) H c.sa c.la c.wa 2 eA sA lA
  b : FromB (XC c mb) H c.sb c.lb c.wb 2 eB sB lB
  ca : Ints .i64 H c.ca [0]
  cao : ∀ a, c.ca.a = some a → ¬ XC c mb a.block
  cb : Ints .i64 H c.cb [0]
  cbo : ∀ a, c.cb.a = some a → ¬ XC c mb a.block
  d : c.j ≠ c.sa ∧ c.j ≠ c.la ∧ c.j ≠ c.sb ∧ c.j ≠ c.lb ∧ c.sa ≠ c.sb ∧ c.sa ≠ c.lb ∧ c.la ≠ c.sb ∧ c.la ≠ c.lb
  m : c.sa ≠ mb ∧ c.la ≠ mb ∧ c.sb ≠ mb ∧ c.lb ≠ mb
  lt : ∀ b, XC c mb b → b < H.size
section
variable {c : Cfg} {mb : Nat} {H A : Heap} {begun begun' : Bool} {tbl tbl' : Option Nat} {held held' : Int} {row mt row' mt' : Sl} {eA eA' eB eB' : Bool} {sA sA' sB sB' : Sl} {lA lA' lB lB' : List (List Int)}
theorem JS.upd (h : JS c mb H begun tbl held row mt eA sA lA eB sB lB) (m : Mod (XC c mb) H A) (jo : RowT A c.j ty_hash_joiner (joV c begun' tbl' held' row' mt')) (a : FromB (XC c mb) A c.sa c.la c.wa 2 eA' sA' lA') (b : FromB (XC c mb) A c.sb c.lb c.wb 2 eB' sB' lB') : JS c mb A begun' tbl' held' row' mt' eA' sA' lA' eB' sB' lB' :=
  ⟨jo, a, b, h.ca.mod m fun ad ha => h.cao ad ha, h.cao, h.cb.mod m fun ad ha => h.cbo ad ha, h.cbo, h.d, h.m, fun x hx => Nat.lt_of_lt_of_le (h.lt x hx) m.size⟩
theorem JS.ext (h : JS c mb H begun tbl held row mt eA sA lA eB sB lB) (e : Ext H A) : JS c mb A begun tbl held row mt eA sA lA eB sB lB :=
  h.upd (Ext.mod e) (h.jo.ext e) (h.a.keep e (fun _ u => u.elim) id id) (h.b.keep e (fun _ u => u.elim) id id)
/-- The join's own cells, and the table's, change. -/
theorem JS.own (h : JS c mb H begun tbl held row mt eA sA lA eB sB lB) (m : Mod (fun b => b = c.j ∨ b = mb) H A) (jo : RowT A c.j ty_hash_joiner (joV c begun' tbl' held' row' mt')) : JS c mb A begun' tbl' held' row' mt' eA sA lA eB sB lB := by
  obtain ⟨d1, d2, d3, d4, _⟩ := h.d
  obtain ⟨m1, m2, m3, m4⟩ := h.m
  have sub : ∀ b, (b = c.j ∨ b = mb) → XC c mb b := fun b u => u.elim .inl fun v => .inr (.inr (.inr (.inr (.inr v))))
  exact h.upd (m.mono fun b _ u => sub b u) jo (h.a.keep m sub (fun u => u.elim (fun v => d1 v.symm) m1) fun u => u.elim (fun v => d2 v.symm) m2) (h.b.keep m sub (fun u => u.elim (fun v => d3 v.symm) m3) fun u => u.elim (fun v => d4 v.symm) m4)
theorem JS.ownJ (h : JS c mb H begun tbl held row mt eA sA lA eB sB lB) (m : Mod (fun b => b = c.j) H A) (jo : RowT A c.j ty_hash_joiner (joV c begun' tbl' held' row' mt')) : JS c mb A begun' tbl' held' row' mt' eA sA lA eB sB lB := h.own (m.mono fun _ _ u => .inl u) jo

set_option maxHeartbeats 1000000 in
/-- The next row of the first list. -/
theorem lefts_ok {K : (Sl × Bool × Int) → Heap → Prop} (h : JS c mb H begun tbl held row mt false sA lA eB sB lB)
    (hK1 : ∀ l r x B s', lA = l :: r → JS c mb B begun tbl held row mt false s' r eB sB lB → Mod (fun b => b = c.la) H B → Ints .u64 B x l → (∀ a, x.a = some a → a.block < B.size ∧ ¬ XC c mb a.block) → K (x, true, 0) B)
    (hK0 : lA = [] → ∀ B, JS c mb B begun tbl held row mt true sA [] eB sB lB → Mod (fun b => b = c.sa) H B → K (Sl.mk none 0 0, false, 0) B) : hash_joiner_lefts.sp (some ⟨c.j, 0, none⟩) H K := by
  obtain ⟨d1, d2, d3, d4, d5, d6, d7, d8⟩ := h.d
  refine hash_joiner_lefts.of ?_
  unfold hash_joiner_lefts.vc
  simp only [optK_eq, add_add, Nat.reduceAdd]
  refine RowT.ld (c := cPtr) (i := 19) (x := none) h.jo rfl ?_
  refine br_t rfl ?_
  refine RowT.ld (c := cPtr) (i := 2) (x := some ⟨c.sa, 0, none⟩) h.jo rfl ?_
  refine from_next h.a (fun l r x B s' hl fB mB ix ox => ?_) (fun hl B fB mB => ?_)
  · refine hK1 l r x B s' hl (h.upd (mB.mono fun b _ u => .inr (.inr (.inl u))) (h.jo.mod mB d2) fB (h.b.keep mB (fun b u => .inr (.inr (.inl u))) (fun u => d7 u.symm) fun u => d8 u.symm)) mB ix ox
  · exact hK0 hl B (h.upd (mB.mono fun b _ u => .inr (.inl u)) (h.jo.mod mB d1) fB (h.b.keep mB (fun b u => .inr (.inl u)) (fun u => d5 u.symm) fun u => d6 u.symm)) mB

set_option maxHeartbeats 2000000 in
/-- The second list is taken into memory. -/
theorem begin_ok {K : Int → Heap → Prop} (h : JS c c.j H false none 0 row mt false sA lA false sB lB) (hn : lB.length ≤ 90) (hkeys : (lB.map keyN).Nodup)
    (hK : ∀ mb B s', JS c mb B true (some mb) lB.length row mt false sA lA true s' [] → TabAt (XC c mb) B mb lB → c.j ≠ mb → H.size ≤ mb → Mod (XC c mb) H B → K 0 B) : hash_joiner_begin.sp (some ⟨c.j, 0, none⟩) H K := by
  obtain ⟨d1, d2, d3, d4, d5, d6, d7, d8⟩ := h.d
  have hjl := obj_lt h.jo
  refine hash_joiner_begin.of ?_
  unfold hash_joiner_begin.vc
  refine newC_rowT fun H1 z1 r1 e1 => ?_
  have ldp : ∀ {A : Heap} {M : Option Addr → Prop}, RowT A H.size ty_ptr_hash_joiner #[.pointer (some ⟨c.j, 0, none⟩)] → M (some ⟨c.j, 0, none⟩) → Go.Proofs.YtfepjeihdcpoaaaGreat.ld cPtr A ⟨H.size, 0, none⟩ M := fun {A M} r hM => ⟨_, r.cell (i := 0) rfl, hM⟩
  refine ldp r1 ?_
  simp only [optK_eq]
  have h1 := h.ext e1
  refine RowT.st h1.jo (i := 10) (by simp [joV]) rfl fun H2 r2 m2 z2 => ?_
  have p2 : RowT H2 H.size ty_ptr_hash_joiner #[.pointer (some ⟨c.j, 0, none⟩)] := r1.mod m2 fun u => by omega
  have h2 : JS c c.j H2 true none 0 row mt false sA lA false sB lB := h1.ownJ m2 r2
  refine ldp p2 ?_
  refine clear_ok h2.jo fun H3 r3 mp3 m3 z3 => ?_
  have p3 : RowT H3 H.size ty_ptr_hash_joiner #[.pointer (some ⟨c.j, 0, none⟩)] := p2.mod m3 fun u => by omega
  have h3' : JS c c.j H3 true (some H2.size) 0 row mt false sA lA false sB lB := h2.ownJ m3 r3
  have hXlt : ∀ b, XC c c.j b → b < H2.size := h2.lt
  generalize hmb : H2.size = mb at *
  have sub : ∀ b, XC c c.j b → XC c mb b := fun b u => by
    rcases u with v | v | v | v | v | v
    · exact .inl v
    · exact .inr (.inl v)
    · exact .inr (.inr (.inl v))
    · exact .inr (.inr (.inr (.inl v)))
    · exact .inr (.inr (.inr (.inr (.inl v))))
    · exact .inl v
  have bus : ∀ b, b ≠ mb → XC c mb b → XC c c.j b := fun b hb u => by
    rcases u with v | v | v | v | v | v
    · exact .inl v
    · exact .inr (.inl v)
    · exact .inr (.inr (.inl v))
    · exact .inr (.inr (.inr (.inl v)))
    · exact .inr (.inr (.inr (.inr (.inl v))))
    · exact absurd v hb
  have hlt2 : ∀ b, XC c c.j b → b ≠ mb := fun b u => by have := hXlt b u; omega
  have jm : c.j ≠ mb := hlt2 _ (.inl rfl)
  -- the sources, beside the table
  have moreF : ∀ {sb lb wb : Nat} {e : Bool} {s : Sl} {ls : List (List Int)}, FromB (XC c c.j) H2 sb lb wb 2 e s ls → FromB (XC c mb) H2 sb lb wb 2 e s ls := fun f => f.more (fun b hb u => bus b (by omega) u) sub
  have m3' : Mod (fun b => b = c.j) H2 H3 := m3
  have a3 : FromB (XC c mb) H3 c.sa c.la c.wa 2 false sA lA := (moreF h2.a).keep m3' (fun b u => .inl u) (fun u => d1 u.symm) fun u => d2 u.symm
  have b3 : FromB (XC c mb) H3 c.sb c.lb c.wb 2 false sB lB := (moreF h2.b).keep m3' (fun b u => .inl u) (fun u => d3 u.symm) fun u => d4 u.symm
  have h3 : JS c mb H3 true (some mb) 0 row mt false sA lA false sB lB := ⟨r3, a3, b3, h3'.ca, fun a ha u => by
      by_cases q : a.block = mb
      · obtain ⟨ad, e1, e2⟩ := h2.ca.at (i := 0) (by simp)
        rw [ha] at e1; cases e1
        have := hCell_lt e2
        rw [add_block] at this; omega
      · exact h3'.cao a ha (bus _ q u), h3'.cb, fun a ha u => by
      by_cases q : a.block = mb
      · obtain ⟨ad, e1, e2⟩ := h2.cb.at (i := 0) (by simp)
        rw [ha] at e1; cases e1
        have := hCell_lt e2
        rw [add_block] at this; omega
      · exact h3'.cbo a ha (bus _ q u), h.d, ⟨hlt2 _ (.inr (.inl rfl)), hlt2 _ (.inr (.inr (.inl rfl))), hlt2 _ (.inr (.inr (.inr (.inl rfl)))), hlt2 _ (.inr (.inr (.inr (.inr (.inl rfl)))))⟩, fun b u => by
      by_cases q : b = mb
      · omega
      · have := hXlt b (bus b q u); omega⟩
  have t3 : TabAt (XC c mb) H3 mb [] := ⟨_, _, mp3, fun k v hv => by obtain ⟨e, he, _⟩ := hv; simp at he, fun l hl => by cases hl⟩
  have mod03 : Mod (XC c mb) H H3 := (Ext.mod e1).trans ((m2.mono fun b _ u => .inl u).trans (m3.mono fun b _ u => .inl u))
  have pX : ¬ XC c mb H.size := fun u => by
    by_cases q : H.size = mb
    · omega
    · have := h.lt _ (bus _ q u); omega
  refine loop_upto lB.length (fun k _ A => (∃ s', JS c mb A true (some mb) k row mt false sA lA false s' (lB.drop k)) ∧ TabAt (XC c mb) A mb (lB.take k) ∧ RowT A H.size ty_ptr_hash_joiner #[.pointer (some ⟨c.j, 0, none⟩)] ∧ Mod (XC c mb) H A) ⟨⟨sB, h3⟩, t3, p3, mod03⟩ ?_
  rintro k _ A next hk ⟨⟨s', hA⟩, tA, pA, mA⟩ hnext
  refine ⟨fun B => A = B, rfl, ?_⟩
  refine ⟨some ⟨c.j, 0, none⟩, fun B hB => hB ▸ pA.cell (i := 0) rfl, ?_⟩
  simp only [optK_eq, add_add, Nat.reduceAdd]
  refine RowT.ldC (c := cInt .i64) (i := 17) (x := (k : Int)) (cs := fun _ => joV c true (some mb) k row mt) (fun B hB => hB ▸ hA.jo) (fun _ _ => rfl) ?_
  refine ldp pA ?_
  refine most_ok hA.jo ⟨rfl, ?_⟩
  refine br_t (by simp; omega) ?_
  refine ldp pA ?_
  refine RowT.ld (c := cPtr) (i := 5) (x := some ⟨c.sb, 0, none⟩) hA.jo rfl ?_
  refine from_next hA.b (fun l r x B s2 hl fB mB ix ox => ?_) (fun hl B fB mB => ?_)
  · have hkl : k < lB.length := by
      rcases Nat.lt_or_ge k lB.length with q | q
      · exact q
      · rw [List.drop_of_length_le q] at hl; cases hl
    rw [List.drop_eq_getElem_cons hkl] at hl
    obtain ⟨rfl, rfl⟩ : lB[k] = l ∧ lB.drop (k + 1) = r := List.cons.inj hl
    have mBX : Mod (XC c mb) A B := mB.mono fun b _ u => .inr (.inr (.inr (.inr (.inl u))))
    have hB : JS c mb B true (some mb) k row mt false sA lA false s2 (lB.drop (k + 1)) := hA.upd mBX (hA.jo.mod mB d4) (hA.a.keep mB (fun b u => .inr (.inr (.inr (.inr (.inl u))))) d6 d8) fB
    have pB : RowT B H.size ty_ptr_hash_joiner #[.pointer (some ⟨c.j, 0, none⟩)] := pA.mod mBX pX
    have tB : TabAt (XC c mb) B mb (lB.take k) := tA.mod mBX (mB.same mb (hA.lt _ (.inr (.inr (.inr (.inr (.inr rfl)))))) fun u => by have := hA.m.2.2.2; omega)
    refine br_f rfl (br_f rfl ?_)
    refine ldp pB ?_
    have hlw := hA.b.cols lB[k] (by rw [List.drop_eq_getElem_cons hkl]; exact List.mem_cons_self)
    refine hold_ok hB.jo hB.cb tB (.inl rfl) (.inr (.inr (.inr (.inr (.inr rfl))))) jm hB.lt ix ox (by omega) ⟨by omega, by omega⟩ (fun l' hl' => ?_) fun C rC tC mC => ?_
    · have hp := List.pairwise_iff_getElem.1 hkeys
      obtain ⟨i, hi, rfl⟩ := List.mem_iff_getElem.1 hl'
      rw [List.length_take] at hi
      have := hp i k (by rw [List.length_map]; omega) (by rw [List.length_map]; exact hkl) (by omega)
      rw [List.getElem_map, List.getElem_map] at this
      rw [List.getElem_take]; exact this
    · have mCX : Mod (XC c mb) B C := mC.mono fun b _ u => u.elim .inl fun v => .inr (.inr (.inr (.inr (.inr v))))
      have ek : ((k : Int) + 1) = ((k + 1 : Nat) : Int) := by omega
      rw [ek] at rC
      have htk : lB.take k ++ [lB[k]] = lB.take (k + 1) := by rw [List.take_add_one, List.getElem?_eq_getElem hkl]; rfl
      rw [htk] at tC
      exact hnext hkl _ _ ⟨⟨s2, hB.own mC rC⟩, tC, pB.mod mCX pX, mA.trans (mBX.trans mCX)⟩
  · have hkl : k = lB.length := by
      have := congrArg List.length hl
      rw [List.length_drop, List.length_nil] at this
      omega
    subst hkl
    refine br_f rfl (br_t rfl ?_)
    have mBX : Mod (XC c mb) A B := mB.mono fun b _ u => .inr (.inr (.inr (.inl u)))
    have hB : JS c mb B true (some mb) lB.length row mt false sA lA true s' [] := hA.upd mBX (hA.jo.mod mB d3) (hA.a.keep mB (fun b u => .inr (.inr (.inr (.inl u)))) d5 d7) fB
    rw [List.take_length] at tA
    exact hK mb B s' hB (tA.mod mBX (mB.same mb (hA.lt _ (.inr (.inr (.inr (.inr (.inr rfl)))))) fun u => by have := hA.m.2.2.1; omega)) jm (by omega) (mA.trans mBX)
end
end Go.Proofs.YtfepjeihdcpoaaaGreat

/-
  A join of two lists: Next: the walk.
-/
namespace Go.Proofs.YtfepjeihdcpoaaaGreat
open Go.MapKept

section
variable {c : Cfg} {mb : Nat} {H : Heap}
set_option maxHeartbeats 4000000 in
/-- The first pair. -/
theorem next_pair {row : Sl} {sA sB : Sl} {lB : List (List Int)} {a0 a1 m : List Int} {K : (Sl × Bool × Int) → Heap → Prop} (h : JS c c.j H false none 0 row (Sl.mk none 0 0) false sA [a0, a1] false sB lB) (hn : lB.length ≤ 90) (hkeys : (lB.map keyN).Nodup)
    (ha0 : ∀ l ∈ lB, keyN l ≠ keyN a0) (hm : m ∈ lB) (hm1 : keyN m = keyN a1) (hm0 : m.getD 0 0 = a1.getD 0 0)
    (hK : ∀ mb B s row' mt' sA' sB', JS c mb B true (some mb) lB.length row' mt' false sA' [] true sB' [] → mt'.n = 0 → Ints .u64 B s (a1 ++ m) → (∀ a, s.a = some a → H.size ≤ a.block ∧ ¬ XC c mb a.block) → Mod (XC c mb) H B → H.size ≤ mb → K (s, true, 0) B) : hash_joiner_Next.sp (some ⟨c.j, 0, none⟩) H K := by
  refine hash_joiner_Next.of ?_
  unfold hash_joiner_Next.vc
  have hcols : a0.length = 2 ∧ a1.length = 2 := ⟨h.a.cols a0 List.mem_cons_self, h.a.cols a1 (List.mem_cons_of_mem _ List.mem_cons_self)⟩
  have hmc : m.length = 2 := h.b.cols m hm
  refine ⟨fun _ A => ∃ mb s', JS c mb A true (some mb) lB.length row (Sl.mk none 0 0) false sA [a0, a1] true s' [] ∧ TabAt (XC c mb) A mb lB ∧ c.j ≠ mb ∧ H.size ≤ mb ∧ Mod (XC c mb) H A, ?_, ?_⟩
  · simp only [optK_eq]
    refine RowT.ld (c := cBool) (i := 10) (x := false) h.jo rfl ?_
    refine br_t rfl ?_
    refine begin_ok h hn hkeys fun mb B s' hB tB jm hmb mB => ?_
    exact br_f rfl ⟨mb, s', hB, tB, jm, hmb, mB⟩
  rintro _ H1 ⟨mb, sB1, h1, t1, jm, hmb, m1⟩
  have tabMod : ∀ {A B : Heap} {Y : Nat → Prop}, TabAt (XC c mb) A mb lB → Mod Y A B → (∀ b, Y b → XC c mb b) → ¬ Y mb → mb < A.size → TabAt (XC c mb) B mb lB := fun t m hs hy hl => t.mod (m.mono fun b _ u => hs b u) (m.same mb hl hy)
  refine loop_upto 2 (fun k _ A => ∃ sA' row' mt', JS c mb A true (some mb) lB.length row' mt' false sA' ([a0, a1].drop k) true sB1 [] ∧ TabAt (XC c mb) A mb lB ∧ Mod (XC c mb) H A ∧
      (k < 2 → mt' = Sl.mk none 0 0) ∧ (k = 2 → Ints .u64 A row' a1 ∧ (∀ a, row'.a = some a → ¬ XC c mb a.block) ∧ RowsX (XC c mb) A mt' [m] ∧ mt'.n ≤ mt'.c)) ⟨sA, row, Sl.mk none 0 0, h1, t1, m1, fun _ => rfl, fun q => by omega⟩ ?_
  rintro k _ A next hk ⟨sA', row', mt', hA, tA, mA, q1, q2⟩ hnext
  have hltm : mb < A.size := hA.lt _ (.inr (.inr (.inr (.inr (.inr rfl)))))
  simp only [optK_eq]
  refine RowT.ld (c := cSl) (i := 21) (x := mt') hA.jo rfl ?_
  by_cases hk2 : k < 2
  · have hmt := q1 hk2
    subst hmt
    refine br_t rfl ?_
    refine lefts_ok hA (fun l r x B s2 hl hB mB ix ox => ?_) (fun hl _ _ _ => ?_)
    rotate_left
    · exfalso
      have := congrArg List.length hl
      rw [List.length_drop] at this
      simp at this; omega
    have hlr : l = [a0, a1].getD k [] ∧ r = [a0, a1].drop (k + 1) := by
      rw [List.drop_eq_getElem_cons (show k < [a0, a1].length by simpa using hk2)] at hl
      obtain ⟨e1, e2⟩ := List.cons.inj hl
      exact ⟨by rw [List.getD, List.getElem?_eq_getElem (show k < [a0, a1].length by simpa using hk2)]; exact e1.symm, e2.symm⟩
    have hl2 : l.length = 2 := hA.a.cols l (by rw [hl]; exact List.mem_cons_self)
    have tB := tabMod tA mB (fun b u => .inr (.inr (.inl u))) (fun u => by have := hA.m.2.1; omega) hltm
    have mHB : Mod (XC c mb) H B := mA.trans (mB.mono fun b _ u => .inr (.inr (.inl u)))
    refine br_f rfl ?_
    refine key_ok (i := 2) hB.jo rfl ix hB.ca (by omega) fun kk C oC eC => ?_
    have hC := hB.ext eC
    have hjl := obj_lt hB.jo
    refine RowT.st hC.jo (i := 20) (by simp [joV]) rfl fun D rD mD zD => ?_
    have hD : JS c mb D true (some mb) lB.length x (Sl.mk none 0 0) false s2 r true sB1 [] := hC.ownJ mD rD
    have zC := eC.size
    have kkD : Ints .u64 D kk [l.getD 0 0] := (oC.mod mD fun b hb u => by have := (oC.block b hb).1; omega).ints
    have tD : TabAt (XC c mb) D mb lB := tabMod (tabMod tB (Ext.mod eC (F := fun _ => False)) (fun _ u => u.elim) id (hB.lt _ (.inr (.inr (.inr (.inr (.inr rfl))))))) mD (fun b u => .inl u) (fun u => jm u.symm) (hC.lt _ (.inr (.inr (.inr (.inr (.inr rfl))))))
    have ixD : Ints .u64 D x l := (ix.ext eC).mod mD fun ad ha u => (ox ad ha).2 (.inl u)
    have mHD : Mod (XC c mb) H D := mHB.trans ((Ext.mod eC).trans (mD.mono fun b _ u => .inl u))
    refine ⟨fun E => D = E, rfl, ?_⟩
    refine RowT.ldC (c := cMap) (i := 16) (x := some mb) (cs := fun _ => joV c true (some mb) lB.length x (Sl.mk none 0 0)) (fun E hE => hE ▸ rD) (fun _ _ => rfl) ?_
    refine Sum_ok kkD (by simp) ⟨rfl, ?_⟩
    have hkey : sumW [l.getD 0 0] (-1) = keyN l := rfl
    rw [hkey]
    by_cases hk0 : k = 0
    · subst hk0
      obtain ⟨le, rfl⟩ := hlr
      have le : a0 = l := le.symm
      subst le
      refine ⟨Sl.mk none 0 0, tD.miss fun l' hl' => ha0 l' hl', ?_⟩
      refine loop_upto 0 (fun _ z E => z = 0 ∧ D = E) ⟨rfl, rfl⟩ ?_
      rintro i _ _ next1 hi ⟨rfl, rfl⟩ _
      refine br_f rfl ?_
      exact hnext (by omega) _ _ ⟨s2, x, _, hD, tD, mHD, fun _ => rfl, fun q => by omega⟩
    · have hk1 : k = 1 := by omega
      subst hk1
      obtain ⟨le, rfl⟩ := hlr
      have le : a1 = l := le.symm
      subst le
      obtain ⟨s3, g1, g2⟩ := tD.hit hm
      rw [hm1] at g1
      refine ⟨s3, g1, ?_⟩
      have g2n := g2.len
      have g2n : s3.n = 1 := g2n
      refine loop_upto 1 (fun i z E => z = (i : Int) ∧ (i = 0 → D = E) ∧ (i = 1 → ∃ mt2, JS c mb E true (some mb) lB.length x mt2 false s2 [] true sB1 [] ∧ TabAt (XC c mb) E mb lB ∧ Mod (XC c mb) D E ∧ RowsX (XC c mb) E mt2 [m] ∧ mt2.n ≤ mt2.c)) ⟨rfl, fun _ => rfl, fun q => by omega⟩ ?_
      rintro i _ E next1 hi ⟨rfl, i0, i1⟩ hnext1
      by_cases hi0 : i = 0
      · subst hi0
        have hE := i0 rfl
        subst hE
        refine br_t (by rw [g2n]; rfl) ?_
        obtain ⟨ad, y, y1, y2, y3, y4⟩ := g2.at' 0 (by simp)
        refine optK_mk ad y1 ⟨⟨Int.le_refl _, by rw [g2n]; decide⟩, y, by simpa using y2, ?_⟩
        have y4 : Ints .u64 D y m := y4
        refine key_ok (i := 5) rD rfl y4 hD.cb (by omega) fun k2 E1 oE eE => ?_
        refine slicesEqual_ok oE.ints (kkD.ext eE) (by simp) ?_
        have hdec : decide ([m.getD 0 0] = [a1.getD 0 0]) = true := by
          rw [hm0]; exact decide_eq_true rfl
        rw [hdec]
        refine br_t rfl ?_
        have hE1 := hD.ext eE
        have zE := eE.size
        refine RowT.ld (c := cSl) (i := 21) (x := Sl.mk none 0 0) hE1.jo rfl ?_
        refine elRow.push (ty := ty_sl_sl_uint64) (H := E1) (base := E1.size) (s := Sl.mk none 0 0) (xs := []) (v := y.v) (Owns.nil _ _ _ _) rfl (by decide) (by decide) (Nat.le_refl _) fun s4 E2 n4 o4 m4 b4 _ => ?_
        have eE2 : Ext E1 E2 := m4.ext fun b u => by obtain ⟨ad, ha, _⟩ := u; cases ha
        have hE2 := hE1.ext eE2
        refine RowT.st hE2.jo (i := 21) (by simp [joV]) rfl fun E3 r5 m5 z5 => ?_
        have hE3 : JS c mb E3 true (some mb) lB.length x s4 false s2 ([a0, a1].drop (1 + 1)) true sB1 [] := hE2.ownJ m5 r5
        have n4 : s4.n = 1 := n4
        have zE2 := eE2.size
        have hb4 := o4.block
        have mDE : Mod (XC c mb) D E3 := (Ext.mod eE).trans ((Ext.mod eE2).trans (m5.mono fun b _ u => .inl u))
        have rows4 : RowsX (XC c mb) E2 s4 [m] := by
          refine ⟨n4, fun ad ha => ?_, fun i hi => ?_⟩
          · have := hb4 _ ⟨ad, ha, rfl⟩
            exact ⟨this.2, fun u => by have := hE1.lt _ u; omega⟩
          · have hi0 : i = 0 := by simp at hi; omega
            subst hi0
            obtain ⟨ad, ha, hc⟩ := o4.reads.at (i := 0) (by simp)
            exact ⟨ad, y, ha, by simpa using hc, fun a q => ⟨by have := (y3 a q).1; omega, (y3 a q).2⟩, (y4.ext eE).ext eE2⟩
        have tE3 : TabAt (XC c mb) E3 mb lB := tD.mod mDE (by
          have hmD : mb < D.size := hD.lt _ (.inr (.inr (.inr (.inr (.inr rfl)))))
          rw [m5.same mb (by omega) (fun u => jm u.symm), eE2.same mb (by omega) id, eE.same mb hmD id])
        refine hnext1 (by omega) _ _ ⟨by rw [wrap64 (by decide) (by decide)]; rfl, fun q => by omega, fun _ => ⟨s4, hE3, tE3, mDE, rows4.mod (m5.mono fun b _ u => .inl u), o4.cap⟩⟩
      · have hi1 : i = 1 := by omega
        subst hi1
        obtain ⟨mt2, jE, tE, mDE, rE, cE⟩ := i1 rfl
        refine br_f (by rw [g2n]; rfl) ?_
        exact hnext (by omega) _ _ ⟨s2, x, mt2, jE, tE, mHD.trans mDE, fun q => by omega, fun _ => ⟨ixD.mod mDE fun ad ha => (ox ad ha).2, fun a ha => (ox a ha).2, rE, cE⟩⟩
  · have hke : k = 2 := by omega
    subst hke
    obtain ⟨i1, o1, r1, c1⟩ := q2 rfl
    have n1 : mt'.n = 1 := r1.len
    refine br_f (by rw [n1]; rfl) ?_
    refine RowT.ld (c := cSl) (i := 21) (x := mt') hA.jo rfl ?_
    obtain ⟨ad, y, y1, y2, y3, y4⟩ := r1.at' 0 (by simp)
    have y4 : Ints .u64 A y m := y4
    refine optK_mk ad y1 ⟨⟨Int.le_refl _, by rw [n1]; decide⟩, y, by simpa using y2, ?_⟩
    refine RowT.ld (c := cSl) (i := 21) (x := mt') hA.jo rfl ?_
    refine ⟨⟨by decide, by rw [n1]; decide⟩, ?_⟩
    refine RowT.st (v := Sl.v ⟨slA mt'.a mt'.c ((1 : Int).toNat) 1, mt'.n - ((1 : Int).toNat), mt'.c - ((1 : Int).toNat)⟩) hA.jo (i := 21) (by simp [joV]) rfl fun B rB mB zB => ?_
    have hB := hA.ownJ (row' := row') (mt' := ⟨slA mt'.a mt'.c ((1 : Int).toNat) 1, mt'.n - ((1 : Int).toNat), mt'.c - ((1 : Int).toNat)⟩) mB rB
    refine RowT.ld (c := cSl) (i := 20) (x := row') hB.jo rfl ?_
    have mBX : Mod (XC c mb) A B := mB.mono fun b _ u => .inl u
    refine hclone_ok (i1.mod mBX fun a ha => o1 a ha) (by omega) fun s C oC eC fC => ?_
    have hzA := mA.size
    have hzC := eC.size
    have hsn : s.n = 2 := by have := oC.1; simp at this; omega
    have y4n := y4.len
    refine elU64.append (base := 0) (s := s) (x := y) (xs := a1.map (Value.int .u64)) (ws := m.map (Value.int .u64)) oC (by simp; omega) ((y4.mod mBX fun a ha => (y3 a ha).2).ext eC).reads (intsOne _ _) (by omega) (by omega) (Nat.zero_le _) ?_
    intro s' D n2 o2 m2 b2 _
    have eD : Mod (XC c mb) B D := (Ext.mod eC).trans' m2 fun b hb u => by have := fC b u; omega
    have hD : JS c mb D true (some mb) lB.length row' ⟨slA mt'.a mt'.c ((1 : Int).toNat) 1, mt'.n - ((1 : Int).toNat), mt'.c - ((1 : Int).toNat)⟩ false sA' ([a0, a1].drop 2) true sB1 [] := by
      have e2 : Ext B D := (Ext.mod eC |>.trans m2).ext fun b u => fC b u
      exact hB.ext e2
    refine hK mb D s' row' _ sA' sB1 hD (by show mt'.n - 1 = 0; omega) ?_ (fun a ha => ?_) (mA.trans (mBX.trans eD)) hmb
    · rw [← List.map_append] at o2
      exact o2.ints
    · rcases b2 _ ⟨a, ha, rfl⟩ with v | v
      · have := fC _ v
        exact ⟨by have := mBX.size; omega, fun u => by have := hB.lt _ u; omega⟩
      · exact ⟨by have := mBX.size; omega, fun u => by have := hB.lt _ u; omega⟩

/-- No pair is left. -/
theorem next_none {row mt : Sl} {sA sB : Sl} {eB : Bool} {held : Int} {lB : List (List Int)} {K : (Sl × Bool × Int) → Heap → Prop} (h : JS c mb H true (some mb) held row mt false sA [] eB sB lB) (hmt : mt.n = 0)
    (hK : ∀ B, JS c mb B true (some mb) held row mt true sA [] eB sB lB → Mod (fun b => b = c.sa) H B → K (Sl.mk none 0 0, false, 0) B) : hash_joiner_Next.sp (some ⟨c.j, 0, none⟩) H K := by
  refine hash_joiner_Next.of ?_
  unfold hash_joiner_Next.vc
  refine ⟨fun _ A => H = A, ?_, ?_⟩
  · simp only [optK_eq]
    refine RowT.ld (c := cBool) (i := 10) (x := true) h.jo rfl ?_
    exact br_f rfl (by first | rfl | trivial)
  rintro _ _ rfl
  refine loop_upto 0 (fun _ _ A => H = A) rfl ?_
  rintro i _ _ next hi rfl _
  simp only [optK_eq]
  refine RowT.ld (c := cSl) (i := 21) (x := mt) h.jo rfl ?_
  refine br_t (by rw [hmt]; rfl) ?_
  refine lefts_ok h (fun l r x B s hl => by cases hl) (fun _ B hB mB => ?_)
  exact br_t rfl (hK B hB mB)
end
end Go.Proofs.YtfepjeihdcpoaaaGreat

/-
  Joins of two lists: made; a pair (works): the walk.
-/
namespace Go.Proofs.YtfepjeihdcpoaaaGreat
open Go.MapKept

theorem RowsX.of {X : Nat → Prop} {H : Heap} {base : Nat} {s : Sl} {rs : List Sl} {ls : List (List Int)} (h : RowsOwn H base s rs ls) (hX : ∀ b, (ownB s b ∨ ∃ r ∈ rs, ownB r b) → ¬ X b) : RowsX X H s ls := by
  obtain ⟨b1, b2⟩ := h.block
  refine ⟨h.n, fun ad ha => ?_, fun i hi => ?_⟩
  · exact ⟨(b1 _ ⟨ad, ha, rfl⟩).2, hX _ (.inl ⟨ad, ha, rfl⟩)⟩
  · have hir : i < rs.length := by rw [h.len]; exact hi
    obtain ⟨ad, ha, hc⟩ := h.out.reads.at (i := i) (by simpa using hir)
    refine ⟨ad, rs[i], ha, by simpa using hc, fun a q => ?_, (h.row i _ _ (List.getElem?_eq_getElem hir) (List.getElem?_eq_getElem hi)).ints⟩
    exact ⟨(b2 _ (List.getElem_mem hir) _ ⟨a, q, rfl⟩).2, hX _ (.inr ⟨_, List.getElem_mem hir, ⟨a, q, rfl⟩⟩)⟩

def feedV (j : Nat) : Value := .iface ty_ptr_hash_joiner (.pointer (some ⟨j, 0, none⟩))
def nextF (j : Nat) : Value := .func (.method "Next") #[feedV j] #[]
theorem Over_ok {w : Int} {j : Nat} {H : Heap} {K : Option Addr → Heap → Prop} (hK : ∀ A, RowT A H.size ty_join_Source (srcV w (nextF j) 0 (feedV j) false false) → Ext H A → A.size = H.size + 1 → K (some ⟨H.size, 0, none⟩) A) : join_Over.sp w (feedV j) H K := by
  refine join_Over.of ?_
  unfold join_Over.vc
  simp only [feedV, ifNil, nilChk]
  refine br_f rfl ?_
  show join_made.sp w (Sl.mk none 0 0) (0 : Int) (.method "Next") #[feedV j] #[] H _
  refine made_ok fun A rA eA zA => ?_
  simp only [optK_eq]
  refine RowT.st rA (i := 4) (by simp [srcV]) rfl fun B rB mB zB => ?_
  exact hK B rB ((Ext.mod eA |>.trans mB).ext fun b u => by omega) (by omega)
theorem zc_side : (zc Tryz.prog ty_hash_side).size = 3 := by kernel_rfl
theorem size_side : sizeB Tryz.prog ty_hash_side 3 = true := by kernel_rfl

set_option maxRecDepth 100000 in
theorem none_ok {l : Sl} {H : Heap} {K : Bool → Heap → Prop} (h : Ints .i64 H l [0]) (hK : ∀ A, Ext H A → K false A) : hash_none.sp l 2 H K := by
  refine hash_none.of ?_
  unfold hash_none.vc
  refine newC_rowT fun H1 z1 r1 e1 => ?_
  refine slices_ContainsFunc_sl_int_int.of ?_
  unfold slices_ContainsFunc_sl_int_int.vc
  refine slices_IndexFunc_sl_int_int.of ?_
  unfold slices_IndexFunc_sl_int_int.vc
  have h1 := h.ext e1
  have hn : l.n = 1 := h.len
  refine loop_upto 1 (fun i z A => z = (i : Int) ∧ H1 = A) ⟨rfl, rfl⟩ ?_
  rintro i _ _ next hi ⟨rfl, rfl⟩ hnext
  refine br_mk (fun hc => ?_) (fun _ => ?_)
  · have hi0 : i = 0 := by
      have : (i : Int) < (l.n : Int) := by simpa using hc
      omega
    subst hi0
    refine ints_get h1 (i := ((0 : Nat) : Int)) (j := 0) rfl (by decide) fun ad _ => ?_
    refine callB_fn #[.int .i64 0, .pointer (some ⟨H.size, 0, none⟩)] rfl (by kernel_rfl) ?_
    refine hash_none_c1.of (c := 0) ?_
    unfold hash_none_c1.vc
    refine br_f rfl ?_
    refine ⟨(2 : Int), r1.cell (i := 0) rfl, ?_⟩
    refine br_f rfl ?_
    exact hnext (by decide) _ _ ⟨by rw [wrap64 (by decide) (by decide)]; rfl, rfl⟩
  · exact hK H1 e1
end Go.Proofs.YtfepjeihdcpoaaaGreat

/-
  Joins of two lists: made out of sources and columns; works; HashSums, HashNone: the walk.
-/
namespace Go.Proofs.YtfepjeihdcpoaaaGreat
open Go.MapKept

/-- A list's source as it was made, from block n on. -/
structure SrcB (H : Heap) (n sb : Nat) (w : Int) (s : Sl) (rs : List Sl) (ls : List (List Int)) : Prop where
  row : RowT H sb ty_join_Source (srcV w (fromF (n + 1) n) 0 .nilIface false false)
  cell : RowT H (n + 1) ty_sl_sl_uint64 #[s.v]
  wid : RowT H n ty_int #[.int .i64 w]
  own : RowsOwn H (n + 2) s rs ls
  low : ∀ b, (ownB s b ∨ ∃ r ∈ rs, ownB r b) → b < sb
  lo : n + 2 ≤ sb
  hi : sb < H.size
theorem SrcB.ext {H A : Heap} {n sb : Nat} {w : Int} {s : Sl} {rs : List Sl} {ls : List (List Int)} (h : SrcB H n sb w s rs ls) (e : Ext H A) : SrcB A n sb w s rs ls :=
  ⟨h.row.ext e, h.cell.ext e, h.wid.ext e, h.own.ext e, h.low, h.lo, by have := e.size; have := h.hi; omega⟩
theorem SrcB.from {H : Heap} {n sb : Nat} {W : Nat} {s : Sl} {rs : List Sl} {ls : List (List Int)} {X : Nat → Prop} (h : SrcB H n sb W s rs ls) (hc : ∀ l ∈ ls, l.length = W) (h1 : X sb ∧ X (n + 1)) (h2 : ∀ b, n ≤ b → b < sb → X b → b = n + 1) : FromB X H sb (n + 1) n W false s ls := by
  have lo := h.lo
  refine ⟨h.row, h.cell, h.wid, RowsX.of h.own fun b hb u => ?_, h.own.out.cap, hc, ⟨h1.1, h1.2, fun u => by have := h2 n (Nat.le_refl _) (by omega) u; omega⟩, by omega⟩
  have hlow := h.low b hb
  have hb2 : n + 2 ≤ b := by
    rcases hb with v | ⟨r, hr, v⟩
    · exact (h.own.block.1 b v).1
    · exact (h.own.block.2 r hr b v).1
  have := h2 b (by omega) hlow u
  omega

set_option maxRecDepth 100000 in
set_option maxHeartbeats 4000000 in
theorem Join_ok {pb na sa nb sb : Nat} {pcs : Array Value} {acols bcols sA sB : Sl} {rsA rsB : List Sl} {lA lB : List (List Int)} {H : Heap} {K : (Option Addr × Int) → Heap → Prop}
    (hp : RowT H pb ty_pool_Pool pcs) (hp1 : pcs[1]? = some (.int .i64 8)) (ha : SrcB H na sa 2 sA rsA lA) (hb : SrcB H nb sb 2 sB rsB lB) (hab : sa < nb) (hca : ∀ l ∈ lA, l.length = 2) (hcb : ∀ l ∈ lB, l.length = 2) (hac : Ints .i64 H acols [0]) (hbc : Ints .i64 H bcols [0])
    (hK : ∀ (c : Cfg) so A, RowT A so ty_join_Source (srcV 4 (nextF c.j) 0 (feedV c.j) false false) → JS c c.j A false none 0 (Sl.mk none 0 0) (Sl.mk none 0 0) false sA lA false sB lB → ¬ XC c c.j so → so < A.size → Ext H A → (∀ b, XC c c.j b → na ≤ b) → na ≤ so → K (some ⟨so, 0, none⟩, 0) A) :
    hash_Join.sp (some ⟨pb, 0, none⟩) hNm (some ⟨sa, 0, none⟩) (some ⟨sb, 0, none⟩) acols bcols 3 H K := by
  refine hash_Join.of ?_
  unfold hash_Join.vc
  have an : acols.n = 1 := hac.len
  have bn : bcols.n = 1 := hbc.len
  have r2 : roomL 2 = 31 := by decide
  refine ⟨fun _ A => Ext H A, ?_, ?_⟩
  · refine ⟨fun b A => b = false ∧ H = A, br_f rfl (br_f rfl ⟨rfl, rfl⟩), ?_⟩
    rintro _ _ ⟨rfl, rfl⟩
    refine br_f rfl ?_
    refine ⟨fun b A => b = false ∧ H = A, ?_, ?_⟩
    · refine width_ok ha.row (rowRoom_ok ?_)
      rw [r2]
      refine br_f rfl ?_
      refine width_ok hb.row (rowRoom_ok ?_)
      rw [r2]
      exact ⟨rfl, rfl⟩
    rintro _ _ ⟨rfl, rfl⟩
    refine br_f rfl ?_
    refine ⟨fun b A => b = false ∧ Ext H A, ?_, ?_⟩
    · refine br_f (by rw [an, bn]; rfl) ?_
      refine width_ok ha.row ?_
      refine none_ok hac fun A1 e1 => ?_
      refine br_f rfl ?_
      refine width_ok (hb.row.ext e1) ?_
      exact none_ok (hbc.ext e1) fun A2 e2 => ⟨rfl, e1.trans e2⟩
    rintro _ A ⟨rfl, eA⟩
    refine br_f rfl ?_
    refine ⟨fun b B => b = false ∧ Ext H B, ?_, ?_⟩
    · refine br_f rfl ?_
      refine pool_Pool_Frames.of ?_
      unfold pool_Pool_Frames.vc
      refine br_f rfl ?_
      simp only [optK_eq]
      refine RowT.ld (c := cInt .i64) (i := 1) (x := 8) (hp.ext eA) hp1 ?_
      exact ⟨rfl, eA⟩
    rintro _ B ⟨rfl, eB⟩
    exact br_f rfl eB
  rintro _ H1 e1
  have z1 := e1.size
  refine hcloneI_ok (hac.ext e1) (by simp) fun ca H2 oA e2 fA => ?_
  have e12 := e1.trans e2
  refine width_ok (ha.row.ext e12) ?_
  refine newC_rowT fun H3 z3 r3 e3 => ?_
  refine RowT.stAll r3 size_side zc_side (by intro v hv; simp at hv; rcases hv with rfl | rfl | rfl <;> rfl) fun H4 r4 m4 z4 => ?_
  have e24 : Ext H2 H4 := (Ext.mod e3 |>.trans m4).ext fun b u => by omega
  have e14 := e12.trans e24
  refine hcloneI_ok (hbc.ext e14) (by simp) fun cb H5 oB e5 fB => ?_
  have e15 := e14.trans e5
  refine width_ok (hb.row.ext e15) ?_
  refine newC_rowT fun H6 z6 r6 e6 => ?_
  refine RowT.stAll r6 size_side zc_side (by intro v hv; simp at hv; rcases hv with rfl | rfl | rfl <;> rfl) fun H7 r7 m7 z7 => ?_
  have z2 := e2.size
  have z5 := e5.size
  have e57 : Ext H5 H7 := (Ext.mod e6 |>.trans m7).ext fun b u => by omega
  have r47 : RowT H7 H2.size ty_hash_side _ := (r4.ext e5).ext e57
  refine RowT.ld (c := cInt .i64) (i := 2) (x := 2) r47 rfl ?_
  refine RowT.ld (c := cInt .i64) (i := 2) (x := 2) r7 rfl ?_
  refine RowT.ldA (c := cAgg [cPtr, cSl, (cInt .i64)]) (n := 3) (x := (some ⟨sa, 0, none⟩, ca, 2)) r47 rfl rfl ?_
  refine RowT.ldA (c := cAgg [cPtr, cSl, (cInt .i64)]) (n := 3) (x := (some ⟨sb, 0, none⟩, cb, 2)) r7 rfl rfl ?_
  refine newC_rowT fun H8 z8 r8 e8 => ?_
  refine Over_ok (j := H7.size) fun H9 r9 e9 z9 => ?_
  have e17 := (e15.trans e57)
  have e79 := e8.trans e9
  have eAll := e17.trans e79
  have haA := ha.ext eAll
  have hbA := hb.ext eAll
  have a1 := ha.lo
  have a2 := ha.hi
  have b1 := hb.lo
  have b2 := hb.hi
  obtain ⟨c, hc⟩ : ∃ c : Cfg, c = ⟨pb, sa, na + 1, na, sb, nb + 1, nb, H7.size, ca, cb⟩ := ⟨_, rfl⟩
  have cj : c.j = H7.size := by rw [hc]
  have csa : c.sa = sa := by rw [hc]
  have cla : c.la = na + 1 := by rw [hc]
  have csb : c.sb = sb := by rw [hc]
  have clb : c.lb = nb + 1 := by rw [hc]
  have xc : ∀ b, XC c c.j b ↔ b = H7.size ∨ b = sa ∨ b = na + 1 ∨ b = sb ∨ b = nb + 1 := fun b => by
    unfold XC
    rw [cj, csa, cla, csb, clb]
    omega
  have jr : RowT H9 c.j ty_hash_joiner (joV c false none 0 (Sl.mk none 0 0) (Sl.mk none 0 0)) := by
    rw [cj]
    have := r8.ext e9
    rw [hc]
    exact this
  have r9' : RowT H9 H8.size ty_join_Source (srcV 4 (nextF c.j) 0 (feedV c.j) false false) := by rw [cj]; exact r9
  have caI : Ints .i64 H9 ca [0] := ((((oA.ext e24).ext e5).ext e57).ext e79).ints
  have cbI : Ints .i64 H9 cb [0] := ((oB.ext e57).ext e79).ints
  have z57 := e57.size
  have js : JS c c.j H9 false none 0 (Sl.mk none 0 0) (Sl.mk none 0 0) false sA lA false sB lB := by
    refine ⟨jr, ?_, ?_, by rw [hc]; exact caI, fun a q => ?_, by rw [hc]; exact cbI, fun a q => ?_, ?_, ?_, fun b u => ?_⟩
    · have := haA.from (X := XC c c.j) hca ⟨(xc _).2 (.inr (.inl rfl)), (xc _).2 (.inr (.inr (.inl rfl)))⟩ fun b h1 h2 u => by
        have := (xc b).1 u
        omega
      rw [hc] at this ⊢; exact this
    · have := hbA.from (X := XC c c.j) hcb ⟨(xc _).2 (.inr (.inr (.inr (.inl rfl)))), (xc _).2 (.inr (.inr (.inr (.inr rfl))))⟩ fun b h1 h2 u => by
        have := (xc b).1 u
        omega
      rw [hc] at this ⊢; exact this
    · rw [xc]
      have h1 := fA a.block ⟨a, by rw [hc] at q; exact q, rfl⟩
      have h2 := (oA.block a.block ⟨a, by rw [hc] at q; exact q, rfl⟩).2
      omega
    · rw [xc]
      have h1 := fB a.block ⟨a, by rw [hc] at q; exact q, rfl⟩
      have h2 := (oB.block a.block ⟨a, by rw [hc] at q; exact q, rfl⟩).2
      omega
    · rw [cj, csa, cla, csb, clb]; omega
    · rw [cj, csa, cla, csb, clb]; omega
    · have := (xc b).1 u; omega
  exact hK c H8.size H9 r9' js (fun u => by have := (xc _).1 u; omega) (by omega) eAll (fun b u => by have := (xc b).1 u; omega) (by omega)
end Go.Proofs.YtfepjeihdcpoaaaGreat

/-
  Joins of two lists: a pair (works); HashSums, HashNone: the walk.
-/
namespace Go.Proofs.YtfepjeihdcpoaaaGreat
open Go.MapKept

section
variable {H : Heap}
theorem hdisk_ok {q : Int} {K : Option Addr → Heap → Prop} (hK : ∀ k A, Ext H A → K (some ⟨k, 0, none⟩) A) : disk_New.sp q H K := by
  refine disk_New.of ?_
  unfold disk_New.vc
  refine newM_map (d := .string) fun H1 z1 m1 e1 => ?_
  exact newC_rowT fun H2 z2 r2 e2 => hK _ H2 (e1.trans e2)
theorem hpool_ok {d : Nat} {K : (Option Addr × Int) → Heap → Prop} (hK : ∀ k A pcs, RowT A k ty_pool_Pool pcs → pcs[1]? = some (.int .i64 8) → Ext H A → K (some ⟨k, 0, none⟩, 0) A) : pool_New.sp (some ⟨d, 0, none⟩) 8 H K := by
  refine pool_New.of ?_
  unfold pool_New.vc
  refine br_f rfl (br_f rfl (br_f rfl ?_))
  refine newM_map (d := .string) fun H1 z1 m1 e1 => ?_
  refine newM_map (d := .string) fun H2 z2 m2 e2 => ?_
  exact newC_rowT fun H3 z3 r3 e3 => hK _ H3 _ r3 rfl ((e1.trans e2).trans e3)
theorem two_words {k : Nat} {x y : Int} (r : RowT H k ty_uint64 #[.int .u64 x, .int .u64 y]) : Ints .u64 H ⟨some ⟨k, 0, none⟩, 2, 2⟩ [x, y] := by
  refine ⟨rfl, fun i u hu => ⟨_, rfl, ?_⟩⟩
  have hi : i = 0 ∨ i = 1 := by have := (List.getElem?_eq_some_iff.1 hu).1; simp at this; omega
  rcases hi with rfl | rfl
  · simp at hu; subst hu
    rw [add_lit0]; exact r.cell rfl
  · simp at hu; subst hu
    rw [add_lit0]; exact r.cell rfl
theorem two_rows {k a b : Nat} {l m : List Int} (r : RowT H k ty_sl_uint64 #[.slice (some ⟨a, 0, none⟩) 2 2, .slice (some ⟨b, 0, none⟩) 2 2]) (hl : Ints .u64 H ⟨some ⟨a, 0, none⟩, 2, 2⟩ l) (hm : Ints .u64 H ⟨some ⟨b, 0, none⟩, 2, 2⟩ m) : Rows H ⟨some ⟨k, 0, none⟩, 2, 2⟩ [l, m] := by
  refine ⟨rfl, fun i hi => ?_⟩
  have hi : i = 0 ∨ i = 1 := by simp at hi; omega
  rcases hi with rfl | rfl
  · exact ⟨_, ⟨some ⟨a, 0, none⟩, 2, 2⟩, rfl, by rw [add_lit0]; exact r.cell rfl, hl⟩
  · exact ⟨_, ⟨some ⟨b, 0, none⟩, 2, 2⟩, rfl, by rw [add_lit0]; exact r.cell rfl, hm⟩
theorem one_int {k : Nat} {x : Int} (r : RowT H k ty_int #[.int .i64 x]) : Ints .i64 H ⟨some ⟨k, 0, none⟩, 1, 1⟩ [x] := by
  refine ⟨rfl, fun i u hu => ⟨_, rfl, ?_⟩⟩
  have hi : i = 0 := by have := (List.getElem?_eq_some_iff.1 hu).1; simp at this; omega
  subst hi
  simp at hu; subst hu
  rw [add_lit0]; exact r.cell rfl
theorem four_words {k : Nat} {x y z w : Int} (r : RowT H k ty_uint64 #[.int .u64 x, .int .u64 y, .int .u64 z, .int .u64 w]) : Ints .u64 H ⟨some ⟨k, 0, none⟩, 4, 4⟩ [x, y, z, w] := by
  refine ⟨rfl, fun i u hu => ⟨_, rfl, ?_⟩⟩
  have hi : i = 0 ∨ i = 1 ∨ i = 2 ∨ i = 3 := by have := (List.getElem?_eq_some_iff.1 hu).1; simp at this; omega
  rcases hi with rfl | rfl | rfl | rfl <;>
  · simp at hu; subst hu
    rw [add_lit0]; exact r.cell rfl
/-- A source of two rows of two words. -/
theorem from_two {x y z w : Int} {K : Option Addr → Heap → Prop} (hK : ∀ n sb s rs A, SrcB A n sb 2 s rs [[x, y], [z, w]] → Ext H A → H.size ≤ n → K (some ⟨sb, 0, none⟩) A) :
    newC H #[(.int .u64 x), (.int .u64 y)] ty_uint64 fun p H3 => newC H3 #[(.int .u64 z), (.int .u64 w)] ty_uint64 fun p_1 H4 => newC H4 #[(.slice (some p) 2 2), (.slice (some p_1) 2 2)] ty_sl_uint64 fun p_2 H5 => join_From.sp (Sl.mk (some p_2) 2 2) (2 : Int) H5 K := by
  refine newC_rowT fun H1 z1 r1 e1 => ?_
  refine newC_rowT fun H2 z2 r2 e2 => ?_
  refine newC_rowT fun H3 z3 r3 e3 => ?_
  have rows := two_rows r3 ((two_words r1).ext (e2.trans e3)) ((two_words r2).ext e3)
  have e13 := (e1.trans e2).trans e3
  refine From_ok rows (by simp) (fun l hl => by simp at hl; rcases hl with rfl | rfl <;> simp) fun sb lb wb s rs A row cell wid own low eA hw hl lo hi => ?_
  subst hw; subst hl
  rw [if_neg (by decide)] at row
  exact hK H3.size sb s rs A ⟨row, cell, wid, own, low, lo, hi⟩ (e13.trans eA) (by omega)

theorem meth_next : methOf Tryz.prog ty_ptr_hash_joiner "Next" = some hash_joiner_Next.no := by kernel_rfl
theorem call_next : callable Tryz.prog hash_joiner_Next.no = true := by kernel_rfl

set_option maxHeartbeats 2000000 in
set_option maxRecDepth 100000 in
theorem hworks_ok {K : Bool → Heap → Prop} (hK : ∀ B, Ext H B → K true B) : fathomlaw12_works.sp H K := by
  refine fathomlaw12_works.of ?_
  unfold fathomlaw12_works.vc
  refine hdisk_ok fun d H1 e1 => ?_
  refine hpool_ok fun pb H2 pcs rp hp1 e2 => ?_
  refine from_two fun na sa sA rsA H6 srcA e6 hna => ?_
  refine from_two fun nb sb sB rsB H10 srcB e10 hnb => ?_
  refine newC_rowT fun H11 z11 r11 e11 => ?_
  refine newC_rowT fun H12 z12 r12 e12 => ?_
  have e1012 := e11.trans e12
  have e612 := e10.trans e1012
  have ahi := srcA.hi
  refine Join_ok (rp.ext (e6.trans e612)) hp1 (srcA.ext e612) (srcB.ext e1012) (by omega) (fun l hl => by simp at hl; rcases hl with rfl | rfl <;> rfl) (fun l hl => by simp at hl; rcases hl with rfl | rfl <;> rfl) ((one_int r11).ext e12) (one_int r12) fun c so A rso js hso hsl eA hna2 hso2 => ?_
  have e0A : Ext H A := (((e1.trans e2).trans e6).trans e612).trans eA
  have z0 := (e1.trans e2).size
  refine br_f rfl (br_f rfl ?_)
  -- the first pair
  refine next_src rso (callV_meth meth_next call_next ?_)
  refine next_pair (m := [2, 8]) js (by decide) (by decide +kernel) (by decide +kernel) (by simp) rfl rfl fun mb B s row' mt' sA' sB' hB hmt is hs mB hmb => ?_
  have zB := mB.size
  have xcj : ∀ b, XC c mb b → XC c c.j b ∨ b = mb := fun b u => by
    unfold XC at u ⊢
    omega
  have soX : ¬ XC c mb so := fun u => by
    rcases xcj so u with v | v
    · exact hso v
    · omega
  have rsoB : RowT B so ty_join_Source (srcV 4 (nextF c.j) 0 (feedV c.j) false false) := rso.mod mB soX
  refine ⟨rsoB, fun u => by rcases u with u | u <;> simp at u, fun _ _ => ?_⟩
  -- no more
  refine next_src rsoB (callV_meth meth_next call_next ?_)
  refine next_none hB hmt fun C hC mC => ?_
  have hsaX : XC c mb c.sa := .inr (.inl rfl)
  have rsoC : RowT C so ty_join_Source (srcV 4 (nextF c.j) 0 (feedV c.j) false false) := rsoB.mod mC fun u => soX (u ▸ hsaX)
  refine ⟨rsoC, fun _ D rD mD zD => ?_, fun _ u => by cases u⟩
  refine br_t rfl ?_
  refine width_ok rD ?_
  refine br_t rfl ?_
  refine newC_rowT fun E zE rE eE => ?_
  have zC := mC.size
  have isE : Ints .u64 E s [2, 6, 2, 8] := ((is.mod mC fun a ha u => (hs a ha).2 (u ▸ hsaX)).mod mD fun a ha u => by have := (hs a ha).1; omega).ext eE
  refine SameRow_ok isE (four_words rE) (by decide) ?_
  refine br_t (by decide) ?_
  refine Sum_ok (ll := []) ⟨rfl, fun i v hv => by simp at hv⟩ (by simp) ?_
  have hs0 : (sumW [] 0 == (14695981039346656037 : Int)) = true := by decide +kernel
  rw [hs0]
  refine hK E ⟨?_, fun b hb _ => ?_⟩
  · have := e0A.size; have := eE.size; omega
  · have hz := e0A.size
    have nb : ∀ x, XC c mb x → H.size ≤ x := fun x u => by
      rcases xcj x u with v | v
      · have := hna2 x v; omega
      · omega
    rw [eE.same b (by omega) id, mD.same b (by omega) fun u => by omega, mC.same b (by omega) fun u => by have := nb _ hsaX; omega, mB.same b (by omega) fun u => by have := nb _ u; omega]
    exact e0A.same b hb id

theorem from_none {w : Int} {K : Option Addr → Heap → Prop} (hK : ∀ k A, Ext H A → K (some ⟨k, 0, none⟩) A) : join_From.sp (Sl.mk none 0 0) w H K := by
  refine From_ok (ls := []) ⟨rfl, fun i hi => by simp at hi⟩ (by simp) (by simp) fun sb lb wb s rs A _ _ _ _ _ eA _ _ _ _ => ?_
  exact hK sb A eA
theorem join_none {p a b : Option Addr} {ac bc : Sl} {fr : Int} {K : (Option Addr × Int) → Heap → Prop} (hn : p.isNone = true ∨ a.isNone = true ∨ b.isNone = true) (hK : K (none, 1) H) : hash_Join.sp p hNm a b ac bc fr H K := by
  refine hash_Join.of ?_
  unfold hash_Join.vc
  refine ⟨fun _ _ => False, ?_, fun _ _ h => h.elim⟩
  refine ⟨fun b A => b = true ∧ H = A, ?_, ?_⟩
  · refine br_mk (fun h => ⟨h, rfl⟩) (fun h => ?_)
    refine br_mk (fun h2 => ⟨h2, rfl⟩) (fun h2 => ⟨?_, rfl⟩)
    rcases hn with q | q | q
    · rw [q] at h; cases h
    · rw [q] at h2; cases h2
    · exact q
  · rintro _ _ ⟨rfl, rfl⟩
    exact br_t rfl hK
theorem HashNone_ok {width frames : Int} {cols : Sl} {K : Bool → Heap → Prop} (hK : ∀ B, Ext H B → K true B) : fathomlaw12_HashNone.sp width frames cols H K := by
  refine fathomlaw12_HashNone.of ?_
  unfold fathomlaw12_HashNone.vc
  refine hdisk_ok fun d H1 e1 => ?_
  refine hpool_ok fun pb H2 pcs rp hp1 e2 => ?_
  refine from_none fun k3 H3 e3 => ?_
  refine from_none fun k4 H4 e4 => ?_
  refine join_none (.inl rfl) ?_
  refine from_none fun k6 H6 e6 => ?_
  refine join_none (.inr (.inl rfl)) ?_
  refine from_none fun k8 H8 e8 => ?_
  refine join_none (.inr (.inr rfl)) ?_
  refine br_t rfl (br_t rfl (br_t rfl ?_))
  exact hworks_ok fun B eB => hK B ((((((e1.trans e2).trans e3).trans e4).trans e6).trans e8).trans eB)
end
end Go.Proofs.YtfepjeihdcpoaaaGreat
