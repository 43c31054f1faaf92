/-
 Ground, eleventh text: rows with their type, slices of elements of several cells, stores of aggregates; what stays is told by single blocks.
-/
import Derived.Test.YtkehfflpbpdokaaGreatFxj
import Derived.Test.YtkehfflpbpdokaaGreatFxi
namespace Go.Proofs.YtkehfflpbpdokaaGreat
theorem obj_lt {H : Heap} {b : Nat} {o : Obj} (h : H[b]? = some o) : b < H.size := (Array.getElem?_eq_some_iff.1 h).1
theorem Mod.at {F : Nat → Prop} {H H' : Heap} (hm : Mod F H H') {b : Nat} {o : Obj} (h : H[b]? = some o) (hn : ¬ F b) : H'[b]? = some o := (hm.same b (obj_lt h) hn).trans h
theorem add_lit0 (b n : Nat) : (⟨b, 0, none⟩ : Addr).add n = ⟨b, n, none⟩ := by rw [add_lit, Nat.zero_add]
abbrev RowT (H : Heap) (b : Nat) (t : TypeId) (cs : Array Value) : Prop := H[b]? = some (.cells cs t (0, 0))
theorem RowT.mod {F : Nat → Prop} {H H' : Heap} {b : Nat} {t : TypeId} {cs : Array Value} (h : RowT H b t cs) (hm : Mod F H H') (hn : ¬ F b) : RowT H' b t cs := hm.at h hn
theorem RowT.ext {H H' : Heap} {b : Nat} {t : TypeId} {cs : Array Value} (h : RowT H b t cs) (hm : Mod (fun _ => False) H H') : RowT H' b t cs := hm.at h id
theorem RowT.cell {H : Heap} {b : Nat} {t : TypeId} {cs : Array Value} (h : RowT H b t cs) {i : Nat} {v : Value} (hi : cs[i]? = some v) : hCell H ⟨b, i, none⟩ = some v := hCell_of h hi
theorem RowT.ld {c : Cod} {H : Heap} {b : Nat} {t : TypeId} {cs : Array Value} (h : RowT H b t cs) {i : Nat} {x : c.α} (hi : cs[i]? = some (c.enc x)) {K : c.α → Prop} (hK : K x) : Go.Proofs.YtkehfflpbpdokaaGreat.ld c H (Addr.add ⟨b, 0, none⟩ i) K :=
 ⟨x, by rw [add_lit0]; exact h.cell hi, hK⟩
theorem RowT.ldC {c : Cod} {G : Heap → Prop} {b : Nat} {t : TypeId} {cs : Heap → Array Value} (h : ∀ H, G H → RowT H b t (cs H)) {i : Nat} {x : c.α} (hi : ∀ H, G H → (cs H)[i]? = some (c.enc x)) {K : c.α → Prop} (hK : K x) : Go.Proofs.YtkehfflpbpdokaaGreat.ldC c G (Addr.add ⟨b, 0, none⟩ i) K :=
 ⟨x, fun H' hg => by rw [add_lit0]; exact (h H' hg).cell (hi H' hg), hK⟩
theorem RowT.hRow {H : Heap} {b : Nat} {t : TypeId} {cs : Array Value} (h : RowT H b t cs) {o n : Nat} {ds : Array Value} (hn : ds.size = n) (hd : ∀ i, i < n → cs[o + i]? = ds[i]?) : Go.Proofs.YtkehfflpbpdokaaGreat.hRow H ⟨b, o, none⟩ n (.agg ds) := by
 refine ⟨ds, rfl, hn, fun i hi => ?_⟩
 have h1 := hd i hi
 rw [add_lit]
 rw [← h1]
 have : ds[i]? = some ds[i] := Array.getElem?_eq_getElem (by omega)
 rw [h1, this]
 exact h.cell (h1.trans this)
theorem RowT.ldA {c : Cod} {H : Heap} {b : Nat} {t : TypeId} {cs : Array Value} (h : RowT H b t cs) {n : Nat} {x : c.α} (hx : c.enc x = .agg cs) (hn : cs.size = n) {K : c.α → Prop} (hK : K x) : Go.Proofs.YtkehfflpbpdokaaGreat.ldA c n H ⟨b, 0, none⟩ K :=
 ⟨x, by rw [hx]; exact h.hRow hn (fun i _ => by rw [Nat.zero_add]), hK⟩
theorem RowT.st {H : Heap} {b : Nat} {t : TypeId} {cs : Array Value} {v : Value} {K : Heap → Prop} (h : RowT H b t cs) {i : Nat} (hi : i < cs.size) (hp : plainV v = true)
  (hK : ∀ H', RowT H' b t (cs.setIfInBounds i v) → Mod (fun x => x = b) H H' → H'.size = H.size → K H') : Go.Proofs.YtkehfflpbpdokaaGreat.st H (Addr.add ⟨b, 0, none⟩ i) v K := by
 rw [add_lit0]
 exact ⟨hp, ⟨_, h.cell (Array.getElem?_eq_getElem hi)⟩, hFrozen_of h, hK _ (hSet_at (a := ⟨b, i, none⟩) h rfl) (Mod.set rfl) (hSet_size _ _ _)⟩
theorem newC_rowT {H : Heap} {cs : Array Value} {t : TypeId} {K : Addr → Heap → Prop} (hK : ∀ H', H'.size = H.size + 1 → RowT H' H.size t cs → Mod (fun _ => False) H H' → K ⟨H.size, 0, none⟩ H') : newC H cs t K :=
 hK _ (by simp) (by simp [RowT]) (Mod.push _ _ _)
theorem sizeB_info {P : Program} {ty : TypeId} {n : Nat} (hi : sizeB P ty n = true) : ∃ i, P.info? ty = some i ∧ i.size = n := by
 unfold sizeB at hi
 split at hi
 ·rename_i i he; exact ⟨i, he, Nat.eq_of_beq_eq_true hi⟩
 ·cases hi
theorem doU_storeAt {P : Program} {ty : TypeId} {H : Heap} {b o : Nat} {t : TypeId} {cur cs : Array Value} {K : Heap → Prop} (h : RowT H b t cur) (hi : sizeB P ty cs.size = true) (hfit : o + cs.size ≤ cur.size) (h1 : ∀ v ∈ cs.toList, v.oneCell' = true)
  (hK : ∀ H', RowT H' b t (cur.toList.take o ++ cs.toList ++ cur.toList.drop (o + cs.size)).toArray → Mod (fun x => x = b) H H' → H'.size = H.size → K H') : doU P (Instr.storeAt ty (.pointer (some ⟨b, o, none⟩)) (.agg cs)) H K := by
 intro w hw
 subst hw
 obtain ⟨i, he, hs⟩ := sizeB_info hi
 have hr := run_storeCells_at (P := P) b o t cs.toList 0 cur w h (by simpa using hfit) h1
 have hq : (Instr.storeAt ty (.pointer (some ⟨b, o, none⟩)) (.agg cs)).run P w = .ok () (w.setRow b (cur.toList.take o ++ cs.toList ++ cur.toList.drop (o + cs.size)).toArray) := by
  have hsz : (sizeOf ty).run P w = .ok cs.size w := by simp [sizeOf, typeInfo, he, hs]
  simp only [Instr.storeAt, Instr.sureAddr, Sem.run_bind, Sem.run_pure, Result.andThen_ok, storeVar, hsz, Value.cells]
  simpa using hr
 exact ⟨(), _, hq, hK _ (setRow_heap w b cur _ t _ h) ⟨by simp, fun k _ hk => setRow_other w b k _ hk⟩ (by simp), (.of_le rfl (Nat.le_refl _))⟩
theorem RowT.stAll {P : Program} {ty : TypeId} {H : Heap} {b : Nat} {t : TypeId} {cur cs : Array Value} {K : Heap → Prop} (h : RowT H b t cur) (hi : sizeB P ty cs.size = true) (ho : cur.size = cs.size) (h1 : ∀ v ∈ cs.toList, v.oneCell' = true)
  (hK : ∀ H', RowT H' b t cs → Mod (fun x => x = b) H H' → H'.size = H.size → K H') : doU P (Instr.storeAt ty (.pointer (some ⟨b, 0, none⟩)) (.agg cs)) H K :=
 doU_storeAt h hi (by omega) h1 fun H' h2 => hK H' (by
  have e : (cur.toList.take 0 ++ cs.toList ++ cur.toList.drop (0 + cs.size)).toArray = cs := by
   rw [List.drop_of_length_le (by simp; omega)]; simp
  rw [e] at h2; exact h2)
theorem optK_eq {α : Type} (a : α) (K : α → Prop) : optK (some a) K = K a := rfl
theorem br_t {b : Bool} {A B : Prop} (h : b = true) (k : A) : br b A B := by subst h; exact k
theorem br_f {b : Bool} {A B : Prop} (h : b = false) (k : B) : br b A B := by subst h; exact k
theorem newM_map {d : TypeDesc} {H : Heap} {K : Nat → Heap → Prop} (hK : ∀ H', H'.size = H.size + 1 → MapAt d H' H.size #[] 0 → Mod (fun _ => False) H H' → K H.size H') : newM H K :=
 hK _ (by simp) (MapAt.new d H) (Mod.push _ _ _)
def MapPT (P : Program) (t kt : TypeId) (d : TypeDesc) : Prop := ∃ (et : TypeId) (inf : TypeInfo), P.underlying t = some (.map kt et) ∧ P.underlying kt = some d ∧ P.info? et = some inf ∧ inf.zero = some (.pointer none)
def mapPTB (P : Program) (t kt : TypeId) : Bool :=
 match P.underlying t with | some (.map kt' et) => Nat.beq kt' kt && (match P.info? et with | some inf => (match inf.zero with | some (.pointer none) => true | _ => false) | none => false) | _ => false
theorem MapPT_of {P : Program} {t kt : TypeId} {d : TypeDesc} (h : mapPTB P t kt = true) (hd : P.underlying kt = some d) : MapPT P t kt d := by
 unfold mapPTB at h
 split at h
 ·rename_i kt' et q
  simp only [Bool.and_eq_true] at h
  obtain ⟨h1, h2⟩ := h
  have := Nat.eq_of_beq_eq_true h1
  subst this
  split at h2
  ·rename_i inf q2
   split at h2
   ·rename_i q3; exact ⟨et, inf, q, hd, q2, q3⟩
   ·cases h2
  ·cases h2
 ·cases h
theorem Owns.keep {H H' : Heap} {base : Nat} {e : TypeId} {size : Nat} {s : Sl} {xs : List Value} (h : Owns H base e size s xs) (k : ∀ b, ownB s b → b < H.size → H'[b]? = H[b]?) : Owns H' base e size s xs := by
 refine ⟨h.1, h.2.imp id ?_⟩
 rintro ⟨g, cap, cur, e1, hb, hg, h3⟩
 refine ⟨g, cap, cur, e1, hb, ?_, h3⟩
 have hs : ownB s g := by
  cases s; simp only [Sl.v, Value.slice.injEq] at e1
  exact ⟨_, e1.1, rfl⟩
 exact (k g hs (h.block g hs).2).trans hg
theorem Owns.lt {H : Heap} {base : Nat} {e : TypeId} {size : Nat} {s : Sl} {xs : List Value} (h : Owns H base e size s xs) : ∀ b, ownB s b → b < H.size := fun b hb => (h.block b hb).2
theorem MapAt.keep {d : TypeDesc} {H H' : Heap} {r : Nat} {es : Array MapEntry} {clk : Nat} (h : MapAt d H r es clk) (k : H'[r]? = H[r]?) : MapAt d H' r es clk := ⟨k.trans h.obj, h.stamped, h.keys⟩
structure Enc (α : Type) where
 size : Nat
 enc : α → List Value
 len : ∀ x, (enc x).length = size
 one : ∀ x, ∀ u ∈ enc x, u.oneCell' = true
def Enc.all {α : Type} (E : Enc α) (l : List α) : List Value := l.flatMap E.enc
theorem Enc.all_length {α : Type} (E : Enc α) : ∀ l : List α, (E.all l).length = l.length * E.size
 | [] => by simp [Enc.all]
 | x :: l => by
   have := Enc.all_length E l
   simp only [Enc.all, List.flatMap_cons, List.length_append, E.len, List.length_cons] at this ⊢
   rw [this, Nat.succ_mul]; omega
theorem Enc.all_one {α : Type} (E : Enc α) (l : List α) : ∀ u ∈ E.all l, u.oneCell' = true := by
 intro u hu
 obtain ⟨x, _, hx⟩ := List.mem_flatMap.1 hu
 exact E.one x u hx
theorem Enc.all_append {α : Type} (E : Enc α) (l r : List α) : E.all (l ++ r) = E.all l ++ E.all r := by simp [Enc.all]
theorem Enc.all_get {α : Type} (E : Enc α) : ∀ (l : List α) (i j : Nat), j < E.size → (E.all l)[i * E.size + j]? = (l[i]?).bind fun x => (E.enc x)[j]?
 | [], i, j, _ => by simp [Enc.all]
 | x :: l, 0, j, hj => by
   simp only [Enc.all, List.flatMap_cons, Nat.zero_mul, Nat.zero_add, List.getElem?_cons_zero, Option.bind_some]
   rw [List.getElem?_append_left (by rw [E.len]; exact hj)]
 | x :: l, i + 1, j, hj => by
   have := Enc.all_get E l i j hj
   simp only [Enc.all, List.flatMap_cons, List.getElem?_cons_succ] at this ⊢
   rw [List.getElem?_append_right (by rw [E.len, Nat.succ_mul]; omega), E.len, ← this]
   congr 1
   rw [Nat.succ_mul]; omega
theorem Enc.all_set {α : Type} (E : Enc α) (l : List α) (i : Nat) (y : α) (hi : i < l.length) : E.all (l.set i y) = (E.all l).take (i * E.size) ++ E.enc y ++ (E.all l).drop (i * E.size + E.size) := by
 induction l generalizing i with
 | nil => simp at hi
 | cons x l ih =>
   cases i with
   | zero =>
     simp only [Enc.all, List.set_cons_zero, List.flatMap_cons, Nat.zero_mul, List.take_zero, List.nil_append, Nat.zero_add]
     rw [List.drop_append_of_le_length (by rw [E.len]; exact Nat.le_refl _), List.drop_of_length_le (by rw [E.len]; exact Nat.le_refl _)]
     simp
   | succ i =>
     have h1 := ih i (by simpa using hi)
     simp only [Enc.all, List.set_cons_succ, List.flatMap_cons] at h1 ⊢
     rw [h1, Nat.succ_mul]
     have e1 : i * E.size + E.size = (E.enc x).length + i * E.size := by rw [E.len]; omega
     have e2 : i * E.size + E.size + E.size = (E.enc x).length + (i * E.size + E.size) := by rw [E.len]; omega
     rw [e2, List.drop_length_add_append, e1, List.take_length_add_append]
     simp
theorem Enc.all_drop {α : Type} (E : Enc α) : ∀ (l : List α) (i : Nat), (E.all l).drop (i * E.size) = E.all (l.drop i)
 | l, 0 => by simp
 | [], i + 1 => by simp [Enc.all]
 | x :: l, i + 1 => by
   have := Enc.all_drop E l i
   simp only [Enc.all, List.flatMap_cons, List.drop_succ_cons] at this ⊢
   rw [← this, show (i + 1) * E.size = (E.enc x).length + i * E.size by rw [E.len, Nat.succ_mul]; omega, ← List.drop_drop, List.drop_left]
theorem Enc.all_take {α : Type} (E : Enc α) : ∀ (l : List α) (i : Nat), (E.all l).take (i * E.size) = E.all (l.take i)
 | l, 0 => by simp [Enc.all]
 | [], i + 1 => by simp [Enc.all]
 | x :: l, i + 1 => by
   have := Enc.all_take E l i
   simp only [Enc.all, List.flatMap_cons, List.take_succ_cons] at this ⊢
   rw [← this, show (i + 1) * E.size = (E.enc x).length + i * E.size by rw [E.len, Nat.succ_mul]; omega, List.take_length_add_append]
abbrev RdE {α : Type} (E : Enc α) (H : Heap) (a : Option Addr) (l : List α) : Prop := Reads H a (E.all l)
abbrev SlE {α : Type} (E : Enc α) (e : TypeId) (H : Heap) (s : Sl) (l : List α) : Prop := Owns H 0 e E.size s (E.all l)
section
variable {α : Type} {E : Enc α} {e : TypeId} {H : Heap} {s : Sl} {l : List α}
theorem SlE.nil (E : Enc α) (e : TypeId) (H : Heap) : SlE E e H (Sl.mk none 0 0) [] := Owns.nil H 0 e E.size
theorem SlE.n (h : SlE E e H s l) (hs : 0 < E.size) : s.n = l.length := by
 have h1 := h.1
 rw [Enc.all_length] at h1
 exact (Nat.eq_of_mul_eq_mul_right hs h1).symm
theorem RdE.cell {a : Option Addr} (h : RdE E H a l) {i j : Nat} {x : α} {v : Value} (hi : l[i]? = some x) (hv : (E.enc x)[j]? = some v) : ∃ ad, a = some ad ∧ hCell H (ad.add (i * E.size + j)) = some v := by
 have hj : j < E.size := by have := (List.getElem?_eq_some_iff.1 hv).1; rwa [E.len] at this
 exact h _ v (by rw [E.all_get l i j hj, hi]; exact hv)
theorem RdE.ld {c : Cod} {a : Option Addr} {ad : Addr} (h : RdE E H a l) (ha : a = some ad) {i j : Nat} {x : α} {y : c.α} (hi : l[i]? = some x) (hv : (E.enc x)[j]? = some (c.enc y)) {n : Nat} (hn : n = i * E.size) {K : c.α → Prop} (hK : K y) : ld c H ((ad.add n).add j) K := by
 obtain ⟨ad', e1, hc⟩ := h.cell hi hv
 rw [ha] at e1; cases e1
 subst hn
 exact ⟨y, by rw [add_add]; exact hc, hK⟩
theorem RdE.row {a : Option Addr} {ad : Addr} (h : RdE E H a l) (ha : a = some ad) {i : Nat} {x : α} (hi : l[i]? = some x) : hRow H (ad.add (i * E.size)) E.size (.agg (E.enc x).toArray) := by
 refine ⟨_, rfl, by simp [E.len], fun j hj => ?_⟩
 have hv : (E.enc x)[j]? = some ((E.enc x)[j]'(by rw [E.len]; exact hj)) := List.getElem?_eq_getElem _
 obtain ⟨ad', e1, hc⟩ := h.cell hi hv
 rw [ha] at e1; cases e1
 rw [add_add, hc]
 simp
theorem RdE.addr {a : Option Addr} (h : RdE E H a l) (hs : 0 < E.size) (hl : 0 < l.length) : ∃ ad, a = some ad := by
 have h0 : 0 < (E.all l).length := by rw [E.all_length]; exact Nat.mul_pos hl hs
 obtain ⟨ad, e1, _⟩ := h.at h0
 exact ⟨ad, e1⟩
theorem RdE.drop {c i : Nat} {a : Option Addr} (h : RdE E H a l) (hc : l.length ≤ c) : RdE E H (slA a c i E.size) (l.drop i) := by
 unfold slA
 split
 ·rename_i hci
  have hci' : c = i := by simpa using hci
  rw [List.drop_of_length_le (by omega)]
  exact Reads.nil _ _
 ·intro j v hv
  rw [← E.all_drop, List.getElem?_drop] at hv
  obtain ⟨ad, e1, hc1⟩ := h _ v hv
  refine ⟨ad.add (i * E.size), by rw [e1]; rfl, ?_⟩
  rw [add_add]; exact hc1
theorem SlE.rd (h : SlE E e H s l) : RdE E H s.a l := Owns.reads h
def ElT (P : Program) (t e : TypeId) (size bytes : Nat) : Prop := ∃ (inf : TypeInfo) (z : Value), P.underlying t = some (.slice e) ∧ P.info? e = some inf ∧ inf.zero = some z ∧ z.cells.size = inf.size ∧ inf.size = size ∧ inf.bytes = bytes ∧ 0 < size
def elTB (P : Program) (t e : TypeId) (size bytes : Nat) : Bool :=
 (match P.underlying t with | some (.slice e') => Nat.beq e' e | _ => false) &&
 (match P.info? e with | some inf => (match inf.zero with | some v => Nat.beq v.cells.size inf.size | none => false) && (Nat.beq inf.size size && (Nat.beq inf.bytes bytes && Nat.blt 0 size)) | none => false)
theorem ElT_of {P : Program} {t e : TypeId} {size bytes : Nat} (h : elTB P t e size bytes = true) : ElT P t e size bytes := by
 unfold elTB at h
 simp only [Bool.and_eq_true] at h
 obtain ⟨h1, h2⟩ := h
 split at h1
 ·rename_i e' he
  split at h2
  ·rename_i inf hi
   simp only [Bool.and_eq_true] at h2
   obtain ⟨h3, h4, h5, h6⟩ := h2
   split at h3
   ·rename_i v hv
    have := Nat.eq_of_beq_eq_true h1
    subst this
    exact ⟨inf, v, he, hi, hv, Nat.eq_of_beq_eq_true h3, Nat.eq_of_beq_eq_true h4, Nat.eq_of_beq_eq_true h5, by simp [Nat.blt] at h6; omega⟩
   ·cases h3
  ·cases h2
 ·cases h1
variable {P : Program} {t : TypeId} {bytes : Nat}
abbrev Grown (s s' : Sl) (H H' : Heap) : Prop := Mod (ownB s) H H' ∧ (∀ b, ownB s' b → ownB s b ∨ H.size ≤ b)
theorem SlE.append (he : ElT P t e E.size bytes) {ty : TypeId} {x : Sl} {r : List α} {K : Sl → Heap → Prop} (h : SlE E e H s l) (hx : RdE E H x.a r) (hn : x.n = r.length)
  (hl : l.length + r.length ≤ 1099511627776) (hb : (l.length + r.length) * bytes ≤ 140737488355328)
  (hK : ∀ (s' : Sl) (H' : Heap), SlE E e H' s' (l ++ r) → Grown s s' H H' → (s'.a = none ↔ s.a = none ∧ r.length = 0) → K s' H') : doT cSl P (Builtin.append_ #[t, t] ty #[s.v, x.v]) H K := by
 obtain ⟨inf, z, ht, hi, hz, hzs, hs, hbt, h0⟩ := he
 have hsn := SlE.n h h0
 refine doT_append (base := 0) (xs := E.all l) (ws := E.all r) ht hi hz hzs (by omega) (by rw [hs]; exact h) (by rw [E.all_length, hn, hs]) hx (E.all_one r) (by omega) (by rw [hbt, hsn, hn]; exact hb) (Nat.zero_le _) ?_
 intro s' H' h1 h2 h3 h4 h5
 refine hK s' H' ?_ ⟨h3, h4⟩ (by rw [h5, hn])
 rw [hs, ← E.all_append] at h2
 exact h2
theorem SlE.push (he : ElT P t e E.size bytes) {ty : TypeId} {x : α} {cs : Array Value} {K : Sl → Heap → Prop} (h : SlE E e H s l) (hcs : cs.toList = E.enc x)
  (hl : l.length + 1 ≤ 1099511627776) (hb : (l.length + 1) * bytes ≤ 140737488355328)
  (hK : ∀ (s' : Sl) (H' : Heap), SlE E e H' s' (l ++ [x]) → Grown s s' H H' → s'.a ≠ none → K s' H') :
  newC H cs e fun p H1 => doT cSl P (Builtin.append_ #[t, t] ty #[s.v, .slice (some p) 1 1]) H1 K := by
 have hm : Mod (fun _ => False) H (H.push (.cells cs e)) := Mod.push _ _ _
 refine SlE.append he (s := s) (x := ⟨some ⟨H.size, 0, none⟩, 1, 1⟩) (r := [x]) (Owns.ext h hm) ?_ rfl (by simpa using hl) (by simpa using hb) ?_
 ·intro i v hv
  simp only [Enc.all, List.flatMap_cons, List.flatMap_nil, List.append_nil] at hv
  exact ⟨_, rfl, by rw [add_lit0]; exact hCell_of (c := cs) (t := e) (fz := (0, 0)) (by simp) (by rw [← hcs] at hv; simpa using hv)⟩
 ·intro s' H' h1 h2 h3
  refine hK s' H' h1 ⟨(Ext.mod hm).trans h2.1, fun b hb => (h2.2 b hb).imp id fun q => ?_⟩ (fun q => by have := (h3.1 q).2; simp at this)
  simp at q; omega
theorem SlE.pushJ (he : ElT P t e E.size bytes) {ty : TypeId} {x : α} {cs : Array Value} {K : Sl → Heap → Prop} (h : SlE E e H s l) (hcs : cs.toList = E.enc x)
  (hl : l.length + 1 ≤ 1099511627776) (hb : (l.length + 1) * bytes ≤ 140737488355328) (J : Heap → Prop) (hJ : ∀ H1, H1.size = H.size + 1 → Mod (fun _ => False) H H1 → J H1)
  (hK : ∀ (s' : Sl) (H' : Heap), SlE E e H' s' (l ++ [x]) → Grown s s' H H' → s'.a ≠ none → K s' H') :
  newC H cs e fun p H1 => J H1 ∧ doT cSl P (Builtin.append_ #[t, t] ty #[s.v, .slice (some p) 1 1]) H1 K :=
 ⟨hJ _ (by simp) (Mod.push _ _ _), SlE.push he h hcs hl hb hK⟩
theorem zipIdx_set (off : Nat) (v : List Value) : ∀ (o : Nat) (cs : Array Value), off + o + v.length ≤ cs.size → (v.zipIdx o).foldl (fun cs (p : Value × Nat) => cs.setIfInBounds (off + p.2) p.1) cs = (cs.toList.take (off + o) ++ v ++ cs.toList.drop (off + o + v.length)).toArray := by
 induction v with
 | nil => intro o cs _; simp
 | cons a v ih =>
   intro o cs h
   simp only [List.length_cons] at h
   rw [List.zipIdx_cons, List.foldl_cons, ih (o + 1) _ (by simp; omega)]
   have e := list_seg_step cs.toList (off + o) a v (by simp; omega)
   simpa [Nat.add_assoc] using e
theorem fill_step {place : Nat → Option (Nat × Nat)} {cells : Array Value} {i off n : Nat} {v : Value} {rest : List (Nat × Value)} (hp : place i = some (off, n)) (hn : v.cells.size = n) (hf : off + n ≤ cells.size) :
  Instr.fill place cells ((i, v) :: rest) = Instr.fill place (cells.toList.take off ++ v.cells.toList ++ cells.toList.drop (off + n)).toArray rest := by
 have e1 := zipIdx_set off v.cells.toList 0 cells (by simp; omega)
 simp only [Instr.fill, hp]
 rw [if_neg (by simp; omega), ← Array.foldl_toList, Array.toList_zipIdx]
 rw [e1]
 simp [hn]
theorem fill_whole {n : Nat} {cs base : Array Value} (hb : base.size = n) (hc : cs.size = n) : Instr.fill (fun i => some (i * n, n)) base [(0, .agg cs)] = some cs := by
 rw [fill_step (off := 0) (n := n) (v := .agg cs) (by simp) hc (by omega)]
 simp only [Instr.fill]
 rw [List.drop_of_length_le (by simp; omega)]
 have : (Value.agg cs).cells = cs := rfl
 simp [this]
theorem SlE.pushBJ (he : ElT P t e E.size bytes) {ty : TypeId} {x : α} {cs : Array Value} {K : Sl → Heap → Prop} (h : SlE E e H s l) (hcs : cs.toList = E.enc x) (hsz : E.size ≤ 16777216)
  (hl : l.length + 1 ≤ 1099511627776) (hb : (l.length + 1) * bytes ≤ 140737488355328) (J : Heap → Prop)
  (hJ : ∀ H1, H1.size = H.size + 1 → Mod (fun _ => False) H H1 → J H1)
  (hK : ∀ (s' : Sl) (H' : Heap), SlE E e H' s' (l ++ [x]) → Grown s s' H H' → s'.a ≠ none → K s' H') :
  doT cSl P (Instr.buildSlice t 1 #[(0, .agg cs)]) H fun sl H1 => J H1 ∧ doT cSl P (Builtin.append_ #[t, t] ty #[s.v, sl.v]) H1 K := by
 obtain ⟨inf, z, ht, hi, hz, hzs, hs, hbt, h0⟩ := id he
 have hcl : cs.size = E.size := by rw [← E.len x, ← hcs]; simp
 intro w hw
 subst hw
 have hfill := fill_whole (n := inf.size) (cs := cs) (base := (Array.range (1 * inf.size)).map (z.cells[· % z.cells.size]!)) (by simp) (by omega)
 have hrun : (Instr.buildSlice t 1 #[(0, .agg cs)]).run P w = .ok (.slice (some ⟨w.heap.size, 0, none⟩) 1 1) { w with heap := w.heap.push (.cells cs e) } := by
  have hne : ¬ (1 * inf.size > 2 ^ 24) := by omega
  have hne0 : inf.size ≠ 0 := by omega
  simp [Instr.buildSlice, run_underlying ht, sizeOf, typeInfo, hi, hne0, zeroValue, hz, newRow, newObj, Result.andThen]
  rw [if_neg (by omega)]
  simp [Nat.one_mul] at hfill
  simp [hfill, Sem.run, Result.andThen]
 refine ⟨_, _, hrun, ⟨⟨some ⟨w.heap.size, 0, none⟩, 1, 1⟩, rfl, hJ _ (by simp) (Mod.push _ _ _), ?_⟩, (.of_le rfl (Nat.le_refl _))⟩
 exact SlE.push he h hcs hl hb hK
theorem doT.mono {c : Cod} {q : Sem Value} {K K' : c.α → Heap → Prop} (h : doT c P q H K) (hk : ∀ x H', K x H' → K' x H') : doT c P q H K' := fun w hw => by
 obtain ⟨v, w', h1, ⟨x, h2, h3⟩, h4⟩ := h w hw
 exact ⟨v, w', h1, ⟨x, h2, hk _ _ h3⟩, h4⟩
theorem SlE.pushB (he : ElT P t e E.size bytes) {ty : TypeId} {x : α} {cs : Array Value} {K : Sl → Heap → Prop} (h : SlE E e H s l) (hcs : cs.toList = E.enc x) (hsz : E.size ≤ 16777216)
  (hl : l.length + 1 ≤ 1099511627776) (hb : (l.length + 1) * bytes ≤ 140737488355328)
  (hK : ∀ (s' : Sl) (H' : Heap), SlE E e H' s' (l ++ [x]) → Grown s s' H H' → s'.a ≠ none → K s' H') :
  doT cSl P (Instr.buildSlice t 1 #[(0, .agg cs)]) H fun sl H1 => doT cSl P (Builtin.append_ #[t, t] ty #[s.v, sl.v]) H1 K :=
 (SlE.pushBJ he h hcs hsz hl hb (fun _ => True) (fun _ _ _ => trivial) hK).mono fun _ _ h => h.2
theorem SlE.st {K : Heap → Prop} (h : SlE E e H s l) {ad : Addr} (ha : s.a = some ad) {i j : Nat} {x y : α} {v : Value} (hi : l[i]? = some x) (hj : j < E.size) (hp : plainV v = true) (hy : E.enc y = (E.enc x).set j v) {n : Nat} (hn : n = i * E.size)
  (hK : ∀ H', SlE E e H' s (l.set i y) → Mod (ownB s) H H' → H'.size = H.size → K H') : Go.Proofs.YtkehfflpbpdokaaGreat.st H ((ad.add n).add j) v K := by
 subst hn
 have hil : i < l.length := (List.getElem?_eq_some_iff.1 hi).1
 have hlen := E.all_length l
 have hij : i * E.size + j < l.length * E.size := by
  have := Nat.mul_le_mul_right E.size (Nat.succ_le_of_lt hil); rw [Nat.succ_mul] at this; omega
 rcases h.2 with ⟨e1, e2⟩ | ⟨g, cap, cur, e1, hb, hg, h4, h5, h6, h7⟩
 ·cases s; simp only [Sl.v, Value.slice.injEq] at e1 ha; rw [e1.1] at ha; cases ha
 ·have ea : s.a = some ⟨g, 0, none⟩ := by
   cases s; simp only [Sl.v, Value.slice.injEq] at e1; exact e1.1
  rw [ea] at ha; cases ha
  have hl1 := h.1
  have hc2 : i * E.size + j < cur.size := by
   have := Nat.mul_le_mul_right E.size h4
   rw [h6]; omega
  rw [add_add, add_lit0]
  refine ⟨hp, ⟨_, hCell_of hg (Array.getElem?_eq_getElem hc2)⟩, hFrozen_of hg, hK _ ?_ (Mod.set ⟨_, ea, rfl⟩) (hSet_size _ _ _)⟩
  have hset : (E.all l).set (i * E.size + j) v = E.all (l.set i y) := by
   rw [E.all_set l i y hil, hy]
   have hx : (E.all l) = (E.all l).take (i * E.size) ++ E.enc x ++ (E.all l).drop (i * E.size + E.size) := by
    have := E.all_set l i x hil
    have hx' : l[i] = x := by rw [List.getElem?_eq_getElem hil] at hi; exact Option.some.inj hi
    rwa [← hx', List.set_getElem_self, hx'] at this
   have hA : ((E.all l).take (i * E.size)).length = i * E.size := by
    rw [List.length_take, hlen]
    have := Nat.mul_le_mul_right E.size (Nat.le_of_lt hil); omega
   conv => lhs; rw [hx]
   rw [List.append_assoc, List.set_append_right _ _ (by omega), hA, Nat.add_sub_cancel_left, List.set_append_left _ _ (by rw [E.len]; exact hj), List.append_assoc]
  refine ⟨by rw [← hset]; simpa using h.1, .inr ⟨g, cap, cur.setIfInBounds (i * E.size + j) v, e1, hb, hSet_at (a := ⟨g, i * E.size + j, none⟩) hg rfl, h4, h5, by simpa using h6, ?_⟩⟩
  rw [← hset, ← h7]
  simp [List.take_set]
theorem SlE.stAt {ty : TypeId} {cs : Array Value} {K : Heap → Prop} (h : SlE E e H s l) {ad : Addr} (ha : s.a = some ad) {i : Nat} {y : α} (hil : i < l.length) (hcs : cs.toList = E.enc y) (hi : sizeB P ty E.size = true) {n : Nat} (hn : n = i * E.size)
  (hK : ∀ H', SlE E e H' s (l.set i y) → Mod (ownB s) H H' → H'.size = H.size → K H') : doU P (Instr.storeAt ty (.pointer (some (ad.add n))) (.agg cs)) H K := by
 subst hn
 have hlen := E.all_length l
 have hcl : cs.size = E.size := by rw [← E.len y, ← hcs]; simp
 have hij : i * E.size + E.size ≤ l.length * E.size := by
  have := Nat.mul_le_mul_right E.size (Nat.succ_le_of_lt hil); rw [Nat.succ_mul] at this; omega
 rcases h.2 with ⟨e1, e2⟩ | ⟨g, cap, cur, e1, hb, hg, h4, h5, h6, h7⟩
 ·cases s; simp only [Sl.v, Value.slice.injEq] at e1 ha; rw [e1.1] at ha; cases ha
 ·have ea : s.a = some ⟨g, 0, none⟩ := by
   cases s; simp only [Sl.v, Value.slice.injEq] at e1; exact e1.1
  rw [ea] at ha; cases ha
  have hl1 := h.1
  have hc2 : i * E.size + E.size ≤ cur.size := by
   have := Nat.mul_le_mul_right E.size h4
   rw [h6]; omega
  rw [add_lit0]
  refine doU_storeAt (b := g) (o := i * E.size) (cur := cur) (t := e) hg (by rw [hcl]; exact hi) (by omega) (by rw [hcs]; exact E.one y) fun H' r1 r2 r3 => hK H' ?_ (r2.mono fun b _ hb => ⟨_, ea, hb.symm⟩) r3
  refine ⟨by simpa [E.all_length] using h.1, .inr ⟨g, cap, _, e1, hb, r1, h4, h5, ?_, ?_⟩⟩
  ·simp [hcl]; omega
  ·rw [E.all_set l i y hil, ← h7, hcs]
   simp only [hcl]
   have hT : (cur.toList.take (i * E.size)).length = i * E.size := by simp; omega
   have hsn : i * E.size + E.size ≤ s.n * E.size := by omega
   rw [List.take_append, List.take_of_length_le (by simp [hT, E.len]; omega), List.take_take, Nat.min_eq_left (by omega)]
   congr 1
   rw [List.length_append, hT, E.len, List.take_drop]
   congr 2
   omega
end
end Go.Proofs.YtkehfflpbpdokaaGreat
