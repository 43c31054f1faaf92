/-
 The document's order of rows: the walk.
-/
import Derived.Test.YtkehfflpbpdokaaGreatJ34
import Derived.Test.YtkehfflpbpdokaaGreatJ36
namespace Go.Proofs.YtkehfflpbpdokaaGreat
open Go.MapKept
section
variable {X : Nat → Prop} {A B : Heap} {s l : Sl} {ls : List (List Int)}
theorem OwnT.cap [Tab] {e : TypeId} {xs : List Value} (h : OwnT A e s xs) : s.n ≤ s.c := by
 rcases h.2 with rfl | ⟨g, o, cur, _, _, q, _⟩
 ·exact Nat.le_refl _
 ·exact q
theorem RowsT.cap [Tab] (h : RowsT X A s ls) : s.n ≤ s.c := by
 obtain ⟨rs, o, _, _⟩ := h.ex
 exact o.cap
theorem RowsT.toX [Tab] (h : RowsT X A s ls) : RowsX X A s ls := by
 refine ⟨h.n, fun ad ha => ⟨h.lt _ ⟨ad, ha, rfl⟩, h.off _ ⟨ad, ha, rfl⟩⟩, fun i hi => ?_⟩
 obtain ⟨ad, r, q1, q2, q3, q4⟩ := h.at hi
 exact ⟨ad, r, q1, q2, fun a ha => ⟨(q4 a ha).1, (q4 a ha).2.1⟩, q3⟩
theorem RowsX.front [Tab] (h : RowsX X A s ls) {i : Nat} (hi : i ≤ ls.length) : RowsX X A ⟨s.a, i, s.c⟩ (ls.take i) := by
 refine ⟨by show i = _; rw [List.length_take]; omega, h.off, fun k hk => ?_⟩
 rw [List.length_take] at hk
 obtain ⟨ad, r, q1, q2, q3, q4⟩ := h.at' k (by omega)
 exact ⟨ad, r, q1, q2, q3, by rw [List.getElem_take]; exact q4⟩
theorem RowsX.extX [Tab] (h : RowsX (fun _ => False) A s ls) (e : Ext A B) : RowsX (fun _ => False) B s ls := h.mod (Ext.mod e)
theorem slA_z0 (a : Option Addr) (c k : Nat) : slA a c 0 k = a := by
 unfold slA
 split
 ·rfl
 ·cases a <;> simp [add_zero']
set_option maxHeartbeats 4000000 in
theorem Ordered_ok [Tab] : ∀ (k : Nat) {A : Heap} {l : Sl} {ls : List (List Int)} {K : Sl → Heap → Prop}, ls.length ≤ k → ls.length ≤ 100000 → RowsX (fun _ => False) A l ls → l.n ≤ l.c → (∀ r ∈ ls, r.length ≤ 1000) →
  (∀ out B ls', ls'.Perm ls → (ls'.Pairwise fun a b => cmpL a b ≤ 0) → RowsX (fun _ => False) B out ls' → out.n ≤ out.c → Ext A B → K out B) → ZbH.sp l A K
 | k, A, l, ls, K, hk, hn, hl, hc, hw, hK => by
   have hln := hl.len
   refine ZbH.of ?_
   unfold ZbH.vc
   refine br_mk (fun h => ?_) fun h => ?_
   ·have h : ls.length < 2 := by have := of_decide_eq_true h; omega
    refine hK l A ls (List.Perm.refl _) ?_ hl hc (.refl _ _)
    match ls, h with
    | [], _ => exact List.Pairwise.nil
    | [a], _ => exact List.pairwise_singleton _ _
   have h2 : 2 ≤ ls.length := by have := of_decide_eq_false h; omega
   have hw2 : IntKind.i64.wrap (Int.tdiv (l.n : Int) 2) = ((ls.length / 2 : Nat) : Int) := by
    rw [hln, show (2 : Int) = ((2 : Nat) : Int) from rfl, ← Int.ofNat_tdiv, wrap64 (by omega) (by omega)]
   generalize hhf : ls.length / 2 = hf at *
   rw [hw2, Int.toNat_natCast, slA_z0, Nat.sub_zero, Nat.sub_zero]
   refine ⟨⟨by omega, by omega⟩, ?_⟩
   have hfl : hf ≤ ls.length := by omega
   have kpos : ∃ k', k = k' + 1 := ⟨k - 1, by omega⟩
   obtain ⟨k', rfl⟩ := kpos
   have hl1 : (ls.take hf).length = hf := by rw [List.length_take]; omega
   have hl2 : (ls.drop hf).length = ls.length - hf := List.length_drop
   refine Ordered_ok k' (ls := ls.take hf) (by omega) (by omega) (hl.front hfl) (by show hf ≤ l.c; omega) (fun r hr => hw r (List.mem_of_mem_take hr)) fun ra A1 la p1 s1 r1 c1 e1 => ?_
   refine ⟨⟨by omega, by omega⟩, ?_⟩
   refine Ordered_ok k' (ls := ls.drop hf) (by omega) (by omega) ((hl.drop hc hfl).extX e1) (by show l.n - hf ≤ l.c - hf; omega) (fun r hr => hw r (List.mem_of_mem_drop hr)) fun rb A2 lb p2 s2 r2 c2 e2 => ?_
   have r1 := r1.extX e2
   have hna := r1.len
   have hnb := r2.len
   have pl1 := p1.length_eq
   have pl2 := p2.length_eq
   have wa : ∀ r ∈ la, r.length ≤ 1000 := fun r hr => hw r (List.mem_of_mem_take (p1.mem_iff.1 hr))
   have e12 := e1.trans e2
   refine loop_upto (la.length + lb.length) (fun i z D => ∃ (x y : Nat) (dn : List (List Int)), z.2.1 = (x : Int) ∧ z.2.2 = (y : Int) ∧ x ≤ la.length ∧ y ≤ lb.length ∧ x + y = i ∧ dn.length = i ∧ Ext A2 D ∧ RowsT (fun _ => False) D z.1 dn ∧ (∀ b, ownB z.1 b → A2.size ≤ b) ∧ dn ++ mgO (la.drop x) (lb.drop y) = mgO la lb)
    ⟨0, 0, [], rfl, rfl, Nat.zero_le _, Nat.zero_le _, rfl, rfl, .refl _ _, RowsT.nil _ _, fun b u => absurd u (nilOwn b), rfl⟩ ?_
   rintro i ⟨out, z1, z2⟩ D next hi ⟨x, y, dn, hz1, hz2, hx, hy, hxy, hdn, eD, ro, oo, hmg⟩ hnext
   simp only at hz1 hz2 ro oo ⊢
   subst hz1
   subst hz2
   have ra := r1.extX eD
   have rbb := r2.extX eD
   have zD := eD.size
   -- a row is put behind
   have put : ∀ (q : Nat) (rs : Sl) (lq : List (List Int)) (hq : q < lq.length) (x' y' : Nat), RowsX (fun _ => False) A2 rs lq → (x' ≤ la.length ∧ y' ≤ lb.length ∧ x' + y' = i + 1 ∧ mgO (la.drop x) (lb.drop y) = lq[q] :: mgO (la.drop x') (lb.drop y')) →
     optK rs.a fun a => (0 ≤ (q : Int) ∧ (q : Int) < (rs.n : Int)) ∧ ld cSl D (a.add ((q : Int).toNat * 1)) fun (x_2 : Sl) => newC D #[x_2.v] YaB fun p H5 => doT cSl Tryz.prog (Builtin.append_ #[Yam, Yam] Yam #[out.v, (.slice (some p) 1 1)]) H5 fun (o : Sl) H6 => next (o, (x' : Int), (y' : Int)) H6 := by
    intro q rs lq hq x' y' hr ⟨h1, h2', h3, h4⟩
    obtain ⟨ad, r, q1, q2, q3, q4⟩ := hr.at' q hq
    have hrn := hr.len
    refine optK_mk ad q1 ⟨⟨by omega, by omega⟩, r, ?_, ?_⟩
    ·rw [Int.toNat_natCast, Nat.mul_one]
     exact (Ext.mod eD (F := fun _ => False)).cell q2 id
    ·refine ro.snoc (r := r) (l := lq[q]) (by omega) (q4.ext eD) (fun a ha => ⟨by have := (q3 a ha).1; omega, id, fun u => by have := oo _ u; have := (q3 a ha).1; omega⟩) fun o E ro' m' o' => ?_
     have zE := m'.size
     refine hnext (by omega) _ _ ⟨x', y', dn ++ [lq[q]], rfl, rfl, h1, h2', h3, by rw [List.length_append, hdn]; rfl, ⟨by omega, fun b hb _ => (m'.same b (by omega) fun u => by have := oo b u; omega).trans (eD.same b hb id)⟩, ro' _ (fun _ u => u) (fun _ u => u.elim), fun b hb => (o' b hb).elim (oo b) fun u => by omega, ?_⟩
     rw [List.append_assoc, List.singleton_append, ← h4, hmg]
   have s1x : IntKind.i64.wrap ((x : Int) + 1) = ((x + 1 : Nat) : Int) := succ64 x (by omega)
   have s1y : IntKind.i64.wrap ((y : Int) + 1) = ((y + 1 : Nat) : Int) := succ64 y (by omega)
   rw [s1x, s1y]
   by_cases hend : x = la.length ∧ y = lb.length
   ·obtain ⟨rfl, rfl⟩ := hend
    refine br_f (by rw [hna, hnb]; simp) ?_
    rw [List.drop_length, List.drop_length] at hmg
    have hdm : dn = mgO la lb := by rw [← hmg]; simp [mgO]
    refine hK out D (mgO la lb) ?_ (mgO_rise s1 s2) (by rw [← hdm]; exact ro.toX) ro.cap (e12.trans eD)
    have := mgO_perm (A := la) (B := lb)
    refine this.trans ((List.Perm.append p1 p2).trans ?_)
    rw [List.take_append_drop]
   ·refine br_t (by
     rw [hna, hnb]
     simp only [Bool.or_eq_true, decide_eq_true_eq]
     omega) ?_
    by_cases hyb : y = lb.length
    ·have hxa : x < la.length := by omega
     refine br_f (by rw [hnb, hyb]; simp) ?_
     refine put x _ la hxa (x + 1) y r1 ⟨by omega, hy, by omega, ?_⟩
     exact mgO_left (List.getElem?_eq_getElem hxa) (.inl hyb)
    ·have hyl : y < lb.length := by omega
     refine br_t (by
      rw [hnb]
      have : ((y : Int) == (lb.length : Int)) = false := by
       rw [beq_eq_false_iff_ne]; omega
      rw [this]; rfl) ?_
     by_cases hxa : x = la.length
     ·refine br_f (by rw [hna]; exact decide_eq_false (by omega)) ?_
      refine put y _ lb hyl x (y + 1) r2 ⟨hx, by omega, by omega, ?_⟩
      exact mgO_right (List.getElem?_eq_getElem hyl) (.inl hxa)
     ·have hxl : x < la.length := by omega
      refine br_t (by rw [hna]; exact decide_eq_true (by omega)) ?_
      obtain ⟨ad, r, q1, q2, q3, q4⟩ := ra.at' x hxl
      obtain ⟨bd, t, t1, t2, t3, t4⟩ := rbb.at' y hyl
      refine optK_mk ad q1 ⟨⟨by omega, by omega⟩, r, by rw [Int.toNat_natCast, Nat.mul_one]; exact q2, ?_⟩
      refine optK_mk bd t1 ⟨⟨by omega, by omega⟩, t, by rw [Int.toNat_natCast, Nat.mul_one]; exact t2, ?_⟩
      refine refCmp_ok q4 t4 (by have := wa _ (List.getElem_mem hxl); omega) ?_
      refine br_mk (fun hc => ?_) fun hc => ?_
      ·refine put x _ la hxl (x + 1) y r1 ⟨by omega, hy, by omega, ?_⟩
       exact mgO_left (List.getElem?_eq_getElem hxl) (.inr ⟨lb[y], List.getElem?_eq_getElem hyl, of_decide_eq_true hc⟩)
      ·refine put y _ lb hyl x (y + 1) r2 ⟨hx, by omega, by omega, ?_⟩
       exact mgO_right (List.getElem?_eq_getElem hyl) (.inr ⟨la[x], List.getElem?_eq_getElem hxl, of_decide_eq_false hc⟩)
end
def XC (c : Cfg) (mb b : Nat) : Prop := b = c.j ∨ b = c.sa ∨ b = c.la ∨ b = c.sb ∨ b = c.lb ∨ b = mb
structure JS (c : Cfg) (mb : Nat) (H : Heap) (begun : Bool) (tbl : Option Nat) (held : Int) (row mt : Sl) (eA : Bool) (sA : Sl) (lA : List (List Int)) (eB : Bool) (sB : Sl) (lB : List (List Int)) : Prop where
 jo : RowT H c.j Yaq (joV c begun tbl held row mt)
 a : FromB (XC c mb) H c.sa c.la c.wa 2 eA sA lA
 b : FromB (XC c mb) H c.sb c.lb c.wb 2 eB sB lB
 ca : Ints .i64 H c.ca [0]
 cao : ∀ a, c.ca.a = some a → ¬ XC c mb a.block
 cb : Ints .i64 H c.cb [0]
 cbo : ∀ a, c.cb.a = some a → ¬ XC c mb a.block
 d : c.j ≠ c.sa ∧ c.j ≠ c.la ∧ c.j ≠ c.sb ∧ c.j ≠ c.lb ∧ c.sa ≠ c.sb ∧ c.sa ≠ c.lb ∧ c.la ≠ c.sb ∧ c.la ≠ c.lb
 m : c.sa ≠ mb ∧ c.la ≠ mb ∧ c.sb ≠ mb ∧ c.lb ≠ mb
 lt : ∀ b, XC c mb b → b < H.size
section
variable {c : Cfg} {mb : Nat} {H A : Heap} {begun begun' : Bool} {tbl tbl' : Option Nat} {held held' : Int} {row mt row' mt' : Sl} {eA eA' eB eB' : Bool} {sA sA' sB sB' : Sl} {lA lA' lB lB' : List (List Int)}
theorem JS.upd (h : JS c mb H begun tbl held row mt eA sA lA eB sB lB) (m : Mod (XC c mb) H A) (jo : RowT A c.j Yaq (joV c begun' tbl' held' row' mt')) (a : FromB (XC c mb) A c.sa c.la c.wa 2 eA' sA' lA') (b : FromB (XC c mb) A c.sb c.lb c.wb 2 eB' sB' lB') : JS c mb A begun' tbl' held' row' mt' eA' sA' lA' eB' sB' lB' :=
 ⟨jo, a, b, h.ca.mod m fun ad ha => h.cao ad ha, h.cao, h.cb.mod m fun ad ha => h.cbo ad ha, h.cbo, h.d, h.m, fun x hx => Nat.lt_of_lt_of_le (h.lt x hx) m.size⟩
theorem JS.ext (h : JS c mb H begun tbl held row mt eA sA lA eB sB lB) (e : Ext H A) : JS c mb A begun tbl held row mt eA sA lA eB sB lB :=
 h.upd (Ext.mod e) (h.jo.ext e) (h.a.keep e (fun _ u => u.elim) id id) (h.b.keep e (fun _ u => u.elim) id id)
theorem JS.own (h : JS c mb H begun tbl held row mt eA sA lA eB sB lB) (m : Mod (fun b => b = c.j ∨ b = mb) H A) (jo : RowT A c.j Yaq (joV c begun' tbl' held' row' mt')) : JS c mb A begun' tbl' held' row' mt' eA sA lA eB sB lB := by
 obtain ⟨d1, d2, d3, d4, _⟩ := h.d
 obtain ⟨m1, m2, m3, m4⟩ := h.m
 have sub : ∀ b, (b = c.j ∨ b = mb) → XC c mb b := fun b u => u.elim .inl fun v => .inr (.inr (.inr (.inr (.inr v))))
 exact h.upd (m.mono fun b _ u => sub b u) jo (h.a.keep m sub (fun u => u.elim (fun v => d1 v.symm) m1) fun u => u.elim (fun v => d2 v.symm) m2) (h.b.keep m sub (fun u => u.elim (fun v => d3 v.symm) m3) fun u => u.elim (fun v => d4 v.symm) m4)
theorem JS.ownJ (h : JS c mb H begun tbl held row mt eA sA lA eB sB lB) (m : Mod (fun b => b = c.j) H A) (jo : RowT A c.j Yaq (joV c begun' tbl' held' row' mt')) : JS c mb A begun' tbl' held' row' mt' eA sA lA eB sB lB := h.own (m.mono fun _ _ u => .inl u) jo
set_option maxHeartbeats 1000000 in
theorem lefts_ok {K : (Sl × Bool × Int) → Heap → Prop} (h : JS c mb H begun tbl held row mt false sA lA eB sB lB)
  (hK1 : ∀ l r x B s', lA = l :: r → JS c mb B begun tbl held row mt false s' r eB sB lB → Mod (fun b => b = c.la) H B → Ints .u64 B x l → (∀ a, x.a = some a → a.block < B.size ∧ ¬ XC c mb a.block) → K (x, true, 0) B)
  (hK0 : lA = [] → ∀ B, JS c mb B begun tbl held row mt true sA [] eB sB lB → Mod (fun b => b = c.sa) H B → K (Sl.mk none 0 0, false, 0) B) : ZbM.sp (some ⟨c.j, 0, none⟩) H K := by
 obtain ⟨d1, d2, d3, d4, d5, d6, d7, d8⟩ := h.d
 refine ZbM.of ?_
 unfold ZbM.vc
 simp only [optK_eq, add_add, Nat.reduceAdd]
 refine RowT.ld (c := cPtr) (i := 19) (x := none) h.jo rfl ?_
 refine br_t rfl ?_
 refine RowT.ld (c := cPtr) (i := 2) (x := some ⟨c.sa, 0, none⟩) h.jo rfl ?_
 refine from_next h.a (fun l r x B s' hl fB mB ix ox => ?_) (fun hl B fB mB => ?_)
 ·refine hK1 l r x B s' hl (h.upd (mB.mono fun b _ u => .inr (.inr (.inl u))) (h.jo.mod mB d2) fB (h.b.keep mB (fun b u => .inr (.inr (.inl u))) (fun u => d7 u.symm) fun u => d8 u.symm)) mB ix ox
 ·exact hK0 hl B (h.upd (mB.mono fun b _ u => .inr (.inl u)) (h.jo.mod mB d1) fB (h.b.keep mB (fun b u => .inr (.inl u)) (fun u => d5 u.symm) fun u => d6 u.symm)) mB
set_option maxHeartbeats 2000000 in
theorem begin_ok {K : Int → Heap → Prop} (h : JS c c.j H false none 0 row mt false sA lA false sB lB) (hn : lB.length ≤ 90) (hkeys : (lB.map keyN).Nodup)
  (hK : ∀ mb B s', JS c mb B true (some mb) lB.length row mt false sA lA true s' [] → TabAt (XC c mb) B mb lB → c.j ≠ mb → H.size ≤ mb → Mod (XC c mb) H B → K 0 B) : ZbO.sp (some ⟨c.j, 0, none⟩) H K := by
 obtain ⟨d1, d2, d3, d4, d5, d6, d7, d8⟩ := h.d
 have hjl := obj_lt h.jo
 refine ZbO.of ?_
 unfold ZbO.vc
 refine newC_rowT fun H1 z1 r1 e1 => ?_
 have ldp : ∀ {A : Heap} {M : Option Addr → Prop}, RowT A H.size Yah #[.pointer (some ⟨c.j, 0, none⟩)] → M (some ⟨c.j, 0, none⟩) → Go.Proofs.YtkehfflpbpdokaaGreat.ld cPtr A ⟨H.size, 0, none⟩ M := fun {A M} r hM => ⟨_, r.cell (i := 0) rfl, hM⟩
 refine ldp r1 ?_
 simp only [optK_eq]
 have h1 := h.ext e1
 refine RowT.st h1.jo (i := 10) (by simp [joV]) rfl fun H2 r2 m2 z2 => ?_
 have p2 : RowT H2 H.size Yah #[.pointer (some ⟨c.j, 0, none⟩)] := r1.mod m2 fun u => by omega
 have h2 : JS c c.j H2 true none 0 row mt false sA lA false sB lB := h1.ownJ m2 r2
 refine ldp p2 ?_
 refine clear_ok h2.jo fun H3 r3 mp3 m3 z3 => ?_
 have p3 : RowT H3 H.size Yah #[.pointer (some ⟨c.j, 0, none⟩)] := p2.mod m3 fun u => by omega
 have h3' : JS c c.j H3 true (some H2.size) 0 row mt false sA lA false sB lB := h2.ownJ m3 r3
 have hXlt : ∀ b, XC c c.j b → b < H2.size := h2.lt
 generalize hmb : H2.size = mb at *
 have sub : ∀ b, XC c c.j b → XC c mb b := fun b u => by
  rcases u with v | v | v | v | v | v
  ·exact .inl v
  ·exact .inr (.inl v)
  ·exact .inr (.inr (.inl v))
  ·exact .inr (.inr (.inr (.inl v)))
  ·exact .inr (.inr (.inr (.inr (.inl v))))
  ·exact .inl v
 have bus : ∀ b, b ≠ mb → XC c mb b → XC c c.j b := fun b hb u => by
  rcases u with v | v | v | v | v | v
  ·exact .inl v
  ·exact .inr (.inl v)
  ·exact .inr (.inr (.inl v))
  ·exact .inr (.inr (.inr (.inl v)))
  ·exact .inr (.inr (.inr (.inr (.inl v))))
  ·exact absurd v hb
 have hlt2 : ∀ b, XC c c.j b → b ≠ mb := fun b u => by have := hXlt b u; omega
 have jm : c.j ≠ mb := hlt2 _ (.inl rfl)
 -- the sources, beside the table
 have moreF : ∀ {sb lb wb : Nat} {e : Bool} {s : Sl} {ls : List (List Int)}, FromB (XC c c.j) H2 sb lb wb 2 e s ls → FromB (XC c mb) H2 sb lb wb 2 e s ls := fun f => f.more (fun b hb u => bus b (by omega) u) sub
 have m3' : Mod (fun b => b = c.j) H2 H3 := m3
 have a3 : FromB (XC c mb) H3 c.sa c.la c.wa 2 false sA lA := (moreF h2.a).keep m3' (fun b u => .inl u) (fun u => d1 u.symm) fun u => d2 u.symm
 have b3 : FromB (XC c mb) H3 c.sb c.lb c.wb 2 false sB lB := (moreF h2.b).keep m3' (fun b u => .inl u) (fun u => d3 u.symm) fun u => d4 u.symm
 have h3 : JS c mb H3 true (some mb) 0 row mt false sA lA false sB lB := ⟨r3, a3, b3, h3'.ca, fun a ha u => by
   by_cases q : a.block = mb
   ·obtain ⟨ad, e1, e2⟩ := h2.ca.at (i := 0) (by simp)
    rw [ha] at e1; cases e1
    have := hCell_lt e2
    rw [add_block] at this; omega
   ·exact h3'.cao a ha (bus _ q u), h3'.cb, fun a ha u => by
   by_cases q : a.block = mb
   ·obtain ⟨ad, e1, e2⟩ := h2.cb.at (i := 0) (by simp)
    rw [ha] at e1; cases e1
    have := hCell_lt e2
    rw [add_block] at this; omega
   ·exact h3'.cbo a ha (bus _ q u), h.d, ⟨hlt2 _ (.inr (.inl rfl)), hlt2 _ (.inr (.inr (.inl rfl))), hlt2 _ (.inr (.inr (.inr (.inl rfl)))), hlt2 _ (.inr (.inr (.inr (.inr (.inl rfl)))))⟩, fun b u => by
   by_cases q : b = mb
   ·omega
   ·have := hXlt b (bus b q u); omega⟩
 have t3 : TabAt (XC c mb) H3 mb [] := ⟨_, _, mp3, fun k v hv => by obtain ⟨e, he, _⟩ := hv; simp at he, fun l hl => by cases hl⟩
 have mod03 : Mod (XC c mb) H H3 := (Ext.mod e1).trans ((m2.mono fun b _ u => .inl u).trans (m3.mono fun b _ u => .inl u))
 have pX : ¬ XC c mb H.size := fun u => by
  by_cases q : H.size = mb
  ·omega
  ·have := h.lt _ (bus _ q u); omega
 refine loop_upto lB.length (fun k _ A => (∃ s', JS c mb A true (some mb) k row mt false sA lA false s' (lB.drop k)) ∧ TabAt (XC c mb) A mb (lB.take k) ∧ RowT A H.size Yah #[.pointer (some ⟨c.j, 0, none⟩)] ∧ Mod (XC c mb) H A) ⟨⟨sB, h3⟩, t3, p3, mod03⟩ ?_
 rintro k _ A next hk ⟨⟨s', hA⟩, tA, pA, mA⟩ hnext
 refine ⟨fun B => A = B, rfl, ?_⟩
 refine ⟨some ⟨c.j, 0, none⟩, fun B hB => hB ▸ pA.cell (i := 0) rfl, ?_⟩
 simp only [optK_eq, add_add, Nat.reduceAdd]
 refine RowT.ldC (c := cInt .i64) (i := 17) (x := (k : Int)) (cs := fun _ => joV c true (some mb) k row mt) (fun B hB => hB ▸ hA.jo) (fun _ _ => rfl) ?_
 refine ldp pA ?_
 refine most_ok hA.jo ⟨rfl, ?_⟩
 refine br_t (by simp; omega) ?_
 refine ldp pA ?_
 refine RowT.ld (c := cPtr) (i := 5) (x := some ⟨c.sb, 0, none⟩) hA.jo rfl ?_
 refine from_next hA.b (fun l r x B s2 hl fB mB ix ox => ?_) (fun hl B fB mB => ?_)
 ·have hkl : k < lB.length := by
   rcases Nat.lt_or_ge k lB.length with q | q
   ·exact q
   ·rw [List.drop_of_length_le q] at hl; cases hl
  rw [List.drop_eq_getElem_cons hkl] at hl
  obtain ⟨rfl, rfl⟩ : lB[k] = l ∧ lB.drop (k + 1) = r := List.cons.inj hl
  have mBX : Mod (XC c mb) A B := mB.mono fun b _ u => .inr (.inr (.inr (.inr (.inl u))))
  have hB : JS c mb B true (some mb) k row mt false sA lA false s2 (lB.drop (k + 1)) := hA.upd mBX (hA.jo.mod mB d4) (hA.a.keep mB (fun b u => .inr (.inr (.inr (.inr (.inl u))))) d6 d8) fB
  have pB : RowT B H.size Yah #[.pointer (some ⟨c.j, 0, none⟩)] := pA.mod mBX pX
  have tB : TabAt (XC c mb) B mb (lB.take k) := tA.mod mBX (mB.same mb (hA.lt _ (.inr (.inr (.inr (.inr (.inr rfl)))))) fun u => by have := hA.m.2.2.2; omega)
  refine br_f rfl (br_f rfl ?_)
  refine ldp pB ?_
  have hlw := hA.b.cols lB[k] (by rw [List.drop_eq_getElem_cons hkl]; exact List.mem_cons_self)
  refine hold_ok hB.jo hB.cb tB (.inl rfl) (.inr (.inr (.inr (.inr (.inr rfl))))) jm hB.lt ix ox (by omega) ⟨by omega, by omega⟩ (fun l' hl' => ?_) fun C rC tC mC => ?_
  ·have hp := List.pairwise_iff_getElem.1 hkeys
   obtain ⟨i, hi, rfl⟩ := List.mem_iff_getElem.1 hl'
   rw [List.length_take] at hi
   have := hp i k (by rw [List.length_map]; omega) (by rw [List.length_map]; exact hkl) (by omega)
   rw [List.getElem_map, List.getElem_map] at this
   rw [List.getElem_take]; exact this
  ·have mCX : Mod (XC c mb) B C := mC.mono fun b _ u => u.elim .inl fun v => .inr (.inr (.inr (.inr (.inr v))))
   have ek : ((k : Int) + 1) = ((k + 1 : Nat) : Int) := by omega
   rw [ek] at rC
   have htk : lB.take k ++ [lB[k]] = lB.take (k + 1) := by rw [List.take_add_one, List.getElem?_eq_getElem hkl]; rfl
   rw [htk] at tC
   exact hnext hkl _ _ ⟨⟨s2, hB.own mC rC⟩, tC, pB.mod mCX pX, mA.trans (mBX.trans mCX)⟩
 ·have hkl : k = lB.length := by
   have := congrArg List.length hl
   rw [List.length_drop, List.length_nil] at this
   omega
  subst hkl
  refine br_f rfl (br_t rfl ?_)
  have mBX : Mod (XC c mb) A B := mB.mono fun b _ u => .inr (.inr (.inr (.inl u)))
  have hB : JS c mb B true (some mb) lB.length row mt false sA lA true s' [] := hA.upd mBX (hA.jo.mod mB d3) (hA.a.keep mB (fun b u => .inr (.inr (.inr (.inl u)))) d5 d7) fB
  rw [List.take_length] at tA
  exact hK mb B s' hB (tA.mod mBX (mB.same mb (hA.lt _ (.inr (.inr (.inr (.inr (.inr rfl)))))) fun u => by have := hA.m.2.2.1; omega)) jm (by omega) (mA.trans mBX)
end
section
variable {c : Cfg} {mb : Nat} {H : Heap}
set_option maxHeartbeats 4000000 in
theorem next_pair {row : Sl} {sA sB : Sl} {lB : List (List Int)} {a0 a1 m : List Int} {K : (Sl × Bool × Int) → Heap → Prop} (h : JS c c.j H false none 0 row (Sl.mk none 0 0) false sA [a0, a1] false sB lB) (hn : lB.length ≤ 90) (hkeys : (lB.map keyN).Nodup)
  (ha0 : ∀ l ∈ lB, keyN l ≠ keyN a0) (hm : m ∈ lB) (hm1 : keyN m = keyN a1) (hm0 : m.getD 0 0 = a1.getD 0 0)
  (hK : ∀ mb B s row' mt' sA' sB', JS c mb B true (some mb) lB.length row' mt' false sA' [] true sB' [] → mt'.n = 0 → Ints .u64 B s (a1 ++ m) → (∀ a, s.a = some a → H.size ≤ a.block ∧ ¬ XC c mb a.block) → Mod (XC c mb) H B → H.size ≤ mb → K (s, true, 0) B) : Zci.sp (some ⟨c.j, 0, none⟩) H K := by
 refine Zci.of ?_
 unfold Zci.vc
 have hcols : a0.length = 2 ∧ a1.length = 2 := ⟨h.a.cols a0 List.mem_cons_self, h.a.cols a1 (List.mem_cons_of_mem _ List.mem_cons_self)⟩
 have hmc : m.length = 2 := h.b.cols m hm
 refine ⟨fun _ A => ∃ mb s', JS c mb A true (some mb) lB.length row (Sl.mk none 0 0) false sA [a0, a1] true s' [] ∧ TabAt (XC c mb) A mb lB ∧ c.j ≠ mb ∧ H.size ≤ mb ∧ Mod (XC c mb) H A, ?_, ?_⟩
 ·simp only [optK_eq]
  refine RowT.ld (c := cBool) (i := 10) (x := false) h.jo rfl ?_
  refine br_t rfl ?_
  refine begin_ok h hn hkeys fun mb B s' hB tB jm hmb mB => ?_
  exact br_f rfl ⟨mb, s', hB, tB, jm, hmb, mB⟩
 rintro _ H1 ⟨mb, sB1, h1, t1, jm, hmb, m1⟩
 have tabMod : ∀ {A B : Heap} {Y : Nat → Prop}, TabAt (XC c mb) A mb lB → Mod Y A B → (∀ b, Y b → XC c mb b) → ¬ Y mb → mb < A.size → TabAt (XC c mb) B mb lB := fun t m hs hy hl => t.mod (m.mono fun b _ u => hs b u) (m.same mb hl hy)
 refine loop_upto 2 (fun k _ A => ∃ sA' row' mt', JS c mb A true (some mb) lB.length row' mt' false sA' ([a0, a1].drop k) true sB1 [] ∧ TabAt (XC c mb) A mb lB ∧ Mod (XC c mb) H A ∧
   (k < 2 → mt' = Sl.mk none 0 0) ∧ (k = 2 → Ints .u64 A row' a1 ∧ (∀ a, row'.a = some a → ¬ XC c mb a.block) ∧ RowsX (XC c mb) A mt' [m] ∧ mt'.n ≤ mt'.c)) ⟨sA, row, Sl.mk none 0 0, h1, t1, m1, fun _ => rfl, fun q => by omega⟩ ?_
 rintro k _ A next hk ⟨sA', row', mt', hA, tA, mA, q1, q2⟩ hnext
 have hltm : mb < A.size := hA.lt _ (.inr (.inr (.inr (.inr (.inr rfl)))))
 simp only [optK_eq]
 refine RowT.ld (c := cSl) (i := 21) (x := mt') hA.jo rfl ?_
 by_cases hk2 : k < 2
 ·have hmt := q1 hk2
  subst hmt
  refine br_t rfl ?_
  refine lefts_ok hA (fun l r x B s2 hl hB mB ix ox => ?_) (fun hl _ _ _ => ?_)
  rotate_left
  ·exfalso
   have := congrArg List.length hl
   rw [List.length_drop] at this
   simp at this; omega
  have hlr : l = [a0, a1].getD k [] ∧ r = [a0, a1].drop (k + 1) := by
   rw [List.drop_eq_getElem_cons (show k < [a0, a1].length by simpa using hk2)] at hl
   obtain ⟨e1, e2⟩ := List.cons.inj hl
   exact ⟨by rw [List.getD, List.getElem?_eq_getElem (show k < [a0, a1].length by simpa using hk2)]; exact e1.symm, e2.symm⟩
  have hl2 : l.length = 2 := hA.a.cols l (by rw [hl]; exact List.mem_cons_self)
  have tB := tabMod tA mB (fun b u => .inr (.inr (.inl u))) (fun u => by have := hA.m.2.1; omega) hltm
  have mHB : Mod (XC c mb) H B := mA.trans (mB.mono fun b _ u => .inr (.inr (.inl u)))
  refine br_f rfl ?_
  refine key_ok (i := 2) hB.jo rfl ix hB.ca (by omega) fun kk C oC eC => ?_
  have hC := hB.ext eC
  have hjl := obj_lt hB.jo
  refine RowT.st hC.jo (i := 20) (by simp [joV]) rfl fun D rD mD zD => ?_
  have hD : JS c mb D true (some mb) lB.length x (Sl.mk none 0 0) false s2 r true sB1 [] := hC.ownJ mD rD
  have zC := eC.size
  have kkD : Ints .u64 D kk [l.getD 0 0] := (oC.mod mD fun b hb u => by have := (oC.block b hb).1; omega).ints
  have tD : TabAt (XC c mb) D mb lB := tabMod (tabMod tB (Ext.mod eC (F := fun _ => False)) (fun _ u => u.elim) id (hB.lt _ (.inr (.inr (.inr (.inr (.inr rfl))))))) mD (fun b u => .inl u) (fun u => jm u.symm) (hC.lt _ (.inr (.inr (.inr (.inr (.inr rfl))))))
  have ixD : Ints .u64 D x l := (ix.ext eC).mod mD fun ad ha u => (ox ad ha).2 (.inl u)
  have mHD : Mod (XC c mb) H D := mHB.trans ((Ext.mod eC).trans (mD.mono fun b _ u => .inl u))
  refine ⟨fun E => D = E, rfl, ?_⟩
  refine RowT.ldC (c := cMap) (i := 16) (x := some mb) (cs := fun _ => joV c true (some mb) lB.length x (Sl.mk none 0 0)) (fun E hE => hE ▸ rD) (fun _ _ => rfl) ?_
  refine hashSum_ok kkD (by simp) ⟨rfl, ?_⟩
  have hkey : sumW [l.getD 0 0] (-1) = keyN l := rfl
  rw [hkey]
  by_cases hk0 : k = 0
  ·subst hk0
   obtain ⟨le, rfl⟩ := hlr
   have le : a0 = l := le.symm
   subst le
   refine ⟨Sl.mk none 0 0, tD.miss fun l' hl' => ha0 l' hl', ?_⟩
   refine loop_upto 0 (fun _ z E => z = 0 ∧ D = E) ⟨rfl, rfl⟩ ?_
   rintro i _ _ next1 hi ⟨rfl, rfl⟩ _
   refine br_f rfl ?_
   exact hnext (by omega) _ _ ⟨s2, x, _, hD, tD, mHD, fun _ => rfl, fun q => by omega⟩
  ·have hk1 : k = 1 := by omega
   subst hk1
   obtain ⟨le, rfl⟩ := hlr
   have le : a1 = l := le.symm
   subst le
   obtain ⟨s3, g1, g2⟩ := tD.hit hm
   rw [hm1] at g1
   refine ⟨s3, g1, ?_⟩
   have g2n := g2.len
   have g2n : s3.n = 1 := g2n
   refine loop_upto 1 (fun i z E => z = (i : Int) ∧ (i = 0 → D = E) ∧ (i = 1 → ∃ mt2, JS c mb E true (some mb) lB.length x mt2 false s2 [] true sB1 [] ∧ TabAt (XC c mb) E mb lB ∧ Mod (XC c mb) D E ∧ RowsX (XC c mb) E mt2 [m] ∧ mt2.n ≤ mt2.c)) ⟨rfl, fun _ => rfl, fun q => by omega⟩ ?_
   rintro i _ E next1 hi ⟨rfl, i0, i1⟩ hnext1
   by_cases hi0 : i = 0
   ·subst hi0
    have hE := i0 rfl
    subst hE
    refine br_t (by rw [g2n]; rfl) ?_
    obtain ⟨ad, y, y1, y2, y3, y4⟩ := g2.at' 0 (by simp)
    refine optK_mk ad y1 ⟨⟨Int.le_refl _, by rw [g2n]; decide⟩, y, by simpa using y2, ?_⟩
    have y4 : Ints .u64 D y m := y4
    refine key_ok (i := 5) rD rfl y4 hD.cb (by omega) fun k2 E1 oE eE => ?_
    refine slicesEqual_ok oE.ints (kkD.ext eE) (by simp) ?_
    have hdec : decide ([m.getD 0 0] = [a1.getD 0 0]) = true := by
     rw [hm0]; exact decide_eq_true rfl
    rw [hdec]
    refine br_t rfl ?_
    have hE1 := hD.ext eE
    have zE := eE.size
    refine RowT.ld (c := cSl) (i := 21) (x := Sl.mk none 0 0) hE1.jo rfl ?_
    refine elRow.push (ty := Yam) (H := E1) (base := E1.size) (s := Sl.mk none 0 0) (xs := []) (v := y.v) (Owns.nil _ _ _ _) rfl (by decide) (by decide) (Nat.le_refl _) fun s4 E2 n4 o4 m4 b4 _ => ?_
    have eE2 : Ext E1 E2 := m4.ext fun b u => by obtain ⟨ad, ha, _⟩ := u; cases ha
    have hE2 := hE1.ext eE2
    refine RowT.st hE2.jo (i := 21) (by simp [joV]) rfl fun E3 r5 m5 z5 => ?_
    have hE3 : JS c mb E3 true (some mb) lB.length x s4 false s2 ([a0, a1].drop (1 + 1)) true sB1 [] := hE2.ownJ m5 r5
    have n4 : s4.n = 1 := n4
    have zE2 := eE2.size
    have hb4 := o4.block
    have mDE : Mod (XC c mb) D E3 := (Ext.mod eE).trans ((Ext.mod eE2).trans (m5.mono fun b _ u => .inl u))
    have rows4 : RowsX (XC c mb) E2 s4 [m] := by
     refine ⟨n4, fun ad ha => ?_, fun i hi => ?_⟩
     ·have := hb4 _ ⟨ad, ha, rfl⟩
      exact ⟨this.2, fun u => by have := hE1.lt _ u; omega⟩
     ·have hi0 : i = 0 := by simp at hi; omega
      subst hi0
      obtain ⟨ad, ha, hc⟩ := o4.reads.at (i := 0) (by simp)
      exact ⟨ad, y, ha, by simpa using hc, fun a q => ⟨by have := (y3 a q).1; omega, (y3 a q).2⟩, (y4.ext eE).ext eE2⟩
    have tE3 : TabAt (XC c mb) E3 mb lB := tD.mod mDE (by
     have hmD : mb < D.size := hD.lt _ (.inr (.inr (.inr (.inr (.inr rfl)))))
     rw [m5.same mb (by omega) (fun u => jm u.symm), eE2.same mb (by omega) id, eE.same mb hmD id])
    refine hnext1 (by omega) _ _ ⟨by rw [wrap64 (by decide) (by decide)]; rfl, fun q => by omega, fun _ => ⟨s4, hE3, tE3, mDE, rows4.mod (m5.mono fun b _ u => .inl u), o4.cap⟩⟩
   ·have hi1 : i = 1 := by omega
    subst hi1
    obtain ⟨mt2, jE, tE, mDE, rE, cE⟩ := i1 rfl
    refine br_f (by rw [g2n]; rfl) ?_
    exact hnext (by omega) _ _ ⟨s2, x, mt2, jE, tE, mHD.trans mDE, fun q => by omega, fun _ => ⟨ixD.mod mDE fun ad ha => (ox ad ha).2, fun a ha => (ox a ha).2, rE, cE⟩⟩
 ·have hke : k = 2 := by omega
  subst hke
  obtain ⟨i1, o1, r1, c1⟩ := q2 rfl
  have n1 : mt'.n = 1 := r1.len
  refine br_f (by rw [n1]; rfl) ?_
  refine RowT.ld (c := cSl) (i := 21) (x := mt') hA.jo rfl ?_
  obtain ⟨ad, y, y1, y2, y3, y4⟩ := r1.at' 0 (by simp)
  have y4 : Ints .u64 A y m := y4
  refine optK_mk ad y1 ⟨⟨Int.le_refl _, by rw [n1]; decide⟩, y, by simpa using y2, ?_⟩
  refine RowT.ld (c := cSl) (i := 21) (x := mt') hA.jo rfl ?_
  refine ⟨⟨by decide, by rw [n1]; decide⟩, ?_⟩
  refine RowT.st (v := Sl.v ⟨slA mt'.a mt'.c ((1 : Int).toNat) 1, mt'.n - ((1 : Int).toNat), mt'.c - ((1 : Int).toNat)⟩) hA.jo (i := 21) (by simp [joV]) rfl fun B rB mB zB => ?_
  have hB := hA.ownJ (row' := row') (mt' := ⟨slA mt'.a mt'.c ((1 : Int).toNat) 1, mt'.n - ((1 : Int).toNat), mt'.c - ((1 : Int).toNat)⟩) mB rB
  refine RowT.ld (c := cSl) (i := 20) (x := row') hB.jo rfl ?_
  have mBX : Mod (XC c mb) A B := mB.mono fun b _ u => .inl u
  refine hclone_ok (i1.mod mBX fun a ha => o1 a ha) (by omega) fun s C oC eC fC => ?_
  have hzA := mA.size
  have hzC := eC.size
  have hsn : s.n = 2 := by have := oC.1; simp at this; omega
  have y4n := y4.len
  refine elU64.append (base := 0) (s := s) (x := y) (xs := a1.map (Value.int .u64)) (ws := m.map (Value.int .u64)) oC (by simp; omega) ((y4.mod mBX fun a ha => (y3 a ha).2).ext eC).reads (intsOne _ _) (by omega) (by omega) (Nat.zero_le _) ?_
  intro s' D n2 o2 m2 b2 _
  have eD : Mod (XC c mb) B D := (Ext.mod eC).trans' m2 fun b hb u => by have := fC b u; omega
  have hD : JS c mb D true (some mb) lB.length row' ⟨slA mt'.a mt'.c ((1 : Int).toNat) 1, mt'.n - ((1 : Int).toNat), mt'.c - ((1 : Int).toNat)⟩ false sA' ([a0, a1].drop 2) true sB1 [] := by
   have e2 : Ext B D := (Ext.mod eC |>.trans m2).ext fun b u => fC b u
   exact hB.ext e2
  refine hK mb D s' row' _ sA' sB1 hD (by show mt'.n - 1 = 0; omega) ?_ (fun a ha => ?_) (mA.trans (mBX.trans eD)) hmb
  ·rw [← List.map_append] at o2
   exact o2.ints
  ·rcases b2 _ ⟨a, ha, rfl⟩ with v | v
   ·have := fC _ v
    exact ⟨by have := mBX.size; omega, fun u => by have := hB.lt _ u; omega⟩
   ·exact ⟨by have := mBX.size; omega, fun u => by have := hB.lt _ u; omega⟩
theorem next_none {row mt : Sl} {sA sB : Sl} {eB : Bool} {held : Int} {lB : List (List Int)} {K : (Sl × Bool × Int) → Heap → Prop} (h : JS c mb H true (some mb) held row mt false sA [] eB sB lB) (hmt : mt.n = 0)
  (hK : ∀ B, JS c mb B true (some mb) held row mt true sA [] eB sB lB → Mod (fun b => b = c.sa) H B → K (Sl.mk none 0 0, false, 0) B) : Zci.sp (some ⟨c.j, 0, none⟩) H K := by
 refine Zci.of ?_
 unfold Zci.vc
 refine ⟨fun _ A => H = A, ?_, ?_⟩
 ·simp only [optK_eq]
  refine RowT.ld (c := cBool) (i := 10) (x := true) h.jo rfl ?_
  exact br_f rfl (by first | rfl | trivial)
 rintro _ _ rfl
 refine loop_upto 0 (fun _ _ A => H = A) rfl ?_
 rintro i _ _ next hi rfl _
 simp only [optK_eq]
 refine RowT.ld (c := cSl) (i := 21) (x := mt) h.jo rfl ?_
 refine br_t (by rw [hmt]; rfl) ?_
 refine lefts_ok h (fun l r x B s hl => by cases hl) (fun _ B hB mB => ?_)
 exact br_t rfl (hK B hB mB)
end
theorem RowsX.of {X : Nat → Prop} {H : Heap} {base : Nat} {s : Sl} {rs : List Sl} {ls : List (List Int)} (h : RowsOwn H base s rs ls) (hX : ∀ b, (ownB s b ∨ ∃ r ∈ rs, ownB r b) → ¬ X b) : RowsX X H s ls := by
 obtain ⟨b1, b2⟩ := h.block
 refine ⟨h.n, fun ad ha => ?_, fun i hi => ?_⟩
 ·exact ⟨(b1 _ ⟨ad, ha, rfl⟩).2, hX _ (.inl ⟨ad, ha, rfl⟩)⟩
 ·have hir : i < rs.length := by rw [h.len]; exact hi
  obtain ⟨ad, ha, hc⟩ := h.out.reads.at (i := i) (by simpa using hir)
  refine ⟨ad, rs[i], ha, by simpa using hc, fun a q => ?_, (h.row i _ _ (List.getElem?_eq_getElem hir) (List.getElem?_eq_getElem hi)).ints⟩
  exact ⟨(b2 _ (List.getElem_mem hir) _ ⟨a, q, rfl⟩).2, hX _ (.inr ⟨_, List.getElem_mem hir, ⟨a, q, rfl⟩⟩)⟩
def feedV (j : Nat) : Value := .iface Yah (.pointer (some ⟨j, 0, none⟩))
def nextF (j : Nat) : Value := .func (.method "Next") #[feedV j] #[]
theorem Over_ok {w : Int} {j : Nat} {H : Heap} {K : Option Addr → Heap → Prop} (hK : ∀ A, RowT A H.size Yar (srcV w (nextF j) 0 (feedV j) false false) → Ext H A → A.size = H.size + 1 → K (some ⟨H.size, 0, none⟩) A) : Zdg.sp w (feedV j) H K := by
 refine Zdg.of ?_
 unfold Zdg.vc
 simp only [feedV, ifNil, nilChk]
 refine br_f rfl ?_
 show Zdj.sp w (Sl.mk none 0 0) (0 : Int) (.method "Next") #[feedV j] #[] H _
 refine made_ok fun A rA eA zA => ?_
 simp only [optK_eq]
 refine RowT.st rA (i := 4) (by simp [srcV]) rfl fun B rB mB zB => ?_
 exact hK B rB ((Ext.mod eA |>.trans mB).ext fun b u => by omega) (by omega)
theorem zc_side : (zc Tryz.prog Yax).size = 3 := by kernel_rfl
theorem size_side : sizeB Tryz.prog Yax 3 = true := by kernel_rfl
set_option maxRecDepth 100000 in
theorem none_ok {l : Sl} {H : Heap} {K : Bool → Heap → Prop} (h : Ints .i64 H l [0]) (hK : ∀ A, Ext H A → K false A) : Zdi.sp l 2 H K := by
 refine Zdi.of ?_
 unfold Zdi.vc
 refine newC_rowT fun H1 z1 r1 e1 => ?_
 refine ZaP.of ?_
 unfold ZaP.vc
 refine Zbj.of ?_
 unfold Zbj.vc
 have h1 := h.ext e1
 have hn : l.n = 1 := h.len
 refine loop_upto 1 (fun i z A => z = (i : Int) ∧ H1 = A) ⟨rfl, rfl⟩ ?_
 rintro i _ _ next hi ⟨rfl, rfl⟩ hnext
 refine br_mk (fun hc => ?_) (fun _ => ?_)
 ·have hi0 : i = 0 := by
   have : (i : Int) < (l.n : Int) := by simpa using hc
   omega
  subst hi0
  refine ints_get h1 (i := ((0 : Nat) : Int)) (j := 0) rfl (by decide) fun ad _ => ?_
  refine callB_fn #[.int .i64 0, .pointer (some ⟨H.size, 0, none⟩)] rfl (by kernel_rfl) ?_
  refine ZcW.of (c := 0) ?_
  unfold ZcW.vc
  refine br_f rfl ?_
  refine ⟨(2 : Int), r1.cell (i := 0) rfl, ?_⟩
  refine br_f rfl ?_
  exact hnext (by decide) _ _ ⟨by rw [wrap64 (by decide) (by decide)]; rfl, rfl⟩
 ·exact hK H1 e1
structure SrcB (H : Heap) (n sb : Nat) (w : Int) (s : Sl) (rs : List Sl) (ls : List (List Int)) : Prop where
 row : RowT H sb Yar (srcV w (fromF (n + 1) n) 0 .nilIface false false)
 cell : RowT H (n + 1) Yam #[s.v]
 wid : RowT H n YaM #[.int .i64 w]
 own : RowsOwn H (n + 2) s rs ls
 low : ∀ b, (ownB s b ∨ ∃ r ∈ rs, ownB r b) → b < sb
 lo : n + 2 ≤ sb
 hi : sb < H.size
theorem SrcB.ext {H A : Heap} {n sb : Nat} {w : Int} {s : Sl} {rs : List Sl} {ls : List (List Int)} (h : SrcB H n sb w s rs ls) (e : Ext H A) : SrcB A n sb w s rs ls :=
 ⟨h.row.ext e, h.cell.ext e, h.wid.ext e, h.own.ext e, h.low, h.lo, by have := e.size; have := h.hi; omega⟩
theorem SrcB.from {H : Heap} {n sb : Nat} {W : Nat} {s : Sl} {rs : List Sl} {ls : List (List Int)} {X : Nat → Prop} (h : SrcB H n sb W s rs ls) (hc : ∀ l ∈ ls, l.length = W) (h1 : X sb ∧ X (n + 1)) (h2 : ∀ b, n ≤ b → b < sb → X b → b = n + 1) : FromB X H sb (n + 1) n W false s ls := by
 have lo := h.lo
 refine ⟨h.row, h.cell, h.wid, RowsX.of h.own fun b hb u => ?_, h.own.out.cap, hc, ⟨h1.1, h1.2, fun u => by have := h2 n (Nat.le_refl _) (by omega) u; omega⟩, by omega⟩
 have hlow := h.low b hb
 have hb2 : n + 2 ≤ b := by
  rcases hb with v | ⟨r, hr, v⟩
  ·exact (h.own.block.1 b v).1
  ·exact (h.own.block.2 r hr b v).1
 have := h2 b (by omega) hlow u
 omega
set_option maxRecDepth 100000 in
set_option maxHeartbeats 4000000 in
theorem Join_ok {pb na sa nb sb : Nat} {pcs : Array Value} {acols bcols sA sB : Sl} {rsA rsB : List Sl} {lA lB : List (List Int)} {H : Heap} {K : (Option Addr × Int) → Heap → Prop}
  (hp : RowT H pb YaD pcs) (hp1 : pcs[1]? = some (.int .i64 8)) (ha : SrcB H na sa 2 sA rsA lA) (hb : SrcB H nb sb 2 sB rsB lB) (hab : sa < nb) (hca : ∀ l ∈ lA, l.length = 2) (hcb : ∀ l ∈ lB, l.length = 2) (hac : Ints .i64 H acols [0]) (hbc : Ints .i64 H bcols [0])
  (hK : ∀ (c : Cfg) so A, RowT A so Yar (srcV 4 (nextF c.j) 0 (feedV c.j) false false) → JS c c.j A false none 0 (Sl.mk none 0 0) (Sl.mk none 0 0) false sA lA false sB lB → ¬ XC c c.j so → so < A.size → Ext H A → (∀ b, XC c c.j b → na ≤ b) → na ≤ so → K (some ⟨so, 0, none⟩, 0) A) :
  Zde.sp (some ⟨pb, 0, none⟩) hNm (some ⟨sa, 0, none⟩) (some ⟨sb, 0, none⟩) acols bcols 3 H K := by
 refine Zde.of ?_
 unfold Zde.vc
 have an : acols.n = 1 := hac.len
 have bn : bcols.n = 1 := hbc.len
 have r2 : roomL 2 = 31 := by decide
 refine ⟨fun _ A => Ext H A, ?_, ?_⟩
 ·refine ⟨fun b A => b = false ∧ H = A, br_f rfl (br_f rfl ⟨rfl, rfl⟩), ?_⟩
  rintro _ _ ⟨rfl, rfl⟩
  refine br_f rfl ?_
  refine ⟨fun b A => b = false ∧ H = A, ?_, ?_⟩
  ·refine width_ok ha.row (rowRoom_ok ?_)
   rw [r2]
   refine br_f rfl ?_
   refine width_ok hb.row (rowRoom_ok ?_)
   rw [r2]
   exact ⟨rfl, rfl⟩
  rintro _ _ ⟨rfl, rfl⟩
  refine br_f rfl ?_
  refine ⟨fun b A => b = false ∧ Ext H A, ?_, ?_⟩
  ·refine br_f (by rw [an, bn]; rfl) ?_
   refine width_ok ha.row ?_
   refine none_ok hac fun A1 e1 => ?_
   refine br_f rfl ?_
   refine width_ok (hb.row.ext e1) ?_
   exact none_ok (hbc.ext e1) fun A2 e2 => ⟨rfl, e1.trans e2⟩
  rintro _ A ⟨rfl, eA⟩
  refine br_f rfl ?_
  refine ⟨fun b B => b = false ∧ Ext H B, ?_, ?_⟩
  ·refine br_f rfl ?_
   refine Zcc.of ?_
   unfold Zcc.vc
   refine br_f rfl ?_
   simp only [optK_eq]
   refine RowT.ld (c := cInt .i64) (i := 1) (x := 8) (hp.ext eA) hp1 ?_
   exact ⟨rfl, eA⟩
  rintro _ B ⟨rfl, eB⟩
  exact br_f rfl eB
 rintro _ H1 e1
 have z1 := e1.size
 refine hcloneI_ok (hac.ext e1) (by simp) fun ca H2 oA e2 fA => ?_
 have e12 := e1.trans e2
 refine width_ok (ha.row.ext e12) ?_
 refine newC_rowT fun H3 z3 r3 e3 => ?_
 refine RowT.stAll r3 size_side zc_side (by intro v hv; simp at hv; rcases hv with rfl | rfl | rfl <;> rfl) fun H4 r4 m4 z4 => ?_
 have e24 : Ext H2 H4 := (Ext.mod e3 |>.trans m4).ext fun b u => by omega
 have e14 := e12.trans e24
 refine hcloneI_ok (hbc.ext e14) (by simp) fun cb H5 oB e5 fB => ?_
 have e15 := e14.trans e5
 refine width_ok (hb.row.ext e15) ?_
 refine newC_rowT fun H6 z6 r6 e6 => ?_
 refine RowT.stAll r6 size_side zc_side (by intro v hv; simp at hv; rcases hv with rfl | rfl | rfl <;> rfl) fun H7 r7 m7 z7 => ?_
 have z2 := e2.size
 have z5 := e5.size
 have e57 : Ext H5 H7 := (Ext.mod e6 |>.trans m7).ext fun b u => by omega
 have r47 : RowT H7 H2.size Yax _ := (r4.ext e5).ext e57
 refine RowT.ld (c := cInt .i64) (i := 2) (x := 2) r47 rfl ?_
 refine RowT.ld (c := cInt .i64) (i := 2) (x := 2) r7 rfl ?_
 refine RowT.ldA (c := cAgg [cPtr, cSl, (cInt .i64)]) (n := 3) (x := (some ⟨sa, 0, none⟩, ca, 2)) r47 rfl rfl ?_
 refine RowT.ldA (c := cAgg [cPtr, cSl, (cInt .i64)]) (n := 3) (x := (some ⟨sb, 0, none⟩, cb, 2)) r7 rfl rfl ?_
 refine newC_rowT fun H8 z8 r8 e8 => ?_
 refine Over_ok (j := H7.size) fun H9 r9 e9 z9 => ?_
 have e17 := (e15.trans e57)
 have e79 := e8.trans e9
 have eAll := e17.trans e79
 have haA := ha.ext eAll
 have hbA := hb.ext eAll
 have a1 := ha.lo
 have a2 := ha.hi
 have b1 := hb.lo
 have b2 := hb.hi
 obtain ⟨c, hc⟩ : ∃ c : Cfg, c = ⟨pb, sa, na + 1, na, sb, nb + 1, nb, H7.size, ca, cb⟩ := ⟨_, rfl⟩
 have cj : c.j = H7.size := by rw [hc]
 have csa : c.sa = sa := by rw [hc]
 have cla : c.la = na + 1 := by rw [hc]
 have csb : c.sb = sb := by rw [hc]
 have clb : c.lb = nb + 1 := by rw [hc]
 have xc : ∀ b, XC c c.j b ↔ b = H7.size ∨ b = sa ∨ b = na + 1 ∨ b = sb ∨ b = nb + 1 := fun b => by
  unfold XC
  rw [cj, csa, cla, csb, clb]
  omega
 have jr : RowT H9 c.j Yaq (joV c false none 0 (Sl.mk none 0 0) (Sl.mk none 0 0)) := by
  rw [cj]
  have := r8.ext e9
  rw [hc]
  exact this
 have r9' : RowT H9 H8.size Yar (srcV 4 (nextF c.j) 0 (feedV c.j) false false) := by rw [cj]; exact r9
 have caI : Ints .i64 H9 ca [0] := ((((oA.ext e24).ext e5).ext e57).ext e79).ints
 have cbI : Ints .i64 H9 cb [0] := ((oB.ext e57).ext e79).ints
 have z57 := e57.size
 have js : JS c c.j H9 false none 0 (Sl.mk none 0 0) (Sl.mk none 0 0) false sA lA false sB lB := by
  refine ⟨jr, ?_, ?_, by rw [hc]; exact caI, fun a q => ?_, by rw [hc]; exact cbI, fun a q => ?_, ?_, ?_, fun b u => ?_⟩
  ·have := haA.from (X := XC c c.j) hca ⟨(xc _).2 (.inr (.inl rfl)), (xc _).2 (.inr (.inr (.inl rfl)))⟩ fun b h1 h2 u => by
    have := (xc b).1 u
    omega
   rw [hc] at this ⊢; exact this
  ·have := hbA.from (X := XC c c.j) hcb ⟨(xc _).2 (.inr (.inr (.inr (.inl rfl)))), (xc _).2 (.inr (.inr (.inr (.inr rfl))))⟩ fun b h1 h2 u => by
    have := (xc b).1 u
    omega
   rw [hc] at this ⊢; exact this
  ·rw [xc]
   have h1 := fA a.block ⟨a, by rw [hc] at q; exact q, rfl⟩
   have h2 := (oA.block a.block ⟨a, by rw [hc] at q; exact q, rfl⟩).2
   omega
  ·rw [xc]
   have h1 := fB a.block ⟨a, by rw [hc] at q; exact q, rfl⟩
   have h2 := (oB.block a.block ⟨a, by rw [hc] at q; exact q, rfl⟩).2
   omega
  ·rw [cj, csa, cla, csb, clb]; omega
  ·rw [cj, csa, cla, csb, clb]; omega
  ·have := (xc b).1 u; omega
 exact hK c H8.size H9 r9' js (fun u => by have := (xc _).1 u; omega) (by omega) eAll (fun b u => by have := (xc b).1 u; omega) (by omega)
section
variable {H : Heap}
theorem hdisk_ok {q : Int} {K : Option Addr → Heap → Prop} (hK : ∀ k A, Ext H A → K (some ⟨k, 0, none⟩) A) : Zdp.sp q H K := by
 refine Zdp.of ?_
 unfold Zdp.vc
 refine newM_map (d := .string) fun H1 z1 m1 e1 => ?_
 exact newC_rowT fun H2 z2 r2 e2 => hK _ H2 (e1.trans e2)
theorem hpool_ok {d : Nat} {K : (Option Addr × Int) → Heap → Prop} (hK : ∀ k A pcs, RowT A k YaD pcs → pcs[1]? = some (.int .i64 8) → Ext H A → K (some ⟨k, 0, none⟩, 0) A) : Zdl.sp (some ⟨d, 0, none⟩) 8 H K := by
 refine Zdl.of ?_
 unfold Zdl.vc
 refine br_f rfl (br_f rfl (br_f rfl ?_))
 refine newM_map (d := .string) fun H1 z1 m1 e1 => ?_
 refine newM_map (d := .string) fun H2 z2 m2 e2 => ?_
 exact newC_rowT fun H3 z3 r3 e3 => hK _ H3 _ r3 rfl ((e1.trans e2).trans e3)
theorem two_words {k : Nat} {x y : Int} (r : RowT H k YaJ #[.int .u64 x, .int .u64 y]) : Ints .u64 H ⟨some ⟨k, 0, none⟩, 2, 2⟩ [x, y] := by
 refine ⟨rfl, fun i u hu => ⟨_, rfl, ?_⟩⟩
 have hi : i = 0 ∨ i = 1 := by have := (List.getElem?_eq_some_iff.1 hu).1; simp at this; omega
 rcases hi with rfl | rfl
 ·simp at hu; subst hu
  rw [add_lit0]; exact r.cell rfl
 ·simp at hu; subst hu
  rw [add_lit0]; exact r.cell rfl
theorem two_rows {k a b : Nat} {l m : List Int} (r : RowT H k YaB #[.slice (some ⟨a, 0, none⟩) 2 2, .slice (some ⟨b, 0, none⟩) 2 2]) (hl : Ints .u64 H ⟨some ⟨a, 0, none⟩, 2, 2⟩ l) (hm : Ints .u64 H ⟨some ⟨b, 0, none⟩, 2, 2⟩ m) : Rows H ⟨some ⟨k, 0, none⟩, 2, 2⟩ [l, m] := by
 refine ⟨rfl, fun i hi => ?_⟩
 have hi : i = 0 ∨ i = 1 := by simp at hi; omega
 rcases hi with rfl | rfl
 ·exact ⟨_, ⟨some ⟨a, 0, none⟩, 2, 2⟩, rfl, by rw [add_lit0]; exact r.cell rfl, hl⟩
 ·exact ⟨_, ⟨some ⟨b, 0, none⟩, 2, 2⟩, rfl, by rw [add_lit0]; exact r.cell rfl, hm⟩
theorem one_int {k : Nat} {x : Int} (r : RowT H k YaM #[.int .i64 x]) : Ints .i64 H ⟨some ⟨k, 0, none⟩, 1, 1⟩ [x] := by
 refine ⟨rfl, fun i u hu => ⟨_, rfl, ?_⟩⟩
 have hi : i = 0 := by have := (List.getElem?_eq_some_iff.1 hu).1; simp at this; omega
 subst hi
 simp at hu; subst hu
 rw [add_lit0]; exact r.cell rfl
theorem four_words {k : Nat} {x y z w : Int} (r : RowT H k YaJ #[.int .u64 x, .int .u64 y, .int .u64 z, .int .u64 w]) : Ints .u64 H ⟨some ⟨k, 0, none⟩, 4, 4⟩ [x, y, z, w] := by
 refine ⟨rfl, fun i u hu => ⟨_, rfl, ?_⟩⟩
 have hi : i = 0 ∨ i = 1 ∨ i = 2 ∨ i = 3 := by have := (List.getElem?_eq_some_iff.1 hu).1; simp at this; omega
 rcases hi with rfl | rfl | rfl | rfl <;>
 ·simp at hu; subst hu
  rw [add_lit0]; exact r.cell rfl
theorem from_two {x y z w : Int} {K : Option Addr → Heap → Prop} (hK : ∀ n sb s rs A, SrcB A n sb 2 s rs [[x, y], [z, w]] → Ext H A → H.size ≤ n → K (some ⟨sb, 0, none⟩) A) :
  newC H #[(.int .u64 x), (.int .u64 y)] YaJ fun p H3 => newC H3 #[(.int .u64 z), (.int .u64 w)] YaJ fun p_1 H4 => newC H4 #[(.slice (some p) 2 2), (.slice (some p_1) 2 2)] YaB fun p_2 H5 => Zdf.sp (Sl.mk (some p_2) 2 2) (2 : Int) H5 K := by
 refine newC_rowT fun H1 z1 r1 e1 => ?_
 refine newC_rowT fun H2 z2 r2 e2 => ?_
 refine newC_rowT fun H3 z3 r3 e3 => ?_
 have rows := two_rows r3 ((two_words r1).ext (e2.trans e3)) ((two_words r2).ext e3)
 have e13 := (e1.trans e2).trans e3
 refine From_ok rows (by simp) (fun l hl => by simp at hl; rcases hl with rfl | rfl <;> simp) fun sb lb wb s rs A row cell wid own low eA hw hl lo hi => ?_
 subst hw; subst hl
 rw [if_neg (by decide)] at row
 exact hK H3.size sb s rs A ⟨row, cell, wid, own, low, lo, hi⟩ (e13.trans eA) (by omega)
theorem meth_next : methOf Tryz.prog Yah "Next" = some Zci.no := by kernel_rfl
theorem call_next : callable Tryz.prog Zci.no = true := by kernel_rfl
set_option maxHeartbeats 2000000 in
set_option maxRecDepth 100000 in
theorem hworks_ok {K : Bool → Heap → Prop} (hK : ∀ B, Ext H B → K true B) : ZbU.sp H K := by
 refine ZbU.of ?_
 unfold ZbU.vc
 refine hdisk_ok fun d H1 e1 => ?_
 refine hpool_ok fun pb H2 pcs rp hp1 e2 => ?_
 refine from_two fun na sa sA rsA H6 srcA e6 hna => ?_
 refine from_two fun nb sb sB rsB H10 srcB e10 hnb => ?_
 refine newC_rowT fun H11 z11 r11 e11 => ?_
 refine newC_rowT fun H12 z12 r12 e12 => ?_
 have e1012 := e11.trans e12
 have e612 := e10.trans e1012
 have ahi := srcA.hi
 refine Join_ok (rp.ext (e6.trans e612)) hp1 (srcA.ext e612) (srcB.ext e1012) (by omega) (fun l hl => by simp at hl; rcases hl with rfl | rfl <;> rfl) (fun l hl => by simp at hl; rcases hl with rfl | rfl <;> rfl) ((one_int r11).ext e12) (one_int r12) fun c so A rso js hso hsl eA hna2 hso2 => ?_
 have e0A : Ext H A := (((e1.trans e2).trans e6).trans e612).trans eA
 have z0 := (e1.trans e2).size
 refine br_f rfl (br_f rfl ?_)
 -- the first pair
 refine next_src rso (callV_meth meth_next call_next ?_)
 refine next_pair (m := [2, 8]) js (by decide) (by decide +kernel) (by decide +kernel) (by simp) rfl rfl fun mb B s row' mt' sA' sB' hB hmt is hs mB hmb => ?_
 have zB := mB.size
 have xcj : ∀ b, XC c mb b → XC c c.j b ∨ b = mb := fun b u => by
  unfold XC at u ⊢
  omega
 have soX : ¬ XC c mb so := fun u => by
  rcases xcj so u with v | v
  ·exact hso v
  ·omega
 have rsoB : RowT B so Yar (srcV 4 (nextF c.j) 0 (feedV c.j) false false) := rso.mod mB soX
 refine ⟨rsoB, fun u => by rcases u with u | u <;> simp at u, fun _ _ => ?_⟩
 -- no more
 refine next_src rsoB (callV_meth meth_next call_next ?_)
 refine next_none hB hmt fun C hC mC => ?_
 have hsaX : XC c mb c.sa := .inr (.inl rfl)
 have rsoC : RowT C so Yar (srcV 4 (nextF c.j) 0 (feedV c.j) false false) := rsoB.mod mC fun u => soX (u ▸ hsaX)
 refine ⟨rsoC, fun _ D rD mD zD => ?_, fun _ u => by cases u⟩
 refine br_t rfl ?_
 refine width_ok rD ?_
 refine br_t rfl ?_
 refine newC_rowT fun E zE rE eE => ?_
 have zC := mC.size
 have isE : Ints .u64 E s [2, 6, 2, 8] := ((is.mod mC fun a ha u => (hs a ha).2 (u ▸ hsaX)).mod mD fun a ha u => by have := (hs a ha).1; omega).ext eE
 refine SameRow_ok isE (four_words rE) (by decide) ?_
 refine br_t (by decide) ?_
 refine hashSum_ok (ll := []) ⟨rfl, fun i v hv => by simp at hv⟩ (by simp) ?_
 have hs0 : (sumW [] 0 == (14695981039346656037 : Int)) = true := by decide +kernel
 rw [hs0]
 refine hK E ⟨?_, fun b hb _ => ?_⟩
 ·have := e0A.size; have := eE.size; omega
 ·have hz := e0A.size
  have nb : ∀ x, XC c mb x → H.size ≤ x := fun x u => by
   rcases xcj x u with v | v
   ·have := hna2 x v; omega
   ·omega
  rw [eE.same b (by omega) id, mD.same b (by omega) fun u => by omega, mC.same b (by omega) fun u => by have := nb _ hsaX; omega, mB.same b (by omega) fun u => by have := nb _ u; omega]
  exact e0A.same b hb id
end
set_option maxRecDepth 100000 in
theorem hnone_ok [Tab] {l : Sl} {cl : List Int} {w : Int} {H : Heap} {K : Bool → Heap → Prop} (h : Ints .i64 H l cl) (hl : cl.length ≤ 1000) (hc : ∀ c ∈ cl, 0 ≤ c ∧ c < w) (hK : ∀ A, Ext H A → K false A) : Zdi.sp l w H K := by
 refine Zdi.of ?_
 unfold Zdi.vc
 refine newC_rowT fun H1 z1 r1 e1 => ?_
 refine ZaP.of ?_
 unfold ZaP.vc
 refine Zbj.of ?_
 unfold Zbj.vc
 have h1 := h.ext e1
 have hn : l.n = cl.length := h.len
 refine loop_upto cl.length (fun i z A => z = (i : Int) ∧ H1 = A) ⟨rfl, rfl⟩ ?_
 rintro i _ _ next hi ⟨rfl, rfl⟩ hnext
 refine br_mk (fun hc' => ?_) (fun _ => ?_)
 ·have hi0 : i < cl.length := by
   have : (i : Int) < (l.n : Int) := of_decide_eq_true hc'
   omega
  have hg : cl.getD i 0 = cl[i] := by simp [List.getD, List.getElem?_eq_getElem hi0]
  obtain ⟨q1, q2⟩ := hc _ (List.getElem_mem hi0)
  refine ints_get h1 (i := ((i : Nat) : Int)) (j := i) rfl hi0 fun ad _ => ?_
  rw [hg]
  refine callB_fn #[.int .i64 cl[i], .pointer (some ⟨H.size, 0, none⟩)] rfl (by kernel_rfl) ?_
  refine ZcW.of (c := cl[i]) ?_
  unfold ZcW.vc
  refine br_f (decide_eq_false (by omega)) ?_
  refine ⟨w, r1.cell (i := 0) rfl, ?_⟩
  refine br_f (decide_eq_false (by omega)) ?_
  exact hnext hi0 _ _ ⟨succ64 i (by omega), rfl⟩
 ·exact hK H1 e1
section
variable {H0 A B H : Heap} {dp Q most U m : Nat} {n : Int} {cla clb Kk : List Int} {F : Nat → Prop} {s : Pl} 
set_option maxRecDepth 100000 in
set_option maxHeartbeats 4000000 in
theorem hJoin_ok [Tab] {pb na sa nb sb : Nat} {acols bcols sA sB : Sl} {rsA rsB : List Sl} {lA lB : List (List Int)} {K : (Option Addr × Int) → Heap → Prop}
  (hP : PoolM H0 H F pb dp s (fun _ => none) Q U most m) (h8 : s.most = 8) (hF : ∀ b, F b → b < na) (hz : H0.size ≤ na) (ha : SrcB H na sa 16 sA rsA lA) (hb : SrcB H nb sb 16 sB rsB lB) (hab : sa < nb) (hca : ∀ l ∈ lA, l.length = 16) (hcb : ∀ l ∈ lB, l.length = 16) (hac : Ints .i64 H acols cla) (hbc : Ints .i64 H bcols clb) (hlen : cla.length = clb.length) (hl : cla.length ≤ 100) (hra : ∀ c ∈ cla, 0 ≤ c ∧ c < 16) (hrb : ∀ c ∈ clb, 0 ≤ c ∧ c < 16)
  (hK : ∀ (c : Cfg) so A, RowT A so Yar (srcV 32 (nextF c.j) 0 (feedV c.j) false false) → TS H0 c dp Q most cla clb Kk A F s (fun _ => none) U m x00 [] [] [] →
   FrJ H0 A F (fun b => b = c.sa ∨ b = c.la) (fun b => b = c.j ∨ b = c.sb ∨ b = c.lb) c.sa c.la c.wa lA → FrJ H0 A F (fun b => b = c.sb ∨ b = c.lb) (fun b => b = c.j ∨ b = c.sa ∨ b = c.la) c.sb c.lb c.wb lB → Ext H A → H.size ≤ so → c.j < so → (∀ b, (b = c.j ∨ b = c.sa ∨ b = c.la ∨ b = c.sb ∨ b = c.lb) → na ≤ b ∧ b < so) → K (some ⟨so, 0, none⟩, 0) A) :
  Zde.sp (some ⟨pb, 0, none⟩) hNm (some ⟨sa, 0, none⟩) (some ⟨sb, 0, none⟩) acols bcols 3 H K := by
 refine Zde.of ?_
 unfold Zde.vc
 have an : acols.n = cla.length := hac.len
 have bn : bcols.n = clb.length := hbc.len
 have r2 : roomL 16 = 3 := by decide
 refine ⟨fun _ A => Ext H A, ?_, ?_⟩
 ·refine ⟨fun b A => b = false ∧ H = A, br_f rfl (br_f rfl ⟨rfl, rfl⟩), ?_⟩
  rintro _ _ ⟨rfl, rfl⟩
  refine br_f rfl ?_
  refine ⟨fun b A => b = false ∧ H = A, ?_, ?_⟩
  ·refine width_ok ha.row (rowRoom_ok ?_)
   rw [r2]
   refine br_f rfl ?_
   refine width_ok hb.row (rowRoom_ok ?_)
   rw [r2]
   exact ⟨rfl, rfl⟩
  rintro _ _ ⟨rfl, rfl⟩
  refine br_f rfl ?_
  refine ⟨fun b A => b = false ∧ Ext H A, ?_, ?_⟩
  ·refine br_f (by rw [an, bn, hlen]; simp) ?_
   refine width_ok ha.row ?_
   refine hnone_ok hac (by omega) hra fun A1 e1 => ?_
   refine br_f rfl ?_
   refine width_ok (hb.row.ext e1) ?_
   exact hnone_ok (hbc.ext e1) (by omega) hrb fun A2 e2 => ⟨rfl, e1.trans e2⟩
  rintro _ A ⟨rfl, eA⟩
  refine br_f rfl ?_
  refine ⟨fun b B => b = false ∧ Ext H B, ?_, ?_⟩
  ·refine br_f rfl ?_
   refine Frames_ok (hP.grow eA).pool ?_
   rw [h8]
   exact ⟨rfl, eA⟩
  rintro _ B ⟨rfl, eB⟩
  exact br_f rfl eB
 rintro _ H1 e1
 have z1 := e1.size
 refine hcloneI_ok (hac.ext e1) (by omega) fun ca H2 oA e2 fA => ?_
 have e12 := e1.trans e2
 refine width_ok (ha.row.ext e12) ?_
 refine newC_rowT fun H3 z3 r3 e3 => ?_
 refine RowT.stAll r3 size_side zc_side (by intro v hv; simp at hv; rcases hv with rfl | rfl | rfl <;> rfl) fun H4 r4 m4 z4 => ?_
 have e24 : Ext H2 H4 := (Ext.mod e3 |>.trans m4).ext fun b u => by omega
 have e14 := e12.trans e24
 refine hcloneI_ok (hbc.ext e14) (by omega) fun cb H5 oB e5 fB => ?_
 have e15 := e14.trans e5
 refine width_ok (hb.row.ext e15) ?_
 refine newC_rowT fun H6 z6 r6 e6 => ?_
 refine RowT.stAll r6 size_side zc_side (by intro v hv; simp at hv; rcases hv with rfl | rfl | rfl <;> rfl) fun H7 r7 m7 z7 => ?_
 have z2 := e2.size
 have z5 := e5.size
 have e57 : Ext H5 H7 := (Ext.mod e6 |>.trans m7).ext fun b u => by omega
 have r47 : RowT H7 H2.size Yax _ := (r4.ext e5).ext e57
 refine RowT.ld (c := cInt .i64) (i := 2) (x := 16) r47 rfl ?_
 refine RowT.ld (c := cInt .i64) (i := 2) (x := 16) r7 rfl ?_
 refine RowT.ldA (c := cAgg [cPtr, cSl, (cInt .i64)]) (n := 3) (x := (some ⟨sa, 0, none⟩, ca, 16)) r47 rfl rfl ?_
 refine RowT.ldA (c := cAgg [cPtr, cSl, (cInt .i64)]) (n := 3) (x := (some ⟨sb, 0, none⟩, cb, 16)) r7 rfl rfl ?_
 refine newC_rowT fun H8 z8 r8 e8 => ?_
 refine Over_ok (j := H7.size) fun H9 r9 e9 z9 => ?_
 have e17 := (e15.trans e57)
 have e79 := e8.trans e9
 have eAll := e17.trans e79
 have haA := ha.ext eAll
 have hbA := hb.ext eAll
 have a1 := ha.lo
 have a2 := ha.hi
 have b1 := hb.lo
 have b2 := hb.hi
 have z57 := e57.size
 have z17 := e17.size
 obtain ⟨c, hc⟩ : ∃ c : Cfg, c = ⟨pb, sa, na + 1, na, sb, nb + 1, nb, H7.size, ca, cb⟩ := ⟨_, rfl⟩
 have cj : c.j = H7.size := by rw [hc]
 have csa : c.sa = sa := by rw [hc]
 have cla' : c.la = na + 1 := by rw [hc]
 have csb : c.sb = sb := by rw [hc]
 have clb' : c.lb = nb + 1 := by rw [hc]
 have cwa : c.wa = na := by rw [hc]
 have cwb : c.wb = nb := by rw [hc]
 have cpb : c.pb = pb := by rw [hc]
 have cca : c.ca = ca := by rw [hc]
 have ccb : c.cb = cb := by rw [hc]
 have jr : RowT H9 c.j Yaq (joW c x00) := by
  have := r8.ext e9
  subst hc
  exact this
 have r9' : RowT H9 H8.size Yar (srcV 32 (nextF c.j) 0 (feedV c.j) false false) := by rw [cj]; exact r9
 have hP9 := hP.grow eAll
 have nF : ∀ {b : Nat}, na ≤ b → ¬ F b := fun {b} hb u => by have := hF b u; omega
 have oA9 : Owns H9 0 YaM 1 ca (cla.map (Value.int .i64)) := ((oA.ext e24).ext e5).ext e57 |>.ext e79
 have oB9 : Owns H9 0 YaM 1 cb (clb.map (Value.int .i64)) := (oB.ext e57).ext e79
 have hsz := hP.ext.size
 have T : TS H0 c dp Q most cla clb Kk H9 F s (fun _ => none) U m x00 [] [] [] := by
  refine ⟨by rw [cpb]; exact hP9, jr, ⟨by omega, nF (by omega)⟩, SlE.nil _ _ _, fun b u => absurd u (nilOwn b), Owns.nil _ _ _ _, fun b u => absurd u (nilOwn b), fun q hq => (by cases hq), Nat.le_refl _, fun f hf => (by cases hf), List.nodup_nil, fun a y h => (by cases h), ⟨[], OwnT.nil _ _⟩, fun b u => absurd u (nilOwn b), by rw [cca]; exact oA9, fun b u => ?_, by rw [ccb]; exact oB9, fun b u => ?_, fun t ht => (by cases ht)⟩
  ·rw [cca] at u; have := fA b u; exact nF (by omega)
  ·rw [ccb] at u; have := fB b u; exact nF (by omega)
 have fa : FrJ H0 H9 F (fun b => b = c.sa ∨ b = c.la) (fun b => b = c.j ∨ b = c.sb ∨ b = c.lb) c.sa c.la c.wa lA := by
  rw [csa, cla', cwa]
  refine ⟨⟨false, sA, haA.from hca ⟨.inr (.inr (.inl rfl)), .inr (.inr (.inr rfl))⟩ fun b h1 h2 u => ?_, fun u => by cases u⟩, ⟨.inl rfl, .inr rfl⟩, fun b u => ?_⟩
  ·rcases u with u | (u | u | u) | u | u
   ·exact absurd u (nF h1)
   ·omega
   ·omega
   ·omega
   ·omega
   ·exact u
  ·have hb0 : na ≤ b ∧ b ≤ sa := by omega
   refine ⟨by omega, by omega, nF hb0.1, fun v => ?_⟩
   rcases v with v | v | v <;> omega
 have fb : FrJ H0 H9 F (fun b => b = c.sb ∨ b = c.lb) (fun b => b = c.j ∨ b = c.sa ∨ b = c.la) c.sb c.lb c.wb lB := by
  rw [csb, clb', cwb]
  refine ⟨⟨false, sB, hbA.from hcb ⟨.inr (.inr (.inl rfl)), .inr (.inr (.inr rfl))⟩ fun b h1 h2 u => ?_, fun u => by cases u⟩, ⟨.inl rfl, .inr rfl⟩, fun b u => ?_⟩
  ·rcases u with u | (u | u | u) | u | u
   ·exact absurd u (nF (by omega))
   ·omega
   ·omega
   ·omega
   ·omega
   ·exact u
  ·have hb0 : nb ≤ b ∧ b ≤ sb := by omega
   refine ⟨by omega, by omega, nF (by omega), fun v => ?_⟩
   rcases v with v | v | v <;> omega
 exact hK c H8.size H9 r9' T fa fb eAll (by omega) (by omega) fun b u => by
  rcases u with u | u | u | u | u <;> omega
end
def blkL (s : Sl) : List Nat := match s.a with | none => [] | some ad => [ad.block]
theorem blkL_iff {s : Sl} {b : Nat} : b ∈ blkL s ↔ ownB s b := by
 unfold blkL
 cases h : s.a with
 | none => exact ⟨fun u => (by cases u), fun ⟨ad, e, _⟩ => by rw [h] at e; cases e⟩
 | some ad => exact ⟨fun u => ⟨ad, h, (List.mem_singleton.1 u).symm⟩, fun ⟨ad', e, q⟩ => by rw [h] at e; cases e; exact List.mem_singleton.2 q.symm⟩
section
variable {H0 A B : Heap} {c : Cfg} {dp Q most U m so N : Nat} {n : Int} {cla clb Kk : List Int} {F : Nat → Prop} {s : Pl} {RA RB : List (List Int)}
theorem tld_len : (tldL RB RA).length = RA.length * RB.length := by
 unfold tldL
 split
 ·exact pairL_len _ _
 ·rw [(passL_perm (by decide) RB RA).length_eq, pairL_len]
set_option maxRecDepth 100000 in
set_option maxHeartbeats 8000000 in
theorem hrest_ok [Tab] {K : (Sl × Int × Bool) → Heap → Prop} (T : TS H0 c dp Q most cla clb Kk A F s (fun _ => none) U m x00 [] [] []) (hg : Gl H0) (hQ : Q ≤ 1048576) (hcl : cla.length ≤ 1000 ∧ clb.length ≤ 1000) (hKl : Kk.length ≤ 1000) (hKn : sumW Kk (-1) = n) (hU : U + 6000 < Q) (hm : m ≤ 1000)
  (fa : FrJ H0 A F (fun b => b = c.sa ∨ b = c.la) (fun b => b = c.j ∨ b = c.sb ∨ b = c.lb) c.sa c.la c.wa RA) (fb : FrJ H0 A F (fun b => b = c.sb ∨ b = c.lb) (fun b => b = c.j ∨ b = c.sa ∨ b = c.la) c.sb c.lb c.wb RB)
  (hRA : ∀ r ∈ RA, turnL r cla = Kk ∧ r.length = 16 ∧ fitsL r) (hRB : ∀ r ∈ RB, turnL r clb = Kk ∧ r.length = 16 ∧ fitsL r) (hla : RA.length ≤ 300) (hlb : RB.length ≤ 300)
  (rso : RowT A so Yar (srcV 32 (nextF c.j) 0 (feedV c.j) false false)) (hso : H0.size ≤ so ∧ ¬ F so) (hsx : ∀ b, (b = c.j ∨ b = c.sa ∨ b = c.la ∨ b = c.sb ∨ b = c.lb) → b < so) (hN : (tldL RB RA).length = N) (hN2 : N ≤ 12000)
  (hK : ∀ out B F' s' M' U' m' x' bl', TS H0 c dp Q most cla clb Kk B F' s' M' U' m' x' bl' [] [] → RowsT (fun _ => False) B out (tldL RB RA) → K (out, 0, true) B) : ZbZ.sp (some ⟨so, 0, none⟩) (N : Int) A K := by
 refine ZbZ.of ?_
 unfold ZbZ.vc
 refine loop_upto N (fun i z D => z.2 = (i : Int) ∧ i ≤ N ∧ RowT D so Yar (srcV 32 (nextF c.j) 0 (feedV c.j) false false) ∧ ((i = 0 ∧ A = D ∧ z.1 = Sl.mk none 0 0) ∨ ∃ Z eg, GoZ H0 c dp Q most cla clb Kk n Z D ((tldL RB RA).drop i) (m + 200000 + 2000000 * i) (blkL z.1) eg ∧ RowsT (fun b => (Z b ∨ b = so) ∧ ¬ ownB z.1 b) D z.1 ((tldL RB RA).take i) ∧ ¬ Z so))
  ⟨rfl, Nat.zero_le _, rso, .inl ⟨rfl, rfl, rfl⟩⟩ ?_
 rintro i ⟨out, zi⟩ D next hi ⟨hzi, hiN, rsoD, hst⟩ hnext
 simp only at hzi hst ⊢
 subst hzi
 refine br_t (decide_eq_true (by omega)) ?_
 have soD := obj_lt rsoD
 -- one row more, or none
 have go : ∀ (Z0 : Nat → Prop) (eg : Nat → Option Obj) (cs : Array Value), RowT D c.j Yaq cs → ((∃ Z, cs[10]? = some (.bool true) ∧ GoZ H0 c dp Q most cla clb Kk n Z D ((tldL RB RA).drop i) (m + 200000 + 2000000 * i) (blkL out) eg ∧ Step Z0 Z D D) ∨ (cs[10]? = some (.bool false) ∧ ∀ K' : Int → Heap → Prop, (∀ B Z, GoZ H0 c dp Q most cla clb Kk n Z B ((tldL RB RA).drop i) (m + 200000 + 2000000 * i) (blkL out) eg → Step Z0 Z D B → K' 0 B) → ZbO.sp (at0 c.j) D K')) →
   RowsT (fun b => (Z0 b ∨ b = so) ∧ ¬ ownB out b) D out ((tldL RB RA).take i) → ¬ Z0 so → (∀ b ∈ blkL out, D[b]? = eg b) →
   ZbW.sp (some ⟨so, 0, none⟩) D fun (r : (Sl × Bool × Int)) H2 => br (!r.2.1) (K (out, r.2.2, (r.1.n : Int) == (0 : Int)) H2) (br (r.2.2 != (0 : Int)) (K (out, r.2.2, false) H2) (newC H2 #[r.1.v] YaB fun p H3 => doT cSl Tryz.prog (Builtin.append_ #[Yam, Yam] Yam #[out.v, (.slice (some p) 1 1)]) H3 fun (o : Sl) H4 => next (o, IntKind.i64.wrap ((i : Int) + (1 : Int))) H4)) := by
  intro Z0 eg cs joD hst ro nso hegD
  -- what is gathered stays
  have keep : ∀ {B : Heap} {Z' : Nat → Prop}, Step Z0 Z' D B → (∀ b ∈ blkL out, B[b]? = eg b) → RowsT (fun b => (Z' b ∨ b = so) ∧ ¬ ownB out b) B out ((tldL RB RA).take i) := fun {B Z'} S he => ro.step ⟨⟨S.mod.size, fun b hb hn => by
    by_cases ho : ownB out b
    ·rw [he b (blkL_iff.2 ho), hegD b (blkL_iff.2 ho)]
    ·exact S.mod.same b hb fun u => hn ⟨.inl u, ho⟩⟩, fun b u => by
    rcases u with ⟨u | u, v⟩
    ·exact (S.own b u).imp (fun w => ⟨.inl w, v⟩) id
    ·exact .inl ⟨.inr u, v⟩⟩
  have hnp : ∀ {B : Heap} {Z' : Nat → Prop}, Step Z0 Z' D B → ¬ Z' so := fun {B Z'} S u => (S.own so u).elim nso fun v => by omega
  refine next_src rsoD (callV_meth meth_next call_next ?_)
  refine Next_ok (Z0 := Z0) (rem := (tldL RB RA).drop i) (pb := m + 200000 + 2000000 * i) (ex := blkL out) (eg := eg) (n := n) hg hQ hcl hKl hKn (by omega) joD hst (fun p r y B Z' hl G S iy yo => ?_) fun he B Z' F' s' M' U' m' x' bl' T' eT sub S => ?_
  ·have rsoB := rsoD.mod S.mod nso
   refine ⟨rsoB, fun u => by rcases u with u | u <;> simp at u, fun _ _ => ?_⟩
   refine br_f rfl (br_f rfl ?_)
   have outB := keep S G.eg
   have hi2 : i < (tldL RB RA).length := by
    have := congrArg List.length hl
    rw [List.length_drop, List.length_cons] at this
    omega
   have hlr : p = (tldL RB RA)[i] ∧ r = (tldL RB RA).drop (i + 1) := by
    rw [List.drop_eq_getElem_cons hi2] at hl
    obtain ⟨q1, q2⟩ := List.cons.inj hl
    exact ⟨q1.symm, q2.symm⟩
   have nsoB := hnp S
   have zB := S.mod.size
   refine outB.snoc (r := y) (l := p) (by rw [List.length_take]; omega) iy (fun a ha => ⟨(yo a ha).2.1, fun u => ?_, fun u => ?_⟩) fun o B' fY mm ho => ?_
   ·rcases u.1 with v | v
    ·exact (yo a ha).2.2 v
    ·have := (yo a ha).1; omega
   ·have := ro.lt _ u; have := (yo a ha).1; omega
   ·have rsoB' : RowT B' so Yar (srcV 32 (nextF c.j) 0 (feedV c.j) false false) := rsoB.mod mm fun u => by
     obtain ⟨cur, e⟩ := outB.obj _ u
     exact absurd (cells_ty rsoB e) (by decide)
    have own0 : RowsT (fun _ => False) B' o ((tldL RB RA).take i ++ [p]) := fY _ (fun _ u => u.elim) fun _ u => u.elim
    obtain ⟨Z'', G2, S2, inZ, subZ⟩ := G.out (ex' := blkL o) (mm.mono fun b _ u => blkL_iff.2 u) (fun b hb => outB.obj b (blkL_iff.1 hb)) (fun b hb => (ho b (blkL_iff.1 hb)).imp blkL_iff.2 id) fun b hb => own0.obj b (blkL_iff.1 hb)
    have z2 := mm.size
    have hY := fY (fun b => (Z' b ∨ b = so) ∧ ¬ ownB out b) (fun _ u => u) fun b u => u.1.elim (G.lt b) fun v => by omega
    refine hnext (by omega) _ _ ⟨succ64 i (by omega), by omega, rsoB', .inr ⟨Z'', (fun b => B'[b]?), ?_, ?_, fun u => ?_⟩⟩
    ·rw [← hlr.2]
     have e : m + 200000 + 2000000 * (i + 1) = m + 200000 + 2000000 * i + 2000000 := by omega
     rw [e]
     exact G2
    ·rw [List.take_succ_eq_append_getElem hi2, ← hlr.1]
     refine hY.less fun b u => .inl ?_
     obtain ⟨u1, u2⟩ := u
     rcases u1 with u1 | u1
     ·rcases subZ b u1 with ⟨v1, v2⟩ | v
      ·exact ⟨.inl v1, fun w => v2 (blkL_iff.2 w)⟩
      ·exact absurd (blkL_iff.1 v) u2
     ·refine ⟨.inr u1, fun w => ?_⟩
      subst u1
      obtain ⟨cur, e⟩ := outB.obj _ w
      exact absurd (cells_ty rsoB e) (by decide)
    ·rcases subZ so u with ⟨v1, _⟩ | v
     ·exact nsoB v1
     ·obtain ⟨cur, e⟩ := own0.obj _ (blkL_iff.1 v)
      exact absurd (cells_ty rsoB' e) (by decide)
  ·have rsoB := rsoD.mod S.mod nso
   refine ⟨rsoB, fun _ C rC mC zC => ?_, fun _ u => by cases u⟩
   refine br_t rfl ?_
   have outB := keep S eT
   have hiN' : i = N := by
    have := congrArg List.length he
    rw [List.length_drop, List.length_nil] at this
    omega
   have outC := outB.step (X' := fun b => (Z' b ∨ b = so) ∧ ¬ ownB out b) (B := C) ⟨⟨mC.size, fun b hb hn => mC.same b hb fun u => by
    subst u
    refine hn ⟨.inr rfl, fun w => ?_⟩
    obtain ⟨cur, e⟩ := outB.obj _ w
    exact absurd (cells_ty rsoB e) (by decide)⟩, fun b u => .inl u⟩
   rw [← hN] at hiN'
   have outF : RowsT (fun _ => False) C out (tldL RB RA) := by
    have := outC.less (Y := fun _ => False) fun b u => u.elim
    rwa [hiN', List.take_length] at this
   have nso' := hnp S
   refine hK out C F' s' M' U' m' x' bl' (T'.aside (Y := fun b => b = so) mC (fun b u _ => ?_) (T'.jo.mod mC fun u => nso' (u ▸ sub _ (.inr (.inl rfl)))) ⟨rfl, rfl, rfl, Nat.le_refl _, rfl⟩) outF
   subst u
   exact ⟨⟨hso.1, fun v => nso' (sub _ (.inl v))⟩, Saf.row rsoB (by decide), fun v => nso' (sub _ (.inr (.inr (.inr (.inr v)))))⟩
 rcases hst with ⟨rfl, rfl, rfl⟩ | ⟨Z, eg, G, ro, nso⟩
 ·refine go (fun b => F b ∨ b = c.j ∨ b = c.sa ∨ b = c.la ∨ b = c.sb ∨ b = c.lb) (fun _ => none) _ T.jo (.inr ⟨rfl, fun K' hK' => ?_⟩) (RowsT.nil _ _) (fun u => u.elim hso.2 fun v => by have := hsx so v; omega) fun b hb => (by cases hb)
  exact hbegin_ok (n := n) T hg hQ hcl hKn hU (by omega) fa fb hRA hRB hla hlb fun B Z G S => hK' B Z G S
 ·obtain ⟨cs, joD, h10⟩ := G.jo
  exact go Z eg cs joD (.inl ⟨Z, h10, G, .refl _ _⟩) ro nso G.eg
end
end Go.Proofs.YtkehfflpbpdokaaGreat
