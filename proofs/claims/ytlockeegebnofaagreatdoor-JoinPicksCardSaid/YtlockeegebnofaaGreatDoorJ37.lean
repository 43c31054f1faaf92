/-
 Relations: a row is put into a part: the walk.
-/
import Derived.Test.YtlockeegebnofaaGreatDoorJ36
namespace Go.Proofs.YtlockeegebnofaaGreatDoor
open Go.MapKept
structure InsT (ords : List (List Int)) (ll : List Int) (i : Nat) (old new : List Tx) : Prop where
 ks : new.map (·.k) = old.map (·.k)
 ns : new.map (·.n) = old.map (·.n)
 len : new.length = old.length
 done : ∀ j t t', j < i → old[j]? = some t → new[j]? = some t' → Plus (turnL ll (ords.getD j [])) t.L t'.L ∧ t'.L.length ≤ t.L.length + 1
 left : ∀ j, i ≤ j → new[j]? = old[j]?
structure RelP (H0 A : Heap) (F : Nat → Prop) (p dp : Nat) (s : Pl) (M : Files) (Q U most m c : Nat) (R : RelS) : Prop where
 pool : PoolM H0 A F p dp s M Q U most m
 rel : RelB H0 A F p M R
 dom : DomM M c
section
variable {H0 A B : Heap} {F F' : Nat → Prop} {p dp Q U most m c : Nat} {s s' : Pl} {M M' : Files} {R : RelS} {l : Sl} {ll : List Int}
theorem RelP.grow (h : RelP H0 A F p dp s M Q U most m c R) (e : Ext A B) : RelP H0 B F p dp s M Q U most m c R := ⟨h.pool.grow e, h.rel.grow e, h.dom⟩
theorem RelP.ltX (h : RelP H0 A F p dp s M Q U most m c R) : ∀ b, R.X F b → b < A.size := fun b u => u.elim (h.pool.pool.lt b) (h.rel.lt b)
set_option maxHeartbeats 2000000 in
theorem made_trees {j : Nat} {K : Int → Heap → Prop} {J : Heap → Prop} (h : RelP H0 A F p dp s M Q U most m c R) (hg : Gl H0) (hF : R.Fit) (hQ : Q ≤ 1048576) (hm : m + 100000 ≤ 30000000000) (hq : U + 2 * R.ords.length + 2 < Q) (hc : c + R.ords.length < 4096) (hts : (R.get j).ts = []) (hex : R.ex = []) (hnb : R.nb = R.next) (hn : R.next + R.ords.length ≤ 100) (ho : R.ords.length ≤ 16)
  (hJ : ∀ F' s' M' sl ts B, RelP H0 B F' p dp s' M' Q (U + 2 * R.ords.length) most (m + 2 * R.ords.length) (c + R.ords.length) ((R.put j ⟨(R.get j).pb, sl, ts⟩).nums (R.next + R.ords.length) (R.next + R.ords.length)) → ts.length = R.ords.length → (∀ t ∈ ts, t.L = []) → Step (R.X F) (RelS.X ((R.put j ⟨(R.get j).pb, sl, ts⟩).nums (R.next + R.ords.length) (R.next + R.ords.length)) F') A B → (∀ a, (∀ i, i < 100 → a ≠ nmR R.name i) → M' a = M a) → J B) :
  LoopVC (Sl × Int) ((Sl.mk none 0 0), (0 : Int)) A fun next z_1 H2 => br (decide (z_1.2 < (R.os.n : Int))) (∃ G : Heap → Prop, G H2 ∧ optK (at0 (R.get j).pb) fun a_3 => ldC cPtr G (a_3.add 0) fun (x_3 : Option Addr) => optK x_3 fun a_4 => ldC cPtr G (a_4.add 0) fun (x_4 : Option Addr) => optK (at0 (R.get j).pb) fun a_5 => ldC cPtr G (a_5.add 0) fun (x_5 : Option Addr) => optK x_5 fun a_6 => ldC cStr G (a_6.add 1) fun (x_6 : ByteArray) => ((x_6.size + (ByteArray.mk #[46]).size : Nat) : Int) ≤ 9223372036854775807 ∧ optK (some (Addr.add ⟨R.rb, 0, none⟩ 9)) fun a_7 => Go.Proofs.YtlockeegebnofaaGreatDoor.ld (cInt .i64) H2 a_7 fun (x_7 : Int) => Zdo.sp x_7 H2 fun (r : ByteArray) H3 => G H3 ∧ (((x_6 ++ (ByteArray.mk #[46])).size + r.size : Nat) : Int) ≤ 9223372036854775807 ∧ optK (at0 (R.get j).pb) fun a_8 => ldC cPtr G (a_8.add 0) fun (x_8 : Option Addr) => optK x_8 fun a_9 => ldC (cInt .i64) G (a_9.add 2) fun (x_9 : Int) => ZdR.sp x_4 ((x_6 ++ (ByteArray.mk #[46])) ++ r) x_9 H3 fun (r_1 : (Option Addr × Int)) H4 => br (r_1.2 != (0 : Int)) (K r_1.2 H4) (optK (some (Addr.add ⟨R.rb, 0, none⟩ 9)) fun a_10 => Go.Proofs.YtlockeegebnofaaGreatDoor.ld (cInt .i64) H4 a_10 fun (x_10 : Int) => optK (some (Addr.add ⟨R.rb, 0, none⟩ 9)) fun a_11 => st H4 a_11 (.int .i64 (IntKind.i64.wrap (x_10 + (1 : Int)))) fun H5 => newC H5 #[(.pointer r_1.1)] Yao fun p_1 H6 => doT cSl Tryz.prog (Builtin.append_ #[Yai, Yai] Yai #[z_1.1.v, (.slice (some p_1) 1 1)]) H6 fun (l_1 : Sl) H7 => next (l_1, IntKind.i64.wrap (z_1.2 + (1 : Int))) H7)) (optK (at0 (R.get j).pb) fun a_12 => st H2 (a_12.add 1) z_1.1.v fun H8 => J H8) := by
 have hlen := h.rel.ords.len
 have hz0 := h.pool.ext.size
 have hjm := R.get_mem j
 refine loop_upto R.ords.length (fun i z B => z.2 = (i : Int) ∧ ∃ F' s' M' news, RelP H0 B F' p dp s' M' Q (U + 2 * i) most (m + 2 * i) (c + i) { R with ex := news, next := R.next + i, nb := R.next + i } ∧ news.length = i ∧ (∀ t ∈ news, t.L = []) ∧ Owns B 0 Yao 1 z.1 (ksV news) ∧ (∀ b, ownB z.1 b → A.size ≤ b ∧ ¬ RelS.X { R with ex := news, next := R.next + i, nb := R.next + i } F' b) ∧ Step (R.X F) (RelS.X { R with ex := news, next := R.next + i, nb := R.next + i } F') A B ∧ (∀ a, (∀ i, i < 100 → a ≠ nmR R.name i) → M' a = M a)) ⟨rfl, F, s, M, [], ?_, rfl, by simp, Owns.nil _ _ _ _, fun b u => (by obtain ⟨ad, ha, _⟩ := u; cases ha), ?_, fun _ _ => rfl⟩ ?_
 ·have e := R.same0 hex hnb
  rw [e]; exact h
 ·have e := R.same0 hex hnb
  rw [e]; exact Step.refl _ _
 rintro i ⟨z, _⟩ B next hi ⟨rfl, F1, s1, M1, news, h1, nl, hL, o1, b1, S1, hM1⟩ hnext
 dsimp only at o1 b1 ⊢
 obtain ⟨rp, sp⟩ := h1.rel.pt (R.get j) hjm
 have rr := h1.rel.row
 refine br_mk (fun hcd => ?_) (fun hcd => ?_)
 ·have hlt : i < R.ords.length := by have : (i : Int) < (R.os.n : Int) := by simpa using hcd
                                     omega
  refine ⟨Ext B, .refl _ _, ?_⟩
  simp only [optK_eq, at0]
  refine RowT.ldC (c := cPtr) (i := 0) (x := some ⟨R.rb, 0, none⟩) (cs := fun _ => partV R.rb (R.get j).s) (fun D hD => rp.ext hD) (fun _ _ => rfl) ?_
  simp only [optK_eq]
  refine RowT.ldC (c := cPtr) (i := 0) (x := at0 p) (cs := fun _ => relV p { R with ex := news, next := R.next + i, nb := R.next + i }) (fun D hD => rr.ext hD) (fun _ _ => rfl) ?_
  refine RowT.ldC (c := cPtr) (i := 0) (x := some ⟨R.rb, 0, none⟩) (cs := fun _ => partV R.rb (R.get j).s) (fun D hD => rp.ext hD) (fun _ _ => rfl) ?_
  simp only [optK_eq]
  refine RowT.ldC (c := cStr) (i := 1) (x := R.name) (cs := fun _ => relV p { R with ex := news, next := R.next + i, nb := R.next + i }) (fun D hD => rr.ext hD) (fun _ _ => rfl) ?_
  have hnm := hF.name
  have e46 : (ByteArray.mk #[46]).size = 1 := rfl
  refine ⟨by rw [e46]; omega, ?_⟩
  refine RowT.ld (c := cInt .i64) (i := 9) (x := ((R.next + i : Nat) : Int)) rr rfl ?_
  refine Itoa_ok (by omega) ⟨.refl _ _, ?_, ?_⟩
  ·have := (nmR_size (name := R.name) (j := R.next + i) (by omega)).1
   unfold nmR at this
   rw [ByteArray.size_append] at this
   omega
  refine RowT.ldC (c := cPtr) (i := 0) (x := some ⟨R.rb, 0, none⟩) (cs := fun _ => partV R.rb (R.get j).s) (fun D hD => rp.ext hD) (fun _ _ => rfl) ?_
  simp only [optK_eq]
  refine RowT.ldC (c := cInt .i64) (i := 2) (x := (R.W : Int)) (cs := fun _ => relV p { R with ex := news, next := R.next + i, nb := R.next + i }) (fun D hD => rr.ext hD) (fun _ _ => rfl) ?_
  obtain ⟨ns, hns, hnl⟩ := h1.dom
  have hsz := (nmR_size (name := R.name) (j := R.next + i) (by omega)).1
  refine h1.pool.newTree (n := nmR R.name (R.next + i)) (ns := ns) hg (by omega) (nmR_named (by omega) hnm) hF.W hQ (by omega) (by omega) (h1.rel.free _ (Nat.le_refl _)) hns (by omega) fun F2 s2 x2 k C p2 t2 S2 k2 kA _ => ?_
  refine br_f rfl ?_
  have hzB := h1.pool.ext.size
  have r2 := h1.rel.newTree hzB S2 k2 kA (by show R.next + i < 100; omega) t2
  have hO2 : ∀ b, RelS.O { R with ex := news ++ [⟨k, nmR R.name (R.next + i), []⟩], next := R.next + i, nb := R.next + i + 1 } b → b = k ∨ RelS.O { R with ex := news, next := R.next + i, nb := R.next + i } b := by
   intro b u
   unfold RelS.O at u ⊢
   rcases u with u | u | ⟨t, ht, e⟩
   ·exact .inr (.inl u)
   ·exact .inr (.inr (.inl u))
   ·unfold RelS.all at ht ⊢
    simp only [List.mem_append, List.mem_singleton] at ht ⊢
    rcases ht with v | v | v | v | v
    ·exact .inr (.inr (.inr ⟨t, .inl v, e⟩))
    ·exact .inr (.inr (.inr ⟨t, .inr (.inl v), e⟩))
    ·exact .inr (.inr (.inr ⟨t, .inr (.inr (.inl v)), e⟩))
    ·exact .inr (.inr (.inr ⟨t, .inr (.inr (.inr v)), e⟩))
    ·subst v; exact .inl e
  have d2 : DomM (setF M1 (nmR R.name (R.next + i)) (some x2)) (c + i + 1) := h1.dom.more
  refine RowT.ld (c := cInt .i64) (i := 9) (x := ((R.next + i : Nat) : Int)) r2.row rfl ?_
  refine RowT.st r2.row (i := 9) (by simp [relV]) rfl fun D rD mD zD => ?_
  rw [succ64 (R.next + i) (by omega)] at rD
  have r3 := r2.cell (nx := R.next + i + 1) (tu := R.turns) rD mD
  have hFrb : ¬ F2 R.rb := (r2.off _ (.inl rfl)).1
  have p3 : PoolM H0 D F2 p dp s2 (setF M1 (nmR R.name (R.next + i)) (some x2)) Q (U + 2 * i + 2) most (m + 2 * i + 2) := p2.aside ⟨by have := p2.ext.size; omega, fun b hb _ => (mD.same b (by have := p2.ext.size; omega) fun u => by have := (r2.off _ (.inl rfl)).2; rw [u] at hb; exact absurd this (by show ¬ H0.size ≤ R.rb; omega)).trans (p2.ext.same b hb id)⟩ fun b hb => mD.same b (p2.pool.lt b hb) fun u => hFrb (u ▸ hb)
  have own2 : ∀ b, ownB z b → b < B.size ∧ b ≠ R.rb ∧ ¬ F2 b := fun b hb => by
   have hbl := (o1.block b hb).2
   have := (b1 b hb).2
   exact ⟨hbl, fun e => this (.inr (.inl e)), fun u => (S2.own b u).elim (fun v => this (.inl v)) fun v => by omega⟩
  have hzC := S2.mod.size
  have oD : Owns D 0 Yao 1 z (ksV news) := (o1.mod S2.mod fun b hb u => (b1 b hb).2 (.inl u)).mod mD fun b hb => (own2 b hb).2.1
  have zn : z.n = i := by have := o1.1; unfold ksV at this; simp at this; omega
  refine elTreeP.push (base := 0) (s := z) (xs := ksV news) oD rfl (by omega) (by omega) (Nat.zero_le _) fun z' E n' oE mE bE _ => ?_
  have hzE := mE.size
  have offE : ∀ b, RelS.X { R with ex := news ++ [⟨k, nmR R.name (R.next + i), []⟩], next := R.next + (i + 1), nb := R.next + (i + 1) } F2 b → ¬ ownB z b := by
   intro b u hb
   obtain ⟨q1, q2, q3⟩ := own2 b hb
   rcases u with u | u
   ·exact q3 u
   ·rcases hO2 b u with v | v
    ·omega
    ·exact (b1 b hb).2 (.inr v)
  have SB : Step (RelS.X { R with ex := news, next := R.next + i, nb := R.next + i } F1) (RelS.X { R with ex := news ++ [⟨k, nmR R.name (R.next + i), []⟩], next := R.next + (i + 1), nb := R.next + (i + 1) } F2) B D := by
   refine ⟨(S2.mod.mono fun b _ u => .inl u).trans (mD.mono fun b _ u => .inr (.inl u)), fun b u => ?_⟩
   rcases u with u | u
   ·exact (S2.own b u).imp .inl id
   ·rcases hO2 b u with v | v
    ·exact .inr (by omega)
    ·exact .inl (.inr v)
  have S12 := S1.trans SB
  have SE : Step (R.X F) (RelS.X { R with ex := news ++ [⟨k, nmR R.name (R.next + i), []⟩], next := R.next + (i + 1), nb := R.next + (i + 1) } F2) A E := ⟨S12.mod.trans' mE fun b hb u => by have := (b1 b u).1; omega, S12.own⟩
  have r4 : RelB H0 E F2 p (setF M1 (nmR R.name (R.next + i)) (some x2)) { R with ex := news ++ [⟨k, nmR R.name (R.next + i), []⟩], next := R.next + (i + 1), nb := R.next + (i + 1) } :=
   r3.asideX (fun q hq => (h.rel.pt q hq).2.step SE) (h.rel.ords.step SE) (fun b hb => ⟨mE.same b (r3.lt b hb) (offE b (.inr hb)), (r3.off b hb).1⟩) (fun _ _ => rfl) r3.free
  have p4 : PoolM H0 E F2 p dp s2 (setF M1 (nmR R.name (R.next + i)) (some x2)) Q (U + 2 * i + 2) most (m + 2 * i + 2) := p3.aside ⟨Nat.le_trans p3.ext.size hzE, fun b hb _ => (mE.same b (Nat.lt_of_lt_of_le hb p3.ext.size) fun u => by have := (b1 b u).1; omega).trans (p3.ext.same b hb id)⟩ fun b hb => mE.same b (p3.pool.lt b hb) fun u => (own2 b u).2.2 hb
  refine hnext hlt _ _ ⟨succ64 i (by omega), F2, s2, _, news ++ [⟨k, nmR R.name (R.next + i), []⟩], ⟨p4, r4, d2⟩, by simp [nl], fun t ht => ?_, ?_, fun b hb => ?_, SE, fun a ha => ?_⟩
  ·rcases List.mem_append.1 ht with v | v
   ·exact hL t v
   ·have : t = ⟨k, nmR R.name (R.next + i), []⟩ := by simpa using v
    rw [this]
  ·have : ksV (news ++ [⟨k, nmR R.name (R.next + i), []⟩]) = ksV news ++ [ptrV k] := by unfold ksV; rw [List.map_append]; rfl
   rw [this]; exact oE
  ·have hzD := SB.mod.size
   have hzB' := S1.mod.size
   rcases bE b hb with v | v
   ·exact ⟨(b1 b v).1, fun u => offE b u v⟩
   ·refine ⟨by omega, fun u => ?_⟩
    rcases u with u | u
    ·have := p3.pool.lt b u; omega
    ·have := r3.lt b u; omega
  ·rw [setF_other (ha (R.next + i) (by omega))]
   exact hM1 a ha
 ·have hge : i = R.ords.length := by have : ¬ (i : Int) < (R.os.n : Int) := by simpa using hcd
                                     omega
  subst hge
  simp only [optK_eq, at0]
  refine RowT.st rp (i := 1) (by simp [partV]) (by cases z; rfl) fun C rC mC zC => ?_
  have hpF : ¬ F1 (R.get j).pb := (h1.rel.off _ (.inr (.inl ⟨_, hjm, rfl⟩))).1
  have zn : z.n = (ksV news).length := by have := o1.1; simpa using this.symm
  have hzl : ∀ b, ownB z b → b < B.size := fun b hb => (o1.block b hb).2
  have sX : SlX (RelS.X { R with ex := news, next := R.next + R.ords.length, nb := R.next + R.ords.length } F1) C z (ksV news) := by
   refine ⟨zn, fun ad ha => ⟨by have := hzl _ ⟨ad, ha, rfl⟩; omega, (b1 _ ⟨ad, ha, rfl⟩).2⟩, o1.reads.mod mC fun ad ha u => (b1 _ ⟨ad, ha, rfl⟩).2 (by rw [u]; exact RelS.partX hjm)⟩
  have r2 := RelB.setPart (j := j) h1.rel (show (RelS.get { R with ex := news, next := R.next + R.ords.length, nb := R.next + R.ords.length } j).ts = [] by rcases j with _ | _ | j <;> exact hts) sX (by rcases j with _ | _ | j <;> exact rC) (by rcases j with _ | _ | j <;> exact mC)
  have e : ({ RelS.put { R with ex := news, next := R.next + R.ords.length, nb := R.next + R.ords.length } j ⟨(RelS.get { R with ex := news, next := R.next + R.ords.length, nb := R.next + R.ords.length } j).pb, z, news⟩ with ex := [] } : RelS) = ((R.put j ⟨(R.get j).pb, z, news⟩).nums (R.next + R.ords.length) (R.next + R.ords.length)) := by
   rcases j with _ | _ | j <;> (simp only [RelS.put, RelS.get, RelS.nums]; rw [hex])
  have r3 : RelB H0 C F1 p M1 ((R.put j ⟨(R.get j).pb, z, news⟩).nums (R.next + R.ords.length) (R.next + R.ords.length)) := e ▸ r2
  have p3 : PoolM H0 C F1 p dp s1 M1 Q (U + 2 * R.ords.length) most (m + 2 * R.ords.length) := h1.pool.aside ⟨by have := h1.pool.ext.size; omega, fun b hb _ => (mC.same b (by have := h1.pool.ext.size; omega) fun u => by have := (h1.rel.off _ (.inr (.inl ⟨_, hjm, rfl⟩))).2; rw [u] at hb; exact absurd hb (by omega)).trans (h1.pool.ext.same b hb id)⟩ fun b hb => mC.same b (h1.pool.pool.lt b hb) fun u => hpF (u ▸ hb)
  refine hJ F1 s1 M1 z news C ⟨p3, r3, h1.dom⟩ nl hL ?_ hM1
  refine ⟨S1.mod.trans' mC fun b hb u => by rw [u]; exact RelS.partX hjm, fun b u => ?_⟩
  rcases u with u | u
  ·exact S1.own b (.inl u)
  ·refine S1.own b (.inr ?_)
   have hpb : (RelS.parts ((R.put j ⟨(R.get j).pb, z, news⟩).nums (R.next + R.ords.length) (R.next + R.ords.length))).map (·.pb) = R.parts.map (·.pb) := by rcases j with _ | _ | j <;> rfl
   have hal : ∀ t, t ∈ RelS.all ((R.put j ⟨(R.get j).pb, z, news⟩).nums (R.next + R.ords.length) (R.next + R.ords.length)) → t ∈ RelS.all { R with ex := news, next := R.next + R.ords.length, nb := R.next + R.ords.length } := by
    intro t
    unfold RelS.all
    rcases j with _ | _ | j <;> (simp only [RelS.put, RelS.nums, List.mem_append, hex, List.not_mem_nil, or_false]; intro u)
    ·rcases u with u | u | u
     ·exact .inr (.inr (.inr u))
     ·exact .inr (.inl u)
     ·exact .inr (.inr (.inl u))
    ·rcases u with u | u | u
     ·exact .inl u
     ·exact .inr (.inr (.inr u))
     ·exact .inr (.inr (.inl u))
    ·rcases u with u | u | u
     ·exact .inl u
     ·exact .inr (.inl u)
     ·exact .inr (.inr (.inr u))
   have hrb : RelS.rb ((R.put j ⟨(R.get j).pb, z, news⟩).nums (R.next + R.ords.length) (R.next + R.ords.length)) = R.rb := by rcases j with _ | _ | j <;> rfl
   rcases u with u | ⟨q, hq, e2⟩ | ⟨t, ht, e2⟩
   ·exact .inl (u.trans hrb)
   ·have : b ∈ R.parts.map (·.pb) := by rw [← hpb, e2]; exact List.mem_map_of_mem hq
    obtain ⟨q', hq', e3⟩ := List.mem_map.1 this
    exact .inr (.inl ⟨q', hq', e3.symm⟩)
   ·exact .inr (.inr ⟨t, hal t ht, e2⟩)
end
theorem RelS.sub_all (R : RelS) (j : Nat) : ((R.get j).ts).Sublist R.all := by
 unfold RelS.all
 rcases j with _ | _ | j
 ·exact List.sublist_append_left _ _
 ·exact (List.sublist_append_left _ _).trans (List.sublist_append_right _ _)
 ·exact ((List.sublist_append_left _ _).trans (List.sublist_append_right _ _)).trans (List.sublist_append_right _ _)
theorem map_up_get {ts : List Tx} {i : Nat} {t : Tx} {L : List (List Int)} (hn : (ts.map (·.k)).Nodup) (hi : ts[i]? = some t) (a : Nat) : (ts.map (Tx.up t.k L))[a]? = if a = i then some { t with L := L } else ts[a]? := by
 rw [List.getElem?_map]
 by_cases e : a = i
 ·subst e
  rw [if_pos rfl, hi]
  simp [Tx.up]
 ·rw [if_neg e]
  cases hx : ts[a]? with
  | none => rfl
  | some x =>
    have hlt := (List.getElem?_eq_some_iff.1 hx).1
    have : x.k ≠ t.k := fun q => e ((List.getElem?_inj (l := ts.map (·.k)) (i := a) (j := i) (by simpa using hlt) hn).1 (by rw [List.getElem?_map, List.getElem?_map, hx, hi]; simp [q]))
    simp [Tx.up, this]
theorem InsT.step {ords : List (List Int)} {ll : List Int} {i : Nat} {old ts : List Tx} {t : Tx} {L : List (List Int)} (h : InsT ords ll i old ts) (hn : (ts.map (·.k)).Nodup) (hi : ts[i]? = some t) (hp : Plus (turnL ll (ords.getD i [])) t.L L) (hl : L.length ≤ t.L.length + 1) : InsT ords ll (i + 1) old (ts.map (Tx.up t.k L)) := by
 refine ⟨?_, ?_, by rw [List.length_map]; exact h.len, fun a x x' ha hx hx' => ?_, fun a ha => ?_⟩
 ·rw [List.map_map, ← h.ks]; exact List.map_congr_left fun x _ => x.up_k _ _
 ·rw [List.map_map, ← h.ns]; exact List.map_congr_left fun x _ => x.up_n _ _
 ·rw [map_up_get hn hi] at hx'
  by_cases e : a = i
  ·subst e
   rw [if_pos rfl] at hx'
   cases hx'
   rw [h.left a (Nat.le_refl _), hx] at hi
   cases hi
   exact ⟨hp, hl⟩
  ·rw [if_neg e] at hx'
   exact h.done a x x' (by omega) hx hx'
 ·rw [map_up_get hn hi, if_neg (by omega)]
  exact h.left a (by omega)
section
variable {H0 A B : Heap} {F F' : Nat → Prop} {p dp Q U most m c : Nat} {s s' : Pl} {M M' : Files} {R : RelS} {l : Sl} {ll : List Int}
set_option maxHeartbeats 2000000 in
theorem ins_trees {j w : Nat} {K : Int → Heap → Prop} (h : RelP H0 A F p dp s M Q U most m c R) (hg : Gl H0) (hF : R.Fit) (hQ : Q ≤ 1048576) (hm : m + 100000 ≤ 30000000000) (hw : ∀ t ∈ (R.get j).ts, t.L.length ≤ w) (hw4 : w ≤ 400) (hq : U + R.ords.length * (2 * w + 4) + w + 2 < Q) (ho : R.ords.length ≤ 16) (hts : (R.get j).ts.length = R.ords.length)
  (hl : Ints .u64 A l ll) (hlo : Off (R.X F) A l) (ht : ∀ i (hi : i < R.ords.length), R.ords[i].length ≤ 1000 ∧ (turnL ll R.ords[i]).length = R.W ∧ fitsL (turnL ll R.ords[i]))
  (hK : ∀ F' s' M' U' ts B, RelP H0 B F' p dp s' M' Q U' most (m + 4000 * R.ords.length) c (R.put j ⟨(R.get j).pb, (R.get j).s, ts⟩) → InsT R.ords ll R.ords.length (R.get j).ts ts → U' ≤ U + R.ords.length * (2 * w + 4) → Step (R.X F) (RelS.X (R.put j ⟨(R.get j).pb, (R.get j).s, ts⟩) F') A B → (∀ a, (∀ i, i < 100 → a ≠ nmR R.name i) → M' a = M a) → K 0 B) :
  optK (at0 (R.get j).pb) fun a_13 => Go.Proofs.YtlockeegebnofaaGreatDoor.ld cSl A (a_13.add 1) fun (x_11 : Sl) => LoopVC Int (0 : Int) A fun next_1 z_2 H9 => br (decide (z_2 < (x_11.n : Int))) (optK x_11.a fun a_14 => (0 ≤ z_2 ∧ z_2 < (x_11.n : Int)) ∧ Go.Proofs.YtlockeegebnofaaGreatDoor.ld cPtr H9 (a_14.add (z_2.toNat * 1)) fun (x_12 : Option Addr) => optK (at0 (R.get j).pb) fun a_15 => Go.Proofs.YtlockeegebnofaaGreatDoor.ld cPtr H9 (a_15.add 0) fun (x_13 : Option Addr) => Zcb.sp x_13 l z_2 H9 fun (r_2 : Sl) H10 => ZbR.sp x_12 r_2 H10 fun (r_3 : (Bool × Int)) H11 => br (r_3.2 != (0 : Int)) (K r_3.2 H11) (next_1 (IntKind.i64.wrap (z_2 + (1 : Int))) H11)) (K (0 : Int) H9) := by
 have hjm := R.get_mem j
 simp only [optK_eq, at0]
 refine RowT.ld (c := cSl) (i := 1) (x := (R.get j).s) (h.rel.pt _ hjm).1 rfl ?_
 have hsn : (R.get j).s.n = R.ords.length := by have := (h.rel.pt _ hjm).2.len; unfold ksV at this; rw [List.length_map] at this; omega
 refine loop_upto R.ords.length (fun i z B => z = (i : Int) ∧ ∃ F' s' M' U' ts, RelP H0 B F' p dp s' M' Q U' most (m + 4000 * i) c (R.put j ⟨(R.get j).pb, (R.get j).s, ts⟩) ∧ InsT R.ords ll i (R.get j).ts ts ∧ U' ≤ U + i * (2 * w + 4) ∧ Step (R.X F) (RelS.X (R.put j ⟨(R.get j).pb, (R.get j).s, ts⟩) F') A B ∧ (∀ a, (∀ i, i < 100 → a ≠ nmR R.name i) → M' a = M a)) ⟨rfl, F, s, M, U, (R.get j).ts, ?_, ⟨rfl, rfl, rfl, fun a _ _ ha => (by omega), fun _ _ => rfl⟩, by omega, ?_, fun _ _ => rfl⟩ ?_
 ·have e : R.put j ⟨(R.get j).pb, (R.get j).s, (R.get j).ts⟩ = R := R.put_get j
  rw [e]; exact h
 ·have e : R.put j ⟨(R.get j).pb, (R.get j).s, (R.get j).ts⟩ = R := R.put_get j
  rw [e]; exact Step.refl _ _
 rintro i _ B next hi ⟨rfl, F1, s1, M1, U1, ts, h1, I1, hU, S1, hM1⟩ hnext
 refine br_mk (fun hcd => ?_) (fun hcd => ?_)
 ·have hlt : i < R.ords.length := by have : (i : Int) < ((R.get j).s.n : Int) := by simpa using hcd
                                     omega
  obtain ⟨e1, e2, e3, e4, e5, e6, e7, e8, e9⟩ := R.put_same j ⟨(R.get j).pb, (R.get j).s, ts⟩
  have eg := R.get_put j ⟨(R.get j).pb, (R.get j).s, ts⟩
  generalize hR1 : R.put j ⟨(R.get j).pb, (R.get j).s, ts⟩ = R1 at *
  have hjm1 : (⟨(R.get j).pb, (R.get j).s, ts⟩ : PartS) ∈ R1.parts := eg ▸ R1.get_mem j
  obtain ⟨rp, sp⟩ := h1.rel.pt _ hjm1
  dsimp only at rp sp
  rw [e1] at rp
  have hil : i < ts.length := by have := I1.len; omega
  have hti : ts[i]? = some ts[i] := List.getElem?_eq_getElem hil
  have hta : ts[i] ∈ R1.all := RelS.part_all hjm1 _ (List.getElem_mem hil)
  refine SlX.ld (c := cPtr) (x := at0 ts[i].k) (i := i) sp (ksV_at hti) rfl fun ad _ => ?_
  refine RowT.ld (c := cPtr) (i := 0) (x := some ⟨R.rb, 0, none⟩) rp rfl ?_
  obtain ⟨t1, t2, t3⟩ := ht i hlt
  rw [← e1]
  have hlt1 : i < R1.ords.length := by rw [e5]; exact hlt
  have eo : R1.ords[i] = R.ords[i] := by simp [e5]
  refine turned_ok h1.rel (hlo.ints hl S1) hlt1 (by rw [eo]; exact t1) fun rs C oC eC => ?_
  rw [eo] at oC
  have h2 := h1.grow eC
  have hold : ts[i] ∈ (R.get j).ts := by
   have := I1.left i (Nat.le_refl _)
   rw [hti] at this
   exact List.mem_of_getElem? this.symm
  have hwt := hw _ hold
  have hnm : ts[i].n.size ≤ 9223372036854775807 := by
   obtain ⟨a, ha, e⟩ := h1.rel.nms _ hta
   have := (nmR_size (name := R.name) (j := a) (by have := hF.nb; rw [e7] at ha; omega)).1
   have := hF.name
   rw [e, e2]; omega
  have hmul : i * (2 * w + 4) + (2 * w + 4) ≤ R.ords.length * (2 * w + 4) := by
   have := Nat.mul_le_mul_right (2 * w + 4) (show i + 1 ≤ R.ords.length from hlt)
   rw [Nat.add_mul, Nat.one_mul] at this
   exact this
  refine (h2.rel.tr _ hta).insert h2.pool hg (h2.rel.off _ (.inr (.inr ⟨_, hta, rfl⟩))) hnm (by rw [e3]; exact hF.W) (by omega) hQ (by omega) (by omega) oC.ints ⟨by rw [e3]; exact t2, t3⟩ fun f L' F2 s2 M2 U2 D p2 T2 _ pl _ ln hM2 S2 k2 hU2 => ?_
  refine br_f rfl ?_
  have r2 := h2.rel.treeOp hta S2 k2 T2 hM2
  have htg : ts[i] ∈ (R1.get j).ts := by rw [eg]; exact List.getElem_mem hil
  have eup : R1.up ts[i].k L' = R.put j ⟨(R.get j).pb, (R.get j).s, ts.map (Tx.up ts[i].k L')⟩ := by
   rw [RelS.up_put h1.rel.ks htg, eg, ← hR1, RelS.put_put]; rfl
  obtain ⟨x2, hx2⟩ := (h2.rel.tr _ hta).there
  have d2 := h2.dom.same hx2 hM2
  have S3 : Step (R.X F) ((R1.up ts[i].k L').X F2) A D := by
   refine S1.trans (Step.trans (Step.ofExt eC) (S2.widen (fun b u => u.elim .inl fun v => .inr (v ▸ .inr (.inr ⟨_, hta, rfl⟩))) fun b u => u.elim (fun v => .inr (.inl v)) fun v => .inl (.inr ((RelS.up_O _ _ _ _).1 v))))
  rw [eup] at r2 S3
  have hnd : (ts.map (·.k)).Nodup := by
   have := ((R1.sub_all j).map (·.k)).nodup h1.rel.ks
   rwa [eg] at this
  refine hnext hlt _ _ ⟨succ64 i (by omega), F2, s2, M2, U2, _, ⟨p2.later (by omega), r2, d2⟩, I1.step hnd hti (by rw [show R.ords.getD i [] = R.ords[i] by simp [List.getD, List.getElem?_eq_getElem hlt]]; exact pl) ln, ?_, S3, fun a ha => ?_⟩
  ·rw [Nat.add_mul]; omega
  ·rw [hM2 a fun e => ?_]
   ·exact hM1 a ha
   ·obtain ⟨b, hb, e'⟩ := h1.rel.nms _ hta
    refine ha b (by have := hF.nb; rw [e7] at hb; omega) ?_
    rw [e, e', e2]
 ·have hge : i = R.ords.length := by have : ¬ (i : Int) < ((R.get j).s.n : Int) := by simpa using hcd
                                     omega
  subst hge
  exact hK F1 s1 M1 U1 ts B h1 I1 hU S1 hM1
end
def PartS.rowsAt (q : PartS) (i : Nat) : List (List Int) := match q.ts[i]? with | some t => t.L | none => []
section
variable {H0 A B : Heap} {F F' : Nat → Prop} {p dp Q U most m c : Nat} {s s' : Pl} {M M' : Files} {R : RelS} {l : Sl} {ll : List Int}
structure Ins (ords : List (List Int)) (ll : List Int) (q q' : PartS) : Prop where
 pb : q'.pb = q.pb
 len : q'.ts.length = ords.length
 rows : ∀ i, i < ords.length → Plus (turnL ll (ords.getD i [])) (q.rowsAt i) (q'.rowsAt i) ∧ (q'.rowsAt i).length ≤ (q.rowsAt i).length + 1
theorem InsT.ins {ords : List (List Int)} {q : PartS} {ts : List Tx} {sl : Sl} {pb : Nat} (hq : q.ts.length = ords.length) (hp : pb = q.pb) (I : InsT ords ll ords.length q.ts ts) : Ins ords ll q ⟨pb, sl, ts⟩ := by
 refine ⟨hp, by rw [← hq]; exact I.len, fun i hi => ?_⟩
 have h1 : i < q.ts.length := by omega
 have h2 : i < ts.length := by have := I.len; omega
 have := I.done i _ _ hi (List.getElem?_eq_getElem h1) (List.getElem?_eq_getElem h2)
 unfold PartS.rowsAt
 simp only [List.getElem?_eq_getElem h1, List.getElem?_eq_getElem h2]
 exact this
set_option maxHeartbeats 1000000 in
theorem insert_ok {j w : Nat} {K : Int → Heap → Prop} (h : RelP H0 A F p dp s M Q U most m c R) (hg : Gl H0) (hF : R.Fit) (hQ : Q ≤ 1048576) (hm : m + 200000 ≤ 30000000000) (hw : ∀ i, ((R.get j).rowsAt i).length ≤ w) (hw4 : w ≤ 400) (hq : U + R.ords.length * (2 * w + 6) + w + 4 < Q) (hc : c + R.ords.length < 4096) (ho : R.ords.length ≤ 16) (hts : (R.get j).ts = [] ∨ (R.get j).ts.length = R.ords.length) (hex : R.ex = []) (hnb : R.nb = R.next) (hn : R.next + R.ords.length ≤ 100)
  (hl : Ints .u64 A l ll) (hlo : Off (R.X F) A l) (ht : ∀ i (hi : i < R.ords.length), R.ords[i].length ≤ 1000 ∧ (turnL ll R.ords[i]).length = R.W ∧ fitsL (turnL ll R.ords[i]))
  (hK : ∀ F' s' M' U' q' nx B, RelP H0 B F' p dp s' M' Q U' most (m + 100000) (c + R.ords.length) ((R.put j q').nums nx nx) → Ins R.ords ll (R.get j) q' → U' ≤ U + R.ords.length * (2 * w + 6) → nx ≤ R.next + R.ords.length → Step (R.X F) (RelS.X ((R.put j q').nums nx nx) F') A B → (∀ a, (∀ i, i < 100 → a ≠ nmR R.name i) → M' a = M a) → K 0 B) : Zce.sp (at0 (R.get j).pb) l (some (Addr.add ⟨R.rb, 0, none⟩ 9)) A K := by
 have hjm := R.get_mem j
 refine Zce.of ?_
 unfold Zce.vc
 have hmul : R.ords.length * (2 * w + 6) = R.ords.length * (2 * w + 4) + 2 * R.ords.length := by
  rw [show 2 * w + 6 = (2 * w + 4) + 2 by omega, Nat.mul_add]; omega
 -- what holds where the ways meet
 refine ⟨fun _ B => ∃ F' s' M' U' m' sl ts nx, RelP H0 B F' p dp s' M' Q U' most m' (c + R.ords.length) ((R.put j ⟨(R.get j).pb, sl, ts⟩).nums nx nx) ∧ ts.length = R.ords.length ∧ (∀ i t, ts[i]? = some t → t.L = (R.get j).rowsAt i) ∧ U' ≤ U + 2 * R.ords.length ∧ m' ≤ m + 100 ∧ nx ≤ R.next + R.ords.length ∧ Step (R.X F) (RelS.X ((R.put j ⟨(R.get j).pb, sl, ts⟩).nums nx nx) F') A B ∧ (∀ a, (∀ i, i < 100 → a ≠ nmR R.name i) → M' a = M a), ?_, ?_⟩
 ·refine optK_mk _ rfl ?_
  refine RowT.ld (c := cSl) (i := 1) (x := (R.get j).s) (h.rel.pt _ hjm).1 rfl ?_
  have hsn := (h.rel.pt _ hjm).2.len
  unfold ksV at hsn
  rw [List.length_map] at hsn
  refine br_mk (fun hcd => ?_) (fun hcd => ?_)
  ·have hz : ((R.get j).s.n : Int) = 0 := by simpa using hcd
   have hts0 : (R.get j).ts = [] := List.eq_nil_of_length_eq_zero (by omega)
   rw [optK_eq]
   refine RowT.ld (c := cPtr) (i := 0) (x := some ⟨R.rb, 0, none⟩) (h.rel.pt _ hjm).1 rfl ?_
   rw [optK_eq]
   refine RowT.ld (c := cSl) (i := 3) (x := R.os) h.rel.row rfl ?_
   refine made_trees (K := K) h hg hF hQ (by omega) (by omega) hc hts0 hex hnb hn ho fun F' s' M' sl ts B r1 tl tL S1 hM => ?_
   refine ⟨F', s', M', _, _, sl, ts, _, r1, tl, fun i t ht => ?_, by omega, by omega, by omega, S1, hM⟩
   unfold PartS.rowsAt
   rw [hts0, tL t (List.mem_of_getElem? ht)]; simp
  ·have hts0 : (R.get j).ts ≠ [] := fun e => by rw [e] at hsn; rw [hsn] at hcd; simp at hcd
   have e : ((R.put j ⟨(R.get j).pb, (R.get j).s, (R.get j).ts⟩).nums R.next R.next) = R := by
    have : R.put j ⟨(R.get j).pb, (R.get j).s, (R.get j).ts⟩ = R := R.put_get j
    rw [this]
    cases R
    simp only at hnb
    subst hnb
    rfl
   refine ⟨F, s, M, U, m, (R.get j).s, (R.get j).ts, R.next, by rw [e]; exact ⟨h.pool, h.rel, h.dom.mono (by omega)⟩, hts.resolve_left hts0, fun i t ht => ?_, by omega, by omega, by omega, by rw [e]; exact Step.refl _ _, fun _ _ => rfl⟩
   unfold PartS.rowsAt
   rw [ht]
 ·rintro _ B ⟨F1, s1, M1, U1, m1, sl, ts, nx, r1, tl, tL, hU1, hm1, hnx, S1, hM1⟩
  obtain ⟨e1, e2, e3, e4, e5, e6, e7, e8, e9⟩ := R.put_same j ⟨(R.get j).pb, sl, ts⟩
  have eg : ((R.put j ⟨(R.get j).pb, sl, ts⟩).nums nx nx).get j = ⟨(R.get j).pb, sl, ts⟩ := by rcases j with _ | _ | j <;> rfl
  have epp : ∀ q, ((R.put j ⟨(R.get j).pb, sl, ts⟩).nums nx nx).put j q = (R.put j q).nums nx nx := by intro q; rcases j with _ | _ | j <;> rfl
  have a1 : ((R.put j ⟨(R.get j).pb, sl, ts⟩).nums nx nx).ords = R.ords := e5
  have a2 : ((R.put j ⟨(R.get j).pb, sl, ts⟩).nums nx nx).W = R.W := e3
  have a3 : ((R.put j ⟨(R.get j).pb, sl, ts⟩).nums nx nx).name = R.name := e2
  have hw' : ∀ t ∈ ts, t.L.length ≤ w := fun t ht => by
   obtain ⟨i, hi⟩ := List.mem_iff_getElem?.1 ht
   rw [tL i t hi]; exact hw i
  have hF1 : ((R.put j ⟨(R.get j).pb, sl, ts⟩).nums nx nx).Fit := by
   refine ⟨by rw [a2]; exact hF.W, by rw [a3]; exact hF.name, by show nx ≤ 100; omega, fun t ht => ?_⟩
   have : t ∈ ts ∨ t ∈ R.all := by
    unfold RelS.all at ht ⊢
    rcases j with _ | _ | j <;> (simp only [RelS.put, RelS.nums, List.mem_append] at ht ⊢)
    ·rcases ht with u | u | u | u
     ·exact .inl u
     ·exact .inr (.inr (.inl u))
     ·exact .inr (.inr (.inr (.inl u)))
     ·exact .inr (.inr (.inr (.inr u)))
    ·rcases ht with u | u | u | u
     ·exact .inr (.inl u)
     ·exact .inl u
     ·exact .inr (.inr (.inr (.inl u)))
     ·exact .inr (.inr (.inr (.inr u)))
    ·rcases ht with u | u | u | u
     ·exact .inr (.inl u)
     ·exact .inr (.inr (.inl u))
     ·exact .inl u
     ·exact .inr (.inr (.inr (.inr u)))
   rcases this with u | u
   ·have := hw' t u; omega
   ·exact hF.rows t u
  have hpb : (⟨(R.get j).pb, sl, ts⟩ : PartS).pb = (((R.put j ⟨(R.get j).pb, sl, ts⟩).nums nx nx).get j).pb := by rw [eg]
  have key := ins_trees (j := j) (w := w) (K := K) (l := l) (ll := ll) r1 hg hF1 hQ (by omega) (by rw [eg]; exact hw') hw4 (by rw [a1]; omega) (by rw [a1]; exact ho) (by rw [eg, a1]; exact tl) (hlo.ints hl S1) (hlo.step S1) (by
   intro i hi
   have := ht i (by rw [a1] at hi; exact hi)
   simpa only [a1, a2] using this) (fun F' s' M' U' ts' C r2 I2 hU2 S2 hM2 => by
    rw [eg] at r2 I2 S2
    rw [epp] at r2 S2
    rw [a1] at r2 I2 hU2
    have hI := I2.ins (sl := sl) (pb := (R.get j).pb) (q := ⟨(R.get j).pb, sl, ts⟩) tl rfl
    refine hK F' s' M' U' ⟨(R.get j).pb, sl, ts'⟩ nx C ⟨r2.pool.later (by omega), r2.rel, r2.dom⟩ ⟨rfl, hI.len, fun i hi => ?_⟩ (by omega) hnx (S1.trans S2) (fun a ha => by rw [hM2 a (by rw [a3]; exact ha)]; exact hM1 a ha)
    have h3 := hI.rows i hi
    have h4 : (⟨(R.get j).pb, sl, ts⟩ : PartS).rowsAt i = (R.get j).rowsAt i := by
     have hil : i < ts.length := by omega
     show (match ts[i]? with | some t => t.L | none => []) = _
     rw [List.getElem?_eq_getElem hil]
     exact tL i _ (List.getElem?_eq_getElem hil)
    rw [h4] at h3
    exact h3)
  rw [eg] at key
  exact key
end
end Go.Proofs.YtlockeegebnofaaGreatDoor
