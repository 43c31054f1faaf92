/-
 Ground, fifth text: what the walk of a whole function asks ('vcF'), and that it is enough ('spec_of_vc').
-/
import Derived.Test.YtkehfflpbpdokaaGreatFxd
import Derived.Test.YtkehfflpbpdokaaGreatFxv
namespace Go.Proofs.YtkehfflpbpdokaaGreat
structure Ent where
 s : Nat
 v : Value
 g : Option (Nat × Bool)
def find : List Ent → Nat → Option Ent
 | [], _ => none
 | e :: r, t => bif Nat.beq e.s t then some e else find r t
def gEq (a b : Nat × Bool) : Bool := Nat.beq a.1 b.1 && (a.2 == b.2)
def gOk (gs : List (Nat × Bool)) : Option (Nat × Bool) → Bool
 | none => true
 | some p => gs.any (gEq p)
def opd (E : List Ent) (gs : List (Nat × Bool)) : Operand → Option Value
 | .tmp t => (match find E t with | some e => (bif gOk gs e.g then some e.v else none) | none => none)
 | .const v => some v
 | .global g => some (.pointer (some ⟨g, 0, none⟩))
 | .func f => some (.func (.func f) #[] #[])
def rho (E : List Ent) (gs : List (Nat × Bool)) (x : Operand) : Value := (opd E gs x).getD undef
def opsOk (E : List Ent) (gs : List (Nat × Bool)) (op : Op) : Bool := op.operands.toList.all fun x => (opd E gs x).isSome
def entOk (a : Act) (e : Ent) : Prop :=
 match e.g with
 | none => a.tmps[e.s]? = some e.v
 | some (s, b) => (a.tmps[s]? = some (.bool b) → a.tmps[e.s]? = some e.v) ∧ (a.tmps[s]? ≠ some (.bool b) → a.tmps[e.s]? = some undef)
structure Holds (N : Nat) (D : List Deferred) (E : List Ent) (a : Act) : Prop where
 size : a.tmps.size = N
 defers : a.defers = D
 all : ∀ e ∈ E, entOk a e
def keepE (d : Nat) (e : Ent) : Bool := !(Nat.beq e.s d) && (match e.g with | some (s, _) => !(Nat.beq s d) | none => true)
def gAway (d : Nat) (g : Option (Nat × Bool)) : Bool := match g with | some p => !(Nat.beq p.1 d) | none => true
def putE (N : Nat) (E : List Ent) (dst : Option Nat) (v : Value) (g : Option (Nat × Bool)) (K : List Ent → Prop) : Prop :=
 match dst with
 | none => K E
 | some d => bif Nat.blt d N && gAway d g then K (⟨d, v, g⟩ :: E.filter (keepE d)) else False
def know (s : Nat) (b : Bool) : List Ent → List Ent
 | [] => []
 | e :: r => bif Nat.beq e.s s then ⟨s, .bool b, none⟩ :: know s b r else (match e.g with
   | none => e :: know s b r
   | some p => bif gEq p (s, b) then ⟨e.s, e.v, none⟩ :: know s b r else bif Nat.beq p.1 s then know s b r else e :: know s b r)
def Same (W : List Nat) (a a' : Act) : Prop := ∀ t, W.contains t = false → a'.tmps[t]? = a.tmps[t]?
theorem Same.refl (W : List Nat) (a : Act) : Same W a a := fun _ _ => rfl
theorem Same.trans {W : List Nat} {a b c : Act} (h : Same W a b) (k : Same W b c) : Same W a c := fun t ht => (k t ht).trans (h t ht)
theorem Same.mono {W W' : List Nat} {a b : Act} (h : Same W a b) (hs : ∀ t, W'.contains t = false → W.contains t = false) : Same W' a b := fun t ht => h t (hs t ht)
theorem Same.put {W : List Nat} {a : Act} {dst : Option Nat} {v : Value} (h : ∀ d, dst = some d → W.contains d = true) : Same W a (a.put dst v) := by
 intro t ht
 cases dst with
 | none => rfl
 | some d =>
   have hne : d ≠ t := by intro e; subst e; rw [h d rfl] at ht; cases ht
   simp [Act.put, Array.getElem?_setIfInBounds_ne hne]
theorem find_mem : ∀ {E : List Ent} {t : Nat} {e : Ent}, find E t = some e → e ∈ E ∧ e.s = t
 | [], _, _, h => by cases h
 | x :: r, t, e, h => by
   unfold find at h
   cases hb : Nat.beq x.s t with
   | true => rw [hb] at h; have e1 : x = e := Option.some.inj h; subst e1; exact ⟨List.mem_cons_self, Nat.eq_of_beq_eq_true hb⟩
   | false => rw [hb] at h; have := find_mem (E := r) h; exact ⟨List.mem_cons_of_mem _ this.1, this.2⟩
theorem gEq_spec {a b : Nat × Bool} (h : gEq a b = true) : a = b := by
 unfold gEq at h
 simp only [Bool.and_eq_true, beq_iff_eq] at h
 exact Prod.ext (Nat.eq_of_beq_eq_true h.1) h.2
section
variable {P : Program} {N : Nat} {D : List Deferred} {L : List Nat}
theorem opd_eval {E : List Ent} {gs : List (Nat × Bool)} {a : Act} {x : Operand} {v : Value} (hH : Holds N D E a) (hg : ∀ p ∈ gs, a.tmps[p.1]? = some (.bool p.2)) (h : opd E gs x = some v) : a.eval x = v := by
 cases x with
 | tmp t =>
   simp only [opd] at h
   split at h
   ·rename_i e he
    obtain ⟨h1, h2⟩ := find_mem he
    cases hb : gOk gs e.g with
    | false => rw [hb] at h; cases h
    | true =>
      rw [hb] at h
      have hv : e.v = v := Option.some.inj h
      have hok := hH.all e h1
      have : a.tmps[e.s]? = some e.v := by
       unfold entOk at hok
       cases hge : e.g with
       | none => rw [hge] at hok; exact hok
       | some p =>
         rw [hge] at hok hb
         obtain ⟨q, hq, heq⟩ := List.any_eq_true.1 hb
         have := gEq_spec heq
         subst this
         exact hok.1 (hg _ hq)
      rw [h2] at this
      simp only [Act.eval, Array.getD_eq_getD_getElem?, this, hv, Option.getD_some]
   ·cases h
 | const u => exact Option.some.inj h
 | global g => exact Option.some.inj h
 | func f => exact Option.some.inj h
theorem rho_congr {E : List Ent} {gs : List (Nat × Bool)} {a : Act} {o : Oper} (hH : Holds N D E a) (hg : ∀ p ∈ gs, a.tmps[p.1]? = some (.bool p.2)) (h : opsOk E gs o.op = true)
  (hs : ∀ cs b, o.op ≠ .select cs b) : execOp a.eval o = execOp (rho E gs) o := by
 refine execOp_congr o hs fun x hx => ?_
 have := List.all_eq_true.1 h x (by simpa using hx)
 obtain ⟨v, hv⟩ := Option.isSome_iff_exists.1 this
 rw [opd_eval hH hg hv]
 unfold rho
 rw [hv]; rfl
theorem rho_const {E : List Ent} {gs : List (Nat × Bool)} (v : Value) : rho E gs (.const v) = v := rfl
theorem put_get {a : Act} {d : Nat} {v : Value} (h : d < a.tmps.size) : (a.put (some d) v).tmps[d]? = some v := by
 simp [Act.put, h]
theorem put_ne {a : Act} {d t : Nat} {v : Value} (h : d ≠ t) : (a.put (some d) v).tmps[t]? = a.tmps[t]? := by
 simp [Act.put, Array.getElem?_setIfInBounds_ne h]
theorem put_size {a : Act} {dst : Option Nat} {v : Value} : (a.put dst v).tmps.size = a.tmps.size := by
 cases dst <;> simp [Act.put]
theorem put_defers {a : Act} {dst : Option Nat} {v : Value} : (a.put dst v).defers = a.defers := by
 cases dst <;> simp [Act.put]
theorem putE_sound {E : List Ent} {dst : Option Nat} {v : Value} {g : Option (Nat × Bool)} {K : List Ent → Prop} {a : Act} (hH : Holds N D E a) (h : putE N E dst v g K)
  {u : Value} (hu : ∀ s b, g = some (s, b) → a.tmps[s]? = some (.bool b) → u = v) (hu0 : g = none → u = v) (hu2 : ∀ s b, g = some (s, b) → a.tmps[s]? ≠ some (.bool b) → u = undef := by intro _ _ e; cases e) : ∃ E', Holds N D E' (a.put dst u) ∧ K E' := by
 unfold putE at h
 cases dst with
 | none => exact ⟨E, hH, h⟩
 | some d =>
   simp only at h
   cases hb : (Nat.blt d N && gAway d g) with
   | false => rw [hb] at h; exact h.elim
   | true =>
     rw [hb] at h
     simp only [Bool.and_eq_true] at hb
     have hd : d < a.tmps.size := by rw [hH.size]; exact Nat.le_of_ble_eq_true hb.1
     refine ⟨_, ⟨put_size.trans hH.size, put_defers.trans hH.defers, ?_⟩, h⟩
     intro e he
     rcases List.mem_cons.1 he with he | he
     ·subst he
      unfold entOk
      cases g with
      | none => exact (put_get hd).trans (by rw [hu0 rfl])
      | some p =>
        obtain ⟨s, b⟩ := p
        have hsd : s ≠ d := by
         intro e; subst e
         have := hb.2
         simp [gAway] at this
        refine ⟨fun hs => ?_, fun hs => ?_⟩
        ·rw [put_ne (Ne.symm hsd)] at hs
         exact (put_get hd).trans (by rw [hu s b rfl hs])
        ·rw [put_ne (Ne.symm hsd)] at hs
         exact (put_get hd).trans (by rw [hu2 s b rfl hs])
     ·obtain ⟨h1, h2⟩ := List.mem_filter.1 he
      have hok := hH.all e h1
      unfold keepE at h2
      simp only [Bool.and_eq_true, Bool.not_eq_true'] at h2
      have hne : d ≠ e.s := by
       intro e1
       have := h2.1
       rw [← e1] at this
       simp at this
      unfold entOk at hok ⊢
      cases hg : e.g with
      | none => rw [hg] at hok; exact (put_ne hne).trans hok
      | some p =>
        obtain ⟨s, b⟩ := p
        rw [hg] at hok h2
        have hne2 : d ≠ s := by
         intro e1
         have := h2.2
         rw [← e1] at this
         simp at this
        refine ⟨fun hs => ?_, fun hs => ?_⟩
        ·rw [put_ne hne2] at hs
         exact (put_ne hne).trans (hok.1 hs)
        ·rw [put_ne hne2] at hs
         exact (put_ne hne).trans (hok.2 hs)
theorem know_sound {s : Nat} {b : Bool} {a : Act} (hs : a.tmps[s]? = some (.bool b)) : ∀ {E : List Ent}, (∀ e ∈ E, entOk a e) → ∀ e ∈ know s b E, entOk a e
 | [], _, e, he => by simp [know] at he
 | x :: r, h, e, he => by
   have hr := know_sound hs (E := r) (fun e he => h e (List.mem_cons_of_mem _ he))
   have hx := h x List.mem_cons_self
   unfold know at he
   cases hb : Nat.beq x.s s with
   | true =>
     rw [hb] at he
     rcases List.mem_cons.1 he with he | he
     ·subst he; exact hs
     ·exact hr e he
   | false =>
     rw [hb] at he
     simp only [cond_false] at he
     unfold entOk at hx
     cases hg : x.g with
     | none =>
       rw [hg] at he hx
       rcases List.mem_cons.1 he with he | he
       ·subst he; unfold entOk; rw [hg]; exact hx
       ·exact hr e he
     | some p =>
       rw [hg] at he hx
       simp only at he
       cases hb2 : gEq p (s, b) with
       | true =>
         rw [hb2] at he
         have := gEq_spec hb2
         subst this
         rcases List.mem_cons.1 he with he | he
         ·subst he; exact hx.1 hs
         ·exact hr e he
       | false =>
         rw [hb2] at he
         simp only [cond_false] at he
         cases hb3 : Nat.beq p.1 s with
         | true => rw [hb3] at he; exact hr e he
         | false =>
           rw [hb3] at he
           rcases List.mem_cons.1 he with he | he
           ·subst he; unfold entOk; rw [hg]; exact hx
           ·exact hr e he
theorem Holds.know {E : List Ent} {a : Act} {s : Nat} {b : Bool} (hH : Holds N D E a) (hs : a.tmps[s]? = some (.bool b)) : Holds N D (know s b E) a :=
 ⟨hH.size, hH.defers, know_sound hs hH.all⟩
def knowM (s : Nat) (b : Bool) (E : List Ent) : List Ent := know s b E ++ [⟨s, .bool b, some (s, b)⟩]
theorem Holds.knowM {E : List Ent} {a : Act} {s : Nat} {b : Bool} (hH : Holds N D E a) (hs : a.tmps[s]? = some (.bool b)) : Holds N D (knowM s b E) a :=
 ⟨hH.size, hH.defers, fun e he => by
  rcases List.mem_append.1 he with h | h
  ·exact (hH.know hs).all e h
  ·rw [List.mem_singleton.1 h]; exact ⟨fun h => h, fun h => absurd hs h⟩⟩
def knowU (s : Nat) (b : Bool) : List Ent → List Ent
 | [] => []
 | e :: r => bif Nat.beq e.s s then ⟨s, .bool b, none⟩ :: knowU s b r else (match e.g with
   | none => e :: knowU s b r
   | some p => bif gEq p (s, b) then ⟨e.s, e.v, none⟩ :: knowU s b r else bif Nat.beq p.1 s then ⟨e.s, undef, none⟩ :: knowU s b r else e :: knowU s b r)
theorem knowU_sound {s : Nat} {b : Bool} {a : Act} (hs : a.tmps[s]? = some (.bool b)) : ∀ {E : List Ent}, (∀ e ∈ E, entOk a e) → ∀ e ∈ knowU s b E, entOk a e
 | [], _, e, he => by simp [knowU] at he
 | x :: r, h, e, he => by
   have hr := knowU_sound hs (E := r) (fun e he => h e (List.mem_cons_of_mem _ he))
   have hx := h x List.mem_cons_self
   unfold knowU at he
   cases hb : Nat.beq x.s s with
   | true =>
     rw [hb] at he
     rcases List.mem_cons.1 he with he | he
     ·subst he; exact hs
     ·exact hr e he
   | false =>
     rw [hb] at he
     simp only [cond_false] at he
     unfold entOk at hx
     cases hg : x.g with
     | none =>
       rw [hg] at he hx
       rcases List.mem_cons.1 he with he | he
       ·subst he; unfold entOk; rw [hg]; exact hx
       ·exact hr e he
     | some p =>
       rw [hg] at he hx
       simp only at he
       cases hb2 : gEq p (s, b) with
       | true =>
         rw [hb2] at he
         have := gEq_spec hb2
         subst this
         rcases List.mem_cons.1 he with he | he
         ·subst he
          exact hx.1 hs
         ·exact hr e he
       | false =>
         rw [hb2] at he
         simp only [cond_false] at he
         cases hb3 : Nat.beq p.1 s with
         | true =>
           rw [hb3] at he
           have e3 := Nat.eq_of_beq_eq_true hb3
           obtain ⟨p1, p2⟩ := p
           simp only at e3 hx
           subst e3
           rcases List.mem_cons.1 he with he | he
           ·subst he
            refine hx.2 fun q => ?_
            rw [hs] at q
            have q2 : b = p2 := by injection q with q; injection q
            subst q2
            unfold gEq at hb2
            simp at hb2
           ·exact hr e he
         | false =>
           rw [hb3] at he
           rcases List.mem_cons.1 he with he | he
           ·subst he; unfold entOk; rw [hg]; exact hx
           ·exact hr e he
def knowMU (s : Nat) (b : Bool) (E : List Ent) : List Ent := knowU s b E ++ [⟨s, .bool b, some (s, b)⟩]
theorem Holds.knowMU {E : List Ent} {a : Act} {s : Nat} {b : Bool} (hH : Holds N D E a) (hs : a.tmps[s]? = some (.bool b)) : Holds N D (knowMU s b E) a :=
 ⟨hH.size, hH.defers, fun e he => by
  rcases List.mem_append.1 he with h | h
  ·exact knowU_sound hs hH.all e h
  ·rw [List.mem_singleton.1 h]; exact ⟨fun h => h, fun h => absurd hs h⟩⟩
def isLit (E : List Ent) (s : Nat) : Bool := E.any fun e => Nat.beq e.s s && (match e.g with | some p => Nat.beq p.1 s | none => false)
def pickGs (gs : List (Nat × Bool)) (c : Operand) (b : Bool) : List (Nat × Bool) := match c with | .tmp t => (t, b) :: gs | _ => gs
def okK (M : Option (Heap → Prop)) (H : Heap) (A : Prop) : Prop := match M with | none => A | some G => G H ∧ A
def isSelect : Op → Bool
 | .select .. => true
 | _ => false
def tryTotal (P : Program) (E : List Ent) (gs : List (Nat × Bool)) (o : Oper) : Option Value :=
 match o.op with
 | .pick c a b => (match opd E gs c, opd E (pickGs gs c true) a, opd E (pickGs gs c false) b with
   | some (.bool t), some va, some vb => some (pickV t a b va vb)
   | _, _, _ => none)
 | op => bif isTotal P op && (opsOk E gs op && !(isSelect op)) then evalOp P o (rho E gs) else none
def vcRaw (P : Program) (L : List Nat) (E : List Ent) (gs : List (Nat × Bool)) (o : Oper) (M : Option (Heap → Prop)) (H : Heap) (K : Value → Heap → Prop) : Prop :=
 match tryTotal P E gs o with
 | some v => K v H
 | none => bif opsOk E gs o.op && !(isSelect o.op) then
   (match clsOp P o.op with
    | 0 => vcPureX P o.op (rho E gs) fun v => K v H
    | 1 => vcReadX P o.op o.type (rho E gs) (bif inL L o then none else M) H fun v => K v H
    | _ => vcEffX P o.op o.type (rho E gs) H fun v H' => okK M H' (K v H'))
   else False
theorem tryTotal_run {E : List Ent} {gs : List (Nat × Bool)} {o : Oper} {a : Act} {v : Value} (hH : Holds N D E a) (hg : ∀ p ∈ gs, a.tmps[p.1]? = some (.bool p.2))
  (h : tryTotal P E gs o = some v) (w' : World) : (execOp a.eval o).run P w' = .ok (.value v) w' := by
 unfold tryTotal at h
 split at h
 ·rename_i c x y hop
  split at h
  ·rename_i t va vb hc hx hy
   have hv : pickV t x y va vb = v := Option.some.inj h
   subst hv
   have ec := opd_eval hH hg hc
   have key : pickV t x y va vb = if t then a.eval x else a.eval y := by
    have hct : ∀ b, t = b → ∀ p ∈ pickGs gs c b, a.tmps[p.1]? = some (.bool p.2) := by
     intro b hb p hp
     cases c with
     | tmp s =>
       simp only [pickGs] at hp
       rcases List.mem_cons.1 hp with hp | hp
       ·subst hp
        simp only [opd] at hc
        split at hc
        ·rename_i e he
         obtain ⟨h1, h2⟩ := find_mem he
         cases hb2 : gOk gs e.g with
         | false => rw [hb2] at hc; cases hc
         | true =>
           rw [hb2] at hc
           have hv : e.v = .bool t := Option.some.inj hc
           have hok := hH.all e h1
           have : a.tmps[e.s]? = some e.v := by
            unfold entOk at hok
            cases hge : e.g with
            | none => rw [hge] at hok; exact hok
            | some p =>
              rw [hge] at hok hb2
              obtain ⟨q, hq, heq⟩ := List.any_eq_true.1 hb2
              have := gEq_spec heq
              subst this
              exact hok.1 (hg _ hq)
           rw [h2, hv, hb] at this
           exact this
        ·cases hc
       ·exact hg p hp
     | _ => exact hg p hp
    -- the constant's own case
    have cx : ∀ v, x = .const v → va = v := fun v e => by subst e; exact (Option.some.inj hx).symm
    have cy : ∀ v, y = .const v → vb = v := fun v e => by subst e; exact (Option.some.inj hy).symm
    have e0 : pickV t x y va vb = if t then va else vb := by
     unfold pickV
     split
     ·rename_i p q
      split
      ·have := cy _ rfl
       have e2 : q = false := by simpa using this
       subst e2; cases t <;> simp
      ·split
       ·have := cx _ rfl
        have e2 : p = true := by simpa using this
        subst e2; cases t <;> simp
       ·cases t <;> simp
     ·cases t <;> simp
    rw [e0]
    cases t with
    | true => simp only [if_true]; rw [opd_eval hH (hct true rfl) hx]
    | false => simp only [Bool.false_eq_true, if_false]; rw [opd_eval hH (hct false rfl) hy]
   simp only [execOp, hop, ec, asBool, Sem.run_bind, Sem.run_pure, Result.andThen_ok, key]
  ·cases h
 ·cases hb : (isTotal P o.op && (opsOk E gs o.op && !(isSelect o.op))) with
  | false => rw [hb] at h; cases h
  | true =>
    rw [hb] at h
    simp only [Bool.and_eq_true, Bool.not_eq_true'] at hb
    have hs : ∀ cs b, o.op ≠ .select cs b := fun cs b e => by rw [e] at hb; cases hb.2.2
    rw [rho_congr hH hg hb.2.1 hs]
    exact evalOp_run h w'
theorem lexRun_total {c : Nat} {M : Option (Heap → Prop)} {r : World → Result Next} {v : Value} {R : Value → World → Prop} {w : World} (hG : okC M w.heap) (hv : ∀ w', r w' = .ok (.value v) w') (hr : R v w) : lexRun P M c r R w := by
 match c with
 | 0 => exact ⟨v, hv, hr⟩
 | 1 => exact ⟨v, fun w' _ => hv w', hr⟩
 | _ + 2 => show wpR P (r w) _; rw [hv w]; exact ⟨hG, hr⟩
theorem clsL_of_ne {L : List Nat} {o : Oper} {c : Nat} (h : clsOp P o.op = c) (hc : c ≠ 1) : clsL P L o = c := by
 unfold clsL
 have : Nat.beq (clsOp P o.op) 1 = false := by
  cases hb : Nat.beq (clsOp P o.op) 1 with
  | false => rfl
  | true => exact absurd (h.symm.trans (Nat.eq_of_beq_eq_true hb)) hc
 rw [this]; exact h
theorem clsL_late {L : List Nat} {o : Oper} (h : clsOp P o.op = 1) (hl : inL L o = true) : clsL P L o = 2 := by
 unfold clsL; rw [h, hl]; rfl
theorem clsL_early {L : List Nat} {o : Oper} (h : clsOp P o.op = 1) (hl : inL L o = false) : clsL P L o = 1 := by
 unfold clsL; rw [h, hl]; rfl
theorem vcRaw_sound (hNG : NoNG P) {E : List Ent} {gs : List (Nat × Bool)} {o : Oper} {M : Option (Heap → Prop)} {a : Act} {w : World} {K : Value → Heap → Prop} {R : Value → World → Prop}
  (hH : Holds N D E a) (hg : ∀ p ∈ gs, a.tmps[p.1]? = some (.bool p.2)) (hG : okC M w.heap) (hK : ∀ v w', Alike w w' → okC M w'.heap → K v w'.heap → R v w')
  (h : vcRaw P L E gs o M w.heap K) : lexRun P M (clsL P L o) (fun w => (execOp a.eval o).run P w) R w := by
 unfold vcRaw at h
 split at h
 ·rename_i v hv
  exact lexRun_total hG (tryTotal_run hH hg hv) (hK v w (.refl w) hG h)
 ·cases hb : (opsOk E gs o.op && !(isSelect o.op)) with
  | false => rw [hb] at h; exact h.elim
  | true =>
    rw [hb] at h
    simp only [Bool.and_eq_true, Bool.not_eq_true'] at hb
    have hs : ∀ cs b, o.op ≠ .select cs b := fun cs b e => by rw [e] at hb; cases hb.2
    have he := rho_congr hH hg hb.1 hs
    simp only [cond_true] at h
    rw [he]
    split at h
    ·rename_i hc
     rw [clsL_of_ne hc (by decide)]
     obtain ⟨v, h1, h2⟩ := vcPureX_sound (o := o) (rho_const) h
     exact ⟨v, h1, hK v w (.refl w) hG h2⟩
    ·rename_i hc
     cases hl : inL L o with
     | true =>
       rw [hl] at h
       simp only [cond_true] at h
       obtain ⟨v, h1, h2⟩ := vcReadX_sound (o := o) h
       rw [clsL_late hc hl]
       have h3 := h1 w rfl
       show wpR P ((execOp (rho E gs) o).run P w) _
       rw [h3]
       exact ⟨hG, hK v w (.refl w) hG h2⟩
     | false =>
       rw [hl] at h
       simp only [cond_false] at h
       obtain ⟨v, h1, h2⟩ := vcReadX_sound (o := o) h
       rw [clsL_early hc hl]
       exact ⟨v, fun w' hw' => h1 w' hw', hK v w (.refl w) hG h2⟩
    ·rename_i c n0 n1
     have h3 : wpR P ((execOp (rho E gs) o).run P w) (fun v w' => okC M w'.heap ∧ R v w') := by
      refine vcEffX_sound hNG (M := M) (K := fun v H' => okK M H' (K v H')) ?_ h
      intro v w' ha hk
      cases M with
      | none => exact ⟨trivial, hK v w' ha trivial hk⟩
      | some G => exact ⟨hk.1, hK v w' ha hk.1 hk.2⟩
     have n1' : clsOp P o.op ≠ 1 := fun e => n1 e
     have n0' : clsOp P o.op ≠ 0 := fun e => n0 e
     have n1'' : clsL P L o = clsOp P o.op := clsL_of_ne rfl n1'
     rw [n1'']
     generalize clsOp P o.op = c at *
     match c with
     | 0 => exact absurd rfl n0'
     | 1 => exact absurd rfl n1'
     | _ + 2 => exact h3
def slotOf (ops : Array Oper) (j : Nat) : Option Nat := match ops[j]? with | some o => o.dst | none => none
theorem wanted_slot {ops : Array Oper} {o : Oper} {a : Act} {j s : Nat} {want : Bool} (hg : o.guard = some (j, want)) (hs : slotOf ops j = some s) :
  (Region.wanted o (yielded ops a.tmps) = true ↔ a.tmps[s]? = some (.bool want)) := by
 have hb : (ops[j]?).bind (·.dst) = some s := by
  unfold slotOf at hs
  split at hs
  ·rename_i o' ho; rw [ho]; exact hs
  ·cases hs
 simp only [Region.wanted, hg, yielded, hb, Option.bind_some]
 constructor
 ·intro h
  split at h
  ·rename_i b hb2; rw [hb2]; simpa using h
  ·simp at h
 ·intro h; rw [h]; simp
def vcKnown (P : Program) (N : Nat) (L : List Nat) (M : Option (Heap → Prop)) (o : Oper) (E : List Ent) (H : Heap) (s : Nat) (want b : Bool) (K : List Ent → Heap → Prop) : Prop :=
 bif b == want then vcRaw P L (knowM s b E) [] o M H fun v H' => putE N (knowM s b E) o.dst v none fun E' => K E' H'
 else putE N (knowM s b E) o.dst undef none fun E' => K E' H
def noBool (E : List Ent) (s : Nat) : Bool := match find E s with | some ⟨_, .tuple _, none⟩ => true | _ => false
def ofEntry (ops : Array Oper) (o : Oper) : Bool := match o.op with
 | .extract (.tmp t) _ => ops.toList.any fun p => (match p.op with | .entry _ => (match p.dst with | some d => Nat.beq d t | none => false) | _ => false)
 | _ => false
def vcO (P : Program) (N : Nat) (L : List Nat) (ops : Array Oper) (M : Option (Heap → Prop)) (o : Oper) (E : List Ent) (H : Heap) (K : List Ent → Heap → Prop) : Prop :=
 match o.guard with
 | none => bif ofEntry ops o then (match tryTotal P E [] o with
   | some v => asT (codT P o.type) v fun y => putE N E o.dst ((codT P o.type).enc y) none fun E' => K E' H
   | none => False)
   else vcRaw P L E [] o M H fun v H' => putE N E o.dst v none fun E' => K E' H'
 | some (j, want) => (match slotOf ops j with
   | none => False
   | some s => bif noBool E s then putE N E o.dst undef none fun E' => K E' H else bif isLit E s then (match find E s with
     | some ⟨_, .bool b, none⟩ => br b (vcKnown P N L M o E H s want true K) (vcKnown P N L M o E H s want false K)
     | _ => False) else (match tryTotal P E [(s, want)] o with
     | some v => putE N E o.dst v (some (s, want)) fun E' => K E' H
     | none => (match find E s with
       | some ⟨_, .bool b, none⟩ => br b (vcKnown P N L M o E H s want true K) (vcKnown P N L M o E H s want false K)
       | some ⟨_, .bool b, some (s2, w2)⟩ => (match find E s2 with
         | some ⟨_, .bool b2, none⟩ =>
           br (b2 == w2) (br b (vcKnown P N L M o (knowM s2 w2 E) H s want true K) (vcKnown P N L M o (knowM s2 w2 E) H s want false K)) (putE N (knowMU s2 (!w2) E) o.dst undef none fun E' => K E' H)
         | _ => False)
       | _ => False)))
theorem vcO_sound (hNG : NoNG P) {ops : Array Oper} {M : Option (Heap → Prop)} {o : Oper} {E : List Ent} {a : Act} {w : World} {K : List Ent → Heap → Prop} {K' : Act → World → Prop}
  (hH : Holds N D E a) (hG : okC M w.heap)
  (hK : ∀ E' u w', Holds N D E' (a.put o.dst u) → Alike w w' → okC M w'.heap → K E' w'.heap → K' (a.put o.dst u) w')
  (h : vcO P N L ops M o E w.heap K) : lexO P M L ops o K' a w := by
 have plain : ∀ {E : List Ent}, Holds N D E a → vcRaw P L E [] o M w.heap (fun v H' => putE N E o.dst v none fun E' => K E' H') →
   lexRun P M (clsL P L o) (fun w => (execOp a.eval o).run P w) (fun v w' => K' (a.put o.dst v) w') w := by
  intro E hH h
  refine vcRaw_sound hNG hH (by simp) hG (fun v w' ha hg hk => ?_) h
  obtain ⟨E', h1, h2⟩ := putE_sound hH hk (u := v) (fun _ _ _ _ => rfl) (fun _ => rfl)
  exact hK E' v w' h1 ha hg h2
 have known : ∀ {E : List Ent} {s : Nat} {want b : Bool} {j : Nat}, o.guard = some (j, want) → slotOf ops j = some s → Holds N D E a → a.tmps[s]? = some (.bool b) → vcKnown P N L M o E w.heap s want b K → lexO P M L ops o K' a w := by
  intro E s want b j hg hs hH hv h
  have hw := wanted_slot (a := a) hg hs
  unfold vcKnown at h
  unfold lexO
  by_cases e : b = want
  ·subst e
   simp only [beq_self_eq_true, cond_true] at h
   rw [if_pos (hw.2 hv)]
   exact plain (hH.knowM hv) h
  ·have hne : (b == want) = false := by simpa using e
   rw [hne] at h
   simp only [cond_false] at h
   rw [if_neg (fun hh => by
    have := hw.1 hh
    rw [hv] at this
    simp at this
    exact e this)]
   obtain ⟨E', h1, h2⟩ := putE_sound (hH.knowM hv) h (u := undef) (fun _ _ _ _ => rfl) (fun _ => rfl)
   exact hK E' undef w h1 (.refl w) hG h2
 unfold vcO at h
 split at h
 ·rename_i hg
  unfold lexO
  rw [if_pos (by simp [Region.wanted, hg])]
  cases hoe : ofEntry ops o with
  | false => rw [hoe] at h; exact plain hH h
  | true =>
    rw [hoe] at h
    simp only [cond_true] at h
    split at h
    ·rename_i v hv
     obtain ⟨y, rfl, hy⟩ := h
     obtain ⟨E', h1, h2⟩ := putE_sound hH hy (u := (codT P o.type).enc y) (fun _ _ _ _ => rfl) (fun _ => rfl)
     exact lexRun_total hG (tryTotal_run hH (by simp) hv) (hK E' _ w h1 (.refl w) hG h2)
    ·exact h.elim
 ·rename_i j want hg
  split at h
  ·exact h.elim
  ·rename_i s hs
   have hw := wanted_slot (a := a) hg hs
   cases hnb : noBool E s with
   | true =>
     rw [hnb] at h
     simp only [cond_true] at h
     have hv : ∃ vs, a.tmps[s]? = some (.tuple vs) := by
      unfold noBool at hnb
      split at hnb
      ·rename_i s' vs hf
       obtain ⟨h1, h2⟩ := find_mem hf
       have := hH.all _ h1
       simp only at h2
       subst h2
       exact ⟨vs, this⟩
      ·cases hnb
     obtain ⟨vs, hv⟩ := hv
     unfold lexO
     rw [if_neg (fun hh => by have := hw.1 hh; rw [hv] at this; simp at this)]
     obtain ⟨E', h1, h2⟩ := putE_sound hH h (u := undef) (fun _ _ _ _ => rfl) (fun _ => rfl)
     exact hK E' undef w h1 (.refl w) hG h2
   | false =>
   rw [hnb] at h
   simp only [cond_false] at h
   cases hil : isLit E s with
   | true =>
     rw [hil] at h
     simp only [cond_true] at h
     split at h
     ·rename_i s' b hf
      obtain ⟨h1, h2⟩ := find_mem hf
      have hv : a.tmps[s]? = some (.bool b) := by have := hH.all _ h1; simp only at h2; subst h2; exact this
      cases b with
      | true => exact known hg hs hH hv h
      | false => exact known hg hs hH hv h
     ·exact h.elim
   | false =>
   rw [hil] at h
   simp only [cond_false] at h
   split at h
   ·rename_i v hv
    unfold lexO
    split
    ·rename_i hwant
     have hsl := hw.1 hwant
     obtain ⟨E', h1, h2⟩ := putE_sound hH h (u := v) (fun _ _ _ _ => rfl) (fun _ => rfl) (hu2 := fun s' b' e hh => by obtain ⟨rfl, rfl⟩ := (Prod.mk.inj (Option.some.inj e)); exact absurd hsl hh)
     exact lexRun_total hG (tryTotal_run hH (by intro p hp; rw [List.mem_singleton.1 hp]; exact hsl) hv) (hK E' v w h1 (.refl w) hG h2)
    ·rename_i hwant
     obtain ⟨E', h1, h2⟩ := putE_sound hH h (u := undef) (fun s' b' e hh => by obtain ⟨rfl, rfl⟩ := (Prod.mk.inj (Option.some.inj e)); exact absurd (hw.2 hh) hwant) (fun e => by cases e) (hu2 := fun _ _ _ _ => rfl)
     exact hK E' undef w h1 (.refl w) hG h2
   ·split at h
    ·rename_i s' b hf
     obtain ⟨h1, h2⟩ := find_mem hf
     have hv : a.tmps[s]? = some (.bool b) := by have := hH.all _ h1; simp only at h2; subst h2; exact this
     cases b with
     | true => exact known hg hs hH hv h
     | false => exact known hg hs hH hv h
    ·rename_i s' b s2 w2 hf
     split at h
     ·rename_i s3 b2 hf2
      obtain ⟨h1, h2⟩ := find_mem hf
      obtain ⟨h3, h4⟩ := find_mem hf2
      have hv2 : a.tmps[s2]? = some (.bool b2) := by have := hH.all _ h3; simp only at h4; subst h4; exact this
      obtain ⟨h5, h6⟩ := br_iff.1 h
      by_cases e : b2 = w2
      ·subst e
       have h7 := h5 (by simp)
       have hv : a.tmps[s]? = some (.bool b) := by
        have := hH.all _ h1
        simp only at h2
        subst h2
        exact this.1 hv2
       cases b with
       | true => exact known hg hs (hH.knowM hv2) hv h7
       | false => exact known hg hs (hH.knowM hv2) hv h7
      ·have h7 := h6 (by simpa using e)
       have e2 : b2 = !w2 := by cases b2 <;> cases w2 <;> simp_all
       have hu : a.tmps[s]? = some undef := by
        have := hH.all _ h1
        simp only at h2
        subst h2
        exact this.2 (by rw [hv2]; intro q; injection q with q; injection q with q; exact e q)
       have hnw : ¬ Region.wanted o (yielded ops a.tmps) = true := fun hh => by
        have := hw.1 hh
        rw [hu] at this
        unfold undef at this
        cases this
       unfold lexO
       rw [if_neg hnw]
       obtain ⟨E', k1, k2⟩ := putE_sound (hH.knowMU (by rw [hv2, e2])) h7 (u := undef) (fun _ _ _ _ => rfl) (fun _ => rfl)
       exact hK E' undef w k1 (.refl w) hG k2
     ·exact h.elim
    ·exact h.elim
def vcOps (P : Program) (N : Nat) (L : List Nat) (ops : Array Oper) (M : Option (Heap → Prop)) : List Oper → List Ent → Heap → (List Ent → Heap → Prop) → Prop
 | [], E, H, K => K E H
 | o :: l, E, H, K => vcO P N L ops M o E H fun E' H' => vcOps P N L ops M l E' H' K
def dsts (l : List Oper) : List Nat := l.filterMap (·.dst)
theorem vcOps_sound (hNG : NoNG P) {ops : Array Oper} {M : Option (Heap → Prop)} {K : List Ent → Heap → Prop} {K' : Act → World → Prop} {W : List Nat} {a0 : Act} {w0 : World}
  (hK : ∀ E' a' w', Holds N D E' a' → Same W a0 a' → Alike w0 w' → okC M w'.heap → K E' w'.heap → K' a' w') :
  ∀ (l : List Oper), (∀ o ∈ l, ∀ d, o.dst = some d → W.contains d = true) → ∀ (E : List Ent) (a : Act) (w : World), Holds N D E a → Same W a0 a → Alike w0 w → okC M w.heap → vcOps P N L ops M l E w.heap K → lexOps P M L ops K' l a w
 | [], _, E, a, w, hH, hS, hA, hG, h => hK E a w hH hS hA hG h
 | o :: l, hW, _, _, _, hH, hS, hA, hG, h =>
   vcO_sound hNG hH hG (fun E' _ w' h1 ha hg h2 => vcOps_sound hNG hK l (fun o' ho' => hW o' (List.mem_cons_of_mem _ ho')) E' _ w' h1
    (hS.trans (Same.put (hW o List.mem_cons_self))) (hA.trans ha) hg h2) h
def vcR (P : Program) (N : Nat) (ops : Array Oper) (draw : Bool) (E : List Ent) (H : Heap) (K : List Ent → Heap → Prop) : Prop :=
 bif draw then (bif orderFree P [] 0 ops then vcOps P N [] ops none ops.toList E H K
  else let L := lates P ops
   let k := closeAt P L ops
   bif orderFree P L k ops then (bif Nat.beq k 0 then vcOps P N L ops none ops.toList E H K else ∃ G : Heap → Prop, G H ∧ vcOps P N L ops (some G) (ops.toList.take k) E H fun E' H' => vcOps P N L ops none (ops.toList.drop k) E' H' K) else False)
 else vcOps P N [] ops none ops.toList E H K
theorem vcR_sound (hNG : NoNG P) (hm : P.follows .mixedOrders = true) {rn : Option Nat} {id : Nat} {ops : Array Oper} {draw : Bool} {E : List Ent} {a : Act} {w : World} {K : List Ent → Heap → Prop} {Q : Exit → Act → World → Prop}
  (hH : Holds N D E a) (hK : ∀ E' a' w', Holds N D E' a' → Same (dsts ops.toList) a a' → Alike w w' → K E' w'.heap → Q .normal a' w')
  (h : vcR P N ops draw E w.heap K) : (Code.region id ops draw).wpIn (FW rn) 0 P Q a w := by
 have hW : ∀ o ∈ ops.toList, ∀ d, o.dst = some d → (dsts ops.toList).contains d = true := by
  intro o ho d hd
  rw [List.contains_iff_mem]
  exact List.mem_filterMap.2 ⟨o, ho, hd⟩
 unfold vcR at h
 cases draw with
 | false =>
   exact wp_region_lex (vcOps_sound (M := none) hNG (fun E' a' w' k1 k2 k3 _ k4 => hK E' a' w' k1 k2 k3 k4) ops.toList hW E a w hH (.refl _ _) (.refl _) trivial h)
 | true =>
   simp only [cond_true] at h
   have hd : Alike w { w with drawn := w.drawn + 1 } := .of_le rfl (Nat.le_succ _)
   cases h1 : orderFree P [] 0 ops with
   | true =>
     rw [h1] at h
     refine wp_region_free (M := none) (k := 0) hm (fun i hi => by omega) h1 trivial ?_
     show lexOps P none [] ops _ (ops.toList.take 0) _ _
     rw [List.take_zero, List.drop_zero]
     exact vcOps_sound (M := none) hNG (fun E' a' w' k1 k2 k3 _ k4 => hK E' a' w' k1 k2 k3 k4) ops.toList hW E a _ hH (.refl _ _) hd trivial h
   | false =>
     rw [h1] at h
     simp only [cond_false] at h
     cases h2 : orderFree P (lates P ops) (closeAt P (lates P ops) ops) ops with
     | true =>
       rw [h2] at h
       simp only [cond_true] at h
       cases hk0 : Nat.beq (closeAt P (lates P ops) ops) 0 with
       | true =>
         rw [hk0] at h
         have e0 := Nat.eq_of_beq_eq_true hk0
         rw [e0] at h2
         refine wp_region_free (M := none) (k := 0) hm (fun i hi => by omega) h2 trivial ?_
         show lexOps P none (lates P ops) ops _ (ops.toList.take 0) _ _
         rw [List.take_zero, List.drop_zero]
         exact vcOps_sound (M := none) hNG (fun E' a' w' k1 k2 k3 _ k4 => hK E' a' w' k1 k2 k3 k4) ops.toList hW E a _ hH (.refl _ _) hd trivial h
       | false =>
       rw [hk0] at h
       obtain ⟨G, h3, h4⟩ := h
       refine wp_region_free (M := some G) hm (fun _ _ => rfl) h2 h3 (vcOps_sound hNG (fun E' a' w' k1 k2 k3 _ k4 => ?_) (ops.toList.take _) (fun o ho => hW o (List.mem_of_mem_take ho)) E a _ hH (.refl _ _) hd h3 h4)
       exact vcOps_sound (M := none) hNG (fun E' a' w' k1 k2 k3 _ k4 => hK E' a' w' k1 k2 k3 k4) (ops.toList.drop _) (fun o ho => hW o (List.mem_of_mem_drop ho)) E' a' w' k1 k2 k3 trivial k4
     | false =>
       rw [h2] at h
       simp only [cond_false] at h
def idxO (ops : Array Oper) (l : List Nat) : List Oper := l.flatMap fun i => (ops.toList.drop i).take 1
def vcT (P : Program) (N : Nat) (L : List Nat) (ops : Array Oper) (M : Option (Heap → Prop)) (f c : Nat) : List Nat → List Ent → Heap → (List Ent → Heap → Prop) → Prop
 | [], E, H, K => vcOps P N L ops M (idxO ops [f]) E H K
 | i :: l, E, H, K => bif Nat.ble c i then vcOps P N L ops M (idxO ops (f :: i :: l)) E H K else
   bif stopF P L ops f c i then vcOps P N L ops M (idxO ops (f :: i :: l)) E H K ∧ vcOps P N L ops M (idxO ops [i]) E H (fun E' H' => vcT P N L ops M f c l E' H' K)
   else vcOps P N L ops M (idxO ops [i]) E H fun E' H' => vcT P N L ops M f c l E' H' K
def vcR3 (f c : Nat) (P : Program) (N : Nat) (ops : Array Oper) (E : List Ent) (H : Heap) (K : List Ent → Heap → Prop) : Prop :=
 let L := lates P ops
 bif floatB P L ops f c (befs ops.toList []) then ∃ G : Heap → Prop, G H ∧ vcT P N L ops (some G) f c (restF ops.size f) E H K else False
theorem lexL_idx {M : Option (Heap → Prop)} {L : List Nat} {ops : Array Oper} {K : Act → World → Prop} : ∀ (l : List Nat), (∀ i ∈ l, i < ops.size) → lexL P M ops.size L ops K l = lexOps P M L ops K (idxO ops l)
 | [], _ => rfl
 | i :: l, h => by
   have hi := h i List.mem_cons_self
   have ih := lexL_idx (M := M) (L := L) (K := K) l fun k hk => h k (List.mem_cons_of_mem _ hk)
   have e : (ops.toList.drop i).take 1 = [ops[i]] := by
    rw [List.drop_eq_getElem_cons (by simpa using hi)]; simp
   have e2 : idxO ops (i :: l) = ops[i] :: idxO ops l := by
    unfold idxO; rw [List.flatMap_cons, e]; rfl
   have mi : Mat M ops.size i = M := by unfold Mat; rw [blt_t.2 hi]; rfl
   rw [e2]
   funext a w
   simp only [lexL, lexOps, lexI, Array.getElem?_eq_getElem hi, mi, ih]
theorem vcT_sound (hNG : NoNG P) {L : List Nat} {ops : Array Oper} {M : Option (Heap → Prop)} {f c : Nat} {K : List Ent → Heap → Prop} {K' : Act → World → Prop} {W : List Nat} {a0 : Act} {w0 : World}
  (hK : ∀ E' a' w', Holds N D E' a' → Same W a0 a' → Alike w0 w' → okC M w'.heap → K E' w'.heap → K' a' w') (hf : f < ops.size) (hW : ∀ o ∈ ops.toList, ∀ d, o.dst = some d → W.contains d = true) :
  ∀ (l : List Nat), (∀ i ∈ l, i < ops.size) → ∀ (E : List Ent) (a : Act) (w : World), Holds N D E a → Same W a0 a → Alike w0 w → okC M w.heap → vcT P N L ops M f c l E w.heap K → lexT P M L ops f c K' l a w := by
 have hWi : ∀ l : List Nat, ∀ o ∈ idxO ops l, ∀ d, o.dst = some d → W.contains d = true := fun l o ho => by
  unfold idxO at ho
  obtain ⟨i, _, hi⟩ := List.mem_flatMap.1 ho
  exact hW o (List.mem_of_mem_drop (List.mem_of_mem_take hi))
 intro l
 induction l with
 | nil =>
   intro _ E a w hH hS hA hG h
   unfold lexT
   rw [lexL_idx [f] fun i hi => by rw [List.mem_singleton] at hi; subst hi; exact hf]
   exact vcOps_sound hNG hK _ (hWi _) E a w hH hS hA hG h
 | cons i l ih =>
   intro hl E a w hH hS hA hG h
   have hi := hl i List.mem_cons_self
   have ih' := ih fun k hk => hl k (List.mem_cons_of_mem _ hk)
   have full : vcOps P N L ops M (idxO ops (f :: i :: l)) E w.heap K → lexL P M ops.size L ops K' (f :: i :: l) a w := fun hx => by
    rw [lexL_idx (f :: i :: l) fun k hk => by
     rcases List.mem_cons.1 hk with q | q
     ·subst q; exact hf
     ·exact hl k q]
    exact vcOps_sound hNG hK _ (hWi _) E a w hH hS hA hG hx
   have one : vcOps P N L ops M (idxO ops [i]) E w.heap (fun E' H' => vcT P N L ops M f c l E' H' K) → lexI P M ops.size L ops i (lexT P M L ops f c K' l) a w := fun hx => by
    have := vcOps_sound (K' := lexT P M L ops f c K' l) hNG (fun E' a' w' h1 h2 h3 h4 h5 => ih' E' a' w' h1 h2 h3 h4 h5) _ (hWi [i]) E a w hH hS hA hG hx
    rw [← lexL_idx [i] fun k hk => by rw [List.mem_singleton] at hk; subst hk; exact hi] at this
    exact this
   unfold vcT at h
   unfold lexT
   cases hb : Nat.ble c i with
   | true => rw [hb] at h; exact full h
   | false =>
     rw [hb] at h
     cases hs : stopF P L ops f c i with
     | true => rw [hs] at h; exact ⟨full h.1, one h.2⟩
     | false => rw [hs] at h; exact one h
theorem vcR3_sound (hNG : NoNG P) (hm : P.follows .mixedOrders = true) {f c : Nat} {rn : Option Nat} {id : Nat} {ops : Array Oper} {E : List Ent} {a : Act} {w : World} {K : List Ent → Heap → Prop} {Q : Exit → Act → World → Prop}
  (hH : Holds N D E a) (hK : ∀ E' a' w', Holds N D E' a' → Same (dsts ops.toList) a a' → Alike w w' → K E' w'.heap → Q .normal a' w')
  (h : vcR3 f c P N ops E w.heap K) : (Code.region id ops true).wpIn (FW rn) 0 P Q a w := by
 have hW : ∀ o ∈ ops.toList, ∀ d, o.dst = some d → (dsts ops.toList).contains d = true := by
  intro o ho d hd
  rw [List.contains_iff_mem]
  exact List.mem_filterMap.2 ⟨o, ho, hd⟩
 have hd : Alike w { w with drawn := w.drawn + 1 } := .of_le rfl (Nat.le_succ _)
 unfold vcR3 at h
 simp only at h
 cases h2 : floatB P (lates P ops) ops f c (befs ops.toList []) with
 | false => rw [h2] at h; exact h.elim
 | true =>
   rw [h2] at h
   obtain ⟨G, h3, h4⟩ := h
   have hF := floatB_spec h2
   exact wp_region_float (M := some G) hm rfl h2 h3 (vcT_sound hNG (fun E' a' w' k1 k2 k3 _ k4 => hK E' a' w' k1 k2 k3 k4) (Nat.lt_trans hF.fc hF.cn) hW _ (fun i hi => List.mem_range.1 (List.mem_filter.1 hi).1) E a _ hH (.refl _ _) hd h3 h4)
def vcX (P : Program) (N : Nat) (L : List Nat) (ops : Array Oper) (M : Option (Heap → Prop)) (K : List Ent → Heap → Prop) : Nat → List Nat → List Ent → Heap → Prop
 | 0, _, E, H => K E H
 | n + 1, l, E, H => (match findX (okX P L ops (befs ops.toList []) l) l with
   | some j => vcOps P N L ops M (idxO ops [j]) E H fun E' H' => vcX P N L ops M K n (offX l j) E' H'
   | none => allX (readyX (befs ops.toList []) l) (fun j => vcOps P N L ops M (idxO ops [j]) E H fun E' H' => vcX P N L ops M K n (offX l j) E' H') l)
def vcR4 (ex : List Nat) (P : Program) (N : Nat) (ops : Array Oper) (E : List Ent) (H : Heap) (K : List Ent → Heap → Prop) : Prop :=
 bif ltB ops then ∃ G : Heap → Prop, G H ∧ vcX P N (ex ++ lates P ops) ops (some G) K ops.size (List.range ops.size) E H else False
theorem vcX_sound (hNG : NoNG P) {L : List Nat} {ops : Array Oper} {M : Option (Heap → Prop)} {K : List Ent → Heap → Prop} {K' : Act → World → Prop} {W : List Nat} {a0 : Act} {w0 : World}
  (hK : ∀ E' a' w', Holds N D E' a' → Same W a0 a' → Alike w0 w' → okC M w'.heap → K E' w'.heap → K' a' w') (hW : ∀ o ∈ ops.toList, ∀ d, o.dst = some d → W.contains d = true) :
  ∀ (n : Nat) (l : List Nat), (∀ i ∈ l, i < ops.size) → ∀ (E : List Ent) (a : Act) (w : World), Holds N D E a → Same W a0 a → Alike w0 w → okC M w.heap → vcX P N L ops M K n l E w.heap → lexX P M L ops K' n l a w := by
 have hWi : ∀ l : List Nat, ∀ o ∈ idxO ops l, ∀ d, o.dst = some d → W.contains d = true := fun l o ho => by
  unfold idxO at ho
  obtain ⟨i, _, hi⟩ := List.mem_flatMap.1 ho
  exact hW o (List.mem_of_mem_drop (List.mem_of_mem_take hi))
 intro n
 induction n with
 | zero =>
   intro l _ E a w hH hS hA hG h
   exact hK E a w hH hS hA hG h
 | succ n ih =>
   intro l hl E a w hH hS hA hG h
   have one : ∀ j ∈ l, vcOps P N L ops M (idxO ops [j]) E w.heap (fun E' H' => vcX P N L ops M K n (offX l j) E' H') → lexI P M ops.size L ops j (lexX P M L ops K' n (offX l j)) a w := fun j hj hx => by
    have := vcOps_sound (K' := lexX P M L ops K' n (offX l j)) hNG (fun E' a' w' h1 h2 h3 h4 h5 => ih (offX l j) (fun i hi => hl i (mem_offX.1 hi).1) E' a' w' h1 h2 h3 h4 h5) _ (hWi [j]) E a w hH hS hA hG hx
    rw [← lexL_idx [j] fun k hk => by rw [List.mem_singleton] at hk; subst hk; exact hl k hj] at this
    exact this
   unfold vcX at h
   unfold lexX
   cases hf : findX (okX P L ops (befs ops.toList []) l) l with
   | some j => rw [hf] at h; exact one j (findX_some hf).1 h
   | none => rw [hf] at h; exact allX_mono (fun j hj => one j hj) h
theorem vcR4_sound (hNG : NoNG P) (hm : P.follows .mixedOrders = true) {ex : List Nat} {rn : Option Nat} {id : Nat} {ops : Array Oper} {E : List Ent} {a : Act} {w : World} {K : List Ent → Heap → Prop} {Q : Exit → Act → World → Prop}
  (hH : Holds N D E a) (hK : ∀ E' a' w', Holds N D E' a' → Same (dsts ops.toList) a a' → Alike w w' → K E' w'.heap → Q .normal a' w')
  (h : vcR4 ex P N ops E w.heap K) : (Code.region id ops true).wpIn (FW rn) 0 P Q a w := by
 have hW : ∀ o ∈ ops.toList, ∀ d, o.dst = some d → (dsts ops.toList).contains d = true := by
  intro o ho d hd
  rw [List.contains_iff_mem]
  exact List.mem_filterMap.2 ⟨o, ho, hd⟩
 have hd : Alike w { w with drawn := w.drawn + 1 } := .of_le rfl (Nat.le_succ _)
 unfold vcR4 at h
 cases h2 : ltB ops with
 | false => rw [h2] at h; exact h.elim
 | true =>
   rw [h2] at h
   obtain ⟨G, h3, h4⟩ := h
   exact wp_region_explore (M := some G) hm rfl h2 h3 (vcX_sound hNG (fun E' a' w' k1 k2 k3 _ k4 => hK E' a' w' k1 k2 k3 k4) hW _ _ (fun i hi => List.mem_range.1 hi) E a _ hH (.refl _ _) hd h3 h4)
end
end Go.Proofs.YtkehfflpbpdokaaGreat
