/-
 Ground, fourth text: what reads and effects ask, and that it is enough.
-/
import Derived.Test.YtkehfflpbpdokaaGreatFxc
namespace Go.Proofs.YtkehfflpbpdokaaGreat
def mapN (H : Heap) (m : Option Nat) (n : Nat) : Prop := match m with | none => n = 0 | some r => ∃ es clk, H[r]? = some (.map es clk) ∧ es.size = n
def lenM (H : Heap) (m : Option Nat) (K : Nat → Prop) : Prop := ∃ n, mapN H m n ∧ K n
def lenMC (G : Heap → Prop) (m : Option Nat) (K : Nat → Prop) : Prop := ∃ n, (∀ H', G H' → mapN H' m n) ∧ K n
def bytesAt (H : Heap) (a : Option Addr) (n : Nat) (s : ByteArray) : Prop :=
 match a with
 | none => s = ByteArray.empty
 | some ad => s.size = n ∧ ∀ i, i < n → hCell H (ad.add i) = some (.int .u8 ((sget s i).toNat : Int))
def b2s (H : Heap) (a : Option Addr) (n : Nat) (K : ByteArray → Prop) : Prop := ∃ s, bytesAt H a n s ∧ K s
def b2sC (G : Heap → Prop) (a : Option Addr) (n : Nat) (K : ByteArray → Prop) : Prop := ∃ s, (∀ H', G H' → bytesAt H' a n s) ∧ K s
def vcReadX (P : Program) (op : Op) (ty : TypeId) (ρ : Operand → Value) (M : Option (Heap → Prop)) (H : Heap) (K : Value → Prop) : Prop :=
 match op with
 | .load t x => (match P.underlying t with
   | some (.struct _) | some (.array _ _) => (match P.info? t with
     | some inf => (match ρ x with
       | .pointer p => optK p fun a => (match M with
         | none => ldA (codT P t) inf.size H a fun u => K ((codT P t).enc u)
         | some G => ldAC (codT P t) inf.size G a fun u => K ((codT P t).enc u))
       | _ => False)
     | none => False)
   | some _ => (match ρ x with
     | .pointer p => optK p fun a => (match M with
       | none => ld (codT P t) H a fun u => K ((codT P t).enc u)
       | some G => ldC (codT P t) G a fun u => K ((codT P t).enc u))
     | _ => False)
   | none => False)
 | .call { callee := .builtin .len, args, argTypes } => (match (argTypes[0]?), (args[0]?) with
   | some t, some x => (match P.underlying t with
     | some (.map _ _) => (match ρ x with
       | .map m => (match M with
         | none => lenM H m fun n => K (.int .i64 (n : Int))
         | some G => lenMC G m fun n => K (.int .i64 (n : Int)))
       | _ => False)
     | _ => False)
   | _, _ => False)
 | .convert src dst x => (match P.underlying src, P.underlying dst with
   | some (.slice e), some .string => (match P.underlying e with
     | some (.int .u8) => (match ρ x with
       | .slice a n _ => (match M with
         | none => b2s H a n fun s => K (.string s)
         | some G => b2sC G a n fun s => K (.string s))
       | _ => False)
     | _ => False)
   | _, _ => False)
 | .lookup t x ix ok => (match M with
   | none => rdV (codOf P ty) P (Instr.lookup t (ρ x) (ρ ix) ok) H fun u => K ((codOf P ty).enc u)
   | some G => rdVC (codOf P ty) P (Instr.lookup t (ρ x) (ρ ix) ok) G fun u => K ((codOf P ty).enc u))
 | .binOp op t x y _ => (match M with
   | none => rdV cBool P (do eqGuard op t x y (ρ x) (ρ y); binOp op t (ρ x) (ρ y)) H fun u => K (.bool u)
   | some G => rdVC cBool P (do eqGuard op t x y (ρ x) (ρ y); binOp op t (ρ x) (ρ y)) G fun u => K (.bool u))
 | _ => False
theorem hRow_load {P : Program} {w : World} {a : Addr} {n : Nat} {v : Value} (h : hRow w.heap a n v) : ∃ cs, v = .agg cs ∧ (loadCells a n).run P w = .ok cs w := by
 obtain ⟨cs, rfl, hs, hc⟩ := h
 refine ⟨cs, rfl, ?_⟩
 have := run_loadCells_list (P := P) w a cs.toList (fun j v hj => by
  have hlt : j < cs.size := by
   have := (List.getElem?_eq_some_iff.1 hj).1; simpa using this
  have h1 := hc j (by omega)
  have h2 : cs[j]? = some v := by simpa using hj
  exact (show w.cell? (a.add j) = cs[j]? from h1).trans h2)
 simpa [hs] using this
theorem bytesAt_run {P : Program} {w : World} {a : Option Addr} {n c : Nat} {s : ByteArray} (h : bytesAt w.heap a n s) : (Conv.bytesToString (.slice a n c)).run P w = .ok (.string s) w := by
 cases a with
 | none => simp only [bytesAt] at h; subst h; rfl
 | some ad =>
   obtain ⟨h1, h2⟩ := h
   have e : (loadCells ad n).run P w = .ok (((List.range n).map fun j => ((sget s j).toNat : Int)).map (Value.int .u8)).toArray w := by
    rw [run_loadCells w ad n (fun j => .int .u8 ((sget s j).toNat : Int)) (fun j hj => h2 j hj), List.map_map]; rfl
   rw [run_bytesToString w ad n c _ e]
   congr 2
   have key : ∀ (l : List Nat) (r : ByteArray), (l.map fun j => ((sget s j).toNat : Int)).foldl (fun r n => r.push (UInt8.ofNat n.toNat)) r = l.foldl (fun r j => r.push (sget s j)) r := by
    intro l
    induction l with
    | nil => intro r; rfl
    | cons x l ih => intro r; simp only [List.map_cons, List.foldl_cons]; rw [ih]; simp
   rw [key]
   have key2 : ∀ (l : List Nat) (r : ByteArray), (l.foldl (fun r j => r.push (sget s j)) r).data.toList = r.data.toList ++ l.map (sget s) := by
    intro l
    induction l with
    | nil => intro r; simp
    | cons x l ih => intro r; rw [List.foldl_cons, ih]; simp [ByteArray.push]
   apply ByteArray.ext
   apply Array.ext'
   rw [key2]
   apply List.ext_getElem?
   intro i
   have hs : s.data.size = n := h1
   have e0 : ByteArray.empty.data.toList = [] := rfl
   rw [e0, List.nil_append]
   by_cases hi : i < n
   ·simp [hi, sget, hs]
   ·simp [hi, hs]
theorem vcReadX_sound {P : Program} {o : Oper} {ρ : Operand → Value} {M : Option (Heap → Prop)} {H : Heap} {K : Value → Prop} (h : vcReadX P o.op o.type ρ M H K) :
  ∃ v, (∀ w : World, inC M H w.heap → (execOp ρ o).run P w = .ok (.value v) w) ∧ K v := by
 obtain ⟨dst, op, type, pos, after, guard⟩ := o
 simp only at h
 have one : ∀ {t : TypeId} {p : Addr} {v : Value} {x : Operand}, ρ x = .pointer (some p) → (∃ d, P.underlying t = some d ∧ (∀ fs, d ≠ .struct fs) ∧ (∀ n e, d ≠ .array n e)) →
   ∀ w : World, hCell w.heap p = some v → (execOp ρ ⟨dst, .load t x, type, pos, after, guard⟩).run P w = .ok (.value v) w := by
  rintro t p v x hx ⟨d, hd, h1, h2⟩ w hc
  have hc' : w.cell? p = some v := hc
  have ha : (isAgg t).run P w = .ok false w := by
   simp only [isAgg, Sem.run_bind, run_underlying' hd, Result.andThen_ok]
   cases d <;> first | rfl | exact absurd rfl (h1 _) | exact absurd rfl (h2 _ _)
  simp [execOp, Instr.loadAt, hx, Instr.sureAddr, loadVar, ha, hc']
 have many : ∀ {t : TypeId} {p : Addr} {v : Value} {x : Operand} {inf : TypeInfo}, ρ x = .pointer (some p) → P.info? t = some inf → (∃ d, P.underlying t = some d ∧ ((∃ fs, d = .struct fs) ∨ ∃ n e, d = .array n e)) →
   ∀ w : World, hRow w.heap p inf.size v → (execOp ρ ⟨dst, .load t x, type, pos, after, guard⟩).run P w = .ok (.value v) w := by
  rintro t p v x inf hx hi ⟨d, hd, h1⟩ w hr
  obtain ⟨cs, rfl, hl⟩ := hRow_load (P := P) hr
  have ha : (isAgg t).run P w = .ok true w := by
   simp only [isAgg, Sem.run_bind, run_underlying' hd, Result.andThen_ok]
   rcases h1 with ⟨fs, rfl⟩ | ⟨n, e, rfl⟩ <;> rfl
  simp [execOp, Instr.loadAt, hx, Instr.sureAddr, loadVar, ha, run_sizeOf' hi, hl]
 unfold vcReadX at h
 split at h
 ·rename_i t x
  split at h
  ·rename_i fs hu
   split at h
   ·rename_i inf hi
    split at h
    ·rename_i p hx
     have hk := optK_some h; clear h; obtain ⟨a, rfl, h⟩ := hk
     cases M with
     | none => obtain ⟨u, h1, h2⟩ := h; exact ⟨_, fun w hw => many hx hi ⟨_, hu, .inl ⟨_, rfl⟩⟩ w (by rw [show w.heap = H from hw]; exact h1), h2⟩
     | some G => obtain ⟨u, h1, h2⟩ := h; exact ⟨_, fun w hw => many hx hi ⟨_, hu, .inl ⟨_, rfl⟩⟩ w (h1 _ hw), h2⟩
    ·exact h.elim
   ·exact h.elim
  ·rename_i n e hu
   split at h
   ·rename_i inf hi
    split at h
    ·rename_i p hx
     have hk := optK_some h; clear h; obtain ⟨a, rfl, h⟩ := hk
     cases M with
     | none => obtain ⟨u, h1, h2⟩ := h; exact ⟨_, fun w hw => many hx hi ⟨_, hu, .inr ⟨_, _, rfl⟩⟩ w (by rw [show w.heap = H from hw]; exact h1), h2⟩
     | some G => obtain ⟨u, h1, h2⟩ := h; exact ⟨_, fun w hw => many hx hi ⟨_, hu, .inr ⟨_, _, rfl⟩⟩ w (h1 _ hw), h2⟩
    ·exact h.elim
   ·exact h.elim
  ·rename_i d n1 n2 hu
   split at h
   ·rename_i p hx
    have hk := optK_some h; clear h; obtain ⟨a, rfl, h⟩ := hk
    have hd : ∃ d, P.underlying t = some d ∧ (∀ fs, d ≠ .struct fs) ∧ (∀ n e, d ≠ .array n e) := ⟨_, hu, fun fs e => n1 fs e, fun n e e2 => n2 n e e2⟩
    cases M with
    | none => obtain ⟨u, h1, h2⟩ := h; exact ⟨_, fun w hw => one hx hd w (by rw [show w.heap = H from hw]; exact h1), h2⟩
    | some G => obtain ⟨u, h1, h2⟩ := h; exact ⟨_, fun w hw => one hx hd w (h1 _ hw), h2⟩
   ·exact h.elim
  ·exact h.elim
 ·rename_i args argTypes
  split at h
  ·rename_i t x ht hx
   split at h
   ·rename_i k e hu
    split at h
    ·rename_i m hm
     have run : ∀ (n : Nat) (w : World), mapN w.heap m n → (execOp ρ ⟨dst, .call ⟨.builtin .len, args, argTypes⟩, type, pos, after, guard⟩).run P w = .ok (.value (.int .i64 (n : Int))) w := by
      intro n w hn
      have ea : (args.map ρ)[0]? = some (.map m) := by rw [Array.getElem?_map, hx, Option.map_some, hm]
      have eb : (Builtin.len_ argTypes type (args.map ρ)).run P w = .ok (goInt n) w := by
       unfold Builtin.len_
       simp only [ht, ea]
       cases m with
       | none => simp only [mapN] at hn; subst hn; simp [run_underlying' hu]
       | some r =>
         obtain ⟨es, clk, h1, h2⟩ := hn
         simp [run_underlying' hu, run_getObj_map w r es clk h1, h2]
      simp [execOp, resolve, invoke, builtin, eb, goInt]
     cases M with
     | none => obtain ⟨n, h1, h2⟩ := h; exact ⟨_, fun w hw => run n w (by rw [show w.heap = H from hw]; exact h1), h2⟩
     | some G => obtain ⟨n, h1, h2⟩ := h; exact ⟨_, fun w hw => run n w (h1 _ hw), h2⟩
    ·exact h.elim
   ·exact h.elim
  ·exact h.elim
 ·rename_i src dst' x
  split at h
  ·rename_i e hs hd
   split at h
   ·rename_i he
    split at h
    ·rename_i a n c hx
     have run : ∀ (s : ByteArray) (w : World), bytesAt w.heap a n s → (execOp ρ ⟨dst, .convert src dst' x, type, pos, after, guard⟩).run P w = .ok (.value (.string s)) w := by
      intro s w hb
      simp only [execOp, hx, Sem.run_bind, run_convert_bytes_string w src dst' e a n c hs he hd, bytesAt_run hb]
      rfl
     cases M with
     | none => obtain ⟨s, h1, h2⟩ := h; exact ⟨_, fun w hw => run s w (by rw [show w.heap = H from hw]; exact h1), h2⟩
     | some G => obtain ⟨s, h1, h2⟩ := h; exact ⟨_, fun w hw => run s w (h1 _ hw), h2⟩
    ·exact h.elim
   ·exact h.elim
  ·exact h.elim
 ·rename_i t x ix ok
  cases M with
  | none => obtain ⟨u, h1, h2⟩ := h; exact ⟨_, fun w hw => by simp only [execOp, Sem.run_bind, h1 w hw]; rfl, h2⟩
  | some G => obtain ⟨u, h1, h2⟩ := h; exact ⟨_, fun w hw => by simp only [execOp, Sem.run_bind, h1 _ hw w rfl]; rfl, h2⟩
 ·rename_i op t x y yt
  cases M with
  | none =>
    obtain ⟨u, h1, h2⟩ := h
    refine ⟨_, fun w hw => ?_, h2⟩
    have := h1 w hw
    simp only [execOp, Sem.run_bind] at this ⊢
    rw [this]; rfl
  | some G =>
    obtain ⟨u, h1, h2⟩ := h
    refine ⟨_, fun w hw => ?_, h2⟩
    have := h1 _ hw w rfl
    simp only [execOp, Sem.run_bind] at this ⊢
    rw [this]; rfl
 ·exact h.elim
def callable (P : Program) (f : FuncId) : Bool := match P.funcs[f]? with | some fn => fn.body.isSome | none => false
def NoNG (P : Program) : Prop := ∀ (f : FuncId) (fn : Func), P.funcs[f]? = some fn → (fn.name == "runtime.NumGoroutine") = false
def bsCells (P : Program) (el : TypeId) (len : Nat) (parts : List (Nat × Value)) : Option (Array Value) :=
 match P.info? el with
 | some inf => (match inf.zero with
   | some z => bif Nat.blt 16777216 (len * inf.size) then none else Instr.fill (fun i => some (i * inf.size, inf.size)) ((Array.range (len * inf.size)).map (z.cells[· % z.cells.size]!)) parts
   | none => none)
 | none => none
def newC (H : Heap) (cells : Array Value) (t : TypeId) (K : Addr → Heap → Prop) : Prop := K ⟨H.size, 0, none⟩ (H.push (.cells cells t))
def newM (H : Heap) (K : Nat → Heap → Prop) : Prop := K H.size (H.push (.map #[] 0))
def YieldSpec (P : Program) (l : Nat) (args : Array Value) (H : Heap) (K : Bool → Heap → Prop) : Prop :=
 ∀ w : World, w.heap = H → wpR P ((Instr.yield l args).run P w) fun v w' => ∃ b, v = .bool b ∧ K b w'.heap ∧ Alike w w'
theorem YieldSpec.mono {P : Program} {l : Nat} {args : Array Value} {H : Heap} {K K' : Bool → Heap → Prop} (h : YieldSpec P l args H K) (hk : ∀ b H', K b H' → K' b H') : YieldSpec P l args H K' :=
 fun w hw => wpR_mono (fun _ _ ⟨b, e, h1, h2⟩ => ⟨b, e, hk _ _ h1, h2⟩) (h w hw)
def boolTy (P : Program) (t : TypeId) : Bool := match P.underlying t with | some .bool => true | _ => false
def callVal (g : FuncId) (args : Array Value) : Sem Value := do match ← callFunc g args with | .value v => pure v | _ => stuck "a call of a function without a body"
theorem callVal_run {P : Program} {g : FuncId} {args : Array Value} {w w' : World} {v : Value} (h : (callVal g args).run P w = .ok v w') : (callFunc g args).run P w = .ok (.value v) w' := by
 unfold callVal at h
 rw [Sem.run_bind] at h
 cases hr : (callFunc g args).run P w with
 | halt x w1 => rw [hr] at h; cases h
 | ok n w1 =>
   rw [hr] at h
   simp only [Result.andThen_ok] at h
   cases n <;> simp only at h <;> first | (rw [Sem.run_pure] at h; cases h; rfl) | cases h
def methOf (P : Program) (t : TypeId) (n : String) : Option FuncId :=
 match P.underlying t, P.info? t with
 | some (.pointer _), some inf => (match inf.methods.find? (·.name == n) with
   | some m => (match m.path.toList, m.func with | [], some (g, true) => some g | _, _ => none)
   | none => none)
 | _, _ => none
def MethV (c : Cod) (P : Program) (n : String) (l : List Value) (H : Heap) (K : c.α → Heap → Prop) : Prop :=
 match l with
 | .iface t v :: r => (match methOf P t n with
   | some g => (bif callable P g then SpecT c P g (v :: r).toArray H K else False)
   | none => False)
 | _ => False
theorem method_run {P : Program} {t : TypeId} {n : String} {g : FuncId} (h : methOf P t n = some g) (v : Value) (w : World) : (method (P.types.size + Made.depth) t v n).run P w = .ok (g, v) w := by
 unfold methOf at h
 split at h
 ·rename_i el inf hu hi
  split at h
  ·rename_i m hm
   split at h
   ·rename_i hp hf
    cases h
    have e : P.types.size + Made.depth = (P.types.size + Made.depth - 1) + 1 := by
     have : 0 < Made.depth := by decide
     omega
    rw [e]
    unfold method
    simp [typeInfo, hi, hm, hp, hf, follow, receiverAt, run_underlying' hu, Place.get]
   ·cases h
  ·cases h
 ·cases h
def CallV (c : Cod) (P : Program) (f : Value) (args : List Value) (H : Heap) (K : c.α → Heap → Prop) : Prop :=
 match f with
 | .func (.func g) first cap => (bif callable P g then SpecT c P g ((first.toList ++ args) ++ cap.toList).toArray H K
   else doT c P (callVal g ((first.toList ++ args) ++ cap.toList).toArray) H K)
 | .func (.yield _) _ _ => False
 | .func (.method n) first _ => MethV c P n (first.toList ++ args) H K
 | _ => False
def CallB (P : Program) (f : Value) (args : List Value) (H : Heap) (K : Bool → Heap → Prop) : Prop :=
 match f with
 | .func (.func g) first cap => (bif callable P g then SpecT cBool P g ((first.toList ++ args) ++ cap.toList).toArray H K
   else doT cBool P (callVal g ((first.toList ++ args) ++ cap.toList).toArray) H K)
 | .func (.yield l) first _ => YieldSpec P l (first.toList ++ args).toArray H K
 | .func (.method n) first _ => MethV cBool P n (first.toList ++ args) H K
 | _ => False
def vcEffX (P : Program) (op : Op) (ty : TypeId) (ρ : Operand → Value) (H : Heap) (K : Value → Heap → Prop) : Prop :=
 match op with
 | .store t x v => (match P.underlying t with
   | some (.struct _) | some (.array _ _) => doU P (Instr.storeAt t (ρ x) (ρ v)) H fun H' => K undef H'
   | some _ => (match P.info? t with
     | some inf => (bif Nat.beq inf.size 1 then (match ρ x with
       | .pointer p => optK p fun a => st H a (ρ v) fun H' => K undef H'
       | _ => False) else False)
     | none => False)
   | none => False)
 | .alloc t => (match (P.info? t).bind (·.zero) with
   | some _ => newC H (zc P t) t fun a H' => K (.pointer (some a)) H'
   | none => False)
 | .box t x => newC H (ρ x).cells t fun a H' => K (.pointer (some a)) H'
 | .buildSlice t len parts => (match P.underlying t with
   | some (.slice el) => (match flatC P 5 el with
     | none => doT cSl P (Instr.buildSlice t len (parts.toList.map fun q => (q.1, ρ q.2)).toArray) H fun u H' => K u.v H'
     | some _ => (match bsCells P el len (parts.toList.map fun q => (q.1, ρ q.2)) with
       | some cells => newC H cells el fun a H' => K (.slice (some a) len len) H'
       | none => False))
   | _ => False)
 | .makeSlice t l c => doT cSl P (Instr.makeSlice t (ρ l) (ρ c)) H fun u H' => K u.v H'
 | .makeMap _ none => newM H fun r H' => K (.map (some r)) H'
 | .makeMap t (some r) => doT cMap P (Instr.makeMap t (some (ρ r))) H fun u H' => K (.map u) H'
 | .mapUpdate t m k v => doU P (Instr.mapUpdate t (ρ m) (ρ k) (ρ v)) H fun H' => K undef H'
 | .insert t m k v => doU P (Instr.mapUpdate t (ρ m) (ρ k) (ρ v)) H fun H' => K undef H'
 | .mapEntry t m k => doT (codOf P ty) P (Instr.mapEntry t (ρ m) (ρ k)) H fun u H' => K ((codOf P ty).enc u) H'
 | .entryStore t m s v => doU P (Instr.entryStore t (ρ m) (ρ s) (ρ v)) H fun H' => K undef H'
 | .range t x => doT cPtr P (Instr.range t (ρ x)) H fun u H' => K (.pointer u) H'
 | .next x b => doT cNext P (Instr.next (ρ x) b ty) H fun u H' => K (.tuple ⟨.bool u.1 :: u.2⟩) H'
 | .entry x => doT cTwo P (Instr.entry (ρ x)) H fun u H' => K (.tuple ⟨[u.1, u.2]⟩) H'
 | .convert src dst x => doT (codOf P dst) P (convert src dst (ρ x)) H fun u H' => K ((codOf P dst).enc u) H'
 | .call { callee := .builtin b, args, argTypes } => (match b with
   | .append => doT cSl P (Builtin.append_ argTypes ty (args.toList.map ρ).toArray) H fun u H' => K u.v H'
   | .copy => doT (cInt .i64) P (Builtin.copy_ argTypes ty (args.toList.map ρ).toArray) H fun u H' => K (.int .i64 u) H'
   | .delete => doT cRaw P (Builtin.delete_ argTypes ty (args.toList.map ρ).toArray) H fun u H' => K u H'
   | .clear => doT cRaw P (Builtin.clear_ argTypes ty (args.toList.map ρ).toArray) H fun u H' => K u H'
   | _ => False)
 | .call { callee := .value f, args, .. } => (match ρ f with
   | .func (.func g) first cap => (bif callable P g then SpecT (codOf P ty) P g ((first.toList ++ args.toList.map ρ) ++ cap.toList).toArray H (fun u H' => K ((codOf P ty).enc u) H')
     else doT (codOf P ty) P (callVal g ((first.toList ++ args.toList.map ρ) ++ cap.toList).toArray) H (fun u H' => K ((codOf P ty).enc u) H'))
   | .func (.yield l) first _ => (bif boolTy P ty then YieldSpec P l (first.toList ++ args.toList.map ρ).toArray H (fun b H' => K (.bool b) H') else False)
   | .func (.method n) first _ => MethV (codOf P ty) P n (first.toList ++ args.toList.map ρ) H (fun u H' => K ((codOf P ty).enc u) H')
   | _ => False)
 | .call { callee := .invoke r n, args, .. } => MethV (codOf P ty) P n (ρ r :: args.toList.map ρ) H (fun u H' => K ((codOf P ty).enc u) H')
 | _ => False
theorem runS_value {P : Program} {s : Sem Value} {w : World} {K : Value → Heap → Prop} {M : Option (Heap → Prop)} {R : Value → World → Prop}
  (h : runS P s w.heap K) (hK : ∀ v w', Alike w w' → K v w'.heap → okC M w'.heap ∧ R v w') :
  wpR P ((do pure (.value (← s)) : Sem Next).run P w) (fun v w' => okC M w'.heap ∧ R v w') := by
 obtain ⟨v, w', h1, h2, h3⟩ := h w rfl
 simp only [Sem.run_bind, h1, Result.andThen_ok, Sem.run_pure, wpR]
 exact hK _ _ h3 h2
theorem runS_unit {P : Program} {s : Sem Unit} {w : World} {K : Unit → Heap → Prop} {M : Option (Heap → Prop)} {R : Value → World → Prop}
  (h : runS P s w.heap K) (hK : ∀ w', Alike w w' → K () w'.heap → okC M w'.heap ∧ R undef w') :
  wpR P ((do s; pure .skip : Sem Next).run P w) (fun v w' => okC M w'.heap ∧ R v w') := by
 obtain ⟨v, w', h1, h2, h3⟩ := h w rfl
 simp only [Sem.run_bind, h1, Result.andThen_ok, Sem.run_pure, wpR]
 exact hK _ h3 h2
theorem MethV_run {P : Program} (hNG : NoNG P) {c : Cod} {n : String} {l : List Value} {cap : Array Value} {w : World} {K : c.α → Heap → Prop} {Q : Value → World → Prop} (h : MethV c P n l w.heap K) (hQ : ∀ x w', Alike w w' → K x w'.heap → Q (c.enc x) w') : wpR P ((invoke (.fn (.method n) cap) l.toArray).run P w) Q := by
 unfold MethV at h
 split at h
 ·rename_i t v r
  split at h
  ·rename_i g hm
   cases hc : callable P g with
   | false => rw [hc] at h; exact h.elim
   | true =>
     rw [hc] at h
     simp only [cond_true] at h
     unfold callable at hc
     split at hc
     ·rename_i fn hfn
      obtain ⟨body, hb⟩ := Option.isSome_iff_exists.1 hc
      have h1 : fn.name ≠ "runtime.NumGoroutine" := by simpa using hNG _ _ hfn
      have hrun : (invoke (.fn (.method n) cap) (.iface t v :: r).toArray).run P w = .ok (.enter g (v :: r).toArray) w := by
       simp [invoke, callMethod, method_run hm, callFunc, hfn, h1, hb]
      rw [hrun]
      simp only [wpR]
      refine (h w rfl).mono fun e w' ⟨v, he, ⟨x, hx, hk⟩, ha⟩ => ⟨v, he, ?_⟩
      subst hx
      exact hQ _ _ ha hk
     ·cases hc
  ·exact h.elim
 ·exact h.elim
theorem vcEffX_sound {P : Program} (hNG : NoNG P) {o : Oper} {ρ : Operand → Value} {M : Option (Heap → Prop)} {w : World} {K : Value → Heap → Prop} {R : Value → World → Prop}
  (hK : ∀ v w', Alike w w' → K v w'.heap → okC M w'.heap ∧ R v w')
  (h : vcEffX P o.op o.type ρ w.heap K) : wpR P ((execOp ρ o).run P w) (fun v w' => okC M w'.heap ∧ R v w') := by
 obtain ⟨dst, op, type, pos, after, guard⟩ := o
 simp only at h
 have hKT : ∀ {c : Cod} {f : c.α → Value}, (∀ x, f x = c.enc x) → ∀ v w', Alike w w' → (∃ x : c.α, v = c.enc x ∧ K (f x) w'.heap) → okC M w'.heap ∧ R v w' := by
  rintro c f hf v w' h1 ⟨x, rfl, h2⟩
  rw [hf] at h2
  exact hK _ _ h1 h2
 unfold vcEffX at h
 split at h
 ·rename_i t x v
  split at h
  ·exact runS_unit h (fun w' h1 h2 => hK _ _ h1 h2)
  ·exact runS_unit h (fun w' h1 h2 => hK _ _ h1 h2)
  ·rename_i d n1 n2 hu
   split at h
   ·rename_i inf hi
    cases hs : Nat.beq inf.size 1 with
    | true =>
      rw [hs] at h
      simp only [cond_true] at h
      split at h
      ·rename_i p hx
       obtain ⟨a, rfl, h1, ⟨u, h2⟩, h3, h4⟩ := optK_some h
       have hc : w.cell? a = some u := h2
       have hf : w.frozen? a = false := h3
       have hone : (ρ v).cells = #[ρ v] := by
        generalize ρ v = vv at *
        cases vv <;> first | rfl | exact Bool.noConfusion h1
       have hp : (ρ v).oneCell' = true := by
        generalize ρ v = vv at *
        cases vv <;> first | rfl | exact Bool.noConfusion h1
       have hsz : inf.size = 1 := Nat.eq_of_beq_eq_true hs
       have hrun : (Instr.storeAt t (ρ x) (ρ v)).run P w = .ok () (w.setCell a (ρ v)) := by
        simp [Instr.storeAt, hx, Instr.sureAddr, storeVar, run_sizeOf' hi, hsz, hone, storeCells, Addr.add, run_store P w a (ρ v) .plain hp, hc, hf]
       simp only [execOp, Sem.run_bind, hrun, Result.andThen_ok, Sem.run_pure, wpR]
       exact hK _ (w.setCell a (ρ v)) (.of_le rfl (Nat.le_refl _)) h4
      ·exact h.elim
    | false => rw [hs] at h; exact h.elim
   ·exact h.elim
  ·exact h.elim
 ·rename_i t
  split at h
  ·rename_i z hz
   obtain ⟨inf, hi, hz'⟩ := Option.bind_eq_some_iff.1 hz
   have e : zc P t = z.cells := by unfold zc; rw [hz]
   have hrun : (Instr.alloc t true (.tuple #[])).run P w = .ok (.pointer (some ⟨w.heap.size, 0, none⟩)) { w with heap := w.heap.push (.cells (zc P t) t) } := by
    rw [e]; simp [Instr.alloc, zeroValue, typeInfo, hi, hz', newVar, newRow]
   simp only [execOp, Sem.run_bind, hrun, Result.andThen_ok, Sem.run_pure, wpR]
   exact hK _ { w with heap := w.heap.push (.cells (zc P t) t) } (.of_le rfl (Nat.le_refl _)) h
  ·exact h.elim
 ·rename_i t x
  have hrun : (Instr.box t (ρ x)).run P w = .ok (.pointer (some ⟨w.heap.size, 0, none⟩)) { w with heap := w.heap.push (.cells (ρ x).cells t) } := by
   simp [Instr.box, newVar, newRow]
  simp only [execOp, Sem.run_bind, hrun, Result.andThen_ok, Sem.run_pure, wpR]
  exact hK _ { w with heap := w.heap.push (.cells (ρ x).cells t) } (.of_le rfl (Nat.le_refl _)) h
 ·rename_i t len parts
  split at h
  ·rename_i el hu
   split at h
   ·have e : (parts.toList.map fun q => (q.1, ρ q.2)).toArray = parts.map fun (i, x) => (i, ρ x) := by apply Array.ext'; simp
    rw [e] at h
    exact runS_value h (hKT (fun _ => rfl))
   split at h
   ·rename_i cells hb
    unfold bsCells at hb
    split at hb
    ·rename_i inf hi
     split at hb
     ·rename_i z hz
      have hrun : (Instr.buildSlice t len (parts.map fun (i, x) => (i, ρ x))).run P w = .ok (.slice (some ⟨w.heap.size, 0, none⟩) len len) { w with heap := w.heap.push (.cells cells el) } := by
       have hl : (parts.map fun (i, x) => (i, ρ x)).toList = parts.toList.map fun q => (q.1, ρ q.2) := by simp
       have hbl : Nat.blt 16777216 (len * inf.size) = false := by
        cases hb3 : Nat.blt 16777216 (len * inf.size) with
        | false => rfl
        | true => rw [hb3] at hb; cases hb
       rw [hbl] at hb
       simp only [cond_false] at hb
       have hbig : ¬ (len * inf.size > 2 ^ 24) := by
        intro h9
        have : Nat.blt 16777216 (len * inf.size) = true := Nat.ble_eq_true_of_le (by omega)
        rw [hbl] at this; cases this
       have e0 : ∀ f : Nat → Value, (Array.range 0).map f = #[] := fun f => Array.eq_empty_of_size_eq_zero (by simp)
       by_cases h0 : len * inf.size = 0
       ·have hb2 : Instr.fill (fun i => some (i * inf.size, inf.size)) #[] (parts.toList.map fun q => (q.1, ρ q.2)) = some cells := by
         rw [h0, e0] at hb; exact hb
        simp [Instr.buildSlice, run_underlying' hu, run_sizeOf' hi, h0, e0, hb2, newRow]
       ·simp [Instr.buildSlice, run_underlying' hu, run_sizeOf' hi, hbig, h0, zeroValue, typeInfo, hi, hz, hb, newRow]
      simp only [execOp, Sem.run_bind, hrun, Result.andThen_ok, Sem.run_pure, wpR]
      exact hK _ { w with heap := w.heap.push (.cells cells el) } (.of_le rfl (Nat.le_refl _)) h
     ·cases hb
    ·cases hb
   ·exact h.elim
  ·exact h.elim
 ·rename_i t l c
  exact runS_value h (hKT (fun _ => rfl))
 ·rename_i t
  have hrun : (Instr.makeMap t none).run P w = .ok (.map (some w.heap.size)) { w with heap := w.heap.push (.map #[] 0) } := by
   simp [Instr.makeMap]
  simp only [execOp, Option.map_none, Sem.run_bind, hrun, Result.andThen_ok, Sem.run_pure, wpR]
  exact hK _ { w with heap := w.heap.push (.map #[] 0) } (.of_le rfl (Nat.le_refl _)) h
 ·exact runS_value h (hKT (fun _ => rfl))
 ·exact runS_unit h (fun w' h1 h2 => hK _ _ h1 h2)
 ·exact runS_unit h (fun w' h1 h2 => hK _ _ h1 h2)
 ·exact runS_value h (hKT (fun _ => rfl))
 ·exact runS_unit h (fun w' h1 h2 => hK _ _ h1 h2)
 ·exact runS_value h (hKT (fun _ => rfl))
 ·exact runS_value h (hKT (c := cNext) (fun _ => rfl))
 ·exact runS_value h (hKT (c := cTwo) (fun _ => rfl))
 ·exact runS_value h (hKT (fun _ => rfl))
 ·rename_i b args argTypes
  have em : (args.toList.map ρ).toArray = args.map ρ := by apply Array.ext'; simp
  rw [em] at h
  split at h
  ·exact runS_value h (hKT (fun _ => rfl))
  ·exact runS_value h (hKT (fun _ => rfl))
  ·exact runS_value h (hKT (c := cRaw) (fun _ => rfl))
  ·exact runS_value h (hKT (c := cRaw) (fun _ => rfl))
  ·exact h.elim
 ·rename_i f args argTypes
  split at h
  ·rename_i g first cap hf
   cases hc : callable P g with
   | true =>
     rw [hc] at h
     simp only [cond_true] at h
     unfold callable at hc
     split at hc
     ·rename_i fn hfn
      obtain ⟨body, hb⟩ := Option.isSome_iff_exists.1 hc
      have hrun : (callFunc g ((first ++ args.map ρ) ++ cap)).run P w = .ok (.enter g ((first ++ args.map ρ) ++ cap)) w := by
       have h1 : fn.name ≠ "runtime.NumGoroutine" := by simpa using hNG _ _ hfn
       simp [callFunc, hfn, h1, hb]
      have e : ((first.toList ++ args.toList.map ρ) ++ cap.toList).toArray = (first ++ args.map ρ) ++ cap := by
       apply Array.ext'; simp
      rw [e] at h
      simp only [execOp, resolve, hf, Deferred.ofValue, pure_bind, invoke]
      rw [hrun]
      simp only [wpR]
      refine (h w rfl).mono fun e w' ⟨v, he, ⟨x, hx, hk⟩, ha⟩ => ⟨v, he, ?_⟩
      subst hx
      exact hK _ _ ha hk
     ·cases hc
   | false =>
     rw [hc] at h
     simp only [cond_false] at h
     have e : ((first.toList ++ args.toList.map ρ) ++ cap.toList).toArray = (first ++ args.map ρ) ++ cap := by
      apply Array.ext'; simp
     rw [e] at h
     obtain ⟨v, w', h1, ⟨x, h2, h3⟩, h4⟩ := h w rfl
     have h5 := callVal_run h1
     simp only [execOp, resolve, hf, Deferred.ofValue, pure_bind, invoke]
     rw [h5]
     simp only [wpR]
     subst h2
     exact hK _ _ h4 h3
  ·rename_i l first cap hf
   cases hbt : boolTy P type with
   | false => rw [hbt] at h; exact h.elim
   | true =>
   rw [hbt] at h
   simp only [cond_true] at h
   have e : (first.toList ++ args.toList.map ρ).toArray = first ++ args.map ρ := by apply Array.ext'; simp
   rw [e] at h
   simp only [execOp, resolve, hf, Deferred.ofValue, pure_bind, invoke]
   refine wpR_mono ?_ (h w rfl)
   rintro v w' ⟨b, rfl, h1, h2⟩
   exact hK _ _ h2 h1
  ·rename_i n first cap hf
   have e : (first.toList ++ args.toList.map ρ).toArray = first ++ args.map ρ := by apply Array.ext'; simp
   simp only [execOp, resolve, hf, Deferred.ofValue, pure_bind]
   rw [← e]
   exact MethV_run hNG h fun x w' ha hk => hK _ _ ha hk
  ·exact h.elim
 ·rename_i r n args argTypes
  have e : #[ρ r] ++ args.map ρ = (ρ r :: args.toList.map ρ).toArray := by apply Array.ext'; simp
  simp only [execOp, resolve, pure_bind]
  rw [e]
  exact MethV_run hNG h fun x w' ha hk => hK _ _ ha hk
 ·exact h.elim
end Go.Proofs.YtkehfflpbpdokaaGreat
