/-
 Ground, fourth text: what reads and effects ask, and that it is enough.
-/
import Derived.Test.YtacfhncgbgijhaaGreatFxc
namespace Go.Proofs.YtacfhncgbgijhaaGreat
def G7 (H:aa) (m:Option Nat) (n:Nat):Prop:=match m with|none=>n=0|some r=>∃es clk,H[r]?=some (.map es clk)∧es.size=n
def BX (H:aa) (m:Option Nat) (K:Nat→Prop):Prop:=∃n,G7 H m n∧K n
def JO (G:aa→Prop) (m:Option Nat) (K:Nat→Prop):Prop:=∃n,(∀H',G H'→G7 H' m n)∧K n
def nN (H:aa) (a:Option Addr) (n:Nat) (s:ByteArray):Prop:=
 match a with
 |none=>s=ByteArray.empty
 |some ad=>s.size=n∧∀i,i<n→cQ H (ad.add i)=some (.int .u8 ((rY s i).toNat:Int))
def JY (H:aa) (a:Option Addr) (n:Nat) (K:ByteArray→Prop):Prop:=∃s,nN H a n s∧K s
def KS (G:aa→Prop) (a:Option Addr) (n:Nat) (K:ByteArray→Prop):Prop:=∃s,(∀H',G H'→nN H' a n s)∧K s
def qD (P:Program) (op:Op) (ty:TypeId) (ρ:Operand→Value) (M:Option (aa→Prop)) (H:aa) (K:Value→Prop):Prop:=
 match op with
 |.load t x=>(match P.underlying t with
   |some (.struct _)|some (.array _ _)=>(match P.info? t with
     |some inf=>(match ρ x with
       |.pointer p=>ae p fun a=>(match M with
         |none=>db (jS P t) inf.size H a fun u=>K ((jS P t).enc u)
         |some G=>Jd (jS P t) inf.size G a fun u=>K ((jS P t).enc u))
       |_=>False)
     |none=>False)
   |some _=>(match ρ x with
     |.pointer p=>ae p fun a=>(match M with
       |none=>ld (jS P t) H a fun u=>K ((jS P t).enc u)
       |some G=>jm (jS P t) G a fun u=>K ((jS P t).enc u))
     |_=>False)
   |none=>False)
 |.call {callee:=.builtin .len,args,argTypes}=>(match (argTypes[0]?),(args[0]?) with
   |some t,some x=>(match P.underlying t with
     |some (.map _ _)=>(match ρ x with
       |.map m=>(match M with
         |none=>BX H m fun n=>K (.int .i64 (n:Int))
         |some G=>JO G m fun n=>K (.int .i64 (n:Int)))
       |_=>False)
     |_=>False)
   |_,_=>False)
 |.convert src dst x=>(match P.underlying src,P.underlying dst with
   |some (.slice e),some .string=>(match P.underlying e with
     |some (.int .u8)=>(match ρ x with
       |.slice a n _=>(match M with
         |none=>JY H a n fun s=>K (.string s)
         |some G=>KS G a n fun s=>K (.string s))
       |_=>False)
     |_=>False)
   |_,_=>False)
 |.lookup t x ix ok=>(match M with
   |none=>CN (ij P ty) P (Instr.lookup t (ρ x) (ρ ix) ok) H fun u=>K ((ij P ty).enc u)
   |some G=>JK (ij P ty) P (Instr.lookup t (ρ x) (ρ ix) ok) G fun u=>K ((ij P ty).enc u))
 |.binOp op t x y _=>(match M with
   |none=>CN aw P (do eqGuard op t x y (ρ x) (ρ y);binOp op t (ρ x) (ρ y)) H fun u=>K (.bool u)
   |some G=>JK aw P (do eqGuard op t x y (ρ x) (ρ y);binOp op t (ρ x) (ρ y)) G fun u=>K (.bool u))
 |_=>False
theorem Bh {P:Program} {w:World} {a:Addr} {n:Nat} {v:Value} (h:lC w.heap a n v):∃cs,v=.agg cs∧(loadCells a n).run P w=.ok cs w:=by
 obtain⟨cs,rfl,hs,hc⟩:=h
 refine⟨cs,rfl,?_⟩
 have:=run_loadCells_list (P:=P) w a cs.toList (fun j v hj=>by
  have hlt:j<cs.size:=by
   have:=(List.getElem?_eq_some_iff.1 hj).1;simpa using this
  have h1:=hc j (by omega)
  have h2:cs[j]?=some v:=by simpa using hj
  exact(show w.cell? (a.add j)=cs[j]? from h1).trans h2)
 simpa[hs] using this
theorem xQ {P:Program} {w:World} {a:Option Addr} {n c:Nat} {s:ByteArray} (h:nN w.heap a n s):(Conv.bytesToString (.slice a n c)).run P w=.ok (.string s) w:=by
 cases a with
 |none=>simp only[nN] at h;subst h;rfl
 |some ad=>
   obtain⟨h1,h2⟩:=h
   have e:(loadCells ad n).run P w=.ok (((List.range n).map fun j=>((rY s j).toNat:Int)).map (Value.int .u8)).toArray w:=by
    rw[run_loadCells w ad n (fun j=>.int .u8 ((rY s j).toNat:Int)) (fun j hj=>h2 j hj),List.map_map];rfl
   rw[run_bytesToString w ad n c _ e]
   congr 2
   have key:∀(l:List Nat) (r:ByteArray),(l.map fun j=>((rY s j).toNat:Int)).foldl (fun r n=>r.push (UInt8.ofNat n.toNat)) r=l.foldl (fun r j=>r.push (rY s j)) r:=by
    intro l
    induction l with
    |nil=>intro r;rfl
    |cons x l ih=>intro r;simp only[List.map_cons,List.foldl_cons];rw[ih];simp
   rw[key]
   have key2:∀(l:List Nat) (r:ByteArray),(l.foldl (fun r j=>r.push (rY s j)) r).data.toList=r.data.toList++l.map (rY s):=by
    intro l
    induction l with
    |nil=>intro r;simp
    |cons x l ih=>intro r;rw[List.foldl_cons,ih];simp[ByteArray.push]
   apply ByteArray.ext
   apply Array.ext'
   rw[key2]
   apply List.ext_getElem?
   intro i
   have hs:s.data.size=n:=h1
   have e0:ByteArray.empty.data.toList=[]:=rfl
   rw[e0,List.nil_append]
   by_cases hi:i<n
   ·simp[hi,rY,hs]
   ·simp[hi,hs]
theorem jy {P:Program} {o:Oper} {ρ:Operand→Value} {M:Option (aa→Prop)} {H:aa} {K:Value→Prop} (h:qD P o.op o.type ρ M H K):
  ∃v,(∀w:World,KN M H w.heap→(execOp ρ o).run P w=.ok (.value v) w)∧K v:=by
 obtain⟨dst,op,type,pos,after,guard⟩:=o
 simp only at h
 have one:∀{t:TypeId} {p:Addr} {v:Value} {x:Operand},ρ x=.pointer (some p)→(∃d,P.underlying t=some d∧(∀fs,d≠.struct fs)∧(∀n e,d≠.array n e))→
   ∀w:World,cQ w.heap p=some v→(execOp ρ ⟨dst,.load t x,type,pos,after,guard⟩).run P w=.ok (.value v) w:=by
  rintro t p v x hx ⟨d,hd,h1,h2⟩ w hc
  have hc':w.cell? p=some v:=hc
  have ha:(isAgg t).run P w=.ok false w:=by
   simp only[isAgg,Sem.run_bind,az hd,Result.andThen_ok]
   cases d<;>first|rfl|exact absurd rfl (h1 _)|exact absurd rfl (h2 _ _)
  simp[execOp,Instr.loadAt,hx,Instr.sureAddr,loadVar,ha,hc']
 have many:∀{t:TypeId} {p:Addr} {v:Value} {x:Operand} {inf:TypeInfo},ρ x=.pointer (some p)→P.info? t=some inf→(∃d,P.underlying t=some d∧((∃fs,d=.struct fs)∨∃n e,d=.array n e))→
   ∀w:World,lC w.heap p inf.size v→(execOp ρ ⟨dst,.load t x,type,pos,after,guard⟩).run P w=.ok (.value v) w:=by
  rintro t p v x inf hx hi ⟨d,hd,h1⟩ w hr
  obtain⟨cs,rfl,hl⟩:=Bh (P:=P) hr
  have ha:(isAgg t).run P w=.ok true w:=by
   simp only[isAgg,Sem.run_bind,az hd,Result.andThen_ok]
   rcases h1 with ⟨fs,rfl⟩|⟨n,e,rfl⟩<;>rfl
  simp[execOp,Instr.loadAt,hx,Instr.sureAddr,loadVar,ha,cC hi,hl]
 unfold qD at h
 split at h
 ·rename_i t x
  split at h
  ·rename_i fs hu
   split at h
   ·rename_i inf hi
    split at h
    ·rename_i p hx
     have hk:=ft h;clear h;obtain⟨a,rfl,h⟩:=hk
     cases M with
     |none=>obtain⟨u,h1,h2⟩:=h;exact⟨_,fun w hw=>many hx hi ⟨_,hu,.inl ⟨_,rfl⟩⟩ w (by rw[show w.heap=H from hw];exact h1),h2⟩
     |some G=>obtain⟨u,h1,h2⟩:=h;exact⟨_,fun w hw=>many hx hi ⟨_,hu,.inl ⟨_,rfl⟩⟩ w (h1 _ hw),h2⟩
    ·exact h.elim
   ·exact h.elim
  ·rename_i n e hu
   split at h
   ·rename_i inf hi
    split at h
    ·rename_i p hx
     have hk:=ft h;clear h;obtain⟨a,rfl,h⟩:=hk
     cases M with
     |none=>obtain⟨u,h1,h2⟩:=h;exact⟨_,fun w hw=>many hx hi ⟨_,hu,.inr ⟨_,_,rfl⟩⟩ w (by rw[show w.heap=H from hw];exact h1),h2⟩
     |some G=>obtain⟨u,h1,h2⟩:=h;exact⟨_,fun w hw=>many hx hi ⟨_,hu,.inr ⟨_,_,rfl⟩⟩ w (h1 _ hw),h2⟩
    ·exact h.elim
   ·exact h.elim
  ·rename_i d n1 n2 hu
   split at h
   ·rename_i p hx
    have hk:=ft h;clear h;obtain⟨a,rfl,h⟩:=hk
    have hd:∃d,P.underlying t=some d∧(∀fs,d≠.struct fs)∧(∀n e,d≠.array n e):=⟨_,hu,fun fs e=>n1 fs e,fun n e e2=>n2 n e e2⟩
    cases M with
    |none=>obtain⟨u,h1,h2⟩:=h;exact⟨_,fun w hw=>one hx hd w (by rw[show w.heap=H from hw];exact h1),h2⟩
    |some G=>obtain⟨u,h1,h2⟩:=h;exact⟨_,fun w hw=>one hx hd w (h1 _ hw),h2⟩
   ·exact h.elim
  ·exact h.elim
 ·rename_i args argTypes
  split at h
  ·rename_i t x ht hx
   split at h
   ·rename_i k e hu
    split at h
    ·rename_i m hm
     have run:∀(n:Nat) (w:World),G7 w.heap m n→(execOp ρ ⟨dst,.call ⟨.builtin .len,args,argTypes⟩,type,pos,after,guard⟩).run P w=.ok (.value (.int .i64 (n:Int))) w:=by
      intro n w hn
      have ea:(args.map ρ)[0]?=some (.map m):=by rw[Array.getElem?_map,hx,Option.map_some,hm]
      have eb:(Builtin.len_ argTypes type (args.map ρ)).run P w=.ok (goInt n) w:=by
       unfold Builtin.len_
       simp only[ht,ea]
       cases m with
       |none=>simp only[G7] at hn;subst hn;simp[az hu]
       |some r=>
         obtain⟨es,clk,h1,h2⟩:=hn
         simp[az hu,run_getObj_map w r es clk h1,h2]
      simp[execOp,resolve,invoke,builtin,eb,goInt]
     cases M with
     |none=>obtain⟨n,h1,h2⟩:=h;exact⟨_,fun w hw=>run n w (by rw[show w.heap=H from hw];exact h1),h2⟩
     |some G=>obtain⟨n,h1,h2⟩:=h;exact⟨_,fun w hw=>run n w (h1 _ hw),h2⟩
    ·exact h.elim
   ·exact h.elim
  ·exact h.elim
 ·rename_i src dst' x
  split at h
  ·rename_i e hs hd
   split at h
   ·rename_i he
    split at h
    ·rename_i a n c hx
     have run:∀(s:ByteArray) (w:World),nN w.heap a n s→(execOp ρ ⟨dst,.convert src dst' x,type,pos,after,guard⟩).run P w=.ok (.value (.string s)) w:=by
      intro s w hb
      simp only[execOp,hx,Sem.run_bind,run_convert_bytes_string w src dst' e a n c hs he hd,xQ hb]
      rfl
     cases M with
     |none=>obtain⟨s,h1,h2⟩:=h;exact⟨_,fun w hw=>run s w (by rw[show w.heap=H from hw];exact h1),h2⟩
     |some G=>obtain⟨s,h1,h2⟩:=h;exact⟨_,fun w hw=>run s w (h1 _ hw),h2⟩
    ·exact h.elim
   ·exact h.elim
  ·exact h.elim
 ·rename_i t x ix ok
  cases M with
  |none=>obtain⟨u,h1,h2⟩:=h;exact⟨_,fun w hw=>by simp only[execOp,Sem.run_bind,h1 w hw];rfl,h2⟩
  |some G=>obtain⟨u,h1,h2⟩:=h;exact⟨_,fun w hw=>by simp only[execOp,Sem.run_bind,h1 _ hw w rfl];rfl,h2⟩
 ·rename_i op t x y yt
  cases M with
  |none=>
    obtain⟨u,h1,h2⟩:=h
    refine⟨_,fun w hw=>?_,h2⟩
    have:=h1 w hw
    simp only[execOp,Sem.run_bind] at this ⊢
    rw[this];rfl
  |some G=>
    obtain⟨u,h1,h2⟩:=h
    refine⟨_,fun w hw=>?_,h2⟩
    have:=h1 _ hw w rfl
    simp only[execOp,Sem.run_bind] at this ⊢
    rw[this];rfl
 ·exact h.elim
def bQ (P:Program) (f:FuncId):Bool:=match P.funcs[f]? with|some fn=>fn.body.isSome|none=>false
def lZ (P:Program):Prop:=∀(f:FuncId) (fn:Func),P.funcs[f]?=some fn→(fn.name=="runtime.NumGoroutine")=false
def AK (P:Program) (el:TypeId) (len:Nat) (parts:List (Nat×Value)):Option (Array Value):=
 match P.info? el with
 |some inf=>(match inf.zero with
   |some z=>bif Nat.blt 16777216 (len*inf.size) then none else Instr.fill (fun i=>some (i*inf.size,inf.size)) ((Array.range (len*inf.size)).map (z.cells[·%z.cells.size]!)) parts
   |none=>none)
 |none=>none
def aD (H:aa) (cells:Array Value) (t:TypeId) (K:Addr→aa→Prop):Prop:=K ⟨H.size,0,none⟩ (H.push (.cells cells t))
def D7 (H:aa) (K:Nat→aa→Prop):Prop:=K H.size (H.push (.map #[] 0))
def b8 (P:Program) (l:Nat) (args:Array Value) (H:aa) (K:Bool→aa→Prop):Prop:=
 ∀w:World,w.heap=H→og P ((Instr.yield l args).run P w) fun v w'=>∃b,v=.bool b∧K b w'.heap∧Alike w w'
theorem b8.mono {P:Program} {l:Nat} {args:Array Value} {H:aa} {K K':Bool→aa→Prop} (h:b8 P l args H K) (hk:∀b H',K b H'→K' b H'):b8 P l args H K':=
 fun w hw=>hZ (fun _ _ ⟨b,e,h1,h2⟩=>⟨b,e,hk _ _ h1,h2⟩) (h w hw)
def Ew (P:Program) (t:TypeId):Bool:=match P.underlying t with|some .bool=>true|_=>false
def nL (g:FuncId) (args:Array Value):Sem Value:=do match ←callFunc g args with|.value v=>pure v|_=>stuck "a call of a function without a body"
theorem wE {P:Program} {g:FuncId} {args:Array Value} {w w':World} {v:Value} (h:(nL g args).run P w=.ok v w'):(callFunc g args).run P w=.ok (.value v) w':=by
 unfold nL at h
 rw[Sem.run_bind] at h
 cases hr:(callFunc g args).run P w with
 |halt x w1=>rw[hr] at h;cases h
 |ok n w1=>
   rw[hr] at h
   simp only[Result.andThen_ok] at h
   cases n<;>simp only at h<;>first|(rw[Sem.run_pure] at h;cases h;rfl)|cases h
def rp (P:Program) (t:TypeId) (n:String):Option FuncId:=
 match P.underlying t,P.info? t with
 |some (.pointer _),some inf=>(match inf.methods.find? (·.name==n) with
   |some m=>(match m.path.toList,m.func with|[],some (g,true)=>some g|_,_=>none)
   |none=>none)
 |_,_=>none
def od (c:fe) (P:Program) (n:String) (l:List Value) (H:aa) (K:c.α→aa→Prop):Prop:=
 match l with
 |.iface t v::r=>(match rp P t n with
   |some g=>(bif bQ P g then ah c P g (v::r).toArray H K else False)
   |none=>False)
 |_=>False
theorem zW {P:Program} {t:TypeId} {n:String} {g:FuncId} (h:rp P t n=some g) (v:Value) (w:World):(method (P.types.size+Made.depth) t v n).run P w=.ok (g,v) w:=by
 unfold rp at h
 split at h
 ·rename_i el inf hu hi
  split at h
  ·rename_i m hm
   split at h
   ·rename_i hp hf
    cases h
    have e:P.types.size+Made.depth=(P.types.size+Made.depth - 1)+1:=by
     have:0<Made.depth:=by decide
     omega
    rw[e]
    unfold method
    simp[typeInfo,hi,hm,hp,hf,follow,receiverAt,az hu,Place.get]
   ·cases h
  ·cases h
 ·cases h
def jG (c:fe) (P:Program) (f:Value) (args:List Value) (H:aa) (K:c.α→aa→Prop):Prop:=
 match f with
 |.func (.func g) first cap=>(bif bQ P g then ah c P g ((first.toList++args)++cap.toList).toArray H K
   else bS c P (nL g ((first.toList++args)++cap.toList).toArray) H K)
 |.func (.yield _) _ _=>False
 |.func (.method n) first _=>od c P n (first.toList++args) H K
 |_=>False
def ur (P:Program) (f:Value) (args:List Value) (H:aa) (K:Bool→aa→Prop):Prop:=
 match f with
 |.func (.func g) first cap=>(bif bQ P g then ah aw P g ((first.toList++args)++cap.toList).toArray H K
   else bS aw P (nL g ((first.toList++args)++cap.toList).toArray) H K)
 |.func (.yield l) first _=>b8 P l (first.toList++args).toArray H K
 |.func (.method n) first _=>od aw P n (first.toList++args) H K
 |_=>False
def zl (P:Program) (op:Op) (ty:TypeId) (ρ:Operand→Value) (H:aa) (K:Value→aa→Prop):Prop:=
 match op with
 |.store t x v=>(match P.underlying t with
   |some (.struct _)|some (.array _ _)=>iI P (Instr.storeAt t (ρ x) (ρ v)) H fun H'=>K undef H'
   |some _=>(match P.info? t with
     |some inf=>(bif Nat.beq inf.size 1 then (match ρ x with
       |.pointer p=>ae p fun a=>st H a (ρ v) fun H'=>K undef H'
       |_=>False) else False)
     |none=>False)
   |none=>False)
 |.alloc t=>(match (P.info? t).bind (·.zero) with
   |some _=>aD H (zc P t) t fun a H'=>K (.pointer (some a)) H'
   |none=>False)
 |.box t x=>aD H (ρ x).cells t fun a H'=>K (.pointer (some a)) H'
 |.buildSlice t len parts=>(match P.underlying t with
   |some (.slice el)=>(match xb P 5 el with
     |none=>bS an P (Instr.buildSlice t len (parts.toList.map fun q=>(q.1,ρ q.2)).toArray) H fun u H'=>K u.v H'
     |some _=>(match AK P el len (parts.toList.map fun q=>(q.1,ρ q.2)) with
       |some cells=>aD H cells el fun a H'=>K (.slice (some a) len len) H'
       |none=>False))
   |_=>False)
 |.makeSlice t l c=>bS an P (Instr.makeSlice t (ρ l) (ρ c)) H fun u H'=>K u.v H'
 |.makeMap _ none=>D7 H fun r H'=>K (.map (some r)) H'
 |.makeMap t (some r)=>bS cJ P (Instr.makeMap t (some (ρ r))) H fun u H'=>K (.map u) H'
 |.mapUpdate t m k v=>iI P (Instr.mapUpdate t (ρ m) (ρ k) (ρ v)) H fun H'=>K undef H'
 |.insert t m k v=>iI P (Instr.mapUpdate t (ρ m) (ρ k) (ρ v)) H fun H'=>K undef H'
 |.mapEntry t m k=>bS (ij P ty) P (Instr.mapEntry t (ρ m) (ρ k)) H fun u H'=>K ((ij P ty).enc u) H'
 |.entryStore t m s v=>iI P (Instr.entryStore t (ρ m) (ρ s) (ρ v)) H fun H'=>K undef H'
 |.range t x=>bS ar P (Instr.range t (ρ x)) H fun u H'=>K (.pointer u) H'
 |.next x b=>bS iS P (Instr.next (ρ x) b ty) H fun u H'=>K (.tuple ⟨.bool u.1::u.2⟩) H'
 |.entry x=>bS qU P (Instr.entry (ρ x)) H fun u H'=>K (.tuple ⟨[u.1,u.2]⟩) H'
 |.convert src dst x=>bS (ij P dst) P (convert src dst (ρ x)) H fun u H'=>K ((ij P dst).enc u) H'
 |.call {callee:=.builtin b,args,argTypes}=>(match b with
   |.append=>bS an P (Builtin.append_ argTypes ty (args.toList.map ρ).toArray) H fun u H'=>K u.v H'
   |.copy=>bS (ab .i64) P (Builtin.copy_ argTypes ty (args.toList.map ρ).toArray) H fun u H'=>K (.int .i64 u) H'
   |.delete=>bS eO P (Builtin.delete_ argTypes ty (args.toList.map ρ).toArray) H fun u H'=>K u H'
   |.clear=>bS eO P (Builtin.clear_ argTypes ty (args.toList.map ρ).toArray) H fun u H'=>K u H'
   |_=>False)
 |.call {callee:=.value f,args,..}=>(match ρ f with
   |.func (.func g) first cap=>(bif bQ P g then ah (ij P ty) P g ((first.toList++args.toList.map ρ)++cap.toList).toArray H (fun u H'=>K ((ij P ty).enc u) H')
     else bS (ij P ty) P (nL g ((first.toList++args.toList.map ρ)++cap.toList).toArray) H (fun u H'=>K ((ij P ty).enc u) H'))
   |.func (.yield l) first _=>(bif Ew P ty then b8 P l (first.toList++args.toList.map ρ).toArray H (fun b H'=>K (.bool b) H') else False)
   |.func (.method n) first _=>od (ij P ty) P n (first.toList++args.toList.map ρ) H (fun u H'=>K ((ij P ty).enc u) H')
   |_=>False)
 |.call {callee:=.invoke r n,args,..}=>od (ij P ty) P n (ρ r::args.toList.map ρ) H (fun u H'=>K ((ij P ty).enc u) H')
 |_=>False
theorem cu {P:Program} {s:Sem Value} {w:World} {K:Value→aa→Prop} {M:Option (aa→Prop)} {R:Value→World→Prop}
  (h:De P s w.heap K) (hK:∀v w',Alike w w'→K v w'.heap→jN M w'.heap∧R v w'):
  og P ((do pure (.value (←s)):Sem Next).run P w) (fun v w'=>jN M w'.heap∧R v w'):=by
 obtain⟨v,w',h1,h2,h3⟩:=h w rfl
 simp only[Sem.run_bind,h1,Result.andThen_ok,Sem.run_pure,og]
 exact hK _ _ h3 h2
theorem jK {P:Program} {s:Sem Unit} {w:World} {K:Unit→aa→Prop} {M:Option (aa→Prop)} {R:Value→World→Prop}
  (h:De P s w.heap K) (hK:∀w',Alike w w'→K () w'.heap→jN M w'.heap∧R undef w'):
  og P ((do s;pure .skip:Sem Next).run P w) (fun v w'=>jN M w'.heap∧R v w'):=by
 obtain⟨v,w',h1,h2,h3⟩:=h w rfl
 simp only[Sem.run_bind,h1,Result.andThen_ok,Sem.run_pure,og]
 exact hK _ h3 h2
theorem uE {P:Program} (hNG:lZ P) {c:fe} {n:String} {l:List Value} {cap:Array Value} {w:World} {K:c.α→aa→Prop} {Q:Value→World→Prop} (h:od c P n l w.heap K) (hQ:∀x w',Alike w w'→K x w'.heap→Q (c.enc x) w'):og P ((invoke (.fn (.method n) cap) l.toArray).run P w) Q:=by
 unfold od at h
 split at h
 ·rename_i t v r
  split at h
  ·rename_i g hm
   cases hc:bQ P g with
   |false=>rw[hc] at h;exact h.elim
   |true=>
     rw[hc] at h
     simp only[cond_true] at h
     unfold bQ at hc
     split at hc
     ·rename_i fn hfn
      obtain⟨body,hb⟩:=Option.isSome_iff_exists.1 hc
      have h1:fn.name≠"runtime.NumGoroutine":=by simpa using hNG _ _ hfn
      have hrun:(invoke (.fn (.method n) cap) (.iface t v::r).toArray).run P w=.ok (.enter g (v::r).toArray) w:=by
       simp[invoke,callMethod,zW hm,callFunc,hfn,h1,hb]
      rw[hrun]
      simp only[og]
      refine(h w rfl).mono fun e w' ⟨v,he,⟨x,hx,hk⟩,ha⟩=>⟨v,he,?_⟩
      subst hx
      exact hQ _ _ ha hk
     ·cases hc
  ·exact h.elim
 ·exact h.elim
theorem vE {P:Program} (hNG:lZ P) {o:Oper} {ρ:Operand→Value} {M:Option (aa→Prop)} {w:World} {K:Value→aa→Prop} {R:Value→World→Prop}
  (hK:∀v w',Alike w w'→K v w'.heap→jN M w'.heap∧R v w')
  (h:zl P o.op o.type ρ w.heap K):og P ((execOp ρ o).run P w) (fun v w'=>jN M w'.heap∧R v w'):=by
 obtain⟨dst,op,type,pos,after,guard⟩:=o
 simp only at h
 have hKT:∀{c:fe} {f:c.α→Value},(∀x,f x=c.enc x)→∀v w',Alike w w'→(∃x:c.α,v=c.enc x∧K (f x) w'.heap)→jN M w'.heap∧R v w':=by
  rintro c f hf v w' h1 ⟨x,rfl,h2⟩
  rw[hf] at h2
  exact hK _ _ h1 h2
 unfold zl at h
 split at h
 ·rename_i t x v
  split at h
  ·exact jK h (fun w' h1 h2=>hK _ _ h1 h2)
  ·exact jK h (fun w' h1 h2=>hK _ _ h1 h2)
  ·rename_i d n1 n2 hu
   split at h
   ·rename_i inf hi
    cases hs:Nat.beq inf.size 1 with
    |true=>
      rw[hs] at h
      simp only[cond_true] at h
      split at h
      ·rename_i p hx
       obtain⟨a,rfl,h1,⟨u,h2⟩,h3,h4⟩:=ft h
       have hc:w.cell? a=some u:=h2
       have hf:w.frozen? a=false:=h3
       have hone:(ρ v).cells=#[ρ v]:=by
        generalize ρ v=vv at*
        cases vv<;>first|rfl|exact Bool.noConfusion h1
       have hp:(ρ v).oneCell'=true:=by
        generalize ρ v=vv at*
        cases vv<;>first|rfl|exact Bool.noConfusion h1
       have hsz:inf.size=1:=Nat.eq_of_beq_eq_true hs
       have hrun:(Instr.storeAt t (ρ x) (ρ v)).run P w=.ok () (w.setCell a (ρ v)):=by
        simp[Instr.storeAt,hx,Instr.sureAddr,storeVar,cC hi,hsz,hone,storeCells,Addr.add,run_store P w a (ρ v) .plain hp,hc,hf]
       simp only[execOp,Sem.run_bind,hrun,Result.andThen_ok,Sem.run_pure,og]
       exact hK _ (w.setCell a (ρ v)) (.of_le rfl (Nat.le_refl _)) h4
      ·exact h.elim
    |false=>rw[hs] at h;exact h.elim
   ·exact h.elim
  ·exact h.elim
 ·rename_i t
  split at h
  ·rename_i z hz
   obtain⟨inf,hi,hz'⟩:=Option.bind_eq_some_iff.1 hz
   have e:zc P t=z.cells:=by unfold zc;rw[hz]
   have hrun:(Instr.alloc t true (.tuple #[])).run P w=.ok (.pointer (some ⟨w.heap.size,0,none⟩)) {w with heap:=w.heap.push (.cells (zc P t) t)}:=by
    rw[e];simp[Instr.alloc,zeroValue,typeInfo,hi,hz',newVar,newRow]
   simp only[execOp,Sem.run_bind,hrun,Result.andThen_ok,Sem.run_pure,og]
   exact hK _ {w with heap:=w.heap.push (.cells (zc P t) t)} (.of_le rfl (Nat.le_refl _)) h
  ·exact h.elim
 ·rename_i t x
  have hrun:(Instr.box t (ρ x)).run P w=.ok (.pointer (some ⟨w.heap.size,0,none⟩)) {w with heap:=w.heap.push (.cells (ρ x).cells t)}:=by
   simp[Instr.box,newVar,newRow]
  simp only[execOp,Sem.run_bind,hrun,Result.andThen_ok,Sem.run_pure,og]
  exact hK _ {w with heap:=w.heap.push (.cells (ρ x).cells t)} (.of_le rfl (Nat.le_refl _)) h
 ·rename_i t len parts
  split at h
  ·rename_i el hu
   split at h
   ·have e:(parts.toList.map fun q=>(q.1,ρ q.2)).toArray=parts.map fun(i,x)=>(i,ρ x):=by apply Array.ext';simp
    rw[e] at h
    exact cu h (hKT (fun _=>rfl))
   split at h
   ·rename_i cells hb
    unfold AK at hb
    split at hb
    ·rename_i inf hi
     split at hb
     ·rename_i z hz
      have hrun:(Instr.buildSlice t len (parts.map fun(i,x)=>(i,ρ x))).run P w=.ok (.slice (some ⟨w.heap.size,0,none⟩) len len) {w with heap:=w.heap.push (.cells cells el)}:=by
       have hl:(parts.map fun(i,x)=>(i,ρ x)).toList=parts.toList.map fun q=>(q.1,ρ q.2):=by simp
       have hbl:Nat.blt 16777216 (len*inf.size)=false:=by
        cases hb3:Nat.blt 16777216 (len*inf.size) with
        |false=>rfl
        |true=>rw[hb3] at hb;cases hb
       rw[hbl] at hb
       simp only[cond_false] at hb
       have hbig:¬(len*inf.size>2^24):=by
        intro h9
        have:Nat.blt 16777216 (len*inf.size)=true:=Nat.ble_eq_true_of_le (by omega)
        rw[hbl] at this;cases this
       have e0:∀f:Nat→Value,(Array.range 0).map f=#[]:=fun f=>Array.eq_empty_of_size_eq_zero (by simp)
       by_cases h0:len*inf.size=0
       ·have hb2:Instr.fill (fun i=>some (i*inf.size,inf.size)) #[] (parts.toList.map fun q=>(q.1,ρ q.2))=some cells:=by
         rw[h0,e0] at hb;exact hb
        simp[Instr.buildSlice,az hu,cC hi,h0,e0,hb2,newRow]
       ·simp[Instr.buildSlice,az hu,cC hi,hbig,h0,zeroValue,typeInfo,hi,hz,hb,newRow]
      simp only[execOp,Sem.run_bind,hrun,Result.andThen_ok,Sem.run_pure,og]
      exact hK _ {w with heap:=w.heap.push (.cells cells el)} (.of_le rfl (Nat.le_refl _)) h
     ·cases hb
    ·cases hb
   ·exact h.elim
  ·exact h.elim
 ·rename_i t l c
  exact cu h (hKT (fun _=>rfl))
 ·rename_i t
  have hrun:(Instr.makeMap t none).run P w=.ok (.map (some w.heap.size)) {w with heap:=w.heap.push (.map #[] 0)}:=by
   simp[Instr.makeMap]
  simp only[execOp,Option.map_none,Sem.run_bind,hrun,Result.andThen_ok,Sem.run_pure,og]
  exact hK _ {w with heap:=w.heap.push (.map #[] 0)} (.of_le rfl (Nat.le_refl _)) h
 ·exact cu h (hKT (fun _=>rfl))
 ·exact jK h (fun w' h1 h2=>hK _ _ h1 h2)
 ·exact jK h (fun w' h1 h2=>hK _ _ h1 h2)
 ·exact cu h (hKT (fun _=>rfl))
 ·exact jK h (fun w' h1 h2=>hK _ _ h1 h2)
 ·exact cu h (hKT (fun _=>rfl))
 ·exact cu h (hKT (c:=iS) (fun _=>rfl))
 ·exact cu h (hKT (c:=qU) (fun _=>rfl))
 ·exact cu h (hKT (fun _=>rfl))
 ·rename_i b args argTypes
  have em:(args.toList.map ρ).toArray=args.map ρ:=by apply Array.ext';simp
  rw[em] at h
  split at h
  ·exact cu h (hKT (fun _=>rfl))
  ·exact cu h (hKT (fun _=>rfl))
  ·exact cu h (hKT (c:=eO) (fun _=>rfl))
  ·exact cu h (hKT (c:=eO) (fun _=>rfl))
  ·exact h.elim
 ·rename_i f args argTypes
  split at h
  ·rename_i g first cap hf
   cases hc:bQ P g with
   |true=>
     rw[hc] at h
     simp only[cond_true] at h
     unfold bQ at hc
     split at hc
     ·rename_i fn hfn
      obtain⟨body,hb⟩:=Option.isSome_iff_exists.1 hc
      have hrun:(callFunc g ((first++args.map ρ)++cap)).run P w=.ok (.enter g ((first++args.map ρ)++cap)) w:=by
       have h1:fn.name≠"runtime.NumGoroutine":=by simpa using hNG _ _ hfn
       simp[callFunc,hfn,h1,hb]
      have e:((first.toList++args.toList.map ρ)++cap.toList).toArray=(first++args.map ρ)++cap:=by
       apply Array.ext';simp
      rw[e] at h
      simp only[execOp,resolve,hf,Deferred.ofValue,pure_bind,invoke]
      rw[hrun]
      simp only[og]
      refine(h w rfl).mono fun e w' ⟨v,he,⟨x,hx,hk⟩,ha⟩=>⟨v,he,?_⟩
      subst hx
      exact hK _ _ ha hk
     ·cases hc
   |false=>
     rw[hc] at h
     simp only[cond_false] at h
     have e:((first.toList++args.toList.map ρ)++cap.toList).toArray=(first++args.map ρ)++cap:=by
      apply Array.ext';simp
     rw[e] at h
     obtain⟨v,w',h1,⟨x,h2,h3⟩,h4⟩:=h w rfl
     have h5:=wE h1
     simp only[execOp,resolve,hf,Deferred.ofValue,pure_bind,invoke]
     rw[h5]
     simp only[og]
     subst h2
     exact hK _ _ h4 h3
  ·rename_i l first cap hf
   cases hbt:Ew P type with
   |false=>rw[hbt] at h;exact h.elim
   |true=>
   rw[hbt] at h
   simp only[cond_true] at h
   have e:(first.toList++args.toList.map ρ).toArray=first++args.map ρ:=by apply Array.ext';simp
   rw[e] at h
   simp only[execOp,resolve,hf,Deferred.ofValue,pure_bind,invoke]
   refine hZ ?_ (h w rfl)
   rintro v w' ⟨b,rfl,h1,h2⟩
   exact hK _ _ h2 h1
  ·rename_i n first cap hf
   have e:(first.toList++args.toList.map ρ).toArray=first++args.map ρ:=by apply Array.ext';simp
   simp only[execOp,resolve,hf,Deferred.ofValue,pure_bind]
   rw[←e]
   exact uE hNG h fun x w' ha hk=>hK _ _ ha hk
  ·exact h.elim
 ·rename_i r n args argTypes
  have e:#[ρ r]++args.map ρ=(ρ r::args.toList.map ρ).toArray:=by apply Array.ext';simp
  simp only[execOp,resolve,pure_bind]
  rw[e]
  exact uE hNG h fun x w' ha hk=>hK _ _ ha hk
 ·exact h.elim
end Go.Proofs.YtacfhncgbgijhaaGreat
