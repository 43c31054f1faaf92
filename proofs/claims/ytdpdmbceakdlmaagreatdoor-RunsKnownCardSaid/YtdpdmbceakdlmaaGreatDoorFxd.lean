/-
 Ground, fourth text: what reads and effects ask, and that it is enough.
-/
import Derived.Test.YtdpdmbceakdlmaaGreatDoorFxc
open Array renaming ext'->NX,range->Q7
open Bool renaming noConfusion->OT
open ByteArray renaming empty->Nq
open Go.Builtin renaming append_->KM,delete_->Mk,clear_->QO,copy_->QT,len_->RQ
open Go.Deferred renaming ofValue->Nv
open Go.Instr renaming storeAt->Li,buildSlice->Lx,lookup->L3,mapUpdate->My,sureAddr->MC,fill->MP,alloc->Qv,makeMap->QS,box->QU,loadAt->Q3
open Go.Made renaming depth->QK
open Go.Result renaming andThen_ok->K4
open Go.Sem renaming run_bind->K5,run_pure->Lu
open List renaming foldl_cons->Nf
open Nat renaming le_refl->KN,blt->LS
open Option renaming isSome_iff_exists->M5
namespace Go.Proofs.YtdpdmbceakdlmaaGreatDoor
def Gk (H:Heap)(m:Option Nat)(n:Nat):Prop:=match m with|none=>n=0|some r=>∃es clk,H[r]?=some (.map es clk)/\es.size=n
def xW (H:Heap)(m:Option Nat)(K:Nat->Prop):Prop:=∃n,Gk H m n/\K n
def Jb (G:Heap->Prop)(m:Option Nat)(K:Nat->Prop):Prop:=∃n,(∀H',G H'->Gk H' m n)/\K n
def gp (H:Heap)(a:Option Addr)(n:Nat)(s:ByteArray):Prop:=
 match a with
 |none=>s=Nq
 |some ad=>s.size=n/\∀i,i<n->de H (ad.add i)=some (.int .u8 ((oH s i).toNat:Int))
def Bn (H:Heap)(a:Option Addr)(n:Nat)(K:ByteArray->Prop):Prop:=∃s,gp H a n s/\K s
def IL (G:Heap->Prop)(a:Option Addr)(n:Nat)(K:ByteArray->Prop):Prop:=∃s,(∀H',G H'->gp H' a n s)/\K s
def pW (P:Program)(op:Op)(ty:TypeId)(ρ:Operand->Value)(M:Option (Heap->Prop))(H:Heap)(K:Value->Prop):Prop:=
 match op with
 |.load t x=>(match P.underlying t with
   |some (.struct _)|some (.array _ _)=>(match P.info? t with
     |some inf=>(match ρ x with
       |.pointer p=>ab p λa=>(match M with
         |none=>dI (jA P t) inf.size H a λu=>K ((jA P t).enc u)
         |some G=>IK (jA P t) inf.size G a λu=>K ((jA P t).enc u))
       |_=>False)
     |none=>False)
   |some _=>(match ρ x with
     |.pointer p=>ab p λa=>(match M with
       |none=>ld (jA P t) H a λu=>K ((jA P t).enc u)
       |some G=>eP (jA P t) G a λu=>K ((jA P t).enc u))
     |_=>False)
   |none=>False)
 |.call {callee:=.builtin .len,args,argTypes}=>(match (argTypes[0]?),(args[0]?) with
   |some t,some x=>(match P.underlying t with
     |some (.map _ _)=>(match ρ x with
       |.map m=>(match M with
         |none=>xW H m λn=>K (.int .i64 (n:Int))
         |some G=>Jb G m λn=>K (.int .i64 (n:Int)))
       |_=>False)
     |_=>False)
   |_,_=>False)
 |.convert src dst x=>(match P.underlying src,P.underlying dst with
   |some (.slice e),some .string=>(match P.underlying e with
     |some (.int .u8)=>(match ρ x with
       |.slice a n _=>(match M with
         |none=>Bn H a n λs=>K (.string s)
         |some G=>IL G a n λs=>K (.string s))
       |_=>False)
     |_=>False)
   |_,_=>False)
 |.lookup t x ix ok=>(match M with
   |none=>Di (gQ P ty) P (L3 t (ρ x) (ρ ix) ok) H λu=>K ((gQ P ty).enc u)
   |some G=>Je (gQ P ty) P (L3 t (ρ x) (ρ ix) ok) G λu=>K ((gQ P ty).enc u))
 |.binOp op t x y _=>(match M with
   |none=>Di aA P (do eqGuard op t x y (ρ x) (ρ y);binOp op t (ρ x) (ρ y)) H λu=>K (.bool u)
   |some G=>Je aA P (do eqGuard op t x y (ρ x) (ρ y);binOp op t (ρ x) (ρ y)) G λu=>K (.bool u))
 |_=>False
theorem Af {P:Program}{w:World}{a:Addr}{n:Nat}{v:Value}(h:kT w.heap a n v):∃cs,v=.agg cs/\(loadCells a n).run P w=.ok cs w:=by
 obtain⟨cs,rfl,hs,hc⟩:=h
 refine⟨cs,rfl,?_⟩
 have:=run_loadCells_list (P:=P) w a cs.toList (λj v hj=>by
  have hlt:j<cs.size:=by
   have:=(List.getElem?_eq_some_iff.1 hj).1;simpa using this
  have h1:=hc j (by omega)
  have h2:cs[j]?=some v:=by simpa using hj
  exact(show w.cell? (a.add j)=cs[j]? from h1).trans h2)
 simpa[hs] using this
theorem vw {P:Program}{w:World}{a:Option Addr}{n c:Nat}{s:ByteArray}(h:gp w.heap a n s):(Conv.bytesToString (.slice a n c)).run P w=.ok (.string s) w:=by
 cases a with
 |none=>simp only[gp] at h;subst h;rfl
 |some ad=>
   obtain⟨h1,h2⟩:=h
   have e:(loadCells ad n).run P w=.ok (((List.range n).map λj=>((oH s j).toNat:Int)).map (Value.int .u8)).toArray w:=by
    rw[run_loadCells w ad n (λj=>.int .u8 ((oH s j).toNat:Int)) (λj hj=>h2 j hj),List.map_map];rfl
   rw[run_bytesToString w ad n c _ e]
   congr 2
   have key:∀(l:List Nat) (r:ByteArray),(l.map λj=>((oH s j).toNat:Int)).foldl (λr n=>r.push (UInt8.ofNat n.toNat)) r=l.foldl (λr j=>r.push (oH s j)) r:=by
    intro l
    induction l with
    |nil=>intro r;rfl
    |cons x l ih=>intro r;simp only[List.map_cons,Nf];rw[ih];simp
   rw[key]
   have key2:∀(l:List Nat) (r:ByteArray),(l.foldl (λr j=>r.push (oH s j)) r).data.toList=r.data.toList++l.map (oH s):=by
    intro l
    induction l with
    |nil=>intro r;simp
    |cons x l ih=>intro r;rw[Nf,ih];simp[ByteArray.push]
   apply ByteArray.ext
   apply NX
   rw[key2]
   apply List.ext_getElem?
   intro i
   have hs:s.data.size=n:=h1
   have e0:Nq.data.toList=[]:=rfl
   rw[e0,List.nil_append]
   by_cases hi:i<n
   ·simp[hi,oH,hs]
   ·simp[hi,hs]
theorem ja {P:Program}{o:Oper}{ρ:Operand->Value}{M:Option (Heap->Prop)}{H:Heap}{K:Value->Prop}(h:pW P o.op o.type ρ M H K):
  ∃v,(∀w:World,Jl M H w.heap->(execOp ρ o).run P w=.ok (.value v) w)/\K v:=by
 obtain⟨dst,op,type,pos,after,guard⟩:=o
 simp only at h
 have one:∀{t:TypeId} {p:Addr} {v:Value} {x:Operand},ρ x=.pointer (some p)->(∃d,P.underlying t=some d/\(∀fs,d≠.struct fs)/\(∀n e,d≠.array n e))->
   ∀w:World,de w.heap p=some v->(execOp ρ ⟨dst,.load t x,type,pos,after,guard⟩).run P w=.ok (.value v) w:=by
  rintro t p v x hx ⟨d,hd,h1,h2⟩ w hc
  have hc':w.cell? p=some v:=hc
  have ha:(isAgg t).run P w=.ok false w:=by
   simp only[isAgg,K5,aE hd,K4]
   cases d<;>first|rfl|exact absurd rfl (h1 _)|exact absurd rfl (h2 _ _)
  simp[execOp,Q3,hx,MC,loadVar,ha,hc']
 have many:∀{t:TypeId} {p:Addr} {v:Value} {x:Operand} {inf:TypeInfo},ρ x=.pointer (some p)->P.info? t=some inf->(∃d,P.underlying t=some d/\((∃fs,d=.struct fs)\/∃n e,d=.array n e))->
   ∀w:World,kT w.heap p inf.size v->(execOp ρ ⟨dst,.load t x,type,pos,after,guard⟩).run P w=.ok (.value v) w:=by
  rintro t p v x inf hx hi ⟨d,hd,h1⟩ w hr
  obtain⟨cs,rfl,hl⟩:=Af (P:=P) hr
  have ha:(isAgg t).run P w=.ok true w:=by
   simp only[isAgg,K5,aE hd,K4]
   rcases h1 with ⟨fs,rfl⟩|⟨n,e,rfl⟩<;>rfl
  simp[execOp,Q3,hx,MC,loadVar,ha,bW hi,hl]
 unfold pW at h
 split at h
 ·rename_i t x
  split at h
  ·rename_i fs hu
   split at h
   ·rename_i inf hi
    split at h
    ·rename_i p hx
     have hk:=eT h;clear h;obtain⟨a,rfl,h⟩:=hk
     cases M with
     |none=>obtain⟨u,h1,h2⟩:=h;exact⟨_,λw hw=>many hx hi ⟨_,hu,.inl ⟨_,rfl⟩⟩ w (by rw[show w.heap=H from hw];exact h1),h2⟩
     |some G=>obtain⟨u,h1,h2⟩:=h;exact⟨_,λw hw=>many hx hi ⟨_,hu,.inl ⟨_,rfl⟩⟩ w (h1 _ hw),h2⟩
    ·exact h.elim
   ·exact h.elim
  ·rename_i n e hu
   split at h
   ·rename_i inf hi
    split at h
    ·rename_i p hx
     have hk:=eT h;clear h;obtain⟨a,rfl,h⟩:=hk
     cases M with
     |none=>obtain⟨u,h1,h2⟩:=h;exact⟨_,λw hw=>many hx hi ⟨_,hu,.inr ⟨_,_,rfl⟩⟩ w (by rw[show w.heap=H from hw];exact h1),h2⟩
     |some G=>obtain⟨u,h1,h2⟩:=h;exact⟨_,λw hw=>many hx hi ⟨_,hu,.inr ⟨_,_,rfl⟩⟩ w (h1 _ hw),h2⟩
    ·exact h.elim
   ·exact h.elim
  ·rename_i d n1 n2 hu
   split at h
   ·rename_i p hx
    have hk:=eT h;clear h;obtain⟨a,rfl,h⟩:=hk
    have hd:∃d,P.underlying t=some d/\(∀fs,d≠.struct fs)/\(∀n e,d≠.array n e):=⟨_,hu,λfs e=>n1 fs e,λn e e2=>n2 n e e2⟩
    cases M with
    |none=>obtain⟨u,h1,h2⟩:=h;exact⟨_,λw hw=>one hx hd w (by rw[show w.heap=H from hw];exact h1),h2⟩
    |some G=>obtain⟨u,h1,h2⟩:=h;exact⟨_,λw hw=>one hx hd w (h1 _ hw),h2⟩
   ·exact h.elim
  ·exact h.elim
 ·rename_i args argTypes
  split at h
  ·rename_i t x ht hx
   split at h
   ·rename_i k e hu
    split at h
    ·rename_i m hm
     have run:∀(n:Nat) (w:World),Gk w.heap m n->(execOp ρ ⟨dst,.call ⟨.builtin .len,args,argTypes⟩,type,pos,after,guard⟩).run P w=.ok (.value (.int .i64 (n:Int))) w:=by
      intro n w hn
      have ea:(args.map ρ)[0]?=some (.map m):=by rw[Array.getElem?_map,hx,Option.map_some,hm]
      have eb:(RQ argTypes type (args.map ρ)).run P w=.ok (goInt n) w:=by
       unfold RQ
       simp only[ht,ea]
       cases m with
       |none=>simp only[Gk] at hn;subst hn;simp[aE hu]
       |some r=>
         obtain⟨es,clk,h1,h2⟩:=hn
         simp[aE hu,run_getObj_map w r es clk h1,h2]
      simp[execOp,resolve,invoke,builtin,eb,goInt]
     cases M with
     |none=>obtain⟨n,h1,h2⟩:=h;exact⟨_,λw hw=>run n w (by rw[show w.heap=H from hw];exact h1),h2⟩
     |some G=>obtain⟨n,h1,h2⟩:=h;exact⟨_,λw hw=>run n w (h1 _ hw),h2⟩
    ·exact h.elim
   ·exact h.elim
  ·exact h.elim
 ·rename_i src dst' x
  split at h
  ·rename_i e hs hd
   split at h
   ·rename_i he
    split at h
    ·rename_i a n c hx
     have run:∀(s:ByteArray) (w:World),gp w.heap a n s->(execOp ρ ⟨dst,.convert src dst' x,type,pos,after,guard⟩).run P w=.ok (.value (.string s)) w:=by
      intro s w hb
      simp only[execOp,hx,K5,run_convert_bytes_string w src dst' e a n c hs he hd,vw hb]
      rfl
     cases M with
     |none=>obtain⟨s,h1,h2⟩:=h;exact⟨_,λw hw=>run s w (by rw[show w.heap=H from hw];exact h1),h2⟩
     |some G=>obtain⟨s,h1,h2⟩:=h;exact⟨_,λw hw=>run s w (h1 _ hw),h2⟩
    ·exact h.elim
   ·exact h.elim
  ·exact h.elim
 ·rename_i t x ix ok
  cases M with
  |none=>obtain⟨u,h1,h2⟩:=h;exact⟨_,λw hw=>by simp only[execOp,K5,h1 w hw];rfl,h2⟩
  |some G=>obtain⟨u,h1,h2⟩:=h;exact⟨_,λw hw=>by simp only[execOp,K5,h1 _ hw w rfl];rfl,h2⟩
 ·rename_i op t x y yt
  cases M with
  |none=>
    obtain⟨u,h1,h2⟩:=h
    refine⟨_,λw hw=>?_,h2⟩
    have:=h1 w hw
    simp only[execOp,K5] at this ⊢
    rw[this];rfl
  |some G=>
    obtain⟨u,h1,h2⟩:=h
    refine⟨_,λw hw=>?_,h2⟩
    have:=h1 _ hw w rfl
    simp only[execOp,K5] at this ⊢
    rw[this];rfl
 ·exact h.elim
def dD (P:Program)(f:FuncId):Bool:=match P.funcs[f]? with|some fn=>fn.body.isSome|none=>false
def j6 (P:Program):Prop:=∀(f:FuncId) (fn:Func),P.funcs[f]?=some fn->(fn.name=="runtime.NumGoroutine")=false
def qc (P:Program)(el:TypeId)(len:Nat)(parts:List (Nat×Value)):Option (Array Value):=
 match P.info? el with
 |some inf=>(match inf.zero with
   |some z=>bif LS 16777216 (len*inf.size) then none else MP (λi=>some (i*inf.size,inf.size)) ((Q7 (len*inf.size)).map (z.cells[·%z.cells.size]!)) parts
   |none=>none)
 |none=>none
def aF (H:Heap)(cells:Array Value)(t:TypeId)(K:Addr->Heap->Prop):Prop:=K ⟨H.size,0,none⟩ (H.push (.cells cells t))
def C4 (H:Heap)(K:Nat->Heap->Prop):Prop:=K H.size (H.push (.map #[] 0))
def cj (P:Program)(l:Nat)(args:Array Value)(H:Heap)(K:Bool->Heap->Prop):Prop:=
 ∀w:World,w.heap=H->nX P ((Instr.yield l args).run P w) λv w'=>∃b,v=.bool b/\K b w'.heap/\Alike w w'
theorem cj.mono {P:Program}{l:Nat}{args:Array Value}{H:Heap}{K K':Bool->Heap->Prop}(h:cj P l args H K)(hk:∀b H',K b H'->K' b H'):cj P l args H K':=
 λw hw=>gx (λ_ _ ⟨b,e,h1,h2⟩=>⟨b,e,hk _ _ h1,h2⟩) (h w hw)
def Cv (P:Program)(t:TypeId):Bool:=match P.underlying t with|some .bool=>true|_=>false
def qe (g:FuncId)(args:Array Value):Sem Value:=do match <-callFunc g args with|.value v=>pure v|_=>stuck "a call of a function without a body"
theorem uX {P:Program}{g:FuncId}{args:Array Value}{w w':World}{v:Value}(h:(qe g args).run P w=.ok v w'):(callFunc g args).run P w=.ok (.value v) w':=by
 unfold qe at h
 rw[K5] at h
 cases hr:(callFunc g args).run P w with
 |halt x w1=>rw[hr] at h;cases h
 |ok n w1=>
   rw[hr] at h
   simp only[K4] at h
   cases n<;>simp only at h<;>first|(rw[Lu] at h;cases h;rfl)|cases h
def xH (P:Program)(t:TypeId)(n:String):Option FuncId:=
 match P.underlying t,P.info? t with
 |some (.pointer _),some inf=>(match inf.methods.find? (·.name==n) with
   |some m=>(match m.path.toList,m.func with|[],some (g,true)=>some g|_,_=>none)
   |none=>none)
 |_,_=>none
def wk (c:eN)(P:Program)(n:String)(l:List Value)(H:Heap)(K:c.α->Heap->Prop):Prop:=
 match l with
 |.iface t v::r=>(match xH P t n with
   |some g=>(bif dD P g then ai c P g (v::r).toArray H K else False)
   |none=>False)
 |_=>False
theorem xQ {P:Program}{t:TypeId}{n:String}{g:FuncId}(h:xH P t n=some g)(v:Value)(w:World):(method (P.types.size+QK) t v n).run P w=.ok (g,v) w:=by
 unfold xH at h
 split at h
 ·rename_i el inf hu hi
  split at h
  ·rename_i m hm
   split at h
   ·rename_i hp hf
    cases h
    have e:P.types.size+QK=(P.types.size+QK - 1)+1:=by
     have:0<QK:=by decide
     omega
    rw[e]
    unfold method
    simp[typeInfo,hi,hm,hp,hf,follow,receiverAt,aE hu,Place.get]
   ·cases h
  ·cases h
 ·cases h
def JG (c:eN)(P:Program)(f:Value)(args:List Value)(H:Heap)(K:c.α->Heap->Prop):Prop:=
 match f with
 |.func (.func g) first cap=>(bif dD P g then ai c P g ((first.toList++args)++cap.toList).toArray H K
   else bt c P (qe g ((first.toList++args)++cap.toList).toArray) H K)
 |.func (.yield _) _ _=>False
 |.func (.method n) first _=>wk c P n (first.toList++args) H K
 |_=>False
def xL (P:Program)(op:Op)(ty:TypeId)(ρ:Operand->Value)(H:Heap)(K:Value->Heap->Prop):Prop:=
 match op with
 |.store t x v=>(match P.underlying t with
   |some (.struct _)|some (.array _ _)=>lQ P (Li t (ρ x) (ρ v)) H λH'=>K undef H'
   |some _=>(match P.info? t with
     |some inf=>(bif Nat.beq inf.size 1 then (match ρ x with
       |.pointer p=>ab p λa=>st H a (ρ v) λH'=>K undef H'
       |_=>False) else False)
     |none=>False)
   |none=>False)
 |.alloc t=>(match (P.info? t).bind (·.zero) with
   |some _=>aF H (zc P t) t λa H'=>K (.pointer (some a)) H'
   |none=>False)
 |.box t x=>aF H (ρ x).cells t λa H'=>K (.pointer (some a)) H'
 |.buildSlice t len parts=>(match P.underlying t with
   |some (.slice el)=>(match wu P 5 el with
     |none=>bt av P (Lx t len (parts.toList.map λq=>(q.1,ρ q.2)).toArray) H λu H'=>K u.v H'
     |some _=>(match qc P el len (parts.toList.map λq=>(q.1,ρ q.2)) with
       |some cells=>aF H cells el λa H'=>K (.slice (some a) len len) H'
       |none=>False))
   |_=>False)
 |.makeSlice t l c=>bt av P (Instr.makeSlice t (ρ l) (ρ c)) H λu H'=>K u.v H'
 |.makeMap _ none=>C4 H λr H'=>K (.map (some r)) H'
 |.makeMap t (some r)=>bt cq P (QS t (some (ρ r))) H λu H'=>K (.map u) H'
 |.mapUpdate t m k v=>lQ P (My t (ρ m) (ρ k) (ρ v)) H λH'=>K undef H'
 |.insert t m k v=>lQ P (My t (ρ m) (ρ k) (ρ v)) H λH'=>K undef H'
 |.mapEntry t m k=>bt (gQ P ty) P (Instr.mapEntry t (ρ m) (ρ k)) H λu H'=>K ((gQ P ty).enc u) H'
 |.entryStore t m s v=>lQ P (Instr.entryStore t (ρ m) (ρ s) (ρ v)) H λH'=>K undef H'
 |.range t x=>bt ar P (Instr.range t (ρ x)) H λu H'=>K (.pointer u) H'
 |.next x b=>bt fR P (Instr.next (ρ x) b ty) H λu H'=>K (.tuple ⟨.bool u.1::u.2⟩) H'
 |.entry x=>bt nh P (Instr.entry (ρ x)) H λu H'=>K (.tuple ⟨[u.1,u.2]⟩) H'
 |.convert src dst x=>bt (gQ P dst) P (convert src dst (ρ x)) H λu H'=>K ((gQ P dst).enc u) H'
 |.call {callee:=.builtin b,args,argTypes}=>(match b with
   |.append=>bt av P (KM argTypes ty (args.toList.map ρ).toArray) H λu H'=>K u.v H'
   |.copy=>bt (aa .i64) P (QT argTypes ty (args.toList.map ρ).toArray) H λu H'=>K (.int .i64 u) H'
   |.delete=>bt jG P (Mk argTypes ty (args.toList.map ρ).toArray) H λu H'=>K u H'
   |.clear=>bt jG P (QO argTypes ty (args.toList.map ρ).toArray) H λu H'=>K u H'
   |_=>False)
 |.call {callee:=.value f,args,..}=>(match ρ f with
   |.func (.func g) first cap=>(bif dD P g then ai (gQ P ty) P g ((first.toList++args.toList.map ρ)++cap.toList).toArray H (λu H'=>K ((gQ P ty).enc u) H')
     else bt (gQ P ty) P (qe g ((first.toList++args.toList.map ρ)++cap.toList).toArray) H (λu H'=>K ((gQ P ty).enc u) H'))
   |.func (.yield l) first _=>(bif Cv P ty then cj P l (first.toList++args.toList.map ρ).toArray H (λb H'=>K (.bool b) H') else False)
   |.func (.method n) first _=>wk (gQ P ty) P n (first.toList++args.toList.map ρ) H (λu H'=>K ((gQ P ty).enc u) H')
   |_=>False)
 |.call {callee:=.invoke r n,args,..}=>wk (gQ P ty) P n (ρ r::args.toList.map ρ) H (λu H'=>K ((gQ P ty).enc u) H')
 |_=>False
theorem cp {P:Program}{s:Sem Value}{w:World}{K:Value->Heap->Prop}{M:Option (Heap->Prop)}{R:Value->World->Prop}
  (h:Cp P s w.heap K) (hK:∀v w',Alike w w'->K v w'.heap->iC M w'.heap/\R v w'):
  nX P ((do pure (.value (<-s)):Sem Next).run P w) (λv w'=>iC M w'.heap/\R v w'):=by
 obtain⟨v,w',h1,h2,h3⟩:=h w rfl
 simp only[K5,h1,K4,Lu,nX]
 exact hK _ _ h3 h2
theorem jh {P:Program}{s:Sem Unit}{w:World}{K:Unit->Heap->Prop}{M:Option (Heap->Prop)}{R:Value->World->Prop}
  (h:Cp P s w.heap K) (hK:∀w',Alike w w'->K () w'.heap->iC M w'.heap/\R undef w'):
  nX P ((do s;pure .skip:Sem Next).run P w) (λv w'=>iC M w'.heap/\R v w'):=by
 obtain⟨v,w',h1,h2,h3⟩:=h w rfl
 simp only[K5,h1,K4,Lu,nX]
 exact hK _ h3 h2
theorem tA {P:Program}(hNG:j6 P){c:eN}{n:String}{l:List Value}{cap:Array Value}{w:World}{K:c.α->Heap->Prop}{Q:Value->World->Prop}(h:wk c P n l w.heap K)(hQ:∀x w',Alike w w'->K x w'.heap->Q (c.enc x) w'):nX P ((invoke (.fn (.method n) cap) l.toArray).run P w) Q:=by
 unfold wk at h
 split at h
 ·rename_i t v r
  split at h
  ·rename_i g hm
   cases hc:dD P g with
   |false=>rw[hc] at h;exact h.elim
   |true=>
     rw[hc] at h
     simp only[cond_true] at h
     unfold dD at hc
     split at hc
     ·rename_i fn hfn
      obtain⟨body,hb⟩:=M5.1 hc
      have h1:fn.name≠"runtime.NumGoroutine":=by simpa using hNG _ _ hfn
      have hrun:(invoke (.fn (.method n) cap) (.iface t v::r).toArray).run P w=.ok (.enter g (v::r).toArray) w:=by
       simp[invoke,callMethod,xQ hm,callFunc,hfn,h1,hb]
      rw[hrun]
      simp only[nX]
      refine(h w rfl).mono λe w' ⟨v,he,⟨x,hx,hk⟩,ha⟩=>⟨v,he,?_⟩
      subst hx
      exact hQ _ _ ha hk
     ·cases hc
  ·exact h.elim
 ·exact h.elim
theorem tQ {P:Program}(hNG:j6 P){o:Oper}{ρ:Operand->Value}{M:Option (Heap->Prop)}{w:World}{K:Value->Heap->Prop}{R:Value->World->Prop}
  (hK:∀v w',Alike w w'->K v w'.heap->iC M w'.heap/\R v w')
  (h:xL P o.op o.type ρ w.heap K):nX P ((execOp ρ o).run P w) (λv w'=>iC M w'.heap/\R v w'):=by
 obtain⟨dst,op,type,pos,after,guard⟩:=o
 simp only at h
 have hKT:∀{c:eN} {f:c.α->Value},(∀x,f x=c.enc x)->∀v w',Alike w w'->(∃x:c.α,v=c.enc x/\K (f x) w'.heap)->iC M w'.heap/\R v w':=by
  rintro c f hf v w' h1 ⟨x,rfl,h2⟩
  rw[hf] at h2
  exact hK _ _ h1 h2
 unfold xL at h
 split at h
 ·rename_i t x v
  split at h
  ·exact jh h (λw' h1 h2=>hK _ _ h1 h2)
  ·exact jh h (λw' h1 h2=>hK _ _ h1 h2)
  ·rename_i d n1 n2 hu
   split at h
   ·rename_i inf hi
    cases hs:Nat.beq inf.size 1 with
    |true=>
      rw[hs] at h
      simp only[cond_true] at h
      split at h
      ·rename_i p hx
       obtain⟨a,rfl,h1,⟨u,h2⟩,h3,h4⟩:=eT h
       have hc:w.cell? a=some u:=h2
       have hf:w.frozen? a=false:=h3
       have hone:(ρ v).cells=#[ρ v]:=by
        generalize ρ v=vv at*
        cases vv<;>first|rfl|exact OT h1
       have hp:(ρ v).oneCell'=true:=by
        generalize ρ v=vv at*
        cases vv<;>first|rfl|exact OT h1
       have hsz:inf.size=1:=Nat.eq_of_beq_eq_true hs
       have hrun:(Li t (ρ x) (ρ v)).run P w=.ok () (w.setCell a (ρ v)):=by
        simp[Li,hx,MC,storeVar,bW hi,hsz,hone,storeCells,Addr.add,run_store P w a (ρ v) .plain hp,hc,hf]
       simp only[execOp,K5,hrun,K4,Lu,nX]
       exact hK _ (w.setCell a (ρ v)) (.of_le rfl (KN _)) h4
      ·exact h.elim
    |false=>rw[hs] at h;exact h.elim
   ·exact h.elim
  ·exact h.elim
 ·rename_i t
  split at h
  ·rename_i z hz
   obtain⟨inf,hi,hz'⟩:=Option.bind_eq_some_iff.1 hz
   have e:zc P t=z.cells:=by unfold zc;rw[hz]
   have hrun:(Qv t true (.tuple #[])).run P w=.ok (.pointer (some ⟨w.heap.size,0,none⟩)) {w with heap:=w.heap.push (.cells (zc P t) t)}:=by
    rw[e];simp[Qv,zeroValue,typeInfo,hi,hz',newVar,newRow]
   simp only[execOp,K5,hrun,K4,Lu,nX]
   exact hK _ {w with heap:=w.heap.push (.cells (zc P t) t)} (.of_le rfl (KN _)) h
  ·exact h.elim
 ·rename_i t x
  have hrun:(QU t (ρ x)).run P w=.ok (.pointer (some ⟨w.heap.size,0,none⟩)) {w with heap:=w.heap.push (.cells (ρ x).cells t)}:=by
   simp[QU,newVar,newRow]
  simp only[execOp,K5,hrun,K4,Lu,nX]
  exact hK _ {w with heap:=w.heap.push (.cells (ρ x).cells t)} (.of_le rfl (KN _)) h
 ·rename_i t len parts
  split at h
  ·rename_i el hu
   split at h
   ·have e:(parts.toList.map λq=>(q.1,ρ q.2)).toArray=parts.map λ(i,x)=>(i,ρ x):=by apply NX;simp
    rw[e] at h
    exact cp h (hKT (λ_=>rfl))
   split at h
   ·rename_i cells hb
    unfold qc at hb
    split at hb
    ·rename_i inf hi
     split at hb
     ·rename_i z hz
      have hrun:(Lx t len (parts.map λ(i,x)=>(i,ρ x))).run P w=.ok (.slice (some ⟨w.heap.size,0,none⟩) len len) {w with heap:=w.heap.push (.cells cells el)}:=by
       have hl:(parts.map λ(i,x)=>(i,ρ x)).toList=parts.toList.map λq=>(q.1,ρ q.2):=by simp
       have hbl:LS 16777216 (len*inf.size)=false:=by
        cases hb3:LS 16777216 (len*inf.size) with
        |false=>rfl
        |true=>rw[hb3] at hb;cases hb
       rw[hbl] at hb
       simp only[cond_false] at hb
       have hbig:¬(len*inf.size>2^24):=by
        intro h9
        have:LS 16777216 (len*inf.size)=true:=Nat.ble_eq_true_of_le (by omega)
        rw[hbl] at this;cases this
       have e0:∀f:Nat->Value,(Q7 0).map f=#[]:=λf=>Array.eq_empty_of_size_eq_zero (by simp)
       by_cases h0:len*inf.size=0
       ·have hb2:MP (λi=>some (i*inf.size,inf.size)) #[] (parts.toList.map λq=>(q.1,ρ q.2))=some cells:=by
         rw[h0,e0] at hb;exact hb
        simp[Lx,aE hu,bW hi,h0,e0,hb2,newRow]
       ·simp[Lx,aE hu,bW hi,hbig,h0,zeroValue,typeInfo,hi,hz,hb,newRow]
      simp only[execOp,K5,hrun,K4,Lu,nX]
      exact hK _ {w with heap:=w.heap.push (.cells cells el)} (.of_le rfl (KN _)) h
     ·cases hb
    ·cases hb
   ·exact h.elim
  ·exact h.elim
 ·rename_i t l c
  exact cp h (hKT (λ_=>rfl))
 ·rename_i t
  have hrun:(QS t none).run P w=.ok (.map (some w.heap.size)) {w with heap:=w.heap.push (.map #[] 0)}:=by
   simp[QS]
  simp only[execOp,Option.map_none,K5,hrun,K4,Lu,nX]
  exact hK _ {w with heap:=w.heap.push (.map #[] 0)} (.of_le rfl (KN _)) h
 ·exact cp h (hKT (λ_=>rfl))
 ·exact jh h (λw' h1 h2=>hK _ _ h1 h2)
 ·exact jh h (λw' h1 h2=>hK _ _ h1 h2)
 ·exact cp h (hKT (λ_=>rfl))
 ·exact jh h (λw' h1 h2=>hK _ _ h1 h2)
 ·exact cp h (hKT (λ_=>rfl))
 ·exact cp h (hKT (c:=fR) (λ_=>rfl))
 ·exact cp h (hKT (c:=nh) (λ_=>rfl))
 ·exact cp h (hKT (λ_=>rfl))
 ·rename_i b args argTypes
  have em:(args.toList.map ρ).toArray=args.map ρ:=by apply NX;simp
  rw[em] at h
  split at h
  ·exact cp h (hKT (λ_=>rfl))
  ·exact cp h (hKT (λ_=>rfl))
  ·exact cp h (hKT (c:=jG) (λ_=>rfl))
  ·exact cp h (hKT (c:=jG) (λ_=>rfl))
  ·exact h.elim
 ·rename_i f args argTypes
  split at h
  ·rename_i g first cap hf
   cases hc:dD P g with
   |true=>
     rw[hc] at h
     simp only[cond_true] at h
     unfold dD at hc
     split at hc
     ·rename_i fn hfn
      obtain⟨body,hb⟩:=M5.1 hc
      have hrun:(callFunc g ((first++args.map ρ)++cap)).run P w=.ok (.enter g ((first++args.map ρ)++cap)) w:=by
       have h1:fn.name≠"runtime.NumGoroutine":=by simpa using hNG _ _ hfn
       simp[callFunc,hfn,h1,hb]
      have e:((first.toList++args.toList.map ρ)++cap.toList).toArray=(first++args.map ρ)++cap:=by
       apply NX;simp
      rw[e] at h
      simp only[execOp,resolve,hf,Nv,pure_bind,invoke]
      rw[hrun]
      simp only[nX]
      refine(h w rfl).mono λe w' ⟨v,he,⟨x,hx,hk⟩,ha⟩=>⟨v,he,?_⟩
      subst hx
      exact hK _ _ ha hk
     ·cases hc
   |false=>
     rw[hc] at h
     simp only[cond_false] at h
     have e:((first.toList++args.toList.map ρ)++cap.toList).toArray=(first++args.map ρ)++cap:=by
      apply NX;simp
     rw[e] at h
     obtain⟨v,w',h1,⟨x,h2,h3⟩,h4⟩:=h w rfl
     have h5:=uX h1
     simp only[execOp,resolve,hf,Nv,pure_bind,invoke]
     rw[h5]
     simp only[nX]
     subst h2
     exact hK _ _ h4 h3
  ·rename_i l first cap hf
   cases hbt:Cv P type with
   |false=>rw[hbt] at h;exact h.elim
   |true=>
   rw[hbt] at h
   simp only[cond_true] at h
   have e:(first.toList++args.toList.map ρ).toArray=first++args.map ρ:=by apply NX;simp
   rw[e] at h
   simp only[execOp,resolve,hf,Nv,pure_bind,invoke]
   refine gx ?_ (h w rfl)
   rintro v w' ⟨b,rfl,h1,h2⟩
   exact hK _ _ h2 h1
  ·rename_i n first cap hf
   have e:(first.toList++args.toList.map ρ).toArray=first++args.map ρ:=by apply NX;simp
   simp only[execOp,resolve,hf,Nv,pure_bind]
   rw[<-e]
   exact tA hNG h λx w' ha hk=>hK _ _ ha hk
  ·exact h.elim
 ·rename_i r n args argTypes
  have e:#[ρ r]++args.map ρ=(ρ r::args.toList.map ρ).toArray:=by apply NX;simp
  simp only[execOp,resolve,pure_bind]
  rw[e]
  exact tA hNG h λx w' ha hk=>hK _ _ ha hk
 ·exact h.elim
end Go.Proofs.YtdpdmbceakdlmaaGreatDoor
