/-
 Ground, fourth text: what reads and effects ask, and that it is enough.
-/
import Derived.Test.YtmkbhnholcaghaaGreatDoorFxc
open Array renaming ext'->R6,range->VK
open Bool renaming noConfusion->Tt
open ByteArray renaming empty->Qk
open Go.Builtin renaming append_->N2,delete_->Px,clear_->Tg,copy_->UN,len_->VY
open Go.Deferred renaming ofValue->Q6
open Go.Instr renaming storeAt->Og,buildSlice->Pj,lookup->Pp,mapUpdate->P5,sureAddr->Qd,fill->QC,makeMap->UM,loadAt->U0,alloc->V8,box->Wx
open Go.Made renaming depth->UA
open Go.Result renaming andThen_ok->Oz
open Go.Sem renaming run_bind->Ox,run_pure->O4
open List renaming foldl_cons->Q0
open Nat renaming le_refl->N3,blt->PM
open Option renaming isSome_iff_exists->Qz
namespace Go.Proofs.YtmkbhnholcaghaaGreatDoor
def HV (H:aa)(m:Option Nat)(n:Nat):Prop:=match m with|none=>n=0|some r=>∃es clk,H[r]?=some (.map es clk)/\es.size=n
def AH (H:aa)(m:Option Nat)(K:Nat->Prop):Prop:=∃n,HV H m n/\K n
def LO (G:aa->Prop)(m:Option Nat)(K:Nat->Prop):Prop:=∃n,(∀H',G H'->HV H' m n)/\K n
def fG (H:aa)(a:Option Addr)(n:Nat)(s:ByteArray):Prop:=
 match a with
 |none=>s=Qk
 |some ad=>s.size=n/\∀i,i<n->cJ H (ad.add i)=some (.int .u8 ((pX s i).toNat:Int))
def vJ (H:aa)(a:Option Addr)(n:Nat)(K:ByteArray->Prop):Prop:=∃s,fG H a n s/\K s
def Ls (G:aa->Prop)(a:Option Addr)(n:Nat)(K:ByteArray->Prop):Prop:=∃s,(∀H',G H'->fG H' a n s)/\K s
def qX (P:Program)(op:Op)(ty:TypeId)(ρ:Operand->Value)(M:Option (aa->Prop))(H:aa)(K:Value->Prop):Prop:=
 match op with
 |.load t x=>(match P.underlying t with
   |some (.struct _)|some (.array _ _)=>(match P.info? t with
     |some inf=>(match ρ x with
       |.pointer p=>ae p λa=>(match M with
         |none=>c6 (kB P t) inf.size H a λu=>K ((kB P t).enc u)
         |some G=>K6 (kB P t) inf.size G a λu=>K ((kB P t).enc u))
       |_=>False)
     |none=>False)
   |some _=>(match ρ x with
     |.pointer p=>ae p λa=>(match M with
       |none=>ld (kB P t) H a λu=>K ((kB P t).enc u)
       |some G=>dv (kB P t) G a λu=>K ((kB P t).enc u))
     |_=>False)
   |none=>False)
 |.call {callee:=.builtin .len,args,argTypes}=>(match (argTypes[0]?),(args[0]?) with
   |some t,some x=>(match P.underlying t with
     |some (.map _ _)=>(match ρ x with
       |.map m=>(match M with
         |none=>AH H m λn=>K (.int .i64 (n:Int))
         |some G=>LO G m λn=>K (.int .i64 (n:Int)))
       |_=>False)
     |_=>False)
   |_,_=>False)
 |.convert src dst x=>(match P.underlying src,P.underlying dst with
   |some (.slice e),some .string=>(match P.underlying e with
     |some (.int .u8)=>(match ρ x with
       |.slice a n _=>(match M with
         |none=>vJ H a n λs=>K (.string s)
         |some G=>Ls G a n λs=>K (.string s))
       |_=>False)
     |_=>False)
   |_,_=>False)
 |.lookup t x b ok=>(match M with
   |none=>Dr (gU P ty) P (Pp t (ρ x) (ρ b) ok) H λu=>K ((gU P ty).enc u)
   |some G=>LK (gU P ty) P (Pp t (ρ x) (ρ b) ok) G λu=>K ((gU P ty).enc u))
 |.binOp op t x y _=>(match M with
   |none=>Dr ay P (do eqGuard op t x y (ρ x) (ρ y);binOp op t (ρ x) (ρ y)) H λu=>K (.bool u)
   |some G=>LK ay P (do eqGuard op t x y (ρ x) (ρ y);binOp op t (ρ x) (ρ y)) G λu=>K (.bool u))
 |_=>False
theorem Dc {P:Program}{w:World}{a:Addr}{n:Nat}{v:Value}(h:lK w.heap a n v):∃cs,v=.agg cs/\(loadCells a n).run P w=.ok cs w:=by
 obtain⟨cs,rfl,hs,c⟩:=h;refine⟨cs,rfl,?_⟩;have:=run_loadCells_list (P:=P) w a cs.toList (λj v b=>by
  have d:j<cs.size:=by
   have:=(List.getElem?_eq_some_iff.1 b).1;simpa using this
  have h1:=c j (by omega);have e:cs[j]?=some v:=by simpa using b
  exact(show w.cell? (a.add j)=cs[j]? from h1).trans e)
 simpa[hs] using this
theorem xm {P:Program}{w:World}{a:Option Addr}{n c:Nat}{s:ByteArray}(h:fG w.heap a n s):(Conv.bytesToString (.slice a n c)).run P w=.ok (.string s) w:=by
 cases a with
 |none=>simp only[fG] at h;subst h;rfl
 |some ad=>
   obtain⟨h1,f⟩:=h;have e:(loadCells ad n).run P w=.ok (((List.range n).map λj=>((pX s j).toNat:Int)).map (Value.int .u8)).toArray w:=by
    rw[run_loadCells w ad n (λj=>.int .u8 ((pX s j).toNat:Int)) (λj g=>f j g),List.map_map];rfl
   rw[run_bytesToString w ad n c _ e];congr 2;have key:∀(l:List Nat) (r:ByteArray),(l.map λj=>((pX s j).toNat:Int)).foldl (λr n=>r.push (UInt8.ofNat n.toNat)) r=l.foldl (λr j=>r.push (pX s j)) r:=by
    intro l
    induction l with
    |nil=>intro r;rfl
    |cons x l d=>intro r;simp only[List.map_cons,Q0];rw[d];simp
   rw[key];have b:∀(l:List Nat) (r:ByteArray),(l.foldl (λr j=>r.push (pX s j)) r).data.toList=r.data.toList++l.map (pX s):=by
    intro l
    induction l with
    |nil=>intro r;simp
    |cons x l d=>intro r;rw[Q0,d];simp[ByteArray.push]
   apply ByteArray.ext;apply R6;rw[b];apply List.ext_getElem?;intro i;have hs:s.data.size=n:=h1;have k:Qk.data.toList=[]:=rfl;rw[k,List.nil_append];by_cases hi:i<n
   ·simp[hi,pX,hs]
   ·simp[hi,hs]
theorem jr {P:Program}{o:Oper}{ρ:Operand->Value}{M:Option (aa->Prop)}{H:aa}{K:Value->Prop}(h:qX P o.op o.type ρ M H K):
  ∃v,(∀w:World,Ms M H w.heap->(execOp ρ o).run P w=.ok (.value v) w)/\K v:=by
 obtain⟨dst,op,type,pos,after,guard⟩:=o;simp only at h;have one:∀{t:TypeId} {p:Addr} {v:Value} {x:Operand},ρ x=.pointer (some p)->(∃d,P.underlying t=some d/\(∀fs,d≠.struct fs)/\(∀n e,d≠.array n e))->
   ∀w:World,cJ w.heap p=some v->(execOp ρ ⟨dst,.load t x,type,pos,after,guard⟩).run P w=.ok (.value v) w:=by
  rintro t p v x f ⟨d,hd,h1,b⟩ w q;have i:w.cell? p=some v:=q;have j:(isAgg t).run P w=.ok false w:=by
   simp only[isAgg,Ox,aG hd,Oz];cases d<;>first|rfl|exact absurd rfl (h1 _)|exact absurd rfl (b _ _)
  simp[execOp,U0,f,Qd,loadVar,j,i]
 have many:∀{t:TypeId} {p:Addr} {v:Value} {x:Operand} {inf:TypeInfo},ρ x=.pointer (some p)->P.info? t=some inf->(∃d,P.underlying t=some d/\((∃fs,d=.struct fs)\/∃n e,d=.array n e))->
   ∀w:World,lK w.heap p inf.size v->(execOp ρ ⟨dst,.load t x,type,pos,after,guard⟩).run P w=.ok (.value v) w:=by
  rintro t p v x inf f hi ⟨d,hd,h1⟩ w z;obtain⟨cs,rfl,hl⟩:=Dc (P:=P) z;have j:(isAgg t).run P w=.ok true w:=by
   simp only[isAgg,Ox,aG hd,Oz];rcases h1 with ⟨fs,rfl⟩|⟨n,e,rfl⟩<;>rfl
  simp[execOp,U0,f,Qd,loadVar,j,cD hi,hl]
 unfold qX at h;split at h
 ·rename_i t x;split at h
  ·rename_i fs hu;split at h
   ·rename_i inf hi;split at h
    ·rename_i p f;have hk:=fm h;clear h;obtain⟨a,rfl,h⟩:=hk;cases M with
     |none=>obtain⟨u,h1,b⟩:=h;exact⟨_,λw hw=>many f hi ⟨_,hu,.inl ⟨_,rfl⟩⟩ w (by rw[show w.heap=H from hw];exact h1),b⟩
     |some G=>obtain⟨u,h1,b⟩:=h;exact⟨_,λw hw=>many f hi ⟨_,hu,.inl ⟨_,rfl⟩⟩ w (h1 _ hw),b⟩
    ·exact h.elim
   ·exact h.elim
  ·rename_i n e hu;split at h
   ·rename_i inf hi;split at h
    ·rename_i p f;have hk:=fm h;clear h;obtain⟨a,rfl,h⟩:=hk;cases M with
     |none=>obtain⟨u,h1,b⟩:=h;exact⟨_,λw hw=>many f hi ⟨_,hu,.inr ⟨_,_,rfl⟩⟩ w (by rw[show w.heap=H from hw];exact h1),b⟩
     |some G=>obtain⟨u,h1,b⟩:=h;exact⟨_,λw hw=>many f hi ⟨_,hu,.inr ⟨_,_,rfl⟩⟩ w (h1 _ hw),b⟩
    ·exact h.elim
   ·exact h.elim
  ·rename_i d n1 n2 hu;split at h
   ·rename_i p f;have hk:=fm h;clear h;obtain⟨a,rfl,h⟩:=hk;have hd:∃d,P.underlying t=some d/\(∀fs,d≠.struct fs)/\(∀n e,d≠.array n e):=⟨_,hu,λfs e=>n1 fs e,λn e e2=>n2 n e e2⟩;cases M with
    |none=>obtain⟨u,h1,b⟩:=h;exact⟨_,λw hw=>one f hd w (by rw[show w.heap=H from hw];exact h1),b⟩
    |some G=>obtain⟨u,h1,b⟩:=h;exact⟨_,λw hw=>one f hd w (h1 _ hw),b⟩
   ·exact h.elim
  ·exact h.elim
 ·rename_i args argTypes;split at h
  ·rename_i t x A f;split at h
   ·rename_i k e hu;split at h
    ·rename_i m hm;have run:∀(n:Nat) (w:World),HV w.heap m n->(execOp ρ ⟨dst,.call ⟨.builtin .len,args,argTypes⟩,type,pos,after,guard⟩).run P w=.ok (.value (.int .i64 (n:Int))) w:=by
      intro n w l;have B:(args.map ρ)[0]?=some (.map m):=by rw[Array.getElem?_map,f,Option.map_some,hm]
      have C:(VY argTypes type (args.map ρ)).run P w=.ok (goInt n) w:=by
       unfold VY;simp only[A,B];cases m with
       |none=>simp only[HV] at l;subst l;simp[aG hu]
       |some r=>
         obtain⟨es,clk,h1,b⟩:=l;simp[aG hu,run_getObj_map w r es clk h1,b]
      simp[execOp,resolve,invoke,builtin,C,goInt]
     cases M with
     |none=>obtain⟨n,h1,b⟩:=h;exact⟨_,λw hw=>run n w (by rw[show w.heap=H from hw];exact h1),b⟩
     |some G=>obtain⟨n,h1,b⟩:=h;exact⟨_,λw hw=>run n w (h1 _ hw),b⟩
    ·exact h.elim
   ·exact h.elim
  ·exact h.elim
 ·rename_i src g x;split at h
  ·rename_i e hs hd;split at h
   ·rename_i he;split at h
    ·rename_i a n c f;have run:∀(s:ByteArray) (w:World),fG w.heap a n s->(execOp ρ ⟨dst,.convert src g x,type,pos,after,guard⟩).run P w=.ok (.value (.string s)) w:=by
      intro s w D;simp only[execOp,f,Ox,run_convert_bytes_string w src g e a n c hs he hd,xm D];rfl
     cases M with
     |none=>obtain⟨s,h1,b⟩:=h;exact⟨_,λw hw=>run s w (by rw[show w.heap=H from hw];exact h1),b⟩
     |some G=>obtain⟨s,h1,b⟩:=h;exact⟨_,λw hw=>run s w (h1 _ hw),b⟩
    ·exact h.elim
   ·exact h.elim
  ·exact h.elim
 ·rename_i t x E ok;cases M with
  |none=>obtain⟨u,h1,b⟩:=h;exact⟨_,λw hw=>by simp only[execOp,Ox,h1 w hw];rfl,b⟩
  |some G=>obtain⟨u,h1,b⟩:=h;exact⟨_,λw hw=>by simp only[execOp,Ox,h1 _ hw w rfl];rfl,b⟩
 ·rename_i op t x y F;cases M with
  |none=>
    obtain⟨u,h1,b⟩:=h;refine⟨_,λw hw=>?_,b⟩;have:=h1 w hw;simp only[execOp,Ox] at this ⊢;rw[this];rfl
  |some G=>
    obtain⟨u,h1,b⟩:=h;refine⟨_,λw hw=>?_,b⟩;have:=h1 _ hw w rfl;simp only[execOp,Ox] at this ⊢;rw[this];rfl
 ·exact h.elim
def cO (P:Program)(f:FuncId):Bool:=match P.funcs[f]? with|some fn=>fn.body.isSome|none=>false
def lO (P:Program):Prop:=∀(f:FuncId) (fn:Func),P.funcs[f]?=some fn->(fn.name=="runtime.NumGoroutine")=false
def Bt (P:Program)(el:TypeId)(len:Nat)(parts:List (Nat×Value)):Option (Array Value):=
 match P.info? el with
 |some inf=>(match inf.zero with
   |some z=>bif PM 16777216 (len*inf.size) then none else QC (λi=>some (i*inf.size,inf.size)) ((VK (len*inf.size)).map (z.cells[·%z.cells.size]!)) parts
   |none=>none)
 |none=>none
def aI (H:aa)(cells:Array Value)(t:TypeId)(K:Addr->aa->Prop):Prop:=K ⟨H.size,0,none⟩ (H.push (.cells cells t))
def Fc (H:aa)(K:Nat->aa->Prop):Prop:=K H.size (H.push (.map #[] 0))
def bZ (P:Program)(l:Nat)(args:Array Value)(H:aa)(K:Bool->aa->Prop):Prop:=
 ∀w:World,w.heap=H->pa P ((Instr.yield l args).run P w) λv w'=>∃b,v=.bool b/\K b w'.heap/\Alike w w'
theorem bZ.mono {P:Program}{l:Nat}{args:Array Value}{H:aa}{K K':Bool->aa->Prop}(h:bZ P l args H K)(hk:∀b H',K b H'->K' b H'):bZ P l args H K':=
 λw hw=>gO (λ_ _ ⟨b,e,h1,a⟩=>⟨b,e,hk _ _ h1,a⟩) (h w hw)
def FR (P:Program)(t:TypeId):Bool:=match P.underlying t with|some .bool=>true|_=>false
def od (g:FuncId)(args:Array Value):Sem Value:=do match <-callFunc g args with|.value v=>pure v|_=>stuck "a call of a function without a body"
theorem yb {P:Program}{g:FuncId}{args:Array Value}{w w':World}{v:Value}(h:(od g args).run P w=.ok v w'):(callFunc g args).run P w=.ok (.value v) w':=by
 unfold od at h;rw[Ox] at h;cases a:(callFunc g args).run P w with
 |halt x b=>rw[a] at h;cases h
 |ok n b=>
   rw[a] at h;simp only[Oz] at h;cases n<;>simp only at h<;>first|(rw[O4] at h;cases h;rfl)|cases h
def zt (P:Program)(t:TypeId)(n:String):Option FuncId:=
 match P.underlying t,P.info? t with
 |some (.pointer _),some inf=>(match inf.methods.find? (·.name==n) with
   |some m=>(match m.path.toList,m.func with|[],some (g,true)=>some g|_,_=>none)
   |none=>none)
 |_,_=>none
def uW (c:eN)(P:Program)(n:String)(l:List Value)(H:aa)(K:c.α->aa->Prop):Prop:=
 match l with
 |.iface t v::r=>(match zt P t n with
   |some g=>(bif cO P g then ai c P g (v::r).toArray H K else False)
   |none=>False)
 |_=>False
theorem AB {P:Program}{t:TypeId}{n:String}{g:FuncId}(h:zt P t n=some g)(v:Value)(w:World):(method (P.types.size+UA) t v n).run P w=.ok (g,v) w:=by
 unfold zt at h;split at h
 ·rename_i el inf hu hi;split at h
  ·rename_i m hm;split at h
   ·rename_i a b;cases h;have e:P.types.size+UA=(P.types.size+UA - 1)+1:=by
     have:0<UA:=by decide
     omega
    rw[e];unfold method;simp[typeInfo,hi,hm,a,b,follow,receiverAt,aG hu,Place.get]
   ·cases h
  ·cases h
 ·cases h
def MH (c:eN)(P:Program)(f:Value)(args:List Value)(H:aa)(K:c.α->aa->Prop):Prop:=
 match f with
 |.func (.func g) first cap=>(bif cO P g then ai c P g ((first.toList++args)++cap.toList).toArray H K
   else ba c P (od g ((first.toList++args)++cap.toList).toArray) H K)
 |.func (.yield _) _ _=>False
 |.func (.method n) first _=>uW c P n (first.toList++args) H K
 |_=>False
def yp (P:Program)(f:Value)(args:List Value)(H:aa)(K:Bool->aa->Prop):Prop:=
 match f with
 |.func (.func g) first cap=>(bif cO P g then ai ay P g ((first.toList++args)++cap.toList).toArray H K
   else ba ay P (od g ((first.toList++args)++cap.toList).toArray) H K)
 |.func (.yield l) first _=>bZ P l (first.toList++args).toArray H K
 |.func (.method n) first _=>uW ay P n (first.toList++args) H K
 |_=>False
def AE (P:Program)(op:Op)(ty:TypeId)(ρ:Operand->Value)(H:aa)(K:Value->aa->Prop):Prop:=
 match op with
 |.store t x v=>(match P.underlying t with
   |some (.struct _)|some (.array _ _)=>ji P (Og t (ρ x) (ρ v)) H λH'=>K undef H'
   |some _=>(match P.info? t with
     |some inf=>(bif Nat.beq inf.size 1 then (match ρ x with
       |.pointer p=>ae p λa=>st H a (ρ v) λH'=>K undef H'
       |_=>False) else False)
     |none=>False)
   |none=>False)
 |.alloc t=>(match (P.info? t).bind (·.zero) with
   |some _=>aI H (zc P t) t λa H'=>K (.pointer (some a)) H'
   |none=>False)
 |.box t x=>aI H (ρ x).cells t λa H'=>K (.pointer (some a)) H'
 |.buildSlice t len parts=>(match P.underlying t with
   |some (.slice el)=>(match yD P 5 el with
     |none=>ba ak P (Pj t len (parts.toList.map λq=>(q.1,ρ q.2)).toArray) H λu H'=>K u.v H'
     |some _=>(match Bt P el len (parts.toList.map λq=>(q.1,ρ q.2)) with
       |some cells=>aI H cells el λa H'=>K (.slice (some a) len len) H'
       |none=>False))
   |_=>False)
 |.makeSlice t l c=>ba ak P (Instr.makeSlice t (ρ l) (ρ c)) H λu H'=>K u.v H'
 |.makeMap _ none=>Fc H λr H'=>K (.map (some r)) H'
 |.makeMap t (some r)=>ba bT P (UM t (some (ρ r))) H λu H'=>K (.map u) H'
 |.mapUpdate t m k v=>ji P (P5 t (ρ m) (ρ k) (ρ v)) H λH'=>K undef H'
 |.insert t m k v=>ji P (P5 t (ρ m) (ρ k) (ρ v)) H λH'=>K undef H'
 |.mapEntry t m k=>ba (gU P ty) P (Instr.mapEntry t (ρ m) (ρ k)) H λu H'=>K ((gU P ty).enc u) H'
 |.entryStore t m s v=>ji P (Instr.entryStore t (ρ m) (ρ s) (ρ v)) H λH'=>K undef H'
 |.range t x=>ba av P (Instr.range t (ρ x)) H λu H'=>K (.pointer u) H'
 |.next x b=>ba fV P (Instr.next (ρ x) b ty) H λu H'=>K (.tuple ⟨.bool u.1::u.2⟩) H'
 |.entry x=>ba oy P (Instr.entry (ρ x)) H λu H'=>K (.tuple ⟨[u.1,u.2]⟩) H'
 |.convert src dst x=>ba (gU P dst) P (convert src dst (ρ x)) H λu H'=>K ((gU P dst).enc u) H'
 |.call {callee:=.builtin b,args,argTypes}=>(match b with
   |.append=>ba ak P (N2 argTypes ty (args.toList.map ρ).toArray) H λu H'=>K u.v H'
   |.copy=>ba (ab .i64) P (UN argTypes ty (args.toList.map ρ).toArray) H λu H'=>K (.int .i64 u) H'
   |.delete=>ba gh P (Px argTypes ty (args.toList.map ρ).toArray) H λu H'=>K u H'
   |.clear=>ba gh P (Tg argTypes ty (args.toList.map ρ).toArray) H λu H'=>K u H'
   |_=>False)
 |.call {callee:=.value f,args,..}=>(match ρ f with
   |.func (.func g) first cap=>(bif cO P g then ai (gU P ty) P g ((first.toList++args.toList.map ρ)++cap.toList).toArray H (λu H'=>K ((gU P ty).enc u) H')
     else ba (gU P ty) P (od g ((first.toList++args.toList.map ρ)++cap.toList).toArray) H (λu H'=>K ((gU P ty).enc u) H'))
   |.func (.yield l) first _=>(bif FR P ty then bZ P l (first.toList++args.toList.map ρ).toArray H (λb H'=>K (.bool b) H') else False)
   |.func (.method n) first _=>uW (gU P ty) P n (first.toList++args.toList.map ρ) H (λu H'=>K ((gU P ty).enc u) H')
   |_=>False)
 |.call {callee:=.invoke r n,args,..}=>uW (gU P ty) P n (ρ r::args.toList.map ρ) H (λu H'=>K ((gU P ty).enc u) H')
 |_=>False
theorem cv {P:Program}{s:Sem Value}{w:World}{K:Value->aa->Prop}{M:Option (aa->Prop)}{R:Value->World->Prop}
  (h:Gk P s w.heap K) (a:∀v w',Alike w w'->K v w'.heap->iQ M w'.heap/\R v w'):
  pa P ((do pure (.value (<-s)):Sem Next).run P w) (λv w'=>iQ M w'.heap/\R v w'):=by
 obtain⟨v,w',h1,b,c⟩:=h w rfl;simp only[Ox,h1,Oz,O4,pa];exact a _ _ c b
theorem jI {P:Program}{s:Sem Unit}{w:World}{K:Unit->aa->Prop}{M:Option (aa->Prop)}{R:Value->World->Prop}
  (h:Gk P s w.heap K) (a:∀w',Alike w w'->K () w'.heap->iQ M w'.heap/\R undef w'):
  pa P ((do s;pure .skip:Sem Next).run P w) (λv w'=>iQ M w'.heap/\R v w'):=by
 obtain⟨v,w',h1,b,c⟩:=h w rfl;simp only[Ox,h1,Oz,O4,pa];exact a _ c b
theorem uD {P:Program}(f:lO P){c:eN}{n:String}{l:List Value}{cap:Array Value}{w:World}{K:c.α->aa->Prop}{Q:Value->World->Prop}(h:uW c P n l w.heap K)(i:∀x w',Alike w w'->K x w'.heap->Q (c.enc x) w'):pa P ((invoke (.fn (.method n) cap) l.toArray).run P w) Q:=by
 unfold uW at h;split at h
 ·rename_i t v r;split at h
  ·rename_i g hm;cases a:cO P g with
   |false=>rw[a] at h;exact h.elim
   |true=>
     rw[a] at h;simp only[cond_true] at h;unfold cO at a;split at a
     ·rename_i fn b;obtain⟨body,j⟩:=Qz.1 a;have h1:fn.name≠"runtime.NumGoroutine":=by simpa using f _ _ b
      have d:(invoke (.fn (.method n) cap) (.iface t v::r).toArray).run P w=.ok (.enter g (v::r).toArray) w:=by
       simp[invoke,callMethod,AB hm,callFunc,b,h1,j]
      rw[d];simp only[pa];refine(h w rfl).mono λe w' ⟨v,he,⟨x,k,hk⟩,m⟩=>⟨v,he,?_⟩;subst k;exact i _ _ m hk
     ·cases a
  ·exact h.elim
 ·exact h.elim
theorem vX {P:Program}(C:lO P){o:Oper}{ρ:Operand->Value}{M:Option (aa->Prop)}{w:World}{K:Value->aa->Prop}{R:Value->World->Prop}
  (s:∀v w',Alike w w'->K v w'.heap->iQ M w'.heap/\R v w')
  (h:AE P o.op o.type ρ w.heap K):pa P ((execOp ρ o).run P w) (λv w'=>iQ M w'.heap/\R v w'):=by
 obtain⟨dst,op,type,pos,after,guard⟩:=o;simp only at h;have k:∀{c:eN} {f:c.α->Value},(∀x,f x=c.enc x)->∀v w',Alike w w'->(∃x:c.α,v=c.enc x/\K (f x) w'.heap)->iQ M w'.heap/\R v w':=by
  rintro c f A v w' h1 ⟨x,rfl,m⟩;rw[A] at m;exact s _ _ h1 m
 unfold AE at h;split at h
 ·rename_i t x v;split at h
  ·exact jI h (λw' h1 m=>s _ _ h1 m)
  ·exact jI h (λw' h1 m=>s _ _ h1 m)
  ·rename_i d n1 n2 hu;split at h
   ·rename_i inf hi;cases hs:Nat.beq inf.size 1 with
    |true=>
      rw[hs] at h;simp only[cond_true] at h;split at h
      ·rename_i p L;obtain⟨a,rfl,h1,⟨u,m⟩,N,O⟩:=fm h;have B:w.cell? a=some u:=m;have A:w.frozen? a=false:=N;have D:(ρ v).cells=#[ρ v]:=by
        generalize ρ v=Q at*;cases Q<;>first|rfl|exact Tt h1
       have Y:(ρ v).oneCell'=true:=by
        generalize ρ v=Q at*;cases Q<;>first|rfl|exact Tt h1
       have S:inf.size=1:=Nat.eq_of_beq_eq_true hs;have j:(Og t (ρ x) (ρ v)).run P w=.ok () (w.setCell a (ρ v)):=by
        simp[Og,L,Qd,storeVar,cD hi,S,D,storeCells,Addr.add,run_store P w a (ρ v) .plain Y,B,A]
       simp only[execOp,Ox,j,Oz,O4,pa];exact s _ (w.setCell a (ρ v)) (.of_le rfl (N3 _)) O
      ·exact h.elim
    |false=>rw[hs] at h;exact h.elim
   ·exact h.elim
  ·exact h.elim
 ·rename_i t;split at h
  ·rename_i z J;obtain⟨inf,hi,T⟩:=Option.bind_eq_some_iff.1 J;have e:zc P t=z.cells:=by unfold zc;rw[J]
   have j:(V8 t true (.tuple #[])).run P w=.ok (.pointer (some ⟨w.heap.size,0,none⟩)) {w with heap:=w.heap.push (.cells (zc P t) t)}:=by
    rw[e];simp[V8,zeroValue,typeInfo,hi,T,newVar,newRow]
   simp only[execOp,Ox,j,Oz,O4,pa];exact s _ {w with heap:=w.heap.push (.cells (zc P t) t)} (.of_le rfl (N3 _)) h
  ·exact h.elim
 ·rename_i t x;have j:(Wx t (ρ x)).run P w=.ok (.pointer (some ⟨w.heap.size,0,none⟩)) {w with heap:=w.heap.push (.cells (ρ x).cells t)}:=by
   simp[Wx,newVar,newRow]
  simp only[execOp,Ox,j,Oz,O4,pa];exact s _ {w with heap:=w.heap.push (.cells (ρ x).cells t)} (.of_le rfl (N3 _)) h
 ·rename_i t len parts;split at h
  ·rename_i el hu;split at h
   ·have e:(parts.toList.map λq=>(q.1,ρ q.2)).toArray=parts.map λ(i,x)=>(i,ρ x):=by apply R6;simp
    rw[e] at h;exact cv h (k (λ_=>rfl))
   split at h
   ·rename_i cells y;unfold Bt at y;split at y
    ·rename_i inf hi;split at y
     ·rename_i z J;have j:(Pj t len (parts.map λ(i,x)=>(i,ρ x))).run P w=.ok (.slice (some ⟨w.heap.size,0,none⟩) len len) {w with heap:=w.heap.push (.cells cells el)}:=by
       have hl:(parts.map λ(i,x)=>(i,ρ x)).toList=parts.toList.map λq=>(q.1,ρ q.2):=by simp
       have E:PM 16777216 (len*inf.size)=false:=by
        cases U:PM 16777216 (len*inf.size) with
        |false=>rfl
        |true=>rw[U] at y;cases y
       rw[E] at y;simp only[cond_false] at y;have F:¬(len*inf.size>2^24):=by
        intro h9;have:PM 16777216 (len*inf.size)=true:=Nat.ble_eq_true_of_le (by omega);rw[E] at this;cases this
       have X:∀f:Nat->Value,(VK 0).map f=#[]:=λf=>Array.eq_empty_of_size_eq_zero (by simp);by_cases V:len*inf.size=0
       ·have W:QC (λi=>some (i*inf.size,inf.size)) #[] (parts.toList.map λq=>(q.1,ρ q.2))=some cells:=by
         rw[V,X] at y;exact y
        simp[Pj,aG hu,cD hi,V,X,W,newRow]
       ·simp[Pj,aG hu,cD hi,F,V,zeroValue,typeInfo,hi,J,y,newRow]
      simp only[execOp,Ox,j,Oz,O4,pa];exact s _ {w with heap:=w.heap.push (.cells cells el)} (.of_le rfl (N3 _)) h
     ·cases y
    ·cases y
   ·exact h.elim
  ·exact h.elim
 ·rename_i t l c;exact cv h (k (λ_=>rfl))
 ·rename_i t;have j:(UM t none).run P w=.ok (.map (some w.heap.size)) {w with heap:=w.heap.push (.map #[] 0)}:=by
   simp[UM]
  simp only[execOp,Option.map_none,Ox,j,Oz,O4,pa];exact s _ {w with heap:=w.heap.push (.map #[] 0)} (.of_le rfl (N3 _)) h
 ·exact cv h (k (λ_=>rfl))
 ·exact jI h (λw' h1 m=>s _ _ h1 m)
 ·exact jI h (λw' h1 m=>s _ _ h1 m)
 ·exact cv h (k (λ_=>rfl))
 ·exact jI h (λw' h1 m=>s _ _ h1 m)
 ·exact cv h (k (λ_=>rfl))
 ·exact cv h (k (c:=fV) (λ_=>rfl))
 ·exact cv h (k (c:=oy) (λ_=>rfl))
 ·exact cv h (k (λ_=>rfl))
 ·rename_i b args argTypes;have em:(args.toList.map ρ).toArray=args.map ρ:=by apply R6;simp
  rw[em] at h;split at h
  ·exact cv h (k (λ_=>rfl))
  ·exact cv h (k (λ_=>rfl))
  ·exact cv h (k (c:=gh) (λ_=>rfl))
  ·exact cv h (k (c:=gh) (λ_=>rfl))
  ·exact h.elim
 ·rename_i f args argTypes;split at h
  ·rename_i g first cap A
   cases B:cO P g with
   |true=>
     rw[B] at h;simp only[cond_true] at h;unfold cO at B;split at B
     ·rename_i fn G;obtain⟨body,y⟩:=Qz.1 B;have j:(callFunc g ((first++args.map ρ)++cap)).run P w=.ok (.enter g ((first++args.map ρ)++cap)) w:=by
       have h1:fn.name≠"runtime.NumGoroutine":=by simpa using C _ _ G
       simp[callFunc,G,h1,y]
      have e:((first.toList++args.toList.map ρ)++cap.toList).toArray=(first++args.map ρ)++cap:=by
       apply R6;simp
      rw[e] at h;simp only[execOp,resolve,A,Q6,pure_bind,invoke];rw[j];simp only[pa];refine(h w rfl).mono λe w' ⟨v,he,⟨x,L,hk⟩,H⟩=>⟨v,he,?_⟩;subst L;exact s _ _ H hk
     ·cases B
   |false=>
     rw[B] at h;simp only[cond_false] at h;have e:((first.toList++args.toList.map ρ)++cap.toList).toArray=(first++args.map ρ)++cap:=by
      apply R6;simp
     rw[e] at h;obtain⟨v,w',h1,⟨x,m,N⟩,O⟩:=h w rfl;have Z:=yb h1;simp only[execOp,resolve,A,Q6,pure_bind,invoke];rw[Z];simp only[pa];subst m;exact s _ _ O N
  ·rename_i l first cap A
   cases I:FR P type with
   |false=>rw[I] at h;exact h.elim
   |true=>
   rw[I] at h;simp only[cond_true] at h;have e:(first.toList++args.toList.map ρ).toArray=first++args.map ρ:=by apply R6;simp
   rw[e] at h;simp only[execOp,resolve,A,Q6,pure_bind,invoke];refine gO ?_ (h w rfl);rintro v w' ⟨b,rfl,h1,m⟩;exact s _ _ m h1
  ·rename_i n first cap A
   have e:(first.toList++args.toList.map ρ).toArray=first++args.map ρ:=by apply R6;simp
   simp only[execOp,resolve,A,Q6,pure_bind];rw[<-e];exact uD C h λx w' H hk=>s _ _ H hk
  ·exact h.elim
 ·rename_i r n args argTypes;have e:#[ρ r]++args.map ρ=(ρ r::args.toList.map ρ).toArray:=by apply R6;simp
  simp only[execOp,resolve,pure_bind];rw[e];exact uD C h λx w' H hk=>s _ _ H hk
 ·exact h.elim
end Go.Proofs.YtmkbhnholcaghaaGreatDoor
