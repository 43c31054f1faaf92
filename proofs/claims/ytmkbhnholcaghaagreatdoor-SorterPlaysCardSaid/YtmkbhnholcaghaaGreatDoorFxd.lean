/-
 Ground, fourth text: what reads and effects ask, and that it is enough.
-/
import Derived.Test.YtmkbhnholcaghaaGreatDoorFxc
open Array renaming ext'->Se,range->VS
open Bool renaming noConfusion->TB
open ByteArray renaming empty->Qu
open Go.Builtin renaming append_->Oa,delete_->PF,clear_->To,copy_->UW,len_->V6
open Go.Deferred renaming ofValue->Rg
open Go.Instr renaming storeAt->Ot,buildSlice->Ps,lookup->Px,mapUpdate->Qe,sureAddr->Qm,fill->QL,makeMap->UU,loadAt->U8,alloc->Wg,box->WG
open Go.Made renaming depth->UI
open Go.Result renaming andThen_ok->OH
open Go.Sem renaming run_bind->OF,run_pure->Pc
open List renaming foldl_cons->Q8
open Nat renaming le_refl->Ob,blt->PV
open Option renaming isSome_iff_exists->QI
namespace Go.Proofs.YtmkbhnholcaghaaGreatDoor
def Ia (H:aa)(m:Option Nat)(n:Nat):Prop:=match m with|none=>n=0|some r=>∃es clk,H[r]?=some (.map es clk)/\es.size=n
def AL (H:aa)(m:Option Nat)(K:Nat->Prop):Prop:=∃n,Ia H m n/\K n
def LW (G:aa->Prop)(m:Option Nat)(K:Nat->Prop):Prop:=∃n,(∀H',G H'->Ia H' m n)/\K n
def fH (H:aa)(a:Option Addr)(n:Nat)(s:ByteArray):Prop:=
 match a with
 |none=>s=Qu
 |some ad=>s.size=n/\∀i,i<n->cK H (ad.add i)=some (.int .u8 ((pZ s i).toNat:Int))
def vM (H:aa)(a:Option Addr)(n:Nat)(K:ByteArray->Prop):Prop:=∃s,fH H a n s/\K s
def Lz (G:aa->Prop)(a:Option Addr)(n:Nat)(K:ByteArray->Prop):Prop:=∃s,(∀H',G H'->fH H' a n s)/\K s
def qY (P:Program)(op:Op)(ty:TypeId)(ρ:Operand->Value)(M:Option (aa->Prop))(H:aa)(K:Value->Prop):Prop:=
 match op with
 |.load t x=>(match P.underlying t with
   |some (.struct _)|some (.array _ _)=>(match P.info? t with
     |some inf=>(match ρ x with
       |.pointer p=>ae p λa=>(match M with
         |none=>c8 (kE P t) inf.size H a λu=>K ((kE P t).enc u)
         |some G=>Lb (kE P t) inf.size G a λu=>K ((kE P t).enc u))
       |_=>False)
     |none=>False)
   |some _=>(match ρ x with
     |.pointer p=>ae p λa=>(match M with
       |none=>ld (kE P t) H a λu=>K ((kE P t).enc u)
       |some G=>dw (kE P t) G a λu=>K ((kE P t).enc u))
     |_=>False)
   |none=>False)
 |.call {callee:=.builtin .len,args,argTypes}=>(match (argTypes[0]?),(args[0]?) with
   |some t,some x=>(match P.underlying t with
     |some (.map _ _)=>(match ρ x with
       |.map m=>(match M with
         |none=>AL H m λn=>K (.int .i64 (n:Int))
         |some G=>LW G m λn=>K (.int .i64 (n:Int)))
       |_=>False)
     |_=>False)
   |_,_=>False)
 |.convert src dst x=>(match P.underlying src,P.underlying dst with
   |some (.slice e),some .string=>(match P.underlying e with
     |some (.int .u8)=>(match ρ x with
       |.slice a n _=>(match M with
         |none=>vM H a n λs=>K (.string s)
         |some G=>Lz G a n λs=>K (.string s))
       |_=>False)
     |_=>False)
   |_,_=>False)
 |.lookup t x b ok=>(match M with
   |none=>Dw (gV P ty) P (Px t (ρ x) (ρ b) ok) H λu=>K ((gV P ty).enc u)
   |some G=>LR (gV P ty) P (Px t (ρ x) (ρ b) ok) G λu=>K ((gV P ty).enc u))
 |.binOp op t x y _=>(match M with
   |none=>Dw ay P (do eqGuard op t x y (ρ x) (ρ y);binOp op t (ρ x) (ρ y)) H λu=>K (.bool u)
   |some G=>LR ay P (do eqGuard op t x y (ρ x) (ρ y);binOp op t (ρ x) (ρ y)) G λu=>K (.bool u))
 |_=>False
theorem Dg {P:Program}{w:World}{a:Addr}{n:Nat}{v:Value}(h:lM w.heap a n v):∃cs,v=.agg cs/\(loadCells a n).run P w=.ok cs w:=by
 obtain⟨cs,rfl,hs,c⟩:=h;refine⟨cs,rfl,?_⟩;have:=run_loadCells_list (P:=P) w a cs.toList (λj v b=>by
  have d:j<cs.size:=by
   have:=(List.getElem?_eq_some_iff.1 b).1;simpa using this
  have h1:=c j (by omega);have e:cs[j]?=some v:=by simpa using b
  exact(show w.cell? (a.add j)=cs[j]? from h1).trans e)
 simpa[hs] using this
theorem xt {P:Program}{w:World}{a:Option Addr}{n c:Nat}{s:ByteArray}(h:fH w.heap a n s):(Conv.bytesToString (.slice a n c)).run P w=.ok (.string s) w:=by
 cases a with
 |none=>simp only[fH] at h;subst h;rfl
 |some ad=>
   obtain⟨h1,f⟩:=h;have e:(loadCells ad n).run P w=.ok (((List.range n).map λj=>((pZ s j).toNat:Int)).map (Value.int .u8)).toArray w:=by
    rw[run_loadCells w ad n (λj=>.int .u8 ((pZ s j).toNat:Int)) (λj g=>f j g),List.map_map];rfl
   rw[run_bytesToString w ad n c _ e];congr 2;have key:∀(l:List Nat) (r:ByteArray),(l.map λj=>((pZ s j).toNat:Int)).foldl (λr n=>r.push (UInt8.ofNat n.toNat)) r=l.foldl (λr j=>r.push (pZ s j)) r:=by
    intro l
    induction l with
    |nil=>intro r;rfl
    |cons x l d=>intro r;simp only[List.map_cons,Q8];rw[d];simp
   rw[key];have b:∀(l:List Nat) (r:ByteArray),(l.foldl (λr j=>r.push (pZ s j)) r).data.toList=r.data.toList++l.map (pZ s):=by
    intro l
    induction l with
    |nil=>intro r;simp
    |cons x l d=>intro r;rw[Q8,d];simp[ByteArray.push]
   apply ByteArray.ext;apply Se;rw[b];apply List.ext_getElem?;intro i;have hs:s.data.size=n:=h1;have k:Qu.data.toList=[]:=rfl;rw[k,List.nil_append];by_cases hi:i<n
   ·simp[hi,pZ,hs]
   ·simp[hi,hs]
theorem ju {P:Program}{o:Oper}{ρ:Operand->Value}{M:Option (aa->Prop)}{H:aa}{K:Value->Prop}(h:qY P o.op o.type ρ M H K):
  ∃v,(∀w:World,Mz M H w.heap->(execOp ρ o).run P w=.ok (.value v) w)/\K v:=by
 obtain⟨dst,op,type,pos,after,guard⟩:=o;simp only at h;have one:∀{t:TypeId} {p:Addr} {v:Value} {x:Operand},ρ x=.pointer (some p)->(∃d,P.underlying t=some d/\(∀fs,d≠.struct fs)/\(∀n e,d≠.array n e))->
   ∀w:World,cK w.heap p=some v->(execOp ρ ⟨dst,.load t x,type,pos,after,guard⟩).run P w=.ok (.value v) w:=by
  rintro t p v x f ⟨d,hd,h1,b⟩ w q;have i:w.cell? p=some v:=q;have j:(isAgg t).run P w=.ok false w:=by
   simp only[isAgg,OF,aG hd,OH];cases d<;>first|rfl|exact absurd rfl (h1 _)|exact absurd rfl (b _ _)
  simp[execOp,U8,f,Qm,loadVar,j,i]
 have many:∀{t:TypeId} {p:Addr} {v:Value} {x:Operand} {inf:TypeInfo},ρ x=.pointer (some p)->P.info? t=some inf->(∃d,P.underlying t=some d/\((∃fs,d=.struct fs)\/∃n e,d=.array n e))->
   ∀w:World,lM w.heap p inf.size v->(execOp ρ ⟨dst,.load t x,type,pos,after,guard⟩).run P w=.ok (.value v) w:=by
  rintro t p v x inf f hi ⟨d,hd,h1⟩ w z;obtain⟨cs,rfl,hl⟩:=Dg (P:=P) z;have j:(isAgg t).run P w=.ok true w:=by
   simp only[isAgg,OF,aG hd,OH];rcases h1 with ⟨fs,rfl⟩|⟨n,e,rfl⟩<;>rfl
  simp[execOp,U8,f,Qm,loadVar,j,cE hi,hl]
 unfold qY at h;split at h
 ·rename_i t x;split at h
  ·rename_i fs hu;split at h
   ·rename_i inf hi;split at h
    ·rename_i p f;have hk:=fq h;clear h;obtain⟨a,rfl,h⟩:=hk;cases M with
     |none=>obtain⟨u,h1,b⟩:=h;exact⟨_,λw hw=>many f hi ⟨_,hu,.inl ⟨_,rfl⟩⟩ w (by rw[show w.heap=H from hw];exact h1),b⟩
     |some G=>obtain⟨u,h1,b⟩:=h;exact⟨_,λw hw=>many f hi ⟨_,hu,.inl ⟨_,rfl⟩⟩ w (h1 _ hw),b⟩
    ·exact h.elim
   ·exact h.elim
  ·rename_i n e hu;split at h
   ·rename_i inf hi;split at h
    ·rename_i p f;have hk:=fq h;clear h;obtain⟨a,rfl,h⟩:=hk;cases M with
     |none=>obtain⟨u,h1,b⟩:=h;exact⟨_,λw hw=>many f hi ⟨_,hu,.inr ⟨_,_,rfl⟩⟩ w (by rw[show w.heap=H from hw];exact h1),b⟩
     |some G=>obtain⟨u,h1,b⟩:=h;exact⟨_,λw hw=>many f hi ⟨_,hu,.inr ⟨_,_,rfl⟩⟩ w (h1 _ hw),b⟩
    ·exact h.elim
   ·exact h.elim
  ·rename_i d n1 n2 hu;split at h
   ·rename_i p f;have hk:=fq h;clear h;obtain⟨a,rfl,h⟩:=hk;have hd:∃d,P.underlying t=some d/\(∀fs,d≠.struct fs)/\(∀n e,d≠.array n e):=⟨_,hu,λfs e=>n1 fs e,λn e e2=>n2 n e e2⟩;cases M with
    |none=>obtain⟨u,h1,b⟩:=h;exact⟨_,λw hw=>one f hd w (by rw[show w.heap=H from hw];exact h1),b⟩
    |some G=>obtain⟨u,h1,b⟩:=h;exact⟨_,λw hw=>one f hd w (h1 _ hw),b⟩
   ·exact h.elim
  ·exact h.elim
 ·rename_i args argTypes;split at h
  ·rename_i t x A f;split at h
   ·rename_i k e hu;split at h
    ·rename_i m hm;have run:∀(n:Nat) (w:World),Ia w.heap m n->(execOp ρ ⟨dst,.call ⟨.builtin .len,args,argTypes⟩,type,pos,after,guard⟩).run P w=.ok (.value (.int .i64 (n:Int))) w:=by
      intro n w l;have B:(args.map ρ)[0]?=some (.map m):=by rw[Array.getElem?_map,f,Option.map_some,hm]
      have C:(V6 argTypes type (args.map ρ)).run P w=.ok (goInt n) w:=by
       unfold V6;simp only[A,B];cases m with
       |none=>simp only[Ia] at l;subst l;simp[aG hu]
       |some r=>
         obtain⟨es,clk,h1,b⟩:=l;simp[aG hu,run_getObj_map w r es clk h1,b]
      simp[execOp,resolve,invoke,builtin,C,goInt]
     cases M with
     |none=>obtain⟨n,h1,b⟩:=h;exact⟨_,λw hw=>run n w (by rw[show w.heap=H from hw];exact h1),b⟩
     |some G=>obtain⟨n,h1,b⟩:=h;exact⟨_,λw hw=>run n w (h1 _ hw),b⟩
    ·exact h.elim
   ·exact h.elim
  ·exact h.elim
 ·rename_i src g x;split at h
  ·rename_i e hs hd;split at h
   ·rename_i he;split at h
    ·rename_i a n c f;have run:∀(s:ByteArray) (w:World),fH w.heap a n s->(execOp ρ ⟨dst,.convert src g x,type,pos,after,guard⟩).run P w=.ok (.value (.string s)) w:=by
      intro s w D;simp only[execOp,f,OF,run_convert_bytes_string w src g e a n c hs he hd,xt D];rfl
     cases M with
     |none=>obtain⟨s,h1,b⟩:=h;exact⟨_,λw hw=>run s w (by rw[show w.heap=H from hw];exact h1),b⟩
     |some G=>obtain⟨s,h1,b⟩:=h;exact⟨_,λw hw=>run s w (h1 _ hw),b⟩
    ·exact h.elim
   ·exact h.elim
  ·exact h.elim
 ·rename_i t x E ok;cases M with
  |none=>obtain⟨u,h1,b⟩:=h;exact⟨_,λw hw=>by simp only[execOp,OF,h1 w hw];rfl,b⟩
  |some G=>obtain⟨u,h1,b⟩:=h;exact⟨_,λw hw=>by simp only[execOp,OF,h1 _ hw w rfl];rfl,b⟩
 ·rename_i op t x y F;cases M with
  |none=>
    obtain⟨u,h1,b⟩:=h;refine⟨_,λw hw=>?_,b⟩;have:=h1 w hw;simp only[execOp,OF] at this ⊢;rw[this];rfl
  |some G=>
    obtain⟨u,h1,b⟩:=h;refine⟨_,λw hw=>?_,b⟩;have:=h1 _ hw w rfl;simp only[execOp,OF] at this ⊢;rw[this];rfl
 ·exact h.elim
def cP (P:Program)(f:FuncId):Bool:=match P.funcs[f]? with|some fn=>fn.body.isSome|none=>false
def lQ (P:Program):Prop:=∀(f:FuncId) (fn:Func),P.funcs[f]?=some fn->(fn.name=="runtime.NumGoroutine")=false
def Bw (P:Program)(el:TypeId)(len:Nat)(parts:List (Nat×Value)):Option (Array Value):=
 match P.info? el with
 |some inf=>(match inf.zero with
   |some z=>bif PV 16777216 (len*inf.size) then none else QL (λi=>some (i*inf.size,inf.size)) ((VS (len*inf.size)).map (z.cells[·%z.cells.size]!)) parts
   |none=>none)
 |none=>none
def aI (H:aa)(cells:Array Value)(t:TypeId)(K:Addr->aa->Prop):Prop:=K ⟨H.size,0,none⟩ (H.push (.cells cells t))
def Fi (H:aa)(K:Nat->aa->Prop):Prop:=K H.size (H.push (.map #[] 0))
def bZ (P:Program)(l:Nat)(args:Array Value)(H:aa)(K:Bool->aa->Prop):Prop:=
 ∀w:World,w.heap=H->pd P ((Instr.yield l args).run P w) λv w'=>∃b,v=.bool b/\K b w'.heap/\Alike w w'
theorem bZ.mono {P:Program}{l:Nat}{args:Array Value}{H:aa}{K K':Bool->aa->Prop}(h:bZ P l args H K)(hk:∀b H',K b H'->K' b H'):bZ P l args H K':=
 λw hw=>gP (λ_ _ ⟨b,e,h1,a⟩=>⟨b,e,hk _ _ h1,a⟩) (h w hw)
def FX (P:Program)(t:TypeId):Bool:=match P.underlying t with|some .bool=>true|_=>false
def og (g:FuncId)(args:Array Value):Sem Value:=do match <-callFunc g args with|.value v=>pure v|_=>stuck "a call of a function without a body"
theorem yg {P:Program}{g:FuncId}{args:Array Value}{w w':World}{v:Value}(h:(og g args).run P w=.ok v w'):(callFunc g args).run P w=.ok (.value v) w':=by
 unfold og at h;rw[OF] at h;cases a:(callFunc g args).run P w with
 |halt x b=>rw[a] at h;cases h
 |ok n b=>
   rw[a] at h;simp only[OH] at h;cases n<;>simp only at h<;>first|(rw[Pc] at h;cases h;rfl)|cases h
def zv (P:Program)(t:TypeId)(n:String):Option FuncId:=
 match P.underlying t,P.info? t with
 |some (.pointer _),some inf=>(match inf.methods.find? (·.name==n) with
   |some m=>(match m.path.toList,m.func with|[],some (g,true)=>some g|_,_=>none)
   |none=>none)
 |_,_=>none
def uY (c:eO)(P:Program)(n:String)(l:List Value)(H:aa)(K:c.α->aa->Prop):Prop:=
 match l with
 |.iface t v::r=>(match zv P t n with
   |some g=>(bif cP P g then ai c P g (v::r).toArray H K else False)
   |none=>False)
 |_=>False
theorem AG {P:Program}{t:TypeId}{n:String}{g:FuncId}(h:zv P t n=some g)(v:Value)(w:World):(method (P.types.size+UI) t v n).run P w=.ok (g,v) w:=by
 unfold zv at h;split at h
 ·rename_i el inf hu hi;split at h
  ·rename_i m hm;split at h
   ·rename_i a b;cases h;have e:P.types.size+UI=(P.types.size+UI - 1)+1:=by
     have:0<UI:=by decide
     omega
    rw[e];unfold method;simp[typeInfo,hi,hm,a,b,follow,receiverAt,aG hu,Place.get]
   ·cases h
  ·cases h
 ·cases h
def MO (c:eO)(P:Program)(f:Value)(args:List Value)(H:aa)(K:c.α->aa->Prop):Prop:=
 match f with
 |.func (.func g) first cap=>(bif cP P g then ai c P g ((first.toList++args)++cap.toList).toArray H K
   else ba c P (og g ((first.toList++args)++cap.toList).toArray) H K)
 |.func (.yield _) _ _=>False
 |.func (.method n) first _=>uY c P n (first.toList++args) H K
 |_=>False
def yv (P:Program)(f:Value)(args:List Value)(H:aa)(K:Bool->aa->Prop):Prop:=
 match f with
 |.func (.func g) first cap=>(bif cP P g then ai ay P g ((first.toList++args)++cap.toList).toArray H K
   else ba ay P (og g ((first.toList++args)++cap.toList).toArray) H K)
 |.func (.yield l) first _=>bZ P l (first.toList++args).toArray H K
 |.func (.method n) first _=>uY ay P n (first.toList++args) H K
 |_=>False
def AI (P:Program)(op:Op)(ty:TypeId)(ρ:Operand->Value)(H:aa)(K:Value->aa->Prop):Prop:=
 match op with
 |.store t x v=>(match P.underlying t with
   |some (.struct _)|some (.array _ _)=>jk P (Ot t (ρ x) (ρ v)) H λH'=>K undef H'
   |some _=>(match P.info? t with
     |some inf=>(bif Nat.beq inf.size 1 then (match ρ x with
       |.pointer p=>ae p λa=>st H a (ρ v) λH'=>K undef H'
       |_=>False) else False)
     |none=>False)
   |none=>False)
 |.alloc t=>(match (P.info? t).bind (·.zero) with
   |some _=>aI H (zc P t) t λa H'=>K (.pointer (some a)) H'
   |none=>False)
 |.box t x=>aI H (ρ x).cells t λa H'=>K (.pointer (some a)) H'
 |.buildSlice t len parts=>(match P.underlying t with
   |some (.slice el)=>(match yH P 5 el with
     |none=>ba ak P (Ps t len (parts.toList.map λq=>(q.1,ρ q.2)).toArray) H λu H'=>K u.v H'
     |some _=>(match Bw P el len (parts.toList.map λq=>(q.1,ρ q.2)) with
       |some cells=>aI H cells el λa H'=>K (.slice (some a) len len) H'
       |none=>False))
   |_=>False)
 |.makeSlice t l c=>ba ak P (Instr.makeSlice t (ρ l) (ρ c)) H λu H'=>K u.v H'
 |.makeMap _ none=>Fi H λr H'=>K (.map (some r)) H'
 |.makeMap t (some r)=>ba bT P (UU t (some (ρ r))) H λu H'=>K (.map u) H'
 |.mapUpdate t m k v=>jk P (Qe t (ρ m) (ρ k) (ρ v)) H λH'=>K undef H'
 |.insert t m k v=>jk P (Qe t (ρ m) (ρ k) (ρ v)) H λH'=>K undef H'
 |.mapEntry t m k=>ba (gV P ty) P (Instr.mapEntry t (ρ m) (ρ k)) H λu H'=>K ((gV P ty).enc u) H'
 |.entryStore t m s v=>jk P (Instr.entryStore t (ρ m) (ρ s) (ρ v)) H λH'=>K undef H'
 |.range t x=>ba av P (Instr.range t (ρ x)) H λu H'=>K (.pointer u) H'
 |.next x b=>ba fW P (Instr.next (ρ x) b ty) H λu H'=>K (.tuple ⟨.bool u.1::u.2⟩) H'
 |.entry x=>ba oH P (Instr.entry (ρ x)) H λu H'=>K (.tuple ⟨[u.1,u.2]⟩) H'
 |.convert src dst x=>ba (gV P dst) P (convert src dst (ρ x)) H λu H'=>K ((gV P dst).enc u) H'
 |.call {callee:=.builtin b,args,argTypes}=>(match b with
   |.append=>ba ak P (Oa argTypes ty (args.toList.map ρ).toArray) H λu H'=>K u.v H'
   |.copy=>ba (ab .i64) P (UW argTypes ty (args.toList.map ρ).toArray) H λu H'=>K (.int .i64 u) H'
   |.delete=>ba gi P (PF argTypes ty (args.toList.map ρ).toArray) H λu H'=>K u H'
   |.clear=>ba gi P (To argTypes ty (args.toList.map ρ).toArray) H λu H'=>K u H'
   |_=>False)
 |.call {callee:=.value f,args,..}=>(match ρ f with
   |.func (.func g) first cap=>(bif cP P g then ai (gV P ty) P g ((first.toList++args.toList.map ρ)++cap.toList).toArray H (λu H'=>K ((gV P ty).enc u) H')
     else ba (gV P ty) P (og g ((first.toList++args.toList.map ρ)++cap.toList).toArray) H (λu H'=>K ((gV P ty).enc u) H'))
   |.func (.yield l) first _=>(bif FX P ty then bZ P l (first.toList++args.toList.map ρ).toArray H (λb H'=>K (.bool b) H') else False)
   |.func (.method n) first _=>uY (gV P ty) P n (first.toList++args.toList.map ρ) H (λu H'=>K ((gV P ty).enc u) H')
   |_=>False)
 |.call {callee:=.invoke r n,args,..}=>uY (gV P ty) P n (ρ r::args.toList.map ρ) H (λu H'=>K ((gV P ty).enc u) H')
 |_=>False
theorem cw {P:Program}{s:Sem Value}{w:World}{K:Value->aa->Prop}{M:Option (aa->Prop)}{R:Value->World->Prop}
  (h:Gs P s w.heap K) (a:∀v w',Alike w w'->K v w'.heap->iS M w'.heap/\R v w'):
  pd P ((do pure (.value (<-s)):Sem Next).run P w) (λv w'=>iS M w'.heap/\R v w'):=by
 obtain⟨v,w',h1,b,c⟩:=h w rfl;simp only[OF,h1,OH,Pc,pd];exact a _ _ c b
theorem jK {P:Program}{s:Sem Unit}{w:World}{K:Unit->aa->Prop}{M:Option (aa->Prop)}{R:Value->World->Prop}
  (h:Gs P s w.heap K) (a:∀w',Alike w w'->K () w'.heap->iS M w'.heap/\R undef w'):
  pd P ((do s;pure .skip:Sem Next).run P w) (λv w'=>iS M w'.heap/\R v w'):=by
 obtain⟨v,w',h1,b,c⟩:=h w rfl;simp only[OF,h1,OH,Pc,pd];exact a _ c b
theorem uF {P:Program}(f:lQ P){c:eO}{n:String}{l:List Value}{cap:Array Value}{w:World}{K:c.α->aa->Prop}{Q:Value->World->Prop}(h:uY c P n l w.heap K)(i:∀x w',Alike w w'->K x w'.heap->Q (c.enc x) w'):pd P ((invoke (.fn (.method n) cap) l.toArray).run P w) Q:=by
 unfold uY at h;split at h
 ·rename_i t v r;split at h
  ·rename_i g hm;cases a:cP P g with
   |false=>rw[a] at h;exact h.elim
   |true=>
     rw[a] at h;simp only[cond_true] at h;unfold cP at a;split at a
     ·rename_i fn b;obtain⟨body,j⟩:=QI.1 a;have h1:fn.name≠"runtime.NumGoroutine":=by simpa using f _ _ b
      have d:(invoke (.fn (.method n) cap) (.iface t v::r).toArray).run P w=.ok (.enter g (v::r).toArray) w:=by
       simp[invoke,callMethod,AG hm,callFunc,b,h1,j]
      rw[d];simp only[pd];refine(h w rfl).mono λe w' ⟨v,he,⟨x,k,hk⟩,m⟩=>⟨v,he,?_⟩;subst k;exact i _ _ m hk
     ·cases a
  ·exact h.elim
 ·exact h.elim
theorem wa {P:Program}(C:lQ P){o:Oper}{ρ:Operand->Value}{M:Option (aa->Prop)}{w:World}{K:Value->aa->Prop}{R:Value->World->Prop}
  (s:∀v w',Alike w w'->K v w'.heap->iS M w'.heap/\R v w')
  (h:AI P o.op o.type ρ w.heap K):pd P ((execOp ρ o).run P w) (λv w'=>iS M w'.heap/\R v w'):=by
 obtain⟨dst,op,type,pos,after,guard⟩:=o;simp only at h;have k:∀{c:eO} {f:c.α->Value},(∀x,f x=c.enc x)->∀v w',Alike w w'->(∃x:c.α,v=c.enc x/\K (f x) w'.heap)->iS M w'.heap/\R v w':=by
  rintro c f A v w' h1 ⟨x,rfl,m⟩;rw[A] at m;exact s _ _ h1 m
 unfold AI at h;split at h
 ·rename_i t x v;split at h
  ·exact jK h (λw' h1 m=>s _ _ h1 m)
  ·exact jK h (λw' h1 m=>s _ _ h1 m)
  ·rename_i d n1 n2 hu;split at h
   ·rename_i inf hi;cases hs:Nat.beq inf.size 1 with
    |true=>
      rw[hs] at h;simp only[cond_true] at h;split at h
      ·rename_i p L;obtain⟨a,rfl,h1,⟨u,m⟩,N,O⟩:=fq h;have B:w.cell? a=some u:=m;have A:w.frozen? a=false:=N;have D:(ρ v).cells=#[ρ v]:=by
        generalize ρ v=Q at*;cases Q<;>first|rfl|exact TB h1
       have Y:(ρ v).oneCell'=true:=by
        generalize ρ v=Q at*;cases Q<;>first|rfl|exact TB h1
       have S:inf.size=1:=Nat.eq_of_beq_eq_true hs;have j:(Ot t (ρ x) (ρ v)).run P w=.ok () (w.setCell a (ρ v)):=by
        simp[Ot,L,Qm,storeVar,cE hi,S,D,storeCells,Addr.add,run_store P w a (ρ v) .plain Y,B,A]
       simp only[execOp,OF,j,OH,Pc,pd];exact s _ (w.setCell a (ρ v)) (.of_le rfl (Ob _)) O
      ·exact h.elim
    |false=>rw[hs] at h;exact h.elim
   ·exact h.elim
  ·exact h.elim
 ·rename_i t;split at h
  ·rename_i z J;obtain⟨inf,hi,T⟩:=Option.bind_eq_some_iff.1 J;have e:zc P t=z.cells:=by unfold zc;rw[J]
   have j:(Wg t true (.tuple #[])).run P w=.ok (.pointer (some ⟨w.heap.size,0,none⟩)) {w with heap:=w.heap.push (.cells (zc P t) t)}:=by
    rw[e];simp[Wg,zeroValue,typeInfo,hi,T,newVar,newRow]
   simp only[execOp,OF,j,OH,Pc,pd];exact s _ {w with heap:=w.heap.push (.cells (zc P t) t)} (.of_le rfl (Ob _)) h
  ·exact h.elim
 ·rename_i t x;have j:(WG t (ρ x)).run P w=.ok (.pointer (some ⟨w.heap.size,0,none⟩)) {w with heap:=w.heap.push (.cells (ρ x).cells t)}:=by
   simp[WG,newVar,newRow]
  simp only[execOp,OF,j,OH,Pc,pd];exact s _ {w with heap:=w.heap.push (.cells (ρ x).cells t)} (.of_le rfl (Ob _)) h
 ·rename_i t len parts;split at h
  ·rename_i el hu;split at h
   ·have e:(parts.toList.map λq=>(q.1,ρ q.2)).toArray=parts.map λ(i,x)=>(i,ρ x):=by apply Se;simp
    rw[e] at h;exact cw h (k (λ_=>rfl))
   split at h
   ·rename_i cells y;unfold Bw at y;split at y
    ·rename_i inf hi;split at y
     ·rename_i z J;have j:(Ps t len (parts.map λ(i,x)=>(i,ρ x))).run P w=.ok (.slice (some ⟨w.heap.size,0,none⟩) len len) {w with heap:=w.heap.push (.cells cells el)}:=by
       have hl:(parts.map λ(i,x)=>(i,ρ x)).toList=parts.toList.map λq=>(q.1,ρ q.2):=by simp
       have E:PV 16777216 (len*inf.size)=false:=by
        cases U:PV 16777216 (len*inf.size) with
        |false=>rfl
        |true=>rw[U] at y;cases y
       rw[E] at y;simp only[cond_false] at y;have F:¬(len*inf.size>2^24):=by
        intro h9;have:PV 16777216 (len*inf.size)=true:=Nat.ble_eq_true_of_le (by omega);rw[E] at this;cases this
       have X:∀f:Nat->Value,(VS 0).map f=#[]:=λf=>Array.eq_empty_of_size_eq_zero (by simp);by_cases V:len*inf.size=0
       ·have W:QL (λi=>some (i*inf.size,inf.size)) #[] (parts.toList.map λq=>(q.1,ρ q.2))=some cells:=by
         rw[V,X] at y;exact y
        simp[Ps,aG hu,cE hi,V,X,W,newRow]
       ·simp[Ps,aG hu,cE hi,F,V,zeroValue,typeInfo,hi,J,y,newRow]
      simp only[execOp,OF,j,OH,Pc,pd];exact s _ {w with heap:=w.heap.push (.cells cells el)} (.of_le rfl (Ob _)) h
     ·cases y
    ·cases y
   ·exact h.elim
  ·exact h.elim
 ·rename_i t l c;exact cw h (k (λ_=>rfl))
 ·rename_i t;have j:(UU t none).run P w=.ok (.map (some w.heap.size)) {w with heap:=w.heap.push (.map #[] 0)}:=by
   simp[UU]
  simp only[execOp,Option.map_none,OF,j,OH,Pc,pd];exact s _ {w with heap:=w.heap.push (.map #[] 0)} (.of_le rfl (Ob _)) h
 ·exact cw h (k (λ_=>rfl))
 ·exact jK h (λw' h1 m=>s _ _ h1 m)
 ·exact jK h (λw' h1 m=>s _ _ h1 m)
 ·exact cw h (k (λ_=>rfl))
 ·exact jK h (λw' h1 m=>s _ _ h1 m)
 ·exact cw h (k (λ_=>rfl))
 ·exact cw h (k (c:=fW) (λ_=>rfl))
 ·exact cw h (k (c:=oH) (λ_=>rfl))
 ·exact cw h (k (λ_=>rfl))
 ·rename_i b args argTypes;have em:(args.toList.map ρ).toArray=args.map ρ:=by apply Se;simp
  rw[em] at h;split at h
  ·exact cw h (k (λ_=>rfl))
  ·exact cw h (k (λ_=>rfl))
  ·exact cw h (k (c:=gi) (λ_=>rfl))
  ·exact cw h (k (c:=gi) (λ_=>rfl))
  ·exact h.elim
 ·rename_i f args argTypes;split at h
  ·rename_i g first cap A
   cases B:cP P g with
   |true=>
     rw[B] at h;simp only[cond_true] at h;unfold cP at B;split at B
     ·rename_i fn G;obtain⟨body,y⟩:=QI.1 B;have j:(callFunc g ((first++args.map ρ)++cap)).run P w=.ok (.enter g ((first++args.map ρ)++cap)) w:=by
       have h1:fn.name≠"runtime.NumGoroutine":=by simpa using C _ _ G
       simp[callFunc,G,h1,y]
      have e:((first.toList++args.toList.map ρ)++cap.toList).toArray=(first++args.map ρ)++cap:=by
       apply Se;simp
      rw[e] at h;simp only[execOp,resolve,A,Rg,pure_bind,invoke];rw[j];simp only[pd];refine(h w rfl).mono λe w' ⟨v,he,⟨x,L,hk⟩,H⟩=>⟨v,he,?_⟩;subst L;exact s _ _ H hk
     ·cases B
   |false=>
     rw[B] at h;simp only[cond_false] at h;have e:((first.toList++args.toList.map ρ)++cap.toList).toArray=(first++args.map ρ)++cap:=by
      apply Se;simp
     rw[e] at h;obtain⟨v,w',h1,⟨x,m,N⟩,O⟩:=h w rfl;have Z:=yg h1;simp only[execOp,resolve,A,Rg,pure_bind,invoke];rw[Z];simp only[pd];subst m;exact s _ _ O N
  ·rename_i l first cap A
   cases I:FX P type with
   |false=>rw[I] at h;exact h.elim
   |true=>
   rw[I] at h;simp only[cond_true] at h;have e:(first.toList++args.toList.map ρ).toArray=first++args.map ρ:=by apply Se;simp
   rw[e] at h;simp only[execOp,resolve,A,Rg,pure_bind,invoke];refine gP ?_ (h w rfl);rintro v w' ⟨b,rfl,h1,m⟩;exact s _ _ m h1
  ·rename_i n first cap A
   have e:(first.toList++args.toList.map ρ).toArray=first++args.map ρ:=by apply Se;simp
   simp only[execOp,resolve,A,Rg,pure_bind];rw[<-e];exact uF C h λx w' H hk=>s _ _ H hk
  ·exact h.elim
 ·rename_i r n args argTypes;have e:#[ρ r]++args.map ρ=(ρ r::args.toList.map ρ).toArray:=by apply Se;simp
  simp only[execOp,resolve,pure_bind];rw[e];exact uF C h λx w' H hk=>s _ _ H hk
 ·exact h.elim
end Go.Proofs.YtmkbhnholcaghaaGreatDoor
