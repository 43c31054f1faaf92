/-
 Ground, second text: values as typed things, frames as lists of known slots, and what a walk of one operation asks.
-/
import Derived.Test.YtkehfflpbpdokaaGreatDoorFxa
import Derived.WalkKit
open BitVec renaming ofInt->R9
open Option.some renaming inj->Qq,injEq->Rv
namespace Go.Proofs.YtkehfflpbpdokaaGreatDoor
structure Sl where
 a:Option Addr
 n:Nat
 c:Nat
@[reducible] def Sl.v (s:Sl):Value:=.slice s.a s.n s.c
structure gz where
 α:Type
 enc:α->Value
 dec:Value->Option α
 ok:∀v x,dec v=some x->v=enc x
@[reducible] def ai (k:IntKind):gz where
  α:=Int
  enc:=λn=>.int k n
  dec:=λv=>match v with|.int a n=>(bif a==k then some n else none)|_=>none
  ok:=by
   intro v x h;cases v<;>simp only[reduceCtorEq] at h;rename_i a n;by_cases e:a=k
   ·subst e;simp at h;rw[h]
   ·have:(a==k)=false:=by simpa using e
    rw[this] at h;cases h
@[reducible] def aC:gz where
  α:=Bool
  enc:=λb=>.bool b
  dec:=λv=>match v with|.bool b=>some b|_=>none
  ok:=by intro v x h;cases v<;>simp only[reduceCtorEq,Rv] at h;rw[h]
@[reducible] def dN:gz where
  α:=ByteArray
  enc:=λs=>.string s
  dec:=λv=>match v with|.string s=>some s|_=>none
  ok:=by intro v x h;cases v<;>simp only[reduceCtorEq,Rv] at h;rw[h]
@[reducible] def au:gz where
  α:=Sl
  enc:=λs=>.slice s.a s.n s.c
  dec:=λv=>match v with|.slice a n c=>some ⟨a,n,c⟩|_=>none
  ok:=by intro v x h;cases v<;>simp only[reduceCtorEq,Rv] at h;rw[<-h]
@[reducible] def aq:gz where
  α:=Option Addr
  enc:=λp=>.pointer p
  dec:=λv=>match v with|.pointer p=>some p|_=>none
  ok:=by intro v x h;cases v<;>simp only[reduceCtorEq,Rv] at h;rw[h]
@[reducible] def dB:gz where
  α:=Option Nat
  enc:=λp=>.map p
  dec:=λv=>match v with|.map p=>some p|_=>none
  ok:=by intro v x h;cases v<;>simp only[reduceCtorEq,Rv] at h;rw[h]
@[reducible] def jF:gz where
  α:=Value
  enc:=λv=>v
  dec:=λv=>some v
  ok:=by intro v x h;exact Qq h
@[reducible] def OO:gz where
  α:=Fn×Array Value×Array Value
  enc:=λq=>.func q.1 q.2.1 q.2.2
  dec:=λv=>match v with|.func f i c=>some (f,i,c)|_=>none
  ok:=by intro v x h;cases v<;>simp only[reduceCtorEq,Rv] at h;rw[<-h]
@[reducible] def rU:gz where
  α:=Array Value
  enc:=λp=>.agg p
  dec:=λv=>match v with|.agg p=>some p|_=>none
  ok:=by intro v x h;cases v<;>simp only[reduceCtorEq,Rv] at h;rw[h]
@[reducible] def dD.α:List gz->Type
  |[]=>Unit
  |[c]=>c.α
  |c::d::r=>c.α×dD.α (d::r)
@[reducible] def dD.enc:(l:List gz)->dD.α l->List Value
  |[],_=>[]
  |[c],x=>[c.enc x]
  |c::d::r,x=>c.enc x.1::dD.enc (d::r) x.2
@[reducible] def dD.dec:(l:List gz)->List Value->Option (dD.α l)
  |[],vs=>match vs with|[]=>some ()|_=>none
  |[c],vs=>match vs with|[v]=>c.dec v|_=>none
  |c::d::r,vs=>match vs with
    |v::vs=>(match c.dec v with
      |some x=>(match dD.dec (d::r) vs with|some y=>some (x,y)|none=>none)
      |none=>none)
    |[]=>none
theorem dD.ok:∀(l:List gz) (vs:List Value) (x:dD.α l),dD.dec l vs=some x->vs=dD.enc l x
 |[],vs,x,h=>by
   unfold dD.dec at h;cases vs with
   |nil=>rfl
   |cons v r=>cases h
 |[c],vs,x,h=>by
   unfold dD.dec at h
   match vs,h with
   |[v],h=>exact congrArg (λu=>[u]) (c.ok v x h)
 |c::d::r,vs,x,h=>by
   unfold dD.dec at h
   match vs,h with
   |v::vs,h=>
     revert h;simp only;split
     ·rename_i a f;split
      ·rename_i b g;intro h;have e:(a,b)=x:=Qq h;subst e;have i:=c.ok v a f;have e2:=dD.ok (d::r) vs b g;show v::vs=c.enc a::dD.enc (d::r) b;rw[<-i,<-e2]
      ·intro h;cases h
     ·intro h;cases h
@[reducible] def bf (l:List gz):gz where
  α:=dD.α l
  enc:=λx=>.tuple ⟨dD.enc l x⟩
  dec:=λv=>match v with|.tuple vs=>dD.dec l vs.toList|_=>none
  ok:=by
   intro v x h;cases v<;>simp only[reduceCtorEq] at h;rename_i vs;have:=dD.ok l vs.toList x h;rw[<-this]
@[reducible] def iD (l:List gz):gz where
  α:=dD.α l
  enc:=λx=>.agg ⟨dD.enc l x⟩
  dec:=λv=>match v with|.agg vs=>dD.dec l vs.toList|_=>none
  ok:=by
   intro v x h;cases v<;>simp only[reduceCtorEq] at h;rename_i vs;have:=dD.ok l vs.toList x h;rw[<-this]
@[reducible] def pG:gz where
  α:=Bool×List Value
  enc:=λx=>.tuple ⟨.bool x.1::x.2⟩
  dec:=λv=>match v with|.tuple vs=>(match vs.toList with|.bool b::l=>some (b,l)|_=>none)|_=>none
  ok:=by
   intro v x h;cases v<;>simp only[reduceCtorEq] at h;rename_i vs;split at h
   ·rename_i b l a;have e:(b,l)=x:=Qq h;subst e;simp only;rw[<-a]
   ·cases h
@[reducible] def Bo:gz where
  α:=Value×Value
  enc:=λx=>.tuple ⟨[x.1,x.2]⟩
  dec:=λv=>match v with|.tuple vs=>(match vs.toList with|[k,u]=>some (k,u)|_=>none)|_=>none
  ok:=by
   intro v x h;cases v<;>simp only[reduceCtorEq] at h;rename_i vs;split at h
   ·rename_i k u a;have e:(k,u)=x:=Qq h;subst e;simp only;rw[<-a]
   ·cases h
def Ax (P:Program):Nat->TypeId->Option (List gz)
 |0,_=>none
 |n+1,t=>
   match P.underlying t with
   |some .bool=>some [aC]
   |some (.int k)=>some [ai k]
   |some .string=>some [dN]
   |some (.slice _)=>some [au]
   |some (.pointer _)=>some [aq]
   |some (.map _ _)=>some [dB]
   |some (.struct fs)=>fs.toList.foldr (λf acc=>match Ax P n f.type,acc with|some x,some y=>some (x++y)|_,_=>none) (some [])
   |some (.func _ _ _)=>some [jF]
   |some (.interface _)=>some [jF]
   |_=>none
def lg (P:Program)(t:TypeId):gz:=
 match P.underlying t with
 |some .bool=>aC
 |some (.int k)=>ai k
 |some .string=>dN
 |some (.slice _)=>au
 |some (.pointer _)=>aq
 |some (.map _ _)=>dB
 |some (.struct _)=>(match Ax P 5 t with|some l=>iD l|none=>rU)
 |some (.array _ _)=>rU
 |_=>jF
def iT (P:Program)(t:TypeId):gz:=
 match P.underlying t with
 |some (.tuple ts)=>bf (ts.toList.map (lg P))
 |some (.func _ rs _)=>(match rs.toList with|[]=>jF|_::_=>OO)
 |_=>lg P t
def ah {α:Type}(p:Option α)(K:α->Prop):Prop:=match p with|some a=>K a|none=>False
def br (b:Bool)(A B:Prop):Prop:=match b with|true=>A|false=>B
theorem gu {α:Type}{p:Option α}{K:α->Prop}(h:ah p K):∃a,p=some a/\K a:=by
 cases p with
 |none=>exact h.elim
 |some a=>exact⟨a,rfl,h⟩
theorem aY {α:Type}{p:Option α}{K:α->Prop}(a:α)(e:p=some a)(h:K a):ah p K:=by subst e;exact h
theorem FV {b:Bool}{A B:Prop}:br b A B↔(b=true->A)/\(b=false->B):=by cases b<;>simp[br]
theorem ao {b:Bool}{A B:Prop}(h1:b=true->A)(a:b=false->B):br b A B:=FV.2 ⟨h1,a⟩
def zM (k:IntKind)(a b:Int):Int:=k.wrap ((R9 k.bits a&&&R9 k.bits b).toNat)
def nL (k:IntKind)(a b:Int):Int:=k.wrap ((R9 k.bits a|||R9 k.bits b).toNat)
def lT (k:IntKind)(a b:Int):Int:=k.wrap ((R9 k.bits a^^^R9 k.bits b).toNat)
def eZ (k:IntKind)(a y:Int):Int:=k.wrap (a*2^(min y.toNat k.bits))
def bm (k:IntKind)(a y:Int):Int:=a.fdiv (2^(min y.toNat k.bits))
def cZ (s:ByteArray)(i:Nat):UInt8:=s.data.getD i 0
def An (c:gz)(P:Program)(s:Sem Value)(K:c.α->Prop):Prop:=∃y:c.α,(∀w:World,s.run P w=.ok (c.enc y) w)/\K y
def Ot (c:gz)(u:Value)(K:c.α->Prop):Prop:=∃y:c.α,u=c.enc y/\K y
def ld (c:gz)(H:aa)(a:Addr)(K:c.α->Prop):Prop:=∃x:c.α,cg H a=some (c.enc x)/\K x
def bW (c:gz)(G:aa->Prop)(a:Addr)(K:c.α->Prop):Prop:=∃x:c.α,(∀H',G H'->cg H' a=some (c.enc x))/\K x
def nJ (H:aa)(a:Addr)(n:Nat)(v:Value):Prop:=∃cs:Array Value,v=.agg cs/\cs.size=n/\∀i,i<n->cg H (a.add i)=cs[i]?
def kN (c:gz)(n:Nat)(H:aa)(a:Addr)(K:c.α->Prop):Prop:=∃x:c.α,nJ H a n (c.enc x)/\K x
def N9 (c:gz)(n:Nat)(G:aa->Prop)(a:Addr)(K:c.α->Prop):Prop:=∃x:c.α,(∀H',G H'->nJ H' a n (c.enc x))/\K x
def Nv (P:Program)(s:Sem Value)(H:aa)(v:Value):Prop:=∀w:World,w.heap=H->s.run P w=.ok v w
def EW (c:gz)(P:Program)(s:Sem Value)(H:aa)(K:c.α->Prop):Prop:=∃x:c.α,Nv P s H (c.enc x)/\K x
def NN (c:gz)(P:Program)(s:Sem Value)(G:aa->Prop)(K:c.α->Prop):Prop:=∃x:c.α,(∀H',G H'->Nv P s H' (c.enc x))/\K x
def st (H:aa)(a:Addr)(v:Value)(K:aa->Prop):Prop:=mU v=true/\(∃u,cg H a=some u)/\pN H a=false/\K (yA H a v)
def Fs {α:Type}(P:Program)(s:Sem α)(H:aa)(K:α->aa->Prop):Prop:=∀w:World,w.heap=H->∃v w',s.run P w=.ok v w'/\K v w'.heap/\Alike w w'
def bI (c:gz)(P:Program)(s:Sem Value)(H:aa)(K:c.α->aa->Prop):Prop:=Fs P s H λv H'=>∃x:c.α,v=c.enc x/\K x H'
def xJ (P:Program)(s:Sem Unit)(H:aa)(K:aa->Prop):Prop:=Fs P s H λ_ H'=>K H'
theorem yY {α:Type}{P:Program}{s:Sem α}{H:aa}{K:α->aa->Prop}(h:wpS P s H K):Fs P s H K:=λw hw=>by subst hw;exact KP s h
def zc (P:Program)(t:TypeId):Array Value:=match (P.info? t).bind (·.zero) with|some z=>z.cells|none=>#[]
def Spec (P:Program)(f:FuncId)(args:Array Value)(H:aa)(R:Value->aa->Prop):Prop:=
 ∀w:World,w.heap=H->Calls P f args w λe w'=>∃v,e=.returned v/\R v w'.heap/\Alike w w'
def an (c:gz)(P:Program)(f:FuncId)(args:Array Value)(H:aa)(R:c.α->aa->Prop):Prop:=
 Spec P f args H λv H'=>∃x:c.α,v=c.enc x/\R x H'
theorem Spec.mono {P:Program}{f:FuncId}{args:Array Value}{H:aa}{R R':Value->aa->Prop}(h:Spec P f args H R)(hr:∀v H',R v H'->R' v H'):Spec P f args H R':=
 λw hw=>(h w hw).mono λ_ _ ⟨v,he,h1,a⟩=>⟨v,he,hr _ _ h1,a⟩
def zO {α:Type}(P:Program):Sem α->Option α
 |.pure a=>some a
 |.program k=>zO P (k P)
 |.mark _ k=>zO P k
 |_=>none
theorem De {α:Type}{P:Program}(s:Sem α):∀{v:α},zO P s=some v->∀w:World,s.run P w=.ok v w:=by
 induction s with
 |pure a=>intro v h w;simp only[zO,Rv] at h;subst h;rfl
 |program k b=>intro v h w;exact b P h w
 |mark m k b=>intro v h w;exact b h w
 |_=>intro v h;cases h
def pj:Operand->Bool
 |.const (.int _ (.ofNat (_+1)))=>true
 |.const (.int _ (.negSucc _))=>true
 |_=>false
def rP:Operand->Bool
 |.const (.int _ (.ofNat _))=>true
 |_=>false
def CD (P:Program):Op->Bool
 |.move _=>true|.assign _=>true
 |.unOp ..=>true|.fieldAddr ..=>true|.extract ..=>true
 |.makeFunc ..=>true|.makeInterface ..=>true
 |.field t _ _=>(Ax P 5 t).isSome
 |.build t _=>(match P.underlying t with|some (.struct _)=>(Ax P 5 t).isSome|_=>true)
 |.binOp op t _ y _=>
   match P.underlying t with
   |some (.int _)=>(match op with
     |.quo=>pj y|.rem=>pj y|.shl=>rP y|.shr=>rP y
     |_=>true)
   |some .string=>(match op with|.add=>false|_=>true)
   |some .bool=>true
   |_=>false
 |.convert src dst _=>
   match P.underlying src,P.underlying dst with
   |some (.int _),some (.int _)=>true
   |some .string,some .string=>true
   |_,_=>false
 |.call {callee:=.builtin .len,argTypes,..}=>
   match (argTypes[0]?).bind P.underlying with
   |some (.map _ _)=>false
   |_=>true
 |.call {callee:=.builtin .cap,..}=>true
 |.call {callee:=.builtin .min,..}=>true
 |.call {callee:=.builtin .max,..}=>true
 |_=>false
def evalOp (P:Program)(o:Oper)(ρ:Operand->Value):Option Value:=
 match zO P (execOp ρ o) with
 |some (.value v)=>some v
 |_=>none
theorem BF {P:Program}{o:Oper}{ρ:Operand->Value}{v:Value}(h:evalOp P o ρ=some v)(w:World):(execOp ρ o).run P w=.ok (.value v) w:=by
 unfold evalOp at h;split at h
 ·rename_i u hu;rw[De _ hu w];rw[Qq h]
 ·cases h
end Go.Proofs.YtkehfflpbpdokaaGreatDoor
