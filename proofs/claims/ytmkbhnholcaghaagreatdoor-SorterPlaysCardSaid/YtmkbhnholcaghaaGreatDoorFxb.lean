/-
 Ground, second text: values as typed things, frames as lists of known slots, and what a walk of one operation asks.
-/
import Derived.Test.YtmkbhnholcaghaaGreatDoorFxa
import Derived.WalkKit
open BitVec renaming ofInt->Qc
open Option.some renaming inj->OE,injEq->O4
namespace Go.Proofs.YtmkbhnholcaghaaGreatDoor
structure Sl where
 a:Option Addr
 n:Nat
 c:Nat
@[reducible] def Sl.v (s:Sl):Value:=.slice s.a s.n s.c
structure eO where
 α:Type
 enc:α->Value
 dec:Value->Option α
 ok:∀v x,dec v=some x->v=enc x
@[reducible] def ab (k:IntKind):eO where
  α:=Int
  enc:=λn=>.int k n
  dec:=λv=>match v with|.int a n=>(bif a==k then some n else none)|_=>none
  ok:=by
   intro v x h;cases v<;>simp only[reduceCtorEq] at h;rename_i a n;by_cases e:a=k
   ·subst e;simp at h;rw[h]
   ·have:(a==k)=false:=by simpa using e
    rw[this] at h;cases h
@[reducible] def ay:eO where
  α:=Bool
  enc:=λb=>.bool b
  dec:=λv=>match v with|.bool b=>some b|_=>none
  ok:=by intro v x h;cases v<;>simp only[reduceCtorEq,O4] at h;rw[h]
@[reducible] def aK:eO where
  α:=ByteArray
  enc:=λs=>.string s
  dec:=λv=>match v with|.string s=>some s|_=>none
  ok:=by intro v x h;cases v<;>simp only[reduceCtorEq,O4] at h;rw[h]
@[reducible] def ak:eO where
  α:=Sl
  enc:=λs=>.slice s.a s.n s.c
  dec:=λv=>match v with|.slice a n c=>some ⟨a,n,c⟩|_=>none
  ok:=by intro v x h;cases v<;>simp only[reduceCtorEq,O4] at h;rw[<-h]
@[reducible] def av:eO where
  α:=Option Addr
  enc:=λp=>.pointer p
  dec:=λv=>match v with|.pointer p=>some p|_=>none
  ok:=by intro v x h;cases v<;>simp only[reduceCtorEq,O4] at h;rw[h]
@[reducible] def bT:eO where
  α:=Option Nat
  enc:=λp=>.map p
  dec:=λv=>match v with|.map p=>some p|_=>none
  ok:=by intro v x h;cases v<;>simp only[reduceCtorEq,O4] at h;rw[h]
@[reducible] def gi:eO where
  α:=Value
  enc:=λv=>v
  dec:=λv=>some v
  ok:=by intro v x h;exact OE h
@[reducible] def Mx:eO where
  α:=Fn×Array Value×Array Value
  enc:=λq=>.func q.1 q.2.1 q.2.2
  dec:=λv=>match v with|.func f i c=>some (f,i,c)|_=>none
  ok:=by intro v x h;cases v<;>simp only[reduceCtorEq,O4] at h;rw[<-h]
@[reducible] def jQ:eO where
  α:=Array Value
  enc:=λp=>.agg p
  dec:=λv=>match v with|.agg p=>some p|_=>none
  ok:=by intro v x h;cases v<;>simp only[reduceCtorEq,O4] at h;rw[h]
@[reducible] def dg.α:List eO->Type
  |[]=>Unit
  |[c]=>c.α
  |c::d::r=>c.α×dg.α (d::r)
@[reducible] def dg.enc:(l:List eO)->dg.α l->List Value
  |[],_=>[]
  |[c],x=>[c.enc x]
  |c::d::r,x=>c.enc x.1::dg.enc (d::r) x.2
@[reducible] def dg.dec:(l:List eO)->List Value->Option (dg.α l)
  |[],vs=>match vs with|[]=>some ()|_=>none
  |[c],vs=>match vs with|[v]=>c.dec v|_=>none
  |c::d::r,vs=>match vs with
    |v::vs=>(match c.dec v with
      |some x=>(match dg.dec (d::r) vs with|some y=>some (x,y)|none=>none)
      |none=>none)
    |[]=>none
theorem dg.ok:∀(l:List eO) (vs:List Value) (x:dg.α l),dg.dec l vs=some x->vs=dg.enc l x
 |[],vs,x,h=>by
   unfold dg.dec at h;cases vs with
   |nil=>rfl
   |cons v r=>cases h
 |[c],vs,x,h=>by
   unfold dg.dec at h
   match vs,h with
   |[v],h=>exact congrArg (λu=>[u]) (c.ok v x h)
 |c::d::r,vs,x,h=>by
   unfold dg.dec at h
   match vs,h with
   |v::vs,h=>
     revert h;simp only;split
     ·rename_i a f;split
      ·rename_i b g;intro h;have e:(a,b)=x:=OE h;subst e;have i:=c.ok v a f;have e2:=dg.ok (d::r) vs b g;show v::vs=c.enc a::dg.enc (d::r) b;rw[<-i,<-e2]
      ·intro h;cases h
     ·intro h;cases h
@[reducible] def aR (l:List eO):eO where
  α:=dg.α l
  enc:=λx=>.tuple ⟨dg.enc l x⟩
  dec:=λv=>match v with|.tuple vs=>dg.dec l vs.toList|_=>none
  ok:=by
   intro v x h;cases v<;>simp only[reduceCtorEq] at h;rename_i vs;have:=dg.ok l vs.toList x h;rw[<-this]
@[reducible] def bQ (l:List eO):eO where
  α:=dg.α l
  enc:=λx=>.agg ⟨dg.enc l x⟩
  dec:=λv=>match v with|.agg vs=>dg.dec l vs.toList|_=>none
  ok:=by
   intro v x h;cases v<;>simp only[reduceCtorEq] at h;rename_i vs;have:=dg.ok l vs.toList x h;rw[<-this]
@[reducible] def fW:eO where
  α:=Bool×List Value
  enc:=λx=>.tuple ⟨.bool x.1::x.2⟩
  dec:=λv=>match v with|.tuple vs=>(match vs.toList with|.bool b::l=>some (b,l)|_=>none)|_=>none
  ok:=by
   intro v x h;cases v<;>simp only[reduceCtorEq] at h;rename_i vs;split at h
   ·rename_i b l hl;have e:(b,l)=x:=OE h;subst e;simp only;rw[<-hl]
   ·cases h
@[reducible] def oH:eO where
  α:=Value×Value
  enc:=λx=>.tuple ⟨[x.1,x.2]⟩
  dec:=λv=>match v with|.tuple vs=>(match vs.toList with|[k,u]=>some (k,u)|_=>none)|_=>none
  ok:=by
   intro v x h;cases v<;>simp only[reduceCtorEq] at h;rename_i vs;split at h
   ·rename_i k u hl;have e:(k,u)=x:=OE h;subst e;simp only;rw[<-hl]
   ·cases h
def yH (P:Program):Nat->TypeId->Option (List eO)
 |0,_=>none
 |n+1,t=>
   match P.underlying t with
   |some .bool=>some [ay]
   |some (.int k)=>some [ab k]
   |some .string=>some [aK]
   |some (.slice _)=>some [ak]
   |some (.pointer _)=>some [av]
   |some (.map _ _)=>some [bT]
   |some (.struct fs)=>fs.toList.foldr (λf acc=>match yH P n f.type,acc with|some x,some y=>some (x++y)|_,_=>none) (some [])
   |some (.func _ _ _)=>some [gi]
   |some (.interface _)=>some [gi]
   |_=>none
def kE (P:Program)(t:TypeId):eO:=
 match P.underlying t with
 |some .bool=>ay
 |some (.int k)=>ab k
 |some .string=>aK
 |some (.slice _)=>ak
 |some (.pointer _)=>av
 |some (.map _ _)=>bT
 |some (.struct _)=>(match yH P 5 t with|some l=>bQ l|none=>jQ)
 |some (.array _ _)=>jQ
 |_=>gi
def gV (P:Program)(t:TypeId):eO:=
 match P.underlying t with
 |some (.tuple a)=>aR (a.toList.map (kE P))
 |some (.func _ rs _)=>(match rs.toList with|[]=>gi|_::_=>Mx)
 |_=>kE P t
def ae {α:Type}(p:Option α)(K:α->Prop):Prop:=match p with|some a=>K a|none=>False
def br (b:Bool)(A B:Prop):Prop:=match b with|true=>A|false=>B
theorem fq {α:Type}{p:Option α}{K:α->Prop}(h:ae p K):∃a,p=some a/\K a:=by
 cases p with
 |none=>exact h.elim
 |some a=>exact⟨a,rfl,h⟩
theorem aX {α:Type}{p:Option α}{K:α->Prop}(a:α)(e:p=some a)(h:K a):ae p K:=by subst e;exact h
theorem EX {b:Bool}{A B:Prop}:br b A B↔(b=true->A)/\(b=false->B):=by cases b<;>simp[br]
theorem ah {b:Bool}{A B:Prop}(h1:b=true->A)(a:b=false->B):br b A B:=EX.2 ⟨h1,a⟩
def lJ (k:IntKind)(a b:Int):Int:=k.wrap ((Qc k.bits a&&&Qc k.bits b).toNat)
def yO (k:IntKind)(a b:Int):Int:=k.wrap ((Qc k.bits a|||Qc k.bits b).toNat)
def iP (k:IntKind)(a b:Int):Int:=k.wrap ((Qc k.bits a^^^Qc k.bits b).toNat)
def kV (k:IntKind)(a y:Int):Int:=k.wrap (a*2^(min y.toNat k.bits))
def dG (k:IntKind)(a y:Int):Int:=a.fdiv (2^(min y.toNat k.bits))
def pZ (s:ByteArray)(i:Nat):UInt8:=s.data.getD i 0
def rd (M:Option (aa->Prop))(H:aa)(p:aa->Prop):Prop:=match M with|none=>p H|some G=>∀H',G H'->p H'
def rN (c:eO)(P:Program)(s:Sem Value)(K:c.α->Prop):Prop:=∃y:c.α,(∀w:World,s.run P w=.ok (c.enc y) w)/\K y
def HM (c:eO)(u:Value)(K:c.α->Prop):Prop:=∃y:c.α,u=c.enc y/\K y
def ld (c:eO)(H:aa)(a:Addr)(K:c.α->Prop):Prop:=∃x:c.α,cK H a=some (c.enc x)/\K x
def dw (c:eO)(G:aa->Prop)(a:Addr)(K:c.α->Prop):Prop:=∃x:c.α,(∀H',G H'->cK H' a=some (c.enc x))/\K x
def lM (H:aa)(a:Addr)(n:Nat)(v:Value):Prop:=∃cs:Array Value,v=.agg cs/\cs.size=n/\∀i,i<n->cK H (a.add i)=cs[i]?
def c8 (c:eO)(n:Nat)(H:aa)(a:Addr)(K:c.α->Prop):Prop:=∃x:c.α,lM H a n (c.enc x)/\K x
def Lb (c:eO)(n:Nat)(G:aa->Prop)(a:Addr)(K:c.α->Prop):Prop:=∃x:c.α,(∀H',G H'->lM H' a n (c.enc x))/\K x
def LC (P:Program)(s:Sem Value)(H:aa)(v:Value):Prop:=∀w:World,w.heap=H->s.run P w=.ok v w
def Dw (c:eO)(P:Program)(s:Sem Value)(H:aa)(K:c.α->Prop):Prop:=∃x:c.α,LC P s H (c.enc x)/\K x
def LR (c:eO)(P:Program)(s:Sem Value)(G:aa->Prop)(K:c.α->Prop):Prop:=∃x:c.α,(∀H',G H'->LC P s H' (c.enc x))/\K x
def st (H:aa)(a:Addr)(v:Value)(K:aa->Prop):Prop:=jl v=true/\(∃u,cK H a=some u)/\oQ H a=false/\K (wh H a v)
def Gs {α:Type}(P:Program)(s:Sem α)(H:aa)(K:α->aa->Prop):Prop:=∀w:World,w.heap=H->∃v w',s.run P w=.ok v w'/\K v w'.heap/\Alike w w'
def ba (c:eO)(P:Program)(s:Sem Value)(H:aa)(K:c.α->aa->Prop):Prop:=Gs P s H λv H'=>∃x:c.α,v=c.enc x/\K x H'
def jk (P:Program)(s:Sem Unit)(H:aa)(K:aa->Prop):Prop:=Gs P s H λ_ H'=>K H'
theorem qD {α:Type}{P:Program}{s:Sem α}{H:aa}{K:α->aa->Prop}(h:wpS P s H K):Gs P s H K:=λw hw=>by subst hw;exact I7 s h
def zc (P:Program)(t:TypeId):Array Value:=match (P.info? t).bind (·.zero) with|some z=>z.cells|none=>#[]
def Spec (P:Program)(f:FuncId)(args:Array Value)(H:aa)(R:Value->aa->Prop):Prop:=
 ∀w:World,w.heap=H->Calls P f args w λe w'=>∃v,e=.returned v/\R v w'.heap/\Alike w w'
def ai (c:eO)(P:Program)(f:FuncId)(args:Array Value)(H:aa)(R:c.α->aa->Prop):Prop:=
 Spec P f args H λv H'=>∃x:c.α,v=c.enc x/\R x H'
theorem Spec.mono {P:Program}{f:FuncId}{args:Array Value}{H:aa}{R a:Value->aa->Prop}(h:Spec P f args H R)(b:∀v H',R v H'->a v H'):Spec P f args H a:=
 λw hw=>(h w hw).mono λ_ _ ⟨v,he,h1,c⟩=>⟨v,he,b _ _ h1,c⟩
def xL {α:Type}(P:Program):Sem α->Option α
 |.pure a=>some a
 |.program k=>xL P (k P)
 |.mark _ k=>xL P k
 |_=>none
theorem CN {α:Type}{P:Program}(s:Sem α):∀{v:α},xL P s=some v->∀w:World,s.run P w=.ok v w:=by
 induction s with
 |pure a=>intro v h w;simp only[xL,O4] at h;subst h;rfl
 |program k b=>intro v h w;exact b P h w
 |mark m k b=>intro v h w;exact b h w
 |_=>intro v h;cases h
def ou:Operand->Bool
 |.const (.int _ (.ofNat (_+1)))=>true
 |.const (.int _ (.negSucc _))=>true
 |_=>false
def qm:Operand->Bool
 |.const (.int _ (.ofNat _))=>true
 |_=>false
def A9 (P:Program):Op->Bool
 |.move _=>true|.assign _=>true
 |.unOp ..=>true|.fieldAddr ..=>true|.extract ..=>true
 |.makeFunc ..=>true|.makeInterface ..=>true
 |.field t _ _=>(yH P 5 t).isSome
 |.build t _=>(match P.underlying t with|some (.struct _)=>(yH P 5 t).isSome|_=>true)
 |.binOp op t _ y _=>
   match P.underlying t with
   |some (.int _)=>(match op with
     |.quo=>ou y|.rem=>ou y|.shl=>qm y|.shr=>qm y
     |_=>true)
   |some .string=>(match op with|.add=>false|_=>true)
   |some .bool=>true
   |_=>false
 |.convert src dst _=>
   match P.underlying src,P.underlying dst with
   |some (.int _),some (.int _)=>true
   |some .string,some .string=>true
   |_,_=>false
 |.call {callee:=.builtin .len,argTypes,..}=>
   match (argTypes[0]?).bind P.underlying with
   |some (.map _ _)=>false
   |_=>true
 |.call {callee:=.builtin .cap,..}=>true
 |.call {callee:=.builtin .min,..}=>true
 |.call {callee:=.builtin .max,..}=>true
 |_=>false
def evalOp (P:Program)(o:Oper)(ρ:Operand->Value):Option Value:=
 match xL P (execOp ρ o) with
 |some (.value v)=>some v
 |_=>none
theorem zN {P:Program}{o:Oper}{ρ:Operand->Value}{v:Value}(h:evalOp P o ρ=some v)(w:World):(execOp ρ o).run P w=.ok (.value v) w:=by
 unfold evalOp at h;split at h
 ·rename_i u hu;rw[CN _ hu w];rw[OE h]
 ·cases h
end Go.Proofs.YtmkbhnholcaghaaGreatDoor
