/-
 Ground, second text: values as typed things, frames as lists of known slots, and what a walk of one operation asks.
-/
import Derived.Test.YtmkbhnholcaghaaGreatDoorFxa
import Derived.WalkKit
open BitVec renaming ofInt->Qq
open Option.some renaming inj->OS,injEq->Pj
namespace Go.Proofs.YtmkbhnholcaghaaGreatDoor
structure Sl where
 a:Option Addr
 n:Nat
 c:Nat
@[reducible] def Sl.v (s:Sl):Value:=.slice s.a s.n s.c
structure eM where
 α:Type
 enc:α->Value
 dec:Value->Option α
 ok:∀v x,dec v=some x->v=enc x
@[reducible] def ab (k:IntKind):eM where
  α:=Int
  enc:=λn=>.int k n
  dec:=λv=>match v with|.int a n=>(bif a==k then some n else none)|_=>none
  ok:=by
   intro v x h;cases v<;>simp only[reduceCtorEq] at h;rename_i a n;by_cases e:a=k
   ·subst e;simp at h;rw[h]
   ·have:(a==k)=false:=by simpa using e
    rw[this] at h;cases h
@[reducible] def ay:eM where
  α:=Bool
  enc:=λb=>.bool b
  dec:=λv=>match v with|.bool b=>some b|_=>none
  ok:=by intro v x h;cases v<;>simp only[reduceCtorEq,Pj] at h;rw[h]
@[reducible] def aH:eM where
  α:=ByteArray
  enc:=λs=>.string s
  dec:=λv=>match v with|.string s=>some s|_=>none
  ok:=by intro v x h;cases v<;>simp only[reduceCtorEq,Pj] at h;rw[h]
@[reducible] def ak:eM where
  α:=Sl
  enc:=λs=>.slice s.a s.n s.c
  dec:=λv=>match v with|.slice a n c=>some ⟨a,n,c⟩|_=>none
  ok:=by intro v x h;cases v<;>simp only[reduceCtorEq,Pj] at h;rw[<-h]
@[reducible] def aw:eM where
  α:=Option Addr
  enc:=λp=>.pointer p
  dec:=λv=>match v with|.pointer p=>some p|_=>none
  ok:=by intro v x h;cases v<;>simp only[reduceCtorEq,Pj] at h;rw[h]
@[reducible] def bU:eM where
  α:=Option Nat
  enc:=λp=>.map p
  dec:=λv=>match v with|.map p=>some p|_=>none
  ok:=by intro v x h;cases v<;>simp only[reduceCtorEq,Pj] at h;rw[h]
@[reducible] def gn:eM where
  α:=Value
  enc:=λv=>v
  dec:=λv=>some v
  ok:=by intro v x h;exact OS h
@[reducible] def MF:eM where
  α:=Fn×Array Value×Array Value
  enc:=λq=>.func q.1 q.2.1 q.2.2
  dec:=λv=>match v with|.func f i c=>some (f,i,c)|_=>none
  ok:=by intro v x h;cases v<;>simp only[reduceCtorEq,Pj] at h;rw[<-h]
@[reducible] def jU:eM where
  α:=Array Value
  enc:=λp=>.agg p
  dec:=λv=>match v with|.agg p=>some p|_=>none
  ok:=by intro v x h;cases v<;>simp only[reduceCtorEq,Pj] at h;rw[h]
@[reducible] def dh.α:List eM->Type
  |[]=>Unit
  |[c]=>c.α
  |c::d::r=>c.α×dh.α (d::r)
@[reducible] def dh.enc:(l:List eM)->dh.α l->List Value
  |[],_=>[]
  |[c],x=>[c.enc x]
  |c::d::r,x=>c.enc x.1::dh.enc (d::r) x.2
@[reducible] def dh.dec:(l:List eM)->List Value->Option (dh.α l)
  |[],vs=>match vs with|[]=>some ()|_=>none
  |[c],vs=>match vs with|[v]=>c.dec v|_=>none
  |c::d::r,vs=>match vs with
    |v::vs=>(match c.dec v with
      |some x=>(match dh.dec (d::r) vs with|some y=>some (x,y)|none=>none)
      |none=>none)
    |[]=>none
theorem dh.ok:∀(l:List eM) (vs:List Value) (x:dh.α l),dh.dec l vs=some x->vs=dh.enc l x
 |[],vs,x,h=>by
   unfold dh.dec at h;cases vs with
   |nil=>rfl
   |cons v r=>cases h
 |[c],vs,x,h=>by
   unfold dh.dec at h
   match vs,h with
   |[v],h=>exact congrArg (λu=>[u]) (c.ok v x h)
 |c::d::r,vs,x,h=>by
   unfold dh.dec at h
   match vs,h with
   |v::vs,h=>
     revert h;simp only;split
     ·rename_i a f;split
      ·rename_i b g;intro h;have e:(a,b)=x:=OS h;subst e;have i:=c.ok v a f;have e2:=dh.ok (d::r) vs b g;show v::vs=c.enc a::dh.enc (d::r) b;rw[<-i,<-e2]
      ·intro h;cases h
     ·intro h;cases h
@[reducible] def aR (l:List eM):eM where
  α:=dh.α l
  enc:=λx=>.tuple ⟨dh.enc l x⟩
  dec:=λv=>match v with|.tuple vs=>dh.dec l vs.toList|_=>none
  ok:=by
   intro v x h;cases v<;>simp only[reduceCtorEq] at h;rename_i vs;have:=dh.ok l vs.toList x h;rw[<-this]
@[reducible] def bR (l:List eM):eM where
  α:=dh.α l
  enc:=λx=>.agg ⟨dh.enc l x⟩
  dec:=λv=>match v with|.agg vs=>dh.dec l vs.toList|_=>none
  ok:=by
   intro v x h;cases v<;>simp only[reduceCtorEq] at h;rename_i vs;have:=dh.ok l vs.toList x h;rw[<-this]
@[reducible] def gd:eM where
  α:=Bool×List Value
  enc:=λx=>.tuple ⟨.bool x.1::x.2⟩
  dec:=λv=>match v with|.tuple vs=>(match vs.toList with|.bool b::l=>some (b,l)|_=>none)|_=>none
  ok:=by
   intro v x h;cases v<;>simp only[reduceCtorEq] at h;rename_i vs;split at h
   ·rename_i b l hl;have e:(b,l)=x:=OS h;subst e;simp only;rw[<-hl]
   ·cases h
@[reducible] def oM:eM where
  α:=Value×Value
  enc:=λx=>.tuple ⟨[x.1,x.2]⟩
  dec:=λv=>match v with|.tuple vs=>(match vs.toList with|[k,u]=>some (k,u)|_=>none)|_=>none
  ok:=by
   intro v x h;cases v<;>simp only[reduceCtorEq] at h;rename_i vs;split at h
   ·rename_i k u hl;have e:(k,u)=x:=OS h;subst e;simp only;rw[<-hl]
   ·cases h
def yS (P:Program):Nat->TypeId->Option (List eM)
 |0,_=>none
 |n+1,t=>
   match P.underlying t with
   |some .bool=>some [ay]
   |some (.int k)=>some [ab k]
   |some .string=>some [aH]
   |some (.slice _)=>some [ak]
   |some (.pointer _)=>some [aw]
   |some (.map _ _)=>some [bU]
   |some (.struct fs)=>fs.toList.foldr (λf acc=>match yS P n f.type,acc with|some x,some y=>some (x++y)|_,_=>none) (some [])
   |some (.func _ _ _)=>some [gn]
   |some (.interface _)=>some [gn]
   |_=>none
def kM (P:Program)(t:TypeId):eM:=
 match P.underlying t with
 |some .bool=>ay
 |some (.int k)=>ab k
 |some .string=>aH
 |some (.slice _)=>ak
 |some (.pointer _)=>aw
 |some (.map _ _)=>bU
 |some (.struct _)=>(match yS P 5 t with|some l=>bR l|none=>jU)
 |some (.array _ _)=>jU
 |_=>gn
def gY (P:Program)(t:TypeId):eM:=
 match P.underlying t with
 |some (.tuple a)=>aR (a.toList.map (kM P))
 |some (.func _ rs _)=>(match rs.toList with|[]=>gn|_::_=>MF)
 |_=>kM P t
def ae {α:Type}(p:Option α)(K:α->Prop):Prop:=match p with|some a=>K a|none=>False
def br (b:Bool)(A B:Prop):Prop:=match b with|true=>A|false=>B
theorem fu {α:Type}{p:Option α}{K:α->Prop}(h:ae p K):∃a,p=some a/\K a:=by
 cases p with
 |none=>exact h.elim
 |some a=>exact⟨a,rfl,h⟩
theorem aV {α:Type}{p:Option α}{K:α->Prop}(a:α)(e:p=some a)(h:K a):ae p K:=by subst e;exact h
theorem Fc {b:Bool}{A B:Prop}:br b A B↔(b=true->A)/\(b=false->B):=by cases b<;>simp[br]
theorem ag {b:Bool}{A B:Prop}(h1:b=true->A)(a:b=false->B):br b A B:=Fc.2 ⟨h1,a⟩
def lQ (k:IntKind)(a b:Int):Int:=k.wrap ((Qq k.bits a&&&Qq k.bits b).toNat)
def yZ (k:IntKind)(a b:Int):Int:=k.wrap ((Qq k.bits a|||Qq k.bits b).toNat)
def iS (k:IntKind)(a b:Int):Int:=k.wrap ((Qq k.bits a^^^Qq k.bits b).toNat)
def lg (k:IntKind)(a y:Int):Int:=k.wrap (a*2^(min y.toNat k.bits))
def dI (k:IntKind)(a y:Int):Int:=a.fdiv (2^(min y.toNat k.bits))
def qj (s:ByteArray)(i:Nat):UInt8:=s.data.getD i 0
def rd (M:Option (aa->Prop))(H:aa)(p:aa->Prop):Prop:=match M with|none=>p H|some G=>∀H',G H'->p H'
def rY (c:eM)(P:Program)(s:Sem Value)(K:c.α->Prop):Prop:=∃y:c.α,(∀w:World,s.run P w=.ok (c.enc y) w)/\K y
def HT (c:eM)(u:Value)(K:c.α->Prop):Prop:=∃y:c.α,u=c.enc y/\K y
def ld (c:eM)(H:aa)(a:Addr)(K:c.α->Prop):Prop:=∃x:c.α,cI H a=some (c.enc x)/\K x
def dt (c:eM)(G:aa->Prop)(a:Addr)(K:c.α->Prop):Prop:=∃x:c.α,(∀H',G H'->cI H' a=some (c.enc x))/\K x
def lT (H:aa)(a:Addr)(n:Nat)(v:Value):Prop:=∃cs:Array Value,v=.agg cs/\cs.size=n/\∀i,i<n->cI H (a.add i)=cs[i]?
def c9 (c:eM)(n:Nat)(H:aa)(a:Addr)(K:c.α->Prop):Prop:=∃x:c.α,lT H a n (c.enc x)/\K x
def Lj (c:eM)(n:Nat)(G:aa->Prop)(a:Addr)(K:c.α->Prop):Prop:=∃x:c.α,(∀H',G H'->lT H' a n (c.enc x))/\K x
def LM (P:Program)(s:Sem Value)(H:aa)(v:Value):Prop:=∀w:World,w.heap=H->s.run P w=.ok v w
def DK (c:eM)(P:Program)(s:Sem Value)(H:aa)(K:c.α->Prop):Prop:=∃x:c.α,LM P s H (c.enc x)/\K x
def L1 (c:eM)(P:Program)(s:Sem Value)(G:aa->Prop)(K:c.α->Prop):Prop:=∃x:c.α,(∀H',G H'->LM P s H' (c.enc x))/\K x
def st (H:aa)(a:Addr)(v:Value)(K:aa->Prop):Prop:=jq v=true/\(∃u,cI H a=some u)/\oX H a=false/\K (wz H a v)
def GA {α:Type}(P:Program)(s:Sem α)(H:aa)(K:α->aa->Prop):Prop:=∀w:World,w.heap=H->∃v w',s.run P w=.ok v w'/\K v w'.heap/\Alike w w'
def bf (c:eM)(P:Program)(s:Sem Value)(H:aa)(K:c.α->aa->Prop):Prop:=GA P s H λv H'=>∃x:c.α,v=c.enc x/\K x H'
def jo (P:Program)(s:Sem Unit)(H:aa)(K:aa->Prop):Prop:=GA P s H λ_ H'=>K H'
theorem qM {α:Type}{P:Program}{s:Sem α}{H:aa}{K:α->aa->Prop}(h:wpS P s H K):GA P s H K:=λw hw=>by subst hw;exact Jc s h
def zc (P:Program)(t:TypeId):Array Value:=match (P.info? t).bind (·.zero) with|some z=>z.cells|none=>#[]
def Spec (P:Program)(f:FuncId)(args:Array Value)(H:aa)(R:Value->aa->Prop):Prop:=
 ∀w:World,w.heap=H->Calls P f args w λe w'=>∃v,e=.returned v/\R v w'.heap/\Alike w w'
def ai (c:eM)(P:Program)(f:FuncId)(args:Array Value)(H:aa)(R:c.α->aa->Prop):Prop:=
 Spec P f args H λv H'=>∃x:c.α,v=c.enc x/\R x H'
theorem Spec.mono {P:Program}{f:FuncId}{args:Array Value}{H:aa}{R a:Value->aa->Prop}(h:Spec P f args H R)(b:∀v H',R v H'->a v H'):Spec P f args H a:=
 λw hw=>(h w hw).mono λ_ _ ⟨v,he,h1,c⟩=>⟨v,he,b _ _ h1,c⟩
def xU {α:Type}(P:Program):Sem α->Option α
 |.pure a=>some a
 |.program k=>xU P (k P)
 |.mark _ k=>xU P k
 |_=>none
theorem C2 {α:Type}{P:Program}(s:Sem α):∀{v:α},xU P s=some v->∀w:World,s.run P w=.ok v w:=by
 induction s with
 |pure a=>intro v h w;simp only[xU,Pj] at h;subst h;rfl
 |program k b=>intro v h w;exact b P h w
 |mark m k b=>intro v h w;exact b h w
 |_=>intro v h;cases h
def oF:Operand->Bool
 |.const (.int _ (.ofNat (_+1)))=>true
 |.const (.int _ (.negSucc _))=>true
 |_=>false
def qy:Operand->Bool
 |.const (.int _ (.ofNat _))=>true
 |_=>false
def Bn (P:Program):Op->Bool
 |.move _=>true|.assign _=>true
 |.unOp ..=>true|.fieldAddr ..=>true|.extract ..=>true
 |.makeFunc ..=>true|.makeInterface ..=>true
 |.field t _ _=>(yS P 5 t).isSome
 |.build t _=>(match P.underlying t with|some (.struct _)=>(yS P 5 t).isSome|_=>true)
 |.binOp op t _ y _=>
   match P.underlying t with
   |some (.int _)=>(match op with
     |.quo=>oF y|.rem=>oF y|.shl=>qy y|.shr=>qy y
     |_=>true)
   |some .string=>(match op with|.add=>false|_=>true)
   |some .bool=>true
   |_=>false
 |.convert src dst _=>
   match P.underlying src,P.underlying dst with
   |some (.int _),some (.int _)=>true
   |some .string,some .string=>true
   |_,_=>false
 |.call {callee:=.builtin .len,argTypes,..}=>
   match (argTypes[0]?).bind P.underlying with
   |some (.map _ _)=>false
   |_=>true
 |.call {callee:=.builtin .cap,..}=>true
 |.call {callee:=.builtin .min,..}=>true
 |.call {callee:=.builtin .max,..}=>true
 |_=>false
def evalOp (P:Program)(o:Oper)(ρ:Operand->Value):Option Value:=
 match xU P (execOp ρ o) with
 |some (.value v)=>some v
 |_=>none
theorem zZ {P:Program}{o:Oper}{ρ:Operand->Value}{v:Value}(h:evalOp P o ρ=some v)(w:World):(execOp ρ o).run P w=.ok (.value v) w:=by
 unfold evalOp at h;split at h
 ·rename_i u hu;rw[C2 _ hu w];rw[OS h]
 ·cases h
end Go.Proofs.YtmkbhnholcaghaaGreatDoor
