/-
 Ground, second text: values as typed things, frames as lists of known slots, and what a walk of one operation asks.
-/
import Derived.Test.YtkehfflpbpdokaaGreatDoorFxa
import Derived.WalkKit
open BitVec renaming ofInt->Mc
open Option.some renaming inj->Kq,injEq->Lr
namespace Go.Proofs.YtkehfflpbpdokaaGreatDoor
structure Sl where
 a:Option Addr
 n:Nat
 c:Nat
@[reducible] def Sl.v (s:Sl):Value:=.slice s.a s.n s.c
structure eJ where
 α:Type
 enc:α->Value
 dec:Value->Option α
 ok:∀v x,dec v=some x->v=enc x
@[reducible] def af (k:IntKind):eJ where
  α:=Int
  enc:=λn=>.int k n
  dec:=λv=>match v with|.int k' n=>(bif k'==k then some n else none)|_=>none
  ok:=by
   intro v x h
   cases v<;>simp only[reduceCtorEq] at h
   rename_i k' n
   by_cases e:k'=k
   ·subst e;simp at h;rw[h]
   ·have:(k'==k)=false:=by simpa using e
    rw[this] at h;cases h
@[reducible] def aw:eJ where
  α:=Bool
  enc:=λb=>.bool b
  dec:=λv=>match v with|.bool b=>some b|_=>none
  ok:=by intro v x h;cases v<;>simp only[reduceCtorEq,Lr] at h;rw[h]
@[reducible] def cX:eJ where
  α:=ByteArray
  enc:=λs=>.string s
  dec:=λv=>match v with|.string s=>some s|_=>none
  ok:=by intro v x h;cases v<;>simp only[reduceCtorEq,Lr] at h;rw[h]
@[reducible] def ao:eJ where
  α:=Sl
  enc:=λs=>.slice s.a s.n s.c
  dec:=λv=>match v with|.slice a n c=>some ⟨a,n,c⟩|_=>none
  ok:=by intro v x h;cases v<;>simp only[reduceCtorEq,Lr] at h;rw[<-h]
@[reducible] def au:eJ where
  α:=Option Addr
  enc:=λp=>.pointer p
  dec:=λv=>match v with|.pointer p=>some p|_=>none
  ok:=by intro v x h;cases v<;>simp only[reduceCtorEq,Lr] at h;rw[h]
@[reducible] def cO:eJ where
  α:=Option Nat
  enc:=λp=>.map p
  dec:=λv=>match v with|.map p=>some p|_=>none
  ok:=by intro v x h;cases v<;>simp only[reduceCtorEq,Lr] at h;rw[h]
@[reducible] def iz:eJ where
  α:=Value
  enc:=λv=>v
  dec:=λv=>some v
  ok:=by intro v x h;exact Kq h
@[reducible] def IJ:eJ where
  α:=Fn×Array Value×Array Value
  enc:=λq=>.func q.1 q.2.1 q.2.2
  dec:=λv=>match v with|.func f i c=>some (f,i,c)|_=>none
  ok:=by intro v x h;cases v<;>simp only[reduceCtorEq,Lr] at h;rw[<-h]
@[reducible] def oq:eJ where
  α:=Array Value
  enc:=λp=>.agg p
  dec:=λv=>match v with|.agg p=>some p|_=>none
  ok:=by intro v x h;cases v<;>simp only[reduceCtorEq,Lr] at h;rw[h]
@[reducible] def cQ.α:List eJ->Type
  |[]=>Unit
  |[c]=>c.α
  |c::d::r=>c.α×cQ.α (d::r)
@[reducible] def cQ.enc:(l:List eJ)->cQ.α l->List Value
  |[],_=>[]
  |[c],x=>[c.enc x]
  |c::d::r,x=>c.enc x.1::cQ.enc (d::r) x.2
@[reducible] def cQ.dec:(l:List eJ)->List Value->Option (cQ.α l)
  |[],vs=>match vs with|[]=>some ()|_=>none
  |[c],vs=>match vs with|[v]=>c.dec v|_=>none
  |c::d::r,vs=>match vs with
    |v::vs=>(match c.dec v with
      |some x=>(match cQ.dec (d::r) vs with|some y=>some (x,y)|none=>none)
      |none=>none)
    |[]=>none
theorem cQ.ok:∀(l:List eJ) (vs:List Value) (x:cQ.α l),cQ.dec l vs=some x->vs=cQ.enc l x
 |[],vs,x,h=>by
   unfold cQ.dec at h
   cases vs with
   |nil=>rfl
   |cons v r=>cases h
 |[c],vs,x,h=>by
   unfold cQ.dec at h
   match vs,h with
   |[v],h=>exact congrArg (λu=>[u]) (c.ok v x h)
 |c::d::r,vs,x,h=>by
   unfold cQ.dec at h
   match vs,h with
   |v::vs,h=>
     revert h
     simp only
     split
     ·rename_i x1 hx
      split
      ·rename_i y1 hy
       intro h
       have e:(x1,y1)=x:=Kq h
       subst e
       have e1:=c.ok v x1 hx
       have e2:=cQ.ok (d::r) vs y1 hy
       show v::vs=c.enc x1::cQ.enc (d::r) y1
       rw[<-e1,<-e2]
      ·intro h;cases h
     ·intro h;cases h
@[reducible] def bj (l:List eJ):eJ where
  α:=cQ.α l
  enc:=λx=>.tuple ⟨cQ.enc l x⟩
  dec:=λv=>match v with|.tuple vs=>cQ.dec l vs.toList|_=>none
  ok:=by
   intro v x h
   cases v<;>simp only[reduceCtorEq] at h
   rename_i vs
   have:=cQ.ok l vs.toList x h
   rw[<-this]
@[reducible] def fQ (l:List eJ):eJ where
  α:=cQ.α l
  enc:=λx=>.agg ⟨cQ.enc l x⟩
  dec:=λv=>match v with|.agg vs=>cQ.dec l vs.toList|_=>none
  ok:=by
   intro v x h
   cases v<;>simp only[reduceCtorEq] at h
   rename_i vs
   have:=cQ.ok l vs.toList x h
   rw[<-this]
@[reducible] def mn:eJ where
  α:=Bool×List Value
  enc:=λx=>.tuple ⟨.bool x.1::x.2⟩
  dec:=λv=>match v with|.tuple vs=>(match vs.toList with|.bool b::l=>some (b,l)|_=>none)|_=>none
  ok:=by
   intro v x h
   cases v<;>simp only[reduceCtorEq] at h
   rename_i vs
   split at h
   ·rename_i b l hl
    have e:(b,l)=x:=Kq h
    subst e
    simp only
    rw[<-hl]
   ·cases h
@[reducible] def wI:eJ where
  α:=Value×Value
  enc:=λx=>.tuple ⟨[x.1,x.2]⟩
  dec:=λv=>match v with|.tuple vs=>(match vs.toList with|[k,u]=>some (k,u)|_=>none)|_=>none
  ok:=by
   intro v x h
   cases v<;>simp only[reduceCtorEq] at h
   rename_i vs
   split at h
   ·rename_i k u hl
    have e:(k,u)=x:=Kq h
    subst e
    simp only
    rw[<-hl]
   ·cases h
def vQ (P:Program):Nat->TypeId->Option (List eJ)
 |0,_=>none
 |n+1,t=>
   match P.underlying t with
   |some .bool=>some [aw]
   |some (.int k)=>some [af k]
   |some .string=>some [cX]
   |some (.slice _)=>some [ao]
   |some (.pointer _)=>some [au]
   |some (.map _ _)=>some [cO]
   |some (.struct fs)=>fs.toList.foldr (λf acc=>match vQ P n f.type,acc with|some x,some y=>some (x++y)|_,_=>none) (some [])
   |some (.func _ _ _)=>some [iz]
   |some (.interface _)=>some [iz]
   |_=>none
def jn (P:Program)(t:TypeId):eJ:=
 match P.underlying t with
 |some .bool=>aw
 |some (.int k)=>af k
 |some .string=>cX
 |some (.slice _)=>ao
 |some (.pointer _)=>au
 |some (.map _ _)=>cO
 |some (.struct _)=>(match vQ P 5 t with|some l=>fQ l|none=>oq)
 |some (.array _ _)=>oq
 |_=>iz
def fX (P:Program)(t:TypeId):eJ:=
 match P.underlying t with
 |some (.tuple ts)=>bj (ts.toList.map (jn P))
 |some (.func _ rs _)=>(match rs.toList with|[]=>iz|_::_=>IJ)
 |_=>jn P t
def ae {α:Type}(p:Option α)(K:α->Prop):Prop:=match p with|some a=>K a|none=>False
def br (b:Bool)(A B:Prop):Prop:=match b with|true=>A|false=>B
theorem ee {α:Type}{p:Option α}{K:α->Prop}(h:ae p K):∃a,p=some a/\K a:=by
 cases p with
 |none=>exact h.elim
 |some a=>exact⟨a,rfl,h⟩
theorem cg {α:Type}{p:Option α}{K:α->Prop}(a:α)(e:p=some a)(h:K a):ae p K:=by subst e;exact h
theorem BE {b:Bool}{A B:Prop}:br b A B↔(b=true->A)/\(b=false->B):=by cases b<;>simp[br]
theorem ak {b:Bool}{A B:Prop}(h1:b=true->A)(h2:b=false->B):br b A B:=BE.2 ⟨h1,h2⟩
def vM (k:IntKind)(a b:Int):Int:=k.wrap ((Mc k.bits a&&&Mc k.bits b).toNat)
def kO (k:IntKind)(a b:Int):Int:=k.wrap ((Mc k.bits a|||Mc k.bits b).toNat)
def jL (k:IntKind)(a b:Int):Int:=k.wrap ((Mc k.bits a^^^Mc k.bits b).toNat)
def dw (k:IntKind)(a y:Int):Int:=k.wrap (a*2^(min y.toNat k.bits))
def aZ (k:IntKind)(a y:Int):Int:=a.fdiv (2^(min y.toNat k.bits))
def ca (s:ByteArray)(i:Nat):UInt8:=s.data.getD i 0
def rd (M:Option (aa->Prop))(H:aa)(p:aa->Prop):Prop:=match M with|none=>p H|some G=>∀H',G H'->p H'
def vC (c:eJ)(P:Program)(s:Sem Value)(K:c.α->Prop):Prop:=∃y:c.α,(∀w:World,s.run P w=.ok (c.enc y) w)/\K y
def Iz (c:eJ)(u:Value)(K:c.α->Prop):Prop:=∃y:c.α,u=c.enc y/\K y
def ld (c:eJ)(H:aa)(a:Addr)(K:c.α->Prop):Prop:=∃x:c.α,bI H a=some (c.enc x)/\K x
def cP (c:eJ)(G:aa->Prop)(a:Addr)(K:c.α->Prop):Prop:=∃x:c.α,(∀H',G H'->bI H' a=some (c.enc x))/\K x
def kL (H:aa)(a:Addr)(n:Nat)(v:Value):Prop:=∃cs:Array Value,v=.agg cs/\cs.size=n/\∀i,i<n->bI H (a.add i)=cs[i]?
def jq (c:eJ)(n:Nat)(H:aa)(a:Addr)(K:c.α->Prop):Prop:=∃x:c.α,kL H a n (c.enc x)/\K x
def Ir (c:eJ)(n:Nat)(G:aa->Prop)(a:Addr)(K:c.α->Prop):Prop:=∃x:c.α,(∀H',G H'->kL H' a n (c.enc x))/\K x
def Ik (P:Program)(s:Sem Value)(H:aa)(v:Value):Prop:=∀w:World,w.heap=H->s.run P w=.ok v w
def AD (c:eJ)(P:Program)(s:Sem Value)(H:aa)(K:c.α->Prop):Prop:=∃x:c.α,Ik P s H (c.enc x)/\K x
def HS (c:eJ)(P:Program)(s:Sem Value)(G:aa->Prop)(K:c.α->Prop):Prop:=∃x:c.α,(∀H',G H'->Ik P s H' (c.enc x))/\K x
def st (H:aa)(a:Addr)(v:Value)(K:aa->Prop):Prop:=ka v=true/\(∃u,bI H a=some u)/\l8 H a=false/\K (uA H a v)
def Bk {α:Type}(P:Program)(s:Sem α)(H:aa)(K:α->aa->Prop):Prop:=∀w:World,w.heap=H->∃v w',s.run P w=.ok v w'/\K v w'.heap/\Alike w w'
def bo (c:eJ)(P:Program)(s:Sem Value)(H:aa)(K:c.α->aa->Prop):Prop:=Bk P s H λv H'=>∃x:c.α,v=c.enc x/\K x H'
def ur (P:Program)(s:Sem Unit)(H:aa)(K:aa->Prop):Prop:=Bk P s H λ_ H'=>K H'
theorem wB {α:Type}{P:Program}{s:Sem α}{H:aa}{K:α->aa->Prop}(h:wpS P s H K):Bk P s H K:=λw hw=>by subst hw;exact EC s h
def zc (P:Program)(t:TypeId):Array Value:=match (P.info? t).bind (·.zero) with|some z=>z.cells|none=>#[]
def Spec (P:Program)(f:FuncId)(args:Array Value)(H:aa)(R:Value->aa->Prop):Prop:=
 ∀w:World,w.heap=H->Calls P f args w λe w'=>∃v,e=.returned v/\R v w'.heap/\Alike w w'
def aj (c:eJ)(P:Program)(f:FuncId)(args:Array Value)(H:aa)(R:c.α->aa->Prop):Prop:=
 Spec P f args H λv H'=>∃x:c.α,v=c.enc x/\R x H'
theorem Spec.mono {P:Program}{f:FuncId}{args:Array Value}{H:aa}{R R':Value->aa->Prop}(h:Spec P f args H R)(hr:∀v H',R v H'->R' v H'):Spec P f args H R':=
 λw hw=>(h w hw).mono λ_ _ ⟨v,he,h1,h2⟩=>⟨v,he,hr _ _ h1,h2⟩
def wk {α:Type}(P:Program):Sem α->Option α
 |.pure a=>some a
 |.program k=>wk P (k P)
 |.mark _ k=>wk P k
 |_=>none
theorem Am {α:Type}{P:Program}(s:Sem α):∀{v:α},wk P s=some v->∀w:World,s.run P w=.ok v w:=by
 induction s with
 |pure a=>intro v h w;simp only[wk,Lr] at h;subst h;rfl
 |program k ih=>intro v h w;exact ih P h w
 |mark m k ih=>intro v h w;exact ih h w
 |_=>intro v h;cases h
def mc:Operand->Bool
 |.const (.int _ (.ofNat (_+1)))=>true
 |.const (.int _ (.negSucc _))=>true
 |_=>false
def nZ:Operand->Bool
 |.const (.int _ (.ofNat _))=>true
 |_=>false
def yM (P:Program):Op->Bool
 |.move _=>true|.assign _=>true
 |.unOp ..=>true|.fieldAddr ..=>true|.extract ..=>true
 |.makeFunc ..=>true|.makeInterface ..=>true
 |.field t _ _=>(vQ P 5 t).isSome
 |.build t _=>(match P.underlying t with|some (.struct _)=>(vQ P 5 t).isSome|_=>true)
 |.binOp op t _ y _=>
   match P.underlying t with
   |some (.int _)=>(match op with
     |.quo=>mc y|.rem=>mc y|.shl=>nZ y|.shr=>nZ y
     |_=>true)
   |some .string=>(match op with|.add=>false|_=>true)
   |some .bool=>true
   |_=>false
 |.convert src dst _=>
   match P.underlying src,P.underlying dst with
   |some (.int _),some (.int _)=>true
   |some .string,some .string=>true
   |_,_=>false
 |.call {callee:=.builtin .len,argTypes,..}=>
   match (argTypes[0]?).bind P.underlying with
   |some (.map _ _)=>false
   |_=>true
 |.call {callee:=.builtin .cap,..}=>true
 |.call {callee:=.builtin .min,..}=>true
 |.call {callee:=.builtin .max,..}=>true
 |_=>false
def evalOp (P:Program)(o:Oper)(ρ:Operand->Value):Option Value:=
 match wk P (execOp ρ o) with
 |some (.value v)=>some v
 |_=>none
theorem xb {P:Program}{o:Oper}{ρ:Operand->Value}{v:Value}(h:evalOp P o ρ=some v)(w:World):(execOp ρ o).run P w=.ok (.value v) w:=by
 unfold evalOp at h
 split at h
 ·rename_i u hu;rw[Am _ hu w];rw[Kq h]
 ·cases h
end Go.Proofs.YtkehfflpbpdokaaGreatDoor
