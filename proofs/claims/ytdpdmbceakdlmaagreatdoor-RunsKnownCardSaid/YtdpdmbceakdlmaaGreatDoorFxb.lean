/-
 Ground, second text: values as typed things, frames as lists of known slots, and what a walk of one operation asks.
-/
import Derived.Test.YtdpdmbceakdlmaaGreatDoorFxa
import Derived.WalkKit
open BitVec renaming ofInt->Mw
open Option.some renaming inj->K1,injEq->LC
namespace Go.Proofs.YtdpdmbceakdlmaaGreatDoor
structure Sl where
 a:Option Addr
 n:Nat
 c:Nat
@[reducible] def Sl.v (s:Sl):Value:=.slice s.a s.n s.c
structure eN where
 α:Type
 enc:α->Value
 dec:Value->Option α
 ok:∀v x,dec v=some x->v=enc x
@[reducible] def aa (k:IntKind):eN where
  α:=Int
  enc:=λn=>.int k n
  dec:=λv=>match v with|.int k' n=>(bif k'==k then some n else none)|_=>none
  ok:=by
   intro v x h
   cases v<;>simp only[reduceCtorEq] at h
   rename_i k' n
   by_cases e:k'=k
   ·subst e;simp at h;rw[h]
   ·have:(k'==k)=false:=by simpa using e
    rw[this] at h;cases h
@[reducible] def aA:eN where
  α:=Bool
  enc:=λb=>.bool b
  dec:=λv=>match v with|.bool b=>some b|_=>none
  ok:=by intro v x h;cases v<;>simp only[reduceCtorEq,LC] at h;rw[h]
@[reducible] def aV:eN where
  α:=ByteArray
  enc:=λs=>.string s
  dec:=λv=>match v with|.string s=>some s|_=>none
  ok:=by intro v x h;cases v<;>simp only[reduceCtorEq,LC] at h;rw[h]
@[reducible] def av:eN where
  α:=Sl
  enc:=λs=>.slice s.a s.n s.c
  dec:=λv=>match v with|.slice a n c=>some ⟨a,n,c⟩|_=>none
  ok:=by intro v x h;cases v<;>simp only[reduceCtorEq,LC] at h;rw[<-h]
@[reducible] def ar:eN where
  α:=Option Addr
  enc:=λp=>.pointer p
  dec:=λv=>match v with|.pointer p=>some p|_=>none
  ok:=by intro v x h;cases v<;>simp only[reduceCtorEq,LC] at h;rw[h]
@[reducible] def cq:eN where
  α:=Option Nat
  enc:=λp=>.map p
  dec:=λv=>match v with|.map p=>some p|_=>none
  ok:=by intro v x h;cases v<;>simp only[reduceCtorEq,LC] at h;rw[h]
@[reducible] def jG:eN where
  α:=Value
  enc:=λv=>v
  dec:=λv=>some v
  ok:=by intro v x h;exact K1 h
@[reducible] def Jj:eN where
  α:=Fn×Array Value×Array Value
  enc:=λq=>.func q.1 q.2.1 q.2.2
  dec:=λv=>match v with|.func f i c=>some (f,i,c)|_=>none
  ok:=by intro v x h;cases v<;>simp only[reduceCtorEq,LC] at h;rw[<-h]
@[reducible] def jn:eN where
  α:=Array Value
  enc:=λp=>.agg p
  dec:=λv=>match v with|.agg p=>some p|_=>none
  ok:=by intro v x h;cases v<;>simp only[reduceCtorEq,LC] at h;rw[h]
@[reducible] def c7.α:List eN->Type
  |[]=>Unit
  |[c]=>c.α
  |c::d::r=>c.α×c7.α (d::r)
@[reducible] def c7.enc:(l:List eN)->c7.α l->List Value
  |[],_=>[]
  |[c],x=>[c.enc x]
  |c::d::r,x=>c.enc x.1::c7.enc (d::r) x.2
@[reducible] def c7.dec:(l:List eN)->List Value->Option (c7.α l)
  |[],vs=>match vs with|[]=>some ()|_=>none
  |[c],vs=>match vs with|[v]=>c.dec v|_=>none
  |c::d::r,vs=>match vs with
    |v::vs=>(match c.dec v with
      |some x=>(match c7.dec (d::r) vs with|some y=>some (x,y)|none=>none)
      |none=>none)
    |[]=>none
theorem c7.ok:∀(l:List eN) (vs:List Value) (x:c7.α l),c7.dec l vs=some x->vs=c7.enc l x
 |[],vs,x,h=>by
   unfold c7.dec at h
   cases vs with
   |nil=>rfl
   |cons v r=>cases h
 |[c],vs,x,h=>by
   unfold c7.dec at h
   match vs,h with
   |[v],h=>exact congrArg (λu=>[u]) (c.ok v x h)
 |c::d::r,vs,x,h=>by
   unfold c7.dec at h
   match vs,h with
   |v::vs,h=>
     revert h
     simp only
     split
     ·rename_i x1 hx
      split
      ·rename_i y1 hy
       intro h
       have e:(x1,y1)=x:=K1 h
       subst e
       have e1:=c.ok v x1 hx
       have e2:=c7.ok (d::r) vs y1 hy
       show v::vs=c.enc x1::c7.enc (d::r) y1
       rw[<-e1,<-e2]
      ·intro h;cases h
     ·intro h;cases h
@[reducible] def bg (l:List eN):eN where
  α:=c7.α l
  enc:=λx=>.tuple ⟨c7.enc l x⟩
  dec:=λv=>match v with|.tuple vs=>c7.dec l vs.toList|_=>none
  ok:=by
   intro v x h
   cases v<;>simp only[reduceCtorEq] at h
   rename_i vs
   have:=c7.ok l vs.toList x h
   rw[<-this]
@[reducible] def dr (l:List eN):eN where
  α:=c7.α l
  enc:=λx=>.agg ⟨c7.enc l x⟩
  dec:=λv=>match v with|.agg vs=>c7.dec l vs.toList|_=>none
  ok:=by
   intro v x h
   cases v<;>simp only[reduceCtorEq] at h
   rename_i vs
   have:=c7.ok l vs.toList x h
   rw[<-this]
@[reducible] def fR:eN where
  α:=Bool×List Value
  enc:=λx=>.tuple ⟨.bool x.1::x.2⟩
  dec:=λv=>match v with|.tuple vs=>(match vs.toList with|.bool b::l=>some (b,l)|_=>none)|_=>none
  ok:=by
   intro v x h
   cases v<;>simp only[reduceCtorEq] at h
   rename_i vs
   split at h
   ·rename_i b l hl
    have e:(b,l)=x:=K1 h
    subst e
    simp only
    rw[<-hl]
   ·cases h
@[reducible] def nh:eN where
  α:=Value×Value
  enc:=λx=>.tuple ⟨[x.1,x.2]⟩
  dec:=λv=>match v with|.tuple vs=>(match vs.toList with|[k,u]=>some (k,u)|_=>none)|_=>none
  ok:=by
   intro v x h
   cases v<;>simp only[reduceCtorEq] at h
   rename_i vs
   split at h
   ·rename_i k u hl
    have e:(k,u)=x:=K1 h
    subst e
    simp only
    rw[<-hl]
   ·cases h
def wu (P:Program):Nat->TypeId->Option (List eN)
 |0,_=>none
 |n+1,t=>
   match P.underlying t with
   |some .bool=>some [aA]
   |some (.int k)=>some [aa k]
   |some .string=>some [aV]
   |some (.slice _)=>some [av]
   |some (.pointer _)=>some [ar]
   |some (.map _ _)=>some [cq]
   |some (.struct fs)=>fs.toList.foldr (λf acc=>match wu P n f.type,acc with|some x,some y=>some (x++y)|_,_=>none) (some [])
   |some (.func _ _ _)=>some [jG]
   |some (.interface _)=>some [jG]
   |_=>none
def jA (P:Program)(t:TypeId):eN:=
 match P.underlying t with
 |some .bool=>aA
 |some (.int k)=>aa k
 |some .string=>aV
 |some (.slice _)=>av
 |some (.pointer _)=>ar
 |some (.map _ _)=>cq
 |some (.struct _)=>(match wu P 5 t with|some l=>dr l|none=>jn)
 |some (.array _ _)=>jn
 |_=>jG
def gQ (P:Program)(t:TypeId):eN:=
 match P.underlying t with
 |some (.tuple ts)=>bg (ts.toList.map (jA P))
 |some (.func _ rs _)=>(match rs.toList with|[]=>jG|_::_=>Jj)
 |_=>jA P t
def ab {α:Type}(p:Option α)(K:α->Prop):Prop:=match p with|some a=>K a|none=>False
def br (b:Bool)(A B:Prop):Prop:=match b with|true=>A|false=>B
theorem eT {α:Type}{p:Option α}{K:α->Prop}(h:ab p K):∃a,p=some a/\K a:=by
 cases p with
 |none=>exact h.elim
 |some a=>exact⟨a,rfl,h⟩
theorem dv {α:Type}{p:Option α}{K:α->Prop}(a:α)(e:p=some a)(h:K a):ab p K:=by subst e;exact h
theorem CE {b:Bool}{A B:Prop}:br b A B↔(b=true->A)/\(b=false->B):=by cases b<;>simp[br]
theorem ae {b:Bool}{A B:Prop}(h1:b=true->A)(h2:b=false->B):br b A B:=CE.2 ⟨h1,h2⟩
def kS (k:IntKind)(a b:Int):Int:=k.wrap ((Mw k.bits a&&&Mw k.bits b).toNat)
def wR (k:IntKind)(a b:Int):Int:=k.wrap ((Mw k.bits a|||Mw k.bits b).toNat)
def hZ (k:IntKind)(a b:Int):Int:=k.wrap ((Mw k.bits a^^^Mw k.bits b).toNat)
def j5 (k:IntKind)(a y:Int):Int:=k.wrap (a*2^(min y.toNat k.bits))
def cI (k:IntKind)(a y:Int):Int:=a.fdiv (2^(min y.toNat k.bits))
def oH (s:ByteArray)(i:Nat):UInt8:=s.data.getD i 0
def rd (M:Option (Heap->Prop))(H:Heap)(p:Heap->Prop):Prop:=match M with|none=>p H|some G=>∀H',G H'->p H'
def we (c:eN)(P:Program)(s:Sem Value)(K:c.α->Prop):Prop:=∃y:c.α,(∀w:World,s.run P w=.ok (c.enc y) w)/\K y
def FV (c:eN)(u:Value)(K:c.α->Prop):Prop:=∃y:c.α,u=c.enc y/\K y
def ld (c:eN)(H:Heap)(a:Addr)(K:c.α->Prop):Prop:=∃x:c.α,de H a=some (c.enc x)/\K x
def eP (c:eN)(G:Heap->Prop)(a:Addr)(K:c.α->Prop):Prop:=∃x:c.α,(∀H',G H'->de H' a=some (c.enc x))/\K x
def kT (H:Heap)(a:Addr)(n:Nat)(v:Value):Prop:=∃cs:Array Value,v=.agg cs/\cs.size=n/\∀i,i<n->de H (a.add i)=cs[i]?
def dI (c:eN)(n:Nat)(H:Heap)(a:Addr)(K:c.α->Prop):Prop:=∃x:c.α,kT H a n (c.enc x)/\K x
def IK (c:eN)(n:Nat)(G:Heap->Prop)(a:Addr)(K:c.α->Prop):Prop:=∃x:c.α,(∀H',G H'->kT H' a n (c.enc x))/\K x
def I6 (P:Program)(s:Sem Value)(H:Heap)(v:Value):Prop:=∀w:World,w.heap=H->s.run P w=.ok v w
def Di (c:eN)(P:Program)(s:Sem Value)(H:Heap)(K:c.α->Prop):Prop:=∃x:c.α,I6 P s H (c.enc x)/\K x
def Je (c:eN)(P:Program)(s:Sem Value)(G:Heap->Prop)(K:c.α->Prop):Prop:=∃x:c.α,(∀H',G H'->I6 P s H' (c.enc x))/\K x
def st (H:Heap)(a:Addr)(v:Value)(K:Heap->Prop):Prop:=jN v=true/\(∃u,de H a=some u)/\nJ H a=false/\K (uC H a v)
def Cp {α:Type}(P:Program)(s:Sem α)(H:Heap)(K:α->Heap->Prop):Prop:=∀w:World,w.heap=H->∃v w',s.run P w=.ok v w'/\K v w'.heap/\Alike w w'
def bt (c:eN)(P:Program)(s:Sem Value)(H:Heap)(K:c.α->Heap->Prop):Prop:=Cp P s H λv H'=>∃x:c.α,v=c.enc x/\K x H'
def lQ (P:Program)(s:Sem Unit)(H:Heap)(K:Heap->Prop):Prop:=Cp P s H λ_ H'=>K H'
theorem pC {α:Type}{P:Program}{s:Sem α}{H:Heap}{K:α->Heap->Prop}(h:wpS P s H K):Cp P s H K:=λw hw=>by subst hw;exact Gj s h
def zc (P:Program)(t:TypeId):Array Value:=match (P.info? t).bind (·.zero) with|some z=>z.cells|none=>#[]
def Spec (P:Program)(f:FuncId)(args:Array Value)(H:Heap)(R:Value->Heap->Prop):Prop:=
 ∀w:World,w.heap=H->Calls P f args w λe w'=>∃v,e=.returned v/\R v w'.heap/\Alike w w'
def ai (c:eN)(P:Program)(f:FuncId)(args:Array Value)(H:Heap)(R:c.α->Heap->Prop):Prop:=
 Spec P f args H λv H'=>∃x:c.α,v=c.enc x/\R x H'
theorem Spec.mono {P:Program}{f:FuncId}{args:Array Value}{H:Heap}{R R':Value->Heap->Prop}(h:Spec P f args H R)(hr:∀v H',R v H'->R' v H'):Spec P f args H R':=
 λw hw=>(h w hw).mono λ_ _ ⟨v,he,h1,h2⟩=>⟨v,he,hr _ _ h1,h2⟩
def vL {α:Type}(P:Program):Sem α->Option α
 |.pure a=>some a
 |.program k=>vL P (k P)
 |.mark _ k=>vL P k
 |_=>none
theorem zS {α:Type}{P:Program}(s:Sem α):∀{v:α},vL P s=some v->∀w:World,s.run P w=.ok v w:=by
 induction s with
 |pure a=>intro v h w;simp only[vL,LC] at h;subst h;rfl
 |program k ih=>intro v h w;exact ih P h w
 |mark m k ih=>intro v h w;exact ih h w
 |_=>intro v h;cases h
def nd:Operand->Bool
 |.const (.int _ (.ofNat (_+1)))=>true
 |.const (.int _ (.negSucc _))=>true
 |_=>false
def pF:Operand->Bool
 |.const (.int _ (.ofNat _))=>true
 |_=>false
def zt (P:Program):Op->Bool
 |.move _=>true|.assign _=>true
 |.unOp ..=>true|.fieldAddr ..=>true|.extract ..=>true
 |.makeFunc ..=>true|.makeInterface ..=>true
 |.field t _ _=>(wu P 5 t).isSome
 |.build t _=>(match P.underlying t with|some (.struct _)=>(wu P 5 t).isSome|_=>true)
 |.binOp op t _ y _=>
   match P.underlying t with
   |some (.int _)=>(match op with
     |.quo=>nd y|.rem=>nd y|.shl=>pF y|.shr=>pF y
     |_=>true)
   |some .string=>(match op with|.add=>false|_=>true)
   |some .bool=>true
   |_=>false
 |.convert src dst _=>
   match P.underlying src,P.underlying dst with
   |some (.int _),some (.int _)=>true
   |some .string,some .string=>true
   |_,_=>false
 |.call {callee:=.builtin .len,argTypes,..}=>
   match (argTypes[0]?).bind P.underlying with
   |some (.map _ _)=>false
   |_=>true
 |.call {callee:=.builtin .cap,..}=>true
 |.call {callee:=.builtin .min,..}=>true
 |.call {callee:=.builtin .max,..}=>true
 |_=>false
def evalOp (P:Program)(o:Oper)(ρ:Operand->Value):Option Value:=
 match vL P (execOp ρ o) with
 |some (.value v)=>some v
 |_=>none
theorem yq {P:Program}{o:Oper}{ρ:Operand->Value}{v:Value}(h:evalOp P o ρ=some v)(w:World):(execOp ρ o).run P w=.ok (.value v) w:=by
 unfold evalOp at h
 split at h
 ·rename_i u hu;rw[zS _ hu w];rw[K1 h]
 ·cases h
end Go.Proofs.YtdpdmbceakdlmaaGreatDoor
