/-
 Ground, second text: values as typed things, frames as lists of known slots, and what a walk of one operation asks.
-/
import Derived.Test.YtacfhncgbgijhaaGreatFxa
import Derived.WalkKit
namespace Go.Proofs.YtacfhncgbgijhaaGreat
structure Sl where
 a:Option Addr
 n:Nat
 c:Nat
@[reducible] def Sl.v (s:Sl):Value:=.slice s.a s.n s.c
structure fe where
 α:Type
 enc:α→Value
 dec:Value→Option α
 ok:∀v x,dec v=some x→v=enc x
@[reducible] def ab (k:IntKind):fe where
  α:=Int
  enc:=fun n=>.int k n
  dec:=fun v=>match v with|.int k' n=>(bif k'==k then some n else none)|_=>none
  ok:=by
   intro v x h
   cases v<;>simp only[reduceCtorEq] at h
   rename_i k' n
   by_cases e:k'=k
   ·subst e;simp at h;rw[h]
   ·have:(k'==k)=false:=by simpa using e
    rw[this] at h;cases h
@[reducible] def aw:fe where
  α:=Bool
  enc:=fun b=>.bool b
  dec:=fun v=>match v with|.bool b=>some b|_=>none
  ok:=by intro v x h;cases v<;>simp only[reduceCtorEq,Option.some.injEq] at h;rw[h]
@[reducible] def bK:fe where
  α:=ByteArray
  enc:=fun s=>.string s
  dec:=fun v=>match v with|.string s=>some s|_=>none
  ok:=by intro v x h;cases v<;>simp only[reduceCtorEq,Option.some.injEq] at h;rw[h]
@[reducible] def an:fe where
  α:=Sl
  enc:=fun s=>.slice s.a s.n s.c
  dec:=fun v=>match v with|.slice a n c=>some ⟨a,n,c⟩|_=>none
  ok:=by intro v x h;cases v<;>simp only[reduceCtorEq,Option.some.injEq] at h;rw[←h]
@[reducible] def ar:fe where
  α:=Option Addr
  enc:=fun p=>.pointer p
  dec:=fun v=>match v with|.pointer p=>some p|_=>none
  ok:=by intro v x h;cases v<;>simp only[reduceCtorEq,Option.some.injEq] at h;rw[h]
@[reducible] def cJ:fe where
  α:=Option Nat
  enc:=fun p=>.map p
  dec:=fun v=>match v with|.map p=>some p|_=>none
  ok:=by intro v x h;cases v<;>simp only[reduceCtorEq,Option.some.injEq] at h;rw[h]
@[reducible] def eO:fe where
  α:=Value
  enc:=fun v=>v
  dec:=fun v=>some v
  ok:=by intro v x h;exact Option.some.inj h
@[reducible] def Kj:fe where
  α:=Fn×Array Value×Array Value
  enc:=fun q=>.func q.1 q.2.1 q.2.2
  dec:=fun v=>match v with|.func f i c=>some (f,i,c)|_=>none
  ok:=by intro v x h;cases v<;>simp only[reduceCtorEq,Option.some.injEq] at h;rw[←h]
@[reducible] def qd:fe where
  α:=Array Value
  enc:=fun p=>.agg p
  dec:=fun v=>match v with|.agg p=>some p|_=>none
  ok:=by intro v x h;cases v<;>simp only[reduceCtorEq,Option.some.injEq] at h;rw[h]
@[reducible] def de.α:List fe→Type
  |[]=>Unit
  |[c]=>c.α
  |c::d::r=>c.α×de.α (d::r)
@[reducible] def de.enc:(l:List fe)→de.α l→List Value
  |[],_=>[]
  |[c],x=>[c.enc x]
  |c::d::r,x=>c.enc x.1::de.enc (d::r) x.2
@[reducible] def de.dec:(l:List fe)→List Value→Option (de.α l)
  |[],vs=>match vs with|[]=>some ()|_=>none
  |[c],vs=>match vs with|[v]=>c.dec v|_=>none
  |c::d::r,vs=>match vs with
    |v::vs=>(match c.dec v with
      |some x=>(match de.dec (d::r) vs with|some y=>some (x,y)|none=>none)
      |none=>none)
    |[]=>none
theorem de.ok:∀(l:List fe) (vs:List Value) (x:de.α l),de.dec l vs=some x→vs=de.enc l x
 |[],vs,x,h=>by
   unfold de.dec at h
   cases vs with
   |nil=>rfl
   |cons v r=>cases h
 |[c],vs,x,h=>by
   unfold de.dec at h
   match vs,h with
   |[v],h=>exact congrArg (fun u=>[u]) (c.ok v x h)
 |c::d::r,vs,x,h=>by
   unfold de.dec at h
   match vs,h with
   |v::vs,h=>
     revert h
     simp only
     split
     ·rename_i x1 hx
      split
      ·rename_i y1 hy
       intro h
       have e:(x1,y1)=x:=Option.some.inj h
       subst e
       have e1:=c.ok v x1 hx
       have e2:=de.ok (d::r) vs y1 hy
       show v::vs=c.enc x1::de.enc (d::r) y1
       rw[←e1,←e2]
      ·intro h;cases h
     ·intro h;cases h
@[reducible] def aT (l:List fe):fe where
  α:=de.α l
  enc:=fun x=>.tuple ⟨de.enc l x⟩
  dec:=fun v=>match v with|.tuple vs=>de.dec l vs.toList|_=>none
  ok:=by
   intro v x h
   cases v<;>simp only[reduceCtorEq] at h
   rename_i vs
   have:=de.ok l vs.toList x h
   rw[←this]
@[reducible] def bq (l:List fe):fe where
  α:=de.α l
  enc:=fun x=>.agg ⟨de.enc l x⟩
  dec:=fun v=>match v with|.agg vs=>de.dec l vs.toList|_=>none
  ok:=by
   intro v x h
   cases v<;>simp only[reduceCtorEq] at h
   rename_i vs
   have:=de.ok l vs.toList x h
   rw[←this]
@[reducible] def iS:fe where
  α:=Bool×List Value
  enc:=fun x=>.tuple ⟨.bool x.1::x.2⟩
  dec:=fun v=>match v with|.tuple vs=>(match vs.toList with|.bool b::l=>some (b,l)|_=>none)|_=>none
  ok:=by
   intro v x h
   cases v<;>simp only[reduceCtorEq] at h
   rename_i vs
   split at h
   ·rename_i b l hl
    have e:(b,l)=x:=Option.some.inj h
    subst e
    simp only
    rw[←hl]
   ·cases h
@[reducible] def qU:fe where
  α:=Value×Value
  enc:=fun x=>.tuple ⟨[x.1,x.2]⟩
  dec:=fun v=>match v with|.tuple vs=>(match vs.toList with|[k,u]=>some (k,u)|_=>none)|_=>none
  ok:=by
   intro v x h
   cases v<;>simp only[reduceCtorEq] at h
   rename_i vs
   split at h
   ·rename_i k u hl
    have e:(k,u)=x:=Option.some.inj h
    subst e
    simp only
    rw[←hl]
   ·cases h
def xb (P:Program):Nat→TypeId→Option (List fe)
 |0,_=>none
 |n+1,t=>
   match P.underlying t with
   |some .bool=>some [aw]
   |some (.int k)=>some [ab k]
   |some .string=>some [bK]
   |some (.slice _)=>some [an]
   |some (.pointer _)=>some [ar]
   |some (.map _ _)=>some [cJ]
   |some (.struct fs)=>fs.toList.foldr (fun f acc=>match xb P n f.type,acc with|some x,some y=>some (x++y)|_,_=>none) (some [])
   |some (.func _ _ _)=>some [eO]
   |some (.interface _)=>some [eO]
   |_=>none
def jS (P:Program) (t:TypeId):fe:=
 match P.underlying t with
 |some .bool=>aw
 |some (.int k)=>ab k
 |some .string=>bK
 |some (.slice _)=>an
 |some (.pointer _)=>ar
 |some (.map _ _)=>cJ
 |some (.struct _)=>(match xb P 5 t with|some l=>bq l|none=>qd)
 |some (.array _ _)=>qd
 |_=>eO
def ij (P:Program) (t:TypeId):fe:=
 match P.underlying t with
 |some (.tuple ts)=>aT (ts.toList.map (jS P))
 |some (.func _ rs _)=>(match rs.toList with|[]=>eO|_::_=>Kj)
 |_=>jS P t
def ae {α:Type} (p:Option α) (K:α→Prop):Prop:=match p with|some a=>K a|none=>False
def br (b:Bool) (A B:Prop):Prop:=match b with|true=>A|false=>B
theorem ft {α:Type} {p:Option α} {K:α→Prop} (h:ae p K):∃a,p=some a∧K a:=by
 cases p with
 |none=>exact h.elim
 |some a=>exact⟨a,rfl,h⟩
theorem bT {α:Type} {p:Option α} {K:α→Prop} (a:α) (e:p=some a) (h:K a):ae p K:=by subst e;exact h
theorem Dq {b:Bool} {A B:Prop}:br b A B↔(b=true→A)∧(b=false→B):=by cases b<;>simp[br]
theorem aj {b:Bool} {A B:Prop} (h1:b=true→A) (h2:b=false→B):br b A B:=Dq.2 ⟨h1,h2⟩
def xA (k:IntKind) (a b:Int):Int:=k.wrap ((BitVec.ofInt k.bits a&&&BitVec.ofInt k.bits b).toNat)
def ym (k:IntKind) (a b:Int):Int:=k.wrap ((BitVec.ofInt k.bits a|||BitVec.ofInt k.bits b).toNat)
def kx (k:IntKind) (a b:Int):Int:=k.wrap ((BitVec.ofInt k.bits a^^^BitVec.ofInt k.bits b).toNat)
def ku (k:IntKind) (a y:Int):Int:=k.wrap (a*2^(min y.toNat k.bits))
def jX (k:IntKind) (a y:Int):Int:=a.fdiv (2^(min y.toNat k.bits))
def rY (s:ByteArray) (i:Nat):UInt8:=s.data.getD i 0
def rd (M:Option (aa→Prop)) (H:aa) (p:aa→Prop):Prop:=match M with|none=>p H|some G=>∀H',G H'→p H'
def rS (c:fe) (P:Program) (s:Sem Value) (K:c.α→Prop):Prop:=∃y:c.α,(∀w:World,s.run P w=.ok (c.enc y) w)∧K y
def JF (c:fe) (u:Value) (K:c.α→Prop):Prop:=∃y:c.α,u=c.enc y∧K y
def ld (c:fe) (H:aa) (a:Addr) (K:c.α→Prop):Prop:=∃x:c.α,cQ H a=some (c.enc x)∧K x
def jm (c:fe) (G:aa→Prop) (a:Addr) (K:c.α→Prop):Prop:=∃x:c.α,(∀H',G H'→cQ H' a=some (c.enc x))∧K x
def lC (H:aa) (a:Addr) (n:Nat) (v:Value):Prop:=∃cs:Array Value,v=.agg cs∧cs.size=n∧∀i,i<n→cQ H (a.add i)=cs[i]?
def db (c:fe) (n:Nat) (H:aa) (a:Addr) (K:c.α→Prop):Prop:=∃x:c.α,lC H a n (c.enc x)∧K x
def Jd (c:fe) (n:Nat) (G:aa→Prop) (a:Addr) (K:c.α→Prop):Prop:=∃x:c.α,(∀H',G H'→lC H' a n (c.enc x))∧K x
def Kg (P:Program) (s:Sem Value) (H:aa) (v:Value):Prop:=∀w:World,w.heap=H→s.run P w=.ok v w
def CN (c:fe) (P:Program) (s:Sem Value) (H:aa) (K:c.α→Prop):Prop:=∃x:c.α,Kg P s H (c.enc x)∧K x
def JK (c:fe) (P:Program) (s:Sem Value) (G:aa→Prop) (K:c.α→Prop):Prop:=∃x:c.α,(∀H',G H'→Kg P s H' (c.enc x))∧K x
def st (H:aa) (a:Addr) (v:Value) (K:aa→Prop):Prop:=lQ v=true∧(∃u,cQ H a=some u)∧nS H a=false∧K (vO H a v)
def De {α:Type} (P:Program) (s:Sem α) (H:aa) (K:α→aa→Prop):Prop:=∀w:World,w.heap=H→∃v w',s.run P w=.ok v w'∧K v w'.heap∧Alike w w'
def bS (c:fe) (P:Program) (s:Sem Value) (H:aa) (K:c.α→aa→Prop):Prop:=De P s H fun v H'=>∃x:c.α,v=c.enc x∧K x H'
def iI (P:Program) (s:Sem Unit) (H:aa) (K:aa→Prop):Prop:=De P s H fun _ H'=>K H'
theorem pV {α:Type} {P:Program} {s:Sem α} {H:aa} {K:α→aa→Prop} (h:wpS P s H K):De P s H K:=fun w hw=>by subst hw;exact Hs s h
def zc (P:Program) (t:TypeId):Array Value:=match (P.info? t).bind (·.zero) with|some z=>z.cells|none=>#[]
def Spec (P:Program) (f:FuncId) (args:Array Value) (H:aa) (R:Value→aa→Prop):Prop:=
 ∀w:World,w.heap=H→Calls P f args w fun e w'=>∃v,e=.returned v∧R v w'.heap∧Alike w w'
def ah (c:fe) (P:Program) (f:FuncId) (args:Array Value) (H:aa) (R:c.α→aa→Prop):Prop:=
 Spec P f args H fun v H'=>∃x:c.α,v=c.enc x∧R x H'
theorem Spec.mono {P:Program} {f:FuncId} {args:Array Value} {H:aa} {R R':Value→aa→Prop} (h:Spec P f args H R) (hr:∀v H',R v H'→R' v H'):Spec P f args H R':=
 fun w hw=>(h w hw).mono fun _ _ ⟨v,he,h1,h2⟩=>⟨v,he,hr _ _ h1,h2⟩
def xE {α:Type} (P:Program):Sem α→Option α
 |.pure a=>some a
 |.program k=>xE P (k P)
 |.mark _ k=>xE P k
 |_=>none
theorem A8 {α:Type} {P:Program} (s:Sem α):∀{v:α},xE P s=some v→∀w:World,s.run P w=.ok v w:=by
 induction s with
 |pure a=>intro v h w;simp only[xE,Option.some.injEq] at h;subst h;rfl
 |program k ih=>intro v h w;exact ih P h w
 |mark m k ih=>intro v h w;exact ih h w
 |_=>intro v h;cases h
def nv:Operand→Bool
 |.const (.int _ (.ofNat (_+1)))=>true
 |.const (.int _ (.negSucc _))=>true
 |_=>false
def pH:Operand→Bool
 |.const (.int _ (.ofNat _))=>true
 |_=>false
def Ap (P:Program):Op→Bool
 |.move _=>true|.assign _=>true
 |.unOp ..=>true|.fieldAddr ..=>true|.extract ..=>true
 |.makeFunc ..=>true|.makeInterface ..=>true
 |.field t _ _=>(xb P 5 t).isSome
 |.build t _=>(match P.underlying t with|some (.struct _)=>(xb P 5 t).isSome|_=>true)
 |.binOp op t _ y _=>
   match P.underlying t with
   |some (.int _)=>(match op with
     |.quo=>nv y|.rem=>nv y|.shl=>pH y|.shr=>pH y
     |_=>true)
   |some .string=>(match op with|.add=>false|_=>true)
   |some .bool=>true
   |_=>false
 |.convert src dst _=>
   match P.underlying src,P.underlying dst with
   |some (.int _),some (.int _)=>true
   |some .string,some .string=>true
   |_,_=>false
 |.call {callee:=.builtin .len,argTypes,..}=>
   match (argTypes[0]?).bind P.underlying with
   |some (.map _ _)=>false
   |_=>true
 |.call {callee:=.builtin .cap,..}=>true
 |.call {callee:=.builtin .min,..}=>true
 |.call {callee:=.builtin .max,..}=>true
 |_=>false
def evalOp (P:Program) (o:Oper) (ρ:Operand→Value):Option Value:=
 match xE P (execOp ρ o) with
 |some (.value v)=>some v
 |_=>none
theorem yE {P:Program} {o:Oper} {ρ:Operand→Value} {v:Value} (h:evalOp P o ρ=some v) (w:World):(execOp ρ o).run P w=.ok (.value v) w:=by
 unfold evalOp at h
 split at h
 ·rename_i u hu;rw[A8 _ hu w];rw[Option.some.inj h]
 ·cases h
end Go.Proofs.YtacfhncgbgijhaaGreat
