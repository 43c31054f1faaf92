/-
 Ground, third text: what a walk of one operation asks, and that it is enough.
-/
import Derived.Test.YtmkbhnholcaghaaGreatDoorFxb
open Go.Instr renaming sureAddr->QB,sliceBounds->QZ,sliceBound->SY,sliceAt->TS,index->UN,slice->UO,indexAt->Wa
open Go.Op renaming maxDepth->Qh,equalIn->QP,equal->QQ,intDiv->WT,shift->Xa
open Go.Result renaming andThen_ok->OV
open Go.Sem renaming run_bind->OT,run_pure->Pt
open Int renaming eq_ofNat_of_zero_le->QM
open Option renaming map_some->Q2,map_none->Uv
namespace Go.Proofs.YtmkbhnholcaghaaGreatDoor
def qE (t:Bool)(a b:Operand)(c d:Value):Value:=
 match c,d with
 |.bool x,.bool y=>
   (match b with
   |.const (.bool false)=>.bool (t&&x)
   |_=>(match a with
     |.const (.bool true)=>.bool (t||y)
     |_=>.bool (bif t then x else y)))
 |_,_=>match t with|true=>c|false=>d
def cE (a:Option Addr)(cap l size:Nat):Option Addr:=if cap=l then a else a.map (·.add (l*size))
def Mc (cap len:Nat)(lo hi:Option Value)(K:Nat->Nat->Prop):Prop:=
 match hi with
 |none=>(match lo with
   |none=>K 0 len
   |some (.int _ l)=>(0<=l/\l<=(len:Int))/\K l.toNat len
   |_=>False)
 |some (.int _ h)=>(0<=h/\h<=(cap:Int))/\(match lo with
   |none=>K 0 h.toNat
   |some (.int _ l)=>(0<=l/\l<=h)/\K l.toNat h.toNat
   |_=>False)
 |_=>False
def BZ (v:Value)(K:Bool->Prop):Prop:=match v with|.nilIface=>K true|.iface _ _=>K false|_=>False
def wC (v:Value)(K:Bool->Prop):Prop:=match v with|.nilFunc=>K true|.func _ _ _=>K false|_=>False
def Fj (v:Value)(K:Value->Prop):Prop:=match v with
 |.pointer p=>ae p λa=>K (.pointer (some a))
 |.func (.func f) a b=>K (.func (.func f) a b)
 |.iface t x=>K (.iface t x)
 |_=>False
def AD (d:TypeDesc)(op:BinOp)(y:Operand)(c e:Value)(K:Value->Prop):Prop:=
 match d with
 |.pointer _=>(match y with
   |.const (.pointer none)=>(match op,c with|.eql,.pointer a=>K (.bool a.isNone)|.neq,.pointer a=>K (.bool (!a.isNone))|_,_=>False)
   |_=>False)
 |.slice _=>(match y with
   |.const (.slice none _ _)=>(match op,c with|.eql,.slice a _ _=>K (.bool a.isNone)|.neq,.slice a _ _=>K (.bool (!a.isNone))|_,_=>False)
   |_=>False)
 |.map _ _=>(match y with
   |.const (.map none)=>(match op,c with|.eql,.map a=>K (.bool a.isNone)|.neq,.map a=>K (.bool (!a.isNone))|_,_=>False)
   |_=>False)
 |.interface _=>(match y with
   |.const .nilIface=>(match op with|.eql=>BZ c λb=>K (.bool b)|.neq=>BZ c λb=>K (.bool (!b))|_=>False)
   |_=>False)
 |.func _ _ _=>(match y with
   |.const .nilFunc=>(match op with|.eql=>wC c λb=>K (.bool b)|.neq=>wC c λb=>K (.bool (!b))|_=>False)
   |_=>False)
 |.int _=>(match op with
   |.quo=>(match c,e with|.int k a,.int f b=>(bif k==f then b≠0/\K (.int k (k.wrap (a.tdiv b))) else False)|_,_=>False)
   |.rem=>(match c,e with|.int k a,.int f b=>(bif k==f then b≠0/\K (.int k (a.tmod b)) else False)|_,_=>False)
   |.shl=>(match c,e with|.int k a,.int _ b=>0<=b/\K (.int k (lg k a b))|_,_=>False)
   |.shr=>(match c,e with|.int k a,.int _ b=>0<=b/\K (.int k (dI k a b))|_,_=>False)
   |_=>False)
 |.string=>(match op with
   |.add=>(match c,e with|.string a,.string b=>((a.size+b.size:Nat):Int)<=9223372036854775807/\K (.string (a++b))|_,_=>False)
   |_=>False)
 |_=>False
def vH (P:Program)(op:Op)(ρ:Operand->Value)(K:Value->Prop):Prop:=
 match op with
 |.pick c a b=>(match ρ c with|.bool t=>K (qE t a b (ρ a) (ρ b))|_=>False)
 |.nilCheck x=>Fj (ρ x) K
 |.binOp op t x y _=>(match P.underlying t with
   |some d=>AD d op y (ρ x) (ρ y) K
   |none=>False)
 |.indexAddr t x i=>(match P.underlying t with
   |some (.slice el)=>(match P.info? el with
     |some inf=>(match ρ x,ρ i with
       |.slice a n _,.int _ e=>ae a λad=>(0<=e/\e<(n:Int))/\K (.pointer (some (ad.add (e.toNat*inf.size))))
       |_,_=>False)
     |none=>False)
   |some (.array n el)=>(match P.info? el with
     |some inf=>(match ρ x,ρ i with
       |.pointer p,.int _ e=>ae p λad=>(0<=e/\e<(n:Int))/\K (.pointer (some (ad.add (e.toNat*inf.size))))
       |_,_=>False)
     |none=>False)
   |_=>False)
 |.index t x i=>(match P.underlying t with
   |some .string=>(match ρ x,ρ i with
     |.string s,.int _ e=>(0<=e/\e<(s.size:Int))/\K (.int .u8 ((qj s e.toNat).toNat:Int))
     |_,_=>False)
   |some (.array _ el)=>rY (kM P el) P (UN t (ρ x) (ρ i)) λy=>K ((kM P el).enc y)
   |_=>False)
 |.slice t x lo hi none=>(match P.underlying t with
   |some .string=>(match ρ x with
     |.string s=>Mc s.size s.size (lo.map ρ) (hi.map ρ) λl h=>K (.string (s.extract l h))
     |_=>False)
   |some (.slice el)=>(match P.info? el with
     |some inf=>(match ρ x with
       |.slice a n c=>Mc c n (lo.map ρ) (hi.map ρ) λl h=>K (.slice (cE a c l inf.size) (h - l) (c - l))
       |_=>False)
     |none=>False)
   |some (.array n el)=>(match P.info? el with
     |some inf=>(match ρ x with
       |.pointer p=>ae p λa=>Mc n n (lo.map ρ) (hi.map ρ) λl h=>K (.slice (cE (some a) n l inf.size) (h - l) (n - l))
       |_=>False)
     |none=>False)
   |_=>False)
 |.slice t x lo (some hi) (some g)=>(match P.underlying t with
   |some (.slice el)=>(match P.info? el with
     |some inf=>(match ρ x,ρ hi,ρ g with
       |.slice a _ c,.int _ h,.int _ m=>(0<=m/\m<=(c:Int))/\(0<=h/\h<=m)/\(match lo.map ρ with
         |none=>K (.slice (cE a m.toNat 0 inf.size) (h.toNat - 0) (m.toNat - 0))
         |some (.int _ l)=>(0<=l/\l<=h)/\K (.slice (cE a m.toNat l.toNat inf.size) (h.toNat - l.toNat) (m.toNat - l.toNat))
         |_=>False)
       |_,_,_=>False)
     |none=>False)
   |_=>False)
 |.sliceToArrayPointer t x=>(match P.underlying t with
   |some (.array n _)=>(match ρ x with|.slice a len _=>n<=len/\K (.pointer a)|_=>False)
   |_=>False)
 |.field t x f=>(match P.underlying t with
   |some (.struct fs)=>(match fs[f]? with
     |some fd=>rY (kM P fd.type) P (Instr.field t (ρ x) f) λy=>K ((kM P fd.type).enc y)
     |none=>False)
   |_=>False)
 |.build t parts=>rY (kM P t) P (Instr.build t (parts.toList.map λq=>(q.1,ρ q.2)).toArray) λy=>K ((kM P t).enc y)
 |_=>False
theorem aI {P:Program}{t:TypeId}{d:TypeDesc}(h:P.underlying t=some d)(w:World):(underlying t).run P w=.ok d w:=by
 simp[underlying,h]
theorem cJ {P:Program}{t:TypeId}{i:TypeInfo}(h:P.info? t=some i)(w:World):(sizeOf t).run P w=.ok i.size w:=by
 simp[sizeOf,typeInfo,h]
theorem pP {P:Program}{isSlice:Bool}{cap len:Nat}{lo hi:Option Value}{K:Nat->Nat->Prop}(h:Mc cap len lo hi K):
  ∃l u,(∀w:World,(QZ isSlice len cap lo hi none).run P w=.ok (l,u,cap) w)/\K l u:=by
 unfold Mc at h;split at h
 ·split at h
  ·exact⟨0,len,λw=>by simp[QZ],h⟩
  ·rename_i k l;obtain⟨⟨h1,b⟩,a⟩:=h;refine⟨l.toNat,len,λw=>?_,a⟩;simp[QZ,SY,asIntOf,h1,b]
  ·exact h.elim
 ·rename_i k u;obtain⟨⟨h1,b⟩,a⟩:=h;split at a
  ·refine⟨0,u.toNat,λw=>?_,a⟩;cases isSlice<;>simp[QZ,SY,asIntOf,h1,b]
  ·rename_i g l;obtain⟨⟨c,i⟩,d⟩:=a;obtain⟨u,rfl⟩:=QM h1;obtain⟨l,rfl⟩:=QM c;have e:l<=u:=by omega
   have f:u<=cap:=by omega
   refine⟨l,u,λw=>?_,by simpa using d⟩;cases isSlice<;>simp[QZ,SY,asIntOf,e,f]
  ·exact a.elim
 ·exact h.elim
theorem kR {P:Program}{t e:TypeId}(hu:P.underlying t=some (.pointer e))(a:Option Addr)(d:Nat)(w:World):(QP (d+1) t (.pointer a) (.pointer none)).run P w=.ok a.isNone w:=by
 cases a<;>simp[QP,aI hu]
theorem jf {P:Program}{t e:TypeId}(hu:P.underlying t=some (.slice e))(a:Option Addr)(n c b f d:Nat)(w:World):(QP (d+1) t (.slice a n c) (.slice none b f)).run P w=.ok a.isNone w:=by
 cases a<;>simp[QP,aI hu]
theorem kZ {P:Program}{t k e:TypeId}(hu:P.underlying t=some (.map k e))(a:Option Nat)(d:Nat)(w:World):(QP (d+1) t (.map a) (.map none)).run P w=.ok a.isNone w:=by
 cases a<;>simp[QP,aI hu]
theorem dK {P:Program}{t:TypeId}{ms:Array (String×TypeId)}(hu:P.underlying t=some (.interface ms))(d:Nat)(w:World):(QP (d+1) t .nilIface .nilIface).run P w=.ok true w/\∀u x,(QP (d+1) t (.iface u x) .nilIface).run P w=.ok false w:=by
 refine⟨?_,λu x=>?_⟩<;>simp[QP,aI hu]
theorem dY {P:Program}{t:TypeId}{ps rs:Array TypeId}{v:Bool}(hu:P.underlying t=some (.func ps rs v))(d:Nat)(w:World):(QP (d+1) t .nilFunc .nilFunc).run P w=.ok true w/\∀f a c,(QP (d+1) t (.func f a c) .nilFunc).run P w=.ok false w:=by
 refine⟨?_,λf a c=>?_⟩<;>simp[QP,aI hu]
theorem wP {P:Program}{op:BinOp}{t:TypeId}{d:TypeDesc}{x y:Operand}{ρ:Operand->Value}{K:Value->Prop}(hρ:∀v,ρ (.const v)=v)
  (g:P.underlying t=some d) (h:AD d op y (ρ x) (ρ y) K):∃v,(∀w:World,(do eqGuard op t x y (ρ x) (ρ y);binOp op t (ρ x) (ρ y):Sem Value).run P w=.ok v w)/\K v:=by
 unfold AD at h;have m:∀{k i:IntKind} {A:Prop},(bif k==i then A else False)->k=i/\A:=by
  intro k i A h;by_cases e:k=i
  ·subst e;simp at h;exact⟨rfl,h⟩
  ·have:(k==i)=false:=by simpa using e
   rw[this] at h;exact h.elim
 split at h
 ·split at h
  ·rw[hρ];split at h
   ·rename_i a f;rw[f];exact⟨_,λw=>by simp[eqGuard,binOp,QQ,Qh,kR g],h⟩
   ·rename_i a f;rw[f];exact⟨_,λw=>by simp[eqGuard,binOp,QQ,Qh,kR g],h⟩
   ·exact h.elim
  ·exact h.elim
 ·split at h
  ·rw[hρ];split at h
   ·rename_i a n c f;rw[f];exact⟨_,λw=>by simp[eqGuard,binOp,QQ,Qh,jf g],h⟩
   ·rename_i a n c f;rw[f];exact⟨_,λw=>by simp[eqGuard,binOp,QQ,Qh,jf g],h⟩
   ·exact h.elim
  ·exact h.elim
 ·split at h
  ·rw[hρ];split at h
   ·rename_i a f;rw[f];exact⟨_,λw=>by simp[eqGuard,binOp,QQ,Qh,kZ g],h⟩
   ·rename_i a f;rw[f];exact⟨_,λw=>by simp[eqGuard,binOp,QQ,Qh,kZ g],h⟩
   ·exact h.elim
  ·exact h.elim
 ·split at h
  ·rw[hρ];split at h
   ·unfold BZ at h;split at h
    ·rename_i f;rw[f];exact⟨_,λw=>by simp[eqGuard,binOp,QQ,Qh,(dK g _ _).1],h⟩
    ·rename_i f;rw[f];exact⟨_,λw=>by simp[eqGuard,binOp,QQ,Qh,(dK g _ _).2],h⟩
    ·exact h.elim
   ·unfold BZ at h;split at h
    ·rename_i f;rw[f];exact⟨_,λw=>by simp[eqGuard,binOp,QQ,Qh,(dK g _ _).1],h⟩
    ·rename_i f;rw[f];exact⟨_,λw=>by simp[eqGuard,binOp,QQ,Qh,(dK g _ _).2],h⟩
    ·exact h.elim
   ·exact h.elim
  ·exact h.elim
 ·split at h
  ·rw[hρ];split at h
   ·unfold wC at h;split at h
    ·rename_i f;rw[f];exact⟨_,λw=>by simp[eqGuard,binOp,QQ,Qh,(dY g _ _).1],h⟩
    ·rename_i f;rw[f];exact⟨_,λw=>by simp[eqGuard,binOp,QQ,Qh,(dY g _ _).2],h⟩
    ·exact h.elim
   ·unfold wC at h;split at h
    ·rename_i f;rw[f];exact⟨_,λw=>by simp[eqGuard,binOp,QQ,Qh,(dY g _ _).1],h⟩
    ·rename_i f;rw[f];exact⟨_,λw=>by simp[eqGuard,binOp,QQ,Qh,(dY g _ _).2],h⟩
    ·exact h.elim
   ·exact h.elim
  ·exact h.elim
 ·split at h
  ·split at h
   ·rename_i k a i b f j;rw[f,j];obtain⟨rfl,h1,l⟩:=m h;exact⟨_,λw=>by simp[eqGuard,binOp,WT,h1],l⟩
   ·exact h.elim
  ·split at h
   ·rename_i k a i b f j;rw[f,j];obtain⟨rfl,h1,l⟩:=m h;exact⟨_,λw=>by simp[eqGuard,binOp,WT,h1],l⟩
   ·exact h.elim
  ·split at h
   ·rename_i k a i b f j;rw[f,j];obtain⟨h1,l⟩:=h;exact⟨_,λw=>by simp[eqGuard,binOp,Xa,show ¬b<0 by omega];rfl,l⟩
   ·exact h.elim
  ·split at h
   ·rename_i k a i b f j;rw[f,j];obtain⟨h1,l⟩:=h;exact⟨_,λw=>by simp[eqGuard,binOp,Xa,show ¬b<0 by omega];rfl,l⟩
   ·exact h.elim
  ·exact h.elim
 ·split at h
  ·split at h
   ·rename_i a b f j;rw[f,j];have h1:(a.size:Int)+(b.size:Int)<=9223372036854775807:=by have:=h.1;omega
    exact⟨_,λw=>by simp only[eqGuard,binOp,Op.stringOp,OT];simp[h1],h.2⟩
   ·exact h.elim
  ·exact h.elim
 ·exact h.elim
theorem FL {t:Bool}{a b:Operand}{ρ:Operand->Value}(hρ:∀v,ρ (.const v)=v):qE t a b (ρ a) (ρ b)=if t then ρ a else ρ b:=by
 unfold qE;split
 ·rename_i x y c d;split
  ·have e:=hρ (.bool false);rw[d] at e;have e2:y=false:=by simpa using e
   rw[c,d,e2];cases t<;>simp
  ·split
   ·have e:=hρ (.bool true);rw[c] at e;have e2:x=true:=by simpa using e
    rw[c,d,e2];cases t<;>simp
   ·rw[c,d];cases t<;>simp
 ·cases t<;>simp
theorem tY {P:Program}{o:Oper}{ρ:Operand->Value}{K:Value->Prop}(hρ:∀v,ρ (.const v)=v)(h:vH P o.op ρ K):
  ∃v,(∀w:World,(execOp ρ o).run P w=.ok (.value v) w)/\K v:=by
 obtain⟨dst,op,type,pos,after,guard⟩:=o;simp only at h;unfold vH at h;cases op<;>simp only at h<;>try exact h.elim
 case pick c a b=>
  split at h
  ·rename_i t N;rw[FL hρ] at h;exact⟨_,λw=>by simp[execOp,N,asBool],h⟩
  ·exact h.elim
 case field t x f=>
  split at h
  ·split at h
   ·obtain⟨y,h1,g⟩:=h;exact⟨_,λw=>by simp only[execOp,OT,h1 w,OV,Pt],g⟩
   ·exact h.elim
  ·exact h.elim
 case build t parts=>
  obtain⟨y,h1,g⟩:=h;refine⟨_,λw=>?_,g⟩;have e:(parts.toList.map λq=>(q.1,ρ q.2)).toArray=parts.map λ(i,x)=>(i,ρ x):=by apply Array.ext';simp
  rw[e] at h1;simp only[execOp,OT,h1 w,OV,Pt]
 case nilCheck x=>
  unfold Fj at h;split at h
  ·rename_i p D;obtain⟨a,rfl,hk⟩:=fu h;exact⟨_,λw=>by simp only[execOp,D];rfl,hk⟩
  ·rename_i f a b D;exact⟨_,λw=>by simp only[execOp,D];rfl,h⟩
  ·rename_i t x D;exact⟨_,λw=>by simp only[execOp,D];rfl,h⟩
  ·exact h.elim
 case binOp op t x y Q=>
  split at h
  ·rename_i d hd;obtain⟨v,h1,g⟩:=wP hρ hd h;refine⟨v,λw=>?_,g⟩;have:=h1 w;simp only[execOp,OT] at this ⊢;rw[this];rfl
  ·exact h.elim
 case indexAddr t x i=>
  split at h
  ·rename_i el hu;split at h
   ·rename_i inf hi;split at h
    ·rename_i a n c k A j z;obtain⟨ad,rfl,⟨h1,g⟩,hk⟩:=fu h;refine⟨_,λw=>?_,hk⟩;simp[execOp,Wa,j,z,asIntOf,aI hu,cJ hi,h1,g]
    ·exact h.elim
   ·exact h.elim
  ·rename_i n el hu;split at h
   ·rename_i inf hi;split at h
    ·rename_i p k A j z;obtain⟨ad,rfl,⟨h1,g⟩,hk⟩:=fu h;refine⟨_,λw=>?_,hk⟩;simp[execOp,Wa,j,z,asIntOf,QB,aI hu,cJ hi,h1,g]
    ·exact h.elim
   ·exact h.elim
  ·exact h.elim
 case index t x i=>
  split at h
  ·rename_i hu;split at h
   ·rename_i s k A j z;obtain⟨⟨h1,g⟩,hk⟩:=h;refine⟨_,λw=>?_,hk⟩;have r:A.toNat<s.size:=by omega
    have H:s[A.toNat]?=some (s[A.toNat]'r):=getElem?_pos s A.toNat r;have C:qj s A.toNat=s[A.toNat]'r:=by
     unfold qj;rw[Array.getD_eq_getD_getElem?,Array.getElem?_eq_getElem r];rfl
    simp[execOp,UN,j,z,asIntOf,aI hu,h1,H,C]
   ·exact h.elim
  ·obtain⟨y,h1,g⟩:=h;exact⟨_,λw=>by simp only[execOp,OT,h1 w,OV,Pt],g⟩
  ·exact h.elim
 case slice t x lo hi I=>
  cases I with
  |some I=>
    cases hi with
    |none=>exact h.elim
    |some hi=>
    simp only at h;split at h
    ·rename_i el hu;split at h
     ·rename_i inf E;split at h
      ·rename_i a n c kh u R m j J hm;obtain⟨⟨h1,g⟩,⟨r,H⟩,C⟩:=h;obtain⟨m,rfl⟩:=QM h1;obtain⟨u,rfl⟩:=QM r;have L:m<=c:=by omega
       have M:u<=m:=by omega
       split at C
       ·rename_i B;refine⟨_,λw=>?_,C⟩;simp only[execOp,TS,UO,j,OT,aI hu,OV,B,Q2,J,hm];simp[QZ,SY,asIntOf,L,M,cJ E,cE]
       ·rename_i S l B;obtain⟨⟨O,T⟩,F⟩:=C;obtain⟨l,rfl⟩:=QM O;have G:l<=u:=by omega
        refine⟨_,λw=>?_,F⟩;simp only[execOp,TS,UO,j,OT,aI hu,OV,B,Q2,J,hm];simp[QZ,SY,asIntOf,L,M,G,cJ E,cE]
       ·exact C.elim
      ·exact h.elim
     ·exact h.elim
    ·exact h.elim
  |none=>
    simp only at h;split at h
    ·rename_i hu;split at h
     ·rename_i s j;obtain⟨l,u,h1,g⟩:=pP (P:=P) (isSlice:=false) h;refine⟨_,λw=>?_,g⟩;have r:=h1 w;simp only[execOp,TS,UO,j,OT,aI hu,OV,Uv];simp[r]
     ·exact h.elim
    ·rename_i el hu;split at h
     ·rename_i inf hi;split at h
      ·rename_i a n c j;obtain⟨l,u,h1,g⟩:=pP (P:=P) (isSlice:=true) h;refine⟨_,λw=>?_,g⟩;have r:=h1 w;simp only[execOp,TS,UO,j,OT,aI hu,OV,Uv];simp[r,cJ hi,cE]
      ·exact h.elim
     ·exact h.elim
    ·rename_i n el hu;split at h
     ·rename_i inf hi;split at h
      ·rename_i p j;obtain⟨a,rfl,hk⟩:=fu h;obtain⟨l,u,h1,g⟩:=pP (P:=P) (isSlice:=false) hk;refine⟨_,λw=>?_,g⟩;have r:=h1 w;simp only[execOp,TS,j,QB,OT,Pt,aI hu,OV,Uv];simp[r,cJ hi,cE];split<;>rfl
      ·exact h.elim
     ·exact h.elim
    ·exact h.elim
 case sliceToArrayPointer t x=>
  split at h
  ·rename_i n el hu;split at h
   ·rename_i a len c j;refine⟨_,λw=>?_,h.2⟩;simp[execOp,Instr.arrayAt,j,aI hu,show ¬len<n by omega]
   ·exact h.elim
  ·exact h.elim
end Go.Proofs.YtmkbhnholcaghaaGreatDoor
