/-
 Ground, third text: what a walk of one operation asks, and that it is enough.
-/
import Derived.Test.YtdpdmbceakdlmaaGreatDoorFxb
open Go.Instr renaming sureAddr->MC,sliceBounds->Nb,sliceBound->Oa,sliceAt->OW,slice->Qu,indexAt->RI,index->R0
open Go.Op renaming maxDepth->Mn,equalIn->MO,equal->MS,intDiv->Sn,shift->SB
open Go.Result renaming andThen_ok->K4
open Go.Sem renaming run_bind->K5,run_pure->Lu
open Int renaming eq_ofNat_of_zero_le->MJ
open Option renaming map_some->NL,map_none->Qh
namespace Go.Proofs.YtdpdmbceakdlmaaGreatDoor
def pd (t:Bool)(a b:Operand)(va vb:Value):Value:=
 match va,vb with
 |.bool x,.bool y=>
   (match b with
   |.const (.bool false)=>.bool (t&&x)
   |_=>(match a with
     |.const (.bool true)=>.bool (t||y)
     |_=>.bool (bif t then x else y)))
 |_,_=>match t with|true=>va|false=>vb
def fP (a:Option Addr)(cap l size:Nat):Option Addr:=if cap=l then a else a.map (·.add (l*size))
def IA (cap len:Nat)(lo hi:Option Value)(K:Nat->Nat->Prop):Prop:=
 match hi with
 |none=>(match lo with
   |none=>K 0 len
   |some (.int _ l)=>(0<=l/\l<=(len:Int))/\K l.toNat len
   |_=>False)
 |some (.int _ h)=>(0<=h/\h<=(cap:Int))/\(match lo with
   |none=>K 0 h.toNat
   |some (.int _ l)=>(0<=l/\l<=h)/\K l.toNat h.toNat
   |_=>False)
 |_=>False
def yS (v:Value)(K:Bool->Prop):Prop:=match v with|.nilIface=>K true|.iface _ _=>K false|_=>False
def um (v:Value)(K:Bool->Prop):Prop:=match v with|.nilFunc=>K true|.func _ _ _=>K false|_=>False
def Cd (v:Value)(K:Value->Prop):Prop:=match v with
 |.pointer p=>ab p λa=>K (.pointer (some a))
 |.func (.func f) a b=>K (.func (.func f) a b)
 |.iface t x=>K (.iface t x)
 |_=>False
def yu (d:TypeDesc)(op:BinOp)(y:Operand)(vx vy:Value)(K:Value->Prop):Prop:=
 match d with
 |.pointer _=>(match y with
   |.const (.pointer none)=>(match op,vx with|.eql,.pointer a=>K (.bool a.isNone)|.neq,.pointer a=>K (.bool (!a.isNone))|_,_=>False)
   |_=>False)
 |.slice _=>(match y with
   |.const (.slice none _ _)=>(match op,vx with|.eql,.slice a _ _=>K (.bool a.isNone)|.neq,.slice a _ _=>K (.bool (!a.isNone))|_,_=>False)
   |_=>False)
 |.map _ _=>(match y with
   |.const (.map none)=>(match op,vx with|.eql,.map a=>K (.bool a.isNone)|.neq,.map a=>K (.bool (!a.isNone))|_,_=>False)
   |_=>False)
 |.interface _=>(match y with
   |.const .nilIface=>(match op with|.eql=>yS vx λb=>K (.bool b)|.neq=>yS vx λb=>K (.bool (!b))|_=>False)
   |_=>False)
 |.func _ _ _=>(match y with
   |.const .nilFunc=>(match op with|.eql=>um vx λb=>K (.bool b)|.neq=>um vx λb=>K (.bool (!b))|_=>False)
   |_=>False)
 |.int _=>(match op with
   |.quo=>(match vx,vy with|.int k a,.int k' b=>(bif k==k' then b≠0/\K (.int k (k.wrap (a.tdiv b))) else False)|_,_=>False)
   |.rem=>(match vx,vy with|.int k a,.int k' b=>(bif k==k' then b≠0/\K (.int k (a.tmod b)) else False)|_,_=>False)
   |.shl=>(match vx,vy with|.int k a,.int _ b=>0<=b/\K (.int k (j5 k a b))|_,_=>False)
   |.shr=>(match vx,vy with|.int k a,.int _ b=>0<=b/\K (.int k (cI k a b))|_,_=>False)
   |_=>False)
 |.string=>(match op with
   |.add=>(match vx,vy with|.string a,.string b=>((a.size+b.size:Nat):Int)<=9223372036854775807/\K (.string (a++b))|_,_=>False)
   |_=>False)
 |_=>False
def qd (P:Program)(op:Op)(ρ:Operand->Value)(K:Value->Prop):Prop:=
 match op with
 |.pick c a b=>(match ρ c with|.bool t=>K (pd t a b (ρ a) (ρ b))|_=>False)
 |.nilCheck x=>Cd (ρ x) K
 |.binOp op t x y _=>(match P.underlying t with
   |some d=>yu d op y (ρ x) (ρ y) K
   |none=>False)
 |.indexAddr t x i=>(match P.underlying t with
   |some (.slice el)=>(match P.info? el with
     |some inf=>(match ρ x,ρ i with
       |.slice a n _,.int _ ix=>ab a λad=>(0<=ix/\ix<(n:Int))/\K (.pointer (some (ad.add (ix.toNat*inf.size))))
       |_,_=>False)
     |none=>False)
   |some (.array n el)=>(match P.info? el with
     |some inf=>(match ρ x,ρ i with
       |.pointer p,.int _ ix=>ab p λad=>(0<=ix/\ix<(n:Int))/\K (.pointer (some (ad.add (ix.toNat*inf.size))))
       |_,_=>False)
     |none=>False)
   |_=>False)
 |.index t x i=>(match P.underlying t with
   |some .string=>(match ρ x,ρ i with
     |.string s,.int _ ix=>(0<=ix/\ix<(s.size:Int))/\K (.int .u8 ((oH s ix.toNat).toNat:Int))
     |_,_=>False)
   |some (.array _ el)=>we (jA P el) P (R0 t (ρ x) (ρ i)) λy=>K ((jA P el).enc y)
   |_=>False)
 |.slice t x lo hi none=>(match P.underlying t with
   |some .string=>(match ρ x with
     |.string s=>IA s.size s.size (lo.map ρ) (hi.map ρ) λl h=>K (.string (s.extract l h))
     |_=>False)
   |some (.slice el)=>(match P.info? el with
     |some inf=>(match ρ x with
       |.slice a n c=>IA c n (lo.map ρ) (hi.map ρ) λl h=>K (.slice (fP a c l inf.size) (h - l) (c - l))
       |_=>False)
     |none=>False)
   |some (.array n el)=>(match P.info? el with
     |some inf=>(match ρ x with
       |.pointer p=>ab p λa=>IA n n (lo.map ρ) (hi.map ρ) λl h=>K (.slice (fP (some a) n l inf.size) (h - l) (n - l))
       |_=>False)
     |none=>False)
   |_=>False)
 |.slice t x lo (some hi) (some mx)=>(match P.underlying t with
   |some (.slice el)=>(match P.info? el with
     |some inf=>(match ρ x,ρ hi,ρ mx with
       |.slice a _ c,.int _ h,.int _ m=>(0<=m/\m<=(c:Int))/\(0<=h/\h<=m)/\(match lo.map ρ with
         |none=>K (.slice (fP a m.toNat 0 inf.size) (h.toNat - 0) (m.toNat - 0))
         |some (.int _ l)=>(0<=l/\l<=h)/\K (.slice (fP a m.toNat l.toNat inf.size) (h.toNat - l.toNat) (m.toNat - l.toNat))
         |_=>False)
       |_,_,_=>False)
     |none=>False)
   |_=>False)
 |.sliceToArrayPointer t x=>(match P.underlying t with
   |some (.array n _)=>(match ρ x with|.slice a len _=>n<=len/\K (.pointer a)|_=>False)
   |_=>False)
 |.field t x f=>(match P.underlying t with
   |some (.struct fs)=>(match fs[f]? with
     |some fd=>we (jA P fd.type) P (Instr.field t (ρ x) f) λy=>K ((jA P fd.type).enc y)
     |none=>False)
   |_=>False)
 |.build t parts=>we (jA P t) P (Instr.build t (parts.toList.map λq=>(q.1,ρ q.2)).toArray) λy=>K ((jA P t).enc y)
 |_=>False
theorem aE {P:Program}{t:TypeId}{d:TypeDesc}(h:P.underlying t=some d)(w:World):(underlying t).run P w=.ok d w:=by
 simp[underlying,h]
theorem bW {P:Program}{t:TypeId}{i:TypeInfo}(h:P.info? t=some i)(w:World):(sizeOf t).run P w=.ok i.size w:=by
 simp[sizeOf,typeInfo,h]
theorem oe {P:Program}{isSlice:Bool}{cap len:Nat}{lo hi:Option Value}{K:Nat->Nat->Prop}(h:IA cap len lo hi K):
  ∃l u,(∀w:World,(Nb isSlice len cap lo hi none).run P w=.ok (l,u,cap) w)/\K l u:=by
 unfold IA at h
 split at h
 ·split at h
  ·exact⟨0,len,λw=>by simp[Nb],h⟩
  ·rename_i k l
   obtain⟨⟨h1,h2⟩,h3⟩:=h
   refine⟨l.toNat,len,λw=>?_,h3⟩
   simp[Nb,Oa,asIntOf,h1,h2]
  ·exact h.elim
 ·rename_i k u
  obtain⟨⟨h1,h2⟩,h3⟩:=h
  split at h3
  ·refine⟨0,u.toNat,λw=>?_,h3⟩
   cases isSlice<;>simp[Nb,Oa,asIntOf,h1,h2]
  ·rename_i k' l
   obtain⟨⟨h4,h5⟩,h6⟩:=h3
   obtain⟨u,rfl⟩:=MJ h1
   obtain⟨l,rfl⟩:=MJ h4
   have h7:l<=u:=by omega
   have h8:u<=cap:=by omega
   refine⟨l,u,λw=>?_,by simpa using h6⟩
   cases isSlice<;>simp[Nb,Oa,asIntOf,h7,h8]
  ·exact h3.elim
 ·exact h.elim
theorem jT {P:Program}{t e:TypeId}(hu:P.underlying t=some (.pointer e))(a:Option Addr)(d:Nat)(w:World):(MO (d+1) t (.pointer a) (.pointer none)).run P w=.ok a.isNone w:=by
 cases a<;>simp[MO,aE hu]
theorem iM {P:Program}{t e:TypeId}(hu:P.underlying t=some (.slice e))(a:Option Addr)(n c n' c' d:Nat)(w:World):(MO (d+1) t (.slice a n c) (.slice none n' c')).run P w=.ok a.isNone w:=by
 cases a<;>simp[MO,aE hu]
theorem jX {P:Program}{t k e:TypeId}(hu:P.underlying t=some (.map k e))(a:Option Nat)(d:Nat)(w:World):(MO (d+1) t (.map a) (.map none)).run P w=.ok a.isNone w:=by
 cases a<;>simp[MO,aE hu]
theorem dK {P:Program}{t:TypeId}{ms:Array (String×TypeId)}(hu:P.underlying t=some (.interface ms))(d:Nat)(w:World):(MO (d+1) t .nilIface .nilIface).run P w=.ok true w/\∀u x,(MO (d+1) t (.iface u x) .nilIface).run P w=.ok false w:=by
 refine⟨?_,λu x=>?_⟩<;>simp[MO,aE hu]
theorem dW {P:Program}{t:TypeId}{ps rs:Array TypeId}{v:Bool}(hu:P.underlying t=some (.func ps rs v))(d:Nat)(w:World):(MO (d+1) t .nilFunc .nilFunc).run P w=.ok true w/\∀f a c,(MO (d+1) t (.func f a c) .nilFunc).run P w=.ok false w:=by
 refine⟨?_,λf a c=>?_⟩<;>simp[MO,aE hu]
theorem ui {P:Program}{op:BinOp}{t:TypeId}{d:TypeDesc}{x y:Operand}{ρ:Operand->Value}{K:Value->Prop}(hρ:∀v,ρ (.const v)=v)
  (ht:P.underlying t=some d) (h:yu d op y (ρ x) (ρ y) K):∃v,(∀w:World,(do eqGuard op t x y (ρ x) (ρ y);binOp op t (ρ x) (ρ y):Sem Value).run P w=.ok v w)/\K v:=by
 unfold yu at h
 have keq:∀{k k':IntKind} {A:Prop},(bif k==k' then A else False)->k=k'/\A:=by
  intro k k' A h
  by_cases e:k=k'
  ·subst e;simp at h;exact⟨rfl,h⟩
  ·have:(k==k')=false:=by simpa using e
   rw[this] at h;exact h.elim
 split at h
 ·split at h
  ·rw[hρ]
   split at h
   ·rename_i a hx
    rw[hx]
    exact⟨_,λw=>by simp[eqGuard,binOp,MS,Mn,jT ht],h⟩
   ·rename_i a hx
    rw[hx]
    exact⟨_,λw=>by simp[eqGuard,binOp,MS,Mn,jT ht],h⟩
   ·exact h.elim
  ·exact h.elim
 ·split at h
  ·rw[hρ]
   split at h
   ·rename_i a n c hx
    rw[hx]
    exact⟨_,λw=>by simp[eqGuard,binOp,MS,Mn,iM ht],h⟩
   ·rename_i a n c hx
    rw[hx]
    exact⟨_,λw=>by simp[eqGuard,binOp,MS,Mn,iM ht],h⟩
   ·exact h.elim
  ·exact h.elim
 ·split at h
  ·rw[hρ]
   split at h
   ·rename_i a hx
    rw[hx]
    exact⟨_,λw=>by simp[eqGuard,binOp,MS,Mn,jX ht],h⟩
   ·rename_i a hx
    rw[hx]
    exact⟨_,λw=>by simp[eqGuard,binOp,MS,Mn,jX ht],h⟩
   ·exact h.elim
  ·exact h.elim
 ·split at h
  ·rw[hρ]
   split at h
   ·unfold yS at h
    split at h
    ·rename_i hx
     rw[hx]
     exact⟨_,λw=>by simp[eqGuard,binOp,MS,Mn,(dK ht _ _).1],h⟩
    ·rename_i hx
     rw[hx]
     exact⟨_,λw=>by simp[eqGuard,binOp,MS,Mn,(dK ht _ _).2],h⟩
    ·exact h.elim
   ·unfold yS at h
    split at h
    ·rename_i hx
     rw[hx]
     exact⟨_,λw=>by simp[eqGuard,binOp,MS,Mn,(dK ht _ _).1],h⟩
    ·rename_i hx
     rw[hx]
     exact⟨_,λw=>by simp[eqGuard,binOp,MS,Mn,(dK ht _ _).2],h⟩
    ·exact h.elim
   ·exact h.elim
  ·exact h.elim
 ·split at h
  ·rw[hρ]
   split at h
   ·unfold um at h
    split at h
    ·rename_i hx
     rw[hx]
     exact⟨_,λw=>by simp[eqGuard,binOp,MS,Mn,(dW ht _ _).1],h⟩
    ·rename_i hx
     rw[hx]
     exact⟨_,λw=>by simp[eqGuard,binOp,MS,Mn,(dW ht _ _).2],h⟩
    ·exact h.elim
   ·unfold um at h
    split at h
    ·rename_i hx
     rw[hx]
     exact⟨_,λw=>by simp[eqGuard,binOp,MS,Mn,(dW ht _ _).1],h⟩
    ·rename_i hx
     rw[hx]
     exact⟨_,λw=>by simp[eqGuard,binOp,MS,Mn,(dW ht _ _).2],h⟩
    ·exact h.elim
   ·exact h.elim
  ·exact h.elim
 ·split at h
  ·split at h
   ·rename_i k a k' b hx hy
    rw[hx,hy]
    obtain⟨rfl,h1,h2⟩:=keq h
    exact⟨_,λw=>by simp[eqGuard,binOp,Sn,h1],h2⟩
   ·exact h.elim
  ·split at h
   ·rename_i k a k' b hx hy
    rw[hx,hy]
    obtain⟨rfl,h1,h2⟩:=keq h
    exact⟨_,λw=>by simp[eqGuard,binOp,Sn,h1],h2⟩
   ·exact h.elim
  ·split at h
   ·rename_i k a k' b hx hy
    rw[hx,hy]
    obtain⟨h1,h2⟩:=h
    exact⟨_,λw=>by simp[eqGuard,binOp,SB,show ¬b<0 by omega];rfl,h2⟩
   ·exact h.elim
  ·split at h
   ·rename_i k a k' b hx hy
    rw[hx,hy]
    obtain⟨h1,h2⟩:=h
    exact⟨_,λw=>by simp[eqGuard,binOp,SB,show ¬b<0 by omega];rfl,h2⟩
   ·exact h.elim
  ·exact h.elim
 ·split at h
  ·split at h
   ·rename_i a b hx hy
    rw[hx,hy]
    have h1:(a.size:Int)+(b.size:Int)<=9223372036854775807:=by have:=h.1;omega
    exact⟨_,λw=>by simp only[eqGuard,binOp,Op.stringOp,K5];simp[h1],h.2⟩
   ·exact h.elim
  ·exact h.elim
 ·exact h.elim
theorem Dc {t:Bool}{a b:Operand}{ρ:Operand->Value}(hρ:∀v,ρ (.const v)=v):pd t a b (ρ a) (ρ b)=if t then ρ a else ρ b:=by
 unfold pd
 split
 ·rename_i x y hx hy
  split
  ·have e:=hρ (.bool false)
   rw[hy] at e
   have e2:y=false:=by simpa using e
   rw[hx,hy,e2];cases t<;>simp
  ·split
   ·have e:=hρ (.bool true)
    rw[hx] at e
    have e2:x=true:=by simpa using e
    rw[hx,hy,e2];cases t<;>simp
   ·rw[hx,hy];cases t<;>simp
 ·cases t<;>simp
theorem lT {P:Program}{o:Oper}{ρ:Operand->Value}{K:Value->Prop}(hρ:∀v,ρ (.const v)=v)(h:qd P o.op ρ K):
  ∃v,(∀w:World,(execOp ρ o).run P w=.ok (.value v) w)/\K v:=by
 obtain⟨dst,op,type,pos,after,guard⟩:=o
 simp only at h
 unfold qd at h
 cases op<;>simp only at h<;>try exact h.elim
 case pick c a b=>
  split at h
  ·rename_i t hc
   rw[Dc hρ] at h
   exact⟨_,λw=>by simp[execOp,hc,asBool],h⟩
  ·exact h.elim
 case field t x f=>
  split at h
  ·split at h
   ·obtain⟨y,h1,h2⟩:=h
    exact⟨_,λw=>by simp only[execOp,K5,h1 w,K4,Lu],h2⟩
   ·exact h.elim
  ·exact h.elim
 case build t parts=>
  obtain⟨y,h1,h2⟩:=h
  refine⟨_,λw=>?_,h2⟩
  have e:(parts.toList.map λq=>(q.1,ρ q.2)).toArray=parts.map λ(i,x)=>(i,ρ x):=by apply Array.ext';simp
  rw[e] at h1
  simp only[execOp,K5,h1 w,K4,Lu]
 case nilCheck x=>
  unfold Cd at h
  split at h
  ·rename_i p hp
   obtain⟨a,rfl,hk⟩:=eT h
   exact⟨_,λw=>by simp only[execOp,hp];rfl,hk⟩
  ·rename_i f a b hp
   exact⟨_,λw=>by simp only[execOp,hp];rfl,h⟩
  ·rename_i t x hp
   exact⟨_,λw=>by simp only[execOp,hp];rfl,h⟩
  ·exact h.elim
 case binOp op t x y yt=>
  split at h
  ·rename_i d hd
   obtain⟨v,h1,h2⟩:=ui hρ hd h
   refine⟨v,λw=>?_,h2⟩
   have:=h1 w
   simp only[execOp,K5] at this ⊢
   rw[this];rfl
  ·exact h.elim
 case indexAddr t x i=>
  split at h
  ·rename_i el hu
   split at h
   ·rename_i inf hi
    split at h
    ·rename_i a n c k ix hx hix
     obtain⟨ad,rfl,⟨h1,h2⟩,hk⟩:=eT h
     refine⟨_,λw=>?_,hk⟩
     simp[execOp,RI,hx,hix,asIntOf,aE hu,bW hi,h1,h2]
    ·exact h.elim
   ·exact h.elim
  ·rename_i n el hu
   split at h
   ·rename_i inf hi
    split at h
    ·rename_i p k ix hx hix
     obtain⟨ad,rfl,⟨h1,h2⟩,hk⟩:=eT h
     refine⟨_,λw=>?_,hk⟩
     simp[execOp,RI,hx,hix,asIntOf,MC,aE hu,bW hi,h1,h2]
    ·exact h.elim
   ·exact h.elim
  ·exact h.elim
 case index t x i=>
  split at h
  ·rename_i hu
   split at h
   ·rename_i s k ix hx hix
    obtain⟨⟨h1,h2⟩,hk⟩:=h
    refine⟨_,λw=>?_,hk⟩
    have h3:ix.toNat<s.size:=by omega
    have h4:s[ix.toNat]?=some (s[ix.toNat]'h3):=getElem?_pos s ix.toNat h3
    have h5:oH s ix.toNat=s[ix.toNat]'h3:=by
     unfold oH
     rw[Array.getD_eq_getD_getElem?,Array.getElem?_eq_getElem h3];rfl
    simp[execOp,R0,hx,hix,asIntOf,aE hu,h1,h4,h5]
   ·exact h.elim
  ·obtain⟨y,h1,h2⟩:=h
   exact⟨_,λw=>by simp only[execOp,K5,h1 w,K4,Lu],h2⟩
  ·exact h.elim
 case slice t x lo hi mx=>
  cases mx with
  |some mx=>
    cases hi with
    |none=>exact h.elim
    |some hi=>
    simp only at h
    split at h
    ·rename_i el hu
     split at h
     ·rename_i inf hin
      split at h
      ·rename_i a n c kh u km m hx hh hm
       obtain⟨⟨h1,h2⟩,⟨h3,h4⟩,h5⟩:=h
       obtain⟨m,rfl⟩:=MJ h1
       obtain⟨u,rfl⟩:=MJ h3
       have h6:m<=c:=by omega
       have h7:u<=m:=by omega
       split at h5
       ·rename_i hlo
        refine⟨_,λw=>?_,h5⟩
        simp only[execOp,OW,Qu,hx,K5,aE hu,K4,hlo,NL,hh,hm]
        simp[Nb,Oa,asIntOf,h6,h7,bW hin,fP]
       ·rename_i kl l hlo
        obtain⟨⟨h8,h9⟩,h10⟩:=h5
        obtain⟨l,rfl⟩:=MJ h8
        have h11:l<=u:=by omega
        refine⟨_,λw=>?_,h10⟩
        simp only[execOp,OW,Qu,hx,K5,aE hu,K4,hlo,NL,hh,hm]
        simp[Nb,Oa,asIntOf,h6,h7,h11,bW hin,fP]
       ·exact h5.elim
      ·exact h.elim
     ·exact h.elim
    ·exact h.elim
  |none=>
    simp only at h
    split at h
    ·rename_i hu
     split at h
     ·rename_i s hx
      obtain⟨l,u,h1,h2⟩:=oe (P:=P) (isSlice:=false) h
      refine⟨_,λw=>?_,h2⟩
      have h3:=h1 w
      simp only[execOp,OW,Qu,hx,K5,aE hu,K4,Qh]
      simp[h3]
     ·exact h.elim
    ·rename_i el hu
     split at h
     ·rename_i inf hi
      split at h
      ·rename_i a n c hx
       obtain⟨l,u,h1,h2⟩:=oe (P:=P) (isSlice:=true) h
       refine⟨_,λw=>?_,h2⟩
       have h3:=h1 w
       simp only[execOp,OW,Qu,hx,K5,aE hu,K4,Qh]
       simp[h3,bW hi,fP]
      ·exact h.elim
     ·exact h.elim
    ·rename_i n el hu
     split at h
     ·rename_i inf hi
      split at h
      ·rename_i p hx
       obtain⟨a,rfl,hk⟩:=eT h
       obtain⟨l,u,h1,h2⟩:=oe (P:=P) (isSlice:=false) hk
       refine⟨_,λw=>?_,h2⟩
       have h3:=h1 w
       simp only[execOp,OW,hx,MC,K5,Lu,aE hu,K4,Qh]
       simp[h3,bW hi,fP]
       split<;>rfl
      ·exact h.elim
     ·exact h.elim
    ·exact h.elim
 case sliceToArrayPointer t x=>
  split at h
  ·rename_i n el hu
   split at h
   ·rename_i a len c hx
    refine⟨_,λw=>?_,h.2⟩
    simp[execOp,Instr.arrayAt,hx,aE hu,show ¬len<n by omega]
   ·exact h.elim
  ·exact h.elim
end Go.Proofs.YtdpdmbceakdlmaaGreatDoor
