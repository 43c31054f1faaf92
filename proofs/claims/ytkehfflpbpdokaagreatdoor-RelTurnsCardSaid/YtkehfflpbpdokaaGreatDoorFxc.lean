/-
 Ground, third text: what a walk of one operation asks, and that it is enough.
-/
import Derived.Test.YtkehfflpbpdokaaGreatDoorFxb
open Go.Instr renaming sureAddr->Mt,sliceBounds->MQ,sliceBound->NT,sliceAt->Ou,slice->PB,indexAt->Sb,index->Sy
open Go.Op renaming maxDepth->Mb,equalIn->MC,equal->ME,intDiv->SQ,shift->Ti
open Go.Result renaming andThen_ok->KZ
open Go.Sem renaming run_bind->KW,run_pure->Lm
open Int renaming eq_ofNat_of_zero_le->Mz
open Option renaming map_some->N0,map_none->Pn
namespace Go.Proofs.YtkehfflpbpdokaaGreatDoor
def nG (t:Bool)(a b:Operand)(va vb:Value):Value:=
 match va,vb with
 |.bool x,.bool y=>
   (match b with
   |.const (.bool false)=>.bool (t&&x)
   |_=>(match a with
     |.const (.bool true)=>.bool (t||y)
     |_=>.bool (bif t then x else y)))
 |_,_=>match t with|true=>va|false=>vb
def bw (a:Option Addr)(cap l size:Nat):Option Addr:=if cap=l then a else a.map (·.add (l*size))
def GG (cap len:Nat)(lo hi:Option Value)(K:Nat->Nat->Prop):Prop:=
 match hi with
 |none=>(match lo with
   |none=>K 0 len
   |some (.int _ l)=>(0<=l/\l<=(len:Int))/\K l.toNat len
   |_=>False)
 |some (.int _ h)=>(0<=h/\h<=(cap:Int))/\(match lo with
   |none=>K 0 h.toNat
   |some (.int _ l)=>(0<=l/\l<=h)/\K l.toNat h.toNat
   |_=>False)
 |_=>False
def yE (v:Value)(K:Bool->Prop):Prop:=match v with|.nilIface=>K true|.iface _ _=>K false|_=>False
def tx (v:Value)(K:Bool->Prop):Prop:=match v with|.nilFunc=>K true|.func _ _ _=>K false|_=>False
def CL (v:Value)(K:Value->Prop):Prop:=match v with
 |.pointer p=>ae p λa=>K (.pointer (some a))
 |.func (.func f) a b=>K (.func (.func f) a b)
 |.iface t x=>K (.iface t x)
 |_=>False
def xG (d:TypeDesc)(op:BinOp)(y:Operand)(vx vy:Value)(K:Value->Prop):Prop:=
 match d with
 |.pointer _=>(match y with
   |.const (.pointer none)=>(match op,vx with|.eql,.pointer a=>K (.bool a.isNone)|.neq,.pointer a=>K (.bool (!a.isNone))|_,_=>False)
   |_=>False)
 |.slice _=>(match y with
   |.const (.slice none _ _)=>(match op,vx with|.eql,.slice a _ _=>K (.bool a.isNone)|.neq,.slice a _ _=>K (.bool (!a.isNone))|_,_=>False)
   |_=>False)
 |.map _ _=>(match y with
   |.const (.map none)=>(match op,vx with|.eql,.map a=>K (.bool a.isNone)|.neq,.map a=>K (.bool (!a.isNone))|_,_=>False)
   |_=>False)
 |.interface _=>(match y with
   |.const .nilIface=>(match op with|.eql=>yE vx λb=>K (.bool b)|.neq=>yE vx λb=>K (.bool (!b))|_=>False)
   |_=>False)
 |.func _ _ _=>(match y with
   |.const .nilFunc=>(match op with|.eql=>tx vx λb=>K (.bool b)|.neq=>tx vx λb=>K (.bool (!b))|_=>False)
   |_=>False)
 |.int _=>(match op with
   |.quo=>(match vx,vy with|.int k a,.int k' b=>(bif k==k' then b≠0/\K (.int k (k.wrap (a.tdiv b))) else False)|_,_=>False)
   |.rem=>(match vx,vy with|.int k a,.int k' b=>(bif k==k' then b≠0/\K (.int k (a.tmod b)) else False)|_,_=>False)
   |.shl=>(match vx,vy with|.int k a,.int _ b=>0<=b/\K (.int k (dw k a b))|_,_=>False)
   |.shr=>(match vx,vy with|.int k a,.int _ b=>0<=b/\K (.int k (aZ k a b))|_,_=>False)
   |_=>False)
 |.string=>(match op with
   |.add=>(match vx,vy with|.string a,.string b=>((a.size+b.size:Nat):Int)<=9223372036854775807/\K (.string (a++b))|_,_=>False)
   |_=>False)
 |_=>False
def tT (P:Program)(op:Op)(ρ:Operand->Value)(K:Value->Prop):Prop:=
 match op with
 |.pick c a b=>(match ρ c with|.bool t=>K (nG t a b (ρ a) (ρ b))|_=>False)
 |.nilCheck x=>CL (ρ x) K
 |.binOp op t x y _=>(match P.underlying t with
   |some d=>xG d op y (ρ x) (ρ y) K
   |none=>False)
 |.indexAddr t x i=>(match P.underlying t with
   |some (.slice el)=>(match P.info? el with
     |some inf=>(match ρ x,ρ i with
       |.slice a n _,.int _ ix=>ae a λad=>(0<=ix/\ix<(n:Int))/\K (.pointer (some (ad.add (ix.toNat*inf.size))))
       |_,_=>False)
     |none=>False)
   |some (.array n el)=>(match P.info? el with
     |some inf=>(match ρ x,ρ i with
       |.pointer p,.int _ ix=>ae p λad=>(0<=ix/\ix<(n:Int))/\K (.pointer (some (ad.add (ix.toNat*inf.size))))
       |_,_=>False)
     |none=>False)
   |_=>False)
 |.index t x i=>(match P.underlying t with
   |some .string=>(match ρ x,ρ i with
     |.string s,.int _ ix=>(0<=ix/\ix<(s.size:Int))/\K (.int .u8 ((ca s ix.toNat).toNat:Int))
     |_,_=>False)
   |some (.array _ el)=>vC (jn P el) P (Sy t (ρ x) (ρ i)) λy=>K ((jn P el).enc y)
   |_=>False)
 |.slice t x lo hi none=>(match P.underlying t with
   |some .string=>(match ρ x with
     |.string s=>GG s.size s.size (lo.map ρ) (hi.map ρ) λl h=>K (.string (s.extract l h))
     |_=>False)
   |some (.slice el)=>(match P.info? el with
     |some inf=>(match ρ x with
       |.slice a n c=>GG c n (lo.map ρ) (hi.map ρ) λl h=>K (.slice (bw a c l inf.size) (h - l) (c - l))
       |_=>False)
     |none=>False)
   |some (.array n el)=>(match P.info? el with
     |some inf=>(match ρ x with
       |.pointer p=>ae p λa=>GG n n (lo.map ρ) (hi.map ρ) λl h=>K (.slice (bw (some a) n l inf.size) (h - l) (n - l))
       |_=>False)
     |none=>False)
   |_=>False)
 |.slice t x lo (some hi) (some mx)=>(match P.underlying t with
   |some (.slice el)=>(match P.info? el with
     |some inf=>(match ρ x,ρ hi,ρ mx with
       |.slice a _ c,.int _ h,.int _ m=>(0<=m/\m<=(c:Int))/\(0<=h/\h<=m)/\(match lo.map ρ with
         |none=>K (.slice (bw a m.toNat 0 inf.size) (h.toNat - 0) (m.toNat - 0))
         |some (.int _ l)=>(0<=l/\l<=h)/\K (.slice (bw a m.toNat l.toNat inf.size) (h.toNat - l.toNat) (m.toNat - l.toNat))
         |_=>False)
       |_,_,_=>False)
     |none=>False)
   |_=>False)
 |.sliceToArrayPointer t x=>(match P.underlying t with
   |some (.array n _)=>(match ρ x with|.slice a len _=>n<=len/\K (.pointer a)|_=>False)
   |_=>False)
 |.field t x f=>(match P.underlying t with
   |some (.struct fs)=>(match fs[f]? with
     |some fd=>vC (jn P fd.type) P (Instr.field t (ρ x) f) λy=>K ((jn P fd.type).enc y)
     |none=>False)
   |_=>False)
 |.build t parts=>vC (jn P t) P (Instr.build t (parts.toList.map λq=>(q.1,ρ q.2)).toArray) λy=>K ((jn P t).enc y)
 |_=>False
theorem aC {P:Program}{t:TypeId}{d:TypeDesc}(h:P.underlying t=some d)(w:World):(underlying t).run P w=.ok d w:=by
 simp[underlying,h]
theorem cj {P:Program}{t:TypeId}{i:TypeInfo}(h:P.info? t=some i)(w:World):(sizeOf t).run P w=.ok i.size w:=by
 simp[sizeOf,typeInfo,h]
theorem mY {P:Program}{isSlice:Bool}{cap len:Nat}{lo hi:Option Value}{K:Nat->Nat->Prop}(h:GG cap len lo hi K):
  ∃l u,(∀w:World,(MQ isSlice len cap lo hi none).run P w=.ok (l,u,cap) w)/\K l u:=by
 unfold GG at h
 split at h
 ·split at h
  ·exact⟨0,len,λw=>by simp[MQ],h⟩
  ·rename_i k l
   obtain⟨⟨h1,h2⟩,h3⟩:=h
   refine⟨l.toNat,len,λw=>?_,h3⟩
   simp[MQ,NT,asIntOf,h1,h2]
  ·exact h.elim
 ·rename_i k u
  obtain⟨⟨h1,h2⟩,h3⟩:=h
  split at h3
  ·refine⟨0,u.toNat,λw=>?_,h3⟩
   cases isSlice<;>simp[MQ,NT,asIntOf,h1,h2]
  ·rename_i k' l
   obtain⟨⟨h4,h5⟩,h6⟩:=h3
   obtain⟨u,rfl⟩:=Mz h1
   obtain⟨l,rfl⟩:=Mz h4
   have h7:l<=u:=by omega
   have h8:u<=cap:=by omega
   refine⟨l,u,λw=>?_,by simpa using h6⟩
   cases isSlice<;>simp[MQ,NT,asIntOf,h7,h8]
  ·exact h3.elim
 ·exact h.elim
theorem jE {P:Program}{t e:TypeId}(hu:P.underlying t=some (.pointer e))(a:Option Addr)(d:Nat)(w:World):(MC (d+1) t (.pointer a) (.pointer none)).run P w=.ok a.isNone w:=by
 cases a<;>simp[MC,aC hu]
theorem gX {P:Program}{t e:TypeId}(hu:P.underlying t=some (.slice e))(a:Option Addr)(n c n' c' d:Nat)(w:World):(MC (d+1) t (.slice a n c) (.slice none n' c')).run P w=.ok a.isNone w:=by
 cases a<;>simp[MC,aC hu]
theorem jG {P:Program}{t k e:TypeId}(hu:P.underlying t=some (.map k e))(a:Option Nat)(d:Nat)(w:World):(MC (d+1) t (.map a) (.map none)).run P w=.ok a.isNone w:=by
 cases a<;>simp[MC,aC hu]
theorem dr {P:Program}{t:TypeId}{ms:Array (String×TypeId)}(hu:P.underlying t=some (.interface ms))(d:Nat)(w:World):(MC (d+1) t .nilIface .nilIface).run P w=.ok true w/\∀u x,(MC (d+1) t (.iface u x) .nilIface).run P w=.ok false w:=by
 refine⟨?_,λu x=>?_⟩<;>simp[MC,aC hu]
theorem dE {P:Program}{t:TypeId}{ps rs:Array TypeId}{v:Bool}(hu:P.underlying t=some (.func ps rs v))(d:Nat)(w:World):(MC (d+1) t .nilFunc .nilFunc).run P w=.ok true w/\∀f a c,(MC (d+1) t (.func f a c) .nilFunc).run P w=.ok false w:=by
 refine⟨?_,λf a c=>?_⟩<;>simp[MC,aC hu]
theorem um {P:Program}{op:BinOp}{t:TypeId}{d:TypeDesc}{x y:Operand}{ρ:Operand->Value}{K:Value->Prop}(hρ:∀v,ρ (.const v)=v)
  (ht:P.underlying t=some d) (h:xG d op y (ρ x) (ρ y) K):∃v,(∀w:World,(do eqGuard op t x y (ρ x) (ρ y);binOp op t (ρ x) (ρ y):Sem Value).run P w=.ok v w)/\K v:=by
 unfold xG at h
 have keq:∀{k k':IntKind} {A:Prop},(bif k==k' then A else False)->k=k'/\A:=by
  intro k k' A h
  by_cases e:k=k'
  ·subst e;simp at h;exact⟨rfl,h⟩
  ·have:(k==k')=false:=by simpa using e
   rw[this] at h;exact h.elim
 split at h
 ·split at h
  ·rw[hρ]
   split at h
   ·rename_i a hx
    rw[hx]
    exact⟨_,λw=>by simp[eqGuard,binOp,ME,Mb,jE ht],h⟩
   ·rename_i a hx
    rw[hx]
    exact⟨_,λw=>by simp[eqGuard,binOp,ME,Mb,jE ht],h⟩
   ·exact h.elim
  ·exact h.elim
 ·split at h
  ·rw[hρ]
   split at h
   ·rename_i a n c hx
    rw[hx]
    exact⟨_,λw=>by simp[eqGuard,binOp,ME,Mb,gX ht],h⟩
   ·rename_i a n c hx
    rw[hx]
    exact⟨_,λw=>by simp[eqGuard,binOp,ME,Mb,gX ht],h⟩
   ·exact h.elim
  ·exact h.elim
 ·split at h
  ·rw[hρ]
   split at h
   ·rename_i a hx
    rw[hx]
    exact⟨_,λw=>by simp[eqGuard,binOp,ME,Mb,jG ht],h⟩
   ·rename_i a hx
    rw[hx]
    exact⟨_,λw=>by simp[eqGuard,binOp,ME,Mb,jG ht],h⟩
   ·exact h.elim
  ·exact h.elim
 ·split at h
  ·rw[hρ]
   split at h
   ·unfold yE at h
    split at h
    ·rename_i hx
     rw[hx]
     exact⟨_,λw=>by simp[eqGuard,binOp,ME,Mb,(dr ht _ _).1],h⟩
    ·rename_i hx
     rw[hx]
     exact⟨_,λw=>by simp[eqGuard,binOp,ME,Mb,(dr ht _ _).2],h⟩
    ·exact h.elim
   ·unfold yE at h
    split at h
    ·rename_i hx
     rw[hx]
     exact⟨_,λw=>by simp[eqGuard,binOp,ME,Mb,(dr ht _ _).1],h⟩
    ·rename_i hx
     rw[hx]
     exact⟨_,λw=>by simp[eqGuard,binOp,ME,Mb,(dr ht _ _).2],h⟩
    ·exact h.elim
   ·exact h.elim
  ·exact h.elim
 ·split at h
  ·rw[hρ]
   split at h
   ·unfold tx at h
    split at h
    ·rename_i hx
     rw[hx]
     exact⟨_,λw=>by simp[eqGuard,binOp,ME,Mb,(dE ht _ _).1],h⟩
    ·rename_i hx
     rw[hx]
     exact⟨_,λw=>by simp[eqGuard,binOp,ME,Mb,(dE ht _ _).2],h⟩
    ·exact h.elim
   ·unfold tx at h
    split at h
    ·rename_i hx
     rw[hx]
     exact⟨_,λw=>by simp[eqGuard,binOp,ME,Mb,(dE ht _ _).1],h⟩
    ·rename_i hx
     rw[hx]
     exact⟨_,λw=>by simp[eqGuard,binOp,ME,Mb,(dE ht _ _).2],h⟩
    ·exact h.elim
   ·exact h.elim
  ·exact h.elim
 ·split at h
  ·split at h
   ·rename_i k a k' b hx hy
    rw[hx,hy]
    obtain⟨rfl,h1,h2⟩:=keq h
    exact⟨_,λw=>by simp[eqGuard,binOp,SQ,h1],h2⟩
   ·exact h.elim
  ·split at h
   ·rename_i k a k' b hx hy
    rw[hx,hy]
    obtain⟨rfl,h1,h2⟩:=keq h
    exact⟨_,λw=>by simp[eqGuard,binOp,SQ,h1],h2⟩
   ·exact h.elim
  ·split at h
   ·rename_i k a k' b hx hy
    rw[hx,hy]
    obtain⟨h1,h2⟩:=h
    exact⟨_,λw=>by simp[eqGuard,binOp,Ti,show ¬b<0 by omega];rfl,h2⟩
   ·exact h.elim
  ·split at h
   ·rename_i k a k' b hx hy
    rw[hx,hy]
    obtain⟨h1,h2⟩:=h
    exact⟨_,λw=>by simp[eqGuard,binOp,Ti,show ¬b<0 by omega];rfl,h2⟩
   ·exact h.elim
  ·exact h.elim
 ·split at h
  ·split at h
   ·rename_i a b hx hy
    rw[hx,hy]
    have h1:(a.size:Int)+(b.size:Int)<=9223372036854775807:=by have:=h.1;omega
    exact⟨_,λw=>by simp only[eqGuard,binOp,Op.stringOp,KW];simp[h1],h.2⟩
   ·exact h.elim
  ·exact h.elim
 ·exact h.elim
theorem Bg {t:Bool}{a b:Operand}{ρ:Operand->Value}(hρ:∀v,ρ (.const v)=v):nG t a b (ρ a) (ρ b)=if t then ρ a else ρ b:=by
 unfold nG
 split
 ·rename_i x y hx hy
  split
  ·have e:=hρ (.bool false)
   rw[hy] at e
   have e2:y=false:=by simpa using e
   rw[hx,hy,e2];cases t<;>simp
  ·split
   ·have e:=hρ (.bool true)
    rw[hx] at e
    have e2:x=true:=by simpa using e
    rw[hx,hy,e2];cases t<;>simp
   ·rw[hx,hy];cases t<;>simp
 ·cases t<;>simp
theorem ru {P:Program}{o:Oper}{ρ:Operand->Value}{K:Value->Prop}(hρ:∀v,ρ (.const v)=v)(h:tT P o.op ρ K):
  ∃v,(∀w:World,(execOp ρ o).run P w=.ok (.value v) w)/\K v:=by
 obtain⟨dst,op,type,pos,after,guard⟩:=o
 simp only at h
 unfold tT at h
 cases op<;>simp only at h<;>try exact h.elim
 case pick c a b=>
  split at h
  ·rename_i t hc
   rw[Bg hρ] at h
   exact⟨_,λw=>by simp[execOp,hc,asBool],h⟩
  ·exact h.elim
 case field t x f=>
  split at h
  ·split at h
   ·obtain⟨y,h1,h2⟩:=h
    exact⟨_,λw=>by simp only[execOp,KW,h1 w,KZ,Lm],h2⟩
   ·exact h.elim
  ·exact h.elim
 case build t parts=>
  obtain⟨y,h1,h2⟩:=h
  refine⟨_,λw=>?_,h2⟩
  have e:(parts.toList.map λq=>(q.1,ρ q.2)).toArray=parts.map λ(i,x)=>(i,ρ x):=by apply Array.ext';simp
  rw[e] at h1
  simp only[execOp,KW,h1 w,KZ,Lm]
 case nilCheck x=>
  unfold CL at h
  split at h
  ·rename_i p hp
   obtain⟨a,rfl,hk⟩:=ee h
   exact⟨_,λw=>by simp only[execOp,hp];rfl,hk⟩
  ·rename_i f a b hp
   exact⟨_,λw=>by simp only[execOp,hp];rfl,h⟩
  ·rename_i t x hp
   exact⟨_,λw=>by simp only[execOp,hp];rfl,h⟩
  ·exact h.elim
 case binOp op t x y yt=>
  split at h
  ·rename_i d hd
   obtain⟨v,h1,h2⟩:=um hρ hd h
   refine⟨v,λw=>?_,h2⟩
   have:=h1 w
   simp only[execOp,KW] at this ⊢
   rw[this];rfl
  ·exact h.elim
 case indexAddr t x i=>
  split at h
  ·rename_i el hu
   split at h
   ·rename_i inf hi
    split at h
    ·rename_i a n c k ix hx hix
     obtain⟨ad,rfl,⟨h1,h2⟩,hk⟩:=ee h
     refine⟨_,λw=>?_,hk⟩
     simp[execOp,Sb,hx,hix,asIntOf,aC hu,cj hi,h1,h2]
    ·exact h.elim
   ·exact h.elim
  ·rename_i n el hu
   split at h
   ·rename_i inf hi
    split at h
    ·rename_i p k ix hx hix
     obtain⟨ad,rfl,⟨h1,h2⟩,hk⟩:=ee h
     refine⟨_,λw=>?_,hk⟩
     simp[execOp,Sb,hx,hix,asIntOf,Mt,aC hu,cj hi,h1,h2]
    ·exact h.elim
   ·exact h.elim
  ·exact h.elim
 case index t x i=>
  split at h
  ·rename_i hu
   split at h
   ·rename_i s k ix hx hix
    obtain⟨⟨h1,h2⟩,hk⟩:=h
    refine⟨_,λw=>?_,hk⟩
    have h3:ix.toNat<s.size:=by omega
    have h4:s[ix.toNat]?=some (s[ix.toNat]'h3):=getElem?_pos s ix.toNat h3
    have h5:ca s ix.toNat=s[ix.toNat]'h3:=by
     unfold ca
     rw[Array.getD_eq_getD_getElem?,Array.getElem?_eq_getElem h3];rfl
    simp[execOp,Sy,hx,hix,asIntOf,aC hu,h1,h4,h5]
   ·exact h.elim
  ·obtain⟨y,h1,h2⟩:=h
   exact⟨_,λw=>by simp only[execOp,KW,h1 w,KZ,Lm],h2⟩
  ·exact h.elim
 case slice t x lo hi mx=>
  cases mx with
  |some mx=>
    cases hi with
    |none=>exact h.elim
    |some hi=>
    simp only at h
    split at h
    ·rename_i el hu
     split at h
     ·rename_i inf hin
      split at h
      ·rename_i a n c kh u km m hx hh hm
       obtain⟨⟨h1,h2⟩,⟨h3,h4⟩,h5⟩:=h
       obtain⟨m,rfl⟩:=Mz h1
       obtain⟨u,rfl⟩:=Mz h3
       have h6:m<=c:=by omega
       have h7:u<=m:=by omega
       split at h5
       ·rename_i hlo
        refine⟨_,λw=>?_,h5⟩
        simp only[execOp,Ou,PB,hx,KW,aC hu,KZ,hlo,N0,hh,hm]
        simp[MQ,NT,asIntOf,h6,h7,cj hin,bw]
       ·rename_i kl l hlo
        obtain⟨⟨h8,h9⟩,h10⟩:=h5
        obtain⟨l,rfl⟩:=Mz h8
        have h11:l<=u:=by omega
        refine⟨_,λw=>?_,h10⟩
        simp only[execOp,Ou,PB,hx,KW,aC hu,KZ,hlo,N0,hh,hm]
        simp[MQ,NT,asIntOf,h6,h7,h11,cj hin,bw]
       ·exact h5.elim
      ·exact h.elim
     ·exact h.elim
    ·exact h.elim
  |none=>
    simp only at h
    split at h
    ·rename_i hu
     split at h
     ·rename_i s hx
      obtain⟨l,u,h1,h2⟩:=mY (P:=P) (isSlice:=false) h
      refine⟨_,λw=>?_,h2⟩
      have h3:=h1 w
      simp only[execOp,Ou,PB,hx,KW,aC hu,KZ,Pn]
      simp[h3]
     ·exact h.elim
    ·rename_i el hu
     split at h
     ·rename_i inf hi
      split at h
      ·rename_i a n c hx
       obtain⟨l,u,h1,h2⟩:=mY (P:=P) (isSlice:=true) h
       refine⟨_,λw=>?_,h2⟩
       have h3:=h1 w
       simp only[execOp,Ou,PB,hx,KW,aC hu,KZ,Pn]
       simp[h3,cj hi,bw]
      ·exact h.elim
     ·exact h.elim
    ·rename_i n el hu
     split at h
     ·rename_i inf hi
      split at h
      ·rename_i p hx
       obtain⟨a,rfl,hk⟩:=ee h
       obtain⟨l,u,h1,h2⟩:=mY (P:=P) (isSlice:=false) hk
       refine⟨_,λw=>?_,h2⟩
       have h3:=h1 w
       simp only[execOp,Ou,hx,Mt,KW,Lm,aC hu,KZ,Pn]
       simp[h3,cj hi,bw]
       split<;>rfl
      ·exact h.elim
     ·exact h.elim
    ·exact h.elim
 case sliceToArrayPointer t x=>
  split at h
  ·rename_i n el hu
   split at h
   ·rename_i a len c hx
    refine⟨_,λw=>?_,h.2⟩
    simp[execOp,Instr.arrayAt,hx,aC hu,show ¬len<n by omega]
   ·exact h.elim
  ·exact h.elim
end Go.Proofs.YtkehfflpbpdokaaGreatDoor
