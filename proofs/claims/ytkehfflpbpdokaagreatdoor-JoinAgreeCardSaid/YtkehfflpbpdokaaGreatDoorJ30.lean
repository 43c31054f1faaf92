/-
 The pool in plain words: what it holds, and what each call makes of it.
-/
import Derived.Test.YtkehfflpbpdokaaGreatDoorDkm
import Derived.Test.YtkehfflpbpdokaaGreatDoorDkb
import Derived.Test.YtkehfflpbpdokaaGreatDoorPga
import Derived.Test.YtkehfflpbpdokaaGreatDoorPgb
import Derived.Test.YtkehfflpbpdokaaGreatDoorFxo
open Bool renaming and_eq_true->Qz,true_and->TY
open Go.Addr renaming add->QS
open Go.Builtin renaming delete_->RN
open Go.Instr renaming lookup->RK
open Go.IntKind renaming i64->Qe
open Go.Program renaming keyLits->Wq
open Go.Proofs.Tryz renaming prog->Qf
open Go.Value renaming formed->YR
open Go.Value.int renaming injEq->UG
open Go.WideMaps renaming KeyLaw->UF
open Iff renaming rfl->TW
open Int renaming le_refl->Uf
open List renaming getElem?_eq_getElem->Qg,mem_of_getElem?->Qi,mem_append->Qj,getElem?_eq_some_iff->Qk,mem_iff_getElem?->Qr,length_append->Qt,mem_map->QB,getElem?_map->QC,length_cons->QJ,mem_filter->QL,getElem?_append_left->QR,mem_singleton->QV,nodup_append->QY,map_append->Q4,flatMap_cons->Q5,getElem?_set->Rc,getElem?_append_right->Re,append_assoc->Rg,nodup_cons->Rp,mem_flatMap->Rs,getElem?_cons_succ->RD,length_singleton->RF,map_cons->RH,getElem?_inj->RM,mem_of_mem_eraseIdx->RW,getElem?_eq_none->Sm,length_eraseIdx_of_lt->Sq,filter_sublist->SD,pairwise_map->SH,pairwise_iff_getElem->Ta,map_set->Tq,length_modify->Ty,findIdx?_eq_none_iff->Tz,isEmpty_iff->TJ,sum_cons->TX,findIdx?_eq_some_iff_getElem->Ue,getElem?_cons_zero->Vq,perm_middle->VG,modify_succ_cons->VL,singleton_append->VN,Nodup->VT,map_nil->VV,modify_zero_cons->XX,pairwise_filter->Yf
open List.Sublist renaming refl->UN
open Nat renaming le_refl->Qm,eq_of_beq_eq_true->QH,zero_le->QN,beq->QQ,le_trans->QZ,le_succ->Ri,le_of_ble_eq_true->TU
open Option renaming map_eq_some_iff->Vv
open Option.some renaming inj->Qq,injEq->Rv
open Prod renaming fst->Ye,snd->YJ
open Prod.mk renaming injEq->RO
namespace Go.Proofs.YtkehfflpbpdokaaGreatDoor
structure Fr where
 name:ByteArray
 ag:Nat
 kind:UInt8
 b:List UInt8
 dirty:Bool
 pins:List Int
 left:Int
def Pr:Fr:=⟨ByteArray.empty,0,0,[],false,[],0⟩
def Fr.gT (f:Fr):List UInt8:=cD f.kind f.b
structure Pl where
 d:Dk
 most:Nat
 fs:List Fr
 next:Int
 tick:Int
 peak:Nat
 wrong:Int
def Pl.frame (p:Pl)(i:Nat):Fr:=p.fs.getD i Pr
def Pl.find (p:Pl)(n:ByteArray)(g:Int):Option Nat:=p.fs.findIdx? λf=>f.name.toList==n.toList&&decide ((f.ag:Int)=g)
def Pl.held (p:Pl)(h:Int):Option Nat:=p.fs.findIdx? λf=>f.pins.contains h
def bad (e:Int):Bool:=e==4||e==5||e==20
def Pl.met (p:Pl)(e:Int):Pl:=if bad e then {p with wrong:=e} else p
def Pl.out (r:Pl×Int):Pl×Int:=(r.1.met r.2,r.2)
def Pl.dH (p:Pl)(d:Dk):Pl:={p with d:=d}
def Pl.drop (p:Pl)(i:Nat):Pl:={p with fs:=p.fs.eraseIdx i}
def Pl.fP (p:Pl)(i:Nat)(u:Fr->Fr):Pl:={p with fs:=p.fs.modify i u}
def Fr.clean (f:Fr):Fr:={f with dirty:=false}
def Pl.put (p:Pl)(i:Nat):Pl×Int:=
 if (p.d.write (p.frame i).name (p.frame i).ag (p.frame i).gT).2=0 then ((p.dH (p.d.write (p.frame i).name (p.frame i).ag (p.frame i).gT).1).fP i Fr.clean,0)
 else (p.dH (p.d.write (p.frame i).name (p.frame i).ag (p.frame i).gT).1,(p.d.write (p.frame i).name (p.frame i).ag (p.frame i).gT).2)
def tx (f:Fr)(b:Option (Nat×Int)):Bool:=match b with|none=>true|some x=>decide (f.left<x.2)
def v8:List Fr->Nat->Option (Nat×Int)->Option (Nat×Int)
 |[],_,b=>b
 |f::l,i,b=>v8 l (i+1) (if f.pins.isEmpty&&tx f b then some (i,f.left) else b)
def Pl.mT (p:Pl):Option Nat:=(v8 p.fs 0 none).map (·.1)
def Pl.room (p:Pl):Pl×Int:=
 if p.fs.length<p.most then (p,0) else
 match p.mT with
 |none=>(p,31)
 |some i=>if (p.frame i).dirty then (if (p.put i).2=0 then ((p.put i).1.drop i,0) else p.put i) else (p.drop i,0)
def Fr.cK (h:Int)(f:Fr):Fr:={f with pins:=f.pins++[h]}
def Pl.lO (p:Pl)(i:Nat):Pl:={p with fs:=p.fs.modify i (Fr.cK p.next),next:=gQ (p.next+1)}
def Pl.add (p:Pl)(f:Fr):Pl:={p with fs:=p.fs++[f],peak:=max p.peak (p.fs.length+1)}
def Pl.take (p:Pl)(f:Fr):Pl:=(p.add f).lO p.fs.length
def Pl.load (p:Pl)(n:ByteArray)(g:Int):Pl×Option Fr×Int:=
 if (p.d.len n).2≠0 then (p,none,(p.d.len n).2)
 else if g<0\/g>=(p.d.len n).1 then (p,none,12)
 else if p.room.2≠0 then (p.room.1,none,p.room.2)
 else if (p.room.1.d.read n g).2≠0 then (p.room.1,none,(p.room.1.d.read n g).2)
 else match gV (p.room.1.d.read n g).1 with
  |none=>(p.room.1,none,20)
  |some (k,b)=>(p.room.1,some ⟨n,g.toNat,k,b,false,[],0⟩,0)
def Pl.cK (p:Pl)(n:ByteArray)(g:Int):Pl×Int×Int:=
 if p.wrong≠0 then (p,0,p.wrong) else
 match p.find n g with
 |some i=>(p.lO i,p.next,0)
 |none=>
   match p.load n g with
   |(q,some f,_)=>(q.take f,q.next,0)
   |(q,none,e)=>(q.met e,0,e)
def Pl.fresh (p:Pl)(n:ByteArray):Pl×Int×Int×Int:=
 if p.wrong≠0 then (p,0,0,p.wrong)
 else if (p.d.len n).2≠0 then (p.met (p.d.len n).2,0,0,(p.d.len n).2)
 else if p.room.2≠0 then (p.room.1.met p.room.2,0,0,p.room.2)
 else if (p.room.1.d.write n (p.d.len n).1 (cD 0 [])).2≠0 then ((p.room.1.dH (p.room.1.d.write n (p.d.len n).1 (cD 0 [])).1).met (p.room.1.d.write n (p.d.len n).1 (cD 0 [])).2,0,0,(p.room.1.d.write n (p.d.len n).1 (cD 0 [])).2)
 else ((p.room.1.dH (p.room.1.d.write n (p.d.len n).1 (cD 0 [])).1).take ⟨n,(p.d.len n).1,0,[],false,[],0⟩,p.room.1.next,(p.d.len n).1,0)
def Pl.get (p:Pl)(h:Int):UInt8×List UInt8×Int:=
 if p.wrong≠0 then (0,[],p.wrong) else match p.held h with
 |some i=>((p.frame i).kind,(p.frame i).b,0)
 |none=>(0,[],32)
def Fr.set (k:UInt8)(b:List UInt8)(f:Fr):Fr:={f with kind:=k,b:=b,dirty:=true}
def Pl.set (p:Pl)(h:Int)(k:UInt8)(b:List UInt8):Pl×Int:=
 if p.wrong≠0 then (p,p.wrong) else match p.held h with
 |some i=>if b.length>504 then (p,2) else (p.fP i (Fr.set k b),0)
 |none=>(p,32)
def Fr.bK (h t:Int)(f:Fr):Fr:={f with pins:=f.pins.filter (λx=>decide (x≠h)),left:=t}
def Pl.bK (p:Pl)(h:Int):Pl×Int:=
 if p.wrong≠0 then (p,p.wrong) else match p.held h with
 |some i=>({p with fs:=p.fs.modify i (Fr.bK h (gQ (p.tick+1))),tick:=gQ (p.tick+1)},0)
 |none=>(p,32)
def Pl.pF (p:Pl)(n:ByteArray):List Nat:=((p.fs.filter λf=>f.name.toList==n.toList).map (·.ag)).mergeSort λa b=>decide (a<=b)
def Pl.forget (p:Pl)(n:ByteArray):Pl:={p with fs:=p.fs.filter λf=>!(f.name.toList==n.toList)}
def Pl.kr (p:Pl)(n:ByteArray):Pl×Int:=
 if p.wrong≠0 then (p,p.wrong)
 else if (p.d.len n).2≠0 then Pl.out (p,(p.d.len n).2)
 else if p.fs.any (λf=>f.name.toList==n.toList&&!f.pins.isEmpty) then (p,31)
 else Pl.out ((p.forget n).dH (p.d.remove n).1,(p.d.remove n).2)
def vY (d:Dk)(m:Nat):Pl:=⟨d,m,[],1,0,0,0⟩
def Fr.key (f:Fr):ByteArray×Nat:=(f.name,f.ag)
def Pl.pins (p:Pl):Nat:=(p.fs.map λf=>f.pins.length).sum
structure Pl.WF (p:Pl):Prop where
 keys:(p.fs.map Fr.key).Nodup
 len:p.fs.length<=p.most
 most:8<=p.most/\p.most<=4096
 room:∀f∈p.fs,f.b.length<=504
 aG:∀f∈p.fs,f.ag<1048577/\f.name.size<=9223372036854775807
 pins:(p.fs.flatMap (·.pins)).Nodup
 old:∀f∈p.fs,∀h∈f.pins,1<=h/\h<p.next
 tick:0<=p.tick/\p.tick+p.pins<p.next
 lefts:∀(i j:Nat) (f g:Fr),p.fs[i]?=some f->p.fs[j]?=some g->f.pins=[]->g.pins=[]->f.left=g.left->i=j
 past:∀f∈p.fs,0<=f.left/\f.left<=p.tick
 peak:p.fs.length<=p.peak/\p.peak<=p.most
theorem lz {α:Type}{l:List α}{q:α->Bool}{i:Nat}{x:α}(a:l[i]?=some x)(b:q x=true)(hu:∀j y,l[j]?=some y->q y=true->j=i):l.findIdx? q=some i:=by
 obtain⟨hi,rfl⟩:=Qk.1 a;rw[Ue];refine⟨hi,b,λj c=>?_⟩;cases h:q l[j] with
 |false=>simp
 |true=>have:=hu j _ (Qg (by omega)) h;omega
theorem rM {α:Type}{l:List α}{q:α->Bool}{i:Nat}(h:l.findIdx? q=some i):∃x,l[i]?=some x/\q x=true:=by
 rw[Ue] at h;obtain⟨h1,a,_⟩:=h;exact⟨l[i],Qg h1,a⟩
theorem Pl.ky {p:Pl}{i:Nat}{f:Fr}(h:p.fs[i]?=some f):p.frame i=f:=by simp[Pl.frame,h]
theorem Pl.wT {p:Pl}{n:ByteArray}{g:Int}{i:Nat}(h:p.find n g=some i):∃f,p.fs[i]?=some f/\f.name=n/\(f.ag:Int)=g:=by
 obtain⟨f,h1,a⟩:=rM h;simp only[Qz,beq_iff_eq,decide_eq_true_eq] at a;exact⟨f,h1,ka a.1,a.2⟩
theorem Pl.nB {p:Pl}{n:ByteArray}{g:Int}(h:p.find n g=none):∀f∈p.fs,f.name=n->(f.ag:Int)≠g:=by
 unfold Pl.find at h;rw[Tz] at h;intro f a e e2;have:=h f a;rw[e] at this;simp[e2] at this
theorem key_inj {p:Pl}(h:(p.fs.map Fr.key).Nodup){i j:Nat}{f g:Fr}(hi:p.fs[i]?=some f)(b:p.fs[j]?=some g)(c:f.name=g.name)(e2:f.ag=g.ag):i=j:=by
 have a:=(Qk.1 hi).1;refine(RM (l:=p.fs.map Fr.key) (by simpa using a) h).1 ?_;rw[QC,QC,hi,b];simp[Fr.key,c,e2]
theorem Pl.find_eq {p:Pl}(hw:p.WF){i:Nat}{f:Fr}(h:p.fs[i]?=some f):p.find f.name f.ag=some i:=by
 refine lz h (by simp) λj g b a=>?_;simp only[Qz,beq_iff_eq,decide_eq_true_eq] at a;exact key_inj hw.keys b h (ka a.1) (by omega)
theorem Pl.qB {p:Pl}{h:Int}{i:Nat}(e:p.held h=some i):∃f,p.fs[i]?=some f/\h∈f.pins:=by
 obtain⟨f,h1,a⟩:=rM e;exact⟨f,h1,by simpa using a⟩
theorem ux {α β:Type}{u:α->List β}:∀{l:List α},(l.flatMap u).Nodup->∀{i j:Nat} {f g:α} {x:β},l[i]?=some f->l[j]?=some g->x∈u f->x∈u g->i=j
 |[],_,i,j,f,g,x,hi,_,_,_=>by simp at hi
 |a::l,h,i,j,f,g,x,hi,b,c,d=>by
   rw[Q5,QY] at h;obtain⟨h1,k,e⟩:=h
   match i,j with
   |0,0=>rfl
   |0,j+1=>
     simp only[Vq,Rv,RD] at hi b;subst hi;exact absurd rfl (e x c x (Rs.2 ⟨g,Qi b,d⟩))
   |i+1,0=>
     simp only[Vq,Rv,RD] at hi b;subst b;exact absurd rfl (e x d x (Rs.2 ⟨f,Qi hi,c⟩))
   |i+1,j+1=>
     simp only[RD] at hi b;rw[ux k hi b c d]
theorem Pl.so {p:Pl}(hw:p.WF){i:Nat}{f:Fr}{h:Int}(e:p.fs[i]?=some f)(hm:h∈f.pins):p.held h=some i:=
 lz e (by simpa using hm) λ_ _ a b=>ux hw.pins a e (by simpa using b) hm
def x6 (l:List Fr)(b:Option (Nat×Int)):Prop:=
 match b with
 |none=>∀f∈l,f.pins≠[]
 |some (i,t)=>∃f,l[i]?=some f/\f.pins=[]/\f.left=t/\∀g∈l,g.pins=[]->t<=g.left
theorem zj:∀(r l:List Fr) (b:Option (Nat×Int)),x6 l b->x6 (l++r) (v8 r l.length b)
 |[],l,b,h=>by simpa[v8] using h
 |f::r,l,b,h=>by
   unfold v8;have key:x6 (l++[f]) (if f.pins.isEmpty&&tx f b then some (l.length,f.left) else b):=by
    cases m:f.pins.isEmpty with
    |false=>
      have d:f.pins≠[]:=by intro e;rw[e] at m;cases m
      rw[Bool.false_and,if_neg (by simp)];cases b with
      |none=>
        intro g p;rcases Qj.1 p with q|q
        ·exact h g q
        ·simp at q;subst q;exact d
      |some it=>
        obtain⟨i,t⟩:=it;obtain⟨g,h1,n,o,k⟩:=h;refine⟨g,?_,n,o,λx c a=>?_⟩
        ·rw[QR (Qk.1 h1).1];exact h1
        ·rcases Qj.1 c with q|q
         ·exact k x q a
         ·simp at q;subst q;exact absurd a d
    |true=>
      have he:f.pins=[]:=TJ.1 m;cases b with
      |none=>
        rw[TY,show tx f none=true from rfl,if_pos rfl];refine⟨f,by simp,he,rfl,λx c a=>?_⟩;rcases Qj.1 c with q|q
        ·exact absurd a (h x q)
        ·simp at q;subst q;exact Uf _
      |some it=>
        obtain⟨i,t⟩:=it;obtain⟨g,h1,n,o,k⟩:=h;rw[TY];by_cases j:f.left<t
        ·rw[show tx f (some (i,t))=true from by simp[tx,j],if_pos rfl];refine⟨f,by simp,he,rfl,λx c a=>?_⟩;rcases Qj.1 c with q|q
         ·have:=k x q a;omega
         ·simp at q;subst q;exact Uf _
        ·rw[show tx f (some (i,t))=false from by simp[tx,j],if_neg (by simp)];refine⟨g,?_,n,o,λx c a=>?_⟩
         ·rw[QR (Qk.1 h1).1];exact h1
         ·rcases Qj.1 c with q|q
          ·exact k x q a
          ·simp at q;subst q;omega
   have:=zj r (l++[f]) _ key;rw[Qt,RF,Rg,VN] at this;exact this
theorem Pl.sv (p:Pl):x6 p.fs (v8 p.fs 0 none):=by
 have:=zj p.fs [] none (by intro f a;cases a);simpa using this
theorem Pl.wM {p:Pl}(h:p.mT=none):∀f∈p.fs,f.pins≠[]:=by
 have:=p.sv;unfold Pl.mT at h;rw[Option.map_eq_none_iff] at h;rw[h] at this;exact this
theorem Pl.kz {p:Pl}{i:Nat}(h:p.mT=some i):∃f,p.fs[i]?=some f/\f.pins=[]/\∀g∈p.fs,g.pins=[]->f.left<=g.left:=by
 have:=p.sv;unfold Pl.mT at h;rw[Vv] at h;obtain⟨⟨j,t⟩,h1,rfl⟩:=h;rw[h1] at this;obtain⟨f,a,b,c,d⟩:=this;exact⟨f,a,b,λg e k=>by rw[c];exact d g e k⟩
theorem Pl.Jx {p:Pl}(hw:p.WF){i:Nat}{f:Fr}(a:p.fs[i]?=some f)(b:f.pins=[])(d:∀g∈p.fs,g.pins=[]->f.left<=g.left):p.mT=some i:=by
 cases h:p.mT with
 |none=>exact absurd b (Pl.wM h f (Qi a))
 |some j=>
   obtain⟨g,h1,c,e⟩:=Pl.kz h;have k:=d g (Qi h1) c;have e2:=e f (Qi a) b;rw[hw.lefts j i g f h1 a c b (by omega)]
theorem Pl.WF.aD {p q:Pl}(h:p.WF)(f:q.fs=p.fs)(hm:q.most=p.most)(g:q.next=p.next)(i:q.tick=p.tick)(hk:q.peak=p.peak):q.WF:=by
 obtain⟨d,most,fs,next,tick,peak,wrong⟩:=q;obtain⟨d',b,j,next',c,e,a⟩:=p;simp only at f hm g i hk;subst f;subst hm;subst g;subst i;subst hk;exact⟨h.keys,h.len,h.most,h.room,h.aG,h.pins,h.old,h.tick,h.lefts,h.past,h.peak⟩
theorem Pl.WF.dH {p:Pl}(h:p.WF)(d:Dk):(p.dH d).WF:=h.aD rfl rfl rfl rfl rfl
theorem Pl.WF.met {p:Pl}(h:p.WF)(e:Int):(p.met e).WF:=by
 unfold Pl.met;split
 ·exact h.aD rfl rfl rfl rfl rfl
 ·exact h
theorem gI {α β:Type}(u:α->List β)(g:α->α):∀(l:List α) (i:Nat) (x:α),l[i]?=some x->u (g x)=u x->(l.modify i g).flatMap u=l.flatMap u
 |[],i,x,h,_=>by simp at h
 |a::l,0,x,h,e=>by simp at h;subst h;simp[e]
 |a::l,i+1,x,h,e=>by
   simp only[RD] at h;simp[gI u g l i x h e]
theorem dZ {α β:Type}(u:α->β)(g:α->α)(l:List α)(i:Nat)(x:α)(h:l[i]?=some x)(e:u (g x)=u x):(l.modify i g).map u=l.map u:=by
 have:=gI (λy=>[u y]) g l i x h (by simp[e]);simpa[List.flatMap_singleton',List.map_eq_flatMap] using this
theorem mem_modify {α:Type}{l:List α}{i:Nat}{g:α->α}{x y:α}(b:l[i]?=some x)(c:y∈l.modify i g):y∈l\/y=g x:=by
 obtain⟨j,a⟩:=Qr.1 c;by_cases e:i=j
 ·subst e;rw[bL b] at a;cases a;exact .inr rfl
 ·rw[bw e] at a;exact .inl (Qi a)
theorem Pl.WF.fP {p:Pl}(h:p.WF){i:Nat}{f:Fr}{u:Fr->Fr}(c:p.fs[i]?=some f)(hk:(u f).key=f.key)(k:(u f).pins=f.pins)(o:(u f).left=f.left)(r:(u f).b.length<=504):(p.fP i u).WF:=by
 have hm:=Qi c;have get:∀(j:Nat) (g:Fr),(p.fs.modify i u)[j]?=some g->∃g',p.fs[j]?=some g'/\g.pins=g'.pins/\g.left=g'.left:=by
  intro j g l;by_cases e:i=j
  ·subst e;rw[bL c] at l;cases l;exact⟨f,c,k,o⟩
  ·rw[bw e] at l;exact⟨g,l,rfl,rfl⟩
 refine⟨?_,?_,h.most,?_,?_,?_,?_,?_,?_,?_,?_⟩
 ·show ((p.fs.modify i u).map Fr.key).Nodup;rw[dZ Fr.key u p.fs i f c hk];exact h.keys
 ·show (p.fs.modify i u).length<=p.most;rw[Ty];exact h.len
 ·intro g d;rcases mem_modify c d with q|q
  ·exact h.room g q
  ·subst q;exact r
 ·intro g d;rcases mem_modify c d with q|q
  ·exact h.aG g q
  ·subst q;have s:(u f).ag=f.ag:=congrArg YJ hk;have e2:(u f).name=f.name:=congrArg Ye hk;rw[s,e2];exact h.aG f hm
 ·show ((p.fs.modify i u).flatMap (·.pins)).Nodup;rw[gI (·.pins) u p.fs i f c k];exact h.pins
 ·intro g d;rcases mem_modify c d with q|q
  ·exact h.old g q
  ·subst q;rw[k];exact h.old f hm
 ·refine⟨h.tick.1,?_⟩;have e:(p.fP i u).pins=p.pins:=by
   show ((p.fs.modify i u).map λf=>f.pins.length).sum=_;rw[dZ (λf=>f.pins.length) u p.fs i f c (by rw[k])];rfl
  rw[e];exact h.tick.2
 ·intro a b x y t v m hyp n;obtain⟨x',w,z,A⟩:=get a x t;obtain⟨B,C,r2,D⟩:=get b y v;exact h.lefts a b x' B w C (by rw[<-z];exact m) (by rw[<-r2];exact hyp) (by rw[<-A,<-D];exact n)
 ·intro g d;rcases mem_modify c d with q|q
  ·exact h.past g q
  ·subst q;rw[o];exact h.past f hm
 ·show (p.fs.modify i u).length<=p.peak/\_;rw[Ty];exact h.peak
theorem Pl.WF.put {p:Pl}(h:p.WF){i:Nat}{f:Fr}(a:p.fs[i]?=some f):(p.put i).1.WF:=by
 unfold Pl.put;split
 ·exact(h.dH _).fP a rfl rfl rfl (h.room f (Qi a))
 ·exact h.dH _
theorem se {α β:Type}(u:α->List β){l r:List α}(h:l.Sublist r):(l.flatMap u).Sublist (r.flatMap u):=by
 induction h with
 |slnil=>simp
 |cons a _ b=>rw[Q5];exact b.trans (List.sublist_append_right _ _)
 |cons_cons a _ b=>rw[Q5,Q5];exact(UN _).append b
theorem y5 {α:Type}(u:α->Nat){l r:List α}(h:l.Sublist r):(l.map u).sum<=(r.map u).sum:=by
 induction h with
 |slnil=>simp
 |cons a _ b=>rw[RH,TX];omega
 |cons_cons a _ b=>rw[RH,TX,RH,TX];omega
theorem Pl.WF.sub {p q:Pl}(h:p.WF)(hs:q.fs.Sublist p.fs)(hm:q.most=p.most)(u:q.next=p.next)(v:q.tick=p.tick)(hk:q.peak=p.peak):q.WF:=by
 have a:∀f∈q.fs,f∈p.fs:=λf c=>hs.subset c;have hlen:=hs.length_le;refine⟨?_,by rw[hm];have:=h.len;omega,by rw[hm];exact h.most,λf c=>h.room f (a f c),λf c=>h.aG f (a f c),?_,λf c=>by rw[u];exact h.old f (a f c),?_,?_,λf c=>by rw[v];exact h.past f (a f c),by rw[hk,hm];have:=h.peak;omega⟩
 ·exact(hs.map Fr.key).nodup h.keys
 ·exact(se (·.pins) hs).nodup h.pins
 ·rw[v,u];refine⟨h.tick.1,?_⟩;have:q.pins<=p.pins:=by
   unfold Pl.pins;exact y5 (λf:Fr=>f.pins.length) hs
  have:=h.tick.2;omega
 ·-- frames that none holds differ in when they were left
  have o:(p.fs.filter λf=>f.pins.isEmpty).Pairwise (λf g=>f.left≠g.left):=by
   rw[Yf,Ta];intro i j hi r w s t e;have:=h.lefts i j _ _ (Qg hi) (Qg r) (TJ.1 s) (TJ.1 t) e;omega
  have b:(q.fs.filter λf=>f.pins.isEmpty).Pairwise (λf g=>f.left≠g.left):=o.sublist (hs.filter _);rw[Yf,Ta] at b;intro i j f g hi r d k e;obtain⟨l,rfl⟩:=Qk.1 hi;obtain⟨m,rfl⟩:=Qk.1 r;rcases Nat.lt_trichotomy i j with n|n|n
  ·exact absurd e (b i j l m n (TJ.2 d) (TJ.2 k))
  ·exact n
  ·exact absurd e.symm (b j i m l n (TJ.2 k) (TJ.2 d))
theorem Pl.WF.drop {p:Pl}(h:p.WF)(i:Nat):(p.drop i).WF:=h.sub (List.eraseIdx_sublist _ _) rfl rfl rfl rfl
theorem Pl.WF.forget {p:Pl}(h:p.WF)(n:ByteArray):(p.forget n).WF:=h.sub SD rfl rfl rfl rfl
theorem Pl.lA (p:Pl)(i:Nat):(p.put i).1.fs.length=p.fs.length:=by
 unfold Pl.put;split
 ·show (p.fs.modify i _).length=_;rw[Ty]
 ·rfl
theorem Pl.l9 (p:Pl)(i:Nat):(p.put i).1.most=p.most/\(p.put i).1.next=p.next/\(p.put i).1.tick=p.tick/\(p.put i).1.peak=p.peak/\(p.put i).1.wrong=p.wrong:=by
 unfold Pl.put;split<;>exact⟨rfl,rfl,rfl,rfl,rfl⟩
theorem Pl.fI (p:Pl):p.room.1.most=p.most/\p.room.1.next=p.next/\p.room.1.tick=p.tick/\p.room.1.peak=p.peak/\p.room.1.wrong=p.wrong:=by
 unfold Pl.room;split
 ·exact⟨rfl,rfl,rfl,rfl,rfl⟩
 ·split
  ·exact⟨rfl,rfl,rfl,rfl,rfl⟩
  ·split
   ·split
    ·exact p.l9 _
    ·exact p.l9 _
   ·exact⟨rfl,rfl,rfl,rfl,rfl⟩
theorem Pl.WF.yy {p:Pl}(h:p.WF):p.room.1.WF/\(p.room.2=0->p.room.1.fs.length<p.most):=by
 unfold Pl.room;split
 ·rename_i q;exact⟨h,λ_=>q⟩
 ·split
  ·exact⟨h,λq=>by cases q⟩
  ·rename_i i hi;obtain⟨f,b,_,_⟩:=Pl.kz hi;have a:=(Qk.1 b).1;have hlen:=h.len;split
   ·split
    ·refine⟨(h.put b).drop i,λ_=>?_⟩;show ((p.put i).1.fs.eraseIdx i).length<p.most;rw[Sq (by rw[Pl.lA];exact a),Pl.lA];omega
    ·rename_i q;exact⟨h.put b,λq'=>absurd q' q⟩
   ·refine⟨h.drop i,λ_=>?_⟩;show (p.fs.eraseIdx i).length<p.most;rw[Sq a];omega
theorem rI {h:Int}:∀(l:List Fr) (i:Nat) (f:Fr),l[i]?=some f->((l.modify i (Fr.cK h)).flatMap (·.pins)).Perm (h::l.flatMap (·.pins))
 |[],i,f,e=>by simp at e
 |a::l,0,f,e=>by
   simp only[XX,Q5,Fr.cK,Rg,VN];exact VG
 |a::l,i+1,f,e=>by
   simp only[RD] at e;simp only[VL,Q5];exact((rI l i f e).append_left a.pins).trans VG
theorem Pl.WF.lO {p:Pl}(h:p.WF){i:Nat}{f:Fr}(d:p.fs[i]?=some f)(u:p.next<9223372036854775807):(p.lO i).WF:=by
 have hm:=Qi d;have s:=h.tick;have hw:gQ (p.next+1)=p.next+1:=by unfold gQ;exact wrap64 (by omega) (by omega)
 refine⟨?_,?_,h.most,?_,?_,?_,?_,?_,?_,?_,?_⟩
 ·show ((p.fs.modify i _).map Fr.key).Nodup;rw[dZ Fr.key _ p.fs i f d rfl];exact h.keys
 ·show (p.fs.modify i _).length<=p.most;rw[Ty];exact h.len
 ·intro g c;rcases mem_modify d c with q|q
  ·exact h.room g q
  ·subst q;exact h.room f hm
 ·intro g c;rcases mem_modify d c with q|q
  ·exact h.aG g q
  ·subst q;exact h.aG f hm
 ·show ((p.fs.modify i _).flatMap (·.pins)).Nodup;rw[(rI p.fs i f d).nodup_iff,Rp];refine⟨λk=>?_,h.pins⟩;obtain⟨g,c,n⟩:=Rs.1 k;have:=(h.old g c _ n).2;omega
 ·intro g c x k;show 1<=x/\x<gQ (p.next+1);rw[hw];rcases mem_modify d c with q|q
  ·have:=h.old g q x k;omega
  ·subst q;rcases Qj.1 k with r|r
   ·have:=h.old f hm x r;omega
   ·simp at r;omega
 ·show 0<=p.tick/\p.tick+(((p.fs.modify i (Fr.cK p.next)).map λf=>f.pins.length).sum:Nat)<gQ (p.next+1);rw[hw];have:=gZ (λf:Fr=>f.pins.length) (Fr.cK p.next) p.fs i f d;simp only[Fr.cK,Qt,RF] at this;unfold Pl.pins at s;exact⟨s.1,by omega⟩
 ·intro a b x y k t l hyp o;have ne:∀(j:Nat) (g:Fr),(p.fs.modify i (Fr.cK p.next))[j]?=some g->g.pins=[]->p.fs[j]?=some g:=by
   intro j g m c;by_cases e:i=j
   ·subst e;rw[bL d] at m;cases m;simp[Fr.cK] at c
   ·rw[bw e] at m;exact m
  exact h.lefts a b x y (ne a x k l) (ne b y t hyp) l hyp o
 ·intro g c;rcases mem_modify d c with q|q
  ·exact h.past g q
  ·subst q;exact h.past f hm
 ·show (p.fs.modify i _).length<=p.peak/\_;rw[Ty];exact h.peak
theorem Pl.Mp (p:Pl)(f:Fr):(p.add f).fs[p.fs.length]?=some f:=by simp[Pl.add]
theorem Pl.WF.take {p:Pl}(h:p.WF){f:Fr}(D:p.fs.length<p.most)(E:p.next<9223372036854775807)(hk:p.find f.name f.ag=none)(A:f.b.length<=504)(r:f.ag<1048577)(s:f.name.size<=9223372036854775807)(n:f.pins=[])(t:f.left=0):(p.take f).WF:=by
 have w:=h.tick;have hw:gQ (p.next+1)=p.next+1:=by unfold gQ;exact wrap64 (by omega) (by omega)
 have e:(p.take f).fs=p.fs++[Fr.cK p.next f]:=by
  show (p.fs++[f]).modify p.fs.length (Fr.cK p.next)=_;have i:(p.fs++[f])[p.fs.length]?=some f:=p.Mp f;rw[cT i];simp
 have mem:∀g∈(p.take f).fs,g∈p.fs\/g=Fr.cK p.next f:=λg c=>by
  rw[e] at c;simpa using c
 have k:(p.take f).next=p.next+1:=hw
 have B:=h.peak;refine⟨?_,?_,h.most,?_,?_,?_,?_,?_,?_,?_,?_⟩
 ·rw[e,Q4,QY];refine⟨h.keys,by simp,λa i b d=>?_⟩;obtain⟨g,c,rfl⟩:=QB.1 i;simp only[RH,VV,QV] at d;subst d;intro eq;have C:g.name=f.name:=congrArg Ye eq;have e2:g.ag=f.ag:=congrArg YJ eq;exact Pl.nB hk g c C (by omega)
 ·rw[e];show _<=p.most;simp;omega
 ·intro g c;rcases mem g c with q|q
  ·exact h.room g q
  ·subst q;exact A
 ·intro g c;rcases mem g c with q|q
  ·exact h.aG g q
  ·subst q;exact⟨r,s⟩
 ·rw[e,List.flatMap_append,QY];refine⟨h.pins,by simp[Fr.cK,n],λa i b d=>?_⟩;obtain⟨g,c,u⟩:=Rs.1 i;simp[Fr.cK,n] at d;have:=(h.old g c a u).2;omega
 ·intro g c x l;rw[k];rcases mem g c with q|q
  ·have:=h.old g q x l;omega
  ·subst q;simp[Fr.cK,n] at l;omega
 ·rw[k];refine⟨w.1,?_⟩;have:(p.take f).pins=p.pins+1:=by
   unfold Pl.pins;rw[e];simp[Fr.cK,n]
  show p.tick+_<_;rw[this];omega
 ·intro a b x y l z m hyp v;rw[e] at l z;have ne:∀(j:Nat) (g:Fr),(p.fs++[Fr.cK p.next f])[j]?=some g->g.pins=[]->p.fs[j]?=some g:=by
   intro j g o c;rw[List.getElem?_append] at o;split at o
   ·exact o
   ·have:g=Fr.cK p.next f:=by have:=Qi o;simpa using this
    subst this;simp[Fr.cK] at c
  exact h.lefts a b x y (ne a x l m) (ne b y z hyp) m hyp v
 ·intro g c;rcases mem g c with q|q
  ·exact h.past g q
  ·subst q;show 0<=f.left/\f.left<=p.tick;rw[t];exact⟨Uf _,w.1⟩
 ·rw[e];show _<=max p.peak (p.fs.length+1)/\max p.peak (p.fs.length+1)<=p.most;simp only[Qt,RF];omega
theorem filter_one {h:Int}{l:List Int}(hd:l.Nodup)(hm:h∈l):(l.filter λx=>decide (x≠h)).length+1=l.length:=by
 induction l with
 |nil=>cases hm
 |cons a l c=>
   rw[Rp] at hd;rw[List.filter_cons];by_cases e:a=h
   ·subst e;have:l.filter (λx=>decide (x≠a))=l:=by
     rw[List.filter_eq_self];intro x d;have:x≠a:=λe=>hd.1 (e▸d);simp[this]
    rw[this];simp
   ·have b:h∈l:=by
     rcases List.mem_cons.1 hm with q|q
     ·exact absurd q.symm e
     ·exact q
    have:=c hd.2 b;simp only[ne_eq,e,not_false_eq_true,decide_true,if_true,QJ];simp only[ne_eq] at this;omega
theorem ow {α β:Type}{u:α->List β}:∀{l:List α},(l.flatMap u).Nodup->∀{i:Nat} {x:α},l[i]?=some x->(u x).Nodup
 |[],_,i,x,h=>by simp at h
 |a::l,hd,0,x,h=>by
   rw[Q5,QY] at hd;simp at h;subst h;exact hd.1
 |a::l,hd,i+1,x,h=>by
   rw[Q5,QY] at hd;exact ow hd.2.1 (by simpa using h)
theorem rk {α β:Type}(u:α->List β)(g:α->α)(b:∀x,(u (g x)).Sublist (u x)):∀(l:List α) (i:Nat),((l.modify i g).flatMap u).Sublist (l.flatMap u)
 |[],i=>by simp
 |a::l,0=>by
   simp only[XX,Q5];exact(b a).append (UN _)
 |a::l,i+1=>by
   simp only[VL,Q5];exact(UN _).append (rk u g b l i)
theorem Pl.WF.bK {p:Pl}(hw:p.WF)(h:Int)(B:p.next<9223372036854775807):(p.bK h).1.WF:=by
 unfold Pl.bK;split
 ·exact hw
 ·split
  ·rename_i i hi;obtain⟨f,d,hm⟩:=Pl.qB hi;have k:=Qi d;have w:=hw.tick;have r:=filter_one (ow hw.pins d) hm;have z:f.pins.length<=p.pins:=uI (λf:Fr=>f.pins.length) p.fs i f d;have s:gQ (p.tick+1)=p.tick+1:=by unfold gQ;exact wrap64 (by omega) (by omega)
   rw[s];have get:∀(j:Nat) (g:Fr),(p.fs.modify i (Fr.bK h (p.tick+1)))[j]?=some g->(j=i/\g=Fr.bK h (p.tick+1) f)\/(j≠i/\p.fs[j]?=some g):=by
    intro j g m;by_cases e:i=j
    ·subst e;rw[bL d] at m;cases m;exact .inl ⟨rfl,rfl⟩
    ·rw[bw e] at m;exact .inr ⟨λq=>e q.symm,m⟩
   refine⟨?_,?_,hw.most,?_,?_,?_,?_,?_,?_,?_,?_⟩
   ·show ((p.fs.modify i _).map Fr.key).Nodup;rw[dZ Fr.key _ p.fs i f d rfl];exact hw.keys
   ·show (p.fs.modify i _).length<=p.most;rw[Ty];exact hw.len
   ·intro g l;rcases mem_modify d l with q|q
    ·exact hw.room g q
    ·subst q;exact hw.room f k
   ·intro g l;rcases mem_modify d l with q|q
    ·exact hw.aG g q
    ·subst q;exact hw.aG f k
   ·exact(rk (·.pins) (Fr.bK h (p.tick+1)) (λx=>SD) p.fs i).nodup hw.pins
   ·intro g l x n;rcases mem_modify d l with q|q
    ·exact hw.old g q x n
    ·subst q;exact hw.old f k x (QL.1 n).1
   ·show 0<=p.tick+1/\p.tick+1+(((p.fs.modify i (Fr.bK h (p.tick+1))).map λf=>f.pins.length).sum:Nat)<p.next;have:=gZ (λf:Fr=>f.pins.length) (Fr.bK h (p.tick+1)) p.fs i f d;simp only[Fr.bK] at this;unfold Pl.pins at w;constructor
    ·omega
    ·omega
   ·intro a b x y n v t hyp c;rcases get a x n with ⟨A,o⟩|⟨A,o⟩
    ·rcases get b y v with ⟨u,r2⟩|⟨u,r2⟩
     ·omega
     ·have:=hw.past y (Qi r2);rw[o] at c;simp only[Fr.bK] at c;omega
    ·rcases get b y v with ⟨u,r2⟩|⟨u,r2⟩
     ·have:=hw.past x (Qi o);rw[r2] at c;simp only[Fr.bK] at c;omega
     ·exact hw.lefts a b x y o r2 t hyp c
   ·intro g l;show 0<=g.left/\g.left<=p.tick+1;rcases mem_modify d l with q|q
    ·have:=hw.past g q;omega
    ·subst q;simp only[Fr.bK];omega
   ·show (p.fs.modify i _).length<=p.peak/\_;rw[Ty];exact hw.peak
  ·exact hw
theorem Pl.WF.set {p:Pl}(hw:p.WF)(h:Int)(k:UInt8)(b:List UInt8):(p.set h k b).1.WF:=by
 unfold Pl.set;split
 ·exact hw
 ·split
  ·rename_i i hi;obtain⟨f,a,hm⟩:=Pl.qB hi;split
   ·exact hw
   ·exact hw.fP a rfl rfl rfl (by simp only[Fr.set];omega)
  ·exact hw
theorem BU {d:Dk}{m:Nat}(h1:8<=m)(b:m<=4096):(vY d m).WF:=by
 refine⟨by simp[vY],by simp[vY],⟨h1,b⟩,?_,?_,by simp[vY],?_,?_,?_,?_,by simp[vY]⟩
 ·intro f a;simp[vY] at a
 ·intro f a;simp[vY] at a
 ·intro f a;simp[vY] at a
 ·simp[vY,Pl.pins]
 ·intro i j f g hi;simp[vY] at hi
 ·intro f a;simp[vY] at a
open Go.MapKept
structure vK where
 p:Nat
 b:Sl
def vK.fp (g:vK)(b:Nat):Prop:=b=g.p\/al g.b b
def OZ (g:vK)(f:Fr):Array Value:=#[.string f.name,.int .i64 (f.ag:Int),.int .u8 (f.kind.toNat:Int),g.b.v,.bool f.dirty,.int .i64 (f.pins.length:Int),.int .i64 f.left]
structure ez (H:aa)(g:vK)(f:Fr):Prop where
 row:ab H g.p MG (OZ g f)
 b:dm EB kJ H g.b f.b
theorem ez.lt {H:aa}{g:vK}{f:Fr}(h:ez H g f):∀b,g.fp b->b<H.size:=by
 rintro b (rfl|a)
 ·exact aI h.row
 ·exact h.b.lt b a
theorem ez.aE {H H':aa}{g:vK}{f:Fr}(h:ez H g f)(k:∀b,g.fp b->b<H.size->H'[b]?=H[b]?):ez H' g f:=
 ⟨(k _ (.inl rfl) (aI h.row)).trans h.row,h.b.aE λb a=>k b (.inr a)⟩
theorem ez.obj {H:aa}{g:vK}{f:Fr}(h:ez H g f):∀b,g.fp b->∃cs t,H[b]?=some (.cells cs t (0,0))/\(t=MG\/t=kJ):=by
 rintro b (rfl|a)
 ·exact⟨_,_,h.row,.inl rfl⟩
 ·obtain⟨c,q⟩:=h.b.obj b a;exact⟨c,_,q,.inr rfl⟩
def ku (n:ByteArray)(g:Int):Value:=.agg #[.string n,.int .i64 g]
theorem oM {n m:ByteArray}{g k:Int}(h:ku n g=ku m k):n=m/\g=k:=by
 unfold ku at h;simp at h;exact h
abbrev FZ:=Fr×vK
def Ce (zs:List FZ):List (Value×Value):=zs.map λz=>(ku z.1.name (z.1.ag:Int),cG z.2.p)
def N4 (z:FZ):List (Value×Value):=z.1.pins.map λh=>(Value.int .i64 h,cG z.2.p)
def yi (zs:List FZ):List (Value×Value):=zs.flatMap N4
structure PG where
 mf:Nat
 ef:Array MapEntry
 cf:Nat
 mh:Nat
 eh:Array MapEntry
 ch:Nat
 zs:List FZ
def PG.fs (x:PG):List Fr:=x.zs.map (·.1)
def PG.fp (x:PG)(b:Nat):Prop:=b=x.mf\/b=x.mh\/∃z∈x.zs,z.2.fp b
def KU (P:Program)(kt:TypeId):Bool:=
 match P.underlying kt with
 |some (.struct fs)=>(match fs.toList with
   |[f0,f1]=>(match P.underlying f0.type with|some .string=>true|_=>false)&&(match P.underlying f1.type with|some (.int .i64)=>true|_=>false)
     &&QQ f0.offset 0&&QQ f1.offset 1&&QQ (P.cellsOf f0.type) 1&&QQ (P.cellsOf f1.type) 1&&(f0.name !="_")&&(f1.name !="_")&&QQ (P.cellsOf kt) 2&&P.keyType kt&&Nat.blt 0 P.types.size
   |_=>false)
 |_=>false
theorem Gg {P:Program}{kt:TypeId}(h:KU P kt=true){n:ByteArray}{g:Int}(A:n.size<=9223372036854775807)(p:-9223372036854775808<=g)(h1:g<=9223372036854775807):xe P kt (ku n g):=by
 unfold KU at h;split at h
 ·rename_i fs hu;split at h
  ·rename_i f0 f1 b;simp only[Qz,bne_iff_ne,ne_eq] at h;obtain⟨⟨⟨⟨⟨⟨⟨⟨⟨⟨k,a2⟩,a3⟩,a4⟩,a5⟩,q⟩,r⟩,s⟩,a9⟩,d⟩,e⟩:=h;have t:=QH a3;have u:=QH a4;have v:=QH a5;have w:=QH q;have l:=QH a9;have o:0<P.types.size:=gR.1 e;obtain⟨m,hm⟩:∃m,P.types.size=m+1:=⟨P.types.size - 1,by omega⟩;split at k
   ·rename_i x;split at a2
    ·rename_i y;have a:YR P kt (ku n g)=true:=by
      unfold ku YR;simp only[hu,l];rfl
     have i:(Lit.int .i64 g).wf=true:=by
      unfold Lit.wf;simp only[Qz,decide_eq_true_eq];exact⟨by show (-9223372036854775808:Int)<=g;exact p,by show g<=(9223372036854775807:Int);exact h1⟩
     have c:fs.all (λf=>f.name !="_")=true:=by
      rw[<-Array.all_toList,b];simp[r,s]
     have l0:P.keyLits (m+1) f0.type [.string n]=some [.string n.data.toList]:=by
      unfold Wq;simp only[x];rw[if_pos (by unfold maxLen;omega)]
     have z:P.keyLits (m+1) f1.type [.int .i64 g]=some [.int .i64 g]:=by
      unfold Wq;simp only[y];rw[if_pos ⟨trivial,i⟩]
     refine⟨.string (keyBytes [.string n.data.toList,.int .i64 g]),?_⟩;unfold Go.keyOf;simp only[hu];rw[if_pos (by rw[d,a];rfl),hm];unfold Wq;simp only[hu];have j:(ku n g).cells.toList=[.string n,.int .i64 g]:=rfl;rw[j,if_pos ⟨by rw[l];rfl,c⟩,b];simp[List.mapM_cons,t,u,v,w,l0,z]
    ·cases a2
   ·cases k
  ·cases h
 ·cases h
theorem x8:UF Qf yE:=Go.deep_law_gate (by kernel_rfl) (TU (by kernel_rfl)) (TU (by kernel_rfl)) (by kernel_rfl) (by kernel_rfl)
theorem qm {n:ByteArray}{g:Int}(a:n.size<=9223372036854775807)(b:-9223372036854775808<=g)(h1:g<=9223372036854775807):xe Qf yE (ku n g):=Gg (by kernel_rfl) a b h1
structure aS (H:aa)(x:PG):Prop where
 fmap:jL Qf yE H x.mf x.ef x.cf
 hmap:eU (.int .i64) H x.mh x.eh x.ch
 ne:x.mf≠x.mh
 size:x.ef.size=x.zs.length
 entF:∀k v,fN x.ef k v↔(k,v)∈Ce x.zs
 entH:∀k v,fN x.eh k v↔(k,v)∈yi x.zs
 each:∀z∈x.zs,ez H z.2 z.1
 apart:∀(i j:Nat) (z z':FZ),x.zs[i]?=some z->x.zs[j]?=some z'->i≠j->∀b,z.2.fp b->¬z'.2.fp b
theorem aS.lt {H:aa}{x:PG}(h:aS H x):∀b,x.fp b->b<H.size:=by
 rintro b (rfl|rfl|⟨z,hz,a⟩)
 ·exact h.fmap.lt
 ·exact h.hmap.lt
 ·exact(h.each z hz).lt b a
theorem aS.aE {H H':aa}{x:PG}(h:aS H x)(k:∀b,x.fp b->b<H.size->H'[b]?=H[b]?):aS H' x:=
 ⟨⟨(k _ (.inl rfl) h.fmap.lt).trans h.fmap.obj,h.fmap.stamped,h.fmap.keys⟩,h.hmap.aE (k _ (.inr (.inl rfl)) h.hmap.lt),h.ne,h.size,h.entF,h.entH,
   λz hz=>(h.each z hz).aE λb a=>k b (.inr (.inr ⟨z,hz,a⟩)),h.apart⟩
theorem aS.off {H:aa}{x:PG}(h:aS H x){z:FZ}(hz:z∈x.zs):¬z.2.fp x.mf/\¬z.2.fp x.mh:=by
 constructor
 ·intro a;obtain⟨cs,t,e,_⟩:=(h.each z hz).obj _ a;rw[h.fmap.obj] at e;cases e
 ·intro a;obtain⟨cs,t,e,_⟩:=(h.each z hz).obj _ a;rw[h.hmap.obj] at e;cases e
theorem aS.at {H:aa}{x:PG}(b:aS H x){i:Nat}{f:Fr}(a:x.fs[i]?=some f):∃g,x.zs[i]?=some (f,g):=by
 unfold PG.fs at a;rw[QC,Vv] at a;obtain⟨⟨f',g⟩,h1,rfl⟩:=a;exact⟨g,h1⟩
theorem mz {α:Type}{l:List α}{i:Nat}{a y:α}(c:y∈l.set i a):(∃j,j≠i/\l[j]?=some y)\/y=a:=by
 obtain⟨j,b⟩:=Qr.1 c;by_cases e:i=j
 ·subst e;have d:i<l.length:=by have:=(Qk.1 b).1;simpa using this
  rw[Rc,if_pos rfl,if_pos d] at b;cases b;exact .inr rfl
 ·rw[Rc,if_neg e] at b;exact .inl ⟨j,λq=>e q.symm,b⟩
theorem Ek {H:aa}{x:PG}(h:aS H x){i:Nat}{z z':FZ}(hz:x.zs[i]?=some z)(n:∀b,z'.2.fp b->z.2.fp b\/H.size<=b):
  ∀(a c:Nat) (u v:FZ),(x.zs.set i z')[a]?=some u->(x.zs.set i z')[c]?=some v->a≠c->∀b,u.2.fp b->¬v.2.fp b:=by
 have j:=(Qk.1 hz).1;intro a c u v h1 g d b e f;rw[Rc] at h1 g;by_cases k:i=a
 ·subst k;rw[if_neg d] at g;rw[if_pos rfl,if_pos j] at h1;cases h1;have m:=(h.each v (Qi g)).lt b f;rcases n b e with q|q
  ·exact h.apart i c z v hz g d b q f
  ·omega
 ·rw[if_neg k] at h1;have m:=(h.each u (Qi h1)).lt b e;by_cases l:i=c
  ·subst l;rw[if_pos rfl,if_pos j] at g;cases g;rcases n b f with q|q
   ·exact h.apart a i u z h1 hz d b e q
   ·omega
  ·rw[if_neg l] at g;exact h.apart a c u v h1 g d b e f
theorem aS.set {H H':aa}{x:PG}(h:aS H x){i:Nat}{z z':FZ}{eh':Array MapEntry}{ch':Nat}(hz:x.zs[i]?=some z)(s:z'.1.name=z.1.name)(n:z'.1.ag=z.1.ag)(t:z'.2.p=z.2.p)
  (w:ez H' z'.2 z'.1) (y:eU (.int .i64) H' x.mh eh' ch') (d:∀k v,fN eh' k v↔(k,v)∈yi (x.zs.set i z'))
  (hm:∀b,x.fp b->¬z.2.fp b->b≠x.mh->b<H.size->H'[b]?=H[b]?) (r:∀b,z'.2.fp b->z.2.fp b\/H.size<=b):
  aS H' {x with zs:=x.zs.set i z',eh:=eh',ch:=ch'}/\(∀b,PG.fp {x with zs:=x.zs.set i z',eh:=eh',ch:=ch'} b->x.fp b\/H.size<=b):=by
 have f:=Qi hz;have l:=h.off f;refine⟨⟨⟨(hm _ (.inl rfl) l.1 h.ne h.fmap.lt).trans h.fmap.obj,h.fmap.stamped,h.fmap.keys⟩,y,h.ne,by simp[h.size],?_,d,?_,Ek h hz r⟩,?_⟩
 ·intro k v;have:Ce (x.zs.set i z')=Ce x.zs:=by
   unfold Ce;rw[show x.zs.set i z'=x.zs.modify i (λ_=>z') from (cT (g:=λ_=>z') hz).symm];exact dZ _ _ _ _ _ hz (by simp only[s,n,t])
  rw[this];exact h.entF k v
 ·intro u hu;rcases mz hu with ⟨j,o,m⟩|rfl
  ·have c:=Qi m;exact(h.each u c).aE λb a A=>hm b (.inr (.inr ⟨u,c,a⟩)) (λq=>h.apart j i u z m hz o b a q) (λe=>(h.off c).2 (e▸a)) A
  ·exact w
 ·rintro b (e|e|⟨u,hu,a⟩)
  ·exact .inl (.inl e)
  ·exact .inl (.inr (.inl e))
  ·rcases mz hu with ⟨j,_,m⟩|rfl
   ·exact .inl (.inr (.inr ⟨u,Qi m,a⟩))
   ·exact(r b a).imp (λq=>.inr (.inr ⟨z,f,q⟩)) id
theorem aS.fP {H H':aa}{x:PG}(h:aS H x){i:Nat}{z z':FZ}(hz:x.zs[i]?=some z)(j:z'.1.name=z.1.name)(c:z'.1.ag=z.1.ag)(d:z'.1.pins=z.1.pins)(f:z'.2.p=z.2.p)
  (l:ez H' z'.2 z'.1) (hm:∀b,x.fp b->¬z.2.fp b->b<H.size->H'[b]?=H[b]?) (m:∀b,z'.2.fp b->z.2.fp b\/H.size<=b):
  aS H' {x with zs:=x.zs.set i z'}/\(∀b,PG.fp {x with zs:=x.zs.set i z'} b->x.fp b\/H.size<=b):=by
 have e:=Qi hz;have a:=h.off e;refine h.set hz j c f l (h.hmap.aE (hm _ (.inr (.inl rfl)) a.2 h.hmap.lt)) (λk v=>?_) (λb h1 n _ o=>hm b h1 n o) m;have:yi (x.zs.set i z')=yi x.zs:=by
  unfold yi;rw[show x.zs.set i z'=x.zs.modify i (λ_=>z') from (cT (g:=λ_=>z') hz).symm];exact gI _ _ _ _ _ hz (by simp only[N4,d,f])
 rw[this];exact h.entH k v
theorem AT (l r:List FZ):Ce (l++r)=Ce l++Ce r:=by simp[Ce]
theorem Bg (l r:List FZ):yi (l++r)=yi l++yi r:=by simp[yi]
theorem C4 {z:FZ}(h:z.1.pins=[]):N4 z=[]:=by simp[N4,h]
theorem uC {α:Type}{l:List α}{i j:Nat}{a:α}(b:(l.eraseIdx i)[j]?=some a):∃c,c≠i/\l[c]?=some a/\c=if j<i then j else j+1:=by
 rw[List.getElem?_eraseIdx] at b;split at b
 ·rename_i q;exact⟨j,by omega,b,by rw[if_pos q]⟩
 ·rename_i q;exact⟨j+1,by omega,b,by rw[if_neg q]⟩
theorem mem_erase {α:Type}{l:List α}{i:Nat}{a:α}:a∈l.eraseIdx i↔∃j,j≠i/\l[j]?=some a:=List.mem_eraseIdx_iff_getElem?
theorem aS.erase {H H':aa}{x:PG}(h:aS H x){i:Nat}{z:FZ}{f:Array MapEntry}(hz:x.zs[i]?=some z)(w:z.1.pins=[])(hk:(x.fs.map Fr.key).Nodup)(y:jL Qf yE H' x.mf f x.cf)
  (g:∀k v,fN f k v↔fN x.ef k v/\k≠ku z.1.name (z.1.ag:Int)) (hs:∀u,fN x.ef (ku z.1.name (z.1.ag:Int)) u->f.size+1=x.ef.size)
  (hm:∀b,x.fp b->b≠x.mf->b<H.size->H'[b]?=H[b]?):aS H' {x with zs:=x.zs.eraseIdx i,ef:=f}:=by
 have old:∀u∈x.zs,ez H' u.2 u.1:=λu hu=>(h.each u hu).aE λb t A=>hm b (.inr (.inr ⟨u,hu,t⟩)) (λe=>(h.off hu).1 (e▸t)) A;have n:=(Qk.1 hz).1;have o:=Qi hz;have B:=hs _ ((h.entF _ _).2 (QB.2 ⟨z,o,rfl⟩));have inj:∀(j:Nat) (u:FZ),x.zs[j]?=some u->u.1.name=z.1.name->u.1.ag=z.1.ag->j=i:=by
  intro j u d p e2;have r:=(Qk.1 d).1;refine(RM (l:=x.fs.map Fr.key) (by simpa[PG.fs] using r) hk).1 ?_;simp[PG.fs,d,hz,Fr.key,p,e2]
 refine⟨y,h.hmap.aE (hm _ (.inr (.inl rfl)) h.ne.symm h.hmap.lt),h.ne,?_,?_,?_,?_,?_⟩
 ·simp only;rw[Sq n];have:=h.size;omega
 ·intro k v;rw[g k v,h.entF k v];unfold Ce;simp only[QB];constructor
  ·rintro⟨⟨u,hu,e⟩,s⟩;refine⟨u,?_,e⟩;obtain⟨j,d⟩:=Qr.1 hu;refine mem_erase.2 ⟨j,λq=>?_,d⟩;subst q;rw[hz] at d;cases d;simp only[RO] at e;exact s e.1.symm
  ·rintro⟨u,hu,e⟩;obtain⟨j,m,d⟩:=mem_erase.1 hu;refine⟨⟨u,Qi d,e⟩,λq=>m ?_⟩;simp only[RO] at e;have:=oM (e.1.trans q);exact inj j u d this.1 (by omega)
 ·intro k v;rw[h.entH k v];unfold yi;simp only[Rs];constructor
  ·rintro⟨u,hu,e⟩;refine⟨u,?_,e⟩;obtain⟨j,d⟩:=Qr.1 hu;refine mem_erase.2 ⟨j,λq=>?_,d⟩;subst q;rw[hz] at d;cases d;rw[C4 w] at e;cases e
  ·rintro⟨u,hu,e⟩;obtain⟨j,m,d⟩:=mem_erase.1 hu;exact⟨u,Qi d,e⟩
 ·intro u hu;exact old u (RW hu)
 ·intro a c u v h1 C D;obtain⟨j1,G,E,p⟩:=uC h1;obtain⟨j2,I,F,e2⟩:=uC C;refine h.apart j1 j2 u v E F ?_;rw[p,e2];split<;>split<;>omega
def oP (dp:Nat)(x:PG)(s:Pl):Array Value:=#[cG dp,.int .i64 (s.most:Int),.map (some x.mf),.map (some x.mh),.int .i64 s.next,.int .i64 s.tick,.int .i64 (s.peak:Int),.int .i64 s.wrong]
structure bx (x:PG)(H:aa)(p dp:Nat)(s:Pl):Prop where
 head:ab H p DN (oP dp x s)
 aD:aS H x
 fs:s.fs=x.fs
 wf:s.WF
def PG.all (x:PG)(p b:Nat):Prop:=b=p\/x.fp b
theorem bx.off {x:PG}{H:aa}{p:Nat}{cs:Array Value}(hd:ab H p DN cs)(h:aS H x):¬x.fp p:=by
 rintro(e|e|⟨z,hz,b⟩)
 ·have:=h.fmap.obj;rw[<-e,hd] at this;cases this
 ·have:=h.hmap.obj;rw[<-e,hd] at this;cases this
 ·obtain⟨c,t,e,a⟩:=(h.each z hz).obj _ b;have:=aR hd e;rw[<-this] at a;exact absurd a (by decide)
theorem bx.lt {x:PG}{H:aa}{p dp:Nat}{s:Pl}(h:bx x H p dp s):∀b,x.all p b->b<H.size:=by
 rintro b (rfl|a)
 ·exact aI h.head
 ·exact h.aD.lt b a
theorem bx.aE {x:PG}{H H':aa}{p dp:Nat}{s:Pl}(h:bx x H p dp s)(k:∀b,x.all p b->b<H.size->H'[b]?=H[b]?):bx x H' p dp s:=
 ⟨(k p (.inl rfl) (aI h.head)).trans h.head,h.aD.aE λb a=>k b (.inr a),h.fs,h.wf⟩
theorem bx.dH {x:PG}{H:aa}{p dp:Nat}{s:Pl}(h:bx x H p dp s)(d:Dk):bx x H p dp (s.dH d):=⟨h.head,h.aD,h.fs,h.wf.dH d⟩
theorem bx.at {x:PG}{H:aa}{p dp:Nat}{s:Pl}(h:bx x H p dp s){i:Nat}{f:Fr}(a:s.fs[i]?=some f):∃g,x.zs[i]?=some (f,g)/\ez H g f:=by
 rw[h.fs] at a;obtain⟨g,b⟩:=h.aD.at a;exact⟨g,b,h.aD.each _ (Qi b)⟩
theorem bx.n {x:PG}{H:aa}{p dp:Nat}{s:Pl}(h:bx x H p dp s):x.ef.size=s.fs.length:=by rw[h.fs,h.aD.size];simp[PG.fs]
structure bU (x:PG)(D:Nat->Prop)(H:aa)(p dp:Nat)(s:Pl):Prop where
 ar:bx x H p dp s
 jI:cC D H dp s.d
 apart:∀b,D b->¬x.all p b
 eV:¬D ia/\¬x.all p ia
def ax (F:Nat->Prop)(H:aa)(p dp:Nat)(s:Pl):Prop:=∃x D,bU x D H p dp s/\∀b,F b↔D b\/x.all p b
theorem bU.lt {x:PG}{D:Nat->Prop}{H:aa}{p dp:Nat}{s:Pl}(h:bU x D H p dp s):∀b,D b\/x.all p b->b<H.size:=by
 rintro b (a|a)
 ·exact h.jI.lt b a
 ·exact h.ar.lt b a
theorem ax.lt {F:Nat->Prop}{H:aa}{p dp:Nat}{s:Pl}(h:ax F H p dp s):∀b,F b->b<H.size:=by
 obtain⟨x,D,g,a⟩:=h;exact λb c=>g.lt b ((a b).1 c)
theorem ax.aE {F:Nat->Prop}{H H':aa}{p dp:Nat}{s:Pl}(h:ax F H p dp s)(k:∀b,F b->b<H.size->H'[b]?=H[b]?):ax F H' p dp s:=by
 obtain⟨x,D,g,a⟩:=h;exact⟨x,D,⟨g.ar.aE λb c=>k b ((a b).2 (.inr c)),g.jI.aE λb c=>k b ((a b).2 (.inl c)),g.apart,g.eV⟩,a⟩
theorem Step.side {D a P:Nat->Prop}{H H':aa}(h:Step D a H H')(d:∀b,D b->¬P b)(e:∀b,P b->b<H.size):(∀b,a b->¬P b)/\Step (λb=>D b\/P b) (λb=>a b\/P b) H H':=by
 refine⟨λb f c=>?_,h.mod.mono λb _ q=>.inl q,?_⟩
 ·rcases h.own b f with q|q
  ·exact d b q c
  ·have:=e b c;omega
 ·rintro b (q|q)
  ·exact(h.own b q).imp .inl id
  ·exact .inl (.inr q)
theorem bU.vR {x:PG}{D a:Nat->Prop}{H H':aa}{p dp:Nat}{s:Pl}{d:Dk}(c:Gl H)(h:bU x D H p dp s)(hd:cC a H' dp d)(hs:Step D a H H'):
  bU x a H' p dp (s.dH d)/\Step (λb=>D b\/x.all p b) (λb=>a b\/x.all p b) H H':=by
 obtain⟨e,f⟩:=hs.side h.apart h.ar.lt;exact⟨⟨(h.ar.aE λb g i=>hs.mod.same b i λq=>h.apart b q g).dH d,hd,e,λq=>by
  rcases hs.own _ q with r|r
  ·exact h.eV.1 r
  ·have:=c.lt;omega,h.eV.2⟩,f⟩
theorem bU.wF {x x':PG}{D:Nat->Prop}{H H':aa}{p dp:Nat}{s c:Pl}(f:Gl H)(h:bU x D H p dp s)(g:bx x' H' p dp c)(hd:c.d=s.d)(hm:Mod (x.all p) H H')(d:∀b,x'.fp b->x.fp b\/H.size<=b):
  bU x' D H' p dp c/\Step (λb=>D b\/x.all p b) (λb=>D b\/x'.all p b) H H':=by
 have i:=h.jI.lt;refine⟨⟨g,by rw[hd];exact h.jI.aE λb a e=>hm.same b e (h.apart b a),?_,h.eV.1,?_⟩,hm.mono λb _ q=>.inr q,?_⟩
 ·rintro b a (q|q)
  ·exact h.apart b a (.inl q)
  ·rcases d b q with r|r
   ·exact h.apart b a (.inr r)
   ·have:=i b a;omega
 ·rintro(q|q)
  ·exact h.eV.2 (.inl q)
  ·rcases d _ q with r|r
   ·exact h.eV.2 (.inr r)
   ·have:=f.lt;omega
 ·rintro b (q|q|q)
  ·exact .inl (.inl q)
  ·exact .inl (.inr (.inl q))
  ·exact(d b q).imp (λr=>.inr (.inr r)) id
theorem ax.eV {F:Nat->Prop}{H:aa}{p dp:Nat}{s:Pl}(h:ax F H p dp s):¬F ia:=by
 obtain⟨x,D,g,a⟩:=h;intro q;rcases (a _).1 q with r|r
 ·exact g.eV.1 r
 ·exact g.eV.2 r
theorem bU.gl {x:PG}{D:Nat->Prop}{H H':aa}{p dp:Nat}{s:Pl}(a:Gl H)(h:bU x D H p dp s)(hm:Mod (λb=>D b\/x.all p b) H H'):Gl H':=
 a.mod hm λr=>r.elim h.eV.1 h.eV.2
theorem bU.out {x x':PG}{D a:Nat->Prop}{F:Nat->Prop}{H H':aa}{p dp:Nat}{s:Pl}(h:bU x' a H' p dp s)(c:∀b,F b↔D b\/x.all p b)(hs:Step (λb=>D b\/x.all p b) (λb=>a b\/x'.all p b) H H'):
  ∃F',ax F' H' p dp s/\Step F F' H H':=
 ⟨λb=>a b\/x'.all p b,⟨x',a,h,λ_=>TW⟩,hs.mod.mono λb _ q=>(c b).2 q,λb d=>(hs.own b d).imp (c b).2 id⟩
theorem kM {x:PG}{H:aa}{p dp:Nat}{s:Pl}{K:Int->aa->Prop}(h:bx x H p dp s)(a:K s.wrong H):Fj.sp (av p) H K:=by
 refine Fj.of ?_;unfold Fj.vc;exact h.head.ld (c:=ai .i64) (i:=7) (x:=s.wrong) rfl a
theorem bx.Hm {x:PG}{H H':aa}{p dp:Nat}{s a:Pl}(h:bx x H p dp s)(hr:ab H' p DN (oP dp x a))(hm:Mod (λb=>b=p) H H')(c:a.fs=s.fs)(hw:a.WF):bx x H' p dp a:=
 ⟨hr,h.aD.aE λb d f=>hm.same b f λe=>bx.off h.head h.aD (e▸d),c.trans h.fs,hw⟩
theorem Bh {x:PG}{D:Nat->Prop}{H:aa}{p dp:Nat}{s:Pl}{e:Int}{K:Int->aa->Prop}(l:Gl H)(h:bU x D H p dp s)
  (k:∀H',bU x D H' p dp (s.met e)->Step (λb=>D b\/x.all p b) (λb=>D b\/x.all p b) H H'->K e H'):AM.sp (av p) e H K:=by
 refine AM.of ?_;unfold AM.vc;simp only[aw];have hw:=h.ar.wf.met e;have a:bad e=true->st H (QS ⟨p,0,none⟩ 7) (.int .i64 e) λH1=>K e H1:=by
  intro j;have em:s.met e={s with wrong:=e}:=by unfold Pl.met;rw[if_pos j]
  refine h.ar.head.st (i:=7) (by decide:7<8) (by rfl) λH' r m z=>?_;have n:bx x H' p dp (s.met e):=h.ar.Hm (by rw[em];exact r) m (by rw[em]) hw;obtain⟨o,t⟩:=h.wF l n (by rw[em]) (m.mono λb _ q=>.inl q) (λb q=>.inl q);exact k H' o t
 have f:bad e=false->K e H:=by
  intro j;have em:s.met e=s:=by unfold Pl.met;rw[j];rfl
  exact k H (by rw[em];exact h) (.refl _ _)
 refine ao (λc=>aT c (a (by simp[bad] at c ⊢;exact .inl (.inl c)))) (λc=>?_);refine ao (λd=>aT d (a (by simp[bad] at d ⊢;exact .inl (.inr d)))) (λd=>?_);refine ao (λg=>a (by simp[bad] at g ⊢;exact .inr g)) (λg=>f (by simp[bad] at c d g ⊢;exact⟨⟨c,d⟩,g⟩))
theorem wK {D:Nat->Prop}{H:aa}{p dp:Nat}{d:Dk}{g:vK}{f:Fr}{cs:Array Value}{K:Int->aa->Prop}(E:Gl H)(hd:cC D H dp d)(F:ab H p DN cs)(v:cs[0]?=some (cG dp))
  (t:ez H g f) (a:f.b.length<=504) (w:∀b,g.fp b->¬D b) (m:d.bt<68719476736)
  (y:(d.write f.name f.ag f.gT).2≠0->∀h H',cC h H' dp (d.write f.name f.ag f.gT).1->Step D h H H'->K (d.write f.name f.ag f.gT).2 H')
  (z:(d.write f.name f.ag f.gT).2=0->∀h H1 j,cC h H1 dp (d.write f.name f.ag f.gT).1->Step D h H H1->ez j g f.clean->Mod (λb=>b=g.p) H1 j->j.size=H1.size->K 0 j):
  FA.sp (av p) (av g.p) H K:=by
 refine FA.of ?_;unfold FA.vc;simp only[aw,add_add,Nat.reduceAdd];refine t.row.ld (c:=ai .u8) (i:=2) (x:=(f.kind.toNat:Int)) rfl ?_;refine t.row.ld (c:=au) (i:=3) (x:=g.b) rfl ?_;refine JU E (mR t.b) a λr H1 o1 m1 f1=>az rfl ?_;have p1:ab H1 p DN cs:=F.ext m1;have n:ez H1 g f:=t.aE λb _ o=>m1.same b o id;have A:cC D H1 dp d:=hd.aE λb _ o=>m1.same b o id;refine p1.ld (c:=aq) (i:=0) (x:=av dp) v ?_;refine n.row.ld (c:=dN) (i:=0) (x:=f.name) rfl ?_;refine n.row.ld (c:=ai .i64) (i:=1) (x:=(f.ag:Int)) rfl ?_;have B:=hd.lt;refine Hl A (mR o1) (λad G I=>?_) m λh j a2 u=>?_
 ·have:=f1 ad.block ⟨ad,G,rfl⟩;have:=B _ I;omega
 have s:Step D h H j:=⟨⟨QZ m1.size u.mod.size,λb a J=>(u.mod.same b (by have:=m1.size;omega) J).trans (m1.same b a id)⟩,λb a=>(u.own b a).imp id (λq=>QZ m1.size q)⟩;have k:ez j g f:=n.aE λb a o=>u.mod.same b o (w b a);show br ((d.write f.name f.ag f.gT).2==0) _ _;refine ao (λhz=>?_) (λhz=>?_)
 ·have l:(d.write f.name f.ag f.gT).2=0:=by simpa using hz
  refine k.row.st (i:=4) (by decide:4<7) (by rfl) λC L m3 z3=>?_;have:=z l h j C a2 s ⟨L,k.b.aE λb a o=>m3.same b o λe=>?_⟩ m3 z3
  ·show K (d.write f.name f.ag f.gT).2 C;rw[l];exact this
  ·obtain⟨c,q⟩:=k.b.obj b a;rw[e] at q;exact absurd (aR k.row q) (by decide)
 ·have l:(d.write f.name f.ag f.gT).2≠0:=by simpa using hz
  exact y l h j a2 s
theorem JM {x:PG}{D:Nat->Prop}{H:aa}{p dp:Nat}{s:Pl}{i:Nat}{f:Fr}{g:vK}{K:Int->aa->Prop}(t:Gl H)(h:bU x D H p dp s)(hz:x.zs[i]?=some (f,g))(n:s.d.bt<68719476736)
  (j:(s.put i).2≠0->∀k H',bU x k H' p dp (s.put i).1->Step (λb=>D b\/x.all p b) (λb=>k b\/x.all p b) H H'->K (s.put i).2 H')
  (l:(s.put i).2=0->∀k H',bU {x with zs:=x.zs.set i (f.clean,g)} k H' p dp (s.put i).1->Step (λb=>D b\/x.all p b) (λb=>k b\/PG.all {x with zs:=x.zs.set i (f.clean,g)} p b) H H'->K 0 H'):
  FA.sp (av p) (av g.p) H K:=by
 have m:=Qi hz;have c:s.fs[i]?=some f:=by rw[h.ar.fs];simp[PG.fs,hz]
 have v:=Pl.ky c;have C:=h.ar.aD.each _ m;unfold Pl.put at j l;rw[v] at j l;refine wK (f:=f) (d:=s.d) t h.jI h.ar.head rfl C (h.ar.wf.room f (Qi c)) (λb q E=>h.apart b E (.inr (.inr (.inr ⟨_,m,q⟩)))) n (λr k H' a S=>?_) (λhe k H1 w a S y m2 z2=>?_)
 ·rw[if_neg r] at j;obtain⟨o,u⟩:=h.vR t a S;exact j r k H' o u
 ·rw[if_pos he] at l;obtain⟨o,u⟩:=h.vR t a S;have z:Gl H1:=h.gl t u.mod;have A:∀b,g.fp b->x.all p b:=λb q=>.inr (.inr (.inr ⟨_,m,q⟩));obtain⟨t1,t2⟩:=o.ar.aD.fP (H':=w) (z':=(f.clean,g)) hz rfl rfl rfl rfl y (λb _ F G=>m2.same b G λe=>F (e▸.inl rfl)) (λb q=>.inl q);have B:bx {x with zs:=x.zs.set i (f.clean,g)} w p dp ((s.dH (s.d.write f.name f.ag f.gT).1).fP i Fr.clean):=by
   refine⟨m2.at o.ar.head λe=>bx.off o.ar.head o.ar.aD (e▸.inr (.inr ⟨_,m,.inl rfl⟩)),t1,?_,?_⟩
   ·show s.fs.modify i Fr.clean=(x.zs.set i (f.clean,g)).map (·.1);rw[cT c,h.ar.fs];simp[PG.fs,Tq]
   ·exact(h.ar.wf.dH _).fP c rfl rfl rfl (h.ar.wf.room f (Qi c))
  obtain⟨I,J⟩:=o.wF z B rfl (m2.mono λb _ e=>A b (.inl e)) t2;exact l rfl k w I (u.trans J)
theorem aS.ptr {H:aa}{x:PG}(h:aS H x){z z':FZ}(hz:z∈x.zs)(b:z'∈x.zs)(e:z.2.p=z'.2.p):z=z':=by
 obtain⟨i,hi⟩:=Qr.1 hz;obtain⟨j,c⟩:=Qr.1 b;by_cases a:i=j
 ·subst a;rw[hi] at c;exact Qq c
 ·exact absurd (.inl e) (h.apart i j z z' hi c a z.2.p (.inl rfl))
theorem aS.entry {H:aa}{x:PG}(h:aS H x){e:MapEntry}(he:e∈x.ef.toList):∃z∈x.zs,e.key=ku z.1.name (z.1.ag:Int)/\e.val=cG z.2.p:=by
 have:=(h.entF e.key e.val).1 ⟨e,he,rfl,rfl⟩;obtain⟨z,hz,q⟩:=QB.1 this;simp only[RO] at q;exact⟨z,hz,q.1.symm,q.2.symm⟩
theorem aS.CY {H:aa}{x:PG}(h:aS H x){z:FZ}(hz:z∈x.zs):∃e∈x.ef.toList,e.key=ku z.1.name (z.1.ag:Int)/\e.val=cG z.2.p:=by
 obtain⟨e,he,h1,a⟩:=(h.entF _ _).2 (QB.2 ⟨z,hz,rfl⟩);exact⟨e,he,h1,a⟩
def N3 (x:PG)(l:List MapEntry)(b:Option Addr):Prop:=
 match b with
 |none=>∀e∈l,∀z∈x.zs,e.val=cG z.2.p->z.1.pins≠[]
 |some a=>∃z∈x.zs,a=⟨z.2.p,0,none⟩/\z.1.pins=[]/\∀e∈l,∀z'∈x.zs,e.val=cG z'.2.p->z'.1.pins=[]->z.1.left<=z'.1.left
theorem po:∃(a:TypeId) (inf:TypeInfo),Qf.underlying AN=some (.map yE a)/\Qf.info? a=some inf/\inf.zero=some (.pointer none):=by
 obtain⟨D,b⟩:=Option.isSome_iff_exists.1 (by kernel_rfl:(Qf.underlying yE).isSome=true);obtain⟨a,inf,h1,_,c,d⟩:=uS (P:=Qf) (t:=AN) (kt:=yE) (by kernel_rfl) b;exact⟨a,inf,h1,c,d⟩
theorem GH {x:PG}{H:aa}{p dp:Nat}{s:Pl}{K:Option Addr->aa->Prop}(h:bx x H p dp s)(Y:s.mT=none->∀H',Ext H H'->K none H')
  (Z:∀i f g,s.mT=some i->x.zs[i]?=some (f,g)->∀H',Ext H H'->K (av g.p) H'):KY.sp (av p) H K:=by
 refine KY.of ?_;unfold KY.vc;simp only[aw];refine h.head.ld (c:=dB) (i:=2) (x:=some x.mf) rfl ?_;obtain⟨et,inf,hu,_⟩:=po;have G:=h.aD;refine uV hu G.fmap λH1 L Q=>?_;have ae:=aI L;have M:aS H1 x:=G.aE λb _ N=>Q.same b N id;refine uP (it:=H.size) (λl b A=>N3 x l b/\Mod (λk=>k=H.size) H1 A) M.fmap L ⟨(by intro e he;cases he),.refl _ _⟩ (λl b A A' q m _=>⟨q.1,q.2.trans m⟩) ?_ ?_
 ·rintro l e b A next ⟨I,E⟩ he _ _ _ _ _ r
  obtain⟨z,hz,_,J⟩:=G.entry he;have W:aS A x:=M.aE λc R N=>E.same c N λq=>by have:=G.lt c R;omega
  have O:=W.each z hz;refine⟨av z.2.p,by rw[J];rfl,?_⟩;refine KM.of ?_;unfold KM.vc;simp only[aw];refine O.row.ld (c:=ai .i64) (i:=5) (x:=(z.1.pins.length:Int)) rfl ?_;have same:∀z'∈x.zs,e.val=cG z'.2.p->z'=z:=λz' n d=>G.ptr n hz (by rw[J] at d;exact(FP d).symm);refine ao (λF=>?_) (λF=>?_)
  ·have u:z.1.pins=[]:=by
    have:(z.1.pins.length:Int)=0:=by simpa using F
    exact List.eq_nil_of_length_eq_zero (by omega)
   cases b with
   |none=>
     refine aT rfl (r _ _ ⟨⟨z,hz,rfl,u,?_⟩,E⟩ rfl rfl);intro C t z' n d o;rcases Qj.1 t with q|q
     ·exact absurd o (I C q z' n d)
     ·simp at q;subst q;rw[same z' n d];exact Uf _
   |some a=>
     obtain⟨y,P,rfl,hyp,D⟩:=I;have S:=W.each y P;refine az rfl ?_;refine JY.of ?_;unfold JY.vc;simp only[aw];refine O.row.ld (c:=ai .i64) (i:=6) (x:=z.1.left) rfl ?_;refine S.row.ld (c:=ai .i64) (i:=6) (x:=y.1.left) rfl ?_;refine ao (λv=>?_) (λv=>?_)
     ·have v:z.1.left<y.1.left:=by simpa using v
      refine r _ _ ⟨⟨z,hz,rfl,u,?_⟩,E⟩ rfl rfl;intro C t z' n d o;rcases Qj.1 t with q|q
      ·have:=D C q z' n d o;omega
      ·simp at q;subst q;rw[same z' n d];exact Uf _
     ·have v:¬z.1.left<y.1.left:=by simpa using v
      refine r _ _ ⟨⟨y,P,rfl,hyp,?_⟩,E⟩ rfl rfl;intro C t z' n d o;rcases Qj.1 t with q|q
      ·exact D C q z' n d o
      ·simp at q;subst q;rw[same z' n d];omega
  ·have u:z.1.pins≠[]:=by
    intro q;rw[q] at F;simp at F
   refine r _ _ ⟨?_,E⟩ rfl rfl;cases b with
   |none=>
     intro C t z' n d;rcases Qj.1 t with q|q
     ·exact I C q z' n d
     ·simp at q;subst q;rw[same z' n d];exact u
   |some a=>
     obtain⟨y,P,rfl,hyp,D⟩:=I;refine⟨y,P,rfl,hyp,?_⟩;intro C t z' n d o;rcases Qj.1 t with q|q
     ·exact D C q z' n d o
     ·simp at q;subst q;rw[same z' n d] at o;exact absurd o u
 ·rintro l b A ⟨I,E⟩ w _;have X:Ext H A:=⟨by have:=Q.size;have:=E.size;omega,λc R _=>(E.same c (by omega) (by omega)).trans (Q.same c R id)⟩;cases b with
  |none=>
    refine Y ?_ A X;cases hb:s.mT with
    |none=>rfl
    |some i=>
      obtain⟨f,hf,F,_⟩:=Pl.kz hb;obtain⟨g,hg,_⟩:=h.at hf;have B:=Qi hg;obtain⟨e,he,_,J⟩:=G.CY B;exact absurd F (I e (w.mem_iff.2 he) _ B J)
  |some a=>
    obtain⟨z,hz,rfl,F,N⟩:=I;obtain⟨i,hi⟩:=Qr.1 hz;have T:s.fs[i]?=some z.1:=by rw[h.fs];simp[PG.fs,hi]
    refine Z i z.1 z.2 (Pl.Jx h.wf T F λf' U o=>?_) hi A X;obtain⟨j,hj⟩:=Qr.1 U;obtain⟨g',V,_⟩:=h.at hj;have B:=Qi V;obtain⟨e,he,_,J⟩:=G.CY B;exact N e (w.mem_iff.2 he) _ B J o
theorem qJ {α β:Type}(u:α->β):∀(l:List α) (i:Nat),(l.eraseIdx i).map u=(l.map u).eraseIdx i
 |[],i=>by simp
 |a::l,0=>by simp
 |a::l,i+1=>by simp[qJ u l i]
theorem ez.CJ {H:aa}{g:vK}{f:Fr}{K:(ByteArray×Int)->Prop}(h:ez H g f)(a:K (f.name,(f.ag:Int))):kN (iD [dN,(ai .i64)]) 2 H (QS ⟨g.p,0,none⟩ 0) K:=by
 refine⟨(f.name,(f.ag:Int)),?_,a⟩;refine ab.nJ (o:=0) (ds:=#[.string f.name,.int .i64 (f.ag:Int)]) h.row rfl λi hi=>?_;have:i=0\/i=1:=by omega
 rcases this with rfl|rfl<;>rfl
theorem bx.OL {x:PG}{H:aa}{p dp:Nat}{s:Pl}{K:Nat->Prop}(h:bx x H p dp s)(a:K s.fs.length):Eo H (some x.mf) K:=
 ⟨s.fs.length,⟨x.ef,x.cf,h.aD.fmap.obj,h.n⟩,a⟩
theorem Pl.WF.key {s:Pl}(h:s.WF){i:Nat}{f:Fr}(a:s.fs[i]?=some f):xe Qf yE (ku f.name (f.ag:Int)):=by
 have:=h.aG f (Qi a);exact qm this.2 (by omega) (by omega)
theorem BE {x:PG}{D:Nat->Prop}{H:aa}{p dp:Nat}{s:Pl}{i:Nat}{f:Fr}{g:vK}{ty:TypeId}{K:Value->aa->Prop}(q:Gl H)(h:bU x D H p dp s)(hz:x.zs[i]?=some (f,g))(r:f.pins=[])
  (t:∀a v H',bU {x with zs:=x.zs.eraseIdx i,ef:=a} D H' p dp (s.drop i)->Step (λb=>D b\/x.all p b) (λb=>D b\/PG.all {x with zs:=x.zs.eraseIdx i,ef:=a} p b) H H'->Mod (λb=>b=x.mf) H H'->K v H'):
  bI jF Qf (RN #[AN,yE] ty #[(.map (some x.mf)),(.agg #[(.string f.name),(.int .i64 (f.ag:Int))])]) H K:=by
 have j:s.fs[i]?=some f:=by rw[h.ar.fs];simp[PG.fs,hz]
 obtain⟨F,inf,hu,_⟩:=po;have c:=h.ar.wf.key j;refine yH (k:=ku f.name (f.ag:Int)) hu x8 h.ar.aD.fmap c λa H' u it w d z'=>?_;have y:=h.ar.aD.erase hz r (by have:=h.ar.wf.keys;rw[h.ar.fs] at this;exact this) u it w (λb _ l A=>d.same b A l);have m:p≠x.mf:=λe=>bx.off h.ar.head h.ar.aD (.inl e);have n:bx {x with zs:=x.zs.eraseIdx i,ef:=a} H' p dp (s.drop i):=by
  refine⟨d.at h.ar.head m,y,?_,h.ar.wf.drop i⟩;show s.fs.eraseIdx i=(x.zs.eraseIdx i).map (·.1);rw[h.ar.fs,qJ];rfl
 obtain⟨B,C⟩:=h.wF q n rfl (d.mono λb _ e=>.inr (.inl e)) (by
  rintro b (e|e|⟨z,o,E⟩)
  ·exact .inl (.inl e)
  ·exact .inl (.inr (.inl e))
  ·exact .inl (.inr (.inr ⟨z,RW o,E⟩)))
 exact t a _ H' B C d
theorem CS {x:PG}{D:Nat->Prop}{H:aa}{p dp:Nat}{s:Pl}{K:Int->aa->Prop}(R:Gl H)(h:bU x D H p dp s)(j:s.d.bt<68719476736)
  (a:∀x' n H',bU x' n H' p dp s.room.1->Step (λb=>D b\/x.all p b) (λb=>n b\/x'.all p b) H H'->K s.room.2 H'):JX.sp (av p) H K:=by
 refine JX.of ?_;unfold JX.vc;simp only[aw];refine h.ar.head.ld (c:=dB) (i:=2) (x:=some x.mf) rfl ?_;refine h.ar.OL ?_;refine h.ar.head.ld (c:=ai .i64) (i:=1) (x:=(s.most:Int)) rfl ?_;refine ao (λA=>?_) (λA=>?_)
 ·have e:s.room=(s,0):=by unfold Pl.room;rw[if_pos (by simpa using A)]
  rw[e] at a;exact a x D H h (.refl _ _)
 have hlen:¬s.fs.length<s.most:=by simpa using A
 refine GH h.ar (λS H1 d=>?_) (λi f g P hz H1 d=>?_)
 ·have e:s.room=(s,31):=by unfold Pl.room;rw[if_neg hlen,S]
  rw[e] at a;refine aT rfl (a x D H1 ⟨h.ar.aE λb _ k=>d.same b k id,h.jI.aE λb _ k=>d.same b k id,h.apart,h.eV⟩ ⟨Ext.mod d,λb q=>.inl q⟩)
 ·have h1:bU x D H1 p dp s:=⟨h.ar.aE λb _ k=>d.same b k id,h.jI.aE λb _ k=>d.same b k id,h.apart,h.eV⟩;have B:Step (λb=>D b\/x.all p b) (λb=>D b\/x.all p b) H H1:=⟨Ext.mod d,λb q=>.inl q⟩;have l:Gl H1:=R.mod d id;have C:=Qi hz;have o:s.fs[i]?=some f:=by rw[h.ar.fs];simp[PG.fs,hz]
  have E:=Pl.ky o;obtain⟨f0,r,t,_⟩:=Pl.kz P;rw[o] at r;cases r;have Q:=h1.ar.aD.each _ C;refine az rfl ?_;simp only[aw];refine Q.row.ld (c:=aC) (i:=4) (x:=f.dirty) rfl ?_;have m:s.room=(if f.dirty then (if (s.put i).2=0 then ((s.put i).1.drop i,0) else s.put i) else (s.drop i,0)):=by
   unfold Pl.room;rw[if_neg hlen,P];simp only[E]
  cases hd:f.dirty with
  |true=>
    rw[hd,if_pos rfl] at m;refine aT rfl ?_;refine JM l h1 hz j (λu n F w z=>?_) (λhe n F w z=>?_)
    ·rw[if_neg u] at m;rw[m] at a;exact aT (by simpa using u) (a x n F w (B.trans z))
    ·rw[if_pos he] at m;rw[m] at a;refine az rfl ?_;have G:=(Qk.1 hz).1;have y:(x.zs.set i (f.clean,g))[i]?=some (f.clean,g):=by simp[G]
     have I:=w.ar.aD.each _ (Qi y);refine w.ar.head.ld (c:=dB) (i:=2) (x:=some x.mf) rfl ?_;refine ez.CJ I ?_;have J:Gl F:=h1.gl l z.mod;refine BE (x:={x with zs:=x.zs.set i (f.clean,g)}) J w y t λL v M N O _=>?_;exact a _ n M N ((B.trans z).trans O)
  |false=>
    rw[hd,if_neg (by simp)] at m;rw[m] at a;refine az rfl ?_;refine h1.ar.head.ld (c:=dB) (i:=2) (x:=some x.mf) rfl ?_;refine ez.CJ Q ?_;refine BE l h1 hz t λL v M N O _=>?_;exact a _ D M N (B.trans O)
theorem ss:GV Qf NP bT (.int .i64):=uS (by kernel_rfl) (by kernel_rfl)
theorem yx {h:Int}:∀(zs:List FZ) (i:Nat) (f:Fr) (g:vK),zs[i]?=some (f,g)->∀k v,(k,v)∈yi (zs.set i (Fr.cK h f,g))↔(k,v)∈yi zs\/(k=.int .i64 h/\v=cG g.p)
 |[],i,f,g,e,k,v=>by simp at e
 |a::l,0,f,g,e,k,v=>by
   simp at e;subst e;simp only[List.set_cons_zero,yi,Q5,Qj,N4,Fr.cK,Q4,RH,VV,QV,RO];constructor
   ·rintro((q|q)|q)
    ·exact .inl (.inl q)
    ·exact .inr q
    ·exact .inl (.inr q)
   ·rintro((q|q)|q)
    ·exact .inl (.inl q)
    ·exact .inr q
    ·exact .inl (.inr q)
 |a::l,i+1,f,g,e,k,v=>by
   have b:=yx (h:=h) l i f g (by simpa using e) k v;simp only[List.set_cons_succ,yi,Q5,Qj] at b ⊢;rw[b,or_assoc]
theorem Hu {x:PG}{D:Nat->Prop}{H:aa}{p dp:Nat}{s:Pl}{i:Nat}{f:Fr}{g:vK}{K:Int->aa->Prop}(S:Gl H)(h:bU x D H p dp s)(hz:x.zs[i]?=some (f,g))(hn:s.next<9223372036854775807)
  (B:(s.lO i).WF) (T:(f.pins.length:Int)<9223372036854775807)
  (U:∀x' H',bU x' D H' p dp (s.lO i)->Step (λb=>D b\/x.all p b) (λb=>D b\/x'.all p b) H H'->K s.next H'):GJ.sp (av p) (av g.p) H K:=by
 refine GJ.of ?_;unfold GJ.vc;simp only[aw];have d:=Qi hz;have C:s.fs[i]?=some f:=by rw[h.ar.fs];simp[PG.fs,hz]
 have l:=h.ar.aD.each _ d;refine l.row.ld (c:=ai .i64) (i:=5) (x:=(f.pins.length:Int)) rfl ?_;refine l.row.st (i:=5) (by decide:5<7) (by rfl) λH1 V m1 z1=>?_;have m:p≠g.p:=λe=>bx.off h.ar.head h.ar.aD (e▸.inr (.inr ⟨_,d,.inl rfl⟩));have j:ab H1 p DN (oP dp x s):=m1.at h.ar.head m;refine j.ld (c:=dB) (i:=3) (x:=some x.mh) rfl ?_;refine j.ld (c:=ai .i64) (i:=4) (x:=s.next) rfl ?_;obtain⟨et,inf,hu,hd,W,X⟩:=ss;have n:=h.ar.aD.off d;have o:g.p≠x.mh:=λe=>n.2 (.inl e.symm);have E:eU (.int .i64) H1 x.mh x.eh x.ch:=h.ar.aD.hmap.aE (m1.same _ h.ar.aD.hmap.lt (λe=>o e.symm));have F:∀u,¬fN x.eh (.int .i64 s.next) u:=by
  intro u G;have:=(h.ar.aD.entH _ _).1 G;obtain⟨z,I,hk⟩:=Rs.1 this;obtain⟨q,J,e⟩:=QB.1 hk;simp only[RO,UG,true_and] at e;have L:z.1∈s.fs:=by rw[h.ar.fs];exact QB.2 ⟨z,I,rfl⟩
  have:=(h.ar.wf.old _ L _ J).2;omega
 refine ot hu hd E (k:=.int .i64 s.next) (show Qe=Qe from rfl) F λY r m2 z2=>?_;have t:p≠x.mh:=λe=>bx.off h.ar.head h.ar.aD (.inr (.inl e));have w:ab Y p DN (oP dp x s):=m2.at j t;refine w.ld (c:=ai .i64) (i:=4) (x:=s.next) rfl ?_;refine w.st (i:=4) (by decide:4<8) (by rfl) λy Q m3 z3=>?_;refine Q.ld (c:=ai .i64) (i:=4) (x:=gQ (s.next+1)) rfl ?_;have ht:=h.ar.wf.tick;have hw:gQ (s.next+1)=s.next+1:=by unfold gQ;exact wrap64 (by omega) (by omega)
 have Z:Qe.wrap (gQ (s.next+1) - 1)=s.next:=by
  have e1:gQ (s.next+1) - 1=s.next:=by omega
  rw[e1];exact wrap64 (by omega) (by omega)
 rw[Z];have a:Mod (λb=>b=g.p\/b=x.mh\/b=p) H y:=((m1.mono λb _ e=>.inl e).trans (m2.mono λb _ e=>.inr (.inl e))).trans (m3.mono λb _ e=>.inr (.inr e));have ew:Qe.wrap ((f.pins.length:Int)+1)=(((Fr.cK s.next f).pins.length:Nat):Int):=by
  rw[wrap64 (by omega) (by omega)];simp[Fr.cK]
 have J:ez y g (Fr.cK s.next f):=by
  refine⟨?_,l.b.aE λb A M=>a.same b M ?_⟩
  ·have:=m3.at (m2.at V o) (λe=>m e.symm);rw[ew] at this;exact this
  ·obtain⟨c,q⟩:=l.b.obj b A;rintro(e|e|e)
   ·rw[e] at q;exact absurd (aR l.row q) (by decide)
   ·rw[e,h.ar.aD.hmap.obj] at q;cases q
   ·rw[e] at q;exact absurd (aR h.ar.head q) (by decide)
 have R:=h.ar.aD.set (H':=y) (z':=(Fr.cK s.next f,g)) hz rfl rfl rfl J (r.aE (m3.same _ r.lt (λe=>t e.symm))) (λk v=>by
  rw[jj,h.ar.aD.entH,yx x.zs i f g hz];exact TW) (λb A N O M=>a.same b M (by
   rintro(e|e|e)
   ·exact N (.inl e)
   ·exact O e
   ·exact bx.off h.ar.head h.ar.aD (e▸A))) (λb A=>.inl A)
 have P:bx {x with zs:=x.zs.set i (Fr.cK s.next f,g),eh:=x.eh.push {key:=.int .i64 s.next,val:=cG g.p,born:=x.ch},ch:=x.ch+1} y p dp (s.lO i):=by
  refine⟨Q,R.1,?_,B⟩;show s.fs.modify i (Fr.cK s.next)=(x.zs.set i (Fr.cK s.next f,g)).map (·.1);rw[cT C,h.ar.fs];simp[PG.fs,Tq]
 obtain⟨q1,q2⟩:=h.wF S P rfl (a.mono λb _ e=>by
  rcases e with e|e|e
  ·exact .inr (.inr (.inr ⟨_,d,.inl e⟩))
  ·exact .inr (.inr (.inl e))
  ·exact .inl e) R.2
 exact U _ y q1 q2
structure Fx (x:PG)(D:Nat->Prop)(H:aa)(p:Nat)(g:vK)(f:Fr):Prop where
 fr:ez H g f
 off:∀b,g.fp b->¬D b/\¬x.all p b/\b≠ia
theorem CA {x:PG}{D:Nat->Prop}{H:aa}{p dp:Nat}{s:Pl}{f:Fr}{g:vK}{K:Int->aa->Prop}(hg:Gl H)(h:bU x D H p dp s)(hN:Fx x D H p g f)
  (t:s.fs.length<s.most) (hn:s.next<9223372036854775807) (hk:s.find f.name f.ag=none) (l:f.b.length<=504) (af:f.ag<1048577) (S:f.name.size<=9223372036854775807) (hp:f.pins=[]) (a1:f.left=0)
  (hK:∀x' H',bU x' D H' p dp (s.take f)->Step (λb=>(D b\/x.all p b)\/g.fp b) (λb=>D b\/x'.all p b) H H'->K s.next H'):Dm.sp (av p) (av g.p) H K:=by
 refine Dm.of ?_;unfold Dm.vc;simp only[aw];have hw:=h.ar.wf.take t hn hk l af S hp a1;have hlen:=h.ar.wf.len;have a6:=h.ar.wf.most;refine h.ar.head.ld (c:=dB) (i:=2) (x:=some x.mf) rfl ?_;refine ez.CJ hN.fr ?_;obtain⟨et,inf,hu,_⟩:=po;have a7:∀u,¬fN x.ef (ku f.name (f.ag:Int)) u:=by
  intro u w;obtain⟨z,hz,e⟩:=QB.1 ((h.ar.aD.entF _ _).1 w);simp only[RO] at e;have:=oM e.1;have F:z.1∈s.fs:=by rw[h.ar.fs];exact QB.2 ⟨z,hz,rfl⟩
  exact Pl.nB hk _ F this.1 this.2
 refine yX (k:=ku f.name (f.ag:Int)) hu x8 h.ar.aD.fmap (qm S (by omega) (by omega)) a7 λH1 T m1 z1=>?_;have U:p≠x.mf:=λe=>bx.off h.ar.head h.ar.aD (.inl e);have G:ab H1 p DN (oP dp x s):=m1.at h.ar.head U;refine G.ld (c:=ai .i64) (i:=6) (x:=(s.peak:Int)) rfl ?_;refine G.ld (c:=dB) (i:=2) (x:=some x.mf) rfl ?_;have a8:=h.ar.n;refine⟨s.fs.length+1,⟨_,_,T.obj,by simp[a8]⟩,?_⟩;have ep:(if ((s.fs.length+1:Nat):Int)>(s.peak:Int) then ((s.fs.length+1:Nat):Int) else (s.peak:Int))=((max s.peak (s.fs.length+1):Nat):Int):=by
  split<;>omega
 simp only[ep];refine G.st (i:=6) (by decide:6<8) (by rfl) λP r2 m2 z2=>?_;have d:=hN.off;have m:Mod (λb=>b=x.mf\/b=p) H P:=(m1.mono λb _ e=>.inl e).trans (m2.mono λb _ e=>.inr e);have o:ez P g f:=hN.fr.aE λb l t=>m.same b t (by
  rintro(e|e)
  ·exact(d b l).2.1 (.inr (.inl e))
  ·exact(d b l).2.1 (.inl e))
 -- the frame is pushed
 obtain⟨r,I⟩:∃e:Array MapEntry,e=x.ef.push {key:=ku f.name (f.ag:Int),val:=cG g.p,born:=x.cf}:=⟨_,rfl⟩;have n:∀(i:Nat) (z:FZ),x.zs[i]?=some z->∀b,z.2.fp b->¬g.fp b:=λi z hz b l ba=>(d b ba).2.1 (.inr (.inr (.inr ⟨z,Qi hz,l⟩)));have Q:aS P {x with zs:=x.zs++[(f,g)],ef:=r,cf:=x.cf+1}:=by
  have A:=h.ar.aD;have V:=bx.off h.ar.head h.ar.aD;have old:∀u∈x.zs,ez P u.2 u.1:=λu hu=>(A.each u hu).aE λb l t=>m.same b t (by
   rintro(e|e)
   ·exact(A.off hu).1 (e▸l)
   ·exact V (e▸.inr (.inr ⟨u,hu,l⟩)))
  refine⟨?_,A.hmap.aE (m.same _ A.hmap.lt (by
   rintro(e|e)
   ·exact A.ne e.symm
   ·exact V (e▸.inr (.inl rfl)))),A.ne,by rw[I];simp[A.size],?_,?_,?_,?_⟩
  ·have:=T.mod m2 (λe=>U e.symm);rw[I];exact this
  ·intro k v;rw[AT,Qj,I,jj,A.entF k v];simp[Ce]
  ·intro k v;rw[Bg,A.entH k v];simp[yi,C4 (z:=(f,g)) hp]
  ·intro u hu;rcases Qj.1 hu with q|q
   ·exact old u q
   ·simp at q;subst q;exact o
  ·intro i j u v h1 h2 bg b J L;have ex:∀(i:Nat) (u:FZ),(x.zs++[(f,g)])[i]?=some u->(x.zs[i]?=some u)\/(i=x.zs.length/\u=(f,g)):=by
    intro i u h1;by_cases hi:i<x.zs.length
    ·rw[QR hi] at h1;exact .inl h1
    ·rw[Re (by omega)] at h1;have:i=x.zs.length:=by
      have:=(Qk.1 h1).1;simp at this;omega
     subst this;simp at h1;exact .inr ⟨rfl,h1.symm⟩
   rcases ex i u h1 with q1|⟨e1,rfl⟩<;>rcases ex j v h2 with q2|⟨e2,rfl⟩
   ·exact A.apart i j u v q1 q2 bg b J L
   ·exact n i u q1 b J L
   ·exact n j v q2 b L J
   ·omega
 -- what holds in between
 have bG:(s.add f).fs.length<=s.most:=by simp[Pl.add];omega
 have M:ab P p DN (oP dp {x with zs:=x.zs++[(f,g)],ef:=r,cf:=x.cf+1} (s.add f)):=r2;have hz:(x.zs++[(f,g)])[x.zs.length]?=some (f,g):=by simp
 have b0:x.zs.length=s.fs.length:=by rw[h.ar.fs];simp[PG.fs]
 -- the pin, over the blocks themselves
 refine GJ.of ?_;unfold GJ.vc;simp only[aw];have b1:((f,g):FZ)∈x.zs++[(f,g)]:=by simp
 refine o.row.ld (c:=ai .i64) (i:=5) (x:=(f.pins.length:Int)) rfl ?_;refine o.row.st (i:=5) (by decide:5<7) (by rfl) λH3 r3 m3 z3=>?_;have B:p≠g.p:=λe=>(d g.p (.inl rfl)).2.1 (.inl e.symm);have N:ab H3 p DN (oP dp {x with zs:=x.zs++[(f,g)],ef:=r,cf:=x.cf+1} (s.add f)):=m3.at M B;refine N.ld (c:=dB) (i:=3) (x:=some x.mh) rfl ?_;refine N.ld (c:=ai .i64) (i:=4) (x:=s.next) rfl ?_;obtain⟨b3,bE,w,bl,_,_⟩:=ss;have W:g.p≠x.mh:=λe=>(d g.p (.inl rfl)).2.1 (.inr (.inr (.inl e)));have bs:eU (.int .i64) H3 x.mh x.eh x.ch:=Q.hmap.aE (m3.same _ Q.hmap.lt (λe=>W e.symm));have X:∀u,¬fN x.eh (.int .i64 s.next) u:=by
  intro u w;have:=(h.ar.aD.entH _ _).1 w;obtain⟨z,bA,hk⟩:=Rs.1 this;obtain⟨q,hq,e⟩:=QB.1 hk;simp only[RO,UG,true_and] at e;have F:z.1∈s.fs:=by rw[h.ar.fs];exact QB.2 ⟨z,bA,rfl⟩
  have:=(h.ar.wf.old _ F _ hq).2;omega
 refine ot w bl bs (k:=.int .i64 s.next) (show Qe=Qe from rfl) X λH4 Y m4 z4=>?_;have C:p≠x.mh:=λe=>bx.off h.ar.head h.ar.aD (.inr (.inl e));have Z:ab H4 p DN (oP dp {x with zs:=x.zs++[(f,g)],ef:=r,cf:=x.cf+1} (s.add f)):=m4.at N C;refine Z.ld (c:=ai .i64) (i:=4) (x:=s.next) rfl ?_;refine Z.st (i:=4) (by decide:4<8) (by rfl) λR r5 m5 z5=>?_;refine r5.ld (c:=ai .i64) (i:=4) (x:=gQ (s.next+1)) rfl ?_;have ht:=h.ar.wf.tick;have b4:gQ (s.next+1)=s.next+1:=by unfold gQ;exact wrap64 (by omega) (by omega)
 have er:Qe.wrap (gQ (s.next+1) - 1)=s.next:=by
  have e1:gQ (s.next+1) - 1=s.next:=by omega
  rw[e1];exact wrap64 (by omega) (by omega)
 rw[er];have y:Mod (λb=>b=g.p\/b=x.mh\/b=p) P R:=((m3.mono λb _ e=>.inl e).trans (m4.mono λb _ e=>.inr (.inl e))).trans (m5.mono λb _ e=>.inr (.inr e));have hq:ez R g (Fr.cK s.next f):=by
  refine⟨?_,o.b.aE λb l t=>y.same b t ?_⟩
  ·have:=m5.at (m4.at r3 W) (λe=>B e.symm);have e0:Qe.wrap (((f.pins.length:Nat):Int)+1)=(((Fr.cK s.next f).pins.length:Nat):Int):=by
    rw[hp];simp[Fr.cK,hp];rfl
   rw[e0] at this;exact this
  ·obtain⟨c,q⟩:=o.b.obj b l;rintro(e|e|e)
   ·rw[e] at q;exact absurd (aR o.row q) (by decide)
   ·rw[e,Q.hmap.obj] at q;cases q
   ·rw[e] at q;exact absurd (aR M q) (by decide)
 have bB:=Q.set (H':=R) (z':=(Fr.cK s.next f,g)) hz rfl rfl rfl hq (Y.aE (m5.same _ Y.lt (λe=>C e.symm))) (λk v=>by
  rw[jj,Q.entH,yx _ x.zs.length f g hz];exact TW) (λb l bC bD t=>y.same b t (by
   rintro(e|e|e)
   ·exact bC (.inl e)
   ·exact bD e
   ·exact bx.off M Q (e▸l))) (λb l=>.inl l)
 have ae:bx {x with zs:=(x.zs++[(f,g)]).set x.zs.length (Fr.cK s.next f,g),ef:=r,cf:=x.cf+1,eh:=x.eh.push {key:=.int .i64 s.next,val:=cG g.p,born:=x.ch},ch:=x.ch+1} R p dp (s.take f):=by
  refine⟨r5,bB.1,?_,hw⟩;show (s.fs++[f]).modify s.fs.length (Fr.cK s.next)=((x.zs++[(f,g)]).set x.zs.length (Fr.cK s.next f,g)).map (·.1);rw[cT (a:=f) (by simp),h.ar.fs];simp[PG.fs]
 have E:Mod (λb=>x.all p b\/g.fp b) H R:=by
  refine(m.mono λb _ e=>?_).trans (y.mono λb _ e=>?_)
  ·rcases e with e|e
   ·exact .inl (.inr (.inl e))
   ·exact .inl (.inl e)
  ·rcases e with e|e|e
   ·exact .inr (.inl e)
   ·exact .inl (.inr (.inr (.inl e)))
   ·exact .inl (.inl e)
 have own:∀b,PG.all {x with zs:=(x.zs++[(f,g)]).set x.zs.length (Fr.cK s.next f,g),ef:=r,cf:=x.cf+1,eh:=x.eh.push {key:=.int .i64 s.next,val:=cG g.p,born:=x.ch},ch:=x.ch+1} p b->x.all p b\/g.fp b:=by
  rintro b (e|e|e|⟨u,hu,O⟩)
  ·exact .inl (.inl e)
  ·exact .inl (.inr (.inl e))
  ·exact .inl (.inr (.inr (.inl e)))
  ·rcases mz hu with ⟨j,_,hj⟩|rfl
   ·rcases Qj.1 (Qi hj) with q|q
    ·exact .inl (.inr (.inr (.inr ⟨u,q,O⟩)))
    ·simp at q;subst q;exact .inr O
   ·exact .inr O
 refine hK _ R ⟨ae,h.jI.aE λb l t=>E.same b t ?_,?_,h.eV.1,?_⟩ ⟨E.mono λb _ e=>e.imp .inr id,?_⟩
 ·rintro(e|e)
  ·exact h.apart b l e
  ·exact(d b e).1 l
 ·intro b l hx;rcases own b hx with e|e
  ·exact h.apart b l e
  ·exact(d b e).1 l
 ·intro hx;rcases own _ hx with e|e
  ·exact h.eV.2 e
  ·exact(d _ e).2.2 rfl
 ·rintro b (e|e)
  ·exact .inl (.inl (.inl e))
  ·rcases own b e with q|q
   ·exact .inl (.inl (.inr q))
   ·exact .inl (.inr q)
end Go.Proofs.YtkehfflpbpdokaaGreatDoor
namespace Go.Proofs.YtkehfflpbpdokaaGreatDoor
theorem Dk.yJ (s:Dk):s.change.1.bt=s.bt:=by unfold Dk.bt;rw[s.fC]
theorem Dk.vL {s:Dk}{f:Dk->Dk}{n:Nat}(h:∀t:Dk,t.files=s.files->(f t).bt<=n)(a:s.bt<=n):(s.step f).1.bt<=n:=by
 unfold Dk.step;split
 ·exact h _ s.fC
 ·show s.change.1.bt<=n;rw[s.yJ];exact a
theorem Dk.KA {s t:Dk}(h:t.files=s.files):t.bt=s.bt:=by unfold Dk.bt;rw[h]
theorem Dk.Dg (s:Dk)(n:ByteArray):(s.drop n).bt<=s.bt:=by
 unfold Dk.drop;split
 ·rename_i i hi;obtain⟨f,a,_⟩:=Dk.mP hi;have:=jg (λf:Fl=>f.log.length) s.files i f a;unfold Dk.bt;simp only;omega
 ·exact Qm _
theorem Dk.AE (s:Dk)(n:ByteArray):(s.remove n).1.bt<=s.bt:=by
 unfold Dk.remove;split
 ·exact Qm _
 ·split
  ·exact Qm _
  ·exact Dk.vL (λt a=>QZ (t.Dg n) (by rw[Dk.KA a];exact Qm _)) (Qm _)
theorem Dk.uH (s:Dk)(n:ByteArray)(p:Int)(b:List UInt8):(s.write n p b).1.bt<=s.bt+1:=by
 unfold Dk.write;split
 ·exact Ri _
 ·split
  ·split
   ·exact Ri _
   ·rename_i i hi;split
    ·exact Ri _
    ·split
     ·exact Ri _
     ·refine Dk.vL (λt a=>?_) (Ri _);obtain⟨f,c,_⟩:=Dk.mP hi;rw[<-a] at c;show ((t.files.modify i _).map λf=>f.log.length).sum<=_;have:=gZ (λf:Fl=>f.log.length) (λf=>{f with log:=f.log++[⟨t.next,p.toNat,⟨b,by assumption⟩⟩]}) t.files i f c;have d:(t.files.map λf=>f.log.length).sum=s.bt:=by rw[a];rfl
      simp only[Qt,QJ,List.length_nil] at this;omega
  ·exact Ri _
theorem Pl.Am (s:Pl)(i:Nat):(s.put i).1.d.bt<=s.d.bt+1:=by
 unfold Pl.put;split<;>exact s.d.uH _ _ _
theorem Pl.qo (s:Pl):s.room.1.d.bt<=s.d.bt+1:=by
 unfold Pl.room;split
 ·exact Ri _
 ·split
  ·exact Ri _
  ·split
   ·split
    ·exact s.Am _
    ·exact s.Am _
   ·exact Ri _
def Dk.size (s:Dk)(n:ByteArray):Nat:=match s.idx n with|some i=>(s.file i).aG.length|none=>0
def Pl.Fit (s:Pl):Prop:=∀f∈s.fs,f.ag<s.d.size f.name
theorem Dk.Gf {s:Dk}{n:ByteArray}(h:(s.len n).2=0):(s.len n).1=s.size n:=by
 unfold Dk.len Dk.open at h ⊢;unfold Dk.size;by_cases hd:s.down=true
 ·rw[if_pos hd] at h;cases h
 ·rw[if_neg hd] at h ⊢;cases hi:s.idx n with
  |none=>rw[hi] at h;first|done|cases h
  |some i=>rfl
theorem Pl.Fit.new {s:Pl}(h:s.Fit){n:ByteArray}(a:(s.d.len n).2=0):s.find n (s.d.len n).1=none:=by
 unfold Pl.find;rw[Tz];intro f b;cases c:f.name.toList==n.toList with
 |false=>rfl
 |true=>
   have e:f.name=n:=ka (by simpa using c);have:=h f b;rw[e,<-Dk.Gf a] at this;show (true&&decide ((f.ag:Int)=_))=false;rw[TY];exact decide_eq_false (by omega)
theorem Fl.jx (f:Fl)(w:Wr):(({f with log:=f.log++[w]}:Fl)).aG=vu f.aG w:=by simp[Fl.aG]
structure Live (d:Dk)(n:ByteArray)(pg:List Pg)(q:Nat):Prop where
 up:d.down=false
 calm:d.crash=none
 file:∃f,d.files=[f]/\f.name=n/\f.aG=pg
 quota:d.quota=q
def putAt (pg:List Pg)(k:Nat)(b:Pg):List Pg:=vu pg ⟨0,k,b⟩
theorem pQ (pg:List Pg)(k:Nat)(b:Pg):(putAt pg k b).length=max pg.length (k+1):=nh _ _
theorem vS {pg:List Pg}{k:Nat}{b:Pg}(hk:k<=pg.length)(j:Nat):(putAt pg k b)[j]?=if j=k then some b else pg[j]?:=by
 unfold putAt vu;simp only;by_cases e:j=k
 ·subst e;rw[if_pos rfl,Rc,if_pos rfl,if_pos (by simp;omega)]
 ·rw[if_neg e,Rc,if_neg (λq=>e q.symm)];by_cases a:j<pg.length
  ·rw[QR a]
  ·rw[Re (by omega),Sm (by simp;omega),Sm (by omega)]
structure Told (p:Pl)(n:ByteArray)(N q:Nat)(T:Nat->UInt8×List UInt8)(pg:List Pg):Prop where
 wrong:p.wrong=0
 jI:Live p.d n pg q
 len:pg.length=N
 mine:∀f∈p.fs,f.name=n/\f.ag<N/\T f.ag=(f.kind,f.b)
 rest:∀(k:Nat) (b:Pg),pg[k]?=some b->(∀f∈p.fs,f.ag=k->f.dirty=false)->gV b.1=some (T k)
theorem pH {α:Type}(u:α->α):∀(l:List α) (i:Nat),(l.modify i u).eraseIdx i=l.eraseIdx i
 |[],i=>by simp
 |a::l,0=>by simp
 |a::l,i+1=>by simp[pH u l i]
theorem Pl.Dw {p:Pl}(h:p.fs.length<p.most):p.room=(p,0):=by unfold Pl.room;rw[if_pos h]
theorem rO {α:Type}(l:List α)(a:α)(u:α->α):(l++[a]).modify l.length u=l++[u a]:=by
 have b:(l++[a])[l.length]?=some a:=by simp
 rw[cT b];simp
theorem Pl.si (p:Pl)(f:Fr):(p.take f).fs=p.fs++[Fr.cK p.next f]:=rO p.fs f _
def iQ (T:Nat->UInt8×List UInt8)(k:Nat)(v:UInt8×List UInt8):Nat->UInt8×List UInt8:=λj=>if j=k then v else T j
theorem dJ (T:Nat->UInt8×List UInt8)(k:Nat)(v:UInt8×List UInt8):iQ T k v k=v:=if_pos rfl
theorem cd {T:Nat->UInt8×List UInt8}{k j:Nat}{v:UInt8×List UInt8}(h:j≠k):iQ T k v j=T j:=if_neg h
open Go.MapKept
theorem bU.ext {x:PG}{D:Nat->Prop}{H H':aa}{p dp:Nat}{s:Pl}(h:bU x D H p dp s)(e:Ext H H'):bU x D H' p dp s:=
 ⟨h.ar.aE λb _ a=>e.same b a id,h.jI.aE λb _ a=>e.same b a id,h.apart,h.eV⟩
theorem Step.ext {F:Nat->Prop}{H H':aa}(e:Ext H H'):Step F F H H':=⟨Ext.mod e,λ_ q=>.inl q⟩
theorem Step.behind {F G:Nat->Prop}{A B C:aa}(h:Step F G A B)(e:Ext B C):Step F G A C:=h.trans (Step.ext e)
theorem BP {D:Nat->Prop}{H:aa}{dp:Nat}{d:Dk}{m:Nat}{K:(Option Addr×Int)->aa->Prop}(l:Gl H)(hd:cC D H dp d)(n:¬D ia)(o:8<=m)(hm:m<=4096)
  (r:∀F p H',ax F H' p dp (vY d m)->Ext H H'->(∀b,F b->D b\/H.size<=b)->K (av p,0) H'):It.sp (av dp) (m:Int) H K:=by
 refine It.of ?_;unfold It.vc;refine az rfl (az (by simp;omega) (az (by simp;omega) ?_));refine tV (d:=.int .i64) λH1 s1 m1 s=>?_;refine tV (d:=.int .i64) λg s2 m2 e2=>?_;refine aj λh x t i=>?_;have j:=hd.lt;have u:=l.lt;have c:Ext H h:=(s.trans e2).trans i;have f:bx ⟨H.size,#[],0,H1.size,#[],0,[]⟩ h g.size dp (vY d m):=by
  refine⟨t,⟨?_,?_,by simp only;omega,rfl,?_,?_,by simp,by simp⟩,rfl,BU o hm⟩
  ·exact⟨(e2.trans i).at m1.obj id,stamped_empty 0,by simp⟩
  ·exact m2.aE (i.same _ m2.lt id)
  ·intro k v;constructor
   ·rintro⟨e,he,_⟩;simp at he
   ·intro q;simp[Ce] at q
  ·intro k v;constructor
   ·rintro⟨e,he,_⟩;simp at he
   ·intro q;simp[yi] at q
 have a:∀b,PG.all ⟨H.size,#[],0,H1.size,#[],0,[]⟩ g.size b->H.size<=b:=by
  rintro b (e|e|e|⟨z,hz,_⟩)
  ·omega
  ·simp only at e;omega
  ·simp only at e;omega
  ·simp at hz
 refine r _ g.size h ⟨_,D,⟨f,hd.aE λb _ j=>c.same b j id,λb w f=>?_,n,λf=>?_⟩,λb=>TW⟩ c ?_
 ·have:=a b f;have:=j b w;omega
 ·have:=a _ f;omega
 ·rintro b (q|q)
  ·exact .inl q
  ·exact .inr (a b q)
theorem GG {x:PG}{H:aa}{p dp:Nat}{s:Pl}{n:ByteArray}{k:Int}{K:(Option Addr×Bool)->Prop}(h:bx x H p dp s)(j:n.size<=9223372036854775807)(l:-9223372036854775808<=k)(h1:k<=9223372036854775807)
  (m:∀i f g,s.find n k=some i->x.zs[i]?=some (f,g)->f.name=n->(f.ag:Int)=k->K (av g.p,true)) (o:s.find n k=none->K (none,false)):
  EW (bf [aq,aC]) Qf (RK AN (.map (some x.mf)) (.agg #[(.string n),(.int .i64 k)]) true) H K:=by
 obtain⟨w,inf,hu,hi,hz⟩:=po;refine y8 (k:=ku n k) hu x8 hi hz h.aD.fmap (qm j l h1) ?_ ?_
 ·intro v q;obtain⟨z,b,e⟩:=QB.1 ((h.aD.entF _ _).1 q);simp only[RO] at e;obtain⟨a,e2⟩:=oM e.1;obtain⟨i,hi⟩:=Qr.1 b;have c:s.fs[i]?=some z.1:=by rw[h.fs];simp[PG.fs,hi]
  refine⟨(av z.2.p,true),by rw[<-e.2];rfl,m i z.1 z.2 ?_ hi a e2⟩;rw[<-a,<-e2];exact Pl.find_eq h.wf c
 ·intro d;refine⟨(none,false),rfl,o ?_⟩;cases r:s.find n k with
  |none=>rfl
  |some i=>
    obtain⟨f,t,a,e2⟩:=Pl.wT r;obtain⟨g,u,_⟩:=h.at t;refine absurd ((h.aD.entF (ku n k) (cG g.p)).2 (QB.2 ⟨(f,g),Qi u,?_⟩)) (d _);simp only[a,e2]
theorem HD {x:PG}{H:aa}{p dp:Nat}{s:Pl}{k:Int}{K:(Option Addr×Bool)->Prop}(h:bx x H p dp s)
  (j:∀i f g,s.held k=some i->x.zs[i]?=some (f,g)->k∈f.pins->K (av g.p,true)) (l:s.held k=none->K (none,false)):
  EW (bf [aq,aC]) Qf (RK NP (.map (some x.mh)) (.int .i64 k) true) H K:=by
 obtain⟨t,inf,hu,hd,hi,hz⟩:=ss;refine sF hu hd hi hz h.aD.hmap (k:=.int .i64 k) (show Qe=Qe from rfl) ?_ ?_
 ·intro v m;obtain⟨z,a,hk⟩:=Rs.1 ((h.aD.entH _ _).1 m);obtain⟨q,b,e⟩:=QB.1 hk;simp only[RO,UG,true_and] at e;obtain⟨i,hi⟩:=Qr.1 a;have c:s.fs[i]?=some z.1:=by rw[h.fs];simp[PG.fs,hi]
  rw[e.1] at b;exact⟨(av z.2.p,true),by rw[<-e.2];rfl,j i z.1 z.2 (Pl.so h.wf c b) hi b⟩
 ·intro d;refine⟨(none,false),rfl,l ?_⟩;cases n:s.held k with
  |none=>rfl
  |some i=>
    obtain⟨f,o,hm⟩:=Pl.qB n;obtain⟨g,r,_⟩:=h.at o;exact absurd ((h.aD.entH (.int .i64 k) (cG g.p)).2 (Rs.2 ⟨(f,g),Qi r,QB.2 ⟨k,hm,rfl⟩⟩)) (d _)
theorem Dk.HF {s:Dk}(h:s.WF)(n:ByteArray):(s.len n).1<=1048576:=by
 have h1:=h.used;have c:=h.most;have d:=h.quota;unfold Dk.len;split
 ·rename_i i e hi;have:(s.file i).aG.length<=s.used:=by
   unfold Dk.open at hi;split at hi
   ·cases hi
   ·split at hi
    ·rename_i j b;cases hi;obtain⟨f,a,_⟩:=Dk.mP b;rw[Dk.iX a];exact Dk.zp a
    ·cases hi
  show (s.file i).aG.length<=_;omega
 ·exact QN _
theorem Dk.FD (s:Dk)(n:ByteArray)(k:Int):(s.read n k).1.length<=512/\((s.read n k).2=0->(s.read n k).1.length=512):=by
 unfold Dk.read Dk.open;split
 ·rename_i i e hi;split
  ·exact⟨by simp,λq=>by cases q⟩
  ·split
   ·rename_i pg _;exact⟨by rw[pg.2];exact Qm _,λ_=>pg.2⟩
   ·exact⟨by simp,λq=>by cases q⟩
 ·rename_i e hi;refine⟨by simp,λq=>?_⟩;split at hi
  ·simp at hi;subst hi;cases q
  ·split at hi
   ·cases hi
   ·simp at hi;subst hi;cases q
theorem Pl.Ew (s:Pl):∀f∈s.room.1.fs,∃f'∈s.fs,f'.key=f.key:=by
 have b:∀i,∀f∈(s.put i).1.fs,∃f'∈s.fs,f'.key=f.key:=by
  intro i f a;unfold Pl.put at a;split at a
  ·have a:f∈s.fs.modify i Fr.clean:=a;obtain⟨j,c⟩:=Qr.1 a;rw[List.getElem?_modify] at c;cases d:s.fs[j]? with
   |none=>rw[d] at c;cases c
   |some y=>
     rw[d] at c;have e:(if i=j then y.clean else y)=f:=Qq c;refine⟨y,Qi d,?_⟩;rw[<-e];split<;>rfl
  ·exact⟨f,a,rfl⟩
 intro f a;unfold Pl.room at a;split at a
 ·exact⟨f,a,rfl⟩
 ·split at a
  ·exact⟨f,a,rfl⟩
  ·rename_i i _;split at a
   ·split at a
    ·exact b i f (RW a)
    ·exact b i f a
   ·exact⟨f,RW a,rfl⟩
theorem Pl.iZ {s:Pl}{n:ByteArray}{k:Int}(h:∀f∈s.fs,f.name=n->(f.ag:Int)≠k):s.find n k=none:=by
 unfold Pl.find;rw[Tz];intro f a;cases b:f.name.toList==n.toList with
 |false=>rfl
 |true=>
   have:=h f a (ka (by simpa using b));show (true&&decide ((f.ag:Int)=k))=false;rw[TY];exact decide_eq_false this
theorem Pl.wm {s:Pl}{n:ByteArray}{k:Int}(h:s.find n k=none):s.room.1.find n k=none:=by
 refine Pl.iZ λf b c e2=>?_;obtain⟨f',a,hk⟩:=s.Ew f b;have h1:f'.name=f.name:=congrArg Ye hk;have d:f'.ag=f.ag:=congrArg YJ hk;exact Pl.nB h f' a (h1.trans c) (by rw[d];exact e2)
theorem Pl.Ep {s:Pl}(hd:s.d.WF){n:ByteArray}{k:Int}{f:Fr}(h:(s.load n k).2.1=some f):
  (s.load n k).1=s.room.1/\(s.load n k).2.2=0/\s.room.2=0/\f.name=n/\(f.ag:Int)=k/\f.b.length<=504/\f.pins=[]/\f.left=0/\f.ag<1048577:=by
 have i:=Dk.HF hd n;unfold Pl.load at h ⊢;by_cases h1:(s.d.len n).2≠0
 ·rw[if_pos h1] at h;cases h
 rw[if_neg h1] at h ⊢;by_cases b:k<0\/k>=((s.d.len n).1:Int)
 ·rw[if_pos b] at h;cases h
 rw[if_neg b] at h ⊢;by_cases c:s.room.2≠0
 ·rw[if_pos c] at h;cases h
 rw[if_neg c] at h ⊢;by_cases e:(s.room.1.d.read n k).2≠0
 ·rw[if_pos e] at h;cases h
 rw[if_neg e] at h ⊢;cases a:gV (s.room.1.d.read n k).1 with
 |none=>rw[a] at h;cases h
 |some g=>
   rw[a] at h;simp only[Rv] at h;subst h;have hlen:g.2.length<=504:=by
    unfold gV at a;split at a
    ·rename_i q;cases a;simp;omega
    ·cases a
   exact⟨rfl,rfl,by omega,rfl,by simp only;omega,hlen,rfl,rfl,by simp only;omega⟩
theorem Pl.EJ {s:Pl}{n:ByteArray}{k:Int}(h:(s.load n k).2.1=none):(s.load n k).2.2≠0:=by
 unfold Pl.load at h ⊢;split
 ·rename_i h1;exact h1
 ·rename_i h1;rw[if_neg h1] at h;split
  ·show (12:Int)≠0;decide
  ·rename_i c;rw[if_neg c] at h;split
   ·rename_i a;exact a
   ·rename_i a;rw[if_neg a] at h;split
    ·rename_i b;exact b
    ·rename_i b;rw[if_neg b] at h;split
     ·show (20:Int)≠0;decide
     ·rename_i d hk;rw[hk] at h;cases h
theorem IX {x:PG}{D:Nat->Prop}{H:aa}{p dp:Nat}{s:Pl}{n:ByteArray}{k:Int}{K:(Option Addr×Int)->aa->Prop}(hg:Gl H)(h:bU x D H p dp s)(y:s.d.bt<68719476736)
  (j:(s.load n k).2.1=none->∀q x' N H',bU x' N H' p dp (s.load n k).1->Step (λb=>D b\/x.all p b) (λb=>N b\/x'.all p b) H H'->K (q,(s.load n k).2.2) H')
  (z:∀f,(s.load n k).2.1=some f->∀g x' N H',bU x' N H' p dp s.room.1->Step (λb=>D b\/x.all p b) (λb=>N b\/x'.all p b) H H'->Fx x' N H' p g f->(∀b,g.fp b->H.size<=b)->K (av g.p,0) H'):
  LC.sp (av p) n k H K:=by
 refine LC.of ?_;unfold LC.vc;simp only[aw];refine aj λH1 s1 Z O=>?_;have h1:=h.ext O;have R:Gl H1:=hg.mod O id;refine h1.ar.head.ld (c:=aq) (i:=0) (x:=av dp) rfl ?_;refine Z.ld (c:=dN) (i:=0) (x:=n) rfl ?_;refine Br h1.jI ?_;unfold Pl.load at j z;refine ao (λhz=>?_) (λhz=>?_)
 ·have A:(s.d.len n).2≠0:=by simpa using hz
  rw[if_pos A] at j;exact j rfl _ x D H1 h1 (.ext O)
 have A:¬(s.d.len n).2≠0:=by simpa using hz
 rw[if_neg A] at j z;refine Z.ld (c:=ai .i64) (i:=1) (x:=k) rfl ?_;refine ao (λhk=>?_) (λhk=>?_)
 ·have B:k<0:=by simpa using hk
  rw[if_pos (.inl B)] at j;exact j rfl _ x D H1 h1 (.ext O)
 refine Z.ld (c:=ai .i64) (i:=1) (x:=k) rfl ?_;refine ao (λC=>?_) (λC=>?_)
 ·have B:k>=((s.d.len n).1:Int):=by simpa using C
  rw[if_pos (.inr B)] at j;exact j rfl _ x D H1 h1 (.ext O)
 have a6:0<=k:=by simp at hk;omega
 have ae:¬(k<0\/k>=((s.d.len n).1:Int)):=by simp at hk C;omega
 rw[if_neg ae] at j z;refine CS R h1 y λP Q S E S2=>?_;have v:=(Step.ext (F:=λb=>D b\/x.all p b) O).trans S2;have T:Gl S:=h1.gl R S2.mod;have G:¬(D H.size\/x.all p H.size):=λq=>by have:=h.lt _ q;omega
 have r2:ab S H.size yE #[.string n,.int .i64 k]:=S2.mod.at Z G;refine ao (λI=>?_) (λI=>?_)
 ·have o:s.room.2≠0:=by simpa using I
  rw[if_pos o] at j;exact j rfl _ P Q S E v
 have o:¬s.room.2≠0:=by simpa using I
 rw[if_neg o] at j z;refine E.ar.head.ld (c:=aq) (i:=0) (x:=av dp) rfl ?_;refine r2.ld (c:=dN) (i:=0) (x:=n) rfl ?_;refine r2.ld (c:=ai .i64) (i:=1) (x:=k) rfl ?_;refine KI E.jI λr t o3 U f3=>?_;have af:=s.room.1.d.FD n k;refine ao (λJ=>?_) (λJ=>?_)
 ·have u:(s.room.1.d.read n k).2≠0:=by simpa using J
  rw[if_pos u] at j;exact j rfl _ P Q t (E.ext U) (v.behind U)
 have u:¬(s.room.1.d.read n k).2≠0:=by simpa using J
 rw[if_neg u] at j z;have r3:=r2.ext U;refine ab.kN (x:=(n,k)) r3 rfl rfl ?_;refine aj λL s4 r4 e4=>?_;have M:Ext S L:=U.trans e4;have a1:Gl L:=T.mod M id;have a7:=v.mod.size;have z24:=M.size;have z3:=U.size;have o4:dm EB kJ L r (s.room.1.d.read n k).1:=o3.aE λb _ hl=>e4.same b hl id;have V:(s.room.1.d.read n k).1.length=512:=af.2 (by omega);have fin:∀(m:aa) (kd:Int) (sl:Sl) (er:Int),Ext L m->(∀l,ab l t.size MG #[.string n,.int .i64 k,.int .u8 kd,sl.v,.bool false,.int .i64 0,.int .i64 0]->Mod (λb=>b=t.size) m l->l.size=m.size->K (some ⟨t.size,0,none⟩,er) l)->
   st m (QS ⟨t.size,0,none⟩ 2) (.int .u8 kd) λH7=>st H7 (QS ⟨t.size,0,none⟩ 3) sl.v λH8=>K (some ⟨t.size,0,none⟩,er) H8:=by
  intro m kd sl er a hK;refine ab.st (r4.ext a) (i:=2) (by decide:2<7) (by rfl) λH7 r7 m7 z7=>?_;refine ab.st r7 (i:=3) (by decide:3<7) (by rfl) λH8 r8 m8 z8=>?_;exact hK H8 r8 (m7.trans m8) (by omega)
 have stays:∀(m l:aa),Ext L m->Mod (λb=>b=t.size) m l->bU P Q l p dp s.room.1/\Step (λb=>D b\/x.all p b) (λb=>Q b\/P.all p b) H l:=by
  intro m l a W;have X:Ext S l:=⟨by have:=a.size;have:=W.size;omega,λb w _=>(W.same b (by have:=a.size;omega) (by omega)).trans ((M.trans a).same b w id)⟩;exact⟨E.ext X,v.behind X⟩
 refine Ki a1 (mR o4) (by omega) o4.cap (λq=>absurd V q) (λ_ ho=>?_) (λkd b s' m _ ho a8 o5 a f5=>?_)
 ·rw[ho] at j;refine fin L 0 (Sl.mk none 0 0) 20 (.refl _ _) λl r6 m6 z6=>?_;obtain⟨q1,q2⟩:=stays L l (.refl _ _) m6;exact j rfl _ P Q l q1 q2
 ·rw[ho] at z;refine fin m _ s' 0 a λl r6 m6 z6=>?_;obtain⟨q1,q2⟩:=stays m l a m6;have Y:∀b,vK.fp ⟨t.size,s'⟩ b->t.size<=b:=by
   rintro b (e|w)
   ·exact Nat.le_of_eq e.symm
   ·have:=f5 b w;omega
  have z45:=a.size;refine z _ rfl ⟨t.size,s'⟩ P Q l q1 q2 ⟨⟨?_,o5.aE λb w hl=>m6.same b hl ?_⟩,λb w=>?_⟩ (λb w=>by have:=Y b w;omega)
  ·have ek:((k.toNat:Nat):Int)=k:=by omega
   unfold OZ;simp only[ek];exact r6
  ·have:=f5 b w;omega
  ·have h3:=Y b w;refine⟨λq=>?_,λq=>?_,λq=>?_⟩
   ·have:=E.lt b (.inl q);omega
   ·have:=E.lt b (.inr q);omega
   ·have:=T.lt;omega
theorem ax.ext {F:Nat->Prop}{H H':aa}{p dp:Nat}{s:Pl}(h:ax F H p dp s)(e:Ext H H'):ax F H' p dp s:=h.aE λb _ a=>e.same b a id
theorem Step.ahead {F G:Nat->Prop}{A B C:aa}(e:Ext A B)(h:Step F G B C):Step F G A C:=(Step.ext e).trans h
theorem Kb:(zc Qf yE).size=2:=by kernel_rfl
theorem Bv {F:Nat->Prop}{H:aa}{p dp:Nat}{s:Pl}{n:ByteArray}{k:Int}{K:(Int×Int)->aa->Prop}(hg:Gl H)(h:ax F H p dp s)(X:n.size<=9223372036854775807)(h0:-9223372036854775808<=k)(h1:k<=9223372036854775807)
  (o:s.d.bt<68719476736) (r:s.next<9223372036854775807) (a:∀F' H',ax F' H' p dp (s.cK n k).1->Step F F' H H'->K ((s.cK n k).2.1,(s.cK n k).2.2) H'):IH.sp (av p) n k H K:=by
 have Q:=h;obtain⟨x,D,hd,R⟩:=h;refine IH.of ?_;unfold IH.vc;simp only[aw];refine kM hd.ar ?_;unfold Pl.cK at a;refine ao (λhw=>?_) (λhw=>?_)
 ·have u:s.wrong≠0:=by simpa using hw
  rw[if_pos u] at a;exact a F H Q (.refl _ _)
 have u:¬s.wrong≠0:=by simpa using hw
 rw[if_neg u] at a;refine aj λH1 s1 r1 Y=>?_;have S:=Kb;refine ab.zV r1 (cs:=#[.string n,.int .i64 k]) (by kernel_rfl) S (by intro v Z;simp at Z;rcases Z with rfl|rfl<;>rfl) λB r2 m2 z2=>?_;have e2:Ext H B:=⟨by have:=Y.size;have:=m2.size;omega,λb M _=>(m2.same b (by omega) (by omega)).trans (Y.same b M id)⟩;have d:=hd.ext e2;have l:Gl B:=hg.mod e2 id;refine d.ar.head.ld (c:=dB) (i:=2) (x:=some x.mf) rfl ?_;refine ab.kN (x:=(n,k)) r2 rfl rfl ?_;refine GG d.ar X h0 h1 (λi f g hi hz _ _=>?_) (λhi=>?_)
 ·rw[hi] at a;have C:s.fs[i]?=some f:=by rw[hd.ar.fs];simp[PG.fs,hz]
  have ae:f.pins.length<=s.pins:=uI (λf:Fr=>f.pins.length) s.fs i f C;have ht:=hd.ar.wf.tick;refine aT rfl ?_;refine Hu l d hz r (hd.ar.wf.lO C r) (by omega) λx' E w j=>?_;obtain⟨F',G,I⟩:=w.out (x:=x) (D:=D) (F:=F) (H:=B) R j;exact a F' E G (I.ahead e2)
 ·rw[hi] at a;refine az rfl ?_;refine ab.kN (x:=(n,k)) r2 rfl rfl ?_;refine IX l d o (λm q x' D' E w j=>?_) (λf N g x' D' E w j hN J=>?_)
  ·have y:=Pl.EJ m;obtain⟨q',z⟩:∃q',s.load n k=q':=⟨_,rfl⟩;obtain⟨t,fo,e⟩:=q';rw[z] at m y w a ⊢;simp only at m y w a ⊢;subst m;simp only at a;refine aT (by simpa using y) ?_;have A:Gl E:=d.gl l j.mod;refine Bh A w λO T P=>?_;obtain⟨F',G,I⟩:=T.out (x:=x) (D:=D) (F:=F) (H:=B) R (j.trans P);exact a F' O G (I.ahead e2)
  ·obtain⟨U,a2,a3,a4,a5,a6,a7,a8,a9⟩:=Pl.Ep hd.jI.wf N;obtain⟨q',z⟩:∃q',s.load n k=q':=⟨_,rfl⟩;obtain⟨t,fo,e⟩:=q';rw[z] at N U a2 a;simp only at N U a2 a;subst N;simp only at a;rw[U] at a;refine az rfl ?_;have A:Gl E:=d.gl l j.mod;have L:=s.fI;have V:=hd.ar.wf.yy;refine CA A w hN (by rw[L.1];exact V.2 a3) (by rw[L.2.1];exact r) (by rw[a4,a5];exact Pl.wm hi) a6 a9 (by rw[a4];exact X) a7 a8 λx4 O T P=>?_;have W:Step (λb=>D b\/x.all p b) (λb=>D' b\/x4.all p b) B O:=by
    refine⟨j.mod.trans' P.mod λb M q=>?_,λb M=>?_⟩
    ·rcases q with q|q
     ·exact(j.own b q).resolve_right (by omega)
     ·have:=J b q;omega
    ·rcases P.own b M with q|q
     ·rcases q with q|q
      ·exact j.own b q
      ·exact .inr (J b q)
     ·exact .inr (QZ j.mod.size q)
   obtain⟨F',G,I⟩:=T.out (x:=x) (D:=D) (F:=F) (H:=B) R W;exact a F' O G (I.ahead e2)
theorem zx {F:Nat->Prop}{H:aa}{p dp:Nat}{s:Pl}{n:ByteArray}{K:(Int×Int×Int)->aa->Prop}(U:Gl H)(h:ax F H p dp s)(hn:n.size<=9223372036854775807)
  (V:s.d.bt<68719476735) (W:s.next<9223372036854775807) (J:s.Fit)
  (a:∀F' H',ax F' H' p dp (s.fresh n).1->Step F F' H H'->K ((s.fresh n).2.1,(s.fresh n).2.2.1,(s.fresh n).2.2.2) H'):Je.sp (av p) n H K:=by
 have X:=h;obtain⟨x,D,hd,hF⟩:=h;refine Je.of ?_;unfold Je.vc;simp only[aw];refine kM hd.ar ?_;unfold Pl.fresh at a;refine ao (λhw=>?_) (λhw=>?_)
 ·have z:s.wrong≠0:=by simpa using hw
  rw[if_pos z] at a;exact a F H X (.refl _ _)
 have z:¬s.wrong≠0:=by simpa using hw
 rw[if_neg z] at a;refine hd.ar.head.ld (c:=aq) (i:=0) (x:=av dp) rfl ?_;refine Br hd.jI ?_;have fail:∀(e:Int) (x':PG) (Y:Nat->Prop) (H1:aa) (Z:Pl),bU x' Y H1 p dp Z->Step (λb=>D b\/x.all p b) (λb=>Y b\/x'.all p b) H H1->(∀F' H',ax F' H' p dp (Z.met e)->Step F F' H H'->K (0,0,e) H')->
   AM.sp (av p) e H1 λr o=>K (0,0,r) o:=by
  intro e x' Y H1 Z h1 v hk;refine Bh (hd.gl U v.mod) h1 λo A L=>?_;obtain⟨F',w,M⟩:=A.out (x:=x) (D:=D) (F:=F) (H:=H) hF (v.trans L);exact hk F' o w M
 refine ao (λhz=>?_) (λhz=>?_)
 ·have l:(s.d.len n).2=0:=by simpa using hz
  rw[if_neg (by simpa using l)] at a;refine CS U hd (by omega) λB D1 H1 h1 v=>?_;have N:Gl H1:=hd.gl U v.mod;refine aj λo s2 r2 e2=>?_;have A:=h1.ext e2;have L:=v.behind e2;have C:Gl o:=N.mod e2 id;refine ao (λhr=>?_) (λhr=>?_)
  ·have m:s.room.2=0:=by simpa using hr
   rw[if_neg (by simpa using m)] at a;have hA:ez o ⟨H1.size,Sl.mk none 0 0⟩ ⟨n,(s.d.len n).1,0,[],false,[],0⟩:=⟨r2,dm.nil _ _ _⟩;have t:∀b,vK.fp ⟨H1.size,Sl.mk none 0 0⟩ b->b=H1.size:=by
    rintro b (e|⟨ad,q,_⟩)
    ·exact e
    ·cases q
   have j:∀b,D1 b\/B.all p b->b<H1.size:=h1.lt;have ae:s.room.1.d.bt<68719476736:=by
    have:s.room.1.d.bt<=s.d.bt+1:=s.qo;omega
   refine wK (f:=⟨n,(s.d.len n).1,0,[],false,[],0⟩) C A.jI A.ar.head rfl hA (by simp) (λb k q=>by have:=t b k;have:=j b (.inl q);omega) ae (λO E H3 a3 P=>?_) (λhe E H3 G a3 P af m4 z4=>?_)
   ·have Q:(s.room.1.d.write n ((s.d.len n).1:Int) (cD 0 [])).2≠0:=O;rw[if_pos Q] at a;obtain⟨w,M⟩:=A.vR C a3 P;refine aT (by simpa using O) ?_;exact fail _ B E H3 _ w (L.trans M) a
   ·have a1:¬(s.room.1.d.write n ((s.d.len n).1:Int) (cD 0 [])).2≠0:=λq=>q he;rw[if_neg a1] at a;obtain⟨w,M⟩:=A.vR C a3 P;refine az rfl ?_;have ba:∀b,b<H1.size->G[b]?=H3[b]?:=λb k=>m4.same b (by have:=e2.size;have:=P.mod.size;omega) (by show b≠H1.size;omega);have u:∀b,E b\/B.all p b->b≠H1.size:=by
     intro b q e;subst e;rcases q with q|q
     ·rcases P.own _ q with r|r
      ·have:=j _ (.inl r);omega
      ·have:=e2.size;omega
     ·have:=j _ (.inr q);omega
    have q4:bU B E G p dp (s.room.1.dH (s.room.1.d.write n ((s.d.len n).1:Int) (cD 0 [])).1):=
     ⟨w.ar.aE λb k hl=>m4.same b hl (u b (.inr k)),w.jI.aE λb k hl=>m4.same b hl (u b (.inl k)),w.apart,w.eV⟩
    have R:Step (λb=>D b\/x.all p b) (λb=>E b\/B.all p b) H G:=by
     have S:=L.trans M;refine⟨S.mod.trans' m4 λb k q=>?_,S.own⟩;have:b=H1.size:=q;have:=v.mod.size;omega
    have a6:Gl G:=hd.gl U R.mod;have y:Fx B E G p ⟨H1.size,Sl.mk none 0 0⟩ ⟨n,(s.d.len n).1,0,[],false,[],0⟩:=by
     refine⟨af,λb k=>?_⟩;have eb:=t b k;refine⟨λq=>u b (.inl q) eb,λq=>u b (.inr q) eb,λq=>?_⟩;have:=N.lt;omega
    have T:=s.fI;have a7:=hd.ar.wf.yy;have hle:=Dk.HF hd.jI.wf n;obtain⟨f,I⟩:∃f:Fr,f=⟨n,(s.d.len n).1,0,[],false,[],0⟩:=⟨_,rfl⟩;rw[<-I] at y a;have c1:f.name=n:=by rw[I]
    have c2:f.ag=(s.d.len n).1:=by rw[I]
    have c3:f.b=[]:=by rw[I]
    have c4:f.pins=[]:=by rw[I]
    have c5:f.left=0:=by rw[I]
    have d1:(s.room.1.dH (s.room.1.d.write n ((s.d.len n).1:Int) (cD 0 [])).1).fs.length<(s.room.1.dH (s.room.1.d.write n ((s.d.len n).1:Int) (cD 0 [])).1).most:=by
     show _<s.room.1.most;rw[T.1];exact a7.2 m
    have d2:(s.room.1.dH (s.room.1.d.write n ((s.d.len n).1:Int) (cD 0 [])).1).next<9223372036854775807:=by
     show s.room.1.next<_;rw[T.2.1];exact W
    have d3:(s.room.1.dH (s.room.1.d.write n ((s.d.len n).1:Int) (cD 0 [])).1).find f.name f.ag=none:=by
     rw[c1,c2];exact Pl.wm (J.new l)
    have d4:f.b.length<=504:=by rw[c3];exact QN _
    have d5:f.ag<1048577:=by rw[c2];omega
    have d6:f.name.size<=9223372036854775807:=by rw[c1];exact hn
    show Dm.sp (av p) (av H1.size) G (λr H7=>K (r,((s.d.len n).1:Int),0) H7);refine CA (g:=⟨H1.size,Sl.mk none 0 0⟩) (K:=λr H7=>K (r,((s.d.len n).1:Int),0) H7) a6 q4 y d1 d2 d3 d4 d5 d6 c4 c5 λx5 H5 h5 S5=>?_;have a8:Step (λb=>D b\/x.all p b) (λb=>E b\/x5.all p b) H H5:=by
     refine⟨R.mod.trans' S5.mod λb k q=>?_,λb k=>?_⟩
     ·rcases q with q|q
      ·exact(R.own b q).resolve_right (by omega)
      ·have:=t b q;have:=v.mod.size;omega
     ·rcases S5.own b k with q|q
      ·rcases q with q|q
       ·exact R.own b q
       ·have:=t b q;have:=v.mod.size;exact .inr (by omega)
      ·exact .inr (QZ R.mod.size q)
    obtain⟨F',t1,t2⟩:=h5.out (x:=x) (D:=D) (F:=F) (H:=H) hF a8;exact a F' H5 t1 t2
  ·have m:s.room.2≠0:=by simpa using hr
   rw[if_pos m] at a;refine aT (by simpa using m) ?_;exact fail _ B D1 o _ A L a
 ·have l:(s.d.len n).2≠0:=by simpa using hz
  rw[if_pos l] at a;refine aj λo s2 r2 e2=>?_;refine az hz ?_;have ht:((s.d.len n).2!=0)=true:=by simpa using l
  refine aT ht ?_;exact fail _ x D o s (hd.ext e2) (Step.ext e2) a
theorem yk {x:PG}{H:aa}{p dp:Nat}{s:Pl}{k:Int}{K:(Option Addr×Int)->aa->Prop}(h:bx x H p dp s)(b:s.wrong≠0->K (none,s.wrong) H)
  (d:s.wrong=0->s.held k=none->K (none,32) H) (e:∀i f g,s.wrong=0->s.held k=some i->x.zs[i]?=some (f,g)->k∈f.pins->K (av g.p,0) H):Iq.sp (av p) k H K:=by
 refine Iq.of ?_;unfold Iq.vc;simp only[aw];refine kM h ?_;refine ao (λhw=>b (by simpa using hw)) (λhw=>?_);have a:s.wrong=0:=by simpa using hw
 refine h.head.ld (c:=dB) (i:=3) (x:=some x.mh) rfl ?_;exact HD h (λi f g hi hz hk=>e i f g a hi hz hk) (λhi=>d a hi)
theorem MZ {F:Nat->Prop}{H:aa}{p dp:Nat}{s:Pl}{k:Int}{K:(Int×Sl×Int)->aa->Prop}(h:ax F H p dp s)
  (a:∀sl H',dm EB kJ H' sl (s.get k).2.1->Ext H H'->(∀b,al sl b->H.size<=b)->K (((s.get k).1.toNat:Int),sl,(s.get k).2.2) H'):Lk.sp (av p) k H K:=by
 obtain⟨x,D,hd,r⟩:=h;refine Lk.of ?_;unfold Lk.vc;unfold Pl.get at a;have nil:∀b,al (Sl.mk none 0 0) b->H.size<=b:=by rintro b ⟨ad,q,_⟩;cases q
 refine yk hd.ar (λhw=>?_) (λhw j=>?_) (λi f g hw j hz hk=>?_)
 ·rw[if_pos hw] at a;exact aT (by simpa using hw) (a _ H (dm.nil _ _ _) (.refl _ _) nil)
 ·rw[if_neg (λq=>q hw),j] at a;exact aT rfl (a _ H (dm.nil _ _ _) (.refl _ _) nil)
 ·have d:s.fs[i]?=some f:=by rw[hd.ar.fs];simp[PG.fs,hz]
  rw[if_neg (λq=>q hw),j] at a;simp only[Pl.ky d] at a;have l:=hd.ar.aD.each _ (Qi hz);refine az rfl ⟨λH'=>Ext H H',.refl _ _,?_⟩;simp only[aw];refine⟨(f.kind.toNat:Int),λH' e=>?_,?_⟩
  ·rw[bJ];exact ab.cell (ab.ext l.row e) rfl
  ·refine l.row.ld (c:=au) (i:=3) (x:=g.b) rfl ?_;have n:=hd.ar.wf.room f (Qi d);refine gC (mR l.b) (by show f.b.length<=_;omega) λsl H' o m fr=>⟨m,a sl H' o m fr⟩
theorem bU.N7 {x:PG}{D:Nat->Prop}{H H':aa}{p dp:Nat}{s:Pl}{i:Nat}{f:Fr}{g g':vK}{u:Fr->Fr}(m:Gl H)(h:bU x D H p dp s)(hz:x.zs[i]?=some (f,g))(hk:(u f).key=f.key)(a:(u f).pins=f.pins)(j:(u f).left=f.left)(k:(u f).b.length<=504)(n:g'.p=g.p)
  (o:ez H' g' (u f)) (hm:Mod (λb=>b=g.p) H H') (q:∀b,g'.fp b->g.fp b\/H.size<=b):
  bU {x with zs:=x.zs.set i (u f,g')} D H' p dp (s.fP i u)/\Step (λb=>D b\/x.all p b) (λb=>D b\/PG.all {x with zs:=x.zs.set i (u f,g')} p b) H H':=by
 have c:=Qi hz;have d:s.fs[i]?=some f:=by rw[h.ar.fs];simp[PG.fs,hz]
 have h1:(u f).name=f.name:=congrArg Ye hk;have r:(u f).ag=f.ag:=congrArg YJ hk;obtain⟨t1,t2⟩:=h.ar.aD.fP (H':=H') (z':=(u f,g')) hz h1 r a n o (λb _ t j=>hm.same b j λe=>t (e▸.inl rfl)) q;have l:bx {x with zs:=x.zs.set i (u f,g')} H' p dp (s.fP i u):=by
  refine⟨hm.at h.ar.head λe=>bx.off h.ar.head h.ar.aD (e▸.inr (.inr ⟨_,c,.inl rfl⟩)),t1,?_,h.ar.wf.fP d hk a j k⟩;show s.fs.modify i u=(x.zs.set i (u f,g')).map (·.1);rw[cT d,h.ar.fs];simp[PG.fs,Tq]
 exact h.wF m l rfl (hm.mono λb _ e=>.inr (.inr (.inr ⟨_,c,.inl e⟩))) t2
theorem Hi {F:Nat->Prop}{H:aa}{p dp:Nat}{s:Pl}{k:Int}{kd:UInt8}{b:Sl}{l:List UInt8}{K:Int->aa->Prop}(w:Gl H)(h:ax F H p dp s)(m:dA H b l)
  (a:∀F' H',ax F' H' p dp (s.set k kd l).1->Step F F' H H'->K (s.set k kd l).2 H'):Hd.sp (av p) k (kd.toNat:Int) b H K:=by
 have c:=h;obtain⟨x,D,hd,z⟩:=h;refine Hd.of ?_;unfold Hd.vc;unfold Pl.set at a;have y:=m.n;refine yk hd.ar (λhw=>?_) (λhw r=>?_) (λi f g hw r hz hk=>?_)
 ·rw[if_pos hw] at a;exact aT (by simpa using hw) (a F H c (.refl _ _))
 ·rw[if_neg (λq=>q hw),r] at a;exact aT rfl (a F H c (.refl _ _))
 ·rw[if_neg (λq=>q hw),r] at a;simp only at a;refine az rfl (ao (λd=>?_) (λd=>?_))
  ·have j:l.length>504:=by rw[y] at d;simp at d;omega
   rw[if_pos j] at a;exact a F H c (.refl _ _)
  ·have j:¬l.length>504:=by rw[y] at d;simp at d;omega
   rw[if_neg j] at a;refine gC m (by omega) λsl H1 o1 m1 f1=>?_;have t:=hd.ext m1;have A:Gl H1:=w.mod m1 id;have n:=Qi hz;have B:=t.ar.aD.each _ n;simp only[aw];refine B.row.st (i:=2) (by decide:2<7) (by rfl) λN r2 m2 z2=>?_;refine r2.st (i:=3) (by decide:3<7) (by rfl) λO C m3 z3=>?_;refine C.st (i:=4) (by decide:4<7) (by rfl) λo E m4 z4=>?_;have m14:Mod (λb=>b=g.p) H1 o:=(m2.trans m3).trans m4;have v:Mod (λb=>b=g.p) H o:=(Ext.mod m1).trans m14;have G:g.p<H.size:=aI (hd.ar.aD.each _ n).row;have I:ez o ⟨g.p,sl⟩ (Fr.set kd l f):=by
    refine⟨E,o1.aE λb m d=>m14.same b d λe=>?_⟩;have J:=f1 b m;have:b=g.p:=e;omega
   obtain⟨L,M⟩:=hd.N7 (g':=⟨g.p,sl⟩) (u:=Fr.set kd l) w hz rfl rfl rfl (by show l.length<=504;omega) rfl I v (by
    rintro b (e|m)
    ·exact .inl (.inl e)
    ·exact .inr (f1 b m))
   obtain⟨F',t1,t2⟩:=L.out (x:=x) (D:=D) (F:=F) (H:=H) z M;exact a F' o t1 t2
theorem Er {h t:Int}{zs:List FZ}{i:Nat}{f:Fr}{g:vK}(hz:zs[i]?=some (f,g))(hd:((zs.map (·.1)).flatMap (·.pins)).Nodup)(r:h∈f.pins):∀k v,(k,v)∈yi (zs.set i (Fr.bK h t f,g))↔(k,v)∈yi zs/\k≠.int .i64 h:=by
 intro k v;have l:=(Qk.1 hz).1;have other:∀j (z:FZ),zs[j]?=some z->h∈z.1.pins->j=i:=by
  intro j z a hm;exact ux hd (i:=j) (j:=i) (f:=z.1) (g:=f) (by simp[a]) (by simp[hz]) hm r
 unfold yi;simp only[Rs];constructor
 ·rintro⟨z,m,e⟩;rcases mz m with ⟨j,n,a⟩|rfl
  ·refine⟨⟨z,Qi a,e⟩,λq=>?_⟩;obtain⟨y,b,e2⟩:=QB.1 e;simp only[RO] at e2;rw[q] at e2;simp only[UG,true_and] at e2;rw[e2.1] at b;exact n (other j z a b)
  ·obtain⟨y,b,e2⟩:=QB.1 e;have c:=QL.1 b;simp only[RO] at e2;refine⟨⟨(f,g),Qi hz,QB.2 ⟨y,c.1,by simp only[RO];exact e2⟩⟩,λq=>?_⟩;rw[q] at e2;simp only[UG,true_and] at e2;have:=c.2;rw[e2.1] at this;simp at this
 ·rintro⟨⟨z,o,e⟩,p⟩;obtain⟨j,a⟩:=Qr.1 o;by_cases d:i=j
  ·subst d;rw[hz] at a;cases a;refine⟨(Fr.bK h t f,g),Qr.2 ⟨i,by simp[l]⟩,?_⟩;obtain⟨y,b,e2⟩:=QB.1 e;refine QB.2 ⟨y,QL.2 ⟨b,?_⟩,e2⟩;simp only[RO] at e2;have:y≠h:=λq=>p (by rw[<-e2.1,q]);simp[this]
  ·exact⟨z,Qr.2 ⟨j,by rw[Rc,if_neg d];exact a⟩,e⟩
theorem uf {F:Nat->Prop}{H:aa}{p dp:Nat}{s:Pl}{k:Int}{K:Int->aa->Prop}(U:Gl H)(h:ax F H p dp s)(L:s.next<9223372036854775807)
  (n:∀F' H',ax F' H' p dp (s.bK k).1->Step F F' H H'->K (s.bK k).2 H'):Fh.sp (av p) k H K:=by
 have w:=h;obtain⟨x,D,hd,V⟩:=h;refine Fh.of ?_;unfold Fh.vc;have l:=hd.ar.wf.bK k L;unfold Pl.bK at n l;refine yk hd.ar (λhw=>?_) (λhw M=>?_) (λi f g hw M hz hk=>?_)
 ·rw[if_pos hw] at n;exact aT (by simpa using hw) (n F H w (.refl _ _))
 ·rw[if_neg (λq=>q hw),M] at n;exact aT rfl (n F H w (.refl _ _))
 ·rw[if_neg (λq=>q hw),M] at n l;simp only at n l;refine az rfl ?_;simp only[aw];have m:=Qi hz;have o:s.fs[i]?=some f:=by rw[hd.ar.fs];simp[PG.fs,hz]
  have W:f.pins.length<=s.pins:=uI (λf:Fr=>f.pins.length) s.fs i f o;have ht:=hd.ar.wf.tick;have J:=hd.ar.aD.each _ m;have y:=hd.ar.aD.off m;refine hd.ar.head.ld (c:=dB) (i:=3) (x:=some x.mh) rfl ?_;obtain⟨et,inf,hu,N,_,_⟩:=ss;refine sQ hu N hd.ar.aD.hmap (k:=.int .i64 k) (show Qe=Qe from rfl) λz H1 r it _ t z1=>?_;have A:p≠x.mh:=λe=>bx.off hd.ar.head hd.ar.aD (.inr (.inl e));have B:ab H1 p DN (oP dp x s):=t.at hd.ar.head A;refine B.ld (c:=ai .i64) (i:=5) (x:=s.tick) rfl ?_;refine B.st (i:=5) (by decide:5<8) (by rfl) λS r2 m2 z2=>?_;have C:g.p≠x.mh:=λe=>y.2 (.inl e.symm);have E:p≠g.p:=λe=>bx.off hd.ar.head hd.ar.aD (e▸.inr (.inr ⟨_,m,.inl rfl⟩));have G:ab S g.p MG (OZ g f):=m2.at (t.at J.row C) (λe=>E e.symm);refine G.ld (c:=ai .i64) (i:=5) (x:=(f.pins.length:Int)) rfl ?_;refine r2.ld (c:=ai .i64) (i:=5) (x:=gQ (s.tick+1)) rfl ?_;refine G.st (i:=5) (by decide:5<7) (by rfl) λH3 X m3 z3=>?_;refine X.st (i:=6) (by decide:6<7) (by rfl) λu T m4 z4=>?_;have d:Mod (λb=>b=g.p\/b=x.mh\/b=p) H u:=(((t.mono λb _ e=>.inr (.inl e)).trans (m2.mono λb _ e=>.inr (.inr e))).trans (m3.mono λb _ e=>.inl e)).trans (m4.mono λb _ e=>.inl e);have hlen:=filter_one (ow hd.ar.wf.pins o) hk;have Y:Qe.wrap ((f.pins.length:Int) - 1)=(((Fr.bK k (gQ (s.tick+1)) f).pins.length:Nat):Int):=by
   show _=(((f.pins.filter λx=>decide (x≠k)).length:Nat):Int);rw[wrap64 (by omega) (by omega)];omega
  have Z:ez u g (Fr.bK k (gQ (s.tick+1)) f):=by
   refine⟨?_,J.b.aE λb I O=>d.same b O ?_⟩
   ·rw[Y] at T;exact T
   ·obtain⟨c,q⟩:=J.b.obj b I;rintro(e|e|e)
    ·rw[e] at q;exact absurd (aR J.row q) (by decide)
    ·rw[e,hd.ar.aD.hmap.obj] at q;cases q
    ·rw[e] at q;exact absurd (aR hd.ar.head q) (by decide)
  have j:=hd.ar.wf.pins;rw[hd.ar.fs] at j;have m24:Mod (λb=>b=g.p) S u:=m3.trans m4;obtain⟨t1,t2⟩:=hd.ar.aD.set (H':=u) (z':=(Fr.bK k (gQ (s.tick+1)) f,g)) (eh':=z) (ch':=x.ch) hz rfl rfl rfl Z (r.aE ((m24.same _ (by have:=r.lt;omega) (λe=>C e.symm)).trans (m2.same _ r.lt (λe=>A e.symm)))) (λa v=>by
   rw[it,hd.ar.aD.entH,Er hz j hk]) (λb I P Q O=>d.same b O (by
    rintro(e|e|e)
    ·exact P (.inl e)
    ·exact Q e
    ·exact bx.off hd.ar.head hd.ar.aD (e▸I))) (λb I=>.inl I)
  have R:bx {x with zs:=x.zs.set i (Fr.bK k (gQ (s.tick+1)) f,g),eh:=z,ch:=x.ch} u p dp {s with fs:=s.fs.modify i (Fr.bK k (gQ (s.tick+1))),tick:=gQ (s.tick+1)}:=by
   refine⟨m24.at r2 E,t1,?_,l⟩;show s.fs.modify i _=(x.zs.set i _).map (·.1);rw[cT o,hd.ar.fs];simp[PG.fs,Tq]
  obtain⟨q1,q2⟩:=hd.wF U R rfl (d.mono λb _ e=>by
   rcases e with e|e|e
   ·exact .inr (.inr (.inr ⟨_,m,.inl e⟩))
   ·exact .inr (.inr (.inl e))
   ·exact .inl e) t2
  obtain⟨F',t3,t4⟩:=q1.out (x:=x) (D:=D) (F:=F) (H:=H) V q2;exact n F' u t3 t4
theorem HG {F:Nat->Prop}{H:aa}{p dp:Nat}{s:Pl}{K:Option Addr->aa->Prop}(h:ax F H p dp s)(a:K (av dp) H):K6.sp (av p) H K:=by
 obtain⟨x,D,hd,b⟩:=h;refine K6.of ?_;unfold K6.vc;refine az rfl ?_;exact hd.ar.head.ld (c:=aq) (i:=0) (x:=av dp) rfl a
theorem ax.jI {F:Nat->Prop}{H:aa}{p dp:Nat}{s:Pl}(f:Gl H)(h:ax F H p dp s):∃D,cC D H dp s.d/\(∀b,D b->F b)/\∀a H' d,cC a H' dp d->Step D a H H'->∃F',ax F' H' p dp (s.dH d)/\Step F F' H H':=by
 obtain⟨x,D,hd,e⟩:=h;refine⟨D,hd.jI,λb g=>(e b).2 (.inl g),λa H' d c i=>?_⟩;obtain⟨j,k⟩:=hd.vR f c i;exact j.out (x:=x) (D:=D) (F:=F) (H:=H) e k
theorem Dy {zs:List FZ}(h:((zs.map (·.1)).map Fr.key).Nodup):(Ce zs).Nodup:=by
 have e:(zs.map (·.1)).map Fr.key=zs.map λz=>(z.1.name,z.1.ag):=by simp[Fr.key]
 rw[e] at h;unfold Ce;unfold VT at h ⊢;rw[SH] at h ⊢;refine h.imp λ{a b} c q=>c ?_;simp only[RO] at q;have:=oM q.1;simp only[RO];exact⟨this.1,by omega⟩
theorem bx.perm {x:PG}{H:aa}{p dp:Nat}{s:Pl}(h:bx x H p dp s):(x.ef.toList.map λe=>(e.key,e.val)).Perm (Ce x.zs):=by
 have hk:=h.wf.keys;rw[h.fs] at hk;have b:=h.aD.fmap.stamped;have c:(x.ef.toList.map λe=>(e.key,e.val)).Nodup:=by
  have:=b.2.2;unfold VT at this ⊢;rw[SH] at this ⊢;exact this.imp λd q=>d (congrArg Ye q)
 rw[List.perm_ext_iff_of_nodup c (Dy hk)];rintro⟨k,v⟩;rw[<-h.aD.entF k v];constructor
 ·intro q;obtain⟨e,he,a⟩:=QB.1 q;simp only[RO] at a;exact⟨e,he,a.1,a.2⟩
 ·rintro⟨e,he,f,a⟩;exact QB.2 ⟨e,he,by rw[f,a]⟩
end Go.Proofs.YtkehfflpbpdokaaGreatDoor
