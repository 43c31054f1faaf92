/-
 The pool in plain words: what it holds, and what each call makes of it.
-/
import Derived.Test.YtkehfflpbpdokaaGreatDoorDkm
import Derived.Test.YtkehfflpbpdokaaGreatDoorDkb
import Derived.Test.YtkehfflpbpdokaaGreatDoorPga
import Derived.Test.YtkehfflpbpdokaaGreatDoorPgb
import Derived.Test.YtkehfflpbpdokaaGreatDoorFxo
open Bool renaming and_eq_true->KD,true_and->Nz
open Go.Addr renaming add->K0
open Go.Builtin renaming delete_->LJ
open Go.Instr renaming lookup->LC
open Go.IntKind renaming i64->Ke
open Go.Program renaming keyLits->PR
open Go.Proofs.Tryz renaming prog->Kf
open Go.Value renaming formed->Sq
open Go.Value.int renaming injEq->N9
open Go.WideMaps renaming KeyLaw->N8
open Iff renaming rfl->Pe
open Int renaming le_refl->Od
open List renaming getElem?_eq_getElem->Kg,mem_of_getElem?->Ki,getElem?_eq_some_iff->Kj,mem_append->Kk,mem_iff_getElem?->Ko,length_append->Kv,mem_map->Kz,getElem?_map->KC,mem_filter->KP,getElem?_append_left->KT,map_append->KX,length_cons->K1,flatMap_cons->K6,nodup_append->La,mem_singleton->Lc,getElem?_set->Le,getElem?_append_right->Lf,append_assoc->Lk,map_cons->Ln,length_singleton->Lq,nodup_cons->Lw,getElem?_inj->LH,getElem?_cons_succ->LL,mem_flatMap->LP,mem_of_mem_eraseIdx->LS,filter_sublist->Mg,getElem?_eq_none->Mh,pairwise_map->Mi,length_eraseIdx_of_lt->Mj,pairwise_iff_getElem->ML,length_modify->Na,findIdx?_eq_none_iff->Nc,isEmpty_iff->Np,map_set->Nt,sum_cons->Ny,findIdx?_eq_some_iff_getElem->NI,map_nil->NM,getElem?_cons_zero->OU,perm_middle->O9,modify_succ_cons->Pd,Nodup->Po,singleton_append->Rr,modify_zero_cons->Rs,pairwise_filter->RF
open List.Sublist renaming refl->Of
open Nat renaming le_refl->Kl,eq_of_beq_eq_true->KR,zero_le->KU,beq->K3,le_trans->K4,le_succ->Lj,le_of_ble_eq_true->Nw
open Option renaming map_eq_some_iff->O0
open Option.some renaming inj->Kq,injEq->Lr
open Prod renaming fst->RE,snd->Sf
open Prod.mk renaming injEq->LK
namespace Go.Proofs.YtkehfflpbpdokaaGreatDoor
structure Fr where
 name:ByteArray
 ab:Nat
 kind:UInt8
 b:List UInt8
 dirty:Bool
 pins:List Int
 left:Int
def JA:Fr:=⟨ByteArray.empty,0,0,[],false,[],0⟩
def Fr.fh (f:Fr):List UInt8:=bP f.kind f.b
structure Pl where
 d:Dk
 most:Nat
 fs:List Fr
 next:Int
 tick:Int
 peak:Nat
 wrong:Int
def Pl.frame (p:Pl)(i:Nat):Fr:=p.fs.getD i JA
def Pl.find (p:Pl)(n:ByteArray)(g:Int):Option Nat:=p.fs.findIdx? λf=>f.name.toList==n.toList&&decide ((f.ab:Int)=g)
def Pl.held (p:Pl)(h:Int):Option Nat:=p.fs.findIdx? λf=>f.pins.contains h
def bad (e:Int):Bool:=e==4||e==5||e==20
def Pl.met (p:Pl)(e:Int):Pl:=if bad e then {p with wrong:=e} else p
def Pl.out (r:Pl×Int):Pl×Int:=(r.1.met r.2,r.2)
def Pl.cT (p:Pl)(d:Dk):Pl:={p with d:=d}
def Pl.drop (p:Pl)(i:Nat):Pl:={p with fs:=p.fs.eraseIdx i}
def Pl.dB (p:Pl)(i:Nat)(u:Fr->Fr):Pl:={p with fs:=p.fs.modify i u}
def Fr.clean (f:Fr):Fr:={f with dirty:=false}
def Pl.put (p:Pl)(i:Nat):Pl×Int:=
 if (p.d.write (p.frame i).name (p.frame i).ab (p.frame i).fh).2=0 then ((p.cT (p.d.write (p.frame i).name (p.frame i).ab (p.frame i).fh).1).dB i Fr.clean,0)
 else (p.cT (p.d.write (p.frame i).name (p.frame i).ab (p.frame i).fh).1,(p.d.write (p.frame i).name (p.frame i).ab (p.frame i).fh).2)
def qI (f:Fr)(b:Option (Nat×Int)):Bool:=match b with|none=>true|some x=>decide (f.left<x.2)
def rP:List Fr->Nat->Option (Nat×Int)->Option (Nat×Int)
 |[],_,b=>b
 |f::l,i,b=>rP l (i+1) (if f.pins.isEmpty&&qI f b then some (i,f.left) else b)
def Pl.j6 (p:Pl):Option Nat:=(rP p.fs 0 none).map (·.1)
def Pl.room (p:Pl):Pl×Int:=
 if p.fs.length<p.most then (p,0) else
 match p.j6 with
 |none=>(p,31)
 |some i=>if (p.frame i).dirty then (if (p.put i).2=0 then ((p.put i).1.drop i,0) else p.put i) else (p.drop i,0)
def Fr.bR (h:Int)(f:Fr):Fr:={f with pins:=f.pins++[h]}
def Pl.jI (p:Pl)(i:Nat):Pl:={p with fs:=p.fs.modify i (Fr.bR p.next),next:=ff (p.next+1)}
def Pl.add (p:Pl)(f:Fr):Pl:={p with fs:=p.fs++[f],peak:=max p.peak (p.fs.length+1)}
def Pl.take (p:Pl)(f:Fr):Pl:=(p.add f).jI p.fs.length
def Pl.load (p:Pl)(n:ByteArray)(g:Int):Pl×Option Fr×Int:=
 if (p.d.len n).2≠0 then (p,none,(p.d.len n).2)
 else if g<0\/g>=(p.d.len n).1 then (p,none,12)
 else if p.room.2≠0 then (p.room.1,none,p.room.2)
 else if (p.room.1.d.read n g).2≠0 then (p.room.1,none,(p.room.1.d.read n g).2)
 else match fm (p.room.1.d.read n g).1 with
  |none=>(p.room.1,none,20)
  |some (k,b)=>(p.room.1,some ⟨n,g.toNat,k,b,false,[],0⟩,0)
def Pl.bR (p:Pl)(n:ByteArray)(g:Int):Pl×Int×Int:=
 if p.wrong≠0 then (p,0,p.wrong) else
 match p.find n g with
 |some i=>(p.jI i,p.next,0)
 |none=>
   match p.load n g with
   |(q,some f,_)=>(q.take f,q.next,0)
   |(q,none,e)=>(q.met e,0,e)
def Pl.fresh (p:Pl)(n:ByteArray):Pl×Int×Int×Int:=
 if p.wrong≠0 then (p,0,0,p.wrong)
 else if (p.d.len n).2≠0 then (p.met (p.d.len n).2,0,0,(p.d.len n).2)
 else if p.room.2≠0 then (p.room.1.met p.room.2,0,0,p.room.2)
 else if (p.room.1.d.write n (p.d.len n).1 (bP 0 [])).2≠0 then ((p.room.1.cT (p.room.1.d.write n (p.d.len n).1 (bP 0 [])).1).met (p.room.1.d.write n (p.d.len n).1 (bP 0 [])).2,0,0,(p.room.1.d.write n (p.d.len n).1 (bP 0 [])).2)
 else ((p.room.1.cT (p.room.1.d.write n (p.d.len n).1 (bP 0 [])).1).take ⟨n,(p.d.len n).1,0,[],false,[],0⟩,p.room.1.next,(p.d.len n).1,0)
def Pl.get (p:Pl)(h:Int):UInt8×List UInt8×Int:=
 if p.wrong≠0 then (0,[],p.wrong) else match p.held h with
 |some i=>((p.frame i).kind,(p.frame i).b,0)
 |none=>(0,[],32)
def Fr.set (k:UInt8)(b:List UInt8)(f:Fr):Fr:={f with kind:=k,b:=b,dirty:=true}
def Pl.set (p:Pl)(h:Int)(k:UInt8)(b:List UInt8):Pl×Int:=
 if p.wrong≠0 then (p,p.wrong) else match p.held h with
 |some i=>if b.length>504 then (p,2) else (p.dB i (Fr.set k b),0)
 |none=>(p,32)
def Fr.bm (h t:Int)(f:Fr):Fr:={f with pins:=f.pins.filter (λx=>decide (x≠h)),left:=t}
def Pl.bm (p:Pl)(h:Int):Pl×Int:=
 if p.wrong≠0 then (p,p.wrong) else match p.held h with
 |some i=>({p with fs:=p.fs.modify i (Fr.bm h (ff (p.tick+1))),tick:=ff (p.tick+1)},0)
 |none=>(p,32)
def Pl.lX (p:Pl)(n:ByteArray):List Nat:=((p.fs.filter λf=>f.name.toList==n.toList).map (·.ab)).mergeSort λa b=>decide (a<=b)
def Pl.forget (p:Pl)(n:ByteArray):Pl:={p with fs:=p.fs.filter λf=>!(f.name.toList==n.toList)}
def Pl.iQ (p:Pl)(n:ByteArray):Pl×Int:=
 if p.wrong≠0 then (p,p.wrong)
 else if (p.d.len n).2≠0 then Pl.out (p,(p.d.len n).2)
 else if p.fs.any (λf=>f.name.toList==n.toList&&!f.pins.isEmpty) then (p,31)
 else Pl.out ((p.forget n).cT (p.d.remove n).1,(p.d.remove n).2)
def rj (d:Dk)(m:Nat):Pl:=⟨d,m,[],1,0,0,0⟩
def Fr.key (f:Fr):ByteArray×Nat:=(f.name,f.ab)
def Pl.pins (p:Pl):Nat:=(p.fs.map λf=>f.pins.length).sum
structure Pl.WF (p:Pl):Prop where
 keys:(p.fs.map Fr.key).Nodup
 len:p.fs.length<=p.most
 most:8<=p.most/\p.most<=4096
 room:∀f∈p.fs,f.b.length<=504
 aB:∀f∈p.fs,f.ab<1048577/\f.name.size<=9223372036854775807
 pins:(p.fs.flatMap (·.pins)).Nodup
 old:∀f∈p.fs,∀h∈f.pins,1<=h/\h<p.next
 tick:0<=p.tick/\p.tick+p.pins<p.next
 lefts:∀(i j:Nat) (f g:Fr),p.fs[i]?=some f->p.fs[j]?=some g->f.pins=[]->g.pins=[]->f.left=g.left->i=j
 past:∀f∈p.fs,0<=f.left/\f.left<=p.tick
 peak:p.fs.length<=p.peak/\p.peak<=p.most
theorem jv {α:Type}{l:List α}{q:α->Bool}{i:Nat}{x:α}(hx:l[i]?=some x)(hq:q x=true)(hu:∀j y,l[j]?=some y->q y=true->j=i):l.findIdx? q=some i:=by
 obtain⟨hi,rfl⟩:=Kj.1 hx
 rw[NI]
 refine⟨hi,hq,λj hj=>?_⟩
 cases h:q l[j] with
 |false=>simp
 |true=>have:=hu j _ (Kg (by omega)) h;omega
theorem nN {α:Type}{l:List α}{q:α->Bool}{i:Nat}(h:l.findIdx? q=some i):∃x,l[i]?=some x/\q x=true:=by
 rw[NI] at h
 obtain⟨h1,h2,_⟩:=h
 exact⟨l[i],Kg h1,h2⟩
theorem Pl.iK {p:Pl}{i:Nat}{f:Fr}(h:p.fs[i]?=some f):p.frame i=f:=by simp[Pl.frame,h]
theorem Pl.sj {p:Pl}{n:ByteArray}{g:Int}{i:Nat}(h:p.find n g=some i):∃f,p.fs[i]?=some f/\f.name=n/\(f.ab:Int)=g:=by
 obtain⟨f,h1,h2⟩:=nN h
 simp only[KD,beq_iff_eq,decide_eq_true_eq] at h2
 exact⟨f,h1,iP h2.1,h2.2⟩
theorem Pl.kC {p:Pl}{n:ByteArray}{g:Int}(h:p.find n g=none):∀f∈p.fs,f.name=n->(f.ab:Int)≠g:=by
 unfold Pl.find at h
 rw[Nc] at h
 intro f hf e e2
 have:=h f hf
 rw[e] at this
 simp[e2] at this
theorem key_inj {p:Pl}(h:(p.fs.map Fr.key).Nodup){i j:Nat}{f g:Fr}(hi:p.fs[i]?=some f)(hj:p.fs[j]?=some g)(e1:f.name=g.name)(e2:f.ab=g.ab):i=j:=by
 have hi':=(Kj.1 hi).1
 refine(LH (l:=p.fs.map Fr.key) (by simpa using hi') h).1 ?_
 rw[KC,KC,hi,hj]
 simp[Fr.key,e1,e2]
theorem Pl.find_eq {p:Pl}(hw:p.WF){i:Nat}{f:Fr}(h:p.fs[i]?=some f):p.find f.name f.ab=some i:=by
 refine jv h (by simp) λj g hj hg=>?_
 simp only[KD,beq_iff_eq,decide_eq_true_eq] at hg
 exact key_inj hw.keys hj h (iP hg.1) (by omega)
theorem Pl.mT {p:Pl}{h:Int}{i:Nat}(e:p.held h=some i):∃f,p.fs[i]?=some f/\h∈f.pins:=by
 obtain⟨f,h1,h2⟩:=nN e
 exact⟨f,h1,by simpa using h2⟩
theorem qP {α β:Type}{u:α->List β}:∀{l:List α},(l.flatMap u).Nodup->∀{i j:Nat} {f g:α} {x:β},l[i]?=some f->l[j]?=some g->x∈u f->x∈u g->i=j
 |[],_,i,j,f,g,x,hi,_,_,_=>by simp at hi
 |a::l,h,i,j,f,g,x,hi,hj,hf,hg=>by
   rw[K6,La] at h
   obtain⟨h1,h2,h3⟩:=h
   match i,j with
   |0,0=>rfl
   |0,j+1=>
     simp only[OU,Lr,LL] at hi hj
     subst hi
     exact absurd rfl (h3 x hf x (LP.2 ⟨g,Ki hj,hg⟩))
   |i+1,0=>
     simp only[OU,Lr,LL] at hi hj
     subst hj
     exact absurd rfl (h3 x hg x (LP.2 ⟨f,Ki hi,hf⟩))
   |i+1,j+1=>
     simp only[LL] at hi hj
     rw[qP h2 hi hj hf hg]
theorem Pl.oz {p:Pl}(hw:p.WF){i:Nat}{f:Fr}{h:Int}(e:p.fs[i]?=some f)(hm:h∈f.pins):p.held h=some i:=
 jv e (by simpa using hm) λ_ _ hj hg=>qP hw.pins hj e (by simpa using hg) hm
def tC (l:List Fr)(b:Option (Nat×Int)):Prop:=
 match b with
 |none=>∀f∈l,f.pins≠[]
 |some (i,t)=>∃f,l[i]?=some f/\f.pins=[]/\f.left=t/\∀g∈l,g.pins=[]->t<=g.left
theorem ve:∀(r l:List Fr) (b:Option (Nat×Int)),tC l b->tC (l++r) (rP r l.length b)
 |[],l,b,h=>by simpa[rP] using h
 |f::r,l,b,h=>by
   unfold rP
   have key:tC (l++[f]) (if f.pins.isEmpty&&qI f b then some (l.length,f.left) else b):=by
    cases hp:f.pins.isEmpty with
    |false=>
      have hne:f.pins≠[]:=by intro e;rw[e] at hp;cases hp
      rw[Bool.false_and,if_neg (by simp)]
      cases b with
      |none=>
        intro g hg
        rcases Kk.1 hg with q|q
        ·exact h g q
        ·simp at q;subst q;exact hne
      |some it=>
        obtain⟨i,t⟩:=it
        obtain⟨g,h1,h2,h3,h4⟩:=h
        refine⟨g,?_,h2,h3,λx hx hxp=>?_⟩
        ·rw[KT (Kj.1 h1).1];exact h1
        ·rcases Kk.1 hx with q|q
         ·exact h4 x q hxp
         ·simp at q;subst q;exact absurd hxp hne
    |true=>
      have he:f.pins=[]:=Np.1 hp
      cases b with
      |none=>
        rw[Nz,show qI f none=true from rfl,if_pos rfl]
        refine⟨f,by simp,he,rfl,λx hx hxp=>?_⟩
        rcases Kk.1 hx with q|q
        ·exact absurd hxp (h x q)
        ·simp at q;subst q;exact Od _
      |some it=>
        obtain⟨i,t⟩:=it
        obtain⟨g,h1,h2,h3,h4⟩:=h
        rw[Nz]
        by_cases hlt:f.left<t
        ·rw[show qI f (some (i,t))=true from by simp[qI,hlt],if_pos rfl]
         refine⟨f,by simp,he,rfl,λx hx hxp=>?_⟩
         rcases Kk.1 hx with q|q
         ·have:=h4 x q hxp;omega
         ·simp at q;subst q;exact Od _
        ·rw[show qI f (some (i,t))=false from by simp[qI,hlt],if_neg (by simp)]
         refine⟨g,?_,h2,h3,λx hx hxp=>?_⟩
         ·rw[KT (Kj.1 h1).1];exact h1
         ·rcases Kk.1 hx with q|q
          ·exact h4 x q hxp
          ·simp at q;subst q;omega
   have:=ve r (l++[f]) _ key
   rw[Kv,Lq,Lk,Rr] at this
   exact this
theorem Pl.oH (p:Pl):tC p.fs (rP p.fs 0 none):=by
 have:=ve p.fs [] none (by intro f hf;cases hf)
 simpa using this
theorem Pl.sY {p:Pl}(h:p.j6=none):∀f∈p.fs,f.pins≠[]:=by
 have:=p.oH
 unfold Pl.j6 at h
 rw[Option.map_eq_none_iff] at h
 rw[h] at this
 exact this
theorem Pl.iH {p:Pl}{i:Nat}(h:p.j6=some i):∃f,p.fs[i]?=some f/\f.pins=[]/\∀g∈p.fs,g.pins=[]->f.left<=g.left:=by
 have:=p.oH
 unfold Pl.j6 at h
 rw[O0] at h
 obtain⟨⟨j,t⟩,h1,rfl⟩:=h
 rw[h1] at this
 obtain⟨f,q1,q2,q3,q4⟩:=this
 exact⟨f,q1,q2,λg hg hp=>by rw[q3];exact q4 g hg hp⟩
theorem Pl.ED {p:Pl}(hw:p.WF){i:Nat}{f:Fr}(hf:p.fs[i]?=some f)(hp:f.pins=[])(hb:∀g∈p.fs,g.pins=[]->f.left<=g.left):p.j6=some i:=by
 cases h:p.j6 with
 |none=>exact absurd hp (Pl.sY h f (Ki hf))
 |some j=>
   obtain⟨g,h1,h2,h3⟩:=Pl.iH h
   have e1:=hb g (Ki h1) h2
   have e2:=h3 f (Ki hf) hp
   rw[hw.lefts j i g f h1 hf h2 hp (by omega)]
theorem Pl.WF.ay {p q:Pl}(h:p.WF)(hf:q.fs=p.fs)(hm:q.most=p.most)(hn:q.next=p.next)(ht:q.tick=p.tick)(hk:q.peak=p.peak):q.WF:=by
 obtain⟨d,most,fs,next,tick,peak,wrong⟩:=q
 obtain⟨d',most',fs',next',tick',peak',wrong'⟩:=p
 simp only at hf hm hn ht hk
 subst hf;subst hm;subst hn;subst ht;subst hk
 exact⟨h.keys,h.len,h.most,h.room,h.aB,h.pins,h.old,h.tick,h.lefts,h.past,h.peak⟩
theorem Pl.WF.cT {p:Pl}(h:p.WF)(d:Dk):(p.cT d).WF:=h.ay rfl rfl rfl rfl rfl
theorem Pl.WF.met {p:Pl}(h:p.WF)(e:Int):(p.met e).WF:=by
 unfold Pl.met
 split
 ·exact h.ay rfl rfl rfl rfl rfl
 ·exact h
theorem eV {α β:Type}(u:α->List β)(g:α->α):∀(l:List α) (i:Nat) (x:α),l[i]?=some x->u (g x)=u x->(l.modify i g).flatMap u=l.flatMap u
 |[],i,x,h,_=>by simp at h
 |a::l,0,x,h,e=>by simp at h;subst h;simp[e]
 |a::l,i+1,x,h,e=>by
   simp only[LL] at h
   simp[eV u g l i x h e]
theorem df {α β:Type}(u:α->β)(g:α->α)(l:List α)(i:Nat)(x:α)(h:l[i]?=some x)(e:u (g x)=u x):(l.modify i g).map u=l.map u:=by
 have:=eV (λy=>[u y]) g l i x h (by simp[e])
 simpa[List.flatMap_singleton',List.map_eq_flatMap] using this
theorem mem_modify {α:Type}{l:List α}{i:Nat}{g:α->α}{x y:α}(hx:l[i]?=some x)(hy:y∈l.modify i g):y∈l\/y=g x:=by
 obtain⟨j,hj⟩:=Ko.1 hy
 by_cases e:i=j
 ·subst e;rw[bt hx] at hj;cases hj;exact .inr rfl
 ·rw[bh e] at hj;exact .inl (Ki hj)
theorem Pl.WF.dB {p:Pl}(h:p.WF){i:Nat}{f:Fr}{u:Fr->Fr}(hf:p.fs[i]?=some f)(hk:(u f).key=f.key)(hp:(u f).pins=f.pins)(hl:(u f).left=f.left)(hb:(u f).b.length<=504):(p.dB i u).WF:=by
 have hm:=Ki hf
 have get:∀(j:Nat) (g:Fr),(p.fs.modify i u)[j]?=some g->∃g',p.fs[j]?=some g'/\g.pins=g'.pins/\g.left=g'.left:=by
  intro j g hj
  by_cases e:i=j
  ·subst e;rw[bt hf] at hj;cases hj;exact⟨f,hf,hp,hl⟩
  ·rw[bh e] at hj;exact⟨g,hj,rfl,rfl⟩
 refine⟨?_,?_,h.most,?_,?_,?_,?_,?_,?_,?_,?_⟩
 ·show ((p.fs.modify i u).map Fr.key).Nodup
  rw[df Fr.key u p.fs i f hf hk];exact h.keys
 ·show (p.fs.modify i u).length<=p.most
  rw[Na];exact h.len
 ·intro g hg
  rcases mem_modify hf hg with q|q
  ·exact h.room g q
  ·subst q;exact hb
 ·intro g hg
  rcases mem_modify hf hg with q|q
  ·exact h.aB g q
  ·subst q
   have e1:(u f).ab=f.ab:=congrArg Sf hk
   have e2:(u f).name=f.name:=congrArg RE hk
   rw[e1,e2];exact h.aB f hm
 ·show ((p.fs.modify i u).flatMap (·.pins)).Nodup
  rw[eV (·.pins) u p.fs i f hf hp];exact h.pins
 ·intro g hg
  rcases mem_modify hf hg with q|q
  ·exact h.old g q
  ·subst q;rw[hp];exact h.old f hm
 ·refine⟨h.tick.1,?_⟩
  have e:(p.dB i u).pins=p.pins:=by
   show ((p.fs.modify i u).map λf=>f.pins.length).sum=_
   rw[df (λf=>f.pins.length) u p.fs i f hf (by rw[hp])];rfl
  rw[e];exact h.tick.2
 ·intro a b x y hx hy hxp hyp hxy
  obtain⟨x',q1,q2,q3⟩:=get a x hx
  obtain⟨y',r1,r2,r3⟩:=get b y hy
  exact h.lefts a b x' y' q1 r1 (by rw[<-q2];exact hxp) (by rw[<-r2];exact hyp) (by rw[<-q3,<-r3];exact hxy)
 ·intro g hg
  rcases mem_modify hf hg with q|q
  ·exact h.past g q
  ·subst q;rw[hl];exact h.past f hm
 ·show (p.fs.modify i u).length<=p.peak/\_
  rw[Na];exact h.peak
theorem Pl.WF.put {p:Pl}(h:p.WF){i:Nat}{f:Fr}(hf:p.fs[i]?=some f):(p.put i).1.WF:=by
 unfold Pl.put
 split
 ·exact(h.cT _).dB hf rfl rfl rfl (h.room f (Ki hf))
 ·exact h.cT _
theorem oe {α β:Type}(u:α->List β){l r:List α}(h:l.Sublist r):(l.flatMap u).Sublist (r.flatMap u):=by
 induction h with
 |slnil=>simp
 |cons a _ ih=>rw[K6];exact ih.trans (List.sublist_append_right _ _)
 |cons_cons a _ ih=>rw[K6,K6];exact(Of _).append ih
theorem vZ {α:Type}(u:α->Nat){l r:List α}(h:l.Sublist r):(l.map u).sum<=(r.map u).sum:=by
 induction h with
 |slnil=>simp
 |cons a _ ih=>rw[Ln,Ny];omega
 |cons_cons a _ ih=>rw[Ln,Ny,Ln,Ny];omega
theorem Pl.WF.sub {p q:Pl}(h:p.WF)(hs:q.fs.Sublist p.fs)(hm:q.most=p.most)(hn:q.next=p.next)(ht:q.tick=p.tick)(hk:q.peak=p.peak):q.WF:=by
 have hmem:∀f∈q.fs,f∈p.fs:=λf hf=>hs.subset hf
 have hlen:=hs.length_le
 refine⟨?_,by rw[hm];have:=h.len;omega,by rw[hm];exact h.most,λf hf=>h.room f (hmem f hf),λf hf=>h.aB f (hmem f hf),?_,λf hf=>by rw[hn];exact h.old f (hmem f hf),?_,?_,λf hf=>by rw[ht];exact h.past f (hmem f hf),by rw[hk,hm];have:=h.peak;omega⟩
 ·exact(hs.map Fr.key).nodup h.keys
 ·exact(oe (·.pins) hs).nodup h.pins
 ·rw[ht,hn]
  refine⟨h.tick.1,?_⟩
  have:q.pins<=p.pins:=by
   unfold Pl.pins
   exact vZ (λf:Fr=>f.pins.length) hs
  have:=h.tick.2
  omega
 ·-- frames that none holds differ in when they were left
  have hpw:(p.fs.filter λf=>f.pins.isEmpty).Pairwise (λf g=>f.left≠g.left):=by
   rw[RF,ML]
   intro i j hi hj hij hfi hfj e
   have:=h.lefts i j _ _ (Kg hi) (Kg hj) (Np.1 hfi) (Np.1 hfj) e
   omega
  have hpw2:(q.fs.filter λf=>f.pins.isEmpty).Pairwise (λf g=>f.left≠g.left):=hpw.sublist (hs.filter _)
  rw[RF,ML] at hpw2
  intro i j f g hi hj hfp hgp e
  obtain⟨hi',rfl⟩:=Kj.1 hi
  obtain⟨hj',rfl⟩:=Kj.1 hj
  rcases Nat.lt_trichotomy i j with q1|q1|q1
  ·exact absurd e (hpw2 i j hi' hj' q1 (Np.2 hfp) (Np.2 hgp))
  ·exact q1
  ·exact absurd e.symm (hpw2 j i hj' hi' q1 (Np.2 hgp) (Np.2 hfp))
theorem Pl.WF.drop {p:Pl}(h:p.WF)(i:Nat):(p.drop i).WF:=h.sub (List.eraseIdx_sublist _ _) rfl rfl rfl rfl
theorem Pl.WF.forget {p:Pl}(h:p.WF)(n:ByteArray):(p.forget n).WF:=h.sub Mg rfl rfl rfl rfl
theorem Pl.jg (p:Pl)(i:Nat):(p.put i).1.fs.length=p.fs.length:=by
 unfold Pl.put
 split
 ·show (p.fs.modify i _).length=_;rw[Na]
 ·rfl
theorem Pl.j0 (p:Pl)(i:Nat):(p.put i).1.most=p.most/\(p.put i).1.next=p.next/\(p.put i).1.tick=p.tick/\(p.put i).1.peak=p.peak/\(p.put i).1.wrong=p.wrong:=by
 unfold Pl.put;split<;>exact⟨rfl,rfl,rfl,rfl,rfl⟩
theorem Pl.dC (p:Pl):p.room.1.most=p.most/\p.room.1.next=p.next/\p.room.1.tick=p.tick/\p.room.1.peak=p.peak/\p.room.1.wrong=p.wrong:=by
 unfold Pl.room
 split
 ·exact⟨rfl,rfl,rfl,rfl,rfl⟩
 ·split
  ·exact⟨rfl,rfl,rfl,rfl,rfl⟩
  ·split
   ·split
    ·exact p.j0 _
    ·exact p.j0 _
   ·exact⟨rfl,rfl,rfl,rfl,rfl⟩
theorem Pl.WF.tK {p:Pl}(h:p.WF):p.room.1.WF/\(p.room.2=0->p.room.1.fs.length<p.most):=by
 unfold Pl.room
 split
 ·rename_i q;exact⟨h,λ_=>q⟩
 ·split
  ·exact⟨h,λq=>by cases q⟩
  ·rename_i i hi
   obtain⟨f,hf,_,_⟩:=Pl.iH hi
   have hil:=(Kj.1 hf).1
   have hlen:=h.len
   split
   ·split
    ·refine⟨(h.put hf).drop i,λ_=>?_⟩
     show ((p.put i).1.fs.eraseIdx i).length<p.most
     rw[Mj (by rw[Pl.jg];exact hil),Pl.jg];omega
    ·rename_i q
     exact⟨h.put hf,λq'=>absurd q' q⟩
   ·refine⟨h.drop i,λ_=>?_⟩
    show (p.fs.eraseIdx i).length<p.most
    rw[Mj hil];omega
theorem nV {h:Int}:∀(l:List Fr) (i:Nat) (f:Fr),l[i]?=some f->((l.modify i (Fr.bR h)).flatMap (·.pins)).Perm (h::l.flatMap (·.pins))
 |[],i,f,e=>by simp at e
 |a::l,0,f,e=>by
   simp only[Rs,K6,Fr.bR,Lk,Rr]
   exact O9
 |a::l,i+1,f,e=>by
   simp only[LL] at e
   simp only[Pd,K6]
   exact((nV l i f e).append_left a.pins).trans O9
theorem Pl.WF.jI {p:Pl}(h:p.WF){i:Nat}{f:Fr}(hf:p.fs[i]?=some f)(hn:p.next<9223372036854775807):(p.jI i).WF:=by
 have hm:=Ki hf
 have ht:=h.tick
 have hw:ff (p.next+1)=p.next+1:=by unfold ff;exact wrap64 (by omega) (by omega)
 refine⟨?_,?_,h.most,?_,?_,?_,?_,?_,?_,?_,?_⟩
 ·show ((p.fs.modify i _).map Fr.key).Nodup
  rw[df Fr.key _ p.fs i f hf rfl];exact h.keys
 ·show (p.fs.modify i _).length<=p.most
  rw[Na];exact h.len
 ·intro g hg
  rcases mem_modify hf hg with q|q
  ·exact h.room g q
  ·subst q;exact h.room f hm
 ·intro g hg
  rcases mem_modify hf hg with q|q
  ·exact h.aB g q
  ·subst q;exact h.aB f hm
 ·show ((p.fs.modify i _).flatMap (·.pins)).Nodup
  rw[(nV p.fs i f hf).nodup_iff,Lw]
  refine⟨λhx=>?_,h.pins⟩
  obtain⟨g,hg,hgp⟩:=LP.1 hx
  have:=(h.old g hg _ hgp).2;omega
 ·intro g hg x hx
  show 1<=x/\x<ff (p.next+1)
  rw[hw]
  rcases mem_modify hf hg with q|q
  ·have:=h.old g q x hx;omega
  ·subst q
   rcases Kk.1 hx with r|r
   ·have:=h.old f hm x r;omega
   ·simp at r;omega
 ·show 0<=p.tick/\p.tick+(((p.fs.modify i (Fr.bR p.next)).map λf=>f.pins.length).sum:Nat)<ff (p.next+1)
  rw[hw]
  have:=fq (λf:Fr=>f.pins.length) (Fr.bR p.next) p.fs i f hf
  simp only[Fr.bR,Kv,Lq] at this
  unfold Pl.pins at ht
  exact⟨ht.1,by omega⟩
 ·intro a b x y hx hy hxp hyp hxy
  have ne:∀(j:Nat) (g:Fr),(p.fs.modify i (Fr.bR p.next))[j]?=some g->g.pins=[]->p.fs[j]?=some g:=by
   intro j g hj hg
   by_cases e:i=j
   ·subst e;rw[bt hf] at hj;cases hj;simp[Fr.bR] at hg
   ·rw[bh e] at hj;exact hj
  exact h.lefts a b x y (ne a x hx hxp) (ne b y hy hyp) hxp hyp hxy
 ·intro g hg
  rcases mem_modify hf hg with q|q
  ·exact h.past g q
  ·subst q;exact h.past f hm
 ·show (p.fs.modify i _).length<=p.peak/\_
  rw[Na];exact h.peak
theorem Pl.Hc (p:Pl)(f:Fr):(p.add f).fs[p.fs.length]?=some f:=by simp[Pl.add]
theorem Pl.WF.take {p:Pl}(h:p.WF){f:Fr}(hl:p.fs.length<p.most)(hn:p.next<9223372036854775807)(hk:p.find f.name f.ab=none)(hb:f.b.length<=504)(hpg:f.ab<1048577)(hnm:f.name.size<=9223372036854775807)(hp:f.pins=[])(hlf:f.left=0):(p.take f).WF:=by
 have ht:=h.tick
 have hw:ff (p.next+1)=p.next+1:=by unfold ff;exact wrap64 (by omega) (by omega)
 have e:(p.take f).fs=p.fs++[Fr.bR p.next f]:=by
  show (p.fs++[f]).modify p.fs.length (Fr.bR p.next)=_
  have ha:(p.fs++[f])[p.fs.length]?=some f:=p.Hc f
  rw[bY ha]
  simp
 have mem:∀g∈(p.take f).fs,g∈p.fs\/g=Fr.bR p.next f:=λg hg=>by
  rw[e] at hg;simpa using hg
 have hnx:(p.take f).next=p.next+1:=hw
 have hpk:=h.peak
 refine⟨?_,?_,h.most,?_,?_,?_,?_,?_,?_,?_,?_⟩
 ·rw[e,KX,La]
  refine⟨h.keys,by simp,λa ha b hb2=>?_⟩
  obtain⟨g,hg,rfl⟩:=Kz.1 ha
  simp only[Ln,NM,Lc] at hb2
  subst hb2
  intro eq
  have e1:g.name=f.name:=congrArg RE eq
  have e2:g.ab=f.ab:=congrArg Sf eq
  exact Pl.kC hk g hg e1 (by omega)
 ·rw[e];show _<=p.most;simp;omega
 ·intro g hg
  rcases mem g hg with q|q
  ·exact h.room g q
  ·subst q;exact hb
 ·intro g hg
  rcases mem g hg with q|q
  ·exact h.aB g q
  ·subst q;exact⟨hpg,hnm⟩
 ·rw[e,List.flatMap_append,La]
  refine⟨h.pins,by simp[Fr.bR,hp],λa ha b hb2=>?_⟩
  obtain⟨g,hg,hga⟩:=LP.1 ha
  simp[Fr.bR,hp] at hb2
  have:=(h.old g hg a hga).2;omega
 ·intro g hg x hx
  rw[hnx]
  rcases mem g hg with q|q
  ·have:=h.old g q x hx;omega
  ·subst q
   simp[Fr.bR,hp] at hx
   omega
 ·rw[hnx]
  refine⟨ht.1,?_⟩
  have:(p.take f).pins=p.pins+1:=by
   unfold Pl.pins;rw[e];simp[Fr.bR,hp]
  show p.tick+_<_
  rw[this];omega
 ·intro a b x y hx hy hxp hyp hxy
  rw[e] at hx hy
  have ne:∀(j:Nat) (g:Fr),(p.fs++[Fr.bR p.next f])[j]?=some g->g.pins=[]->p.fs[j]?=some g:=by
   intro j g hj hg
   rw[List.getElem?_append] at hj
   split at hj
   ·exact hj
   ·have:g=Fr.bR p.next f:=by have:=Ki hj;simpa using this
    subst this;simp[Fr.bR] at hg
  exact h.lefts a b x y (ne a x hx hxp) (ne b y hy hyp) hxp hyp hxy
 ·intro g hg
  rcases mem g hg with q|q
  ·exact h.past g q
  ·subst q
   show 0<=f.left/\f.left<=p.tick
   rw[hlf];exact⟨Od _,ht.1⟩
 ·rw[e];show _<=max p.peak (p.fs.length+1)/\max p.peak (p.fs.length+1)<=p.most
  simp only[Kv,Lq]
  omega
theorem filter_one {h:Int}{l:List Int}(hd:l.Nodup)(hm:h∈l):(l.filter λx=>decide (x≠h)).length+1=l.length:=by
 induction l with
 |nil=>cases hm
 |cons a l ih=>
   rw[Lw] at hd
   rw[List.filter_cons]
   by_cases e:a=h
   ·subst e
    have:l.filter (λx=>decide (x≠a))=l:=by
     rw[List.filter_eq_self]
     intro x hx
     have:x≠a:=λe=>hd.1 (e▸hx)
     simp[this]
    rw[this];simp
   ·have hm':h∈l:=by
     rcases List.mem_cons.1 hm with q|q
     ·exact absurd q.symm e
     ·exact q
    have:=ih hd.2 hm'
    simp only[ne_eq,e,not_false_eq_true,decide_true,if_true,K1]
    simp only[ne_eq] at this
    omega
theorem kY {α β:Type}{u:α->List β}:∀{l:List α},(l.flatMap u).Nodup->∀{i:Nat} {x:α},l[i]?=some x->(u x).Nodup
 |[],_,i,x,h=>by simp at h
 |a::l,hd,0,x,h=>by
   rw[K6,La] at hd
   simp at h;subst h;exact hd.1
 |a::l,hd,i+1,x,h=>by
   rw[K6,La] at hd
   exact kY hd.2.1 (by simpa using h)
theorem nI {α β:Type}(u:α->List β)(g:α->α)(hg:∀x,(u (g x)).Sublist (u x)):∀(l:List α) (i:Nat),((l.modify i g).flatMap u).Sublist (l.flatMap u)
 |[],i=>by simp
 |a::l,0=>by
   simp only[Rs,K6]
   exact(hg a).append (Of _)
 |a::l,i+1=>by
   simp only[Pd,K6]
   exact(Of _).append (nI u g hg l i)
theorem Pl.WF.bm {p:Pl}(hw:p.WF)(h:Int)(hn:p.next<9223372036854775807):(p.bm h).1.WF:=by
 unfold Pl.bm
 split
 ·exact hw
 ·split
  ·rename_i i hi
   obtain⟨f,hf,hm⟩:=Pl.mT hi
   have hfm:=Ki hf
   have ht:=hw.tick
   have hpins:=filter_one (kY hw.pins hf) hm
   have hfl:f.pins.length<=p.pins:=pW (λf:Fr=>f.pins.length) p.fs i f hf
   have hwt:ff (p.tick+1)=p.tick+1:=by unfold ff;exact wrap64 (by omega) (by omega)
   rw[hwt]
   have get:∀(j:Nat) (g:Fr),(p.fs.modify i (Fr.bm h (p.tick+1)))[j]?=some g->(j=i/\g=Fr.bm h (p.tick+1) f)\/(j≠i/\p.fs[j]?=some g):=by
    intro j g hj
    by_cases e:i=j
    ·subst e;rw[bt hf] at hj;cases hj;exact .inl ⟨rfl,rfl⟩
    ·rw[bh e] at hj;exact .inr ⟨λq=>e q.symm,hj⟩
   refine⟨?_,?_,hw.most,?_,?_,?_,?_,?_,?_,?_,?_⟩
   ·show ((p.fs.modify i _).map Fr.key).Nodup
    rw[df Fr.key _ p.fs i f hf rfl];exact hw.keys
   ·show (p.fs.modify i _).length<=p.most
    rw[Na];exact hw.len
   ·intro g hg
    rcases mem_modify hf hg with q|q
    ·exact hw.room g q
    ·subst q;exact hw.room f hfm
   ·intro g hg
    rcases mem_modify hf hg with q|q
    ·exact hw.aB g q
    ·subst q;exact hw.aB f hfm
   ·exact(nI (·.pins) (Fr.bm h (p.tick+1)) (λx=>Mg) p.fs i).nodup hw.pins
   ·intro g hg x hx
    rcases mem_modify hf hg with q|q
    ·exact hw.old g q x hx
    ·subst q;exact hw.old f hfm x (KP.1 hx).1
   ·show 0<=p.tick+1/\p.tick+1+(((p.fs.modify i (Fr.bm h (p.tick+1))).map λf=>f.pins.length).sum:Nat)<p.next
    have:=fq (λf:Fr=>f.pins.length) (Fr.bm h (p.tick+1)) p.fs i f hf
    simp only[Fr.bm] at this
    unfold Pl.pins at ht
    constructor
    ·omega
    ·omega
   ·intro a b x y hx hy hxp hyp hxy
    rcases get a x hx with ⟨q1,q2⟩|⟨q1,q2⟩
    ·rcases get b y hy with ⟨r1,r2⟩|⟨r1,r2⟩
     ·omega
     ·have:=hw.past y (Ki r2)
      rw[q2] at hxy
      simp only[Fr.bm] at hxy
      omega
    ·rcases get b y hy with ⟨r1,r2⟩|⟨r1,r2⟩
     ·have:=hw.past x (Ki q2)
      rw[r2] at hxy
      simp only[Fr.bm] at hxy
      omega
     ·exact hw.lefts a b x y q2 r2 hxp hyp hxy
   ·intro g hg
    show 0<=g.left/\g.left<=p.tick+1
    rcases mem_modify hf hg with q|q
    ·have:=hw.past g q;omega
    ·subst q;simp only[Fr.bm];omega
   ·show (p.fs.modify i _).length<=p.peak/\_
    rw[Na];exact hw.peak
  ·exact hw
theorem Pl.WF.set {p:Pl}(hw:p.WF)(h:Int)(k:UInt8)(b:List UInt8):(p.set h k b).1.WF:=by
 unfold Pl.set
 split
 ·exact hw
 ·split
  ·rename_i i hi
   obtain⟨f,hf,hm⟩:=Pl.mT hi
   split
   ·exact hw
   ·exact hw.dB hf rfl rfl rfl (by simp only[Fr.set];omega)
  ·exact hw
theorem xv {d:Dk}{m:Nat}(h1:8<=m)(h2:m<=4096):(rj d m).WF:=by
 refine⟨by simp[rj],by simp[rj],⟨h1,h2⟩,?_,?_,by simp[rj],?_,?_,?_,?_,by simp[rj]⟩
 ·intro f hf;simp[rj] at hf
 ·intro f hf;simp[rj] at hf
 ·intro f hf;simp[rj] at hf
 ·simp[rj,Pl.pins]
 ·intro i j f g hi;simp[rj] at hi
 ·intro f hf;simp[rj] at hf
open Go.MapKept
structure rW where
 p:Nat
 b:Sl
def rW.fp (g:rW)(b:Nat):Prop:=b=g.p\/ai g.b b
def IN (g:rW)(f:Fr):Array Value:=#[.string f.name,.int .i64 (f.ab:Int),.int .u8 (f.kind.toNat:Int),g.b.v,.bool f.dirty,.int .i64 (f.pins.length:Int),.int .i64 f.left]
structure de (H:aa)(g:rW)(f:Fr):Prop where
 row:ag H g.p GI (IN g f)
 b:cw EB kN H g.b f.b
theorem de.lt {H:aa}{g:rW}{f:Fr}(h:de H g f):∀b,g.fp b->b<H.size:=by
 rintro b (rfl|hb)
 ·exact aG h.row
 ·exact h.b.lt b hb
theorem de.aA {H H':aa}{g:rW}{f:Fr}(h:de H g f)(k:∀b,g.fp b->b<H.size->H'[b]?=H[b]?):de H' g f:=
 ⟨(k _ (.inl rfl) (aG h.row)).trans h.row,h.b.aA λb hb=>k b (.inr hb)⟩
theorem de.obj {H:aa}{g:rW}{f:Fr}(h:de H g f):∀b,g.fp b->∃cs t,H[b]?=some (.cells cs t (0,0))/\(t=GI\/t=kN):=by
 rintro b (rfl|hb)
 ·exact⟨_,_,h.row,.inl rfl⟩
 ·obtain⟨c,q⟩:=h.b.obj b hb;exact⟨c,_,q,.inr rfl⟩
def iM (n:ByteArray)(g:Int):Value:=.agg #[.string n,.int .i64 g]
theorem lW {n m:ByteArray}{g k:Int}(h:iM n g=iM m k):n=m/\g=k:=by
 unfold iM at h
 simp at h
 exact h
abbrev FZ:=Fr×rW
def xH (zs:List FZ):List (Value×Value):=zs.map λz=>(iM z.1.name (z.1.ab:Int),bX z.2.p)
def Ig (z:FZ):List (Value×Value):=z.1.pins.map λh=>(Value.int .i64 h,bX z.2.p)
def tN (zs:List FZ):List (Value×Value):=zs.flatMap Ig
structure PG where
 mf:Nat
 ef:Array MapEntry
 cf:Nat
 mh:Nat
 eh:Array MapEntry
 ch:Nat
 zs:List FZ
def PG.fs (x:PG):List Fr:=x.zs.map (·.1)
def PG.fp (x:PG)(b:Nat):Prop:=b=x.mf\/b=x.mh\/∃z∈x.zs,z.2.fp b
def FM (P:Program)(kt:TypeId):Bool:=
 match P.underlying kt with
 |some (.struct fs)=>(match fs.toList with
   |[f0,f1]=>(match P.underlying f0.type with|some .string=>true|_=>false)&&(match P.underlying f1.type with|some (.int .i64)=>true|_=>false)
     &&K3 f0.offset 0&&K3 f1.offset 1&&K3 (P.cellsOf f0.type) 1&&K3 (P.cellsOf f1.type) 1&&(f0.name !="_")&&(f1.name !="_")&&K3 (P.cellsOf kt) 2&&P.keyType kt&&Nat.blt 0 P.types.size
   |_=>false)
 |_=>false
theorem Ce {P:Program}{kt:TypeId}(h:FM P kt=true){n:ByteArray}{g:Int}(hn:n.size<=9223372036854775807)(h0:-9223372036854775808<=g)(h1:g<=9223372036854775807):tU P kt (iM n g):=by
 unfold FM at h
 split at h
 ·rename_i fs hu
  split at h
  ·rename_i f0 f1 hfs
   simp only[KD,bne_iff_ne,ne_eq] at h
   obtain⟨⟨⟨⟨⟨⟨⟨⟨⟨⟨a1,a2⟩,a3⟩,a4⟩,a5⟩,a6⟩,a7⟩,a8⟩,a9⟩,a10⟩,a11⟩:=h
   have e3:=KR a3
   have e4:=KR a4
   have e5:=KR a5
   have e6:=KR a6
   have e9:=KR a9
   have hpos:0<P.types.size:=fi.1 a11
   obtain⟨m,hm⟩:∃m,P.types.size=m+1:=⟨P.types.size - 1,by omega⟩
   split at a1
   ·rename_i u0
    split at a2
    ·rename_i u1
     have hform:Sq P kt (iM n g)=true:=by
      unfold iM Sq
      simp only[hu,e9]
      rfl
     have hwf:(Lit.int .i64 g).wf=true:=by
      unfold Lit.wf
      simp only[KD,decide_eq_true_eq]
      exact⟨by show (-9223372036854775808:Int)<=g;exact h0,by show g<=(9223372036854775807:Int);exact h1⟩
     have hall:fs.all (λf=>f.name !="_")=true:=by
      rw[<-Array.all_toList,hfs]
      simp[a7,a8]
     have l0:P.keyLits (m+1) f0.type [.string n]=some [.string n.data.toList]:=by
      unfold PR
      simp only[u0]
      rw[if_pos (by unfold maxLen;omega)]
     have l1:P.keyLits (m+1) f1.type [.int .i64 g]=some [.int .i64 g]:=by
      unfold PR
      simp only[u1]
      rw[if_pos ⟨trivial,hwf⟩]
     refine⟨.string (keyBytes [.string n.data.toList,.int .i64 g]),?_⟩
     unfold Go.keyOf
     simp only[hu]
     rw[if_pos (by rw[a10,hform];rfl),hm]
     unfold PR
     simp only[hu]
     have hc2:(iM n g).cells.toList=[.string n,.int .i64 g]:=rfl
     rw[hc2,if_pos ⟨by rw[e9];rfl,hall⟩,hfs]
     simp[List.mapM_cons,e3,e4,e5,e6,l0,l1]
    ·cases a2
   ·cases a1
  ·cases h
 ·cases h
theorem tz:N8 Kf uF:=Go.deep_law_gate (by kernel_rfl) (Nw (by kernel_rfl)) (Nw (by kernel_rfl)) (by kernel_rfl) (by kernel_rfl)
theorem mW {n:ByteArray}{g:Int}(hn:n.size<=9223372036854775807)(h0:-9223372036854775808<=g)(h1:g<=9223372036854775807):tU Kf uF (iM n g):=Ce (by kernel_rfl) hn h0 h1
structure aN (H:aa)(x:PG):Prop where
 fmap:gV Kf uF H x.mf x.ef x.cf
 hmap:dq (.int .i64) H x.mh x.eh x.ch
 ne:x.mf≠x.mh
 size:x.ef.size=x.zs.length
 entF:∀k v,dJ x.ef k v↔(k,v)∈xH x.zs
 entH:∀k v,dJ x.eh k v↔(k,v)∈tN x.zs
 each:∀z∈x.zs,de H z.2 z.1
 apart:∀(i j:Nat) (z z':FZ),x.zs[i]?=some z->x.zs[j]?=some z'->i≠j->∀b,z.2.fp b->¬z'.2.fp b
theorem aN.lt {H:aa}{x:PG}(h:aN H x):∀b,x.fp b->b<H.size:=by
 rintro b (rfl|rfl|⟨z,hz,hb⟩)
 ·exact h.fmap.lt
 ·exact h.hmap.lt
 ·exact(h.each z hz).lt b hb
theorem aN.aA {H H':aa}{x:PG}(h:aN H x)(k:∀b,x.fp b->b<H.size->H'[b]?=H[b]?):aN H' x:=
 ⟨⟨(k _ (.inl rfl) h.fmap.lt).trans h.fmap.obj,h.fmap.stamped,h.fmap.keys⟩,h.hmap.aA (k _ (.inr (.inl rfl)) h.hmap.lt),h.ne,h.size,h.entF,h.entH,
   λz hz=>(h.each z hz).aA λb hb=>k b (.inr (.inr ⟨z,hz,hb⟩)),h.apart⟩
theorem aN.off {H:aa}{x:PG}(h:aN H x){z:FZ}(hz:z∈x.zs):¬z.2.fp x.mf/\¬z.2.fp x.mh:=by
 constructor
 ·intro hb
  obtain⟨cs,t,e,_⟩:=(h.each z hz).obj _ hb
  rw[h.fmap.obj] at e;cases e
 ·intro hb
  obtain⟨cs,t,e,_⟩:=(h.each z hz).obj _ hb
  rw[h.hmap.obj] at e;cases e
theorem aN.at {H:aa}{x:PG}(_h:aN H x){i:Nat}{f:Fr}(hf:x.fs[i]?=some f):∃g,x.zs[i]?=some (f,g):=by
 unfold PG.fs at hf
 rw[KC,O0] at hf
 obtain⟨⟨f',g⟩,h1,rfl⟩:=hf
 exact⟨g,h1⟩
theorem jR {α:Type}{l:List α}{i:Nat}{a y:α}(hy:y∈l.set i a):(∃j,j≠i/\l[j]?=some y)\/y=a:=by
 obtain⟨j,hj⟩:=Ko.1 hy
 by_cases e:i=j
 ·subst e
  have hl:i<l.length:=by have:=(Kj.1 hj).1;simpa using this
  rw[Le,if_pos rfl,if_pos hl] at hj;cases hj;exact .inr rfl
 ·rw[Le,if_neg e] at hj;exact .inl ⟨j,λq=>e q.symm,hj⟩
theorem zK {H:aa}{x:PG}(h:aN H x){i:Nat}{z z':FZ}(hz:x.zs[i]?=some z)(hb:∀b,z'.2.fp b->z.2.fp b\/H.size<=b):
  ∀(a c:Nat) (u v:FZ),(x.zs.set i z')[a]?=some u->(x.zs.set i z')[c]?=some v->a≠c->∀b,u.2.fp b->¬v.2.fp b:=by
 have hil:=(Kj.1 hz).1
 intro a c u v h1 h2 hac b hb1 hb2
 rw[Le] at h1 h2
 by_cases hia:i=a
 ·subst hia
  rw[if_neg hac] at h2
  rw[if_pos rfl,if_pos hil] at h1
  cases h1
  have hbl:=(h.each v (Ki h2)).lt b hb2
  rcases hb b hb1 with q|q
  ·exact h.apart i c z v hz h2 hac b q hb2
  ·omega
 ·rw[if_neg hia] at h1
  have hbl:=(h.each u (Ki h1)).lt b hb1
  by_cases hic:i=c
  ·subst hic
   rw[if_pos rfl,if_pos hil] at h2
   cases h2
   rcases hb b hb2 with q|q
   ·exact h.apart a i u z h1 hz hac b hb1 q
   ·omega
  ·rw[if_neg hic] at h2
   exact h.apart a c u v h1 h2 hac b hb1 hb2
theorem aN.set {H H':aa}{x:PG}(h:aN H x){i:Nat}{z z':FZ}{eh':Array MapEntry}{ch':Nat}(hz:x.zs[i]?=some z)(hn:z'.1.name=z.1.name)(hpg:z'.1.ab=z.1.ab)(hp:z'.2.p=z.2.p)
  (hq:de H' z'.2 z'.1) (hh:dq (.int .i64) H' x.mh eh' ch') (hent:∀k v,dJ eh' k v↔(k,v)∈tN (x.zs.set i z'))
  (hm:∀b,x.fp b->¬z.2.fp b->b≠x.mh->b<H.size->H'[b]?=H[b]?) (hb:∀b,z'.2.fp b->z.2.fp b\/H.size<=b):
  aN H' {x with zs:=x.zs.set i z',eh:=eh',ch:=ch'}/\(∀b,PG.fp {x with zs:=x.zs.set i z',eh:=eh',ch:=ch'} b->x.fp b\/H.size<=b):=by
 have hzm:=Ki hz
 have hoff:=h.off hzm
 refine⟨⟨⟨(hm _ (.inl rfl) hoff.1 h.ne h.fmap.lt).trans h.fmap.obj,h.fmap.stamped,h.fmap.keys⟩,hh,h.ne,by simp[h.size],?_,hent,?_,zK h hz hb⟩,?_⟩
 ·intro k v
  have:xH (x.zs.set i z')=xH x.zs:=by
   unfold xH
   rw[show x.zs.set i z'=x.zs.modify i (λ_=>z') from (bY (g:=λ_=>z') hz).symm]
   exact df _ _ _ _ _ hz (by simp only[hn,hpg,hp])
  rw[this];exact h.entF k v
 ·intro u hu
  rcases jR hu with ⟨j,hji,hj⟩|rfl
  ·have hum:=Ki hj
   exact(h.each u hum).aA λb hb1 hl=>hm b (.inr (.inr ⟨u,hum,hb1⟩)) (λq=>h.apart j i u z hj hz hji b hb1 q) (λe=>(h.off hum).2 (e▸hb1)) hl
  ·exact hq
 ·rintro b (e|e|⟨u,hu,hb1⟩)
  ·exact .inl (.inl e)
  ·exact .inl (.inr (.inl e))
  ·rcases jR hu with ⟨j,_,hj⟩|rfl
   ·exact .inl (.inr (.inr ⟨u,Ki hj,hb1⟩))
   ·exact(hb b hb1).imp (λq=>.inr (.inr ⟨z,hzm,q⟩)) id
theorem aN.dB {H H':aa}{x:PG}(h:aN H x){i:Nat}{z z':FZ}(hz:x.zs[i]?=some z)(hn:z'.1.name=z.1.name)(hpg:z'.1.ab=z.1.ab)(hpi:z'.1.pins=z.1.pins)(hp:z'.2.p=z.2.p)
  (hq:de H' z'.2 z'.1) (hm:∀b,x.fp b->¬z.2.fp b->b<H.size->H'[b]?=H[b]?) (hb:∀b,z'.2.fp b->z.2.fp b\/H.size<=b):
  aN H' {x with zs:=x.zs.set i z'}/\(∀b,PG.fp {x with zs:=x.zs.set i z'} b->x.fp b\/H.size<=b):=by
 have hzm:=Ki hz
 have hoff:=h.off hzm
 refine h.set hz hn hpg hp hq (h.hmap.aA (hm _ (.inr (.inl rfl)) hoff.2 h.hmap.lt)) (λk v=>?_) (λb h1 h2 _ h4=>hm b h1 h2 h4) hb
 have:tN (x.zs.set i z')=tN x.zs:=by
  unfold tN
  rw[show x.zs.set i z'=x.zs.modify i (λ_=>z') from (bY (g:=λ_=>z') hz).symm]
  exact eV _ _ _ _ _ hz (by simp only[Ig,hpi,hp])
 rw[this];exact h.entH k v
theorem xW (l r:List FZ):xH (l++r)=xH l++xH r:=by simp[xH]
theorem wN (l r:List FZ):tN (l++r)=tN l++tN r:=by simp[tN]
theorem yu {z:FZ}(h:z.1.pins=[]):Ig z=[]:=by simp[Ig,h]
theorem qu {α:Type}{l:List α}{i j:Nat}{a:α}(ha:(l.eraseIdx i)[j]?=some a):∃j',j'≠i/\l[j']?=some a/\j'=if j<i then j else j+1:=by
 rw[List.getElem?_eraseIdx] at ha
 split at ha
 ·rename_i q;exact⟨j,by omega,ha,by rw[if_pos q]⟩
 ·rename_i q;exact⟨j+1,by omega,ha,by rw[if_neg q]⟩
theorem mem_erase {α:Type}{l:List α}{i:Nat}{a:α}:a∈l.eraseIdx i↔∃j,j≠i/\l[j]?=some a:=List.mem_eraseIdx_iff_getElem?
theorem aN.erase {H H':aa}{x:PG}(h:aN H x){i:Nat}{z:FZ}{ef':Array MapEntry}(hz:x.zs[i]?=some z)(hp:z.1.pins=[])(hk:(x.fs.map Fr.key).Nodup)(hf:gV Kf uF H' x.mf ef' x.cf)
  (hent:∀k v,dJ ef' k v↔dJ x.ef k v/\k≠iM z.1.name (z.1.ab:Int)) (hs:∀u,dJ x.ef (iM z.1.name (z.1.ab:Int)) u->ef'.size+1=x.ef.size)
  (hm:∀b,x.fp b->b≠x.mf->b<H.size->H'[b]?=H[b]?):aN H' {x with zs:=x.zs.eraseIdx i,ef:=ef'}:=by
 have old:∀u∈x.zs,de H' u.2 u.1:=λu hu=>(h.each u hu).aA λb hb hl=>hm b (.inr (.inr ⟨u,hu,hb⟩)) (λe=>(h.off hu).1 (e▸hb)) hl
 have hil:=(Kj.1 hz).1
 have hzm:=Ki hz
 have hsz:=hs _ ((h.entF _ _).2 (Kz.2 ⟨z,hzm,rfl⟩))
 have inj:∀(j:Nat) (u:FZ),x.zs[j]?=some u->u.1.name=z.1.name->u.1.ab=z.1.ab->j=i:=by
  intro j u hj e1 e2
  have hjl:=(Kj.1 hj).1
  refine(LH (l:=x.fs.map Fr.key) (by simpa[PG.fs] using hjl) hk).1 ?_
  simp[PG.fs,hj,hz,Fr.key,e1,e2]
 refine⟨hf,h.hmap.aA (hm _ (.inr (.inl rfl)) h.ne.symm h.hmap.lt),h.ne,?_,?_,?_,?_,?_⟩
 ·simp only;rw[Mj hil];have:=h.size;omega
 ·intro k v
  rw[hent k v,h.entF k v]
  unfold xH
  simp only[Kz]
  constructor
  ·rintro⟨⟨u,hu,e⟩,hne⟩
   refine⟨u,?_,e⟩
   obtain⟨j,hj⟩:=Ko.1 hu
   refine mem_erase.2 ⟨j,λq=>?_,hj⟩
   subst q;rw[hz] at hj;cases hj
   simp only[LK] at e
   exact hne e.1.symm
  ·rintro⟨u,hu,e⟩
   obtain⟨j,hji,hj⟩:=mem_erase.1 hu
   refine⟨⟨u,Ki hj,e⟩,λq=>hji ?_⟩
   simp only[LK] at e
   have:=lW (e.1.trans q)
   exact inj j u hj this.1 (by omega)
 ·intro k v
  rw[h.entH k v]
  unfold tN
  simp only[LP]
  constructor
  ·rintro⟨u,hu,e⟩
   refine⟨u,?_,e⟩
   obtain⟨j,hj⟩:=Ko.1 hu
   refine mem_erase.2 ⟨j,λq=>?_,hj⟩
   subst q;rw[hz] at hj;cases hj
   rw[yu hp] at e;cases e
  ·rintro⟨u,hu,e⟩
   obtain⟨j,hji,hj⟩:=mem_erase.1 hu
   exact⟨u,Ki hj,e⟩
 ·intro u hu
  exact old u (LS hu)
 ·intro a c u v h1 h2 hac
  obtain⟨j1,n1,q1,e1⟩:=qu h1
  obtain⟨j2,n2,q2,e2⟩:=qu h2
  refine h.apart j1 j2 u v q1 q2 ?_
  rw[e1,e2]
  split<;>split<;>omega
def lM (dp:Nat)(x:PG)(s:Pl):Array Value:=#[bX dp,.int .i64 (s.most:Int),.map (some x.mf),.map (some x.mh),.int .i64 s.next,.int .i64 s.tick,.int .i64 (s.peak:Int),.int .i64 s.wrong]
structure bk (x:PG)(H:aa)(p dp:Nat)(s:Pl):Prop where
 head:ag H p Al (lM dp x s)
 ay:aN H x
 fs:s.fs=x.fs
 wf:s.WF
def PG.all (x:PG)(p b:Nat):Prop:=b=p\/x.fp b
theorem bk.off {x:PG}{H:aa}{p:Nat}{cs:Array Value}(hd:ag H p Al cs)(h:aN H x):¬x.fp p:=by
 rintro(e|e|⟨z,hz,hb⟩)
 ·have:=h.fmap.obj;rw[<-e,hd] at this;cases this
 ·have:=h.hmap.obj;rw[<-e,hd] at this;cases this
 ·obtain⟨c,t,e,ht⟩:=(h.each z hz).obj _ hb
  have:=aW hd e
  rw[<-this] at ht
  exact absurd ht (by decide)
theorem bk.lt {x:PG}{H:aa}{p dp:Nat}{s:Pl}(h:bk x H p dp s):∀b,x.all p b->b<H.size:=by
 rintro b (rfl|hb)
 ·exact aG h.head
 ·exact h.ay.lt b hb
theorem bk.aA {x:PG}{H H':aa}{p dp:Nat}{s:Pl}(h:bk x H p dp s)(k:∀b,x.all p b->b<H.size->H'[b]?=H[b]?):bk x H' p dp s:=
 ⟨(k p (.inl rfl) (aG h.head)).trans h.head,h.ay.aA λb hb=>k b (.inr hb),h.fs,h.wf⟩
theorem bk.cT {x:PG}{H:aa}{p dp:Nat}{s:Pl}(h:bk x H p dp s)(d:Dk):bk x H p dp (s.cT d):=⟨h.head,h.ay,h.fs,h.wf.cT d⟩
theorem bk.at {x:PG}{H:aa}{p dp:Nat}{s:Pl}(h:bk x H p dp s){i:Nat}{f:Fr}(hf:s.fs[i]?=some f):∃g,x.zs[i]?=some (f,g)/\de H g f:=by
 rw[h.fs] at hf
 obtain⟨g,hg⟩:=h.ay.at hf
 exact⟨g,hg,h.ay.each _ (Ki hg)⟩
theorem bk.n {x:PG}{H:aa}{p dp:Nat}{s:Pl}(h:bk x H p dp s):x.ef.size=s.fs.length:=by rw[h.fs,h.ay.size];simp[PG.fs]
structure bC (x:PG)(D:Nat->Prop)(H:aa)(p dp:Nat)(s:Pl):Prop where
 al:bk x H p dp s
 gT:bN D H dp s.d
 apart:∀b,D b->¬x.all p b
 du:¬D ft/\¬x.all p ft
def an (F:Nat->Prop)(H:aa)(p dp:Nat)(s:Pl):Prop:=∃x D,bC x D H p dp s/\∀b,F b↔D b\/x.all p b
theorem bC.lt {x:PG}{D:Nat->Prop}{H:aa}{p dp:Nat}{s:Pl}(h:bC x D H p dp s):∀b,D b\/x.all p b->b<H.size:=by
 rintro b (hb|hb)
 ·exact h.gT.lt b hb
 ·exact h.al.lt b hb
theorem an.lt {F:Nat->Prop}{H:aa}{p dp:Nat}{s:Pl}(h:an F H p dp s):∀b,F b->b<H.size:=by
 obtain⟨x,D,g,hF⟩:=h
 exact λb hb=>g.lt b ((hF b).1 hb)
theorem an.aA {F:Nat->Prop}{H H':aa}{p dp:Nat}{s:Pl}(h:an F H p dp s)(k:∀b,F b->b<H.size->H'[b]?=H[b]?):an F H' p dp s:=by
 obtain⟨x,D,g,hF⟩:=h
 exact⟨x,D,⟨g.al.aA λb hb=>k b ((hF b).2 (.inr hb)),g.gT.aA λb hb=>k b ((hF b).2 (.inl hb)),g.apart,g.du⟩,hF⟩
theorem Step.side {D D' P:Nat->Prop}{H H':aa}(h:Step D D' H H')(ha:∀b,D b->¬P b)(hl:∀b,P b->b<H.size):(∀b,D' b->¬P b)/\Step (λb=>D b\/P b) (λb=>D' b\/P b) H H':=by
 refine⟨λb hb hp=>?_,h.mod.mono λb _ q=>.inl q,?_⟩
 ·rcases h.own b hb with q|q
  ·exact ha b q hp
  ·have:=hl b hp;omega
 ·rintro b (q|q)
  ·exact(h.own b q).imp .inl id
  ·exact .inl (.inr q)
theorem bC.se {x:PG}{D D':Nat->Prop}{H H':aa}{p dp:Nat}{s:Pl}{d:Dk}(hg:Gl H)(h:bC x D H p dp s)(hd:bN D' H' dp d)(hs:Step D D' H H'):
  bC x D' H' p dp (s.cT d)/\Step (λb=>D b\/x.all p b) (λb=>D' b\/x.all p b) H H':=by
 obtain⟨q1,q2⟩:=hs.side h.apart h.al.lt
 exact⟨⟨(h.al.aA λb hb hl=>hs.mod.same b hl λq=>h.apart b q hb).cT d,hd,q1,λq=>by
  rcases hs.own _ q with r|r
  ·exact h.du.1 r
  ·have:=hg.lt;omega,h.du.2⟩,q2⟩
theorem bC.sA {x x':PG}{D:Nat->Prop}{H H':aa}{p dp:Nat}{s s':Pl}(hg:Gl H)(h:bC x D H p dp s)(hp:bk x' H' p dp s')(hd:s'.d=s.d)(hm:Mod (x.all p) H H')(ho:∀b,x'.fp b->x.fp b\/H.size<=b):
  bC x' D H' p dp s'/\Step (λb=>D b\/x.all p b) (λb=>D b\/x'.all p b) H H':=by
 have hl:=h.gT.lt
 refine⟨⟨hp,by rw[hd];exact h.gT.aA λb hb hbl=>hm.same b hbl (h.apart b hb),?_,h.du.1,?_⟩,hm.mono λb _ q=>.inr q,?_⟩
 ·rintro b hb (q|q)
  ·exact h.apart b hb (.inl q)
  ·rcases ho b q with r|r
   ·exact h.apart b hb (.inr r)
   ·have:=hl b hb;omega
 ·rintro(q|q)
  ·exact h.du.2 (.inl q)
  ·rcases ho _ q with r|r
   ·exact h.du.2 (.inr r)
   ·have:=hg.lt;omega
 ·rintro b (q|q|q)
  ·exact .inl (.inl q)
  ·exact .inl (.inr (.inl q))
  ·exact(ho b q).imp (λr=>.inr (.inr r)) id
theorem an.du {F:Nat->Prop}{H:aa}{p dp:Nat}{s:Pl}(h:an F H p dp s):¬F ft:=by
 obtain⟨x,D,g,hF⟩:=h
 intro q
 rcases (hF _).1 q with r|r
 ·exact g.du.1 r
 ·exact g.du.2 r
theorem bC.gl {x:PG}{D:Nat->Prop}{H H':aa}{p dp:Nat}{s:Pl}(hg:Gl H)(h:bC x D H p dp s)(hm:Mod (λb=>D b\/x.all p b) H H'):Gl H':=
 hg.mod hm λr=>r.elim h.du.1 h.du.2
theorem bC.out {x x':PG}{D D':Nat->Prop}{F:Nat->Prop}{H H':aa}{p dp:Nat}{s:Pl}(h:bC x' D' H' p dp s)(hF:∀b,F b↔D b\/x.all p b)(hs:Step (λb=>D b\/x.all p b) (λb=>D' b\/x'.all p b) H H'):
  ∃F',an F' H' p dp s/\Step F F' H H':=
 ⟨λb=>D' b\/x'.all p b,⟨x',D',h,λ_=>Pe⟩,hs.mod.mono λb _ q=>(hF b).2 q,λb hb=>(hs.own b hb).imp (hF b).2 id⟩
theorem jD {x:PG}{H:aa}{p dp:Nat}{s:Pl}{K:Int->aa->Prop}(h:bk x H p dp s)(hK:K s.wrong H):Ck.sp (aD p) H K:=by
 refine Ck.of ?_
 unfold Ck.vc
 exact h.head.ld (c:=af .i64) (i:=7) (x:=s.wrong) rfl hK
theorem bk.Bx {x:PG}{H H':aa}{p dp:Nat}{s s':Pl}(h:bk x H p dp s)(hr:ag H' p Al (lM dp x s'))(hm:Mod (λb=>b=p) H H')(hf:s'.fs=s.fs)(hw:s'.WF):bk x H' p dp s':=
 ⟨hr,h.ay.aA λb hb hl=>hm.same b hl λe=>bk.off h.head h.ay (e▸hb),hf.trans h.fs,hw⟩
theorem xP {x:PG}{D:Nat->Prop}{H:aa}{p dp:Nat}{s:Pl}{e:Int}{K:Int->aa->Prop}(hg:Gl H)(h:bC x D H p dp s)
  (hK:∀H',bC x D H' p dp (s.met e)->Step (λb=>D b\/x.all p b) (λb=>D b\/x.all p b) H H'->K e H'):wE.sp (aD p) e H K:=by
 refine wE.of ?_
 unfold wE.vc
 simp only[aq]
 have hw:=h.al.wf.met e
 have bads:bad e=true->st H (K0 ⟨p,0,none⟩ 7) (.int .i64 e) λH1=>K e H1:=by
  intro hb
  have em:s.met e={s with wrong:=e}:=by unfold Pl.met;rw[if_pos hb]
  refine h.al.head.st (i:=7) (by decide:7<8) (by rfl) λH' r m z=>?_
  have hp:bk x H' p dp (s.met e):=h.al.Bx (by rw[em];exact r) m (by rw[em]) hw
  obtain⟨q1,q2⟩:=h.sA hg hp (by rw[em]) (m.mono λb _ q=>.inl q) (λb q=>.inl q)
  exact hK H' q1 q2
 have good:bad e=false->K e H:=by
  intro hb
  have em:s.met e=s:=by unfold Pl.met;rw[hb];rfl
  exact hK H (by rw[em];exact h) (.refl _ _)
 refine ak (λh4=>aT h4 (bads (by simp[bad] at h4 ⊢;exact .inl (.inl h4)))) (λh4=>?_)
 refine ak (λh5=>aT h5 (bads (by simp[bad] at h5 ⊢;exact .inl (.inr h5)))) (λh5=>?_)
 refine ak (λh6=>bads (by simp[bad] at h6 ⊢;exact .inr h6)) (λh6=>good (by simp[bad] at h4 h5 h6 ⊢;exact⟨⟨h4,h5⟩,h6⟩))
theorem rY {D:Nat->Prop}{H:aa}{p dp:Nat}{d:Dk}{g:rW}{f:Fr}{cs:Array Value}{K:Int->aa->Prop}(hg:Gl H)(hd:bN D H dp d)(hp:ag H p Al cs)(hp0:cs[0]?=some (bX dp))
  (hf:de H g f) (hb:f.b.length<=504) (hfD:∀b,g.fp b->¬D b) (hlogs:d.bf<68719476736)
  (hK0:(d.write f.name f.ab f.fh).2≠0->∀D' H',bN D' H' dp (d.write f.name f.ab f.fh).1->Step D D' H H'->K (d.write f.name f.ab f.fh).2 H')
  (hK1:(d.write f.name f.ab f.fh).2=0->∀D' H1 H2,bN D' H1 dp (d.write f.name f.ab f.fh).1->Step D D' H H1->de H2 g f.clean->Mod (λb=>b=g.p) H1 H2->H2.size=H1.size->K 0 H2):
  Co.sp (aD p) (aD g.p) H K:=by
 refine Co.of ?_
 unfold Co.vc
 simp only[aq,add_add,Nat.reduceAdd]
 refine hf.row.ld (c:=af .u8) (i:=2) (x:=(f.kind.toNat:Int)) rfl ?_
 refine hf.row.ld (c:=ao) (i:=3) (x:=g.b) rfl ?_
 refine DN hg (jT hf.b) hb λr H1 o1 m1 f1=>ax rfl ?_
 have p1:ag H1 p Al cs:=hp.ext m1
 have hf1:de H1 g f:=hf.aA λb _ hl=>m1.same b hl id
 have hd1:bN D H1 dp d:=hd.aA λb _ hl=>m1.same b hl id
 refine p1.ld (c:=au) (i:=0) (x:=aD dp) hp0 ?_
 refine hf1.row.ld (c:=cX) (i:=0) (x:=f.name) rfl ?_
 refine hf1.row.ld (c:=af .i64) (i:=1) (x:=(f.ab:Int)) rfl ?_
 have hlt:=hd.lt
 refine Cs hd1 (jT o1) (λad ha hD=>?_) hlogs λD' H2 a2 S2=>?_
 ·have:=f1 ad.block ⟨ad,ha,rfl⟩
  have:=hlt _ hD;omega
 have S02:Step D D' H H2:=⟨⟨K4 m1.size S2.mod.size,λb hb hn=>(S2.mod.same b (by have:=m1.size;omega) hn).trans (m1.same b hb id)⟩,λb hb=>(S2.own b hb).imp id (λq=>K4 m1.size q)⟩
 have hf2:de H2 g f:=hf1.aA λb hb hl=>S2.mod.same b hl (hfD b hb)
 show br ((d.write f.name f.ab f.fh).2==0) _ _
 refine ak (λhz=>?_) (λhz=>?_)
 ·have hz':(d.write f.name f.ab f.fh).2=0:=by simpa using hz
  refine hf2.row.st (i:=4) (by decide:4<7) (by rfl) λH3 r3 m3 z3=>?_
  have:=hK1 hz' D' H2 H3 a2 S02 ⟨r3,hf2.b.aA λb hb hl=>m3.same b hl λe=>?_⟩ m3 z3
  ·show K (d.write f.name f.ab f.fh).2 H3
   rw[hz'];exact this
  ·obtain⟨c,q⟩:=hf2.b.obj b hb
   rw[e] at q
   exact absurd (aW hf2.row q) (by decide)
 ·have hz':(d.write f.name f.ab f.fh).2≠0:=by simpa using hz
  exact hK0 hz' D' H2 a2 S02
theorem DW {x:PG}{D:Nat->Prop}{H:aa}{p dp:Nat}{s:Pl}{i:Nat}{f:Fr}{g:rW}{K:Int->aa->Prop}(hg:Gl H)(h:bC x D H p dp s)(hz:x.zs[i]?=some (f,g))(hlogs:s.d.bf<68719476736)
  (hK0:(s.put i).2≠0->∀D' H',bC x D' H' p dp (s.put i).1->Step (λb=>D b\/x.all p b) (λb=>D' b\/x.all p b) H H'->K (s.put i).2 H')
  (hK1:(s.put i).2=0->∀D' H',bC {x with zs:=x.zs.set i (f.clean,g)} D' H' p dp (s.put i).1->Step (λb=>D b\/x.all p b) (λb=>D' b\/PG.all {x with zs:=x.zs.set i (f.clean,g)} p b) H H'->K 0 H'):
  Co.sp (aD p) (aD g.p) H K:=by
 have hzm:=Ki hz
 have hfs:s.fs[i]?=some f:=by rw[h.al.fs];simp[PG.fs,hz]
 have hfr:=Pl.iK hfs
 have hA:=h.al.ay.each _ hzm
 unfold Pl.put at hK0 hK1
 rw[hfr] at hK0 hK1
 refine rY (f:=f) (d:=s.d) hg h.gT h.al.head rfl hA (h.al.wf.room f (Ki hfs)) (λb hb hD=>h.apart b hD (.inr (.inr (.inr ⟨_,hzm,hb⟩)))) hlogs (λhne D' H' a S=>?_) (λhe D' H1 H2 a S hf2 m2 z2=>?_)
 ·rw[if_neg hne] at hK0
  obtain⟨q1,q2⟩:=h.se hg a S
  exact hK0 hne D' H' q1 q2
 ·rw[if_pos he] at hK1
  obtain⟨q1,q2⟩:=h.se hg a S
  have hg1:Gl H1:=h.gl hg q2.mod
  have hfp:∀b,g.fp b->x.all p b:=λb hb=>.inr (.inr (.inr ⟨_,hzm,hb⟩))
  obtain⟨t1,t2⟩:=q1.al.ay.dB (H':=H2) (z':=(f.clean,g)) hz rfl rfl rfl rfl hf2 (λb _ hn hl=>m2.same b hl λe=>hn (e▸.inl rfl)) (λb hb=>.inl hb)
  have hp2:bk {x with zs:=x.zs.set i (f.clean,g)} H2 p dp ((s.cT (s.d.write f.name f.ab f.fh).1).dB i Fr.clean):=by
   refine⟨m2.at q1.al.head λe=>bk.off q1.al.head q1.al.ay (e▸.inr (.inr ⟨_,hzm,.inl rfl⟩)),t1,?_,?_⟩
   ·show s.fs.modify i Fr.clean=(x.zs.set i (f.clean,g)).map (·.1)
    rw[bY hfs,h.al.fs]
    simp[PG.fs,Nt]
   ·exact(h.al.wf.cT _).dB hfs rfl rfl rfl (h.al.wf.room f (Ki hfs))
  obtain⟨u1,u2⟩:=q1.sA hg1 hp2 rfl (m2.mono λb _ e=>hfp b (.inl e)) t2
  exact hK1 rfl D' H2 u1 (q2.trans u2)
theorem aN.ptr {H:aa}{x:PG}(h:aN H x){z z':FZ}(hz:z∈x.zs)(hz':z'∈x.zs)(e:z.2.p=z'.2.p):z=z':=by
 obtain⟨i,hi⟩:=Ko.1 hz
 obtain⟨j,hj⟩:=Ko.1 hz'
 by_cases hij:i=j
 ·subst hij;rw[hi] at hj;exact Kq hj
 ·exact absurd (.inl e) (h.apart i j z z' hi hj hij z.2.p (.inl rfl))
theorem aN.entry {H:aa}{x:PG}(h:aN H x){e:MapEntry}(he:e∈x.ef.toList):∃z∈x.zs,e.key=iM z.1.name (z.1.ab:Int)/\e.val=bX z.2.p:=by
 have:=(h.entF e.key e.val).1 ⟨e,he,rfl,rfl⟩
 obtain⟨z,hz,q⟩:=Kz.1 this
 simp only[LK] at q
 exact⟨z,hz,q.1.symm,q.2.symm⟩
theorem aN.yf {H:aa}{x:PG}(h:aN H x){z:FZ}(hz:z∈x.zs):∃e∈x.ef.toList,e.key=iM z.1.name (z.1.ab:Int)/\e.val=bX z.2.p:=by
 obtain⟨e,he,h1,h2⟩:=(h.entF _ _).2 (Kz.2 ⟨z,hz,rfl⟩)
 exact⟨e,he,h1,h2⟩
def Ip (x:PG)(l:List MapEntry)(b:Option Addr):Prop:=
 match b with
 |none=>∀e∈l,∀z∈x.zs,e.val=bX z.2.p->z.1.pins≠[]
 |some a=>∃z∈x.zs,a=⟨z.2.p,0,none⟩/\z.1.pins=[]/\∀e∈l,∀z'∈x.zs,e.val=bX z'.2.p->z'.1.pins=[]->z.1.left<=z'.1.left
theorem lR:∃(et:TypeId) (inf:TypeInfo),Kf.underlying wD=some (.map uF et)/\Kf.info? et=some inf/\inf.zero=some (.pointer none):=by
 obtain⟨D,hD⟩:=Option.isSome_iff_exists.1 (by kernel_rfl:(Kf.underlying uF).isSome=true)
 obtain⟨et,inf,h1,_,h3,h4⟩:=qh (P:=Kf) (t:=wD) (kt:=uF) (by kernel_rfl) hD
 exact⟨et,inf,h1,h3,h4⟩
theorem BA {x:PG}{H:aa}{p dp:Nat}{s:Pl}{K:Option Addr->aa->Prop}(h:bk x H p dp s)(hN:s.j6=none->∀H',Ext H H'->K none H')
  (hS:∀i f g,s.j6=some i->x.zs[i]?=some (f,g)->∀H',Ext H H'->K (aD g.p) H'):Fv.sp (aD p) H K:=by
 refine Fv.of ?_
 unfold Fv.vc
 simp only[aq]
 refine h.head.ld (c:=cO) (i:=2) (x:=some x.mf) rfl ?_
 obtain⟨et,inf,hu,_⟩:=lR
 have hF:=h.ay
 refine qy hu hF.fmap λH1 hit e1=>?_
 have hsz:=aG hit
 have hF1:aN H1 x:=hF.aA λb _ hl=>e1.same b hl id
 refine qJ (it:=H.size) (λl b A=>Ip x l b/\Mod (λk=>k=H.size) H1 A) hF1.fmap hit ⟨(by intro e he;cases he),.refl _ _⟩ (λl b A A' q m _=>⟨q.1,q.2.trans m⟩) ?_ ?_
 ·rintro l e b A next ⟨hI,hM⟩ he _ _ _ _ _ hnext
  obtain⟨z,hz,_,hv⟩:=hF.entry he
  have hA:aN A x:=hF1.aA λc hc hl=>hM.same c hl λq=>by have:=hF.lt c hc;omega
  have hz1:=hA.each z hz
  refine⟨aD z.2.p,by rw[hv];rfl,?_⟩
  refine EA.of ?_
  unfold EA.vc
  simp only[aq]
  refine hz1.row.ld (c:=af .i64) (i:=5) (x:=(z.1.pins.length:Int)) rfl ?_
  have same:∀z'∈x.zs,e.val=bX z'.2.p->z'=z:=λz' hz' hv'=>hF.ptr hz' hz (by rw[hv] at hv';exact(CP hv').symm)
  refine ak (λhp=>?_) (λhp=>?_)
  ·have hp0:z.1.pins=[]:=by
    have:(z.1.pins.length:Int)=0:=by simpa using hp
    exact List.eq_nil_of_length_eq_zero (by omega)
   cases b with
   |none=>
     refine aT rfl (hnext _ _ ⟨⟨z,hz,rfl,hp0,?_⟩,hM⟩ rfl rfl)
     intro e' he' z' hz' hv' hp'
     rcases Kk.1 he' with q|q
     ·exact absurd hp' (hI e' q z' hz' hv')
     ·simp at q;subst q;rw[same z' hz' hv'];exact Od _
   |some a=>
     obtain⟨y,hy,rfl,hyp,hyl⟩:=hI
     have hy1:=hA.each y hy
     refine ax rfl ?_
     refine EL.of ?_
     unfold EL.vc
     simp only[aq]
     refine hz1.row.ld (c:=af .i64) (i:=6) (x:=z.1.left) rfl ?_
     refine hy1.row.ld (c:=af .i64) (i:=6) (x:=y.1.left) rfl ?_
     refine ak (λhlt=>?_) (λhlt=>?_)
     ·have hlt:z.1.left<y.1.left:=by simpa using hlt
      refine hnext _ _ ⟨⟨z,hz,rfl,hp0,?_⟩,hM⟩ rfl rfl
      intro e' he' z' hz' hv' hp'
      rcases Kk.1 he' with q|q
      ·have:=hyl e' q z' hz' hv' hp';omega
      ·simp at q;subst q;rw[same z' hz' hv'];exact Od _
     ·have hlt:¬z.1.left<y.1.left:=by simpa using hlt
      refine hnext _ _ ⟨⟨y,hy,rfl,hyp,?_⟩,hM⟩ rfl rfl
      intro e' he' z' hz' hv' hp'
      rcases Kk.1 he' with q|q
      ·exact hyl e' q z' hz' hv' hp'
      ·simp at q;subst q;rw[same z' hz' hv'];omega
  ·have hp0:z.1.pins≠[]:=by
    intro q;rw[q] at hp;simp at hp
   refine hnext _ _ ⟨?_,hM⟩ rfl rfl
   cases b with
   |none=>
     intro e' he' z' hz' hv'
     rcases Kk.1 he' with q|q
     ·exact hI e' q z' hz' hv'
     ·simp at q;subst q;rw[same z' hz' hv'];exact hp0
   |some a=>
     obtain⟨y,hy,rfl,hyp,hyl⟩:=hI
     refine⟨y,hy,rfl,hyp,?_⟩
     intro e' he' z' hz' hv' hp'
     rcases Kk.1 he' with q|q
     ·exact hyl e' q z' hz' hv' hp'
     ·simp at q;subst q;rw[same z' hz' hv'] at hp';exact absurd hp' hp0
 ·rintro l b A ⟨hI,hM⟩ hperm _
  have hE:Ext H A:=⟨by have:=e1.size;have:=hM.size;omega,λc hc _=>(hM.same c (by omega) (by omega)).trans (e1.same c hc id)⟩
  cases b with
  |none=>
    refine hN ?_ A hE
    cases hb:s.j6 with
    |none=>rfl
    |some i=>
      obtain⟨f,hf,hp,_⟩:=Pl.iH hb
      obtain⟨g,hg,_⟩:=h.at hf
      have hzm:=Ki hg
      obtain⟨e,he,_,hv⟩:=hF.yf hzm
      exact absurd hp (hI e (hperm.mem_iff.2 he) _ hzm hv)
  |some a=>
    obtain⟨z,hz,rfl,hp,hl⟩:=hI
    obtain⟨i,hi⟩:=Ko.1 hz
    have hfs:s.fs[i]?=some z.1:=by rw[h.fs];simp[PG.fs,hi]
    refine hS i z.1 z.2 (Pl.ED h.wf hfs hp λf' hf' hp'=>?_) hi A hE
    obtain⟨j,hj⟩:=Ko.1 hf'
    obtain⟨g',hg',_⟩:=h.at hj
    have hzm:=Ki hg'
    obtain⟨e,he,_,hv⟩:=hF.yf hzm
    exact hl e (hperm.mem_iff.2 he) _ hzm hv hp'
theorem nD {α β:Type}(u:α->β):∀(l:List α) (i:Nat),(l.eraseIdx i).map u=(l.map u).eraseIdx i
 |[],i=>by simp
 |a::l,0=>by simp
 |a::l,i+1=>by simp[nD u l i]
theorem de.yi {H:aa}{g:rW}{f:Fr}{K:(ByteArray×Int)->Prop}(h:de H g f)(hK:K (f.name,(f.ab:Int))):jq (fQ [cX,(af .i64)]) 2 H (K0 ⟨g.p,0,none⟩ 0) K:=by
 refine⟨(f.name,(f.ab:Int)),?_,hK⟩
 refine ag.kL (o:=0) (ds:=#[.string f.name,.int .i64 (f.ab:Int)]) h.row rfl λi hi=>?_
 have:i=0\/i=1:=by omega
 rcases this with rfl|rfl<;>rfl
theorem bk.IK {x:PG}{H:aa}{p dp:Nat}{s:Pl}{K:Nat->Prop}(h:bk x H p dp s)(hK:K s.fs.length):zz H (some x.mf) K:=
 ⟨s.fs.length,⟨x.ef,x.cf,h.ay.fmap.obj,h.n⟩,hK⟩
theorem Pl.WF.key {s:Pl}(h:s.WF){i:Nat}{f:Fr}(hf:s.fs[i]?=some f):tU Kf uF (iM f.name (f.ab:Int)):=by
 have:=h.aB f (Ki hf)
 exact mW this.2 (by omega) (by omega)
theorem xi {x:PG}{D:Nat->Prop}{H:aa}{p dp:Nat}{s:Pl}{i:Nat}{f:Fr}{g:rW}{ty:TypeId}{K:Value->aa->Prop}(hg:Gl H)(h:bC x D H p dp s)(hz:x.zs[i]?=some (f,g))(hp:f.pins=[])
  (hK:∀ef' v H',bC {x with zs:=x.zs.eraseIdx i,ef:=ef'} D H' p dp (s.drop i)->Step (λb=>D b\/x.all p b) (λb=>D b\/PG.all {x with zs:=x.zs.eraseIdx i,ef:=ef'} p b) H H'->Mod (λb=>b=x.mf) H H'->K v H'):
  bo iz Kf (LJ #[wD,uF] ty #[(.map (some x.mf)),(.agg #[(.string f.name),(.int .i64 (f.ab:Int))])]) H K:=by
 have hfs:s.fs[i]?=some f:=by rw[h.al.fs];simp[PG.fs,hz]
 obtain⟨et,inf,hu,_⟩:=lR
 have hkey:=h.al.wf.key hfs
 refine vB (k:=iM f.name (f.ab:Int)) hu tz h.al.ay.fmap hkey λef' H' m' it sz mo z'=>?_
 have hF:=h.al.ay.erase hz hp (by have:=h.al.wf.keys;rw[h.al.fs] at this;exact this) m' it sz (λb _ hne hl=>mo.same b hl hne)
 have hpm:p≠x.mf:=λe=>bk.off h.al.head h.al.ay (.inl e)
 have hp':bk {x with zs:=x.zs.eraseIdx i,ef:=ef'} H' p dp (s.drop i):=by
  refine⟨mo.at h.al.head hpm,hF,?_,h.al.wf.drop i⟩
  show s.fs.eraseIdx i=(x.zs.eraseIdx i).map (·.1)
  rw[h.al.fs,nD];rfl
 obtain⟨q1,q2⟩:=h.sA hg hp' rfl (mo.mono λb _ e=>.inr (.inl e)) (by
  rintro b (e|e|⟨z,hz',hb⟩)
  ·exact .inl (.inl e)
  ·exact .inl (.inr (.inl e))
  ·exact .inl (.inr (.inr ⟨z,LS hz',hb⟩)))
 exact hK ef' _ H' q1 q2 mo
theorem yz {x:PG}{D:Nat->Prop}{H:aa}{p dp:Nat}{s:Pl}{K:Int->aa->Prop}(hg:Gl H)(h:bC x D H p dp s)(hlogs:s.d.bf<68719476736)
  (hK:∀x' D' H',bC x' D' H' p dp s.room.1->Step (λb=>D b\/x.all p b) (λb=>D' b\/x'.all p b) H H'->K s.room.2 H'):EF.sp (aD p) H K:=by
 refine EF.of ?_
 unfold EF.vc
 simp only[aq]
 refine h.al.head.ld (c:=cO) (i:=2) (x:=some x.mf) rfl ?_
 refine h.al.IK ?_
 refine h.al.head.ld (c:=af .i64) (i:=1) (x:=(s.most:Int)) rfl ?_
 refine ak (λhc=>?_) (λhc=>?_)
 ·have e:s.room=(s,0):=by unfold Pl.room;rw[if_pos (by simpa using hc)]
  rw[e] at hK
  exact hK x D H h (.refl _ _)
 have hlen:¬s.fs.length<s.most:=by simpa using hc
 refine BA h.al (λhN H1 e1=>?_) (λi f g hb hz H1 e1=>?_)
 ·have e:s.room=(s,31):=by unfold Pl.room;rw[if_neg hlen,hN]
  rw[e] at hK
  refine aT rfl (hK x D H1 ⟨h.al.aA λb _ hl=>e1.same b hl id,h.gT.aA λb _ hl=>e1.same b hl id,h.apart,h.du⟩ ⟨Ext.mod e1,λb q=>.inl q⟩)
 ·have h1:bC x D H1 p dp s:=⟨h.al.aA λb _ hl=>e1.same b hl id,h.gT.aA λb _ hl=>e1.same b hl id,h.apart,h.du⟩
  have S1:Step (λb=>D b\/x.all p b) (λb=>D b\/x.all p b) H H1:=⟨Ext.mod e1,λb q=>.inl q⟩
  have hg1:Gl H1:=hg.mod e1 id
  have hzm:=Ki hz
  have hfs:s.fs[i]?=some f:=by rw[h.al.fs];simp[PG.fs,hz]
  have hfr:=Pl.iK hfs
  obtain⟨f0,hf0,hp0,_⟩:=Pl.iH hb
  rw[hfs] at hf0;cases hf0
  have hA:=h1.al.ay.each _ hzm
  refine ax rfl ?_
  simp only[aq]
  refine hA.row.ld (c:=aw) (i:=4) (x:=f.dirty) rfl ?_
  have er:s.room=(if f.dirty then (if (s.put i).2=0 then ((s.put i).1.drop i,0) else s.put i) else (s.drop i,0)):=by
   unfold Pl.room;rw[if_neg hlen,hb];simp only[hfr]
  cases hd:f.dirty with
  |true=>
    rw[hd,if_pos rfl] at er
    refine aT rfl ?_
    refine DW hg1 h1 hz hlogs (λhne D' H2 h2 S2=>?_) (λhe D' H2 h2 S2=>?_)
    ·rw[if_neg hne] at er
     rw[er] at hK
     exact aT (by simpa using hne) (hK x D' H2 h2 (S1.trans S2))
    ·rw[if_pos he] at er
     rw[er] at hK
     refine ax rfl ?_
     have hil:=(Kj.1 hz).1
     have hz2:(x.zs.set i (f.clean,g))[i]?=some (f.clean,g):=by simp[hil]
     have hA2:=h2.al.ay.each _ (Ki hz2)
     refine h2.al.head.ld (c:=cO) (i:=2) (x:=some x.mf) rfl ?_
     refine de.yi hA2 ?_
     have hg2:Gl H2:=h1.gl hg1 S2.mod
     refine xi (x:={x with zs:=x.zs.set i (f.clean,g)}) hg2 h2 hz2 hp0 λef' v H3 h3 S3 _=>?_
     exact hK _ D' H3 h3 ((S1.trans S2).trans S3)
  |false=>
    rw[hd,if_neg (by simp)] at er
    rw[er] at hK
    refine ax rfl ?_
    refine h1.al.head.ld (c:=cO) (i:=2) (x:=some x.mf) rfl ?_
    refine de.yi hA ?_
    refine xi hg1 h1 hz hp0 λef' v H3 h3 S3 _=>?_
    exact hK _ D H3 h3 (S1.trans S3)
theorem oI:AV Kf HF dA (.int .i64):=qh (by kernel_rfl) (by kernel_rfl)
theorem uf {h:Int}:∀(zs:List FZ) (i:Nat) (f:Fr) (g:rW),zs[i]?=some (f,g)->∀k v,(k,v)∈tN (zs.set i (Fr.bR h f,g))↔(k,v)∈tN zs\/(k=.int .i64 h/\v=bX g.p)
 |[],i,f,g,e,k,v=>by simp at e
 |a::l,0,f,g,e,k,v=>by
   simp at e;subst e
   simp only[List.set_cons_zero,tN,K6,Kk,Ig,Fr.bR,KX,Ln,NM,Lc,LK]
   constructor
   ·rintro((q|q)|q)
    ·exact .inl (.inl q)
    ·exact .inr q
    ·exact .inl (.inr q)
   ·rintro((q|q)|q)
    ·exact .inl (.inl q)
    ·exact .inr q
    ·exact .inl (.inr q)
 |a::l,i+1,f,g,e,k,v=>by
   have ih:=uf (h:=h) l i f g (by simpa using e) k v
   simp only[List.set_cons_succ,tN,K6,Kk] at ih ⊢
   rw[ih,or_assoc]
theorem CQ {x:PG}{D:Nat->Prop}{H:aa}{p dp:Nat}{s:Pl}{i:Nat}{f:Fr}{g:rW}{K:Int->aa->Prop}(hg:Gl H)(h:bC x D H p dp s)(hz:x.zs[i]?=some (f,g))(hn:s.next<9223372036854775807)
  (hwf:(s.jI i).WF) (hpl:(f.pins.length:Int)<9223372036854775807)
  (hK:∀x' H',bC x' D H' p dp (s.jI i)->Step (λb=>D b\/x.all p b) (λb=>D b\/x'.all p b) H H'->K s.next H'):BV.sp (aD p) (aD g.p) H K:=by
 refine BV.of ?_
 unfold BV.vc
 simp only[aq]
 have hzm:=Ki hz
 have hfs:s.fs[i]?=some f:=by rw[h.al.fs];simp[PG.fs,hz]
 have hA:=h.al.ay.each _ hzm
 refine hA.row.ld (c:=af .i64) (i:=5) (x:=(f.pins.length:Int)) rfl ?_
 refine hA.row.st (i:=5) (by decide:5<7) (by rfl) λH1 r1 m1 z1=>?_
 have hpg:p≠g.p:=λe=>bk.off h.al.head h.al.ay (e▸.inr (.inr ⟨_,hzm,.inl rfl⟩))
 have hd1:ag H1 p Al (lM dp x s):=m1.at h.al.head hpg
 refine hd1.ld (c:=cO) (i:=3) (x:=some x.mh) rfl ?_
 refine hd1.ld (c:=af .i64) (i:=4) (x:=s.next) rfl ?_
 obtain⟨et,inf,hu,hd,hi',hzz⟩:=oI
 have hoff:=h.al.ay.off hzm
 have hgm:g.p≠x.mh:=λe=>hoff.2 (.inl e.symm)
 have hh1:dq (.int .i64) H1 x.mh x.eh x.ch:=h.al.ay.hmap.aA (m1.same _ h.al.ay.hmap.lt (λe=>hgm e.symm))
 have hno:∀u,¬dJ x.eh (.int .i64 s.next) u:=by
  intro u hu'
  have:=(h.al.ay.entH _ _).1 hu'
  obtain⟨z,hz',hk⟩:=LP.1 this
  obtain⟨q,hq,e⟩:=Kz.1 hk
  simp only[LK,N9,true_and] at e
  have hzf:z.1∈s.fs:=by rw[h.al.fs];exact Kz.2 ⟨z,hz',rfl⟩
  have:=(h.al.wf.old _ hzf _ hq).2
  omega
 refine lC hu hd hh1 (k:=.int .i64 s.next) (show Ke=Ke from rfl) hno λH2 hm2 m2 z2=>?_
 have hpm:p≠x.mh:=λe=>bk.off h.al.head h.al.ay (.inr (.inl e))
 have hd2:ag H2 p Al (lM dp x s):=m2.at hd1 hpm
 refine hd2.ld (c:=af .i64) (i:=4) (x:=s.next) rfl ?_
 refine hd2.st (i:=4) (by decide:4<8) (by rfl) λH3 r3 m3 z3=>?_
 refine r3.ld (c:=af .i64) (i:=4) (x:=ff (s.next+1)) rfl ?_
 have ht:=h.al.wf.tick
 have hw:ff (s.next+1)=s.next+1:=by unfold ff;exact wrap64 (by omega) (by omega)
 have er:Ke.wrap (ff (s.next+1) - 1)=s.next:=by
  have e1:ff (s.next+1) - 1=s.next:=by omega
  rw[e1];exact wrap64 (by omega) (by omega)
 rw[er]
 have hm13:Mod (λb=>b=g.p\/b=x.mh\/b=p) H H3:=((m1.mono λb _ e=>.inl e).trans (m2.mono λb _ e=>.inr (.inl e))).trans (m3.mono λb _ e=>.inr (.inr e))
 have ew:Ke.wrap ((f.pins.length:Int)+1)=(((Fr.bR s.next f).pins.length:Nat):Int):=by
  rw[wrap64 (by omega) (by omega)];simp[Fr.bR]
 have hq:de H3 g (Fr.bR s.next f):=by
  refine⟨?_,hA.b.aA λb hb hl=>hm13.same b hl ?_⟩
  ·have:=m3.at (m2.at r1 hgm) (λe=>hpg e.symm)
   rw[ew] at this
   exact this
  ·obtain⟨c,q⟩:=hA.b.obj b hb
   rintro(e|e|e)
   ·rw[e] at q;exact absurd (aW hA.row q) (by decide)
   ·rw[e,h.al.ay.hmap.obj] at q;cases q
   ·rw[e] at q;exact absurd (aW h.al.head q) (by decide)
 have hF:=h.al.ay.set (H':=H3) (z':=(Fr.bR s.next f,g)) hz rfl rfl rfl hq (hm2.aA (m3.same _ hm2.lt (λe=>hpm e.symm))) (λk v=>by
  rw[gC,h.al.ay.entH,uf x.zs i f g hz]
  exact Pe) (λb hb hn1 hn2 hl=>hm13.same b hl (by
   rintro(e|e|e)
   ·exact hn1 (.inl e)
   ·exact hn2 e
   ·exact bk.off h.al.head h.al.ay (e▸hb))) (λb hb=>.inl hb)
 have hp3:bk {x with zs:=x.zs.set i (Fr.bR s.next f,g),eh:=x.eh.push {key:=.int .i64 s.next,val:=bX g.p,born:=x.ch},ch:=x.ch+1} H3 p dp (s.jI i):=by
  refine⟨r3,hF.1,?_,hwf⟩
  show s.fs.modify i (Fr.bR s.next)=(x.zs.set i (Fr.bR s.next f,g)).map (·.1)
  rw[bY hfs,h.al.fs]
  simp[PG.fs,Nt]
 obtain⟨q1,q2⟩:=h.sA hg hp3 rfl (hm13.mono λb _ e=>by
  rcases e with e|e|e
  ·exact .inr (.inr (.inr ⟨_,hzm,.inl e⟩))
  ·exact .inr (.inr (.inl e))
  ·exact .inl e) hF.2
 exact hK _ H3 q1 q2
structure Bv (x:PG)(D:Nat->Prop)(H:aa)(p:Nat)(g:rW)(f:Fr):Prop where
 fr:de H g f
 off:∀b,g.fp b->¬D b/\¬x.all p b/\b≠ft
theorem ym {x:PG}{D:Nat->Prop}{H:aa}{p dp:Nat}{s:Pl}{f:Fr}{g:rW}{K:Int->aa->Prop}(hg:Gl H)(h:bC x D H p dp s)(hN:Bv x D H p g f)
  (hl:s.fs.length<s.most) (hn:s.next<9223372036854775807) (hk:s.find f.name f.ab=none) (hb:f.b.length<=504) (hpg:f.ab<1048577) (hnm:f.name.size<=9223372036854775807) (hp:f.pins=[]) (hlf:f.left=0)
  (hK:∀x' H',bC x' D H' p dp (s.take f)->Step (λb=>(D b\/x.all p b)\/g.fp b) (λb=>D b\/x'.all p b) H H'->K s.next H'):zr.sp (aD p) (aD g.p) H K:=by
 refine zr.of ?_
 unfold zr.vc
 simp only[aq]
 have hw:=h.al.wf.take hl hn hk hb hpg hnm hp hlf
 have hlen:=h.al.wf.len
 have hmost:=h.al.wf.most
 refine h.al.head.ld (c:=cO) (i:=2) (x:=some x.mf) rfl ?_
 refine de.yi hN.fr ?_
 obtain⟨et,inf,hu,_⟩:=lR
 have hno:∀u,¬dJ x.ef (iM f.name (f.ab:Int)) u:=by
  intro u hu'
  obtain⟨z,hz,e⟩:=Kz.1 ((h.al.ay.entF _ _).1 hu')
  simp only[LK] at e
  have:=lW e.1
  have hzf:z.1∈s.fs:=by rw[h.al.fs];exact Kz.2 ⟨z,hz,rfl⟩
  exact Pl.kC hk _ hzf this.1 this.2
 refine vL (k:=iM f.name (f.ab:Int)) hu tz h.al.ay.fmap (mW hnm (by omega) (by omega)) hno λH1 fm1 m1 z1=>?_
 have hpm:p≠x.mf:=λe=>bk.off h.al.head h.al.ay (.inl e)
 have hd1:ag H1 p Al (lM dp x s):=m1.at h.al.head hpm
 refine hd1.ld (c:=af .i64) (i:=6) (x:=(s.peak:Int)) rfl ?_
 refine hd1.ld (c:=cO) (i:=2) (x:=some x.mf) rfl ?_
 have hsz:=h.al.n
 refine⟨s.fs.length+1,⟨_,_,fm1.obj,by simp[hsz]⟩,?_⟩
 have ep:(if ((s.fs.length+1:Nat):Int)>(s.peak:Int) then ((s.fs.length+1:Nat):Int) else (s.peak:Int))=((max s.peak (s.fs.length+1):Nat):Int):=by
  split<;>omega
 simp only[ep]
 refine hd1.st (i:=6) (by decide:6<8) (by rfl) λH2 r2 m2 z2=>?_
 have hgoff:=hN.off
 have hm12:Mod (λb=>b=x.mf\/b=p) H H2:=(m1.mono λb _ e=>.inl e).trans (m2.mono λb _ e=>.inr e)
 have hq2:de H2 g f:=hN.fr.aA λb hb hl=>hm12.same b hl (by
  rintro(e|e)
  ·exact(hgoff b hb).2.1 (.inr (.inl e))
  ·exact(hgoff b hb).2.1 (.inl e))
 -- the frame is pushed
 obtain⟨ef',hef⟩:∃e:Array MapEntry,e=x.ef.push {key:=iM f.name (f.ab:Int),val:=bX g.p,born:=x.cf}:=⟨_,rfl⟩
 have hapart:∀(i:Nat) (z:FZ),x.zs[i]?=some z->∀b,z.2.fp b->¬g.fp b:=λi z hz b hb hgb=>(hgoff b hgb).2.1 (.inr (.inr (.inr ⟨z,Ki hz,hb⟩)))
 have hF:aN H2 {x with zs:=x.zs++[(f,g)],ef:=ef',cf:=x.cf+1}:=by
  have F0:=h.al.ay
  have hpo:=bk.off h.al.head h.al.ay
  have old:∀u∈x.zs,de H2 u.2 u.1:=λu hu=>(F0.each u hu).aA λb hb hl=>hm12.same b hl (by
   rintro(e|e)
   ·exact(F0.off hu).1 (e▸hb)
   ·exact hpo (e▸.inr (.inr ⟨u,hu,hb⟩)))
  refine⟨?_,F0.hmap.aA (hm12.same _ F0.hmap.lt (by
   rintro(e|e)
   ·exact F0.ne e.symm
   ·exact hpo (e▸.inr (.inl rfl)))),F0.ne,by rw[hef];simp[F0.size],?_,?_,?_,?_⟩
  ·have:=fm1.mod m2 (λe=>hpm e.symm)
   rw[hef];exact this
  ·intro k v
   rw[xW,Kk,hef,gC,F0.entF k v]
   simp[xH]
  ·intro k v
   rw[wN,F0.entH k v]
   simp[tN,yu (z:=(f,g)) hp]
  ·intro u hu
   rcases Kk.1 hu with q|q
   ·exact old u q
   ·simp at q;subst q;exact hq2
  ·intro i j u v h1 h2 hij b hb1 hb2
   have ex:∀(i:Nat) (u:FZ),(x.zs++[(f,g)])[i]?=some u->(x.zs[i]?=some u)\/(i=x.zs.length/\u=(f,g)):=by
    intro i u h1
    by_cases hi:i<x.zs.length
    ·rw[KT hi] at h1;exact .inl h1
    ·rw[Lf (by omega)] at h1
     have:i=x.zs.length:=by
      have:=(Kj.1 h1).1;simp at this;omega
     subst this
     simp at h1
     exact .inr ⟨rfl,h1.symm⟩
   rcases ex i u h1 with q1|⟨e1,rfl⟩<;>rcases ex j v h2 with q2|⟨e2,rfl⟩
   ·exact F0.apart i j u v q1 q2 hij b hb1 hb2
   ·exact hapart i u q1 b hb1 hb2
   ·exact hapart j v q2 b hb2 hb1
   ·omega
 -- what holds in between
 have hw2:(s.add f).fs.length<=s.most:=by simp[Pl.add];omega
 have hp2:ag H2 p Al (lM dp {x with zs:=x.zs++[(f,g)],ef:=ef',cf:=x.cf+1} (s.add f)):=r2
 have hz:(x.zs++[(f,g)])[x.zs.length]?=some (f,g):=by simp
 have hxl:x.zs.length=s.fs.length:=by rw[h.al.fs];simp[PG.fs]
 -- the pin, over the blocks themselves
 refine BV.of ?_
 unfold BV.vc
 simp only[aq]
 have hzm:((f,g):FZ)∈x.zs++[(f,g)]:=by simp
 refine hq2.row.ld (c:=af .i64) (i:=5) (x:=(f.pins.length:Int)) rfl ?_
 refine hq2.row.st (i:=5) (by decide:5<7) (by rfl) λH3 r3 m3 z3=>?_
 have hpg':p≠g.p:=λe=>(hgoff g.p (.inl rfl)).2.1 (.inl e.symm)
 have hd3:ag H3 p Al (lM dp {x with zs:=x.zs++[(f,g)],ef:=ef',cf:=x.cf+1} (s.add f)):=m3.at hp2 hpg'
 refine hd3.ld (c:=cO) (i:=3) (x:=some x.mh) rfl ?_
 refine hd3.ld (c:=af .i64) (i:=4) (x:=s.next) rfl ?_
 obtain⟨et',inf',hu',hd',_,_⟩:=oI
 have hgm:g.p≠x.mh:=λe=>(hgoff g.p (.inl rfl)).2.1 (.inr (.inr (.inl e)))
 have hh3:dq (.int .i64) H3 x.mh x.eh x.ch:=hF.hmap.aA (m3.same _ hF.hmap.lt (λe=>hgm e.symm))
 have hno':∀u,¬dJ x.eh (.int .i64 s.next) u:=by
  intro u hu'
  have:=(h.al.ay.entH _ _).1 hu'
  obtain⟨z,hz',hk⟩:=LP.1 this
  obtain⟨q,hq,e⟩:=Kz.1 hk
  simp only[LK,N9,true_and] at e
  have hzf:z.1∈s.fs:=by rw[h.al.fs];exact Kz.2 ⟨z,hz',rfl⟩
  have:=(h.al.wf.old _ hzf _ hq).2
  omega
 refine lC hu' hd' hh3 (k:=.int .i64 s.next) (show Ke=Ke from rfl) hno' λH4 hm4 m4 z4=>?_
 have hpmh:p≠x.mh:=λe=>bk.off h.al.head h.al.ay (.inr (.inl e))
 have hd4:ag H4 p Al (lM dp {x with zs:=x.zs++[(f,g)],ef:=ef',cf:=x.cf+1} (s.add f)):=m4.at hd3 hpmh
 refine hd4.ld (c:=af .i64) (i:=4) (x:=s.next) rfl ?_
 refine hd4.st (i:=4) (by decide:4<8) (by rfl) λH5 r5 m5 z5=>?_
 refine r5.ld (c:=af .i64) (i:=4) (x:=ff (s.next+1)) rfl ?_
 have ht:=h.al.wf.tick
 have hww:ff (s.next+1)=s.next+1:=by unfold ff;exact wrap64 (by omega) (by omega)
 have er:Ke.wrap (ff (s.next+1) - 1)=s.next:=by
  have e1:ff (s.next+1) - 1=s.next:=by omega
  rw[e1];exact wrap64 (by omega) (by omega)
 rw[er]
 have hm35:Mod (λb=>b=g.p\/b=x.mh\/b=p) H2 H5:=((m3.mono λb _ e=>.inl e).trans (m4.mono λb _ e=>.inr (.inl e))).trans (m5.mono λb _ e=>.inr (.inr e))
 have hq:de H5 g (Fr.bR s.next f):=by
  refine⟨?_,hq2.b.aA λb hb hl=>hm35.same b hl ?_⟩
  ·have:=m5.at (m4.at r3 hgm) (λe=>hpg' e.symm)
   have e0:Ke.wrap (((f.pins.length:Nat):Int)+1)=(((Fr.bR s.next f).pins.length:Nat):Int):=by
    rw[hp];simp[Fr.bR,hp];rfl
   rw[e0] at this
   exact this
  ·obtain⟨c,q⟩:=hq2.b.obj b hb
   rintro(e|e|e)
   ·rw[e] at q;exact absurd (aW hq2.row q) (by decide)
   ·rw[e,hF.hmap.obj] at q;cases q
   ·rw[e] at q;exact absurd (aW hp2 q) (by decide)
 have hF5:=hF.set (H':=H5) (z':=(Fr.bR s.next f,g)) hz rfl rfl rfl hq (hm4.aA (m5.same _ hm4.lt (λe=>hpmh e.symm))) (λk v=>by
  rw[gC,hF.entH,uf _ x.zs.length f g hz]
  exact Pe) (λb hb hn1 hn2 hl=>hm35.same b hl (by
   rintro(e|e|e)
   ·exact hn1 (.inl e)
   ·exact hn2 e
   ·exact bk.off hp2 hF (e▸hb))) (λb hb=>.inl hb)
 have hfin:bk {x with zs:=(x.zs++[(f,g)]).set x.zs.length (Fr.bR s.next f,g),ef:=ef',cf:=x.cf+1,eh:=x.eh.push {key:=.int .i64 s.next,val:=bX g.p,born:=x.ch},ch:=x.ch+1} H5 p dp (s.take f):=by
  refine⟨r5,hF5.1,?_,hw⟩
  show (s.fs++[f]).modify s.fs.length (Fr.bR s.next)=((x.zs++[(f,g)]).set x.zs.length (Fr.bR s.next f,g)).map (·.1)
  rw[bY (a:=f) (by simp),h.al.fs]
  simp[PG.fs]
 have hm05:Mod (λb=>x.all p b\/g.fp b) H H5:=by
  refine(hm12.mono λb _ e=>?_).trans (hm35.mono λb _ e=>?_)
  ·rcases e with e|e
   ·exact .inl (.inr (.inl e))
   ·exact .inl (.inl e)
  ·rcases e with e|e|e
   ·exact .inr (.inl e)
   ·exact .inl (.inr (.inr (.inl e)))
   ·exact .inl (.inl e)
 have own:∀b,PG.all {x with zs:=(x.zs++[(f,g)]).set x.zs.length (Fr.bR s.next f,g),ef:=ef',cf:=x.cf+1,eh:=x.eh.push {key:=.int .i64 s.next,val:=bX g.p,born:=x.ch},ch:=x.ch+1} p b->x.all p b\/g.fp b:=by
  rintro b (e|e|e|⟨u,hu,hub⟩)
  ·exact .inl (.inl e)
  ·exact .inl (.inr (.inl e))
  ·exact .inl (.inr (.inr (.inl e)))
  ·rcases jR hu with ⟨j,_,hj⟩|rfl
   ·rcases Kk.1 (Ki hj) with q|q
    ·exact .inl (.inr (.inr (.inr ⟨u,q,hub⟩)))
    ·simp at q;subst q;exact .inr hub
   ·exact .inr hub
 refine hK _ H5 ⟨hfin,h.gT.aA λb hb hl=>hm05.same b hl ?_,?_,h.du.1,?_⟩ ⟨hm05.mono λb _ e=>e.imp .inr id,?_⟩
 ·rintro(e|e)
  ·exact h.apart b hb e
  ·exact(hgoff b e).1 hb
 ·intro b hb hx
  rcases own b hx with e|e
  ·exact h.apart b hb e
  ·exact(hgoff b e).1 hb
 ·intro hx
  rcases own _ hx with e|e
  ·exact h.du.2 e
  ·exact(hgoff _ e).2.2 rfl
 ·rintro b (e|e)
  ·exact .inl (.inl (.inl e))
  ·rcases own b e with q|q
   ·exact .inl (.inl (.inr q))
   ·exact .inl (.inr q)
end Go.Proofs.YtkehfflpbpdokaaGreatDoor
namespace Go.Proofs.YtkehfflpbpdokaaGreatDoor
theorem Dk.vV (s:Dk):s.change.1.bf=s.bf:=by unfold Dk.bf;rw[s.dD]
theorem Dk.sU {s:Dk}{f:Dk->Dk}{n:Nat}(h:∀t:Dk,t.files=s.files->(f t).bf<=n)(h0:s.bf<=n):(s.step f).1.bf<=n:=by
 unfold Dk.step
 split
 ·exact h _ s.dD
 ·show s.change.1.bf<=n
  rw[s.vV];exact h0
theorem Dk.Ef {s t:Dk}(h:t.files=s.files):t.bf=s.bf:=by unfold Dk.bf;rw[h]
theorem Dk.Ak (s:Dk)(n:ByteArray):(s.drop n).bf<=s.bf:=by
 unfold Dk.drop
 split
 ·rename_i i hi
  obtain⟨f,hf,_⟩:=Dk.jU hi
  have:=gA (λf:Fl=>f.log.length) s.files i f hf
  unfold Dk.bf
  simp only
  omega
 ·exact Kl _
theorem Dk.vA (s:Dk)(n:ByteArray):(s.remove n).1.bf<=s.bf:=by
 unfold Dk.remove
 split
 ·exact Kl _
 ·split
  ·exact Kl _
  ·exact Dk.sU (λt ht=>K4 (t.Ak n) (by rw[Dk.Ef ht];exact Kl _)) (Kl _)
theorem Dk.pR (s:Dk)(n:ByteArray)(p:Int)(b:List UInt8):(s.write n p b).1.bf<=s.bf+1:=by
 unfold Dk.write
 split
 ·exact Lj _
 ·split
  ·split
   ·exact Lj _
   ·rename_i i hi
    split
    ·exact Lj _
    ·split
     ·exact Lj _
     ·refine Dk.sU (λt ht=>?_) (Lj _)
      obtain⟨f,hf,_⟩:=Dk.jU hi
      rw[<-ht] at hf
      show ((t.files.modify i _).map λf=>f.log.length).sum<=_
      have:=fq (λf:Fl=>f.log.length) (λf=>{f with log:=f.log++[⟨t.next,p.toNat,⟨b,by assumption⟩⟩]}) t.files i f hf
      have h3:(t.files.map λf=>f.log.length).sum=s.bf:=by rw[ht];rfl
      simp only[Kv,K1,List.length_nil] at this
      omega
  ·exact Lj _
theorem Pl.wj (s:Pl)(i:Nat):(s.put i).1.d.bf<=s.d.bf+1:=by
 unfold Pl.put
 split<;>exact s.d.pR _ _ _
theorem Pl.nj (s:Pl):s.room.1.d.bf<=s.d.bf+1:=by
 unfold Pl.room
 split
 ·exact Lj _
 ·split
  ·exact Lj _
  ·split
   ·split
    ·exact s.wj _
    ·exact s.wj _
   ·exact Lj _
def Dk.size (s:Dk)(n:ByteArray):Nat:=match s.idx n with|some i=>(s.file i).aB.length|none=>0
def Pl.Fit (s:Pl):Prop:=∀f∈s.fs,f.ab<s.d.size f.name
theorem Dk.AW {s:Dk}{n:ByteArray}(h:(s.len n).2=0):(s.len n).1=s.size n:=by
 unfold Dk.len Dk.open at h ⊢
 unfold Dk.size
 by_cases hd:s.down=true
 ·rw[if_pos hd] at h;cases h
 ·rw[if_neg hd] at h ⊢
  cases hi:s.idx n with
  |none=>rw[hi] at h;first|done|cases h
  |some i=>rfl
theorem Pl.Fit.new {s:Pl}(h:s.Fit){n:ByteArray}(hl:(s.d.len n).2=0):s.find n (s.d.len n).1=none:=by
 unfold Pl.find
 rw[Nc]
 intro f hf
 cases hq:f.name.toList==n.toList with
 |false=>rfl
 |true=>
   have e:f.name=n:=iP (by simpa using hq)
   have:=h f hf
   rw[e,<-Dk.AW hl] at this
   show (true&&decide ((f.ab:Int)=_))=false
   rw[Nz];exact decide_eq_false (by omega)
theorem Fl.gJ (f:Fl)(w:Wr):(({f with log:=f.log++[w]}:Fl)).aB=qW f.aB w:=by simp[Fl.aB]
structure Live (d:Dk)(n:ByteArray)(pg:List Pg)(q:Nat):Prop where
 up:d.down=false
 calm:d.crash=none
 file:∃f,d.files=[f]/\f.name=n/\f.aB=pg
 quota:d.quota=q
def putAt (pg:List Pg)(k:Nat)(b:Pg):List Pg:=qW pg ⟨0,k,b⟩
theorem mr (pg:List Pg)(k:Nat)(b:Pg):(putAt pg k b).length=max pg.length (k+1):=jW _ _
theorem rU {pg:List Pg}{k:Nat}{b:Pg}(hk:k<=pg.length)(j:Nat):(putAt pg k b)[j]?=if j=k then some b else pg[j]?:=by
 unfold putAt qW
 simp only
 by_cases e:j=k
 ·subst e
  rw[if_pos rfl,Le,if_pos rfl,if_pos (by simp;omega)]
 ·rw[if_neg e,Le,if_neg (λq=>e q.symm)]
  by_cases hj:j<pg.length
  ·rw[KT hj]
  ·rw[Lf (by omega),Mh (by simp;omega),Mh (by omega)]
structure Told (p:Pl)(n:ByteArray)(N q:Nat)(T:Nat->UInt8×List UInt8)(pg:List Pg):Prop where
 wrong:p.wrong=0
 gT:Live p.d n pg q
 len:pg.length=N
 mine:∀f∈p.fs,f.name=n/\f.ab<N/\T f.ab=(f.kind,f.b)
 rest:∀(k:Nat) (b:Pg),pg[k]?=some b->(∀f∈p.fs,f.ab=k->f.dirty=false)->fm b.1=some (T k)
theorem mu {α:Type}(u:α->α):∀(l:List α) (i:Nat),(l.modify i u).eraseIdx i=l.eraseIdx i
 |[],i=>by simp
 |a::l,0=>by simp
 |a::l,i+1=>by simp[mu u l i]
theorem Pl.zv {p:Pl}(h:p.fs.length<p.most):p.room=(p,0):=by unfold Pl.room;rw[if_pos h]
theorem nQ {α:Type}(l:List α)(a:α)(u:α->α):(l++[a]).modify l.length u=l++[u a]:=by
 have ha:(l++[a])[l.length]?=some a:=by simp
 rw[bY ha];simp
theorem Pl.oK (p:Pl)(f:Fr):(p.take f).fs=p.fs++[Fr.bR p.next f]:=nQ p.fs f _
def fW (T:Nat->UInt8×List UInt8)(k:Nat)(v:UInt8×List UInt8):Nat->UInt8×List UInt8:=λj=>if j=k then v else T j
theorem cW (T:Nat->UInt8×List UInt8)(k:Nat)(v:UInt8×List UInt8):fW T k v k=v:=if_pos rfl
theorem bH {T:Nat->UInt8×List UInt8}{k j:Nat}{v:UInt8×List UInt8}(h:j≠k):fW T k v j=T j:=if_neg h
open Go.MapKept
theorem bC.ext {x:PG}{D:Nat->Prop}{H H':aa}{p dp:Nat}{s:Pl}(h:bC x D H p dp s)(e:Ext H H'):bC x D H' p dp s:=
 ⟨h.al.aA λb _ hl=>e.same b hl id,h.gT.aA λb _ hl=>e.same b hl id,h.apart,h.du⟩
theorem Step.ext {F:Nat->Prop}{H H':aa}(e:Ext H H'):Step F F H H':=⟨Ext.mod e,λ_ q=>.inl q⟩
theorem Step.behind {F G:Nat->Prop}{A B C:aa}(h:Step F G A B)(e:Ext B C):Step F G A C:=h.trans (Step.ext e)
theorem xA {D:Nat->Prop}{H:aa}{dp:Nat}{d:Dk}{m:Nat}{K:(Option Addr×Int)->aa->Prop}(hg:Gl H)(hd:bN D H dp d)(hD:¬D ft)(h8:8<=m)(hm:m<=4096)
  (hK:∀F p H',an F H' p dp (rj d m)->Ext H H'->(∀b,F b->D b\/H.size<=b)->K (aD p,0) H'):Da.sp (aD dp) (m:Int) H K:=by
 refine Da.of ?_
 unfold Da.vc
 refine ax rfl (ax (by simp;omega) (ax (by simp;omega) ?_))
 refine pV (d:=.int .i64) λH1 s1 m1 e1=>?_
 refine pV (d:=.int .i64) λH2 s2 m2 e2=>?_
 refine ar λH3 s3 r3 e3=>?_
 have hl:=hd.lt
 have hgl:=hg.lt
 have e03:Ext H H3:=(e1.trans e2).trans e3
 have hx:bk ⟨H.size,#[],0,H1.size,#[],0,[]⟩ H3 H2.size dp (rj d m):=by
  refine⟨r3,⟨?_,?_,by simp only;omega,rfl,?_,?_,by simp,by simp⟩,rfl,xv h8 hm⟩
  ·exact⟨(e2.trans e3).at m1.obj id,stamped_empty 0,by simp⟩
  ·exact m2.aA (e3.same _ m2.lt id)
  ·intro k v
   constructor
   ·rintro⟨e,he,_⟩;simp at he
   ·intro q;simp[xH] at q
  ·intro k v
   constructor
   ·rintro⟨e,he,_⟩;simp at he
   ·intro q;simp[tN] at q
 have hall:∀b,PG.all ⟨H.size,#[],0,H1.size,#[],0,[]⟩ H2.size b->H.size<=b:=by
  rintro b (e|e|e|⟨z,hz,_⟩)
  ·omega
  ·simp only at e;omega
  ·simp only at e;omega
  ·simp at hz
 refine hK _ H2.size H3 ⟨_,D,⟨hx,hd.aA λb _ hl=>e03.same b hl id,λb hb hx=>?_,hD,λhx=>?_⟩,λb=>Pe⟩ e03 ?_
 ·have:=hall b hx;have:=hl b hb;omega
 ·have:=hall _ hx;omega
 ·rintro b (q|q)
  ·exact .inl q
  ·exact .inr (hall b q)
theorem CN {x:PG}{H:aa}{p dp:Nat}{s:Pl}{n:ByteArray}{k:Int}{K:(Option Addr×Bool)->Prop}(h:bk x H p dp s)(hn:n.size<=9223372036854775807)(h0:-9223372036854775808<=k)(h1:k<=9223372036854775807)
  (hF:∀i f g,s.find n k=some i->x.zs[i]?=some (f,g)->f.name=n->(f.ab:Int)=k->K (aD g.p,true)) (hN:s.find n k=none->K (none,false)):
  AD (bj [au,aw]) Kf (LC wD (.map (some x.mf)) (.agg #[(.string n),(.int .i64 k)]) true) H K:=by
 obtain⟨et,inf,hu,hi,hz⟩:=lR
 refine vp (k:=iM n k) hu tz hi hz h.ay.fmap (mW hn h0 h1) ?_ ?_
 ·intro v hv
  obtain⟨z,hzm,e⟩:=Kz.1 ((h.ay.entF _ _).1 hv)
  simp only[LK] at e
  obtain⟨e1,e2⟩:=lW e.1
  obtain⟨i,hi⟩:=Ko.1 hzm
  have hfs:s.fs[i]?=some z.1:=by rw[h.fs];simp[PG.fs,hi]
  refine⟨(aD z.2.p,true),by rw[<-e.2];rfl,hF i z.1 z.2 ?_ hi e1 e2⟩
  rw[<-e1,<-e2]
  exact Pl.find_eq h.wf hfs
 ·intro hno
  refine⟨(none,false),rfl,hN ?_⟩
  cases hx:s.find n k with
  |none=>rfl
  |some i=>
    obtain⟨f,hf,e1,e2⟩:=Pl.sj hx
    obtain⟨g,hg,_⟩:=h.at hf
    refine absurd ((h.ay.entF (iM n k) (bX g.p)).2 (Kz.2 ⟨(f,g),Ki hg,?_⟩)) (hno _)
    simp only[e1,e2]
theorem Cb {x:PG}{H:aa}{p dp:Nat}{s:Pl}{k:Int}{K:(Option Addr×Bool)->Prop}(h:bk x H p dp s)
  (hF:∀i f g,s.held k=some i->x.zs[i]?=some (f,g)->k∈f.pins->K (aD g.p,true)) (hN:s.held k=none->K (none,false)):
  AD (bj [au,aw]) Kf (LC HF (.map (some x.mh)) (.int .i64 k) true) H K:=by
 obtain⟨et,inf,hu,hd,hi,hz⟩:=oI
 refine oN hu hd hi hz h.ay.hmap (k:=.int .i64 k) (show Ke=Ke from rfl) ?_ ?_
 ·intro v hv
  obtain⟨z,hzm,hk⟩:=LP.1 ((h.ay.entH _ _).1 hv)
  obtain⟨q,hq,e⟩:=Kz.1 hk
  simp only[LK,N9,true_and] at e
  obtain⟨i,hi⟩:=Ko.1 hzm
  have hfs:s.fs[i]?=some z.1:=by rw[h.fs];simp[PG.fs,hi]
  rw[e.1] at hq
  exact⟨(aD z.2.p,true),by rw[<-e.2];rfl,hF i z.1 z.2 (Pl.oz h.wf hfs hq) hi hq⟩
 ·intro hno
  refine⟨(none,false),rfl,hN ?_⟩
  cases hx:s.held k with
  |none=>rfl
  |some i=>
    obtain⟨f,hf,hm⟩:=Pl.mT hx
    obtain⟨g,hg,_⟩:=h.at hf
    exact absurd ((h.ay.entH (.int .i64 k) (bX g.p)).2 (LP.2 ⟨(f,g),Ki hg,Kz.2 ⟨k,hm,rfl⟩⟩)) (hno _)
theorem Dk.AZ {s:Dk}(h:s.WF)(n:ByteArray):(s.len n).1<=1048576:=by
 have h1:=h.used;have h2:=h.most;have h3:=h.quota
 unfold Dk.len
 split
 ·rename_i i e hi
  have:(s.file i).aB.length<=s.used:=by
   unfold Dk.open at hi
   split at hi
   ·cases hi
   ·split at hi
    ·rename_i j hj
     cases hi
     obtain⟨f,hf,_⟩:=Dk.jU hj
     rw[Dk.gu hf];exact Dk.vG hf
    ·cases hi
  show (s.file i).aB.length<=_
  omega
 ·exact KU _
theorem Dk.A9 (s:Dk)(n:ByteArray)(k:Int):(s.read n k).1.length<=512/\((s.read n k).2=0->(s.read n k).1.length=512):=by
 unfold Dk.read Dk.open
 split
 ·rename_i i e hi
  split
  ·exact⟨by simp,λq=>by cases q⟩
  ·split
   ·rename_i pg _;exact⟨by rw[pg.2];exact Kl _,λ_=>pg.2⟩
   ·exact⟨by simp,λq=>by cases q⟩
 ·rename_i e hi
  refine⟨by simp,λq=>?_⟩
  split at hi
  ·simp at hi;subst hi;cases q
  ·split at hi
   ·cases hi
   ·simp at hi;subst hi;cases q
theorem Pl.zp (s:Pl):∀f∈s.room.1.fs,∃f'∈s.fs,f'.key=f.key:=by
 have hput:∀i,∀f∈(s.put i).1.fs,∃f'∈s.fs,f'.key=f.key:=by
  intro i f hf
  unfold Pl.put at hf
  split at hf
  ·have hf:f∈s.fs.modify i Fr.clean:=hf
   obtain⟨j,hj⟩:=Ko.1 hf
   rw[List.getElem?_modify] at hj
   cases hx:s.fs[j]? with
   |none=>rw[hx] at hj;cases hj
   |some y=>
     rw[hx] at hj
     have hj':(if i=j then y.clean else y)=f:=Kq hj
     refine⟨y,Ki hx,?_⟩
     rw[<-hj'];split<;>rfl
  ·exact⟨f,hf,rfl⟩
 intro f hf
 unfold Pl.room at hf
 split at hf
 ·exact⟨f,hf,rfl⟩
 ·split at hf
  ·exact⟨f,hf,rfl⟩
  ·rename_i i _
   split at hf
   ·split at hf
    ·exact hput i f (LS hf)
    ·exact hput i f hf
   ·exact⟨f,LS hf,rfl⟩
theorem Pl.gw {s:Pl}{n:ByteArray}{k:Int}(h:∀f∈s.fs,f.name=n->(f.ab:Int)≠k):s.find n k=none:=by
 unfold Pl.find
 rw[Nc]
 intro f hf
 cases hq:f.name.toList==n.toList with
 |false=>rfl
 |true=>
   have:=h f hf (iP (by simpa using hq))
   show (true&&decide ((f.ab:Int)=k))=false
   rw[Nz];exact decide_eq_false this
theorem Pl.sh {s:Pl}{n:ByteArray}{k:Int}(h:s.find n k=none):s.room.1.find n k=none:=by
 refine Pl.gw λf hf e1 e2=>?_
 obtain⟨f',hf',hk⟩:=s.zp f hf
 have h1:f'.name=f.name:=congrArg RE hk
 have h2:f'.ab=f.ab:=congrArg Sf hk
 exact Pl.kC h f' hf' (h1.trans e1) (by rw[h2];exact e2)
theorem Pl.Aw {s:Pl}(hd:s.d.WF){n:ByteArray}{k:Int}{f:Fr}(h:(s.load n k).2.1=some f):
  (s.load n k).1=s.room.1/\(s.load n k).2.2=0/\s.room.2=0/\f.name=n/\(f.ab:Int)=k/\f.b.length<=504/\f.pins=[]/\f.left=0/\f.ab<1048577:=by
 have hl:=Dk.AZ hd n
 unfold Pl.load at h ⊢
 by_cases h1:(s.d.len n).2≠0
 ·rw[if_pos h1] at h;cases h
 rw[if_neg h1] at h ⊢
 by_cases h2:k<0\/k>=((s.d.len n).1:Int)
 ·rw[if_pos h2] at h;cases h
 rw[if_neg h2] at h ⊢
 by_cases h3:s.room.2≠0
 ·rw[if_pos h3] at h;cases h
 rw[if_neg h3] at h ⊢
 by_cases h4:(s.room.1.d.read n k).2≠0
 ·rw[if_pos h4] at h;cases h
 rw[if_neg h4] at h ⊢
 cases ho:fm (s.room.1.d.read n k).1 with
 |none=>rw[ho] at h;cases h
 |some kb=>
   rw[ho] at h
   simp only[Lr] at h
   subst h
   have hlen:kb.2.length<=504:=by
    unfold fm at ho
    split at ho
    ·rename_i q;cases ho;simp;omega
    ·cases ho
   exact⟨rfl,rfl,by omega,rfl,by simp only;omega,hlen,rfl,rfl,by simp only;omega⟩
theorem Pl.zR {s:Pl}{n:ByteArray}{k:Int}(h:(s.load n k).2.1=none):(s.load n k).2.2≠0:=by
 unfold Pl.load at h ⊢
 split
 ·rename_i h1;exact h1
 ·rename_i h1
  rw[if_neg h1] at h
  split
  ·show (12:Int)≠0;decide
  ·rename_i h2
   rw[if_neg h2] at h
   split
   ·rename_i h3;exact h3
   ·rename_i h3
    rw[if_neg h3] at h
    split
    ·rename_i h4;exact h4
    ·rename_i h4
     rw[if_neg h4] at h
     split
     ·show (20:Int)≠0;decide
     ·rename_i kb hk;rw[hk] at h;cases h
theorem Ed {x:PG}{D:Nat->Prop}{H:aa}{p dp:Nat}{s:Pl}{n:ByteArray}{k:Int}{K:(Option Addr×Int)->aa->Prop}(hg:Gl H)(h:bC x D H p dp s)(hlogs:s.d.bf<68719476736)
  (hE:(s.load n k).2.1=none->∀q x' D' H',bC x' D' H' p dp (s.load n k).1->Step (λb=>D b\/x.all p b) (λb=>D' b\/x'.all p b) H H'->K (q,(s.load n k).2.2) H')
  (hS:∀f,(s.load n k).2.1=some f->∀g x' D' H',bC x' D' H' p dp s.room.1->Step (λb=>D b\/x.all p b) (λb=>D' b\/x'.all p b) H H'->Bv x' D' H' p g f->(∀b,g.fp b->H.size<=b)->K (aD g.p,0) H'):
  Ft.sp (aD p) n k H K:=by
 refine Ft.of ?_
 unfold Ft.vc
 simp only[aq]
 refine ar λH1 s1 r1 e1=>?_
 have h1:=h.ext e1
 have hg1:Gl H1:=hg.mod e1 id
 refine h1.al.head.ld (c:=au) (i:=0) (x:=aD dp) rfl ?_
 refine r1.ld (c:=cX) (i:=0) (x:=n) rfl ?_
 refine wX h1.gT ?_
 unfold Pl.load at hE hS
 refine ak (λhz=>?_) (λhz=>?_)
 ·have hz':(s.d.len n).2≠0:=by simpa using hz
  rw[if_pos hz'] at hE
  exact hE rfl _ x D H1 h1 (.ext e1)
 have hz':¬(s.d.len n).2≠0:=by simpa using hz
 rw[if_neg hz'] at hE hS
 refine r1.ld (c:=af .i64) (i:=1) (x:=k) rfl ?_
 refine ak (λhk=>?_) (λhk=>?_)
 ·have hk':k<0:=by simpa using hk
  rw[if_pos (.inl hk')] at hE
  exact hE rfl _ x D H1 h1 (.ext e1)
 refine r1.ld (c:=af .i64) (i:=1) (x:=k) rfl ?_
 refine ak (λhk2=>?_) (λhk2=>?_)
 ·have hk':k>=((s.d.len n).1:Int):=by simpa using hk2
  rw[if_pos (.inr hk')] at hE
  exact hE rfl _ x D H1 h1 (.ext e1)
 have hk0:0<=k:=by simp at hk;omega
 have hkk:¬(k<0\/k>=((s.d.len n).1:Int)):=by simp at hk hk2;omega
 rw[if_neg hkk] at hE hS
 refine yz hg1 h1 hlogs λx2 D2 H2 h2 S2=>?_
 have S02:=(Step.ext (F:=λb=>D b\/x.all p b) e1).trans S2
 have hg2:Gl H2:=h1.gl hg1 S2.mod
 have hvoff:¬(D H.size\/x.all p H.size):=λq=>by have:=h.lt _ q;omega
 have r2:ag H2 H.size uF #[.string n,.int .i64 k]:=S2.mod.at r1 hvoff
 refine ak (λhz2=>?_) (λhz2=>?_)
 ·have hz2':s.room.2≠0:=by simpa using hz2
  rw[if_pos hz2'] at hE
  exact hE rfl _ x2 D2 H2 h2 S02
 have hz2':¬s.room.2≠0:=by simpa using hz2
 rw[if_neg hz2'] at hE hS
 refine h2.al.head.ld (c:=au) (i:=0) (x:=aD dp) rfl ?_
 refine r2.ld (c:=cX) (i:=0) (x:=n) rfl ?_
 refine r2.ld (c:=af .i64) (i:=1) (x:=k) rfl ?_
 refine DK h2.gT λr H3 o3 e3 f3=>?_
 have hrl:=s.room.1.d.A9 n k
 refine ak (λhz3=>?_) (λhz3=>?_)
 ·have hz3':(s.room.1.d.read n k).2≠0:=by simpa using hz3
  rw[if_pos hz3'] at hE
  exact hE rfl _ x2 D2 H3 (h2.ext e3) (S02.behind e3)
 have hz3':¬(s.room.1.d.read n k).2≠0:=by simpa using hz3
 rw[if_neg hz3'] at hE hS
 have r3:=r2.ext e3
 refine ag.jq (x:=(n,k)) r3 rfl rfl ?_
 refine ar λH4 s4 r4 e4=>?_
 have e34:Ext H2 H4:=e3.trans e4
 have hg4:Gl H4:=hg2.mod e34 id
 have z02:=S02.mod.size
 have z24:=e34.size
 have z3:=e3.size
 have o4:cw EB kN H4 r (s.room.1.d.read n k).1:=o3.aA λb _ hl=>e4.same b hl id
 have h512:(s.room.1.d.read n k).1.length=512:=hrl.2 (by omega)
 have fin:∀(H5:aa) (kd:Int) (sl:Sl) (er:Int),Ext H4 H5->(∀H6,ag H6 H3.size GI #[.string n,.int .i64 k,.int .u8 kd,sl.v,.bool false,.int .i64 0,.int .i64 0]->Mod (λb=>b=H3.size) H5 H6->H6.size=H5.size->K (some ⟨H3.size,0,none⟩,er) H6)->
   st H5 (K0 ⟨H3.size,0,none⟩ 2) (.int .u8 kd) λH7=>st H7 (K0 ⟨H3.size,0,none⟩ 3) sl.v λH8=>K (some ⟨H3.size,0,none⟩,er) H8:=by
  intro H5 kd sl er e45 hK
  refine ag.st (r4.ext e45) (i:=2) (by decide:2<7) (by rfl) λH7 r7 m7 z7=>?_
  refine ag.st r7 (i:=3) (by decide:3<7) (by rfl) λH8 r8 m8 z8=>?_
  exact hK H8 r8 (m7.trans m8) (by omega)
 have stays:∀(H5 H6:aa),Ext H4 H5->Mod (λb=>b=H3.size) H5 H6->bC x2 D2 H6 p dp s.room.1/\Step (λb=>D b\/x.all p b) (λb=>D2 b\/x2.all p b) H H6:=by
  intro H5 H6 e45 m56
  have e26:Ext H2 H6:=⟨by have:=e45.size;have:=m56.size;omega,λb hb _=>(m56.same b (by have:=e45.size;omega) (by omega)).trans ((e34.trans e45).same b hb id)⟩
  exact⟨h2.ext e26,S02.behind e26⟩
 refine EH hg4 (jT o4) (by omega) o4.cap (λq=>absurd h512 q) (λ_ ho=>?_) (λkd b s' H5 _ ho hbl o5 e45 f5=>?_)
 ·rw[ho] at hE
  refine fin H4 0 (Sl.mk none 0 0) 20 (.refl _ _) λH6 r6 m6 z6=>?_
  obtain⟨q1,q2⟩:=stays H4 H6 (.refl _ _) m6
  exact hE rfl _ x2 D2 H6 q1 q2
 ·rw[ho] at hS
  refine fin H5 _ s' 0 e45 λH6 r6 m6 z6=>?_
  obtain⟨q1,q2⟩:=stays H5 H6 e45 m6
  have hfb:∀b,rW.fp ⟨H3.size,s'⟩ b->H3.size<=b:=by
   rintro b (e|hb)
   ·exact Nat.le_of_eq e.symm
   ·have:=f5 b hb;omega
  have z45:=e45.size
  refine hS _ rfl ⟨H3.size,s'⟩ x2 D2 H6 q1 q2 ⟨⟨?_,o5.aA λb hb hl=>m6.same b hl ?_⟩,λb hb=>?_⟩ (λb hb=>by have:=hfb b hb;omega)
  ·have ek:((k.toNat:Nat):Int)=k:=by omega
   unfold IN
   simp only[ek]
   exact r6
  ·have:=f5 b hb;omega
  ·have h3:=hfb b hb
   refine⟨λq=>?_,λq=>?_,λq=>?_⟩
   ·have:=h2.lt b (.inl q);omega
   ·have:=h2.lt b (.inr q);omega
   ·have:=hg2.lt;omega
theorem an.ext {F:Nat->Prop}{H H':aa}{p dp:Nat}{s:Pl}(h:an F H p dp s)(e:Ext H H'):an F H' p dp s:=h.aA λb _ hl=>e.same b hl id
theorem Step.ahead {F G:Nat->Prop}{A B C:aa}(e:Ext A B)(h:Step F G B C):Step F G A C:=(Step.ext e).trans h
theorem Es:(zc Kf uF).size=2:=by kernel_rfl
theorem xf {F:Nat->Prop}{H:aa}{p dp:Nat}{s:Pl}{n:ByteArray}{k:Int}{K:(Int×Int)->aa->Prop}(hg:Gl H)(h:an F H p dp s)(hn:n.size<=9223372036854775807)(h0:-9223372036854775808<=k)(h1:k<=9223372036854775807)
  (hlogs:s.d.bf<68719476736) (hnx:s.next<9223372036854775807) (hK:∀F' H',an F' H' p dp (s.bR n k).1->Step F F' H H'->K ((s.bR n k).2.1,(s.bR n k).2.2) H'):Dg.sp (aD p) n k H K:=by
 have h00:=h
 obtain⟨x,D,hd,hF⟩:=h
 refine Dg.of ?_
 unfold Dg.vc
 simp only[aq]
 refine jD hd.al ?_
 unfold Pl.bR at hK
 refine ak (λhw=>?_) (λhw=>?_)
 ·have hw':s.wrong≠0:=by simpa using hw
  rw[if_pos hw'] at hK
  exact hK F H h00 (.refl _ _)
 have hw':¬s.wrong≠0:=by simpa using hw
 rw[if_neg hw'] at hK
 refine ar λH1 s1 r1 e1=>?_
 have hs2:=Es
 refine ag.wb r1 (cs:=#[.string n,.int .i64 k]) (by kernel_rfl) hs2 (by intro v hv;simp at hv;rcases hv with rfl|rfl<;>rfl) λH2 r2 m2 z2=>?_
 have e2:Ext H H2:=⟨by have:=e1.size;have:=m2.size;omega,λb hb _=>(m2.same b (by omega) (by omega)).trans (e1.same b hb id)⟩
 have hd2:=hd.ext e2
 have hg2:Gl H2:=hg.mod e2 id
 refine hd2.al.head.ld (c:=cO) (i:=2) (x:=some x.mf) rfl ?_
 refine ag.jq (x:=(n,k)) r2 rfl rfl ?_
 refine CN hd2.al hn h0 h1 (λi f g hi hz _ _=>?_) (λhi=>?_)
 ·rw[hi] at hK
  have hfs:s.fs[i]?=some f:=by rw[hd.al.fs];simp[PG.fs,hz]
  have hpl:f.pins.length<=s.pins:=pW (λf:Fr=>f.pins.length) s.fs i f hfs
  have ht:=hd.al.wf.tick
  refine aT rfl ?_
  refine CQ hg2 hd2 hz hnx (hd.al.wf.jI hfs hnx) (by omega) λx' H3 h3 S3=>?_
  obtain⟨F',q1,q2⟩:=h3.out (x:=x) (D:=D) (F:=F) (H:=H2) hF S3
  exact hK F' H3 q1 (q2.ahead e2)
 ·rw[hi] at hK
  refine ax rfl ?_
  refine ag.jq (x:=(n,k)) r2 rfl rfl ?_
  refine Ed hg2 hd2 hlogs (λhno q x' D' H3 h3 S3=>?_) (λf hf g x' D' H3 h3 S3 hN hfp=>?_)
  ·have hne:=Pl.zR hno
   obtain⟨q',hq'⟩:∃q',s.load n k=q':=⟨_,rfl⟩
   obtain⟨t,fo,e⟩:=q'
   rw[hq'] at hno hne h3 hK ⊢
   simp only at hno hne h3 hK ⊢
   subst hno
   simp only at hK
   refine aT (by simpa using hne) ?_
   have hg3:Gl H3:=hd2.gl hg2 S3.mod
   refine xP hg3 h3 λH4 h4 S4=>?_
   obtain⟨F',q1,q2⟩:=h4.out (x:=x) (D:=D) (F:=F) (H:=H2) hF (S3.trans S4)
   exact hK F' H4 q1 (q2.ahead e2)
  ·obtain⟨a1,a2,a3,a4,a5,a6,a7,a8,a9⟩:=Pl.Aw hd.gT.wf hf
   obtain⟨q',hq'⟩:∃q',s.load n k=q':=⟨_,rfl⟩
   obtain⟨t,fo,e⟩:=q'
   rw[hq'] at hf a1 a2 hK
   simp only at hf a1 a2 hK
   subst hf
   simp only at hK
   rw[a1] at hK
   refine ax rfl ?_
   have hg3:Gl H3:=hd2.gl hg2 S3.mod
   have hrs:=s.dC
   have hrw:=hd.al.wf.tK
   refine ym hg3 h3 hN (by rw[hrs.1];exact hrw.2 a3) (by rw[hrs.2.1];exact hnx) (by rw[a4,a5];exact Pl.sh hi) a6 a9 (by rw[a4];exact hn) a7 a8 λx4 H4 h4 S4=>?_
   have S24:Step (λb=>D b\/x.all p b) (λb=>D' b\/x4.all p b) H2 H4:=by
    refine⟨S3.mod.trans' S4.mod λb hb q=>?_,λb hb=>?_⟩
    ·rcases q with q|q
     ·exact(S3.own b q).resolve_right (by omega)
     ·have:=hfp b q;omega
    ·rcases S4.own b hb with q|q
     ·rcases q with q|q
      ·exact S3.own b q
      ·exact .inr (hfp b q)
     ·exact .inr (K4 S3.mod.size q)
   obtain⟨F',q1,q2⟩:=h4.out (x:=x) (D:=D) (F:=F) (H:=H2) hF S24
   exact hK F' H4 q1 (q2.ahead e2)
theorem uO {F:Nat->Prop}{H:aa}{p dp:Nat}{s:Pl}{n:ByteArray}{K:(Int×Int×Int)->aa->Prop}(hg:Gl H)(h:an F H p dp s)(hn:n.size<=9223372036854775807)
  (hlogs:s.d.bf<68719476735) (hnx:s.next<9223372036854775807) (hfit:s.Fit)
  (hK:∀F' H',an F' H' p dp (s.fresh n).1->Step F F' H H'->K ((s.fresh n).2.1,(s.fresh n).2.2.1,(s.fresh n).2.2.2) H'):DM.sp (aD p) n H K:=by
 have h00:=h
 obtain⟨x,D,hd,hF⟩:=h
 refine DM.of ?_
 unfold DM.vc
 simp only[aq]
 refine jD hd.al ?_
 unfold Pl.fresh at hK
 refine ak (λhw=>?_) (λhw=>?_)
 ·have hw':s.wrong≠0:=by simpa using hw
  rw[if_pos hw'] at hK
  exact hK F H h00 (.refl _ _)
 have hw':¬s.wrong≠0:=by simpa using hw
 rw[if_neg hw'] at hK
 refine hd.al.head.ld (c:=au) (i:=0) (x:=aD dp) rfl ?_
 refine wX hd.gT ?_
 have fail:∀(e:Int) (x':PG) (D':Nat->Prop) (H1:aa) (s':Pl),bC x' D' H1 p dp s'->Step (λb=>D b\/x.all p b) (λb=>D' b\/x'.all p b) H H1->(∀F' H',an F' H' p dp (s'.met e)->Step F F' H H'->K (0,0,e) H')->
   wE.sp (aD p) e H1 λr H2=>K (0,0,r) H2:=by
  intro e x' D' H1 s' h1 S1 hk
  refine xP (hd.gl hg S1.mod) h1 λH2 h2 S2=>?_
  obtain⟨F',q1,q2⟩:=h2.out (x:=x) (D:=D) (F:=F) (H:=H) hF (S1.trans S2)
  exact hk F' H2 q1 q2
 refine ak (λhz=>?_) (λhz=>?_)
 ·have hz':(s.d.len n).2=0:=by simpa using hz
  rw[if_neg (by simpa using hz')] at hK
  refine yz hg hd (by omega) λx1 D1 H1 h1 S1=>?_
  have hg1:Gl H1:=hd.gl hg S1.mod
  refine ar λH2 s2 r2 e2=>?_
  have h2:=h1.ext e2
  have S2:=S1.behind e2
  have hg2:Gl H2:=hg1.mod e2 id
  refine ak (λhr=>?_) (λhr=>?_)
  ·have hr':s.room.2=0:=by simpa using hr
   rw[if_neg (by simpa using hr')] at hK
   have hA:de H2 ⟨H1.size,Sl.mk none 0 0⟩ ⟨n,(s.d.len n).1,0,[],false,[],0⟩:=⟨r2,cw.nil _ _ _⟩
   have hfp:∀b,rW.fp ⟨H1.size,Sl.mk none 0 0⟩ b->b=H1.size:=by
    rintro b (e|⟨ad,q,_⟩)
    ·exact e
    ·cases q
   have hoff1:∀b,D1 b\/x1.all p b->b<H1.size:=h1.lt
   have hlg:s.room.1.d.bf<68719476736:=by
    have:s.room.1.d.bf<=s.d.bf+1:=s.nj
    omega
   refine rY (f:=⟨n,(s.d.len n).1,0,[],false,[],0⟩) hg2 h2.gT h2.al.head rfl hA (by simp) (λb hb q=>by have:=hfp b hb;have:=hoff1 b (.inl q);omega) hlg (λhne D3 H3 a3 S3=>?_) (λhe D3 H3 H4 a3 S3 hf4 m4 z4=>?_)
   ·have hne':(s.room.1.d.write n ((s.d.len n).1:Int) (bP 0 [])).2≠0:=hne
    rw[if_pos hne'] at hK
    obtain⟨q1,q2⟩:=h2.se hg2 a3 S3
    refine aT (by simpa using hne) ?_
    exact fail _ x1 D3 H3 _ q1 (S2.trans q2) hK
   ·have he':¬(s.room.1.d.write n ((s.d.len n).1:Int) (bP 0 [])).2≠0:=λq=>q he
    rw[if_neg he'] at hK
    obtain⟨q1,q2⟩:=h2.se hg2 a3 S3
    refine ax rfl ?_
    have hl4:∀b,b<H1.size->H4[b]?=H3[b]?:=λb hb=>m4.same b (by have:=e2.size;have:=S3.mod.size;omega) (by show b≠H1.size;omega)
    have hin:∀b,D3 b\/x1.all p b->b≠H1.size:=by
     intro b q e
     subst e
     rcases q with q|q
     ·rcases S3.own _ q with r|r
      ·have:=hoff1 _ (.inl r);omega
      ·have:=e2.size;omega
     ·have:=hoff1 _ (.inr q);omega
    have q4:bC x1 D3 H4 p dp (s.room.1.cT (s.room.1.d.write n ((s.d.len n).1:Int) (bP 0 [])).1):=
     ⟨q1.al.aA λb hb hl=>m4.same b hl (hin b (.inr hb)),q1.gT.aA λb hb hl=>m4.same b hl (hin b (.inl hb)),q1.apart,q1.du⟩
    have S4:Step (λb=>D b\/x.all p b) (λb=>D3 b\/x1.all p b) H H4:=by
     have S3':=S2.trans q2
     refine⟨S3'.mod.trans' m4 λb hb q=>?_,S3'.own⟩
     have:b=H1.size:=q
     have:=S1.mod.size;omega
    have hg4:Gl H4:=hd.gl hg S4.mod
    have hNew:Bv x1 D3 H4 p ⟨H1.size,Sl.mk none 0 0⟩ ⟨n,(s.d.len n).1,0,[],false,[],0⟩:=by
     refine⟨hf4,λb hb=>?_⟩
     have eb:=hfp b hb
     refine⟨λq=>hin b (.inl q) eb,λq=>hin b (.inr q) eb,λq=>?_⟩
     have:=hg1.lt;omega
    have hrs:=s.dC
    have hrw:=hd.al.wf.tK
    have hle:=Dk.AZ hd.gT.wf n
    obtain⟨f,hf⟩:∃f:Fr,f=⟨n,(s.d.len n).1,0,[],false,[],0⟩:=⟨_,rfl⟩
    rw[<-hf] at hNew hK
    have c1:f.name=n:=by rw[hf]
    have c2:f.ab=(s.d.len n).1:=by rw[hf]
    have c3:f.b=[]:=by rw[hf]
    have c4:f.pins=[]:=by rw[hf]
    have c5:f.left=0:=by rw[hf]
    have d1:(s.room.1.cT (s.room.1.d.write n ((s.d.len n).1:Int) (bP 0 [])).1).fs.length<(s.room.1.cT (s.room.1.d.write n ((s.d.len n).1:Int) (bP 0 [])).1).most:=by
     show _<s.room.1.most;rw[hrs.1];exact hrw.2 hr'
    have d2:(s.room.1.cT (s.room.1.d.write n ((s.d.len n).1:Int) (bP 0 [])).1).next<9223372036854775807:=by
     show s.room.1.next<_;rw[hrs.2.1];exact hnx
    have d3:(s.room.1.cT (s.room.1.d.write n ((s.d.len n).1:Int) (bP 0 [])).1).find f.name f.ab=none:=by
     rw[c1,c2];exact Pl.sh (hfit.new hz')
    have d4:f.b.length<=504:=by rw[c3];exact KU _
    have d5:f.ab<1048577:=by rw[c2];omega
    have d6:f.name.size<=9223372036854775807:=by rw[c1];exact hn
    show zr.sp (aD p) (aD H1.size) H4 (λr H7=>K (r,((s.d.len n).1:Int),0) H7)
    refine ym (g:=⟨H1.size,Sl.mk none 0 0⟩) (K:=λr H7=>K (r,((s.d.len n).1:Int),0) H7) hg4 q4 hNew d1 d2 d3 d4 d5 d6 c4 c5 λx5 H5 h5 S5=>?_
    have S45:Step (λb=>D b\/x.all p b) (λb=>D3 b\/x5.all p b) H H5:=by
     refine⟨S4.mod.trans' S5.mod λb hb q=>?_,λb hb=>?_⟩
     ·rcases q with q|q
      ·exact(S4.own b q).resolve_right (by omega)
      ·have:=hfp b q;have:=S1.mod.size;omega
     ·rcases S5.own b hb with q|q
      ·rcases q with q|q
       ·exact S4.own b q
       ·have:=hfp b q;have:=S1.mod.size;exact .inr (by omega)
      ·exact .inr (K4 S4.mod.size q)
    obtain⟨F',t1,t2⟩:=h5.out (x:=x) (D:=D) (F:=F) (H:=H) hF S45
    exact hK F' H5 t1 t2
  ·have hr':s.room.2≠0:=by simpa using hr
   rw[if_pos hr'] at hK
   refine aT (by simpa using hr') ?_
   exact fail _ x1 D1 H2 _ h2 S2 hK
 ·have hz':(s.d.len n).2≠0:=by simpa using hz
  rw[if_pos hz'] at hK
  refine ar λH2 s2 r2 e2=>?_
  refine ax hz ?_
  have ht:((s.d.len n).2!=0)=true:=by simpa using hz'
  refine aT ht ?_
  exact fail _ x D H2 s (hd.ext e2) (Step.ext e2) hK
theorem ub {x:PG}{H:aa}{p dp:Nat}{s:Pl}{k:Int}{K:(Option Addr×Int)->aa->Prop}(h:bk x H p dp s)(hW:s.wrong≠0->K (none,s.wrong) H)
  (hN:s.wrong=0->s.held k=none->K (none,32) H) (hF:∀i f g,s.wrong=0->s.held k=some i->x.zs[i]?=some (f,g)->k∈f.pins->K (aD g.p,0) H):C9.sp (aD p) k H K:=by
 refine C9.of ?_
 unfold C9.vc
 simp only[aq]
 refine jD h ?_
 refine ak (λhw=>hW (by simpa using hw)) (λhw=>?_)
 have hw':s.wrong=0:=by simpa using hw
 refine h.head.ld (c:=cO) (i:=3) (x:=some x.mh) rfl ?_
 exact Cb h (λi f g hi hz hk=>hF i f g hw' hi hz hk) (λhi=>hN hw' hi)
theorem Gs {F:Nat->Prop}{H:aa}{p dp:Nat}{s:Pl}{k:Int}{K:(Int×Sl×Int)->aa->Prop}(h:an F H p dp s)
  (hK:∀sl H',cw EB kN H' sl (s.get k).2.1->Ext H H'->(∀b,ai sl b->H.size<=b)->K (((s.get k).1.toNat:Int),sl,(s.get k).2.2) H'):FP.sp (aD p) k H K:=by
 obtain⟨x,D,hd,hF⟩:=h
 refine FP.of ?_
 unfold FP.vc
 unfold Pl.get at hK
 have nil:∀b,ai (Sl.mk none 0 0) b->H.size<=b:=by rintro b ⟨ad,q,_⟩;cases q
 refine ub hd.al (λhw=>?_) (λhw hh=>?_) (λi f g hw hh hz hk=>?_)
 ·rw[if_pos hw] at hK
  exact aT (by simpa using hw) (hK _ H (cw.nil _ _ _) (.refl _ _) nil)
 ·rw[if_neg (λq=>q hw),hh] at hK
  exact aT rfl (hK _ H (cw.nil _ _ _) (.refl _ _) nil)
 ·have hfs:s.fs[i]?=some f:=by rw[hd.al.fs];simp[PG.fs,hz]
  rw[if_neg (λq=>q hw),hh] at hK
  simp only[Pl.iK hfs] at hK
  have hA:=hd.al.ay.each _ (Ki hz)
  refine ax rfl ⟨λH'=>Ext H H',.refl _ _,?_⟩
  simp only[aq]
  refine⟨(f.kind.toNat:Int),λH' e=>?_,?_⟩
  ·rw[bq]
   exact ag.cell (ag.ext hA.row e) rfl
  ·refine hA.row.ld (c:=ao) (i:=3) (x:=g.b) rfl ?_
   have hroom:=hd.al.wf.room f (Ki hfs)
   refine eN (jT hA.b) (by show f.b.length<=_;omega) λsl H' o m fr=>⟨m,hK sl H' o m fr⟩
theorem bC.HV {x:PG}{D:Nat->Prop}{H H':aa}{p dp:Nat}{s:Pl}{i:Nat}{f:Fr}{g g':rW}{u:Fr->Fr}(hg:Gl H)(h:bC x D H p dp s)(hz:x.zs[i]?=some (f,g))(hk:(u f).key=f.key)(hpi:(u f).pins=f.pins)(hl:(u f).left=f.left)(hb5:(u f).b.length<=504)(hp:g'.p=g.p)
  (hq:de H' g' (u f)) (hm:Mod (λb=>b=g.p) H H') (hb:∀b,g'.fp b->g.fp b\/H.size<=b):
  bC {x with zs:=x.zs.set i (u f,g')} D H' p dp (s.dB i u)/\Step (λb=>D b\/x.all p b) (λb=>D b\/PG.all {x with zs:=x.zs.set i (u f,g')} p b) H H':=by
 have hzm:=Ki hz
 have hfs:s.fs[i]?=some f:=by rw[h.al.fs];simp[PG.fs,hz]
 have h1:(u f).name=f.name:=congrArg RE hk
 have h2:(u f).ab=f.ab:=congrArg Sf hk
 obtain⟨t1,t2⟩:=h.al.ay.dB (H':=H') (z':=(u f,g')) hz h1 h2 hpi hp hq (λb _ hn hl=>hm.same b hl λe=>hn (e▸.inl rfl)) hb
 have hp2:bk {x with zs:=x.zs.set i (u f,g')} H' p dp (s.dB i u):=by
  refine⟨hm.at h.al.head λe=>bk.off h.al.head h.al.ay (e▸.inr (.inr ⟨_,hzm,.inl rfl⟩)),t1,?_,h.al.wf.dB hfs hk hpi hl hb5⟩
  show s.fs.modify i u=(x.zs.set i (u f,g')).map (·.1)
  rw[bY hfs,h.al.fs]
  simp[PG.fs,Nt]
 exact h.sA hg hp2 rfl (hm.mono λb _ e=>.inr (.inr (.inr ⟨_,hzm,.inl e⟩))) t2
theorem Bi {F:Nat->Prop}{H:aa}{p dp:Nat}{s:Pl}{k:Int}{kd:UInt8}{b:Sl}{l:List UInt8}{K:Int->aa->Prop}(hg:Gl H)(h:an F H p dp s)(hb:cG H b l)
  (hK:∀F' H',an F' H' p dp (s.set k kd l).1->Step F F' H H'->K (s.set k kd l).2 H'):CX.sp (aD p) k (kd.toNat:Int) b H K:=by
 have h00:=h
 obtain⟨x,D,hd,hF⟩:=h
 refine CX.of ?_
 unfold CX.vc
 unfold Pl.set at hK
 have hn:=hb.n
 refine ub hd.al (λhw=>?_) (λhw hh=>?_) (λi f g hw hh hz hk=>?_)
 ·rw[if_pos hw] at hK
  exact aT (by simpa using hw) (hK F H h00 (.refl _ _))
 ·rw[if_neg (λq=>q hw),hh] at hK
  exact aT rfl (hK F H h00 (.refl _ _))
 ·rw[if_neg (λq=>q hw),hh] at hK
  simp only at hK
  refine ax rfl (ak (λhl=>?_) (λhl=>?_))
  ·have hl':l.length>504:=by rw[hn] at hl;simp at hl;omega
   rw[if_pos hl'] at hK
   exact hK F H h00 (.refl _ _)
  ·have hl':¬l.length>504:=by rw[hn] at hl;simp at hl;omega
   rw[if_neg hl'] at hK
   refine eN hb (by omega) λsl H1 o1 m1 f1=>?_
   have hd1:=hd.ext m1
   have hg1:Gl H1:=hg.mod m1 id
   have hzm:=Ki hz
   have hA:=hd1.al.ay.each _ hzm
   simp only[aq]
   refine hA.row.st (i:=2) (by decide:2<7) (by rfl) λH2 r2 m2 z2=>?_
   refine r2.st (i:=3) (by decide:3<7) (by rfl) λH3 r3 m3 z3=>?_
   refine r3.st (i:=4) (by decide:4<7) (by rfl) λH4 r4 m4 z4=>?_
   have m14:Mod (λb=>b=g.p) H1 H4:=(m2.trans m3).trans m4
   have m04:Mod (λb=>b=g.p) H H4:=(Ext.mod m1).trans m14
   have hgH:g.p<H.size:=aG (hd.al.ay.each _ hzm).row
   have hq:de H4 ⟨g.p,sl⟩ (Fr.set kd l f):=by
    refine⟨r4,o1.aA λb hb hl=>m14.same b hl λe=>?_⟩
    have hb1:=f1 b hb
    have:b=g.p:=e
    omega
   obtain⟨q1,q2⟩:=hd.HV (g':=⟨g.p,sl⟩) (u:=Fr.set kd l) hg hz rfl rfl rfl (by show l.length<=504;omega) rfl hq m04 (by
    rintro b (e|hb)
    ·exact .inl (.inl e)
    ·exact .inr (f1 b hb))
   obtain⟨F',t1,t2⟩:=q1.out (x:=x) (D:=D) (F:=F) (H:=H) hF q2
   exact hK F' H4 t1 t2
theorem ze {h t:Int}{zs:List FZ}{i:Nat}{f:Fr}{g:rW}(hz:zs[i]?=some (f,g))(hd:((zs.map (·.1)).flatMap (·.pins)).Nodup)(hh:h∈f.pins):∀k v,(k,v)∈tN (zs.set i (Fr.bm h t f,g))↔(k,v)∈tN zs/\k≠.int .i64 h:=by
 intro k v
 have hil:=(Kj.1 hz).1
 have other:∀j (z:FZ),zs[j]?=some z->h∈z.1.pins->j=i:=by
  intro j z hj hm
  exact qP hd (i:=j) (j:=i) (f:=z.1) (g:=f) (by simp[hj]) (by simp[hz]) hm hh
 unfold tN
 simp only[LP]
 constructor
 ·rintro⟨z,hzs,e⟩
  rcases jR hzs with ⟨j,hji,hj⟩|rfl
  ·refine⟨⟨z,Ki hj,e⟩,λq=>?_⟩
   obtain⟨y,hy,e2⟩:=Kz.1 e
   simp only[LK] at e2
   rw[q] at e2
   simp only[N9,true_and] at e2
   rw[e2.1] at hy
   exact hji (other j z hj hy)
  ·obtain⟨y,hy,e2⟩:=Kz.1 e
   have hy':=KP.1 hy
   simp only[LK] at e2
   refine⟨⟨(f,g),Ki hz,Kz.2 ⟨y,hy'.1,by simp only[LK];exact e2⟩⟩,λq=>?_⟩
   rw[q] at e2
   simp only[N9,true_and] at e2
   have:=hy'.2
   rw[e2.1] at this
   simp at this
 ·rintro⟨⟨z,hzm,e⟩,hne⟩
  obtain⟨j,hj⟩:=Ko.1 hzm
  by_cases hij:i=j
  ·subst hij
   rw[hz] at hj;cases hj
   refine⟨(Fr.bm h t f,g),Ko.2 ⟨i,by simp[hil]⟩,?_⟩
   obtain⟨y,hy,e2⟩:=Kz.1 e
   refine Kz.2 ⟨y,KP.2 ⟨hy,?_⟩,e2⟩
   simp only[LK] at e2
   have:y≠h:=λq=>hne (by rw[<-e2.1,q])
   simp[this]
  ·exact⟨z,Ko.2 ⟨j,by rw[Le,if_neg hij];exact hj⟩,e⟩
theorem pO {F:Nat->Prop}{H:aa}{p dp:Nat}{s:Pl}{k:Int}{K:Int->aa->Prop}(hg:Gl H)(h:an F H p dp s)(hnx:s.next<9223372036854775807)
  (hK:∀F' H',an F' H' p dp (s.bm k).1->Step F F' H H'->K (s.bm k).2 H'):AP.sp (aD p) k H K:=by
 have h00:=h
 obtain⟨x,D,hd,hF⟩:=h
 refine AP.of ?_
 unfold AP.vc
 have hwf:=hd.al.wf.bm k hnx
 unfold Pl.bm at hK hwf
 refine ub hd.al (λhw=>?_) (λhw hh=>?_) (λi f g hw hh hz hk=>?_)
 ·rw[if_pos hw] at hK
  exact aT (by simpa using hw) (hK F H h00 (.refl _ _))
 ·rw[if_neg (λq=>q hw),hh] at hK
  exact aT rfl (hK F H h00 (.refl _ _))
 ·rw[if_neg (λq=>q hw),hh] at hK hwf
  simp only at hK hwf
  refine ax rfl ?_
  simp only[aq]
  have hzm:=Ki hz
  have hfs:s.fs[i]?=some f:=by rw[hd.al.fs];simp[PG.fs,hz]
  have hfl:f.pins.length<=s.pins:=pW (λf:Fr=>f.pins.length) s.fs i f hfs
  have ht:=hd.al.wf.tick
  have hA:=hd.al.ay.each _ hzm
  have hoff:=hd.al.ay.off hzm
  refine hd.al.head.ld (c:=cO) (i:=3) (x:=some x.mh) rfl ?_
  obtain⟨et,inf,hu,hdd,_,_⟩:=oI
  refine pK hu hdd hd.al.ay.hmap (k:=.int .i64 k) (show Ke=Ke from rfl) λes' H1 hm1 it _ mo1 z1=>?_
  have hpm:p≠x.mh:=λe=>bk.off hd.al.head hd.al.ay (.inr (.inl e))
  have hd1:ag H1 p Al (lM dp x s):=mo1.at hd.al.head hpm
  refine hd1.ld (c:=af .i64) (i:=5) (x:=s.tick) rfl ?_
  refine hd1.st (i:=5) (by decide:5<8) (by rfl) λH2 r2 m2 z2=>?_
  have hgm:g.p≠x.mh:=λe=>hoff.2 (.inl e.symm)
  have hpg:p≠g.p:=λe=>bk.off hd.al.head hd.al.ay (e▸.inr (.inr ⟨_,hzm,.inl rfl⟩))
  have hA2:ag H2 g.p GI (IN g f):=m2.at (mo1.at hA.row hgm) (λe=>hpg e.symm)
  refine hA2.ld (c:=af .i64) (i:=5) (x:=(f.pins.length:Int)) rfl ?_
  refine r2.ld (c:=af .i64) (i:=5) (x:=ff (s.tick+1)) rfl ?_
  refine hA2.st (i:=5) (by decide:5<7) (by rfl) λH3 r3 m3 z3=>?_
  refine r3.st (i:=6) (by decide:6<7) (by rfl) λH4 r4 m4 z4=>?_
  have hm04:Mod (λb=>b=g.p\/b=x.mh\/b=p) H H4:=(((mo1.mono λb _ e=>.inr (.inl e)).trans (m2.mono λb _ e=>.inr (.inr e))).trans (m3.mono λb _ e=>.inl e)).trans (m4.mono λb _ e=>.inl e)
  have hlen:=filter_one (kY hd.al.wf.pins hfs) hk
  have ew:Ke.wrap ((f.pins.length:Int) - 1)=(((Fr.bm k (ff (s.tick+1)) f).pins.length:Nat):Int):=by
   show _=(((f.pins.filter λx=>decide (x≠k)).length:Nat):Int)
   rw[wrap64 (by omega) (by omega)];omega
  have hq:de H4 g (Fr.bm k (ff (s.tick+1)) f):=by
   refine⟨?_,hA.b.aA λb hb hl=>hm04.same b hl ?_⟩
   ·rw[ew] at r4;exact r4
   ·obtain⟨c,q⟩:=hA.b.obj b hb
    rintro(e|e|e)
    ·rw[e] at q;exact absurd (aW hA.row q) (by decide)
    ·rw[e,hd.al.ay.hmap.obj] at q;cases q
    ·rw[e] at q;exact absurd (aW hd.al.head q) (by decide)
  have hpins:=hd.al.wf.pins
  rw[hd.al.fs] at hpins
  have m24:Mod (λb=>b=g.p) H2 H4:=m3.trans m4
  obtain⟨t1,t2⟩:=hd.al.ay.set (H':=H4) (z':=(Fr.bm k (ff (s.tick+1)) f,g)) (eh':=es') (ch':=x.ch) hz rfl rfl rfl hq (hm1.aA ((m24.same _ (by have:=hm1.lt;omega) (λe=>hgm e.symm)).trans (m2.same _ hm1.lt (λe=>hpm e.symm)))) (λa v=>by
   rw[it,hd.al.ay.entH,ze hz hpins hk]) (λb hb hn1 hn2 hl=>hm04.same b hl (by
    rintro(e|e|e)
    ·exact hn1 (.inl e)
    ·exact hn2 e
    ·exact bk.off hd.al.head hd.al.ay (e▸hb))) (λb hb=>.inl hb)
  have hp4:bk {x with zs:=x.zs.set i (Fr.bm k (ff (s.tick+1)) f,g),eh:=es',ch:=x.ch} H4 p dp {s with fs:=s.fs.modify i (Fr.bm k (ff (s.tick+1))),tick:=ff (s.tick+1)}:=by
   refine⟨m24.at r2 hpg,t1,?_,hwf⟩
   show s.fs.modify i _=(x.zs.set i _).map (·.1)
   rw[bY hfs,hd.al.fs]
   simp[PG.fs,Nt]
  obtain⟨q1,q2⟩:=hd.sA hg hp4 rfl (hm04.mono λb _ e=>by
   rcases e with e|e|e
   ·exact .inr (.inr (.inr ⟨_,hzm,.inl e⟩))
   ·exact .inr (.inr (.inl e))
   ·exact .inl e) t2
  obtain⟨F',t3,t4⟩:=q1.out (x:=x) (D:=D) (F:=F) (H:=H) hF q2
  exact hK F' H4 t3 t4
theorem Bz {F:Nat->Prop}{H:aa}{p dp:Nat}{s:Pl}{K:Option Addr->aa->Prop}(h:an F H p dp s)(hK:K (aD dp) H):Ff.sp (aD p) H K:=by
 obtain⟨x,D,hd,hF⟩:=h
 refine Ff.of ?_
 unfold Ff.vc
 refine ax rfl ?_
 exact hd.al.head.ld (c:=au) (i:=0) (x:=aD dp) rfl hK
theorem an.gT {F:Nat->Prop}{H:aa}{p dp:Nat}{s:Pl}(hg:Gl H)(h:an F H p dp s):∃D,bN D H dp s.d/\(∀b,D b->F b)/\∀D' H' d,bN D' H' dp d->Step D D' H H'->∃F',an F' H' p dp (s.cT d)/\Step F F' H H':=by
 obtain⟨x,D,hd,hF⟩:=h
 refine⟨D,hd.gT,λb hb=>(hF b).2 (.inl hb),λD' H' d hd' hS=>?_⟩
 obtain⟨q1,q2⟩:=hd.se hg hd' hS
 exact q1.out (x:=x) (D:=D) (F:=F) (H:=H) hF q2
theorem y0 {zs:List FZ}(h:((zs.map (·.1)).map Fr.key).Nodup):(xH zs).Nodup:=by
 have e:(zs.map (·.1)).map Fr.key=zs.map λz=>(z.1.name,z.1.ab):=by simp[Fr.key]
 rw[e] at h
 unfold xH
 unfold Po at h ⊢
 rw[Mi] at h ⊢
 refine h.imp λ{a b} hne q=>hne ?_
 simp only[LK] at q
 have:=lW q.1
 simp only[LK]
 exact⟨this.1,by omega⟩
theorem bk.perm {x:PG}{H:aa}{p dp:Nat}{s:Pl}(h:bk x H p dp s):(x.ef.toList.map λe=>(e.key,e.val)).Perm (xH x.zs):=by
 have hk:=h.wf.keys
 rw[h.fs] at hk
 have hst:=h.ay.fmap.stamped
 have hnd:(x.ef.toList.map λe=>(e.key,e.val)).Nodup:=by
  have:=hst.2.2
  unfold Po at this ⊢
  rw[Mi] at this ⊢
  exact this.imp λhne q=>hne (congrArg RE q)
 rw[List.perm_ext_iff_of_nodup hnd (y0 hk)]
 rintro⟨k,v⟩
 rw[<-h.ay.entF k v]
 constructor
 ·intro q
  obtain⟨e,he,q2⟩:=Kz.1 q
  simp only[LK] at q2
  exact⟨e,he,q2.1,q2.2⟩
 ·rintro⟨e,he,q1,q2⟩
  exact Kz.2 ⟨e,he,by rw[q1,q2]⟩
end Go.Proofs.YtkehfflpbpdokaaGreatDoor
