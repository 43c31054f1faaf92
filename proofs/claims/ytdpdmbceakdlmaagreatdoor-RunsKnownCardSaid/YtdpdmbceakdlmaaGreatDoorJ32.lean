/-
 The pool in plain words: what it holds, and what each call makes of it.
-/
import Derived.Test.YtdpdmbceakdlmaaGreatDoorDkm
import Derived.Test.YtdpdmbceakdlmaaGreatDoorDkb
import Derived.Test.YtdpdmbceakdlmaaGreatDoorPga
import Derived.Test.YtdpdmbceakdlmaaGreatDoorPgb
import Derived.Test.YtdpdmbceakdlmaaGreatDoorFxo
open Bool renaming and_eq_true->KR,true_and->P0
open Go.Addr renaming add->La
open Go.Builtin renaming delete_->Mk
open Go.Instr renaming lookup->L3
open Go.IntKind renaming i64->KG
open Go.Program renaming keyLits->QF
open Go.Proofs.Tryz renaming prog->KE
open Go.Value renaming formed->RV
open Go.Value.int renaming injEq->Oh
open Go.WideMaps renaming KeyLaw->Og
open Iff renaming rfl->Qa
open Int renaming toNat_natCast->KU,le_refl->Mc
open List renaming mem_of_getElem?->KH,getElem?_eq_some_iff->KI,getElem?_eq_getElem->KJ,mem_iff_getElem?->KQ,mem_append->KW,mem_map->KZ,mem_filter->K3,mem_cons->K8,getElem?_append_left->K9,getElem?_map->Le,length_append->Lj,flatMap_cons->Lk,length_cons->Ln,map_cons->Lp,getElem?_set->LD,map_append->LF,append_assoc->LG,mem_singleton->LI,mem_of_mem_eraseIdx->LQ,getElem?_append_right->LR,mem_flatMap->LZ,getElem?_eq_none->Mb,map_map->Md,findIdx?_eq_none_iff->Mi,findIdx?_eq_some_iff_getElem->Mm,sum_cons->Mp,nodup_append->Ms,getElem?_cons_succ->Mt,isEmpty_iff->MM,pairwise_map->MU,map_set->Ni,length_modify->Np,nodup_cons->Nr,filter_cons->Nz,map_nil->NI,length_singleton->NM,modify_succ_cons->NN,getElem?_inj->NU,pairwise_iff_getElem->N1,modify_zero_cons->Ox,length_eraseIdx_of_lt->O1,findIdx?_cons->Pj,Nodup->Pw,getElem?_cons_zero->Py,singleton_append->Qc,length_nil->Qg,pairwise_filter->Rj,perm_middle->RK
open List.Nodup renaming length_le_of_subset->M0
open List.Sublist renaming refl->QP
open Nat renaming le_refl->KN,eq_of_beq_eq_true->KX,beq->K6,le_trans->Lc,zero_le->Lh,le_succ->Lm,le_of_ble_eq_true->ME
open Option renaming map_eq_some_iff->ND
open Option.some renaming inj->K1,injEq->LC
open Prod renaming fst->QA,snd->QW
open Prod.mk renaming injEq->Lw
namespace Go.Proofs.YtdpdmbceakdlmaaGreatDoor
structure Fr where
 name:ByteArray
 page:Nat
 kind:UInt8
 b:List UInt8
 dirty:Bool
 pins:List Int
 left:Int
def JL:Fr:=⟨ByteArray.empty,0,0,[],false,[],0⟩
def Fr.dg (f:Fr):List UInt8:=bA f.kind f.b
structure Pl where
 d:Dk
 most:Nat
 fs:List Fr
 next:Int
 tick:Int
 peak:Nat
 wrong:Int
def Pl.frame (p:Pl)(i:Nat):Fr:=p.fs.getD i JL
def Pl.find (p:Pl)(n:ByteArray)(g:Int):Option Nat:=p.fs.findIdx? λf=>f.name.toList==n.toList&&decide ((f.page:Int)=g)
def Pl.held (p:Pl)(h:Int):Option Nat:=p.fs.findIdx? λf=>f.pins.contains h
def bad (e:Int):Bool:=e==4||e==5||e==20
def Pl.met (p:Pl)(e:Int):Pl:=if bad e then {p with wrong:=e} else p
def Pl.out (r:Pl×Int):Pl×Int:=(r.1.met r.2,r.2)
def Pl.aZ (p:Pl)(d:Dk):Pl:={p with d:=d}
def Pl.drop (p:Pl)(i:Nat):Pl:={p with fs:=p.fs.eraseIdx i}
def Pl.bf (p:Pl)(i:Nat)(u:Fr->Fr):Pl:={p with fs:=p.fs.modify i u}
def Fr.clean (f:Fr):Fr:={f with dirty:=false}
def Pl.put (p:Pl)(i:Nat):Pl×Int:=
 if (p.d.write (p.frame i).name (p.frame i).page (p.frame i).dg).2=0 then ((p.aZ (p.d.write (p.frame i).name (p.frame i).page (p.frame i).dg).1).bf i Fr.clean,0)
 else (p.aZ (p.d.write (p.frame i).name (p.frame i).page (p.frame i).dg).1,(p.d.write (p.frame i).name (p.frame i).page (p.frame i).dg).2)
def kP (f:Fr)(b:Option (Nat×Int)):Bool:=match b with|none=>true|some x=>decide (f.left<x.2)
def fS:List Fr->Nat->Option (Nat×Int)->Option (Nat×Int)
 |[],_,b=>b
 |f::l,i,b=>fS l (i+1) (if f.pins.isEmpty&&kP f b then some (i,f.left) else b)
def Pl.jS (p:Pl):Option Nat:=(fS p.fs 0 none).map (·.1)
def Pl.room (p:Pl):Pl×Int:=
 if p.fs.length<p.most then (p,0) else
 match p.jS with
 |none=>(p,31)
 |some i=>if (p.frame i).dirty then (if (p.put i).2=0 then ((p.put i).1.drop i,0) else p.put i) else (p.drop i,0)
def Fr.aR (h:Int)(f:Fr):Fr:={f with pins:=f.pins++[h]}
def Pl.dE (p:Pl)(i:Nat):Pl:={p with fs:=p.fs.modify i (Fr.aR p.next),next:=da (p.next+1)}
def Pl.add (p:Pl)(f:Fr):Pl:={p with fs:=p.fs++[f],peak:=max p.peak (p.fs.length+1)}
def Pl.take (p:Pl)(f:Fr):Pl:=(p.add f).dE p.fs.length
def Pl.load (p:Pl)(n:ByteArray)(g:Int):Pl×Option Fr×Int:=
 if (p.d.len n).2≠0 then (p,none,(p.d.len n).2)
 else if g<0\/g>=(p.d.len n).1 then (p,none,12)
 else if p.room.2≠0 then (p.room.1,none,p.room.2)
 else if (p.room.1.d.read n g).2≠0 then (p.room.1,none,(p.room.1.d.read n g).2)
 else match ez (p.room.1.d.read n g).1 with
  |none=>(p.room.1,none,20)
  |some (k,b)=>(p.room.1,some ⟨n,g.toNat,k,b,false,[],0⟩,0)
def Pl.aR (p:Pl)(n:ByteArray)(g:Int):Pl×Int×Int:=
 if p.wrong≠0 then (p,0,p.wrong) else
 match p.find n g with
 |some i=>(p.dE i,p.next,0)
 |none=>
   match p.load n g with
   |(q,some f,_)=>(q.take f,q.next,0)
   |(q,none,e)=>(q.met e,0,e)
def Pl.fresh (p:Pl)(n:ByteArray):Pl×Int×Int×Int:=
 if p.wrong≠0 then (p,0,0,p.wrong)
 else if (p.d.len n).2≠0 then (p.met (p.d.len n).2,0,0,(p.d.len n).2)
 else if p.room.2≠0 then (p.room.1.met p.room.2,0,0,p.room.2)
 else if (p.room.1.d.write n (p.d.len n).1 (bA 0 [])).2≠0 then ((p.room.1.aZ (p.room.1.d.write n (p.d.len n).1 (bA 0 [])).1).met (p.room.1.d.write n (p.d.len n).1 (bA 0 [])).2,0,0,(p.room.1.d.write n (p.d.len n).1 (bA 0 [])).2)
 else ((p.room.1.aZ (p.room.1.d.write n (p.d.len n).1 (bA 0 [])).1).take ⟨n,(p.d.len n).1,0,[],false,[],0⟩,p.room.1.next,(p.d.len n).1,0)
def Pl.get (p:Pl)(h:Int):UInt8×List UInt8×Int:=
 if p.wrong≠0 then (0,[],p.wrong) else match p.held h with
 |some i=>((p.frame i).kind,(p.frame i).b,0)
 |none=>(0,[],32)
def Fr.set (k:UInt8)(b:List UInt8)(f:Fr):Fr:={f with kind:=k,b:=b,dirty:=true}
def Pl.set (p:Pl)(h:Int)(k:UInt8)(b:List UInt8):Pl×Int:=
 if p.wrong≠0 then (p,p.wrong) else match p.held h with
 |some i=>if b.length>504 then (p,2) else (p.bf i (Fr.set k b),0)
 |none=>(p,32)
def Fr.aB (h t:Int)(f:Fr):Fr:={f with pins:=f.pins.filter (λx=>decide (x≠h)),left:=t}
def Pl.aB (p:Pl)(h:Int):Pl×Int:=
 if p.wrong≠0 then (p,p.wrong) else match p.held h with
 |some i=>({p with fs:=p.fs.modify i (Fr.aB h (da (p.tick+1))),tick:=da (p.tick+1)},0)
 |none=>(p,32)
def Pl.aU (p:Pl)(n:ByteArray):List Nat:=((p.fs.filter λf=>f.name.toList==n.toList).map (·.page)).mergeSort λa b=>decide (a<=b)
def Pl.aH (n:ByteArray):List Nat->Pl->Pl×Int
 |[],p=>(p,0)
 |k::l,p=>
   match p.find n k with
   |some i=>if (p.frame i).dirty then (if (p.put i).2=0 then aH n l (p.put i).1 else p.put i) else aH n l p
   |none=>aH n l p
def Pl.flush (p:Pl)(n:ByteArray):Pl×Int:=
 if p.wrong≠0 then (p,p.wrong)
 else if (p.d.len n).2≠0 then Pl.out (p,(p.d.len n).2)
 else if (Pl.aH n (p.aU n) p).2≠0 then Pl.out (Pl.aH n (p.aU n) p)
 else Pl.out ((Pl.aH n (p.aU n) p).1.aZ ((Pl.aH n (p.aU n) p).1.d.sync n).1,((Pl.aH n (p.aU n) p).1.d.sync n).2)
def Pl.pinned (p:Pl):Nat:=(p.fs.filter λf=>!f.pins.isEmpty).length
def pl0 (d:Dk)(m:Nat):Pl:=⟨d,m,[],1,0,0,0⟩
def Fr.key (f:Fr):ByteArray×Nat:=(f.name,f.page)
def Pl.pins (p:Pl):Nat:=(p.fs.map λf=>f.pins.length).sum
structure Pl.WF (p:Pl):Prop where
 keys:(p.fs.map Fr.key).Nodup
 len:p.fs.length<=p.most
 most:8<=p.most/\p.most<=4096
 room:∀f∈p.fs,f.b.length<=504
 au:∀f∈p.fs,f.page<1048577/\f.name.size<=9223372036854775807
 pins:(p.fs.flatMap (·.pins)).Nodup
 old:∀f∈p.fs,∀h∈f.pins,1<=h/\h<p.next
 tick:0<=p.tick/\p.tick+p.pins<p.next
 lefts:∀(i j:Nat) (f g:Fr),p.fs[i]?=some f->p.fs[j]?=some g->f.pins=[]->g.pins=[]->f.left=g.left->i=j
 past:∀f∈p.fs,0<=f.left/\f.left<=p.tick
 peak:p.fs.length<=p.peak/\p.peak<=p.most
theorem nL {α:Type}{l:List α}{q:α->Bool}{i:Nat}{x:α}(hx:l[i]?=some x)(hq:q x=true)(hu:∀j y,l[j]?=some y->q y=true->j=i):l.findIdx? q=some i:=by
 obtain⟨hi,rfl⟩:=KI.1 hx
 rw[Mm]
 refine⟨hi,hq,λj hj=>?_⟩
 cases h:q l[j] with
 |false=>simp
 |true=>have:=hu j _ (KJ (by omega)) h;omega
theorem kL {α:Type}{l:List α}{q:α->Bool}{i:Nat}(h:l.findIdx? q=some i):∃x,l[i]?=some x/\q x=true:=by
 rw[Mm] at h
 obtain⟨h1,h2,_⟩:=h
 exact⟨l[i],KJ h1,h2⟩
theorem Pl.cX {p:Pl}{i:Nat}{f:Fr}(h:p.fs[i]?=some f):p.frame i=f:=by simp[Pl.frame,h]
theorem Pl.eS {p:Pl}{n:ByteArray}{g:Int}{i:Nat}(h:p.find n g=some i):∃f,p.fs[i]?=some f/\f.name=n/\(f.page:Int)=g:=by
 obtain⟨f,h1,h2⟩:=kL h
 simp only[KR,beq_iff_eq,decide_eq_true_eq] at h2
 exact⟨f,h1,iP h2.1,h2.2⟩
theorem Pl.fX {p:Pl}{n:ByteArray}{g:Int}(h:p.find n g=none):∀f∈p.fs,f.name=n->(f.page:Int)≠g:=by
 unfold Pl.find at h
 rw[Mi] at h
 intro f hf e e2
 have:=h f hf
 rw[e] at this
 simp[e2] at this
theorem key_inj {p:Pl}(h:(p.fs.map Fr.key).Nodup){i j:Nat}{f g:Fr}(hi:p.fs[i]?=some f)(hj:p.fs[j]?=some g)(e1:f.name=g.name)(e2:f.page=g.page):i=j:=by
 have hi':=(KI.1 hi).1
 refine(NU (l:=p.fs.map Fr.key) (by simpa using hi') h).1 ?_
 rw[Le,Le,hi,hj]
 simp[Fr.key,e1,e2]
theorem Pl.find_eq {p:Pl}(hw:p.WF){i:Nat}{f:Fr}(h:p.fs[i]?=some f):p.find f.name f.page=some i:=by
 refine nL h (by simp) λj g hj hg=>?_
 simp only[KR,beq_iff_eq,decide_eq_true_eq] at hg
 exact key_inj hw.keys hj h (iP hg.1) (by omega)
theorem Pl.eU {p:Pl}{h:Int}{i:Nat}(e:p.held h=some i):∃f,p.fs[i]?=some f/\h∈f.pins:=by
 obtain⟨f,h1,h2⟩:=kL e
 exact⟨f,h1,by simpa using h2⟩
theorem q9 {α β:Type}{u:α->List β}:∀{l:List α},(l.flatMap u).Nodup->∀{i j:Nat} {f g:α} {x:β},l[i]?=some f->l[j]?=some g->x∈u f->x∈u g->i=j
 |[],_,i,j,f,g,x,hi,_,_,_=>by simp at hi
 |a::l,h,i,j,f,g,x,hi,hj,hf,hg=>by
   rw[Lk,Ms] at h
   obtain⟨h1,h2,h3⟩:=h
   match i,j with
   |0,0=>rfl
   |0,j+1=>
     simp only[Py,LC,Mt] at hi hj
     subst hi
     exact absurd rfl (h3 x hf x (LZ.2 ⟨g,KH hj,hg⟩))
   |i+1,0=>
     simp only[Py,LC,Mt] at hi hj
     subst hj
     exact absurd rfl (h3 x hg x (LZ.2 ⟨f,KH hi,hf⟩))
   |i+1,j+1=>
     simp only[Mt] at hi hj
     rw[q9 h2 hi hj hf hg]
theorem Pl.qg {p:Pl}(hw:p.WF){i:Nat}{f:Fr}{h:Int}(e:p.fs[i]?=some f)(hm:h∈f.pins):p.held h=some i:=
 nL e (by simpa using hm) λ_ _ hj hg=>q9 hw.pins hj e (by simpa using hg) hm
def qR (l:List Fr)(b:Option (Nat×Int)):Prop:=
 match b with
 |none=>∀f∈l,f.pins≠[]
 |some (i,t)=>∃f,l[i]?=some f/\f.pins=[]/\f.left=t/\∀g∈l,g.pins=[]->t<=g.left
theorem qK:∀(r l:List Fr) (b:Option (Nat×Int)),qR l b->qR (l++r) (fS r l.length b)
 |[],l,b,h=>by simpa[fS] using h
 |f::r,l,b,h=>by
   unfold fS
   have key:qR (l++[f]) (if f.pins.isEmpty&&kP f b then some (l.length,f.left) else b):=by
    cases hp:f.pins.isEmpty with
    |false=>
      have hne:f.pins≠[]:=by intro e;rw[e] at hp;cases hp
      rw[Bool.false_and,if_neg (by simp)]
      cases b with
      |none=>
        intro g hg
        rcases KW.1 hg with q|q
        ·exact h g q
        ·simp at q;subst q;exact hne
      |some it=>
        obtain⟨i,t⟩:=it
        obtain⟨g,h1,h2,h3,h4⟩:=h
        refine⟨g,?_,h2,h3,λx hx hxp=>?_⟩
        ·rw[K9 (KI.1 h1).1];exact h1
        ·rcases KW.1 hx with q|q
         ·exact h4 x q hxp
         ·simp at q;subst q;exact absurd hxp hne
    |true=>
      have he:f.pins=[]:=MM.1 hp
      cases b with
      |none=>
        rw[P0,show kP f none=true from rfl,if_pos rfl]
        refine⟨f,by simp,he,rfl,λx hx hxp=>?_⟩
        rcases KW.1 hx with q|q
        ·exact absurd hxp (h x q)
        ·simp at q;subst q;exact Mc _
      |some it=>
        obtain⟨i,t⟩:=it
        obtain⟨g,h1,h2,h3,h4⟩:=h
        rw[P0]
        by_cases hlt:f.left<t
        ·rw[show kP f (some (i,t))=true from by simp[kP,hlt],if_pos rfl]
         refine⟨f,by simp,he,rfl,λx hx hxp=>?_⟩
         rcases KW.1 hx with q|q
         ·have:=h4 x q hxp;omega
         ·simp at q;subst q;exact Mc _
        ·rw[show kP f (some (i,t))=false from by simp[kP,hlt],if_neg (by simp)]
         refine⟨g,?_,h2,h3,λx hx hxp=>?_⟩
         ·rw[K9 (KI.1 h1).1];exact h1
         ·rcases KW.1 hx with q|q
          ·exact h4 x q hxp
          ·simp at q;subst q;omega
   have:=qK r (l++[f]) _ key
   rw[Lj,NM,LG,Qc] at this
   exact this
theorem Pl.yT (p:Pl):qR p.fs (fS p.fs 0 none):=by
 have:=qK p.fs [] none (by intro f hf;cases hf)
 simpa using this
theorem Pl.tu {p:Pl}(h:p.jS=none):∀f∈p.fs,f.pins≠[]:=by
 have:=p.yT
 unfold Pl.jS at h
 rw[Option.map_eq_none_iff] at h
 rw[h] at this
 exact this
theorem Pl.hC {p:Pl}{i:Nat}(h:p.jS=some i):∃f,p.fs[i]?=some f/\f.pins=[]/\∀g∈p.fs,g.pins=[]->f.left<=g.left:=by
 have:=p.yT
 unfold Pl.jS at h
 rw[ND] at h
 obtain⟨⟨j,t⟩,h1,rfl⟩:=h
 rw[h1] at this
 obtain⟨f,q1,q2,q3,q4⟩:=this
 exact⟨f,q1,q2,λg hg hp=>by rw[q3];exact q4 g hg hp⟩
theorem Pl.FJ {p:Pl}(hw:p.WF){i:Nat}{f:Fr}(hf:p.fs[i]?=some f)(hp:f.pins=[])(hb:∀g∈p.fs,g.pins=[]->f.left<=g.left):p.jS=some i:=by
 cases h:p.jS with
 |none=>exact absurd hp (Pl.tu h f (KH hf))
 |some j=>
   obtain⟨g,h1,h2,h3⟩:=Pl.hC h
   have e1:=hb g (KH h1) h2
   have e2:=h3 f (KH hf) hp
   rw[hw.lefts j i g f h1 hf h2 hp (by omega)]
theorem Pl.WF.ah {p q:Pl}(h:p.WF)(hf:q.fs=p.fs)(hm:q.most=p.most)(hn:q.next=p.next)(ht:q.tick=p.tick)(hk:q.peak=p.peak):q.WF:=by
 obtain⟨d,most,fs,next,tick,peak,wrong⟩:=q
 obtain⟨d',most',fs',next',tick',peak',wrong'⟩:=p
 simp only at hf hm hn ht hk
 subst hf;subst hm;subst hn;subst ht;subst hk
 exact⟨h.keys,h.len,h.most,h.room,h.au,h.pins,h.old,h.tick,h.lefts,h.past,h.peak⟩
theorem Pl.WF.aZ {p:Pl}(h:p.WF)(d:Dk):(p.aZ d).WF:=h.ah rfl rfl rfl rfl rfl
theorem Pl.WF.met {p:Pl}(h:p.WF)(e:Int):(p.met e).WF:=by
 unfold Pl.met
 split
 ·exact h.ah rfl rfl rfl rfl rfl
 ·exact h
theorem fq {α β:Type}(u:α->List β)(g:α->α):∀(l:List α) (i:Nat) (x:α),l[i]?=some x->u (g x)=u x->(l.modify i g).flatMap u=l.flatMap u
 |[],i,x,h,_=>by simp at h
 |a::l,0,x,h,e=>by simp at h;subst h;simp[e]
 |a::l,i+1,x,h,e=>by
   simp only[Mt] at h
   simp[fq u g l i x h e]
theorem cP {α β:Type}(u:α->β)(g:α->α)(l:List α)(i:Nat)(x:α)(h:l[i]?=some x)(e:u (g x)=u x):(l.modify i g).map u=l.map u:=by
 have:=fq (λy=>[u y]) g l i x h (by simp[e])
 simpa[List.flatMap_singleton',List.map_eq_flatMap] using this
theorem mem_modify {α:Type}{l:List α}{i:Nat}{g:α->α}{x y:α}(hx:l[i]?=some x)(hy:y∈l.modify i g):y∈l\/y=g x:=by
 obtain⟨j,hj⟩:=KQ.1 hy
 by_cases e:i=j
 ·subst e;rw[bo hx] at hj;cases hj;exact .inr rfl
 ·rw[bq e] at hj;exact .inl (KH hj)
theorem Pl.WF.bf {p:Pl}(h:p.WF){i:Nat}{f:Fr}{u:Fr->Fr}(hf:p.fs[i]?=some f)(hk:(u f).key=f.key)(hp:(u f).pins=f.pins)(hl:(u f).left=f.left)(hb:(u f).b.length<=504):(p.bf i u).WF:=by
 have hm:=KH hf
 have get:∀(j:Nat) (g:Fr),(p.fs.modify i u)[j]?=some g->∃g',p.fs[j]?=some g'/\g.pins=g'.pins/\g.left=g'.left:=by
  intro j g hj
  by_cases e:i=j
  ·subst e;rw[bo hf] at hj;cases hj;exact⟨f,hf,hp,hl⟩
  ·rw[bq e] at hj;exact⟨g,hj,rfl,rfl⟩
 refine⟨?_,?_,h.most,?_,?_,?_,?_,?_,?_,?_,?_⟩
 ·show ((p.fs.modify i u).map Fr.key).Nodup
  rw[cP Fr.key u p.fs i f hf hk];exact h.keys
 ·show (p.fs.modify i u).length<=p.most
  rw[Np];exact h.len
 ·intro g hg
  rcases mem_modify hf hg with q|q
  ·exact h.room g q
  ·subst q;exact hb
 ·intro g hg
  rcases mem_modify hf hg with q|q
  ·exact h.au g q
  ·subst q
   have e1:(u f).page=f.page:=congrArg QW hk
   have e2:(u f).name=f.name:=congrArg QA hk
   rw[e1,e2];exact h.au f hm
 ·show ((p.fs.modify i u).flatMap (·.pins)).Nodup
  rw[fq (·.pins) u p.fs i f hf hp];exact h.pins
 ·intro g hg
  rcases mem_modify hf hg with q|q
  ·exact h.old g q
  ·subst q;rw[hp];exact h.old f hm
 ·refine⟨h.tick.1,?_⟩
  have e:(p.bf i u).pins=p.pins:=by
   show ((p.fs.modify i u).map λf=>f.pins.length).sum=_
   rw[cP (λf=>f.pins.length) u p.fs i f hf (by rw[hp])];rfl
  rw[e];exact h.tick.2
 ·intro a b x y hx hy hxp hyp hxy
  obtain⟨x',q1,q2,q3⟩:=get a x hx
  obtain⟨y',r1,r2,r3⟩:=get b y hy
  exact h.lefts a b x' y' q1 r1 (by rw[<-q2];exact hxp) (by rw[<-r2];exact hyp) (by rw[<-q3,<-r3];exact hxy)
 ·intro g hg
  rcases mem_modify hf hg with q|q
  ·exact h.past g q
  ·subst q;rw[hl];exact h.past f hm
 ·show (p.fs.modify i u).length<=p.peak/\_
  rw[Np];exact h.peak
theorem Pl.WF.put {p:Pl}(h:p.WF){i:Nat}{f:Fr}(hf:p.fs[i]?=some f):(p.put i).1.WF:=by
 unfold Pl.put
 split
 ·exact(h.aZ _).bf hf rfl rfl rfl (h.room f (KH hf))
 ·exact h.aZ _
theorem pL {α β:Type}(u:α->List β){l r:List α}(h:l.Sublist r):(l.flatMap u).Sublist (r.flatMap u):=by
 induction h with
 |slnil=>simp
 |cons a _ ih=>rw[Lk];exact ih.trans (List.sublist_append_right _ _)
 |cons_cons a _ ih=>rw[Lk,Lk];exact(QP _).append ih
theorem vZ {α:Type}(u:α->Nat){l r:List α}(h:l.Sublist r):(l.map u).sum<=(r.map u).sum:=by
 induction h with
 |slnil=>simp
 |cons a _ ih=>rw[Lp,Mp];omega
 |cons_cons a _ ih=>rw[Lp,Mp,Lp,Mp];omega
theorem Pl.WF.sub {p q:Pl}(h:p.WF)(hs:q.fs.Sublist p.fs)(hm:q.most=p.most)(hn:q.next=p.next)(ht:q.tick=p.tick)(hk:q.peak=p.peak):q.WF:=by
 have hmem:∀f∈q.fs,f∈p.fs:=λf hf=>hs.subset hf
 have hlen:=hs.length_le
 refine⟨?_,by rw[hm];have:=h.len;omega,by rw[hm];exact h.most,λf hf=>h.room f (hmem f hf),λf hf=>h.au f (hmem f hf),?_,λf hf=>by rw[hn];exact h.old f (hmem f hf),?_,?_,λf hf=>by rw[ht];exact h.past f (hmem f hf),by rw[hk,hm];have:=h.peak;omega⟩
 ·exact(hs.map Fr.key).nodup h.keys
 ·exact(pL (·.pins) hs).nodup h.pins
 ·rw[ht,hn]
  refine⟨h.tick.1,?_⟩
  have:q.pins<=p.pins:=by
   unfold Pl.pins
   exact vZ (λf:Fr=>f.pins.length) hs
  have:=h.tick.2
  omega
 ·-- frames that none holds differ in when they were left
  have hpw:(p.fs.filter λf=>f.pins.isEmpty).Pairwise (λf g=>f.left≠g.left):=by
   rw[Rj,N1]
   intro i j hi hj hij hfi hfj e
   have:=h.lefts i j _ _ (KJ hi) (KJ hj) (MM.1 hfi) (MM.1 hfj) e
   omega
  have hpw2:(q.fs.filter λf=>f.pins.isEmpty).Pairwise (λf g=>f.left≠g.left):=hpw.sublist (hs.filter _)
  rw[Rj,N1] at hpw2
  intro i j f g hi hj hfp hgp e
  obtain⟨hi',rfl⟩:=KI.1 hi
  obtain⟨hj',rfl⟩:=KI.1 hj
  rcases Nat.lt_trichotomy i j with q1|q1|q1
  ·exact absurd e (hpw2 i j hi' hj' q1 (MM.2 hfp) (MM.2 hgp))
  ·exact q1
  ·exact absurd e.symm (hpw2 j i hj' hi' q1 (MM.2 hgp) (MM.2 hfp))
theorem Pl.WF.drop {p:Pl}(h:p.WF)(i:Nat):(p.drop i).WF:=h.sub (List.eraseIdx_sublist _ _) rfl rfl rfl rfl
theorem Pl.lf (p:Pl)(i:Nat):(p.put i).1.fs.length=p.fs.length:=by
 unfold Pl.put
 split
 ·show (p.fs.modify i _).length=_;rw[Np]
 ·rfl
theorem Pl.nB (p:Pl)(i:Nat):(p.put i).1.most=p.most/\(p.put i).1.next=p.next/\(p.put i).1.tick=p.tick/\(p.put i).1.peak=p.peak/\(p.put i).1.wrong=p.wrong:=by
 unfold Pl.put;split<;>exact⟨rfl,rfl,rfl,rfl,rfl⟩
theorem Pl.bJ (p:Pl):p.room.1.most=p.most/\p.room.1.next=p.next/\p.room.1.tick=p.tick/\p.room.1.peak=p.peak/\p.room.1.wrong=p.wrong:=by
 unfold Pl.room
 split
 ·exact⟨rfl,rfl,rfl,rfl,rfl⟩
 ·split
  ·exact⟨rfl,rfl,rfl,rfl,rfl⟩
  ·split
   ·split
    ·exact p.nB _
    ·exact p.nB _
   ·exact⟨rfl,rfl,rfl,rfl,rfl⟩
theorem Pl.WF.oG {p:Pl}(h:p.WF):p.room.1.WF/\(p.room.2=0->p.room.1.fs.length<p.most):=by
 unfold Pl.room
 split
 ·rename_i q;exact⟨h,λ_=>q⟩
 ·split
  ·exact⟨h,λq=>by cases q⟩
  ·rename_i i hi
   obtain⟨f,hf,_,_⟩:=Pl.hC hi
   have hil:=(KI.1 hf).1
   have hlen:=h.len
   split
   ·split
    ·refine⟨(h.put hf).drop i,λ_=>?_⟩
     show ((p.put i).1.fs.eraseIdx i).length<p.most
     rw[O1 (by rw[Pl.lf];exact hil),Pl.lf];omega
    ·rename_i q
     exact⟨h.put hf,λq'=>absurd q' q⟩
   ·refine⟨h.drop i,λ_=>?_⟩
    show (p.fs.eraseIdx i).length<p.most
    rw[O1 hil];omega
theorem pE {h:Int}:∀(l:List Fr) (i:Nat) (f:Fr),l[i]?=some f->((l.modify i (Fr.aR h)).flatMap (·.pins)).Perm (h::l.flatMap (·.pins))
 |[],i,f,e=>by simp at e
 |a::l,0,f,e=>by
   simp only[Ox,Lk,Fr.aR,LG,Qc]
   exact RK
 |a::l,i+1,f,e=>by
   simp only[Mt] at e
   simp only[NN,Lk]
   exact((pE l i f e).append_left a.pins).trans RK
theorem Pl.WF.dE {p:Pl}(h:p.WF){i:Nat}{f:Fr}(hf:p.fs[i]?=some f)(hn:p.next<9223372036854775807):(p.dE i).WF:=by
 have hm:=KH hf
 have ht:=h.tick
 have hw:da (p.next+1)=p.next+1:=by unfold da;exact wrap64 (by omega) (by omega)
 refine⟨?_,?_,h.most,?_,?_,?_,?_,?_,?_,?_,?_⟩
 ·show ((p.fs.modify i _).map Fr.key).Nodup
  rw[cP Fr.key _ p.fs i f hf rfl];exact h.keys
 ·show (p.fs.modify i _).length<=p.most
  rw[Np];exact h.len
 ·intro g hg
  rcases mem_modify hf hg with q|q
  ·exact h.room g q
  ·subst q;exact h.room f hm
 ·intro g hg
  rcases mem_modify hf hg with q|q
  ·exact h.au g q
  ·subst q;exact h.au f hm
 ·show ((p.fs.modify i _).flatMap (·.pins)).Nodup
  rw[(pE p.fs i f hf).nodup_iff,Nr]
  refine⟨λhx=>?_,h.pins⟩
  obtain⟨g,hg,hgp⟩:=LZ.1 hx
  have:=(h.old g hg _ hgp).2;omega
 ·intro g hg x hx
  show 1<=x/\x<da (p.next+1)
  rw[hw]
  rcases mem_modify hf hg with q|q
  ·have:=h.old g q x hx;omega
  ·subst q
   rcases KW.1 hx with r|r
   ·have:=h.old f hm x r;omega
   ·simp at r;omega
 ·show 0<=p.tick/\p.tick+(((p.fs.modify i (Fr.aR p.next)).map λf=>f.pins.length).sum:Nat)<da (p.next+1)
  rw[hw]
  have:=eM (λf:Fr=>f.pins.length) (Fr.aR p.next) p.fs i f hf
  simp only[Fr.aR,Lj,NM] at this
  unfold Pl.pins at ht
  exact⟨ht.1,by omega⟩
 ·intro a b x y hx hy hxp hyp hxy
  have ne:∀(j:Nat) (g:Fr),(p.fs.modify i (Fr.aR p.next))[j]?=some g->g.pins=[]->p.fs[j]?=some g:=by
   intro j g hj hg
   by_cases e:i=j
   ·subst e;rw[bo hf] at hj;cases hj;simp[Fr.aR] at hg
   ·rw[bq e] at hj;exact hj
  exact h.lefts a b x y (ne a x hx hxp) (ne b y hy hyp) hxp hyp hxy
 ·intro g hg
  rcases mem_modify hf hg with q|q
  ·exact h.past g q
  ·subst q;exact h.past f hm
 ·show (p.fs.modify i _).length<=p.peak/\_
  rw[Np];exact h.peak
theorem Pl.HK (p:Pl)(f:Fr):(p.add f).fs[p.fs.length]?=some f:=by simp[Pl.add]
theorem Pl.WF.take {p:Pl}(h:p.WF){f:Fr}(hl:p.fs.length<p.most)(hn:p.next<9223372036854775807)(hk:p.find f.name f.page=none)(hb:f.b.length<=504)(hpg:f.page<1048577)(hnm:f.name.size<=9223372036854775807)(hp:f.pins=[])(hlf:f.left=0):(p.take f).WF:=by
 have ht:=h.tick
 have hw:da (p.next+1)=p.next+1:=by unfold da;exact wrap64 (by omega) (by omega)
 have e:(p.take f).fs=p.fs++[Fr.aR p.next f]:=by
  show (p.fs++[f]).modify p.fs.length (Fr.aR p.next)=_
  have ha:(p.fs++[f])[p.fs.length]?=some f:=p.HK f
  rw[aS ha]
  simp
 have mem:∀g∈(p.take f).fs,g∈p.fs\/g=Fr.aR p.next f:=λg hg=>by
  rw[e] at hg;simpa using hg
 have hnx:(p.take f).next=p.next+1:=hw
 have hpk:=h.peak
 refine⟨?_,?_,h.most,?_,?_,?_,?_,?_,?_,?_,?_⟩
 ·rw[e,LF,Ms]
  refine⟨h.keys,by simp,λa ha b hb2=>?_⟩
  obtain⟨g,hg,rfl⟩:=KZ.1 ha
  simp only[Lp,NI,LI] at hb2
  subst hb2
  intro eq
  have e1:g.name=f.name:=congrArg QA eq
  have e2:g.page=f.page:=congrArg QW eq
  exact Pl.fX hk g hg e1 (by omega)
 ·rw[e];show _<=p.most;simp;omega
 ·intro g hg
  rcases mem g hg with q|q
  ·exact h.room g q
  ·subst q;exact hb
 ·intro g hg
  rcases mem g hg with q|q
  ·exact h.au g q
  ·subst q;exact⟨hpg,hnm⟩
 ·rw[e,List.flatMap_append,Ms]
  refine⟨h.pins,by simp[Fr.aR,hp],λa ha b hb2=>?_⟩
  obtain⟨g,hg,hga⟩:=LZ.1 ha
  simp[Fr.aR,hp] at hb2
  have:=(h.old g hg a hga).2;omega
 ·intro g hg x hx
  rw[hnx]
  rcases mem g hg with q|q
  ·have:=h.old g q x hx;omega
  ·subst q
   simp[Fr.aR,hp] at hx
   omega
 ·rw[hnx]
  refine⟨ht.1,?_⟩
  have:(p.take f).pins=p.pins+1:=by
   unfold Pl.pins;rw[e];simp[Fr.aR,hp]
  show p.tick+_<_
  rw[this];omega
 ·intro a b x y hx hy hxp hyp hxy
  rw[e] at hx hy
  have ne:∀(j:Nat) (g:Fr),(p.fs++[Fr.aR p.next f])[j]?=some g->g.pins=[]->p.fs[j]?=some g:=by
   intro j g hj hg
   rw[List.getElem?_append] at hj
   split at hj
   ·exact hj
   ·have:g=Fr.aR p.next f:=by have:=KH hj;simpa using this
    subst this;simp[Fr.aR] at hg
  exact h.lefts a b x y (ne a x hx hxp) (ne b y hy hyp) hxp hyp hxy
 ·intro g hg
  rcases mem g hg with q|q
  ·exact h.past g q
  ·subst q
   show 0<=f.left/\f.left<=p.tick
   rw[hlf];exact⟨Mc _,ht.1⟩
 ·rw[e];show _<=max p.peak (p.fs.length+1)/\max p.peak (p.fs.length+1)<=p.most
  simp only[Lj,NM]
  omega
theorem filter_one {h:Int}{l:List Int}(hd:l.Nodup)(hm:h∈l):(l.filter λx=>decide (x≠h)).length+1=l.length:=by
 induction l with
 |nil=>cases hm
 |cons a l ih=>
   rw[Nr] at hd
   rw[Nz]
   by_cases e:a=h
   ·subst e
    have:l.filter (λx=>decide (x≠a))=l:=by
     rw[List.filter_eq_self]
     intro x hx
     have:x≠a:=λe=>hd.1 (e▸hx)
     simp[this]
    rw[this];simp
   ·have hm':h∈l:=by
     rcases K8.1 hm with q|q
     ·exact absurd q.symm e
     ·exact q
    have:=ih hd.2 hm'
    simp only[ne_eq,e,not_false_eq_true,decide_true,if_true,Ln]
    simp only[ne_eq] at this
    omega
theorem mO {α β:Type}{u:α->List β}:∀{l:List α},(l.flatMap u).Nodup->∀{i:Nat} {x:α},l[i]?=some x->(u x).Nodup
 |[],_,i,x,h=>by simp at h
 |a::l,hd,0,x,h=>by
   rw[Lk,Ms] at hd
   simp at h;subst h;exact hd.1
 |a::l,hd,i+1,x,h=>by
   rw[Lk,Ms] at hd
   exact mO hd.2.1 (by simpa using h)
theorem pD {α β:Type}(u:α->List β)(g:α->α)(hg:∀x,(u (g x)).Sublist (u x)):∀(l:List α) (i:Nat),((l.modify i g).flatMap u).Sublist (l.flatMap u)
 |[],i=>by simp
 |a::l,0=>by
   simp only[Ox,Lk]
   exact(hg a).append (QP _)
 |a::l,i+1=>by
   simp only[NN,Lk]
   exact(QP _).append (pD u g hg l i)
theorem Pl.WF.aB {p:Pl}(hw:p.WF)(h:Int)(hn:p.next<9223372036854775807):(p.aB h).1.WF:=by
 unfold Pl.aB
 split
 ·exact hw
 ·split
  ·rename_i i hi
   obtain⟨f,hf,hm⟩:=Pl.eU hi
   have hfm:=KH hf
   have ht:=hw.tick
   have hpins:=filter_one (mO hw.pins hf) hm
   have hfl:f.pins.length<=p.pins:=ki (λf:Fr=>f.pins.length) p.fs i f hf
   have hwt:da (p.tick+1)=p.tick+1:=by unfold da;exact wrap64 (by omega) (by omega)
   rw[hwt]
   have get:∀(j:Nat) (g:Fr),(p.fs.modify i (Fr.aB h (p.tick+1)))[j]?=some g->(j=i/\g=Fr.aB h (p.tick+1) f)\/(j≠i/\p.fs[j]?=some g):=by
    intro j g hj
    by_cases e:i=j
    ·subst e;rw[bo hf] at hj;cases hj;exact .inl ⟨rfl,rfl⟩
    ·rw[bq e] at hj;exact .inr ⟨λq=>e q.symm,hj⟩
   refine⟨?_,?_,hw.most,?_,?_,?_,?_,?_,?_,?_,?_⟩
   ·show ((p.fs.modify i _).map Fr.key).Nodup
    rw[cP Fr.key _ p.fs i f hf rfl];exact hw.keys
   ·show (p.fs.modify i _).length<=p.most
    rw[Np];exact hw.len
   ·intro g hg
    rcases mem_modify hf hg with q|q
    ·exact hw.room g q
    ·subst q;exact hw.room f hfm
   ·intro g hg
    rcases mem_modify hf hg with q|q
    ·exact hw.au g q
    ·subst q;exact hw.au f hfm
   ·exact(pD (·.pins) (Fr.aB h (p.tick+1)) (λx=>List.filter_sublist) p.fs i).nodup hw.pins
   ·intro g hg x hx
    rcases mem_modify hf hg with q|q
    ·exact hw.old g q x hx
    ·subst q;exact hw.old f hfm x (K3.1 hx).1
   ·show 0<=p.tick+1/\p.tick+1+(((p.fs.modify i (Fr.aB h (p.tick+1))).map λf=>f.pins.length).sum:Nat)<p.next
    have:=eM (λf:Fr=>f.pins.length) (Fr.aB h (p.tick+1)) p.fs i f hf
    simp only[Fr.aB] at this
    unfold Pl.pins at ht
    constructor
    ·omega
    ·omega
   ·intro a b x y hx hy hxp hyp hxy
    rcases get a x hx with ⟨q1,q2⟩|⟨q1,q2⟩
    ·rcases get b y hy with ⟨r1,r2⟩|⟨r1,r2⟩
     ·omega
     ·have:=hw.past y (KH r2)
      rw[q2] at hxy
      simp only[Fr.aB] at hxy
      omega
    ·rcases get b y hy with ⟨r1,r2⟩|⟨r1,r2⟩
     ·have:=hw.past x (KH q2)
      rw[r2] at hxy
      simp only[Fr.aB] at hxy
      omega
     ·exact hw.lefts a b x y q2 r2 hxp hyp hxy
   ·intro g hg
    show 0<=g.left/\g.left<=p.tick+1
    rcases mem_modify hf hg with q|q
    ·have:=hw.past g q;omega
    ·subst q;simp only[Fr.aB];omega
   ·show (p.fs.modify i _).length<=p.peak/\_
    rw[Np];exact hw.peak
  ·exact hw
theorem Pl.WF.set {p:Pl}(hw:p.WF)(h:Int)(k:UInt8)(b:List UInt8):(p.set h k b).1.WF:=by
 unfold Pl.set
 split
 ·exact hw
 ·split
  ·rename_i i hi
   obtain⟨f,hf,hm⟩:=Pl.eU hi
   split
   ·exact hw
   ·exact hw.bf hf rfl rfl rfl (by simp only[Fr.set];omega)
  ·exact hw
theorem Pl.WF.aH {n:ByteArray}:∀(l:List Nat) {p:Pl},p.WF->(Pl.aH n l p).1.WF
 |[],p,h=>h
 |k::l,p,h=>by
   unfold Pl.aH
   split
   ·rename_i i hi
    obtain⟨f,hf,_⟩:=Pl.eS hi
    split
    ·split
     ·exact Pl.WF.aH l (h.put hf)
     ·exact h.put hf
    ·exact Pl.WF.aH l h
   ·exact Pl.WF.aH l h
theorem yo {d:Dk}{m:Nat}(h1:8<=m)(h2:m<=4096):(pl0 d m).WF:=by
 refine⟨by simp[pl0],by simp[pl0],⟨h1,h2⟩,?_,?_,by simp[pl0],?_,?_,?_,?_,by simp[pl0]⟩
 ·intro f hf;simp[pl0] at hf
 ·intro f hf;simp[pl0] at hf
 ·intro f hf;simp[pl0] at hf
 ·simp[pl0,Pl.pins]
 ·intro i j f g hi;simp[pl0] at hi
 ·intro f hf;simp[pl0] at hf
open Go.MapKept
structure re where
 p:Nat
 b:Sl
def re.fp (g:re)(b:Nat):Prop:=b=g.p\/al g.b b
def Ju (g:re)(f:Fr):Array Value:=#[.string f.name,.int .i64 (f.page:Int),.int .u8 (f.kind.toNat:Int),g.b.v,.bool f.dirty,.int .i64 (f.pins.length:Int),.int .i64 f.left]
structure dX (H:Heap)(g:re)(f:Fr):Prop where
 row:aj H g.p Ip (Ju g f)
 b:aK EB dF H g.b f.b
theorem dX.lt {H:Heap}{g:re}{f:Fr}(h:dX H g f):∀b,g.fp b->b<H.size:=by
 rintro b (rfl|hb)
 ·exact aG h.row
 ·exact h.b.lt b hb
theorem dX.ak {H H':Heap}{g:re}{f:Fr}(h:dX H g f)(k:∀b,g.fp b->b<H.size->H'[b]?=H[b]?):dX H' g f:=
 ⟨(k _ (.inl rfl) (aG h.row)).trans h.row,h.b.ak λb hb=>k b (.inr hb)⟩
theorem dX.obj {H:Heap}{g:re}{f:Fr}(h:dX H g f):∀b,g.fp b->∃cs t,H[b]?=some (.cells cs t (0,0))/\(t=Ip\/t=dF):=by
 rintro b (rfl|hb)
 ·exact⟨_,_,h.row,.inl rfl⟩
 ·obtain⟨c,q⟩:=h.b.obj b hb;exact⟨c,_,q,.inr rfl⟩
def iY (n:ByteArray)(g:Int):Value:=.agg #[.string n,.int .i64 g]
theorem kq {n m:ByteArray}{g k:Int}(h:iY n g=iY m k):n=m/\g=k:=by
 unfold iY at h
 simp at h
 exact h
abbrev FZ:=Fr×re
def nY (zs:List FZ):List (Value×Value):=zs.map λz=>(iY z.1.name (z.1.page:Int),c6 z.2.p)
def II (z:FZ):List (Value×Value):=z.1.pins.map λh=>(Value.int .i64 h,c6 z.2.p)
def ub (zs:List FZ):List (Value×Value):=zs.flatMap II
structure PG where
 mf:Nat
 ef:Array MapEntry
 cf:Nat
 mh:Nat
 eh:Array MapEntry
 ch:Nat
 zs:List FZ
def PG.fs (x:PG):List Fr:=x.zs.map (·.1)
def PG.fp (x:PG)(b:Nat):Prop:=b=x.mf\/b=x.mh\/∃z∈x.zs,z.2.fp b
def Ht (P:Program)(kt:TypeId):Bool:=
 match P.underlying kt with
 |some (.struct fs)=>(match fs.toList with
   |[f0,f1]=>(match P.underlying f0.type with|some .string=>true|_=>false)&&(match P.underlying f1.type with|some (.int .i64)=>true|_=>false)
     &&K6 f0.offset 0&&K6 f1.offset 1&&K6 (P.cellsOf f0.type) 1&&K6 (P.cellsOf f1.type) 1&&(f0.name !="_")&&(f1.name !="_")&&K6 (P.cellsOf kt) 2&&P.keyType kt&&Nat.blt 0 P.types.size
   |_=>false)
 |_=>false
theorem De {P:Program}{kt:TypeId}(h:Ht P kt=true){n:ByteArray}{g:Int}(hn:n.size<=9223372036854775807)(h0:-9223372036854775808<=g)(h1:g<=9223372036854775807):uf P kt (iY n g):=by
 unfold Ht at h
 split at h
 ·rename_i fs hu
  split at h
  ·rename_i f0 f1 hfs
   simp only[KR,bne_iff_ne,ne_eq] at h
   obtain⟨⟨⟨⟨⟨⟨⟨⟨⟨⟨a1,a2⟩,a3⟩,a4⟩,a5⟩,a6⟩,a7⟩,a8⟩,a9⟩,a10⟩,a11⟩:=h
   have e3:=KX a3
   have e4:=KX a4
   have e5:=KX a5
   have e6:=KX a6
   have e9:=KX a9
   have hpos:0<P.types.size:=eK.1 a11
   obtain⟨m,hm⟩:∃m,P.types.size=m+1:=⟨P.types.size - 1,by omega⟩
   split at a1
   ·rename_i u0
    split at a2
    ·rename_i u1
     have hform:RV P kt (iY n g)=true:=by
      unfold iY RV
      simp only[hu,e9]
      rfl
     have hwf:(Lit.int .i64 g).wf=true:=by
      unfold Lit.wf
      simp only[KR,decide_eq_true_eq]
      exact⟨by show (-9223372036854775808:Int)<=g;exact h0,by show g<=(9223372036854775807:Int);exact h1⟩
     have hall:fs.all (λf=>f.name !="_")=true:=by
      rw[<-Array.all_toList,hfs]
      simp[a7,a8]
     have l0:P.keyLits (m+1) f0.type [.string n]=some [.string n.data.toList]:=by
      unfold QF
      simp only[u0]
      rw[if_pos (by unfold maxLen;omega)]
     have l1:P.keyLits (m+1) f1.type [.int .i64 g]=some [.int .i64 g]:=by
      unfold QF
      simp only[u1]
      rw[if_pos ⟨trivial,hwf⟩]
     refine⟨.string (keyBytes [.string n.data.toList,.int .i64 g]),?_⟩
     unfold Go.keyOf
     simp only[hu]
     rw[if_pos (by rw[a10,hform];rfl),hm]
     unfold QF
     simp only[hu]
     have hc2:(iY n g).cells.toList=[.string n,.int .i64 g]:=rfl
     rw[hc2,if_pos ⟨by rw[e9];rfl,hall⟩,hfs]
     simp[List.mapM_cons,e3,e4,e5,e6,l0,l1]
    ·cases a2
   ·cases a1
  ·cases h
 ·cases h
theorem uJ:Og KE wG:=Go.deep_law_gate (by kernel_rfl) (ME (by kernel_rfl)) (ME (by kernel_rfl)) (by kernel_rfl) (by kernel_rfl)
theorem oJ {n:ByteArray}{g:Int}(hn:n.size<=9223372036854775807)(h0:-9223372036854775808<=g)(h1:g<=9223372036854775807):uf KE wG (iY n g):=De (by kernel_rfl) hn h0 h1
structure aL (H:Heap)(x:PG):Prop where
 fmap:iF KE wG H x.mf x.ef x.cf
 hmap:cd (.int .i64) H x.mh x.eh x.ch
 ne:x.mf≠x.mh
 size:x.ef.size=x.zs.length
 entF:∀k v,fH x.ef k v↔(k,v)∈nY x.zs
 entH:∀k v,fH x.eh k v↔(k,v)∈ub x.zs
 each:∀z∈x.zs,dX H z.2 z.1
 apart:∀(i j:Nat) (z z':FZ),x.zs[i]?=some z->x.zs[j]?=some z'->i≠j->∀b,z.2.fp b->¬z'.2.fp b
theorem aL.lt {H:Heap}{x:PG}(h:aL H x):∀b,x.fp b->b<H.size:=by
 rintro b (rfl|rfl|⟨z,hz,hb⟩)
 ·exact h.fmap.lt
 ·exact h.hmap.lt
 ·exact(h.each z hz).lt b hb
theorem aL.ak {H H':Heap}{x:PG}(h:aL H x)(k:∀b,x.fp b->b<H.size->H'[b]?=H[b]?):aL H' x:=
 ⟨⟨(k _ (.inl rfl) h.fmap.lt).trans h.fmap.obj,h.fmap.stamped,h.fmap.keys⟩,h.hmap.ak (k _ (.inr (.inl rfl)) h.hmap.lt),h.ne,h.size,h.entF,h.entH,
   λz hz=>(h.each z hz).ak λb hb=>k b (.inr (.inr ⟨z,hz,hb⟩)),h.apart⟩
theorem aL.off {H:Heap}{x:PG}(h:aL H x){z:FZ}(hz:z∈x.zs):¬z.2.fp x.mf/\¬z.2.fp x.mh:=by
 constructor
 ·intro hb
  obtain⟨cs,t,e,_⟩:=(h.each z hz).obj _ hb
  rw[h.fmap.obj] at e;cases e
 ·intro hb
  obtain⟨cs,t,e,_⟩:=(h.each z hz).obj _ hb
  rw[h.hmap.obj] at e;cases e
theorem aL.at {H:Heap}{x:PG}(_h:aL H x){i:Nat}{f:Fr}(hf:x.fs[i]?=some f):∃g,x.zs[i]?=some (f,g):=by
 unfold PG.fs at hf
 rw[Le,ND] at hf
 obtain⟨⟨f',g⟩,h1,rfl⟩:=hf
 exact⟨g,h1⟩
theorem gq {α:Type}{l:List α}{i:Nat}{a y:α}(hy:y∈l.set i a):(∃j,j≠i/\l[j]?=some y)\/y=a:=by
 obtain⟨j,hj⟩:=KQ.1 hy
 by_cases e:i=j
 ·subst e
  have hl:i<l.length:=by have:=(KI.1 hj).1;simpa using this
  rw[LD,if_pos rfl,if_pos hl] at hj;cases hj;exact .inr rfl
 ·rw[LD,if_neg e] at hj;exact .inl ⟨j,λq=>e q.symm,hj⟩
theorem Am {H:Heap}{x:PG}(h:aL H x){i:Nat}{z z':FZ}(hz:x.zs[i]?=some z)(hb:∀b,z'.2.fp b->z.2.fp b\/H.size<=b):
  ∀(a c:Nat) (u v:FZ),(x.zs.set i z')[a]?=some u->(x.zs.set i z')[c]?=some v->a≠c->∀b,u.2.fp b->¬v.2.fp b:=by
 have hil:=(KI.1 hz).1
 intro a c u v h1 h2 hac b hb1 hb2
 rw[LD] at h1 h2
 by_cases hia:i=a
 ·subst hia
  rw[if_neg hac] at h2
  rw[if_pos rfl,if_pos hil] at h1
  cases h1
  have hbl:=(h.each v (KH h2)).lt b hb2
  rcases hb b hb1 with q|q
  ·exact h.apart i c z v hz h2 hac b q hb2
  ·omega
 ·rw[if_neg hia] at h1
  have hbl:=(h.each u (KH h1)).lt b hb1
  by_cases hic:i=c
  ·subst hic
   rw[if_pos rfl,if_pos hil] at h2
   cases h2
   rcases hb b hb2 with q|q
   ·exact h.apart a i u z h1 hz hac b hb1 q
   ·omega
  ·rw[if_neg hic] at h2
   exact h.apart a c u v h1 h2 hac b hb1 hb2
theorem aL.set {H H':Heap}{x:PG}(h:aL H x){i:Nat}{z z':FZ}{eh':Array MapEntry}{ch':Nat}(hz:x.zs[i]?=some z)(hn:z'.1.name=z.1.name)(hpg:z'.1.page=z.1.page)(hp:z'.2.p=z.2.p)
  (hq:dX H' z'.2 z'.1) (hh:cd (.int .i64) H' x.mh eh' ch') (hent:∀k v,fH eh' k v↔(k,v)∈ub (x.zs.set i z'))
  (hm:∀b,x.fp b->¬z.2.fp b->b≠x.mh->b<H.size->H'[b]?=H[b]?) (hb:∀b,z'.2.fp b->z.2.fp b\/H.size<=b):
  aL H' {x with zs:=x.zs.set i z',eh:=eh',ch:=ch'}/\(∀b,PG.fp {x with zs:=x.zs.set i z',eh:=eh',ch:=ch'} b->x.fp b\/H.size<=b):=by
 have hzm:=KH hz
 have hoff:=h.off hzm
 refine⟨⟨⟨(hm _ (.inl rfl) hoff.1 h.ne h.fmap.lt).trans h.fmap.obj,h.fmap.stamped,h.fmap.keys⟩,hh,h.ne,by simp[h.size],?_,hent,?_,Am h hz hb⟩,?_⟩
 ·intro k v
  have:nY (x.zs.set i z')=nY x.zs:=by
   unfold nY
   rw[show x.zs.set i z'=x.zs.modify i (λ_=>z') from (aS (g:=λ_=>z') hz).symm]
   exact cP _ _ _ _ _ hz (by simp only[hn,hpg,hp])
  rw[this];exact h.entF k v
 ·intro u hu
  rcases gq hu with ⟨j,hji,hj⟩|rfl
  ·have hum:=KH hj
   exact(h.each u hum).ak λb hb1 hl=>hm b (.inr (.inr ⟨u,hum,hb1⟩)) (λq=>h.apart j i u z hj hz hji b hb1 q) (λe=>(h.off hum).2 (e▸hb1)) hl
  ·exact hq
 ·rintro b (e|e|⟨u,hu,hb1⟩)
  ·exact .inl (.inl e)
  ·exact .inl (.inr (.inl e))
  ·rcases gq hu with ⟨j,_,hj⟩|rfl
   ·exact .inl (.inr (.inr ⟨u,KH hj,hb1⟩))
   ·exact(hb b hb1).imp (λq=>.inr (.inr ⟨z,hzm,q⟩)) id
theorem aL.bf {H H':Heap}{x:PG}(h:aL H x){i:Nat}{z z':FZ}(hz:x.zs[i]?=some z)(hn:z'.1.name=z.1.name)(hpg:z'.1.page=z.1.page)(hpi:z'.1.pins=z.1.pins)(hp:z'.2.p=z.2.p)
  (hq:dX H' z'.2 z'.1) (hm:∀b,x.fp b->¬z.2.fp b->b<H.size->H'[b]?=H[b]?) (hb:∀b,z'.2.fp b->z.2.fp b\/H.size<=b):
  aL H' {x with zs:=x.zs.set i z'}/\(∀b,PG.fp {x with zs:=x.zs.set i z'} b->x.fp b\/H.size<=b):=by
 have hzm:=KH hz
 have hoff:=h.off hzm
 refine h.set hz hn hpg hp hq (h.hmap.ak (hm _ (.inr (.inl rfl)) hoff.2 h.hmap.lt)) (λk v=>?_) (λb h1 h2 _ h4=>hm b h1 h2 h4) hb
 have:ub (x.zs.set i z')=ub x.zs:=by
  unfold ub
  rw[show x.zs.set i z'=x.zs.modify i (λ_=>z') from (aS (g:=λ_=>z') hz).symm]
  exact fq _ _ _ _ _ hz (by simp only[II,hpi,hp])
 rw[this];exact h.entH k v
theorem xU (l r:List FZ):nY (l++r)=nY l++nY r:=by simp[nY]
theorem yg (l r:List FZ):ub (l++r)=ub l++ub r:=by simp[ub]
theorem yM {z:FZ}(h:z.1.pins=[]):II z=[]:=by simp[II,h]
theorem qo {α:Type}{l:List α}{i j:Nat}{a:α}(ha:(l.eraseIdx i)[j]?=some a):∃j',j'≠i/\l[j']?=some a/\j'=if j<i then j else j+1:=by
 rw[List.getElem?_eraseIdx] at ha
 split at ha
 ·rename_i q;exact⟨j,by omega,ha,by rw[if_pos q]⟩
 ·rename_i q;exact⟨j+1,by omega,ha,by rw[if_neg q]⟩
theorem mem_erase {α:Type}{l:List α}{i:Nat}{a:α}:a∈l.eraseIdx i↔∃j,j≠i/\l[j]?=some a:=List.mem_eraseIdx_iff_getElem?
theorem aL.erase {H H':Heap}{x:PG}(h:aL H x){i:Nat}{z:FZ}{ef':Array MapEntry}(hz:x.zs[i]?=some z)(hp:z.1.pins=[])(hk:(x.fs.map Fr.key).Nodup)(hf:iF KE wG H' x.mf ef' x.cf)
  (hent:∀k v,fH ef' k v↔fH x.ef k v/\k≠iY z.1.name (z.1.page:Int)) (hs:∀u,fH x.ef (iY z.1.name (z.1.page:Int)) u->ef'.size+1=x.ef.size)
  (hm:∀b,x.fp b->b≠x.mf->b<H.size->H'[b]?=H[b]?):aL H' {x with zs:=x.zs.eraseIdx i,ef:=ef'}:=by
 have old:∀u∈x.zs,dX H' u.2 u.1:=λu hu=>(h.each u hu).ak λb hb hl=>hm b (.inr (.inr ⟨u,hu,hb⟩)) (λe=>(h.off hu).1 (e▸hb)) hl
 have hil:=(KI.1 hz).1
 have hzm:=KH hz
 have hsz:=hs _ ((h.entF _ _).2 (KZ.2 ⟨z,hzm,rfl⟩))
 have inj:∀(j:Nat) (u:FZ),x.zs[j]?=some u->u.1.name=z.1.name->u.1.page=z.1.page->j=i:=by
  intro j u hj e1 e2
  have hjl:=(KI.1 hj).1
  refine(NU (l:=x.fs.map Fr.key) (by simpa[PG.fs] using hjl) hk).1 ?_
  simp[PG.fs,hj,hz,Fr.key,e1,e2]
 refine⟨hf,h.hmap.ak (hm _ (.inr (.inl rfl)) h.ne.symm h.hmap.lt),h.ne,?_,?_,?_,?_,?_⟩
 ·simp only;rw[O1 hil];have:=h.size;omega
 ·intro k v
  rw[hent k v,h.entF k v]
  unfold nY
  simp only[KZ]
  constructor
  ·rintro⟨⟨u,hu,e⟩,hne⟩
   refine⟨u,?_,e⟩
   obtain⟨j,hj⟩:=KQ.1 hu
   refine mem_erase.2 ⟨j,λq=>?_,hj⟩
   subst q;rw[hz] at hj;cases hj
   simp only[Lw] at e
   exact hne e.1.symm
  ·rintro⟨u,hu,e⟩
   obtain⟨j,hji,hj⟩:=mem_erase.1 hu
   refine⟨⟨u,KH hj,e⟩,λq=>hji ?_⟩
   simp only[Lw] at e
   have:=kq (e.1.trans q)
   exact inj j u hj this.1 (by omega)
 ·intro k v
  rw[h.entH k v]
  unfold ub
  simp only[LZ]
  constructor
  ·rintro⟨u,hu,e⟩
   refine⟨u,?_,e⟩
   obtain⟨j,hj⟩:=KQ.1 hu
   refine mem_erase.2 ⟨j,λq=>?_,hj⟩
   subst q;rw[hz] at hj;cases hj
   rw[yM hp] at e;cases e
  ·rintro⟨u,hu,e⟩
   obtain⟨j,hji,hj⟩:=mem_erase.1 hu
   exact⟨u,KH hj,e⟩
 ·intro u hu
  exact old u (LQ hu)
 ·intro a c u v h1 h2 hac
  obtain⟨j1,n1,q1,e1⟩:=qo h1
  obtain⟨j2,n2,q2,e2⟩:=qo h2
  refine h.apart j1 j2 u v q1 q2 ?_
  rw[e1,e2]
  split<;>split<;>omega
def np (dp:Nat)(x:PG)(s:Pl):Array Value:=#[c6 dp,.int .i64 (s.most:Int),.map (some x.mf),.map (some x.mh),.int .i64 s.next,.int .i64 s.tick,.int .i64 (s.peak:Int),.int .i64 s.wrong]
structure bw (x:PG)(H:Heap)(p dp:Nat)(s:Pl):Prop where
 head:aj H p Aa (np dp x s)
 ah:aL H x
 fs:s.fs=x.fs
 wf:s.WF
def PG.all (x:PG)(p b:Nat):Prop:=b=p\/x.fp b
theorem bw.off {x:PG}{H:Heap}{p:Nat}{cs:Array Value}(hd:aj H p Aa cs)(h:aL H x):¬x.fp p:=by
 rintro(e|e|⟨z,hz,hb⟩)
 ·have:=h.fmap.obj;rw[<-e,hd] at this;cases this
 ·have:=h.hmap.obj;rw[<-e,hd] at this;cases this
 ·obtain⟨c,t,e,ht⟩:=(h.each z hz).obj _ hb
  have:=aQ hd e
  rw[<-this] at ht
  exact absurd ht (by decide)
theorem bw.lt {x:PG}{H:Heap}{p dp:Nat}{s:Pl}(h:bw x H p dp s):∀b,x.all p b->b<H.size:=by
 rintro b (rfl|hb)
 ·exact aG h.head
 ·exact h.ah.lt b hb
theorem bw.ak {x:PG}{H H':Heap}{p dp:Nat}{s:Pl}(h:bw x H p dp s)(k:∀b,x.all p b->b<H.size->H'[b]?=H[b]?):bw x H' p dp s:=
 ⟨(k p (.inl rfl) (aG h.head)).trans h.head,h.ah.ak λb hb=>k b (.inr hb),h.fs,h.wf⟩
theorem bw.aZ {x:PG}{H:Heap}{p dp:Nat}{s:Pl}(h:bw x H p dp s)(d:Dk):bw x H p dp (s.aZ d):=⟨h.head,h.ah,h.fs,h.wf.aZ d⟩
theorem bw.at {x:PG}{H:Heap}{p dp:Nat}{s:Pl}(h:bw x H p dp s){i:Nat}{f:Fr}(hf:s.fs[i]?=some f):∃g,x.zs[i]?=some (f,g)/\dX H g f:=by
 rw[h.fs] at hf
 obtain⟨g,hg⟩:=h.ah.at hf
 exact⟨g,hg,h.ah.each _ (KH hg)⟩
theorem bw.n {x:PG}{H:Heap}{p dp:Nat}{s:Pl}(h:bw x H p dp s):x.ef.size=s.fs.length:=by rw[h.fs,h.ah.size];simp[PG.fs]
structure bP (x:PG)(D:Nat->Prop)(H:Heap)(p dp:Nat)(s:Pl):Prop where
 ag:bw x H p dp s
 ba:bj D H dp s.d
 apart:∀b,D b->¬x.all p b
 gu:¬D bx/\¬x.all p bx
def aM (F:Nat->Prop)(H:Heap)(p dp:Nat)(s:Pl):Prop:=∃x D,bP x D H p dp s/\∀b,F b↔D b\/x.all p b
theorem bP.lt {x:PG}{D:Nat->Prop}{H:Heap}{p dp:Nat}{s:Pl}(h:bP x D H p dp s):∀b,D b\/x.all p b->b<H.size:=by
 rintro b (hb|hb)
 ·exact h.ba.lt b hb
 ·exact h.ag.lt b hb
theorem aM.lt {F:Nat->Prop}{H:Heap}{p dp:Nat}{s:Pl}(h:aM F H p dp s):∀b,F b->b<H.size:=by
 obtain⟨x,D,g,hF⟩:=h
 exact λb hb=>g.lt b ((hF b).1 hb)
theorem aM.ak {F:Nat->Prop}{H H':Heap}{p dp:Nat}{s:Pl}(h:aM F H p dp s)(k:∀b,F b->b<H.size->H'[b]?=H[b]?):aM F H' p dp s:=by
 obtain⟨x,D,g,hF⟩:=h
 exact⟨x,D,⟨g.ag.ak λb hb=>k b ((hF b).2 (.inr hb)),g.ba.ak λb hb=>k b ((hF b).2 (.inl hb)),g.apart,g.gu⟩,hF⟩
theorem aM.wf {F:Nat->Prop}{H:Heap}{p dp:Nat}{s:Pl}(h:aM F H p dp s):s.WF:=by obtain⟨x,D,g,hF⟩:=h;exact g.ag.wf
theorem Step.side {D D' P:Nat->Prop}{H H':Heap}(h:Step D D' H H')(ha:∀b,D b->¬P b)(hl:∀b,P b->b<H.size):(∀b,D' b->¬P b)/\Step (λb=>D b\/P b) (λb=>D' b\/P b) H H':=by
 refine⟨λb hb hp=>?_,h.mod.mono λb _ q=>.inl q,?_⟩
 ·rcases h.own b hb with q|q
  ·exact ha b q hp
  ·have:=hl b hp;omega
 ·rintro b (q|q)
  ·exact(h.own b q).imp .inl id
  ·exact .inl (.inr q)
theorem bP.ky {x:PG}{D D':Nat->Prop}{H H':Heap}{p dp:Nat}{s:Pl}{d:Dk}(hg:Gl H)(h:bP x D H p dp s)(hd:bj D' H' dp d)(hs:Step D D' H H'):
  bP x D' H' p dp (s.aZ d)/\Step (λb=>D b\/x.all p b) (λb=>D' b\/x.all p b) H H':=by
 obtain⟨q1,q2⟩:=hs.side h.apart h.ag.lt
 exact⟨⟨(h.ag.ak λb hb hl=>hs.mod.same b hl λq=>h.apart b q hb).aZ d,hd,q1,λq=>by
  rcases hs.own _ q with r|r
  ·exact h.gu.1 r
  ·have:=hg.lt;omega,h.gu.2⟩,q2⟩
theorem bP.jm {x x':PG}{D:Nat->Prop}{H H':Heap}{p dp:Nat}{s s':Pl}(hg:Gl H)(h:bP x D H p dp s)(hp:bw x' H' p dp s')(hd:s'.d=s.d)(hm:Mod (x.all p) H H')(ho:∀b,x'.fp b->x.fp b\/H.size<=b):
  bP x' D H' p dp s'/\Step (λb=>D b\/x.all p b) (λb=>D b\/x'.all p b) H H':=by
 have hl:=h.ba.lt
 refine⟨⟨hp,by rw[hd];exact h.ba.ak λb hb hbl=>hm.same b hbl (h.apart b hb),?_,h.gu.1,?_⟩,hm.mono λb _ q=>.inr q,?_⟩
 ·rintro b hb (q|q)
  ·exact h.apart b hb (.inl q)
  ·rcases ho b q with r|r
   ·exact h.apart b hb (.inr r)
   ·have:=hl b hb;omega
 ·rintro(q|q)
  ·exact h.gu.2 (.inl q)
  ·rcases ho _ q with r|r
   ·exact h.gu.2 (.inr r)
   ·have:=hg.lt;omega
 ·rintro b (q|q|q)
  ·exact .inl (.inl q)
  ·exact .inl (.inr (.inl q))
  ·exact(ho b q).imp (λr=>.inr (.inr r)) id
theorem aM.gu {F:Nat->Prop}{H:Heap}{p dp:Nat}{s:Pl}(h:aM F H p dp s):¬F bx:=by
 obtain⟨x,D,g,hF⟩:=h
 intro q
 rcases (hF _).1 q with r|r
 ·exact g.gu.1 r
 ·exact g.gu.2 r
theorem bP.gl {x:PG}{D:Nat->Prop}{H H':Heap}{p dp:Nat}{s:Pl}(hg:Gl H)(h:bP x D H p dp s)(hm:Mod (λb=>D b\/x.all p b) H H'):Gl H':=
 hg.mod hm λr=>r.elim h.gu.1 h.gu.2
theorem bP.out {x x':PG}{D D':Nat->Prop}{F:Nat->Prop}{H H':Heap}{p dp:Nat}{s:Pl}(h:bP x' D' H' p dp s)(hF:∀b,F b↔D b\/x.all p b)(hs:Step (λb=>D b\/x.all p b) (λb=>D' b\/x'.all p b) H H'):
  ∃F',aM F' H' p dp s/\Step F F' H H':=
 ⟨λb=>D' b\/x'.all p b,⟨x',D',h,λ_=>Qa⟩,hs.mod.mono λb _ q=>(hF b).2 q,λb hb=>(hs.own b hb).imp (hF b).2 id⟩
theorem jP {x:PG}{H:Heap}{p dp:Nat}{s:Pl}{K:Int->Heap->Prop}(h:bw x H p dp s)(hK:K s.wrong H):Dl.sp (aD p) H K:=by
 refine Dl.of ?_
 unfold Dl.vc
 exact h.head.ld (c:=aa .i64) (i:=7) (x:=s.wrong) rfl hK
theorem bw.qZ {x:PG}{H H':Heap}{p dp:Nat}{s s':Pl}(h:bw x H p dp s)(hr:aj H' p Aa (np dp x s'))(hm:Mod (λb=>b=p) H H')(hf:s'.fs=s.fs)(hw:s'.WF):bw x H' p dp s':=
 ⟨hr,h.ah.ak λb hb hl=>hm.same b hl λe=>bw.off h.head h.ah (e▸hb),hf.trans h.fs,hw⟩
theorem xt {x:PG}{D:Nat->Prop}{H:Heap}{p dp:Nat}{s:Pl}{e:Int}{K:Int->Heap->Prop}(hg:Gl H)(h:bP x D H p dp s)
  (hK:∀H',bP x D H' p dp (s.met e)->Step (λb=>D b\/x.all p b) (λb=>D b\/x.all p b) H H'->K e H'):vN.sp (aD p) e H K:=by
 refine vN.of ?_
 unfold vN.vc
 simp only[aq]
 have hw:=h.ag.wf.met e
 have bads:bad e=true->st H (La ⟨p,0,none⟩ 7) (.int .i64 e) λH1=>K e H1:=by
  intro hb
  have em:s.met e={s with wrong:=e}:=by unfold Pl.met;rw[if_pos hb]
  refine h.ag.head.st (i:=7) (by decide:7<8) (by rfl) λH' r m z=>?_
  have hp:bw x H' p dp (s.met e):=h.ag.qZ (by rw[em];exact r) m (by rw[em]) hw
  obtain⟨q1,q2⟩:=h.jm hg hp (by rw[em]) (m.mono λb _ q=>.inl q) (λb q=>.inl q)
  exact hK H' q1 q2
 have DM:bad e=false->K e H:=by
  intro hb
  have em:s.met e=s:=by unfold Pl.met;rw[hb];rfl
  exact hK H (by rw[em];exact h) (.refl _ _)
 refine ae (λh4=>aP h4 (bads (by simp[bad] at h4 ⊢;exact .inl (.inl h4)))) (λh4=>?_)
 refine ae (λh5=>aP h5 (bads (by simp[bad] at h5 ⊢;exact .inl (.inr h5)))) (λh5=>?_)
 refine ae (λh6=>bads (by simp[bad] at h6 ⊢;exact .inr h6)) (λh6=>DM (by simp[bad] at h4 h5 h6 ⊢;exact⟨⟨h4,h5⟩,h6⟩))
theorem sH {D:Nat->Prop}{H:Heap}{p dp:Nat}{d:Dk}{g:re}{f:Fr}{cs:Array Value}{K:Int->Heap->Prop}(hg:Gl H)(hd:bj D H dp d)(hp:aj H p Aa cs)(hp0:cs[0]?=some (c6 dp))
  (hf:dX H g f) (hb:f.b.length<=504) (hfD:∀b,g.fp b->¬D b) (hlogs:d.logs<68719476736)
  (hK0:(d.write f.name f.page f.dg).2≠0->∀D' H',bj D' H' dp (d.write f.name f.page f.dg).1->Step D D' H H'->K (d.write f.name f.page f.dg).2 H')
  (hK1:(d.write f.name f.page f.dg).2=0->∀D' H1 H2,bj D' H1 dp (d.write f.name f.page f.dg).1->Step D D' H H1->dX H2 g f.clean->Mod (λb=>b=g.p) H1 H2->H2.size=H1.size->K 0 H2):
  Br.sp (aD p) (aD g.p) H K:=by
 refine Br.of ?_
 unfold Br.vc
 simp only[aq,add_add,Nat.reduceAdd]
 refine hf.row.ld (c:=aa .u8) (i:=2) (x:=(f.kind.toNat:Int)) rfl ?_
 refine hf.row.ld (c:=av) (i:=3) (x:=g.b) rfl ?_
 refine ES hg (bY hf.b) hb λr H1 o1 m1 f1=>aw rfl ?_
 have p1:aj H1 p Aa cs:=hp.ext m1
 have hf1:dX H1 g f:=hf.ak λb _ hl=>m1.same b hl id
 have hd1:bj D H1 dp d:=hd.ak λb _ hl=>m1.same b hl id
 refine p1.ld (c:=ar) (i:=0) (x:=aD dp) hp0 ?_
 refine hf1.row.ld (c:=aV) (i:=0) (x:=f.name) rfl ?_
 refine hf1.row.ld (c:=aa .i64) (i:=1) (x:=(f.page:Int)) rfl ?_
 have hlt:=hd.lt
 refine DN hd1 (bY o1) (λad ha hD=>?_) hlogs λD' H2 a2 S2=>?_
 ·have:=f1 ad.block ⟨ad,ha,rfl⟩
  have:=hlt _ hD;omega
 have S02:Step D D' H H2:=⟨⟨Lc m1.size S2.mod.size,λb hb hn=>(S2.mod.same b (by have:=m1.size;omega) hn).trans (m1.same b hb id)⟩,λb hb=>(S2.own b hb).imp id (λq=>Lc m1.size q)⟩
 have hf2:dX H2 g f:=hf1.ak λb hb hl=>S2.mod.same b hl (hfD b hb)
 show br ((d.write f.name f.page f.dg).2==0) _ _
 refine ae (λhz=>?_) (λhz=>?_)
 ·have hz':(d.write f.name f.page f.dg).2=0:=by simpa using hz
  refine hf2.row.st (i:=4) (by decide:4<7) (by rfl) λH3 r3 m3 z3=>?_
  have:=hK1 hz' D' H2 H3 a2 S02 ⟨r3,hf2.b.ak λb hb hl=>m3.same b hl λe=>?_⟩ m3 z3
  ·show K (d.write f.name f.page f.dg).2 H3
   rw[hz'];exact this
  ·obtain⟨c,q⟩:=hf2.b.obj b hb
   rw[e] at q
   exact absurd (aQ hf2.row q) (by decide)
 ·have hz':(d.write f.name f.page f.dg).2≠0:=by simpa using hz
  exact hK0 hz' D' H2 a2 S02
theorem zj {x:PG}{D:Nat->Prop}{H:Heap}{p dp:Nat}{s:Pl}{i:Nat}{f:Fr}{g:re}{K:Int->Heap->Prop}(hg:Gl H)(h:bP x D H p dp s)(hz:x.zs[i]?=some (f,g))(hlogs:s.d.logs<68719476736)
  (hK0:(s.put i).2≠0->∀D' H',bP x D' H' p dp (s.put i).1->Step (λb=>D b\/x.all p b) (λb=>D' b\/x.all p b) H H'->K (s.put i).2 H')
  (hK1:(s.put i).2=0->∀D' H',bP {x with zs:=x.zs.set i (f.clean,g)} D' H' p dp (s.put i).1->Step (λb=>D b\/x.all p b) (λb=>D' b\/PG.all {x with zs:=x.zs.set i (f.clean,g)} p b) H H'->K 0 H'):
  Br.sp (aD p) (aD g.p) H K:=by
 have hzm:=KH hz
 have hfs:s.fs[i]?=some f:=by rw[h.ag.fs];simp[PG.fs,hz]
 have hfr:=Pl.cX hfs
 have hA:=h.ag.ah.each _ hzm
 unfold Pl.put at hK0 hK1
 rw[hfr] at hK0 hK1
 refine sH (f:=f) (d:=s.d) hg h.ba h.ag.head rfl hA (h.ag.wf.room f (KH hfs)) (λb hb hD=>h.apart b hD (.inr (.inr (.inr ⟨_,hzm,hb⟩)))) hlogs (λhne D' H' a S=>?_) (λhe D' H1 H2 a S hf2 m2 z2=>?_)
 ·rw[if_neg hne] at hK0
  obtain⟨q1,q2⟩:=h.ky hg a S
  exact hK0 hne D' H' q1 q2
 ·rw[if_pos he] at hK1
  obtain⟨q1,q2⟩:=h.ky hg a S
  have hg1:Gl H1:=h.gl hg q2.mod
  have hfp:∀b,g.fp b->x.all p b:=λb hb=>.inr (.inr (.inr ⟨_,hzm,hb⟩))
  obtain⟨t1,t2⟩:=q1.ag.ah.bf (H':=H2) (z':=(f.clean,g)) hz rfl rfl rfl rfl hf2 (λb _ hn hl=>m2.same b hl λe=>hn (e▸.inl rfl)) (λb hb=>.inl hb)
  have hp2:bw {x with zs:=x.zs.set i (f.clean,g)} H2 p dp ((s.aZ (s.d.write f.name f.page f.dg).1).bf i Fr.clean):=by
   refine⟨m2.at q1.ag.head λe=>bw.off q1.ag.head q1.ag.ah (e▸.inr (.inr ⟨_,hzm,.inl rfl⟩)),t1,?_,?_⟩
   ·show s.fs.modify i Fr.clean=(x.zs.set i (f.clean,g)).map (·.1)
    rw[aS hfs,h.ag.fs]
    simp[PG.fs,Ni]
   ·exact(h.ag.wf.aZ _).bf hfs rfl rfl rfl (h.ag.wf.room f (KH hfs))
  obtain⟨u1,u2⟩:=q1.jm hg1 hp2 rfl (m2.mono λb _ e=>hfp b (.inl e)) t2
  exact hK1 rfl D' H2 u1 (q2.trans u2)
theorem aL.ptr {H:Heap}{x:PG}(h:aL H x){z z':FZ}(hz:z∈x.zs)(hz':z'∈x.zs)(e:z.2.p=z'.2.p):z=z':=by
 obtain⟨i,hi⟩:=KQ.1 hz
 obtain⟨j,hj⟩:=KQ.1 hz'
 by_cases hij:i=j
 ·subst hij;rw[hi] at hj;exact K1 hj
 ·exact absurd (.inl e) (h.apart i j z z' hi hj hij z.2.p (.inl rfl))
theorem aL.entry {H:Heap}{x:PG}(h:aL H x){e:MapEntry}(he:e∈x.ef.toList):∃z∈x.zs,e.key=iY z.1.name (z.1.page:Int)/\e.val=c6 z.2.p:=by
 have:=(h.entF e.key e.val).1 ⟨e,he,rfl,rfl⟩
 obtain⟨z,hz,q⟩:=KZ.1 this
 simp only[Lw] at q
 exact⟨z,hz,q.1.symm,q.2.symm⟩
theorem aL.yV {H:Heap}{x:PG}(h:aL H x){z:FZ}(hz:z∈x.zs):∃e∈x.ef.toList,e.key=iY z.1.name (z.1.page:Int)/\e.val=c6 z.2.p:=by
 obtain⟨e,he,h1,h2⟩:=(h.entF _ _).2 (KZ.2 ⟨z,hz,rfl⟩)
 exact⟨e,he,h1,h2⟩
def IQ (x:PG)(l:List MapEntry)(b:Option Addr):Prop:=
 match b with
 |none=>∀e∈l,∀z∈x.zs,e.val=c6 z.2.p->z.1.pins≠[]
 |some a=>∃z∈x.zs,a=⟨z.2.p,0,none⟩/\z.1.pins=[]/\∀e∈l,∀z'∈x.zs,e.val=c6 z'.2.p->z'.1.pins=[]->z.1.left<=z'.1.left
theorem lE:∃(et:TypeId) (inf:TypeInfo),KE.underlying wQ=some (.map wG et)/\KE.info? et=some inf/\inf.zero=some (.pointer none):=by
 obtain⟨D,hD⟩:=Option.isSome_iff_exists.1 (by kernel_rfl:(KE.underlying wG).isSome=true)
 obtain⟨et,inf,h1,_,h3,h4⟩:=qY (P:=KE) (t:=wQ) (kt:=wG) (by kernel_rfl) hD
 exact⟨et,inf,h1,h3,h4⟩
theorem Ct {x:PG}{H:Heap}{p dp:Nat}{s:Pl}{K:Option Addr->Heap->Prop}(h:bw x H p dp s)(hN:s.jS=none->∀H',Ext H H'->K none H')
  (hS:∀i f g,s.jS=some i->x.zs[i]?=some (f,g)->∀H',Ext H H'->K (aD g.p) H'):GZ.sp (aD p) H K:=by
 refine GZ.of ?_
 unfold GZ.vc
 simp only[aq]
 refine h.head.ld (c:=cq) (i:=2) (x:=some x.mf) rfl ?_
 obtain⟨et,inf,hu,_⟩:=lE
 have hF:=h.ah
 refine mM hu hF.fmap λH1 hit e1=>?_
 have hsz:=aG hit
 have hF1:aL H1 x:=hF.ak λb _ hl=>e1.same b hl id
 refine mN (it:=H.size) (λl b A=>IQ x l b/\Mod (λk=>k=H.size) H1 A) hF1.fmap hit ⟨(by intro e he;cases he),.refl _ _⟩ (λl b A A' q m _=>⟨q.1,q.2.trans m⟩) ?_ ?_
 ·rintro l e b A next ⟨hI,hM⟩ he _ _ _ _ _ hnext
  obtain⟨z,hz,_,hv⟩:=hF.entry he
  have hA:aL A x:=hF1.ak λc hc hl=>hM.same c hl λq=>by have:=hF.lt c hc;omega
  have hz1:=hA.each z hz
  refine⟨aD z.2.p,by rw[hv];rfl,?_⟩
  refine EH.of ?_
  unfold EH.vc
  simp only[aq]
  refine hz1.row.ld (c:=aa .i64) (i:=5) (x:=(z.1.pins.length:Int)) rfl ?_
  have same:∀z'∈x.zs,e.val=c6 z'.2.p->z'=z:=λz' hz' hv'=>hF.ptr hz' hz (by rw[hv] at hv';exact(qq hv').symm)
  refine ae (λhp=>?_) (λhp=>?_)
  ·have hp0:z.1.pins=[]:=by
    have:(z.1.pins.length:Int)=0:=by simpa using hp
    exact List.eq_nil_of_length_eq_zero (by omega)
   cases b with
   |none=>
     refine aP rfl (hnext _ _ ⟨⟨z,hz,rfl,hp0,?_⟩,hM⟩ rfl rfl)
     intro e' he' z' hz' hv' hp'
     rcases KW.1 he' with q|q
     ·exact absurd hp' (hI e' q z' hz' hv')
     ·simp at q;subst q;rw[same z' hz' hv'];exact Mc _
   |some a=>
     obtain⟨y,hy,rfl,hyp,hyl⟩:=hI
     have hy1:=hA.each y hy
     refine aw rfl ?_
     refine EF.of ?_
     unfold EF.vc
     simp only[aq]
     refine hz1.row.ld (c:=aa .i64) (i:=6) (x:=z.1.left) rfl ?_
     refine hy1.row.ld (c:=aa .i64) (i:=6) (x:=y.1.left) rfl ?_
     refine ae (λhlt=>?_) (λhlt=>?_)
     ·have hlt:z.1.left<y.1.left:=by simpa using hlt
      refine hnext _ _ ⟨⟨z,hz,rfl,hp0,?_⟩,hM⟩ rfl rfl
      intro e' he' z' hz' hv' hp'
      rcases KW.1 he' with q|q
      ·have:=hyl e' q z' hz' hv' hp';omega
      ·simp at q;subst q;rw[same z' hz' hv'];exact Mc _
     ·have hlt:¬z.1.left<y.1.left:=by simpa using hlt
      refine hnext _ _ ⟨⟨y,hy,rfl,hyp,?_⟩,hM⟩ rfl rfl
      intro e' he' z' hz' hv' hp'
      rcases KW.1 he' with q|q
      ·exact hyl e' q z' hz' hv' hp'
      ·simp at q;subst q;rw[same z' hz' hv'];omega
  ·have hp0:z.1.pins≠[]:=by
    intro q;rw[q] at hp;simp at hp
   refine hnext _ _ ⟨?_,hM⟩ rfl rfl
   cases b with
   |none=>
     intro e' he' z' hz' hv'
     rcases KW.1 he' with q|q
     ·exact hI e' q z' hz' hv'
     ·simp at q;subst q;rw[same z' hz' hv'];exact hp0
   |some a=>
     obtain⟨y,hy,rfl,hyp,hyl⟩:=hI
     refine⟨y,hy,rfl,hyp,?_⟩
     intro e' he' z' hz' hv' hp'
     rcases KW.1 he' with q|q
     ·exact hyl e' q z' hz' hv' hp'
     ·simp at q;subst q;rw[same z' hz' hv'] at hp';exact absurd hp' hp0
 ·rintro l b A ⟨hI,hM⟩ hperm _
  have hE:Ext H A:=⟨by have:=e1.size;have:=hM.size;omega,λc hc _=>(hM.same c (by omega) (by omega)).trans (e1.same c hc id)⟩
  cases b with
  |none=>
    refine hN ?_ A hE
    cases hb:s.jS with
    |none=>rfl
    |some i=>
      obtain⟨f,hf,hp,_⟩:=Pl.hC hb
      obtain⟨g,hg,_⟩:=h.at hf
      have hzm:=KH hg
      obtain⟨e,he,_,hv⟩:=hF.yV hzm
      exact absurd hp (hI e (hperm.mem_iff.2 he) _ hzm hv)
  |some a=>
    obtain⟨z,hz,rfl,hp,hl⟩:=hI
    obtain⟨i,hi⟩:=KQ.1 hz
    have hfs:s.fs[i]?=some z.1:=by rw[h.fs];simp[PG.fs,hi]
    refine hS i z.1 z.2 (Pl.FJ h.wf hfs hp λf' hf' hp'=>?_) hi A hE
    obtain⟨j,hj⟩:=KQ.1 hf'
    obtain⟨g',hg',_⟩:=h.at hj
    have hzm:=KH hg'
    obtain⟨e,he,_,hv⟩:=hF.yV hzm
    exact hl e (hperm.mem_iff.2 he) _ hzm hv hp'
theorem oy {α β:Type}(u:α->β):∀(l:List α) (i:Nat),(l.eraseIdx i).map u=(l.map u).eraseIdx i
 |[],i=>by simp
 |a::l,0=>by simp
 |a::l,i+1=>by simp[oy u l i]
theorem dX.Cx {H:Heap}{g:re}{f:Fr}{K:(ByteArray×Int)->Prop}(h:dX H g f)(hK:K (f.name,(f.page:Int))):dI (dr [aV,(aa .i64)]) 2 H (La ⟨g.p,0,none⟩ 0) K:=by
 refine⟨(f.name,(f.page:Int)),?_,hK⟩
 refine aj.kT (o:=0) (ds:=#[.string f.name,.int .i64 (f.page:Int)]) h.row rfl λi hi=>?_
 have:i=0\/i=1:=by omega
 rcases this with rfl|rfl<;>rfl
theorem bw.I5 {x:PG}{H:Heap}{p dp:Nat}{s:Pl}{K:Nat->Prop}(h:bw x H p dp s)(hK:K s.fs.length):xW H (some x.mf) K:=
 ⟨s.fs.length,⟨x.ef,x.cf,h.ah.fmap.obj,h.n⟩,hK⟩
theorem Pl.WF.key {s:Pl}(h:s.WF){i:Nat}{f:Fr}(hf:s.fs[i]?=some f):uf KE wG (iY f.name (f.page:Int)):=by
 have:=h.au f (KH hf)
 exact oJ this.2 (by omega) (by omega)
theorem Dn {x:PG}{D:Nat->Prop}{H:Heap}{p dp:Nat}{s:Pl}{i:Nat}{f:Fr}{g:re}{ty:TypeId}{K:Value->Heap->Prop}(hg:Gl H)(h:bP x D H p dp s)(hz:x.zs[i]?=some (f,g))(hp:f.pins=[])
  (hK:∀ef' v H',bP {x with zs:=x.zs.eraseIdx i,ef:=ef'} D H' p dp (s.drop i)->Step (λb=>D b\/x.all p b) (λb=>D b\/PG.all {x with zs:=x.zs.eraseIdx i,ef:=ef'} p b) H H'->Mod (λb=>b=x.mf) H H'->K v H'):
  bt jG KE (Mk #[wQ,wG] ty #[(.map (some x.mf)),(.agg #[(.string f.name),(.int .i64 (f.page:Int))])]) H K:=by
 have hfs:s.fs[i]?=some f:=by rw[h.ag.fs];simp[PG.fs,hz]
 obtain⟨et,inf,hu,_⟩:=lE
 have hkey:=h.ag.wf.key hfs
 refine vS (k:=iY f.name (f.page:Int)) hu uJ h.ag.ah.fmap hkey λef' H' m' it sz mo z'=>?_
 have hF:=h.ag.ah.erase hz hp (by have:=h.ag.wf.keys;rw[h.ag.fs] at this;exact this) m' it sz (λb _ hne hl=>mo.same b hl hne)
 have hpm:p≠x.mf:=λe=>bw.off h.ag.head h.ag.ah (.inl e)
 have hp':bw {x with zs:=x.zs.eraseIdx i,ef:=ef'} H' p dp (s.drop i):=by
  refine⟨mo.at h.ag.head hpm,hF,?_,h.ag.wf.drop i⟩
  show s.fs.eraseIdx i=(x.zs.eraseIdx i).map (·.1)
  rw[h.ag.fs,oy];rfl
 obtain⟨q1,q2⟩:=h.jm hg hp' rfl (mo.mono λb _ e=>.inr (.inl e)) (by
  rintro b (e|e|⟨z,hz',hb⟩)
  ·exact .inl (.inl e)
  ·exact .inl (.inr (.inl e))
  ·exact .inl (.inr (.inr ⟨z,LQ hz',hb⟩)))
 exact hK ef' _ H' q1 q2 mo
theorem zo {x:PG}{D:Nat->Prop}{H:Heap}{p dp:Nat}{s:Pl}{K:Int->Heap->Prop}(hg:Gl H)(h:bP x D H p dp s)(hlogs:s.d.logs<68719476736)
  (hK:∀x' D' H',bP x' D' H' p dp s.room.1->Step (λb=>D b\/x.all p b) (λb=>D' b\/x'.all p b) H H'->K s.room.2 H'):Em.sp (aD p) H K:=by
 refine Em.of ?_
 unfold Em.vc
 simp only[aq]
 refine h.ag.head.ld (c:=cq) (i:=2) (x:=some x.mf) rfl ?_
 refine h.ag.I5 ?_
 refine h.ag.head.ld (c:=aa .i64) (i:=1) (x:=(s.most:Int)) rfl ?_
 refine ae (λhc=>?_) (λhc=>?_)
 ·have e:s.room=(s,0):=by unfold Pl.room;rw[if_pos (by simpa using hc)]
  rw[e] at hK
  exact hK x D H h (.refl _ _)
 have hlen:¬s.fs.length<s.most:=by simpa using hc
 refine Ct h.ag (λhN H1 e1=>?_) (λi f g hb hz H1 e1=>?_)
 ·have e:s.room=(s,31):=by unfold Pl.room;rw[if_neg hlen,hN]
  rw[e] at hK
  refine aP rfl (hK x D H1 ⟨h.ag.ak λb _ hl=>e1.same b hl id,h.ba.ak λb _ hl=>e1.same b hl id,h.apart,h.gu⟩ ⟨Ext.mod e1,λb q=>.inl q⟩)
 ·have h1:bP x D H1 p dp s:=⟨h.ag.ak λb _ hl=>e1.same b hl id,h.ba.ak λb _ hl=>e1.same b hl id,h.apart,h.gu⟩
  have S1:Step (λb=>D b\/x.all p b) (λb=>D b\/x.all p b) H H1:=⟨Ext.mod e1,λb q=>.inl q⟩
  have hg1:Gl H1:=hg.mod e1 id
  have hzm:=KH hz
  have hfs:s.fs[i]?=some f:=by rw[h.ag.fs];simp[PG.fs,hz]
  have hfr:=Pl.cX hfs
  obtain⟨f0,hf0,hp0,_⟩:=Pl.hC hb
  rw[hfs] at hf0;cases hf0
  have hA:=h1.ag.ah.each _ hzm
  refine aw rfl ?_
  simp only[aq]
  refine hA.row.ld (c:=aA) (i:=4) (x:=f.dirty) rfl ?_
  have er:s.room=(if f.dirty then (if (s.put i).2=0 then ((s.put i).1.drop i,0) else s.put i) else (s.drop i,0)):=by
   unfold Pl.room;rw[if_neg hlen,hb];simp only[hfr]
  cases hd:f.dirty with
  |true=>
    rw[hd,if_pos rfl] at er
    refine aP rfl ?_
    refine zj hg1 h1 hz hlogs (λhne D' H2 h2 S2=>?_) (λhe D' H2 h2 S2=>?_)
    ·rw[if_neg hne] at er
     rw[er] at hK
     exact aP (by simpa using hne) (hK x D' H2 h2 (S1.trans S2))
    ·rw[if_pos he] at er
     rw[er] at hK
     refine aw rfl ?_
     have hil:=(KI.1 hz).1
     have hz2:(x.zs.set i (f.clean,g))[i]?=some (f.clean,g):=by simp[hil]
     have hA2:=h2.ag.ah.each _ (KH hz2)
     refine h2.ag.head.ld (c:=cq) (i:=2) (x:=some x.mf) rfl ?_
     refine dX.Cx hA2 ?_
     have hg2:Gl H2:=h1.gl hg1 S2.mod
     refine Dn (x:={x with zs:=x.zs.set i (f.clean,g)}) hg2 h2 hz2 hp0 λef' v H3 h3 S3 _=>?_
     exact hK _ D' H3 h3 ((S1.trans S2).trans S3)
  |false=>
    rw[hd,if_neg (by simp)] at er
    rw[er] at hK
    refine aw rfl ?_
    refine h1.ag.head.ld (c:=cq) (i:=2) (x:=some x.mf) rfl ?_
    refine dX.Cx hA ?_
    refine Dn hg1 h1 hz hp0 λef' v H3 h3 S3 _=>?_
    exact hK _ D H3 h3 (S1.trans S3)
theorem pR:C3 KE ID j7 (.int .i64):=qY (by kernel_rfl) (by kernel_rfl)
theorem uI {h:Int}:∀(zs:List FZ) (i:Nat) (f:Fr) (g:re),zs[i]?=some (f,g)->∀k v,(k,v)∈ub (zs.set i (Fr.aR h f,g))↔(k,v)∈ub zs\/(k=.int .i64 h/\v=c6 g.p)
 |[],i,f,g,e,k,v=>by simp at e
 |a::l,0,f,g,e,k,v=>by
   simp at e;subst e
   simp only[List.set_cons_zero,ub,Lk,KW,II,Fr.aR,LF,Lp,NI,LI,Lw]
   constructor
   ·rintro((q|q)|q)
    ·exact .inl (.inl q)
    ·exact .inr q
    ·exact .inl (.inr q)
   ·rintro((q|q)|q)
    ·exact .inl (.inl q)
    ·exact .inr q
    ·exact .inl (.inr q)
 |a::l,i+1,f,g,e,k,v=>by
   have ih:=uI (h:=h) l i f g (by simpa using e) k v
   simp only[List.set_cons_succ,ub,Lk,KW] at ih ⊢
   rw[ih,or_assoc]
theorem Cm {x:PG}{D:Nat->Prop}{H:Heap}{p dp:Nat}{s:Pl}{i:Nat}{f:Fr}{g:re}{K:Int->Heap->Prop}(hg:Gl H)(h:bP x D H p dp s)(hz:x.zs[i]?=some (f,g))(hn:s.next<9223372036854775807)
  (hwf:(s.dE i).WF) (hpl:(f.pins.length:Int)<9223372036854775807)
  (hK:∀x' H',bP x' D H' p dp (s.dE i)->Step (λb=>D b\/x.all p b) (λb=>D b\/x'.all p b) H H'->K s.next H'):C6.sp (aD p) (aD g.p) H K:=by
 refine C6.of ?_
 unfold C6.vc
 simp only[aq]
 have hzm:=KH hz
 have hfs:s.fs[i]?=some f:=by rw[h.ag.fs];simp[PG.fs,hz]
 have hA:=h.ag.ah.each _ hzm
 refine hA.row.ld (c:=aa .i64) (i:=5) (x:=(f.pins.length:Int)) rfl ?_
 refine hA.row.st (i:=5) (by decide:5<7) (by rfl) λH1 r1 m1 z1=>?_
 have hpg:p≠g.p:=λe=>bw.off h.ag.head h.ag.ah (e▸.inr (.inr ⟨_,hzm,.inl rfl⟩))
 have hd1:aj H1 p Aa (np dp x s):=m1.at h.ag.head hpg
 refine hd1.ld (c:=cq) (i:=3) (x:=some x.mh) rfl ?_
 refine hd1.ld (c:=aa .i64) (i:=4) (x:=s.next) rfl ?_
 obtain⟨et,inf,hu,hd,hi',hzz⟩:=pR
 have hoff:=h.ag.ah.off hzm
 have hgm:g.p≠x.mh:=λe=>hoff.2 (.inl e.symm)
 have hh1:cd (.int .i64) H1 x.mh x.eh x.ch:=h.ag.ah.hmap.ak (m1.same _ h.ag.ah.hmap.lt (λe=>hgm e.symm))
 have hno:∀u,¬fH x.eh (.int .i64 s.next) u:=by
  intro u hu'
  have:=(h.ag.ah.entH _ _).1 hu'
  obtain⟨z,hz',hk⟩:=LZ.1 this
  obtain⟨q,hq,e⟩:=KZ.1 hk
  simp only[Lw,Oh,true_and] at e
  have hzf:z.1∈s.fs:=by rw[h.ag.fs];exact KZ.2 ⟨z,hz',rfl⟩
  have:=(h.ag.wf.old _ hzf _ hq).2
  omega
 refine mF hu hd hh1 (k:=.int .i64 s.next) (show KG=KG from rfl) hno λH2 hm2 m2 z2=>?_
 have hpm:p≠x.mh:=λe=>bw.off h.ag.head h.ag.ah (.inr (.inl e))
 have hd2:aj H2 p Aa (np dp x s):=m2.at hd1 hpm
 refine hd2.ld (c:=aa .i64) (i:=4) (x:=s.next) rfl ?_
 refine hd2.st (i:=4) (by decide:4<8) (by rfl) λH3 r3 m3 z3=>?_
 refine r3.ld (c:=aa .i64) (i:=4) (x:=da (s.next+1)) rfl ?_
 have ht:=h.ag.wf.tick
 have hw:da (s.next+1)=s.next+1:=by unfold da;exact wrap64 (by omega) (by omega)
 have er:KG.wrap (da (s.next+1) - 1)=s.next:=by
  have e1:da (s.next+1) - 1=s.next:=by omega
  rw[e1];exact wrap64 (by omega) (by omega)
 rw[er]
 have hm13:Mod (λb=>b=g.p\/b=x.mh\/b=p) H H3:=((m1.mono λb _ e=>.inl e).trans (m2.mono λb _ e=>.inr (.inl e))).trans (m3.mono λb _ e=>.inr (.inr e))
 have ew:KG.wrap ((f.pins.length:Int)+1)=(((Fr.aR s.next f).pins.length:Nat):Int):=by
  rw[wrap64 (by omega) (by omega)];simp[Fr.aR]
 have hq:dX H3 g (Fr.aR s.next f):=by
  refine⟨?_,hA.b.ak λb hb hl=>hm13.same b hl ?_⟩
  ·have:=m3.at (m2.at r1 hgm) (λe=>hpg e.symm)
   rw[ew] at this
   exact this
  ·obtain⟨c,q⟩:=hA.b.obj b hb
   rintro(e|e|e)
   ·rw[e] at q;exact absurd (aQ hA.row q) (by decide)
   ·rw[e,h.ag.ah.hmap.obj] at q;cases q
   ·rw[e] at q;exact absurd (aQ h.ag.head q) (by decide)
 have hF:=h.ag.ah.set (H':=H3) (z':=(Fr.aR s.next f,g)) hz rfl rfl rfl hq (hm2.ak (m3.same _ hm2.lt (λe=>hpm e.symm))) (λk v=>by
  rw[gZ,h.ag.ah.entH,uI x.zs i f g hz]
  exact Qa) (λb hb hn1 hn2 hl=>hm13.same b hl (by
   rintro(e|e|e)
   ·exact hn1 (.inl e)
   ·exact hn2 e
   ·exact bw.off h.ag.head h.ag.ah (e▸hb))) (λb hb=>.inl hb)
 have hp3:bw {x with zs:=x.zs.set i (Fr.aR s.next f,g),eh:=x.eh.push {key:=.int .i64 s.next,val:=c6 g.p,born:=x.ch},ch:=x.ch+1} H3 p dp (s.dE i):=by
  refine⟨r3,hF.1,?_,hwf⟩
  show s.fs.modify i (Fr.aR s.next)=(x.zs.set i (Fr.aR s.next f,g)).map (·.1)
  rw[aS hfs,h.ag.fs]
  simp[PG.fs,Ni]
 obtain⟨q1,q2⟩:=h.jm hg hp3 rfl (hm13.mono λb _ e=>by
  rcases e with e|e|e
  ·exact .inr (.inr (.inr ⟨_,hzm,.inl e⟩))
  ·exact .inr (.inr (.inl e))
  ·exact .inl e) hF.2
 exact hK _ H3 q1 q2
structure Ch (x:PG)(D:Nat->Prop)(H:Heap)(p:Nat)(g:re)(f:Fr):Prop where
 fr:dX H g f
 off:∀b,g.fp b->¬D b/\¬x.all p b/\b≠bx
theorem zh {x:PG}{D:Nat->Prop}{H:Heap}{p dp:Nat}{s:Pl}{f:Fr}{g:re}{K:Int->Heap->Prop}(hg:Gl H)(h:bP x D H p dp s)(hN:Ch x D H p g f)
  (hl:s.fs.length<s.most) (hn:s.next<9223372036854775807) (hk:s.find f.name f.page=none) (hb:f.b.length<=504) (hpg:f.page<1048577) (hnm:f.name.size<=9223372036854775807) (hp:f.pins=[]) (hlf:f.left=0)
  (hK:∀x' H',bP x' D H' p dp (s.take f)->Step (λb=>(D b\/x.all p b)\/g.fp b) (λb=>D b\/x'.all p b) H H'->K s.next H'):zT.sp (aD p) (aD g.p) H K:=by
 refine zT.of ?_
 unfold zT.vc
 simp only[aq]
 have hw:=h.ag.wf.take hl hn hk hb hpg hnm hp hlf
 have hlen:=h.ag.wf.len
 have hmost:=h.ag.wf.most
 refine h.ag.head.ld (c:=cq) (i:=2) (x:=some x.mf) rfl ?_
 refine dX.Cx hN.fr ?_
 obtain⟨et,inf,hu,_⟩:=lE
 have hno:∀u,¬fH x.ef (iY f.name (f.page:Int)) u:=by
  intro u hu'
  obtain⟨z,hz,e⟩:=KZ.1 ((h.ag.ah.entF _ _).1 hu')
  simp only[Lw] at e
  have:=kq e.1
  have hzf:z.1∈s.fs:=by rw[h.ag.fs];exact KZ.2 ⟨z,hz,rfl⟩
  exact Pl.fX hk _ hzf this.1 this.2
 refine vl (k:=iY f.name (f.page:Int)) hu uJ h.ag.ah.fmap (oJ hnm (by omega) (by omega)) hno λH1 fm1 m1 z1=>?_
 have hpm:p≠x.mf:=λe=>bw.off h.ag.head h.ag.ah (.inl e)
 have hd1:aj H1 p Aa (np dp x s):=m1.at h.ag.head hpm
 refine hd1.ld (c:=aa .i64) (i:=6) (x:=(s.peak:Int)) rfl ?_
 refine hd1.ld (c:=cq) (i:=2) (x:=some x.mf) rfl ?_
 have hsz:=h.ag.n
 refine⟨s.fs.length+1,⟨_,_,fm1.obj,by simp[hsz]⟩,?_⟩
 have ep:(if ((s.fs.length+1:Nat):Int)>(s.peak:Int) then ((s.fs.length+1:Nat):Int) else (s.peak:Int))=((max s.peak (s.fs.length+1):Nat):Int):=by
  split<;>omega
 simp only[ep]
 refine hd1.st (i:=6) (by decide:6<8) (by rfl) λH2 r2 m2 z2=>?_
 have hgoff:=hN.off
 have hm12:Mod (λb=>b=x.mf\/b=p) H H2:=(m1.mono λb _ e=>.inl e).trans (m2.mono λb _ e=>.inr e)
 have hq2:dX H2 g f:=hN.fr.ak λb hb hl=>hm12.same b hl (by
  rintro(e|e)
  ·exact(hgoff b hb).2.1 (.inr (.inl e))
  ·exact(hgoff b hb).2.1 (.inl e))
 -- the frame is pushed
 obtain⟨ef',hef⟩:∃e:Array MapEntry,e=x.ef.push {key:=iY f.name (f.page:Int),val:=c6 g.p,born:=x.cf}:=⟨_,rfl⟩
 have hapart:∀(i:Nat) (z:FZ),x.zs[i]?=some z->∀b,z.2.fp b->¬g.fp b:=λi z hz b hb hgb=>(hgoff b hgb).2.1 (.inr (.inr (.inr ⟨z,KH hz,hb⟩)))
 have hF:aL H2 {x with zs:=x.zs++[(f,g)],ef:=ef',cf:=x.cf+1}:=by
  have F0:=h.ag.ah
  have hpo:=bw.off h.ag.head h.ag.ah
  have old:∀u∈x.zs,dX H2 u.2 u.1:=λu hu=>(F0.each u hu).ak λb hb hl=>hm12.same b hl (by
   rintro(e|e)
   ·exact(F0.off hu).1 (e▸hb)
   ·exact hpo (e▸.inr (.inr ⟨u,hu,hb⟩)))
  refine⟨?_,F0.hmap.ak (hm12.same _ F0.hmap.lt (by
   rintro(e|e)
   ·exact F0.ne e.symm
   ·exact hpo (e▸.inr (.inl rfl)))),F0.ne,by rw[hef];simp[F0.size],?_,?_,?_,?_⟩
  ·have:=fm1.mod m2 (λe=>hpm e.symm)
   rw[hef];exact this
  ·intro k v
   rw[xU,KW,hef,gZ,F0.entF k v]
   simp[nY]
  ·intro k v
   rw[yg,F0.entH k v]
   simp[ub,yM (z:=(f,g)) hp]
  ·intro u hu
   rcases KW.1 hu with q|q
   ·exact old u q
   ·simp at q;subst q;exact hq2
  ·intro i j u v h1 h2 hij b hb1 hb2
   have ex:∀(i:Nat) (u:FZ),(x.zs++[(f,g)])[i]?=some u->(x.zs[i]?=some u)\/(i=x.zs.length/\u=(f,g)):=by
    intro i u h1
    by_cases hi:i<x.zs.length
    ·rw[K9 hi] at h1;exact .inl h1
    ·rw[LR (by omega)] at h1
     have:i=x.zs.length:=by
      have:=(KI.1 h1).1;simp at this;omega
     subst this
     simp at h1
     exact .inr ⟨rfl,h1.symm⟩
   rcases ex i u h1 with q1|⟨e1,rfl⟩<;>rcases ex j v h2 with q2|⟨e2,rfl⟩
   ·exact F0.apart i j u v q1 q2 hij b hb1 hb2
   ·exact hapart i u q1 b hb1 hb2
   ·exact hapart j v q2 b hb2 hb1
   ·omega
 -- what holds in between
 have hw2:(s.add f).fs.length<=s.most:=by simp[Pl.add];omega
 have hp2:aj H2 p Aa (np dp {x with zs:=x.zs++[(f,g)],ef:=ef',cf:=x.cf+1} (s.add f)):=r2
 have hz:(x.zs++[(f,g)])[x.zs.length]?=some (f,g):=by simp
 have hxl:x.zs.length=s.fs.length:=by rw[h.ag.fs];simp[PG.fs]
 -- the pin, over the blocks themselves
 refine C6.of ?_
 unfold C6.vc
 simp only[aq]
 have hzm:((f,g):FZ)∈x.zs++[(f,g)]:=by simp
 refine hq2.row.ld (c:=aa .i64) (i:=5) (x:=(f.pins.length:Int)) rfl ?_
 refine hq2.row.st (i:=5) (by decide:5<7) (by rfl) λH3 r3 m3 z3=>?_
 have hpg':p≠g.p:=λe=>(hgoff g.p (.inl rfl)).2.1 (.inl e.symm)
 have hd3:aj H3 p Aa (np dp {x with zs:=x.zs++[(f,g)],ef:=ef',cf:=x.cf+1} (s.add f)):=m3.at hp2 hpg'
 refine hd3.ld (c:=cq) (i:=3) (x:=some x.mh) rfl ?_
 refine hd3.ld (c:=aa .i64) (i:=4) (x:=s.next) rfl ?_
 obtain⟨et',inf',hu',hd',_,_⟩:=pR
 have hgm:g.p≠x.mh:=λe=>(hgoff g.p (.inl rfl)).2.1 (.inr (.inr (.inl e)))
 have hh3:cd (.int .i64) H3 x.mh x.eh x.ch:=hF.hmap.ak (m3.same _ hF.hmap.lt (λe=>hgm e.symm))
 have hno':∀u,¬fH x.eh (.int .i64 s.next) u:=by
  intro u hu'
  have:=(h.ag.ah.entH _ _).1 hu'
  obtain⟨z,hz',hk⟩:=LZ.1 this
  obtain⟨q,hq,e⟩:=KZ.1 hk
  simp only[Lw,Oh,true_and] at e
  have hzf:z.1∈s.fs:=by rw[h.ag.fs];exact KZ.2 ⟨z,hz',rfl⟩
  have:=(h.ag.wf.old _ hzf _ hq).2
  omega
 refine mF hu' hd' hh3 (k:=.int .i64 s.next) (show KG=KG from rfl) hno' λH4 hm4 m4 z4=>?_
 have hpmh:p≠x.mh:=λe=>bw.off h.ag.head h.ag.ah (.inr (.inl e))
 have hd4:aj H4 p Aa (np dp {x with zs:=x.zs++[(f,g)],ef:=ef',cf:=x.cf+1} (s.add f)):=m4.at hd3 hpmh
 refine hd4.ld (c:=aa .i64) (i:=4) (x:=s.next) rfl ?_
 refine hd4.st (i:=4) (by decide:4<8) (by rfl) λH5 r5 m5 z5=>?_
 refine r5.ld (c:=aa .i64) (i:=4) (x:=da (s.next+1)) rfl ?_
 have ht:=h.ag.wf.tick
 have hww:da (s.next+1)=s.next+1:=by unfold da;exact wrap64 (by omega) (by omega)
 have er:KG.wrap (da (s.next+1) - 1)=s.next:=by
  have e1:da (s.next+1) - 1=s.next:=by omega
  rw[e1];exact wrap64 (by omega) (by omega)
 rw[er]
 have hm35:Mod (λb=>b=g.p\/b=x.mh\/b=p) H2 H5:=((m3.mono λb _ e=>.inl e).trans (m4.mono λb _ e=>.inr (.inl e))).trans (m5.mono λb _ e=>.inr (.inr e))
 have hq:dX H5 g (Fr.aR s.next f):=by
  refine⟨?_,hq2.b.ak λb hb hl=>hm35.same b hl ?_⟩
  ·have:=m5.at (m4.at r3 hgm) (λe=>hpg' e.symm)
   have e0:KG.wrap (((f.pins.length:Nat):Int)+1)=(((Fr.aR s.next f).pins.length:Nat):Int):=by
    rw[hp];simp[Fr.aR,hp];rfl
   rw[e0] at this
   exact this
  ·obtain⟨c,q⟩:=hq2.b.obj b hb
   rintro(e|e|e)
   ·rw[e] at q;exact absurd (aQ hq2.row q) (by decide)
   ·rw[e,hF.hmap.obj] at q;cases q
   ·rw[e] at q;exact absurd (aQ hp2 q) (by decide)
 have hF5:=hF.set (H':=H5) (z':=(Fr.aR s.next f,g)) hz rfl rfl rfl hq (hm4.ak (m5.same _ hm4.lt (λe=>hpmh e.symm))) (λk v=>by
  rw[gZ,hF.entH,uI _ x.zs.length f g hz]
  exact Qa) (λb hb hn1 hn2 hl=>hm35.same b hl (by
   rintro(e|e|e)
   ·exact hn1 (.inl e)
   ·exact hn2 e
   ·exact bw.off hp2 hF (e▸hb))) (λb hb=>.inl hb)
 have hfin:bw {x with zs:=(x.zs++[(f,g)]).set x.zs.length (Fr.aR s.next f,g),ef:=ef',cf:=x.cf+1,eh:=x.eh.push {key:=.int .i64 s.next,val:=c6 g.p,born:=x.ch},ch:=x.ch+1} H5 p dp (s.take f):=by
  refine⟨r5,hF5.1,?_,hw⟩
  show (s.fs++[f]).modify s.fs.length (Fr.aR s.next)=((x.zs++[(f,g)]).set x.zs.length (Fr.aR s.next f,g)).map (·.1)
  rw[aS (a:=f) (by simp),h.ag.fs]
  simp[PG.fs]
 have hm05:Mod (λb=>x.all p b\/g.fp b) H H5:=by
  refine(hm12.mono λb _ e=>?_).trans (hm35.mono λb _ e=>?_)
  ·rcases e with e|e
   ·exact .inl (.inr (.inl e))
   ·exact .inl (.inl e)
  ·rcases e with e|e|e
   ·exact .inr (.inl e)
   ·exact .inl (.inr (.inr (.inl e)))
   ·exact .inl (.inl e)
 have own:∀b,PG.all {x with zs:=(x.zs++[(f,g)]).set x.zs.length (Fr.aR s.next f,g),ef:=ef',cf:=x.cf+1,eh:=x.eh.push {key:=.int .i64 s.next,val:=c6 g.p,born:=x.ch},ch:=x.ch+1} p b->x.all p b\/g.fp b:=by
  rintro b (e|e|e|⟨u,hu,hub⟩)
  ·exact .inl (.inl e)
  ·exact .inl (.inr (.inl e))
  ·exact .inl (.inr (.inr (.inl e)))
  ·rcases gq hu with ⟨j,_,hj⟩|rfl
   ·rcases KW.1 (KH hj) with q|q
    ·exact .inl (.inr (.inr (.inr ⟨u,q,hub⟩)))
    ·simp at q;subst q;exact .inr hub
   ·exact .inr hub
 refine hK _ H5 ⟨hfin,h.ba.ak λb hb hl=>hm05.same b hl ?_,?_,h.gu.1,?_⟩ ⟨hm05.mono λb _ e=>e.imp .inr id,?_⟩
 ·rintro(e|e)
  ·exact h.apart b hb e
  ·exact(hgoff b e).1 hb
 ·intro b hb hx
  rcases own b hx with e|e
  ·exact h.apart b hb e
  ·exact(hgoff b e).1 hb
 ·intro hx
  rcases own _ hx with e|e
  ·exact h.gu.2 e
  ·exact(hgoff _ e).2.2 rfl
 ·rintro b (e|e)
  ·exact .inl (.inl (.inl e))
  ·rcases own b e with q|q
   ·exact .inl (.inl (.inr q))
   ·exact .inl (.inr q)
end Go.Proofs.YtdpdmbceakdlmaaGreatDoor
namespace Go.Proofs.YtdpdmbceakdlmaaGreatDoor
theorem Dk.vO (s:Dk):s.change.1.logs=s.logs:=by unfold Dk.logs;rw[s.bc]
theorem Dk.oN {s:Dk}{f:Dk->Dk}{n:Nat}(h:∀t:Dk,t.files=s.files->(f t).logs<=n)(h0:s.logs<=n):(s.step f).1.logs<=n:=by
 unfold Dk.step
 split
 ·exact h _ s.bc
 ·show s.change.1.logs<=n
  rw[s.vO];exact h0
theorem Dk.iI (s:Dk)(n:ByteArray):(s.create n).1.logs<=s.logs:=by
 unfold Dk.create
 split
 ·exact KN _
 ·split
  ·exact KN _
  ·split
   ·exact KN _
   ·split
    ·exact KN _
    ·refine Dk.oN (λt ht=>?_) (KN _)
     unfold Dk.logs
     simp[ht]
theorem Dk.rj (s:Dk)(n:ByteArray)(p:Int)(b:List UInt8):(s.write n p b).1.logs<=s.logs+1:=by
 unfold Dk.write
 split
 ·exact Lm _
 ·split
  ·split
   ·exact Lm _
   ·rename_i i hi
    split
    ·exact Lm _
    ·split
     ·exact Lm _
     ·refine Dk.oN (λt ht=>?_) (Lm _)
      obtain⟨f,hf,_⟩:=Dk.cY hi
      rw[<-ht] at hf
      show ((t.files.modify i _).map λf=>f.log.length).sum<=_
      have:=eM (λf:Fl=>f.log.length) (λf=>{f with log:=f.log++[⟨t.next,p.toNat,⟨b,by assumption⟩⟩]}) t.files i f hf
      have h3:(t.files.map λf=>f.log.length).sum=s.logs:=by rw[ht];rfl
      simp only[Lj,Ln,Qg] at this
      omega
  ·exact Lm _
theorem Dk.AO (s:Dk)(n:ByteArray):(s.sync n).1.logs<=s.logs:=by
 unfold Dk.sync
 split
 ·exact KN _
 ·split
  ·exact KN _
  ·rename_i i hi
   refine Dk.oN (λt ht=>?_) (KN _)
   obtain⟨f,hf,_⟩:=Dk.cY hi
   rw[<-ht] at hf
   show ((t.files.modify i _).map λf=>f.log.length).sum<=_
   have:=eM (λf:Fl=>f.log.length) (λf=>{f with synced:=f.au,log:=[]}) t.files i f hf
   have h3:(t.files.map λf=>f.log.length).sum=s.logs:=by rw[ht];rfl
   simp only[Qg] at this
   omega
theorem Dk.ua (s:Dk):s.cG.logs<=s.logs:=by
 unfold Dk.cG
 split
 ·unfold Dk.logs
  simp only[Md]
  refine mK _ _ _ λf _=>?_
  show ([]:List Wr).length<=_
  exact Lh _
 ·exact KN _
theorem Dk.rX (s:Dk)(i k:Int):(s.cD i k).logs=s.logs:=by
 unfold Dk.cD;split<;>rfl
theorem Pl.ku (s:Pl)(i:Nat):(s.put i).1.d.logs<=s.d.logs+1:=by
 unfold Pl.put
 split<;>exact s.d.rj _ _ _
theorem Pl.jo (s:Pl):s.room.1.d.logs<=s.d.logs+1:=by
 unfold Pl.room
 split
 ·exact Lm _
 ·split
  ·exact Lm _
  ·split
   ·split
    ·exact s.ku _
    ·exact s.ku _
   ·exact Lm _
def Dk.size (s:Dk)(n:ByteArray):Nat:=match s.idx n with|some i=>(s.file i).au.length|none=>0
def Pl.Fit (s:Pl):Prop:=∀f∈s.fs,f.page<s.d.size f.name
theorem Dk.wj {s:Dk}{n:ByteArray}(h:(s.len n).2=0):(s.len n).1=s.size n:=by
 unfold Dk.len Dk.open at h ⊢
 unfold Dk.size
 by_cases hd:s.down=true
 ·rw[if_pos hd] at h;cases h
 ·rw[if_neg hd] at h ⊢
  cases hi:s.idx n with
  |none=>rw[hi] at h;first|done|cases h
  |some i=>rfl
theorem Pl.Fit.new {s:Pl}(h:s.Fit){n:ByteArray}(hl:(s.d.len n).2=0):s.find n (s.d.len n).1=none:=by
 unfold Pl.find
 rw[Mi]
 intro f hf
 cases hq:f.name.toList==n.toList with
 |false=>rfl
 |true=>
   have e:f.name=n:=iP (by simpa using hq)
   have:=h f hf
   rw[e,<-Dk.wj hl] at this
   show (true&&decide ((f.page:Int)=_))=false
   rw[P0];exact decide_eq_false (by omega)
def Dk.eR (s t:Dk):Prop:=∀n,s.size n<=t.size n
theorem Dk.eR.refl (s:Dk):s.eR s:=λ_=>KN _
theorem Dk.eR.trans {a b c:Dk}(h:a.eR b)(k:b.eR c):a.eR c:=λn=>Lc (h n) (k n)
theorem Pl.Fit.grow {s t:Pl}(h:s.Fit)(hg:s.d.eR t.d)(hf:∀f∈t.fs,∃f'∈s.fs,f'.key=f.key):t.Fit:=by
 intro f hft
 obtain⟨f',hf',hk⟩:=hf f hft
 have h1:f'.name=f.name:=congrArg QA hk
 have h2:f'.page=f.page:=congrArg QW hk
 have:=h f' hf'
 rw[h1,h2] at this
 exact Nat.lt_of_lt_of_le this (hg _)
theorem Dk.size_modify {s t:Dk}{i:Nat}{f:Fl}{g:Fl->Fl}(hf:s.files[i]?=some f)(ht:t.files=s.files.modify i g)(hn:(g f).name=f.name)(hle:f.au.length<=(g f).au.length):s.eR t:=by
 intro n
 have hidx:t.idx n=s.idx n:=by
  unfold Dk.idx
  rw[ht]
  have:∀(l:List Fl) (j:Nat),l[j]?=some f->(l.modify j g).findIdx? (λf=>f.name.toList==n.toList)=l.findIdx? (λf=>f.name.toList==n.toList):=by
   intro l
   induction l with
   |nil=>intro j h;simp at h
   |cons a l ih=>
     intro j h
     match j with
     |0=>
       simp at h;subst h
       simp only[Ox,Pj,hn]
     |j+1=>
       simp only[Mt] at h
       simp only[NN,Pj,ih j h]
  exact this s.files i hf
 unfold Dk.size
 rw[hidx]
 cases hi:s.idx n with
 |none=>exact KN _
 |some j=>
   obtain⟨fj,hfj,_⟩:=Dk.cY hi
   show (s.file j).au.length<=(t.file j).au.length
   by_cases e:i=j
   ·subst e
    rw[hf] at hfj;cases hfj
    have:t.files[i]?=some (g f):=by rw[ht];exact bo hf
    rw[Dk.dd hf,Dk.dd this];exact hle
   ·have:t.files[j]?=some fj:=by rw[ht,bq e];exact hfj
    rw[Dk.dd hfj,Dk.dd this];exact KN _
theorem Dk.eR.files {s t:Dk}(h:t.files=s.files):s.eR t:=by
 intro n
 have:t.size n=s.size n:=by unfold Dk.size Dk.idx Dk.file;rw[h]
 omega
theorem Dk.nD (s:Dk):s.eR s.change.1:=.files s.bc
theorem Dk.my {s:Dk}{f:Dk->Dk}(h:∀t:Dk,t.files=s.files->t.eR (f t)):s.eR (s.step f).1:=by
 unfold Dk.step
 split
 ·exact(s.nD).trans (h _ s.bc)
 ·exact s.nD
theorem Fl.mP (f:Fl)(w:Wr):(({f with log:=f.log++[w]}:Fl)).au=dq f.au w:=by simp[Fl.au]
theorem Dk.pr (s:Dk)(n:ByteArray)(k:Int)(b:List UInt8):s.eR (s.write n k b).1:=by
 unfold Dk.write
 split
 ·exact .refl _
 ·split
  ·split
   ·exact .refl _
   ·rename_i i hi
    obtain⟨f,hf,_⟩:=Dk.cY hi
    split
    ·exact .refl _
    ·split
     ·exact .refl _
     ·refine Dk.my λt ht=>?_
      exact Dk.size_modify (i:=i) (f:=f) (g:=λf=>{f with log:=f.log++[_]}) (by rw[ht];exact hf) rfl rfl (by rw[Fl.mP,ct];omega)
  ·exact .refl _
theorem Dk.w6 (s:Dk)(n:ByteArray):s.eR (s.sync n).1:=by
 unfold Dk.sync
 split
 ·exact .refl _
 ·split
  ·exact .refl _
  ·rename_i i hi
   obtain⟨f,hf,_⟩:=Dk.cY hi
   refine Dk.my λt ht=>?_
   exact Dk.size_modify (i:=i) (f:=f) (g:=λf=>{f with synced:=f.au,log:=[]}) (by rw[ht];exact hf) rfl rfl (by simp[Fl.au])
theorem Dk.jQ (s:Dk)(n:ByteArray):s.eR (s.create n).1:=by
 unfold Dk.create
 split
 ·exact .refl _
 ·split
  ·exact .refl _
  ·split
   ·exact .refl _
   ·split
    ·exact .refl _
    ·refine Dk.my λt _ m=>?_
     unfold Dk.size
     cases hi:t.idx m with
     |none=>exact Lh _
     |some i=>
       obtain⟨f,hf,_⟩:=Dk.cY hi
       have hl:=(KI.1 hf).1
       have hi':({t with files:=t.files++[⟨n,[],[]⟩]}:Dk).idx m=some i:=by
        unfold Dk.idx at hi ⊢
        simp only[List.findIdx?_append,hi,Option.some_or]
       rw[hi']
       have:(t.files++[(⟨n,[],[]⟩:Fl)])[i]?=some f:=by rw[K9 hl];exact hf
       show (t.file i).au.length<=((t.files++[(⟨n,[],[]⟩:Fl)]).getD i _).au.length
       rw[Dk.dd hf]
       simp only[List.getD,this,Option.getD_some]
       exact KN _
theorem Pl.ot (s:Pl)(i:Nat):s.d.eR (s.put i).1.d:=by
 unfold Pl.put
 split<;>exact s.d.pr _ _ _
theorem Pl.xJ (s:Pl):s.d.eR s.room.1.d:=by
 unfold Pl.room
 split
 ·exact .refl _
 ·split
  ·exact .refl _
  ·split
   ·split
    ·exact s.ot _
    ·exact s.ot _
   ·exact .refl _
structure Live (d:Dk)(n:ByteArray)(pg:List Pg)(q:Nat):Prop where
 up:d.down=false
 calm:d.crash=none
 file:∃f,d.files=[f]/\f.name=n/\f.au=pg
 quota:d.quota=q
theorem Live.idx {d:Dk}{n:ByteArray}{pg:List Pg}{q:Nat}(h:Live d n pg q):d.idx n=some 0:=by
 obtain⟨f,h1,h2,_⟩:=h.file
 unfold Dk.idx;rw[h1];simp[h2]
theorem Live.at {d:Dk}{n:ByteArray}{pg:List Pg}{q:Nat}(h:Live d n pg q):∃f,d.files[0]?=some f/\f.name=n/\f.au=pg/\d.files=[f]:=by
 obtain⟨f,h1,h2,h3⟩:=h.file
 exact⟨f,by rw[h1];rfl,h2,h3,h1⟩
theorem Live.au {d:Dk}{n:ByteArray}{pg:List Pg}{q:Nat}(h:Live d n pg q):(d.file 0).au=pg:=by
 obtain⟨f,h1,_,h3,_⟩:=h.at
 rw[Dk.dd h1,h3]
theorem Live.len {d:Dk}{n:ByteArray}{pg:List Pg}{q:Nat}(h:Live d n pg q):d.len n=(pg.length,0):=by
 unfold Dk.len Dk.open
 rw[if_neg (by rw[h.up];simp),h.idx]
 simp only[h.au]
theorem Live.size {d:Dk}{n:ByteArray}{pg:List Pg}{q:Nat}(h:Live d n pg q):d.size n=pg.length:=by
 unfold Dk.size;rw[h.idx];simp only[h.au]
theorem Live.used {d:Dk}{n:ByteArray}{pg:List Pg}{q:Nat}(h:Live d n pg q):d.used=pg.length:=by
 obtain⟨f,_,_,h3,h4⟩:=h.at
 unfold Dk.used;rw[h4];simp[h3]
theorem Live.read {d:Dk}{n:ByteArray}{pg:List Pg}{q:Nat}(h:Live d n pg q){k:Nat}{b:Pg}(hk:pg[k]?=some b):d.read n k=(b.1,0):=by
 unfold Dk.read Dk.open
 rw[if_neg (by rw[h.up];simp),h.idx]
 simp only[h.au]
 rw[if_neg (by omega),KU,hk]
theorem Live.step {d:Dk}{n:ByteArray}{pg:List Pg}{q:Nat}(h:Live d n pg q)(f:Dk->Dk):d.step f=(f {d with ops:=da (d.ops+1)},0):=by
 have:d.change=({d with ops:=da (d.ops+1)},0):=by unfold Dk.change;rw[h.calm]
 unfold Dk.step;rw[this,if_pos rfl]
def putAt (pg:List Pg)(k:Nat)(b:Pg):List Pg:=dq pg ⟨0,k,b⟩
theorem nA (pg:List Pg)(k:Nat)(b:Pg):(putAt pg k b).length=max pg.length (k+1):=ct _ _
theorem tc {pg:List Pg}{k:Nat}{b:Pg}(hk:k<=pg.length)(j:Nat):(putAt pg k b)[j]?=if j=k then some b else pg[j]?:=by
 unfold putAt dq
 simp only
 by_cases e:j=k
 ·subst e
  rw[if_pos rfl,LD,if_pos rfl,if_pos (by simp;omega)]
 ·rw[if_neg e,LD,if_neg (λq=>e q.symm)]
  by_cases hj:j<pg.length
  ·rw[K9 hj]
  ·rw[LR (by omega),Mb (by simp;omega),Mb (by omega)]
theorem Live.write {d:Dk}{n:ByteArray}{pg:List Pg}{q:Nat}(h:Live d n pg q){k:Nat}{b:List UInt8}(hb:b.length=512)(hk:k<=pg.length)(hq:k=pg.length->pg.length<q):
  (d.write n k b).2=0/\Live (d.write n k b).1 n (putAt pg k ⟨b,hb⟩) q/\(d.write n k b).1.ops=da (d.ops+1):=by
 obtain⟨f,h1,h2,h3,h4⟩:=h.at
 have e:d.write n k b=d.step λt=>(t.ff 0 ⟨t.next,k,⟨b,hb⟩⟩).gk (max t.most (t.ff 0 ⟨t.next,k,⟨b,hb⟩⟩).used):=by
  unfold Dk.write
  rw[if_neg (by rw[h.up];simp),dif_pos hb,h.idx]
  simp only[h.au]
  rw[if_neg (by omega),if_neg (by rw[h.used,h.quota];rintro⟨q1,q2⟩;have:=hq (by omega);omega),KU]
 rw[e,h.step]
 refine⟨rfl,⟨h.up,h.calm,⟨{f with log:=f.log++[⟨d.next,k,⟨b,hb⟩⟩]},?_,h2,?_⟩,h.quota⟩,rfl⟩
 ·show d.files.modify 0 _=_
  rw[h4];rfl
 ·rw[Fl.mP,h3];rfl
theorem Live.sync {d:Dk}{n:ByteArray}{pg:List Pg}{q:Nat}(h:Live d n pg q):
  (d.sync n).2=0/\Live (d.sync n).1 n pg q/\(d.sync n).1.ops=da (d.ops+1)/\(∃f,(d.sync n).1.files=[f]/\f.name=n/\f.synced=pg/\f.log=[]):=by
 obtain⟨f,h1,h2,h3,h4⟩:=h.at
 have e:d.sync n=d.step λt=>t.yI 0 λf=>{f with synced:=f.au,log:=[]}:=by
  unfold Dk.sync
  rw[if_neg (by rw[h.up];simp),h.idx]
 rw[e,h.step]
 have hf:({d with ops:=da (d.ops+1)}:Dk).yI 0 (λf=>{f with synced:=f.au,log:=[]})={d with files:=[{f with synced:=f.au,log:=[]}],ops:=da (d.ops+1)}:=by
  unfold Dk.yI
  simp only[h4]
  rfl
 rw[hf]
 exact⟨rfl,⟨h.up,h.calm,⟨_,rfl,h2,by simp[Fl.au];exact h3⟩,h.quota⟩,rfl,⟨_,rfl,h2,h3,rfl⟩⟩
structure Told (p:Pl)(n:ByteArray)(N q:Nat)(T:Nat->UInt8×List UInt8)(pg:List Pg):Prop where
 wrong:p.wrong=0
 ba:Live p.d n pg q
 len:pg.length=N
 mine:∀f∈p.fs,f.name=n/\f.page<N/\T f.page=(f.kind,f.b)
 rest:∀(k:Nat) (b:Pg),pg[k]?=some b->(∀f∈p.fs,f.page=k->f.dirty=false)->ez b.1=some (T k)
theorem Told.fit {p:Pl}{n:ByteArray}{N q:Nat}{T:Nat->UInt8×List UInt8}{pg:List Pg}(h:Told p n N q T pg):p.Fit:=by
 intro f hf
 obtain⟨h1,h2,_⟩:=h.mine f hf
 rw[h1,h.ba.size,h.len];exact h2
theorem Told.inj {p:Pl}{n:ByteArray}{N q:Nat}{T:Nat->UInt8×List UInt8}{pg:List Pg}(h:Told p n N q T pg)(hw:p.WF){i j:Nat}{f g:Fr}(hi:p.fs[i]?=some f)(hj:p.fs[j]?=some g)(e:f.page=g.page):i=j:=
 key_inj hw.keys hi hj ((h.mine f (KH hi)).1.trans (h.mine g (KH hj)).1.symm) e
theorem Told.put {p:Pl}{n:ByteArray}{N q:Nat}{T:Nat->UInt8×List UInt8}{pg:List Pg}(h:Told p n N q T pg)(hw:p.WF){i:Nat}{f:Fr}(hf:p.fs[i]?=some f):
  (p.put i).2=0/\(p.put i).1.fs=p.fs.modify i Fr.clean/\(p.put i).1.d.ops=da (p.d.ops+1)/\∃pg',Told (p.put i).1 n N q T pg':=by
 have hfm:=KH hf
 obtain⟨h1,h2,h3⟩:=h.mine f hfm
 have hb:=hw.room f hfm
 have hs:f.dg.length=512:=fC hb
 obtain⟨w1,w2,w3⟩:=h.ba.write (k:=f.page) hs (by rw[h.len];omega) (by rw[h.len];omega)
 have e:p.put i=((p.aZ (p.d.write f.name f.page f.dg).1).bf i Fr.clean,0):=by
  unfold Pl.put;rw[Pl.cX hf,if_pos (by rw[h1];exact w1)]
 rw[e,h1]
 refine⟨rfl,rfl,w3,putAt pg f.page ⟨f.dg,hs⟩,h.wrong,w2,?_,?_,?_⟩
 ·rw[nA,h.len];omega
 ·intro g hg
  have hg:g∈p.fs.modify i Fr.clean:=hg
  rcases mem_modify hf hg with r|r
  ·exact h.mine g r
  ·subst r;exact h.mine f hfm
 ·intro k b hk hcl
  rw[tc (by rw[h.len];omega)] at hk
  split at hk
  ·rename_i e;cases hk;subst e
   rw[h3];exact ke hb
  ·rename_i hne
   refine h.rest k b hk λg hg hgk=>hcl g ?_ hgk
   show g∈p.fs.modify i Fr.clean
   obtain⟨j,hj⟩:=KQ.1 hg
   have hij:i≠j:=by
    rintro rfl
    rw[hf] at hj;cases hj;exact hne hgk.symm
   exact KH (by rw[bq hij];exact hj)
theorem Told.erase {p:Pl}{n:ByteArray}{N q:Nat}{T:Nat->UInt8×List UInt8}{pg:List Pg}(h:Told p n N q T pg){i:Nat}{f:Fr}(hf:p.fs[i]?=some f)(hd:f.dirty=false):Told (p.drop i) n N q T pg:=by
 refine⟨h.wrong,h.ba,h.len,λg hg=>h.mine g (LQ hg),λk b hk hcl=>h.rest k b hk λg hg hgk=>?_⟩
 obtain⟨j,hj⟩:=KQ.1 hg
 by_cases e:j=i
 ·subst e;rw[hf] at hj;cases hj;exact hd
 ·exact hcl g (mem_erase.2 ⟨j,e,hj⟩) hgk
theorem nw {α:Type}(u:α->α):∀(l:List α) (i:Nat),(l.modify i u).eraseIdx i=l.eraseIdx i
 |[],i=>by simp
 |a::l,0=>by simp
 |a::l,i+1=>by simp[nw u l i]
theorem Pl.AZ {p:Pl}(h:p.fs.length<p.most):p.room=(p,0):=by unfold Pl.room;rw[if_pos h]
theorem Told.make {p:Pl}{n:ByteArray}{N q:Nat}{T:Nat->UInt8×List UInt8}{pg:List Pg}(h:Told p n N q T pg)(hw:p.WF)(hl:¬p.fs.length<p.most){g:Fr}(hg:g∈p.fs)(hgp:g.pins=[]):
  ∃i f pg',p.fs[i]?=some f/\f.pins=[]/\p.room.2=0/\p.room.1.fs=p.fs.eraseIdx i/\Told p.room.1 n N q T pg':=by
 cases hb:p.jS with
 |none=>exact absurd hgp (Pl.tu hb g hg)
 |some i=>
   obtain⟨f,h1,h2,_⟩:=Pl.hC hb
   have e:p.room=if (p.frame i).dirty then (if (p.put i).2=0 then ((p.put i).1.drop i,0) else p.put i) else (p.drop i,0):=by
    unfold Pl.room;rw[if_neg hl,hb]
   rw[e,Pl.cX h1]
   cases hd:f.dirty with
   |true=>
     obtain⟨w1,w2,_,pg',w4⟩:=h.put hw h1
     rw[if_pos rfl,if_pos w1]
     refine⟨i,f,pg',h1,h2,rfl,?_,w4.erase (f:=f.clean) (by rw[w2];exact bo h1) rfl⟩
     show (p.put i).1.fs.eraseIdx i=_
     rw[w2,nw]
   |false=>
     rw[if_neg (by simp)]
     exact⟨i,f,pg,h1,h2,rfl,rfl,h.erase h1 hd⟩
theorem Told.roomy {p:Pl}{n:ByteArray}{N q:Nat}{T:Nat->UInt8×List UInt8}{pg:List Pg}(h:Told p n N q T pg)(hw:p.WF)(hg:p.fs.length<p.most\/∃g∈p.fs,g.pins=[]):
  p.room.2=0/\(∃pg',Told p.room.1 n N q T pg')/\(∀g∈p.room.1.fs,g∈p.fs)/\(∀g∈p.fs,g.pins≠[]->g∈p.room.1.fs):=by
 by_cases hl:p.fs.length<p.most
 ·rw[Pl.AZ hl];exact⟨rfl,⟨pg,h⟩,λ_ q=>q,λ_ q _=>q⟩
 ·obtain⟨g,hgm,hgp⟩:=hg.resolve_left hl
  obtain⟨i,f,pg',h1,h2,h3,h4,h5⟩:=h.make hw hl hgm hgp
  refine⟨h3,⟨pg',h5⟩,λx hx=>by rw[h4] at hx;exact LQ hx,λx hx hxp=>?_⟩
  rw[h4]
  obtain⟨j,hj⟩:=KQ.1 hx
  refine mem_erase.2 ⟨j,?_,hj⟩
  rintro rfl
  rw[h1] at hj;cases hj;exact hxp h2
theorem kz {α:Type}(l:List α)(a:α)(u:α->α):(l++[a]).modify l.length u=l++[u a]:=by
 have ha:(l++[a])[l.length]?=some a:=by simp
 rw[aS ha];simp
theorem Pl.qf (p:Pl)(f:Fr):(p.take f).fs=p.fs++[Fr.aR p.next f]:=kz p.fs f _
def lO (T:Nat->UInt8×List UInt8)(k:Nat)(v:UInt8×List UInt8):Nat->UInt8×List UInt8:=λj=>if j=k then v else T j
theorem cw (T:Nat->UInt8×List UInt8)(k:Nat)(v:UInt8×List UInt8):lO T k v k=v:=if_pos rfl
theorem ck {T:Nat->UInt8×List UInt8}{k j:Nat}{v:UInt8×List UInt8}(h:j≠k):lO T k v j=T j:=if_neg h
theorem Told.take {p:Pl}{n:ByteArray}{N q:Nat}{T:Nat->UInt8×List UInt8}{pg:List Pg}(h:Told p n N q T pg){f:Fr}(hn:f.name=n)(hp:f.page<N)(hT:T f.page=(f.kind,f.b))(hno:∀g∈p.fs,g.page≠f.page)(hd:f.dirty=false):Told (p.take f) n N q T pg:=by
 refine⟨h.wrong,h.ba,h.len,λg hg=>?_,λk b hk hcl=>h.rest k b hk λg hg hgk=>hcl g ?_ hgk⟩
 ·rw[Pl.qf] at hg
  rcases KW.1 hg with r|r
  ·exact h.mine g r
  ·simp at r;subst r;exact⟨hn,hp,hT⟩
 ·rw[Pl.qf];exact List.mem_append_left _ hg
theorem Told.fresh {p:Pl}{n:ByteArray}{N q:Nat}{T:Nat->UInt8×List UInt8}{pg:List Pg}(h:Told p n N q T pg)(hw:p.WF)(hg:p.fs.length<p.most\/∃g∈p.fs,g.pins=[])(hN:N<q):
  (p.fresh n).2=(p.next,(N:Int),0)/\(p.fresh n).1.fs=p.room.1.fs++[⟨n,N,0,[],false,[p.next],0⟩]/\(p.fresh n).1.next=da (p.next+1)/\(p.fresh n).1.most=p.most/\(p.fresh n).1.tick=p.tick/\
  (p.fresh n).1.d.ops=da (p.room.1.d.ops+1)/\∃pg',Told (p.fresh n).1 n (N+1) q (lO T N (0,[])) pg':=by
 obtain⟨h1,⟨pg1,h2⟩,h3,_⟩:=h.roomy hw hg
 have hs:(bA 0 []).length=512:=fC (by simp)
 obtain⟨w1,w2,w3⟩:=h2.ba.write (k:=N) hs (by rw[h2.len];omega) (by rw[h2.len];intro _;exact hN)
 have hrs:=p.bJ
 have hlen:p.d.len n=(N,0):=by rw[h.ba.len,h.len]
 have e:p.fresh n=((p.room.1.aZ (p.room.1.d.write n (N:Int) (bA 0 [])).1).take ⟨n,N,0,[],false,[],0⟩,p.room.1.next,(N:Int),0):=by
  unfold Pl.fresh
  rw[if_neg (by rw[h.wrong];simp),hlen]
  simp only
  rw[if_neg (by simp),if_neg (by rw[h1];simp),if_neg (by rw[w1];simp)]
 rw[e]
 have hnx:(p.room.1.aZ (p.room.1.d.write n (N:Int) (bA 0 [])).1).next=p.next:=hrs.2.1
 have ht:Told (p.room.1.aZ (p.room.1.d.write n (N:Int) (bA 0 [])).1) n (N+1) q (lO T N (0,[])) (putAt pg1 N ⟨bA 0 [],hs⟩):=by
  refine⟨h2.wrong,w2,?_,λg hgm=>?_,λk b hk hcl=>?_⟩
  ·rw[nA,h2.len];omega
  ·obtain⟨a1,a2,a3⟩:=h2.mine g hgm
   exact⟨a1,by omega,by rw[ck (by omega)];exact a3⟩
  ·rw[tc (by rw[h2.len];omega)] at hk
   split at hk
   ·rename_i ek;cases hk;subst ek
    rw[cw];exact ke (by simp)
   ·rename_i ek
    rw[ck ek]
    exact h2.rest k b hk hcl
 refine⟨by rw[hrs.2.1],?_,?_,hrs.1,hrs.2.2.1,w3,_,ht.take (f:=⟨n,N,0,[],false,[],0⟩) rfl (Nat.lt_succ_self _) (cw _ _ _) (λg hgm=>?_) rfl⟩
 ·rw[Pl.qf,hnx];rfl
 ·show da ((p.room.1.aZ (p.room.1.d.write n (N:Int) (bA 0 [])).1).next+1)=_
  rw[hnx]
 ·have:=(h2.mine g hgm).2.1
  simp only;omega
theorem Told.bf {p p':Pl}{n:ByteArray}{N q:Nat}{T:Nat->UInt8×List UInt8}{pg:List Pg}(h:Told p n N q T pg){i:Nat}{f:Fr}{u:Fr->Fr}(hf:p.fs[i]?=some f)(hd:p'.d=p.d)(hw:p'.wrong=p.wrong)(hfs:p'.fs=p.fs.modify i u)
  (hu:(u f).name=f.name/\(u f).page=f.page/\(u f).kind=f.kind/\(u f).b=f.b/\(u f).dirty=f.dirty):Told p' n N q T pg:=by
 obtain⟨u1,u2,u3,u4,u5⟩:=hu
 refine⟨by rw[hw];exact h.wrong,by rw[hd];exact h.ba,h.len,λg hg=>?_,λk b hk hcl=>h.rest k b hk λg hg hgk=>?_⟩
 ·rw[hfs] at hg
  rcases mem_modify hf hg with r|r
  ·exact h.mine g r
  ·subst r;rw[u1,u2,u3,u4];exact h.mine f (KH hf)
 ·obtain⟨j,hj⟩:=KQ.1 hg
  by_cases e:i=j
  ·subst e
   rw[hf] at hj;cases hj
   rw[<-u5]
   exact hcl (u f) (by rw[hfs];exact KH (bo hf)) (by rw[u2];exact hgk)
  ·exact hcl g (by rw[hfs];exact KH (by rw[bq e];exact hj)) hgk
theorem Told.DQ {p:Pl}{n:ByteArray}{N q:Nat}{T:Nat->UInt8×List UInt8}{pg:List Pg}(h:Told p n N q T pg){k:Nat}{i:Nat}{f:Fr}(hi:p.find n k=some i)(hf:p.fs[i]?=some f):
  p.aR n k=(p.dE i,p.next,0)/\Told (p.dE i) n N q T pg:=by
 refine⟨?_,h.bf hf rfl rfl rfl ⟨rfl,rfl,rfl,rfl,rfl⟩⟩
 unfold Pl.aR
 rw[if_neg (by rw[h.wrong];simp),hi]
theorem Told.zi {p:Pl}{n:ByteArray}{N q:Nat}{T:Nat->UInt8×List UInt8}{pg:List Pg}(h:Told p n N q T pg)(hw:p.WF){k:Nat}(hi:p.find n k=none)(hk:k<N)(hg:p.fs.length<p.most\/∃g∈p.fs,g.pins=[]):
  (p.aR n k).2=(p.next,0)/\(p.aR n k).1.fs=p.room.1.fs++[⟨n,k,(T k).1,(T k).2,false,[p.next],0⟩]/\(p.aR n k).1.next=da (p.next+1)/\(p.aR n k).1.most=p.most/\∃pg',Told (p.aR n k).1 n N q T pg':=by
 obtain⟨h1,⟨pg1,h2⟩,h3,_⟩:=h.roomy hw hg
 have hrs:=p.bJ
 have hlen:p.d.len n=(N,0):=by rw[h.ba.len,h.len]
 have hno:∀g∈p.room.1.fs,g.page≠k:=λg hgm e=>Pl.fX hi g (h3 g hgm) (h2.mine g hgm).1 (by omega)
 obtain⟨b,hb⟩:∃b,pg1[k]?=some b:=⟨_,KJ (by rw[h2.len];exact hk)⟩
 have ho:=h2.rest k b hb λg hgm e=>absurd e (hno g hgm)
 have el:p.load n k=(p.room.1,some ⟨n,k,(T k).1,(T k).2,false,[],0⟩,0):=by
  unfold Pl.load
  rw[hlen]
  simp only
  rw[if_neg (by simp),if_neg (by omega),if_neg (by rw[h1];simp),h2.ba.read hb]
  simp only
  rw[if_neg (by simp),ho]
  simp
 have e:p.aR n k=(p.room.1.take ⟨n,k,(T k).1,(T k).2,false,[],0⟩,p.room.1.next,0):=by
  unfold Pl.aR
  rw[if_neg (by rw[h.wrong];simp),hi,el]
 rw[e]
 refine⟨by rw[hrs.2.1],?_,?_,hrs.1,pg1,h2.take (f:=⟨n,k,(T k).1,(T k).2,false,[],0⟩) rfl hk rfl hno rfl⟩
 ·rw[Pl.qf,hrs.2.1];rfl
 ·show da (p.room.1.next+1)=_
  rw[hrs.2.1]
theorem Told.get {p:Pl}{n:ByteArray}{N q:Nat}{T:Nat->UInt8×List UInt8}{pg:List Pg}(h:Told p n N q T pg)(hw:p.WF){f:Fr}{x:Int}(hf:f∈p.fs)(hx:x∈f.pins):p.get x=((T f.page).1,(T f.page).2,0):=by
 obtain⟨i,hi⟩:=KQ.1 hf
 unfold Pl.get
 rw[if_neg (by rw[h.wrong];simp),Pl.qg hw hi hx]
 simp only[Pl.cX hi,(h.mine f hf).2.2]
theorem Told.set {p:Pl}{n:ByteArray}{N q:Nat}{T:Nat->UInt8×List UInt8}{pg:List Pg}(h:Told p n N q T pg)(hw:p.WF){i:Nat}{f:Fr}{x:Int}(hf:p.fs[i]?=some f)(hx:x∈f.pins){k:UInt8}{b:List UInt8}(hb:b.length<=504):
  p.set x k b=(p.bf i (Fr.set k b),0)/\Told (p.bf i (Fr.set k b)) n N q (lO T f.page (k,b)) pg:=by
 constructor
 ·unfold Pl.set
  rw[if_neg (by rw[h.wrong];simp),Pl.qg hw hf hx]
  simp only
  rw[if_neg (by omega)]
 ·refine⟨h.wrong,h.ba,h.len,λg hg=>?_,λj c hj hcl=>?_⟩
  ·have hg:g∈p.fs.modify i (Fr.set k b):=hg
   rw[aS hf] at hg
   rcases gq hg with ⟨j,hji,hj⟩|r
   ·have hne:g.page≠f.page:=λe=>hji (h.inj hw hj hf e)
    rw[ck hne]
    exact h.mine g (KH hj)
   ·subst r
    obtain⟨a1,a2,_⟩:=h.mine f (KH hf)
    exact⟨a1,a2,cw _ _ _⟩
  ·by_cases e:j=f.page
   ·subst e
    have:=hcl (Fr.set k b f) (KH (bo hf)) rfl
    cases this
   ·rw[ck e]
    refine h.rest j c hj λg hg hgj=>hcl g ?_ hgj
    obtain⟨a,ha⟩:=KQ.1 hg
    have:i≠a:=by
     rintro rfl
     rw[hf] at ha;cases ha;exact e hgj.symm
    exact KH (by show (p.fs.modify i _)[a]?=_;rw[bq this];exact ha)
theorem Told.aB {p:Pl}{n:ByteArray}{N q:Nat}{T:Nat->UInt8×List UInt8}{pg:List Pg}(h:Told p n N q T pg)(hw:p.WF){i:Nat}{f:Fr}{x:Int}(hf:p.fs[i]?=some f)(hx:x∈f.pins):
  p.aB x=({p with fs:=p.fs.modify i (Fr.aB x (da (p.tick+1))),tick:=da (p.tick+1)},0)/\Told (p.aB x).1 n N q T pg:=by
 have e:p.aB x=({p with fs:=p.fs.modify i (Fr.aB x (da (p.tick+1))),tick:=da (p.tick+1)},0):=by
  unfold Pl.aB
  rw[if_neg (by rw[h.wrong];simp),Pl.qg hw hf hx]
 refine⟨e,?_⟩
 rw[e]
 exact h.bf hf rfl rfl rfl ⟨rfl,rfl,rfl,rfl,rfl⟩
theorem Told.aH {n:ByteArray}{N q:Nat}{T:Nat->UInt8×List UInt8}:∀(l:List Nat) {p:Pl} {pg:List Pg},Told p n N q T pg->p.WF->(∀f∈p.fs,f.dirty=true->f.page∈l)->
  (Pl.aH n l p).2=0/\(∃pg',Told (Pl.aH n l p).1 n N q T pg')/\(∀f∈(Pl.aH n l p).1.fs,f.dirty=false)/\(Pl.aH n l p).1.fs=p.fs.map Fr.clean/\(Pl.aH n l p).1.peak=p.peak/\(Pl.aH n l p).1.most=p.most
 |[],p,pg,h,hw,hd=>by
   have hcl:∀f∈p.fs,f.dirty=false:=λf hf=>by
    cases e:f.dirty with
    |false=>rfl
    |true=>have:=hd f hf e;cases this
   refine⟨rfl,⟨pg,h⟩,hcl,?_,rfl,rfl⟩
   show p.fs=p.fs.map Fr.clean
   have:p.fs.map Fr.clean=p.fs.map id:=List.map_congr_left λf hf=>by
    have:=hcl f hf
    cases f;simp only[Fr.clean,id] at*;rw[this]
   rw[this,List.map_id]
 |k::l,p,pg,h,hw,hd=>by
   unfold Pl.aH
   have skip:(∀f∈p.fs,f.page=k->f.dirty=false)->∀f∈p.fs,f.dirty=true->f.page∈l:=by
    intro hk f hf e
    rcases K8.1 (hd f hf e) with r|r
    ·rw[hk f hf r] at e;cases e
    ·exact r
   cases hi:p.find n k with
   |none=>
     exact Told.aH l h hw (skip λf hf e=>absurd (by omega) (Pl.fX hi f hf (h.mine f hf).1))
   |some i=>
     obtain⟨f,hf,hfn,hfp⟩:=Pl.eS hi
     have hfp':f.page=k:=by omega
     simp only[Pl.cX hf]
     cases hdt:f.dirty with
     |false=>
       rw[if_neg (by simp)]
       refine Told.aH l h hw (skip λg hg e=>?_)
       obtain⟨j,hj⟩:=KQ.1 hg
       have:=h.inj hw hj hf (by omega)
       subst this
       rw[hf] at hj;cases hj;exact hdt
     |true=>
       obtain⟨w1,w2,w3,pg',w4⟩:=h.put hw hf
       rw[if_pos rfl,if_pos w1]
       have hsame:=p.nB i
       obtain⟨r1,r2,r3,r4,r5,r6⟩:=Told.aH l w4 (hw.put hf) (λg hg e=>by
        rw[w2] at hg
        rw[aS hf] at hg
        rcases gq hg with ⟨j,hji,hj⟩|r
        ·have hgm:=KH hj
         rcases K8.1 (hd g hgm e) with r|r
         ·exact absurd (h.inj hw hj hf (by omega)) hji
         ·exact r
        ·subst r;cases e)
       refine⟨r1,r2,r3,?_,by rw[r5];exact hsame.2.2.2.1,by rw[r6];exact hsame.1⟩
       rw[r4,w2,aS hf]
       rw[Ni]
       apply List.ext_getElem?
       intro j
       rw[LD]
       split
       ·rename_i e;subst e
        have hl:=(KI.1 hf).1
        rw[if_pos (by simpa using hl),Le,hf];rfl
       ·rfl
theorem Told.flush {p:Pl}{n:ByteArray}{N q:Nat}{T:Nat->UInt8×List UInt8}{pg:List Pg}(h:Told p n N q T pg)(hw:p.WF):
  (p.flush n).2=0/\(∃pg',Told (p.flush n).1 n N q T pg'/\∃f,(p.flush n).1.d.files=[f]/\f.name=n/\f.synced=pg'/\f.log=[])/\(p.flush n).1.fs=p.fs.map Fr.clean/\(p.flush n).1.peak=p.peak/\(p.flush n).1.most=p.most:=by
 obtain⟨r1,⟨pg1,r2⟩,r3,r4,r5,r6⟩:=h.aH (p.aU n) hw (λf hf _=>by
  unfold Pl.aU
  rw[List.mem_mergeSort]
  exact KZ.2 ⟨f,K3.2 ⟨hf,by rw[(h.mine f hf).1];simp⟩,rfl⟩)
 obtain⟨s1,s2,s3,s4⟩:=r2.ba.sync
 have e:p.flush n=((Pl.aH n (p.aU n) p).1.aZ ((Pl.aH n (p.aU n) p).1.d.sync n).1,0):=by
  unfold Pl.flush
  rw[if_neg (by rw[h.wrong];simp),h.ba.len]
  simp only
  rw[if_neg (by simp),if_neg (by rw[r1];simp),s1]
  rfl
 rw[e]
 exact⟨rfl,⟨pg1,⟨r2.wrong,s2,r2.len,r2.mine,r2.rest⟩,s4⟩,r4,r5,r6⟩
open Go.MapKept
theorem bP.ext {x:PG}{D:Nat->Prop}{H H':Heap}{p dp:Nat}{s:Pl}(h:bP x D H p dp s)(e:Ext H H'):bP x D H' p dp s:=
 ⟨h.ag.ak λb _ hl=>e.same b hl id,h.ba.ak λb _ hl=>e.same b hl id,h.apart,h.gu⟩
theorem Step.ext {F:Nat->Prop}{H H':Heap}(e:Ext H H'):Step F F H H':=⟨Ext.mod e,λ_ q=>.inl q⟩
theorem Step.behind {F G:Nat->Prop}{A B C:Heap}(h:Step F G A B)(e:Ext B C):Step F G A C:=h.trans (Step.ext e)
theorem qL {D:Nat->Prop}{H:Heap}{dp:Nat}{d:Dk}{m:Nat}{K:(Option Addr×Int)->Heap->Prop}(hg:Gl H)(hd:bj D H dp d)(hD:¬D bx)(h8:8<=m)(hm:m<=4096)
  (hK:∀F p H',aM F H' p dp (pl0 d m)->Ext H H'->(∀b,F b->D b\/H.size<=b)->K (aD p,0) H'):CT.sp (aD dp) (m:Int) H K:=by
 refine CT.of ?_
 unfold CT.vc
 refine aw rfl (aw (by simp;omega) (aw (by simp;omega) ?_))
 refine qM (d:=.int .i64) λH1 s1 m1 e1=>?_
 refine qM (d:=.int .i64) λH2 s2 m2 e2=>?_
 refine ao λH3 s3 r3 e3=>?_
 have hl:=hd.lt
 have hgl:=hg.lt
 have e03:Ext H H3:=(e1.trans e2).trans e3
 have hx:bw ⟨H.size,#[],0,H1.size,#[],0,[]⟩ H3 H2.size dp (pl0 d m):=by
  refine⟨r3,⟨?_,?_,by simp only;omega,rfl,?_,?_,by simp,by simp⟩,rfl,yo h8 hm⟩
  ·exact⟨(e2.trans e3).at m1.obj id,stamped_empty 0,by simp⟩
  ·exact m2.ak (e3.same _ m2.lt id)
  ·intro k v
   constructor
   ·rintro⟨e,he,_⟩;simp at he
   ·intro q;simp[nY] at q
  ·intro k v
   constructor
   ·rintro⟨e,he,_⟩;simp at he
   ·intro q;simp[ub] at q
 have hall:∀b,PG.all ⟨H.size,#[],0,H1.size,#[],0,[]⟩ H2.size b->H.size<=b:=by
  rintro b (e|e|e|⟨z,hz,_⟩)
  ·omega
  ·simp only at e;omega
  ·simp only at e;omega
  ·simp at hz
 refine hK _ H2.size H3 ⟨_,D,⟨hx,hd.ak λb _ hl=>e03.same b hl id,λb hb hx=>?_,hD,λhx=>?_⟩,λb=>Qa⟩ e03 ?_
 ·have:=hall b hx;have:=hl b hb;omega
 ·have:=hall _ hx;omega
 ·rintro b (q|q)
  ·exact .inl q
  ·exact .inr (hall b q)
theorem BS {x:PG}{H:Heap}{p dp:Nat}{s:Pl}{n:ByteArray}{k:Int}{K:(Option Addr×Bool)->Prop}(h:bw x H p dp s)(hn:n.size<=9223372036854775807)(h0:-9223372036854775808<=k)(h1:k<=9223372036854775807)
  (hF:∀i f g,s.find n k=some i->x.zs[i]?=some (f,g)->f.name=n->(f.page:Int)=k->K (aD g.p,true)) (hN:s.find n k=none->K (none,false)):
  Di (bg [ar,aA]) KE (L3 wQ (.map (some x.mf)) (.agg #[(.string n),(.int .i64 k)]) true) H K:=by
 obtain⟨et,inf,hu,hi,hz⟩:=lE
 refine vT (k:=iY n k) hu uJ hi hz h.ah.fmap (oJ hn h0 h1) ?_ ?_
 ·intro v hv
  obtain⟨z,hzm,e⟩:=KZ.1 ((h.ah.entF _ _).1 hv)
  simp only[Lw] at e
  obtain⟨e1,e2⟩:=kq e.1
  obtain⟨i,hi⟩:=KQ.1 hzm
  have hfs:s.fs[i]?=some z.1:=by rw[h.fs];simp[PG.fs,hi]
  refine⟨(aD z.2.p,true),by rw[<-e.2];rfl,hF i z.1 z.2 ?_ hi e1 e2⟩
  rw[<-e1,<-e2]
  exact Pl.find_eq h.wf hfs
 ·intro hno
  refine⟨(none,false),rfl,hN ?_⟩
  cases hx:s.find n k with
  |none=>rfl
  |some i=>
    obtain⟨f,hf,e1,e2⟩:=Pl.eS hx
    obtain⟨g,hg,_⟩:=h.at hf
    refine absurd ((h.ah.entF (iY n k) (c6 g.p)).2 (KZ.2 ⟨(f,g),KH hg,?_⟩)) (hno _)
    simp only[e1,e2]
theorem BO {x:PG}{H:Heap}{p dp:Nat}{s:Pl}{k:Int}{K:(Option Addr×Bool)->Prop}(h:bw x H p dp s)
  (hF:∀i f g,s.held k=some i->x.zs[i]?=some (f,g)->k∈f.pins->K (aD g.p,true)) (hN:s.held k=none->K (none,false)):
  Di (bg [ar,aA]) KE (L3 ID (.map (some x.mh)) (.int .i64 k) true) H K:=by
 obtain⟨et,inf,hu,hd,hi,hz⟩:=pR
 refine rh hu hd hi hz h.ah.hmap (k:=.int .i64 k) (show KG=KG from rfl) ?_ ?_
 ·intro v hv
  obtain⟨z,hzm,hk⟩:=LZ.1 ((h.ah.entH _ _).1 hv)
  obtain⟨q,hq,e⟩:=KZ.1 hk
  simp only[Lw,Oh,true_and] at e
  obtain⟨i,hi⟩:=KQ.1 hzm
  have hfs:s.fs[i]?=some z.1:=by rw[h.fs];simp[PG.fs,hi]
  rw[e.1] at hq
  exact⟨(aD z.2.p,true),by rw[<-e.2];rfl,hF i z.1 z.2 (Pl.qg h.wf hfs hq) hi hq⟩
 ·intro hno
  refine⟨(none,false),rfl,hN ?_⟩
  cases hx:s.held k with
  |none=>rfl
  |some i=>
    obtain⟨f,hf,hm⟩:=Pl.eU hx
    obtain⟨g,hg,_⟩:=h.at hf
    exact absurd ((h.ah.entH (.int .i64 k) (c6 g.p)).2 (LZ.2 ⟨(f,g),KH hg,KZ.2 ⟨k,hm,rfl⟩⟩)) (hno _)
theorem Dk.kM {s:Dk}(h:s.WF)(n:ByteArray):(s.len n).1<=1048576:=by
 have h1:=h.used;have h2:=h.most;have h3:=h.quota
 unfold Dk.len
 split
 ·rename_i i e hi
  have:(s.file i).au.length<=s.used:=by
   unfold Dk.open at hi
   split at hi
   ·cases hi
   ·split at hi
    ·rename_i j hj
     cases hi
     obtain⟨f,hf,_⟩:=Dk.cY hj
     rw[Dk.dd hf];exact Dk.eH hf
    ·cases hi
  show (s.file i).au.length<=_
  omega
 ·exact Lh _
theorem Dk.vF (s:Dk)(n:ByteArray)(k:Int):(s.read n k).1.length<=512/\((s.read n k).2=0->(s.read n k).1.length=512):=by
 unfold Dk.read Dk.open
 split
 ·rename_i i e hi
  split
  ·exact⟨by simp,λq=>by cases q⟩
  ·split
   ·rename_i pg _;exact⟨by rw[pg.2];exact KN _,λ_=>pg.2⟩
   ·exact⟨by simp,λq=>by cases q⟩
 ·rename_i e hi
  refine⟨by simp,λq=>?_⟩
  split at hi
  ·simp at hi;subst hi;cases q
  ·split at hi
   ·cases hi
   ·simp at hi;subst hi;cases q
theorem Pl.tk (s:Pl):∀f∈s.room.1.fs,∃f'∈s.fs,f'.key=f.key:=by
 have hput:∀i,∀f∈(s.put i).1.fs,∃f'∈s.fs,f'.key=f.key:=by
  intro i f hf
  unfold Pl.put at hf
  split at hf
  ·have hf:f∈s.fs.modify i Fr.clean:=hf
   obtain⟨j,hj⟩:=KQ.1 hf
   rw[List.getElem?_modify] at hj
   cases hx:s.fs[j]? with
   |none=>rw[hx] at hj;cases hj
   |some y=>
     rw[hx] at hj
     have hj':(if i=j then y.clean else y)=f:=K1 hj
     refine⟨y,KH hx,?_⟩
     rw[<-hj'];split<;>rfl
  ·exact⟨f,hf,rfl⟩
 intro f hf
 unfold Pl.room at hf
 split at hf
 ·exact⟨f,hf,rfl⟩
 ·split at hf
  ·exact⟨f,hf,rfl⟩
  ·rename_i i _
   split at hf
   ·split at hf
    ·exact hput i f (LQ hf)
    ·exact hput i f hf
   ·exact⟨f,LQ hf,rfl⟩
theorem Pl.tL {s:Pl}{n:ByteArray}{k:Int}(h:∀f∈s.fs,f.name=n->(f.page:Int)≠k):s.find n k=none:=by
 unfold Pl.find
 rw[Mi]
 intro f hf
 cases hq:f.name.toList==n.toList with
 |false=>rfl
 |true=>
   have:=h f hf (iP (by simpa using hq))
   show (true&&decide ((f.page:Int)=k))=false
   rw[P0];exact decide_eq_false this
theorem Pl.lM {s:Pl}{n:ByteArray}{k:Int}(h:s.find n k=none):s.room.1.find n k=none:=by
 refine Pl.tL λf hf e1 e2=>?_
 obtain⟨f',hf',hk⟩:=s.tk f hf
 have h1:f'.name=f.name:=congrArg QA hk
 have h2:f'.page=f.page:=congrArg QW hk
 exact Pl.fX h f' hf' (h1.trans e1) (by rw[h2];exact e2)
theorem Pl.AQ {s:Pl}(hd:s.d.WF){n:ByteArray}{k:Int}{f:Fr}(h:(s.load n k).2.1=some f):
  (s.load n k).1=s.room.1/\(s.load n k).2.2=0/\s.room.2=0/\f.name=n/\(f.page:Int)=k/\f.b.length<=504/\f.pins=[]/\f.left=0/\f.page<1048577:=by
 have hl:=Dk.kM hd n
 unfold Pl.load at h ⊢
 by_cases h1:(s.d.len n).2≠0
 ·rw[if_pos h1] at h;cases h
 rw[if_neg h1] at h ⊢
 by_cases h2:k<0\/k>=((s.d.len n).1:Int)
 ·rw[if_pos h2] at h;cases h
 rw[if_neg h2] at h ⊢
 by_cases h3:s.room.2≠0
 ·rw[if_pos h3] at h;cases h
 rw[if_neg h3] at h ⊢
 by_cases h4:(s.room.1.d.read n k).2≠0
 ·rw[if_pos h4] at h;cases h
 rw[if_neg h4] at h ⊢
 cases ho:ez (s.room.1.d.read n k).1 with
 |none=>rw[ho] at h;cases h
 |some kb=>
   rw[ho] at h
   simp only[LC] at h
   subst h
   have hlen:kb.2.length<=504:=by
    unfold ez at ho
    split at ho
    ·rename_i q;cases ho;simp;omega
    ·cases ho
   exact⟨rfl,rfl,by omega,rfl,by simp only;omega,hlen,rfl,rfl,by simp only;omega⟩
theorem Pl.Aq {s:Pl}{n:ByteArray}{k:Int}(h:(s.load n k).2.1=none):(s.load n k).2.2≠0:=by
 unfold Pl.load at h ⊢
 split
 ·rename_i h1;exact h1
 ·rename_i h1
  rw[if_neg h1] at h
  split
  ·show (12:Int)≠0;decide
  ·rename_i h2
   rw[if_neg h2] at h
   split
   ·rename_i h3;exact h3
   ·rename_i h3
    rw[if_neg h3] at h
    split
    ·rename_i h4;exact h4
    ·rename_i h4
     rw[if_neg h4] at h
     split
     ·show (20:Int)≠0;decide
     ·rename_i kb hk;rw[hk] at h;cases h
theorem dY {x:PG}{D:Nat->Prop}{H:Heap}{p dp:Nat}{s:Pl}{n:ByteArray}{k:Int}{K:(Option Addr×Int)->Heap->Prop}(hg:Gl H)(h:bP x D H p dp s)(hlogs:s.d.logs<68719476736)
  (hE:(s.load n k).2.1=none->∀q x' D' H',bP x' D' H' p dp (s.load n k).1->Step (λb=>D b\/x.all p b) (λb=>D' b\/x'.all p b) H H'->K (q,(s.load n k).2.2) H')
  (hS:∀f,(s.load n k).2.1=some f->∀g x' D' H',bP x' D' H' p dp s.room.1->Step (λb=>D b\/x.all p b) (λb=>D' b\/x'.all p b) H H'->Ch x' D' H' p g f->(∀b,g.fp b->H.size<=b)->K (aD g.p,0) H'):
  GA.sp (aD p) n k H K:=by
 refine GA.of ?_
 unfold GA.vc
 simp only[aq]
 refine ao λH1 s1 r1 e1=>?_
 have h1:=h.ext e1
 have hg1:Gl H1:=hg.mod e1 id
 refine h1.ag.head.ld (c:=ar) (i:=0) (x:=aD dp) rfl ?_
 refine r1.ld (c:=aV) (i:=0) (x:=n) rfl ?_
 refine tI h1.ba ?_
 unfold Pl.load at hE hS
 refine ae (λhz=>?_) (λhz=>?_)
 ·have hz':(s.d.len n).2≠0:=by simpa using hz
  rw[if_pos hz'] at hE
  exact hE rfl _ x D H1 h1 (.ext e1)
 have hz':¬(s.d.len n).2≠0:=by simpa using hz
 rw[if_neg hz'] at hE hS
 refine r1.ld (c:=aa .i64) (i:=1) (x:=k) rfl ?_
 refine ae (λhk=>?_) (λhk=>?_)
 ·have hk':k<0:=by simpa using hk
  rw[if_pos (.inl hk')] at hE
  exact hE rfl _ x D H1 h1 (.ext e1)
 refine r1.ld (c:=aa .i64) (i:=1) (x:=k) rfl ?_
 refine ae (λhk2=>?_) (λhk2=>?_)
 ·have hk':k>=((s.d.len n).1:Int):=by simpa using hk2
  rw[if_pos (.inr hk')] at hE
  exact hE rfl _ x D H1 h1 (.ext e1)
 have hk0:0<=k:=by simp at hk;omega
 have hkk:¬(k<0\/k>=((s.d.len n).1:Int)):=by simp at hk hk2;omega
 rw[if_neg hkk] at hE hS
 refine zo hg1 h1 hlogs λx2 D2 H2 h2 S2=>?_
 have S02:=(Step.ext (F:=λb=>D b\/x.all p b) e1).trans S2
 have hg2:Gl H2:=h1.gl hg1 S2.mod
 have hvoff:¬(D H.size\/x.all p H.size):=λq=>by have:=h.lt _ q;omega
 have r2:aj H2 H.size wG #[.string n,.int .i64 k]:=S2.mod.at r1 hvoff
 refine ae (λhz2=>?_) (λhz2=>?_)
 ·have hz2':s.room.2≠0:=by simpa using hz2
  rw[if_pos hz2'] at hE
  exact hE rfl _ x2 D2 H2 h2 S02
 have hz2':¬s.room.2≠0:=by simpa using hz2
 rw[if_neg hz2'] at hE hS
 refine h2.ag.head.ld (c:=ar) (i:=0) (x:=aD dp) rfl ?_
 refine r2.ld (c:=aV) (i:=0) (x:=n) rfl ?_
 refine r2.ld (c:=aa .i64) (i:=1) (x:=k) rfl ?_
 refine yY h2.ba λr H3 o3 e3 f3=>?_
 have hrl:=s.room.1.d.vF n k
 refine ae (λhz3=>?_) (λhz3=>?_)
 ·have hz3':(s.room.1.d.read n k).2≠0:=by simpa using hz3
  rw[if_pos hz3'] at hE
  exact hE rfl _ x2 D2 H3 (h2.ext e3) (S02.behind e3)
 have hz3':¬(s.room.1.d.read n k).2≠0:=by simpa using hz3
 rw[if_neg hz3'] at hE hS
 have r3:=r2.ext e3
 refine aj.dI (x:=(n,k)) r3 rfl rfl ?_
 refine ao λH4 s4 r4 e4=>?_
 have e34:Ext H2 H4:=e3.trans e4
 have hg4:Gl H4:=hg2.mod e34 id
 have z02:=S02.mod.size
 have z24:=e34.size
 have z3:=e3.size
 have o4:aK EB dF H4 r (s.room.1.d.read n k).1:=o3.ak λb _ hl=>e4.same b hl id
 have h512:(s.room.1.d.read n k).1.length=512:=hrl.2 (by omega)
 have fin:∀(H5:Heap) (kd:Int) (sl:Sl) (er:Int),Ext H4 H5->(∀H6,aj H6 H3.size Ip #[.string n,.int .i64 k,.int .u8 kd,sl.v,.bool false,.int .i64 0,.int .i64 0]->Mod (λb=>b=H3.size) H5 H6->H6.size=H5.size->K (some ⟨H3.size,0,none⟩,er) H6)->
   st H5 (La ⟨H3.size,0,none⟩ 2) (.int .u8 kd) λH7=>st H7 (La ⟨H3.size,0,none⟩ 3) sl.v λH8=>K (some ⟨H3.size,0,none⟩,er) H8:=by
  intro H5 kd sl er e45 hK
  refine aj.st (r4.ext e45) (i:=2) (by decide:2<7) (by rfl) λH7 r7 m7 z7=>?_
  refine aj.st r7 (i:=3) (by decide:3<7) (by rfl) λH8 r8 m8 z8=>?_
  exact hK H8 r8 (m7.trans m8) (by omega)
 have stays:∀(H5 H6:Heap),Ext H4 H5->Mod (λb=>b=H3.size) H5 H6->bP x2 D2 H6 p dp s.room.1/\Step (λb=>D b\/x.all p b) (λb=>D2 b\/x2.all p b) H H6:=by
  intro H5 H6 e45 m56
  have e26:Ext H2 H6:=⟨by have:=e45.size;have:=m56.size;omega,λb hb _=>(m56.same b (by have:=e45.size;omega) (by omega)).trans ((e34.trans e45).same b hb id)⟩
  exact⟨h2.ext e26,S02.behind e26⟩
 refine Fg hg4 (bY o4) (by omega) o4.cap (λq=>absurd h512 q) (λ_ ho=>?_) (λkd b s' H5 _ ho hbl o5 e45 f5=>?_)
 ·rw[ho] at hE
  refine fin H4 0 (Sl.mk none 0 0) 20 (.refl _ _) λH6 r6 m6 z6=>?_
  obtain⟨q1,q2⟩:=stays H4 H6 (.refl _ _) m6
  exact hE rfl _ x2 D2 H6 q1 q2
 ·rw[ho] at hS
  refine fin H5 _ s' 0 e45 λH6 r6 m6 z6=>?_
  obtain⟨q1,q2⟩:=stays H5 H6 e45 m6
  have hfb:∀b,re.fp ⟨H3.size,s'⟩ b->H3.size<=b:=by
   rintro b (e|hb)
   ·exact Nat.le_of_eq e.symm
   ·have:=f5 b hb;omega
  have z45:=e45.size
  refine hS _ rfl ⟨H3.size,s'⟩ x2 D2 H6 q1 q2 ⟨⟨?_,o5.ak λb hb hl=>m6.same b hl ?_⟩,λb hb=>?_⟩ (λb hb=>by have:=hfb b hb;omega)
  ·have ek:((k.toNat:Nat):Int)=k:=by omega
   unfold Ju
   simp only[ek]
   exact r6
  ·have:=f5 b hb;omega
  ·have h3:=hfb b hb
   refine⟨λq=>?_,λq=>?_,λq=>?_⟩
   ·have:=h2.lt b (.inl q);omega
   ·have:=h2.lt b (.inr q);omega
   ·have:=hg2.lt;omega
theorem aM.ext {F:Nat->Prop}{H H':Heap}{p dp:Nat}{s:Pl}(h:aM F H p dp s)(e:Ext H H'):aM F H' p dp s:=h.ak λb _ hl=>e.same b hl id
theorem Step.ahead {F G:Nat->Prop}{A B C:Heap}(e:Ext A B)(h:Step F G B C):Step F G A C:=(Step.ext e).trans h
theorem FD:(zc KE wG).size=2:=by kernel_rfl
theorem yd {F:Nat->Prop}{H:Heap}{p dp:Nat}{s:Pl}{n:ByteArray}{k:Int}{K:(Int×Int)->Heap->Prop}(hg:Gl H)(h:aM F H p dp s)(hn:n.size<=9223372036854775807)(h0:-9223372036854775808<=k)(h1:k<=9223372036854775807)
  (hlogs:s.d.logs<68719476736) (hnx:s.next<9223372036854775807) (hK:∀F' H',aM F' H' p dp (s.aR n k).1->Step F F' H H'->K ((s.aR n k).2.1,(s.aR n k).2.2) H'):zY.sp (aD p) n k H K:=by
 have h00:=h
 obtain⟨x,D,hd,hF⟩:=h
 refine zY.of ?_
 unfold zY.vc
 simp only[aq]
 refine jP hd.ag ?_
 unfold Pl.aR at hK
 refine ae (λhw=>?_) (λhw=>?_)
 ·have hw':s.wrong≠0:=by simpa using hw
  rw[if_pos hw'] at hK
  exact hK F H h00 (.refl _ _)
 have hw':¬s.wrong≠0:=by simpa using hw
 rw[if_neg hw'] at hK
 refine ao λH1 s1 r1 e1=>?_
 have hs2:=FD
 refine aj.iH r1 (cs:=#[.string n,.int .i64 k]) (by kernel_rfl) hs2 (by intro v hv;simp at hv;rcases hv with rfl|rfl<;>rfl) λH2 r2 m2 z2=>?_
 have e2:Ext H H2:=⟨by have:=e1.size;have:=m2.size;omega,λb hb _=>(m2.same b (by omega) (by omega)).trans (e1.same b hb id)⟩
 have hd2:=hd.ext e2
 have hg2:Gl H2:=hg.mod e2 id
 refine hd2.ag.head.ld (c:=cq) (i:=2) (x:=some x.mf) rfl ?_
 refine aj.dI (x:=(n,k)) r2 rfl rfl ?_
 refine BS hd2.ag hn h0 h1 (λi f g hi hz _ _=>?_) (λhi=>?_)
 ·rw[hi] at hK
  have hfs:s.fs[i]?=some f:=by rw[hd.ag.fs];simp[PG.fs,hz]
  have hpl:f.pins.length<=s.pins:=ki (λf:Fr=>f.pins.length) s.fs i f hfs
  have ht:=hd.ag.wf.tick
  refine aP rfl ?_
  refine Cm hg2 hd2 hz hnx (hd.ag.wf.dE hfs hnx) (by omega) λx' H3 h3 S3=>?_
  obtain⟨F',q1,q2⟩:=h3.out (x:=x) (D:=D) (F:=F) (H:=H2) hF S3
  exact hK F' H3 q1 (q2.ahead e2)
 ·rw[hi] at hK
  refine aw rfl ?_
  refine aj.dI (x:=(n,k)) r2 rfl rfl ?_
  refine dY hg2 hd2 hlogs (λhno q x' D' H3 h3 S3=>?_) (λf hf g x' D' H3 h3 S3 hN hfp=>?_)
  ·have hne:=Pl.Aq hno
   obtain⟨q',hq'⟩:∃q',s.load n k=q':=⟨_,rfl⟩
   obtain⟨t,fo,e⟩:=q'
   rw[hq'] at hno hne h3 hK ⊢
   simp only at hno hne h3 hK ⊢
   subst hno
   simp only at hK
   refine aP (by simpa using hne) ?_
   have hg3:Gl H3:=hd2.gl hg2 S3.mod
   refine xt hg3 h3 λH4 h4 S4=>?_
   obtain⟨F',q1,q2⟩:=h4.out (x:=x) (D:=D) (F:=F) (H:=H2) hF (S3.trans S4)
   exact hK F' H4 q1 (q2.ahead e2)
  ·obtain⟨a1,a2,a3,a4,a5,a6,a7,a8,a9⟩:=Pl.AQ hd.ba.wf hf
   obtain⟨q',hq'⟩:∃q',s.load n k=q':=⟨_,rfl⟩
   obtain⟨t,fo,e⟩:=q'
   rw[hq'] at hf a1 a2 hK
   simp only at hf a1 a2 hK
   subst hf
   simp only at hK
   rw[a1] at hK
   refine aw rfl ?_
   have hg3:Gl H3:=hd2.gl hg2 S3.mod
   have hrs:=s.bJ
   have hrw:=hd.ag.wf.oG
   refine zh hg3 h3 hN (by rw[hrs.1];exact hrw.2 a3) (by rw[hrs.2.1];exact hnx) (by rw[a4,a5];exact Pl.lM hi) a6 a9 (by rw[a4];exact hn) a7 a8 λx4 H4 h4 S4=>?_
   have S24:Step (λb=>D b\/x.all p b) (λb=>D' b\/x4.all p b) H2 H4:=by
    refine⟨S3.mod.trans' S4.mod λb hb q=>?_,λb hb=>?_⟩
    ·rcases q with q|q
     ·exact(S3.own b q).resolve_right (by omega)
     ·have:=hfp b q;omega
    ·rcases S4.own b hb with q|q
     ·rcases q with q|q
      ·exact S3.own b q
      ·exact .inr (hfp b q)
     ·exact .inr (Lc S3.mod.size q)
   obtain⟨F',q1,q2⟩:=h4.out (x:=x) (D:=D) (F:=F) (H:=H2) hF S24
   exact hK F' H4 q1 (q2.ahead e2)
theorem CD {F:Nat->Prop}{H:Heap}{p dp:Nat}{s:Pl}{n:ByteArray}{K:(Int×Int×Int)->Heap->Prop}(hg:Gl H)(h:aM F H p dp s)(hn:n.size<=9223372036854775807)
  (hlogs:s.d.logs<68719476735) (hnx:s.next<9223372036854775807) (hfit:s.Fit)
  (hK:∀F' H',aM F' H' p dp (s.fresh n).1->Step F F' H H'->K ((s.fresh n).2.1,(s.fresh n).2.2.1,(s.fresh n).2.2.2) H'):G1.sp (aD p) n H K:=by
 have h00:=h
 obtain⟨x,D,hd,hF⟩:=h
 refine G1.of ?_
 unfold G1.vc
 simp only[aq]
 refine jP hd.ag ?_
 unfold Pl.fresh at hK
 refine ae (λhw=>?_) (λhw=>?_)
 ·have hw':s.wrong≠0:=by simpa using hw
  rw[if_pos hw'] at hK
  exact hK F H h00 (.refl _ _)
 have hw':¬s.wrong≠0:=by simpa using hw
 rw[if_neg hw'] at hK
 refine hd.ag.head.ld (c:=ar) (i:=0) (x:=aD dp) rfl ?_
 refine tI hd.ba ?_
 have fail:∀(e:Int) (x':PG) (D':Nat->Prop) (H1:Heap) (s':Pl),bP x' D' H1 p dp s'->Step (λb=>D b\/x.all p b) (λb=>D' b\/x'.all p b) H H1->(∀F' H',aM F' H' p dp (s'.met e)->Step F F' H H'->K (0,0,e) H')->
   vN.sp (aD p) e H1 λr H2=>K (0,0,r) H2:=by
  intro e x' D' H1 s' h1 S1 hk
  refine xt (hd.gl hg S1.mod) h1 λH2 h2 S2=>?_
  obtain⟨F',q1,q2⟩:=h2.out (x:=x) (D:=D) (F:=F) (H:=H) hF (S1.trans S2)
  exact hk F' H2 q1 q2
 refine ae (λhz=>?_) (λhz=>?_)
 ·have hz':(s.d.len n).2=0:=by simpa using hz
  rw[if_neg (by simpa using hz')] at hK
  refine zo hg hd (by omega) λx1 D1 H1 h1 S1=>?_
  have hg1:Gl H1:=hd.gl hg S1.mod
  refine ao λH2 s2 r2 e2=>?_
  have h2:=h1.ext e2
  have S2:=S1.behind e2
  have hg2:Gl H2:=hg1.mod e2 id
  refine ae (λhr=>?_) (λhr=>?_)
  ·have hr':s.room.2=0:=by simpa using hr
   rw[if_neg (by simpa using hr')] at hK
   have hA:dX H2 ⟨H1.size,Sl.mk none 0 0⟩ ⟨n,(s.d.len n).1,0,[],false,[],0⟩:=⟨r2,aK.nil _ _ _⟩
   have hfp:∀b,re.fp ⟨H1.size,Sl.mk none 0 0⟩ b->b=H1.size:=by
    rintro b (e|⟨ad,q,_⟩)
    ·exact e
    ·cases q
   have hoff1:∀b,D1 b\/x1.all p b->b<H1.size:=h1.lt
   have hlg:s.room.1.d.logs<68719476736:=by
    have:s.room.1.d.logs<=s.d.logs+1:=s.jo
    omega
   refine sH (f:=⟨n,(s.d.len n).1,0,[],false,[],0⟩) hg2 h2.ba h2.ag.head rfl hA (by simp) (λb hb q=>by have:=hfp b hb;have:=hoff1 b (.inl q);omega) hlg (λhne D3 H3 a3 S3=>?_) (λhe D3 H3 H4 a3 S3 hf4 m4 z4=>?_)
   ·have hne':(s.room.1.d.write n ((s.d.len n).1:Int) (bA 0 [])).2≠0:=hne
    rw[if_pos hne'] at hK
    obtain⟨q1,q2⟩:=h2.ky hg2 a3 S3
    refine aP (by simpa using hne) ?_
    exact fail _ x1 D3 H3 _ q1 (S2.trans q2) hK
   ·have he':¬(s.room.1.d.write n ((s.d.len n).1:Int) (bA 0 [])).2≠0:=λq=>q he
    rw[if_neg he'] at hK
    obtain⟨q1,q2⟩:=h2.ky hg2 a3 S3
    refine aw rfl ?_
    have hl4:∀b,b<H1.size->H4[b]?=H3[b]?:=λb hb=>m4.same b (by have:=e2.size;have:=S3.mod.size;omega) (by show b≠H1.size;omega)
    have hin:∀b,D3 b\/x1.all p b->b≠H1.size:=by
     intro b q e
     subst e
     rcases q with q|q
     ·rcases S3.own _ q with r|r
      ·have:=hoff1 _ (.inl r);omega
      ·have:=e2.size;omega
     ·have:=hoff1 _ (.inr q);omega
    have q4:bP x1 D3 H4 p dp (s.room.1.aZ (s.room.1.d.write n ((s.d.len n).1:Int) (bA 0 [])).1):=
     ⟨q1.ag.ak λb hb hl=>m4.same b hl (hin b (.inr hb)),q1.ba.ak λb hb hl=>m4.same b hl (hin b (.inl hb)),q1.apart,q1.gu⟩
    have S4:Step (λb=>D b\/x.all p b) (λb=>D3 b\/x1.all p b) H H4:=by
     have S3':=S2.trans q2
     refine⟨S3'.mod.trans' m4 λb hb q=>?_,S3'.own⟩
     have:b=H1.size:=q
     have:=S1.mod.size;omega
    have hg4:Gl H4:=hd.gl hg S4.mod
    have hNew:Ch x1 D3 H4 p ⟨H1.size,Sl.mk none 0 0⟩ ⟨n,(s.d.len n).1,0,[],false,[],0⟩:=by
     refine⟨hf4,λb hb=>?_⟩
     have eb:=hfp b hb
     refine⟨λq=>hin b (.inl q) eb,λq=>hin b (.inr q) eb,λq=>?_⟩
     have:=hg1.lt;omega
    have hrs:=s.bJ
    have hrw:=hd.ag.wf.oG
    have hle:=Dk.kM hd.ba.wf n
    obtain⟨f,hf⟩:∃f:Fr,f=⟨n,(s.d.len n).1,0,[],false,[],0⟩:=⟨_,rfl⟩
    rw[<-hf] at hNew hK
    have c1:f.name=n:=by rw[hf]
    have c2:f.page=(s.d.len n).1:=by rw[hf]
    have c3:f.b=[]:=by rw[hf]
    have c4:f.pins=[]:=by rw[hf]
    have c5:f.left=0:=by rw[hf]
    have d1:(s.room.1.aZ (s.room.1.d.write n ((s.d.len n).1:Int) (bA 0 [])).1).fs.length<(s.room.1.aZ (s.room.1.d.write n ((s.d.len n).1:Int) (bA 0 [])).1).most:=by
     show _<s.room.1.most;rw[hrs.1];exact hrw.2 hr'
    have d2:(s.room.1.aZ (s.room.1.d.write n ((s.d.len n).1:Int) (bA 0 [])).1).next<9223372036854775807:=by
     show s.room.1.next<_;rw[hrs.2.1];exact hnx
    have d3:(s.room.1.aZ (s.room.1.d.write n ((s.d.len n).1:Int) (bA 0 [])).1).find f.name f.page=none:=by
     rw[c1,c2];exact Pl.lM (hfit.new hz')
    have d4:f.b.length<=504:=by rw[c3];exact Lh _
    have d5:f.page<1048577:=by rw[c2];omega
    have d6:f.name.size<=9223372036854775807:=by rw[c1];exact hn
    show zT.sp (aD p) (aD H1.size) H4 (λr H7=>K (r,((s.d.len n).1:Int),0) H7)
    refine zh (g:=⟨H1.size,Sl.mk none 0 0⟩) (K:=λr H7=>K (r,((s.d.len n).1:Int),0) H7) hg4 q4 hNew d1 d2 d3 d4 d5 d6 c4 c5 λx5 H5 h5 S5=>?_
    have S45:Step (λb=>D b\/x.all p b) (λb=>D3 b\/x5.all p b) H H5:=by
     refine⟨S4.mod.trans' S5.mod λb hb q=>?_,λb hb=>?_⟩
     ·rcases q with q|q
      ·exact(S4.own b q).resolve_right (by omega)
      ·have:=hfp b q;have:=S1.mod.size;omega
     ·rcases S5.own b hb with q|q
      ·rcases q with q|q
       ·exact S4.own b q
       ·have:=hfp b q;have:=S1.mod.size;exact .inr (by omega)
      ·exact .inr (Lc S4.mod.size q)
    obtain⟨F',t1,t2⟩:=h5.out (x:=x) (D:=D) (F:=F) (H:=H) hF S45
    exact hK F' H5 t1 t2
  ·have hr':s.room.2≠0:=by simpa using hr
   rw[if_pos hr'] at hK
   refine aP (by simpa using hr') ?_
   exact fail _ x1 D1 H2 _ h2 S2 hK
 ·have hz':(s.d.len n).2≠0:=by simpa using hz
  rw[if_pos hz'] at hK
  refine ao λH2 s2 r2 e2=>?_
  refine aw hz ?_
  have ht:((s.d.len n).2!=0)=true:=by simpa using hz'
  refine aP ht ?_
  exact fail _ x D H2 s (hd.ext e2) (Step.ext e2) hK
theorem uz {x:PG}{H:Heap}{p dp:Nat}{s:Pl}{k:Int}{K:(Option Addr×Int)->Heap->Prop}(h:bw x H p dp s)(hW:s.wrong≠0->K (none,s.wrong) H)
  (hN:s.wrong=0->s.held k=none->K (none,32) H) (hF:∀i f g,s.wrong=0->s.held k=some i->x.zs[i]?=some (f,g)->k∈f.pins->K (aD g.p,0) H):DW.sp (aD p) k H K:=by
 refine DW.of ?_
 unfold DW.vc
 simp only[aq]
 refine jP h ?_
 refine ae (λhw=>hW (by simpa using hw)) (λhw=>?_)
 have hw':s.wrong=0:=by simpa using hw
 refine h.head.ld (c:=cq) (i:=3) (x:=some x.mh) rfl ?_
 exact BO h (λi f g hi hz hk=>hF i f g hw' hi hz hk) (λhi=>hN hw' hi)
theorem Ig {F:Nat->Prop}{H:Heap}{p dp:Nat}{s:Pl}{k:Int}{K:(Int×Sl×Int)->Heap->Prop}(h:aM F H p dp s)
  (hK:∀sl H',aK EB dF H' sl (s.get k).2.1->Ext H H'->(∀b,al sl b->H.size<=b)->K (((s.get k).1.toNat:Int),sl,(s.get k).2.2) H'):GV.sp (aD p) k H K:=by
 obtain⟨x,D,hd,hF⟩:=h
 refine GV.of ?_
 unfold GV.vc
 unfold Pl.get at hK
 have nil:∀b,al (Sl.mk none 0 0) b->H.size<=b:=by rintro b ⟨ad,q,_⟩;cases q
 refine uz hd.ag (λhw=>?_) (λhw hh=>?_) (λi f g hw hh hz hk=>?_)
 ·rw[if_pos hw] at hK
  exact aP (by simpa using hw) (hK _ H (aK.nil _ _ _) (.refl _ _) nil)
 ·rw[if_neg (λq=>q hw),hh] at hK
  exact aP rfl (hK _ H (aK.nil _ _ _) (.refl _ _) nil)
 ·have hfs:s.fs[i]?=some f:=by rw[hd.ag.fs];simp[PG.fs,hz]
  rw[if_neg (λq=>q hw),hh] at hK
  simp only[Pl.cX hfs] at hK
  have hA:=hd.ag.ah.each _ (KH hz)
  refine aw rfl ⟨λH'=>Ext H H',.refl _ _,?_⟩
  simp only[aq]
  refine⟨(f.kind.toNat:Int),λH' e=>?_,?_⟩
  ·rw[aX]
   exact aj.cell (aj.ext hA.row e) rfl
  ·refine hA.row.ld (c:=av) (i:=3) (x:=g.b) rfl ?_
   have hroom:=hd.ag.wf.room f (KH hfs)
   refine fM (bY hA.b) (by show f.b.length<=_;omega) λsl H' o m fr=>⟨m,hK sl H' o m fr⟩
theorem bP.IJ {x:PG}{D:Nat->Prop}{H H':Heap}{p dp:Nat}{s:Pl}{i:Nat}{f:Fr}{g g':re}{u:Fr->Fr}(hg:Gl H)(h:bP x D H p dp s)(hz:x.zs[i]?=some (f,g))(hk:(u f).key=f.key)(hpi:(u f).pins=f.pins)(hl:(u f).left=f.left)(hb5:(u f).b.length<=504)(hp:g'.p=g.p)
  (hq:dX H' g' (u f)) (hm:Mod (λb=>b=g.p) H H') (hb:∀b,g'.fp b->g.fp b\/H.size<=b):
  bP {x with zs:=x.zs.set i (u f,g')} D H' p dp (s.bf i u)/\Step (λb=>D b\/x.all p b) (λb=>D b\/PG.all {x with zs:=x.zs.set i (u f,g')} p b) H H':=by
 have hzm:=KH hz
 have hfs:s.fs[i]?=some f:=by rw[h.ag.fs];simp[PG.fs,hz]
 have h1:(u f).name=f.name:=congrArg QA hk
 have h2:(u f).page=f.page:=congrArg QW hk
 obtain⟨t1,t2⟩:=h.ag.ah.bf (H':=H') (z':=(u f,g')) hz h1 h2 hpi hp hq (λb _ hn hl=>hm.same b hl λe=>hn (e▸.inl rfl)) hb
 have hp2:bw {x with zs:=x.zs.set i (u f,g')} H' p dp (s.bf i u):=by
  refine⟨hm.at h.ag.head λe=>bw.off h.ag.head h.ag.ah (e▸.inr (.inr ⟨_,hzm,.inl rfl⟩)),t1,?_,h.ag.wf.bf hfs hk hpi hl hb5⟩
  show s.fs.modify i u=(x.zs.set i (u f,g')).map (·.1)
  rw[aS hfs,h.ag.fs]
  simp[PG.fs,Ni]
 exact h.jm hg hp2 rfl (hm.mono λb _ e=>.inr (.inr (.inr ⟨_,hzm,.inl e⟩))) t2
theorem xE {F:Nat->Prop}{H:Heap}{p dp:Nat}{s:Pl}{k:Int}{kd:UInt8}{b:Sl}{l:List UInt8}{K:Int->Heap->Prop}(hg:Gl H)(h:aM F H p dp s)(hb:bG H b l)
  (hK:∀F' H',aM F' H' p dp (s.set k kd l).1->Step F F' H H'->K (s.set k kd l).2 H'):nW.sp (aD p) k (kd.toNat:Int) b H K:=by
 have h00:=h
 obtain⟨x,D,hd,hF⟩:=h
 refine nW.of ?_
 unfold nW.vc
 unfold Pl.set at hK
 have hn:=hb.n
 refine uz hd.ag (λhw=>?_) (λhw hh=>?_) (λi f g hw hh hz hk=>?_)
 ·rw[if_pos hw] at hK
  exact aP (by simpa using hw) (hK F H h00 (.refl _ _))
 ·rw[if_neg (λq=>q hw),hh] at hK
  exact aP rfl (hK F H h00 (.refl _ _))
 ·rw[if_neg (λq=>q hw),hh] at hK
  simp only at hK
  refine aw rfl (ae (λhl=>?_) (λhl=>?_))
  ·have hl':l.length>504:=by rw[hn] at hl;simp at hl;omega
   rw[if_pos hl'] at hK
   exact hK F H h00 (.refl _ _)
  ·have hl':¬l.length>504:=by rw[hn] at hl;simp at hl;omega
   rw[if_neg hl'] at hK
   refine fM hb (by omega) λsl H1 o1 m1 f1=>?_
   have hd1:=hd.ext m1
   have hg1:Gl H1:=hg.mod m1 id
   have hzm:=KH hz
   have hA:=hd1.ag.ah.each _ hzm
   simp only[aq]
   refine hA.row.st (i:=2) (by decide:2<7) (by rfl) λH2 r2 m2 z2=>?_
   refine r2.st (i:=3) (by decide:3<7) (by rfl) λH3 r3 m3 z3=>?_
   refine r3.st (i:=4) (by decide:4<7) (by rfl) λH4 r4 m4 z4=>?_
   have m14:Mod (λb=>b=g.p) H1 H4:=(m2.trans m3).trans m4
   have m04:Mod (λb=>b=g.p) H H4:=(Ext.mod m1).trans m14
   have hgH:g.p<H.size:=aG (hd.ag.ah.each _ hzm).row
   have hq:dX H4 ⟨g.p,sl⟩ (Fr.set kd l f):=by
    refine⟨r4,o1.ak λb hb hl=>m14.same b hl λe=>?_⟩
    have hb1:=f1 b hb
    have:b=g.p:=e
    omega
   obtain⟨q1,q2⟩:=hd.IJ (g':=⟨g.p,sl⟩) (u:=Fr.set kd l) hg hz rfl rfl rfl (by show l.length<=504;omega) rfl hq m04 (by
    rintro b (e|hb)
    ·exact .inl (.inl e)
    ·exact .inr (f1 b hb))
   obtain⟨F',t1,t2⟩:=q1.out (x:=x) (D:=D) (F:=F) (H:=H) hF q2
   exact hK F' H4 t1 t2
theorem Bj {h t:Int}{zs:List FZ}{i:Nat}{f:Fr}{g:re}(hz:zs[i]?=some (f,g))(hd:((zs.map (·.1)).flatMap (·.pins)).Nodup)(hh:h∈f.pins):∀k v,(k,v)∈ub (zs.set i (Fr.aB h t f,g))↔(k,v)∈ub zs/\k≠.int .i64 h:=by
 intro k v
 have hil:=(KI.1 hz).1
 have other:∀j (z:FZ),zs[j]?=some z->h∈z.1.pins->j=i:=by
  intro j z hj hm
  exact q9 hd (i:=j) (j:=i) (f:=z.1) (g:=f) (by simp[hj]) (by simp[hz]) hm hh
 unfold ub
 simp only[LZ]
 constructor
 ·rintro⟨z,hzs,e⟩
  rcases gq hzs with ⟨j,hji,hj⟩|rfl
  ·refine⟨⟨z,KH hj,e⟩,λq=>?_⟩
   obtain⟨y,hy,e2⟩:=KZ.1 e
   simp only[Lw] at e2
   rw[q] at e2
   simp only[Oh,true_and] at e2
   rw[e2.1] at hy
   exact hji (other j z hj hy)
  ·obtain⟨y,hy,e2⟩:=KZ.1 e
   have hy':=K3.1 hy
   simp only[Lw] at e2
   refine⟨⟨(f,g),KH hz,KZ.2 ⟨y,hy'.1,by simp only[Lw];exact e2⟩⟩,λq=>?_⟩
   rw[q] at e2
   simp only[Oh,true_and] at e2
   have:=hy'.2
   rw[e2.1] at this
   simp at this
 ·rintro⟨⟨z,hzm,e⟩,hne⟩
  obtain⟨j,hj⟩:=KQ.1 hzm
  by_cases hij:i=j
  ·subst hij
   rw[hz] at hj;cases hj
   refine⟨(Fr.aB h t f,g),KQ.2 ⟨i,by simp[hil]⟩,?_⟩
   obtain⟨y,hy,e2⟩:=KZ.1 e
   refine KZ.2 ⟨y,K3.2 ⟨hy,?_⟩,e2⟩
   simp only[Lw] at e2
   have:y≠h:=λq=>hne (by rw[<-e2.1,q])
   simp[this]
  ·exact⟨z,KQ.2 ⟨j,by rw[LD,if_neg hij];exact hj⟩,e⟩
theorem j8 {F:Nat->Prop}{H:Heap}{p dp:Nat}{s:Pl}{k:Int}{K:Int->Heap->Prop}(hg:Gl H)(h:aM F H p dp s)(hnx:s.next<9223372036854775807)
  (hK:∀F' H',aM F' H' p dp (s.aB k).1->Step F F' H H'->K (s.aB k).2 H'):rk.sp (aD p) k H K:=by
 have h00:=h
 obtain⟨x,D,hd,hF⟩:=h
 refine rk.of ?_
 unfold rk.vc
 have hwf:=hd.ag.wf.aB k hnx
 unfold Pl.aB at hK hwf
 refine uz hd.ag (λhw=>?_) (λhw hh=>?_) (λi f g hw hh hz hk=>?_)
 ·rw[if_pos hw] at hK
  exact aP (by simpa using hw) (hK F H h00 (.refl _ _))
 ·rw[if_neg (λq=>q hw),hh] at hK
  exact aP rfl (hK F H h00 (.refl _ _))
 ·rw[if_neg (λq=>q hw),hh] at hK hwf
  simp only at hK hwf
  refine aw rfl ?_
  simp only[aq]
  have hzm:=KH hz
  have hfs:s.fs[i]?=some f:=by rw[hd.ag.fs];simp[PG.fs,hz]
  have hfl:f.pins.length<=s.pins:=ki (λf:Fr=>f.pins.length) s.fs i f hfs
  have ht:=hd.ag.wf.tick
  have hA:=hd.ag.ah.each _ hzm
  have hoff:=hd.ag.ah.off hzm
  refine hd.ag.head.ld (c:=cq) (i:=3) (x:=some x.mh) rfl ?_
  obtain⟨et,inf,hu,hdd,_,_⟩:=pR
  refine xM hu hdd hd.ag.ah.hmap (k:=.int .i64 k) (show KG=KG from rfl) λes' H1 hm1 it _ mo1 z1=>?_
  have hpm:p≠x.mh:=λe=>bw.off hd.ag.head hd.ag.ah (.inr (.inl e))
  have hd1:aj H1 p Aa (np dp x s):=mo1.at hd.ag.head hpm
  refine hd1.ld (c:=aa .i64) (i:=5) (x:=s.tick) rfl ?_
  refine hd1.st (i:=5) (by decide:5<8) (by rfl) λH2 r2 m2 z2=>?_
  have hgm:g.p≠x.mh:=λe=>hoff.2 (.inl e.symm)
  have hpg:p≠g.p:=λe=>bw.off hd.ag.head hd.ag.ah (e▸.inr (.inr ⟨_,hzm,.inl rfl⟩))
  have hA2:aj H2 g.p Ip (Ju g f):=m2.at (mo1.at hA.row hgm) (λe=>hpg e.symm)
  refine hA2.ld (c:=aa .i64) (i:=5) (x:=(f.pins.length:Int)) rfl ?_
  refine r2.ld (c:=aa .i64) (i:=5) (x:=da (s.tick+1)) rfl ?_
  refine hA2.st (i:=5) (by decide:5<7) (by rfl) λH3 r3 m3 z3=>?_
  refine r3.st (i:=6) (by decide:6<7) (by rfl) λH4 r4 m4 z4=>?_
  have hm04:Mod (λb=>b=g.p\/b=x.mh\/b=p) H H4:=(((mo1.mono λb _ e=>.inr (.inl e)).trans (m2.mono λb _ e=>.inr (.inr e))).trans (m3.mono λb _ e=>.inl e)).trans (m4.mono λb _ e=>.inl e)
  have hlen:=filter_one (mO hd.ag.wf.pins hfs) hk
  have ew:KG.wrap ((f.pins.length:Int) - 1)=(((Fr.aB k (da (s.tick+1)) f).pins.length:Nat):Int):=by
   show _=(((f.pins.filter λx=>decide (x≠k)).length:Nat):Int)
   rw[wrap64 (by omega) (by omega)];omega
  have hq:dX H4 g (Fr.aB k (da (s.tick+1)) f):=by
   refine⟨?_,hA.b.ak λb hb hl=>hm04.same b hl ?_⟩
   ·rw[ew] at r4;exact r4
   ·obtain⟨c,q⟩:=hA.b.obj b hb
    rintro(e|e|e)
    ·rw[e] at q;exact absurd (aQ hA.row q) (by decide)
    ·rw[e,hd.ag.ah.hmap.obj] at q;cases q
    ·rw[e] at q;exact absurd (aQ hd.ag.head q) (by decide)
  have hpins:=hd.ag.wf.pins
  rw[hd.ag.fs] at hpins
  have m24:Mod (λb=>b=g.p) H2 H4:=m3.trans m4
  obtain⟨t1,t2⟩:=hd.ag.ah.set (H':=H4) (z':=(Fr.aB k (da (s.tick+1)) f,g)) (eh':=es') (ch':=x.ch) hz rfl rfl rfl hq (hm1.ak ((m24.same _ (by have:=hm1.lt;omega) (λe=>hgm e.symm)).trans (m2.same _ hm1.lt (λe=>hpm e.symm)))) (λa v=>by
   rw[it,hd.ag.ah.entH,Bj hz hpins hk]) (λb hb hn1 hn2 hl=>hm04.same b hl (by
    rintro(e|e|e)
    ·exact hn1 (.inl e)
    ·exact hn2 e
    ·exact bw.off hd.ag.head hd.ag.ah (e▸hb))) (λb hb=>.inl hb)
  have hp4:bw {x with zs:=x.zs.set i (Fr.aB k (da (s.tick+1)) f,g),eh:=es',ch:=x.ch} H4 p dp {s with fs:=s.fs.modify i (Fr.aB k (da (s.tick+1))),tick:=da (s.tick+1)}:=by
   refine⟨m24.at r2 hpg,t1,?_,hwf⟩
   show s.fs.modify i _=(x.zs.set i _).map (·.1)
   rw[aS hfs,hd.ag.fs]
   simp[PG.fs,Ni]
  obtain⟨q1,q2⟩:=hd.jm hg hp4 rfl (hm04.mono λb _ e=>by
   rcases e with e|e|e
   ·exact .inr (.inr (.inr ⟨_,hzm,.inl e⟩))
   ·exact .inr (.inr (.inl e))
   ·exact .inl e) t2
  obtain⟨F',t3,t4⟩:=q1.out (x:=x) (D:=D) (F:=F) (H:=H) hF q2
  exact hK F' H4 t3 t4
theorem wm {F:Nat->Prop}{H:Heap}{p dp:Nat}{s:Pl}{K:Int->Heap->Prop}(h:aM F H p dp s)(hK:K (s.fs.length:Int) H):GU.sp (aD p) H K:=by
 obtain⟨x,D,hd,hF⟩:=h
 refine GU.of ?_
 unfold GU.vc
 refine aw rfl ?_
 simp only[aq]
 refine hd.ag.head.ld (c:=cq) (i:=2) (x:=some x.mf) rfl ?_
 exact hd.ag.I5 hK
theorem u7 {F:Nat->Prop}{H:Heap}{p dp:Nat}{s:Pl}{K:Option Addr->Heap->Prop}(h:aM F H p dp s)(hK:K (aD dp) H):EY.sp (aD p) H K:=by
 obtain⟨x,D,hd,hF⟩:=h
 refine EY.of ?_
 unfold EY.vc
 refine aw rfl ?_
 exact hd.ag.head.ld (c:=ar) (i:=0) (x:=aD dp) rfl hK
theorem aM.ba {F:Nat->Prop}{H:Heap}{p dp:Nat}{s:Pl}(hg:Gl H)(h:aM F H p dp s):∃D,bj D H dp s.d/\(∀b,D b->F b)/\∀D' H' d,bj D' H' dp d->Step D D' H H'->∃F',aM F' H' p dp (s.aZ d)/\Step F F' H H':=by
 obtain⟨x,D,hd,hF⟩:=h
 refine⟨D,hd.ba,λb hb=>(hF b).2 (.inl hb),λD' H' d hd' hS=>?_⟩
 obtain⟨q1,q2⟩:=hd.ky hg hd' hS
 exact q1.out (x:=x) (D:=D) (F:=F) (H:=H) hF q2
theorem Ai {zs:List FZ}(h:((zs.map (·.1)).map Fr.key).Nodup):(nY zs).Nodup:=by
 have e:(zs.map (·.1)).map Fr.key=zs.map λz=>(z.1.name,z.1.page):=by simp[Fr.key]
 rw[e] at h
 unfold nY
 unfold Pw at h ⊢
 rw[MU] at h ⊢
 refine h.imp λ{a b} hne q=>hne ?_
 simp only[Lw] at q
 have:=kq q.1
 simp only[Lw]
 exact⟨this.1,by omega⟩
theorem bw.perm {x:PG}{H:Heap}{p dp:Nat}{s:Pl}(h:bw x H p dp s):(x.ef.toList.map λe=>(e.key,e.val)).Perm (nY x.zs):=by
 have hk:=h.wf.keys
 rw[h.fs] at hk
 have hst:=h.ah.fmap.stamped
 have hnd:(x.ef.toList.map λe=>(e.key,e.val)).Nodup:=by
  have:=hst.2.2
  unfold Pw at this ⊢
  rw[MU] at this ⊢
  exact this.imp λhne q=>hne (congrArg QA q)
 rw[List.perm_ext_iff_of_nodup hnd (Ai hk)]
 rintro⟨k,v⟩
 rw[<-h.ah.entF k v]
 constructor
 ·intro q
  obtain⟨e,he,q2⟩:=KZ.1 q
  simp only[Lw] at q2
  exact⟨e,he,q2.1,q2.2⟩
 ·rintro⟨e,he,q1,q2⟩
  exact KZ.2 ⟨e,he,by rw[q1,q2]⟩
open Classical in
noncomputable def rq (x:PG) (kv:Value×Value):Nat:=if ∃z∈x.zs,kv.2=c6 z.2.p/\z.1.pins≠[] then 1 else 0
theorem zF {x:PG}{H:Heap}(h:aL H x){z:FZ}(hz:z∈x.zs){k:Value}:rq x (k,c6 z.2.p)=if z.1.pins.isEmpty then 0 else 1:=by
 unfold rq
 by_cases hp:z.1.pins=[]
 ·rw[if_neg,if_pos (MM.2 hp)]
  rintro⟨y,hy,e,hyp⟩
  have:=h.ptr hz hy (qq e)
  subst this
  exact hyp hp
 ·rw[if_pos ⟨z,hz,rfl,hp⟩,if_neg (λq=>hp (MM.1 q))]
theorem xm {x:PG}{H:Heap}(h:aL H x):((nY x.zs).map (rq x)).sum=((x.fs.filter λf=>!f.pins.isEmpty)).length:=by
 have key:∀l:List FZ,(∀z∈l,z∈x.zs)->((nY l).map (rq x)).sum=((l.map (·.1)).filter λf=>!f.pins.isEmpty).length:=by
  intro l
  induction l with
  |nil=>intro _;rfl
  |cons z l ih=>
    intro hl
    have ih':=ih λy hy=>hl y (List.mem_cons_of_mem _ hy)
    simp only[nY,Lp,Mp,Nz] at ih' ⊢
    rw[zF h (hl z List.mem_cons_self),ih']
    cases z.1.pins.isEmpty<;>simp<;>omega
 exact key x.zs λ_ hz=>hz
theorem zX {F:Nat->Prop}{H:Heap}{p dp:Nat}{s:Pl}{K:Int->Heap->Prop}(h:aM F H p dp s)(hnx:s.next<9223372036854775807)(hK:∀H',Ext H H'->K (s.pinned:Int) H'):Hj.sp (aD p) H K:=by
 obtain⟨x,D,hd,hF⟩:=h
 refine Hj.of ?_
 unfold Hj.vc
 refine aP rfl ?_
 simp only[aq]
 refine hd.ag.head.ld (c:=cq) (i:=2) (x:=some x.mf) rfl ?_
 obtain⟨et,inf,hu,_⟩:=lE
 have hF0:=hd.ag.ah
 refine mM hu hF0.fmap λH1 hit e1=>?_
 have hsz:=aG hit
 have hF1:aL H1 x:=hF0.ak λb _ hl=>e1.same b hl id
 have hlen:=hd.ag.wf.len
 have hmost:=hd.ag.wf.most
 have hn:=hd.ag.n
 have hle1:∀kv,rq x kv<=1:=by intro kv;unfold rq;split<;>omega
 have hbound:∀l:List MapEntry,(l.map λe=>rq x (e.key,e.val)).sum<=l.length:=by
  intro l
  induction l with
  |nil=>exact KN _
  |cons a l ih=>simp only[Lp,Mp,Ln];have:=hle1 (a.key,a.val);omega
 refine mN (it:=H.size) (λl n A=>n=(((l.map λe=>rq x (e.key,e.val)).sum:Nat):Int)/\Mod (λk=>k=H.size) H1 A) hF1.fmap hit ⟨rfl,.refl _ _⟩ (λl b A A' q m _=>⟨q.1,q.2.trans m⟩) ?_ ?_
 ·rintro l e n A next ⟨rfl,hM⟩ he hel hsub hnd _ _ hnext
  obtain⟨z,hz,hke,hv⟩:=hF0.entry he
  have hA:aL A x:=hF1.ak λc hc hl=>hM.same c hl λq=>by have:=hF0.lt c hc;omega
  have hz1:=hA.each z hz
  refine⟨aD z.2.p,by rw[hv];rfl,?_⟩
  simp only[aq]
  refine hz1.row.ld (c:=aa .i64) (i:=5) (x:=(z.1.pins.length:Int)) rfl ?_
  refine hnext _ _ ⟨?_,hM⟩ rfl rfl
  have hll:l.length<=x.ef.size:=by
   have:=M0 hnd (l₂:=x.ef.toList) (λy hy=>hsub y hy)
   simpa using this
  have hb:=hbound l
  have e1:rq x (e.key,e.val)=if z.1.pins.isEmpty then 0 else 1:=by rw[hv];exact zF hF0 hz
  rw[LF,List.sum_append,Lp,NI,Mp,List.sum_nil,e1]
  have e2:(if (1:Int)<(z.1.pins.length:Int) then (1:Int) else (z.1.pins.length:Int))=((if z.1.pins.isEmpty then 0 else 1:Nat):Int):=by
   cases hq:z.1.pins with
   |nil=>rfl
   |cons a r=>
     simp only[Ln,List.isEmpty_cons]
     split<;>simp<;>omega
  rw[e2,wrap64 (by omega) (by split<;>omega)]
  omega
 ·rintro l n A ⟨rfl,hM⟩ hperm _
  have hE:Ext H A:=⟨by have:=e1.size;have:=hM.size;omega,λc hc _=>(hM.same c (by omega) (by omega)).trans (e1.same c hc id)⟩
  have e3:(l.map λe=>rq x (e.key,e.val)).sum=s.pinned:=by
   have h1:(l.map λe=>(e.key,e.val)).Perm (nY x.zs):=(hperm.map _).trans hd.ag.perm
   have h2:=(h1.map (rq x)).sum_nat
   rw[xm hF0,Md] at h2
   unfold Pl.pinned
   rw[hd.ag.fs]
   exact h2
  rw[e3];exact hK A hE
end Go.Proofs.YtdpdmbceakdlmaaGreatDoor
