/-
 The pool in plain words: what it holds, and what each call makes of it.
-/
import Derived.Test.YtmkbhnholcaghaaGreatDoorDkm
import Derived.Test.YtmkbhnholcaghaaGreatDoorDkb
import Derived.Test.YtmkbhnholcaghaaGreatDoorPga
import Derived.Test.YtmkbhnholcaghaaGreatDoorPgb
import Derived.Test.YtmkbhnholcaghaaGreatDoorFxo
open Bool renaming and_eq_true->OB,true_and->Um
open Go.Addr renaming add->O4
open Go.Builtin renaming delete_->PV
open Go.Instr renaming lookup->PM
open Go.IntKind renaming i64->Ol
open Go.Program renaming keyLits->UZ
open Go.Proofs.Tryz renaming prog->Oj
open Go.Value renaming formed->Wo
open Go.Value.int renaming injEq->Tq
open Go.WideMaps renaming KeyLaw->Tp
open Iff renaming rfl->TJ
open Int renaming le_refl->RN
open List renaming getElem?_eq_some_iff->Om,getElem?_eq_getElem->On,mem_of_getElem?->Oo,mem_append->Ox,getElem?_map->Oy,mem_iff_getElem?->Oz,mem_map->OC,mem_cons->OG,mem_singleton->OH,map_cons->OJ,getElem?_append_left->OP,length_append->OU,mem_filter->OY,length_cons->O3,getElem?_set->O6,map_append->O8,flatMap_cons->Pk,append_assoc->Pm,sum_cons->Py,getElem?_cons_succ->PC,map_set->PK,map_map->PN,mem_of_mem_eraseIdx->PO,mem_flatMap->PX,pairwise_cons->P0,nodup_append->Qb,findIdx?_eq_some_iff_getElem->Qg,length_singleton->Ql,length_eraseIdx_of_lt->Qp,filter_cons->Qu,isEmpty_iff->Qx,findIdx?_eq_none_iff->Qy,pairwise_iff_getElem->Qz,pairwise_map->QD,nodup_cons->QJ,map_nil->Q6,length_modify->Rj,filter_sublist->Rw,modify_succ_cons->Sa,getElem?_inj->Sr,getElem?_cons_zero->Ta,findIdx?_cons->Tr,singleton_append->TN,modify_zero_cons->TO,Nodup->Ud,length_nil->Ut,pairwise_filter->VE,perm_middle->Wd
open List.Nodup renaming length_le_of_subset->QT
open List.Pairwise renaming nil->Ss
open List.Sublist renaming refl->U5
open Nat renaming le_refl->Ot,eq_of_beq_eq_true->OD,le_trans->OE,zero_le->OL,beq->OQ,le_succ->Ph,le_of_ble_eq_true->R6
open Option renaming map_eq_some_iff->Q7
open Option.some renaming inj->OS,injEq->Pj
open Prod renaming fst->US,snd->Vh
open Prod.mk renaming injEq->Pp
namespace Go.Proofs.YtmkbhnholcaghaaGreatDoor
structure Fr where
 name:ByteArray
 page:Nat
 kind:UInt8
 b:List UInt8
 dirty:Bool
 pins:List Int
 left:Int
def M3:Fr:=⟨ByteArray.empty,0,0,[],false,[],0⟩
def Fr.dW (f:Fr):List UInt8:=cM f.kind f.b
structure Pl where
 d:Dk
 most:Nat
 fs:List Fr
 next:Int
 tick:Int
 peak:Nat
 wrong:Int
def Pl.frame (p:Pl)(i:Nat):Fr:=p.fs.getD i M3
def Pl.find (p:Pl)(n:ByteArray)(g:Int):Option Nat:=p.fs.findIdx? λf=>f.name.toList==n.toList&&decide ((f.page:Int)=g)
def Pl.held (p:Pl)(h:Int):Option Nat:=p.fs.findIdx? λf=>f.pins.contains h
def bad (e:Int):Bool:=e==4||e==5||e==20
def Pl.met (p:Pl)(e:Int):Pl:=if bad e then {p with wrong:=e} else p
def Pl.out (r:Pl×Int):Pl×Int:=(r.1.met r.2,r.2)
def Pl.bE (p:Pl)(d:Dk):Pl:={p with d:=d}
def Pl.drop (p:Pl)(i:Nat):Pl:={p with fs:=p.fs.eraseIdx i}
def Pl.dq (p:Pl)(i:Nat)(u:Fr->Fr):Pl:={p with fs:=p.fs.modify i u}
def Fr.clean (f:Fr):Fr:={f with dirty:=false}
def Pl.put (p:Pl)(i:Nat):Pl×Int:=
 if (p.d.write (p.frame i).name (p.frame i).page (p.frame i).dW).2=0 then ((p.bE (p.d.write (p.frame i).name (p.frame i).page (p.frame i).dW).1).dq i Fr.clean,0)
 else (p.bE (p.d.write (p.frame i).name (p.frame i).page (p.frame i).dW).1,(p.d.write (p.frame i).name (p.frame i).page (p.frame i).dW).2)
def mv (f:Fr)(b:Option (Nat×Int)):Bool:=match b with|none=>true|some x=>decide (f.left<x.2)
def fZ:List Fr->Nat->Option (Nat×Int)->Option (Nat×Int)
 |[],_,b=>b
 |f::l,i,b=>fZ l (i+1) (if f.pins.isEmpty&&mv f b then some (i,f.left) else b)
def Pl.jW (p:Pl):Option Nat:=(fZ p.fs 0 none).map (·.1)
def Pl.room (p:Pl):Pl×Int:=
 if p.fs.length<p.most then (p,0) else
 match p.jW with
 |none=>(p,31)
 |some i=>if (p.frame i).dirty then (if (p.put i).2=0 then ((p.put i).1.drop i,0) else p.put i) else (p.drop i,0)
def Fr.bt (h:Int)(f:Fr):Fr:={f with pins:=f.pins++[h]}
def Pl.ia (p:Pl)(i:Nat):Pl:={p with fs:=p.fs.modify i (Fr.bt p.next),next:=fC (p.next+1)}
def Pl.add (p:Pl)(f:Fr):Pl:={p with fs:=p.fs++[f],peak:=max p.peak (p.fs.length+1)}
def Pl.take (p:Pl)(f:Fr):Pl:=(p.add f).ia p.fs.length
def Pl.load (p:Pl)(n:ByteArray)(g:Int):Pl×Option Fr×Int:=
 if (p.d.len n).2≠0 then (p,none,(p.d.len n).2)
 else if g<0\/g>=(p.d.len n).1 then (p,none,12)
 else if p.room.2≠0 then (p.room.1,none,p.room.2)
 else if (p.room.1.d.read n g).2≠0 then (p.room.1,none,(p.room.1.d.read n g).2)
 else match iG (p.room.1.d.read n g).1 with
  |none=>(p.room.1,none,20)
  |some (k,b)=>(p.room.1,some ⟨n,g.toNat,k,b,false,[],0⟩,0)
def Pl.bt (p:Pl)(n:ByteArray)(g:Int):Pl×Int×Int:=
 if p.wrong≠0 then (p,0,p.wrong) else
 match p.find n g with
 |some i=>(p.ia i,p.next,0)
 |none=>
   match p.load n g with
   |(q,some f,_)=>(q.take f,q.next,0)
   |(q,none,e)=>(q.met e,0,e)
def Pl.fresh (p:Pl)(n:ByteArray):Pl×Int×Int×Int:=
 if p.wrong≠0 then (p,0,0,p.wrong)
 else if (p.d.len n).2≠0 then (p.met (p.d.len n).2,0,0,(p.d.len n).2)
 else if p.room.2≠0 then (p.room.1.met p.room.2,0,0,p.room.2)
 else if (p.room.1.d.write n (p.d.len n).1 (cM 0 [])).2≠0 then ((p.room.1.bE (p.room.1.d.write n (p.d.len n).1 (cM 0 [])).1).met (p.room.1.d.write n (p.d.len n).1 (cM 0 [])).2,0,0,(p.room.1.d.write n (p.d.len n).1 (cM 0 [])).2)
 else ((p.room.1.bE (p.room.1.d.write n (p.d.len n).1 (cM 0 [])).1).take ⟨n,(p.d.len n).1,0,[],false,[],0⟩,p.room.1.next,(p.d.len n).1,0)
def Pl.get (p:Pl)(h:Int):UInt8×List UInt8×Int:=
 if p.wrong≠0 then (0,[],p.wrong) else match p.held h with
 |some i=>((p.frame i).kind,(p.frame i).b,0)
 |none=>(0,[],32)
def Fr.set (k:UInt8)(b:List UInt8)(f:Fr):Fr:={f with kind:=k,b:=b,dirty:=true}
def Pl.set (p:Pl)(h:Int)(k:UInt8)(b:List UInt8):Pl×Int:=
 if p.wrong≠0 then (p,p.wrong) else match p.held h with
 |some i=>if b.length>504 then (p,2) else (p.dq i (Fr.set k b),0)
 |none=>(p,32)
def Fr.aY (h t:Int)(f:Fr):Fr:={f with pins:=f.pins.filter (λx=>decide (x≠h)),left:=t}
def Pl.aY (p:Pl)(h:Int):Pl×Int:=
 if p.wrong≠0 then (p,p.wrong) else match p.held h with
 |some i=>({p with fs:=p.fs.modify i (Fr.aY h (fC (p.tick+1))),tick:=fC (p.tick+1)},0)
 |none=>(p,32)
def Cm (a:Nat):List Nat->List Nat
 |[]=>[a]
 |b::l=>if a<=b then a::b::l else b::Cm a l
def EY:List Nat->List Nat
 |[]=>[]
 |a::l=>Cm a (EY l)
theorem pz (a:Nat):∀l:List Nat,(Cm a l).Perm (a::l)
 |[]=>.refl _
 |b::l=>by
   unfold Cm;split
   ·exact .refl _
   ·exact((pz a l).cons b).trans (.swap a b l)
theorem Bv {a:Nat}:∀{l:List Nat},l.Pairwise (·<=·)->(Cm a l).Pairwise (·<=·)
 |[],_=>List.pairwise_singleton _ _
 |b::l,h=>by
   have c:=P0.1 h;unfold Cm;split
   ·rename_i q;exact P0.2 ⟨λx d=>by rcases OG.1 d with u|u;omega;have:=c.1 x u;omega,h⟩
   ·rename_i q;refine P0.2 ⟨λx d=>?_,Bv c.2⟩;rcases OG.1 ((pz a l).mem_iff.1 d) with u|u
    ·omega
    ·exact c.1 x u
theorem Jb (l:List Nat):EY l=l.mergeSort λa b=>decide (a<=b):=by
 have h1:∀l:List Nat,(EY l).Perm l/\(EY l).Pairwise (·<=·):=λl=>by
  induction l with
  |nil=>exact⟨.refl _,Ss⟩
  |cons a l d=>exact⟨(pz a _).trans (d.1.cons a),Bv d.2⟩
 refine List.Perm.eq_of_pairwise (le:=λa b:Nat=>a<=b) (λa b _ _ h1 e=>Nat.le_antisymm h1 e) (h1 l).2 ?_ ((h1 l).1.trans (List.mergeSort_perm _ _).symm);exact(List.pairwise_mergeSort (le:=λa b:Nat=>decide (a<=b)) (λa b c u v=>decide_eq_true (OE (of_decide_eq_true u) (of_decide_eq_true v))) (λa b=>by simp;omega) l).imp λh=>of_decide_eq_true h
def Pl.bq (p:Pl)(n:ByteArray):List Nat:=EY ((p.fs.filter λf=>f.name.toList==n.toList).map (·.page))
theorem Pl.gm (p:Pl)(n:ByteArray):p.bq n=((p.fs.filter λf=>f.name.toList==n.toList).map (·.page)).mergeSort λa b=>decide (a<=b):=Jb _
def Pl.bg (n:ByteArray):List Nat->Pl->Pl×Int
 |[],p=>(p,0)
 |k::l,p=>
   match p.find n k with
   |some i=>if (p.frame i).dirty then (if (p.put i).2=0 then bg n l (p.put i).1 else p.put i) else bg n l p
   |none=>bg n l p
def Pl.flush (p:Pl)(n:ByteArray):Pl×Int:=
 if p.wrong≠0 then (p,p.wrong)
 else if (p.d.len n).2≠0 then Pl.out (p,(p.d.len n).2)
 else if (Pl.bg n (p.bq n) p).2≠0 then Pl.out (Pl.bg n (p.bq n) p)
 else Pl.out ((Pl.bg n (p.bq n) p).1.bE ((Pl.bg n (p.bq n) p).1.d.sync n).1,((Pl.bg n (p.bq n) p).1.d.sync n).2)
def Pl.forget (p:Pl)(n:ByteArray):Pl:={p with fs:=p.fs.filter λf=>!(f.name.toList==n.toList)}
def Pl.cV (p:Pl)(n:ByteArray):Pl×Int:=
 if p.wrong≠0 then (p,p.wrong)
 else if (p.d.len n).2≠0 then Pl.out (p,(p.d.len n).2)
 else if p.fs.any (λf=>f.name.toList==n.toList&&!f.pins.isEmpty) then (p,31)
 else Pl.out ((p.forget n).bE (p.d.remove n).1,(p.d.remove n).2)
def Pl.pinned (p:Pl):Nat:=(p.fs.filter λf=>!f.pins.isEmpty).length
def tV (d:Dk)(m:Nat):Pl:=⟨d,m,[],1,0,0,0⟩
def Fr.key (f:Fr):ByteArray×Nat:=(f.name,f.page)
def Pl.pins (p:Pl):Nat:=(p.fs.map λf=>f.pins.length).sum
structure Pl.WF (p:Pl):Prop where
 keys:(p.fs.map Fr.key).Nodup
 len:p.fs.length<=p.most
 most:8<=p.most/\p.most<=4096
 room:∀f∈p.fs,f.b.length<=504
 aq:∀f∈p.fs,f.page<1048577/\f.name.size<=9223372036854775807
 pins:(p.fs.flatMap (·.pins)).Nodup
 old:∀f∈p.fs,∀h∈f.pins,1<=h/\h<p.next
 tick:0<=p.tick/\p.tick+p.pins<p.next
 lefts:∀(i j:Nat) (f g:Fr),p.fs[i]?=some f->p.fs[j]?=some g->f.pins=[]->g.pins=[]->f.left=g.left->i=j
 past:∀f∈p.fs,0<=f.left/\f.left<=p.tick
 peak:p.fs.length<=p.peak/\p.peak<=p.most
theorem oq {α:Type}{l:List α}{q:α->Bool}{i:Nat}{x:α}(a:l[i]?=some x)(b:q x=true)(hu:∀j y,l[j]?=some y->q y=true->j=i):l.findIdx? q=some i:=by
 obtain⟨hi,rfl⟩:=Om.1 a;rw[Qg];refine⟨hi,b,λj c=>?_⟩;cases h:q l[j] with
 |false=>simp
 |true=>have:=hu j _ (On (by omega)) h;omega
theorem qC {α:Type}{l:List α}{q:α->Bool}{i:Nat}(h:l.findIdx? q=some i):∃x,l[i]?=some x/\q x=true:=by
 rw[Qg] at h;obtain⟨h1,a,_⟩:=h;exact⟨l[i],On h1,a⟩
theorem Pl.fJ {p:Pl}{i:Nat}{f:Fr}(h:p.fs[i]?=some f):p.frame i=f:=by simp[Pl.frame,h]
theorem Pl.mT {p:Pl}{n:ByteArray}{g:Int}{i:Nat}(h:p.find n g=some i):∃f,p.fs[i]?=some f/\f.name=n/\(f.page:Int)=g:=by
 obtain⟨f,h1,a⟩:=qC h;simp only[OB,beq_iff_eq,decide_eq_true_eq] at a;exact⟨f,h1,gM a.1,a.2⟩
theorem Pl.pI {p:Pl}{n:ByteArray}{g:Int}(h:p.find n g=none):∀f∈p.fs,f.name=n->(f.page:Int)≠g:=by
 unfold Pl.find at h;rw[Qy] at h;intro f a e e2;have:=h f a;rw[e] at this;simp[e2] at this
theorem key_inj {p:Pl}(h:(p.fs.map Fr.key).Nodup){i j:Nat}{f g:Fr}(hi:p.fs[i]?=some f)(b:p.fs[j]?=some g)(c:f.name=g.name)(e2:f.page=g.page):i=j:=by
 have a:=(Om.1 hi).1;refine(Sr (l:=p.fs.map Fr.key) (by simpa using a) h).1 ?_;rw[Oy,Oy,hi,b];simp[Fr.key,c,e2]
theorem Pl.find_eq {p:Pl}(hw:p.WF){i:Nat}{f:Fr}(h:p.fs[i]?=some f):p.find f.name f.page=some i:=by
 refine oq h (by simp) λj g b a=>?_;simp only[OB,beq_iff_eq,decide_eq_true_eq] at a;exact key_inj hw.keys b h (gM a.1) (by omega)
theorem Pl.iy {p:Pl}{h:Int}{i:Nat}(e:p.held h=some i):∃f,p.fs[i]?=some f/\h∈f.pins:=by
 obtain⟨f,h1,a⟩:=qC e;exact⟨f,h1,by simpa using a⟩
theorem sk {α β:Type}{u:α->List β}:∀{l:List α},(l.flatMap u).Nodup->∀{i j:Nat} {f g:α} {x:β},l[i]?=some f->l[j]?=some g->x∈u f->x∈u g->i=j
 |[],_,i,j,f,g,x,hi,_,_,_=>by simp at hi
 |a::l,h,i,j,f,g,x,hi,b,c,d=>by
   rw[Pk,Qb] at h;obtain⟨h1,k,e⟩:=h
   match i,j with
   |0,0=>rfl
   |0,j+1=>
     simp only[Ta,Pj,PC] at hi b;subst hi;exact absurd rfl (e x c x (PX.2 ⟨g,Oo b,d⟩))
   |i+1,0=>
     simp only[Ta,Pj,PC] at hi b;subst b;exact absurd rfl (e x d x (PX.2 ⟨f,Oo hi,c⟩))
   |i+1,j+1=>
     simp only[PC] at hi b;rw[sk k hi b c d]
theorem Pl.Ig {p:Pl}(hw:p.WF){i:Nat}{f:Fr}{h:Int}(e:p.fs[i]?=some f)(hm:h∈f.pins):p.held h=some i:=
 oq e (by simpa using hm) λ_ _ a b=>sk hw.pins a e (by simpa using b) hm
def sQ (l:List Fr)(b:Option (Nat×Int)):Prop:=
 match b with
 |none=>∀f∈l,f.pins≠[]
 |some (i,t)=>∃f,l[i]?=some f/\f.pins=[]/\f.left=t/\∀g∈l,g.pins=[]->t<=g.left
theorem tq:∀(r l:List Fr) (b:Option (Nat×Int)),sQ l b->sQ (l++r) (fZ r l.length b)
 |[],l,b,h=>by simpa[fZ] using h
 |f::r,l,b,h=>by
   unfold fZ;have key:sQ (l++[f]) (if f.pins.isEmpty&&mv f b then some (l.length,f.left) else b):=by
    cases m:f.pins.isEmpty with
    |false=>
      have d:f.pins≠[]:=by intro e;rw[e] at m;cases m
      rw[Bool.false_and,if_neg (by simp)];cases b with
      |none=>
        intro g p;rcases Ox.1 p with q|q
        ·exact h g q
        ·simp at q;subst q;exact d
      |some it=>
        obtain⟨i,t⟩:=it;obtain⟨g,h1,n,o,k⟩:=h;refine⟨g,?_,n,o,λx c a=>?_⟩
        ·rw[OP (Om.1 h1).1];exact h1
        ·rcases Ox.1 c with q|q
         ·exact k x q a
         ·simp at q;subst q;exact absurd a d
    |true=>
      have he:f.pins=[]:=Qx.1 m;cases b with
      |none=>
        rw[Um,show mv f none=true from rfl,if_pos rfl];refine⟨f,by simp,he,rfl,λx c a=>?_⟩;rcases Ox.1 c with q|q
        ·exact absurd a (h x q)
        ·simp at q;subst q;exact RN _
      |some it=>
        obtain⟨i,t⟩:=it;obtain⟨g,h1,n,o,k⟩:=h;rw[Um];by_cases j:f.left<t
        ·rw[show mv f (some (i,t))=true from by simp[mv,j],if_pos rfl];refine⟨f,by simp,he,rfl,λx c a=>?_⟩;rcases Ox.1 c with q|q
         ·have:=k x q a;omega
         ·simp at q;subst q;exact RN _
        ·rw[show mv f (some (i,t))=false from by simp[mv,j],if_neg (by simp)];refine⟨g,?_,n,o,λx c a=>?_⟩
         ·rw[OP (Om.1 h1).1];exact h1
         ·rcases Ox.1 c with q|q
          ·exact k x q a
          ·simp at q;subst q;omega
   have:=tq r (l++[f]) _ key;rw[OU,Ql,Pm,TN] at this;exact this
theorem Pl.BL (p:Pl):sQ p.fs (fZ p.fs 0 none):=by
 have:=tq p.fs [] none (by intro f a;cases a);simpa using this
theorem Pl.Co {p:Pl}(h:p.jW=none):∀f∈p.fs,f.pins≠[]:=by
 have:=p.BL;unfold Pl.jW at h;rw[Option.map_eq_none_iff] at h;rw[h] at this;exact this
theorem Pl.jE {p:Pl}{i:Nat}(h:p.jW=some i):∃f,p.fs[i]?=some f/\f.pins=[]/\∀g∈p.fs,g.pins=[]->f.left<=g.left:=by
 have:=p.BL;unfold Pl.jW at h;rw[Q7] at h;obtain⟨⟨j,t⟩,h1,rfl⟩:=h;rw[h1] at this;obtain⟨f,a,b,c,d⟩:=this;exact⟨f,a,b,λg e k=>by rw[c];exact d g e k⟩
theorem Pl.HR {p:Pl}(hw:p.WF){i:Nat}{f:Fr}(a:p.fs[i]?=some f)(b:f.pins=[])(d:∀g∈p.fs,g.pins=[]->f.left<=g.left):p.jW=some i:=by
 cases h:p.jW with
 |none=>exact absurd b (Pl.Co h f (Oo a))
 |some j=>
   obtain⟨g,h1,c,e⟩:=Pl.jE h;have k:=d g (Oo h1) c;have e2:=e f (Oo a) b;rw[hw.lefts j i g f h1 a c b (by omega)]
theorem Pl.WF.frames {p q:Pl}(h:p.WF)(f:q.fs=p.fs)(hm:q.most=p.most)(g:q.next=p.next)(i:q.tick=p.tick)(hk:q.peak=p.peak):q.WF:=by
 obtain⟨d,most,fs,next,tick,peak,wrong⟩:=q;obtain⟨k,b,j,next',c,e,a⟩:=p;simp only at f hm g i hk;subst f;subst hm;subst g;subst i;subst hk;exact⟨h.keys,h.len,h.most,h.room,h.aq,h.pins,h.old,h.tick,h.lefts,h.past,h.peak⟩
theorem Pl.WF.bE {p:Pl}(h:p.WF)(d:Dk):(p.bE d).WF:=h.frames rfl rfl rfl rfl rfl
theorem Pl.WF.met {p:Pl}(h:p.WF)(e:Int):(p.met e).WF:=by
 unfold Pl.met;split
 ·exact h.frames rfl rfl rfl rfl rfl
 ·exact h
theorem fQ {α β:Type}(u:α->List β)(g:α->α):∀(l:List α) (i:Nat) (x:α),l[i]?=some x->u (g x)=u x->(l.modify i g).flatMap u=l.flatMap u
 |[],i,x,h,_=>by simp at h
 |a::l,0,x,h,e=>by simp at h;subst h;simp[e]
 |a::l,i+1,x,h,e=>by
   simp only[PC] at h;simp[fQ u g l i x h e]
theorem c8 {α β:Type}(u:α->β)(g:α->α)(l:List α)(i:Nat)(x:α)(h:l[i]?=some x)(e:u (g x)=u x):(l.modify i g).map u=l.map u:=by
 have:=fQ (λy=>[u y]) g l i x h (by simp[e]);simpa[List.flatMap_singleton',List.map_eq_flatMap] using this
theorem mem_modify {α:Type}{l:List α}{i:Nat}{g:α->α}{x y:α}(b:l[i]?=some x)(c:y∈l.modify i g):y∈l\/y=g x:=by
 obtain⟨j,a⟩:=Oz.1 c;by_cases e:i=j
 ·subst e;rw[dV b] at a;cases a;exact .inr rfl
 ·rw[dX e] at a;exact .inl (Oo a)
theorem Pl.WF.dq {p:Pl}(h:p.WF){i:Nat}{f:Fr}{u:Fr->Fr}(c:p.fs[i]?=some f)(hk:(u f).key=f.key)(k:(u f).pins=f.pins)(hl:(u f).left=f.left)(o:(u f).b.length<=504):(p.dq i u).WF:=by
 have hm:=Oo c;have get:∀(j:Nat) (g:Fr),(p.fs.modify i u)[j]?=some g->∃g',p.fs[j]?=some g'/\g.pins=g'.pins/\g.left=g'.left:=by
  intro j g l;by_cases e:i=j
  ·subst e;rw[dV c] at l;cases l;exact⟨f,c,k,hl⟩
  ·rw[dX e] at l;exact⟨g,l,rfl,rfl⟩
 refine⟨?_,?_,h.most,?_,?_,?_,?_,?_,?_,?_,?_⟩
 ·show ((p.fs.modify i u).map Fr.key).Nodup;rw[c8 Fr.key u p.fs i f c hk];exact h.keys
 ·show (p.fs.modify i u).length<=p.most;rw[Rj];exact h.len
 ·intro g d;rcases mem_modify c d with q|q
  ·exact h.room g q
  ·subst q;exact o
 ·intro g d;rcases mem_modify c d with q|q
  ·exact h.aq g q
  ·subst q;have r:(u f).page=f.page:=congrArg Vh hk;have e2:(u f).name=f.name:=congrArg US hk;rw[r,e2];exact h.aq f hm
 ·show ((p.fs.modify i u).flatMap (·.pins)).Nodup;rw[fQ (·.pins) u p.fs i f c k];exact h.pins
 ·intro g d;rcases mem_modify c d with q|q
  ·exact h.old g q
  ·subst q;rw[k];exact h.old f hm
 ·refine⟨h.tick.1,?_⟩;have e:(p.dq i u).pins=p.pins:=by
   show ((p.fs.modify i u).map λf=>f.pins.length).sum=_;rw[c8 (λf=>f.pins.length) u p.fs i f c (by rw[k])];rfl
  rw[e];exact h.tick.2
 ·intro a b x y s t m hyp n;obtain⟨x',v,w,z⟩:=get a x s;obtain⟨y',A,r2,B⟩:=get b y t;exact h.lefts a b x' y' v A (by rw[<-w];exact m) (by rw[<-r2];exact hyp) (by rw[<-z,<-B];exact n)
 ·intro g d;rcases mem_modify c d with q|q
  ·exact h.past g q
  ·subst q;rw[hl];exact h.past f hm
 ·show (p.fs.modify i u).length<=p.peak/\_;rw[Rj];exact h.peak
theorem Pl.WF.put {p:Pl}(h:p.WF){i:Nat}{f:Fr}(a:p.fs[i]?=some f):(p.put i).1.WF:=by
 unfold Pl.put;split
 ·exact(h.bE _).dq a rfl rfl rfl (h.room f (Oo a))
 ·exact h.bE _
theorem qX {α β:Type}(u:α->List β){l r:List α}(h:l.Sublist r):(l.flatMap u).Sublist (r.flatMap u):=by
 induction h with
 |slnil=>simp
 |cons a _ b=>rw[Pk];exact b.trans (List.sublist_append_right _ _)
 |cons_cons a _ b=>rw[Pk,Pk];exact(U5 _).append b
theorem yN {α:Type}(u:α->Nat){l r:List α}(h:l.Sublist r):(l.map u).sum<=(r.map u).sum:=by
 induction h with
 |slnil=>simp
 |cons a _ b=>rw[OJ,Py];omega
 |cons_cons a _ b=>rw[OJ,Py,OJ,Py];omega
theorem Pl.WF.sub {p q:Pl}(h:p.WF)(hs:q.fs.Sublist p.fs)(hm:q.most=p.most)(u:q.next=p.next)(v:q.tick=p.tick)(hk:q.peak=p.peak):q.WF:=by
 have a:∀f∈q.fs,f∈p.fs:=λf c=>hs.subset c;have hlen:=hs.length_le;refine⟨?_,by rw[hm];have:=h.len;omega,by rw[hm];exact h.most,λf c=>h.room f (a f c),λf c=>h.aq f (a f c),?_,λf c=>by rw[u];exact h.old f (a f c),?_,?_,λf c=>by rw[v];exact h.past f (a f c),by rw[hk,hm];have:=h.peak;omega⟩
 ·exact(hs.map Fr.key).nodup h.keys
 ·exact(qX (·.pins) hs).nodup h.pins
 ·rw[v,u];refine⟨h.tick.1,?_⟩;have:q.pins<=p.pins:=by
   unfold Pl.pins;exact yN (λf:Fr=>f.pins.length) hs
  have:=h.tick.2;omega
 ·-- frames that none holds differ in when they were left
  have o:(p.fs.filter λf=>f.pins.isEmpty).Pairwise (λf g=>f.left≠g.left):=by
   rw[VE,Qz];intro i j hi r w s t e;have:=h.lefts i j _ _ (On hi) (On r) (Qx.1 s) (Qx.1 t) e;omega
  have b:(q.fs.filter λf=>f.pins.isEmpty).Pairwise (λf g=>f.left≠g.left):=o.sublist (hs.filter _);rw[VE,Qz] at b;intro i j f g hi r d k e;obtain⟨l,rfl⟩:=Om.1 hi;obtain⟨m,rfl⟩:=Om.1 r;rcases Nat.lt_trichotomy i j with n|n|n
  ·exact absurd e (b i j l m n (Qx.2 d) (Qx.2 k))
  ·exact n
  ·exact absurd e.symm (b j i m l n (Qx.2 k) (Qx.2 d))
theorem Pl.WF.drop {p:Pl}(h:p.WF)(i:Nat):(p.drop i).WF:=h.sub (List.eraseIdx_sublist _ _) rfl rfl rfl rfl
theorem Pl.WF.forget {p:Pl}(h:p.WF)(n:ByteArray):(p.forget n).WF:=h.sub Rw rfl rfl rfl rfl
theorem Pl.wE (p:Pl)(i:Nat):(p.put i).1.fs.length=p.fs.length:=by
 unfold Pl.put;split
 ·show (p.fs.modify i _).length=_;rw[Rj]
 ·rfl
theorem Pl.rQ (p:Pl)(i:Nat):(p.put i).1.most=p.most/\(p.put i).1.next=p.next/\(p.put i).1.tick=p.tick/\(p.put i).1.peak=p.peak/\(p.put i).1.wrong=p.wrong:=by
 unfold Pl.put;split<;>exact⟨rfl,rfl,rfl,rfl,rfl⟩
theorem Pl.ct (p:Pl):p.room.1.most=p.most/\p.room.1.next=p.next/\p.room.1.tick=p.tick/\p.room.1.peak=p.peak/\p.room.1.wrong=p.wrong:=by
 unfold Pl.room;split
 ·exact⟨rfl,rfl,rfl,rfl,rfl⟩
 ·split
  ·exact⟨rfl,rfl,rfl,rfl,rfl⟩
  ·split
   ·split
    ·exact p.rQ _
    ·exact p.rQ _
   ·exact⟨rfl,rfl,rfl,rfl,rfl⟩
theorem Pl.WF.wT {p:Pl}(h:p.WF):p.room.1.WF/\(p.room.2=0->p.room.1.fs.length<p.most):=by
 unfold Pl.room;split
 ·rename_i q;exact⟨h,λ_=>q⟩
 ·split
  ·exact⟨h,λq=>by cases q⟩
  ·rename_i i hi;obtain⟨f,b,_,_⟩:=Pl.jE hi;have a:=(Om.1 b).1;have hlen:=h.len;split
   ·split
    ·refine⟨(h.put b).drop i,λ_=>?_⟩;show ((p.put i).1.fs.eraseIdx i).length<p.most;rw[Qp (by rw[Pl.wE];exact a),Pl.wE];omega
    ·rename_i q;exact⟨h.put b,λc=>absurd c q⟩
   ·refine⟨h.drop i,λ_=>?_⟩;show (p.fs.eraseIdx i).length<p.most;rw[Qp a];omega
theorem qG {h:Int}:∀(l:List Fr) (i:Nat) (f:Fr),l[i]?=some f->((l.modify i (Fr.bt h)).flatMap (·.pins)).Perm (h::l.flatMap (·.pins))
 |[],i,f,e=>by simp at e
 |a::l,0,f,e=>by
   simp only[TO,Pk,Fr.bt,Pm,TN];exact Wd
 |a::l,i+1,f,e=>by
   simp only[PC] at e;simp only[Sa,Pk];exact((qG l i f e).append_left a.pins).trans Wd
theorem Pl.WF.ia {p:Pl}(h:p.WF){i:Nat}{f:Fr}(d:p.fs[i]?=some f)(u:p.next<9223372036854775807):(p.ia i).WF:=by
 have hm:=Oo d;have s:=h.tick;have hw:fC (p.next+1)=p.next+1:=by unfold fC;exact wrap64 (by omega) (by omega)
 refine⟨?_,?_,h.most,?_,?_,?_,?_,?_,?_,?_,?_⟩
 ·show ((p.fs.modify i _).map Fr.key).Nodup;rw[c8 Fr.key _ p.fs i f d rfl];exact h.keys
 ·show (p.fs.modify i _).length<=p.most;rw[Rj];exact h.len
 ·intro g c;rcases mem_modify d c with q|q
  ·exact h.room g q
  ·subst q;exact h.room f hm
 ·intro g c;rcases mem_modify d c with q|q
  ·exact h.aq g q
  ·subst q;exact h.aq f hm
 ·show ((p.fs.modify i _).flatMap (·.pins)).Nodup;rw[(qG p.fs i f d).nodup_iff,QJ];refine⟨λk=>?_,h.pins⟩;obtain⟨g,c,n⟩:=PX.1 k;have:=(h.old g c _ n).2;omega
 ·intro g c x k;show 1<=x/\x<fC (p.next+1);rw[hw];rcases mem_modify d c with q|q
  ·have:=h.old g q x k;omega
  ·subst q;rcases Ox.1 k with r|r
   ·have:=h.old f hm x r;omega
   ·simp at r;omega
 ·show 0<=p.tick/\p.tick+(((p.fs.modify i (Fr.bt p.next)).map λf=>f.pins.length).sum:Nat)<fC (p.next+1);rw[hw];have:=fi (λf:Fr=>f.pins.length) (Fr.bt p.next) p.fs i f d;simp only[Fr.bt,OU,Ql] at this;unfold Pl.pins at s;exact⟨s.1,by omega⟩
 ·intro a b x y k t l hyp o;have ne:∀(j:Nat) (g:Fr),(p.fs.modify i (Fr.bt p.next))[j]?=some g->g.pins=[]->p.fs[j]?=some g:=by
   intro j g m c;by_cases e:i=j
   ·subst e;rw[dV d] at m;cases m;simp[Fr.bt] at c
   ·rw[dX e] at m;exact m
  exact h.lefts a b x y (ne a x k l) (ne b y t hyp) l hyp o
 ·intro g c;rcases mem_modify d c with q|q
  ·exact h.past g q
  ·subst q;exact h.past f hm
 ·show (p.fs.modify i _).length<=p.peak/\_;rw[Rj];exact h.peak
theorem Pl.K1 (p:Pl)(f:Fr):(p.add f).fs[p.fs.length]?=some f:=by simp[Pl.add]
theorem Pl.WF.take {p:Pl}(h:p.WF){f:Fr}(hl:p.fs.length<p.most)(D:p.next<9223372036854775807)(hk:p.find f.name f.page=none)(A:f.b.length<=504)(r:f.page<1048577)(s:f.name.size<=9223372036854775807)(n:f.pins=[])(t:f.left=0):(p.take f).WF:=by
 have w:=h.tick;have hw:fC (p.next+1)=p.next+1:=by unfold fC;exact wrap64 (by omega) (by omega)
 have e:(p.take f).fs=p.fs++[Fr.bt p.next f]:=by
  show (p.fs++[f]).modify p.fs.length (Fr.bt p.next)=_;have i:(p.fs++[f])[p.fs.length]?=some f:=p.K1 f;rw[aZ i];simp
 have mem:∀g∈(p.take f).fs,g∈p.fs\/g=Fr.bt p.next f:=λg c=>by
  rw[e] at c;simpa using c
 have k:(p.take f).next=p.next+1:=hw
 have B:=h.peak;refine⟨?_,?_,h.most,?_,?_,?_,?_,?_,?_,?_,?_⟩
 ·rw[e,O8,Qb];refine⟨h.keys,by simp,λa i b d=>?_⟩;obtain⟨g,c,rfl⟩:=OC.1 i;simp only[OJ,Q6,OH] at d;subst d;intro eq;have C:g.name=f.name:=congrArg US eq;have e2:g.page=f.page:=congrArg Vh eq;exact Pl.pI hk g c C (by omega)
 ·rw[e];show _<=p.most;simp;omega
 ·intro g c;rcases mem g c with q|q
  ·exact h.room g q
  ·subst q;exact A
 ·intro g c;rcases mem g c with q|q
  ·exact h.aq g q
  ·subst q;exact⟨r,s⟩
 ·rw[e,List.flatMap_append,Qb];refine⟨h.pins,by simp[Fr.bt,n],λa i b d=>?_⟩;obtain⟨g,c,u⟩:=PX.1 i;simp[Fr.bt,n] at d;have:=(h.old g c a u).2;omega
 ·intro g c x l;rw[k];rcases mem g c with q|q
  ·have:=h.old g q x l;omega
  ·subst q;simp[Fr.bt,n] at l;omega
 ·rw[k];refine⟨w.1,?_⟩;have:(p.take f).pins=p.pins+1:=by
   unfold Pl.pins;rw[e];simp[Fr.bt,n]
  show p.tick+_<_;rw[this];omega
 ·intro a b x y l z m hyp v;rw[e] at l z;have ne:∀(j:Nat) (g:Fr),(p.fs++[Fr.bt p.next f])[j]?=some g->g.pins=[]->p.fs[j]?=some g:=by
   intro j g o c;rw[List.getElem?_append] at o;split at o
   ·exact o
   ·have:g=Fr.bt p.next f:=by have:=Oo o;simpa using this
    subst this;simp[Fr.bt] at c
  exact h.lefts a b x y (ne a x l m) (ne b y z hyp) m hyp v
 ·intro g c;rcases mem g c with q|q
  ·exact h.past g q
  ·subst q;show 0<=f.left/\f.left<=p.tick;rw[t];exact⟨RN _,w.1⟩
 ·rw[e];show _<=max p.peak (p.fs.length+1)/\max p.peak (p.fs.length+1)<=p.most;simp only[OU,Ql];omega
theorem filter_one {h:Int}{l:List Int}(hd:l.Nodup)(hm:h∈l):(l.filter λx=>decide (x≠h)).length+1=l.length:=by
 induction l with
 |nil=>cases hm
 |cons a l c=>
   rw[QJ] at hd;rw[Qu];by_cases e:a=h
   ·subst e;have:l.filter (λx=>decide (x≠a))=l:=by
     rw[List.filter_eq_self];intro x d;have:x≠a:=λe=>hd.1 (e▸d);simp[this]
    rw[this];simp
   ·have b:h∈l:=by
     rcases OG.1 hm with q|q
     ·exact absurd q.symm e
     ·exact q
    have:=c hd.2 b;simp only[ne_eq,e,not_false_eq_true,decide_true,if_true,O3];simp only[ne_eq] at this;omega
theorem oe {α β:Type}{u:α->List β}:∀{l:List α},(l.flatMap u).Nodup->∀{i:Nat} {x:α},l[i]?=some x->(u x).Nodup
 |[],_,i,x,h=>by simp at h
 |a::l,hd,0,x,h=>by
   rw[Pk,Qb] at hd;simp at h;subst h;exact hd.1
 |a::l,hd,i+1,x,h=>by
   rw[Pk,Qb] at hd;exact oe hd.2.1 (by simpa using h)
theorem qJ {α β:Type}(u:α->List β)(g:α->α)(b:∀x,(u (g x)).Sublist (u x)):∀(l:List α) (i:Nat),((l.modify i g).flatMap u).Sublist (l.flatMap u)
 |[],i=>by simp
 |a::l,0=>by
   simp only[TO,Pk];exact(b a).append (U5 _)
 |a::l,i+1=>by
   simp only[Sa,Pk];exact(U5 _).append (qJ u g b l i)
theorem Pl.WF.aY {p:Pl}(hw:p.WF)(h:Int)(B:p.next<9223372036854775807):(p.aY h).1.WF:=by
 unfold Pl.aY;split
 ·exact hw
 ·split
  ·rename_i i hi;obtain⟨f,d,hm⟩:=Pl.iy hi;have k:=Oo d;have w:=hw.tick;have r:=filter_one (oe hw.pins d) hm;have z:f.pins.length<=p.pins:=lk (λf:Fr=>f.pins.length) p.fs i f d;have s:fC (p.tick+1)=p.tick+1:=by unfold fC;exact wrap64 (by omega) (by omega)
   rw[s];have get:∀(j:Nat) (g:Fr),(p.fs.modify i (Fr.aY h (p.tick+1)))[j]?=some g->(j=i/\g=Fr.aY h (p.tick+1) f)\/(j≠i/\p.fs[j]?=some g):=by
    intro j g m;by_cases e:i=j
    ·subst e;rw[dV d] at m;cases m;exact .inl ⟨rfl,rfl⟩
    ·rw[dX e] at m;exact .inr ⟨λq=>e q.symm,m⟩
   refine⟨?_,?_,hw.most,?_,?_,?_,?_,?_,?_,?_,?_⟩
   ·show ((p.fs.modify i _).map Fr.key).Nodup;rw[c8 Fr.key _ p.fs i f d rfl];exact hw.keys
   ·show (p.fs.modify i _).length<=p.most;rw[Rj];exact hw.len
   ·intro g l;rcases mem_modify d l with q|q
    ·exact hw.room g q
    ·subst q;exact hw.room f k
   ·intro g l;rcases mem_modify d l with q|q
    ·exact hw.aq g q
    ·subst q;exact hw.aq f k
   ·exact(qJ (·.pins) (Fr.aY h (p.tick+1)) (λx=>Rw) p.fs i).nodup hw.pins
   ·intro g l x n;rcases mem_modify d l with q|q
    ·exact hw.old g q x n
    ·subst q;exact hw.old f k x (OY.1 n).1
   ·show 0<=p.tick+1/\p.tick+1+(((p.fs.modify i (Fr.aY h (p.tick+1))).map λf=>f.pins.length).sum:Nat)<p.next;have:=fi (λf:Fr=>f.pins.length) (Fr.aY h (p.tick+1)) p.fs i f d;simp only[Fr.aY] at this;unfold Pl.pins at w;constructor
    ·omega
    ·omega
   ·intro a b x y n v t hyp c;rcases get a x n with ⟨A,o⟩|⟨A,o⟩
    ·rcases get b y v with ⟨u,r2⟩|⟨u,r2⟩
     ·omega
     ·have:=hw.past y (Oo r2);rw[o] at c;simp only[Fr.aY] at c;omega
    ·rcases get b y v with ⟨u,r2⟩|⟨u,r2⟩
     ·have:=hw.past x (Oo o);rw[r2] at c;simp only[Fr.aY] at c;omega
     ·exact hw.lefts a b x y o r2 t hyp c
   ·intro g l;show 0<=g.left/\g.left<=p.tick+1;rcases mem_modify d l with q|q
    ·have:=hw.past g q;omega
    ·subst q;simp only[Fr.aY];omega
   ·show (p.fs.modify i _).length<=p.peak/\_;rw[Rj];exact hw.peak
  ·exact hw
theorem E5 {d:Dk}{m:Nat}(h1:8<=m)(b:m<=4096):(tV d m).WF:=by
 refine⟨by simp[tV],by simp[tV],⟨h1,b⟩,?_,?_,by simp[tV],?_,?_,?_,?_,by simp[tV]⟩
 ·intro f a;simp[tV] at a
 ·intro f a;simp[tV] at a
 ·intro f a;simp[tV] at a
 ·simp[tV,Pl.pins]
 ·intro i j f g hi;simp[tV] at hi
 ·intro f a;simp[tV] at a
open Go.MapKept
structure tu where
 p:Nat
 b:Sl
def tu.fp (g:tu)(b:Nat):Prop:=b=g.p\/ah g.b b
def Mq (g:tu)(f:Fr):Array Value:=#[.string f.name,.int .i64 (f.page:Int),.int .u8 (f.kind.toNat:Int),g.b.v,.bool f.dirty,.int .i64 (f.pins.length:Int),.int .i64 f.left]
structure dz (H:aa)(g:tu)(f:Fr):Prop where
 row:aj H g.p KM (Mq g f)
 b:az EB fD H g.b f.b
theorem dz.lt {H:aa}{g:tu}{f:Fr}(h:dz H g f):∀b,g.fp b->b<H.size:=by
 rintro b (rfl|a)
 ·exact aA h.row
 ·exact h.b.lt b a
theorem dz.keep {H H':aa}{g:tu}{f:Fr}(h:dz H g f)(k:∀b,g.fp b->b<H.size->H'[b]?=H[b]?):dz H' g f:=
 ⟨(k _ (.inl rfl) (aA h.row)).trans h.row,h.b.keep λb a=>k b (.inr a)⟩
theorem dz.obj {H:aa}{g:tu}{f:Fr}(h:dz H g f):∀b,g.fp b->∃cs t,H[b]?=some (.cells cs t (0,0))/\(t=KM\/t=fD):=by
 rintro b (rfl|a)
 ·exact⟨_,_,h.row,.inl rfl⟩
 ·obtain⟨c,q⟩:=h.b.obj b a;exact⟨c,_,q,.inr rfl⟩
def jn (n:ByteArray)(g:Int):Value:=.agg #[.string n,.int .i64 g]
theorem lM {n m:ByteArray}{g k:Int}(h:jn n g=jn m k):n=m/\g=k:=by
 unfold jn at h;simp at h;exact h
abbrev FZ:=Fr×tu
def pw (zs:List FZ):List (Value×Value):=zs.map λz=>(jn z.1.name (z.1.page:Int),dg z.2.p)
def LK (z:FZ):List (Value×Value):=z.1.pins.map λh=>(Value.int .i64 h,dg z.2.p)
def wh (zs:List FZ):List (Value×Value):=zs.flatMap LK
structure PG where
 mf:Nat
 ef:Array MapEntry
 cf:Nat
 mh:Nat
 eh:Array MapEntry
 ch:Nat
 zs:List FZ
def PG.fs (x:PG):List Fr:=x.zs.map (·.1)
def PG.fp (x:PG)(b:Nat):Prop:=b=x.mf\/b=x.mh\/∃z∈x.zs,z.2.fp b
def J5 (P:Program)(kt:TypeId):Bool:=
 match P.underlying kt with
 |some (.struct fs)=>(match fs.toList with
   |[f0,f1]=>(match P.underlying f0.type with|some .string=>true|_=>false)&&(match P.underlying f1.type with|some (.int .i64)=>true|_=>false)
     &&OQ f0.offset 0&&OQ f1.offset 1&&OQ (P.cellsOf f0.type) 1&&OQ (P.cellsOf f1.type) 1&&(f0.name !="_")&&(f1.name !="_")&&OQ (P.cellsOf kt) 2&&P.keyType kt&&Nat.blt 0 P.types.size
   |_=>false)
 |_=>false
theorem ED {P:Program}{kt:TypeId}(h:J5 P kt=true){n:ByteArray}{g:Int}(B:n.size<=9223372036854775807)(p:-9223372036854775808<=g)(h1:g<=9223372036854775807):vN P kt (jn n g):=by
 unfold J5 at h;split at h
 ·rename_i fs hu;split at h
  ·rename_i f0 f1 b;simp only[OB,bne_iff_ne,ne_eq] at h;obtain⟨⟨⟨⟨⟨⟨⟨⟨⟨⟨k,a2⟩,a3⟩,a4⟩,a5⟩,q⟩,r⟩,s⟩,a9⟩,d⟩,e⟩:=h;have t:=OD a3;have u:=OD a4;have v:=OD a5;have w:=OD q;have l:=OD a9;have o:0<P.types.size:=fY.1 e;obtain⟨m,hm⟩:∃m,P.types.size=m+1:=⟨P.types.size - 1,by omega⟩;split at k
   ·rename_i x;split at a2
    ·rename_i y;have a:Wo P kt (jn n g)=true:=by
      unfold jn Wo;simp only[hu,l];rfl
     have i:(Lit.int .i64 g).wf=true:=by
      unfold Lit.wf;simp only[OB,decide_eq_true_eq];exact⟨by show (-9223372036854775808:Int)<=g;exact p,by show g<=(9223372036854775807:Int);exact h1⟩
     have c:fs.all (λf=>f.name !="_")=true:=by
      rw[<-Array.all_toList,b];simp[r,s]
     have z:P.keyLits (m+1) f0.type [.string n]=some [.string n.data.toList]:=by
      unfold UZ;simp only[x];rw[if_pos (by unfold maxLen;omega)]
     have A:P.keyLits (m+1) f1.type [.int .i64 g]=some [.int .i64 g]:=by
      unfold UZ;simp only[y];rw[if_pos ⟨trivial,i⟩]
     refine⟨.string (keyBytes [.string n.data.toList,.int .i64 g]),?_⟩;unfold Go.keyOf;simp only[hu];rw[if_pos (by rw[d,a];rfl),hm];unfold UZ;simp only[hu];have j:(jn n g).cells.toList=[.string n,.int .i64 g]:=rfl;rw[j,if_pos ⟨by rw[l];rfl,c⟩,b];simp[List.mapM_cons,t,u,v,w,z,A]
    ·cases a2
   ·cases k
  ·cases h
 ·cases h
theorem wk:Tp Oj wX:=Go.deep_law_gate (by kernel_rfl) (R6 (by kernel_rfl)) (R6 (by kernel_rfl)) (by kernel_rfl) (by kernel_rfl)
theorem pY {n:ByteArray}{g:Int}(a:n.size<=9223372036854775807)(b:-9223372036854775808<=g)(h1:g<=9223372036854775807):vN Oj wX (jn n g):=ED (by kernel_rfl) a b h1
structure aL (H:aa)(x:PG):Prop where
 fmap:iW Oj wX H x.mf x.ef x.cf
 hmap:cc (.int .i64) H x.mh x.eh x.ch
 ne:x.mf≠x.mh
 size:x.ef.size=x.zs.length
 entF:∀k v,eU x.ef k v↔(k,v)∈pw x.zs
 entH:∀k v,eU x.eh k v↔(k,v)∈wh x.zs
 each:∀z∈x.zs,dz H z.2 z.1
 apart:∀(i j:Nat) (z z':FZ),x.zs[i]?=some z->x.zs[j]?=some z'->i≠j->∀b,z.2.fp b->¬z'.2.fp b
theorem aL.lt {H:aa}{x:PG}(h:aL H x):∀b,x.fp b->b<H.size:=by
 rintro b (rfl|rfl|⟨z,a,c⟩)
 ·exact h.fmap.lt
 ·exact h.hmap.lt
 ·exact(h.each z a).lt b c
theorem aL.keep {H H':aa}{x:PG}(h:aL H x)(k:∀b,x.fp b->b<H.size->H'[b]?=H[b]?):aL H' x:=
 ⟨⟨(k _ (.inl rfl) h.fmap.lt).trans h.fmap.obj,h.fmap.stamped,h.fmap.keys⟩,h.hmap.keep (k _ (.inr (.inl rfl)) h.hmap.lt),h.ne,h.size,h.entF,h.entH,
   λz a=>(h.each z a).keep λb c=>k b (.inr (.inr ⟨z,a,c⟩)),h.apart⟩
theorem aL.off {H:aa}{x:PG}(h:aL H x){z:FZ}(b:z∈x.zs):¬z.2.fp x.mf/\¬z.2.fp x.mh:=by
 constructor
 ·intro a;obtain⟨cs,t,e,_⟩:=(h.each z b).obj _ a;rw[h.fmap.obj] at e;cases e
 ·intro a;obtain⟨cs,t,e,_⟩:=(h.each z b).obj _ a;rw[h.hmap.obj] at e;cases e
theorem aL.at {H:aa}{x:PG}(b:aL H x){i:Nat}{f:Fr}(a:x.fs[i]?=some f):∃g,x.zs[i]?=some (f,g):=by
 unfold PG.fs at a;rw[Oy,Q7] at a;obtain⟨⟨f',g⟩,h1,rfl⟩:=a;exact⟨g,h1⟩
theorem jY {α:Type}{l:List α}{i:Nat}{a y:α}(c:y∈l.set i a):(∃j,j≠i/\l[j]?=some y)\/y=a:=by
 obtain⟨j,b⟩:=Oz.1 c;by_cases e:i=j
 ·subst e;have hl:i<l.length:=by have:=(Om.1 b).1;simpa using this
  rw[O6,if_pos rfl,if_pos hl] at b;cases b;exact .inr rfl
 ·rw[O6,if_neg e] at b;exact .inl ⟨j,λq=>e q.symm,b⟩
theorem Cv {H:aa}{x:PG}(h:aL H x){i:Nat}{z z':FZ}(m:x.zs[i]?=some z)(o:∀b,z'.2.fp b->z.2.fp b\/H.size<=b):
  ∀(a c:Nat) (u v:FZ),(x.zs.set i z')[a]?=some u->(x.zs.set i z')[c]?=some v->a≠c->∀b,u.2.fp b->¬v.2.fp b:=by
 have j:=(Om.1 m).1;intro a c u v h1 g d b e f;rw[O6] at h1 g;by_cases k:i=a
 ·subst k;rw[if_neg d] at g;rw[if_pos rfl,if_pos j] at h1;cases h1;have n:=(h.each v (Oo g)).lt b f;rcases o b e with q|q
  ·exact h.apart i c z v m g d b q f
  ·omega
 ·rw[if_neg k] at h1;have n:=(h.each u (Oo h1)).lt b e;by_cases l:i=c
  ·subst l;rw[if_pos rfl,if_pos j] at g;cases g;rcases o b f with q|q
   ·exact h.apart a i u z h1 m d b e q
   ·omega
  ·rw[if_neg l] at g;exact h.apart a c u v h1 g d b e f
theorem aL.set {H H':aa}{x:PG}(h:aL H x){i:Nat}{z z':FZ}{eh':Array MapEntry}{ch':Nat}(d:x.zs[i]?=some z)(t:z'.1.name=z.1.name)(o:z'.1.page=z.1.page)(w:z'.2.p=z.2.p)
  (y:dz H' z'.2 z'.1) (A:cc (.int .i64) H' x.mh eh' ch') (f:∀k v,eU eh' k v↔(k,v)∈wh (x.zs.set i z'))
  (hm:∀b,x.fp b->¬z.2.fp b->b≠x.mh->b<H.size->H'[b]?=H[b]?) (s:∀b,z'.2.fp b->z.2.fp b\/H.size<=b):
  aL H' {x with zs:=x.zs.set i z',eh:=eh',ch:=ch'}/\(∀b,PG.fp {x with zs:=x.zs.set i z',eh:=eh',ch:=ch'} b->x.fp b\/H.size<=b):=by
 have l:=Oo d;have m:=h.off l;refine⟨⟨⟨(hm _ (.inl rfl) m.1 h.ne h.fmap.lt).trans h.fmap.obj,h.fmap.stamped,h.fmap.keys⟩,A,h.ne,by simp[h.size],?_,f,?_,Cv h d s⟩,?_⟩
 ·intro k v;have:pw (x.zs.set i z')=pw x.zs:=by
   unfold pw;rw[show x.zs.set i z'=x.zs.modify i (λ_=>z') from (aZ (g:=λ_=>z') d).symm];exact c8 _ _ _ _ _ d (by simp only[t,o,w])
  rw[this];exact h.entF k v
 ·intro u hu;rcases jY hu with ⟨j,r,n⟩|rfl
  ·have c:=Oo n;exact(h.each u c).keep λb a hl=>hm b (.inr (.inr ⟨u,c,a⟩)) (λq=>h.apart j i u z n d r b a q) (λe=>(h.off c).2 (e▸a)) hl
  ·exact y
 ·rintro b (e|e|⟨u,hu,a⟩)
  ·exact .inl (.inl e)
  ·exact .inl (.inr (.inl e))
  ·rcases jY hu with ⟨j,_,n⟩|rfl
   ·exact .inl (.inr (.inr ⟨u,Oo n,a⟩))
   ·exact(s b a).imp (λq=>.inr (.inr ⟨z,l,q⟩)) id
theorem aL.dq {H H':aa}{x:PG}(h:aL H x){i:Nat}{z z':FZ}(c:x.zs[i]?=some z)(l:z'.1.name=z.1.name)(d:z'.1.page=z.1.page)(e:z'.1.pins=z.1.pins)(j:z'.2.p=z.2.p)
  (m:dz H' z'.2 z'.1) (hm:∀b,x.fp b->¬z.2.fp b->b<H.size->H'[b]?=H[b]?) (n:∀b,z'.2.fp b->z.2.fp b\/H.size<=b):
  aL H' {x with zs:=x.zs.set i z'}/\(∀b,PG.fp {x with zs:=x.zs.set i z'} b->x.fp b\/H.size<=b):=by
 have f:=Oo c;have a:=h.off f;refine h.set c l d j m (h.hmap.keep (hm _ (.inr (.inl rfl)) a.2 h.hmap.lt)) (λk v=>?_) (λb h1 o _ q=>hm b h1 o q) n;have:wh (x.zs.set i z')=wh x.zs:=by
  unfold wh;rw[show x.zs.set i z'=x.zs.modify i (λ_=>z') from (aZ (g:=λ_=>z') c).symm];exact fQ _ _ _ _ _ c (by simp only[LK,e,j])
 rw[this];exact h.entH k v
theorem Am (l r:List FZ):pw (l++r)=pw l++pw r:=by simp[pw]
theorem Ap (l r:List FZ):wh (l++r)=wh l++wh r:=by simp[wh]
theorem Bt {z:FZ}(h:z.1.pins=[]):LK z=[]:=by simp[LK,h]
theorem sF {α:Type}{l:List α}{i j:Nat}{a:α}(b:(l.eraseIdx i)[j]?=some a):∃c,c≠i/\l[c]?=some a/\c=if j<i then j else j+1:=by
 rw[List.getElem?_eraseIdx] at b;split at b
 ·rename_i q;exact⟨j,by omega,b,by rw[if_pos q]⟩
 ·rename_i q;exact⟨j+1,by omega,b,by rw[if_neg q]⟩
theorem mem_erase {α:Type}{l:List α}{i:Nat}{a:α}:a∈l.eraseIdx i↔∃j,j≠i/\l[j]?=some a:=List.mem_eraseIdx_iff_getElem?
theorem aL.erase {H H':aa}{x:PG}(h:aL H x){i:Nat}{z:FZ}{f:Array MapEntry}(g:x.zs[i]?=some z)(y:z.1.pins=[])(hk:(x.fs.map Fr.key).Nodup)(A:iW Oj wX H' x.mf f x.cf)
  (m:∀k v,eU f k v↔eU x.ef k v/\k≠jn z.1.name (z.1.page:Int)) (hs:∀u,eU x.ef (jn z.1.name (z.1.page:Int)) u->f.size+1=x.ef.size)
  (hm:∀b,x.fp b->b≠x.mf->b<H.size->H'[b]?=H[b]?):aL H' {x with zs:=x.zs.eraseIdx i,ef:=f}:=by
 have old:∀u∈x.zs,dz H' u.2 u.1:=λu hu=>(h.each u hu).keep λb w hl=>hm b (.inr (.inr ⟨u,hu,w⟩)) (λe=>(h.off hu).1 (e▸w)) hl;have o:=(Om.1 g).1;have p:=Oo g;have B:=hs _ ((h.entF _ _).2 (OC.2 ⟨z,p,rfl⟩));have inj:∀(j:Nat) (u:FZ),x.zs[j]?=some u->u.1.name=z.1.name->u.1.page=z.1.page->j=i:=by
  intro j u d r e2;have s:=(Om.1 d).1;refine(Sr (l:=x.fs.map Fr.key) (by simpa[PG.fs] using s) hk).1 ?_;simp[PG.fs,d,g,Fr.key,r,e2]
 refine⟨A,h.hmap.keep (hm _ (.inr (.inl rfl)) h.ne.symm h.hmap.lt),h.ne,?_,?_,?_,?_,?_⟩
 ·simp only;rw[Qp o];have:=h.size;omega
 ·intro k v;rw[m k v,h.entF k v];unfold pw;simp only[OC];constructor
  ·rintro⟨⟨u,hu,e⟩,t⟩;refine⟨u,?_,e⟩;obtain⟨j,d⟩:=Oz.1 hu;refine mem_erase.2 ⟨j,λq=>?_,d⟩;subst q;rw[g] at d;cases d;simp only[Pp] at e;exact t e.1.symm
  ·rintro⟨u,hu,e⟩;obtain⟨j,n,d⟩:=mem_erase.1 hu;refine⟨⟨u,Oo d,e⟩,λq=>n ?_⟩;simp only[Pp] at e;have:=lM (e.1.trans q);exact inj j u d this.1 (by omega)
 ·intro k v;rw[h.entH k v];unfold wh;simp only[PX];constructor
  ·rintro⟨u,hu,e⟩;refine⟨u,?_,e⟩;obtain⟨j,d⟩:=Oz.1 hu;refine mem_erase.2 ⟨j,λq=>?_,d⟩;subst q;rw[g] at d;cases d;rw[Bt y] at e;cases e
  ·rintro⟨u,hu,e⟩;obtain⟨j,n,d⟩:=mem_erase.1 hu;exact⟨u,Oo d,e⟩
 ·intro u hu;exact old u (PO hu)
 ·intro a c u v h1 C D;obtain⟨E,n1,F,r⟩:=sF h1;obtain⟨G,n2,I,e2⟩:=sF C;refine h.apart E G u v F I ?_;rw[r,e2];split<;>split<;>omega
def oJ (dp:Nat)(x:PG)(s:Pl):Array Value:=#[dg dp,.int .i64 (s.most:Int),.map (some x.mf),.map (some x.mh),.int .i64 s.next,.int .i64 s.tick,.int .i64 (s.peak:Int),.int .i64 s.wrong]
structure bu (x:PG)(H:aa)(p dp:Nat)(s:Pl):Prop where
 head:aj H p CL (oJ dp x s)
 frames:aL H x
 fs:s.fs=x.fs
 wf:s.WF
def PG.all (x:PG)(p b:Nat):Prop:=b=p\/x.fp b
theorem bu.off {x:PG}{H:aa}{p:Nat}{cs:Array Value}(hd:aj H p CL cs)(h:aL H x):¬x.fp p:=by
 rintro(e|e|⟨z,b,d⟩)
 ·have:=h.fmap.obj;rw[<-e,hd] at this;cases this
 ·have:=h.hmap.obj;rw[<-e,hd] at this;cases this
 ·obtain⟨c,t,e,a⟩:=(h.each z b).obj _ d;have:=aG hd e;rw[<-this] at a;exact absurd a (by decide)
theorem bu.lt {x:PG}{H:aa}{p dp:Nat}{s:Pl}(h:bu x H p dp s):∀b,x.all p b->b<H.size:=by
 rintro b (rfl|a)
 ·exact aA h.head
 ·exact h.frames.lt b a
theorem bu.keep {x:PG}{H H':aa}{p dp:Nat}{s:Pl}(h:bu x H p dp s)(k:∀b,x.all p b->b<H.size->H'[b]?=H[b]?):bu x H' p dp s:=
 ⟨(k p (.inl rfl) (aA h.head)).trans h.head,h.frames.keep λb a=>k b (.inr a),h.fs,h.wf⟩
theorem bu.bE {x:PG}{H:aa}{p dp:Nat}{s:Pl}(h:bu x H p dp s)(d:Dk):bu x H p dp (s.bE d):=⟨h.head,h.frames,h.fs,h.wf.bE d⟩
theorem bu.at {x:PG}{H:aa}{p dp:Nat}{s:Pl}(h:bu x H p dp s){i:Nat}{f:Fr}(a:s.fs[i]?=some f):∃g,x.zs[i]?=some (f,g)/\dz H g f:=by
 rw[h.fs] at a;obtain⟨g,b⟩:=h.frames.at a;exact⟨g,b,h.frames.each _ (Oo b)⟩
theorem bu.n {x:PG}{H:aa}{p dp:Nat}{s:Pl}(h:bu x H p dp s):x.ef.size=s.fs.length:=by rw[h.fs,h.frames.size];simp[PG.fs]
structure bH (x:PG)(D:Nat->Prop)(H:aa)(p dp:Nat)(s:Pl):Prop where
 pool:bu x H p dp s
 cw:bo D H dp s.d
 apart:∀b,D b->¬x.all p b
 eO:¬D bh/\¬x.all p bh
def au (F:Nat->Prop)(H:aa)(p dp:Nat)(s:Pl):Prop:=∃x D,bH x D H p dp s/\∀b,F b↔D b\/x.all p b
theorem bH.lt {x:PG}{D:Nat->Prop}{H:aa}{p dp:Nat}{s:Pl}(h:bH x D H p dp s):∀b,D b\/x.all p b->b<H.size:=by
 rintro b (a|a)
 ·exact h.cw.lt b a
 ·exact h.pool.lt b a
theorem au.lt {F:Nat->Prop}{H:aa}{p dp:Nat}{s:Pl}(h:au F H p dp s):∀b,F b->b<H.size:=by
 obtain⟨x,D,g,a⟩:=h;exact λb c=>g.lt b ((a b).1 c)
theorem au.keep {F:Nat->Prop}{H H':aa}{p dp:Nat}{s:Pl}(h:au F H p dp s)(k:∀b,F b->b<H.size->H'[b]?=H[b]?):au F H' p dp s:=by
 obtain⟨x,D,g,a⟩:=h;exact⟨x,D,⟨g.pool.keep λb c=>k b ((a b).2 (.inr c)),g.cw.keep λb c=>k b ((a b).2 (.inl c)),g.apart,g.eO⟩,a⟩
theorem au.wf {F:Nat->Prop}{H:aa}{p dp:Nat}{s:Pl}(h:au F H p dp s):s.WF:=by obtain⟨x,D,g,a⟩:=h;exact g.pool.wf
theorem au.My {F:Nat->Prop}{H:aa}{p dp:Nat}{s:Pl}(h:au F H p dp s):s.d.WF:=by obtain⟨x,D,g,a⟩:=h;exact g.cw.wf
theorem Step.side {D a P:Nat->Prop}{H H':aa}(h:Step D a H H')(d:∀b,D b->¬P b)(hl:∀b,P b->b<H.size):(∀b,a b->¬P b)/\Step (λb=>D b\/P b) (λb=>a b\/P b) H H':=by
 refine⟨λb e c=>?_,h.mod.mono λb _ q=>.inl q,?_⟩
 ·rcases h.own b e with q|q
  ·exact d b q c
  ·have:=hl b c;omega
 ·rintro b (q|q)
  ·exact(h.own b q).imp .inl id
  ·exact .inl (.inr q)
theorem bH.jT {x:PG}{D a:Nat->Prop}{H H':aa}{p dp:Nat}{s:Pl}{d:Dk}(c:Gl H)(h:bH x D H p dp s)(hd:bo a H' dp d)(hs:Step D a H H'):
  bH x a H' p dp (s.bE d)/\Step (λb=>D b\/x.all p b) (λb=>a b\/x.all p b) H H':=by
 obtain⟨e,f⟩:=hs.side h.apart h.pool.lt;exact⟨⟨(h.pool.keep λb g hl=>hs.mod.same b hl λq=>h.apart b q g).bE d,hd,e,λq=>by
  rcases hs.own _ q with r|r
  ·exact h.eO.1 r
  ·have:=c.lt;omega,h.eO.2⟩,f⟩
theorem bH.iY {x x':PG}{D:Nat->Prop}{H H':aa}{p dp:Nat}{s s':Pl}(e:Gl H)(h:bH x D H p dp s)(f:bu x' H' p dp s')(hd:s'.d=s.d)(hm:Mod (x.all p) H H')(c:∀b,x'.fp b->x.fp b\/H.size<=b):
  bH x' D H' p dp s'/\Step (λb=>D b\/x.all p b) (λb=>D b\/x'.all p b) H H':=by
 have hl:=h.cw.lt;refine⟨⟨f,by rw[hd];exact h.cw.keep λb a d=>hm.same b d (h.apart b a),?_,h.eO.1,?_⟩,hm.mono λb _ q=>.inr q,?_⟩
 ·rintro b a (q|q)
  ·exact h.apart b a (.inl q)
  ·rcases c b q with r|r
   ·exact h.apart b a (.inr r)
   ·have:=hl b a;omega
 ·rintro(q|q)
  ·exact h.eO.2 (.inl q)
  ·rcases c _ q with r|r
   ·exact h.eO.2 (.inr r)
   ·have:=e.lt;omega
 ·rintro b (q|q|q)
  ·exact .inl (.inl q)
  ·exact .inl (.inr (.inl q))
  ·exact(c b q).imp (λr=>.inr (.inr r)) id
theorem au.eO {F:Nat->Prop}{H:aa}{p dp:Nat}{s:Pl}(h:au F H p dp s):¬F bh:=by
 obtain⟨x,D,g,a⟩:=h;intro q;rcases (a _).1 q with r|r
 ·exact g.eO.1 r
 ·exact g.eO.2 r
theorem bH.gl {x:PG}{D:Nat->Prop}{H H':aa}{p dp:Nat}{s:Pl}(a:Gl H)(h:bH x D H p dp s)(hm:Mod (λb=>D b\/x.all p b) H H'):Gl H':=
 a.mod hm λr=>r.elim h.eO.1 h.eO.2
theorem bH.out {x x':PG}{D a:Nat->Prop}{F:Nat->Prop}{H H':aa}{p dp:Nat}{s:Pl}(h:bH x' a H' p dp s)(c:∀b,F b↔D b\/x.all p b)(hs:Step (λb=>D b\/x.all p b) (λb=>a b\/x'.all p b) H H'):
  ∃F',au F' H' p dp s/\Step F F' H H':=
 ⟨λb=>a b\/x'.all p b,⟨x',a,h,λ_=>TJ⟩,hs.mod.mono λb _ q=>(c b).2 q,λb d=>(hs.own b d).imp (c b).2 id⟩
theorem iP {x:PG}{H:aa}{p dp:Nat}{s:Pl}{K:Int->aa->Prop}(h:bu x H p dp s)(a:K s.wrong H):DR.sp (aE p) H K:=by
 refine DR.of ?_;unfold DR.vc;exact h.head.ld (c:=ab .i64) (i:=7) (x:=s.wrong) rfl a
theorem bu.sv {x:PG}{H H':aa}{p dp:Nat}{s s':Pl}(h:bu x H p dp s)(a:aj H' p CL (oJ dp x s'))(hm:Mod (λb=>b=p) H H')(c:s'.fs=s.fs)(hw:s'.WF):bu x H' p dp s':=
 ⟨a,h.frames.keep λb d hl=>hm.same b hl λe=>bu.off h.head h.frames (e▸d),c.trans h.fs,hw⟩
theorem vF {x:PG}{D:Nat->Prop}{H:aa}{p dp:Nat}{s:Pl}{e:Int}{K:Int->aa->Prop}(l:Gl H)(h:bH x D H p dp s)
  (k:∀H',bH x D H' p dp (s.met e)->Step (λb=>D b\/x.all p b) (λb=>D b\/x.all p b) H H'->K e H'):vC.sp (aE p) e H K:=by
 refine vC.of ?_;unfold vC.vc;simp only[al];have hw:=h.pool.wf.met e;have a:bad e=true->st H (O4 ⟨p,0,none⟩ 7) (.int .i64 e) λH1=>K e H1:=by
  intro j;have em:s.met e={s with wrong:=e}:=by unfold Pl.met;rw[if_pos j]
  refine h.pool.head.st (i:=7) (by decide:7<8) (by rfl) λH' r m z=>?_;have n:bu x H' p dp (s.met e):=h.pool.sv (by rw[em];exact r) m (by rw[em]) hw;obtain⟨o,t⟩:=h.iY l n (by rw[em]) (m.mono λb _ q=>.inl q) (λb q=>.inl q);exact k H' o t
 have f:bad e=false->K e H:=by
  intro j;have em:s.met e=s:=by unfold Pl.met;rw[j];rfl
  exact k H (by rw[em];exact h) (.refl _ _)
 refine ag (λc=>aP c (a (by simp[bad] at c ⊢;exact .inl (.inl c)))) (λc=>?_);refine ag (λd=>aP d (a (by simp[bad] at d ⊢;exact .inl (.inr d)))) (λd=>?_);refine ag (λg=>a (by simp[bad] at g ⊢;exact .inr g)) (λg=>f (by simp[bad] at c d g ⊢;exact⟨⟨c,d⟩,g⟩))
theorem uA {D:Nat->Prop}{H:aa}{p dp:Nat}{d:Dk}{g:tu}{f:Fr}{cs:Array Value}{K:Int->aa->Prop}(E:Gl H)(hd:bo D H dp d)(F:aj H p CL cs)(u:cs[0]?=some (dg dp))
  (s:dz H g f) (a:f.b.length<=504) (v:∀b,g.fp b->¬D b) (m:d.aB<68719476736)
  (w:(d.write f.name f.page f.dW).2≠0->∀h H',bo h H' dp (d.write f.name f.page f.dW).1->Step D h H H'->K (d.write f.name f.page f.dW).2 H')
  (y:(d.write f.name f.page f.dW).2=0->∀h H1 j,bo h H1 dp (d.write f.name f.page f.dW).1->Step D h H H1->dz j g f.clean->Mod (λb=>b=g.p) H1 j->j.size=H1.size->K 0 j):
  DM.sp (aE p) (aE g.p) H K:=by
 refine DM.of ?_;unfold DM.vc;simp only[al,add_add,Nat.reduceAdd];refine s.row.ld (c:=ab .u8) (i:=2) (x:=(f.kind.toNat:Int)) rfl ?_;refine s.row.ld (c:=ak) (i:=3) (x:=g.b) rfl ?_;refine II E (bW s.b) a λr H1 G m1 f1=>aC rfl ?_;have p1:aj H1 p CL cs:=F.ext m1;have n:dz H1 g f:=s.keep λb _ hl=>m1.same b hl id;have z:bo D H1 dp d:=hd.keep λb _ hl=>m1.same b hl id;refine p1.ld (c:=aw) (i:=0) (x:=aE dp) u ?_;refine n.row.ld (c:=aH) (i:=0) (x:=f.name) rfl ?_;refine n.row.ld (c:=ab .i64) (i:=1) (x:=(f.page:Int)) rfl ?_;have A:=hd.lt;refine FT z (bW G) (λad I J=>?_) m λh j a2 t=>?_
 ·have:=f1 ad.block ⟨ad,I,rfl⟩;have:=A _ J;omega
 have o:Step D h H j:=⟨⟨OE m1.size t.mod.size,λb a L=>(t.mod.same b (by have:=m1.size;omega) L).trans (m1.same b a id)⟩,λb a=>(t.own b a).imp id (λq=>OE m1.size q)⟩;have k:dz j g f:=n.keep λb a hl=>t.mod.same b hl (v b a);show br ((d.write f.name f.page f.dW).2==0) _ _;refine ag (λB=>?_) (λB=>?_)
 ·have l:(d.write f.name f.page f.dW).2=0:=by simpa using B
  refine k.row.st (i:=4) (by decide:4<7) (by rfl) λC M m3 z3=>?_;have:=y l h j C a2 o ⟨M,k.b.keep λb a hl=>m3.same b hl λe=>?_⟩ m3 z3
  ·show K (d.write f.name f.page f.dW).2 C;rw[l];exact this
  ·obtain⟨c,q⟩:=k.b.obj b a;rw[e] at q;exact absurd (aG k.row q) (by decide)
 ·have l:(d.write f.name f.page f.dW).2≠0:=by simpa using B
  exact w l h j a2 o
theorem BJ {x:PG}{D:Nat->Prop}{H:aa}{p dp:Nat}{s:Pl}{i:Nat}{f:Fr}{g:tu}{K:Int->aa->Prop}(t:Gl H)(h:bH x D H p dp s)(v:x.zs[i]?=some (f,g))(n:s.d.aB<68719476736)
  (j:(s.put i).2≠0->∀k H',bH x k H' p dp (s.put i).1->Step (λb=>D b\/x.all p b) (λb=>k b\/x.all p b) H H'->K (s.put i).2 H')
  (l:(s.put i).2=0->∀k H',bH {x with zs:=x.zs.set i (f.clean,g)} k H' p dp (s.put i).1->Step (λb=>D b\/x.all p b) (λb=>k b\/PG.all {x with zs:=x.zs.set i (f.clean,g)} p b) H H'->K 0 H'):
  DM.sp (aE p) (aE g.p) H K:=by
 have m:=Oo v;have c:s.fs[i]?=some f:=by rw[h.pool.fs];simp[PG.fs,v]
 have w:=Pl.fJ c;have E:=h.pool.frames.each _ m;unfold Pl.put at j l;rw[w] at j l;refine uA (f:=f) (d:=s.d) t h.cw h.pool.head rfl E (h.pool.wf.room f (Oo c)) (λb q F=>h.apart b F (.inr (.inr (.inr ⟨_,m,q⟩)))) n (λr k H' a S=>?_) (λhe k H1 y a S z m2 z2=>?_)
 ·rw[if_neg r] at j;obtain⟨o,u⟩:=h.jT t a S;exact j r k H' o u
 ·rw[if_pos he] at l;obtain⟨o,u⟩:=h.jT t a S;have A:Gl H1:=h.gl t u.mod;have B:∀b,g.fp b->x.all p b:=λb q=>.inr (.inr (.inr ⟨_,m,q⟩));obtain⟨t1,t2⟩:=o.pool.frames.dq (H':=y) (z':=(f.clean,g)) v rfl rfl rfl rfl z (λb _ G hl=>m2.same b hl λe=>G (e▸.inl rfl)) (λb q=>.inl q);have C:bu {x with zs:=x.zs.set i (f.clean,g)} y p dp ((s.bE (s.d.write f.name f.page f.dW).1).dq i Fr.clean):=by
   refine⟨m2.at o.pool.head λe=>bu.off o.pool.head o.pool.frames (e▸.inr (.inr ⟨_,m,.inl rfl⟩)),t1,?_,?_⟩
   ·show s.fs.modify i Fr.clean=(x.zs.set i (f.clean,g)).map (·.1);rw[aZ c,h.pool.fs];simp[PG.fs,PK]
   ·exact(h.pool.wf.bE _).dq c rfl rfl rfl (h.pool.wf.room f (Oo c))
  obtain⟨I,J⟩:=o.iY A C rfl (m2.mono λb _ e=>B b (.inl e)) t2;exact l rfl k y I (u.trans J)
theorem aL.ptr {H:aa}{x:PG}(h:aL H x){z z':FZ}(d:z∈x.zs)(b:z'∈x.zs)(e:z.2.p=z'.2.p):z=z':=by
 obtain⟨i,hi⟩:=Oz.1 d;obtain⟨j,c⟩:=Oz.1 b;by_cases a:i=j
 ·subst a;rw[hi] at c;exact OS c
 ·exact absurd (.inl e) (h.apart i j z z' hi c a z.2.p (.inl rfl))
theorem aL.entry {H:aa}{x:PG}(h:aL H x){e:MapEntry}(he:e∈x.ef.toList):∃z∈x.zs,e.key=jn z.1.name (z.1.page:Int)/\e.val=dg z.2.p:=by
 have:=(h.entF e.key e.val).1 ⟨e,he,rfl,rfl⟩;obtain⟨z,a,q⟩:=OC.1 this;simp only[Pp] at q;exact⟨z,a,q.1.symm,q.2.symm⟩
theorem aL.BW {H:aa}{x:PG}(h:aL H x){z:FZ}(a:z∈x.zs):∃e∈x.ef.toList,e.key=jn z.1.name (z.1.page:Int)/\e.val=dg z.2.p:=by
 obtain⟨e,he,h1,b⟩:=(h.entF _ _).2 (OC.2 ⟨z,a,rfl⟩);exact⟨e,he,h1,b⟩
def Me (x:PG)(l:List MapEntry)(b:Option Addr):Prop:=
 match b with
 |none=>∀e∈l,∀z∈x.zs,e.val=dg z.2.p->z.1.pins≠[]
 |some a=>∃z∈x.zs,a=⟨z.2.p,0,none⟩/\z.1.pins=[]/\∀e∈l,∀z'∈x.zs,e.val=dg z'.2.p->z'.1.pins=[]->z.1.left<=z'.1.left
theorem mU:∃(a:TypeId) (inf:TypeInfo),Oj.underlying xX=some (.map wX a)/\Oj.info? a=some inf/\inf.zero=some (.pointer none):=by
 obtain⟨D,b⟩:=Option.isSome_iff_exists.1 (by kernel_rfl:(Oj.underlying wX).isSome=true);obtain⟨a,inf,h1,_,c,d⟩:=sf (P:=Oj) (t:=xX) (kt:=wX) (by kernel_rfl) b;exact⟨a,inf,h1,c,d⟩
theorem FY {x:PG}{H:aa}{p dp:Nat}{s:Pl}{K:Option Addr->aa->Prop}(h:bu x H p dp s)(Y:s.jW=none->∀H',Ext H H'->K none H')
  (Z:∀i f g,s.jW=some i->x.zs[i]?=some (f,g)->∀H',Ext H H'->K (aE g.p) H'):JH.sp (aE p) H K:=by
 refine JH.of ?_;unfold JH.vc;simp only[al];refine h.head.ld (c:=bU) (i:=2) (x:=some x.mf) rfl ?_;obtain⟨et,inf,hu,_⟩:=mU;have G:=h.frames;refine od hu G.fmap λH1 M Q=>?_;have af:=aA M;have N:aL H1 x:=G.keep λb _ hl=>Q.same b hl id;refine og (it:=H.size) (λl b A=>Me x l b/\Mod (λk=>k=H.size) H1 A) N.fmap M ⟨(by intro e he;cases he),.refl _ _⟩ (λl b A A' q m _=>⟨q.1,q.2.trans m⟩) ?_ ?_
 ·rintro l e b A next ⟨I,E⟩ he _ _ _ _ _ r
  obtain⟨z,J,_,L⟩:=G.entry he;have W:aL A x:=N.keep λc R hl=>E.same c hl λq=>by have:=G.lt c R;omega
  have O:=W.each z J;refine⟨aE z.2.p,by rw[L];rfl,?_⟩;refine HE.of ?_;unfold HE.vc;simp only[al];refine O.row.ld (c:=ab .i64) (i:=5) (x:=(z.1.pins.length:Int)) rfl ?_;have same:∀z'∈x.zs,e.val=dg z'.2.p->z'=z:=λz' n d=>G.ptr n J (by rw[L] at d;exact(sN d).symm);refine ag (λF=>?_) (λF=>?_)
  ·have u:z.1.pins=[]:=by
    have:(z.1.pins.length:Int)=0:=by simpa using F
    exact List.eq_nil_of_length_eq_zero (by omega)
   cases b with
   |none=>
     refine aP rfl (r _ _ ⟨⟨z,J,rfl,u,?_⟩,E⟩ rfl rfl);intro C t z' n d o;rcases Ox.1 t with q|q
     ·exact absurd o (I C q z' n d)
     ·simp at q;subst q;rw[same z' n d];exact RN _
   |some a=>
     obtain⟨y,P,rfl,hyp,D⟩:=I;have S:=W.each y P;refine aC rfl ?_;refine Hq.of ?_;unfold Hq.vc;simp only[al];refine O.row.ld (c:=ab .i64) (i:=6) (x:=z.1.left) rfl ?_;refine S.row.ld (c:=ab .i64) (i:=6) (x:=y.1.left) rfl ?_;refine ag (λv=>?_) (λv=>?_)
     ·have v:z.1.left<y.1.left:=by simpa using v
      refine r _ _ ⟨⟨z,J,rfl,u,?_⟩,E⟩ rfl rfl;intro C t z' n d o;rcases Ox.1 t with q|q
      ·have:=D C q z' n d o;omega
      ·simp at q;subst q;rw[same z' n d];exact RN _
     ·have v:¬z.1.left<y.1.left:=by simpa using v
      refine r _ _ ⟨⟨y,P,rfl,hyp,?_⟩,E⟩ rfl rfl;intro C t z' n d o;rcases Ox.1 t with q|q
      ·exact D C q z' n d o
      ·simp at q;subst q;rw[same z' n d];omega
  ·have u:z.1.pins≠[]:=by
    intro q;rw[q] at F;simp at F
   refine r _ _ ⟨?_,E⟩ rfl rfl;cases b with
   |none=>
     intro C t z' n d;rcases Ox.1 t with q|q
     ·exact I C q z' n d
     ·simp at q;subst q;rw[same z' n d];exact u
   |some a=>
     obtain⟨y,P,rfl,hyp,D⟩:=I;refine⟨y,P,rfl,hyp,?_⟩;intro C t z' n d o;rcases Ox.1 t with q|q
     ·exact D C q z' n d o
     ·simp at q;subst q;rw[same z' n d] at o;exact absurd o u
 ·rintro l b A ⟨I,E⟩ w _;have X:Ext H A:=⟨by have:=Q.size;have:=E.size;omega,λc R _=>(E.same c (by omega) (by omega)).trans (Q.same c R id)⟩;cases b with
  |none=>
    refine Y ?_ A X;cases hb:s.jW with
    |none=>rfl
    |some i=>
      obtain⟨f,hf,F,_⟩:=Pl.jE hb;obtain⟨g,hg,_⟩:=h.at hf;have B:=Oo hg;obtain⟨e,he,_,L⟩:=G.BW B;exact absurd F (I e (w.mem_iff.2 he) _ B L)
  |some a=>
    obtain⟨z,J,rfl,F,hl⟩:=I;obtain⟨i,hi⟩:=Oz.1 J;have T:s.fs[i]?=some z.1:=by rw[h.fs];simp[PG.fs,hi]
    refine Z i z.1 z.2 (Pl.HR h.wf T F λf' U o=>?_) hi A X;obtain⟨j,hj⟩:=Oz.1 U;obtain⟨g',V,_⟩:=h.at hj;have B:=Oo V;obtain⟨e,he,_,L⟩:=G.BW B;exact hl e (w.mem_iff.2 he) _ B L o
theorem mF {α β:Type}(u:α->β):∀(l:List α) (i:Nat),(l.eraseIdx i).map u=(l.map u).eraseIdx i
 |[],i=>by simp
 |a::l,0=>by simp
 |a::l,i+1=>by simp[mF u l i]
theorem dz.BF {H:aa}{g:tu}{f:Fr}{K:(ByteArray×Int)->Prop}(h:dz H g f)(a:K (f.name,(f.page:Int))):c9 (bR [aH,(ab .i64)]) 2 H (O4 ⟨g.p,0,none⟩ 0) K:=by
 refine⟨(f.name,(f.page:Int)),?_,a⟩;refine aj.lT (o:=0) (ds:=#[.string f.name,.int .i64 (f.page:Int)]) h.row rfl λi hi=>?_;have:i=0\/i=1:=by omega
 rcases this with rfl|rfl<;>rfl
theorem bu.L9 {x:PG}{H:aa}{p dp:Nat}{s:Pl}{K:Nat->Prop}(h:bu x H p dp s)(a:K s.fs.length):AY H (some x.mf) K:=
 ⟨s.fs.length,⟨x.ef,x.cf,h.frames.fmap.obj,h.n⟩,a⟩
theorem Pl.WF.key {s:Pl}(h:s.WF){i:Nat}{f:Fr}(a:s.fs[i]?=some f):vN Oj wX (jn f.name (f.page:Int)):=by
 have:=h.aq f (Oo a);exact pY this.2 (by omega) (by omega)
theorem zp {x:PG}{D:Nat->Prop}{H:aa}{p dp:Nat}{s:Pl}{i:Nat}{f:Fr}{g:tu}{ty:TypeId}{K:Value->aa->Prop}(r:Gl H)(h:bH x D H p dp s)(q:x.zs[i]?=some (f,g))(t:f.pins=[])
  (u:∀a v H',bH {x with zs:=x.zs.eraseIdx i,ef:=a} D H' p dp (s.drop i)->Step (λb=>D b\/x.all p b) (λb=>D b\/PG.all {x with zs:=x.zs.eraseIdx i,ef:=a} p b) H H'->Mod (λb=>b=x.mf) H H'->K v H'):
  bf gn Oj (PV #[xX,wX] ty #[(.map (some x.mf)),(.agg #[(.string f.name),(.int .i64 (f.page:Int))])]) H K:=by
 have j:s.fs[i]?=some f:=by rw[h.pool.fs];simp[PG.fs,q]
 obtain⟨F,inf,hu,_⟩:=mU;have c:=h.pool.wf.key j;refine xf (k:=jn f.name (f.page:Int)) hu wk h.pool.frames.fmap c λa H' w it y d z'=>?_;have A:=h.pool.frames.erase q t (by have:=h.pool.wf.keys;rw[h.pool.fs] at this;exact this) w it y (λb _ l hl=>d.same b hl l);have m:p≠x.mf:=λe=>bu.off h.pool.head h.pool.frames (.inl e);have n:bu {x with zs:=x.zs.eraseIdx i,ef:=a} H' p dp (s.drop i):=by
  refine⟨d.at h.pool.head m,A,?_,h.pool.wf.drop i⟩;show s.fs.eraseIdx i=(x.zs.eraseIdx i).map (·.1);rw[h.pool.fs,mF];rfl
 obtain⟨B,C⟩:=h.iY r n rfl (d.mono λb _ e=>.inr (.inl e)) (by
  rintro b (e|e|⟨z,o,E⟩)
  ·exact .inl (.inl e)
  ·exact .inl (.inr (.inl e))
  ·exact .inl (.inr (.inr ⟨z,PO o,E⟩)))
 exact u a _ H' B C d
theorem BB {x:PG}{D:Nat->Prop}{H:aa}{p dp:Nat}{s:Pl}{K:Int->aa->Prop}(R:Gl H)(h:bH x D H p dp s)(j:s.d.aB<68719476736)
  (a:∀x' m H',bH x' m H' p dp s.room.1->Step (λb=>D b\/x.all p b) (λb=>m b\/x'.all p b) H H'->K s.room.2 H'):Hg.sp (aE p) H K:=by
 refine Hg.of ?_;unfold Hg.vc;simp only[al];refine h.pool.head.ld (c:=bU) (i:=2) (x:=some x.mf) rfl ?_;refine h.pool.L9 ?_;refine h.pool.head.ld (c:=ab .i64) (i:=1) (x:=(s.most:Int)) rfl ?_;refine ag (λA=>?_) (λA=>?_)
 ·have e:s.room=(s,0):=by unfold Pl.room;rw[if_pos (by simpa using A)]
  rw[e] at a;exact a x D H h (.refl _ _)
 have hlen:¬s.fs.length<s.most:=by simpa using A
 refine FY h.pool (λS H1 d=>?_) (λi f g P n H1 d=>?_)
 ·have e:s.room=(s,31):=by unfold Pl.room;rw[if_neg hlen,S]
  rw[e] at a;refine aP rfl (a x D H1 ⟨h.pool.keep λb _ hl=>d.same b hl id,h.cw.keep λb _ hl=>d.same b hl id,h.apart,h.eO⟩ ⟨Ext.mod d,λb q=>.inl q⟩)
 ·have h1:bH x D H1 p dp s:=⟨h.pool.keep λb _ hl=>d.same b hl id,h.cw.keep λb _ hl=>d.same b hl id,h.apart,h.eO⟩;have B:Step (λb=>D b\/x.all p b) (λb=>D b\/x.all p b) H H1:=⟨Ext.mod d,λb q=>.inl q⟩;have k:Gl H1:=R.mod d id;have C:=Oo n;have o:s.fs[i]?=some f:=by rw[h.pool.fs];simp[PG.fs,n]
  have E:=Pl.fJ o;obtain⟨f0,r,t,_⟩:=Pl.jE P;rw[o] at r;cases r;have Q:=h1.pool.frames.each _ C;refine aC rfl ?_;simp only[al];refine Q.row.ld (c:=ay) (i:=4) (x:=f.dirty) rfl ?_;have l:s.room=(if f.dirty then (if (s.put i).2=0 then ((s.put i).1.drop i,0) else s.put i) else (s.drop i,0)):=by
   unfold Pl.room;rw[if_neg hlen,P];simp only[E]
  cases hd:f.dirty with
  |true=>
    rw[hd,if_pos rfl] at l;refine aP rfl ?_;refine BJ k h1 n j (λu m F w z=>?_) (λhe m F w z=>?_)
    ·rw[if_neg u] at l;rw[l] at a;exact aP (by simpa using u) (a x m F w (B.trans z))
    ·rw[if_pos he] at l;rw[l] at a;refine aC rfl ?_;have G:=(Om.1 n).1;have y:(x.zs.set i (f.clean,g))[i]?=some (f.clean,g):=by simp[G]
     have I:=w.pool.frames.each _ (Oo y);refine w.pool.head.ld (c:=bU) (i:=2) (x:=some x.mf) rfl ?_;refine dz.BF I ?_;have J:Gl F:=h1.gl k z.mod;refine zp (x:={x with zs:=x.zs.set i (f.clean,g)}) J w y t λL v M N O _=>?_;exact a _ m M N ((B.trans z).trans O)
  |false=>
    rw[hd,if_neg (by simp)] at l;rw[l] at a;refine aC rfl ?_;refine h1.pool.head.ld (c:=bU) (i:=2) (x:=some x.mf) rfl ?_;refine dz.BF Q ?_;refine zp k h1 n t λL v M N O _=>?_;exact a _ D M N (B.trans O)
theorem re:FC Oj LW iH (.int .i64):=sf (by kernel_rfl) (by kernel_rfl)
theorem vG {h:Int}:∀(zs:List FZ) (i:Nat) (f:Fr) (g:tu),zs[i]?=some (f,g)->∀k v,(k,v)∈wh (zs.set i (Fr.bt h f,g))↔(k,v)∈wh zs\/(k=.int .i64 h/\v=dg g.p)
 |[],i,f,g,e,k,v=>by simp at e
 |a::l,0,f,g,e,k,v=>by
   simp at e;subst e;simp only[List.set_cons_zero,wh,Pk,Ox,LK,Fr.bt,O8,OJ,Q6,OH,Pp];constructor
   ·rintro((q|q)|q)
    ·exact .inl (.inl q)
    ·exact .inr q
    ·exact .inl (.inr q)
   ·rintro((q|q)|q)
    ·exact .inl (.inl q)
    ·exact .inr q
    ·exact .inl (.inr q)
 |a::l,i+1,f,g,e,k,v=>by
   have b:=vG (h:=h) l i f g (by simpa using e) k v;simp only[List.set_cons_succ,wh,Pk,Ox] at b ⊢;rw[b,or_assoc]
theorem Ft {x:PG}{D:Nat->Prop}{H:aa}{p dp:Nat}{s:Pl}{i:Nat}{f:Fr}{g:tu}{K:Int->aa->Prop}(S:Gl H)(h:bH x D H p dp s)(B:x.zs[i]?=some (f,g))(hn:s.next<9223372036854775807)
  (C:(s.ia i).WF) (T:(f.pins.length:Int)<9223372036854775807)
  (U:∀x' H',bH x' D H' p dp (s.ia i)->Step (λb=>D b\/x.all p b) (λb=>D b\/x'.all p b) H H'->K s.next H'):FH.sp (aE p) (aE g.p) H K:=by
 refine FH.of ?_;unfold FH.vc;simp only[al];have d:=Oo B;have E:s.fs[i]?=some f:=by rw[h.pool.fs];simp[PG.fs,B]
 have l:=h.pool.frames.each _ d;refine l.row.ld (c:=ab .i64) (i:=5) (x:=(f.pins.length:Int)) rfl ?_;refine l.row.st (i:=5) (by decide:5<7) (by rfl) λH1 V m1 z1=>?_;have m:p≠g.p:=λe=>bu.off h.pool.head h.pool.frames (e▸.inr (.inr ⟨_,d,.inl rfl⟩));have j:aj H1 p CL (oJ dp x s):=m1.at h.pool.head m;refine j.ld (c:=bU) (i:=3) (x:=some x.mh) rfl ?_;refine j.ld (c:=ab .i64) (i:=4) (x:=s.next) rfl ?_;obtain⟨et,inf,hu,hd,W,X⟩:=re;have n:=h.pool.frames.off d;have o:g.p≠x.mh:=λe=>n.2 (.inl e.symm);have F:cc (.int .i64) H1 x.mh x.eh x.ch:=h.pool.frames.hmap.keep (m1.same _ h.pool.frames.hmap.lt (λe=>o e.symm));have G:∀u,¬eU x.eh (.int .i64 s.next) u:=by
  intro u I;have:=(h.pool.frames.entH _ _).1 I;obtain⟨z,J,hk⟩:=PX.1 this;obtain⟨q,L,e⟩:=OC.1 hk;simp only[Pp,Tq,true_and] at e;have M:z.1∈s.fs:=by rw[h.pool.fs];exact OC.2 ⟨z,J,rfl⟩
  have:=(h.pool.wf.old _ M _ L).2;omega
 refine nM hu hd F (k:=.int .i64 s.next) (show Ol=Ol from rfl) G λY r m2 z2=>?_;have t:p≠x.mh:=λe=>bu.off h.pool.head h.pool.frames (.inr (.inl e));have w:aj Y p CL (oJ dp x s):=m2.at j t;refine w.ld (c:=ab .i64) (i:=4) (x:=s.next) rfl ?_;refine w.st (i:=4) (by decide:4<8) (by rfl) λy Q m3 z3=>?_;refine Q.ld (c:=ab .i64) (i:=4) (x:=fC (s.next+1)) rfl ?_;have ht:=h.pool.wf.tick;have hw:fC (s.next+1)=s.next+1:=by unfold fC;exact wrap64 (by omega) (by omega)
 have Z:Ol.wrap (fC (s.next+1) - 1)=s.next:=by
  have e1:fC (s.next+1) - 1=s.next:=by omega
  rw[e1];exact wrap64 (by omega) (by omega)
 rw[Z];have a:Mod (λb=>b=g.p\/b=x.mh\/b=p) H y:=((m1.mono λb _ e=>.inl e).trans (m2.mono λb _ e=>.inr (.inl e))).trans (m3.mono λb _ e=>.inr (.inr e));have ew:Ol.wrap ((f.pins.length:Int)+1)=(((Fr.bt s.next f).pins.length:Nat):Int):=by
  rw[wrap64 (by omega) (by omega)];simp[Fr.bt]
 have L:dz y g (Fr.bt s.next f):=by
  refine⟨?_,l.b.keep λb A hl=>a.same b hl ?_⟩
  ·have:=m3.at (m2.at V o) (λe=>m e.symm);rw[ew] at this;exact this
  ·obtain⟨c,q⟩:=l.b.obj b A;rintro(e|e|e)
   ·rw[e] at q;exact absurd (aG l.row q) (by decide)
   ·rw[e,h.pool.frames.hmap.obj] at q;cases q
   ·rw[e] at q;exact absurd (aG h.pool.head q) (by decide)
 have R:=h.pool.frames.set (H':=y) (z':=(Fr.bt s.next f,g)) B rfl rfl rfl L (r.keep (m3.same _ r.lt (λe=>t e.symm))) (λk v=>by
  rw[iz,h.pool.frames.entH,vG x.zs i f g B];exact TJ) (λb A N O hl=>a.same b hl (by
   rintro(e|e|e)
   ·exact N (.inl e)
   ·exact O e
   ·exact bu.off h.pool.head h.pool.frames (e▸A))) (λb A=>.inl A)
 have P:bu {x with zs:=x.zs.set i (Fr.bt s.next f,g),eh:=x.eh.push {key:=.int .i64 s.next,val:=dg g.p,born:=x.ch},ch:=x.ch+1} y p dp (s.ia i):=by
  refine⟨Q,R.1,?_,C⟩;show s.fs.modify i (Fr.bt s.next)=(x.zs.set i (Fr.bt s.next f,g)).map (·.1);rw[aZ E,h.pool.fs];simp[PG.fs,PK]
 obtain⟨q1,q2⟩:=h.iY S P rfl (a.mono λb _ e=>by
  rcases e with e|e|e
  ·exact .inr (.inr (.inr ⟨_,d,.inl e⟩))
  ·exact .inr (.inr (.inl e))
  ·exact .inl e) R.2
 exact U _ y q1 q2
structure EU (x:PG)(D:Nat->Prop)(H:aa)(p:Nat)(g:tu)(f:Fr):Prop where
 fr:dz H g f
 off:∀b,g.fp b->¬D b/\¬x.all p b/\b≠bh
theorem BM {x:PG}{D:Nat->Prop}{H:aa}{p dp:Nat}{s:Pl}{f:Fr}{g:tu}{K:Int->aa->Prop}(hg:Gl H)(h:bH x D H p dp s)(hN:EU x D H p g f)
  (hl:s.fs.length<s.most) (hn:s.next<9223372036854775807) (hk:s.find f.name f.page=none) (l:f.b.length<=504) (af:f.page<1048577) (R:f.name.size<=9223372036854775807) (hp:f.pins=[]) (an:f.left=0)
  (hK:∀x' H',bH x' D H' p dp (s.take f)->Step (λb=>(D b\/x.all p b)\/g.fp b) (λb=>D b\/x'.all p b) H H'->K s.next H'):Cw.sp (aE p) (aE g.p) H K:=by
 refine Cw.of ?_;unfold Cw.vc;simp only[al];have hw:=h.pool.wf.take hl hn hk l af R hp an;have hlen:=h.pool.wf.len;have a1:=h.pool.wf.most;refine h.pool.head.ld (c:=bU) (i:=2) (x:=some x.mf) rfl ?_;refine dz.BF hN.fr ?_;obtain⟨et,inf,hu,_⟩:=mU;have a6:∀u,¬eU x.ef (jn f.name (f.page:Int)) u:=by
  intro u t;obtain⟨z,N,e⟩:=OC.1 ((h.pool.frames.entF _ _).1 t);simp only[Pp] at e;have:=lM e.1;have C:z.1∈s.fs:=by rw[h.pool.fs];exact OC.2 ⟨z,N,rfl⟩
  exact Pl.pI hk _ C this.1 this.2
 refine xy (k:=jn f.name (f.page:Int)) hu wk h.pool.frames.fmap (pY R (by omega) (by omega)) a6 λH1 S m1 z1=>?_;have T:p≠x.mf:=λe=>bu.off h.pool.head h.pool.frames (.inl e);have E:aj H1 p CL (oJ dp x s):=m1.at h.pool.head T;refine E.ld (c:=ab .i64) (i:=6) (x:=(s.peak:Int)) rfl ?_;refine E.ld (c:=bU) (i:=2) (x:=some x.mf) rfl ?_;have a7:=h.pool.n;refine⟨s.fs.length+1,⟨_,_,S.obj,by simp[a7]⟩,?_⟩;have ep:(if ((s.fs.length+1:Nat):Int)>(s.peak:Int) then ((s.fs.length+1:Nat):Int) else (s.peak:Int))=((max s.peak (s.fs.length+1):Nat):Int):=by
  split<;>omega
 simp only[ep];refine E.st (i:=6) (by decide:6<8) (by rfl) λO r2 m2 z2=>?_;have d:=hN.off;have m:Mod (λb=>b=x.mf\/b=p) H O:=(m1.mono λb _ e=>.inl e).trans (m2.mono λb _ e=>.inr e);have o:dz O g f:=hN.fr.keep λb l hl=>m.same b hl (by
  rintro(e|e)
  ·exact(d b l).2.1 (.inr (.inl e))
  ·exact(d b l).2.1 (.inl e))
 -- the frame is pushed
 obtain⟨r,F⟩:∃e:Array MapEntry,e=x.ef.push {key:=jn f.name (f.page:Int),val:=dg g.p,born:=x.cf}:=⟨_,rfl⟩;have n:∀(i:Nat) (z:FZ),x.zs[i]?=some z->∀b,z.2.fp b->¬g.fp b:=λi z N b l a8=>(d b a8).2.1 (.inr (.inr (.inr ⟨z,Oo N,l⟩)));have P:aL O {x with zs:=x.zs++[(f,g)],ef:=r,cf:=x.cf+1}:=by
  have F0:=h.pool.frames;have U:=bu.off h.pool.head h.pool.frames;have old:∀u∈x.zs,dz O u.2 u.1:=λu hu=>(F0.each u hu).keep λb l hl=>m.same b hl (by
   rintro(e|e)
   ·exact(F0.off hu).1 (e▸l)
   ·exact U (e▸.inr (.inr ⟨u,hu,l⟩)))
  refine⟨?_,F0.hmap.keep (m.same _ F0.hmap.lt (by
   rintro(e|e)
   ·exact F0.ne e.symm
   ·exact U (e▸.inr (.inl rfl)))),F0.ne,by rw[F];simp[F0.size],?_,?_,?_,?_⟩
  ·have:=S.mod m2 (λe=>T e.symm);rw[F];exact this
  ·intro k v;rw[Am,Ox,F,iz,F0.entF k v];simp[pw]
  ·intro k v;rw[Ap,F0.entH k v];simp[wh,Bt (z:=(f,g)) hp]
  ·intro u hu;rcases Ox.1 hu with q|q
   ·exact old u q
   ·simp at q;subst q;exact o
  ·intro i j u v h1 h2 bb b G I;have ex:∀(i:Nat) (u:FZ),(x.zs++[(f,g)])[i]?=some u->(x.zs[i]?=some u)\/(i=x.zs.length/\u=(f,g)):=by
    intro i u h1;by_cases hi:i<x.zs.length
    ·rw[OP hi] at h1;exact .inl h1
    ·rw[List.getElem?_append_right (by omega)] at h1;have:i=x.zs.length:=by
      have:=(Om.1 h1).1;simp at this;omega
     subst this;simp at h1;exact .inr ⟨rfl,h1.symm⟩
   rcases ex i u h1 with q1|⟨e1,rfl⟩<;>rcases ex j v h2 with q2|⟨e2,rfl⟩
   ·exact F0.apart i j u v q1 q2 bb b G I
   ·exact n i u q1 b G I
   ·exact n j v q2 b I G
   ·omega
 -- what holds in between
 have bC:(s.add f).fs.length<=s.most:=by simp[Pl.add];omega
 have J:aj O p CL (oJ dp {x with zs:=x.zs++[(f,g)],ef:=r,cf:=x.cf+1} (s.add f)):=r2;have N:(x.zs++[(f,g)])[x.zs.length]?=some (f,g):=by simp
 have bD:x.zs.length=s.fs.length:=by rw[h.pool.fs];simp[PG.fs]
 -- the pin, over the blocks themselves
 refine FH.of ?_;unfold FH.vc;simp only[al];have bM:((f,g):FZ)∈x.zs++[(f,g)]:=by simp
 refine o.row.ld (c:=ab .i64) (i:=5) (x:=(f.pins.length:Int)) rfl ?_;refine o.row.st (i:=5) (by decide:5<7) (by rfl) λH3 r3 m3 z3=>?_;have y:p≠g.p:=λe=>(d g.p (.inl rfl)).2.1 (.inl e.symm);have L:aj H3 p CL (oJ dp {x with zs:=x.zs++[(f,g)],ef:=r,cf:=x.cf+1} (s.add f)):=m3.at J y;refine L.ld (c:=bU) (i:=3) (x:=some x.mh) rfl ?_;refine L.ld (c:=ab .i64) (i:=4) (x:=s.next) rfl ?_;obtain⟨bN,bB,t,bd,_,_⟩:=re;have V:g.p≠x.mh:=λe=>(d g.p (.inl rfl)).2.1 (.inr (.inr (.inl e)));have bl:cc (.int .i64) H3 x.mh x.eh x.ch:=P.hmap.keep (m3.same _ P.hmap.lt (λe=>V e.symm));have W:∀u,¬eU x.eh (.int .i64 s.next) u:=by
  intro u t;have:=(h.pool.frames.entH _ _).1 t;obtain⟨z,bn,hk⟩:=PX.1 this;obtain⟨q,hq,e⟩:=OC.1 hk;simp only[Pp,Tq,true_and] at e;have C:z.1∈s.fs:=by rw[h.pool.fs];exact OC.2 ⟨z,bn,rfl⟩
  have:=(h.pool.wf.old _ C _ hq).2;omega
 refine nM t bd bl (k:=.int .i64 s.next) (show Ol=Ol from rfl) W λH4 X m4 z4=>?_;have A:p≠x.mh:=λe=>bu.off h.pool.head h.pool.frames (.inr (.inl e));have Y:aj H4 p CL (oJ dp {x with zs:=x.zs++[(f,g)],ef:=r,cf:=x.cf+1} (s.add f)):=m4.at L A;refine Y.ld (c:=ab .i64) (i:=4) (x:=s.next) rfl ?_;refine Y.st (i:=4) (by decide:4<8) (by rfl) λQ r5 m5 z5=>?_;refine r5.ld (c:=ab .i64) (i:=4) (x:=fC (s.next+1)) rfl ?_;have ht:=h.pool.wf.tick;have bO:fC (s.next+1)=s.next+1:=by unfold fC;exact wrap64 (by omega) (by omega)
 have er:Ol.wrap (fC (s.next+1) - 1)=s.next:=by
  have e1:fC (s.next+1) - 1=s.next:=by omega
  rw[e1];exact wrap64 (by omega) (by omega)
 rw[er];have w:Mod (λb=>b=g.p\/b=x.mh\/b=p) O Q:=((m3.mono λb _ e=>.inl e).trans (m4.mono λb _ e=>.inr (.inl e))).trans (m5.mono λb _ e=>.inr (.inr e));have hq:dz Q g (Fr.bt s.next f):=by
  refine⟨?_,o.b.keep λb l hl=>w.same b hl ?_⟩
  ·have:=m5.at (m4.at r3 V) (λe=>y e.symm);have e0:Ol.wrap (((f.pins.length:Nat):Int)+1)=(((Fr.bt s.next f).pins.length:Nat):Int):=by
    rw[hp];simp[Fr.bt,hp];rfl
   rw[e0] at this;exact this
  ·obtain⟨c,q⟩:=o.b.obj b l;rintro(e|e|e)
   ·rw[e] at q;exact absurd (aG o.row q) (by decide)
   ·rw[e,P.hmap.obj] at q;cases q
   ·rw[e] at q;exact absurd (aG J q) (by decide)
 have bs:=P.set (H':=Q) (z':=(Fr.bt s.next f,g)) N rfl rfl rfl hq (X.keep (m5.same _ X.lt (λe=>A e.symm))) (λk v=>by
  rw[iz,P.entH,vG _ x.zs.length f g N];exact TJ) (λb l bx bA hl=>w.same b hl (by
   rintro(e|e|e)
   ·exact bx (.inl e)
   ·exact bA e
   ·exact bu.off J P (e▸l))) (λb l=>.inl l)
 have Z:bu {x with zs:=(x.zs++[(f,g)]).set x.zs.length (Fr.bt s.next f,g),ef:=r,cf:=x.cf+1,eh:=x.eh.push {key:=.int .i64 s.next,val:=dg g.p,born:=x.ch},ch:=x.ch+1} Q p dp (s.take f):=by
  refine⟨r5,bs.1,?_,hw⟩;show (s.fs++[f]).modify s.fs.length (Fr.bt s.next)=((x.zs++[(f,g)]).set x.zs.length (Fr.bt s.next f,g)).map (·.1);rw[aZ (a:=f) (by simp),h.pool.fs];simp[PG.fs]
 have B:Mod (λb=>x.all p b\/g.fp b) H Q:=by
  refine(m.mono λb _ e=>?_).trans (w.mono λb _ e=>?_)
  ·rcases e with e|e
   ·exact .inl (.inr (.inl e))
   ·exact .inl (.inl e)
  ·rcases e with e|e|e
   ·exact .inr (.inl e)
   ·exact .inl (.inr (.inr (.inl e)))
   ·exact .inl (.inl e)
 have own:∀b,PG.all {x with zs:=(x.zs++[(f,g)]).set x.zs.length (Fr.bt s.next f,g),ef:=r,cf:=x.cf+1,eh:=x.eh.push {key:=.int .i64 s.next,val:=dg g.p,born:=x.ch},ch:=x.ch+1} p b->x.all p b\/g.fp b:=by
  rintro b (e|e|e|⟨u,hu,M⟩)
  ·exact .inl (.inl e)
  ·exact .inl (.inr (.inl e))
  ·exact .inl (.inr (.inr (.inl e)))
  ·rcases jY hu with ⟨j,_,hj⟩|rfl
   ·rcases Ox.1 (Oo hj) with q|q
    ·exact .inl (.inr (.inr (.inr ⟨u,q,M⟩)))
    ·simp at q;subst q;exact .inr M
   ·exact .inr M
 refine hK _ Q ⟨Z,h.cw.keep λb l hl=>B.same b hl ?_,?_,h.eO.1,?_⟩ ⟨B.mono λb _ e=>e.imp .inr id,?_⟩
 ·rintro(e|e)
  ·exact h.apart b l e
  ·exact(d b e).1 l
 ·intro b l hx;rcases own b hx with e|e
  ·exact h.apart b l e
  ·exact(d b e).1 l
 ·intro hx;rcases own _ hx with e|e
  ·exact h.eO.2 e
  ·exact(d _ e).2.2 rfl
 ·rintro b (e|e)
  ·exact .inl (.inl (.inl e))
  ·rcases own b e with q|q
   ·exact .inl (.inl (.inr q))
   ·exact .inl (.inr q)
end Go.Proofs.YtmkbhnholcaghaaGreatDoor
namespace Go.Proofs.YtmkbhnholcaghaaGreatDoor
theorem Dk.x8 (s:Dk):s.change.1.aB=s.aB:=by unfold Dk.aB;rw[s.bm]
theorem Dk.mV {s:Dk}{f:Dk->Dk}{n:Nat}(h:∀t:Dk,t.files=s.files->(f t).aB<=n)(a:s.aB<=n):(s.step f).1.aB<=n:=by
 unfold Dk.step;split
 ·exact h _ s.bm
 ·show s.change.1.aB<=n;rw[s.x8];exact a
theorem Dk.Il {s t:Dk}(h:t.files=s.files):t.aB=s.aB:=by unfold Dk.aB;rw[h]
theorem Dk.lL (s:Dk)(n:ByteArray):(s.create n).1.aB<=s.aB:=by
 unfold Dk.create;split
 ·exact Ot _
 ·split
  ·exact Ot _
  ·split
   ·exact Ot _
   ·split
    ·exact Ot _
    ·refine Dk.mV (λt a=>?_) (Ot _);unfold Dk.aB;simp[a]
theorem Dk.C7 (s:Dk)(n:ByteArray):(s.drop n).aB<=s.aB:=by
 unfold Dk.drop;split
 ·rename_i i hi;obtain⟨f,a,_⟩:=Dk.cp hi;have:=jL (λf:Fl=>f.log.length) s.files i f a;unfold Dk.aB;simp only;omega
 ·exact Ot _
theorem Dk.xW (s:Dk)(n:ByteArray):(s.remove n).1.aB<=s.aB:=by
 unfold Dk.remove;split
 ·exact Ot _
 ·split
  ·exact Ot _
  ·exact Dk.mV (λt a=>OE (t.C7 n) (by rw[Dk.Il a];exact Ot _)) (Ot _)
theorem Dk.tP (s:Dk)(n:ByteArray)(p:Int)(b:List UInt8):(s.write n p b).1.aB<=s.aB+1:=by
 unfold Dk.write;split
 ·exact Ph _
 ·split
  ·split
   ·exact Ph _
   ·rename_i i hi;split
    ·exact Ph _
    ·split
     ·exact Ph _
     ·refine Dk.mV (λt a=>?_) (Ph _);obtain⟨f,c,_⟩:=Dk.cp hi;rw[<-a] at c;show ((t.files.modify i _).map λf=>f.log.length).sum<=_;have:=fi (λf:Fl=>f.log.length) (λf=>{f with log:=f.log++[⟨t.next,p.toNat,⟨b,by assumption⟩⟩]}) t.files i f c;have d:(t.files.map λf=>f.log.length).sum=s.aB:=by rw[a];rfl
      simp only[OU,O3,Ut] at this;omega
  ·exact Ph _
theorem Dk.CH (s:Dk)(n:ByteArray):(s.sync n).1.aB<=s.aB:=by
 unfold Dk.sync;split
 ·exact Ot _
 ·split
  ·exact Ot _
  ·rename_i i hi;refine Dk.mV (λt a=>?_) (Ot _);obtain⟨f,b,_⟩:=Dk.cp hi;rw[<-a] at b;show ((t.files.modify i _).map λf=>f.log.length).sum<=_;have:=fi (λf:Fl=>f.log.length) (λf=>{f with synced:=f.aq,log:=[]}) t.files i f b;have c:(t.files.map λf=>f.log.length).sum=s.aB:=by rw[a];rfl
   simp only[Ut] at this;omega
theorem Dk.we (s:Dk):s.cU.aB<=s.aB:=by
 unfold Dk.cU;split
 ·unfold Dk.aB;simp only[PN];refine nN _ _ _ λf _=>?_;show ([]:List Wr).length<=_;exact OL _
 ·exact Ot _
theorem Dk.tS (s:Dk)(i k:Int):(s.db i k).aB=s.aB:=by
 unfold Dk.db;split<;>rfl
theorem Pl.lZ (s:Pl)(i:Nat):(s.put i).1.d.aB<=s.d.aB+1:=by
 unfold Pl.put;split<;>exact s.d.tP _ _ _
theorem Pl.jQ (s:Pl):s.room.1.d.aB<=s.d.aB+1:=by
 unfold Pl.room;split
 ·exact Ph _
 ·split
  ·exact Ph _
  ·split
   ·split
    ·exact s.lZ _
    ·exact s.lZ _
   ·exact Ph _
def Dk.size (s:Dk)(n:ByteArray):Nat:=match s.idx n with|some i=>(s.file i).aq.length|none=>0
def Pl.Fit (s:Pl):Prop:=∀f∈s.fs,f.page<s.d.size f.name
theorem Dk.xI {s:Dk}{n:ByteArray}(h:(s.len n).2=0):(s.len n).1=s.size n:=by
 unfold Dk.len Dk.open at h ⊢;unfold Dk.size;by_cases hd:s.down=true
 ·rw[if_pos hd] at h;cases h
 ·rw[if_neg hd] at h ⊢;cases hi:s.idx n with
  |none=>rw[hi] at h;first|done|cases h
  |some i=>rfl
theorem Pl.Fit.new {s:Pl}(h:s.Fit){n:ByteArray}(hl:(s.d.len n).2=0):s.find n (s.d.len n).1=none:=by
 unfold Pl.find;rw[Qy];intro f a;cases b:f.name.toList==n.toList with
 |false=>rfl
 |true=>
   have e:f.name=n:=gM (by simpa using b);have:=h f a;rw[e,<-Dk.xI hl] at this;show (true&&decide ((f.page:Int)=_))=false;rw[Um];exact decide_eq_false (by omega)
def Dk.ft (s t:Dk):Prop:=∀n,s.size n<=t.size n
theorem Dk.ft.refl (s:Dk):s.ft s:=λ_=>Ot _
theorem Dk.ft.trans {a b c:Dk}(h:a.ft b)(k:b.ft c):a.ft c:=λn=>OE (h n) (k n)
theorem Pl.Fit.grow {s t:Pl}(h:s.Fit)(c:s.d.ft t.d)(d:∀f∈t.fs,∃f'∈s.fs,f'.key=f.key):t.Fit:=by
 intro f a;obtain⟨f',b,hk⟩:=d f a;have h1:f'.name=f.name:=congrArg US hk;have e:f'.page=f.page:=congrArg Vh hk;have:=h f' b;rw[h1,e] at this;exact Nat.lt_of_lt_of_le this (c _)
theorem Dk.size_modify {s t:Dk}{i:Nat}{f:Fl}{g:Fl->Fl}(d:s.files[i]?=some f)(k:t.files=s.files.modify i g)(m:(g f).name=f.name)(hle:f.aq.length<=(g f).aq.length):s.ft t:=by
 intro n;have c:t.idx n=s.idx n:=by
  unfold Dk.idx;rw[k];have:∀(l:List Fl) (j:Nat),l[j]?=some f->(l.modify j g).findIdx? (λf=>f.name.toList==n.toList)=l.findIdx? (λf=>f.name.toList==n.toList):=by
   intro l
   induction l with
   |nil=>intro j h;simp at h
   |cons a l o=>
     intro j h
     match j with
     |0=>
       simp at h;subst h;simp only[TO,Tr,m]
     |j+1=>
       simp only[PC] at h;simp only[Sa,Tr,o j h]
  exact this s.files i d
 unfold Dk.size;rw[c];cases hi:s.idx n with
 |none=>exact Ot _
 |some j=>
   obtain⟨p,b,_⟩:=Dk.cp hi;show (s.file j).aq.length<=(t.file j).aq.length;by_cases e:i=j
   ·subst e;rw[d] at b;cases b;have:t.files[i]?=some (g f):=by rw[k];exact dV d
    rw[Dk.dw d,Dk.dw this];exact hle
   ·have:t.files[j]?=some p:=by rw[k,dX e];exact b
    rw[Dk.dw b,Dk.dw this];exact Ot _
theorem Dk.ft.files {s t:Dk}(h:t.files=s.files):s.ft t:=by
 intro n;have:t.size n=s.size n:=by unfold Dk.size Dk.idx Dk.file;rw[h]
 omega
theorem Dk.il (s:Dk):s.ft s.change.1:=.files s.bm
theorem Dk.om {s:Dk}{f:Dk->Dk}(h:∀t:Dk,t.files=s.files->t.ft (f t)):s.ft (s.step f).1:=by
 unfold Dk.step;split
 ·exact(s.il).trans (h _ s.bm)
 ·exact s.il
theorem Fl.sV (f:Fl)(w:Wr):(({f with log:=f.log++[w]}:Fl)).aq=dP f.aq w:=by simp[Fl.aq]
theorem Dk.qL (s:Dk)(n:ByteArray)(k:Int)(b:List UInt8):s.ft (s.write n k b).1:=by
 unfold Dk.write;split
 ·exact .refl _
 ·split
  ·split
   ·exact .refl _
   ·rename_i i hi;obtain⟨f,a,_⟩:=Dk.cp hi;split
    ·exact .refl _
    ·split
     ·exact .refl _
     ·refine Dk.om λt c=>?_;exact Dk.size_modify (i:=i) (f:=f) (g:=λf=>{f with log:=f.log++[_]}) (by rw[c];exact a) rfl rfl (by rw[Fl.sV,da];omega)
  ·exact .refl _
theorem Dk.zQ (s:Dk)(n:ByteArray):s.ft (s.sync n).1:=by
 unfold Dk.sync;split
 ·exact .refl _
 ·split
  ·exact .refl _
  ·rename_i i hi;obtain⟨f,a,_⟩:=Dk.cp hi;refine Dk.om λt b=>?_;exact Dk.size_modify (i:=i) (f:=f) (g:=λf=>{f with synced:=f.aq,log:=[]}) (by rw[b];exact a) rfl rfl (by simp[Fl.aq])
theorem Dk.kg (s:Dk)(n:ByteArray):s.ft (s.create n).1:=by
 unfold Dk.create;split
 ·exact .refl _
 ·split
  ·exact .refl _
  ·split
   ·exact .refl _
   ·split
    ·exact .refl _
    ·refine Dk.om λt _ m=>?_;unfold Dk.size;cases hi:t.idx m with
     |none=>exact OL _
     |some i=>
       obtain⟨f,a,_⟩:=Dk.cp hi;have hl:=(Om.1 a).1;have b:({t with files:=t.files++[⟨n,[],[]⟩]}:Dk).idx m=some i:=by
        unfold Dk.idx at hi ⊢;simp only[List.findIdx?_append,hi,Option.some_or]
       rw[b];have:(t.files++[(⟨n,[],[]⟩:Fl)])[i]?=some f:=by rw[OP hl];exact a
       show (t.file i).aq.length<=((t.files++[(⟨n,[],[]⟩:Fl)]).getD i _).aq.length;rw[Dk.dw a];simp only[List.getD,this,Option.getD_some];exact Ot _
theorem Pl.pL (s:Pl)(i:Nat):s.d.ft (s.put i).1.d:=by
 unfold Pl.put;split<;>exact s.d.qL _ _ _
theorem Pl.Ad (s:Pl):s.d.ft s.room.1.d:=by
 unfold Pl.room;split
 ·exact .refl _
 ·split
  ·exact .refl _
  ·split
   ·split
    ·exact s.pL _
    ·exact s.pL _
   ·exact .refl _
structure Live (d:Dk)(n:ByteArray)(pg:List Pg)(q:Nat):Prop where
 up:d.down=false
 calm:d.crash=none
 file:∃f,d.files=[f]/\f.name=n/\f.aq=pg
 quota:d.quota=q
structure Told (p:Pl)(n:ByteArray)(N q:Nat)(T:Nat->UInt8×List UInt8)(pg:List Pg):Prop where
 wrong:p.wrong=0
 cw:Live p.d n pg q
 len:pg.length=N
 mine:∀f∈p.fs,f.name=n/\f.page<N/\T f.page=(f.kind,f.b)
 rest:∀(k:Nat) (b:Pg),pg[k]?=some b->(∀f∈p.fs,f.page=k->f.dirty=false)->iG b.1=some (T k)
open Go.MapKept
theorem bH.ext {x:PG}{D:Nat->Prop}{H H':aa}{p dp:Nat}{s:Pl}(h:bH x D H p dp s)(e:Ext H H'):bH x D H' p dp s:=
 ⟨h.pool.keep λb _ hl=>e.same b hl id,h.cw.keep λb _ hl=>e.same b hl id,h.apart,h.eO⟩
theorem Step.ext {F:Nat->Prop}{H H':aa}(e:Ext H H'):Step F F H H':=⟨Ext.mod e,λ_ q=>.inl q⟩
theorem Step.behind {F G:Nat->Prop}{A B C:aa}(h:Step F G A B)(e:Ext B C):Step F G A C:=h.trans (Step.ext e)
theorem tG {D:Nat->Prop}{H:aa}{dp:Nat}{d:Dk}{m:Nat}{K:(Option Addr×Int)->aa->Prop}(j:Gl H)(hd:bo D H dp d)(l:¬D bh)(n:8<=m)(hm:m<=4096)
  (o:∀F p H',au F H' p dp (tV d m)->Ext H H'->(∀b,F b->D b\/H.size<=b)->K (aE p,0) H'):HA.sp (aE dp) (m:Int) H K:=by
 refine HA.of ?_;unfold HA.vc;refine aC rfl (aC (by simp;omega) (aC (by simp;omega) ?_));refine rR (d:=.int .i64) λH1 s1 m1 r=>?_;refine rR (d:=.int .i64) λg s2 m2 e2=>?_;refine av λh x s i=>?_;have hl:=hd.lt;have t:=j.lt;have c:Ext H h:=(r.trans e2).trans i;have f:bu ⟨H.size,#[],0,H1.size,#[],0,[]⟩ h g.size dp (tV d m):=by
  refine⟨s,⟨?_,?_,by simp only;omega,rfl,?_,?_,by simp,by simp⟩,rfl,E5 n hm⟩
  ·exact⟨(e2.trans i).at m1.obj id,stamped_empty 0,by simp⟩
  ·exact m2.keep (i.same _ m2.lt id)
  ·intro k v;constructor
   ·rintro⟨e,he,_⟩;simp at he
   ·intro q;simp[pw] at q
  ·intro k v;constructor
   ·rintro⟨e,he,_⟩;simp at he
   ·intro q;simp[wh] at q
 have a:∀b,PG.all ⟨H.size,#[],0,H1.size,#[],0,[]⟩ g.size b->H.size<=b:=by
  rintro b (e|e|e|⟨z,u,_⟩)
  ·omega
  ·simp only at e;omega
  ·simp only at e;omega
  ·simp at u
 refine o _ g.size h ⟨_,D,⟨f,hd.keep λb _ hl=>c.same b hl id,λb w f=>?_,l,λf=>?_⟩,λb=>TJ⟩ c ?_
 ·have:=a b f;have:=hl b w;omega
 ·have:=a _ f;omega
 ·rintro b (q|q)
  ·exact .inl q
  ·exact .inr (a b q)
theorem Gw {x:PG}{H:aa}{p dp:Nat}{s:Pl}{n:ByteArray}{k:Int}{K:(Option Addr×Bool)->Prop}(h:bu x H p dp s)(j:n.size<=9223372036854775807)(l:-9223372036854775808<=k)(h1:k<=9223372036854775807)
  (m:∀i f g,s.find n k=some i->x.zs[i]?=some (f,g)->f.name=n->(f.page:Int)=k->K (aE g.p,true)) (o:s.find n k=none->K (none,false)):
  DK (aR [aw,ay]) Oj (PM xX (.map (some x.mf)) (.agg #[(.string n),(.int .i64 k)]) true) H K:=by
 obtain⟨y,inf,hu,hi,q⟩:=mU;refine xK (k:=jn n k) hu wk hi q h.frames.fmap (pY j l h1) ?_ ?_
 ·intro v r;obtain⟨z,b,e⟩:=OC.1 ((h.frames.entF _ _).1 r);simp only[Pp] at e;obtain⟨a,e2⟩:=lM e.1;obtain⟨i,hi⟩:=Oz.1 b;have c:s.fs[i]?=some z.1:=by rw[h.fs];simp[PG.fs,hi]
  refine⟨(aE z.2.p,true),by rw[<-e.2];rfl,m i z.1 z.2 ?_ hi a e2⟩;rw[<-a,<-e2];exact Pl.find_eq h.wf c
 ·intro d;refine⟨(none,false),rfl,o ?_⟩;cases t:s.find n k with
  |none=>rfl
  |some i=>
    obtain⟨f,u,a,e2⟩:=Pl.mT t;obtain⟨g,w,_⟩:=h.at u;refine absurd ((h.frames.entF (jn n k) (dg g.p)).2 (OC.2 ⟨(f,g),Oo w,?_⟩)) (d _);simp only[a,e2]
theorem ER {x:PG}{H:aa}{p dp:Nat}{s:Pl}{k:Int}{K:(Option Addr×Bool)->Prop}(h:bu x H p dp s)
  (j:∀i f g,s.held k=some i->x.zs[i]?=some (f,g)->k∈f.pins->K (aE g.p,true)) (l:s.held k=none->K (none,false)):
  DK (aR [aw,ay]) Oj (PM LW (.map (some x.mh)) (.int .i64 k) true) H K:=by
 obtain⟨u,inf,hu,hd,hi,m⟩:=re;refine sW hu hd hi m h.frames.hmap (k:=.int .i64 k) (show Ol=Ol from rfl) ?_ ?_
 ·intro v n;obtain⟨z,a,hk⟩:=PX.1 ((h.frames.entH _ _).1 n);obtain⟨q,b,e⟩:=OC.1 hk;simp only[Pp,Tq,true_and] at e;obtain⟨i,hi⟩:=Oz.1 a;have c:s.fs[i]?=some z.1:=by rw[h.fs];simp[PG.fs,hi]
  rw[e.1] at b;exact⟨(aE z.2.p,true),by rw[<-e.2];rfl,j i z.1 z.2 (Pl.Ig h.wf c b) hi b⟩
 ·intro d;refine⟨(none,false),rfl,l ?_⟩;cases o:s.held k with
  |none=>rfl
  |some i=>
    obtain⟨f,r,hm⟩:=Pl.iy o;obtain⟨g,t,_⟩:=h.at r;exact absurd ((h.frames.entH (.int .i64 k) (dg g.p)).2 (PX.2 ⟨(f,g),Oo t,OC.2 ⟨k,hm,rfl⟩⟩)) (d _)
theorem Dk.j7 {s:Dk}(h:s.WF)(n:ByteArray):(s.len n).1<=1048576:=by
 have h1:=h.used;have c:=h.most;have d:=h.quota;unfold Dk.len;split
 ·rename_i i e hi;have:(s.file i).aq.length<=s.used:=by
   unfold Dk.open at hi;split at hi
   ·cases hi
   ·split at hi
    ·rename_i j b;cases hi;obtain⟨f,a,_⟩:=Dk.cp b;rw[Dk.dw a];exact Dk.eR a
    ·cases hi
  show (s.file i).aq.length<=_;omega
 ·exact OL _
theorem Dk.yl (s:Dk)(n:ByteArray)(k:Int):(s.read n k).1.length<=512/\((s.read n k).2=0->(s.read n k).1.length=512):=by
 unfold Dk.read Dk.open;split
 ·rename_i i e hi;split
  ·exact⟨by simp,λq=>by cases q⟩
  ·split
   ·rename_i pg _;exact⟨by rw[pg.2];exact Ot _,λ_=>pg.2⟩
   ·exact⟨by simp,λq=>by cases q⟩
 ·rename_i e hi;refine⟨by simp,λq=>?_⟩;split at hi
  ·simp at hi;subst hi;cases q
  ·split at hi
   ·cases hi
   ·simp at hi;subst hi;cases q
theorem Pl.u7 (s:Pl):∀f∈s.room.1.fs,∃f'∈s.fs,f'.key=f.key:=by
 have b:∀i,∀f∈(s.put i).1.fs,∃f'∈s.fs,f'.key=f.key:=by
  intro i f a;unfold Pl.put at a;split at a
  ·have a:f∈s.fs.modify i Fr.clean:=a;obtain⟨j,c⟩:=Oz.1 a;rw[List.getElem?_modify] at c;cases d:s.fs[j]? with
   |none=>rw[d] at c;cases c
   |some y=>
     rw[d] at c;have e:(if i=j then y.clean else y)=f:=OS c;refine⟨y,Oo d,?_⟩;rw[<-e];split<;>rfl
  ·exact⟨f,a,rfl⟩
 intro f a;unfold Pl.room at a;split at a
 ·exact⟨f,a,rfl⟩
 ·split at a
  ·exact⟨f,a,rfl⟩
  ·rename_i i _;split at a
   ·split at a
    ·exact b i f (PO a)
    ·exact b i f a
   ·exact⟨f,PO a,rfl⟩
theorem Pl.vI {s:Pl}{n:ByteArray}{k:Int}(h:∀f∈s.fs,f.name=n->(f.page:Int)≠k):s.find n k=none:=by
 unfold Pl.find;rw[Qy];intro f a;cases b:f.name.toList==n.toList with
 |false=>rfl
 |true=>
   have:=h f a (gM (by simpa using b));show (true&&decide ((f.page:Int)=k))=false;rw[Um];exact decide_eq_false this
theorem Pl.np {s:Pl}{n:ByteArray}{k:Int}(h:s.find n k=none):s.room.1.find n k=none:=by
 refine Pl.vI λf b c e2=>?_;obtain⟨f',a,hk⟩:=s.u7 f b;have h1:f'.name=f.name:=congrArg US hk;have d:f'.page=f.page:=congrArg Vh hk;exact Pl.pI h f' a (h1.trans c) (by rw[d];exact e2)
theorem Pl.Dp {s:Pl}(hd:s.d.WF){n:ByteArray}{k:Int}{f:Fr}(h:(s.load n k).2.1=some f):
  (s.load n k).1=s.room.1/\(s.load n k).2.2=0/\s.room.2=0/\f.name=n/\(f.page:Int)=k/\f.b.length<=504/\f.pins=[]/\f.left=0/\f.page<1048577:=by
 have hl:=Dk.j7 hd n;unfold Pl.load at h ⊢;by_cases h1:(s.d.len n).2≠0
 ·rw[if_pos h1] at h;cases h
 rw[if_neg h1] at h ⊢;by_cases b:k<0\/k>=((s.d.len n).1:Int)
 ·rw[if_pos b] at h;cases h
 rw[if_neg b] at h ⊢;by_cases c:s.room.2≠0
 ·rw[if_pos c] at h;cases h
 rw[if_neg c] at h ⊢;by_cases e:(s.room.1.d.read n k).2≠0
 ·rw[if_pos e] at h;cases h
 rw[if_neg e] at h ⊢;cases a:iG (s.room.1.d.read n k).1 with
 |none=>rw[a] at h;cases h
 |some g=>
   rw[a] at h;simp only[Pj] at h;subst h;have hlen:g.2.length<=504:=by
    unfold iG at a;split at a
    ·rename_i q;cases a;simp;omega
    ·cases a
   exact⟨rfl,rfl,by omega,rfl,by simp only;omega,hlen,rfl,rfl,by simp only;omega⟩
theorem Pl.CD {s:Pl}{n:ByteArray}{k:Int}(h:(s.load n k).2.1=none):(s.load n k).2.2≠0:=by
 unfold Pl.load at h ⊢;split
 ·rename_i h1;exact h1
 ·rename_i h1;rw[if_neg h1] at h;split
  ·show (12:Int)≠0;decide
  ·rename_i c;rw[if_neg c] at h;split
   ·rename_i a;exact a
   ·rename_i a;rw[if_neg a] at h;split
    ·rename_i b;exact b
    ·rename_i b;rw[if_neg b] at h;split
     ·show (20:Int)≠0;decide
     ·rename_i d hk;rw[hk] at h;cases h
theorem oU {x:PG}{D:Nat->Prop}{H:aa}{p dp:Nat}{s:Pl}{n:ByteArray}{k:Int}{K:(Option Addr×Int)->aa->Prop}(hg:Gl H)(h:bH x D H p dp s)(y:s.d.aB<68719476736)
  (j:(s.load n k).2.1=none->∀q x' N H',bH x' N H' p dp (s.load n k).1->Step (λb=>D b\/x.all p b) (λb=>N b\/x'.all p b) H H'->K (q,(s.load n k).2.2) H')
  (z:∀f,(s.load n k).2.1=some f->∀g x' N H',bH x' N H' p dp s.room.1->Step (λb=>D b\/x.all p b) (λb=>N b\/x'.all p b) H H'->EU x' N H' p g f->(∀b,g.fp b->H.size<=b)->K (aE g.p,0) H'):
  KB.sp (aE p) n k H K:=by
 refine KB.of ?_;unfold KB.vc;simp only[al];refine av λH1 s1 Z O=>?_;have h1:=h.ext O;have R:Gl H1:=hg.mod O id;refine h1.pool.head.ld (c:=aw) (i:=0) (x:=aE dp) rfl ?_;refine Z.ld (c:=aH) (i:=0) (x:=n) rfl ?_;refine tN h1.cw ?_;unfold Pl.load at j z;refine ag (λhz=>?_) (λhz=>?_)
 ·have A:(s.d.len n).2≠0:=by simpa using hz
  rw[if_pos A] at j;exact j rfl _ x D H1 h1 (.ext O)
 have A:¬(s.d.len n).2≠0:=by simpa using hz
 rw[if_neg A] at j z;refine Z.ld (c:=ab .i64) (i:=1) (x:=k) rfl ?_;refine ag (λhk=>?_) (λhk=>?_)
 ·have B:k<0:=by simpa using hk
  rw[if_pos (.inl B)] at j;exact j rfl _ x D H1 h1 (.ext O)
 refine Z.ld (c:=ab .i64) (i:=1) (x:=k) rfl ?_;refine ag (λC=>?_) (λC=>?_)
 ·have B:k>=((s.d.len n).1:Int):=by simpa using C
  rw[if_pos (.inr B)] at j;exact j rfl _ x D H1 h1 (.ext O)
 have a6:0<=k:=by simp at hk;omega
 have af:¬(k<0\/k>=((s.d.len n).1:Int)):=by simp at hk C;omega
 rw[if_neg af] at j z;refine BB R h1 y λP Q S E S2=>?_;have v:=(Step.ext (F:=λb=>D b\/x.all p b) O).trans S2;have T:Gl S:=h1.gl R S2.mod;have G:¬(D H.size\/x.all p H.size):=λq=>by have:=h.lt _ q;omega
 have r2:aj S H.size wX #[.string n,.int .i64 k]:=S2.mod.at Z G;refine ag (λI=>?_) (λI=>?_)
 ·have o:s.room.2≠0:=by simpa using I
  rw[if_pos o] at j;exact j rfl _ P Q S E v
 have o:¬s.room.2≠0:=by simpa using I
 rw[if_neg o] at j z;refine E.pool.head.ld (c:=aw) (i:=0) (x:=aE dp) rfl ?_;refine r2.ld (c:=aH) (i:=0) (x:=n) rfl ?_;refine r2.ld (c:=ab .i64) (i:=1) (x:=k) rfl ?_;refine Bl E.cw λr t o3 U f3=>?_;have an:=s.room.1.d.yl n k;refine ag (λJ=>?_) (λJ=>?_)
 ·have u:(s.room.1.d.read n k).2≠0:=by simpa using J
  rw[if_pos u] at j;exact j rfl _ P Q t (E.ext U) (v.behind U)
 have u:¬(s.room.1.d.read n k).2≠0:=by simpa using J
 rw[if_neg u] at j z;have r3:=r2.ext U;refine aj.c9 (x:=(n,k)) r3 rfl rfl ?_;refine av λL s4 r4 e4=>?_;have M:Ext S L:=U.trans e4;have a1:Gl L:=T.mod M id;have a7:=v.mod.size;have z24:=M.size;have z3:=U.size;have o4:az EB fD L r (s.room.1.d.read n k).1:=o3.keep λb _ hl=>e4.same b hl id;have V:(s.room.1.d.read n k).1.length=512:=an.2 (by omega);have fin:∀(m:aa) (kd:Int) (sl:Sl) (er:Int),Ext L m->(∀l,aj l t.size KM #[.string n,.int .i64 k,.int .u8 kd,sl.v,.bool false,.int .i64 0,.int .i64 0]->Mod (λb=>b=t.size) m l->l.size=m.size->K (some ⟨t.size,0,none⟩,er) l)->
   st m (O4 ⟨t.size,0,none⟩ 2) (.int .u8 kd) λH7=>st H7 (O4 ⟨t.size,0,none⟩ 3) sl.v λH8=>K (some ⟨t.size,0,none⟩,er) H8:=by
  intro m kd sl er a hK;refine aj.st (r4.ext a) (i:=2) (by decide:2<7) (by rfl) λH7 r7 m7 z7=>?_;refine aj.st r7 (i:=3) (by decide:3<7) (by rfl) λH8 r8 m8 z8=>?_;exact hK H8 r8 (m7.trans m8) (by omega)
 have stays:∀(m l:aa),Ext L m->Mod (λb=>b=t.size) m l->bH P Q l p dp s.room.1/\Step (λb=>D b\/x.all p b) (λb=>Q b\/P.all p b) H l:=by
  intro m l a W;have X:Ext S l:=⟨by have:=a.size;have:=W.size;omega,λb w _=>(W.same b (by have:=a.size;omega) (by omega)).trans ((M.trans a).same b w id)⟩;exact⟨E.ext X,v.behind X⟩
 refine IZ a1 (bW o4) (by omega) o4.cap (λq=>absurd V q) (λ_ ho=>?_) (λkd b s' m _ ho a8 o5 a f5=>?_)
 ·rw[ho] at j;refine fin L 0 (Sl.mk none 0 0) 20 (.refl _ _) λl r6 m6 z6=>?_;obtain⟨q1,q2⟩:=stays L l (.refl _ _) m6;exact j rfl _ P Q l q1 q2
 ·rw[ho] at z;refine fin m _ s' 0 a λl r6 m6 z6=>?_;obtain⟨q1,q2⟩:=stays m l a m6;have Y:∀b,tu.fp ⟨t.size,s'⟩ b->t.size<=b:=by
   rintro b (e|w)
   ·exact Nat.le_of_eq e.symm
   ·have:=f5 b w;omega
  have z45:=a.size;refine z _ rfl ⟨t.size,s'⟩ P Q l q1 q2 ⟨⟨?_,o5.keep λb w hl=>m6.same b hl ?_⟩,λb w=>?_⟩ (λb w=>by have:=Y b w;omega)
  ·have ek:((k.toNat:Nat):Int)=k:=by omega
   unfold Mq;simp only[ek];exact r6
  ·have:=f5 b w;omega
  ·have h3:=Y b w;refine⟨λq=>?_,λq=>?_,λq=>?_⟩
   ·have:=E.lt b (.inl q);omega
   ·have:=E.lt b (.inr q);omega
   ·have:=T.lt;omega
theorem au.ext {F:Nat->Prop}{H H':aa}{p dp:Nat}{s:Pl}(h:au F H p dp s)(e:Ext H H'):au F H' p dp s:=h.keep λb _ hl=>e.same b hl id
theorem Step.ahead {F G:Nat->Prop}{A B C:aa}(e:Ext A B)(h:Step F G B C):Step F G A C:=(Step.ext e).trans h
theorem HD:(zc Oj wX).size=2:=by kernel_rfl
theorem Ep {F:Nat->Prop}{H:aa}{p dp:Nat}{s:Pl}{n:ByteArray}{k:Int}{K:(Int×Int)->aa->Prop}(hg:Gl H)(h:au F H p dp s)(Y:n.size<=9223372036854775807)(h0:-9223372036854775808<=k)(h1:k<=9223372036854775807)
  (o:s.d.aB<68719476736) (r:s.next<9223372036854775807) (a:∀F' H',au F' H' p dp (s.bt n k).1->Step F F' H H'->K ((s.bt n k).2.1,(s.bt n k).2.2) H'):G7.sp (aE p) n k H K:=by
 have R:=h;obtain⟨x,D,hd,S⟩:=h;refine G7.of ?_;unfold G7.vc;simp only[al];refine iP hd.pool ?_;unfold Pl.bt at a;refine ag (λhw=>?_) (λhw=>?_)
 ·have u:s.wrong≠0:=by simpa using hw
  rw[if_pos u] at a;exact a F H R (.refl _ _)
 have u:¬s.wrong≠0:=by simpa using hw
 rw[if_neg u] at a;refine av λH1 s1 r1 Z=>?_;have T:=HD;refine aj.iI r1 (cs:=#[.string n,.int .i64 k]) (by kernel_rfl) T (by intro v hv;simp at hv;rcases hv with rfl|rfl<;>rfl) λC r2 m2 z2=>?_;have e2:Ext H C:=⟨by have:=Z.size;have:=m2.size;omega,λb N _=>(m2.same b (by omega) (by omega)).trans (Z.same b N id)⟩;have d:=hd.ext e2;have l:Gl C:=hg.mod e2 id;refine d.pool.head.ld (c:=bU) (i:=2) (x:=some x.mf) rfl ?_;refine aj.c9 (x:=(n,k)) r2 rfl rfl ?_;refine Gw d.pool Y h0 h1 (λi f g hi hz _ _=>?_) (λhi=>?_)
 ·rw[hi] at a;have E:s.fs[i]?=some f:=by rw[hd.pool.fs];simp[PG.fs,hz]
  have af:f.pins.length<=s.pins:=lk (λf:Fr=>f.pins.length) s.fs i f E;have ht:=hd.pool.wf.tick;refine aP rfl ?_;refine Ft l d hz r (hd.pool.wf.ia E r) (by omega) λx' G w j=>?_;obtain⟨F',I,J⟩:=w.out (x:=x) (D:=D) (F:=F) (H:=C) S j;exact a F' G I (J.ahead e2)
 ·rw[hi] at a;refine aC rfl ?_;refine aj.c9 (x:=(n,k)) r2 rfl rfl ?_;refine oU l d o (λm q x' D' G w j=>?_) (λf O g x' D' G w j hN L=>?_)
  ·have y:=Pl.CD m;obtain⟨z,A⟩:∃z,s.load n k=z:=⟨_,rfl⟩;obtain⟨t,fo,e⟩:=z;rw[A] at m y w a ⊢;simp only at m y w a ⊢;subst m;simp only at a;refine aP (by simpa using y) ?_;have B:Gl G:=d.gl l j.mod;refine vF B w λP U Q=>?_;obtain⟨F',I,J⟩:=U.out (x:=x) (D:=D) (F:=F) (H:=C) S (j.trans Q);exact a F' P I (J.ahead e2)
  ·obtain⟨V,a2,a3,a4,a5,a6,a7,a8,a9⟩:=Pl.Dp hd.cw.wf O;obtain⟨z,A⟩:∃z,s.load n k=z:=⟨_,rfl⟩;obtain⟨t,fo,e⟩:=z;rw[A] at O V a2 a;simp only at O V a2 a;subst O;simp only at a;rw[V] at a;refine aC rfl ?_;have B:Gl G:=d.gl l j.mod;have M:=s.ct;have W:=hd.pool.wf.wT;refine BM B w hN (by rw[M.1];exact W.2 a3) (by rw[M.2.1];exact r) (by rw[a4,a5];exact Pl.np hi) a6 a9 (by rw[a4];exact Y) a7 a8 λx4 P U Q=>?_;have X:Step (λb=>D b\/x.all p b) (λb=>D' b\/x4.all p b) C P:=by
    refine⟨j.mod.trans' Q.mod λb N q=>?_,λb N=>?_⟩
    ·rcases q with q|q
     ·exact(j.own b q).resolve_right (by omega)
     ·have:=L b q;omega
    ·rcases Q.own b N with q|q
     ·rcases q with q|q
      ·exact j.own b q
      ·exact .inr (L b q)
     ·exact .inr (OE j.mod.size q)
   obtain⟨F',I,J⟩:=U.out (x:=x) (D:=D) (F:=F) (H:=C) S X;exact a F' P I (J.ahead e2)
theorem Ew {F:Nat->Prop}{H:aa}{p dp:Nat}{s:Pl}{n:ByteArray}{K:(Int×Int×Int)->aa->Prop}(U:Gl H)(h:au F H p dp s)(hn:n.size<=9223372036854775807)
  (W:s.d.aB<68719476735) (X:s.next<9223372036854775807) (J:s.Fit)
  (a:∀F' H',au F' H' p dp (s.fresh n).1->Step F F' H H'->K ((s.fresh n).2.1,(s.fresh n).2.2.1,(s.fresh n).2.2.2) H'):Ji.sp (aE p) n H K:=by
 have Y:=h;obtain⟨x,D,hd,hF⟩:=h;refine Ji.of ?_;unfold Ji.vc;simp only[al];refine iP hd.pool ?_;unfold Pl.fresh at a;refine ag (λhw=>?_) (λhw=>?_)
 ·have z:s.wrong≠0:=by simpa using hw
  rw[if_pos z] at a;exact a F H Y (.refl _ _)
 have z:¬s.wrong≠0:=by simpa using hw
 rw[if_neg z] at a;refine hd.pool.head.ld (c:=aw) (i:=0) (x:=aE dp) rfl ?_;refine tN hd.cw ?_;have fail:∀(e:Int) (x':PG) (Z:Nat->Prop) (H1:aa) (s':Pl),bH x' Z H1 p dp s'->Step (λb=>D b\/x.all p b) (λb=>Z b\/x'.all p b) H H1->(∀F' H',au F' H' p dp (s'.met e)->Step F F' H H'->K (0,0,e) H')->
   vC.sp (aE p) e H1 λr o=>K (0,0,r) o:=by
  intro e x' Z H1 s' h1 v hk;refine vF (hd.gl U v.mod) h1 λo A L=>?_;obtain⟨F',w,M⟩:=A.out (x:=x) (D:=D) (F:=F) (H:=H) hF (v.trans L);exact hk F' o w M
 refine ag (λV=>?_) (λV=>?_)
 ·have l:(s.d.len n).2=0:=by simpa using V
  rw[if_neg (by simpa using l)] at a;refine BB U hd (by omega) λB D1 H1 h1 v=>?_;have N:Gl H1:=hd.gl U v.mod;refine av λo s2 r2 e2=>?_;have A:=h1.ext e2;have L:=v.behind e2;have C:Gl o:=N.mod e2 id;refine ag (λhr=>?_) (λhr=>?_)
  ·have m:s.room.2=0:=by simpa using hr
   rw[if_neg (by simpa using m)] at a;have hA:dz o ⟨H1.size,Sl.mk none 0 0⟩ ⟨n,(s.d.len n).1,0,[],false,[],0⟩:=⟨r2,az.nil _ _ _⟩;have t:∀b,tu.fp ⟨H1.size,Sl.mk none 0 0⟩ b->b=H1.size:=by
    rintro b (e|⟨ad,q,_⟩)
    ·exact e
    ·cases q
   have j:∀b,D1 b\/B.all p b->b<H1.size:=h1.lt;have af:s.room.1.d.aB<68719476736:=by
    have:s.room.1.d.aB<=s.d.aB+1:=s.jQ;omega
   refine uA (f:=⟨n,(s.d.len n).1,0,[],false,[],0⟩) C A.cw A.pool.head rfl hA (by simp) (λb k q=>by have:=t b k;have:=j b (.inl q);omega) af (λO E H3 a3 P=>?_) (λhe E H3 G a3 P an m4 z4=>?_)
   ·have Q:(s.room.1.d.write n ((s.d.len n).1:Int) (cM 0 [])).2≠0:=O;rw[if_pos Q] at a;obtain⟨w,M⟩:=A.jT C a3 P;refine aP (by simpa using O) ?_;exact fail _ B E H3 _ w (L.trans M) a
   ·have a1:¬(s.room.1.d.write n ((s.d.len n).1:Int) (cM 0 [])).2≠0:=λq=>q he;rw[if_neg a1] at a;obtain⟨w,M⟩:=A.jT C a3 P;refine aC rfl ?_;have bb:∀b,b<H1.size->G[b]?=H3[b]?:=λb k=>m4.same b (by have:=e2.size;have:=P.mod.size;omega) (by show b≠H1.size;omega);have u:∀b,E b\/B.all p b->b≠H1.size:=by
     intro b q e;subst e;rcases q with q|q
     ·rcases P.own _ q with r|r
      ·have:=j _ (.inl r);omega
      ·have:=e2.size;omega
     ·have:=j _ (.inr q);omega
    have q4:bH B E G p dp (s.room.1.bE (s.room.1.d.write n ((s.d.len n).1:Int) (cM 0 [])).1):=
     ⟨w.pool.keep λb k hl=>m4.same b hl (u b (.inr k)),w.cw.keep λb k hl=>m4.same b hl (u b (.inl k)),w.apart,w.eO⟩
    have R:Step (λb=>D b\/x.all p b) (λb=>E b\/B.all p b) H G:=by
     have S:=L.trans M;refine⟨S.mod.trans' m4 λb k q=>?_,S.own⟩;have:b=H1.size:=q;have:=v.mod.size;omega
    have a6:Gl G:=hd.gl U R.mod;have y:EU B E G p ⟨H1.size,Sl.mk none 0 0⟩ ⟨n,(s.d.len n).1,0,[],false,[],0⟩:=by
     refine⟨an,λb k=>?_⟩;have eb:=t b k;refine⟨λq=>u b (.inl q) eb,λq=>u b (.inr q) eb,λq=>?_⟩;have:=N.lt;omega
    have T:=s.ct;have a7:=hd.pool.wf.wT;have hle:=Dk.j7 hd.cw.wf n;obtain⟨f,I⟩:∃f:Fr,f=⟨n,(s.d.len n).1,0,[],false,[],0⟩:=⟨_,rfl⟩;rw[<-I] at y a;have c1:f.name=n:=by rw[I]
    have c2:f.page=(s.d.len n).1:=by rw[I]
    have c3:f.b=[]:=by rw[I]
    have c4:f.pins=[]:=by rw[I]
    have c5:f.left=0:=by rw[I]
    have d1:(s.room.1.bE (s.room.1.d.write n ((s.d.len n).1:Int) (cM 0 [])).1).fs.length<(s.room.1.bE (s.room.1.d.write n ((s.d.len n).1:Int) (cM 0 [])).1).most:=by
     show _<s.room.1.most;rw[T.1];exact a7.2 m
    have d2:(s.room.1.bE (s.room.1.d.write n ((s.d.len n).1:Int) (cM 0 [])).1).next<9223372036854775807:=by
     show s.room.1.next<_;rw[T.2.1];exact X
    have d3:(s.room.1.bE (s.room.1.d.write n ((s.d.len n).1:Int) (cM 0 [])).1).find f.name f.page=none:=by
     rw[c1,c2];exact Pl.np (J.new l)
    have d4:f.b.length<=504:=by rw[c3];exact OL _
    have d5:f.page<1048577:=by rw[c2];omega
    have d6:f.name.size<=9223372036854775807:=by rw[c1];exact hn
    show Cw.sp (aE p) (aE H1.size) G (λr H7=>K (r,((s.d.len n).1:Int),0) H7);refine BM (g:=⟨H1.size,Sl.mk none 0 0⟩) (K:=λr H7=>K (r,((s.d.len n).1:Int),0) H7) a6 q4 y d1 d2 d3 d4 d5 d6 c4 c5 λx5 H5 h5 S5=>?_;have a8:Step (λb=>D b\/x.all p b) (λb=>E b\/x5.all p b) H H5:=by
     refine⟨R.mod.trans' S5.mod λb k q=>?_,λb k=>?_⟩
     ·rcases q with q|q
      ·exact(R.own b q).resolve_right (by omega)
      ·have:=t b q;have:=v.mod.size;omega
     ·rcases S5.own b k with q|q
      ·rcases q with q|q
       ·exact R.own b q
       ·have:=t b q;have:=v.mod.size;exact .inr (by omega)
      ·exact .inr (OE R.mod.size q)
    obtain⟨F',t1,t2⟩:=h5.out (x:=x) (D:=D) (F:=F) (H:=H) hF a8;exact a F' H5 t1 t2
  ·have m:s.room.2≠0:=by simpa using hr
   rw[if_pos m] at a;refine aP (by simpa using m) ?_;exact fail _ B D1 o _ A L a
 ·have l:(s.d.len n).2≠0:=by simpa using V
  rw[if_pos l] at a;refine av λo s2 r2 e2=>?_;refine aC V ?_;have ht:((s.d.len n).2!=0)=true:=by simpa using l
  refine aP ht ?_;exact fail _ x D o s (hd.ext e2) (Step.ext e2) a
theorem wU {x:PG}{H:aa}{p dp:Nat}{s:Pl}{k:Int}{K:(Option Addr×Int)->aa->Prop}(h:bu x H p dp s)(b:s.wrong≠0->K (none,s.wrong) H)
  (d:s.wrong=0->s.held k=none->K (none,32) H) (e:∀i f g,s.wrong=0->s.held k=some i->x.zs[i]?=some (f,g)->k∈f.pins->K (aE g.p,0) H):G1.sp (aE p) k H K:=by
 refine G1.of ?_;unfold G1.vc;simp only[al];refine iP h ?_;refine ag (λhw=>b (by simpa using hw)) (λhw=>?_);have a:s.wrong=0:=by simpa using hw
 refine h.head.ld (c:=bU) (i:=3) (x:=some x.mh) rfl ?_;exact ER h (λi f g hi j hk=>e i f g a hi j hk) (λhi=>d a hi)
theorem KV {F:Nat->Prop}{H:aa}{p dp:Nat}{s:Pl}{k:Int}{K:(Int×Sl×Int)->aa->Prop}(h:au F H p dp s)
  (a:∀sl H',az EB fD H' sl (s.get k).2.1->Ext H H'->(∀b,ah sl b->H.size<=b)->K (((s.get k).1.toNat:Int),sl,(s.get k).2.2) H'):Ke.sp (aE p) k H K:=by
 obtain⟨x,D,hd,t⟩:=h;refine Ke.of ?_;unfold Ke.vc;unfold Pl.get at a;have nil:∀b,ah (Sl.mk none 0 0) b->H.size<=b:=by rintro b ⟨ad,q,_⟩;cases q
 refine wU hd.pool (λhw=>?_) (λhw j=>?_) (λi f g hw j r hk=>?_)
 ·rw[if_pos hw] at a;exact aP (by simpa using hw) (a _ H (az.nil _ _ _) (.refl _ _) nil)
 ·rw[if_neg (λq=>q hw),j] at a;exact aP rfl (a _ H (az.nil _ _ _) (.refl _ _) nil)
 ·have d:s.fs[i]?=some f:=by rw[hd.pool.fs];simp[PG.fs,r]
  rw[if_neg (λq=>q hw),j] at a;simp only[Pl.fJ d] at a;have l:=hd.pool.frames.each _ (Oo r);refine aC rfl ⟨λH'=>Ext H H',.refl _ _,?_⟩;simp only[al];refine⟨(f.kind.toNat:Int),λH' e=>?_,?_⟩
  ·rw[bk];exact aj.cell (aj.ext l.row e) rfl
  ·refine l.row.ld (c:=ak) (i:=3) (x:=g.b) rfl ?_;have n:=hd.pool.wf.room f (Oo d);refine fT (bW l.b) (by show f.b.length<=_;omega) λsl H' o m fr=>⟨m,a sl H' o m fr⟩
theorem bH.Mg {x:PG}{D:Nat->Prop}{H H':aa}{p dp:Nat}{s:Pl}{i:Nat}{f:Fr}{g g':tu}{u:Fr->Fr}(m:Gl H)(h:bH x D H p dp s)(j:x.zs[i]?=some (f,g))(hk:(u f).key=f.key)(a:(u f).pins=f.pins)(hl:(u f).left=f.left)(k:(u f).b.length<=504)(n:g'.p=g.p)
  (o:dz H' g' (u f)) (hm:Mod (λb=>b=g.p) H H') (q:∀b,g'.fp b->g.fp b\/H.size<=b):
  bH {x with zs:=x.zs.set i (u f,g')} D H' p dp (s.dq i u)/\Step (λb=>D b\/x.all p b) (λb=>D b\/PG.all {x with zs:=x.zs.set i (u f,g')} p b) H H':=by
 have c:=Oo j;have d:s.fs[i]?=some f:=by rw[h.pool.fs];simp[PG.fs,j]
 have h1:(u f).name=f.name:=congrArg US hk;have r:(u f).page=f.page:=congrArg Vh hk;obtain⟨t1,t2⟩:=h.pool.frames.dq (H':=H') (z':=(u f,g')) j h1 r a n o (λb _ t hl=>hm.same b hl λe=>t (e▸.inl rfl)) q;have l:bu {x with zs:=x.zs.set i (u f,g')} H' p dp (s.dq i u):=by
  refine⟨hm.at h.pool.head λe=>bu.off h.pool.head h.pool.frames (e▸.inr (.inr ⟨_,c,.inl rfl⟩)),t1,?_,h.pool.wf.dq d hk a hl k⟩;show s.fs.modify i u=(x.zs.set i (u f,g')).map (·.1);rw[aZ d,h.pool.fs];simp[PG.fs,PK]
 exact h.iY m l rfl (hm.mono λb _ e=>.inr (.inr (.inr ⟨_,c,.inl e⟩))) t2
theorem Ef {F:Nat->Prop}{H:aa}{p dp:Nat}{s:Pl}{k:Int}{kd:UInt8}{b:Sl}{l:List UInt8}{K:Int->aa->Prop}(v:Gl H)(h:au F H p dp s)(j:bP H b l)
  (a:∀F' H',au F' H' p dp (s.set k kd l).1->Step F F' H H'->K (s.set k kd l).2 H'):Ak.sp (aE p) k (kd.toNat:Int) b H K:=by
 have c:=h;obtain⟨x,D,hd,z⟩:=h;refine Ak.of ?_;unfold Ak.vc;unfold Pl.set at a;have w:=j.n;refine wU hd.pool (λhw=>?_) (λhw o=>?_) (λi f g hw o y hk=>?_)
 ·rw[if_pos hw] at a;exact aP (by simpa using hw) (a F H c (.refl _ _))
 ·rw[if_neg (λq=>q hw),o] at a;exact aP rfl (a F H c (.refl _ _))
 ·rw[if_neg (λq=>q hw),o] at a;simp only at a;refine aC rfl (ag (λhl=>?_) (λhl=>?_))
  ·have d:l.length>504:=by rw[w] at hl;simp at hl;omega
   rw[if_pos d] at a;exact a F H c (.refl _ _)
  ·have d:¬l.length>504:=by rw[w] at hl;simp at hl;omega
   rw[if_neg d] at a;refine fT j (by omega) λsl H1 A m1 f1=>?_;have r:=hd.ext m1;have B:Gl H1:=v.mod m1 id;have m:=Oo y;have C:=r.pool.frames.each _ m;simp only[al];refine C.row.st (i:=2) (by decide:2<7) (by rfl) λO r2 m2 z2=>?_;refine r2.st (i:=3) (by decide:3<7) (by rfl) λP E m3 z3=>?_;refine E.st (i:=4) (by decide:4<7) (by rfl) λn G m4 z4=>?_;have m14:Mod (λb=>b=g.p) H1 n:=(m2.trans m3).trans m4;have t:Mod (λb=>b=g.p) H n:=(Ext.mod m1).trans m14;have I:g.p<H.size:=aA (hd.pool.frames.each _ m).row;have J:dz n ⟨g.p,sl⟩ (Fr.set kd l f):=by
    refine⟨G,A.keep λb j hl=>m14.same b hl λe=>?_⟩;have L:=f1 b j;have:b=g.p:=e;omega
   obtain⟨M,N⟩:=hd.Mg (g':=⟨g.p,sl⟩) (u:=Fr.set kd l) v y rfl rfl rfl (by show l.length<=504;omega) rfl J t (by
    rintro b (e|j)
    ·exact .inl (.inl e)
    ·exact .inr (f1 b j))
   obtain⟨F',t1,t2⟩:=M.out (x:=x) (D:=D) (F:=F) (H:=H) z N;exact a F' n t1 t2
theorem Da {h t:Int}{zs:List FZ}{i:Nat}{f:Fr}{g:tu}(l:zs[i]?=some (f,g))(hd:((zs.map (·.1)).flatMap (·.pins)).Nodup)(s:h∈f.pins):∀k v,(k,v)∈wh (zs.set i (Fr.aY h t f,g))↔(k,v)∈wh zs/\k≠.int .i64 h:=by
 intro k v;have m:=(Om.1 l).1;have other:∀j (z:FZ),zs[j]?=some z->h∈z.1.pins->j=i:=by
  intro j z a hm;exact sk hd (i:=j) (j:=i) (f:=z.1) (g:=f) (by simp[a]) (by simp[l]) hm s
 unfold wh;simp only[PX];constructor
 ·rintro⟨z,n,e⟩;rcases jY n with ⟨j,o,a⟩|rfl
  ·refine⟨⟨z,Oo a,e⟩,λq=>?_⟩;obtain⟨y,b,e2⟩:=OC.1 e;simp only[Pp] at e2;rw[q] at e2;simp only[Tq,true_and] at e2;rw[e2.1] at b;exact o (other j z a b)
  ·obtain⟨y,b,e2⟩:=OC.1 e;have c:=OY.1 b;simp only[Pp] at e2;refine⟨⟨(f,g),Oo l,OC.2 ⟨y,c.1,by simp only[Pp];exact e2⟩⟩,λq=>?_⟩;rw[q] at e2;simp only[Tq,true_and] at e2;have:=c.2;rw[e2.1] at this;simp at this
 ·rintro⟨⟨z,p,e⟩,r⟩;obtain⟨j,a⟩:=Oz.1 p;by_cases d:i=j
  ·subst d;rw[l] at a;cases a;refine⟨(Fr.aY h t f,g),Oz.2 ⟨i,by simp[m]⟩,?_⟩;obtain⟨y,b,e2⟩:=OC.1 e;refine OC.2 ⟨y,OY.2 ⟨b,?_⟩,e2⟩;simp only[Pp] at e2;have:y≠h:=λq=>r (by rw[<-e2.1,q]);simp[this]
  ·exact⟨z,Oz.2 ⟨j,by rw[O6,if_neg d];exact a⟩,e⟩
theorem ox {F:Nat->Prop}{H:aa}{p dp:Nat}{s:Pl}{k:Int}{K:Int->aa->Prop}(U:Gl H)(h:au F H p dp s)(M:s.next<9223372036854775807)
  (n:∀F' H',au F' H' p dp (s.aY k).1->Step F F' H H'->K (s.aY k).2 H'):DN.sp (aE p) k H K:=by
 have w:=h;obtain⟨x,D,hd,V⟩:=h;refine DN.of ?_;unfold DN.vc;have l:=hd.pool.wf.aY k M;unfold Pl.aY at n l;refine wU hd.pool (λhw=>?_) (λhw N=>?_) (λi f g hw N J hk=>?_)
 ·rw[if_pos hw] at n;exact aP (by simpa using hw) (n F H w (.refl _ _))
 ·rw[if_neg (λq=>q hw),N] at n;exact aP rfl (n F H w (.refl _ _))
 ·rw[if_neg (λq=>q hw),N] at n l;simp only at n l;refine aC rfl ?_;simp only[al];have m:=Oo J;have o:s.fs[i]?=some f:=by rw[hd.pool.fs];simp[PG.fs,J]
  have W:f.pins.length<=s.pins:=lk (λf:Fr=>f.pins.length) s.fs i f o;have ht:=hd.pool.wf.tick;have L:=hd.pool.frames.each _ m;have y:=hd.pool.frames.off m;refine hd.pool.head.ld (c:=bU) (i:=3) (x:=some x.mh) rfl ?_;obtain⟨et,inf,hu,O,_,_⟩:=re;refine tt hu O hd.pool.frames.hmap (k:=.int .i64 k) (show Ol=Ol from rfl) λz H1 r it _ t z1=>?_;have A:p≠x.mh:=λe=>bu.off hd.pool.head hd.pool.frames (.inr (.inl e));have B:aj H1 p CL (oJ dp x s):=t.at hd.pool.head A;refine B.ld (c:=ab .i64) (i:=5) (x:=s.tick) rfl ?_;refine B.st (i:=5) (by decide:5<8) (by rfl) λS r2 m2 z2=>?_;have C:g.p≠x.mh:=λe=>y.2 (.inl e.symm);have E:p≠g.p:=λe=>bu.off hd.pool.head hd.pool.frames (e▸.inr (.inr ⟨_,m,.inl rfl⟩));have G:aj S g.p KM (Mq g f):=m2.at (t.at L.row C) (λe=>E e.symm);refine G.ld (c:=ab .i64) (i:=5) (x:=(f.pins.length:Int)) rfl ?_;refine r2.ld (c:=ab .i64) (i:=5) (x:=fC (s.tick+1)) rfl ?_;refine G.st (i:=5) (by decide:5<7) (by rfl) λH3 X m3 z3=>?_;refine X.st (i:=6) (by decide:6<7) (by rfl) λu T m4 z4=>?_;have d:Mod (λb=>b=g.p\/b=x.mh\/b=p) H u:=(((t.mono λb _ e=>.inr (.inl e)).trans (m2.mono λb _ e=>.inr (.inr e))).trans (m3.mono λb _ e=>.inl e)).trans (m4.mono λb _ e=>.inl e);have hlen:=filter_one (oe hd.pool.wf.pins o) hk;have Y:Ol.wrap ((f.pins.length:Int) - 1)=(((Fr.aY k (fC (s.tick+1)) f).pins.length:Nat):Int):=by
   show _=(((f.pins.filter λx=>decide (x≠k)).length:Nat):Int);rw[wrap64 (by omega) (by omega)];omega
  have Z:dz u g (Fr.aY k (fC (s.tick+1)) f):=by
   refine⟨?_,L.b.keep λb I hl=>d.same b hl ?_⟩
   ·rw[Y] at T;exact T
   ·obtain⟨c,q⟩:=L.b.obj b I;rintro(e|e|e)
    ·rw[e] at q;exact absurd (aG L.row q) (by decide)
    ·rw[e,hd.pool.frames.hmap.obj] at q;cases q
    ·rw[e] at q;exact absurd (aG hd.pool.head q) (by decide)
  have j:=hd.pool.wf.pins;rw[hd.pool.fs] at j;have m24:Mod (λb=>b=g.p) S u:=m3.trans m4;obtain⟨t1,t2⟩:=hd.pool.frames.set (H':=u) (z':=(Fr.aY k (fC (s.tick+1)) f,g)) (eh':=z) (ch':=x.ch) J rfl rfl rfl Z (r.keep ((m24.same _ (by have:=r.lt;omega) (λe=>C e.symm)).trans (m2.same _ r.lt (λe=>A e.symm)))) (λa v=>by
   rw[it,hd.pool.frames.entH,Da J j hk]) (λb I P Q hl=>d.same b hl (by
    rintro(e|e|e)
    ·exact P (.inl e)
    ·exact Q e
    ·exact bu.off hd.pool.head hd.pool.frames (e▸I))) (λb I=>.inl I)
  have R:bu {x with zs:=x.zs.set i (Fr.aY k (fC (s.tick+1)) f,g),eh:=z,ch:=x.ch} u p dp {s with fs:=s.fs.modify i (Fr.aY k (fC (s.tick+1))),tick:=fC (s.tick+1)}:=by
   refine⟨m24.at r2 E,t1,?_,l⟩;show s.fs.modify i _=(x.zs.set i _).map (·.1);rw[aZ o,hd.pool.fs];simp[PG.fs,PK]
  obtain⟨q1,q2⟩:=hd.iY U R rfl (d.mono λb _ e=>by
   rcases e with e|e|e
   ·exact .inr (.inr (.inr ⟨_,m,.inl e⟩))
   ·exact .inr (.inr (.inl e))
   ·exact .inl e) t2
  obtain⟨F',t3,t4⟩:=q1.out (x:=x) (D:=D) (F:=F) (H:=H) V q2;exact n F' u t3 t4
theorem yO {F:Nat->Prop}{H:aa}{p dp:Nat}{s:Pl}{K:Int->aa->Prop}(h:au F H p dp s)(a:K (s.fs.length:Int) H):J4.sp (aE p) H K:=by
 obtain⟨x,D,hd,b⟩:=h;refine J4.of ?_;unfold J4.vc;refine aC rfl ?_;simp only[al];refine hd.pool.head.ld (c:=bU) (i:=2) (x:=some x.mf) rfl ?_;exact hd.pool.L9 a
theorem Dz {F:Nat->Prop}{H:aa}{p dp:Nat}{s:Pl}{K:Int->aa->Prop}(h:au F H p dp s)(a:K (s.most:Int) H):Kw.sp (aE p) H K:=by
 obtain⟨x,D,hd,b⟩:=h;refine Kw.of ?_;unfold Kw.vc;refine aC rfl ?_;exact hd.pool.head.ld (c:=ab .i64) (i:=1) (x:=(s.most:Int)) rfl a
theorem xr {F:Nat->Prop}{H:aa}{p dp:Nat}{s:Pl}{K:Option Addr->aa->Prop}(h:au F H p dp s)(a:K (aE dp) H):Hl.sp (aE p) H K:=by
 obtain⟨x,D,hd,b⟩:=h;refine Hl.of ?_;unfold Hl.vc;refine aC rfl ?_;exact hd.pool.head.ld (c:=aw) (i:=0) (x:=aE dp) rfl a
theorem au.cw {F:Nat->Prop}{H:aa}{p dp:Nat}{s:Pl}(f:Gl H)(h:au F H p dp s):∃D,bo D H dp s.d/\(∀b,D b->F b)/\∀a H' d,bo a H' dp d->Step D a H H'->∃F',au F' H' p dp (s.bE d)/\Step F F' H H':=by
 obtain⟨x,D,hd,e⟩:=h;refine⟨D,hd.cw,λb g=>(e b).2 (.inl g),λa H' d c i=>?_⟩;obtain⟨j,k⟩:=hd.jT f c i;exact j.out (x:=x) (D:=D) (F:=F) (H:=H) e k
theorem Cf {zs:List FZ}(h:((zs.map (·.1)).map Fr.key).Nodup):(pw zs).Nodup:=by
 have e:(zs.map (·.1)).map Fr.key=zs.map λz=>(z.1.name,z.1.page):=by simp[Fr.key]
 rw[e] at h;unfold pw;unfold Ud at h ⊢;rw[QD] at h ⊢;refine h.imp λ{a b} c q=>c ?_;simp only[Pp] at q;have:=lM q.1;simp only[Pp];exact⟨this.1,by omega⟩
theorem bu.perm {x:PG}{H:aa}{p dp:Nat}{s:Pl}(h:bu x H p dp s):(x.ef.toList.map λe=>(e.key,e.val)).Perm (pw x.zs):=by
 have hk:=h.wf.keys;rw[h.fs] at hk;have b:=h.frames.fmap.stamped;have c:(x.ef.toList.map λe=>(e.key,e.val)).Nodup:=by
  have:=b.2.2;unfold Ud at this ⊢;rw[QD] at this ⊢;exact this.imp λd q=>d (congrArg US q)
 rw[List.perm_ext_iff_of_nodup c (Cf hk)];rintro⟨k,v⟩;rw[<-h.frames.entF k v];constructor
 ·intro q;obtain⟨e,he,a⟩:=OC.1 q;simp only[Pp] at a;exact⟨e,he,a.1,a.2⟩
 ·rintro⟨e,he,f,a⟩;exact OC.2 ⟨e,he,by rw[f,a]⟩
open Classical in
noncomputable def sb (x:PG) (a:Value×Value):Nat:=if ∃z∈x.zs,a.2=dg z.2.p/\z.1.pins≠[] then 1 else 0
theorem Bh {x:PG}{H:aa}(h:aL H x){z:FZ}(b:z∈x.zs){k:Value}:sb x (k,dg z.2.p)=if z.1.pins.isEmpty then 0 else 1:=by
 unfold sb;by_cases a:z.1.pins=[]
 ·rw[if_neg,if_pos (Qx.2 a)];rintro⟨y,c,e,hyp⟩;have:=h.ptr b c (sN e);subst this;exact hyp a
 ·rw[if_pos ⟨z,b,rfl,a⟩,if_neg (λq=>a (Qx.1 q))]
theorem zk {x:PG}{H:aa}(h:aL H x):((pw x.zs).map (sb x)).sum=((x.fs.filter λf=>!f.pins.isEmpty)).length:=by
 have key:∀l:List FZ,(∀z∈l,z∈x.zs)->((pw l).map (sb x)).sum=((l.map (·.1)).filter λf=>!f.pins.isEmpty).length:=by
  intro l
  induction l with
  |nil=>intro _;rfl
  |cons z l b=>
    intro hl;have a:=b λy c=>hl y (List.mem_cons_of_mem _ c);simp only[pw,OJ,Py,Qu] at a ⊢;rw[Bh h (hl z List.mem_cons_self),a];cases z.1.pins.isEmpty<;>simp<;>omega
 exact key x.zs λ_ d=>d
theorem Ci {F:Nat->Prop}{H:aa}{p dp:Nat}{s:Pl}{K:Int->aa->Prop}(h:au F H p dp s)(N:s.next<9223372036854775807)(O:∀H',Ext H H'->K (s.pinned:Int) H'):JF.sp (aE p) H K:=by
 obtain⟨x,D,hd,X⟩:=h;refine JF.of ?_;unfold JF.vc;refine aP rfl ?_;simp only[al];refine hd.pool.head.ld (c:=bU) (i:=2) (x:=some x.mf) rfl ?_;obtain⟨Y,inf,hu,_⟩:=mU;have d:=hd.pool.frames;refine od hu d.fmap λH1 j o=>?_;have P:=aA j;have t:aL H1 x:=d.keep λb _ hl=>o.same b hl id;have hlen:=hd.pool.wf.len;have B:=hd.pool.wf.most;have Z:=hd.pool.n;have u:∀I,sb x I<=1:=by intro I;unfold sb;split<;>omega
 have hbound:∀l:List MapEntry,(l.map λe=>sb x (e.key,e.val)).sum<=l.length:=by
  intro l
  induction l with
  |nil=>exact Ot _
  |cons a l ih=>simp only[OJ,Py,O3];have:=u (a.key,a.val);omega
 refine og (it:=H.size) (λl n A=>n=(((l.map λe=>sb x (e.key,e.val)).sum:Nat):Int)/\Mod (λk=>k=H.size) H1 A) t.fmap j ⟨rfl,.refl _ _⟩ (λl b A A' q m _=>⟨q.1,q.2.trans m⟩) ?_ ?_
 ·rintro l e n A next ⟨rfl,v⟩ he Q w C _ _ f
  obtain⟨z,J,R,L⟩:=d.entry he;have S:aL A x:=t.keep λc E hl=>v.same c hl λq=>by have:=d.lt c E;omega
  have G:=S.each z J;refine⟨aE z.2.p,by rw[L];rfl,?_⟩;simp only[al];refine G.row.ld (c:=ab .i64) (i:=5) (x:=(z.1.pins.length:Int)) rfl ?_;refine f _ _ ⟨?_,v⟩ rfl rfl;have T:l.length<=x.ef.size:=by
   have:=QT C (l₂:=x.ef.toList) (λy U=>w y U);simpa using this
  have hb:=hbound l;have o:sb x (e.key,e.val)=if z.1.pins.isEmpty then 0 else 1:=by rw[L];exact Bh d J
  rw[O8,List.sum_append,OJ,Q6,Py,List.sum_nil,o];have e2:(if (1:Int)<(z.1.pins.length:Int) then (1:Int) else (z.1.pins.length:Int))=((if z.1.pins.isEmpty then 0 else 1:Nat):Int):=by
   cases hq:z.1.pins with
   |nil=>rfl
   |cons a r=>
     simp only[O3,List.isEmpty_cons];split<;>simp<;>omega
  rw[e2,wrap64 (by omega) (by split<;>omega)];omega
 ·rintro l n A ⟨rfl,v⟩ g _;have V:Ext H A:=⟨by have:=o.size;have:=v.size;omega,λc E _=>(v.same c (by omega) (by omega)).trans (o.same c E id)⟩;have W:(l.map λe=>sb x (e.key,e.val)).sum=s.pinned:=by
   have h1:(l.map λe=>(e.key,e.val)).Perm (pw x.zs):=(g.map _).trans hd.pool.perm;have M:=(h1.map (sb x)).sum_nat;rw[zk d,PN] at M;unfold Pl.pinned;rw[hd.pool.fs];exact M
  rw[W];exact O A V
end Go.Proofs.YtmkbhnholcaghaaGreatDoor
