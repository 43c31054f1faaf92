/-
 RelTurns: for every input the law returns true, and its arguments read as before; the tables are laid as the program's text lays them. No condition beside that.
-/
import Derived.Carry
import Derived.Test.YtkehfflpbpdokaaGreatDoorJ25
import Derived.Test.YtkehfflpbpdokaaGreatDoorFxn
import Derived.Test.YtkehfflpbpdokaaGreatDoorFxt
import Derived.Test.YtkehfflpbpdokaaGreatDoorJ40
/-
 Relations in plain words: what a scan of rows of three words tells.
-/
open Bool renaming and_eq_true->KD
open ByteArray renaming mk->LA
open Classical renaming byContradiction->NG
open False renaming elim->TZ
open Go.Builtin renaming append_->Ks,copy_->Li
open Go.ByteArray renaming toList_eq->Nr
open Go.ChangeSpec renaming witness_shaped->SI
open Go.IntKind renaming i64->Ke,u64->K7,wrap_u8->ON
open Go.OpenClaim renaming holds_of_wide->SP
open Go.OpenSpec renaming ofChange->T6
open Go.Proofs.Tryz renaming prog->Kf,f3->Nk,checked->O3,func3->Px,params3->Rg
open Go.Value renaming int->Km
open Int renaming emod_nonneg->OG,emod_lt_of_pos->OO
open List renaming getElem?_eq_getElem->Kg,mem_of_getElem?->Ki,getElem?_eq_some_iff->Kj,mem_append->Kk,mem_iff_getElem?->Ko,getElem_mem->Kt,mem_cons->Ku,length_append->Kv,mem_cons_self->Kw,mem_map->Kz,length_take->KF,replicate->KG,length_map->KM,not_mem_nil->KN,mem_cons_of_mem->KO,mem_filter->KP,getElem?_append_left->KT,map_append->KX,length_cons->K1,nodup_append->La,mem_singleton->Lc,getElem?_append_right->Lf,append_assoc->Lk,map_cons->Ln,length_singleton->Lq,append_nil->Lu,filter_append->LI,nil_append->LN,all_eq_true->LO,filter_sublist->Mg,pairwise_map->Mi,take_add_one->Mv,nodup_nil->MF,flatten_cons->MH,filter_cons->MN,take_length->MP,map_nil->NM,take_succ_cons->OD,flatten_nil->QE,isPerm_iff->Sw
open List.Pairwise renaming nil->Oh,imp->OY,imp_of_mem->QA
open List.Perm renaming refl->Ol
open List.cons renaming injEq->QS
open Nat renaming le_refl->Kl,zero_le->KU,mul_le_mul_right->K2,le_trans->K4,lt_or_ge->K8,lt_of_lt_of_le->K9,le_succ->Lj,mul_le_mul_left->LM,add_mul->MZ,le_add_right->M5,mul_le_mul->Nb,mul_add->OC
open Option.some renaming inj->Kq
namespace Go.Proofs.YtkehfflpbpdokaaGreatDoor
theorem qt:∀{low z:List Int},low.length<=z.length/\z.take low.length=low->¬aP z low<0
 |[],z,_=>by cases z<;>simp[aP]
 |a::l,[],h=>by simp at h
 |a::l,b::z,h=>by
   obtain⟨h1,h2⟩:=h
   simp only[K1,OD,QS] at h1 h2
   obtain⟨rfl,h3⟩:=h2
   have ih:=qt (low:=l) (z:=z) ⟨by omega,h3⟩
   unfold aP
   simpa using ih
theorem jQ:∀{low y z:List Int},¬aP y low<0->aP y z<0->low.length<=z.length/\z.take low.length=low->low.length<=y.length->y.take low.length=low
 |[],y,z,_,_,_,_=>by simp
 |a::l,[],z,_,_,_,h=>by simp at h
 |a::l,b::y,[],_,_,h,_=>by simp at h
 |a::l,b::y,d::z,h1,h2,h3,h4=>by
   obtain⟨g1,g2⟩:=h3
   simp only[K1,OD,QS] at g1 g2 h4
   obtain⟨rfl,g3⟩:=g2
   have e:b=d/\¬aP y l<0/\aP y z<0:=by
    unfold aP at h1 h2
    by_cases q1:b<d
    ·simp[q1] at h1
    ·by_cases q2:d<b
     ·simp[q1,q2] at h2
     ·have:b=d:=by omega
      subst this
      simp at h1 h2
      exact⟨rfl,by omega,h2⟩
   obtain⟨rfl,e1,e2⟩:=e
   have ih:=jQ (low:=l) e1 e2 ⟨by omega,g3⟩ (by omega)
   simp only[K1,OD]
   rw[ih]
theorem td {z:List Int}{p:List Int->Bool}:∀{l:List (List Int)},gS l->z∈l->(∀y∈l,(je y z\/y=z)->p y=true)->z∈l.takeWhile p
 |[],_,h,_=>by cases h
 |a::t,ha,h,hp=>by
   obtain⟨a1,a2⟩:=List.pairwise_cons.1 ha
   rw[List.takeWhile_cons]
   rcases Ku.1 h with e|e
   ·rw[if_pos (hp a Kw (.inr e.symm)),e]
    exact Kw
   ·rw[if_pos (hp a Kw (.inl (a1 z e)))]
    exact KO _ (td a2 e λy hy=>hp y (KO _ hy))
theorem Ca {low z:List Int}{L:List (List Int)}(ha:gS L)(hl:∀y∈L,low.length<=y.length):z∈ki low (L.filter (pq low false))↔z∈L/\cL z low=true:=by
 constructor
 ·intro h
  exact⟨(KP.1 ((jO _ _).subset h)).1,by
   unfold ki at h
   exact LO.1 List.all_takeWhile z h⟩
 ·rintro⟨h1,h2⟩
  have h3:low.length<=z.length/\z.take low.length=low:=of_decide_eq_true h2
  have hz:pq low false z=true:=by
   unfold pq
   have:=qt h3
   simp[this]
  refine td (ha.sublist Mg) (KP.2 ⟨h1,hz⟩) λy hy u=>?_
  obtain⟨y1,y2⟩:=KP.1 hy
  have y3:¬aP y low<0:=by
   unfold pq at y2
   simpa using y2
  rcases u with u|u
  ·exact decide_eq_true ⟨hl y y1,jQ y3 u h3 (hl y y1)⟩
  ·rw[u];exact h2
def eQ:List (List Int):=[[0,1,2],[2,1,0],[1,2,0]]
theorem gK {o x:List Int}(ho:o∈eQ)(hx:x.length=3):(aL x o).length=3/\cZ 3 o (aL x o) 3=x:=by
 match x,hx with
 |[a,b,c],_=>
   simp only[eQ,Ku,KN,or_false] at ho
   rcases ho with rfl|rfl|rfl<;>exact⟨rfl,rfl⟩
theorem zY {o x y:List Int}(ho:o∈eQ)(hx:x.length=3)(hy:y.length=3)(e:aL x o=aL y o):x=y:=by
 rw[<-(gK ho hx).2,e,(gK ho hy).2]
theorem zX {o x:List Int}{col w:Int}(ho:o∈eQ)(hx:x.length=3)(hf:dX [col] o=true):(o.take 1).map (fC [col] [w])=[w]/\(aL x [col]=[w]->cL (aL x o) [w]=true):=by
 match x,hx with
 |[a,b,c],_=>
   simp only[eQ,Ku,KN,or_false] at ho
   rcases ho with rfl|rfl|rfl
   ·have e:0=col:=by unfold dX at hf;simpa using hf
    subst e
    refine⟨by simp[fC],λh=>?_⟩
    have h:[a]=[w]:=h
    cases h
    simp[cL,aL,dI]
   ·have e:2=col:=by unfold dX at hf;simpa using hf
    subst e
    refine⟨by simp[fC],λh=>?_⟩
    have h:[c]=[w]:=h
    cases h
    simp[cL,aL,dI]
   ·have e:1=col:=by unfold dX at hf;simpa using hf
    subst e
    refine⟨by simp[fC],λh=>?_⟩
    have h:[b]=[w]:=h
    cases h
    simp[cL,aL,dI]
structure uH (R:ah)(So Sd Sn:List (List Int)):Prop where
 f:∀i,i<R.ords.length->∀y,y∈R.f.aH i↔∃x∈So,y=aL x (R.ords.getD i [])
 d:∀i,i<R.ords.length->∀y,y∈R.d.aH i↔∃x∈Sd,y=aL x (R.ords.getD i [])
 e:∀i,i<R.ords.length->∀y,y∈R.e.aH i↔∃x∈Sn,y=aL x (R.ords.getD i [])
def jt (n:Int)(So Sd:List (List Int)):List (List Int):=if n=1 then So++Sd else if n=2 then Sd else if n=3 then So else []
theorem pG {f:List (List Int)->List (List Int)}(hf:f []=[])(i:Nat):∀qs:List aE,((qs.filterMap λq=>q.ts[i]?).map λt=>f t.L).flatten=(qs.map λq=>f (q.aH i)).flatten
 |[]=>rfl
 |q::qs=>by
   have ih:=pG hf i qs
   rw[Ln,MH,<-ih]
   unfold aE.aH
   cases hq:q.ts[i]? with
   |none=>rw[List.filterMap_cons_none (f:=λq:aE=>q.ts[i]?) hq,hf];rfl
   |some t=>rw[List.filterMap_cons_some (f:=λq:aE=>q.ts[i]?) hq];rfl
theorem ji {R:ah}{q:aE}(hq:q∈R.parts){P:List (List Int)->Prop}(h0:P [])(h:∀t∈R.all,P t.L)(i:Nat):P (q.aH i):=by
 unfold aE.aH
 cases hi:q.ts[i]? with
 |none=>exact h0
 |some t=>exact h t (ah.cI hq t (Ki hi))
theorem Ba {R:ah}{n:Int}{cl wl:List Int}{L So Sd Sn:List (List Int)}(T:Fq R n cl wl L)(hW:R.W=3)(hords:∀o∈R.ords,o∈eQ)(h0:R.ords.getD 0 []=[0,1,2])(sp:uH R So Sd Sn)(hx:∀x∈So++Sd,x.length=3)(hnd:(So++Sd).Nodup)(hasc:∀t∈R.all,gS t.L)(hlen:∀t∈R.all,∀y∈t.L,y.length=3)
  (hcl:cl=[]/\wl=[]\/∃col w,cl=[col]/\wl=[w]):L.Nodup/\(∀x,x∈L↔x∈jt n So Sd/\aL x cl=wl)/\(cl=[]->gS L):=by
 obtain⟨i,low,es,hi,hord,hperm,hup,rfl⟩:=T.ex
 have ho:R.ords.getD i []∈R.ords:=by
  rw[List.getD,Kg hi]
  exact Kt _
 have ho3:=hords _ ho
 have mf:R.f∈R.parts:=by simp[ah.parts]
 have md:R.d∈R.parts:=by simp[ah.parts]
 have hlow:low.length<=3:=by
  rcases hord with ⟨_,_,rfl⟩|⟨_,_,rfl⟩
  ·rw[KM,KF]
   rcases hcl with ⟨rfl,_⟩|⟨col,w,rfl,_⟩<;>simp<;>omega
  ·simp
 have F0:ki low (([]:List (List Int)).filter (pq low false))=[]:=rfl
 rw[pG (f:=λL=>ki low (L.filter (pq low false))) F0] at hperm hup
 have ascP:∀q∈R.parts,gS (q.aH i):=λq hq=>ji (P:=gS) hq Oh hasc i
 have lenP:∀q∈R.parts,∀y∈q.aH i,low.length<=y.length:=λq hq=>ji (P:=λL=>∀y∈L,low.length<=y.length) hq (λy hy=>by cases hy) (λt ht y hy=>by rw[hlen t ht y hy];exact hlow) i
 have memP:∀q∈R.parts,∀z,z∈ki low ((q.aH i).filter (pq low false))↔z∈q.aH i/\cL z low=true:=λq hq z=>Ca (ascP q hq) (lenP q hq)
 have ndP:∀q∈R.parts,(ki low ((q.aH i).filter (pq low false))).Nodup:=λq hq=>iU ((ascP q hq).sublist ((jO _ _).trans Mg))
 -- the rows that are told, by the order
 have key:es.Nodup/\∀z,z∈es↔(∃x∈jt n So Sd,z=aL x (R.ords.getD i []))/\cL z low=true:=by
  unfold ah.asked at hperm
  unfold jt
  by_cases q1:n=1
  ·rw[if_pos q1] at hperm
   rw[if_pos q1]
   simp only[Ln,NM,MH,QE,Lu] at hperm
   refine⟨hperm.nodup_iff.2 (La.2 ⟨ndP _ mf,ndP _ md,λa ha b hb e=>?_⟩),λz=>?_⟩
   ·obtain⟨x,hx1,e1⟩:=(sp.f i hi a).1 ((memP _ mf a).1 ha).1
    obtain⟨y,hy1,e2⟩:=(sp.d i hi b).1 ((memP _ md b).1 hb).1
    have:x=y:=zY ho3 (hx x (Kk.2 (.inl hx1))) (hx y (Kk.2 (.inr hy1))) (by rw[<-e1,e,e2])
    subst this
    exact(La.1 hnd).2.2 x hx1 x hy1 rfl
   ·rw[hperm.mem_iff,Kk,memP _ mf,memP _ md,sp.f i hi,sp.d i hi]
    constructor
    ·rintro(⟨⟨x,h1,h2⟩,h3⟩|⟨⟨x,h1,h2⟩,h3⟩)
     ·exact⟨⟨x,Kk.2 (.inl h1),h2⟩,h3⟩
     ·exact⟨⟨x,Kk.2 (.inr h1),h2⟩,h3⟩
    ·rintro⟨⟨x,h1,h2⟩,h3⟩
     rcases Kk.1 h1 with v|v
     ·exact .inl ⟨⟨x,v,h2⟩,h3⟩
     ·exact .inr ⟨⟨x,v,h2⟩,h3⟩
  ·rw[if_neg q1] at hperm
   rw[if_neg q1]
   by_cases q2:n=2
   ·rw[if_pos q2] at hperm
    rw[if_pos q2]
    simp only[Ln,NM,MH,QE,Lu] at hperm
    exact⟨hperm.nodup_iff.2 (ndP _ md),λz=>by rw[hperm.mem_iff,memP _ md,sp.d i hi]⟩
   ·rw[if_neg q2] at hperm
    rw[if_neg q2]
    by_cases q3:n=3
    ·rw[if_pos q3] at hperm
     rw[if_pos q3]
     simp only[Ln,NM,MH,QE,Lu] at hperm
     exact⟨hperm.nodup_iff.2 (ndP _ mf),λz=>by rw[hperm.mem_iff,memP _ mf,sp.f i hi]⟩
    ·rw[if_neg q3] at hperm
     rw[if_neg q3]
     have:es=[]:=List.perm_nil.1 hperm
     subst this
     exact⟨MF,λz=>⟨λh=>absurd h KN,λh=>absurd h.1 (by rintro⟨x,hx,_⟩;cases hx)⟩⟩
 obtain⟨k1,k2⟩:=key
 rw[hW]
 have hset:∀x∈jt n So Sd,x.length=3:=λx h=>by
  unfold jt at h
  split at h
  ·exact hx x h
  ·split at h
   ·exact hx x (Kk.2 (.inr h))
   ·split at h
    ·exact hx x (Kk.2 (.inl h))
    ·cases h
 have hes:∀z∈es,∃x∈jt n So Sd,z=aL x (R.ords.getD i [])/\cZ 3 (R.ords.getD i []) z 3=x:=λz hz=>by
  obtain⟨⟨x,h1,h2⟩,_⟩:=(k2 z).1 hz
  exact⟨x,h1,h2,by rw[h2];exact(gK ho3 (hset x h1)).2⟩
 refine⟨?_,λx=>?_,λhc=>?_⟩
 ·have h1:(es.filter λy=>decide (aL (cZ 3 (R.ords.getD i []) y 3) cl=wl)).Nodup:=k1.sublist Mg
  refine Mi.2 (QA (λ{a b} ha hb hne e=>hne ?_) h1)
  obtain⟨x,_,e1,e2⟩:=hes a (KP.1 ha).1
  obtain⟨y,_,e3,e4⟩:=hes b (KP.1 hb).1
  rw[e2,e4] at e
  rw[e1,e3,e]
 ·rw[Kz]
  constructor
  ·rintro⟨z,hz,rfl⟩
   obtain⟨z1,z2⟩:=KP.1 hz
   obtain⟨x,h1,_,h3⟩:=hes z z1
   have z2:=of_decide_eq_true z2
   rw[h3] at z2 ⊢
   exact⟨h1,z2⟩
  ·rintro⟨h1,h2⟩
   have hb:=(gK ho3 (hset x h1)).2
   refine⟨aL x (R.ords.getD i []),KP.2 ⟨(k2 _).2 ⟨⟨x,h1,rfl⟩,?_⟩,decide_eq_true (by rw[hb];exact h2)⟩,hb⟩
   rcases hord with ⟨g1,_,g3⟩|⟨_,_,g3⟩
   ·rcases hcl with ⟨rfl,rfl⟩|⟨col,w,rfl,rfl⟩
    ·rw[g3];simp[cL]
    ·obtain⟨f1,f2⟩:=zX (w:=w) ho3 (hset x h1) g1
     rw[g3]
     show cL _ ((List.take 1 _).map _)=true
     rw[f1]
     exact f2 h2
   ·rw[g3];simp[cL]
 ·subst hc
  have hi0:i=0:=by
   rcases hord with ⟨_,g2,_⟩|⟨_,g2,_⟩
   ·apply NG
    intro hne
    have:=g2 0 (by omega)
    unfold dX at this
    simp at this
   ·exact g2
  subst hi0
  rw[h0] at hes ⊢
  have hwl:wl=[]:=by
   rcases hcl with ⟨_,h⟩|⟨col,w,h,_⟩
   ·exact h
   ·cases h
  have e1:(es.filter λy=>decide (aL (cZ 3 [0,1,2] y 3) []=wl))=es:=List.filter_eq_self.2 λy hy=>by
   rw[hwl];rfl
  rw[e1]
  have e2:es.map (λy=>cZ 3 [0,1,2] y 3)=es:=by
   have:es.map (λy=>cZ 3 [0,1,2] y 3)=es.map id:=List.map_congr_left λz hz=>by
    obtain⟨x,h1,h2,h3⟩:=hes z hz
    rw[h3,h2]
    match x,hset x h1 with
    |[a,b,c],_=>rfl
   rw[this,List.map_id]
  rw[e2]
  exact hup (hperm.nodup_iff.1 k1)
open Go.MapKept
structure cq (X:Nat->Prop)(A:aa)(s:Sl)(ls:List (List Int)):Prop where
 ex:∃rs:List Sl,az A 0 dn 1 s (rs.map Sl.v)/\rs.length=ls.length/\∀(j:Nat) (r:Sl) (l:List Int),rs[j]?=some r->ls[j]?=some l->Ints .u64 A r l/\∀ad,r.a=some ad->ad.block<A.size/\¬X ad.block/\¬ai s ad.block
 off:∀b,ai s b->¬X b
section
variable {X X':Nat->Prop}{A B:aa}{s s':Sl}{ls:List (List Int)}{l:List Int}{r:Sl}
theorem cq.nil (X:Nat->Prop)(A:aa):cq X A (Sl.mk none 0 0) []:=⟨⟨[],az.nil _ _ _ _,rfl,λj r l hj=>by simp at hj⟩,λb u=>by obtain⟨ad,h,_⟩:=u;cases h⟩
theorem cq.n (h:cq X A s ls):s.n=ls.length:=by
 obtain⟨rs,o,hl,_⟩:=h.ex
 have:=o.1
 rw[KM] at this
 omega
theorem cq.step (h:cq X A s ls)(S:Step X X' A B):cq X' B s ls:=by
 obtain⟨rs,o,hl,hr⟩:=h.ex
 refine⟨⟨rs,o.mod S.mod h.off,hl,λj r l hj hl'=>?_⟩,λb hb u=>?_⟩
 ·obtain⟨q1,q2⟩:=hr j r l hj hl'
  refine⟨q1.mod S.mod λad ha=>(q2 ad ha).2.1,λad ha=>?_⟩
  obtain⟨u1,u2,u3⟩:=q2 ad ha
  exact⟨K9 u1 S.mod.size,λv=>(S.own _ v).elim u2 λw=>by omega,u3⟩
 ·exact(S.own b u).elim (h.off b hb) λw=>by have:=(o.block b hb).2;omega
theorem cq.lt (h:cq X A s ls):∀b,ai s b->b<A.size:=λb hb=>by
 obtain⟨rs,o,_,_⟩:=h.ex
 exact(o.block b hb).2
theorem cq.rows (h:cq X A s ls):Rows A s ls:=by
 obtain⟨rs,o,hl,hr⟩:=h.ex
 refine⟨h.n,λi hi=>?_⟩
 have hir:i<rs.length:=by omega
 obtain⟨ad,ha,hc⟩:=o.reads.at (i:=i) (by rw[KM];exact hir)
 exact⟨ad,rs[i],ha,by simpa using hc,(hr i rs[i] ls[i] (Kg hir) (Kg hi)).1⟩
theorem cq.snoc {ty:TypeId}{K:Sl->aa->Prop}(h:cq X A s ls)(hn:ls.length<=1000)(hl:Ints .u64 A r l)(ho:∀ad,r.a=some ad->ad.block<A.size/\¬X ad.block/\¬ai s ad.block)(hX:∀b,X b->b<A.size)
  (hK:∀s' B,cq X B s' (ls++[l])->Mod (ai s) A B->(∀b,ai s' b->ai s b\/A.size<=b)->K s' B):aM A #[r.v] dn λp H1=>bo ao Kf (Ks #[dG,dG] ty #[s.v,.slice (some p) 1 1]) H1 K:=by
 obtain⟨rs,o,hlen,hr⟩:=h.ex
 have hsn:=h.n
 refine oS.push (base:=0) o rfl (by omega) (by omega) (KU _) λs' B n1 o1 m1 b1 _=>?_
 have z:=m1.size
 have aA:∀{x:Sl} {y:List Int},Ints .u64 A x y->(∀ad,x.a=some ad->ad.block<A.size/\¬X ad.block/\¬ai s ad.block)->Ints .u64 B x y/\∀ad,x.a=some ad->ad.block<B.size/\¬X ad.block/\¬ai s' ad.block:=λhi hx=>
  ⟨hi.mod m1 λad ha=>(hx ad ha).2.2,λad ha=>⟨by have:=(hx ad ha).1;omega,(hx ad ha).2.1,λv=>(b1 _ v).elim (hx ad ha).2.2 λw=>by have:=(hx ad ha).1;omega⟩⟩
 refine hK s' B ⟨⟨rs++[r],by rw[KX];exact o1,by rw[Kv,Kv,hlen];rfl,λj x y hj hy=>?_⟩,λb hb u=>?_⟩ m1 b1
 ·rcases K8 j rs.length with q|q
  ·rw[KT q] at hj
   rw[KT (by omega)] at hy
   obtain⟨q1,q2⟩:=hr j x y hj hy
   exact aA q1 q2
  ·rw[Lf q] at hj
   rw[Lf (by omega),<-hlen] at hy
   have e0:j - rs.length=0:=by
    have:=(Kj.1 hj).1
    simp at this;omega
   rw[e0] at hj hy
   cases hj
   cases hy
   exact aA hl ho
 ·rcases b1 b hb with v|v
  ·exact h.off b v u
  ·have:=hX b u;omega
theorem cq.join {ty:TypeId}{x:Sl}{ms:List (List Int)}{K:Sl->aa->Prop}(h:cq X A s ls)(k:cq (λb=>X b\/ai s b) A x ms)(hn:ls.length+ms.length<=1000)(hX:∀b,X b->b<A.size)
  (hK:∀s' B,cq X B s' (ls++ms)->Mod (ai s) A B->(∀b,ai s' b->ai s b\/A.size<=b)->K s' B):bo ao Kf (Ks #[dG,dG] ty #[s.v,x.v]) A K:=by
 obtain⟨rs,o,hlen,hr⟩:=h.ex
 obtain⟨ts,ox,hlx,hx⟩:=k.ex
 have hsn:=h.n
 have hxn:=k.n
 refine oS.append (base:=0) (s:=s) (x:=x) (xs:=rs.map Sl.v) (ws:=ts.map Sl.v) o (by rw[KM];omega) ox.reads (λv hv=>by obtain⟨y,_,rfl⟩:=Kz.1 hv;rfl) (by omega) (by omega) (KU _) λs' B n1 o1 m1 b1 _=>?_
 have z:=m1.size
 have aA:∀{x:Sl} {y:List Int},Ints .u64 A x y->(∀ad,x.a=some ad->ad.block<A.size/\¬X ad.block/\¬ai s ad.block)->Ints .u64 B x y/\∀ad,x.a=some ad->ad.block<B.size/\¬X ad.block/\¬ai s' ad.block:=λhi hx=>
  ⟨hi.mod m1 λad ha=>(hx ad ha).2.2,λad ha=>⟨by have:=(hx ad ha).1;omega,(hx ad ha).2.1,λv=>(b1 _ v).elim (hx ad ha).2.2 λw=>by have:=(hx ad ha).1;omega⟩⟩
 refine hK s' B ⟨⟨rs++ts,by rw[KX];exact o1,by rw[Kv,Kv,hlen,hlx],λj y z hj hz=>?_⟩,λb hb u=>?_⟩ m1 b1
 ·rcases K8 j rs.length with q|q
  ·rw[KT q] at hj
   rw[KT (by omega)] at hz
   obtain⟨q1,q2⟩:=hr j y z hj hz
   exact aA q1 q2
  ·rw[Lf q] at hj
   rw[Lf (by omega),<-hlen] at hz
   obtain⟨q1,q2⟩:=hx _ y z hj hz
   exact aA q1 λad ha=>⟨(q2 ad ha).1,λv=>(q2 ad ha).2.1 (.inl v),λv=>(q2 ad ha).2.1 (.inr v)⟩
 ·rcases b1 b hb with v|v
  ·exact h.off b v u
  ·have:=hX b u;omega
theorem cq.mono (h:cq X A s ls)(hX:∀b,b<A.size->X' b->X b):cq X' A s ls:=by
 obtain⟨rs,o,hl,hr⟩:=h.ex
 refine⟨⟨rs,o,hl,λj r l hj hl'=>?_⟩,λb hb u=>h.off b hb (hX b (o.block b hb).2 u)⟩
 obtain⟨q1,q2⟩:=hr j r l hj hl'
 exact⟨q1,λad ha=>⟨(q2 ad ha).1,λu=>(q2 ad ha).2.1 (hX _ (q2 ad ha).1 u),(q2 ad ha).2.2⟩⟩
theorem gh.step (h:gh X A s ls)(S:Step X X' A B):gh X' B s ls:=by
 have g:=h.mod S.mod
 refine⟨g.len,λad ha=>⟨(g.off ad ha).1,λu=>(S.own _ u).elim (h.off ad ha).2 λw=>by have:=(h.off ad ha).1;omega⟩,λi hi=>?_⟩
 obtain⟨ad,r,q1,q2,q3,q4⟩:=h.at' i hi
 exact⟨ad,r,q1,S.mod.cell q2 (by rw[bO];exact(h.off ad q1).2),λa ha=>⟨K9 (q3 a ha).1 S.mod.size,λu=>(S.own _ u).elim (q3 a ha).2 λw=>by have:=(q3 a ha).1;omega⟩,q4.mod S.mod λa ha=>(q3 a ha).2⟩
end
structure TS (H0 A:aa)(F E:Nat->Prop)(p dp:Nat)(s:Pl)(M:aU)(U m:Nat)(R T:ah):Prop where
 al:aJ H0 A F p dp s M 5000 U 8 m
 ra:aO H0 A (λb=>F b\/(T.O b\/E b)) p M R
 rb:aO H0 A (λb=>F b\/(R.O b\/E b)) p M T
 nW:∀a y,M a=some y->(∃j,a=cS R.name j)\/∃j,a=cS T.name j
 names:∀i j,cS R.name i≠cS T.name j
 beside:∀b,E b->b<A.size/\¬F b/\H0.size<=b
section
variable {H0 A B:aa}{F F' E X:Nat->Prop}{p dp U U' m m':Nat}{s s':Pl}{M M':aU}{R R' T:ah}
theorem TS.swap (h:TS H0 A F E p dp s M U m R T):TS H0 A F E p dp s M U m T R:=
 ⟨h.al,h.rb,h.ra,λa y q=>(h.nW a y q).symm,λi j e=>h.names j i e.symm,h.beside⟩
theorem TS.o0 (h:TS H0 A F E p dp s M U m R T)(hp:aJ H0 B F' p dp s' M' 5000 U' 8 m')(hr:aO H0 B F' p M' R')(S:Step (R.X F) (R'.X F') A B)(hs:∀q'∈R'.parts,(∃q∈R.parts,q'.s=q.s)\/∀b,ai q'.s b->A.size<=b)(hos:R'.os=R.os)(ho:R'.ords=R.ords)(hn:R'.name=R.name)(hM:∀a,(∀j,a≠cS R.name j)->M' a=M a):TS H0 B F' E p dp s' M' U' m' R' T:=by
 refine⟨hp,h.ra.beside hr S (λb hb=>?_) hs hos ho,h.rb.other S (λi j e=>h.names j i e.symm) hM,λa y q=>?_,λi j=>by rw[hn];exact h.names i j,λb hb=>?_⟩
 ·rcases hb with u|u
  ·exact⟨h.rb.lt b u,λv=>(h.rb.off b u).1 (.inl v)⟩
  ·exact⟨(h.beside b u).1,(h.beside b u).2.1⟩
 ·rw[hn]
  by_cases g:∃j,a=cS R.name j
  ·exact .inl g
  ·rw[hM a λj e=>g ⟨j,e⟩] at q
   exact .inr ((h.nW a y q).resolve_left g)
 ·obtain⟨b1,b2,b3⟩:=h.beside b hb
  have z:=S.mod.size
  exact⟨by omega,λu=>(S.own b (.inl u)).elim (λv=>v.elim b2 λw=>(h.ra.off b w).1 (.inr (.inr hb))) λv=>by omega,b3⟩
theorem TS.write (h:TS H0 A F E p dp s M U m R T)(mm:Mod E A B)(hX:∀b,X b->A.size<=b/\b<B.size):TS H0 B F (λb=>E b\/X b) p dp s M U m R T:=by
 have z:=h.al.ext.size
 have go:∀{P Q:ah},aO H0 A (λb=>F b\/(Q.O b\/E b)) p M P->aO H0 B (λb=>F b\/(Q.O b\/(E b\/X b))) p M P:=λg=>
  g.al ⟨mm.mono λb _ u=>.inr (.inr u),λb u=>by
   rcases u with u|u|u|u
   ·exact .inl (.inl u)
   ·exact .inl (.inr (.inl u))
   ·exact .inl (.inr (.inr u))
   ·exact .inr (hX b u).1⟩
 refine⟨h.al.aside ⟨K4 z mm.size,λb hb _=>(mm.same b (K9 hb z) λu=>by have:=(h.beside b u).2.2;omega).trans (h.al.ext.same b hb id)⟩ λb hb=>mm.same b (h.al.al.lt b hb) λu=>(h.beside b u).2.1 hb,go h.ra,go h.rb,h.nW,h.names,λb hb=>?_⟩
 rcases hb with u|u
 ·exact⟨K9 (h.beside b u).1 mm.size,(h.beside b u).2⟩
 ·have:=hX b u
  exact⟨this.2,λv=>by have:=h.al.al.lt b v;omega,by omega⟩
def bz (F:Nat->Prop)(R T:ah)(b:Nat):Prop:=R.X F b\/T.O b
theorem TS.tf (h:TS H0 A F E p dp s M U m R T){b:Nat}(hb:bz F R T b):b<A.size/\H0.size<=b:=by
 rcases hb with (u|u)|u
 ·exact⟨h.al.al.lt b u,h.al.old b u⟩
 ·exact⟨h.ra.lt b u,(h.ra.off b u).2⟩
 ·exact⟨h.rb.lt b u,(h.rb.off b u).2⟩
theorem np (F:Nat->Prop)(R T:ah)(b:Nat):bz F R T b↔bz F T R b:=by
 unfold bz ah.X
 constructor
 ·rintro((u|u)|u)
  ·exact .inl (.inl u)
  ·exact .inr u
  ·exact .inl (.inr u)
 ·rintro((u|u)|u)
  ·exact .inl (.inl u)
  ·exact .inr u
  ·exact .inl (.inr u)
theorem ky (S:Step (R.X F) (R'.X F') A B):Step (bz F R T) (bz F' R' T) A B:=
 S.fg (λ_ u=>.inl u) λb u=>u.elim .inr λv=>.inl (.inr v)
theorem TS.BW (h:TS H0 A F E p dp s M U m R T){w:Nat}(hw:∀t∈T.all,t.L.length<=w)(hl:T.all.length<=100):AH M R (T.all.map (·.n)) (T.all.length*(2*w+2)):=by
 refine⟨λa y q=>?_,λa ha j=>?_,?_,by rw[KM];omega⟩
 ·rcases h.nW a y q with u|⟨j,e⟩
  ·exact .inr u
  ·refine .inl ?_
   apply NG
   intro hno
   rw[e,h.rb.free j λt ht e2=>hno (Kz.2 ⟨t,ht,e2.trans e.symm⟩)] at q
   cases q
 ·obtain⟨t,ht,rfl⟩:=Kz.1 ha
  obtain⟨i,_,e⟩:=h.rb.nms t ht
  intro e2
  exact h.names j i (e2.symm.trans e)
 ·rw[List.map_map]
  refine uD _ _ λt ht=>?_
  obtain⟨x,root,depth,P,_,e,on⟩:=(h.rb.tr t ht).at_
  show yG M t.n<=_
  unfold yG
  rw[e]
  have:=on.small.2
  have:=hw t ht
  show x.N<=_
  omega
end
structure gm (ords:List (List Int)):Prop where
 mem:∀o∈ords,o∈eQ
 lo:1<=ords.length
 hi:ords.length<=3
 first:ords.getD 0 []=[0,1,2]
structure rF (So Sd Sn:List (List Int)):Prop where
 mem:∀x∈So++Sd++Sn,x.length=3/\bQ x
 nodup:(So++Sd++Sn).Nodup
 few:So.length+Sd.length+Sn.length<=80
structure bD (R:ah)(nm:ByteArray)(os3 So Sd Sn:List (List Int))(k:Nat):Prop where
 W:R.W=3
 name:R.name=nm
 size:nm.size<=90
 ords:R.ords=os3
 ex:R.ex=[]
 nb:R.nb=R.next
 next:R.next<=k*os3.length
 turns:R.turns<=k
 parts:∀q∈R.parts,q.ts=[]\/q.ts.length=os3.length
 spec:uH R So Sd Sn
theorem vz {x:List Int}(hx:x.length=3):aL x [0,1,2]=x:=by
 match x,hx with
 |[a,b,c],_=>rfl
theorem xe {o x:List Int}(ho:o∈eQ)(hx:x.length=3)(hf:bQ x):bQ (aL x o):=by
 match x,hx with
 |[a,b,c],_=>
   have ha:=hf a (by simp)
   have hb:=hf b (by simp)
   have hc:=hf c (by simp)
   simp only[eQ,Ku,KN,or_false] at ho
   rcases ho with rfl|rfl|rfl
   ·exact hf
   ·intro z hz
    have hz:z∈[c,b,a]:=hz
    simp only[Ku,KN,or_false] at hz
    rcases hz with rfl|rfl|rfl
    ·exact hc
    ·exact hb
    ·exact ha
   ·intro z hz
    have hz:z∈[b,c,a]:=hz
    simp only[Ku,KN,or_false] at hz
    rcases hz with rfl|rfl|rfl
    ·exact hb
    ·exact hc
    ·exact ha
theorem rZ {o:List Int}(ho:o∈eQ):o.length=3/\∀x∈o,0<=x/\x<3:=by
 simp only[eQ,Ku,KN,or_false] at ho
 rcases ho with rfl|rfl|rfl<;>decide
section
variable {H0 A B:aa}{F F' E X:Nat->Prop}{p dp U U' m m' k k':Nat}{s s':Pl}{M M':aU}{R R' T:ah}{nm nm':ByteArray}{ords ords' So Sd Sn So' Sd' Sn':List (List Int)}
theorem uH.of (sp:uH R So Sd Sn){q:aE}(hq:q∈R.parts):∃S:List (List Int),(∀x∈S,x∈So++Sd++Sn)/\S.length<=So.length+Sd.length+Sn.length/\∀i,i<R.ords.length->∀y,y∈q.aH i↔∃x∈S,y=aL x (R.ords.getD i []):=by
 unfold ah.parts at hq
 simp only[Ku,KN,or_false] at hq
 rcases hq with rfl|rfl|rfl
 ·exact⟨So,λx h=>by simp[h],by omega,sp.f⟩
 ·exact⟨Sd,λx h=>by simp[h],by omega,sp.d⟩
 ·exact⟨Sn,λx h=>by simp[h],by omega,sp.e⟩
theorem bD.yJ (ok:bD R nm ords So Sd Sn k)(hr:aO H0 A F p M R){q:aE}(hq:q∈R.parts){S:List (List Int)}(hS:∀i,i<R.ords.length->∀y,y∈q.aH i↔∃x∈S,y=aL x (R.ords.getD i []))(i:Nat):(q.aH i).length<=S.length:=by
 by_cases hi:i<R.ords.length
 ·have ha:gS (q.aH i):=ji (P:=gS) hq Oh (λt ht=>(hr.tr t ht).AQ) i
  have:=gz (iU ha) (B:=S.map λx=>aL x (R.ords.getD i [])) λy hy=>by
   obtain⟨x,h1,h2⟩:=(hS i hi y).1 hy
   exact Kz.2 ⟨x,h1,h2.symm⟩
  rwa [KM] at this
 ·have:q.ts[i]?=none:=by
   rw[List.getElem?_eq_none_iff]
   rcases ok.parts q hq with u|u
   ·rw[u];exact KU _
   ·rw[u,<-ok.ords];omega
  unfold aE.aH
  rw[this]
  exact KU _
theorem bD.small (ok:bD R nm ords So Sd Sn k)(dat:rF So Sd Sn)(hr:aO H0 A F p M R):R.Small 80:=by
 refine⟨λq hq=>by rw[ok.ords];exact ok.parts q hq,ok.ex,λt ht=>?_⟩
 have hq:∃q∈R.parts,t∈q.ts:=by
  unfold ah.all at ht
  rw[ok.ex] at ht
  simp only[Kk,KN,or_false] at ht
  rcases ht with u|u|u
  ·exact⟨R.f,by simp[ah.parts],u⟩
  ·exact⟨R.d,by simp[ah.parts],u⟩
  ·exact⟨R.e,by simp[ah.parts],u⟩
 obtain⟨q,hq,htq⟩:=hq
 obtain⟨i,hi⟩:=Ko.1 htq
 obtain⟨S,_,h2,h3⟩:=ok.spec.of hq
 have h4:=ok.yJ hr hq h3 i
 unfold aE.aH at h4
 rw[hi] at h4
 have:=dat.few
 have h4:t.L.length<=S.length:=h4
 omega
theorem bD.fit (ok:bD R nm ords So Sd Sn k)(dat:rF So Sd Sn)(hr:aO H0 A F p M R)(hb:R.next<=1000):R.Fit:=
 ⟨by rw[ok.W];decide,by rw[ok.name];exact ok.size,by rw[ok.nb];exact hb,λt ht=>K4 ((ok.small dat hr).rows t ht) (by decide)⟩
theorem bD.iW (ok:bD R nm ords So Sd Sn k)(o:gm ords)(dat:rF So Sd Sn)(y:List Int):(y∈R.f.rows↔y∈So)/\(y∈R.d.rows↔y∈Sd)/\(y∈R.e.rows↔y∈Sn):=by
 have h0:0<R.ords.length:=by rw[ok.ords];exact o.lo
 have key:∀S:List (List Int),(∀x∈S,x∈So++Sd++Sn)->((∃x∈S,y=aL x (R.ords.getD 0 []))↔y∈S):=λS hS=>by
  rw[ok.ords,o.first]
  constructor
  ·rintro⟨x,h1,h2⟩
   rw[h2,vz (dat.mem x (hS x h1)).1];exact h1
  ·intro h
   exact⟨y,h,(vz (dat.mem y (hS y h)).1).symm⟩
 refine⟨?_,?_,?_⟩
 ·rw[jB,ok.spec.f 0 h0];exact key So λx h=>by simp[h]
 ·rw[jB,ok.spec.d 0 h0];exact key Sd λx h=>by simp[h]
 ·rw[jB,ok.spec.e 0 h0];exact key Sn λx h=>by simp[h]
theorem bD.vJ (ok:bD R nm ords So Sd Sn k)(o:gm ords){y:List Int}(hy:y.length=R.W)(hf:bQ y):∀i (hi:i<R.ords.length),R.ords[i].length<=1000/\(aL y R.ords[i]).length=R.W/\bQ (aL y R.ords[i]):=λi hi=>by
 have hm:R.ords[i]∈eQ:=o.mem _ (by rw[<-ok.ords];exact Kt hi)
 rw[ok.W] at hy ⊢
 exact⟨by rw[(rZ hm).1];decide,(gK hm hy).1,xe hm hy hf⟩
theorem bD.count (ok:bD R nm ords So Sd Sn k)(dat:rF So Sd Sn)(o:gm ords)(hr:aO H0 A F p M R):R.all.length<=9:=by
 have h1:=(ok.small dat hr).count
 rw[ok.ords] at h1
 have:=o.hi
 omega
set_option maxRecDepth 10000 in
theorem TS.add {l:Sl}{ll:List Int}{K:(Bool×Int)->aa->Prop}(t:TS H0 A F E p dp s M U m R T)(ok:bD R nm ords So Sd Sn k)(okT:bD T nm' ords' So' Sd' Sn' k')(o:gm ords)(o':gm ords')(dat:rF So Sd Sn)(dat':rF So' Sd' Sn')(hg:Gl H0)(hpw:Pw H0)(hk:k<=250)(hm:m+4000000<=30000000000)(hl:Ints .u64 A l ll)(hlo:fL (R.X F) A l)(hll:ll.length=3/\bQ ll)
  (hK0:ll∈So++Sd++Sn->∀F' s' B,TS H0 B F' E p dp s' M U (m+4000000) R T->Step (bz F R T) (bz F' R T) A B->K (false,0) B)
  (hK1:ll∉So++Sd++Sn->∀F' s' M' U' R' B,TS H0 B F' E p dp s' M' U' (m+4000000) R' T->bD R' nm ords So Sd (Sn++[ll]) (k+1)->R'.rb=R.rb->Step (bz F R T) (bz F' R' T) A B->K (true,0) B):wF.sp (aD R.rb) l A K:=by
 have hra:aO H0 A F p M R:=t.ra.less λb u=>.inl u
 have sm:=ok.small dat hra
 have smT:=okT.small dat' t.rb
 have hoh:=o.hi
 have hkn:R.next<=750:=by
  have:=ok.next
  have h2:k*ords.length<=250*3:=Nb hk hoh
  omega
 have fit:=ok.fit dat hra (by omega)
 have hcT:=okT.count dat' o' t.rb
 have hcR:=ok.count dat o hra
 have BW:=t.BW smT.rows (by omega)
 have hU:=BW.used hra t.al.calm.told sm.rows
 have hb1:T.all.length*(2*80+2)<=9*(2*80+2):=K2 _ hcT
 have hb2:R.all.length*(2*80+2)<=9*(2*80+2):=K2 _ hcR
 have hb3:R.ords.length*(2*80+6)<=3*(2*80+6):=K2 _ (by rw[ok.ords];exact hoh)
 have hol:R.ords.length<=3:=by rw[ok.ords];exact hoh
 have hmem:(∃q∈R.parts,ll∈q.rows)↔ll∈So++Sd++Sn:=by
  obtain⟨a,b,c⟩:=ok.iW o dat ll
  simp only[ah.parts,Ku,KN,or_false,exists_eq_or_imp,exists_eq_left,Kk,a,b,c,or_assoc]
 refine nF (w:=80) ⟨t.al,hra,BW.nW hra (by omega)⟩ hg hpw fit (by decide) hm (λi=>sm.at_ (ah.get_mem R 2) i) (by decide) (by omega) (by omega) (by omega) (sm.parts _ (ah.get_mem R 2)) ok.ex ok.nb (by omega) hl hlo (by rw[ok.W];exact hll.1) (ok.vJ o (by rw[ok.W];exact hll.1) hll.2) (λhp F' s' B r1 S1=>?_) (λhp F' s' M' U' q' nx B r1 I1 _ hnx S1 hM hs=>?_)
 ·refine hK0 (hmem.1 hp) F' s' B (t.o0 r1.al r1.rel S1 (λq hq=>.inl ⟨q,hq,rfl⟩) rfl rfl rfl λ_ _=>rfl) (ky S1)
 ·have hs':∀q∈((R.put 2 q').dM nx nx).parts,(∃q0∈R.parts,q.s=q0.s)\/∀b,ai q.s b->A.size<=b:=λq hq=>by
   unfold ah.parts ah.dM ah.put at hq
   simp only[Ku,KN,or_false] at hq
   rcases hq with rfl|rfl|rfl
   ·exact .inl ⟨R.f,by simp[ah.parts],rfl⟩
   ·exact .inl ⟨R.d,by simp[ah.parts],rfl⟩
   ·exact hs.imp (λe=>⟨R.e,by simp[ah.parts],e⟩) id
  refine hK1 (λu=>hp (hmem.2 u)) F' s' M' U' _ B (t.o0 r1.al r1.rel S1 hs' rfl rfl rfl hM) ?_ rfl (ky S1)
  have e1:(k+1)*ords.length=k*ords.length+ords.length:=Nat.succ_mul _ _
  have e2:=ok.next
  have e3:R.ords.length=ords.length:=by rw[ok.ords]
  refine⟨ok.W,ok.name,ok.size,ok.ords,ok.ex,rfl,by show nx<=_;omega,by show R.turns<=_;have:=ok.turns;omega,λq hq=>?_,ok.spec.f,ok.spec.d,λi hi y=>?_⟩
  ·unfold ah.parts ah.dM ah.put at hq
   simp only[Ku,KN,or_false] at hq
   rcases hq with rfl|rfl|rfl
   ·exact ok.parts R.f (by simp[ah.parts])
   ·exact ok.parts R.d (by simp[ah.parts])
   ·exact .inr (by rw[I1.len,ok.ords])
  ·show y∈q'.aH i↔_
   have hi':i<R.ords.length:=hi
   rw[(I1.rows i hi').1 y,show (R.get 2).aH i=R.e.aH i from rfl,ok.spec.e i hi' y]
   show y=aL ll (R.ords.getD i [])\/_↔∃x∈Sn++[ll],y=aL x (R.ords.getD i [])
   constructor
   ·rintro(e|⟨x,h1,h2⟩)
    ·exact⟨ll,by simp,e⟩
    ·exact⟨x,Kk.2 (.inl h1),h2⟩
   ·rintro⟨x,h1,h2⟩
    rcases Kk.1 h1 with u|u
    ·exact .inr ⟨x,u,h2⟩
    ·rw[Lc.1 u] at h2;exact .inl h2
end
theorem iX {α:Type}{l m:List α}(h1:l.Nodup)(h2:m.Nodup)(h:∀x,x∈l↔x∈m):l.length=m.length:=
 Nat.le_antisymm (gz h1 λa ha=>(h a).1 ha) (gz h2 λa ha=>(h a).2 ha)
section
variable {H0 A B:aa}{F F' E X:Nat->Prop}{p dp U U' m m' k k':Nat}{s s':Pl}{M M':aU}{R R' T:ah}{nm nm':ByteArray}{ords ords' So Sd Sn So' Sd' Sn':List (List Int)}
theorem bD.Cm (hr:aO H0 A F p M R){q:aE}(hq:q∈R.parts):gS q.rows:=by
 rw[jB]
 exact ji (P:=gS) hq Oh (λt ht=>(hr.tr t ht).AQ) 0
theorem bD.lens (ok:bD R nm ords So Sd Sn k)(o:gm ords)(dat:rF So Sd Sn)(hr:aO H0 A F p M R):R.f.rows.length=So.length/\R.d.rows.length=Sd.length/\R.e.rows.length=Sn.length:=by
 have nd:=dat.nodup
 obtain⟨h1,h2,_⟩:=La.1 nd
 obtain⟨h3,h4,_⟩:=La.1 h1
 have a:=λq hq=>iU (bD.Cm (q:=q) hr hq)
 exact⟨iX (a _ (by simp[ah.parts])) h3 λx=>(ok.iW o dat x).1,iX (a _ (by simp[ah.parts])) h4 λx=>(ok.iW o dat x).2.1,iX (a _ (by simp[ah.parts])) h2 λx=>(ok.iW o dat x).2.2⟩
set_option maxRecDepth 10000 in
theorem TS.dB {v:Nat}{K:(Int×Int)->aa->Prop}(t:TS H0 A F E p dp s M U m R T)(ok:bD R nm ords So Sd Sn k)(okT:bD T nm' ords' So' Sd' Sn' k')(o:gm ords)(o':gm ords')(dat:rF So Sd Sn)(dat':rF So' Sd' Sn')(hg:Gl H0)(hpw:Pw H0)(hv:v=2000000)(hk:k<=250)(hm:m+v*(Sd.length+2)<=30000000000)
  (hK:∀F' s' M' U' R' B,TS H0 B F' E p dp s' M' U' (m+v*(Sd.length+2)) R' T->bD R' nm ords (So++Sd) Sn [] (k+Sd.length+1)->R'.rb=R.rb->Step (bz F R T) (bz F' R' T) A B->K ((Sn.length:Int),0) B):ss.sp (aD R.rb) A K:=by
 have hra:aO H0 A F p M R:=t.ra.less λb u=>.inl u
 have sm:=ok.small dat hra
 have smT:=okT.small dat' t.rb
 have hoh:=o.hi
 have hkn:R.next<=750:=by
  have:=ok.next
  have h2:k*ords.length<=250*3:=Nb hk hoh
  omega
 have fit:=ok.fit dat hra (by omega)
 have hcT:=okT.count dat' o' t.rb
 have hcR:=ok.count dat o hra
 have BW:=t.BW smT.rows (by omega)
 have hol:R.ords.length<=3:=by rw[ok.ords];exact hoh
 have hlo:1<=R.ords.length:=by rw[ok.ords];exact o.lo
 obtain⟨lf,ld,le⟩:=ok.lens o dat hra
 have few:=dat.few
 have hb1:T.all.length*(2*80+2)<=9*(2*80+2):=K2 _ hcT
 have hb2:3*R.ords.length*(2*80+2)<=9*(2*80+2):=K2 _ (by omega)
 have hb3:R.ords.length*(2*80+6)<=3*(2*80+6):=K2 _ hol
 have hb4:(R.d.rows.length+1)*R.ords.length<=81*3:=Nb (by omega) hol
 have htu:R.turns<=1000000:=by have:=ok.turns;omega
 have hfl:∀i,i<R.ords.length->(R.f.aH i).length+R.d.rows.length<=80:=λi _=>by
  have:=ok.yJ hra (q:=R.f) (by simp[ah.parts]) ok.spec.f i
  omega
 refine vO (w:=80) (v:=v) (c:=1100) ⟨t.al,hra,BW.nW hra (by omega)⟩ hg hpw hv fit BW sm hfl (by decide) (by decide) (by omega) (by omega) hlo ok.nb (by omega) (by rw[ld];exact hm) htu (λy hy hf=>ok.vJ o hy hf) λF' s' M' U' q' nx nb B r1 P1 hs1 hnx S1 hM=>?_
 rw[le]
 rw[ld] at r1
 have hs':∀q∈(R.after q' nx nb).parts,(∃q0∈R.parts,q.s=q0.s)\/∀b,ai q.s b->A.size<=b:=λq hq=>by
  unfold ah.parts ah.after at hq
  simp only[Ku,KN,or_false] at hq
  rcases hq with rfl|rfl|rfl
  ·exact hs1.imp (λe=>⟨R.f,by simp[ah.parts],e⟩) id
  ·exact .inl ⟨R.e,by simp[ah.parts],rfl⟩
  ·exact .inr λb hb=>by obtain⟨ad,h,_⟩:=hb;cases h
 refine hK F' s' M' U' _ B (t.o0 r1.al r1.rel S1 hs' rfl rfl rfl hM) ?_ rfl (ky S1)
 have e1:(k+Sd.length+1)*ords.length=k*ords.length+Sd.length*ords.length+ords.length:=by rw[MZ,MZ,Nat.one_mul]
 have e2:=ok.next
 have e3:R.ords.length=ords.length:=by rw[ok.ords]
 rw[ld,e3] at hnx
 refine⟨ok.W,ok.name,ok.size,ok.ords,ok.ex,rfl,by show nx<=_;omega,by show R.turns+1<=_;have:=ok.turns;omega,λq hq=>?_,λi hi y=>?_,ok.spec.e,λi hi y=>?_⟩
 ·unfold ah.parts ah.after at hq
  simp only[Ku,KN,or_false] at hq
  rcases hq with rfl|rfl|rfl
  ·rw[<-ok.ords];exact P1.ts
  ·exact ok.parts R.e (by simp[ah.parts])
  ·exact .inl rfl
 ·show y∈q'.aH i↔∃x∈So++Sd,y=aL x (R.ords.getD i [])
  have hi':i<R.ords.length:=hi
  rw[P1.mem i hi' y,ok.spec.f i hi' y]
  constructor
  ·rintro(⟨x,h1,h2⟩|⟨x,h1,h2⟩)
   ·exact⟨x,Kk.2 (.inl h1),h2⟩
   ·exact⟨x,Kk.2 (.inr ((ok.iW o dat x).2.1.1 h1)),h2⟩
  ·rintro⟨x,h1,h2⟩
   rcases Kk.1 h1 with u|u
   ·exact .inl ⟨x,u,h2⟩
   ·exact .inr ⟨x,(ok.iW o dat x).2.1.2 u,h2⟩
 ·constructor
  ·intro h
   have h:y∈([]:List (List Int)):=h
   cases h
  ·rintro⟨x,h,_⟩
   cases h
theorem TS.told {v:Nat}{n:Int}{cols words:Sl}{cl wl:List Int}{K:(Sl×Bool)->aa->Prop}(t:TS H0 A F E p dp s M U m R T)(ok:bD R nm ords So Sd Sn k)(okT:bD T nm' ords' So' Sd' Sn' k')(o:gm ords)(o':gm ords')(dat:rF So Sd Sn)(dat':rF So' Sd' Sn')(hg:Gl H0)(hv:v=1000000)(hk:k<=250)(hm:m+v*3*(2*80+1)<=30000000000)(hn:n=1\/n=2\/n=3)
  (hc:Ints .i64 A cols cl) (hcc:cols.n<=cols.c) (hw:Ints .u64 A words wl) (hcl:cl=[]/\wl=[]\/∃col w,cl=[col]/\wl=[w]/\0<=col/\col<3)
  (hK:∀F' s' out L B,TS H0 B F' E p dp s' M U (m+v*3*(2*80+1)) R T->gh (λb=>bz F' R T b\/E b) B out L->L.Nodup->(∀x,x∈L↔x∈jt n So Sd/\aL x cl=wl)->(cl=[]->gS L)->Step (bz F R T) (bz F' R T) A B->K (out,true) B):AJ.sp (aD R.rb) n cols words A K:=by
 have hra:aO H0 A F p M R:=t.ra.less λb u=>.inl u
 have sm:=ok.small dat hra
 have smT:=okT.small dat' t.rb
 have hoh:=o.hi
 have hkn:R.next<=750:=by
  have:=ok.next
  have h2:k*ords.length<=250*3:=Nb hk hoh
  omega
 have fit:=ok.fit dat hra (by omega)
 have hcT:=okT.count dat' o' t.rb
 have hcR:=ok.count dat o hra
 have BW:=t.BW smT.rows (by omega)
 have hol:R.ords.length<=3:=by rw[ok.ords];exact hoh
 have hlo:1<=R.ords.length:=by rw[ok.ords];exact o.lo
 have hask:R.asked n≠[]:=by
  unfold ah.asked
  rcases hn with rfl|rfl|rfl<;>simp
 have hcll:cl.length<=1/\wl.length=cl.length/\(∀x∈cl,0<=x/\x<(R.W:Int))/\cl.Nodup:=by
  rw[ok.W]
  rcases hcl with ⟨rfl,rfl⟩|⟨col,w,rfl,rfl,h1,h2⟩
  ·exact⟨by simp,rfl,λx hx=>absurd hx KN,MF⟩
  ·refine⟨by simp,rfl,λx hx=>?_,by simp⟩
   rw[Lc.1 hx]
   exact⟨h1,h2⟩
 refine EO (V:=λb=>T.O b\/E b) (w:=80) (v:=v) (c:=1100) ⟨t.al,hra,BW.nW hra (by omega)⟩ (λb hb=>?_) t.ra hask hg hv fit (by decide) sm (by decide) hm (by omega) hlo (λx hx=>?_) hc hcc hw hcll.2.1 hcll.2.2.1 hcll.2.2.2 (by rw[ok.W];omega) λF' s' out L B p1 r1 rx T1 S1=>?_
 ·rcases hb with u|u
  ·exact⟨t.rb.lt b u,λw=>(t.rb.off b u).1 (.inl w),(t.rb.off b u).2⟩
  ·exact t.beside b u
 ·have:=rZ (o.mem x (by rw[<-ok.ords];exact hx))
  rw[ok.W]
  exact this
 ·have hx3:∀x∈So++Sd,x.length=3:=λx hx=>(dat.mem x (Kk.2 (.inl hx))).1
  obtain⟨g1,g2,g3⟩:=Ba T1 ok.W (λx hx=>o.mem x (by rw[<-ok.ords];exact hx)) (by rw[ok.ords];exact o.first) ok.spec hx3 (La.1 dat.nodup).1 (λx hx=>(hra.tr x hx).AQ) (λx hx y hy=>by rw[((hra.tr x hx).rows y hy).1];exact ok.W) (hcl.imp id λ⟨col,w,a,b,_⟩=>⟨col,w,a,b⟩)
  refine hK F' s' out L B (t.o0 p1 (r1.less λb u=>.inl u) S1 (λq hq=>.inl ⟨q,hq,rfl⟩) rfl rfl rfl λ_ _=>rfl) (rx.less λb _ u=>?_) g1 g2 g3 (ky S1)
  rcases u with (u|u)|u
  ·exact .inl u
  ·exact .inr (.inl u)
  ·exact .inr (.inr u)
end
def ie:aU:=λ_=>none
theorem Ib {H A:aa}{F:Nat->Prop}{p dp:Nat}(e:Ext H A)(hp:an F A p dp (rj (uM 60) 8))(ho:∀b,F b->H.size<=b):aJ H A F p dp (rj (uM 60) 8) ie 60 0 8 1:=
 ⟨e,hp,ho,⟨⟨rfl,rfl,rfl,by decide,by decide,MF,λi f hf=>(by cases hf),λn x hx=>(by cases hx),λg hg=>(by cases hg)⟩,xv (by decide) (by decide),λf hf=>(by cases hf)⟩,by decide,by decide,by decide,by decide,λn x hx=>(by cases hx),rfl⟩
theorem iN {A:aa}{k:Nat}{t:TypeId}{ik:IntKind}{x y:Int}(r:ag A k t #[.int ik x,.int ik y]):Ints ik A ⟨some ⟨k,0,none⟩,2,2⟩ [x,y]:=by
 refine⟨rfl,λi u hu=>⟨_,rfl,?_⟩⟩
 have hi:i=0\/i=1:=by have:=(Kj.1 hu).1;simp at this;omega
 rcases hi with rfl|rfl
 ·simp at hu;subst hu
  rw[bq];exact r.cell rfl
 ·simp at hu;subst hu
  rw[bq];exact r.cell rfl
theorem gD {A:aa}{k:Nat}{t:TypeId}{ik:IntKind}{x:Int}(r:ag A k t #[.int ik x]):Ints ik A ⟨some ⟨k,0,none⟩,1,1⟩ [x]:=by
 refine⟨rfl,λi u hu=>⟨_,rfl,?_⟩⟩
 have hi:i=0:=by have:=(Kj.1 hu).1;simp at this;omega
 subst hi
 simp at hu;subst hu
 rw[bq];exact r.cell rfl
theorem iF {x:List Int}{W:Nat}(hp:x.Perm (upto W)):(x.mergeSort λa b=>decide (a<=b))=upto W:=by
 have tr:∀a b c:Int,decide (a<=b)=true->decide (b<=c)=true->decide (a<=c)=true:=λa b c h1 h2=>by simp only[decide_eq_true_eq] at*;omega
 have to:∀a b:Int,(decide (a<=b)||decide (b<=a))=true:=λa b=>by simp only[Bool.or_eq_true,decide_eq_true_eq];omega
 refine List.Perm.eq_of_pairwise (le:=λa b=>decide (a<=b)=true) (λa b _ _ h1 h2=>?_) (List.pairwise_mergeSort tr to x) ?_ ((List.mergeSort_perm x _).trans hp)
 ·simp only[decide_eq_true_eq] at h1 h2;omega
 ·unfold upto
  rw[Mi]
  exact OY (λ{a b} h=>decide_eq_true (by omega)) (List.pairwise_lt_range (n:=W))
def ml:List (List Int):=[[0,1],[1,0]]
section
variable {H0 A B D:aa}{F F' X:Nat->Prop}{p dp Q U most m c:Nat}{s s':Pl}{M M':aU}{R:ah}{C:bc}{ll:List Int}{l:Sl}
theorem yb {k a b:Nat}(r:ag A k gy #[.slice (some ⟨a,0,none⟩) 2 2,.slice (some ⟨b,0,none⟩) 2 2]) (ra:ag A a dA #[.int .i64 0,.int .i64 1]) (rb:ag A b dA #[.int .i64 1,.int .i64 0]):jM (λ_=>False) A ⟨some ⟨k,0,none⟩,2,2⟩ ml:=by
 refine⟨rfl,λad ha=>?_,λi hi=>?_⟩
 ·have:ad=⟨k,0,none⟩:=(Kq ha).symm
  subst this
  exact⟨aG r,id⟩
 ·have hi:i=0\/i=1:=by
   have:i<2:=hi
   omega
  rcases hi with rfl|rfl
  ·exact⟨_,⟨some ⟨a,0,none⟩,2,2⟩,rfl,by rw[bq];exact r.cell rfl,λad ha=>⟨by have:=(Kq ha).symm;subst this;exact aG ra,id⟩,iN ra,Kl _⟩
  ·exact⟨_,⟨some ⟨b,0,none⟩,2,2⟩,rfl,by rw[bq];exact r.cell rfl,λad ha=>⟨by have:=(Kq ha).symm;subst this;exact aG rb,id⟩,iN rb,Kl _⟩
theorem yv {t:TypeId}{cs:Array Value}{n c:Nat}{Y:Nat->Prop}(hY:∀b,Y b->b<A.size)(r:ag B A.size t cs):fL Y B ⟨some ⟨A.size,0,none⟩,n,c⟩:=λad ha=>by
 have:ad=⟨A.size,0,none⟩:=(Kq ha).symm
 subst this
 exact⟨aG r,λu=>by have:=hY _ u;simp at this⟩
theorem zh {x y:Int}(hx:0<=x/\x<100)(hy:0<=y/\y<100):∀i (hi:i<ml.length),ml[i].length<=1000/\(aL [x,y] ml[i]).length=2/\bQ (aL [x,y] ml[i]):=by
 intro i hi
 have hi':i=0\/i=1:=by
  have:i<2:=hi
  omega
 have e0:aL [x,y] [0,1]=[x,y]:=by simp[aL,dI]
 have e1:aL [x,y] [1,0]=[y,x]:=by simp[aL,dI]
 have hf:∀a b:Int,(0<=a/\a<100)->(0<=b/\b<100)->bQ [a,b]:=λa b ha hb z hz=>by
  simp at hz
  rcases hz with rfl|rfl<;>omega
 rcases hi' with rfl|rfl
 ·show 2<=1000/\(aL [x,y] [0,1]).length=2/\_
  exact⟨by decide,by rw[e0];rfl,by show bQ (aL [x,y] [0,1]);rw[e0];exact hf _ _ hx hy⟩
 ·show 2<=1000/\(aL [x,y] [1,0]).length=2/\_
  exact⟨by decide,by rw[e1];rfl,by show bQ (aL [x,y] [1,0]);rw[e1];exact hf _ _ hy hx⟩
theorem jo {q:aE}{i:Nat}{t:Tx}(h:q.ts[i]?=some t):q.aH i=t.L:=by unfold aE.aH;rw[h]
theorem BU {R:ah}(hW:R.W=2)(hn:R.name.size<=90)(hnb:R.nb<=1000)(hf:R.f.ts=[])(hd:R.d.ts=[])(hx:R.ex=[])(he:∀i,(R.e.aH i).length<=400):R.Fit:=by
 refine⟨by omega,hn,hnb,λt ht=>?_⟩
 unfold ah.all at ht
 rw[hf,hd,hx] at ht
 simp only[LN,Lu] at ht
 obtain⟨i,hi⟩:=Ko.1 ht
 rw[<-jo hi]
 exact he i
theorem oU {q:aE}{i:Nat}(h:q.ts.length<=i):q.aH i=[]:=by unfold aE.aH;rw[List.getElem?_eq_none h]
theorem yo:gS [[4,2],[5,1]]/\gS [[1,5],[2,4]]:=by
 constructor<;>(unfold gS;simp[je,aP])
set_option maxHeartbeats 4000000 in
set_option maxRecDepth 10000 in
theorem yV {H:aa}{K:Bool->aa->Prop}(hg:Gl H)(hpw:Pw H)(hK:∀B,Ext H B->K true B):Gj.sp H K:=by
 refine Gj.of ?_
 unfold Gj.vc
 refine BS (by decide) λF1 d H1 a1 e1 f1=>?_
 refine TP.new (m:=8) hg e1 a1 f1 (by decide) (by decide) λp H2 t2=>?_
 obtain⟨e2,F2,p2,f2⟩:=t2
 have P2:=Ib e2 p2 f2
 refine ar λH3 z3 r3 e3=>?_
 refine ar λH4 z4 r4 e4=>?_
 refine ar λH5 z5 r5 e5=>?_
 have e35:=(e3.trans e4).trans e5
 have P5:=P2.grow e35
 have ho:=yb r5 ((r3.ext e4).ext e5) (r4.ext e5)
 refine mS (F:=F2) (M:=ie) (p:=p) (H0:=H) (W:=2) (by decide) ho (by decide) (by decide) (λx hx=>?_) rfl P5.al.lt P5.ext.size (λ_=>rfl) λR H6 n6 r6 e6 o6=>?_
 ·have:x=[0,1]\/x=[1,0]:=by unfold ml at hx;simpa using hx
  rcases this with rfl|rfl
  ·exact⟨rfl,iF (Ol _)⟩
  ·exact⟨rfl,iF (List.Perm.swap _ _ _)⟩
 refine ax rfl (ax rfl ?_)
 have RP6:eS H H6 F2 p d (rj (uM 60) 8) ie 60 0 8 1 0 R:=⟨P5.grow e6,r6,⟨[],λa y hy=>(by cases hy),Kl _⟩⟩
 have hW:R.W=2:=n6.W
 have hords:R.ords=ml:=n6.ords
 have hol:R.ords.length=2:=by rw[hords];rfl
 have hnm:R.name.size<=90:=by rw[n6.name];decide
 have hnb:R.nb=R.next:=n6.nb.trans n6.next.symm
 have hnext:R.next=0:=n6.next
 have turnO:∀{x y:Int},(0<=x/\x<100)->(0<=y/\y<100)->∀i (hi:i<R.ords.length),R.ords[i].length<=1000/\(aL [x,y] R.ords[i]).length=R.W/\bQ (aL [x,y] R.ords[i]):=by
  intro x y hx hy i hi
  have:=zh hx hy i (by rw[<-hords];exact hi)
  simpa only[hords,hW] using this
 have rE0:∀i,R.e.aH i=[]:=λi=>by unfold aE.aH;rw[n6.e];simp
 -- the first row
 refine ar λH7 z7 r7 e7=>?_
 have RP7:=RP6.grow e7
 refine nF (w:=0) RP7 hg hpw (BU hW hnm (by omega) n6.f n6.d n6.ex λi=>by rw[rE0];decide) (by decide) (by decide) (λi=>by show (R.e.aH i).length<=0;rw[rE0];decide) (by decide) (by rw[hol];decide) (by rw[hol];decide) (by rw[hol];decide) (.inl n6.e) n6.ex hnb (by omega) (iN r7) (yv RP6.I7 r7) (by rw[hW];rfl) (turnO (by decide) (by decide)) (λhex=>?_) (λ_ F8 s8 M8 U8 q8 nx8 H8 RP8 I8 u8 hnx8 S8 _ _=>?_)
 ·exfalso
  obtain⟨q,hq,hm⟩:=hex
  unfold ah.parts at hq
  simp only[Ku,KN,or_false] at hq
  rcases hq with rfl|rfl|rfl
  ·unfold aE.rows at hm;rw[n6.f] at hm;cases hm
  ·unfold aE.rows at hm;rw[n6.d] at hm;cases hm
  ·unfold aE.rows at hm;rw[n6.e] at hm;cases hm
 have I8:Ins R.ords [1,5] R.e q8:=I8
 have RP8:eS H H8 F8 p d s8 M8 60 U8 8 (1+4000000) (0+R.ords.length) ((R.put 2 q8).dM nx8 nx8):=RP8
 obtain⟨R8,hR8⟩:∃R8,R8=(R.put 2 q8).dM nx8 nx8:=⟨_,rfl⟩
 rw[<-hR8] at RP8 S8
 have g1:R8.rb=R.rb:=by rw[hR8];rfl
 have g2:R8.ords=R.ords:=by rw[hR8];rfl
 have g3:R8.f=R.f:=by rw[hR8];rfl
 have g4:R8.d=R.d:=by rw[hR8];rfl
 have g5:R8.e=q8:=by rw[hR8];rfl
 have g6:R8.ex=R.ex:=by rw[hR8];rfl
 have g7:R8.W=R.W:=by rw[hR8];rfl
 have g8:R8.name=R.name:=by rw[hR8];rfl
 have g9:R8.nb=nx8/\R8.next=nx8/\R8.turns=R.turns:=by rw[hR8];exact⟨rfl,rfl,rfl⟩
 have q8l:q8.ts.length=2:=by rw[I8.len,hol]
 have t15:aL [1,5] (R.ords.getD 0 [])=[1,5]/\aL [1,5] (R.ords.getD 1 [])=[5,1]/\aL [2,4] (R.ords.getD 0 [])=[2,4]/\aL [2,4] (R.ords.getD 1 [])=[4,2]:=by
  rw[hords];exact⟨by decide,by decide,by decide,by decide⟩
 have len8:∀i,(q8.aH i).length<=1:=λi=>by
  by_cases hi:i<2
  ·have:=(I8.rows i (by omega)).2
   rw[rE0] at this;exact this
  ·rw[oU (by omega)];exact KU _
 rw[<-g1]
 -- the second row
 refine ar λH9 z9 r9 e9=>?_
 have RP9:=RP8.grow e9
 refine nF (w:=1) RP9 hg hpw (BU (by rw[g7];exact hW) (by rw[g8];exact hnm) (by rw[g9.1];omega) (by rw[g3];exact n6.f) (by rw[g4];exact n6.d) (by rw[g6];exact n6.ex) λi=>by rw[g5];have:=len8 i;omega) (by decide) (by decide) (λi=>by show (R8.e.aH i).length<=1;rw[g5];exact len8 i) (by decide) (by rw[g2,hol];rw[hol] at u8;omega) (by rw[g2,hol];decide) (by rw[g2,hol];decide) (.inr (by show R8.e.ts.length=_;rw[g5,g2,hol];exact q8l)) (by rw[g6];exact n6.ex) (by rw[g9.1,g9.2.1]) (by rw[g9.2.1,g2,hol];omega) (iN r9) (yv RP8.I7 r9) (by rw[g7,hW];rfl) (λi hi=>by
   have:=turnO (x:=2) (y:=4) (by decide) (by decide) i (by rw[<-g2];exact hi)
   simpa only[g2,g7] using this) (λhex=>?_) (λ_ F10 s10 M10 U10 q10 nx10 H10 RP10 I10 u10 hnx10 S10 _ _=>?_)
 ·exfalso
  obtain⟨q,hq,hm⟩:=hex
  unfold ah.parts at hq
  simp only[Ku,KN,or_false] at hq
  rcases hq with rfl|rfl|rfl
  ·unfold aE.rows at hm;rw[g3,n6.f] at hm;cases hm
  ·unfold aE.rows at hm;rw[g4,n6.d] at hm;cases hm
  ·rw[jB,g5] at hm
   have:=((I8.rows 0 (by omega)).1 [2,4]).1 hm
   rw[t15.1,rE0] at this
   rcases this with u|u
   ·exact absurd u (by decide)
   ·cases u
 have I10:Ins R8.ords [2,4] R8.e q10:=I10
 rw[g2,g5] at I10
 obtain⟨R10,hR10⟩:∃R10,R10=(R8.put 2 q10).dM nx10 nx10:=⟨_,rfl⟩
 rw[<-hR10] at RP10 S10
 have k1:R10.rb=R8.rb:=by rw[hR10];rfl
 have k2:R10.ords=R.ords:=by rw[hR10];exact g2
 have k3:R10.f=R.f:=by rw[hR10];exact g3
 have k4:R10.d=R.d:=by rw[hR10];exact g4
 have k5:R10.e=q10:=by rw[hR10];rfl
 have k6:R10.ex=R.ex:=by rw[hR10];exact g6
 have k7:R10.W=2:=by rw[hR10];exact g7.trans hW
 have k8:R10.name=R.name:=by rw[hR10];exact g8
 have k9:R10.nb=nx10/\R10.turns=0:=by rw[hR10];exact⟨rfl,g9.2.2.trans n6.turns⟩
 have q10l:q10.ts.length=2:=by rw[I10.len,hol]
 -- the rows in its trees
 have plus:∀i,i<2->∀y,y∈q10.aH i↔y=aL [2,4] (R.ords.getD i [])\/y=aL [1,5] (R.ords.getD i []):=λi hi y=>by
  have h1:=(I10.rows i (by omega)).1 y
  have h2:=(I8.rows i (by omega)).1 y
  rw[rE0] at h2
  rw[h1,h2]
  exact⟨λu=>u.imp id λv=>v.elim id λw=>(by cases w),λu=>u.imp id .inl⟩
 have hasc:∀i,gS (q10.aH i):=λi=>by
  by_cases hi:i<q10.ts.length
  ·have ht:=Kg hi
   rw[jo ht]
   exact(RP10.rel.tr _ (ah.cI (q:=q10) (by rw[<-k5];simp[ah.parts]) _ (Kt hi))).AQ
  ·rw[oU (by omega)];exact Oh
 have L0:q10.aH 0=[[1,5],[2,4]]:=qL (hasc 0) yo.2 λy=>by
  rw[plus 0 (by decide) y,t15.1,t15.2.2.1]
  simp only[Ku,KN,or_false]
  exact⟨λu=>u.symm,λu=>u.symm⟩
 have L1:q10.aH 1=[[4,2],[5,1]]:=qL (hasc 1) yo.1 λy=>by
  rw[plus 1 (by decide) y,t15.2.1,t15.2.2.2]
  simp only[Ku,KN,or_false]
 rw[<-k1]
 -- the turn
 refine xk RP10 (by rw[k4];exact n6.d) (by rw[k9.2];decide) λnb H11 RP11 S11=>?_
 rw[jB,k5,L0]
 obtain⟨R11,hR11⟩:∃R11,R11=R10.dv nb:=⟨_,rfl⟩
 rw[<-hR11] at RP11 S11
 have m1:R11.rb=R10.rb:=by rw[hR11];rfl
 have m2:R11.ords=R.ords:=by rw[hR11];exact k2
 have m3:R11.f=R.f:=by rw[hR11];exact k3
 have m4:R11.d=q10:=by rw[hR11];exact k5
 have m5:R11.e.ts=[]:=by rw[hR11];rfl
 have m6:R11.ex=R.ex:=by rw[hR11];exact k6
 have m7:R11.W=2:=by rw[hR11];exact k7
 have m8:R11.name=R.name:=by rw[hR11];exact k8
 have m9:R11.nb=nx10:=by rw[hR11];exact k9.1
 rw[<-m1]
 have hfit:R11.Fit:=by
  refine⟨by omega,by rw[m8];exact hnm,by rw[m9];have:=g9.2.1;rw[g2,hol] at hnx10;omega,λt ht=>?_⟩
  unfold ah.all at ht
  rw[m3,n6.f,m4,m5,m6,n6.ex] at ht
  simp only[LN,Lu] at ht
  obtain⟨i,hi⟩:=Ko.1 ht
  rw[<-jo hi]
  have hi2:=(Kj.1 hi).1
  have:i=0\/i=1:=by omega
  rcases this with rfl|rfl
  ·rw[L0];decide
  ·rw[L1];decide
 -- the cursor
 refine ar λH12 z12 r12 e12=>?_
 refine ar λH13 z13 r13 e13=>?_
 have RP13:=RP11.grow (e12.trans e13)
 have hol11:R11.ords.length=2:=by rw[m2];exact hol
 have ask1:R11.asked 1=[R11.f,R11.d]:=by unfold ah.asked;rw[if_pos rfl]
 refine pd (n:=1) (cl:=[1]) (wl:=[4]) (V:=λ_=>False) RP13 (λb u=>u.elim) (RP13.rel.congr λb=>⟨.inl,λu=>u.elim id λv=>v.elim⟩) (by rw[ask1];simp) hfit (by rw[hol11];decide) (by rw[hol11];decide) (λo ho=>?_) (gD (r12.ext e13)) (Kl _) (gD r13) rfl (λx hx=>?_) (by simp) (by rw[m7];decide) (λq hq=>?_) λC H14 cm e14 o14 _ c1 c2 c3 c4 c5 c6 c7 c8 c9 c10=>?_
 ·rw[m2,hords] at ho
  have:o=[0,1]\/o=[1,0]:=by unfold ml at ho;simpa using ho
  rw[m7]
  rcases this with rfl|rfl<;>rfl
 ·have:x=1:=by simpa using hx
  rw[m7];omega
 ·rw[ask1] at hq
  simp only[Ku,KN,or_false] at hq
  rcases hq with rfl|rfl
  ·exact .inl (by rw[m3];exact n6.f)
  ·exact .inr (by rw[m4,hol11];exact q10l)
 have hO:C.order=1/\C.lowL=[4]:=by
  rcases c8 with ⟨u1,_,u3⟩|⟨u1,_,_⟩
  ·have h01:C.order=0\/C.order=1:=by omega
   rcases h01 with e|e
   ·rw[e,m2,hords] at u1
    exact absurd u1 (by decide)
   ·refine⟨e,?_⟩
    rw[u3,e,m2,hords];decide
  ·have:=u1 [1,0] (by rw[m2,hords];unfold ml;simp)
   exact absurd this (by decide)
 have eo:R11.ords[C.order]=[1,0]:=by
  have h:R11.ords[C.order]?=some [1,0]:=by rw[m2,hords,hO.1];rfl
  rw[Kg c7] at h
  exact Kq h
 obtain⟨T,hT⟩:∃T,q10.ts[1]?=some T:=⟨_,Kg (by omega)⟩
 have hTL:T.L=[[4,2],[5,1]]:=by rw[<-jo hT];exact L1
 have hmap:C.tcs.map (·.t)=[T]:=by
  rw[c9,ask1,hO.1,m3,m4]
  simp[n6.f,hT]
 obtain⟨tc,htc⟩:∃tc,C.tcs=[tc]:=by
  have hl:C.tcs.length=1:=by have:=congrArg List.length hmap;simpa using this
  match hct:C.tcs,hl with
  |[tc],_=>exact⟨tc,rfl⟩
 have htt:tc.t=T:=by rw[htc] at hmap;simpa using hmap
 obtain⟨tl1,tl2⟩:=c10 tc (by rw[htc];simp)
 rw[hO.2] at tl1
 refine ax rfl ?_
 -- what the first look finds
 have first:∀C1,fZ C C1->∃t1 h1,C1.tcs=[t1]/\C1.hs=[h1]/\t1.t=T/\t1.ll=[4,2]/\t1.strict=true/\h1.2=some [4,2]:=by
  intro C1 hbg
  obtain⟨b1,b2⟩:=hbg.new c4
  obtain⟨t1,h1,x1,x2,y1,_,y3⟩:=b2 0 tc (by rw[htc];rfl)
  have hl1:C1.tcs.length=1:=by rw[b1,htc];rfl
  have hl2:C1.hs.length=1:=by rw[hbg.len,hl1]
  have e1:C1.tcs=[t1]:=by
   match hct:C1.tcs,hl1 with
   |[z],_=>rw[hct] at x1;simp at x1;rw[x1]
  have e2:C1.hs=[h1]:=by
   match hct:C1.hs,hl2 with
   |[z],_=>rw[hct] at x2;simp at x2;rw[x2]
  have hr:tc.rest=[[4,2],[5,1]]:=by unfold TC.rest;rw[htt,hTL,tl1,tl2];decide
  rw[hr,hO.2] at y3
  rcases y3 with ⟨u,_⟩|⟨y,u1,u2,u3,u4⟩
  ·cases u
  ·have:y=[4,2]:=(Kq u1).symm
   subst this
   exact⟨t1,h1,e1,e2,y1.trans htt,u2,u3,u4⟩
 have hcl1:C.colsL.length<=1000:=by rw[c1];decide
 refine qC (w:=1000000) (RP13.al.grow e14) cm hg hfit (by decide) rfl (by rw[htc,show [tc].length=1 from rfl];decide) (by rw[htc,show [tc].length=1 from rfl];decide) c3 c7 (by rw[eo,m7];rfl) (λx hx=>?_) hcl1 (.inr ⟨c4,c6⟩) (λx hx=>?_) (λC1 hbg x hx y hy=>?_) (λC1 _ _ _ hbg hno _ _ _=>?_) (λC1 i y t r F15 s15 t2 h2 out H15 hbg hti hhi _ P15 cm15 pt15 oo15 of15 S15=>?_)
 ·rw[eo] at hx
  have:x=1\/x=0:=by simpa using hx
  rw[m7];omega
 ·rw[c5] at hx;cases hx
 ·obtain⟨t1,h1,x1,x2,x3,x4,x5,x6⟩:=first C1 hbg
  rw[x2] at hx
  have hx:x=h1:=by simpa using hx
  subst hx
  rw[x6] at hy
  have:y=[4,2]:=(Kq hy).symm
  subst this
  rw[eo,m7,c1,c2]
  exact⟨rfl,by decide⟩
 ·exfalso
  obtain⟨t1,h1,x1,x2,x3,x4,x5,x6⟩:=first C1 hbg
  have:=hno h1 (by rw[x2];simp)
  rw[x6] at this;cases this
 obtain⟨t1,h1,x1,x2,x3,x4,x5,x6⟩:=first C1 hbg
 have hi0:i=0:=by
  have:=(Kj.1 hti).1
  rw[x1] at this
  simpa using this
 subst hi0
 have ht1:t=t1:=by rw[x1] at hti;simpa using hti.symm
 subst ht1
 have hy42:y=[4,2]:=by
  rw[x2] at hhi
  have:h1=(r,some y):=by simpa using hhi
  rw[this] at x6
  simpa using x6
 subst hy42
 rw[eo,m7] at oo15
 have hh2:h2.2=none:=by
  obtain⟨_,_,y3⟩:=pt15
  have hr:t.rest=[[5,1]]:=by unfold TC.rest;rw[x3,hTL,x4,x5];decide
  rw[hr] at y3
  rcases y3 with ⟨u,_⟩|⟨y,u1,u2,u3,u4⟩
  ·cases u
  ·have:y=[5,1]:=(Kq u1).symm
   subst this
   rw[u4,hbg.lowL,hO.2];decide
 obtain⟨C2,hC2⟩:∃C2,C2=C1.with (C1.tcs.set 0 t2) (C1.hs.set 0 h2):=⟨_,rfl⟩
 rw[<-hC2] at cm15 of15 S15
 have v1:C2.cb=C.cb:=by rw[hC2];exact hbg.cb
 have v2:C2.tcs=[t2]:=by rw[hC2];show C1.tcs.set 0 t2=_;rw[x1];rfl
 have v3:C2.hs=[h2]:=by rw[hC2];show C1.hs.set 0 h2=_;rw[x2];rfl
 have v4:C2.begun=true:=by rw[hC2];exact hbg.begun
 have v5:C2.turns=R11.turns:=by rw[hC2];exact hbg.turns.trans c3
 have v6:C2.order=C.order:=by rw[hC2];exact hbg.order
 have v7:C2.colsL=C.colsL:=by rw[hC2];exact hbg.colsL
 have hol2:C2.order<R11.ords.length:=by rw[v6];exact c7
 have eo2:R11.ords[C2.order]=[1,0]:=by
  have h:R11.ords[C2.order]?=some [1,0]:=by rw[v6,m2,hords,hO.1];rfl
  rw[Kg hol2] at h
  exact Kq h
 have none2:∀C3,fZ C2 C3->∀x∈C3.hs,x.2=none:=λC3 hb3 x hx=>by
  rw[hb3.old v4,v3] at hx
  have:x=h2:=by simpa using hx
  rw[this];exact hh2
 rw[htc,show [tc].length=1 from rfl] at P15
 rw[<-v1]
 refine qC (w:=1000000) P15 cm15 hg hfit (by decide) rfl (by rw[v2,show [t2].length=1 from rfl];decide) (by rw[v2,show [t2].length=1 from rfl];decide) v5 hol2 (by rw[eo2,m7];rfl) (λx hx=>?_) (by rw[v7];exact hcl1) (.inl ⟨v4,by rw[v2,v3];rfl⟩) (λx hx y hy=>?_) (λC3 hb3 x hx y hy=>?_) (λC3 F16 s16 H16 hb3 _ P16 cm16 S16=>?_) (λC3 i3 y3 t3 r3 _ _ _ _ _ _ hb3 _ hh3 _ _ _ _ _ _ _=>?_)
 ·rw[eo2] at hx
  have:x=1\/x=0:=by simpa using hx
  rw[m7];omega
 ·rw[v3] at hx
  have:x=h2:=by simpa using hx
  rw[this,hh2] at hy;cases hy
 ·rw[none2 C3 hb3 x hx] at hy;cases hy
 ·refine aT rfl ?_
  refine ar λH17 z17 r17 e17=>?_
  have io:Ints .u64 H16 out [2,4]:=by
   have e:cZ 2 [1,0] [4,2] 2=[2,4]:=by decide
   rw[e] at oo15
   exact oo15.ints.mod (S16.full hb3.ext).mod λad ha=>(of15 _ ⟨ad,ha,rfl⟩).2
  refine jx (io.ext e17) (iN r17) (by decide) ?_
  refine aT (by decide) ?_
  have rel17:=cm16.rel.grow e17
  have ask2:R11.asked 2=[R11.d]:=by unfold ah.asked;rw[if_neg (by decide),if_pos rfl]
  have hsum:((R11.asked 2).map λq=>q.rows.length).sum=2:=by
   rw[ask2,m4]
   simp[jB,L0]
  refine vf (n:=2) rel17 (λb u=>?_) (by rw[hsum];decide) λH18 e18=>?_
  ·have hz:=e17.size
   rcases u with (u|u)|u
   ·have:=P16.al.lt b u;omega
   ·have:=cm16.lt b u;omega
   ·have:=cm16.rel.lt b u;omega
  ·rw[hsum]
   exact hK H18 ((P16.ext.trans e17).trans e18)
 ·exfalso
  have:=none2 C3 hb3 _ (Ki hh3)
  cases this
end
theorem lG {A:aa}{l x:Sl}{ls:List (List Int)}{lx:List Int}{K:Bool->aa->Prop}(h:Rows A l ls)(hn:ls.length<=1000)(hl:∀y∈ls,y.length<=1000)(hx:Ints .u64 A x lx)(hK:K (decide (lx∈ls)) A):iA.sp l x A K:=by
 refine iA.of ?_
 unfold iA.vc
 have hln:=h.len
 refine av ls.length (λi z B=>z=(i:Int)/\A=B/\lx∉ls.take i) ⟨rfl,rfl,by simp⟩ ?_
 rintro i _ _ next hi ⟨rfl,rfl,hno⟩ hnext
 refine ak (λhc=>?_) (λhc=>?_)
 ·have hlt:i<ls.length:=by
   have:(i:Int)<(l.n:Int):=by simpa using hc
   omega
  refine h.ld hlt λad r _ ri=>?_
  refine jx ri hx (by have:=hl _ (Kt hlt);omega) ?_
  refine ak (λhq=>?_) (λhq=>?_)
  ·have hq:ls[i]=lx:=of_decide_eq_true hq
   rw[decide_eq_true (hq▸Kt hlt)] at hK
   exact hK
  ·have hq:¬ls[i]=lx:=of_decide_eq_false hq
   refine hnext hlt _ _ ⟨aK i (by omega),rfl,?_⟩
   rw[Mv,Kg hlt]
   intro u
   rcases Kk.1 u with v|v
   ·exact hno v
   ·have v:lx=ls[i]:=by simpa using v
    exact hq v.symm
 ·have hie:i=ls.length:=by
   have:¬(i:Int)<(l.n:Int):=by simpa using hc
   omega
  subst hie
  rw[MP] at hno
  rw[decide_eq_false hno] at hK
  exact hK
theorem Dy {A:aa}{l q more:Sl}{ls qs ms:List (List Int)}{col word:Int}{K:Bool->aa->Prop}(h:Rows A l ls)(hq:Rows A q qs)(hm:Rows A more ms)(hn:ls.length<=1000)(hn2:qs.length<=1000)(hn3:ms.length<=1000)(hl2:∀y∈qs,y.length<=1000)(hl3:∀y∈ms,y.length<=1000)(hl:∀y∈ls,y.length=3)(hc0:0<=col)(hc3:col<3)
  (hin:∀y∈ls,y.getD col.toNat 0=word->y∈qs/\y∈ms) (hcnt:(ls.filter λy=>decide (y.getD col.toNat 0=word)).length=qs.length) (hK:K true A):Gg.sp l q more col word A K:=by
 refine Gg.of ?_
 unfold Gg.vc
 have hln:=h.len
 have hqn:=hq.len
 refine av ls.length (λi z B=>z=((((ls.take i).filter λy=>decide (y.getD col.toNat 0=word)).length:Int),(i:Int))/\A=B) ⟨by simp,rfl⟩ ?_
 rintro i _ _ next hi ⟨rfl,rfl⟩ hnext
 refine ak (λhc=>?_) (λhc=>?_)
 ·have hlt:i<ls.length:=by
   have:(i:Int)<(l.n:Int):=by simpa using hc
   omega
  have hmem:=Kt hlt
  have h3:=hl _ hmem
  have ht:ls.take (i+1)=ls.take i++[ls[i]]:=by rw[Mv,Kg hlt];rfl
  have hle:((ls.take i).filter λy=>decide (y.getD col.toNat 0=word)).length<=1000:=by
   have h5:=List.length_filter_le (λy:List Int=>decide (y.getD col.toNat 0=word)) (ls.take i)
   rw[KF] at h5
   omega
  refine⟨λc B=>A=B/\c=(((ls.take (i+1)).filter λy=>decide (y.getD col.toNat 0=word)).length:Int),?_,?_⟩
  ·refine⟨λ_ B=>A=B/\ls[i].getD col.toNat 0=word,?_,?_⟩
   ·refine h.ld hlt λad r _ ri=>?_
    refine bB ri (i:=col) (j:=col.toNat) (by omega) (by omega) λad2 _=>?_
    refine ak (λhw=>⟨rfl,?_⟩) (λhw=>⟨rfl,?_⟩)
    ·have hw:ls[i].getD col.toNat 0≠word:=by simpa using hw
     rw[ht,LI,MN,if_neg (by simpa using hw)]
     simp
    ·simpa using hw
   ·rintro _ _ ⟨rfl,hw⟩
    obtain⟨m1,m2⟩:=hin _ hmem hw
    refine h.ld hlt λad r _ ri=>?_
    refine lG hq hn2 hl2 ri ?_
    refine ax (by rw[decide_eq_true m1];rfl) ?_
    refine h.ld hlt λad2 r2 _ ri2=>?_
    refine lG hm hn3 hl3 ri2 ?_
    refine ax (by rw[decide_eq_true m2];rfl) ⟨rfl,?_⟩
    rw[ht,LI,MN,if_pos (decide_eq_true hw),Kv]
    exact aK _ (by omega)
  ·rintro _ _ ⟨rfl,rfl⟩
   refine hnext hlt _ _ ⟨?_,rfl⟩
   show (_,Ke.wrap ((i:Int)+1))=_
   rw[aK i (by omega)]
 ·have hie:i=ls.length:=by
   have:¬(i:Int)<(l.n:Int):=by simpa using hc
   omega
  subst hie
  rw[MP]
  have e:((((ls.filter λy=>decide (y.getD col.toNat 0=word)).length:Int))==(q.n:Int))=true:=by
   rw[hcnt,hqn];simp
  rw[e]
  exact hK
section
variable {H0 A B:aa}{F F' E X:Nat->Prop}{p dp U U' m m' k k':Nat}{s s':Pl}{M M':aU}{R R' T:ah}{nm nm':ByteArray}{ords ords' So Sd Sn:List (List Int)}
theorem TS.grow (h:TS H0 A F E p dp s M U m R T)(e:Ext A B):TS H0 B F E p dp s M U m R T:=
 ⟨h.al.grow e,h.ra.grow e,h.rb.grow e,h.nW,h.names,λb hb=>⟨K9 (h.beside b hb).1 e.size,(h.beside b hb).2⟩⟩
theorem jj {F F':Nat->Prop}{R R' T T':ah}(S:Step (bz F T R) (bz F' T' R') A B):Step (bz F R T) (bz F' R' T') A B:=
 S.fg (λb u=>(np _ _ _ b).1 u) λb u=>.inr ((np _ _ _ b).1 u)
theorem rF.snoc {ll:List Int}(d:rF So Sd Sn)(h:ll∉So++Sd++Sn)(h3:ll.length=3/\bQ ll)(hf:So.length+Sd.length+Sn.length<=79):rF So Sd (Sn++[ll]):=by
 refine⟨λx hx=>?_,?_,by rw[Kv,Lq];omega⟩
 ·rw[<-Lk] at hx
  rcases Kk.1 hx with u|u
  ·exact d.mem x u
  ·rw[Lc.1 u];exact h3
 ·rw[<-Lk]
  refine La.2 ⟨d.nodup,by simp,λa ha b hb e=>?_⟩
  rw[Lc.1 hb] at e
  exact h (e▸ha)
theorem TS.IS {l:Sl}{ll:List Int}{K:(Bool×Int)->(Bool×Int)->aa->Prop}(t:TS H0 A F E p dp s M U m R T)(ok:bD R nm ords So Sd Sn k)(okT:bD T nm' ords' So Sd Sn k')(o:gm ords)(o':gm ords')(dat:rF So Sd Sn)(hg:Gl H0)(hpw:Pw H0)(hk:k<=250)(hk':k'<=250)(hm:m+4000000+4000000<=30000000000)(hl:Ints .u64 A l ll)(hlo:fL (bz F R T) A l)(hll:ll.length=3/\bQ ll)(h79:So.length+Sd.length+Sn.length<=79)
  (hK0:ll∈So++Sd++Sn->∀F' s' B,TS H0 B F' E p dp s' M U (m+4000000+4000000) R T->Step (bz F R T) (bz F' R T) A B->K (false,0) (false,0) B)
  (hK1:ll∉So++Sd++Sn->∀F' s' M' U' R' T' B,TS H0 B F' E p dp s' M' U' (m+4000000+4000000) R' T'->bD R' nm ords So Sd (Sn++[ll]) (k+1)->bD T' nm' ords' So Sd (Sn++[ll]) (k'+1)->R'.rb=R.rb->T'.rb=T.rb->Step (bz F R T) (bz F' R' T') A B->K (true,0) (true,0) B):wF.sp (aD R.rb) l A λr H1=>wF.sp (aD T.rb) l H1 λr' H2=>K r r' H2:=by
 have off2:∀{F':Nat->Prop} {R':ah} {B:aa},Step (bz F R T) (bz F' R' T) A B->fL (T.X F') B l:=λS=>(hlo.step S).mono λb _ u=>by
  rcases u with u|u
  ·exact .inl (.inl u)
  ·exact .inr u
 refine t.add ok okT o o' dat dat hg hpw hk (K4 (M5 _ _) hm) hl (hlo.mono λb _ u=>.inl u) hll (λhin F1 s1 B1 t1 S1=>?_) (λhno F1 s1 M1 U1 R1 B1 t1 ok1 hrb S1=>?_)
 ·refine t1.swap.add okT ok o' o dat dat hg hpw hk' hm (hlo.ints hl S1) (off2 S1) hll (λ_ F2 s2 B2 t2 S2=>?_) (λhno _ _ _ _ _ _ _ _ _ _=>absurd hin hno)
  exact hK0 hin F2 s2 B2 t2.swap (S1.trans (jj S2))
 ·have d1:=dat.snoc hno hll h79
  refine t1.swap.add okT ok1 o' o dat d1 hg hpw hk' hm (hlo.ints hl S1) (off2 S1) hll (λhin _ _ _ _ _=>absurd hin hno) (λ_ F2 s2 M2 U2 T2 B2 t2 ok2 hrb2 S2=>?_)
  exact hK1 hno F2 s2 M2 U2 R1 T2 B2 t2.swap ok1 ok2 hrb hrb2 (S1.trans (jj S2))
end
theorem Rows.Jd {H B:aa}{s:Sl}{ls:List (List Int)}(h:Rows H s ls)(e:Ext H B):Rows B s ls:=⟨h.len,λi hi=>by
 obtain⟨ad,r,q1,q2,q3⟩:=h.at' i hi
 exact⟨ad,r,q1,e.cell q2 id,q3.ext e⟩⟩
def HP:ByteArray:=LA #[97]
def Im:ByteArray:=LA #[98]
theorem Ih (i j:Nat):cS HP i≠cS Im j:=λe=>by
 have h1:=congrArg (λb=>b.toList) e
 unfold cS at h1
 simp only[Nr,ByteArray.data_append,Array.toList_append] at h1
 have h2:=congrArg List.head? h1
 have e1:HP.data.toList=[97]:=rfl
 have e2:Im.data.toList=[98]:=rfl
 rw[e1,e2] at h2
 simp at h2
def qb:List (List Int):=[[0,1,2]]
theorem gL:gm qb:=⟨λo h=>by simp only[qb,Ku,KN,or_false] at h;subst h;simp[eQ],by decide,by decide,rfl⟩
theorem iC:gm eQ:=⟨λo h=>h,by decide,by decide,rfl⟩
structure RT (H A:aa)(F E:Nat->Prop)(p dp:Nat)(s:Pl)(M:aU)(U m:Nat)(R T:ah)(k k':Nat)(so sd sn:Sl)(lo ld ln:List (List Int)):Prop where
 t:TS H A F E p dp s M U m R T
 a:bD R HP qb lo ld ln k
 b:bD T Im eQ lo ld ln k'
 dat:rF lo ld ln
 o:cq (λb=>bz F R T b\/ai sd b\/ai sn b) A so lo
 d:cq (λb=>bz F R T b\/ai so b\/ai sn b) A sd ld
 n:cq (λb=>bz F R T b\/ai so b\/ai sd b) A sn ln
 own:∀b,ai so b\/ai sd b\/ai sn b->E b
section
variable {H A B:aa}{F F' E E':Nat->Prop}{p dp U U' m m' k k' k1 k1':Nat}{s s':Pl}{M M':aU}{R R' T T':ah}{so sd sn:Sl}{lo ld ln lo' ld' ln':List (List Int)}
theorem RT.o0 (h:RT H A F E p dp s M U m R T k k' so sd sn lo ld ln)(t:TS H B F' E p dp s' M' U' m' R' T')(a:bD R' HP qb lo ld ln k1)(b:bD T' Im eQ lo ld ln k1')(S:Step (bz F R T) (bz F' R' T') A B):RT H B F' E p dp s' M' U' m' R' T' k1 k1' so sd sn lo ld ln:=by
 have w:∀{X:Nat->Prop},Step (λb=>bz F R T b\/X b) (λb=>bz F' R' T' b\/X b) A B:=S.fg (λ_ u=>.inl u) λb u=>u.elim .inr λv=>.inl (.inr v)
 exact⟨t,a,b,h.dat,h.o.step w,h.d.step w,h.n.step w,h.own⟩
theorem RT.grow (h:RT H A F E p dp s M U m R T k k' so sd sn lo ld ln)(e:Ext A B):RT H B F E p dp s M U m R T k k' so sd sn lo ld ln:=
 h.o0 (h.t.grow e) h.a h.b (Step.bp e)
structure wP (H A:aa)(F E:Nat->Prop)(p dp:Nat)(s:Pl)(M:aU)(U m:Nat)(R T:ah)(so sd sn:Sl)(lo ld ln:List (List Int)):Prop where
 t:TS H A F E p dp s M U m R T
 o:cq (λb=>bz F R T b\/ai sd b\/ai sn b) A so lo
 d:cq (λb=>bz F R T b\/ai so b\/ai sn b) A sd ld
 n:cq (λb=>bz F R T b\/ai so b\/ai sd b) A sn ln
 own:∀b,ai so b\/ai sd b\/ai sn b->E b
theorem RT.Jk (h:RT H A F E p dp s M U m R T k k' so sd sn lo ld ln):wP H A F E p dp s M U m R T so sd sn lo ld ln:=⟨h.t,h.o,h.d,h.n,h.own⟩
theorem wP.o0 (h:wP H A F E p dp s M U m R T so sd sn lo ld ln)(t:TS H B F' E p dp s' M' U' m' R' T')(S:Step (bz F R T) (bz F' R' T') A B):wP H B F' E p dp s' M' U' m' R' T' so sd sn lo ld ln:=by
 have w:∀{X:Nat->Prop},Step (λb=>bz F R T b\/X b) (λb=>bz F' R' T' b\/X b) A B:=S.fg (λ_ u=>.inl u) λb u=>u.elim .inr λv=>.inl (.inr v)
 exact⟨t,h.o.step w,h.d.step w,h.n.step w,h.own⟩
theorem wP.lt (h:wP H A F E p dp s M U m R T so sd sn lo ld ln):∀b,bz F R T b\/ai so b\/ai sd b\/ai sn b->b<A.size:=λb u=>by
 rcases u with u|u
 ·exact(h.t.tf u).1
 ·exact(h.t.beside b (h.own b u)).1
theorem wP.snoc {ty:TypeId}{r:Sl}{l:List Int}{K:Sl->aa->Prop}(h:wP H A F E p dp s M U m R T so sd sn lo ld ln)(hn:ln.length<=1000)(hl:Ints .u64 A r l)(hr:∀ad,r.a=some ad->ad.block<A.size/\¬bz F R T ad.block/\¬E ad.block)
  (hK:∀sn' B E',wP H B F E' p dp s M U m R T so sd sn' lo ld (ln++[l])->K sn' B):aM A #[r.v] dn λp H1=>bo ao Kf (Ks #[dG,dG] ty #[sn.v,.slice (some p) 1 1]) H1 K:=by
 refine h.n.snoc hn hl (λad ha=>?_) (λb u=>?_) λsn' B nB mm hb=>?_
 ·obtain⟨a1,a2,a3⟩:=hr ad ha
  exact⟨a1,λu=>u.elim a2 λv=>a3 (h.own _ (v.elim .inl λw=>.inr (.inl w))),λu=>a3 (h.own _ (.inr (.inr u)))⟩
 ·exact h.lt b (u.elim .inl λv=>.inr (v.elim .inl λw=>.inr (.inl w)))
 ·have S1:Step (λb=>bz F R T b\/ai sd b\/ai sn b) (λb=>bz F R T b\/ai sd b\/ai sn' b) A B:=⟨mm.mono λb _ u=>.inr (.inr u),λb u=>by
   rcases u with u|u|u
   ·exact .inl (.inl u)
   ·exact .inl (.inr (.inl u))
   ·exact(hb b u).imp (λv=>.inr (.inr v)) id⟩
  have S2:Step (λb=>bz F R T b\/ai so b\/ai sn b) (λb=>bz F R T b\/ai so b\/ai sn' b) A B:=⟨mm.mono λb _ u=>.inr (.inr u),λb u=>by
   rcases u with u|u|u
   ·exact .inl (.inl u)
   ·exact .inl (.inr (.inl u))
   ·exact(hb b u).imp (λv=>.inr (.inr v)) id⟩
  refine hK sn' B _ ⟨h.t.write (X:=λb=>ai sn' b/\A.size<=b) (mm.mono λb _ u=>h.own b (.inr (.inr u))) (λb u=>⟨u.2,nB.lt b u.1⟩),h.o.step S1,h.d.step S2,nB,λb u=>?_⟩
  rcases u with u|u|u
  ·exact .inl (h.own b (.inl u))
  ·exact .inl (h.own b (.inr (.inl u)))
  ·exact(hb b u).elim (λv=>.inl (h.own b (.inr (.inr v)))) λv=>.inr ⟨u,v⟩
theorem wP.join {ty:TypeId}{K:Sl->aa->Prop}(h:wP H A F E p dp s M U m R T so sd sn lo ld ln)(hn:lo.length+ld.length<=1000)
  (hK:∀so' B E',wP H B F E' p dp s M U m R T so' sn (Sl.mk none 0 0) (lo++ld) ln []->K so' B):bo ao Kf (Ks #[dG,dG] ty #[so.v,sd.v]) A K:=by
 have nilN:∀b,¬ai (Sl.mk none 0 0) b:=λb u=>by obtain⟨ad,q,_⟩:=u;cases q
 refine(h.o.mono (X':=λb=>bz F R T b\/ai sn b) λb _ u=>u.imp id .inr).join (h.d.mono (X':=λb=>(bz F R T b\/ai sn b)\/ai so b) λb _ u=>?_) hn (λb u=>h.lt b (u.imp id λv=>.inr (.inr v))) λso' B oB mm hb=>?_
 ·rcases u with (u|u)|u
  ·exact .inl u
  ·exact .inr (.inr u)
  ·exact .inr (.inl u)
 ·have S1:Step (λb=>bz F R T b\/ai so b\/ai sd b) (λb=>bz F R T b\/ai so' b\/ai (Sl.mk none 0 0) b) A B:=⟨mm.mono λb _ u=>.inr (.inl u),λb u=>by
   rcases u with u|u|u
   ·exact .inl (.inl u)
   ·exact(hb b u).imp (λv=>.inr (.inl v)) id
   ·exact(nilN b u).elim⟩
  refine hK so' B _ ⟨h.t.write (X:=λb=>ai so' b/\A.size<=b) (mm.mono λb _ u=>h.own b (.inl u)) (λb u=>⟨u.2,oB.lt b u.1⟩),oB.mono λb _ u=>?_,h.n.step S1,cq.nil _ _,λb u=>?_⟩
  ·rcases u with u|u|u
   ·exact .inl u
   ·exact .inr u
   ·exact(nilN b u).elim
  ·rcases u with u|u|u
   ·exact(hb b u).elim (λv=>.inl (h.own b (.inl v))) λv=>.inr ⟨u,v⟩
   ·exact .inl (h.own b (.inr (.inr u)))
   ·exact(nilN b u).elim
theorem wP.back (h:wP H A F E p dp s M U m R T so sd sn lo ld ln)(a:bD R HP qb lo ld ln k)(b:bD T Im eQ lo ld ln k')(d:rF lo ld ln):RT H A F E p dp s M U m R T k k' so sd sn lo ld ln:=⟨h.t,a,b,d,h.o,h.d,h.n,h.own⟩
theorem rF.dB {So Sd Sn:List (List Int)}(d:rF So Sd Sn):rF (So++Sd) Sn []:=⟨by rw[Lu];exact d.mem,by rw[Lu];exact d.nodup,by have:=d.few;rw[Kv,List.length_nil];omega⟩
theorem TS.Ix {v:Nat}{nm nm':ByteArray}{ords ords' So Sd Sn:List (List Int)}{H0:aa}{K:(Int×Int)->(Int×Int)->aa->Prop}(t:TS H0 A F E p dp s M U m R T)(ok:bD R nm ords So Sd Sn k)(okT:bD T nm' ords' So Sd Sn k')(o:gm ords)(o':gm ords')(dat:rF So Sd Sn)(hg:Gl H0)(hpw:Pw H0)(hv:v=2000000)(hk:k<=250)(hk':k'<=250)(hm:m+v*(Sd.length+2)+v*(Sd.length+2)<=30000000000)
  (hK:∀F' s' M' U' R' T' B,TS H0 B F' E p dp s' M' U' (m+v*(Sd.length+2)+v*(Sd.length+2)) R' T'->bD R' nm ords (So++Sd) Sn [] (k+Sd.length+1)->bD T' nm' ords' (So++Sd) Sn [] (k'+Sd.length+1)->R'.rb=R.rb->T'.rb=T.rb->Step (bz F R T) (bz F' R' T') A B->K ((Sn.length:Int),0) ((Sn.length:Int),0) B):ss.sp (aD R.rb) A λr H1=>ss.sp (aD T.rb) H1 λr' H2=>K r r' H2:=by
 refine t.dB ok okT o o' dat dat hg hpw hv hk (K4 (M5 _ _) hm) λF1 s1 M1 U1 R1 B1 t1 ok1 hrb S1=>?_
 refine t1.swap.dB okT ok1 o' o dat dat.dB hg hpw hv hk' hm λF2 s2 M2 U2 T2 B2 t2 ok2 hrb2 S2=>?_
 exact hK F2 s2 M2 U2 R1 T2 B2 t2.swap ok1 ok2 hrb hrb2 (S1.trans (jj S2))
end
def nq (r:List Int):List Int:=r.take 3++KG (3 - r.length) 0
theorem BR (r:List Int):(nq r).length=3:=by unfold nq;simp;omega
theorem Ae {r:List Int}(h:bQ r):bQ (nq r):=λx hx=>by
 unfold nq at hx
 rcases Kk.1 hx with u|u
 ·exact h x (List.mem_of_mem_take u)
 ·rw[List.eq_of_mem_replicate u];omega
def Iy (H:aa)(p dp ra rb q i:Nat)(so sd sn:Sl)(A:aa):Prop:=
 ∃F E s M U m R T k k' lo ld ln c,RT H A F E p dp s M U m R T k k' so sd sn lo ld ln/\R.rb=ra/\T.rb=rb/\lo.length+ld.length+ln.length<=i/\k<=2*i+lo.length/\k'<=2*i+lo.length/\m<=1+q*c/\c<=8*i+2*lo.length
section
variable {H A:aa}{p dp ra rb q i:Nat}{so sd sn:Sl}
set_option maxRecDepth 20000 in
set_option maxHeartbeats 4000000 in
theorem GN {rows:Sl}{rl:List (List Int)}{ev:Int}{J:(Sl×Sl×Sl×Bool×Sl×Sl×Bool×Bool×Bool×Bool×Bool×Bool)->aa->Prop}{N:aa->Prop}(I:Iy H p dp ra rb q i so sd sn A)(hg:Gl H)(hpw:Pw H)(hq:q=2000000)(hr:Rows H rows rl)(hf:∀y∈rl,bQ y)(hi:i<rl.length)(hi80:i<80)(hev:ev≠0)
  (hJ:∀z B,Iy H p dp ra rb q (i+1) z.1 z.2.1 z.2.2.1 B->J z B):
  bo ao Kf (Instr.makeSlice dn (.int .i64 (3:Int)) (.int .i64 (3:Int))) A λ(l:Sl) H58=>ae rows.a λa_24=>(0<=(i:Int)/\(i:Int)<(rows.n:Int))/\ld ao H58 (a_24.add ((i:Int).toNat*1)) λ(x_24:Sl)=>bo (af .i64) Kf (Li #[dn,dn] dA #[l.v,x_24.v]) H58 λ(_:Int) H59=>wF.sp (aD ra) l H59 λ(r_35:(Bool×Int)) H60=>wF.sp (aD rb) l H60 λ(r_36:(Bool×Int)) H61=>cut (Bool×Sl×Sl×Bool×Bool×Bool×Bool×Bool×Bool) (λJ_7=>br (((r_35.2!=(0:Int))||(r_36.2!=(0:Int)))||(!(r_35.1==r_36.1))) (N H61) (iA.sp so l H61 λ(r_37:Bool) H63=>br r_37 (br (r_35.1==true) (N H63) (J_7 (r_35.1,so,l,r_37,true,true,true,true,r_35.1==true) H63)) (iA.sp sd l H63 λ(r_38:Bool) H64=>br r_38 (br (r_35.1==true) (N H64) (J_7 (r_35.1,so,l,r_37,false,r_38,true,true,r_35.1==true) H64)) (iA.sp sn l H64 λ(r_39:Bool) H65=>br (r_35.1==r_39) (N H65) (J_7 (r_35.1,so,l,r_37,false,r_38,false,r_39,r_35.1==r_39) H65))))) λ(z_8:(Bool×Sl×Sl×Bool×Bool×Bool×Bool×Bool×Bool)) H62=>cut Sl (λJ_8=>br r_35.1 (aM H62 #[l.v] dn λp_10 H67=>bo ao Kf (Ks #[dG,dG] dG #[sn.v,(.slice (some p_10) 1 1)]) H67 λ(now:Sl) H68=>J_8 now H68) (J_8 sn H62)) λ(z_9:Sl) H66=>ev≠0/\br ((Int.tmod (i:Int) ev)==(Ke.wrap (ev - (1:Int)))) (ss.sp (aD ra) H66 λ(r_40:(Int×Int)) H69=>ss.sp (aD rb) H69 λ(r_41:(Int×Int)) H70=>bo ao Kf (Ks #[dG,dG] dG #[so.v,sd.v]) H70 λ(old:Sl) H71=>br ((((r_40.2!=(0:Int))||(r_41.2!=(0:Int)))||(r_40.1!=(z_9.n:Int)))||(r_41.1!=r_40.1)) (N H71) (J (old,z_9,(Sl.mk none 0 0),z_8.1,z_8.2.1,z_8.2.2.1,z_8.2.2.2.1,z_8.2.2.2.2.1,z_8.2.2.2.2.2.1,z_8.2.2.2.2.2.2.1,z_8.2.2.2.2.2.2.2.1,z_8.2.2.2.2.2.2.2.2) H71)) (J (so,sd,z_9,z_8.1,z_8.2.1,z_8.2.2.1,z_8.2.2.2.1,z_8.2.2.2.2.1,z_8.2.2.2.2.2.1,z_8.2.2.2.2.2.2.1,z_8.2.2.2.2.2.2.2.1,z_8.2.2.2.2.2.2.2.2) H66):=by
 obtain⟨F,E,s,M,U,m,R,T,k,k',lo,ld,ln,c,rt,rfl,rfl,hlen,hk,hk',hm,hc⟩:=I
 have hc8:c<=1000:=by omega
 have hqc:q*c<=q*1000:=LM _ hc8
 have hq1:q*1000=2000000000:=by rw[hq]
 have hext:=rt.t.al.ext
 have hrn:=hr.len
 -- the row
 refine iY.make (base:=A.size) (by omega) (Int.le_refl _) (by omega) (by omega) (Kl _) λx A1 lx o1 e1 f1 _=>?_
 have z1:=e1.size
 refine(Rows.Jd hr (hext.trans e1)).ld hi λad r _ ri=>?_
 have hcs:((rl[i].take 3).map (Km .u64)).length=Nat.min r.n x.n:=by
  rw[KM,KF,lx,ri.len]
  show min _ _=min _ _
  exact Nat.min_comm _ _
 have hrd:Reads A1 r.a ((rl[i].take 3).map (Km .u64)):=by
  have:=ri.reads.take 3
  rwa [<-List.map_take] at this
 refine az.qw (o:=0) (s:=x) (dl:=x.n) (dc:=x.c) (by kernel_rfl) (by kernel_rfl) o1 (λ_=>?_) hrd hcs (by
  have:=Nat.min_le_right r.n x.n
  rw[hcs];show 0+min r.n x.n<=x.n;omega) (λv hv=>?_) λA2 o2 m2 s2=>?_
 ·cases hxa2:x.a with
  |none=>rfl
  |some a=>rfl
 ·obtain⟨y,_,rfl⟩:=Kz.1 hv
  rfl
 have e4:(KG ((3:Int).toNat) (Km .u64 0)).take 0++(rl[i].take 3).map (Km .u64)++(KG ((3:Int).toNat) (Km .u64 0)).drop (0+((rl[i].take 3).map (Km .u64)).length)=(nq rl[i]).map (Km .u64):=by
  unfold nq
  rw[List.take_zero,LN,KX,List.map_replicate,List.drop_replicate,KM,KF]
  congr 2
  show 3 - _=_
  omega
 rw[e4] at o2
 have e2:Ext A A2:=(e1.mod.trans m2).ext f1
 have rt2:=rt.grow e2
 have hl3:(nq rl[i]).length=3/\bQ (nq rl[i]):=⟨BR _,Ae (hf _ (Kt hi))⟩
 have hxb:∀ad,x.a=some ad->A.size<=ad.block/\ad.block<A2.size:=λad ha=>⟨f1 _ ⟨ad,ha,rfl⟩,(o2.block _ ⟨ad,ha,rfl⟩).2⟩
 have hxo:fL (bz F R T) A2 x:=λad ha=>⟨(hxb ad ha).2,λu=>by have:=(rt.t.tf u).1;have:=(hxb ad ha).1;omega⟩
 have hxE:∀ad,x.a=some ad->¬E ad.block:=λad ha u=>by have:=(rt.t.beside _ u).1;have:=(hxb ad ha).1;omega
 have len3:∀{S:List (List Int)},(∀y∈S,y∈lo++ld++ln)->∀y∈S,y.length<=1000:=λhS y hy=>by rw[(rt.dat.mem y (hS y hy)).1];decide
 have memo:∀y∈lo,y∈lo++ld++ln:=λy h=>by simp[h]
 have memd:∀y∈ld,y∈lo++ld++ln:=λy h=>by simp[h]
 have memn:∀y∈ln,y∈lo++ld++ln:=λy h=>by simp[h]
 -- the turn, or none
 have fin:∀{F':Nat->Prop} {E':Nat->Prop} {s':Pl} {M':aU} {U' m':Nat} {R' T':ah} {k1 k1':Nat} {sn':Sl} {ln':List (List Int)} {B:aa} {z_8:(Bool×Sl×Sl×Bool×Bool×Bool×Bool×Bool×Bool)},RT H B F' E' p dp s' M' U' m' R' T' k1 k1' so sd sn' lo ld ln'->R'.rb=R.rb->T'.rb=T.rb->lo.length+ld.length+ln'.length<=i+1->k1<=k+1->k1'<=k'+1->m'<=1+q*(c+4)->
   br ((Int.tmod (i:Int) ev)==(Ke.wrap (ev - (1:Int)))) (ss.sp (aD R.rb) B λ(r_40:(Int×Int)) H69=>ss.sp (aD T.rb) H69 λ(r_41:(Int×Int)) H70=>bo ao Kf (Ks #[dG,dG] dG #[so.v,sd.v]) H70 λ(old:Sl) H71=>br ((((r_40.2!=(0:Int))||(r_41.2!=(0:Int)))||(r_40.1!=(sn'.n:Int)))||(r_41.1!=r_40.1)) (N H71) (J (old,sn',(Sl.mk none 0 0),z_8.1,z_8.2.1,z_8.2.2.1,z_8.2.2.2.1,z_8.2.2.2.2.1,z_8.2.2.2.2.2.1,z_8.2.2.2.2.2.2.1,z_8.2.2.2.2.2.2.2.1,z_8.2.2.2.2.2.2.2.2) H71)) (J (so,sd,sn',z_8.1,z_8.2.1,z_8.2.2.1,z_8.2.2.2.1,z_8.2.2.2.2.1,z_8.2.2.2.2.2.1,z_8.2.2.2.2.2.2.1,z_8.2.2.2.2.2.2.2.1,z_8.2.2.2.2.2.2.2.2) B):=λ{F' E' s' M' U' m' R' T' k1 k1' sn' ln' B z_8} g r1 r2 hle hk1 hk2 hm1=>by
  refine ak (λ_=>?_) (λ_=>?_)
  ·rw[<-r1,<-r2]
   have hld:ld.length<=80:=by omega
   have hmul:q*(c+4)+q*(ld.length+2)+q*(ld.length+2)=q*(c+4+(ld.length+2)+(ld.length+2)):=by rw[<-OC,<-OC]
   have hmul2:q*(c+4+(ld.length+2)+(ld.length+2))<=q*1000:=LM _ (by omega)
   refine g.t.Ix g.a g.b gL iC g.dat hg hpw hq (by omega) (by omega) (by omega) λF2 s3 M2 U2 R2 T2 B2 t2 a2 b2 rr tt S2=>?_
   refine(g.Jk.o0 t2 S2).join (by omega) λso' B3 E3 g3=>?_
   have hsn:=g.n.n
   refine ax (by rw[hsn];simp) ?_
   refine hJ _ _ ⟨F2,E3,s3,M2,U2,_,R2,T2,_,_,lo++ld,ln',[],c+4+(ld.length+2)+(ld.length+2),g3.back a2 b2 g.dat.dB,rr.trans r1,tt.trans r2,?_,?_,?_,by omega,?_⟩
   ·show (lo++ld).length+ln'.length+0<=i+1
    rw[Kv];omega
   ·rw[Kv];omega
   ·rw[Kv];omega
   ·rw[Kv];omega
  ·refine hJ _ _ ⟨F',E',s',M',U',m',R',T',k1,k1',lo,ld,ln',c+4,g,r1,r2,hle,by omega,by omega,hm1,by omega⟩
 have hm4:m+4000000+4000000<=1+q*(c+4):=by
  have:q*(c+4)=q*c+q*4:=OC _ _ _
  have h4:q*4=8000000:=by rw[hq]
  omega
 refine rt2.t.IS rt2.a rt2.b gL iC rt2.dat hg hpw (by omega) (by omega) (by omega) o2.ints hxo hl3 (by omega) (λhin F1 s1 B t1 S1=>?_) (λhno F1 s1 M1 U1 R1 T1 B t1 a1 b1 rr tt S1=>?_)
 ·have g:=rt2.o0 t1 rt2.a rt2.b S1
  have hxB:=hxo.ints o2.ints S1
  refine⟨λ_ C=>B=C,?_,?_⟩
  ·refine ax rfl ?_
   refine lG g.o.rows (by omega) (len3 memo) hxB ?_
   refine ak (λ_=>ax rfl rfl) (λh1=>?_)
   refine lG g.d.rows (by omega) (len3 memd) hxB ?_
   refine ak (λ_=>ax rfl rfl) (λh2=>?_)
   refine lG g.n.rows (by omega) (len3 memn) hxB ?_
   have h3:nq rl[i]∈ln:=by
    have h1:=of_decide_eq_false h1
    have h2:=of_decide_eq_false h2
    rcases Kk.1 hin with u|u
    ·rcases Kk.1 u with v|v
     ·exact absurd v h1
     ·exact absurd v h2
    ·exact u
   rw[decide_eq_true h3]
   exact ax rfl rfl
  ·rintro z_8 _ rfl
   refine⟨λsn' C=>sn'=sn/\B=C,ax rfl ⟨rfl,rfl⟩,?_⟩
   rintro _ _ ⟨rfl,rfl⟩
   exact⟨hev,fin g rfl rfl (by omega) (Lj _) (Lj _) hm4⟩
 ·have w:∀{X:Nat->Prop},Step (λb=>bz F R T b\/X b) (λb=>bz F1 R1 T1 b\/X b) A2 B:=S1.fg (λ_ u=>.inl u) λb u=>u.elim .inr λv=>.inl (.inr v)
  have g:=rt2.Jk.o0 t1 S1
  have hxB:=hxo.ints o2.ints S1
  have hxo1:=hxo.step S1
  refine⟨λ_ C=>B=C,?_,?_⟩
  ·refine ax rfl ?_
   have n1:nq rl[i]∉lo:=λu=>hno (memo _ u)
   have n2:nq rl[i]∉ld:=λu=>hno (memd _ u)
   have n3:nq rl[i]∉ln:=λu=>hno (memn _ u)
   refine lG g.o.rows (by omega) (len3 memo) hxB ?_
   rw[decide_eq_false n1]
   refine ax rfl ?_
   refine lG g.d.rows (by omega) (len3 memd) hxB ?_
   rw[decide_eq_false n2]
   refine ax rfl ?_
   refine lG g.n.rows (by omega) (len3 memn) hxB ?_
   rw[decide_eq_false n3]
   exact ax rfl rfl
  ·rintro z_8 _ rfl
   refine⟨λsn' C=>∃E',wP H C F1 E' p dp s1 M1 U1 (m+4000000+4000000) R1 T1 so sd sn' lo ld (ln++[nq rl[i]]),?_,?_⟩
   ·refine aT rfl ?_
    exact g.snoc (by omega) hxB (λad ha=>⟨(hxo1 ad ha).1,(hxo1 ad ha).2,hxE ad ha⟩) λsn' C E' g'=>⟨E',g'⟩
   ·rintro sn' C ⟨E',g'⟩
    have g2:=g'.back a1 b1 (rt.dat.snoc hno hl3 (by omega))
    refine⟨hev,fin g2 rr tt ?_ (Kl _) (Kl _) hm4⟩
    rw[Kv,Lq]
    omega
end
theorem HJ {H A:aa}{F:Nat->Prop}{p dp:Nat}(e:Ext H A)(hp:an F A p dp (rj (uM 5000) 8))(ho:∀b,F b->H.size<=b):aJ H A F p dp (rj (uM 5000) 8) ie 5000 0 8 1:=
 ⟨e,hp,ho,⟨⟨rfl,rfl,rfl,by decide,by decide,MF,λi f hf=>(by cases hf),λn x hx=>(by cases hx),λg hg=>(by cases hg)⟩,xv (by decide) (by decide),λf hf=>(by cases hf)⟩,by decide,by decide,by decide,by decide,λn x hx=>(by cases hx),rfl⟩
theorem gq {A:aa}{k:Nat}{t:TypeId}{ik:IntKind}{x y z:Int}(r:ag A k t #[.int ik x,.int ik y,.int ik z]):Ints ik A ⟨some ⟨k,0,none⟩,3,3⟩ [x,y,z]:=by
 refine⟨rfl,λi u hu=>⟨_,rfl,?_⟩⟩
 have hi:i=0\/i=1\/i=2:=by have:=(Kj.1 hu).1;simp at this;omega
 rw[bq]
 rcases hi with rfl|rfl|rfl<;>(simp at hu;subst hu;exact r.cell rfl)
theorem uj {A:aa}{x d:Sl}{L D:List (List Int)}{i:Nat}{K:Addr->Sl->Bool->aa->Prop}(h:Rows A x L)(hi:i<L.length)(hd:Rows A d D)(hn:D.length<=1000)(hl:∀y∈D,y.length<=1000)(hK:∀ad r,K ad r (decide (L[i]∈D)) A):
  ae x.a λa=>(0<=(i:Int)/\(i:Int)<(x.n:Int))/\ld ao A (a.add ((i:Int).toNat*1)) λx_2=>iA.sp d x_2 A λr H'=>K a x_2 r H':=
 h.ld hi λad r _ ri=>lG hd hn hl ri (hK ad r)
section
variable {H A B:aa}{p dp:Nat}{so sd sn:Sl}{lo ld ln:List (List Int)}
theorem DC {k a:Nat}(r:ag A k gy #[.slice (some ⟨a,0,none⟩) 3 3]) (ra:ag A a dA #[.int .i64 0,.int .i64 1,.int .i64 2]):jM (λ_=>False) A ⟨some ⟨k,0,none⟩,1,1⟩ qb:=by
 refine⟨rfl,λad ha=>?_,λi hi=>?_⟩
 ·have:ad=⟨k,0,none⟩:=(Kq ha).symm
  subst this
  exact⟨aG r,id⟩
 ·have hi:i=0:=by
   have:i<1:=hi
   omega
  subst hi
  exact⟨_,⟨some ⟨a,0,none⟩,3,3⟩,rfl,by rw[bq];exact r.cell rfl,λad ha=>⟨by have:=(Kq ha).symm;subst this;exact aG ra,id⟩,gq ra,Kl _⟩
theorem zU {k a b c:Nat}(r:ag A k gy #[.slice (some ⟨a,0,none⟩) 3 3,.slice (some ⟨b,0,none⟩) 3 3,.slice (some ⟨c,0,none⟩) 3 3]) (ra:ag A a dA #[.int .i64 0,.int .i64 1,.int .i64 2]) (rb:ag A b dA #[.int .i64 2,.int .i64 1,.int .i64 0]) (rc:ag A c dA #[.int .i64 1,.int .i64 2,.int .i64 0]):jM (λ_=>False) A ⟨some ⟨k,0,none⟩,3,3⟩ eQ:=by
 refine⟨rfl,λad ha=>?_,λi hi=>?_⟩
 ·have:ad=⟨k,0,none⟩:=(Kq ha).symm
  subst this
  exact⟨aG r,id⟩
 ·have hi:i=0\/i=1\/i=2:=by
   have:i<3:=hi
   omega
  rcases hi with rfl|rfl|rfl
  ·exact⟨_,⟨some ⟨a,0,none⟩,3,3⟩,rfl,by rw[bq];exact r.cell rfl,λad ha=>⟨by have:=(Kq ha).symm;subst this;exact aG ra,id⟩,gq ra,Kl _⟩
  ·exact⟨_,⟨some ⟨b,0,none⟩,3,3⟩,rfl,by rw[bq];exact r.cell rfl,λad ha=>⟨by have:=(Kq ha).symm;subst this;exact aG rb,id⟩,gq rb,Kl _⟩
  ·exact⟨_,⟨some ⟨c,0,none⟩,3,3⟩,rfl,by rw[bq];exact r.cell rfl,λad ha=>⟨by have:=(Kq ha).symm;subst this;exact aG rc,id⟩,gq rc,Kl _⟩
theorem HA {R:ah}(f:R.f.ts=[])(d:R.d.ts=[])(e:R.e.ts=[]):uH R [] [] []:=by
 have k:∀(q:aE),q.ts=[]->∀i y,y∈q.aH i↔∃x∈([]:List (List Int)),y=aL x (R.ords.getD i []):=λq hq i y=>by
  unfold aE.aH
  rw[hq]
  simp
 exact⟨λi _ y=>k _ f i y,λi _ y=>k _ d i y,λi _ y=>k _ e i y⟩
theorem BC {R:ah}{nm:ByteArray}{ords:List (List Int)}(n:Ci nm 3 ords R)(h:nm.size<=90):bD R nm ords [] [] [] 0:=by
 refine⟨n.W,n.name,h,n.ords,n.ex,n.nb.trans n.next.symm,by rw[n.next];exact KU _,by rw[n.turns];exact Kl _,λq hq=>.inl ?_,HA n.f n.d n.e⟩
 unfold ah.parts at hq
 simp only[Ku,KN,or_false] at hq
 rcases hq with rfl|rfl|rfl
 ·exact n.f
 ·exact n.d
 ·exact n.e
def Jb (H:aa)(p dp ra rb w j:Nat)(so sd sn:Sl)(lo ld ln:List (List Int))(A:aa):Prop:=
 ∃F E s M U m R T k k',RT H A F E p dp s M U m R T k k' so sd sn lo ld ln/\R.rb=ra/\T.rb=rb/\k<=250/\k'<=250/\m<=3000000000+w*(4*j)
theorem oY (n:Int)(hn:n=1\/n=2\/n=3)(So Sd:List (List Int)):(jt n So Sd).length=if n=1 then So.length+Sd.length else if n=2 then Sd.length else So.length:=by
 unfold jt
 rcases hn with rfl|rfl|rfl<;>simp
end
section
variable {H:aa}
set_option maxRecDepth 20000 in
set_option maxHeartbeats 16000000 in
theorem vS {rows:Sl}{rl:List (List Int)}{every col word:Int}{K:Bool->aa->Prop}(hg:Gl H)(hpw:Pw H)(hr:Rows H rows rl)(hf:∀y∈rl,bQ y)(hK:∀B,Ext H B->K true B):GX.sp rows every col word H K:=by
 refine GX.of ?_
 unfold GX.vc
 have hrn:=hr.len
 refine ak (λ_=>hK H (.refl _ _)) (λhc=>?_)
 have h80:rl.length<=80:=by
  have:¬(rows.n:Int)>80:=of_decide_eq_false hc
  omega
 refine vU (by decide) ?_
 rw[if_neg (by decide)]
 have r0:=OG every (b:=20) (by decide)
 have r1:=OO every (b:=20) (by decide)
 rw[show every.emod 20=every%20 from rfl]
 generalize every%20=r at r0 r1
 refine vU (by decide) ?_
 rw[if_neg (by decide)]
 have c0:=OG col (b:=3) (by decide)
 have c1:=OO col (b:=3) (by decide)
 rw[show col.emod 3=col%3 from rfl]
 generalize col%3=cl at c0 c1
 refine BS (by decide) λF1 d H1 a1 e1 f1=>?_
 refine TP.new (m:=8) hg e1 a1 f1 (by decide) (by decide) λp H2 t2=>?_
 obtain⟨e2,F2,p2,f2⟩:=t2
 have P2:=HJ e2 p2 f2
 refine ar λH3 z3 r3 e3=>?_
 refine ar λH4 z4 r4 e4=>?_
 have P4:=P2.grow (e3.trans e4)
 refine mS (F:=F2) (M:=ie) (p:=p) (H0:=H) (W:=3) (by decide) (DC r4 (r3.ext e4)) (by decide) (by decide) (λx hx=>?_) rfl P4.al.lt P4.ext.size (λ_=>rfl) λR H5 n5 q5 e5 o5=>?_
 ·have:x=[0,1,2]:=by simpa[qb] using hx
  subst this
  exact⟨rfl,iF (Ol _)⟩
 have P5:=P4.grow e5
 refine ar λH6 z6 r6 e6=>?_
 refine ar λH7 z7 r7 e7=>?_
 refine ar λH8 z8 r8 e8=>?_
 refine ar λH9 z9 r9 e9=>?_
 have e59:=((e6.trans e7).trans e8).trans e9
 have P9:=P5.grow e59
 have q9:=q5.grow e59
 have lt9:∀b,F2 b\/R.O b->b<H9.size:=λb u=>u.elim (P9.al.lt b) (q9.lt b)
 refine mS (F:=λb=>F2 b\/R.O b) (M:=ie) (p:=p) (H0:=H) (W:=3) (by decide) (zU r9 (((r6.ext e7).ext e8).ext e9) ((r7.ext e8).ext e9) (r8.ext e9)) (by decide) (by decide) (λx hx=>?_) rfl lt9 P9.ext.size (λ_=>rfl) λT H10 n10 q10 e10 o10=>?_
 ·have:x=[0,1,2]\/x=[2,1,0]\/x=[1,2,0]:=by simpa[eQ] using hx
  rcases this with rfl|rfl|rfl
  ·exact⟨rfl,iF (Ol _)⟩
  ·exact⟨rfl,iF (Sw.1 (by decide))⟩
  ·exact⟨rfl,iF (Sw.1 (by decide))⟩
 refine ax rfl ?_
 have P10:=P9.grow e10
 have t0:TS H H10 F2 (λ_=>False) p d (rj (uM 5000) 8) ie 0 1 R T:=by
  refine⟨P10,(q9.fresh e10 o10).congr λb=>⟨λu=>u.imp id .inl,λu=>u.imp id λv=>v.elim id TZ⟩,q10.congr λb=>⟨λu=>u.imp id .inl,λu=>u.imp id λv=>v.elim id TZ⟩,λa y hy=>(by cases hy),λi j=>by rw[n5.name,n10.name];exact Ih i j,λb u=>u.elim⟩
 have rt0:RT H H10 F2 (λ_=>False) p d (rj (uM 5000) 8) ie 0 1 R T 0 0 (Sl.mk none 0 0) (Sl.mk none 0 0) (Sl.mk none 0 0) [] [] []:=
  ⟨t0,BC n5 (by decide),BC n10 (by decide),⟨λx hx=>(by cases hx),MF,KU _⟩,cq.nil _ _,cq.nil _ _,cq.nil _ _,λb u=>by rcases u with ⟨ad,h,_⟩|⟨ad,h,_⟩|⟨ad,h,_⟩<;>cases h⟩
 obtain⟨q,hq⟩:∃q,q=2000000:=⟨_,rfl⟩
 obtain⟨v,hv⟩:∃v,v=1000000:=⟨_,rfl⟩
 have hev:Ke.wrap ((1:Int)+r)≠0:=by rw[wrap64 (by omega) (by omega)];omega
 refine av rl.length (λi z B=>z.2.2.2=(i:Int)/\Iy H p d R.rb T.rb q i z.1 z.2.1 z.2.2.1 B) ⟨rfl,F2,_,_,_,_,1,R,T,0,0,[],[],[],0,rt0,rfl,rfl,KU _,KU _,KU _,M5 _ _,KU _⟩ ?_
 rintro i ⟨so,sd,sn,_⟩ A next hi ⟨rfl,I⟩ hnext
 refine⟨λ_ B=>A=B/\i<rl.length,?_,?_⟩
 ·refine ak (λhci=>⟨rfl,?_⟩) (λ_=>?_)
  ·have:(i:Int)<(rows.n:Int):=of_decide_eq_true hci
   omega
  ·-- the parts are told
   obtain⟨F,E,s,M,U,m,R1,T1,k,k',lo,ld,ln,c,rt,hra,hrb,hlen,hk,hk',hm,hcc⟩:=I
   obtain⟨w,hw⟩:∃w,w=v*3*(2*80+1):=⟨_,rfl⟩
   have hqc:q*c<=q*1000:=LM _ (by omega)
   have hq1:q*1000=2000000000:=by rw[hq]
   have hw1:w=483000000:=by rw[hw,hv]
   have start:Jb H p d R.rb T.rb w 0 so sd sn lo ld ln A:=⟨F,E,s,M,U,m,R1,T1,k,k',rt,hra,hrb,by omega,by omega,by omega⟩
   have few:=rt.dat.few
   have dmem:=rt.dat.mem
   have hson:so.n=lo.length:=rt.o.n
   have hsdn:sd.n=ld.length:=rt.d.n
   clear hcc hm hk hk' rt hqc
   refine av 3 (λj z B=>z=(j:Int)+1/\Jb H p d R.rb T.rb w j so sd sn lo ld ln B) ⟨rfl,start⟩ ?_
   rintro j _ B nx hj ⟨rfl,F,E,s,M,U,m,R1,T1,k,k',rt,hra,hrb,hk,hk',hm⟩ hnx
   refine⟨λ_ C=>B=C/\j<3,?_,?_⟩
   ·refine ak (λhcj=>⟨rfl,?_⟩) (λ_=>?_)
    ·have:(j:Int)+1<=3:=of_decide_eq_true hcj
     omega
    ·have e:=rt.t.al.ext
     exact yV (hg.mod e id) (hpw.ext e) λC eC=>hK C (e.trans eC)
   rintro _ _ ⟨rfl,hj3⟩
   have hn:(j:Int)+1=1\/(j:Int)+1=2\/(j:Int)+1=3:=by omega
   generalize hpt:(j:Int)+1=pt at hn
   have hwj:w*(4*(j+1))=w*(4*j)+w+w+w+w:=by
    rw[show 4*(j+1)=4*j+1+1+1+1 by omega]
    simp only[Nat.mul_succ]
   have hwm:w*(4*(j+1))<=w*12:=LM _ (by omega)
   have hw12:w*12=5796000000:=by rw[hw1]
   have nil64:∀{X:aa},Ints .i64 X (Sl.mk none 0 0) []:=⟨rfl,Reads.nil _ _⟩
   have nilU:∀{X:aa},Ints .u64 X (Sl.mk none 0 0) []:=⟨rfl,Reads.nil _ _⟩
   refine⟨λ_ C=>Jb H p d R.rb T.rb w (j+1) so sd sn lo ld ln C,?_,?_⟩
   ·rw[<-hra,<-hrb]
    refine rt.t.told rt.a rt.b gL iC rt.dat rt.dat hg hv hk (by rw[<-hw];omega) hn nil64 (Kl _) nilU (.inl ⟨rfl,rfl⟩) λF3 s3 x1 L1 B1 t1 y1 nd1 m1 u1 S1=>?_
    refine t1.swap.told rt.b rt.a iC gL rt.dat rt.dat hg hv hk' (by rw[<-hw];omega) hn nil64 (Kl _) nilU (.inl ⟨rfl,rfl⟩) λF4 s4 x2 L2 B2 t2 y2 nd2 m2 u2 S2=>?_
    refine ar λB3 zB3 p3 x3=>?_
    refine ar λB4 zB4 p4 x4=>?_
    have t4:=(t2.grow x3).grow x4
    refine t4.swap.told rt.a rt.b gL iC rt.dat rt.dat hg hv hk (by rw[<-hw];omega) hn (gD (p3.ext x4)) (Kl _) (gD p4) (.inr ⟨cl,word,rfl,rfl,c0,c1⟩) λF5 s5 x5 L3 B5 t5 y5 nd5 m5 _ S5=>?_
    refine ar λB6 zB6 p6 x6=>?_
    refine ar λB7 zB7 p7 x7=>?_
    have t7:=(t5.grow x6).grow x7
    refine t7.swap.told rt.b rt.a iC gL rt.dat rt.dat hg hv hk' (by rw[<-hw];omega) hn (gD (p6.ext x7)) (Kl _) (gD p7) (.inr ⟨cl,word,rfl,rfl,c0,c1⟩) λF8 s8 x8 L4 B8 t8 y8 nd8 m8 _ S8=>?_
    -- all lists, where the last was told
    have sw:∀{F F':Nat->Prop} {X Y:ah} {A B:aa},Step (bz F X Y) (bz F' X Y) A B->Step (λb=>bz F X Y b\/E b) (λb=>bz F' X Y b\/E b) A B:=λS=>S.fg (λ_ u=>.inl u) λb u=>u.elim .inr λz=>.inl (.inr z)
    have sy:∀{F:Nat->Prop} {X Y:ah} {A:aa} {s:Sl} {L:List (List Int)},gh (λb=>bz F X Y b\/E b) A s L->gh (λb=>bz F Y X b\/E b) A s L:=λh=>h.less λb _ u=>u.imp (np _ _ _ b).1 id
    have x34:=x3.trans x4
    have x67:=x6.trans x7
    have g1:=((((sy y1).step (sw S2)).step (Step.bp x34))).rows
    have S28:Step (λb=>bz F4 R1 T1 b\/E b) (λb=>bz F8 R1 T1 b\/E b) B2 B8:=(((Step.bp x34).trans (sw S5)).trans (Step.bp x67)).trans (sw (jj S8))
    have h1:Rows B8 x1 L1:=(((sy ((sy y1).step (sw S2)))).step S28).rows
    have h2:Rows B8 x2 L2:=((sy y2).step S28).rows
    have h3:Rows B8 x5 L3:=((y5.step (Step.bp x67)).step (sw (jj S8))).rows
    have h4:Rows B8 x8 L4:=y8.rows
    have SS:Step (bz F R1 T1) (bz F8 R1 T1) B B8:=((((S1.trans (jj S2)).trans (Step.bp x34)).trans S5).trans (Step.bp x67)).trans (jj S8)
    have rt8:=rt.o0 t8.swap rt.a rt.b SS
    have hset3:∀x∈jt pt lo ld,x∈lo++ld++ln:=λx hx=>by
     unfold jt at hx
     rcases hn with rfl|rfl|rfl
     ·exact Kk.2 (.inl hx)
     ·exact Kk.2 (.inl (Kk.2 (.inr hx)))
     ·exact Kk.2 (.inl (Kk.2 (.inl hx)))
    have hL1:∀y,y∈L1↔y∈jt pt lo ld:=λy=>by
     rw[m1 y]
     exact⟨λu=>u.1,λu=>⟨u,by simp[aL]⟩⟩
    have hL2:∀y,y∈L2↔y∈jt pt lo ld:=λy=>by
     rw[m2 y]
     exact⟨λu=>u.1,λu=>⟨u,by simp[aL]⟩⟩
    have e12:L1=L2:=qL (u1 rfl) (u2 rfl) λy=>by rw[hL1,hL2]
    have e34:L3.length=L4.length:=iX nd5 nd8 λy=>by rw[m5 y,m8 y]
    have w1:∀y∈L1,y.length=3:=λy hy=>(dmem y (hset3 y ((hL1 y).1 hy))).1
    have w3:∀y∈L3,y.length=3:=λy hy=>(dmem y (hset3 y ((m5 y).1 hy).1)).1
    have w4:∀y∈L4,y.length=3:=λy hy=>(dmem y (hset3 y ((m8 y).1 hy).1)).1
    have nds:(jt pt lo ld).Nodup:=by
     have n1:=(La.1 rt.dat.nodup).1
     obtain⟨n2,n3,_⟩:=La.1 n1
     unfold jt
     rcases hn with rfl|rfl|rfl
     ·exact n1
     ·exact n3
     ·exact n2
    have k1:L1.length=(jt pt lo ld).length:=iX nd1 nds hL1
    have k1b:L1.length<=80:=by
     rw[k1,oY pt hn]
     split
     ·omega
     ·split<;>omega
    have k3:L3.length<=80:=K4 (gz nd5 λa ha=>(hL1 a).2 ((m5 a).1 ha).1) k1b
    have hc3:∀y∈L1,(y.getD cl.toNat 0=word↔aL y [cl]=[word]):=λy hy=>by
     have hy3:=w1 y hy
     have hok:dI y [cl]=true:=by
      unfold dI
      simp only[List.all_cons,List.all_nil,Bool.and_true,KD,decide_eq_true_eq]
      exact⟨by omega,by omega⟩
     unfold aL
     rw[if_pos hok]
     simp
    have hin1:∀y∈L1,y.getD cl.toNat 0=word->y∈L3/\y∈L4:=λy hy hwd=>by
     have a:=(hL1 y).1 hy
     have b:=(hc3 y hy).1 hwd
     exact⟨(m5 y).2 ⟨a,b⟩,(m8 y).2 ⟨a,b⟩⟩
    have hcnt:(L1.filter λy=>decide (y.getD cl.toNat 0=word)).length=L3.length:=iX (nd1.sublist Mg) nd5 λy=>by
     rw[KP,m5 y,decide_eq_true_iff]
     constructor
     ·rintro⟨a,b⟩
      exact⟨(hL1 y).1 a,(hc3 y a).1 b⟩
     ·rintro⟨a,b⟩
      have:=(hL1 y).2 a
      exact⟨this,(hc3 y this).2 b⟩
    have h1n:=h1.len
    have h2n:=h2.len
    have h3n:=h3.len
    have h4n:=h4.len
    refine⟨λ_ C=>B8=C,?_,?_⟩
    ·refine ax rfl ?_
     refine uJ h1 h2 (by omega) (λy hy=>by rw[w1 y hy];decide) ?_
     rw[decide_eq_true e12]
     refine ax (by rw[h3n,h4n,e34];simp) rfl
    rintro z_4 _ rfl
    refine av L1.length (λi z C=>z=(i:Int)/\B8=C) ⟨rfl,rfl⟩ ?_
    rintro i _ _ ny hi ⟨rfl,rfl⟩ hny
    refine⟨λ_ C=>B8=C/\i<L1.length,?_,?_⟩
    ·refine ak (λhci=>⟨rfl,?_⟩) (λ_=>?_)
     ·have:(i:Int)<(x1.n:Int):=of_decide_eq_true hci
      omega
     ·refine Dy h1 h3 h4 (by omega) (by omega) (by omega) (λy hy=>by rw[w3 y hy];decide) (λy hy=>by rw[w4 y hy];decide) w1 c0 c1 hin1 hcnt ?_
      refine ax rfl ?_
      have rB:aO H B8 F8 p M R1:=rt8.t.ra.less λb u=>.inl u
      obtain⟨lf,ldd,_⟩:=rt.a.lens gL rt.dat rB
      have hsum:((R1.asked pt).map λq=>q.rows.length).sum=L1.length:=by
       rw[k1,oY pt hn]
       unfold ah.asked
       rcases hn with rfl|rfl|rfl
       ·simp[lf,ldd]
       ·simp[ldd]
       ·simp[lf]
      refine vf rB (λb u=>(rt8.t.tf (.inl u)).1) (by rw[hsum];omega) λC eC=>?_
      rw[hsum]
      refine ax ?_ ?_
      ·have ec:Ke.wrap ((so.n:Int)+(sd.n:Int))=((lo.length+ld.length:Nat):Int):=by
        rw[wrap64 (by omega) (by omega),hson,hsdn];omega
       rw[ec,h1n]
       by_cases hp1:pt=1
       ·subst hp1
        have:L1.length=lo.length+ld.length:=by rw[k1,oY 1 hn,if_pos rfl]
        simp[this]
       ·simp[hp1]
      ·have g8:=rt8.grow eC
       refine⟨F8,E,s8,M,U,_,R1,T1,k,k',g8,rfl,rfl,hk,hk',?_⟩
       rw[<-hw]
       omega
    rintro _ _ ⟨rfl,hlt⟩
    have hmi:=Kt hlt
    have hsi:=(hL1 _).1 hmi
    have hp2:pt=2->L1[i]∈ld:=λe=>by
     subst e
     unfold jt at hsi
     simpa using hsi
    have hp3:pt=3->L1[i]∈lo:=λe=>by
     subst e
     unfold jt at hsi
     simpa using hsi
    have hor:L1[i]∉ld->L1[i]∈lo:=λu=>by
     unfold jt at hsi
     rcases hn with rfl|rfl|rfl
     ·simp only[if_pos] at hsi
      exact(Kk.1 hsi).resolve_right u
     ·exact absurd (hp2 rfl) u
     ·exact hp3 rfl
    have lenO:∀y∈lo,y.length<=1000:=λy hy=>by rw[(dmem y (by simp[hy])).1];decide
    have lenD:∀y∈ld,y.length<=1000:=λy hy=>by rw[(dmem y (by simp[hy])).1];decide
    have ro:=rt8.o.rows
    have rd:=rt8.d.rows
    have tail4:∀{G1:Addr->Sl->Bool->Addr->Sl->Bool->aa->Prop} {G2:Addr->Sl->Bool->aa->Prop},(∀a x r a' x' r',G1 a x r a' x' r' B8)->(∀a x r,G2 a x r B8)->ae x1.a λa=>(0<=(i:Int)/\(i:Int)<(x1.n:Int))/\Go.Proofs.YtkehfflpbpdokaaGreatDoor.ld ao B8 (a.add ((i:Int).toNat*1)) λx=>iA.sp sd x B8 λr H36=>br (!r) (ae x1.a λa'=>(0<=(i:Int)/\(i:Int)<(x1.n:Int))/\Go.Proofs.YtkehfflpbpdokaaGreatDoor.ld ao H36 (a'.add ((i:Int).toNat*1)) λx'=>iA.sp so x' H36 λr' H37=>br (!r') (K false H37) (G1 a x r a' x' r' H37)) (G2 a x r H36):=λk1 k2=>by
     refine uj h1 hlt rd (by omega) lenD λa x=>?_
     refine ak (λhb=>?_) (λ_=>k2 _ _ _)
     have hb:L1[i]∉ld:=by simpa using hb
     refine uj h1 hlt ro (by omega) lenO λa' x'=>?_
     rw[decide_eq_true (hor hb)]
     exact ax rfl (k1 _ _ _ _ _ _)
    have chk3:∀{G:Addr->Sl->Bool->aa->Prop} {G':Prop},(∀a x r,G a x r B8)->G'->br (pt==(3:Int)) (ae x1.a λa=>(0<=(i:Int)/\(i:Int)<(x1.n:Int))/\Go.Proofs.YtkehfflpbpdokaaGreatDoor.ld ao B8 (a.add ((i:Int).toNat*1)) λx=>iA.sp so x B8 λr H36=>br (!r) (K false H36) (G a x r H36)) G':=λk1 k2=>by
     refine ak (λhb=>?_) (λ_=>k2)
     refine uj h1 hlt ro (by omega) lenO λa x=>?_
     rw[decide_eq_true (hp3 (by simpa using hb))]
     exact ax rfl (k1 _ _ _)
    have chk2:∀{G:Addr->Sl->Bool->aa->Prop} {G':Prop},(∀a x r,G a x r B8)->G'->br (pt==(2:Int)) (ae x1.a λa=>(0<=(i:Int)/\(i:Int)<(x1.n:Int))/\Go.Proofs.YtkehfflpbpdokaaGreatDoor.ld ao B8 (a.add ((i:Int).toNat*1)) λx=>iA.sp sd x B8 λr H36=>br ((!r)==false) (G a x r H36) (K false H36)) G':=λk1 k2=>by
     refine ak (λhb=>?_) (λ_=>k2)
     refine uj h1 hlt rd (by omega) lenD λa x=>?_
     rw[decide_eq_true (hp2 (by simpa using hb))]
     exact aT rfl (k1 _ _ _)
    refine⟨λ_ C=>B8=C,?_,?_⟩
    ·refine ak (λhb=>?_) (λ_=>?_)
     ·have hi0:0<i:=by
       have:(i:Int)>0:=of_decide_eq_true hb
       omega
      have ew:Ke.wrap ((i:Int) - 1)=((i - 1:Nat):Int):=by rw[wrap64 (by omega) (by omega)];omega
      rw[ew]
      refine h1.ld (i:=i - 1) (by omega) λa x _ ix=>?_
      refine h1.ld hlt λa' x' _ ix'=>?_
      refine dW ix ix' (by rw[w1 _ (Kt _)];decide) ?_
      have hup:=List.pairwise_iff_getElem.1 (u1 rfl) (i - 1) i (by omega) hlt (by omega)
      have hup:aP L1[i - 1] L1[i]<0:=hup
      refine aT (by rw[decide_eq_false (by omega)];rfl) ?_
      exact chk2 (λ_ _ _=>chk3 (λ_ _ _=>tail4 (λ_ _ _ _ _ _=>rfl) λ_ _ _=>rfl) (tail4 (λ_ _ _ _ _ _=>rfl) λ_ _ _=>rfl)) (chk3 (λ_ _ _=>tail4 (λ_ _ _ _ _ _=>rfl) λ_ _ _=>rfl) (tail4 (λ_ _ _ _ _ _=>rfl) λ_ _ _=>rfl))
     ·exact chk2 (λ_ _ _=>chk3 (λ_ _ _=>tail4 (λ_ _ _ _ _ _=>rfl) λ_ _ _=>rfl) (tail4 (λ_ _ _ _ _ _=>rfl) λ_ _ _=>rfl)) (chk3 (λ_ _ _=>tail4 (λ_ _ _ _ _ _=>rfl) λ_ _ _=>rfl) (tail4 (λ_ _ _ _ _ _=>rfl) λ_ _ _=>rfl))
    ·rintro _ _ rfl
     exact hny hlt _ _ ⟨aK i (by omega),rfl⟩
   ·rintro _ C hp
    refine hnx hj3 _ _ ⟨?_,hp⟩
    rw[<-hpt,ON]
    omega
 ·rintro _ _ ⟨rfl,hlt⟩
  refine⟨λz B=>Iy H p d R.rb T.rb q (i+1) z.1 z.2.1 z.2.2.1 B,GN (J:=λz B=>Iy H p d R.rb T.rb q (i+1) z.1 z.2.1 z.2.2.1 B) (N:=K false) (ev:=Ke.wrap ((1:Int)+r)) (ra:=R.rb) (rb:=T.rb) I hg hpw hq hr hf hlt (by omega) hev λz B h=>h,?_⟩
  rintro z B h
  exact hnext hlt _ _ ⟨aK i (by omega),h⟩
end
end Go.Proofs.YtkehfflpbpdokaaGreatDoor
namespace Go.Proofs.YtkehfflpbpdokaaGreatDoor
open Go.ChangeShapes Go.WideShapes Go.ChangeAt Go.RowKit
set_option maxRecDepth 100000 in
theorem ot (os:Os)(started:os.Started)(H:Type)(enc:TypeId×Value->H):
  ReturnsInHanded {} O3 os 3 .any (λw args=>(Rows.relTurnsSpec.pre enc Kf Nk [] false w args/\laidMetH Kf sv w)/\sizedMet enc Kf Nk (T6 Rows.relTurnsSpec) false w args)
   (Rows.relTurnsSpec.post enc Kf Nk false true false false):=by
 refine returnsInHanded_of_change_and (C:=O3) (X:=λw _=>laidMetH Kf sv w) (λ_ _ _ hh h=>h.of_heap hh) zT started (by kernel_rfl) Px
  (SI (enc:=enc) (C:=O3) (os:=os) (X:=λw _=>laidMetH Kf sv w) false (World.doorLaid Kf 400 os) #[.slice none 0 0,.int .i64 0,.int .i64 0,.int .u64 0] 8 rfl (World.shaped_of_RefB (by kernel_rfl) (by kernel_rfl)) (by kernel_rfl) (by kernel_rfl) (by kernel_rfl) (CE os _)) ?_
 intro W base args ds gs before hval0 hW _ _ hL _
 have hval:∀(j:Nat) t v,Nk.params[j]?=some t->args[j]?=some v->Value.okWide Kf W .any base t v:=hval0
 have hW':=hW
 obtain⟨p,q,hA0,hV,rfl,hfz,hnd⟩:=hW
 have hA:DataW.TrodAll enc Kf W 0 (λ_=>true) true Nk.params.toList args.toList ds p:=hA0
 rw[Rg] at hA hval
 obtain⟨v0,v1,v2,v3,d0,d1,d2,d3,p0,p1,p2,p3,rfl,rfl,rfl,h0,h1,h2,h3⟩:=trodAll_four hA
 obtain⟨rfl,rfl⟩:=trodVars_none hV
 obtain⟨rows,rl,rfl,rn,_,ra⟩:=od (k:=.u64) (e:=dn) (e2:=iB) (by kernel_rfl) (by kernel_rfl) (by kernel_rfl) (by kernel_rfl) (by kernel_rfl) (hval 0 dG v0 rfl rfl) h0
 obtain⟨every,rfl,_⟩:=qB (k:=.i64) (hval 1 dA v1 rfl rfl) (by kernel_rfl)
 obtain⟨col,rfl,_⟩:=qB (k:=.i64) (hval 2 dA v2 rfl rfl) (by kernel_rfl)
 obtain⟨word,rfl,_⟩:=qB (k:=.u64) (hval 3 iB v3 rfl rfl) (by kernel_rfl)
 have hfit:∀l∈rl,bQ l:=by
  intro l hl x hx
  obtain⟨i,hi,e⟩:=List.getElem_of_mem hl
  subst e
  obtain⟨_,_,_,_,_,_,q⟩:=ra i hi
  have:=q x hx
  simp only[Lit.wf,KD,decide_eq_true_eq] at this
  have h1:K7.min=0:=rfl
  have h2:K7.max=18446744073709551615:=rfl
  omega
 have hspec:=vS (rows:=rows) (rl:=rl) (every:=every) (col:=col) (word:=word) (H:=W.heap) (K:=λb H'=>b=true/\Ext W.heap H') (xZ hL) (wM hL) ⟨rn,λi hi=>by obtain⟨ad,rr,q1,q2,q3,_⟩:=ra i hi;exact⟨ad,rr,q1,q2,q3⟩⟩ hfit (λH' e=>⟨rfl,e⟩)
 refine(hspec W rfl).mono λe W' ⟨v,he,⟨x,hx,hb,hext⟩,hal⟩=>?_
 subst he;subst hx;subst hb
 exact⟨_,rfl,BZ qY (by decide+kernel) rfl (by kernel_rfl) rfl rfl rfl rfl hW' hext hal⟩
theorem tw:Rows.RelTurnsSaid:=
 SP 3 Nk rfl rfl rfl rfl rfl rfl rfl ⟨rfl,rfl,rfl,rfl,rfl⟩ rfl rfl rfl rfl rfl (by kernel_rfl) Px (by kernel_rfl)
  (of_decide_eq_true (by kernel_rfl)) (by unfold Func.isWrapper;first|(rw[if_pos (by decide+kernel)];kernel_rfl)|(rw[if_neg (by decide+kernel)];exact⟨rfl,rfl⟩))
  (λos started H enc _=>ot os started H enc)
theorem relTurns_holds:Rows.RelTurnsCardSaid:=
 Claim7.holds_tied_plain_at .later [] [.data,.data,.data,.data] true _ false
  tw (λ_ h=>by cases h) (by kernel_rfl) (λ_ h=>by cases h) relTurns_row_tie rfl ⟨rfl,rfl⟩ (by kernel_rfl) rfl
  (λf fn hf hfn=>by
   obtain rfl:f=3:=Kq ((show Kf.funcNamed "fathom/fathomlaw10.RelTurns"=some 3 by kernel_rfl).symm.trans hf) |>.symm
   obtain rfl:fn=Nk:=(Kq (Px.symm.trans hfn)).symm
   exact⟨by kernel_rfl,λj t ht=>by
    rw[Rg] at ht
    have hm:t∈[dG,dA,iB]:=by simpa using Array.mem_of_getElem? ht
    have hall:([dG,dA,iB].all λu=>!Kf.wantsStandIn u)=true:=by kernel_rfl
    exact(show Kf.wantsStandIn t=false by simpa using LO.1 hall t hm)⟩)
  (by kernel_rfl)
#print axioms relTurns_holds
end Go.Proofs.YtkehfflpbpdokaaGreatDoor
