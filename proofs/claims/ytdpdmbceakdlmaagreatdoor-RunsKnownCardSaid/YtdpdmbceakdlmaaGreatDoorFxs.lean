/-
 Ground, a text behind the eleventh: an append of a slice that is only made ('append(l, make(..)...)').
-/
import Derived.Test.YtdpdmbceakdlmaaGreatDoorFxk
import Derived.Lib.AppendZerosOnto
import Derived.Laws.CopyRow
open Go.Builtin renaming append_->KM,firstCells->P9,zeroCells->Qp
open Go.IntKind renaming i64->KG,wrap_i64->Rn
open Go.Value.slice renaming injEq->Ld
open List renaming replicate->KY,length_append->Lj,append_assoc->LG,getElem?_eq_none->Mb,length_replicate->Mq,size_toArray->Ns,take_left->Ow
open Nat renaming mul_le_mul_right->Ly,add_mul->MG,mul_le_mul->Sb
namespace Go.Proofs.YtdpdmbceakdlmaaGreatDoor
theorem rH {α:Type}{E:fN α}{z:Value}{x0:α}(hz:z.cells.toList=E.enc x0)(n:Nat):(Qp z.cells n).toList=E.all (KY n x0):=by
 have hs:z.cells.size=E.size:=by rw[<-E.len x0,<-hz];simp
 apply List.ext_getElem?
 intro m
 by_cases hm:m<n*E.size
 ·have h0:0<E.size:=by
   rcases Nat.eq_zero_or_pos E.size with h|h
   ·rw[h] at hm;omega
   ·exact h
  have e:m=m/E.size*E.size+m%E.size:=(Nat.div_add_mod' m E.size).symm
  have hd:m/E.size<n:=Nat.div_lt_of_lt_mul (by rw[Nat.mul_comm];exact hm)
  have hmod:=Nat.mod_lt m h0
  conv=>rhs;rw[e]
  rw[E.uh _ _ _ hmod,List.getElem?_replicate,if_pos hd]
  simp only[Option.bind_some,<-hz,Qp,hs,Array.toList_map,List.getElem?_map,Array.toList_range,Array.getElem?_toList]
  rw[List.getElem?_range hm,Array.getElem?_eq_getElem (by omega)]
  simp[hs,hmod]
 ·rw[Mb (by simp[Qp,hs];omega),Mb (by rw[E.bU];simp;omega)]
theorem aK.Fz {P:Program}{α:Type}{E:fN α}{t tn ty e:TypeId}{bytes:Nat}{kn k:IntKind}{H:Heap}{s:Sl}{l:List α}{x0:α}{n:Nat}{K:Sl->Heap->Prop}(he:uy P t e E.size bytes)(htn:P.underlying tn=some (.int kn))
  (hz0:∀inf z,P.info? e=some inf->inf.zero=some z->z.cells.toList=E.enc x0) (h:aK E e H s l) (hb1:bytes<=128) (hl:l.length+n<=1073741824)
  (hK:∀(s':Sl) (H':Heap),aK E e H' s' (l++KY n x0)->Grown s s' H H'->K s' H'):bt av P (KM #[t,tn] ty #[s.v,.int k (n:Int)]) H K:=by
 obtain⟨inf,z,ht,hi,hz,hzs,hs,hbt,h0⟩:=he
 have hsn:=aK.n h h0
 have hzc:=hz0 inf z hi hz
 have hw:KG.wrap (n:Int)=n:=by rw[Rn];omega
 have hall:=rH hzc n
 have hw0:KG.wrap 0=0:=by decide
 have hsn1:=h.1
 intro w hw0
 subst hw0
 obtain⟨sa,sn,sc⟩:=s
 simp only[Sl.v] at*
 have hnb:¬((281474976710656:Int)<(n:Int)*(bytes:Int)):=by
  have:n*bytes<=1073741824*128:=Sb (by omega) hb1
  have:((n*bytes:Nat):Int)<=137438953472:=by omega
  rw[Int.natCast_mul] at this;omega
 by_cases hroom:sn+n<=sc
 ·rcases id h.2 with ⟨e1,e2⟩|⟨g,cap,cur,e1,hb,hg,h4,h5,h6,h7⟩
  ·simp only[Sl.v,Ld] at e1
   obtain⟨rfl,rfl,rfl⟩:=e1
   have hn0:n=0:=by omega
   subst hn0
   have hr:(KM #[t,tn] ty #[.slice none 0 0,.int k 0]).run P w=.ok (.slice none 0 0) w:=by
    simp[KM,run_underlying ht,run_underlying htn,sizeOf,typeInfo,hi,asInt,asIntOf,hw0]
   refine⟨_,w,hr,⟨⟨none,0,0⟩,rfl,hK _ _ (by simpa using h) ⟨.refl _ _,λb hb=>.inl hb⟩⟩,.refl w⟩
  ·simp only[Sl.v,Ld] at e1
   obtain⟨rfl,_,rfl⟩:=e1
   simp only at h4 h5 h6 h7
   have hfit:sn*inf.size+(E.all (KY n x0)).length<=cur.size:=by
    rw[E.bU,Mq,h6,hs,<-MG];exact Ly _ hroom
   have hst:=run_storeCells_at P g (sn*inf.size) e (E.all (KY n x0)) 0 cur w hg (by simpa using hfit) (E.yR _)
   simp only[Nat.add_zero] at hst
   have hne:inf.size≠0:=by omega
   have hr:(KM #[t,tn] ty #[.slice (some ⟨g,0,none⟩) sn sc,.int k (n:Int)]).run P w=.ok (.slice (some ⟨g,0,none⟩) (sn+n) sc) (w.setRow g (cur.toList.take (sn*inf.size)++E.all (KY n x0)++cur.toList.drop (sn*inf.size+(E.all (KY n x0)).length)).toArray):=by
    by_cases hn0:n=0
    ·subst hn0
     have:E.all (KY 0 x0)=[]:=rfl
     rw[this]
     have e0:(cur.toList.take (sn*inf.size)++[]++cur.toList.drop (sn*inf.size+([]:List Value).length)).toArray=cur:=by simp
     have hle:sn<=sc:=by omega
     rw[e0,setRow_self w g cur e (0,0) hg]
     simp[KM,run_underlying ht,run_underlying htn,sizeOf,typeInfo,hi,asInt,asIntOf,hw0,hle,storeCells]
    ·have hneg:¬((n:Int)<0):=by omega
     have hns:¬(n*inf.size=0):=Nat.mul_ne_zero hn0 hne
     simp[KM,run_underlying ht,run_underlying htn,sizeOf,typeInfo,hi,asInt,asIntOf,hw,hbt,hnb,hneg,hns,hroom,zeroValue,hz,hall,hst,Addr.add_lit]
   refine⟨_,_,hr,⟨⟨some ⟨g,0,none⟩,sn+n,sc⟩,rfl,hK _ _ ⟨?_,.inr ⟨g,sc,_,rfl,hb,setRow_heap w g cur _ e _ hg,hroom,h5,?_,?_⟩⟩ ⟨⟨by simp[World.setRow],λb _ hb=>setRow_other w g b _ (λe3=>hb ⟨_,rfl,e3.symm⟩)⟩,λb hb=>.inl ?_⟩⟩,(.of_le rfl (Nat.le_refl _))⟩
   ·rw[E.all_append,Lj,hsn1,E.bU,Mq];simp only[MG]
   ·simp only[Ns,Lj,List.length_take,List.length_drop,Array.length_toList]
    omega
   ·rw[E.all_append,hs,h7,MG]
    rw[hs] at hfit
    have e5:sn*E.size+n*E.size=(E.all l++E.all (KY n x0)).length:=by
     rw[Lj,hsn1,E.bU (KY n x0),Mq]
    rw[e5]
    exact Ow
   ·obtain⟨ad',e3,e4⟩:=hb
    exact⟨ad',e3,e4⟩
 ·have hn0:0<n:=by
   have:=h.cap;simp only at this;omega
  have hcells:(P9 inf.size sn (.slice sa sn sc)).run P w.drew=.ok (E.all l).toArray w.drew:=by
   have hrd:=h.reads
   cases sa with
   |none=>
     have:E.all l=[]:=by
      cases hq:E.all l with
      |nil=>rfl
      |cons a r=>
        obtain⟨ad,e1,_⟩:=hrd 0 a (by rw[hq];rfl)
        cases e1
     rw[this]
     simp[P9]
   |some a=>
     exact run_firstCells_some (P:=P) w.drew inf.size sn a sn sc (E.all l) (by rw[hsn1,hs]) λj u hu=>by
      obtain⟨ad,e1,hc⟩:=hrd j u hu
      cases e1;exact hc
  have hlb:(sn+n)*bytes<=140737488355328:=by
   have:(sn+n)*bytes<=1073741824*128:=Sb (by omega) hb1
   omega
  have hr:=Go.Lib.run_append_grow_zeros (P:=P) w t tn ty e inf z k kn ht htn hi hz sa sn sc (E.all l) hcells n hn0 (by omega) (by omega) (by omega) (by rw[hbt];have:n*bytes<=(sn+n)*bytes:=Ly _ (by omega);omega) (by
   have:=growslice_fits (need:=sn+n) (old:=sc) (bytes:=inf.bytes) (by omega) (by rw[hbt];exact hlb)
   exact this)
  have hge:=grownCap_ge w (sn+n) sc e
  have hcm2:grownCap w (sn+n) sc e<=maxLen:=grownCap_le_maxLen w (sn+n) sc e (by unfold maxLen;omega)
  have hlen:(E.all (l++KY n x0)).length=(sn+n)*E.size:=by
   rw[E.bU];simp[hsn]
  refine⟨_,_,hr,⟨⟨some ⟨w.heap.size,0,none⟩,sn+n,grownCap w (sn+n) sc e⟩,rfl,hK _ _ ?_ ⟨Mod.push _ _ _,λb hb=>.inr ?_⟩⟩,(.of_le rfl (Nat.le_succ _))⟩
  ·refine aT.fresh (Nat.zero_le _) hge hcm2 ?_ hlen ?_
   ·simp only[Array.size_append,Ns,size_zeroCells,hzs,hsn1,<-MG]
    rw[hs,<-MG,<-MG]
    congr 1;omega
   ·simp only[Array.toList_append,hall,LG]
    rw[<-LG,<-E.all_append,<-hlen]
    exact Ow
  ·obtain⟨ad',e3,e4⟩:=hb
   cases e3;have:w.heap.size=b:=e4;omega
end Go.Proofs.YtdpdmbceakdlmaaGreatDoor
