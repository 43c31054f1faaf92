/-
 Ground, a text behind the eleventh: an append of a slice that is only made ('append(l, make(..)...)').
-/
import Derived.Test.YtmkbhnholcaghaaGreatDoorFxk
import Derived.Lib.AppendZerosOnto
import Derived.Laws.CopyRow
open Go.Builtin renaming append_->Oq,firstCells->Ur,zeroCells->UG
open Go.IntKind renaming i64->Ol,wrap_i64->VK
open Go.Value.slice renaming injEq->ON
open List renaming replicate->OR,length_append->OU,append_assoc->Pm,size_toArray->QC,getElem?_eq_none->QE,length_replicate->QU,take_left->TH
open Nat renaming mul_le_mul_right->OZ,add_mul->Rn,mul_le_mul->VD
namespace Go.Proofs.YtmkbhnholcaghaaGreatDoor
theorem tU {α:Type}{E:eK α}{z:Value}{x0:α}(b:z.cells.toList=E.enc x0)(n:Nat):(UG z.cells n).toList=E.all (OR n x0):=by
 have hs:z.cells.size=E.size:=by rw[<-E.len x0,<-b];simp
 apply List.ext_getElem?;intro m;by_cases hm:m<n*E.size
 ·have c:0<E.size:=by
   rcases Nat.eq_zero_or_pos E.size with h|h
   ·rw[h] at hm;omega
   ·exact h
  have e:m=m/E.size*E.size+m%E.size:=(Nat.div_add_mod' m E.size).symm;have hd:m/E.size<n:=Nat.div_lt_of_lt_mul (by rw[Nat.mul_comm];exact hm);have a:=Nat.mod_lt m c
  conv=>rhs;rw[e]
  rw[E.vP _ _ _ a,List.getElem?_replicate,if_pos hd];simp only[Option.bind_some,<-b,UG,hs,Array.toList_map,List.getElem?_map,Array.toList_range,Array.getElem?_toList];rw[List.getElem?_range hm,Array.getElem?_eq_getElem (by omega)];simp[hs,a]
 ·rw[QE (by simp[UG,hs];omega),QE (by rw[E.bX];simp;omega)]
theorem az.HL {P:Program}{α:Type}{E:eK α}{t C ty e:TypeId}{bytes:Nat}{kn k:IntKind}{H:aa}{s:Sl}{l:List α}{x0:α}{n:Nat}{K:Sl->aa->Prop}(he:rq P t e E.size bytes)(o:P.underlying C=some (.int kn))
  (Q:∀inf z,P.info? e=some inf->inf.zero=some z->z.cells.toList=E.enc x0) (h:az E e H s l) (D:bytes<=128) (hl:l.length+n<=1073741824)
  (R:∀(s':Sl) (H':aa),az E e H' s' (l++OR n x0)->Grown s s' H H'->K s' H'):bf ak P (Oq #[t,C] ty #[s.v,.int k (n:Int)]) H K:=by
 obtain⟨inf,z,O,hi,S,T,hs,B,h0⟩:=he;have U:=az.n h h0;have V:=Q inf z hi S;have hw:Ol.wrap (n:Int)=n:=by rw[VK];omega
 have y:=tU V n;have p:Ol.wrap 0=0:=by decide
 have f:=h.1;intro w p;subst p;obtain⟨W,c,i⟩:=s;simp only[Sl.v] at*;have X:¬((281474976710656:Int)<(n:Int)*(bytes:Int)):=by
  have:n*bytes<=1073741824*128:=VD (by omega) D;have:((n*bytes:Nat):Int)<=137438953472:=by omega
  rw[Int.natCast_mul] at this;omega
 by_cases d:c+n<=i
 ·rcases id h.2 with ⟨q,e2⟩|⟨g,cap,cur,q,v,Y,h4,h5,h6,h7⟩
  ·simp only[Sl.v,ON] at q;obtain⟨rfl,rfl,rfl⟩:=q;have m:n=0:=by omega
   subst m;have F:(Oq #[t,C] ty #[.slice none 0 0,.int k 0]).run P w=.ok (.slice none 0 0) w:=by
    simp[Oq,run_underlying O,run_underlying o,sizeOf,typeInfo,hi,asInt,asIntOf,p]
   refine⟨_,w,F,⟨⟨none,0,0⟩,rfl,R _ _ (by simpa using h) ⟨.refl _ _,λb v=>.inl v⟩⟩,.refl w⟩
  ·simp only[Sl.v,ON] at q;obtain⟨rfl,_,rfl⟩:=q;simp only at h4 h5 h6 h7;have A:c*inf.size+(E.all (OR n x0)).length<=cur.size:=by
    rw[E.bX,QU,h6,hs,<-Rn];exact OZ _ d
   have G:=run_storeCells_at P g (c*inf.size) e (E.all (OR n x0)) 0 cur w Y (by simpa using A) (E.Cc _);simp only[Nat.add_zero] at G;have Z:inf.size≠0:=by omega
   have F:(Oq #[t,C] ty #[.slice (some ⟨g,0,none⟩) c i,.int k (n:Int)]).run P w=.ok (.slice (some ⟨g,0,none⟩) (c+n) i) (w.setRow g (cur.toList.take (c*inf.size)++E.all (OR n x0)++cur.toList.drop (c*inf.size+(E.all (OR n x0)).length)).toArray):=by
    by_cases m:n=0
    ·subst m;have:E.all (OR 0 x0)=[]:=rfl;rw[this];have e0:(cur.toList.take (c*inf.size)++[]++cur.toList.drop (c*inf.size+([]:List Value).length)).toArray=cur:=by simp
     have hle:c<=i:=by omega
     rw[e0,setRow_self w g cur e (0,0) Y];simp[Oq,run_underlying O,run_underlying o,sizeOf,typeInfo,hi,asInt,asIntOf,p,hle,storeCells]
    ·have I:¬((n:Int)<0):=by omega
     have af:¬(n*inf.size=0):=Nat.mul_ne_zero m Z;simp[Oq,run_underlying O,run_underlying o,sizeOf,typeInfo,hi,asInt,asIntOf,hw,B,X,I,af,d,zeroValue,S,y,G,Addr.add_lit]
   refine⟨_,_,F,⟨⟨some ⟨g,0,none⟩,c+n,i⟩,rfl,R _ _ ⟨?_,.inr ⟨g,i,_,rfl,v,setRow_heap w g cur _ e _ Y,d,h5,?_,?_⟩⟩ ⟨⟨by simp[World.setRow],λb _ v=>setRow_other w g b _ (λJ=>v ⟨_,rfl,J.symm⟩)⟩,λb v=>.inl ?_⟩⟩,(.of_le rfl (Nat.le_refl _))⟩
   ·rw[E.all_append,OU,f,E.bX,QU];simp only[Rn]
   ·simp only[QC,OU,List.length_take,List.length_drop,Array.length_toList];omega
   ·rw[E.all_append,hs,h7,Rn];rw[hs] at A;have e5:c*E.size+n*E.size=(E.all l++E.all (OR n x0)).length:=by
     rw[OU,f,E.bX (OR n x0),QU]
    rw[e5];exact TH
   ·obtain⟨L,J,e4⟩:=v;exact⟨L,J,e4⟩
 ·have m:0<n:=by
   have:=h.cap;simp only at this;omega
  have x:(Ur inf.size c (.slice W c i)).run P w.drew=.ok (E.all l).toArray w.drew:=by
   have M:=h.reads;cases W with
   |none=>
     have:E.all l=[]:=by
      cases hq:E.all l with
      |nil=>rfl
      |cons a r=>
        obtain⟨ad,q,_⟩:=M 0 a (by rw[hq];rfl);cases q
     rw[this];simp[Ur]
   |some a=>
     exact run_firstCells_some (P:=P) w.drew inf.size c a c i (E.all l) (by rw[f,hs]) λj u hu=>by
      obtain⟨ad,q,hc⟩:=M j u hu;cases q;exact hc
  have an:(c+n)*bytes<=140737488355328:=by
   have:(c+n)*bytes<=1073741824*128:=VD (by omega) D;omega
  have F:=Go.Lib.run_append_grow_zeros (P:=P) w t C ty e inf z k kn O o hi S W c i (E.all l) x n m (by omega) (by omega) (by omega) (by rw[B];have:n*bytes<=(c+n)*bytes:=OZ _ (by omega);omega) (by
   have:=growslice_fits (need:=c+n) (old:=i) (bytes:=inf.bytes) (by omega) (by rw[B];exact an);exact this)
  have a1:=grownCap_ge w (c+n) i e;have N:grownCap w (c+n) i e<=maxLen:=grownCap_le_maxLen w (c+n) i e (by unfold maxLen;omega);have hlen:(E.all (l++OR n x0)).length=(c+n)*E.size:=by
   rw[E.bX];simp[U]
  refine⟨_,_,F,⟨⟨some ⟨w.heap.size,0,none⟩,c+n,grownCap w (c+n) i e⟩,rfl,R _ _ ?_ ⟨Mod.push _ _ _,λb v=>.inr ?_⟩⟩,(.of_le rfl (Nat.le_succ _))⟩
  ·refine aO.fresh (Nat.zero_le _) a1 N ?_ hlen ?_
   ·simp only[Array.size_append,QC,size_zeroCells,T,f,<-Rn];rw[hs,<-Rn,<-Rn];congr 1;omega
   ·simp only[Array.toList_append,y,Pm];rw[<-Pm,<-E.all_append,<-hlen];exact TH
  ·obtain⟨L,J,e4⟩:=v;cases J;have:w.heap.size=b:=e4;omega
end Go.Proofs.YtmkbhnholcaghaaGreatDoor
