/-
 Ground: slices.Insert, at any type of elements of one cell, in memory of one's own.
-/
import Derived.Test.YtkehfflpbpdokaaGreatDoorFxs
import Derived.Lib.Overlaps
open Array renaming getElem?_eq_none->MY
open Go.Builtin renaming append_->Ks,copy_->Li,firstCells->Pc,zeroCells->Pv
open Go.Extern.SlicesOverlaps renaming overlaps->NJ
open Go.IntKind renaming i64->Ke
open Go.Value.slice renaming injEq->K5
open Go.World renaming setRow->N3,frozen?->Pa,shape?->Su
open List renaming length_take->KF,replicate->KG,length_drop->KS,take_of_length_le->KV,length_singleton->Lq,getElem?_drop->Lv,drop_of_length_le->Lz,mem_of_mem_drop->LG,take_take->MR,drop->MV,length_pos_iff->MX,take->Nl,take_left'->Sr,drop_left'->Ss
open Nat renaming lt_or_ge->K8,mul_one->Ld,min_eq_left->Mx,mul_le_mul->Nb,min_def->Re
namespace Go.Proofs.YtkehfflpbpdokaaGreatDoor
theorem qX {cur:Array Value}{o:Nat}{cs:List Value}{n:Nat}(h:o+cs.length<=n)(hn:n<=cur.size):
  ((cur.toList.take o++cs++cur.toList.drop (o+cs.length)).toArray).toList.take n=(cur.toList.take n).take o++cs++(cur.toList.take n).drop (o+cs.length):=by
 have h1:(cur.toList.take o).length=o:=by rw[KF];simp;omega
 have h2:(cur.toList.take o++cs).length=o+cs.length:=by rw[List.length_append,h1]
 have e:(cur.toList.take n).take o=cur.toList.take o:=by rw[MR,Mx (by omega)]
 rw[List.take_append,h2,KV (by omega),e,List.drop_take]
theorem az.qw {P:Program}{dT sT ty e:TypeId}{H:aa}{base o dl dc:Nat}{s x:Sl}{xs cs:List Value}{a:Option Addr}{K:Int->aa->Prop}(hu:P.underlying dT=some (.slice e))(hs:(P.info? e).map (·.size)=some 1)
  (h:az H base e 1 s xs) (ha:cs≠[]->a=s.a.map (·.add o)) (hx:Reads H x.a cs) (hn:cs.length=Nat.min x.n dl) (hfit:o+cs.length<=s.n) (h1:∀v∈cs,v.oneCell'=true)
  (hK:∀H',az H' base e 1 s (xs.take o++cs++xs.drop (o+cs.length))->Mod (ai s) H H'->H'.size=H.size->K (cs.length:Int) H'):
  bo (af .i64) P (Li #[dT,sT] ty #[.slice a dl dc,x.v]) H K:=by
 intro w hw
 subst hw
 obtain⟨xa,xn,xc⟩:=x
 simp only[Sl.v] at*
 by_cases hz:cs=[]
 ·subst hz
  have hr:=run_copy_none (P:=P) w dT sT ty e a xa dl dc xn xc hu hs hn.symm
  refine⟨_,w,hr,⟨0,rfl,?_⟩,.refl w⟩
  refine hK w.heap ?_ (.refl _ _) rfl
  simpa using h
 ·have hpos:0<cs.length:=MX.2 hz
  obtain⟨ad,rfl,_⟩:=hx.at hpos
  have hsrc:∀j v,cs[j]?=some v->w.cell? (ad.add j)=some v:=λj v hv=>by
   obtain⟨ad',e,hc⟩:=hx j v hv
   cases e;exact hc
  rcases id h.2 with ⟨e1,e2⟩|⟨g,cap,cur,e1,hb,hg,h4,h5,h6,h7⟩
  ·omega
  ·obtain⟨sa,sn,sc⟩:=s
   simp only[Sl.v,K5] at e1
   obtain⟨rfl,_,rfl⟩:=e1
   simp only at h4 h6 h7 hfit ha
   rw[Ld] at h6 h7
   have hcur:o+cs.length<=cur.size:=by omega
   have hr:=run_copy_row (P:=P) w dT sT ty e g o dl dc ad xn xc cur e cs hu hs hg hn hsrc hcur h1
   have ea:a=some ⟨g,o,none⟩:=by rw[ha hz];simp[add_lit]
   rw[ea]
   have hl:(cur.toList.take o++cs++cur.toList.drop (o+cs.length)).toArray.size=cur.size:=by simp;omega
   refine⟨_,_,hr,⟨(cs.length:Int),rfl,hK _ ⟨?_,.inr ⟨g,sc,_,rfl,hb,setRow_heap w g cur _ e _ hg,h4,h5,by rw[hl,Ld,h6],?_⟩⟩ ⟨by simp[N3],λk _ hk=>setRow_other w g k _ (λe3=>hk ⟨_,rfl,e3.symm⟩)⟩ (by simp[N3])⟩,(.of_le rfl (Nat.le_refl _))⟩
   ·have:=h.1
    simp only[Ld] at this ⊢
    simp;omega
   ·simp only
    rw[Ld,qX hfit (by omega),h7]
theorem az.zM {P:Program}{t tn ty e:TypeId}{bytes:Nat}{z:Value}{kn k:IntKind}{H:aa}{a:Option Addr}{n m c base:Nat}{xs:List Value}{K:Sl->aa->Prop}(el:El P t e bytes z)(htn:P.underlying tn=some (.int kn))
  (hx:Reads H a xs) (hl:xs.length=n) (hm:0<m) (hg:c<n+m) (hb1:bytes<=128) (hbig:n+m<=1073741824) (hbase:base<=H.size)
  (hK:∀(s':Sl) (H':aa),s'.n=n+m->az H' base e 1 s' (xs++KG m z)->Ext H H'->(∀b,ai s' b->H.size<=b)->K s' H'):
  bo ao P (Ks #[t,tn] ty #[.slice a n c,.int k (m:Int)]) H K:=by
 obtain⟨inf,ht,hi,hz,hzc,hs1,hbt⟩:=el
 intro w hw
 subst hw
 have hcells:(Pc inf.size n (.slice a n c)).run P w.drew=.ok xs.toArray w.drew:=by
  cases a with
  |none=>
    have:xs=[]:=by
     cases hq:xs with
     |nil=>rfl
     |cons a r=>
       obtain⟨ad,e1,_⟩:=hx 0 a (by rw[hq];rfl)
       cases e1
    subst this
    simp only[List.length_nil] at hl
    subst hl
    simp[Pc]
  |some a=>
    exact run_firstCells_some (P:=P) w.drew inf.size n a n c xs (by rw[hl,hs1];omega) λj u hu=>by
     obtain⟨ad,e1,hc⟩:=hx j u hu
     cases e1;exact hc
 have hlb:(n+m)*bytes<=140737488355328:=by
  have:(n+m)*bytes<=1073741824*128:=Nb (by omega) hb1
  omega
 have hmb:m*inf.bytes<=281474976710656:=by
  rw[hbt]
  have:m*bytes<=(n+m)*bytes:=Nat.mul_le_mul_right _ (by omega)
  omega
 have hr:=Go.Lib.run_append_grow_zeros (P:=P) w t tn ty e inf z k kn ht htn hi hz a n c xs hcells m hm (by omega) hg (by omega) hmb
  (growslice_fits (need:=n+m) (old:=c) (bytes:=inf.bytes) (by omega) (by rw[hbt];exact hlb))
 have hge:=grownCap_ge w (n+m) c e
 have hcm2:grownCap w (n+m) c e<=maxLen:=grownCap_le_maxLen w (n+m) c e (by unfold maxLen;omega)
 have hzl:(Pv z.cells m).toList=KG m z:=by
  apply List.ext_getElem
  ·simp[Pv,hzc]
  ·intro i h1 h2
   have:i%1=0:=Nat.mod_one i
   simp[Pv,hzc,this]
 refine⟨_,_,hr,⟨⟨some ⟨w.heap.size,0,none⟩,n+m,grownCap w (n+m) c e⟩,rfl,hK _ _ rfl ?_ (Mod.push _ _ _) (λb hb=>?_)⟩,(.of_le rfl (Nat.le_succ _))⟩
 ·refine az.fresh hbase hge hcm2 ?_ (by simp[hl]) ?_
  ·simp only[Array.size_append,List.size_toArray,size_zeroCells,hl,hzc]
   simp;omega
  ·have hlen:n+m=(xs++KG m z).length:=by simp[hl]
   simp only[Array.toList_append,hzl,Ld]
   rw[hlen]
   exact List.take_left
 ·obtain⟨ad',e3,e4⟩:=hb
  cases e3;have:w.heap.size=b:=e4;omega
def Fm (P:Program)(tS tI:TypeId)(ovl:FuncId)(rot:Sl->Int->aa->(Unit->aa->Prop)->Prop)(s:Sl)(i:Int)(v:Sl)(H:aa)(R:Sl->aa->Prop):Prop:=
 (0<=i/\i<=(s.n:Int))/\br ((v.n:Int)==(0:Int)) (R s H) (br (i==(s.n:Int)) (bo ao P (Ks #[tS,tS] tS #[s.v,v.v]) H λ(s_1:Sl) H1=>R s_1 H1) (br (decide ((Ke.wrap ((s.n:Int)+(v.n:Int)))>(s.c:Int))) ((0<=i/\i<=(s.c:Int))/\bo ao P (Ks #[tS,tI] tS #[(.slice (bw s.a s.c 0 1) (i.toNat - 0) (s.c - 0)),(.int .i64 (Ke.wrap ((Ke.wrap ((s.n:Int)+(v.n:Int))) - i)))]) H λ(s2:Sl) H2=>(0<=i/\i<=(s2.n:Int))/\bo (af .i64) P (Li #[tS,tS] tI #[(.slice (bw s2.a s2.c i.toNat 1) (s2.n - i.toNat) (s2.c - i.toNat)),v.v]) H2 λ(_:Int) H3=>(0<=(Ke.wrap (i+(v.n:Int)))/\(Ke.wrap (i+(v.n:Int)))<=(s2.n:Int))/\(0<=i/\i<=(s.n:Int))/\bo (af .i64) P (Li #[tS,tS] tI #[(.slice (bw s2.a s2.c ((Ke.wrap (i+(v.n:Int))).toNat) 1) (s2.n - ((Ke.wrap (i+(v.n:Int))).toNat)) (s2.c - ((Ke.wrap (i+(v.n:Int))).toNat))),(.slice (bw s.a s.c i.toNat 1) (s.n - i.toNat) (s.c - i.toNat))]) H3 λ(_:Int) H4=>R s2 H4) ((0<=(Ke.wrap ((s.n:Int)+(v.n:Int)))/\(Ke.wrap ((s.n:Int)+(v.n:Int)))<=(s.c:Int))/\(0<=(Ke.wrap (i+(v.n:Int)))/\(Ke.wrap (i+(v.n:Int)))<=((((Ke.wrap ((s.n:Int)+(v.n:Int))).toNat) - 0:Nat):Int))/\bo aw P (gn ovl #[v.v,(.slice (bw (bw s.a s.c 0 1) (s.c - 0) ((Ke.wrap (i+(v.n:Int))).toNat) 1) ((((Ke.wrap ((s.n:Int)+(v.n:Int))).toNat) - 0) - ((Ke.wrap (i+(v.n:Int))).toNat)) ((s.c - 0) - ((Ke.wrap (i+(v.n:Int))).toNat)))]) H λ(r:Bool) H5=>br (!r) ((0<=(Ke.wrap (i+(v.n:Int)))/\(Ke.wrap (i+(v.n:Int)))<=((((Ke.wrap ((s.n:Int)+(v.n:Int))).toNat) - 0:Nat):Int))/\(0<=i/\i<=((((Ke.wrap ((s.n:Int)+(v.n:Int))).toNat) - 0:Nat):Int))/\bo (af .i64) P (Li #[tS,tS] tI #[(.slice (bw (bw s.a s.c 0 1) (s.c - 0) ((Ke.wrap (i+(v.n:Int))).toNat) 1) ((((Ke.wrap ((s.n:Int)+(v.n:Int))).toNat) - 0) - ((Ke.wrap (i+(v.n:Int))).toNat)) ((s.c - 0) - ((Ke.wrap (i+(v.n:Int))).toNat))),(.slice (bw (bw s.a s.c 0 1) (s.c - 0) i.toNat 1) ((((Ke.wrap ((s.n:Int)+(v.n:Int))).toNat) - 0) - i.toNat) ((s.c - 0) - i.toNat))]) H5 λ(_:Int) H6=>(0<=i/\i<=((((Ke.wrap ((s.n:Int)+(v.n:Int))).toNat) - 0:Nat):Int))/\bo (af .i64) P (Li #[tS,tS] tI #[(.slice (bw (bw s.a s.c 0 1) (s.c - 0) i.toNat 1) ((((Ke.wrap ((s.n:Int)+(v.n:Int))).toNat) - 0) - i.toNat) ((s.c - 0) - i.toNat)),v.v]) H6 λ(_:Int) H7=>R (Sl.mk (bw s.a s.c 0 1) (((Ke.wrap ((s.n:Int)+(v.n:Int))).toNat) - 0) (s.c - 0)) H7) ((0<=(s.n:Int)/\(s.n:Int)<=((((Ke.wrap ((s.n:Int)+(v.n:Int))).toNat) - 0:Nat):Int))/\bo (af .i64) P (Li #[tS,tS] tI #[(.slice (bw (bw s.a s.c 0 1) (s.c - 0) ((s.n:Int).toNat) 1) ((((Ke.wrap ((s.n:Int)+(v.n:Int))).toNat) - 0) - ((s.n:Int).toNat)) ((s.c - 0) - ((s.n:Int).toNat))),v.v]) H5 λ(_:Int) H8=>(0<=i/\i<=((((Ke.wrap ((s.n:Int)+(v.n:Int))).toNat) - 0:Nat):Int))/\rot (Sl.mk (bw (bw s.a s.c 0 1) (s.c - 0) i.toNat 1) ((((Ke.wrap ((s.n:Int)+(v.n:Int))).toNat) - 0) - i.toNat) ((s.c - 0) - i.toNat)) (v.n:Int) H8 λ(_:Unit) H9=>R (Sl.mk (bw s.a s.c 0 1) (((Ke.wrap ((s.n:Int)+(v.n:Int))).toNat) - 0) (s.c - 0)) H9))))
theorem lZ {g o c i:Nat}(h:c≠i):bw (some ⟨g,o,none⟩) c i 1=some ⟨g,o+i,none⟩:=by
 unfold bw
 rw[if_neg (by simpa using h)]
 simp[add_lit]
def aY {α:Type}(i:Nat)(a:α)(l:List α):List α:=l.take i++a::l.drop i
theorem BL {P:Program}{tS tI tR e:TypeId}{bytes:Nat}{z x:Value}{kn:IntKind}{ovl:FuncId}{rot:Sl->Int->aa->(Unit->aa->Prop)->Prop}{s:Sl}{i c:Nat}{p:Addr}{xs:List Value}{H:aa}{base:Nat}{K:Sl->aa->Prop}
  (el:El P tS e bytes z) (hb1:bytes<=128) (htn:P.underlying tI=some (.int kn))
  (hov:∀args w,(callFunc ovl args).run P w=((NJ #[tS,tS] #[tR] args).run P w).andThen λv w'=>.ok (.value v) w')
  (h:az H base e 1 s xs) (h1:∀u∈xs,u.oneCell'=true) (hx1:x.oneCell'=true) (hp:dd H p e x) (hpo:¬ai s p.block) (hi:i<=xs.length) (hn:xs.length<=1000000) (hbase:base<=H.size)
  (hK:∀(s':Sl) (H':aa),s'.n=xs.length+1->az H' base e 1 s' (aY i x xs)->Mod (ai s) H H'->(∀b,ai s' b->ai s b\/H.size<=b)->K s' H'):
  Fm P tS tI ovl rot s (i:Int) ⟨some p,1,c⟩ H K:=by
 obtain⟨inf,ht,hinf,hz,hzc,hs1,hbt⟩:=id el
 have hsz:(P.info? e).map (·.size)=some 1:=by rw[hinf];simp[hs1]
 have hln:xs.length=s.n:=by have:=h.1;omega
 have hxr:Reads H (some p) [x]:=by
  intro j v hv
  have hj:j=0:=by have:=(List.getElem?_eq_some_iff.1 hv).1;simp at this;omega
  subst hj
  simp at hv;subst hv
  exact⟨p,rfl,hp.var.cell⟩
 have w1:Ke.wrap ((s.n:Int)+((1:Nat):Int))=((s.n+1:Nat):Int):=by rw[wrap64 (by omega) (by omega)];omega
 have w2:Ke.wrap ((i:Int)+((1:Nat):Int))=((i+1:Nat):Int):=by rw[wrap64 (by omega) (by omega)];omega
 unfold Fm
 refine⟨by omega,ax rfl ?_⟩
 refine ak (λhc=>?_) (λhc=>?_)
 ·have e0:i=s.n:=by
   have:(i:Int)=(s.n:Int):=by simpa using hc
   omega
  refine jd (base:=base) (s:=s) (x:=⟨some p,1,c⟩) (xs:=xs) (ws:=[x]) ht hinf hz (by rw[hzc,hs1];rfl) (by omega) (by rw[hs1];exact h) (by simp[hs1]) hxr (by simpa using hx1) (by simp only;omega) (by rw[hbt];simp only;have:(s.n+1)*bytes<=1000001*128:=Nb (by omega) hb1;omega) hbase ?_
  intro s' H' n1 o1 m1 b1 _
  rw[hs1] at o1
  refine hK s' H' (by simp only at n1;omega) ?_ m1 b1
  unfold aY
  rw[KV (by omega),Lz (by omega)]
  exact o1
 ·have e0:i<s.n:=by
   have:¬(i:Int)=(s.n:Int):=by simpa using hc
   omega
  rcases id h.2 with ⟨e1,e2⟩|⟨g,cap,cur,e1,hb,hg,h4,h5,h6,h7⟩
  ·omega
  obtain⟨sa,sn,sc⟩:=s
  simp only[Sl.v,K5] at e1
  obtain⟨rfl,_,rfl⟩:=e1
  simp only at h4 h6 h7 e0 hln w1 ⊢
  rw[w1,w2,fS]
  simp only[Int.toNat_natCast,Nat.sub_zero]
  refine ak (λhc2=>?_) (λhc2=>?_)
  ·have hcap:sc<sn+1:=by
    have:((sn+1:Nat):Int)>(sc:Int):=by simpa using hc2
    omega
   have hrd:=h.reads
   have w3:Ke.wrap (((sn+1:Nat):Int) - (i:Int))=((sn+1 - i:Nat):Int):=by rw[wrap64 (by omega) (by omega)];omega
   rw[w3]
   refine⟨by omega,?_⟩
   refine az.zM el htn (base:=base) (xs:=xs.take i) (hrd.take i) (by simp;omega) (by omega) (by omega) hb1 (by omega) hbase λs2 H2 n2 o2 e2 b2=>?_
   have hn2:s2.n=sn+1:=by omega
   have hs2:s2.a≠none:=λq=>by have:=az.Jc o2 q;omega
   have hc2':=o2.cap
   have hr2:Reads H2 (some p) [x]:=hxr.ext e2
   have hsl2:∀j,j<s2.n->bw s2.a s2.c j 1=s2.a.map (·.add j):=λj hj=>by
    unfold bw
    rw[if_neg (by omega),Ld]
   refine⟨by omega,?_⟩
   refine az.qw (x:=⟨some p,1,c⟩) (cs:=[x]) (o:=i) ht hsz o2 (λ_=>hsl2 i (by omega)) hr2 (by simp only[Lq,Re];split<;>omega) (by simp;omega) (by simpa using hx1) λH3 o3 m3 z3=>?_
   refine⟨by omega,by omega,?_⟩
   have hd:Reads H3 (bw (some ⟨g,0,none⟩) sc i 1) (xs.drop i):=by
    rw[lZ (by omega)]
    intro j v hv
    rw[Lv] at hv
    obtain⟨ad,ha,hc'⟩:=hrd (i+j) v hv
    cases ha
    refine⟨_,rfl,?_⟩
    rw[add_lit] at hc' ⊢
    have hgl:g<H.size:=by
     rcases K8 g H.size with q|q
     ·exact q
     ·rw[MY q] at hg;cases hg
    have k1:=e2.cell hc' id
    have k2:=m3.cell k1 λq=>by have:=b2 _ q;simp only at this;omega
    rw[<-k2];congr 2;omega
   refine az.qw (x:=⟨bw (some ⟨g,0,none⟩) sc i 1,sn - i,sc - i⟩) (cs:=xs.drop i) (o:=i+1) ht hsz o3 (λhne=>hsl2 (i+1) (by
    have:0<(xs.drop i).length:=MX.2 hne
    rw[KS] at this;omega)) hd (by rw[KS];simp only[Re];split<;>omega) (by rw[KS];omega) (λv hv=>h1 v (LG hv)) λH4 o4 m4 z4=>?_
   refine hK s2 H4 (by omega) ?_ ?_ λb hb=>.inr (b2 b hb)
   ·have l1:(Nl i xs).length=i:=by simp;omega
    have l2:(MV i xs).length=sn - i:=by rw[KS];omega
    unfold aY
    generalize Nl i xs=A at l1 o4 ⊢
    generalize hD:MV i xs=D at l2 o4
    have r1:KG (sn+1 - i) z=[z]++KG (sn - i) z:=by rw[show sn+1 - i=(sn - i)+1 by omega,List.replicate_succ];rfl
    have hY:Nl i (A++KG (sn+1 - i) z)++[x]++MV (i+[x].length) (A++KG (sn+1 - i) z)=(A++[x])++KG (sn - i) z:=by
     rw[Sr l1,r1,<-List.append_assoc,Ss (by simp[l1])]
    have e4:Nl (i+1) ((A++[x])++KG (sn - i) z)++D++MV (i+1+D.length) ((A++[x])++KG (sn - i) z)=A++x::D:=by
     rw[Sr (by simp[l1]),List.drop_eq_nil_of_le (by simp[l1,l2];omega)]
     simp
    rw[hY,e4] at o4
    exact o4
   ·exact((e2.mod (F:=ai s2)).trans m3 |>.trans m4).ext (λb hb=>b2 b hb) |>.mod
  ·have hroom:sn+1<=sc:=by
    have:¬((sn+1:Nat):Int)>(sc:Int):=by simpa using hc2
    omega
   have hgl:g<H.size:=by
    rcases K8 g H.size with q|q
    ·exact q
    ·rw[MY q] at hg;cases hg
   rw[Ld] at h6 h7
   refine⟨by omega,by omega,?_⟩
   have hov2:∀w:World,w.heap=H->(gn ovl #[.slice (some p) 1 c,.slice (bw (some ⟨g,0,none⟩) sc (i+1) 1) (sn+1 - (i+1)) (sc - (i+1))]).run P w=.ok (.bool false) w:=by
    intro w hw
    subst hw
    have hsA:bw (some ⟨g,0,none⟩) sc (i+1) 1=some ⟨g,0+(i+1),none⟩:=lZ (by omega)
    have hzw:∀w,(Go.sizeOf e).run P w=.ok 1 w:=λw=>by simp[sizeOf,typeInfo,hinf,hs1]
    have hpb:=hp.obj
    have hpspot:=hp.spot
    have hpoff:=hp.off
    have hr:=Go.Lib.run_overlaps_apart (P:=P) w tS tR e ht 1 hzw p ⟨g,0+(i+1),none⟩ 1 c (sn+1 - (i+1)) (sc - (i+1)) (λq=>hpo ⟨_,rfl,q.symm⟩) e e 1 cur.size
     (by unfold Su;rw[hpb];rfl) (by unfold Su;rw[hg]) (by omega) (by unfold Pa;rw[hpb];simp) (by unfold Pa;simp only[hpb];simp)
    rw[hsA]
    unfold gn
    rw[Sem.run_bind,hov,hr]
    simp[Result.andThen]
   refine λw hw=>⟨.bool false,w,hov2 w hw,⟨false,rfl,?_⟩,.refl w⟩
   subst hw
   refine aT rfl ?_
   refine⟨by omega,by omega,?_⟩
   have o1:az w.heap base e 1 ⟨some ⟨g,0,none⟩,sn+1,sc⟩ (cur.toList.take (sn+1)):=⟨by simp;omega,.inr ⟨g,sc,cur,rfl,hb,hg,hroom,h5,by omega,by simp⟩⟩
   have hxs:xs=(cur.toList.take (sn+1)).take sn:=by rw[MR,Mx (by omega)];exact h7.symm
   have hlc:(cur.toList.take (sn+1)).length=sn+1:=by simp;omega
   generalize hys:cur.toList.take (sn+1)=ys at*
   have hd:Reads w.heap (bw (some ⟨g,0,none⟩) sc i 1) (xs.drop i):=by
    have hrd:=h.reads
    rw[lZ (by omega)]
    intro j v hv
    rw[Lv] at hv
    obtain⟨ad,ha,hc'⟩:=hrd (i+j) v hv
    cases ha
    refine⟨_,rfl,?_⟩
    rw[add_lit] at hc' ⊢
    rw[<-hc'];congr 2;omega
   have hsA:∀j,j<sn+1->bw (some ⟨g,0,none⟩) sc j 1=(some ⟨g,0,none⟩:Option Addr).map (·.add j):=λj hj=>by
    rw[lZ (by omega)];simp[add_lit]
   refine az.qw (s:=⟨some ⟨g,0,none⟩,sn+1,sc⟩) (x:=⟨bw (some ⟨g,0,none⟩) sc i 1,sn+1 - i,sc - i⟩) (cs:=xs.drop i) (o:=i+1) ht hsz o1 (λhne=>hsA _ (by omega)) hd (by rw[KS];simp only[Re];split<;>omega) (by rw[KS];simp only;omega) (λv hv=>h1 v (LG hv)) λH4 o4 m4 z4=>?_
   refine⟨by omega,?_⟩
   have hx4:Reads H4 (some p) [x]:=hxr.mod m4 λad ha q=>by
    cases ha
    obtain⟨a',q1,q2⟩:=q
    exact hpo ⟨a',q1,q2⟩
   refine az.qw (s:=⟨some ⟨g,0,none⟩,sn+1,sc⟩) (x:=⟨some p,1,c⟩) (cs:=[x]) (o:=i) ht hsz o4 (λhne=>hsA _ (by omega)) hx4 (by simp only[Lq,Re];split<;>omega) (by simp;omega) (by simpa using hx1) λH5 o5 m5 z5=>?_
   refine hK _ H5 (by simp only;omega) ?_ ((m4.trans m5).mono λb _ hb=>hb) λb hb=>.inl hb
   have hdl:(xs.drop i).length=sn - i:=by rw[KS];omega
   have e5:Nl i (Nl (i+1) ys++MV i xs++MV (i+1+(MV i xs).length) ys)++[x]++MV (i+[x].length) (Nl (i+1) ys++MV i xs++MV (i+1+(MV i xs).length) ys)=aY i x xs:=by
    have l1:(Nl (i+1) ys).length=i+1:=by rw[KF];omega
    rw[Lz (l:=ys) (by omega),List.append_nil]
    have t1:Nl i (Nl (i+1) ys++MV i xs)=Nl i xs:=by
     rw[List.take_append_of_le_length (by omega),MR,Mx (by omega),hxs,MR,Mx (by omega)]
    have t2:MV (i+[x].length) (Nl (i+1) ys++MV i xs)=MV i xs:=Ss (by rw[l1];rfl)
    rw[t1,t2]
    unfold aY
    simp
   rw[e5] at o5
   exact o5
end Go.Proofs.YtkehfflpbpdokaaGreatDoor
