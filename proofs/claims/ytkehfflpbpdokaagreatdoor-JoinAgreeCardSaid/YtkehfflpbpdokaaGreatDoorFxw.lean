/-
 Ground: slices.Insert, at any type of elements of one cell, in memory of one's own.
-/
import Derived.Test.YtkehfflpbpdokaaGreatDoorFxs
import Derived.Lib.Overlaps
open Array renaming getElem?_eq_none->Tp
open Go.Builtin renaming append_->Qo,copy_->Rh,firstCells->VK,zeroCells->V1
open Go.Extern.SlicesOverlaps renaming overlaps->Ug
open Go.IntKind renaming i64->Qe
open Go.Value.slice renaming injEq->Q3
open Go.World renaming setRow->UB,frozen?->VH,shape?->YU
open List renaming length_take->Qw,replicate->QE,length_drop->QG,take_of_length_le->QO,drop_of_length_le->Rj,mem_of_mem_drop->Rq,getElem?_drop->Rr,length_singleton->RF,take_take->Tg,drop->Tl,length_pos_iff->To,take->TS,take_left'->YS,drop_left'->YT
open Nat renaming lt_or_ge->Q6,mul_one->Q9,min_eq_left->SL,mul_le_mul->Uj,min_def->XL
namespace Go.Proofs.YtkehfflpbpdokaaGreatDoor
theorem vt {cur:Array Value}{o:Nat}{cs:List Value}{n:Nat}(h:o+cs.length<=n)(b:n<=cur.size):
  ((cur.toList.take o++cs++cur.toList.drop (o+cs.length)).toArray).toList.take n=(cur.toList.take n).take o++cs++(cur.toList.take n).drop (o+cs.length):=by
 have h1:(cur.toList.take o).length=o:=by rw[Qw];simp;omega
 have a:(cur.toList.take o++cs).length=o+cs.length:=by rw[List.length_append,h1]
 have e:(cur.toList.take n).take o=cur.toList.take o:=by rw[Tg,SL (by omega)]
 rw[List.take_append,a,QO (by omega),e,List.drop_take]
theorem aA.uB {P:Program}{i l ty e:TypeId}{H:aa}{base o dl dc:Nat}{s x:Sl}{xs cs:List Value}{a:Option Addr}{K:Int->aa->Prop}(hu:P.underlying i=some (.slice e))(hs:(P.info? e).map (·.size)=some 1)
  (h:aA H base e 1 s xs) (q:cs≠[]->a=s.a.map (·.add o)) (r:Reads H x.a cs) (t:cs.length=Nat.min x.n dl) (b:o+cs.length<=s.n) (h1:∀v∈cs,v.oneCell'=true)
  (u:∀H',aA H' base e 1 s (xs.take o++cs++xs.drop (o+cs.length))->Mod (al s) H H'->H'.size=H.size->K (cs.length:Int) H'):
  bI (ai .i64) P (Rh #[i,l] ty #[.slice a dl dc,x.v]) H K:=by
 intro w hw;subst hw;obtain⟨C,y,z⟩:=x;simp only[Sl.v] at*;by_cases hz:cs=[]
 ·subst hz;have hr:=run_copy_none (P:=P) w i l ty e a C dl dc y z hu hs t.symm;refine⟨_,w,hr,⟨0,rfl,?_⟩,.refl w⟩;refine u w.heap ?_ (.refl _ _) rfl;simpa using h
 ·have c:0<cs.length:=To.2 hz;obtain⟨ad,rfl,_⟩:=r.at c;have d:∀j v,cs[j]?=some v->w.cell? (ad.add j)=some v:=λj v D=>by
   obtain⟨E,e,F⟩:=r j v D;cases e;exact F
  rcases id h.2 with ⟨m,e2⟩|⟨g,cap,cur,m,G,A,B,I,n,p⟩
  ·omega
  ·obtain⟨O,Q,J⟩:=s;simp only[Sl.v,Q3] at m;obtain⟨rfl,_,rfl⟩:=m;simp only at B n p b q;rw[Q9] at n p;have f:o+cs.length<=cur.size:=by omega
   have hr:=run_copy_row (P:=P) w i l ty e g o dl dc ad y z cur e cs hu hs A t d f h1;have L:a=some ⟨g,o,none⟩:=by rw[q hz];simp[add_lit]
   rw[L];have M:(cur.toList.take o++cs++cur.toList.drop (o+cs.length)).toArray.size=cur.size:=by simp;omega
   refine⟨_,_,hr,⟨(cs.length:Int),rfl,u _ ⟨?_,.inr ⟨g,J,_,rfl,G,setRow_heap w g cur _ e _ A,B,I,by rw[M,Q9,n],?_⟩⟩ ⟨by simp[UB],λk _ hk=>setRow_other w g k _ (λN=>hk ⟨_,rfl,N.symm⟩)⟩ (by simp[UB])⟩,(.of_le rfl (Nat.le_refl _))⟩
   ·have:=h.1;simp only[Q9] at this ⊢;simp;omega
   ·simp only;rw[Q9,vt b (by omega),p]
theorem aA.DZ {P:Program}{t tn ty e:TypeId}{bytes:Nat}{z:Value}{D k:IntKind}{H:aa}{a:Option Addr}{n m c base:Nat}{xs:List Value}{K:Sl->aa->Prop}(el:El P t e bytes z)(q:P.underlying tn=some (.int D))
  (E:Reads H a xs) (h:xs.length=n) (hm:0<m) (G:c<n+m) (s:bytes<=128) (F:n+m<=1073741824) (f:base<=H.size)
  (I:∀(p:Sl) (H':aa),p.n=n+m->aA H' base e 1 p (xs++QE m z)->Ext H H'->(∀b,al p b->H.size<=b)->K p H'):
  bI au P (Qo #[t,tn] ty #[.slice a n c,.int k (m:Int)]) H K:=by
 obtain⟨inf,J,hi,hz,g,v,l⟩:=el;intro w hw;subst hw;have d:(VK inf.size n (.slice a n c)).run P w.drew=.ok xs.toArray w.drew:=by
  cases a with
  |none=>
    have:xs=[]:=by
     cases L:xs with
     |nil=>rfl
     |cons a r=>
       obtain⟨ad,x,_⟩:=E 0 a (by rw[L];rfl);cases x
    subst this;simp only[List.length_nil] at h;subst h;simp[VK]
  |some a=>
    exact run_firstCells_some (P:=P) w.drew inf.size n a n c xs (by rw[h,v];omega) λj u hu=>by
     obtain⟨ad,x,M⟩:=E j u hu;cases x;exact M
 have y:(n+m)*bytes<=140737488355328:=by
  have:(n+m)*bytes<=1073741824*128:=Uj (by omega) s;omega
 have A:m*inf.bytes<=281474976710656:=by
  rw[l];have:m*bytes<=(n+m)*bytes:=Nat.mul_le_mul_right _ (by omega);omega
 have hr:=Go.Lib.run_append_grow_zeros (P:=P) w t tn ty e inf z k D J q hi hz a n c xs d m hm (by omega) G (by omega) A
  (growslice_fits (need:=n+m) (old:=c) (bytes:=inf.bytes) (by omega) (by rw[l];exact y))
 have B:=grownCap_ge w (n+m) c e;have o:grownCap w (n+m) c e<=maxLen:=grownCap_le_maxLen w (n+m) c e (by unfold maxLen;omega);have C:(V1 z.cells m).toList=QE m z:=by
  apply List.ext_getElem
  ·simp[V1,g]
  ·intro i h1 S;have:i%1=0:=Nat.mod_one i;simp[V1,g,this]
 refine⟨_,_,hr,⟨⟨some ⟨w.heap.size,0,none⟩,n+m,grownCap w (n+m) c e⟩,rfl,I _ _ rfl ?_ (Mod.push _ _ _) (λb N=>?_)⟩,(.of_le rfl (Nat.le_succ _))⟩
 ·refine aA.fresh f B o ?_ (by simp[h]) ?_
  ·simp only[Array.size_append,List.size_toArray,size_zeroCells,h,g];simp;omega
  ·have hlen:n+m=(xs++QE m z).length:=by simp[h]
   simp only[Array.toList_append,C,Q9];rw[hlen];exact List.take_left
 ·obtain⟨O,Q,R⟩:=N;cases Q;have:w.heap.size=b:=R;omega
def LR (P:Program)(a b:TypeId)(ovl:FuncId)(rot:Sl->Int->aa->(Unit->aa->Prop)->Prop)(s:Sl)(i:Int)(v:Sl)(H:aa)(R:Sl->aa->Prop):Prop:=
 (0<=i/\i<=(s.n:Int))/\br ((v.n:Int)==(0:Int)) (R s H) (br (i==(s.n:Int)) (bI au P (Qo #[a,a] a #[s.v,v.v]) H λ(c:Sl) H1=>R c H1) (br (decide ((Qe.wrap ((s.n:Int)+(v.n:Int)))>(s.c:Int))) ((0<=i/\i<=(s.c:Int))/\bI au P (Qo #[a,b] a #[(.slice (bF s.a s.c 0 1) (i.toNat - 0) (s.c - 0)),(.int .i64 (Qe.wrap ((Qe.wrap ((s.n:Int)+(v.n:Int))) - i)))]) H λ(s2:Sl) e=>(0<=i/\i<=(s2.n:Int))/\bI (ai .i64) P (Rh #[a,a] b #[(.slice (bF s2.a s2.c i.toNat 1) (s2.n - i.toNat) (s2.c - i.toNat)),v.v]) e λ(_:Int) f=>(0<=(Qe.wrap (i+(v.n:Int)))/\(Qe.wrap (i+(v.n:Int)))<=(s2.n:Int))/\(0<=i/\i<=(s.n:Int))/\bI (ai .i64) P (Rh #[a,a] b #[(.slice (bF s2.a s2.c ((Qe.wrap (i+(v.n:Int))).toNat) 1) (s2.n - ((Qe.wrap (i+(v.n:Int))).toNat)) (s2.c - ((Qe.wrap (i+(v.n:Int))).toNat))),(.slice (bF s.a s.c i.toNat 1) (s.n - i.toNat) (s.c - i.toNat))]) f λ(_:Int) g=>R s2 g) ((0<=(Qe.wrap ((s.n:Int)+(v.n:Int)))/\(Qe.wrap ((s.n:Int)+(v.n:Int)))<=(s.c:Int))/\(0<=(Qe.wrap (i+(v.n:Int)))/\(Qe.wrap (i+(v.n:Int)))<=((((Qe.wrap ((s.n:Int)+(v.n:Int))).toNat) - 0:Nat):Int))/\bI aC P (iv ovl #[v.v,(.slice (bF (bF s.a s.c 0 1) (s.c - 0) ((Qe.wrap (i+(v.n:Int))).toNat) 1) ((((Qe.wrap ((s.n:Int)+(v.n:Int))).toNat) - 0) - ((Qe.wrap (i+(v.n:Int))).toNat)) ((s.c - 0) - ((Qe.wrap (i+(v.n:Int))).toNat)))]) H λ(r:Bool) d=>br (!r) ((0<=(Qe.wrap (i+(v.n:Int)))/\(Qe.wrap (i+(v.n:Int)))<=((((Qe.wrap ((s.n:Int)+(v.n:Int))).toNat) - 0:Nat):Int))/\(0<=i/\i<=((((Qe.wrap ((s.n:Int)+(v.n:Int))).toNat) - 0:Nat):Int))/\bI (ai .i64) P (Rh #[a,a] b #[(.slice (bF (bF s.a s.c 0 1) (s.c - 0) ((Qe.wrap (i+(v.n:Int))).toNat) 1) ((((Qe.wrap ((s.n:Int)+(v.n:Int))).toNat) - 0) - ((Qe.wrap (i+(v.n:Int))).toNat)) ((s.c - 0) - ((Qe.wrap (i+(v.n:Int))).toNat))),(.slice (bF (bF s.a s.c 0 1) (s.c - 0) i.toNat 1) ((((Qe.wrap ((s.n:Int)+(v.n:Int))).toNat) - 0) - i.toNat) ((s.c - 0) - i.toNat))]) d λ(_:Int) h=>(0<=i/\i<=((((Qe.wrap ((s.n:Int)+(v.n:Int))).toNat) - 0:Nat):Int))/\bI (ai .i64) P (Rh #[a,a] b #[(.slice (bF (bF s.a s.c 0 1) (s.c - 0) i.toNat 1) ((((Qe.wrap ((s.n:Int)+(v.n:Int))).toNat) - 0) - i.toNat) ((s.c - 0) - i.toNat)),v.v]) h λ(_:Int) j=>R (Sl.mk (bF s.a s.c 0 1) (((Qe.wrap ((s.n:Int)+(v.n:Int))).toNat) - 0) (s.c - 0)) j) ((0<=(s.n:Int)/\(s.n:Int)<=((((Qe.wrap ((s.n:Int)+(v.n:Int))).toNat) - 0:Nat):Int))/\bI (ai .i64) P (Rh #[a,a] b #[(.slice (bF (bF s.a s.c 0 1) (s.c - 0) ((s.n:Int).toNat) 1) ((((Qe.wrap ((s.n:Int)+(v.n:Int))).toNat) - 0) - ((s.n:Int).toNat)) ((s.c - 0) - ((s.n:Int).toNat))),v.v]) d λ(_:Int) k=>(0<=i/\i<=((((Qe.wrap ((s.n:Int)+(v.n:Int))).toNat) - 0:Nat):Int))/\rot (Sl.mk (bF (bF s.a s.c 0 1) (s.c - 0) i.toNat 1) ((((Qe.wrap ((s.n:Int)+(v.n:Int))).toNat) - 0) - i.toNat) ((s.c - 0) - i.toNat)) (v.n:Int) k λ(_:Unit) l=>R (Sl.mk (bF s.a s.c 0 1) (((Qe.wrap ((s.n:Int)+(v.n:Int))).toNat) - 0) (s.c - 0)) l))))
theorem oK {g o c i:Nat}(h:c≠i):bF (some ⟨g,o,none⟩) c i 1=some ⟨g,o+i,none⟩:=by
 unfold bF;rw[if_neg (by simpa using h)];simp[add_lit]
def bj {α:Type}(i:Nat)(a:α)(l:List α):List α:=l.take i++a::l.drop i
theorem Hr {P:Program}{U tI tR e:TypeId}{bytes:Nat}{z x:Value}{kn:IntKind}{ovl:FuncId}{rot:Sl->Int->aa->(Unit->aa->Prop)->Prop}{s:Sl}{i c:Nat}{p:Addr}{xs:List Value}{H:aa}{base:Nat}{K:Sl->aa->Prop}
  (el:El P U e bytes z) (V:bytes<=128) (af:P.underlying tI=some (.int kn))
  (a1:∀args w,(callFunc ovl args).run P w=((Ug #[U,U] #[tR] args).run P w).andThen λv w'=>.ok (.value v) w')
  (h:aA H base e 1 s xs) (h1:∀u∈xs,u.oneCell'=true) (G:x.oneCell'=true) (Z:dV H p e x) (W:¬al s p.block) (hi:i<=xs.length) (hn:xs.length<=1000000) (m:base<=H.size)
  (hK:∀(Q:Sl) (H':aa),Q.n=xs.length+1->aA H' base e 1 Q (bj i x xs)->Mod (al s) H H'->(∀b,al Q b->al s b\/H.size<=b)->K Q H'):
  LR P U tI ovl rot s (i:Int) ⟨some p,1,c⟩ H K:=by
 obtain⟨inf,R,n,hz,a6,f,a7⟩:=id el;have t:(P.info? e).map (·.size)=some 1:=by rw[n];simp[f]
 have a8:xs.length=s.n:=by have:=h.1;omega
 have I:Reads H (some p) [x]:=by
  intro j v k;have hj:j=0:=by have:=(List.getElem?_eq_some_iff.1 k).1;simp at this;omega
  subst hj;simp at k;subst k;exact⟨p,rfl,Z.var.cell⟩
 have w1:Qe.wrap ((s.n:Int)+((1:Nat):Int))=((s.n+1:Nat):Int):=by rw[wrap64 (by omega) (by omega)];omega
 have w2:Qe.wrap ((i:Int)+((1:Nat):Int))=((i+1:Nat):Int):=by rw[wrap64 (by omega) (by omega)];omega
 unfold LR;refine⟨by omega,az rfl ?_⟩;refine ao (λhc=>?_) (λhc=>?_)
 ·have e0:i=s.n:=by
   have:(i:Int)=(s.n:Int):=by simpa using hc
   omega
  refine lC (base:=base) (s:=s) (x:=⟨some p,1,c⟩) (xs:=xs) (ws:=[x]) R n hz (by rw[a6,f];rfl) (by omega) (by rw[f];exact h) (by simp[f]) I (by simpa using G) (by simp only;omega) (by rw[a7];simp only;have:(s.n+1)*bytes<=1000001*128:=Uj (by omega) V;omega) m ?_;intro Q H' n1 o1 m1 b1 _;rw[f] at o1;refine hK Q H' (by simp only at n1;omega) ?_ m1 b1;unfold bj;rw[QO (by omega),Rj (by omega)];exact o1
 ·have e0:i<s.n:=by
   have:¬(i:Int)=(s.n:Int):=by simpa using hc
   omega
  rcases id h.2 with ⟨e1,e2⟩|⟨g,cap,cur,e1,y,S,h4,h5,h6,h7⟩
  ·omega
  obtain⟨sa,a,d⟩:=s;simp only[Sl.v,Q3] at e1;obtain⟨rfl,_,rfl⟩:=e1;simp only at h4 h6 h7 e0 a8 w1 ⊢;rw[w1,w2,iE];simp only[Int.toNat_natCast,Nat.sub_zero];refine ao (λJ=>?_) (λJ=>?_)
  ·have bC:d<a+1:=by
    have:((a+1:Nat):Int)>(d:Int):=by simpa using J
    omega
   have B:=h.reads;have w3:Qe.wrap (((a+1:Nat):Int) - (i:Int))=((a+1 - i:Nat):Int):=by rw[wrap64 (by omega) (by omega)];omega
   rw[w3];refine⟨by omega,?_⟩;refine aA.DZ el af (base:=base) (xs:=xs.take i) (B.take i) (by simp;omega) (by omega) (by omega) V (by omega) m λs2 H2 n2 o2 e2 b2=>?_;have bE:s2.n=a+1:=by omega
   have bG:s2.a≠none:=λq=>by have:=aA.OH o2 q;omega
   have bD:=o2.cap;have ba:Reads H2 (some p) [x]:=I.ext e2;have E:∀j,j<s2.n->bF s2.a s2.c j 1=s2.a.map (·.add j):=λj hj=>by
    unfold bF;rw[if_neg (by omega),Q9]
   refine⟨by omega,?_⟩;refine aA.uB (x:=⟨some p,1,c⟩) (cs:=[x]) (o:=i) R t o2 (λ_=>E i (by omega)) ba (by simp only[RF,XL];split<;>omega) (by simp;omega) (by simpa using G) λH3 o3 m3 z3=>?_;refine⟨by omega,by omega,?_⟩;have hd:Reads H3 (bF (some ⟨g,0,none⟩) d i 1) (xs.drop i):=by
    rw[oK (by omega)];intro j v k;rw[Rr] at k;obtain⟨ad,X,r⟩:=B (i+j) v k;cases X;refine⟨_,rfl,?_⟩;rw[add_lit] at r ⊢;have bg:g<H.size:=by
     rcases Q6 g H.size with q|q
     ·exact q
     ·rw[Tp q] at S;cases S
    have k1:=e2.cell r id;have k2:=m3.cell k1 λq=>by have:=b2 _ q;simp only at this;omega
    rw[<-k2];congr 2;omega
   refine aA.uB (x:=⟨bF (some ⟨g,0,none⟩) d i 1,a - i,d - i⟩) (cs:=xs.drop i) (o:=i+1) R t o3 (λL=>E (i+1) (by
    have:0<(xs.drop i).length:=To.2 L;rw[QG] at this;omega)) hd (by rw[QG];simp only[XL];split<;>omega) (by rw[QG];omega) (λv k=>h1 v (Rq k)) λH4 T m4 z4=>?_
   refine hK s2 H4 (by omega) ?_ ?_ λb y=>.inr (b2 b y)
   ·have M:(TS i xs).length=i:=by simp;omega
    have l2:(Tl i xs).length=a - i:=by rw[QG];omega
    unfold bj;generalize TS i xs=A at M T ⊢;generalize hD:Tl i xs=D at l2 T;have r1:QE (a+1 - i) z=[z]++QE (a - i) z:=by rw[show a+1 - i=(a - i)+1 by omega,List.replicate_succ];rfl
    have hY:TS i (A++QE (a+1 - i) z)++[x]++Tl (i+[x].length) (A++QE (a+1 - i) z)=(A++[x])++QE (a - i) z:=by
     rw[YS M,r1,<-List.append_assoc,YT (by simp[M])]
    have e4:TS (i+1) ((A++[x])++QE (a - i) z)++D++Tl (i+1+D.length) ((A++[x])++QE (a - i) z)=A++x::D:=by
     rw[YS (by simp[M]),List.drop_eq_nil_of_le (by simp[M,l2];omega)];simp
    rw[hY,e4] at T;exact T
   ·exact((e2.mod (F:=al s2)).trans m3 |>.trans m4).ext (λb y=>b2 b y) |>.mod
  ·have N:a+1<=d:=by
    have:¬((a+1:Nat):Int)>(d:Int):=by simpa using J
    omega
   have bg:g<H.size:=by
    rcases Q6 g H.size with q|q
    ·exact q
    ·rw[Tp q] at S;cases S
   rw[Q9] at h6 h7;refine⟨by omega,by omega,?_⟩;have Y:∀w:World,w.heap=H->(iv ovl #[.slice (some p) 1 c,.slice (bF (some ⟨g,0,none⟩) d (i+1) 1) (a+1 - (i+1)) (d - (i+1))]).run P w=.ok (.bool false) w:=by
    intro w hw;subst hw;have C:bF (some ⟨g,0,none⟩) d (i+1) 1=some ⟨g,0+(i+1),none⟩:=oK (by omega);have bl:∀w,(Go.sizeOf e).run P w=.ok 1 w:=λw=>by simp[sizeOf,typeInfo,n,f]
    have O:=Z.obj;have ae:=Z.spot;have bs:=Z.off;have hr:=Go.Lib.run_overlaps_apart (P:=P) w U tR e R 1 bl p ⟨g,0+(i+1),none⟩ 1 c (a+1 - (i+1)) (d - (i+1)) (λq=>W ⟨_,rfl,q.symm⟩) e e 1 cur.size
     (by unfold YU;rw[O];rfl) (by unfold YU;rw[S]) (by omega) (by unfold VH;rw[O];simp) (by unfold VH;simp only[O];simp)
    rw[C];unfold iv;rw[Sem.run_bind,a1,hr];simp[Result.andThen]
   refine λw hw=>⟨.bool false,w,Y w hw,⟨false,rfl,?_⟩,.refl w⟩;subst hw;refine aT rfl ?_;refine⟨by omega,by omega,?_⟩;have o1:aA w.heap base e 1 ⟨some ⟨g,0,none⟩,a+1,d⟩ (cur.toList.take (a+1)):=⟨by simp;omega,.inr ⟨g,d,cur,rfl,y,S,N,h5,by omega,by simp⟩⟩;have bA:xs=(cur.toList.take (a+1)).take a:=by rw[Tg,SL (by omega)];exact h7.symm
   have b0:(cur.toList.take (a+1)).length=a+1:=by simp;omega
   generalize b3:cur.toList.take (a+1)=ys at*;have hd:Reads w.heap (bF (some ⟨g,0,none⟩) d i 1) (xs.drop i):=by
    have B:=h.reads;rw[oK (by omega)];intro j v k;rw[Rr] at k;obtain⟨ad,X,r⟩:=B (i+j) v k;cases X;refine⟨_,rfl,?_⟩;rw[add_lit] at r ⊢;rw[<-r];congr 2;omega
   have C:∀j,j<a+1->bF (some ⟨g,0,none⟩) d j 1=(some ⟨g,0,none⟩:Option Addr).map (·.add j):=λj hj=>by
    rw[oK (by omega)];simp[add_lit]
   refine aA.uB (s:=⟨some ⟨g,0,none⟩,a+1,d⟩) (x:=⟨bF (some ⟨g,0,none⟩) d i 1,a+1 - i,d - i⟩) (cs:=xs.drop i) (o:=i+1) R t o1 (λL=>C _ (by omega)) hd (by rw[QG];simp only[XL];split<;>omega) (by rw[QG];simp only;omega) (λv k=>h1 v (Rq k)) λH4 T m4 z4=>?_;refine⟨by omega,?_⟩;have bB:Reads H4 (some p) [x]:=I.mod m4 λad X q=>by
    cases X;obtain⟨a',q1,q2⟩:=q;exact W ⟨a',q1,q2⟩
   refine aA.uB (s:=⟨some ⟨g,0,none⟩,a+1,d⟩) (x:=⟨some p,1,c⟩) (cs:=[x]) (o:=i) R t T (λL=>C _ (by omega)) bB (by simp only[RF,XL];split<;>omega) (by simp;omega) (by simpa using G) λH5 o5 m5 z5=>?_;refine hK _ H5 (by simp only;omega) ?_ ((m4.trans m5).mono λb _ y=>y) λb y=>.inl y;have b4:(xs.drop i).length=a - i:=by rw[QG];omega
   have e5:TS i (TS (i+1) ys++Tl i xs++Tl (i+1+(Tl i xs).length) ys)++[x]++Tl (i+[x].length) (TS (i+1) ys++Tl i xs++Tl (i+1+(Tl i xs).length) ys)=bj i x xs:=by
    have M:(TS (i+1) ys).length=i+1:=by rw[Qw];omega
    rw[Rj (l:=ys) (by omega),List.append_nil];have t1:TS i (TS (i+1) ys++Tl i xs)=TS i xs:=by
     rw[List.take_append_of_le_length (by omega),Tg,SL (by omega),bA,Tg,SL (by omega)]
    have t2:Tl (i+[x].length) (TS (i+1) ys++Tl i xs)=Tl i xs:=YT (by rw[M];rfl);rw[t1,t2];unfold bj;simp
   rw[e5] at o5;exact o5
end Go.Proofs.YtkehfflpbpdokaaGreatDoor
