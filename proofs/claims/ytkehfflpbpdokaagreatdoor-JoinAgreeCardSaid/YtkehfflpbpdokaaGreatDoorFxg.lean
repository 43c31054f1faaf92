/-
 Ground, seventh text: memory that reads as lists, what a piece of code may have written, and the laws of the memory operations in these words.
-/
import Derived.Test.YtkehfflpbpdokaaGreatDoorFxf
open Array renaming getElem?_eq_none->Tp,getElem?_modify->Tw,toList_append->Ut,size_append->Vs
open Go.Addr renaming add->QS
open Go.Builtin renaming append_->Qo,firstCells->VK
open Go.Instr renaming makeSlice->Rn
open Go.IntKind renaming i64->Qe,wrap_i64->Z7
open Go.Value renaming int->Ql
open Go.Value.slice renaming injEq->Q3
open List renaming getElem?_eq_getElem->Qg,length_append->Qt,replicate->QE,eq_nil_of_length_eq_zero->QW,getElem?_take->Rb,append_assoc->Rg,size_toArray->T8,take_left->Vn
open Nat renaming le_refl->Qm,lt_of_lt_of_le->QP,le_trans->QZ,lt_or_ge->Q6,mul_one->Q9,le_succ->Ri,zero_add->Ry,add_mul->TN
namespace Go.Proofs.YtkehfflpbpdokaaGreatDoor
structure Mod (F:Nat->Prop)(H H':aa):Prop where
 size:H.size<=H'.size
 same:∀b,b<H.size->¬F b->H'[b]?=H[b]?
abbrev Ext (H H':aa):Prop:=Mod (λ_=>False) H H'
theorem Mod.refl (F:Nat->Prop)(H:aa):Mod F H H:=⟨Qm _,λ_ _ _=>rfl⟩
theorem Mod.mono {F G:Nat->Prop}{H H':aa}(h:Mod F H H')(hs:∀b,b<H.size->F b->G b):Mod G H H':=⟨h.size,λb a c=>h.same b a λd=>c (hs b a d)⟩
theorem Mod.trans {F:Nat->Prop}{A B C:aa}(h:Mod F A B)(k:Mod F B C):Mod F A C:=
 ⟨QZ h.size k.size,λb a c=>(k.same b (QP a h.size) c).trans (h.same b a c)⟩
theorem Mod.trans' {F G:Nat->Prop}{A B C:aa}(h:Mod F A B)(k:Mod G B C)(d:∀b,b<A.size->G b->F b):Mod F A C:=
 ⟨QZ h.size k.size,λb a c=>(k.same b (QP a h.size) λe=>c (d b a e)).trans (h.same b a c)⟩
theorem Mod.ext {F:Nat->Prop}{A B:aa}(h:Mod F A B)(a:∀b,F b->A.size<=b):Ext A B:=⟨h.size,λb c _=>h.same b c λh1=>by have:=a b h1;omega⟩
theorem Ext.mod {F:Nat->Prop}{A B:aa}(h:Ext A B):Mod F A B:=⟨h.size,λb a _=>h.same b a id⟩
theorem Mod.push (F:Nat->Prop)(H:aa)(o:Obj):Mod F H (H.push o):=
 ⟨by simp,λb a _=>by rw[Array.getElem?_push,if_neg (by omega)]⟩
theorem ji (H:aa)(a:Addr)(v:Value):(yA H a v).size=H.size:=by simp[yA]
theorem Jb {H:aa}{a:Addr}{v:Value}{b:Nat}(h:b≠a.block):(yA H a v)[b]?=H[b]?:=by
 unfold yA;rw[Tw,if_neg (Ne.symm h)]
theorem oI {H:aa}{a:Addr}{v:Value}{c:Array Value}{t:TypeId}{fz:Nat×Nat}(h:H[a.block]?=some (.cells c t fz))(hs:a.spot=none):
  (yA H a v)[a.block]?=some (.cells (c.setIfInBounds a.off v) t fz):=by
 unfold yA;rw[Tw,if_pos rfl,h];simp[hs]
theorem Mod.set {F:Nat->Prop}{H:aa}{a:Addr}{v:Value}(h:F a.block):Mod F H (yA H a v):=
 ⟨by rw[ji];exact Qm _,λb _ c=>Jb (by intro e;subst e;exact c h)⟩
theorem eX {H H':aa}{a:Addr}(h:H'[a.block]?=H[a.block]?):cg H' a=cg H a:=by unfold cg;rw[h]
theorem kq {H:aa}{a:Addr}{v:Value}(h:cg H a=some v):a.block<H.size:=by
 unfold cg at h;rcases Q6 a.block H.size with h1|h1
 ·exact h1
 ·rw[Tp h1] at h;cases h
theorem Mod.cell {F:Nat->Prop}{H H':aa}(hm:Mod F H H'){a:Addr}{v:Value}(h:cg H a=some v)(b:¬F a.block):cg H' a=some v:=
 (eX (hm.same _ (kq h) b)).trans h
theorem dh {H:aa}{b o:Nat}{c:Array Value}{t:TypeId}{fz:Nat×Nat}{v:Value}(h:H[b]?=some (.cells c t fz))(a:c[o]?=some v):cg H ⟨b,o,none⟩=some v:=by
 unfold cg;simp[h,a]
theorem fV {H:aa}{b o:Nat}{c:Array Value}{t:TypeId}(h:H[b]?=some (.cells c t (0,0))):pN H ⟨b,o,none⟩=false:=by
 unfold pN;simp[h]
theorem cj (a:Addr)(n:Nat):(a.add n).block=a.block:=by unfold QS;split<;>rfl
theorem add_zero' (a:Addr):a.add 0=a:=rfl
theorem add_lit (b o n:Nat):(⟨b,o,none⟩:Addr).add n=⟨b,o+n,none⟩:=by
 unfold QS;split
 ·rename_i h;subst h;rfl
 ·rfl
theorem add_add (a:Addr)(m n:Nat):(a.add m).add n=a.add (m+n):=by
 unfold QS;by_cases hm:m=0
 ·subst hm;simp
 ·by_cases b:n=0
  ·subst b;simp[hm]
  ·simp[hm,b,Nat.add_assoc]
def Reads (H:aa)(a:Option Addr)(vs:List Value):Prop:=∀i v,vs[i]?=some v->∃ad,a=some ad/\cg H (ad.add i)=some v
theorem Reads.nil (H:aa)(a:Option Addr):Reads H a []:=λi v h=>by simp at h
theorem Reads.mod {F:Nat->Prop}{H H':aa}{a:Option Addr}{vs:List Value}(h:Reads H a vs)(hm:Mod F H H')(c:∀ad,a=some ad->¬F ad.block):Reads H' a vs:=by
 intro i v d;obtain⟨ad,b,e⟩:=h i v d;exact⟨ad,b,hm.cell e (by rw[cj];exact c ad b)⟩
theorem Reads.ext {H H':aa}{a:Option Addr}{vs:List Value}(h:Reads H a vs)(hm:Ext H H'):Reads H' a vs:=h.mod hm (λ_ _=>id)
theorem Reads.at {H:aa}{a:Option Addr}{vs:List Value}(h:Reads H a vs){i:Nat}(hi:i<vs.length):∃ad,a=some ad/\cg H (ad.add i)=some vs[i]:=
 h i _ (Qg hi)
theorem Reads.take {H:aa}{a:Option Addr}{vs:List Value}(h:Reads H a vs)(n:Nat):Reads H a (vs.take n):=λi v b=>h i v (by
 rw[Rb] at b;split at b
 ·exact b
 ·cases b)
structure Ints (k:IntKind)(H:aa)(s:Sl)(l:List Int):Prop where
 len:s.n=l.length
 reads:Reads H s.a (l.map (Ql k))
theorem Ints.mod {F:Nat->Prop}{k:IntKind}{H H':aa}{s:Sl}{l:List Int}(h:Ints k H s l)(hm:Mod F H H')(a:∀ad,s.a=some ad->¬F ad.block):Ints k H' s l:=⟨h.len,h.reads.mod hm a⟩
theorem Ints.ext {k:IntKind}{H H':aa}{s:Sl}{l:List Int}(h:Ints k H s l)(hm:Ext H H'):Ints k H' s l:=⟨h.len,h.reads.ext hm⟩
theorem Ints.at {k:IntKind}{H:aa}{s:Sl}{l:List Int}(h:Ints k H s l){i:Nat}(hi:i<l.length):∃ad,s.a=some ad/\cg H (ad.add i)=some (.int k l[i]):=by
 obtain⟨ad,h1,a⟩:=h.reads.at (i:=i) (by simpa using hi);exact⟨ad,h1,by simpa using a⟩
theorem Ints.ld {k:IntKind}{H:aa}{s:Sl}{l:List Int}(h:Ints k H s l){i:Int}(b:0<=i)(h1:i<l.length){K:Addr->Int->Prop}(c:∀ad,s.a=some ad->K ad (l.getD i.toNat 0)):
  ah s.a λa=>(0<=i/\i<(s.n:Int))/\ld (ai k) H (a.add (i.toNat*1)) λx=>K a x:=by
 have hi:i.toNat<l.length:=by omega
 obtain⟨ad,e,d⟩:=h.at hi;refine aY ad e ⟨⟨b,by rw[h.len];omega⟩,l.getD i.toNat 0,?_,c ad e⟩;rw[Q9,d];simp[List.getD,Qg hi]
def aA (H:aa)(base:Nat)(e:TypeId)(size:Nat)(s:Sl)(xs:List Value):Prop:=
 xs.length=s.n*size/\
 ((s.v=.slice none 0 0/\s.n=0)\/
  ∃g cap cur,s.v=.slice (some ⟨g,0,none⟩) s.n cap/\base<=g/\H[g]?=some (.cells cur e (0,0))/\s.n<=cap/\cap<=maxLen/\cur.size=cap*size/\cur.toList.take (s.n*size)=xs)
def al (s:Sl)(b:Nat):Prop:=∃ad,s.a=some ad/\ad.block=b
theorem aA.nil (H:aa)(base:Nat)(e:TypeId)(size:Nat):aA H base e size (Sl.mk none 0 0) []:=⟨by simp,.inl ⟨rfl,rfl⟩⟩
theorem aA.block {H:aa}{base:Nat}{e:TypeId}{size:Nat}{s:Sl}{xs:List Value}(h:aA H base e size s xs):∀b,al s b->base<=b/\b<H.size:=by
 rintro b ⟨ad,a,rfl⟩;rcases h.2 with ⟨c,_⟩|⟨g,cap,cur,c,f,d,_⟩
 ·cases s;simp only[Sl.v,Q3] at c a;rw[c.1] at a;cases a
 ·cases s;simp only[Sl.v,Q3] at c a;rw[c.1] at a;cases a;refine⟨f,?_⟩;rcases Q6 g H.size with h1|h1
  ·exact h1
  ·rw[Tp h1] at d;cases d
theorem aA.mod {F:Nat->Prop}{H H':aa}{base:Nat}{e:TypeId}{size:Nat}{s:Sl}{xs:List Value}(h:aA H base e size s xs)(hm:Mod F H H')(c:∀b,al s b->¬F b):aA H' base e size s xs:=by
 refine⟨h.1,h.2.imp id ?_⟩;rintro⟨g,cap,cur,a,d,f,i⟩;refine⟨g,cap,cur,a,d,?_,i⟩;have hs:al s g:=by
  cases s;simp only[Sl.v,Q3] at a;exact⟨_,a.1,rfl⟩
 exact(hm.same g (h.block g hs).2 (c g hs)).trans f
theorem aA.ext {H H':aa}{base:Nat}{e:TypeId}{size:Nat}{s:Sl}{xs:List Value}(h:aA H base e size s xs)(hm:Ext H H'):aA H' base e size s xs:=h.mod hm (λ_ _=>id)
theorem aA.reads {H:aa}{base:Nat}{e:TypeId}{size:Nat}{s:Sl}{xs:List Value}(h:aA H base e size s xs):Reads H s.a xs:=by
 intro i v a;rcases h.2 with ⟨_,e2⟩|⟨g,cap,cur,b,f,d,j,k,l,c⟩
 ·have:=h.1;rw[e2,Nat.zero_mul] at this;rw[List.length_eq_zero_iff.1 this] at a;simp at a
 ·cases s;simp only[Sl.v,Q3] at b c;refine⟨_,b.1,?_⟩;rw[add_lit,Ry];refine dh d ?_;rw[<-c,Rb] at a;split at a
  ·simpa using a
  ·cases a
theorem aA.ints {k:IntKind}{H:aa}{base:Nat}{e:TypeId}{s:Sl}{l:List Int}(h:aA H base e 1 s (l.map (Ql k))):Ints k H s l:=
 ⟨by have:=h.1;simp at this;omega,h.reads⟩
theorem aA.fresh {H:aa}{base:Nat}{e:TypeId}{size n cap:Nat}{cur:Array Value}{xs:List Value}(a:base<=H.size)(b:n<=cap)(c:cap<=maxLen)(hs:cur.size=cap*size)(d:xs.length=n*size)
  (f:cur.toList.take (n*size)=xs):aA (H.push (.cells cur e)) base e size (Sl.mk (some ⟨H.size,0,none⟩) n cap) xs:=
 ⟨d,.inr ⟨H.size,cap,cur,rfl,a,by simp,b,c,hs,f⟩⟩
theorem nR {P:Program}{t ty e:TypeId}{inf:TypeInfo}{z:Value}{H:aa}{base:Nat}{s x:Sl}{xs ws:List Value}{K:Sl->aa->Prop}
  (L:P.underlying t=some (.slice e)) (hi:P.info? e=some inf) (hz:inf.zero=some z) (A:z.cells.size=inf.size) (Q:0<inf.size)
  (a:aA H base e inf.size s xs) (p:ws.length=x.n*inf.size) (Y:Reads H x.a ws) (h1:∀u∈ws,u.oneCell'=true)
  (hn:s.n+x.n<=4611686018427387904) (i:(s.n+x.n)*inf.bytes<=140737488355328) (l:base<=H.size)
  (M:∀(B:Sl) (H':aa),B.n=s.n+x.n->aA H' base e inf.size B (xs++ws)->Mod (al s) H H'->(∀b,al B b->al s b\/H.size<=b)->(B.a=none↔s.a=none/\x.n=0)->K B H'):
  bI au P (Qo #[t,t] ty #[s.v,x.v]) H K:=by
 intro w hw;subst hw;obtain⟨N,d,k⟩:=s;obtain⟨Z,c,O⟩:=x;simp only[Sl.v] at*;have R:d+c<=maxLen:=by unfold maxLen;omega
 by_cases C:c=0
 ·subst C;have S:ws=[]:=QW (by simpa using p);subst S;have D:d<=k:=by
   rcases a.2 with ⟨m,e2⟩|⟨g,cap,cur,m,q,T,h4,_⟩
   ·simp only[Sl.v,Q3] at m;simp only at e2;omega
   ·simp only[Sl.v,Q3] at m;simp only at h4;omega
  have hr:(Qo #[t,t] ty #[.slice N d k,.slice Z 0 O]).run P w=.ok (.slice N d k) w:=by
   cases Z<;>cases N<;>simp[Qo,run_underlying L,sizeOf,typeInfo,hi,Builtin.lenOf,VK,D,loadCells,loadCellsFrom,storeCells]
  refine⟨_,w,hr,⟨⟨N,d,k⟩,rfl,M _ _ rfl (by simpa using a) (.refl _ _) (λb q=>.inl q) (by simp)⟩,.refl w⟩
 ·have E:0<ws.length:=by rw[p];exact Nat.mul_pos (by omega) Q
  obtain⟨ad,ea,_⟩:=Y.at E;subst ea;have f:∀j u,ws[j]?=some u->w.cell? (ad.add j)=some u:=λj u hu=>by
   obtain⟨n,m,U⟩:=Y j u hu;cases m;exact U
  have hlen:(xs++ws).length=(d+c)*inf.size:=by rw[Qt,a.1,p,TN]
  rcases a.2 with ⟨m,e2⟩|⟨g,cap,cur,m,V,T,W,r,F,o⟩
  ·simp only[Sl.v,Q3] at m;obtain⟨rfl,rfl,rfl⟩:=m;have X:xs=[]:=QW (by simpa using a.1);subst X;have hr:=run_append_nil (P:=P) w t ty e inf z L hi hz ad c O ws p f (by omega) (by omega) (by simp only[Ry] at i;omega);have y:=grownCap_ge w c 0 e;have r:grownCap w c 0 e<=maxLen:=grownCap_le_maxLen w c 0 e (by omega);refine⟨_,_,hr,⟨⟨some ⟨w.heap.size,0,none⟩,c,grownCap w c 0 e⟩,rfl,M _ _ (by simp) ?_ (Mod.push _ _ _) (λb q=>.inr ?_) (by simp[C])⟩,(.of_le rfl (Ri _))⟩
   ·refine aA.fresh l y r ?_ (by simpa using hlen) ?_
    ·simp only[Vs,T8,size_zeroCells,A,p,<-TN];congr 1;omega
    ·simp only[Ut,List.nil_append,<-p];exact Vn
   ·obtain⟨n,v,G⟩:=q;cases v;have:w.heap.size=b:=G;omega
  ·simp only[Sl.v,Q3] at m;obtain⟨rfl,_,rfl⟩:=m;simp only at W r F o;by_cases h:d+c<=k
   ·have I:d*inf.size+ws.length<=cur.size:=by rw[p,F,<-TN];exact Nat.mul_le_mul_right _ h
    have hr:=run_append_room (P:=P) w t ty e inf L hi g d k cur T ad c O ws p f h1 h I;refine⟨_,_,hr,⟨⟨some ⟨g,0,none⟩,d+c,k⟩,rfl,M _ _ rfl ⟨hlen,.inr ⟨g,k,_,rfl,V,setRow_heap w g cur _ e _ T,h,r,?_,?_⟩⟩ ⟨by simp[World.setRow],λb _ q=>setRow_other w g b _ (λv=>q ⟨_,rfl,v.symm⟩)⟩ (λb q=>.inl ?_) (by simp)⟩,(.of_le rfl (Qm _))⟩
    ·simp only[T8,Qt,List.length_take,List.length_drop,Array.length_toList];omega
    ·simp only;rw[o,<-hlen];exact Vn
    ·obtain⟨n,v,G⟩:=q;exact⟨n,v,G⟩
   ·have holds:∀j u,xs[j]?=some u->w.cell? ((⟨g,0,none⟩:Addr).add j)=some u:=λj u hu=>by
     obtain⟨n,v,U⟩:=a.reads j u hu;cases v;exact U
    have hr:=run_append_grow (P:=P) w t ty e inf z L hi hz ⟨g,0,none⟩ d k xs a.1 holds ad c O ws p f (by omega) (by omega) (growslice_fits (by omega) i);have y:=grownCap_ge w (d+c) k e;have J:grownCap w (d+c) k e<=maxLen:=grownCap_le_maxLen w (d+c) k e R;refine⟨_,_,hr,⟨⟨some ⟨w.heap.size,0,none⟩,d+c,grownCap w (d+c) k e⟩,rfl,M _ _ rfl ?_ (Mod.push _ _ _) (λb q=>.inr ?_) (by simp)⟩,(.of_le rfl (Ri _))⟩
    ·refine aA.fresh l y J ?_ hlen ?_
     ·simp only[Vs,T8,size_zeroCells,A,a.1,p,<-TN];congr 1;omega
     ·simp only[Ut,Rg];rw[<-Rg,<-hlen];exact Vn
    ·obtain⟨n,v,G⟩:=q;cases v;have:w.heap.size=b:=G;omega
theorem lC {P:Program}{t ty e:TypeId}{inf:TypeInfo}{z:Value}{H:aa}{base:Nat}{s x:Sl}{xs ws:List Value}{K:Sl->aa->Prop}
  (i:P.underlying t=some (.slice e)) (hi:P.info? e=some inf) (hz:inf.zero=some z) (g:z.cells.size=inf.size) (h:0<inf.size)
  (d:aA H base e inf.size s xs) (j:ws.length=x.n*inf.size) (k:Reads H x.a ws) (h1:∀u∈ws,u.oneCell'=true)
  (m:s.n+x.n<=1099511627776) (a:(s.n+x.n)*inf.bytes<=140737488355328) (c:base<=H.size)
  (l:∀(f:Sl) (H':aa),f.n=s.n+x.n->aA H' base e inf.size f (xs++ws)->Mod (al s) H H'->(∀b,al f b->al s b\/H.size<=b)->(f.a=none↔s.a=none/\x.n=0)->K f H'):
  bI au P (Qo #[t,t] ty #[s.v,x.v]) H K:=
 nR i hi hz g h d j k h1 (by omega) a c l
theorem Gv {P:Program}{t e:TypeId}{inf:TypeInfo}{z:Value}{H:aa}{f g:IntKind}{l c:Int}{K:Sl->aa->Prop}
  (h:P.underlying t=some (.slice e)) (hi:P.info? e=some inf) (hz:inf.zero=some z) (i:0<=l) (b:l<=c) (a:(inf.bytes:Int)*c<=281474976710656) (d:c<=9223372036854775807)
  (j:K ⟨some ⟨H.size,0,none⟩,l.toNat,c.toNat⟩ (H.push (.cells (madeCells z.cells (c.toNat*inf.size)) e))):
  bI au P (Rn t (.int f l) (.int g c)) H K:=by
 intro w hw;subst hw;exact⟨_,_,run_make (P:=P) w t e inf z h hi hz f g l c i b a d,⟨⟨some ⟨w.heap.size,0,none⟩,l.toNat,c.toNat⟩,rfl,j⟩,(.of_le rfl (Qm _))⟩
def El (P:Program)(t e:TypeId)(bytes:Nat)(z:Value):Prop:=∃inf:TypeInfo,P.underlying t=some (.slice e)/\P.info? e=some inf/\inf.zero=some z/\z.cells=#[z]/\inf.size=1/\inf.bytes=bytes
theorem El.push {P:Program}{t ty e:TypeId}{bytes:Nat}{z:Value}(h:El P t e bytes z){H:aa}{base:Nat}{s:Sl}{xs:List Value}{v:Value}{K:Sl->aa->Prop}
  (g:aA H base e 1 s xs) (h1:v.oneCell'=true) (q:s.n+1<=1099511627776) (j:(s.n+1)*bytes<=140737488355328) (k:base<=H.size)
  (r:∀(f:Sl) (H':aa),f.n=s.n+1->aA H' base e 1 f (xs++[v])->Mod (al s) H H'->(∀b,al f b->al s b\/H.size<=b)->f.a≠none->K f H'):
  aB H #[v] e λp H1=>bI au P (Qo #[t,t] ty #[s.v,.slice (some p) 1 1]) H1 K:=by
 obtain⟨inf,w,hi,hz,l,d,m⟩:=h;have a:Mod (λ_=>False) H (H.push (.cells #[v] e)):=Mod.push _ _ _;refine lC (base:=base) (s:=s) (x:=⟨some ⟨H.size,0,none⟩,1,1⟩) (xs:=xs) (ws:=[v]) w hi hz (by rw[l,d];rfl) (by omega) (by rw[d];exact g.ext a) (by simp[d]) ?_ (by simpa using h1) (by simpa using q) (by rw[m];exact j) (by simp;omega) ?_
 ·intro i u hu;cases i with
  |zero=>simp at hu;subst hu;exact⟨_,rfl,dh (c:=#[v]) (t:=e) (fz:=(0,0)) (by simp) (by simp)⟩
  |succ i=>simp at hu
 ·intro f H' y o A B C;refine r f H' y (by rw[d] at o;exact o) ((Ext.mod a).trans A) (λb j=>?_) (λD=>by have:=(C.1 D).2;simp at this);rcases B b j with n|n
  ·exact .inl n
  ·simp at n;exact .inr (by omega)
theorem El.append {P:Program}{t ty e:TypeId}{bytes:Nat}{z:Value}(h:El P t e bytes z){H:aa}{base:Nat}{s x:Sl}{xs ws:List Value}{K:Sl->aa->Prop}
  (d:aA H base e 1 s xs) (o:ws.length=x.n) (j:Reads H x.a ws) (h1:∀u∈ws,u.oneCell'=true)
  (k:s.n+x.n<=1099511627776) (l:(s.n+x.n)*bytes<=140737488355328) (c:base<=H.size)
  (m:∀(f:Sl) (H':aa),f.n=s.n+x.n->aA H' base e 1 f (xs++ws)->Mod (al s) H H'->(∀b,al f b->al s b\/H.size<=b)->(f.a=none↔s.a=none/\x.n=0)->K f H'):
  bI au P (Qo #[t,t] ty #[s.v,x.v]) H K:=by
 obtain⟨inf,n,hi,hz,g,a,i⟩:=h;exact lC n hi hz (by rw[g,a];rfl) (by omega) (by rw[a];exact d) (by rw[a];omega) j h1 k (by rw[i];exact l) c (by rw[a];exact m)
theorem El.EF {P:Program}{t ty e:TypeId}{bytes:Nat}{z:Value}(h:El P t e bytes z){H:aa}{base:Nat}{s x:Sl}{xs ws:List Value}{K:Sl->aa->Prop}
  (d:aA H base e 1 s xs) (o:ws.length=x.n) (j:Reads H x.a ws) (h1:∀u∈ws,u.oneCell'=true)
  (k:s.n+x.n<=4611686018427387904) (l:(s.n+x.n)*bytes<=140737488355328) (c:base<=H.size)
  (m:∀(f:Sl) (H':aa),f.n=s.n+x.n->aA H' base e 1 f (xs++ws)->Mod (al s) H H'->(∀b,al f b->al s b\/H.size<=b)->(f.a=none↔s.a=none/\x.n=0)->K f H'):
  bI au P (Qo #[t,t] ty #[s.v,x.v]) H K:=by
 obtain⟨inf,n,hi,hz,g,a,i⟩:=h;exact nR n hi hz (by rw[g,a];rfl) (by omega) (by rw[a];exact d) (by rw[a];omega) j h1 k (by rw[i];exact l) c (by rw[a];exact m)
theorem nO (z:Value)(hz:z.cells=#[z]) (n:Nat):(madeCells z.cells n).toList=QE n z:=by
 rw[hz];apply List.ext_getElem?;intro i;simp only[madeCells,T8,List.length_singleton,Nat.mod_one,Array.toList_map,Array.toList_range,List.getElem?_map,List.getElem?_replicate];by_cases hi:i<n
 ·rw[List.getElem?_range hi];simp[hi]
 ·rw[List.getElem?_eq_none (by simp;omega)];simp[hi]
theorem El.make {P:Program}{t e:TypeId}{bytes:Nat}{z:Value}(h:El P t e bytes z){H:aa}{base:Nat}{n o:IntKind}{l c:Int}{K:Sl->aa->Prop}
  (p:0<=l) (i:l<=c) (j:(bytes:Int)*c<=281474976710656) (k:c<=9223372036854775807) (a:base<=H.size)
  (q:∀(d:Sl) (H':aa),d.n=l.toNat->aA H' base e 1 d (QE l.toNat z)->Ext H H'->(∀b,al d b->H.size<=b)->d.a≠none->K d H'):
  bI au P (Rn t (.int n l) (.int o c)) H K:=by
 obtain⟨inf,r,hi,hz,f,g,m⟩:=h;refine Gv r hi hz p i (by rw[m];exact j) k (q _ _ rfl ?_ (Mod.push _ _ _) (λb j=>?_) (by simp))
 ·refine aA.fresh a (by omega) (by unfold maxLen;omega) ?_ (by simp) ?_
  ·have:=congrArg List.length (nO z f (c.toNat*inf.size));simp at this;rw[this,g]
  ·rw[nO z f,g];simp;omega
 ·obtain⟨s,u,v⟩:=j;cases u;have:H.size=b:=v;omega
theorem aA.st {H:aa}{base:Nat}{e:TypeId}{s:Sl}{xs:List Value}{v:Value}{K:aa->Prop}(h:aA H base e 1 s xs){i:Int}(f:0<=i)(h1:i<(s.n:Int))(j:mU v=true)
  (k:∀H',aA H' base e 1 s (xs.set i.toNat v)->Mod (al s) H H'->H'.size=H.size->K H'):
  ah s.a λa=>(0<=i/\i<(s.n:Int))/\st H (a.add (i.toNat*1)) v K:=by
 have hlen:=h.1;rcases h.2 with ⟨b,e2⟩|⟨g,cap,cur,b,l,c,m,n,o,p⟩
 ·omega
 ·have d:s.a=some ⟨g,0,none⟩:=by
   cases s;simp only[Sl.v,Q3] at b;exact b.1
  have hi:i.toNat<cur.size:=by omega
  refine aY _ d ⟨⟨f,h1⟩,j,?_,?_,k _ ?_ (Mod.set ?_) (ji _ _ _)⟩
  ·rw[Q9,add_lit,Ry];exact⟨_,dh c (Array.getElem?_eq_getElem hi)⟩
  ·rw[Q9,add_lit];exact fV c
  ·rw[Q9,add_lit,Ry];refine⟨by simpa using hlen,.inr ⟨g,cap,cur.setIfInBounds i.toNat v,b,l,oI (a:=⟨g,i.toNat,none⟩) c rfl,m,n,by simpa using o,?_⟩⟩;rw[<-p];simp[List.take_set]
  ·rw[cj];exact⟨_,d,rfl⟩
def Var (H:aa)(p:Addr)(v:Value):Prop:=p.spot=none/\p.off=0/\∃t,H[p.block]?=some (.cells #[v] t (0,0))
theorem Var.cell {H:aa}{p:Addr}{v:Value}(h:Var H p v):cg H p=some v:=by
 obtain⟨b,o,sp⟩:=p;obtain⟨h1,a,t,c⟩:=h;simp only at h1 a c;subst h1;subst a;exact dh c rfl
theorem Var.ld {c:gz}{H:aa}{p:Addr}{x:c.α}{K:c.α->Prop}(h:Var H p (c.enc x))(a:K x):ld c H p K:=⟨x,h.cell,a⟩
theorem Var.lt {H:aa}{p:Addr}{v:Value}(h:Var H p v):p.block<H.size:=kq h.cell
theorem ay {α:Type}{x0:α}{H:aa}{body:(α->aa->Prop)->α->aa->Prop}(n:Nat)(I:Nat->α->aa->Prop)(e:I 0 x0 H)
  (hs:∀k x H' next,k<=n->I k x H'->(k<n->∀a b,I (k+1) a b->next a b)->body next x H'):aF α x0 H body:=by
 refine⟨Nat,λk x H'=>k<=n/\I k x H',λk=>n - k,⟨0,Nat.zero_le _,e⟩,?_⟩;rintro k x H' ⟨hk,f⟩;exact hs k x H' _ hk f (λc a b d=>⟨k+1,⟨c,d⟩,by show n - (k+1)<n - k;omega⟩)
theorem wrap64 {x:Int}(a:-9223372036854775808<=x)(h1:x<=9223372036854775807):Qe.wrap x=x:=by
 rw[Z7];omega
theorem aH (k:Nat)(h:k<4611686018427387904):Qe.wrap ((k:Int)+1)=((k+1:Nat):Int):=by
 rw[wrap64 (by omega) (by omega)];omega
end Go.Proofs.YtkehfflpbpdokaaGreatDoor
