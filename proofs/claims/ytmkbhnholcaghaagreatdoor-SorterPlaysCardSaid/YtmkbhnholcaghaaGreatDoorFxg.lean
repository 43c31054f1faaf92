/-
 Ground, seventh text: memory that reads as lists, what a piece of code may have written, and the laws of the memory operations in these words.
-/
import Derived.Test.YtmkbhnholcaghaaGreatDoorFxf
open Array renaming getElem?_modify->QZ,size_append->Sb,getElem?_eq_none->Td,toList_append->TL
open Go.Addr renaming add->OR
open Go.Builtin renaming append_->Oa,firstCells->Ue,lenOf->VY
open Go.Instr renaming makeSlice->QX
open Go.IntKind renaming i64->N6,wrap_i64->Vv
open Go.Value renaming int->On
open Go.Value.slice renaming injEq->Ov
open List renaming getElem?_eq_getElem->N8,eq_nil_of_length_eq_zero->Oy,replicate->OD,length_append->OG,getElem?_take->O2,append_assoc->O3,size_toArray->Qn,take_left->Tr
open Nat renaming le_refl->Ob,le_trans->Oo,lt_or_ge->OV,le_succ->OZ,mul_one->O7,zero_add->Pt,lt_of_lt_of_le->P0,add_mul->Q6
namespace Go.Proofs.YtmkbhnholcaghaaGreatDoor
structure Mod (F:Nat->Prop)(H H':aa):Prop where
 size:H.size<=H'.size
 same:∀b,b<H.size->¬F b->H'[b]?=H[b]?
abbrev Ext (H H':aa):Prop:=Mod (λ_=>False) H H'
theorem Mod.refl (F:Nat->Prop)(H:aa):Mod F H H:=⟨Ob _,λ_ _ _=>rfl⟩
theorem Mod.mono {F G:Nat->Prop}{H H':aa}(h:Mod F H H')(hs:∀b,b<H.size->F b->G b):Mod G H H':=⟨h.size,λb a c=>h.same b a λd=>c (hs b a d)⟩
theorem Mod.trans {F:Nat->Prop}{A B C:aa}(h:Mod F A B)(k:Mod F B C):Mod F A C:=
 ⟨Oo h.size k.size,λb a c=>(k.same b (P0 a h.size) c).trans (h.same b a c)⟩
theorem Mod.trans' {F G:Nat->Prop}{A B C:aa}(h:Mod F A B)(k:Mod G B C)(d:∀b,b<A.size->G b->F b):Mod F A C:=
 ⟨Oo h.size k.size,λb a c=>(k.same b (P0 a h.size) λe=>c (d b a e)).trans (h.same b a c)⟩
theorem Mod.ext {F:Nat->Prop}{A B:aa}(h:Mod F A B)(a:∀b,F b->A.size<=b):Ext A B:=⟨h.size,λb c _=>h.same b c λh1=>by have:=a b h1;omega⟩
theorem Ext.mod {F:Nat->Prop}{A B:aa}(h:Ext A B):Mod F A B:=⟨h.size,λb a _=>h.same b a id⟩
theorem Mod.push (F:Nat->Prop)(H:aa)(o:Obj):Mod F H (H.push o):=
 ⟨by simp,λb a _=>by rw[Array.getElem?_push,if_neg (by omega)]⟩
theorem iy (H:aa)(a:Addr)(v:Value):(wh H a v).size=H.size:=by simp[wh]
theorem IV {H:aa}{a:Addr}{v:Value}{b:Nat}(h:b≠a.block):(wh H a v)[b]?=H[b]?:=by
 unfold wh;rw[QZ,if_neg (Ne.symm h)]
theorem ot {H:aa}{a:Addr}{v:Value}{c:Array Value}{t:TypeId}{fz:Nat×Nat}(h:H[a.block]?=some (.cells c t fz))(hs:a.spot=none):
  (wh H a v)[a.block]?=some (.cells (c.setIfInBounds a.off v) t fz):=by
 unfold wh;rw[QZ,if_pos rfl,h];simp[hs]
theorem Mod.set {F:Nat->Prop}{H:aa}{a:Addr}{v:Value}(h:F a.block):Mod F H (wh H a v):=
 ⟨by rw[iy];exact Ob _,λb _ c=>IV (by intro e;subst e;exact c h)⟩
theorem gI {H H':aa}{a:Addr}(h:H'[a.block]?=H[a.block]?):cK H' a=cK H a:=by unfold cK;rw[h]
theorem jC {H:aa}{a:Addr}{v:Value}(h:cK H a=some v):a.block<H.size:=by
 unfold cK at h;rcases OV a.block H.size with h1|h1
 ·exact h1
 ·rw[Td h1] at h;cases h
theorem Mod.cell {F:Nat->Prop}{H H':aa}(hm:Mod F H H'){a:Addr}{v:Value}(h:cK H a=some v)(b:¬F a.block):cK H' a=some v:=
 (gI (hm.same _ (jC h) b)).trans h
theorem cq {H:aa}{b o:Nat}{c:Array Value}{t:TypeId}{fz:Nat×Nat}{v:Value}(h:H[b]?=some (.cells c t fz))(a:c[o]?=some v):cK H ⟨b,o,none⟩=some v:=by
 unfold cK;simp[h,a]
theorem dv {H:aa}{b o:Nat}{c:Array Value}{t:TypeId}(h:H[b]?=some (.cells c t (0,0))):oQ H ⟨b,o,none⟩=false:=by
 unfold oQ;simp[h]
theorem dz (a:Addr)(n:Nat):(a.add n).block=a.block:=by unfold OR;split<;>rfl
theorem add_zero' (a:Addr):a.add 0=a:=rfl
theorem add_lit (b o n:Nat):(⟨b,o,none⟩:Addr).add n=⟨b,o+n,none⟩:=by
 unfold OR;split
 ·rename_i h;subst h;rfl
 ·rfl
theorem add_add (a:Addr)(m n:Nat):(a.add m).add n=a.add (m+n):=by
 unfold OR;by_cases hm:m=0
 ·subst hm;simp
 ·by_cases b:n=0
  ·subst b;simp[hm]
  ·simp[hm,b,Nat.add_assoc]
def Reads (H:aa)(a:Option Addr)(vs:List Value):Prop:=∀i v,vs[i]?=some v->∃ad,a=some ad/\cK H (ad.add i)=some v
theorem Reads.nil (H:aa)(a:Option Addr):Reads H a []:=λi v h=>by simp at h
theorem Reads.mod {F:Nat->Prop}{H H':aa}{a:Option Addr}{vs:List Value}(h:Reads H a vs)(hm:Mod F H H')(c:∀ad,a=some ad->¬F ad.block):Reads H' a vs:=by
 intro i v d;obtain⟨ad,b,e⟩:=h i v d;exact⟨ad,b,hm.cell e (by rw[dz];exact c ad b)⟩
theorem Reads.ext {H H':aa}{a:Option Addr}{vs:List Value}(h:Reads H a vs)(hm:Ext H H'):Reads H' a vs:=h.mod hm (λ_ _=>id)
theorem Reads.at {H:aa}{a:Option Addr}{vs:List Value}(h:Reads H a vs){i:Nat}(hi:i<vs.length):∃ad,a=some ad/\cK H (ad.add i)=some vs[i]:=
 h i _ (N8 hi)
theorem Reads.take {H:aa}{a:Option Addr}{vs:List Value}(h:Reads H a vs)(n:Nat):Reads H a (vs.take n):=λi v b=>h i v (by
 rw[O2] at b;split at b
 ·exact b
 ·cases b)
structure Ints (k:IntKind)(H:aa)(s:Sl)(l:List Int):Prop where
 len:s.n=l.length
 reads:Reads H s.a (l.map (On k))
theorem Ints.mod {F:Nat->Prop}{k:IntKind}{H H':aa}{s:Sl}{l:List Int}(h:Ints k H s l)(hm:Mod F H H')(a:∀ad,s.a=some ad->¬F ad.block):Ints k H' s l:=⟨h.len,h.reads.mod hm a⟩
theorem Ints.ext {k:IntKind}{H H':aa}{s:Sl}{l:List Int}(h:Ints k H s l)(hm:Ext H H'):Ints k H' s l:=⟨h.len,h.reads.ext hm⟩
theorem Ints.at {k:IntKind}{H:aa}{s:Sl}{l:List Int}(h:Ints k H s l){i:Nat}(hi:i<l.length):∃ad,s.a=some ad/\cK H (ad.add i)=some (.int k l[i]):=by
 obtain⟨ad,h1,a⟩:=h.reads.at (i:=i) (by simpa using hi);exact⟨ad,h1,by simpa using a⟩
theorem Ints.ld {k:IntKind}{H:aa}{s:Sl}{l:List Int}(h:Ints k H s l){i:Int}(b:0<=i)(h1:i<l.length){K:Addr->Int->Prop}(c:∀ad,s.a=some ad->K ad (l.getD i.toNat 0)):
  ae s.a λa=>(0<=i/\i<(s.n:Int))/\ld (ab k) H (a.add (i.toNat*1)) λx=>K a x:=by
 have hi:i.toNat<l.length:=by omega
 obtain⟨ad,e,d⟩:=h.at hi;refine aX ad e ⟨⟨b,by rw[h.len];omega⟩,l.getD i.toNat 0,?_,c ad e⟩;rw[O7,d];simp[List.getD,N8 hi]
def aM (H:aa)(base:Nat)(e:TypeId)(size:Nat)(s:Sl)(xs:List Value):Prop:=
 xs.length=s.n*size/\
 ((s.v=.slice none 0 0/\s.n=0)\/
  ∃g cap cur,s.v=.slice (some ⟨g,0,none⟩) s.n cap/\base<=g/\H[g]?=some (.cells cur e (0,0))/\s.n<=cap/\cap<=maxLen/\cur.size=cap*size/\cur.toList.take (s.n*size)=xs)
def ag (s:Sl)(b:Nat):Prop:=∃ad,s.a=some ad/\ad.block=b
theorem aM.nil (H:aa)(base:Nat)(e:TypeId)(size:Nat):aM H base e size (Sl.mk none 0 0) []:=⟨by simp,.inl ⟨rfl,rfl⟩⟩
theorem aM.block {H:aa}{base:Nat}{e:TypeId}{size:Nat}{s:Sl}{xs:List Value}(h:aM H base e size s xs):∀b,ag s b->base<=b/\b<H.size:=by
 rintro b ⟨ad,a,rfl⟩;rcases h.2 with ⟨c,_⟩|⟨g,cap,cur,c,f,d,_⟩
 ·cases s;simp only[Sl.v,Ov] at c a;rw[c.1] at a;cases a
 ·cases s;simp only[Sl.v,Ov] at c a;rw[c.1] at a;cases a;refine⟨f,?_⟩;rcases OV g H.size with h1|h1
  ·exact h1
  ·rw[Td h1] at d;cases d
theorem aM.mod {F:Nat->Prop}{H H':aa}{base:Nat}{e:TypeId}{size:Nat}{s:Sl}{xs:List Value}(h:aM H base e size s xs)(hm:Mod F H H')(c:∀b,ag s b->¬F b):aM H' base e size s xs:=by
 refine⟨h.1,h.2.imp id ?_⟩;rintro⟨g,cap,cur,a,d,f,i⟩;refine⟨g,cap,cur,a,d,?_,i⟩;have hs:ag s g:=by
  cases s;simp only[Sl.v,Ov] at a;exact⟨_,a.1,rfl⟩
 exact(hm.same g (h.block g hs).2 (c g hs)).trans f
theorem aM.ext {H H':aa}{base:Nat}{e:TypeId}{size:Nat}{s:Sl}{xs:List Value}(h:aM H base e size s xs)(hm:Ext H H'):aM H' base e size s xs:=h.mod hm (λ_ _=>id)
theorem aM.reads {H:aa}{base:Nat}{e:TypeId}{size:Nat}{s:Sl}{xs:List Value}(h:aM H base e size s xs):Reads H s.a xs:=by
 intro i v a;rcases h.2 with ⟨_,e2⟩|⟨g,cap,cur,b,f,d,j,k,l,c⟩
 ·have:=h.1;rw[e2,Nat.zero_mul] at this;rw[List.length_eq_zero_iff.1 this] at a;simp at a
 ·cases s;simp only[Sl.v,Ov] at b c;refine⟨_,b.1,?_⟩;rw[add_lit,Pt];refine cq d ?_;rw[<-c,O2] at a;split at a
  ·simpa using a
  ·cases a
theorem aM.ints {k:IntKind}{H:aa}{base:Nat}{e:TypeId}{s:Sl}{l:List Int}(h:aM H base e 1 s (l.map (On k))):Ints k H s l:=
 ⟨by have:=h.1;simp at this;omega,h.reads⟩
theorem aM.fresh {H:aa}{base:Nat}{e:TypeId}{size n cap:Nat}{cur:Array Value}{xs:List Value}(a:base<=H.size)(b:n<=cap)(c:cap<=maxLen)(hs:cur.size=cap*size)(d:xs.length=n*size)
  (f:cur.toList.take (n*size)=xs):aM (H.push (.cells cur e)) base e size (Sl.mk (some ⟨H.size,0,none⟩) n cap) xs:=
 ⟨d,.inr ⟨H.size,cap,cur,rfl,a,by simp,b,c,hs,f⟩⟩
theorem ni {P:Program}{t ty e:TypeId}{inf:TypeInfo}{z:Value}{H:aa}{base:Nat}{s x:Sl}{xs ws:List Value}{K:Sl->aa->Prop}
  (J:P.underlying t=some (.slice e)) (hi:P.info? e=some inf) (X:inf.zero=some z) (A:z.cells.size=inf.size) (O:0<inf.size)
  (a:aM H base e inf.size s xs) (hl:ws.length=x.n*inf.size) (Y:Reads H x.a ws) (h1:∀u∈ws,u.oneCell'=true)
  (hn:s.n+x.n<=4611686018427387904) (i:(s.n+x.n)*inf.bytes<=140737488355328) (l:base<=H.size)
  (L:∀(s':Sl) (H':aa),s'.n=s.n+x.n->aM H' base e inf.size s' (xs++ws)->Mod (ag s) H H'->(∀b,ag s' b->ag s b\/H.size<=b)->(s'.a=none↔s.a=none/\x.n=0)->K s' H'):
  ba ak P (Oa #[t,t] ty #[s.v,x.v]) H K:=by
 intro w hw;subst hw;obtain⟨M,d,k⟩:=s;obtain⟨Z,c,N⟩:=x;simp only[Sl.v] at*;have Q:d+c<=maxLen:=by unfold maxLen;omega
 by_cases B:c=0
 ·subst B;have R:ws=[]:=Oy (by simpa using hl);subst R;have C:d<=k:=by
   rcases a.2 with ⟨m,e2⟩|⟨g,cap,cur,m,p,S,h4,_⟩
   ·simp only[Sl.v,Ov] at m;simp only at e2;omega
   ·simp only[Sl.v,Ov] at m;simp only at h4;omega
  have v:(Oa #[t,t] ty #[.slice M d k,.slice Z 0 N]).run P w=.ok (.slice M d k) w:=by
   cases Z<;>cases M<;>simp[Oa,run_underlying J,sizeOf,typeInfo,hi,VY,Ue,C,loadCells,loadCellsFrom,storeCells]
  refine⟨_,w,v,⟨⟨M,d,k⟩,rfl,L _ _ rfl (by simpa using a) (.refl _ _) (λb p=>.inl p) (by simp)⟩,.refl w⟩
 ·have D:0<ws.length:=by rw[hl];exact Nat.mul_pos (by omega) O
  obtain⟨ad,ea,_⟩:=Y.at D;subst ea;have f:∀j u,ws[j]?=some u->w.cell? (ad.add j)=some u:=λj u hu=>by
   obtain⟨n,m,T⟩:=Y j u hu;cases m;exact T
  have hlen:(xs++ws).length=(d+c)*inf.size:=by rw[OG,a.1,hl,Q6]
  rcases a.2 with ⟨m,e2⟩|⟨g,cap,cur,m,U,S,V,q,E,o⟩
  ·simp only[Sl.v,Ov] at m;obtain⟨rfl,rfl,rfl⟩:=m;have W:xs=[]:=Oy (by simpa using a.1);subst W;have v:=run_append_nil (P:=P) w t ty e inf z J hi X ad c N ws hl f (by omega) (by omega) (by simp only[Pt] at i;omega);have y:=grownCap_ge w c 0 e;have q:grownCap w c 0 e<=maxLen:=grownCap_le_maxLen w c 0 e (by omega);refine⟨_,_,v,⟨⟨some ⟨w.heap.size,0,none⟩,c,grownCap w c 0 e⟩,rfl,L _ _ (by simp) ?_ (Mod.push _ _ _) (λb p=>.inr ?_) (by simp[B])⟩,(.of_le rfl (OZ _))⟩
   ·refine aM.fresh l y q ?_ (by simpa using hlen) ?_
    ·simp only[Sb,Qn,size_zeroCells,A,hl,<-Q6];congr 1;omega
    ·simp only[TL,List.nil_append,<-hl];exact Tr
   ·obtain⟨n,r,F⟩:=p;cases r;have:w.heap.size=b:=F;omega
  ·simp only[Sl.v,Ov] at m;obtain⟨rfl,_,rfl⟩:=m;simp only at V q E o;by_cases h:d+c<=k
   ·have G:d*inf.size+ws.length<=cur.size:=by rw[hl,E,<-Q6];exact Nat.mul_le_mul_right _ h
    have v:=run_append_room (P:=P) w t ty e inf J hi g d k cur S ad c N ws hl f h1 h G;refine⟨_,_,v,⟨⟨some ⟨g,0,none⟩,d+c,k⟩,rfl,L _ _ rfl ⟨hlen,.inr ⟨g,k,_,rfl,U,setRow_heap w g cur _ e _ S,h,q,?_,?_⟩⟩ ⟨by simp[World.setRow],λb _ p=>setRow_other w g b _ (λr=>p ⟨_,rfl,r.symm⟩)⟩ (λb p=>.inl ?_) (by simp)⟩,(.of_le rfl (Ob _))⟩
    ·simp only[Qn,OG,List.length_take,List.length_drop,Array.length_toList];omega
    ·simp only;rw[o,<-hlen];exact Tr
    ·obtain⟨n,r,F⟩:=p;exact⟨n,r,F⟩
   ·have holds:∀j u,xs[j]?=some u->w.cell? ((⟨g,0,none⟩:Addr).add j)=some u:=λj u hu=>by
     obtain⟨n,r,T⟩:=a.reads j u hu;cases r;exact T
    have v:=run_append_grow (P:=P) w t ty e inf z J hi X ⟨g,0,none⟩ d k xs a.1 holds ad c N ws hl f (by omega) (by omega) (growslice_fits (by omega) i);have y:=grownCap_ge w (d+c) k e;have I:grownCap w (d+c) k e<=maxLen:=grownCap_le_maxLen w (d+c) k e Q;refine⟨_,_,v,⟨⟨some ⟨w.heap.size,0,none⟩,d+c,grownCap w (d+c) k e⟩,rfl,L _ _ rfl ?_ (Mod.push _ _ _) (λb p=>.inr ?_) (by simp)⟩,(.of_le rfl (OZ _))⟩
    ·refine aM.fresh l y I ?_ hlen ?_
     ·simp only[Sb,Qn,size_zeroCells,A,a.1,hl,<-Q6];congr 1;omega
     ·simp only[TL,O3];rw[<-O3,<-hlen];exact Tr
    ·obtain⟨n,r,F⟩:=p;cases r;have:w.heap.size=b:=F;omega
theorem nw {P:Program}{t ty e:TypeId}{inf:TypeInfo}{z:Value}{H:aa}{base:Nat}{s x:Sl}{xs ws:List Value}{K:Sl->aa->Prop}
  (h:P.underlying t=some (.slice e)) (hi:P.info? e=some inf) (i:inf.zero=some z) (f:z.cells.size=inf.size) (g:0<inf.size)
  (d:aM H base e inf.size s xs) (hl:ws.length=x.n*inf.size) (j:Reads H x.a ws) (h1:∀u∈ws,u.oneCell'=true)
  (l:s.n+x.n<=1099511627776) (a:(s.n+x.n)*inf.bytes<=140737488355328) (c:base<=H.size)
  (k:∀(s':Sl) (H':aa),s'.n=s.n+x.n->aM H' base e inf.size s' (xs++ws)->Mod (ag s) H H'->(∀b,ag s' b->ag s b\/H.size<=b)->(s'.a=none↔s.a=none/\x.n=0)->K s' H'):
  ba ak P (Oa #[t,t] ty #[s.v,x.v]) H K:=
 ni h hi i f g d hl j h1 (by omega) a c k
theorem D8 {P:Program}{t e:TypeId}{inf:TypeInfo}{z:Value}{H:aa}{f g:IntKind}{l c:Int}{K:Sl->aa->Prop}
  (h:P.underlying t=some (.slice e)) (hi:P.info? e=some inf) (i:inf.zero=some z) (j:0<=l) (b:l<=c) (a:(inf.bytes:Int)*c<=281474976710656) (d:c<=9223372036854775807)
  (k:K ⟨some ⟨H.size,0,none⟩,l.toNat,c.toNat⟩ (H.push (.cells (madeCells z.cells (c.toNat*inf.size)) e))):
  ba ak P (QX t (.int f l) (.int g c)) H K:=by
 intro w hw;subst hw;exact⟨_,_,run_make (P:=P) w t e inf z h hi i f g l c j b a d,⟨⟨some ⟨w.heap.size,0,none⟩,l.toNat,c.toNat⟩,rfl,k⟩,(.of_le rfl (Ob _))⟩
def El (P:Program)(t e:TypeId)(bytes:Nat)(z:Value):Prop:=∃inf:TypeInfo,P.underlying t=some (.slice e)/\P.info? e=some inf/\inf.zero=some z/\z.cells=#[z]/\inf.size=1/\inf.bytes=bytes
theorem El.push {P:Program}{t ty e:TypeId}{bytes:Nat}{z:Value}(h:El P t e bytes z){H:aa}{base:Nat}{s:Sl}{xs:List Value}{v:Value}{K:Sl->aa->Prop}
  (f:aM H base e 1 s xs) (h1:v.oneCell'=true) (o:s.n+1<=1099511627776) (g:(s.n+1)*bytes<=140737488355328) (j:base<=H.size)
  (q:∀(s':Sl) (H':aa),s'.n=s.n+1->aM H' base e 1 s' (xs++[v])->Mod (ag s) H H'->(∀b,ag s' b->ag s b\/H.size<=b)->s'.a≠none->K s' H'):
  aI H #[v] e λp H1=>ba ak P (Oa #[t,t] ty #[s.v,.slice (some p) 1 1]) H1 K:=by
 obtain⟨inf,r,hi,w,k,d,l⟩:=h;have a:Mod (λ_=>False) H (H.push (.cells #[v] e)):=Mod.push _ _ _;refine nw (base:=base) (s:=s) (x:=⟨some ⟨H.size,0,none⟩,1,1⟩) (xs:=xs) (ws:=[v]) r hi w (by rw[k,d];rfl) (by omega) (by rw[d];exact f.ext a) (by simp[d]) ?_ (by simpa using h1) (by simpa using o) (by rw[l];exact g) (by simp;omega) ?_
 ·intro i u hu;cases i with
  |zero=>simp at hu;subst hu;exact⟨_,rfl,cq (c:=#[v]) (t:=e) (fz:=(0,0)) (by simp) (by simp)⟩
  |succ i=>simp at hu
 ·intro s' H' y n A B C;refine q s' H' y (by rw[d] at n;exact n) ((Ext.mod a).trans A) (λb g=>?_) (λD=>by have:=(C.1 D).2;simp at this);rcases B b g with m|m
  ·exact .inl m
  ·simp at m;exact .inr (by omega)
theorem El.append {P:Program}{t ty e:TypeId}{bytes:Nat}{z:Value}(h:El P t e bytes z){H:aa}{base:Nat}{s x:Sl}{xs ws:List Value}{K:Sl->aa->Prop}
  (d:aM H base e 1 s xs) (hl:ws.length=x.n) (i:Reads H x.a ws) (h1:∀u∈ws,u.oneCell'=true)
  (j:s.n+x.n<=1099511627776) (k:(s.n+x.n)*bytes<=140737488355328) (c:base<=H.size)
  (l:∀(s':Sl) (H':aa),s'.n=s.n+x.n->aM H' base e 1 s' (xs++ws)->Mod (ag s) H H'->(∀b,ag s' b->ag s b\/H.size<=b)->(s'.a=none↔s.a=none/\x.n=0)->K s' H'):
  ba ak P (Oa #[t,t] ty #[s.v,x.v]) H K:=by
 obtain⟨inf,m,hi,n,f,a,g⟩:=h;exact nw m hi n (by rw[f,a];rfl) (by omega) (by rw[a];exact d) (by rw[a];omega) i h1 j (by rw[g];exact k) c (by rw[a];exact l)
theorem El.vh {P:Program}{t ty e:TypeId}{bytes:Nat}{z:Value}(h:El P t e bytes z){H:aa}{base:Nat}{s x:Sl}{xs ws:List Value}{K:Sl->aa->Prop}
  (d:aM H base e 1 s xs) (hl:ws.length=x.n) (i:Reads H x.a ws) (h1:∀u∈ws,u.oneCell'=true)
  (j:s.n+x.n<=4611686018427387904) (k:(s.n+x.n)*bytes<=140737488355328) (c:base<=H.size)
  (l:∀(s':Sl) (H':aa),s'.n=s.n+x.n->aM H' base e 1 s' (xs++ws)->Mod (ag s) H H'->(∀b,ag s' b->ag s b\/H.size<=b)->(s'.a=none↔s.a=none/\x.n=0)->K s' H'):
  ba ak P (Oa #[t,t] ty #[s.v,x.v]) H K:=by
 obtain⟨inf,m,hi,n,f,a,g⟩:=h;exact ni m hi n (by rw[f,a];rfl) (by omega) (by rw[a];exact d) (by rw[a];omega) i h1 j (by rw[g];exact k) c (by rw[a];exact l)
theorem nj (z:Value)(a:z.cells=#[z]) (n:Nat):(madeCells z.cells n).toList=OD n z:=by
 rw[a];apply List.ext_getElem?;intro i;simp only[madeCells,Qn,List.length_singleton,Nat.mod_one,Array.toList_map,Array.toList_range,List.getElem?_map,List.getElem?_replicate];by_cases hi:i<n
 ·rw[List.getElem?_range hi];simp[hi]
 ·rw[List.getElem?_eq_none (by simp;omega)];simp[hi]
theorem El.make {P:Program}{t e:TypeId}{bytes:Nat}{z:Value}(h:El P t e bytes z){H:aa}{base:Nat}{m n:IntKind}{l c:Int}{K:Sl->aa->Prop}
  (o:0<=l) (g:l<=c) (i:(bytes:Int)*c<=281474976710656) (j:c<=9223372036854775807) (a:base<=H.size)
  (p:∀(s':Sl) (H':aa),s'.n=l.toNat->aM H' base e 1 s' (OD l.toNat z)->Ext H H'->(∀b,ag s' b->H.size<=b)->s'.a≠none->K s' H'):
  ba ak P (QX t (.int m l) (.int n c)) H K:=by
 obtain⟨inf,q,hi,r,d,f,k⟩:=h;refine D8 q hi r o g (by rw[k];exact i) j (p _ _ rfl ?_ (Mod.push _ _ _) (λb i=>?_) (by simp))
 ·refine aM.fresh a (by omega) (by unfold maxLen;omega) ?_ (by simp) ?_
  ·have:=congrArg List.length (nj z d (c.toNat*inf.size));simp at this;rw[this,f]
  ·rw[nj z d,f];simp;omega
 ·obtain⟨s,u,v⟩:=i;cases u;have:H.size=b:=v;omega
theorem aM.st {H:aa}{base:Nat}{e:TypeId}{s:Sl}{xs:List Value}{v:Value}{K:aa->Prop}(h:aM H base e 1 s xs){i:Int}(f:0<=i)(h1:i<(s.n:Int))(j:jl v=true)
  (k:∀H',aM H' base e 1 s (xs.set i.toNat v)->Mod (ag s) H H'->H'.size=H.size->K H'):
  ae s.a λa=>(0<=i/\i<(s.n:Int))/\st H (a.add (i.toNat*1)) v K:=by
 have hlen:=h.1;rcases h.2 with ⟨b,e2⟩|⟨g,cap,cur,b,l,c,m,n,o,p⟩
 ·omega
 ·have d:s.a=some ⟨g,0,none⟩:=by
   cases s;simp only[Sl.v,Ov] at b;exact b.1
  have hi:i.toNat<cur.size:=by omega
  refine aX _ d ⟨⟨f,h1⟩,j,?_,?_,k _ ?_ (Mod.set ?_) (iy _ _ _)⟩
  ·rw[O7,add_lit,Pt];exact⟨_,cq c (Array.getElem?_eq_getElem hi)⟩
  ·rw[O7,add_lit];exact dv c
  ·rw[O7,add_lit,Pt];refine⟨by simpa using hlen,.inr ⟨g,cap,cur.setIfInBounds i.toNat v,b,l,ot (a:=⟨g,i.toNat,none⟩) c rfl,m,n,by simpa using o,?_⟩⟩;rw[<-p];simp[List.take_set]
  ·rw[dz];exact⟨_,d,rfl⟩
def Var (H:aa)(p:Addr)(v:Value):Prop:=p.spot=none/\p.off=0/\∃t,H[p.block]?=some (.cells #[v] t (0,0))
theorem Var.cell {H:aa}{p:Addr}{v:Value}(h:Var H p v):cK H p=some v:=by
 obtain⟨b,o,sp⟩:=p;obtain⟨h1,a,t,c⟩:=h;simp only at h1 a c;subst h1;subst a;exact cq c rfl
theorem Var.ld {c:eO}{H:aa}{p:Addr}{x:c.α}{K:c.α->Prop}(h:Var H p (c.enc x))(a:K x):ld c H p K:=⟨x,h.cell,a⟩
theorem Var.lt {H:aa}{p:Addr}{v:Value}(h:Var H p v):p.block<H.size:=jC h.cell
theorem ar {α:Type}{x0:α}{H:aa}{body:(α->aa->Prop)->α->aa->Prop}(n:Nat)(I:Nat->α->aa->Prop)(e:I 0 x0 H)
  (hs:∀k x H' next,k<=n->I k x H'->(k<n->∀a b,I (k+1) a b->next a b)->body next x H'):aw α x0 H body:=by
 refine⟨Nat,λk x H'=>k<=n/\I k x H',λk=>n - k,⟨0,Nat.zero_le _,e⟩,?_⟩;rintro k x H' ⟨hk,f⟩;exact hs k x H' _ hk f (λc a b d=>⟨k+1,⟨c,d⟩,by show n - (k+1)<n - k;omega⟩)
theorem wrap64 {x:Int}(a:-9223372036854775808<=x)(h1:x<=9223372036854775807):N6.wrap x=x:=by
 rw[Vv];omega
theorem aD (k:Nat)(h:k<4611686018427387904):N6.wrap ((k:Int)+1)=((k+1:Nat):Int):=by
 rw[wrap64 (by omega) (by omega)];omega
end Go.Proofs.YtmkbhnholcaghaaGreatDoor
