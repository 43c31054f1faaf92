/-
 The library's sorting of texts, said of the heap.
-/
import Derived.Test.YtmkbhnholcaghaaGreatDoorFxn
import Derived.Test.YtmkbhnholcaghaaGreatDoorLay
import Derived.Test.YtmkbhnholcaghaaGreatDoorFxy
import Derived.Test.YtmkbhnholcaghaaGreatDoorJ34
import Derived.Test.YtmkbhnholcaghaaGreatDoorJ35
import Derived.Test.YtmkbhnholcaghaaGreatDoorDks
import Derived.Test.YtmkbhnholcaghaaGreatDoorJ38
import Derived.Test.YtmkbhnholcaghaaGreatDoorDkt
open Array renaming getElem?_push->QP
open Go.Builtin renaming clear_->To
open Go.ByteArray renaming toList_eq->Te
open Go.IntKind renaming i64->N6
open Go.Proofs.AnyM renaming slices_Sort_string_none->Vy,slices_Sort_string->VU
open Go.Proofs.Tryz renaming prog->N5,func17->X3
open Go.Value renaming int->On
open Go.Value.slice renaming injEq->Ov
open Int renaming toNat_natCast->Od,le_refl->RA
open List renaming getElem?_eq_some_iff->N7,getElem?_eq_getElem->N8,mem_of_getElem?->N9,take_succ_eq_append_getElem->Oc,mem_append->Oe,getElem?_map->Oi,mem_cons_of_mem->Ou,mem_singleton->Ow,map_cons->Ox,mem_cons_self->OA,map_append->OO,getElem_mem->OP,length_take->OW,mergeSort_perm->O6,getElem?_set_ne->Pd,getElem?_set_self->Pj,length_drop->Pr,map_set->Pv,map_map->Py,pairwise_mergeSort->PH,mem_or_eq_of_mem_set->PY,append_nil->Qs,getElem?_append->QO,take_succ_cons->Rh,take_take->Rk,take_length->Rw,length->T0
open List.Nodup renaming length_le_of_subset->QG
open Nat renaming le_refl->Ob,le_trans->Oo,zero_le->Oz,le_succ->OZ,mul_one->O7,zero_add->Pt,le_add_right->P6
open Ne renaming symm->PB
open Option.some renaming inj->OE
namespace Go.Proofs.YtmkbhnholcaghaaGreatDoor
theorem vV {s:Sl}{l:List (List UInt8)}{H:aa}{K:Unit->aa->Prop}(h:az EN dI H s l)(hl:l.length<4611686018427387904)
  (v:∀H',az EN dI H' s (l.mergeSort λx y=>decide (x<=y))->Mod (ag s) H H'->K () H'):ME.sp s H K:=by
 intro w hw;subst hw;rcases id h.2 with ⟨i,e2⟩|⟨g,cap,cur,i,C,q,D,E,z,F⟩
 ·have r:=h.n (by decide);have t:l=[]:=List.eq_nil_of_length_eq_zero (by omega);have u:=Vy sortStr none 0 w;rw[i];refine u.mono λe w' ⟨he,c⟩=>?_;subst c;subst t;exact⟨_,he,⟨(),rfl,v _ (by simpa using h) (.refl _ _)⟩,.refl _⟩
 ·have r:=h.n (by decide);have k:=zf l;have a:EN.size=1:=rfl;have m:∀x:List UInt8,encStr x=.string ⟨x.toArray⟩:=λ_=>rfl;have hH:Sort.Holds encStr w g 0 l.toArray:=by
   intro j G;have p:j<l.length:=by simpa using G
   have A:(EN.all l)[j]?=some (.string ⟨l[j].toArray⟩):=by rw[k];simp[p]
   rw[<-F,List.getElem?_take,if_pos (by rw[a];omega)] at A;refine⟨?_,?_⟩
   ·rw[Pt];have:=cq (o:=j) q (by simpa using A);simp[p,m];exact this
   ·rw[Pt];exact dv q
  have u:=VU sortStr g 0 cap l w hH (aA q) hl;rw[i,r];refine u.mono λe w' ⟨he,n,os,c⟩=>?_;have hm:=O6 l (λx y=>decide (x<=y));have f:(l.mergeSort λx y=>decide (x<=y)).length=l.length:=hm.length_eq;obtain⟨I,J,L,B⟩:=qH (enc:=encStr) (n:=n) (d:=(l.mergeSort λx y=>decide (x<=y)).toArray) (os:=os) q (by rw[z,a];simp[f];omega);subst c;refine⟨_,he,⟨(),rfl,v _ ⟨?_,.inr ⟨g,cap,_,i,C,I,D,E,by rw[L];exact z,?_⟩⟩ (J.mono λb _ e=>⟨⟨g,0,none⟩,?_,e.symm⟩)⟩,(.of_le rfl (P6 _ _))⟩
  ·rw[zf,a];simp[f,r]
  ·rw[zf,a,O7,r];have:(l.mergeSort λx y=>decide (x<=y)).toArray.size=l.length:=by simp[f]
   rw[this] at B;rw[B]
  ·cases s;simp only[Sl.v,Ov] at i;exact i.1
open Go.MapKept
def Dk.list (s:Dk):List (List UInt8):=if s.down then [] else (s.files.map λf=>f.name.toList).mergeSort λx y=>decide (x<=y)
theorem wG:qZ N5 dU dI EN.size 16:=eK (by kernel_rfl)
def nameOf (e:MapEntry):List UInt8:=match fN e.key with|some n=>n.toList|none=>[]
theorem qE (n:ByteArray):cD n.toList=n:=by
 unfold cD;apply ByteArray.ext;simp[Te]
theorem kM {l r:List (List UInt8)}(h:l.Perm r):(l.mergeSort λx y=>decide (x<=y))=r.mergeSort λx y=>decide (x<=y):=by
 have e:∀a b c:List UInt8,decide (a<=b)=true->decide (b<=c)=true->decide (a<=c)=true:=λa b c h1 d=>by simp only[decide_eq_true_eq] at*;exact List.le_trans h1 d
 have to:∀a b:List UInt8,(decide (a<=b)||decide (b<=a))=true:=λa b=>by simp only[Bool.or_eq_true,decide_eq_true_eq];exact List.le_total a b
 refine List.Perm.eq_of_pairwise (le:=λa b=>decide (a<=b)=true) (λa b _ _ h1 d=>?_) (PH e to l) (PH e to r) (((O6 l _).trans h).trans (O6 r _).symm);simp only[decide_eq_true_eq] at h1 d;exact List.le_antisymm h1 d
theorem yu {l m cap:Nat}{es:Array MapEntry}{clk:Nat}{H:aa}{K:Unit->aa->Prop}(I:List MapEntry->aa->Prop)(hm:ca .string H m es clk)(g:aj H cap yM #[.map (some m)])
  (d:∀e∈es.toList,∃n,e.key=.string n) (J:∀A,Mod (λ_=>False) H A->I [] A) (u:∀l A a,I l A->Mod (λb=>b=H.size) A a->a.size=A.size->I l a)
  (hs:∀ls e n A,I ls A->e∈es.toList->e.key=.string n->(∀y∈ls,y∈es.toList)->ls.Nodup->e∉ls->A[m]?=some (.map es clk)->H.size<A.size->bZ N5 l #[.string n] A λb a=>b=true/\I (ls++[e]) a/\a[m]?=A[m]?/\a[H.size]?=A[H.size]?)
  (j:∀ls A,I ls A->ls.Perm es.toList->K () A):E6.sp l ⟨cap,0,none⟩ H K:=by
 refine E6.of ?_;unfold E6.vc;have:=g.ld (c:=bT) (i:=0) (x:=some m) rfl (K:=λx=>ba av N5 (Instr.range yM (.map x)) H λ(it:Option Addr) H1=>aw Unit () H1 λnext _ L=>ba fW N5 (Instr.next (.pointer it) false Af) L λ(M:Bool×List Value) B=>br M.1 (ba oH N5 (Instr.entry (.pointer it)) B λ(N:Value×Value) O=>HM aK N.1 λ(k:ByteArray)=>bZ N5 l #[(.string k)] O λ(b:Bool) C=>br (!b) (K () C) (next () C)) (K () B));refine this ?_;obtain⟨U,inf,hu,_,_,_⟩:=lH;refine py hu hm λH1 p D=>?_;have q:H.size<H1.size:=aA p;refine qd (it:=H.size) (λls _ A=>I ls A/\H.size<A.size) (hm.keep (D.same _ hm.lt id)) p ⟨J H1 D,q⟩ (λl x A a h m s=>⟨u l A a h.1 m s,by omega⟩) ?_ (λls x A h P _=>j ls A h.1 P);rintro ls e ⟨⟩ A next ⟨Q,v⟩ he w r z R t f
 obtain⟨n,E⟩:=d e he;refine⟨n,by rw[E],?_⟩;refine(hs ls e n A Q he E r z w R v).mono λb a S=>?_;obtain⟨rfl,h1,T,F⟩:=S;refine aC rfl (f () a ⟨h1,?_⟩ T F);obtain⟨o,G⟩:=t;rw[<-F] at G;exact aA G
theorem tU {m cap:Nat}{es:Array MapEntry}{clk:Nat}{H:aa}{K:Sl->aa->Prop}(hm:ca .string H m es clk)(z:aj H cap yM #[.map (some m)])
  (C:∀e∈es.toList,∃n,e.key=.string n) (hlen:es.size<=1048576)
  (hK:∀(s:Sl) (ls:List MapEntry) (H':aa),az EN dI H' s (ls.map nameOf)->ls.Perm es.toList->Mod (λ_=>False) H H'->(∀b,ag s b->H.size<=b)->K s H'):
  JH.sp (Sl.mk none 0 0) (.func (.func E6.no) #[] #[(.pointer (some ⟨cap,0,none⟩))]) H K:=by
 refine JH.of ?_;unfold JH.vc;refine ax λH1 s1 V m1=>?_;have g:cP N5 E6.no=true:=by kernel_rfl
 refine⟨_,_,rfl,g,λrec d=>?_⟩;obtain⟨r,W⟩:∃r,r=H1.size:=⟨_,rfl⟩;obtain⟨l,hl⟩:∃l,l=H1.size+1:=⟨_,rfl⟩;obtain⟨p,P⟩:∃p,p=H.size:=⟨_,rfl⟩;rw[<-hl] at d ⊢;rw[<-W];rw[<-P] at V;rw[<-P] at d;rw[<-P];obtain⟨f,t⟩:∃f:aa,f=(H1.push (.deferred (some []))).push (.loop (rec .ready none)):=⟨_,rfl⟩;rw[<-t];have N:Mod (λ_=>False) H1 f:=by rw[t];exact(Mod.push _ _ _).trans (Mod.push _ _ _)
 have sB:f.size=H1.size+2:=by rw[t];simp
 have lB:f[l]?=some (.loop (rec .ready none)):=by rw[t,hl,QP,if_pos (by simp)]
 have rB:f[r]?=some (.deferred (some [])):=by rw[t,W];simp[QP]
 have pB:aj f p dU #[(Sl.mk none 0 0).v]:=V.ext N;have mB:ca .string f m es clk:=(hm.keep (m1.same _ hm.lt id)).keep (N.same _ (by have:=hm.lt;omega) id);have cB:aj f cap yM #[.map (some m)]:=(z.ext m1).ext N;have af:=hm.lt;have an:cap<H.size:=aA z
 let I:List MapEntry->aa->Prop:=λls A=>A[l]?=some (.loop (rec .ready none))/\A[r]?=some (.deferred (some []))/\(∃s,aj A p dU #[s.v]/\az EN dI A s (ls.map nameOf)/\(∀b,ag s b->f.size<b))/\Mod (λb=>b=p\/b=l\/b=f.size) f A
 refine Spec.mono (R:=λv H'=>∃x:Unit,v=(aR []).enc x/\nK l rec H' _ _ _) (yu (l:=l) (m:=m) (cap:=cap) (H:=f) (K:=λ_ H'=>nK l rec H' _ _ _) I mB cB C ?_ ?_ ?_ ?_) (λv H' ⟨x,_,h⟩=>h)
 ·intro A u;exact⟨u.at lB id,u.at rB id,⟨_,pB.ext u,az.nil _ _ _,by rintro b ⟨ad,q,_⟩;cases q⟩,Ext.mod u⟩
 ·rintro ls A O ⟨i1,i2,⟨s,i3,i4,i5⟩,i6⟩ u hs;refine⟨u.at i1 (by omega),u.at i2 (by omega),⟨s,i3.mod u (by omega),i4.keep λb a j=>u.same b j (by have:=i5 b a;omega),i5⟩,i6.trans (u.mono λb _ e=>.inr (.inr e))⟩
 ·rintro ls e n A ⟨i1,i2,⟨s,i3,i4,i5⟩,i6⟩ he hn J Q a1 S a6;refine d [.string n] A _ i1 ?_;show iN (some n) _;refine⟨i1,?_⟩;obtain⟨D,w⟩:∃D:aa,D=A.setIfInBounds l (.loop (rec .busy none)):=⟨_,rfl⟩;rw[<-w];have o:Mod (λb=>b=l) A D:=by rw[w];exact Mod.setObj rfl
  have a7:D.size=A.size:=by rw[w];simp
  have T:D[l]?=some (.loop (rec .busy none)):=by rw[w];exact gk i1
  have L:p≠l:=by omega
  have p1:=i3.mod o L;refine p1.ld (c:=ak) (i:=0) (x:=s) rfl ?_;have X:∀b,ag s b->b≠l:=λb a=>by have:=i5 b a;omega
  have o1:az EN dI D s (ls.map nameOf):=i4.keep λb a j=>o.same b j (X b a);have a8:(ls.map nameOf).length<=1048576:=by
   have:=QG Q (l₂:=es.toList) (λy hy=>J y hy);simp at this ⊢;omega
  have U:nameOf e=n.toList:=by unfold nameOf;rw[hn];rfl
  refine az.push (E:=EN) wG (x:=n.toList) o1 (by have:=qE n;unfold cD at this;simp[EN,this]) (by omega) (by omega) λs2 Y o2 g2 _=>?_;have lp:p<D.size:=aA p1;have tp:∀b,ag s b->b≠p:=λb a=>by have:=i5 b a;omega
  have p2:aj Y p dU #[s.v]:=p1.mod g2.1 (λa=>tp _ a rfl);have bb:=i6.size;have t2:∀b,ag s2 b->f.size<b:=λb a=>by
   rcases g2.2 b a with q|q
   ·exact i5 b q
   ·omega
  have B:=p2.st (i:=0) (v:=s2.v) (by simp) rfl (K:=λZ=>Z[l]?=some (.loop (rec .busy none))/\(λb O=>b=true/\I (ls++[e]) O/\O[m]?=A[m]?/\O[f.size]?=A[f.size]?) true (Z.setIfInBounds l (.loop (rec .ready none))));rw[show (Addr.add ⟨p,0,none⟩ 0)=⟨p,0,none⟩ from rfl] at B;refine B λk p3 m3 s3=>?_;have l2:Y[l]?=some (.loop (rec .busy none)):=g2.1.at T (λa=>X _ a rfl);have l3:k[l]?=some (.loop (rec .busy none)):=m3.at l2 (by omega);refine⟨l3,rfl,⟨gk l3,?_,⟨s2,?_,?_,t2⟩,?_⟩,?_,?_⟩
  ·have m4:Mod (λb=>b=l) k (k.setIfInBounds l (.loop (rec .ready none))):=Mod.setObj rfl;exact m4.at (m3.at (g2.1.at (o.at i2 (by omega)) (λa=>by have:=i5 _ a;omega)) (by omega)) (by omega)
  ·have m4:Mod (λb=>b=l) k (k.setIfInBounds l (.loop (rec .ready none))):=Mod.setObj rfl;exact aj.mod (show aj k p dU #[s2.v] from p3) m4 L
  ·have m4:Mod (λb=>b=l) k (k.setIfInBounds l (.loop (rec .ready none))):=Mod.setObj rfl;rw[OO,Ox,List.map_nil,U];refine o2.keep λb a j=>?_;have:=t2 b a;exact(m4.same b (by omega) (by omega)).trans (m3.same b j (by omega))
  ·have m4:Mod (λb=>b=l) k (k.setIfInBounds l (.loop (rec .ready none))):=Mod.setObj rfl;have z2:=g2.1.size;refine i6.trans' (G:=λb=>(b=l\/ag s b)\/b=p) ?_ ?_
   ·exact(((o.mono λb _ e=>.inl (.inl e)).trans (g2.1.mono λb _ e=>.inl (.inr e))).trans (m3.mono λb _ e=>.inr e)).trans (m4.mono λb _ e=>.inl (.inl e))
   ·rintro b a ((e|e)|e)
    ·exact .inr (.inl e)
    ·have:=i5 b e;omega
    ·exact .inl e
  ·have m4:Mod (λb=>b=l) k (k.setIfInBounds l (.loop (rec .ready none))):=Mod.setObj rfl;have z2:=g2.1.size;have M:=aA S;exact(m4.same _ (by omega) (by omega)).trans ((m3.same _ (by omega) (by omega)).trans ((g2.1.same _ (by omega) (λa=>by have:=i5 _ a;omega)).trans (o.same _ M (by omega))))
  ·have m4:Mod (λb=>b=l) k (k.setIfInBounds l (.loop (rec .ready none))):=Mod.setObj rfl;have z2:=g2.1.size;exact(m4.same _ (by omega) (by omega)).trans ((m3.same _ (by omega) (by omega)).trans ((g2.1.same _ (by omega) (λa=>by have:=i5 _ a;omega)).trans (o.same _ (by omega) (by omega))))
 ·rintro ls A ⟨i1,i2,⟨s,i3,i4,i5⟩,i6⟩ F;refine⟨.ready,none,i1,rfl,?_⟩;show ld ak _ _ _;have m4:Mod (λb=>b=l) A (A.setIfInBounds l (.loop (rec .exhausted none))):=Mod.setObj rfl;have p4:=i3.mod m4 (by omega);refine p4.ld (c:=ak) (i:=0) (x:=s) rfl ?_;have r4:=m4.at i2 (by omega);refine⟨r4,?_⟩;have m5:Mod (λb=>b=r) (A.setIfInBounds l (.loop (rec .exhausted none))) ((A.setIfInBounds l (.loop (rec .exhausted none))).setIfInBounds r (.deferred none)):=Mod.setObj rfl;have z6:=i6.size;have z4:=m4.size;refine hK s ls _ ?_ F ?_ (λb a=>by have:=i5 b a;omega)
  ·refine i4.keep λb a j=>?_;have:=i5 b a;exact(m5.same b (by omega) (by omega)).trans (m4.same b j (by omega))
  ·have z5:=m5.size;refine⟨by omega,λb a _=>(m5.same b (by omega) (by omega)).trans ((m4.same b (by omega) (by omega)).trans ((i6.same b (by omega) (by omega)).trans ((N.same b (by omega) id).trans (m1.same b a id))))⟩
theorem AQ {F:Nat->Prop}{d:Nat}{s:Dk}{H:aa}{K:Sl->aa->Prop}(h:bo F H d s)(p:∀l H',az EN dI H' l s.list->Mod (λ_=>False) H H'->(∀b,ag l b->H.size<=b)->K l H'):HW.sp (aE d) H K:=by
 obtain⟨x,cin,kp,g,C⟩:=h;refine HW.of ?_;unfold HW.vc;refine lK g.head (down:=s.down) rfl ?_;cases hd:s.down with
 |true=>
   refine aP rfl (p _ H ?_ (.refl _ _) (by rintro b ⟨ad,q,_⟩;cases q));unfold Dk.list;rw[hd];exact az.nil _ _ _
 |false=>
   refine aC rfl ?_;refine g.head.ld (c:=bT) (i:=0) (x:=some x.m) rfl ?_;refine Ld.of ?_;unfold Ld.vc;refine ax λH1 s1 t m1=>?_;refine KF.of ?_;unfold KF.vc;refine Lh.of ?_;unfold Lh.vc;have j:ca .string H1 x.m x.es x.clk:=g.files.map.keep (m1.same _ g.files.map.lt id);have m:=g.wf.files;have u:=g.files.size;refine tU j t (λe he=>?_) (by omega) λsl ls D v w m2 f2=>?_
   ·obtain⟨i,f,E,_,_,y,_⟩:=g.files.ent' e.key e.val ⟨e,he,rfl,rfl⟩;exact⟨_,y⟩
   have a:(ls.map nameOf).Perm (s.files.map λf=>f.name.toList):=by
    have h1:=((w.map (·.key)).trans (g.files.perm g.wf)).map λk=>match fN k with|some n=>n.toList|none=>[]
    rw[Py,Py] at h1;exact h1
   have z:(ls.map nameOf).length<=4096:=by rw[a.length_eq];simpa using m
   refine vV v (by omega) λA r m3=>?_;rw[kM a] at r;have G:=m1.size;have z2:=m2.size;have z3:=m3.size;refine p sl A ?_ ⟨by omega,λb o _=>(m3.same b (by omega) λB=>by have:=f2 b B;omega).trans ((m2.same b (by omega) id).trans (m1.same b o id))⟩ (λb o=>by have:=f2 b o;omega);unfold Dk.list;rw[hd];exact r
section
variable {H A:aa}{d:Nat}{s:Dk}{n:ByteArray}
end
end Go.Proofs.YtmkbhnholcaghaaGreatDoor
namespace Go.Proofs.YtmkbhnholcaghaaGreatDoor
structure Bd (s:Pl)(x y:Nat):Prop where
 fit:s.Fit
 lo:0<=s.next
 hi:s.next<=(x:Int)
 aB:s.d.aB<=y
section
variable {s:Pl}{x y:Nat}{n:ByteArray}{w:RW}{r:RR}{W:Int}
theorem Bd.mono {a b:Nat}(h:Bd s x y)(e:x<=a)(c:y<=b):Bd s a b:=⟨h.fit,h.lo,by have:=h.hi;omega,Oo h.aB c⟩
theorem Pl.K3 {k:Int}(a:0<=s.next)(h1:s.next<1099511627776):s.next<=(s.bt n k).1.next:=by
 unfold Pl.bt;split
 ·exact RA _
 ·split
  ·rw[Pl.sU s _ a h1];omega
  ·rcases s.nU n k with ⟨e,he⟩|⟨e,he⟩|⟨f,he,_⟩
   ·rw[he];show _<=(s.met e).next;rw[(s.eF e).2.2.1];omega
   ·rw[he];show _<=(s.room.1.met e).next;rw[(s.room.1.eF e).2.2.1,s.ct.2.1];omega
   ·rw[he];show _<=(s.room.1.take f).next;rw[Pl.mw _ _ (by rw[s.ct.2.1];exact a) (by rw[s.ct.2.1];exact h1),s.ct.2.1];omega
theorem Pl.Ga (b:0<=s.next)(h1:s.next<1099511627776):s.next<=(s.fresh n).1.next:=by
 have a:=s.ct.2.1;unfold Pl.fresh;split
 ·exact RA _
 ·split
  ·show _<=(s.met _).next;rw[(s.eF _).2.2.1];omega
  ·split
   ·show _<=(s.room.1.met _).next;rw[(s.room.1.eF _).2.2.1,a];omega
   ·split
    ·show _<=((s.room.1.bE _).met _).next
     rw[((s.room.1.bE _).eF _).2.2.1];show _<=s.room.1.next;rw[a];omega
    ·show _<=((s.room.1.bE _).take _).next
     rw[Pl.mw _ _ (by show 0<=s.room.1.next;rw[a];exact b) (by show s.room.1.next<_;rw[a];exact h1)];show _<=s.room.1.next+1;rw[a];omega
theorem Bd.bt (h:Bd s x y)(g:x<1000000000000)(k:Int):Bd (s.bt n k).1 (x+1) (y+1):=by
 have a:=h.lo;have b:=h.hi;have c:=s.lv (n:=n) (k:=k) a (by omega);have d:=s.K3 (n:=n) (k:=k) a (by omega);have e:=s.tu n k;have f:=h.aB;exact⟨h.fit.bt n k,by omega,by omega,by omega⟩
theorem Bd.fresh (h:Bd s x y)(g:x<1000000000000):Bd (s.fresh n).1 (x+1) (y+2):=by
 have a:=h.lo;have b:=h.hi;have c:=s.nJ (n:=n) a (by omega);have d:=s.Ga (n:=n) a (by omega);have e:=s.zY n;have f:=h.aB;exact⟨h.fit.fresh n,by omega,by omega,by omega⟩
theorem Bd.set (h:Bd s x y)(c:Int)(k:UInt8)(b:List UInt8):Bd (s.set c k b).1 x y:=
 ⟨h.fit.set c k b,by rw[Pl.jB];exact h.lo,by rw[Pl.jB];exact h.hi,by rw[Pl.E9];exact h.aB⟩
theorem Bd.aY (h:Bd s x y)(c:Int):Bd (s.aY c).1 x y:=
 ⟨h.fit.aY c,by rw[Pl.te];exact h.lo,by rw[Pl.te];exact h.hi,by rw[Pl.BB];exact h.aB⟩
theorem Bd.leave {q:Pl×Int}(h:Bd q.1 x y)(c:Int):Bd (Pl.leave q c).1 x y:=by
 unfold Pl.leave;split
 ·exact h.aY c
 ·exact h
theorem Bd.more (h:Bd s x y)(a:x<1000000000000)(k:UInt8)(b:List UInt8):Bd (s.more n k b).1 (x+1) (y+2):=by
 have f:=h.fresh (n:=n) a;unfold Pl.more;split
 ·exact f
 ·refine Bd.leave ?_ _;split
  ·exact f
  ·exact f.set _ _ _
theorem Bd.look (h:Bd s x y)(a:x<1000000000000)(k:Int):Bd (s.look n k).1 (x+1) (y+1):=by
 have f:=h.bt (n:=n) a k;unfold Pl.look;split
 ·exact f
 ·split
  ·exact f
  ·exact f.aY _
theorem Bd.create (h:Bd s x y):Bd (s.bE (s.d.create n).1) x y:=
 ⟨h.fit.bE (s.d.j5 n),h.lo,h.hi,Oo (s.d.lF n) h.aB⟩
theorem Bd.out (h:Bd s x y)(a:x<1000000000000):Bd (w.out s).1 (x+1) (y+2):=by
 have m:=h.mono (OZ x) (P6 y 2);unfold RW.out;split
 ·exact m
 ·exact h.more a _ _
theorem Bd.add (h:Bd s x y)(a:x<1000000000000)(l:List Int):Bd (w.add s l).1 (x+1) (y+2):=by
 have m:=h.mono (OZ x) (P6 y 2);unfold RW.add;split
 ·exact m
 ·split
  ·exact m
  ·split
   ·exact m
   ·split
    ·exact m
    ·exact h.out a
theorem Bd.make (h:Bd s x y)(a:x<1000000000000):Bd (bj s n W).1 (x+1) (y+2):=by
 have m:=h.mono (OZ x) (P6 y 2);have c:=h.create (n:=n);unfold bj;split
 ·exact m
 ·split
  ·exact c.mono (OZ x) (P6 y 2)
  ·split<;>exact c.more a _ _
theorem Bd.open (h:Bd s x y)(a:x<1000000000000):Bd (rnOpen s n W).1 (x+1) (y+1):=by
 have m:=h.mono (OZ x) (OZ y);have c:=h.look (n:=n) a 0;unfold rnOpen;split
 ·exact m
 ·split
  ·exact c
  ·split
   ·exact c
   ·split
    ·exact c
    ·split<;>exact c
theorem Bd.load (h:Bd s x y)(a:x<1000000000000)(j:Nat):Bd (r.load s j).1 (x+1) (y+1):=by
 have m:=h.mono (OZ x) (OZ y);have c:=h.look (n:=r.b.name) a ((j:Int)+1);unfold RR.load;split
 ·exact m
 ·split
  ·exact c
  ·split<;>exact c
theorem Bd.next (h:Bd s x y)(a:x<1000000000000):Bd (r.next s).1 (x+1) (y+1):=by
 have m:=h.mono (OZ x) (OZ y);have c:=h.load (r:=r) a (r.at_/r.b.room);unfold RR.next;split
 ·exact m
 ·split
  ·exact m
  ·split<;>exact c
theorem iJ {n:ByteArray}:∀(l:List Nat) {s:Pl},(Pl.bg n l s).1.fs.length=s.fs.length
 |[],s=>rfl
 |k::l,s=>by
   unfold Pl.bg;split
   ·rename_i i _;have hk:(s.put i).1.fs.length=s.fs.length:=by simpa using congrArg T0 (s.sR i)
    split
    ·split
     ·rw[iJ l];exact hk
     ·exact hk
    ·exact iJ l
   ·exact iJ l
theorem Bd.flush (h:Bd s x y)(a:s.fs.length<=4096):Bd (s.flush n).1 x (y+4096):=
 ⟨h.fit.flush n,by rw[Pl.tw];exact h.lo,by rw[Pl.tw];exact h.hi,by have:=s.y6 n;have:=h.aB;omega⟩
theorem Pl.vG (r:Pl×Int):(Pl.out r).1.fs.length=r.1.fs.length:=by
 show (r.1.met r.2).fs.length=_;rw[(r.1.eF r.2).2.1]
theorem Pl.CW (s:Pl)(n:ByteArray):(s.flush n).1.fs.length=s.fs.length:=by
 unfold Pl.flush;split
 ·rfl
 ·split
  ·exact Pl.vG _
  ·split
   ·rw[Pl.vG];exact iJ _
   ·rw[Pl.vG];exact iJ _
theorem Bd.head (h:Bd s x y)(a:x<1000000000000)(hw:(w.head s).1.fs.length<=4096):Bd (w.head s).1 (x+1) (y+4100):=by
 have f:=h.bt (n:=w.b.name) a 0;unfold RW.head at hw ⊢;split
 ·exact f.mono (Ob _) (by omega)
 ·rename_i h1;rw[if_neg h1] at hw;have g:=(f.set (s.bt w.b.name 0).2.1 2 (eS w.b.width w.rows));have g2:=Bd.leave (q:=(s.bt w.b.name 0).1.set (s.bt w.b.name 0).2.1 2 (eS w.b.width w.rows)) g (s.bt w.b.name 0).2.1;split
  ·exact g2.mono (Ob _) (by omega)
  ·rename_i b;rw[if_neg b,Pl.CW] at hw;exact(g2.flush (n:=w.b.name) hw).mono (Ob _) (by omega)
theorem Bd.close (h:Bd s x y)(b:x<999999999999)(hw:(w.close s).1.fs.length<=4096):Bd (w.close s).1 (x+2) (y+4200):=by
 have o:=h.out (w:=w) (by omega);unfold RW.close at hw ⊢;split
 ·exact h.mono (by omega) (by omega)
 ·rename_i h1;rw[if_neg h1] at hw;split
  ·exact o.mono (by omega) (by omega)
  ·rename_i a;rw[if_neg a] at hw;have e:((w.out s).2.1.ends (w.out s).1).1=((w.out s).2.1.head (w.out s).1).1:=by unfold RW.ends;split<;>rfl
   rw[e] at hw ⊢;exact(o.head (by omega) hw).mono (by omega) (by omega)
theorem Bd.cT (h:Bd s x y):Bd (s.cT n).1 x y:=
 ⟨h.fit.cT n,by rw[Pl.rM];exact h.lo,by rw[Pl.rM];exact h.hi,Oo (s.Aa n) h.aB⟩
end
open Go.MapKept
def kS:eJ ByteArray:=⟨1,λx=>[.string x],λ_=>rfl,λx u hu=>by simp at hu;subst hu;rfl⟩
theorem CH:qZ N5 dU dI 1 16:=eK (by kernel_rfl)
theorem Mi:qZ N5 L9 Mt 1 8:=eK (by kernel_rfl)
theorem bP.one {α:Type}{E:eJ α}{H:aa}{s:Sl}{l:List α}(h:bP E H s.a l)(g:s.n=l.length)(hs:E.size=1){i:Nat}{x:α}{c:eO}{y:c.α}(hi:l[i]?=some x)(e:E.enc x=[c.enc y]){K:c.α->Prop}(f:K y):
  ae s.a λa=>(0<=(i:Int)/\(i:Int)<(s.n:Int))/\Go.Proofs.YtmkbhnholcaghaaGreatDoor.ld c H (a.add ((i:Int).toNat*1)) K:=by
 have hl:=(N7.1 hi).1;obtain⟨ad,b⟩:=h.addr (by omega) (by omega);refine aX ad b ⟨⟨by omega,by omega⟩,?_⟩;have:=bP.ld (c:=c) (K:=K) h b (i:=i) (j:=0) hi (by rw[e];rfl) (n:=i*1) (by rw[hs]) f;rw[add_add] at this;rw[Od];exact this
theorem oT {s:Pl}{n:ByteArray}{W:Int}:((rnOpen s n W).2.1=none->(rnOpen s n W).2.2≠0)/\((rnOpen s n W).2.1≠none->(rnOpen s n W).2.2=0):=by
 unfold rnOpen;split
 ·exact⟨λ_=>by simp,λq=>absurd rfl q⟩
 ·split
  ·rename_i h;exact⟨λ_=>h,λq=>absurd rfl q⟩
  ·split
   ·exact⟨λ_=>by simp,λq=>absurd rfl q⟩
   ·split
    ·rename_i h;exact⟨λ_=>h,λq=>absurd rfl q⟩
    ·split
     ·exact⟨λq=>(by cases q),λ_=>rfl⟩
     ·exact⟨λ_=>by simp,λq=>absurd rfl q⟩
theorem ru {W:Int}:∀{ns:List ByteArray} {s:Pl} {x y:Nat},Bd s x y->x+ns.length<1000000000000->Bd (aV W ns s).1 (x+ns.length) (y+ns.length)
 |[],s,x,y,h,_=>h
 |n::ns,s,x,y,h,a=>by
   rw[List.length_cons] at a ⊢;have h1:=h.open (n:=n) (W:=W) (by omega);simp only[aV];split
   ·exact h1.mono (by omega) (by omega)
   ·have:=ru (W:=W) (ns:=ns) h1 (by omega);exact this.mono (by omega) (by omega)
theorem RR.fX {r:RR}(h:r.Ok)(s:Pl):(r.next s).2.1.Ok/\(r.next s).2.1.b.name=r.b.name/\(r.next s).2.1.rows=r.rows/\((r.next s).2.2.2.1=true->r.at_<r.rows/\(r.next s).2.1.at_=r.at_+1/\(r.next s).2.2.2.2=0/\(r.next s).2.2.1.length<=16)/\((r.next s).2.2.2.1=false->(r.next s).2.1.at_=r.at_):=by
 obtain⟨a,c,g,k,f,l⟩:=RR.oN (s:=s) (j:=r.at_/r.b.room) h;have m:=h.at_;unfold RR.next;split
 ·exact⟨h,rfl,rfl,λq=>(by cases q),λ_=>rfl⟩
 ·split
  ·exact⟨h,rfl,rfl,λq=>(by cases q),λ_=>rfl⟩
  ·rename_i i;split
   ·exact⟨a,f,c,λq=>(by cases q),λ_=>g⟩
   ·refine⟨⟨a.room,?_,a.page,a.rows,a.cols⟩,f,c,λ_=>⟨by omega,rfl,rfl,?_⟩,λq=>(by cases q)⟩
    ·show r.at_+1<=(r.load s (r.at_/r.b.room)).2.1.rows;rw[c];omega
    ·show ((r.load s (r.at_/r.b.room)).2.1.ins.getD (r.at_%r.b.room) []).length<=16;rw[List.getD];cases e:(r.load s (r.at_/r.b.room)).2.1.ins[r.at_%r.b.room]? with
     |none=>exact Oz _
     |some q=>exact a.cols q (N9 e)
structure ng where
 k:Nat
 r:RR
 si:Sl
 srs:List Sl
def ng.own (x:ng)(b:Nat):Prop:=qJ x.k x.si x.srs b
structure dZ (H0:aa)(F0:Nat->Prop)(col:Nat->Nat)(p dp:Nat)(F:Nat->Prop)(A:aa)(s:Pl)(xs:List ng)(l:Sl):Prop where
 pool:au F A p dp s
 rds:∀(i:Nat) (x:ng),xs[i]?=some x->zl A x.k p x.r x.si x.srs
 oks:∀x∈xs,x.r.Ok/\x.r.b.name.size<=9223372036854775807
 list:az dL Mt A l (xs.map (·.k))
 cF:∀b,F b->col b=0/\(F0 b\/H0.size<=b)
 cR:∀(i:Nat) (x:ng),xs[i]?=some x->∀b,x.own b->col b=5+i/\H0.size<=b
 cL:∀b,ag l b->col b=4/\H0.size<=b
 mod:Mod F0 H0 A
section
variable {H0 A:aa}{F0 F:Nat->Prop}{col:Nat->Nat}{p dp:Nat}{s:Pl}{xs:List ng}{l:Sl}
theorem dZ.gl (h:dZ H0 F0 col p dp F A s xs l)(a:Gl H0)(b:¬F0 bh):Gl A:=a.mod h.mod b
theorem dZ.step (h:dZ H0 F0 col p dp F A s xs l):Step F0 F H0 A:=⟨h.mod,λb a=>(h.cF b a).2⟩
theorem dZ.lt (h:dZ H0 F0 col p dp F A s xs l){i:Nat}{x:ng}(a:xs[i]?=some x):∀b,x.own b->b<A.size:=(h.rds i x a).lt
theorem dZ.rY {G:Nat->Prop}{F':Nat->Prop}{B:aa}{s':Pl}{col':Nat->Nat}(h:dZ H0 F0 col p dp F A s xs l)(j:au F' B p dp s')(m:Mod G A B)(f:∀b,b<A.size->G b->col b<4)(e:∀b,b<H0.size->G b->F0 b)
  (k:∀b,F' b->col' b=0/\(F0 b\/H0.size<=b)) (g:∀b,b<A.size->4<=col b->col' b=col b):dZ H0 F0 col' p dp F' B s' xs l:=by
 refine⟨j,λi x c=>(h.rds i x c).mod m λb a q=>?_,h.oks,h.list.mod m λb a q=>?_,k,λi x c b a=>?_,λb a=>?_,h.mod.trans' m e⟩
 ·have:=f b (h.lt c b a) q;have:=(h.cR i x c b a).1;omega
 ·have:=f b (h.list.lt b a) q;have:=(h.cL b a).1;omega
 ·have:=h.cR i x c b a;rw[g b (h.lt c b a) (by omega)];exact this
 ·have:=h.cL b a;rw[g b (h.list.lt b a) (by omega)];exact this
theorem dZ.ext {B:aa}(h:dZ H0 F0 col p dp F A s xs l)(e:Ext A B):dZ H0 F0 col p dp F B s xs l:=
 h.rY (h.pool.ext e) e (λ_ _ q=>q.elim) (λ_ _ q=>q.elim) h.cF λ_ _ _=>rfl
theorem ie (col:Nat->Nat)(n:Nat)(X Y Z:Nat->Prop)(a c e:Nat)(h1:∀b,X b->¬Y b)(g:∀b,X b->¬Z b)(h:∀b,Y b->¬Z b):∃col':Nat->Nat,(∀b,b<n->col' b=col b)/\∀b,n<=b->(X b->col' b=a)/\(Y b->col' b=c)/\(Z b->col' b=e):=by
 classical
 refine⟨λb=>if b<n then col b else if X b then a else if Y b then c else e,λb f=>if_pos f,λb f=>⟨λq=>?_,λq=>?_,λq=>?_⟩⟩
 ·show (if b<n then _ else _)=_;rw[if_neg (by omega),if_pos q]
 ·show (if b<n then _ else _)=_;rw[if_neg (by omega),if_neg λu=>h1 b u q,if_pos q]
 ·show (if b<n then _ else _)=_;rw[if_neg (by omega),if_neg λu=>g b u q,if_neg λu=>h b u q]
theorem dZ.next {K:(Sl×Bool×Int)->aa->Prop}{i:Nat}{x:ng}{u v:Nat}(h:dZ H0 F0 col p dp F A s xs l)(N:Gl H0)(P:¬F0 bh)(t:xs[i]?=some x)(b:Bd s u v)(hu:u<1000000000000)(T:v<68719470000)
  (Q:∀F' B col' G row,dZ H0 F0 col' p dp F' B (x.r.next s).1 (xs.set i G) l->G.k=x.k->G.r=(x.r.next s).2.1->aM B 0 gS 1 row ((x.r.next s).2.2.1.map (On .u64))->(∀b,ag row b->A.size<=b/\col' b=3)->(∀b,b<A.size->col' b=col b)->Mod (λb=>F b\/b=x.k) A B->
   K (row,(x.r.next s).2.2.2.1,(x.r.next s).2.2.2.2) B):ET.sp (aE x.k) A K:=by
 have I:=N9 t;obtain⟨ok,O⟩:=h.oks x I;have hi:=(N7.1 t).1;have J:=h.gl N P;have dis:∀b,F b->¬qJ x.k x.si x.srs b:=λb a q=>by
  have:=(h.cF b a).1;have:=(h.cR i x t b q).1;omega
 have L:=b.lo;have R:=b.hi;have S:=b.aB;have M:bh≠x.k:=λq=>by
  have:=(h.cR i x t x.k (.inl rfl)).2;have:=N.lt;omega
 refine yE J h.pool.eM M (⟨h.pool,h.rds i x t,dis,.refl _ _,λ_ q=>.inl q,λ_ q=>.inl q⟩:iU A F (qJ x.k x.si x.srs) x.k p dp x.si x.srs F A s x.r) ok O (by omega) (by omega) L λF' D C B row g o f=>?_;obtain⟨col',c1,c2⟩:=ie col A.size F' (qJ x.k D C) (ag row) 0 (5+i) 3 g.dis (λb q r=>(f b r).2.1 q) (λb q r=>(f b r).2.2 q);have E:=RR.fX ok s;have z:=g.mod.size;have keep:∀(j:Nat) (y:ng),j≠i->xs[j]?=some y->∀b,y.own b->¬(F b\/b=x.k):=λj y U m b a q=>by
  have c:=(h.cR j y m b a).1;rcases q with q|q
  ·have:=(h.cF b q).1;omega
  ·have:=(h.cR i x t b (by subst q;exact .inl rfl)).1;omega
 refine Q F' B col' ⟨x.k,(x.r.next s).2.1,D,C⟩ row ⟨g.pool,λj y m=>?_,λy m=>?_,?_,λb a=>?_,λj y m b a=>?_,λb a=>?_,?_⟩ rfl rfl o (λb a=>⟨(f b a).1,(c2 b (f b a).1).2.2 a⟩) c1 g.mod
 ·by_cases q:j=i
  ·subst q;rw[Pj hi] at m;cases m;exact g.rd
  ·rw[Pd (PB q)] at m;exact(h.rds j y m).mod g.mod (keep j y q m)
 ·rcases PY m with q|q
  ·exact h.oks y q
  ·subst q;exact⟨E.1,by show (x.r.next s).2.1.b.name.size<=_;rw[E.2.1];exact O⟩
 ·have e:(xs.set i ⟨x.k,(x.r.next s).2.1,D,C⟩).map (·.k)=xs.map (·.k):=by
   rw[Pv];apply List.ext_getElem?;intro j;rw[List.getElem?_set];split
   ·rename_i q;subst q;rw[Oi,t];simp[hi]
   ·rfl
  rw[e];exact h.list.mod g.mod λb a q=>by
   have c:=(h.cL b a).1;rcases q with q|q
   ·have:=(h.cF b q).1;omega
   ·have:=(h.cR i x t b (by subst q;exact .inl rfl)).1;omega
 ·rcases g.own b a with q|q
  ·rw[c1 b (h.pool.lt b q)];exact h.cF b q
  ·exact⟨(c2 b q).1 a,.inr (by have:=h.mod.size;omega)⟩
 ·by_cases q:j=i
  ·subst q;rw[Pj hi] at m;cases m;rcases g.own2 b a with q|q
   ·rw[c1 b (h.lt t b q)];exact h.cR j x t b q
   ·exact⟨(c2 b q).2.1 a,by have:=h.mod.size;omega⟩
  ·rw[Pd (PB q)] at m;rw[c1 b (h.lt m b a)];exact h.cR j y m b a
 ·rw[c1 b (h.list.lt b a)];exact h.cL b a
 ·refine h.mod.trans' g.mod λb a q=>?_;rcases q with q|q
  ·exact(h.cF b q).2.resolve_right (by omega)
  ·have:=(h.cR i x t b (by subst q;exact .inl rfl)).2;omega
end
open Go.MapKept Go.Sort
abbrev Qr:=Sl×List Int
def vK:eJ Qr:=⟨1,λx=>[x.1.v],λ_=>rfl,λx u hu=>by simp at hu;subst hu;rfl⟩
theorem tV:∀args w,(callFunc wR.no args).run N5 w=.ok (.enter wR.no args) w:=enters_of X3 (by kernel_rfl) rfl
theorem yI {a b:Sl}{c e:List Int}{H:aa}(f:Ints .u64 H a c)(g:Ints .u64 H b e)(hl:c.length<=16):
  Spec N5 wR.no #[a.v,b.v] H λv H'=>v=.int .i64 (aT c e)/\Mod (λ_=>False) H H':=by
 have:=jE (H:=H) (K:=λr H'=>r=aT c e/\Mod (λ_=>False) H H') f g (by omega) ⟨rfl,.refl _ _⟩;refine Spec.mono this λv H' ⟨x,h,i,j⟩=>?_;subst h;exact⟨by rw[i],j⟩
theorem yA {α:Type}{P:α->Prop}:∀{l:List α},(∀x∈l,P x)->∃m:List {x // P x},m.map (·.1)=l
 |[],_=>⟨[],rfl⟩
 |a::l,h=>by
   obtain⟨m,hm⟩:=yA (l:=l) λx b=>h x (Ou _ b);exact⟨⟨a,h a OA⟩::m,by rw[Ox,hm]⟩
section
variable {H:aa}{s:Sl}{qs:List Qr}
structure kY (H:aa)(s:Sl)(qs:List Qr):Prop where
 out:az vK ez H s qs
 own:∀q∈qs,aM H 0 gS 1 q.1 (q.2.map (On .u64))
 iD:∀q∈qs,q.2.length<=16
theorem kY.off (h:kY H s qs){q:Qr}(a:aM H 0 gS 1 q.1 (q.2.map (On .u64))):∀b,ag q.1 b->¬ag s b:=λb c=>a.apart h.out (by decide) b c
theorem oJ (qs:List Qr):vK.all qs=qs.map λq=>q.1.v:=by
 induction qs with
 |nil=>rfl
 |cons q qs a=>
   have:vK.all (q::qs)=q.1.v::vK.all qs:=rfl;rw[this,a];rfl
theorem zu:∀{rs:List Sl} {ls:List (List Int)},rs.length=ls.length->(rs.zip ls).map (·.1)=rs/\(rs.zip ls).map (·.2)=ls
 |[],[],_=>⟨rfl,rfl⟩
 |[],_::_,h=>by simp at h
 |_::_,[],h=>by simp at h
 |a::rs,b::ls,h=>by
   obtain⟨h1,c⟩:=zu (rs:=rs) (ls:=ls) (by simpa using h);simp only[List.zip_cons_cons,Ox,h1,c];exact⟨trivial,trivial⟩
theorem aO.qr {rs:List Sl}{ls:List (List Int)}(h:aO H 0 s rs ls)(f:∀l∈ls,l.length<=16):kY H s (rs.zip ls):=by
 obtain⟨e,z2⟩:=zu h.len;refine⟨?_,λq c=>?_,λq c=>?_⟩
 ·unfold az;rw[oJ];have:((rs.zip ls).map λq=>q.1.v)=rs.map Sl.v:=by
   conv=>rhs;rw[<-e]
   rw[Py];rfl
  rw[this];exact h.out
 ·obtain⟨i,hi⟩:=List.mem_iff_getElem?.1 c;have a:rs[i]?=some q.1:=by rw[<-e,Oi,hi];rfl
  have b:ls[i]?=some q.2:=by rw[<-z2,Oi,hi];rfl
  exact h.row i _ _ a b
 ·exact f _ (by rw[<-z2];exact List.mem_map.2 ⟨q,c,rfl⟩)
theorem yq {K:Unit->aa->Prop}(h:kY H s qs)(hl:qs.length<=1000000)
  (G:∀i H',i.Perm qs->i.map (·.2)=jN (qs.map (·.2))->kY H' s i->Mod (ag s) H H'->K () H'):MI.sp s (.func (.func wR.no) #[] #[]) H K:=by
 let P:Qr->Prop:=λq=>aM H 0 gS 1 q.1 (q.2.map (On .u64))/\q.2.length<=16
 obtain⟨I,j⟩:=yA (P:=P) (l:=qs) λq k=>⟨h.own q k,h.iD q k⟩
 haveI:Inhabited {q // P q}:=⟨⟨(Sl.mk none 0 0,[]),aM.nil _ _ _ _,Oz _⟩⟩
 let E:eJ {q // P q}:=⟨1,λa=>[a.1.1.v],λ_=>rfl,λx u hu=>by simp at hu;subst hu;rfl⟩
 have m:∀l:List {q // P q},E.all l=vK.all (l.map (·.1)):=by
  intro l
  induction l with
  |nil=>rfl
  |cons a l J=>
    have L:E.all (a::l)=a.1.1.v::E.all l:=rfl;have M:vK.all ((a::l).map (·.1))=a.1.1.v::vK.all (l.map (·.1)):=rfl;rw[L,M,J]
 have z:∀{A:aa} {l:List {q // P q}},az E ez A s l↔az vK ez A s (l.map (·.1)):=by
  intro A l;unfold az;rw[m];exact Iff.rfl
 let cf:{q // P q}->{q // P q}->Int:=λa b=>aT a.1.2 b.1.2
 have g:∀a b,ltOf cf a b=decide (aT a.1.2 b.1.2<0):=λa b=>rfl;have hO:SWO (ltOf cf):=by
  refine⟨λa=>by rw[g,iu];rfl,λa b c h1 B=>?_,λa b c h1 B=>?_⟩
  ·rw[g] at*;simp only[decide_eq_true_eq] at*;exact eW h1 B
  ·rw[g] at*;simp only[decide_eq_false_iff_not] at*;have s1:=bX a.1.2 b.1.2;have s2:=bX b.1.2 c.1.2;have Q:=bX a.1.2 c.1.2;have:=jr (a:=c.1.2) (b:=b.1.2) (c:=a.1.2) (by omega) (by omega);omega
 have o:I.length<4611686018427387904:=by
  have:=congrArg T0 j;rw[List.length_map] at this;omega
 have nO:∀a:{q // P q},∀b,ag a.1.1 b->¬ag s b:=λa=>h.off a.2.1;refine tK (ρ:=tg) (E:=E) (e:=λa=>a.1.1.v) Lm (λ_=>rfl) rfl hO tV (by rw[z,j];exact h.out) o (λA t a b=>?_) λC A N O D t=>?_
 ·have i1:Ints .u64 A a.1.1 a.1.2:=(a.2.1.mod t (nO a)).ints;have i2:Ints .u64 A b.1.1 b.1.2:=(b.2.1.mod t (nO b)).ints;exact yI i1 i2 a.2.2
 ·rw[z] at D;have f:(C.map (·.1)).Perm qs:=by rw[<-j];exact N.map _
  refine G (C.map (·.1)) A f ?_ ⟨D,λq k=>?_,λq k=>h.iD q (f.mem_iff.1 k)⟩ t
  ·refine yU ((f.map _).trans (pr _).symm) ?_ (BI _);rw[Py,List.pairwise_map];refine O.imp λ{a b} q=>?_;rw[g] at q;simp only[decide_eq_false_iff_not] at q;have:=bX a.1.2 b.1.2;show aT a.1.2 b.1.2<=0;omega
  ·exact(h.own q (f.mem_iff.1 k)).mod t (h.off (h.own q (f.mem_iff.1 k)))
def gN:List Qr->List Qr
 |[]=>[]
 |a::l=>a::DK (·.2) a l
theorem Ct (l:List Qr):(gN l).map (·.2)=eP (l.map (·.2)):=by
 cases l with
 |nil=>rfl
 |cons a l=>simp only[gN,eP,Ox];rw[vY]
theorem uW {l:List Qr}{q:Qr}(h:q∈gN l):q∈l:=by
 cases l with
 |nil=>exact h
 |cons a l=>
   rcases List.mem_cons.1 h with e|e
   ·rw[e];exact OA
   ·exact Ou _ (we _ l a q e)
def um:Qr->List Qr->Qr
 |a,[]=>a
 |_,c::l=>um c l
theorem ya (b:Qr):∀(l:List Qr) (a:Qr),DK (·.2) a (l++[b])=if b.2=(um a l).2 then DK (·.2) a l else DK (·.2) a l++[b]
 |[],a=>by
   by_cases e:b.2=a.2<;>simp[DK,um,e]
 |c::l,a=>by
   have f:=ya b l c;rw[List.cons_append];simp only[DK,um];rw[f];split<;>split<;>simp
theorem tj:∀(l:List Qr) (a:Qr) (j:Nat),j<=l.length->(a::l)[j]?=some (um a (l.take j))
 |l,a,0,_=>by simp[um]
 |[],a,j+1,h=>by simp at h
 |c::l,a,j+1,h=>by
   rw[List.getElem?_cons_succ,Rh];exact tj l c j (by simpa using h)
theorem sY {l:List Qr}{i:Nat}{p q:Qr}(k:0<i)(g:l[i]?=some q)(f:l[i - 1]?=some p):gN (l.take (i+1))=if q.2=p.2 then gN (l.take i) else gN (l.take i)++[q]:=by
 obtain⟨hi,b⟩:=N7.1 g;cases l with
 |nil=>simp at hi
 |cons a l=>
   obtain⟨j,rfl⟩:∃j,i=j+1:=⟨i - 1,by omega⟩;have h:j<l.length:=by simpa using hi
   rw[Rh,Rh];simp only[gN];have c:l[j]=q:=b;rw[Oc h,ya,c];have e:=tj l a j (by omega);rw[Nat.add_sub_cancel] at f;rw[f] at e;cases e;split<;>simp
theorem LG:(N5).underlying gh=some (.slice ez):=by obtain⟨inf,h,_⟩:=yF;exact h
theorem K2:∀w:World,(zeroValue ez).run N5 w=.ok (.slice none 0 0) w:=by
 obtain⟨inf,_,h1,a,_⟩:=yF;intro w;simp[zeroValue,typeInfo,h1,a]
theorem HJ {H:aa}{s:Sl}{ps:List Qr}{lo:Nat}{ty:TypeId}{K:Value->aa->Prop}(h:az vK ez H s ps)(u:lo<ps.length)
  (o:∀v H',az vK ez H' (Sl.mk s.a lo s.c) (ps.take lo)->Mod (ag s) H H'->K v H'):
  ba gi N5 (To #[gh] ty #[(.slice (cA s.a s.c lo 1) (s.n - lo) (s.c - lo))]) H K:=by
 intro w hw;subst hw;have z:=h.n (by decide);rcases h.2 with ⟨b,e2⟩|⟨g,cap,cur,b,L,f,B,C,D,m⟩
 ·omega
 ·cases s with
  |mk M q i=>
  simp only[Sl.v,Ov] at b;obtain⟨rfl,_,rfl⟩:=b;simp only at z B m o ⊢;have a:vK.size=1:=rfl;rw[a,O7] at D m;have E:cA (some ⟨g,0,none⟩) i lo 1=some ⟨g,lo,none⟩:=by
   unfold cA;rw[if_neg (by omega)];simp[bk]
  rw[E];have t:=Lib.run_clear_slice (P:=N5) w gh ez ty (.slice none 0 0) LG K2 rfl rfl g lo (q - lo) (i - lo) (by omega) (λj G=>by simp[World.cell?,f];omega) (λj G=>by simp[World.frozen?,f]);rw[oM (P:=N5) f (by simp;omega) (by intro v I;rw[List.eq_of_mem_replicate I];rfl)] at t;have c:∀k,ag (Sl.mk (some ⟨g,0,none⟩) q i) k↔k=g:=λk=>⟨λ⟨ad,h1,J⟩=>by cases h1;exact J.symm,λh=>⟨_,rfl,h.symm⟩⟩;refine⟨_,_,t,⟨_,rfl,o _ _ ?_ ⟨by simp[World.setRow],λk _ hk=>setRow_other w g k _ (λe=>hk ((c k).2 e))⟩⟩,⟨rfl,Ob _⟩⟩;refine⟨by rw[oJ];simp[a];omega,.inr ⟨g,i,_,rfl,Oz _,setRow_heap w g cur _ _ _ f,by simp only;omega,C,?_,?_⟩⟩
  ·simp only[a,O7,List.size_toArray,List.length_append,OW,List.length_replicate,Pr,Array.length_toList];omega
  ·simp only[a,O7];rw[List.append_assoc,List.take_append_of_le_length (by simp;omega),Rk,Nat.min_self];have b:vK.all (ps.take lo)=(vK.all ps).take lo:=by rw[oJ,oJ,List.map_take]
   rw[b,<-m,Rk,Nat.min_eq_left (by omega)]
theorem AV {a b:Sl}{c f:List Int}{H:aa}{K:Bool->aa->Prop}(g:Ints .u64 H a c)(h:Ints .u64 H b f)(hl:c.length<=16)(i:K (decide (c=f)) H):EV.sp a b H K:=by
 refine EV.of ?_;unfold EV.vc;refine jE g h (by omega) ?_;have:(aT c f==0)=decide (c=f):=by
  by_cases e:c=f
  ·rw[decide_eq_true e,b8.2 e];rfl
  ·rw[decide_eq_false e];have:aT c f≠0:=λq=>e (b8.1 q);simpa using this
 rw[this];exact i
theorem kY.get (h:kY H s qs){i:Nat}{q:Qr}(hi:qs[i]?=some q){K:Sl->Prop}(b:K q.1):ae s.a λa=>(0<=(i:Int)/\(i:Int)<(s.n:Int))/\Go.Proofs.YtmkbhnholcaghaaGreatDoor.ld ak H (a.add ((i:Int).toNat*1)) K:=
 bP.one (E:=vK) (c:=ak) h.out.rd (az.n h.out (by decide)) rfl hi rfl b
theorem kY.ints (h:kY H s qs){q:Qr}(a:q∈qs):Ints .u64 H q.1 q.2:=(h.own q a).ints
theorem kY.pR (h:kY H s qs){k j:Nat}{q:Qr}(hi:qs[k+j]?=some q){K:Sl->Prop}(b:K q.1):ae (cA s.a s.c k 1) λa=>(0<=(j:Int)/\(j:Int)<((s.n - k:Nat):Int))/\Go.Proofs.YtmkbhnholcaghaaGreatDoor.ld ak H (a.add ((j:Int).toNat*1)) K:=by
 have f:=az.n h.out (by decide);have g:=aM.cap h.out;have e:bP vK H (cA s.a s.c k vK.size) (qs.drop k):=h.out.rd.drop (by omega);exact bP.one (E:=vK) (c:=ak) (s:=⟨cA s.a s.c k 1,s.n - k,s.c - k⟩) e (by rw[Pr];show s.n - k=_;omega) rfl (by rw[List.getElem?_drop];exact hi) rfl b
set_option maxHeartbeats 1000000 in
theorem zV {K:Sl->aa->Prop}(h:kY H s qs)(hl:qs.length<=1000000)
  (hK:∀n H',n=(gN qs).length->kY H' ⟨s.a,n,s.c⟩ (gN qs)->Mod (ag s) H H'->K ⟨s.a,n,s.c⟩ H'):JK.sp s H K:=by
 refine JK.of ?_;unfold JK.vc;have hn:=az.n h.out (by decide);have a6:=aM.cap h.out;have whole:gN qs=qs->K s H:=λe=>by
  have hs:s=⟨s.a,s.n,s.c⟩:=by cases s;rfl
  rw[hs];exact hK s.n H (by rw[e];exact hn) (by rw[e,<-hs];exact h) (.refl _ _)
 refine ah (λc=>?_) (λc=>?_)
 ·have:qs.length<2:=by
   have:(s.n:Int)<2:=by simpa using c
   omega
  refine whole ?_
  match qs,this with
  |[],_=>rfl
  |[a],_=>rfl
 have h2:2<=qs.length:=by
  have:¬(s.n:Int)<2:=by simpa using c
  omega
 refine ar (qs.length - 1) (λk z A=>z=((k+1:Nat):Int)/\A=H/\gN (qs.take (k+1))=qs.take (k+1)) ⟨rfl,rfl,?_⟩ ?_
 ·match qs,h2 with
  |a::b::l,_=>rfl
 rintro k z A next hk ⟨rfl,rfl,U⟩ D
 refine ah (λc=>?_) (λc=>?_)
 ·have E:k+1<qs.length:=by
   have:((k+1:Nat):Int)<(s.n:Int):=by simpa using c
   omega
  obtain⟨q,N⟩:∃q,qs[k+1]?=some q:=⟨_,N8 E⟩;obtain⟨p,X⟩:∃p,qs[k]?=some p:=⟨_,N8 (by omega)⟩;have step:=sY (l:=qs) (i:=k+1) (Nat.succ_pos _) N X;have ek:N6.wrap (((k+1:Nat):Int) - 1)=(k:Int):=by rw[wrap64 (by omega) (by omega)];omega
  refine h.get N ?_;rw[ek];refine h.get X ?_;refine AV (h.ints (N9 N)) (h.ints (N9 X)) (h.iD q (N9 N)) ?_;refine ah (λc=>?_) (λc=>?_)
  ·have he:q.2=p.2:=of_decide_eq_true c;rw[if_pos he] at step;refine⟨⟨by omega,by omega⟩,?_⟩;simp only[Od,Nat.sub_zero,Ba]
   -- from here on rows are moved
   refine⟨Nat,λj z B=>z.2=(j:Int)/\1<=j/\k+1+j<=qs.length/\∃(w:Nat) (M:List Qr),z.1=(w:Int)/\w<=k+j/\M.length=qs.length/\M.take w=gN (qs.take (k+1+j))/\(∀i,k+j<=i->M[i]?=qs[i]?)/\kY B s M/\Mod (ag s) A B,λj=>qs.length - j,
    ⟨1,rfl,Ob _,by omega,k+1,qs,rfl,by omega,rfl,by rw[step];exact U.symm,λ_ _=>rfl,h,.refl _ _⟩,?_⟩
   rintro j ⟨w0,j0⟩ B ⟨hj,j1,j2,w,M,hw,a7,ml,mt,V,g,Y⟩;simp only at hj hw;subst hj;subst hw;simp only;refine ah (λc=>?_) (λc=>?_)
   ·have O:k+1+j<qs.length:=by
     have:(j:Int)<((s.n - (k+1):Nat):Int):=by simpa using c
     omega
    obtain⟨o,P⟩:∃q,qs[k+1+j]?=some q:=⟨_,N8 O⟩;obtain⟨p2,Q⟩:∃p,qs[k+1+j - 1]?=some p:=⟨_,N8 (by omega)⟩;have nk:=sY (l:=qs) (i:=k+1+j) (by omega) P Q;have G:M[k+1+j]?=some o:=by rw[V _ (by omega)];exact P
    have R:M[k+1+(j - 1)]?=some p2:=by
     rw[V _ (by omega),show k+1+(j - 1)=k+1+j - 1 by omega];exact Q
    have Z:=N9 G;have mp:=N9 R;have ej:N6.wrap ((j:Int) - 1)=((j - 1:Nat):Int):=by rw[wrap64 (by omega) (by omega)];omega
    refine g.pR G ?_;rw[ej];refine g.pR R ?_;rw[aD j (by omega)];refine AV (g.ints Z) (g.ints mp) (g.iD o Z) ?_;have e2:k+1+j+1=k+1+(j+1):=by omega
    refine ah (λc=>?_) (λc=>?_)
    ·have af:¬o.2=p2.2:=by simpa using c
     rw[if_neg af] at nk;refine g.pR G ?_;have hw:w<M.length:=by omega
     rw[aD w (by omega)];refine aM.st (i:=(w:Int)) (xs:=vK.all M) (v:=o.1.v) g.out (by omega) (by omega) rfl λC I S zC=>?_;have an:az vK ez C s (M.set w o):=by
      unfold az;rw[oJ] at I ⊢;rw[Od,<-Pv (f:=λq:Qr=>q.1.v)] at I;exact I
     have J:∀x∈M,aM C 0 gS 1 x.1 (x.2.map (On .u64)):=λx m=>(g.own x m).mod S (g.off (g.own x m));have t:∀x∈M.set w o,x∈M:=λx m=>by
      rcases PY m with u|u
      ·exact u
      ·subst u;exact Z
     refine⟨j+1,⟨rfl,by omega,by omega,w+1,M.set w o,rfl,by omega,by simp;exact ml,?_,λi hi=>?_,⟨an,λx m=>J x (t x m),λx m=>g.iD x (t x m)⟩,Y.trans S⟩,by omega⟩
     ·rw[<-e2,nk,<-mt,Oc (by simpa using hw),List.take_set_of_le (Ob _)];simp
     ·rw[Pd (by omega)];exact V i (by omega)
    ·have heq:o.2=p2.2:=by simpa using c
     rw[if_pos heq] at nk;exact⟨j+1,⟨rfl,by omega,by omega,w,M,rfl,by omega,ml,by rw[<-e2,nk];exact mt,λi hi=>V i (by omega),g,Y⟩,by omega⟩
   ·have L:k+1+j=qs.length:=by
     have:¬(j:Int)<((s.n - (k+1):Nat):Int):=by simpa using c
     omega
    rw[L,Rw] at mt;refine⟨⟨by omega,by omega⟩,?_⟩;have a1:w=(gN qs).length:=by rw[<-mt,OW];omega
    refine HJ g.out (by omega) λv C I S=>⟨⟨by omega,by omega⟩,?_⟩;rw[Od] at I ⊢;rw[mt] at I;refine hK w C a1 ⟨I,λx m=>?_,λx m=>h.iD x (uW m)⟩ (Y.trans S);have T:x∈M:=List.mem_of_mem_take (by rw[mt];exact m);exact(g.own x T).mod S (g.off (g.own x T))
  ·have he:¬q.2=p.2:=of_decide_eq_false c;rw[if_neg he,U] at step;rw[aD (k+1) (by omega)];refine D (by omega) _ A ⟨rfl,rfl,?_⟩;rw[step,Oc E];congr 2;rw[N8 E] at N;exact(OE N).symm
 ·have L:k+1=qs.length:=by
   have:¬((k+1:Nat):Int)<(s.n:Int):=by simpa using c
   omega
  rw[L,Rw] at U;exact whole U
end
end Go.Proofs.YtmkbhnholcaghaaGreatDoor
namespace Go.Proofs.YtmkbhnholcaghaaGreatDoor
open Go.MapKept
theorem ER {names:Sl}{ns:List ByteArray}{W:Int}{H:aa}{F:Nat->Prop}{p dp:Nat}{s:Pl}{x y:Nat}{K:(Sl×Int)->aa->Prop}(Z:Gl H)(V:au F H p dp s)(hn:names.n=ns.length)(N:∀A,Mod F H A->bP kS A names.a ns)(v:∀n∈ns,n.size<=9223372036854775807)(b:Bd s x y)(hl:ns.length<=1000000)(e:x<900000000000)(hy:y<60000000000)
  (D:(aV W ns s).2.2≠0->∀F' A,au F' A p dp (aV W ns s).1->Step F F' H A->K (bf,(aV W ns s).2.2) A)
  (O:(aV W ns s).2.2=0->∀F' A col xs l,dZ H F col p dp F' A (aV W ns s).1 xs l->xs.map (·.r)=(aV W ns s).2.1->xs.length=ns.length->K (l,0) A):Kf.sp (aE p) names W H K:=by
 refine Kf.of ?_;unfold Kf.vc;have P:=V.eM;refine ar ns.length (λi z A=>z.2=(i:Int)/\∃F' s' col xs,dZ H F col p dp F' A s' xs z.1/\xs.length=i/\Bd s' (x+i) (y+i)/\
  aV W ns s=((aV W (ns.drop i) s').1,xs.map (·.r)++(aV W (ns.drop i) s').2.1,(aV W (ns.drop i) s').2.2)) ?_ ?_
 ·refine⟨rfl,F,s,λ_=>0,[],⟨V,λi x e=>by simp at e,λx e=>(by cases e),az.nil _ _ _,λb f=>⟨rfl,.inl f⟩,λi x e=>by simp at e,λb f=>absurd f (aS b),.refl _ _⟩,rfl,b,?_⟩;simp
 rintro i ⟨l,j⟩ A next hi ⟨J,F',s',col,xs,h,G,L,he⟩ m
 simp only at J;subst J;simp only;refine ah (λQ=>?_) (λQ=>?_)
 ·have g:i<ns.length:=by
   have:(i:Int)<(names.n:Int):=by simpa using Q
   omega
  rw[List.drop_eq_getElem_cons g] at he;have R:ns[i]?=some ns[i]:=N8 g;refine bP.one (E:=kS) (c:=aK) (N A h.mod) hn rfl R rfl ?_;have S:=h.gl Z P;have q1:=L.lo;have q2:=L.hi;have q3:=L.aB;have T:=L.open (n:=ns[i]) (W:=W) (by omega);simp only[aV] at he;refine sV S h.pool (v _ (OP g)) (by omega) (by omega) q1 (λM B p1 I o=>?_) (λM B k r p1 I o X Y k2=>?_)
  ·have t:=oT.1 o;rw[o] at he;simp only[Qs] at he;refine aP (by simpa using t) ?_;rw[he] at D;exact D t M B p1 (h.step.trans I)
  ·have t:(rnOpen s' ns[i] W).2.2=0:=oT.2 (by rw[o];simp);rw[o] at he;simp only at he;rw[t];refine aC rfl ?_;obtain⟨ok,rb,_⟩:=mr o;have z1:=I.mod.size;obtain⟨col',c1,c2⟩:=ie col A.size M (λb=>b=k) (λb=>B.size<=b) 0 (5+i) 4 (λb q r=>k2 (r▸q)) (λb q r=>by have:=p1.lt b q;omega) (λb q r=>by have:=X.lt b (.inl q);omega);have h1:=h.rY (col':=col') p1 I.mod (λb f q=>by rw[(h.cF b q).1];decide) (λb f q=>(h.cF b q).2.resolve_right (by omega)) (λb q=>by
    rcases I.own b q with u|u
    ·rw[c1 b (h.pool.lt b u)];exact h.cF b u
    ·exact⟨(c2 b u).1 q,.inr (by have:=h.mod.size;omega)⟩) λb f _=>c1 b f
   refine az.push (E:=dL) (x:=k) Mi h1.list rfl (by simp;omega) (by simp;omega) λl' C o3 g3 _=>?_;rw[aD i (by omega)];have off:∀b,ag l b->col' b=4:=λb f=>(h1.cL b f).1;have kr:zl C k p r bf []:=X.mod g3.1 λb f q=>by
    have hk:b=k:=by
     rcases f with u|u|⟨z,u,_⟩
     ·exact u
     ·exact absurd u (aS b)
     ·cases u
    have a:=h1.list.lt b q;have b4:=off b q;subst hk;have:=(c2 b Y).2.1 rfl;omega
   have hz:=h1.mod.size;refine m g (l',((i+1:Nat):Int)) C ⟨rfl,M,(rnOpen s' ns[i] W).1,col',xs++[⟨k,r,bf,[]⟩],⟨?_,λj x e=>?_,λx e=>?_,?_,λb f=>h1.cF b f,λj x e b f=>?_,λb f=>?_,?_⟩,?_,?_,?_⟩
   ·exact h1.pool.keep λb f g=>g3.1.same b g λq=>by have:=(h1.cF b f).1;have:=off b q;omega
   ·rw[QO] at e;split at e
    ·exact(h1.rds j x e).mod g3.1 λb f q=>by have:=(h1.cR j x e b f).1;have:=off b q;omega
    ·rename_i q;have:j - xs.length=0:=by have:=(N7.1 e).1;simp at this;omega
     rw[this] at e;simp at e;subst e;exact kr
   ·rcases Oe.1 e with q|q
    ·exact h1.oks x q
    ·rw[Ow] at q;subst q;exact⟨ok,by show r.b.name.size<=_;rw[rb];exact v _ (OP g)⟩
   ·rw[OO];exact o3
   ·rw[QO] at e;split at e
    ·exact h1.cR j x e b f
    ·rename_i q;have J:j - xs.length=0:=by have:=(N7.1 e).1;simp at this;omega
     rw[J] at e;simp at e;subst e;have hk:b=k:=by
      rcases f with u|u|⟨z,u,_⟩
      ·exact u
      ·exact absurd u (aS b)
      ·cases u
     subst hk;have:=(c2 b Y).2.1 rfl;refine⟨by omega,by have:=h.mod.size;omega⟩
   ·rcases g3.2 b f with q|q
    ·exact h1.cL b q
    ·exact⟨(c2 b (by omega)).2.2 q,by omega⟩
   ·exact h1.mod.trans' g3.1 λb f q=>by have:=(h1.cL b q).2;omega
   ·simp;exact G
   ·exact T.mono (by omega) (by omega)
   ·rw[he,OO];simp
 ·have U:i=ns.length:=by
   have:¬(i:Int)<(names.n:Int):=by simpa using Q
   omega
  subst U;rw[List.drop_length] at he;simp only[aV,Qs] at he;have t:(aV W ns s).2.2=0:=by rw[he]
  refine O t F' A col xs l (by rw[he];exact h) (by rw[he]) G
structure cu (L:List Hx)(hs:List (Option (List Int))):Prop where
 nodup:(L.map (·.no)).Nodup
 mem:∀(i:Nat) (y:List Int),hs[i]?=some (some y)↔∃x∈L,x.no=i/\x.row=y
structure qS (H0:aa)(F0:Nat->Prop)(col:Nat->Nat)(p dp:Nat)(F:Nat->Prop)(A:aa)(s:Pl)(xs:List ng)(l:Sl)(kw:Nat)(w:RW)(sw sl:Sl)(kh:Nat)(hs:Sl)(L:List Hx):Prop where
 rds:dZ H0 F0 col p dp F A s xs l
 wr:pf A kw p w sw sl
 heap:nN A kh hs L
 cW:∀b,dt kw sw sl b->col b=2/\(F0 b\/H0.size<=b)
 cH:∀b,(b=kh\/ag hs b)->col b=1/\H0.size<=b
 cX:∀x∈L,∀b,ag x.sl b->col b=3
 ptr:∀x∈L,∃y,xs[x.no]?=some y/\x.ptr=aE y.k
 ord:Hp ahead L
section
variable {H0 A:aa}{F0 F:Nat->Prop}{col:Nat->Nat}{p dp:Nat}{s:Pl}{xs:List ng}{l:Sl}{kw:Nat}{w:RW}{sw sl:Sl}{kh:Nat}{hs:Sl}{L:List Hx}
theorem nN.lt (h:nN A kh hs L):∀b,(b=kh\/ag hs b)->b<A.size:=by
 rintro b (q|q)
 ·subst q;exact aA h.row
 ·exact h.els.lt b q
theorem qS.EM {G:Nat->Prop}{B:aa}(h:qS H0 F0 col p dp F A s xs l kw w sw sl kh hs L)(m:Mod G A B)(c:∀b,b<A.size->G b->col b≠2):pf B kw p w sw sl:=
 h.wr.mod m λb a q=>c b (h.wr.lt b a) q (h.cW b a).1
theorem qS.E8 {G:Nat->Prop}{B:aa}(h:qS H0 F0 col p dp F A s xs l kw w sw sl kh hs L)(m:Mod G A B)(c:∀b,b<A.size->G b->col b≠1/\col b≠3):nN B kh hs L:=
 h.heap.mod m (λq=>(c kh (aA h.heap.row) q).1 (h.cH kh (.inl rfl)).1) (λb a q=>(c b (h.heap.els.lt b a) q).1 (h.cH b (.inr a)).1) λx e b a q=>(c b ((h.heap.own x e).lt b a) q).2 (h.cX x e b a)
theorem qS.ext {B:aa}(h:qS H0 F0 col p dp F A s xs l kw w sw sl kh hs L)(e:Ext A B):qS H0 F0 col p dp F B s xs l kw w sw sl kh hs L:=
 ⟨h.rds.ext e,h.EM e λ_ _ q=>q.elim,h.E8 e λ_ _ q=>q.elim,h.cW,h.cH,h.cX,h.ptr,h.ord⟩
theorem qS.EF {B:aa}{hs':Sl}{f:List Hx}(h:qS H0 F0 col p dp F A s xs l kw w sw sl kh hs L)(g:nN B kh hs' f)(i:Hp ahead f)(m:Mod (λb=>b=kh\/ag hs b) A B)(j:∀b,ag hs' b->ag hs b\/A.size<=b)
  (k:∀x∈f,∀b,ag x.sl b->b<A.size/\col b=3) (o:∀x∈f,∃y,xs[x.no]?=some y/\x.ptr=aE y.k):∃col',(∀b,b<A.size->col' b=col b)/\qS H0 F0 col' p dp F B s xs l kw w sw sl kh hs' f:=by
 obtain⟨col',c1,c2⟩:=ie col A.size (λ_=>False) (λ_=>False) (λ_=>True) 1 1 1 (λ_ q=>q.elim) (λ_ q=>q.elim) λ_ q=>q.elim;have z:=h.rds.mod.size;refine⟨col',c1,h.rds.rY (h.rds.pool.keep λb e hl=>m.same b hl λq=>?_) m (λb e q=>by rw[(h.cH b q).1];decide) (λb e q=>by have:=(h.cH b q).2;omega) (λb q=>by rw[c1 b (h.rds.pool.lt b q)];exact h.rds.cF b q) (λb e _=>c1 b e),
  h.EM m λb e q=>by rw[(h.cH b q).1];decide,g,λb e=>?_,λb e=>?_,λx t b e=>?_,o,i⟩
 ·have a:=(h.rds.cF b e).1;have c:=(h.cH b q).1;omega
 ·rw[c1 b (h.wr.lt b e)];exact h.cW b e
 ·rcases e with q|q
  ·rw[c1 b (h.heap.lt b (.inl q))];exact h.cH b (.inl q)
  ·rcases j b q with u|u
   ·rw[c1 b (h.heap.els.lt b u)];exact h.cH b (.inr u)
   ·exact⟨(c2 b u).2.2 trivial,by omega⟩
 ·obtain⟨v,C⟩:=k x t b e;rw[c1 b v];exact C
theorem xr {K:Int->aa->Prop}{i:Nat}{y:ng}{I:Sl}{u v:Nat}(h:qS H0 F0 col p dp F A s xs l kw w sw sl kh hs L)(hg:Gl H0)(h0:¬F0 bh)(E:xs[i]?=some y)(b:Bd s u v)(hu:u<1000000000000)(hv:v<68719470000)(hl:L.length<=1000000)
  (S:∀F' B col' j hs' o,qS H0 F0 col' p dp F' B (y.r.next s).1 (xs.set i j) l kw w sw sl kh hs' o->j.r=(y.r.next s).2.1->
   ((y.r.next s).2.2.2.1=true->∃row ptr,o.Perm (L++[⟨i,row,ptr,(y.r.next s).2.2.1⟩]))->((y.r.next s).2.2.2.1=false->o=L)->(∀b,b<A.size->col' b=col b)->A.size<=B.size->(∀b,b<A.size->col b=3->B[b]?=A[b]?)->K (y.r.next s).2.2.2.2 B):GY.sp (aE kh) (i:Int) I (aE y.k) A K:=by
 refine GY.of ?_;unfold GY.vc;refine ax λA1 z1 T U=>?_;have h1:=h.ext U;refine aj.ld (c:=av) (i:=2) (x:=aE y.k) T rfl ?_;have k:=RR.fX (h1.rds.oks y (N9 E)).1 s;refine h1.rds.next hg h0 E b hu hv λF' B col' j row q1 V X Y q4 G J=>?_;have t:∀b,F b\/b=y.k->col b=0\/col b=5+i:=λb q=>by
  rcases q with q|q
  ·exact .inl (h1.rds.cF b q).1
  ·exact .inr (h1.rds.cR i y E b (by subst q;exact .inl rfl)).1
 have hi:=(N7.1 E).1;have z:=J.size;have D:qS H0 F0 col' p dp F' B (y.r.next s).1 (xs.set i j) l kw w sw sl kh hs L:=by
  refine⟨q1,h1.EM J λb _ q=>by have:=t b q;omega,h1.E8 J λb _ q=>by have:=t b q;omega,λb f=>?_,λb f=>?_,λx m b f=>?_,λx m=>?_,h.ord⟩
  ·rw[G b (h1.wr.lt b f)];exact h.cW b f
  ·rw[G b (h1.heap.lt b f)];exact h.cH b f
  ·rw[G b ((h1.heap.own x m).lt b f)];exact h.cX x m b f
  ·obtain⟨a,O,a2⟩:=h.ptr x m;by_cases e:x.no=i
   ·rw[e] at O ⊢;rw[E] at O;cases O;exact⟨j,Pj hi,by rw[V];exact a2⟩
   ·exact⟨a,by rw[Pd (PB e)];exact O,a2⟩
 have vR:∀b,b<A.size->col b=3->B[b]?=A[b]?:=λb f Z=>(J.same b (by omega) λq=>by have:=t b q;omega).trans (U.same b f id);generalize (y.r.next s).2.2.2.2=e at*;by_cases g:(y.r.next s).2.2.2.1=true
 ·obtain⟨_,_,he,hlen⟩:=k.2.2.2.1 g;subst he;refine aP (by rw[g];rfl) ?_;have r2:aj B A.size jU #[.int .i64 (i:Int),I.v,.pointer (aE y.k)]:=T.mod J λq=>by
   have af:A.size<A1.size:=by omega
   rcases q with q|q
   ·have:=h.rds.pool.lt _ q;omega
   ·have:=h.rds.lt E y.k (.inl rfl);omega
  refine aj.ld (c:=ab .i64) (i:=0) (x:=(i:Int)) r2 rfl ?_;refine aj.ld (c:=av) (i:=2) (x:=aE y.k) r2 rfl ?_;refine Ge (x:=⟨i,row,aE y.k,(y.r.next s).2.2.1⟩) D.heap h.ord Y hlen hl λhs' o C hC hO P Q oC=>?_;have hX:∀x∈o,∀b,ag x.sl b->b<B.size/\col' b=3:=λx m b f=>by
   rcases Oe.1 (P.mem_iff.1 m) with q|q
   ·exact⟨(D.heap.own x q).lt b f,D.cX x q b f⟩
   ·rw[Ow] at q;subst q;exact⟨Y.lt b f,(q4 b f).2⟩
  have R:∀x∈o,∃a,(xs.set i j)[x.no]?=some a/\x.ptr=aE a.k:=λx m=>by
   rcases Oe.1 (P.mem_iff.1 m) with q|q
   ·exact D.ptr x q
   ·rw[Ow] at q;subst q;exact⟨j,Pj hi,by rw[V]⟩
  obtain⟨M,c1,h3⟩:=D.EF hC hO Q oC hX R;refine S F' C M j hs' o h3 X (λ_=>⟨row,aE y.k,P⟩) (λq=>by rw[g] at q;cases q) (λb f=>(c1 b (by omega)).trans (G b (by omega))) (by have:=Q.size;omega) λb f Z=>?_;refine(Q.same b (by omega) λq=>?_).trans (vR b f Z);have:=(D.cH b q).1;rw[G b (by omega)] at this;omega
 ·have N:(y.r.next s).2.2.2.1=false:=by simpa using g
  refine aC (by rw[N];simp) ?_;exact S F' B col' j hs L D X (λq=>absurd q g) (λ_=>rfl) (λb f=>G b (by omega)) (by omega) vR
end
end Go.Proofs.YtmkbhnholcaghaaGreatDoor
