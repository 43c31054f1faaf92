/-
 The document's disk: files made, taken away, named anew, told.
-/
import Derived.Test.YtmkbhnholcaghaaGreatDoorDrb
open Go.IntKind renaming i64->Ol
open List renaming getElem?_eq_some_iff->Om,mem_of_getElem?->Oo,getElem?_set->O6
namespace Go.Proofs.YtmkbhnholcaghaaGreatDoor
open Go.MapKept
theorem qh (a:Option Addr)(c n:Nat):cE a c 0 n=a:=by
 unfold cE;split
 ·rfl
 ·cases a<;>simp[add_zero']
theorem rN:∀(fs:List Fl) (gs:List (Sl×Sl)) (f:Fl) (g:Sl×Sl),gs.length=fs.length->qx (fs++[f]) (gs++[g])=qx fs gs++[(f.name,g.1,g.2)]
 |[],[],f,g,_=>rfl
 |[],_::_,_,_,h=>by simp at h
 |_::_,[],_,_,h=>by simp at h
 |a::fs,b::gs,f,g,h=>by simp[qx,rN fs gs f g (by simpa using h)]
theorem uV:∀(fs:List Fl) (gs:List (Sl×Sl)) (i:Nat),gs.length=fs.length->qx (fs.eraseIdx i) (gs.eraseIdx i)=(qx fs gs).eraseIdx i
 |[],[],_,_=>rfl
 |[],_::_,_,h=>by simp at h
 |_::_,[],_,h=>by simp at h
 |a::fs,b::gs,0,_=>rfl
 |a::fs,b::gs,i+1,h=>by simp[qx,uV fs gs i (by simpa using h)]
theorem Bs:∀(fs:List Fl) (gs:List (Sl×Sl)) (i:Nat) (f:Fl) (g:Sl×Sl),gs.length=fs.length->qx (fs.set i f) (gs.set i g)=(qx fs gs).set i (f.name,g.1,g.2)
 |[],[],_,_,_,_=>rfl
 |[],_::_,_,_,_,h=>by simp at h
 |_::_,[],_,_,_,h=>by simp at h
 |a::fs,b::gs,0,_,_,_=>rfl
 |a::fs,b::gs,i+1,f,g,h=>by simp[qx,Bs fs gs i f g (by simpa using h)]
theorem aK.push {H H':aa}{fl fl':Sl}{gs:List (Sl×Sl)}{fs:List Fl}(h:aK H fl gs fs){f:Fl}{g:Sl×Sl}(n:az pT uo H' fl' (qx fs gs++[(f.name,g.1,g.2)]))
  (hs:az js dy H' g.1 f.synced) (hl:az yM y6 H' g.2 f.log) (hk:∀b,(∃s∈gs,ah s.1 b\/ah s.2 b)->b<H.size->H'[b]?=H[b]?) (k:∀b,ah g.2 b->H.size<=b):aK H' fl' (gs++[g]) (fs++[f]):=by
 have hlen:=h.len;have ex:∀{α:Type} (l:List α) (a:α) (i:Nat) (x:α),(l++[a])[i]?=some x->(l[i]?=some x/\i<l.length)\/(i=l.length/\x=a):=by
  intro α l a i x m;by_cases hi:i<l.length
  ·rw[List.getElem?_append_left hi] at m;exact .inl ⟨m,hi⟩
  ·rw[List.getElem?_append_right (by omega)] at m;have:i=l.length:=by
    have:=(Om.1 m).1;simp at this;omega
   subst this;simp at m;exact .inr ⟨rfl,m.symm⟩
 refine⟨by rw[rN _ _ _ _ hlen];exact n,by simp[hlen],?_,?_⟩
 ·intro i f' g' h1 p;rcases ex fs f i f' h1 with ⟨o,t⟩|⟨u,rfl⟩<;>rcases ex gs g i g' p with ⟨e,v⟩|⟨e2,rfl⟩
  ·exact⟨(h.ent i f' g' o e).1.keep λb k=>hk b ⟨g',Oo e,.inl k⟩,(h.ent i f' g' o e).2.keep λb k=>hk b ⟨g',Oo e,.inr k⟩⟩
  ·omega
  ·omega
  ·exact⟨hs,hl⟩
 ·intro i j g1 g2 h1 p r b c d;rcases ex gs g i g1 h1 with ⟨o,t⟩|⟨u,w⟩<;>rcases ex gs g j g2 p with ⟨e,v⟩|⟨e2,y⟩
  ·exact h.apart i j g1 g2 o e r b c d
  ·obtain⟨_,_,_,q⟩:=h.yd o;rw[y] at d;have:=q.lt b c;have:=k b d;omega
  ·obtain⟨_,_,_,q⟩:=h.yd e;rw[w] at c;have:=q.lt b d;have:=k b c;omega
  ·omega
theorem aK.erase {H H':aa}{fl fl':Sl}{gs:List (Sl×Sl)}{fs:List Fl}(h:aK H fl gs fs){i:Nat}(d:az pT uo H' fl' ((qx fs gs).eraseIdx i))
  (hk:∀b,(∃m∈gs,ah m.1 b\/ah m.2 b)->b<H.size->H'[b]?=H[b]?):aK H' fl' (gs.eraseIdx i) (fs.eraseIdx i):=by
 have back:∀{α:Type} (l:List α) (j:Nat) (a:α),(l.eraseIdx i)[j]?=some a->l[if j<i then j else j+1]?=some a:=by
  intro α l j a e;rw[List.getElem?_eraseIdx] at e;split at e
  ·rename_i q;rw[if_pos q];exact e
  ·rename_i q;rw[if_neg q];exact e
 refine⟨by rw[uV _ _ _ h.len];exact d,?_,?_,?_⟩
 ·have:=h.len;simp only[List.length_eraseIdx,this]
 ·intro j f' g' h1 g;have n:=back fs j f' h1;have f:=back gs j g' g;exact⟨(h.ent _ f' g' n f).1.keep λb k=>hk b ⟨g',Oo f,.inl k⟩,(h.ent _ f' g' n f).2.keep λb k=>hk b ⟨g',Oo f,.inr k⟩⟩
 ·intro a c o gc h1 g p;refine h.apart _ _ o gc (back gs a o h1) (back gs c gc g) ?_;split<;>split<;>omega
theorem aK.set {H H':aa}{fl:Sl}{gs:List (Sl×Sl)}{fs:List Fl}(h:aK H fl gs fs){i:Nat}{f f':Fl}{g g':Sl×Sl}(z:fs[i]?=some f)(v:gs[i]?=some g)(s:az pT uo H' fl ((qx fs gs).set i (f'.name,g'.1,g'.2)))
  (hs:az js dy H' g'.1 f'.synced) (hl:az yM y6 H' g'.2 f'.log) (hk:∀(j:Nat) (n:Sl×Sl),j≠i->gs[j]?=some n->∀b,(ah n.1 b\/ah n.2 b)->b<H.size->H'[b]?=H[b]?) (p:∀b,ah g'.2 b->ah g.2 b\/H.size<=b):
  aK H' fl (gs.set i g') (fs.set i f'):=by
 have w:=(Om.1 z).1;have o:=(Om.1 v).1;refine⟨by rw[Bs _ _ _ _ _ h.len];exact s,by simp[h.len],?_,?_⟩
 ·intro j x n h1 d;rw[O6] at h1 d;by_cases e:i=j
  ·subst e;rw[if_pos rfl,if_pos w] at h1;rw[if_pos rfl,if_pos o] at d;cases h1;cases d;exact⟨hs,hl⟩
  ·rw[if_neg e] at h1 d;exact⟨(h.ent j x n h1 d).1.keep λb p=>hk j n (Ne.symm e) d b (.inl p),(h.ent j x n h1 d).2.keep λb p=>hk j n (Ne.symm e) d b (.inr p)⟩
 ·intro a c y gc h1 d k b l m;rw[O6] at h1 d;by_cases t:i=a
  ·subst t;rw[if_neg k] at d;rw[if_pos rfl,if_pos o] at h1;cases h1;obtain⟨_,_,_,q⟩:=h.yd d;have:=q.lt b m;rcases p b l with r|r
   ·exact h.apart i c g gc v d k b r m
   ·omega
  ·rw[if_neg t] at h1;obtain⟨_,_,_,q⟩:=h.yd h1;have:=q.lt b l;by_cases u:i=c
   ·subst u;rw[if_pos rfl,if_pos o] at d;cases d;rcases p b m with r|r
    ·exact h.apart a i y g h1 v k b l r
    ·omega
   ·rw[if_neg u] at d;exact h.apart a c y gc h1 d k b l m
theorem BH {fl:Sl}{gs:List (Sl×Sl)}{i:Nat}{g g':Sl×Sl}{H:aa}(c:gs[i]?=some g)(h1:∀b,ah g'.1 b->ah g.1 b\/H.size<=b)(d:∀b,ah g'.2 b->ah g.2 b\/H.size<=b):∀b,Bm fl (gs.set i g') b->Bm fl gs b\/H.size<=b:=by
 rintro b (q|⟨e,a,q⟩)
 ·exact .inl (.inl q)
 ·rcases List.mem_or_eq_of_mem_set a with r|r
  ·exact .inl (.inr ⟨e,r,q⟩)
  ·subst r;rcases q with q|q
   ·exact(h1 b q).imp (λz=>.inr ⟨g,Oo c,.inl z⟩) id
   ·exact(d b q).imp (λz=>.inr ⟨g,Oo c,.inr z⟩) id
theorem lP {s:Dk}{n:ByteArray}:decide (lH s n<0)=(s.idx n).isNone:=by
 unfold lH;cases s.idx n with
 |none=>rfl
 |some i=>simp
theorem Ay {F:Nat->Prop}{d:Nat}{s:Dk}{H:aa}{n:ByteArray}{K:Int->aa->Prop}(h:cq F H d s)
  (p:∀F' H',cq F' H' d (s.create n).1->Step F F' H H'->K (s.create n).2 H'):JG.sp (aE d) n H K:=by
 have S:=h;obtain⟨fl,gs,cin,kp,g,y⟩:=h;refine JG.of ?_;unfold JG.vc;simp only[al];have stay:∀e:Int,s.create n=(s,e)->K e H:=by
  intro e he;have:=p F H (by rw[he];exact S) (.refl _ _);rw[he] at this;exact this
 have L:=g.wf.files;refine g.head.ld (c:=ay) (i:=8) (x:=s.down) rfl ?_;cases hd:s.down with
 |true=>exact stay 4 (by unfold Dk.create;rw[hd];rfl)
 |false=>
   refine aC rfl ?_;refine CW ?_;refine ag (λu=>stay 2 ?_) (λu=>?_)
   ·unfold Dk.create;rw[hd];simp at u;simp[u]
   simp at u;refine kK g.head rfl g.files L ?_;refine ag (λhi=>stay 10 ?_) (λhi=>?_)
   ·have:(s.idx n).isSome:=by
     unfold lH at hi;cases M:s.idx n with
     |none=>rw[M] at hi;simp at hi
     |some i=>rfl
    unfold Dk.create;rw[hd];simp[u,this]
   have v:s.idx n=none:=by
    unfold lH at hi;cases M:s.idx n with
    |none=>rfl
    |some i=>rw[M] at hi;simp at hi
   refine g.head.ld (c:=ak) (i:=0) (x:=fl) rfl ?_;have T:=g.files.n;refine ag (λhl=>stay 3 ?_) (λhl=>?_)
   ·unfold Dk.create;rw[hd];simp at hl;simp[u,v,show s.files.length=4096 by omega]
   have A:s.files.length≠4096:=by simp at hl;omega
   have N:s.create n=s.step λt=>{t with files:=t.files++[⟨n,[],[]⟩]}:=by unfold Dk.create;rw[hd];simp[u,v,A]
   rw[N] at p;unfold Dk.step at p;refine kO g λB U g3 m3 Y=>?_;have m:=s.bm;refine ag (λO=>?_) (λO=>?_)
   ·have o:s.change.2=0:=by simpa using O
    rw[if_pos o] at p;rw[o];refine g3.head.ld (c:=ak) (i:=0) (x:=fl) rfl ?_;have j:=fg s.change.1.files gs g3.files.len;refine az.push (E:=pT) I5 (x:=(n,Sl.mk none 0 0,Sl.mk none 0 0)) g3.files.arr rfl (by rw[j,m];omega) (by rw[j,m];omega) λP Z R g5 _=>?_;have off:=iq.off g3.head g3.files;have d5:=g3.head.mod g5.1 (λa=>off (.inl a));refine d5.st (i:=0) (by simp[de]) (by rfl) λQ V m6 s6=>?_;have C:∀b,ah P b->b≠d:=λb a e=>by
     obtain⟨c,q⟩:=R.obj b a;rw[e] at q;exact absurd (aG d5 q) (by decide)
    have k:∀b,(∃w∈gs,ah w.1 b\/ah w.2 b)->¬ah fl b:=by
     rintro b ⟨w,l,a⟩ D;obtain⟨i,hi⟩:=List.mem_iff_getElem?.1 l;obtain⟨_,_,G,I⟩:=g3.files.yd hi;rcases a with a|a
     ·exact(G.apart g3.files.arr (by decide)) b a D
     ·exact(I.apart g3.files.arr (by decide)) b a D
    have W:=g3.files.push (H':=Q) (fl':=P) (f:=⟨n,[],[]⟩) (g:=(Sl.mk none 0 0,Sl.mk none 0 0)) (R.keep λb a hl=>m6.same b hl (C b a)) (az.nil _ _ _) (az.nil _ _ _) (λb a hl=>(m6.same b (by have:=g5.1.size;omega) (λe=>off (.inr (by
      obtain⟨w,l,q⟩:=a;exact⟨w,l,by rw[<-e];exact q⟩)))).trans (g5.1.same b hl (k b a))) (by rintro b ⟨ad,q,_⟩;cases q)
    have J:s.change.1.idx n=none:=by unfold Dk.idx;rw[m];exact v
    have X:iq P (gs++[(Sl.mk none 0 0,Sl.mk none 0 0)]) B kp Q d {s.change.1 with files:=s.change.1.files++[⟨n,[],[]⟩]}:=
     ⟨V,g3.crash,W,g3.wf.push J (by rw[m];exact A)⟩
    obtain⟨F',G,I⟩:=X.out (fl:=fl) (gs:=gs) (F:=F) (H:=H) y (((m3.mono λb _ e=>(y b).2 (.inl e)).trans (g5.1.mono λb _ e=>(y b).2 (.inr (.inl e)))).trans (m6.mono λb _ e=>(y b).2 (.inl e))) (by
     rintro b (q|⟨w,l,q⟩)
     ·exact(g5.2 b q).imp (λz=>.inl z) (λz=>by omega)
     ·rcases List.mem_append.1 l with r|r
      ·exact .inl (.inr ⟨w,r,q⟩)
      ·simp at r;subst r;rcases q with ⟨ad,q,_⟩|⟨ad,q,_⟩<;>cases q)
    exact p F' Q G I
   ·have o:s.change.2≠0:=by simpa using O
    rw[if_neg o] at p;obtain⟨F',G,I⟩:=g3.out (fl:=fl) (gs:=gs) (F:=F) (H:=H) y (m3.mono λb _ e=>(y b).2 (.inl e)) (λb q=>.inl q);exact p F' U G I
theorem Eg {fl:Sl}{gs:List (Sl×Sl)}{cin kp:Int}{d:Nat}{s:Dk}{H:aa}{i:Nat}{K:Unit->aa->Prop}(h:iq fl gs cin kp H d s)(hi:i<s.files.length)
  (r:∀fl' H',iq fl' (gs.eraseIdx i) cin kp H' d {s with files:=s.files.eraseIdx i}->Mod (λb=>b=d) H H'->(∀b,ah fl' b->H.size<=b)->K () H'):Ki.sp (aE d) i H K:=by
 refine Ki.of ?_;unfold Ki.vc;simp only[al];have t:=h.wf.files;have D:=h.files.n;have k:=h.files.arr.cap;have hlen:=fg s.files gs h.files.len;refine h.head.ld (c:=ak) (i:=0) (x:=fl) rfl ?_;refine⟨⟨by omega,by omega⟩,?_⟩;have t1:bQ pT H (cE fl.a fl.c 0 3) ((qx s.files gs).take i):=by rw[qh];exact h.files.arr.rd.take
 refine az.append (E:=pT) I5 (s:=Sl.mk none 0 0) (x:=⟨cE fl.a fl.c 0 3,(i:Int).toNat - 0,fl.c - 0⟩) (l:=[]) (az.nil _ _ _) t1 (by simp;omega) (by simp;omega) (by simp;omega) λm H1 u g1 _=>?_;have f1:∀b,ah m b->H.size<=b:=λb a=>(g1.2 b a).resolve_left (by rintro⟨ad,q,_⟩;cases q);have m1:Mod (λ_=>False) H H1:=g1.1.mono λb _ a=>by obtain⟨ad,q,_⟩:=a;cases q
 have h1:=h.head.ext m1;have v:az pT uo H1 fl (qx s.files gs):=h.files.arr.ext m1;refine h1.ld (c:=ak) (i:=0) (x:=fl) rfl ?_;have hw:Ol.wrap ((i:Int)+1)=((i+1:Nat):Int):=aD i (by omega);simp only[hw];refine⟨⟨by omega,by omega⟩,?_⟩;have t2:bQ pT H1 (cE fl.a fl.c (i+1) 3) ((qx s.files gs).drop (i+1)):=bQ.drop v.rd (by rw[hlen];omega);simp only[Int.toNat_natCast];refine az.append (E:=pT) I5 (s:=m) (x:=⟨cE fl.a fl.c (i+1) 3,fl.n - (i+1),fl.c - (i+1)⟩) u t2 (by simp[hlen];omega) (by simp[hlen];omega) (by simp[hlen];omega) λn w o g2 _=>?_;have F:=m1.size;have z2:=g2.1.size;have y:aj w d wY _:=h1.mod g2.1 (λa=>by have:=f1 _ a;have:=aA h.head;omega);refine y.st (i:=0) (by simp[de]) (by rfl) λf z m3 G=>?_;have f2:∀b,ah n b->H.size<=b:=λb a=>by
  rcases g2.2 b a with q|q
  ·exact f1 b q
  ·omega
 have A:=aA h.head;have off:=iq.off h.head h.files;have p:Mod (λb=>b=d) H f:=⟨by omega,λb a g=>(m3.same b (by omega) g).trans ((g2.1.same b (by omega) λB=>by have:=f1 b B;omega).trans (m1.same b a id))⟩;refine r n f ⟨z,h.crash,?_,h.wf.sub hi rfl rfl rfl rfl rfl⟩ p f2;refine h.files.erase (H':=f) ?_ (λb a hl=>p.same b hl λe=>off (.inr (by obtain⟨C,j,q⟩:=a;exact⟨C,j,by rw[<-e];exact q⟩)));rw[List.eraseIdx_eq_take_drop_succ];simp only[List.nil_append] at o;exact o.keep λb a hl=>m3.same b hl λe=>by have:=f2 b a;omega
end Go.Proofs.YtmkbhnholcaghaaGreatDoor
