/-
 The document's disk: files made, taken away, named anew, told.
-/
import Derived.Test.YtmkbhnholcaghaaGreatDoorDrb
open Go.IntKind renaming i64->N6
open List renaming getElem?_eq_some_iff->N7,mem_of_getElem?->N9,getElem?_set->OS
namespace Go.Proofs.YtmkbhnholcaghaaGreatDoor
open Go.MapKept
theorem pX (a:Option Addr)(c n:Nat):cA a c 0 n=a:=by
 unfold cA;split
 ·rfl
 ·cases a<;>simp[add_zero']
theorem rv:∀(fs:List Fl) (gs:List (Sl×Sl)) (f:Fl) (g:Sl×Sl),gs.length=fs.length->ql (fs++[f]) (gs++[g])=ql fs gs++[(f.name,g.1,g.2)]
 |[],[],f,g,_=>rfl
 |[],_::_,_,_,h=>by simp at h
 |_::_,[],_,_,h=>by simp at h
 |a::fs,b::gs,f,g,h=>by simp[ql,rv fs gs f g (by simpa using h)]
theorem uL:∀(fs:List Fl) (gs:List (Sl×Sl)) (i:Nat),gs.length=fs.length->ql (fs.eraseIdx i) (gs.eraseIdx i)=(ql fs gs).eraseIdx i
 |[],[],_,_=>rfl
 |[],_::_,_,h=>by simp at h
 |_::_,[],_,h=>by simp at h
 |a::fs,b::gs,0,_=>rfl
 |a::fs,b::gs,i+1,h=>by simp[ql,uL fs gs i (by simpa using h)]
theorem Bf:∀(fs:List Fl) (gs:List (Sl×Sl)) (i:Nat) (f:Fl) (g:Sl×Sl),gs.length=fs.length->ql (fs.set i f) (gs.set i g)=(ql fs gs).set i (f.name,g.1,g.2)
 |[],[],_,_,_,_=>rfl
 |[],_::_,_,_,_,h=>by simp at h
 |_::_,[],_,_,_,h=>by simp at h
 |a::fs,b::gs,0,_,_,_=>rfl
 |a::fs,b::gs,i+1,f,g,h=>by simp[ql,Bf fs gs i f g (by simpa using h)]
theorem aJ.push {H H':aa}{fl fl':Sl}{gs:List (Sl×Sl)}{fs:List Fl}(h:aJ H fl gs fs){f:Fl}{g:Sl×Sl}(n:az pN ub H' fl' (ql fs gs++[(f.name,g.1,g.2)]))
  (hs:az jn dI H' g.1 f.synced) (hl:az yB yP H' g.2 f.log) (hk:∀b,(∃s∈gs,ag s.1 b\/ag s.2 b)->b<H.size->H'[b]?=H[b]?) (k:∀b,ag g.2 b->H.size<=b):aJ H' fl' (gs++[g]) (fs++[f]):=by
 have hlen:=h.len;have ex:∀{α:Type} (l:List α) (a:α) (i:Nat) (x:α),(l++[a])[i]?=some x->(l[i]?=some x/\i<l.length)\/(i=l.length/\x=a):=by
  intro α l a i x m;by_cases hi:i<l.length
  ·rw[List.getElem?_append_left hi] at m;exact .inl ⟨m,hi⟩
  ·rw[List.getElem?_append_right (by omega)] at m;have:i=l.length:=by
    have:=(N7.1 m).1;simp at this;omega
   subst this;simp at m;exact .inr ⟨rfl,m.symm⟩
 refine⟨by rw[rv _ _ _ _ hlen];exact n,by simp[hlen],?_,?_⟩
 ·intro i f' g' h1 p;rcases ex fs f i f' h1 with ⟨o,t⟩|⟨u,rfl⟩<;>rcases ex gs g i g' p with ⟨e,v⟩|⟨e2,rfl⟩
  ·exact⟨(h.ent i f' g' o e).1.keep λb k=>hk b ⟨g',N9 e,.inl k⟩,(h.ent i f' g' o e).2.keep λb k=>hk b ⟨g',N9 e,.inr k⟩⟩
  ·omega
  ·omega
  ·exact⟨hs,hl⟩
 ·intro i j g1 g2 h1 p r b c d;rcases ex gs g i g1 h1 with ⟨o,t⟩|⟨u,w⟩<;>rcases ex gs g j g2 p with ⟨e,v⟩|⟨e2,y⟩
  ·exact h.apart i j g1 g2 o e r b c d
  ·obtain⟨_,_,_,q⟩:=h.xW o;rw[y] at d;have:=q.lt b c;have:=k b d;omega
  ·obtain⟨_,_,_,q⟩:=h.xW e;rw[w] at c;have:=q.lt b d;have:=k b c;omega
  ·omega
theorem aJ.erase {H H':aa}{fl fl':Sl}{gs:List (Sl×Sl)}{fs:List Fl}(h:aJ H fl gs fs){i:Nat}(d:az pN ub H' fl' ((ql fs gs).eraseIdx i))
  (hk:∀b,(∃m∈gs,ag m.1 b\/ag m.2 b)->b<H.size->H'[b]?=H[b]?):aJ H' fl' (gs.eraseIdx i) (fs.eraseIdx i):=by
 have back:∀{α:Type} (l:List α) (j:Nat) (a:α),(l.eraseIdx i)[j]?=some a->l[if j<i then j else j+1]?=some a:=by
  intro α l j a e;rw[List.getElem?_eraseIdx] at e;split at e
  ·rename_i q;rw[if_pos q];exact e
  ·rename_i q;rw[if_neg q];exact e
 refine⟨by rw[uL _ _ _ h.len];exact d,?_,?_,?_⟩
 ·have:=h.len;simp only[List.length_eraseIdx,this]
 ·intro j f' g' h1 g;have n:=back fs j f' h1;have f:=back gs j g' g;exact⟨(h.ent _ f' g' n f).1.keep λb k=>hk b ⟨g',N9 f,.inl k⟩,(h.ent _ f' g' n f).2.keep λb k=>hk b ⟨g',N9 f,.inr k⟩⟩
 ·intro a c o gc h1 g p;refine h.apart _ _ o gc (back gs a o h1) (back gs c gc g) ?_;split<;>split<;>omega
theorem aJ.set {H H':aa}{fl:Sl}{gs:List (Sl×Sl)}{fs:List Fl}(h:aJ H fl gs fs){i:Nat}{f f':Fl}{g g':Sl×Sl}(z:fs[i]?=some f)(v:gs[i]?=some g)(s:az pN ub H' fl ((ql fs gs).set i (f'.name,g'.1,g'.2)))
  (hs:az jn dI H' g'.1 f'.synced) (hl:az yB yP H' g'.2 f'.log) (hk:∀(j:Nat) (n:Sl×Sl),j≠i->gs[j]?=some n->∀b,(ag n.1 b\/ag n.2 b)->b<H.size->H'[b]?=H[b]?) (p:∀b,ag g'.2 b->ag g.2 b\/H.size<=b):
  aJ H' fl (gs.set i g') (fs.set i f'):=by
 have w:=(N7.1 z).1;have o:=(N7.1 v).1;refine⟨by rw[Bf _ _ _ _ _ h.len];exact s,by simp[h.len],?_,?_⟩
 ·intro j x n h1 d;rw[OS] at h1 d;by_cases e:i=j
  ·subst e;rw[if_pos rfl,if_pos w] at h1;rw[if_pos rfl,if_pos o] at d;cases h1;cases d;exact⟨hs,hl⟩
  ·rw[if_neg e] at h1 d;exact⟨(h.ent j x n h1 d).1.keep λb p=>hk j n (Ne.symm e) d b (.inl p),(h.ent j x n h1 d).2.keep λb p=>hk j n (Ne.symm e) d b (.inr p)⟩
 ·intro a c y gc h1 d k b l m;rw[OS] at h1 d;by_cases t:i=a
  ·subst t;rw[if_neg k] at d;rw[if_pos rfl,if_pos o] at h1;cases h1;obtain⟨_,_,_,q⟩:=h.xW d;have:=q.lt b m;rcases p b l with r|r
   ·exact h.apart i c g gc v d k b r m
   ·omega
  ·rw[if_neg t] at h1;obtain⟨_,_,_,q⟩:=h.xW h1;have:=q.lt b l;by_cases u:i=c
   ·subst u;rw[if_pos rfl,if_pos o] at d;cases d;rcases p b m with r|r
    ·exact h.apart a i y g h1 v k b l r
    ·omega
   ·rw[if_neg u] at d;exact h.apart a c y gc h1 d k b l m
theorem Bu {fl:Sl}{gs:List (Sl×Sl)}{i:Nat}{g g':Sl×Sl}{H:aa}(c:gs[i]?=some g)(h1:∀b,ag g'.1 b->ag g.1 b\/H.size<=b)(d:∀b,ag g'.2 b->ag g.2 b\/H.size<=b):∀b,AZ fl (gs.set i g') b->AZ fl gs b\/H.size<=b:=by
 rintro b (q|⟨e,a,q⟩)
 ·exact .inl (.inl q)
 ·rcases List.mem_or_eq_of_mem_set a with r|r
  ·exact .inl (.inr ⟨e,r,q⟩)
  ·subst r;rcases q with q|q
   ·exact(h1 b q).imp (λz=>.inr ⟨g,N9 c,.inl z⟩) id
   ·exact(d b q).imp (λz=>.inr ⟨g,N9 c,.inr z⟩) id
theorem lI {s:Dk}{n:ByteArray}:decide (lC s n<0)=(s.idx n).isNone:=by
 unfold lC;cases s.idx n with
 |none=>rfl
 |some i=>simp
theorem Al {F:Nat->Prop}{d:Nat}{s:Dk}{H:aa}{n:ByteArray}{K:Int->aa->Prop}(h:cp F H d s)
  (p:∀F' H',cp F' H' d (s.create n).1->Step F F' H H'->K (s.create n).2 H'):JB.sp (aE d) n H K:=by
 have S:=h;obtain⟨fl,gs,cin,kp,g,y⟩:=h;refine JB.of ?_;unfold JB.vc;simp only[al];have stay:∀e:Int,s.create n=(s,e)->K e H:=by
  intro e he;have:=p F H (by rw[he];exact S) (.refl _ _);rw[he] at this;exact this
 have L:=g.wf.files;refine g.head.ld (c:=ay) (i:=8) (x:=s.down) rfl ?_;cases hd:s.down with
 |true=>exact stay 4 (by unfold Dk.create;rw[hd];rfl)
 |false=>
   refine aC rfl ?_;refine CG ?_;refine ah (λu=>stay 2 ?_) (λu=>?_)
   ·unfold Dk.create;rw[hd];simp at u;simp[u]
   simp at u;refine kB g.head rfl g.files L ?_;refine ah (λhi=>stay 10 ?_) (λhi=>?_)
   ·have:(s.idx n).isSome:=by
     unfold lC at hi;cases M:s.idx n with
     |none=>rw[M] at hi;simp at hi
     |some i=>rfl
    unfold Dk.create;rw[hd];simp[u,this]
   have v:s.idx n=none:=by
    unfold lC at hi;cases M:s.idx n with
    |none=>rfl
    |some i=>rw[M] at hi;simp at hi
   refine g.head.ld (c:=ak) (i:=0) (x:=fl) rfl ?_;have T:=g.files.n;refine ah (λhl=>stay 3 ?_) (λhl=>?_)
   ·unfold Dk.create;rw[hd];simp at hl;simp[u,v,show s.files.length=4096 by omega]
   have A:s.files.length≠4096:=by simp at hl;omega
   have N:s.create n=s.step λt=>{t with files:=t.files++[⟨n,[],[]⟩]}:=by unfold Dk.create;rw[hd];simp[u,v,A]
   rw[N] at p;unfold Dk.step at p;refine kG g λB U g3 m3 Y=>?_;have m:=s.bm;refine ah (λO=>?_) (λO=>?_)
   ·have o:s.change.2=0:=by simpa using O
    rw[if_pos o] at p;rw[o];refine g3.head.ld (c:=ak) (i:=0) (x:=fl) rfl ?_;have j:=eZ s.change.1.files gs g3.files.len;refine az.push (E:=pN) IY (x:=(n,Sl.mk none 0 0,Sl.mk none 0 0)) g3.files.arr rfl (by rw[j,m];omega) (by rw[j,m];omega) λP Z R g5 _=>?_;have off:=il.off g3.head g3.files;have d5:=g3.head.mod g5.1 (λa=>off (.inl a));refine d5.st (i:=0) (by simp[db]) (by rfl) λQ V m6 s6=>?_;have C:∀b,ag P b->b≠d:=λb a e=>by
     obtain⟨c,q⟩:=R.obj b a;rw[e] at q;exact absurd (aF d5 q) (by decide)
    have k:∀b,(∃w∈gs,ag w.1 b\/ag w.2 b)->¬ag fl b:=by
     rintro b ⟨w,l,a⟩ D;obtain⟨i,hi⟩:=List.mem_iff_getElem?.1 l;obtain⟨_,_,G,I⟩:=g3.files.xW hi;rcases a with a|a
     ·exact(G.apart g3.files.arr (by decide)) b a D
     ·exact(I.apart g3.files.arr (by decide)) b a D
    have W:=g3.files.push (H':=Q) (fl':=P) (f:=⟨n,[],[]⟩) (g:=(Sl.mk none 0 0,Sl.mk none 0 0)) (R.keep λb a hl=>m6.same b hl (C b a)) (az.nil _ _ _) (az.nil _ _ _) (λb a hl=>(m6.same b (by have:=g5.1.size;omega) (λe=>off (.inr (by
      obtain⟨w,l,q⟩:=a;exact⟨w,l,by rw[<-e];exact q⟩)))).trans (g5.1.same b hl (k b a))) (by rintro b ⟨ad,q,_⟩;cases q)
    have J:s.change.1.idx n=none:=by unfold Dk.idx;rw[m];exact v
    have X:il P (gs++[(Sl.mk none 0 0,Sl.mk none 0 0)]) B kp Q d {s.change.1 with files:=s.change.1.files++[⟨n,[],[]⟩]}:=
     ⟨V,g3.crash,W,g3.wf.push J (by rw[m];exact A)⟩
    obtain⟨F',G,I⟩:=X.out (fl:=fl) (gs:=gs) (F:=F) (H:=H) y (((m3.mono λb _ e=>(y b).2 (.inl e)).trans (g5.1.mono λb _ e=>(y b).2 (.inr (.inl e)))).trans (m6.mono λb _ e=>(y b).2 (.inl e))) (by
     rintro b (q|⟨w,l,q⟩)
     ·exact(g5.2 b q).imp (λz=>.inl z) (λz=>by omega)
     ·rcases List.mem_append.1 l with r|r
      ·exact .inl (.inr ⟨w,r,q⟩)
      ·simp at r;subst r;rcases q with ⟨ad,q,_⟩|⟨ad,q,_⟩<;>cases q)
    exact p F' Q G I
   ·have o:s.change.2≠0:=by simpa using O
    rw[if_neg o] at p;obtain⟨F',G,I⟩:=g3.out (fl:=fl) (gs:=gs) (F:=F) (H:=H) y (m3.mono λb _ e=>(y b).2 (.inl e)) (λb q=>.inl q);exact p F' U G I
theorem DW {fl:Sl}{gs:List (Sl×Sl)}{cin kp:Int}{d:Nat}{s:Dk}{H:aa}{i:Nat}{K:Unit->aa->Prop}(h:il fl gs cin kp H d s)(hi:i<s.files.length)
  (r:∀fl' H',il fl' (gs.eraseIdx i) cin kp H' d {s with files:=s.files.eraseIdx i}->Mod (λb=>b=d) H H'->(∀b,ag fl' b->H.size<=b)->K () H'):Kd.sp (aE d) i H K:=by
 refine Kd.of ?_;unfold Kd.vc;simp only[al];have t:=h.wf.files;have D:=h.files.n;have k:=h.files.arr.cap;have hlen:=eZ s.files gs h.files.len;refine h.head.ld (c:=ak) (i:=0) (x:=fl) rfl ?_;refine⟨⟨by omega,by omega⟩,?_⟩;have t1:bP pN H (cA fl.a fl.c 0 3) ((ql s.files gs).take i):=by rw[pX];exact h.files.arr.rd.take
 refine az.append (E:=pN) IY (s:=Sl.mk none 0 0) (x:=⟨cA fl.a fl.c 0 3,(i:Int).toNat - 0,fl.c - 0⟩) (l:=[]) (az.nil _ _ _) t1 (by simp;omega) (by simp;omega) (by simp;omega) λm H1 u g1 _=>?_;have f1:∀b,ag m b->H.size<=b:=λb a=>(g1.2 b a).resolve_left (by rintro⟨ad,q,_⟩;cases q);have m1:Mod (λ_=>False) H H1:=g1.1.mono λb _ a=>by obtain⟨ad,q,_⟩:=a;cases q
 have h1:=h.head.ext m1;have v:az pN ub H1 fl (ql s.files gs):=h.files.arr.ext m1;refine h1.ld (c:=ak) (i:=0) (x:=fl) rfl ?_;have hw:N6.wrap ((i:Int)+1)=((i+1:Nat):Int):=aD i (by omega);simp only[hw];refine⟨⟨by omega,by omega⟩,?_⟩;have t2:bP pN H1 (cA fl.a fl.c (i+1) 3) ((ql s.files gs).drop (i+1)):=bP.drop v.rd (by rw[hlen];omega);simp only[Int.toNat_natCast];refine az.append (E:=pN) IY (s:=m) (x:=⟨cA fl.a fl.c (i+1) 3,fl.n - (i+1),fl.c - (i+1)⟩) u t2 (by simp[hlen];omega) (by simp[hlen];omega) (by simp[hlen];omega) λn w o g2 _=>?_;have F:=m1.size;have z2:=g2.1.size;have y:aj w d wP _:=h1.mod g2.1 (λa=>by have:=f1 _ a;have:=aA h.head;omega);refine y.st (i:=0) (by simp[db]) (by rfl) λf z m3 G=>?_;have f2:∀b,ag n b->H.size<=b:=λb a=>by
  rcases g2.2 b a with q|q
  ·exact f1 b q
  ·omega
 have A:=aA h.head;have off:=il.off h.head h.files;have p:Mod (λb=>b=d) H f:=⟨by omega,λb a g=>(m3.same b (by omega) g).trans ((g2.1.same b (by omega) λB=>by have:=f1 b B;omega).trans (m1.same b a id))⟩;refine r n f ⟨z,h.crash,?_,h.wf.sub hi rfl rfl rfl rfl rfl⟩ p f2;refine h.files.erase (H':=f) ?_ (λb a hl=>p.same b hl λe=>off (.inr (by obtain⟨C,j,q⟩:=a;exact⟨C,j,by rw[<-e];exact q⟩)));rw[List.eraseIdx_eq_take_drop_succ];simp only[List.nil_append] at o;exact o.keep λb a hl=>m3.same b hl λe=>by have:=f2 b a;omega
end Go.Proofs.YtmkbhnholcaghaaGreatDoor
