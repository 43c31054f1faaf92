/-
 The document's disk: files made, taken away, named anew, told.
-/
import Derived.Test.YtdpdmbceakdlmaaGreatDoorDrb
open List renaming mem_of_getElem?->KH,getElem?_eq_some_iff->KI,getElem?_set->LD
namespace Go.Proofs.YtdpdmbceakdlmaaGreatDoor
open Go.MapKept
theorem sv (a:Option Addr)(c n:Nat):fP a c 0 n=a:=by
 unfold fP
 split
 ·rfl
 ·cases a<;>simp[add_zero']
theorem qC:∀(fs:List Fl) (gs:List (Sl×Sl)) (f:Fl) (g:Sl×Sl),gs.length=fs.length->tK (fs++[f]) (gs++[g])=tK fs gs++[(f.name,g.1,g.2)]
 |[],[],f,g,_=>rfl
 |[],_::_,_,_,h=>by simp at h
 |_::_,[],_,_,h=>by simp at h
 |a::fs,b::gs,f,g,h=>by simp[tK,qC fs gs f g (by simpa using h)]
theorem zB:∀(fs:List Fl) (gs:List (Sl×Sl)) (i:Nat) (f:Fl) (g:Sl×Sl),gs.length=fs.length->tK (fs.set i f) (gs.set i g)=(tK fs gs).set i (f.name,g.1,g.2)
 |[],[],_,_,_,_=>rfl
 |[],_::_,_,_,_,h=>by simp at h
 |_::_,[],_,_,_,h=>by simp at h
 |a::fs,b::gs,0,_,_,_=>rfl
 |a::fs,b::gs,i+1,f,g,h=>by simp[tK,zB fs gs i f g (by simpa using h)]
theorem aO.push {H H':Heap}{fl fl':Sl}{gs:List (Sl×Sl)}{fs:List Fl}(h:aO H fl gs fs){f:Fl}{g:Sl×Sl}(harr:aK rU uA H' fl' (tK fs gs++[(f.name,g.1,g.2)]))
  (hs:aK iU iA H' g.1 f.synced) (hl:aK vq wT H' g.2 f.log) (hk:∀b,(∃gj∈gs,al gj.1 b\/al gj.2 b)->b<H.size->H'[b]?=H[b]?) (hb:∀b,al g.2 b->H.size<=b):aO H' fl' (gs++[g]) (fs++[f]):=by
 have hlen:=h.len
 have ex:∀{α:Type} (l:List α) (a:α) (i:Nat) (x:α),(l++[a])[i]?=some x->(l[i]?=some x/\i<l.length)\/(i=l.length/\x=a):=by
  intro α l a i x hx
  by_cases hi:i<l.length
  ·rw[List.getElem?_append_left hi] at hx;exact .inl ⟨hx,hi⟩
  ·rw[List.getElem?_append_right (by omega)] at hx
   have:i=l.length:=by
    have:=(KI.1 hx).1;simp at this;omega
   subst this
   simp at hx
   exact .inr ⟨rfl,hx.symm⟩
 refine⟨by rw[qC _ _ _ _ hlen];exact harr,by simp[hlen],?_,?_⟩
 ·intro i f' g' h1 h2
  rcases ex fs f i f' h1 with ⟨q1,l1⟩|⟨e1,rfl⟩<;>rcases ex gs g i g' h2 with ⟨q2,l2⟩|⟨e2,rfl⟩
  ·exact⟨(h.ent i f' g' q1 q2).1.ak λb hb=>hk b ⟨g',KH q2,.inl hb⟩,(h.ent i f' g' q1 q2).2.ak λb hb=>hk b ⟨g',KH q2,.inr hb⟩⟩
  ·omega
  ·omega
  ·exact⟨hs,hl⟩
 ·intro i j g1 g2 h1 h2 hij b hb1 hb2
  rcases ex gs g i g1 h1 with ⟨q1,l1⟩|⟨e1,w1⟩<;>rcases ex gs g j g2 h2 with ⟨q2,l2⟩|⟨e2,w2⟩
  ·exact h.apart i j g1 g2 q1 q2 hij b hb1 hb2
  ·obtain⟨_,_,_,q⟩:=h.vo q1
   rw[w2] at hb2
   have:=q.lt b hb1;have:=hb b hb2;omega
  ·obtain⟨_,_,_,q⟩:=h.vo q2
   rw[w1] at hb1
   have:=q.lt b hb2;have:=hb b hb1;omega
  ·omega
theorem aO.set {H H':Heap}{fl:Sl}{gs:List (Sl×Sl)}{fs:List Fl}(h:aO H fl gs fs){i:Nat}{f f':Fl}{g g':Sl×Sl}(hf:fs[i]?=some f)(hg:gs[i]?=some g)(harr:aK rU uA H' fl ((tK fs gs).set i (f'.name,g'.1,g'.2)))
  (hs:aK iU iA H' g'.1 f'.synced) (hl:aK vq wT H' g'.2 f'.log) (hk:∀(j:Nat) (gj:Sl×Sl),j≠i->gs[j]?=some gj->∀b,(al gj.1 b\/al gj.2 b)->b<H.size->H'[b]?=H[b]?) (hb:∀b,al g'.2 b->al g.2 b\/H.size<=b):
  aO H' fl (gs.set i g') (fs.set i f'):=by
 have hfi:=(KI.1 hf).1
 have hgi:=(KI.1 hg).1
 refine⟨by rw[zB _ _ _ _ _ h.len];exact harr,by simp[h.len],?_,?_⟩
 ·intro j fj gj h1 h2
  rw[LD] at h1 h2
  by_cases hij:i=j
  ·subst hij
   rw[if_pos rfl,if_pos hfi] at h1
   rw[if_pos rfl,if_pos hgi] at h2
   cases h1;cases h2
   exact⟨hs,hl⟩
  ·rw[if_neg hij] at h1 h2
   exact⟨(h.ent j fj gj h1 h2).1.ak λb hb=>hk j gj (Ne.symm hij) h2 b (.inl hb),(h.ent j fj gj h1 h2).2.ak λb hb=>hk j gj (Ne.symm hij) h2 b (.inr hb)⟩
 ·intro a c ga gc h1 h2 hac b hb1 hb2
  rw[LD] at h1 h2
  by_cases hia:i=a
  ·subst hia
   rw[if_neg hac] at h2
   rw[if_pos rfl,if_pos hgi] at h1
   cases h1
   obtain⟨_,_,_,q⟩:=h.vo h2
   have:=q.lt b hb2
   rcases hb b hb1 with r|r
   ·exact h.apart i c g gc hg h2 hac b r hb2
   ·omega
  ·rw[if_neg hia] at h1
   obtain⟨_,_,_,q⟩:=h.vo h1
   have:=q.lt b hb1
   by_cases hic:i=c
   ·subst hic
    rw[if_pos rfl,if_pos hgi] at h2
    cases h2
    rcases hb b hb2 with r|r
    ·exact h.apart a i ga g h1 hg hac b hb1 r
    ·omega
   ·rw[if_neg hic] at h2
    exact h.apart a c ga gc h1 h2 hac b hb1 hb2
theorem zg {fl:Sl}{gs:List (Sl×Sl)}{i:Nat}{g g':Sl×Sl}{H:Heap}(hg:gs[i]?=some g)(h1:∀b,al g'.1 b->al g.1 b\/H.size<=b)(h2:∀b,al g'.2 b->al g.2 b\/H.size<=b):∀b,yQ fl (gs.set i g') b->yQ fl gs b\/H.size<=b:=by
 rintro b (q|⟨gj,hgj,q⟩)
 ·exact .inl (.inl q)
 ·rcases List.mem_or_eq_of_mem_set hgj with r|r
  ·exact .inl (.inr ⟨gj,r,q⟩)
  ·subst r
   rcases q with q|q
   ·exact(h1 b q).imp (λz=>.inr ⟨g,KH hg,.inl z⟩) id
   ·exact(h2 b q).imp (λz=>.inr ⟨g,KH hg,.inr z⟩) id
theorem ng {s:Dk}{n:ByteArray}:decide (mR s n<0)=(s.idx n).isNone:=by
 unfold mR
 cases s.idx n with
 |none=>rfl
 |some i=>simp
theorem xO {F:Nat->Prop}{d:Nat}{s:Dk}{H:Heap}{n:ByteArray}{K:Int->Heap->Prop}(h:cr F H d s)
  (hK:∀F' H',cr F' H' d (s.create n).1->Step F F' H H'->K (s.create n).2 H'):Hm.sp (aD d) n H K:=by
 have h0:=h
 obtain⟨fl,gs,cin,kp,g,hF⟩:=h
 refine Hm.of ?_
 unfold Hm.vc
 simp only[aq]
 have stay:∀e:Int,s.create n=(s,e)->K e H:=by
  intro e he
  have:=hK F H (by rw[he];exact h0) (.refl _ _)
  rw[he] at this;exact this
 have hfl:=g.wf.files
 refine g.head.ld (c:=aA) (i:=8) (x:=s.down) rfl ?_
 cases hd:s.down with
 |true=>exact stay 4 (by unfold Dk.create;rw[hd];rfl)
 |false=>
   refine aw rfl ?_
   refine Bi ?_
   refine ae (λhn=>stay 2 ?_) (λhn=>?_)
   ·unfold Dk.create;rw[hd];simp at hn;simp[hn]
   simp at hn
   refine nk g.head rfl g.files hfl ?_
   refine ae (λhi=>stay 10 ?_) (λhi=>?_)
   ·have:(s.idx n).isSome:=by
     unfold mR at hi
     cases hq:s.idx n with
     |none=>rw[hq] at hi;simp at hi
     |some i=>rfl
    unfold Dk.create;rw[hd];simp[hn,this]
   have hix:s.idx n=none:=by
    unfold mR at hi
    cases hq:s.idx n with
    |none=>rfl
    |some i=>rw[hq] at hi;simp at hi
   refine g.head.ld (c:=av) (i:=0) (x:=fl) rfl ?_
   have hfn:=g.files.n
   refine ae (λhl=>stay 3 ?_) (λhl=>?_)
   ·unfold Dk.create;rw[hd];simp at hl;simp[hn,hix,show s.files.length=4096 by omega]
   have hl':s.files.length≠4096:=by simp at hl;omega
   have hcr:s.create n=s.step λt=>{t with files:=t.files++[⟨n,[],[]⟩]}:=by unfold Dk.create;rw[hd];simp[hn,hix,hl']
   rw[hcr] at hK
   unfold Dk.step at hK
   refine mJ g λcin' H3 g3 m3 s3=>?_
   have hfs:=s.bc
   refine ae (λhz=>?_) (λhz=>?_)
   ·have hz':s.change.2=0:=by simpa using hz
    rw[if_pos hz'] at hK
    rw[hz']
    refine g3.head.ld (c:=av) (i:=0) (x:=fl) rfl ?_
    have hlen3:=fZ s.change.1.files gs g3.files.len
    refine aK.push (E:=rU) IC (x:=(n,Sl.mk none 0 0,Sl.mk none 0 0)) g3.files.arr rfl (by rw[hlen3,hfs];omega) (by rw[hlen3,hfs];omega) λs5 H5 o5 g5 _=>?_
    have off:=iW.off g3.head g3.files
    have d5:=g3.head.mod g5.1 (λhb=>off (.inl hb))
    refine d5.st (i:=0) (by simp[dt]) (by rfl) λH6 r6 m6 s6=>?_
    have off5:∀b,al s5 b->b≠d:=λb hb e=>by
     obtain⟨c,q⟩:=o5.obj b hb
     rw[e] at q
     exact absurd (aQ d5 q) (by decide)
    have flapart:∀b,(∃gj∈gs,al gj.1 b\/al gj.2 b)->¬al fl b:=by
     rintro b ⟨gj,hgj,hb⟩ hfb
     obtain⟨i,hi⟩:=List.mem_iff_getElem?.1 hgj
     obtain⟨_,_,q1,q2⟩:=g3.files.vo hi
     rcases hb with hb|hb
     ·exact(q1.apart g3.files.arr (by decide)) b hb hfb
     ·exact(q2.apart g3.files.arr (by decide)) b hb hfb
    have fB:=g3.files.push (H':=H6) (fl':=s5) (f:=⟨n,[],[]⟩) (g:=(Sl.mk none 0 0,Sl.mk none 0 0)) (o5.ak λb hb hl=>m6.same b hl (off5 b hb)) (aK.nil _ _ _) (aK.nil _ _ _) (λb hb hl=>(m6.same b (by have:=g5.1.size;omega) (λe=>off (.inr (by
      obtain⟨gj,hgj,q⟩:=hb
      exact⟨gj,hgj,by rw[<-e];exact q⟩)))).trans (g5.1.same b hl (flapart b hb))) (by rintro b ⟨ad,q,_⟩;cases q)
    have hix3:s.change.1.idx n=none:=by unfold Dk.idx;rw[hfs];exact hix
    have gg:iW s5 (gs++[(Sl.mk none 0 0,Sl.mk none 0 0)]) cin' kp H6 d {s.change.1 with files:=s.change.1.files++[⟨n,[],[]⟩]}:=
     ⟨r6,g3.crash,fB,g3.wf.push hix3 (by rw[hfs];exact hl')⟩
    obtain⟨F',q1,q2⟩:=gg.out (fl:=fl) (gs:=gs) (F:=F) (H:=H) hF (((m3.mono λb _ e=>(hF b).2 (.inl e)).trans (g5.1.mono λb _ e=>(hF b).2 (.inr (.inl e)))).trans (m6.mono λb _ e=>(hF b).2 (.inl e))) (by
     rintro b (q|⟨gj,hgj,q⟩)
     ·exact(g5.2 b q).imp (λz=>.inl z) (λz=>by omega)
     ·rcases List.mem_append.1 hgj with r|r
      ·exact .inl (.inr ⟨gj,r,q⟩)
      ·simp at r;subst r
       rcases q with ⟨ad,q,_⟩|⟨ad,q,_⟩<;>cases q)
    exact hK F' H6 q1 q2
   ·have hz':s.change.2≠0:=by simpa using hz
    rw[if_neg hz'] at hK
    obtain⟨F',q1,q2⟩:=g3.out (fl:=fl) (gs:=gs) (F:=F) (H:=H) hF (m3.mono λb _ e=>(hF b).2 (.inl e)) (λb q=>.inl q)
    exact hK F' H3 q1 q2
end Go.Proofs.YtdpdmbceakdlmaaGreatDoor
