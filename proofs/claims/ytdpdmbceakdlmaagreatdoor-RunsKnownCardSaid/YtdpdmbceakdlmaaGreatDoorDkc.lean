/-
 The disk: files made, taken away, named anew.
-/
import Derived.Test.YtdpdmbceakdlmaaGreatDoorDkb
open Go.Addr renaming add->La
open Go.Proofs.Tryz renaming prog->KE
open List renaming mem_of_getElem?->KH,getElem?_eq_some_iff->KI,getElem?_append_left->K9,getElem?_append_right->LR
namespace Go.Proofs.YtdpdmbceakdlmaaGreatDoor
open Go.MapKept
theorem gZ {es:Array MapEntry}{k v k' v':Value}{c:Nat}:fH (es.push {key:=k,val:=v,born:=c}) k' v'↔fH es k' v'\/(k'=k/\v'=v):=by
 constructor
 ·rintro⟨e,he,h1,h2⟩
  simp only[Array.toList_push,List.mem_append,List.mem_singleton] at he
  rcases he with he|he
  ·exact .inl ⟨e,he,h1,h2⟩
  ·subst he;exact .inr ⟨h1.symm,h2.symm⟩
 ·rintro(⟨e,he,h1,h2⟩|⟨rfl,rfl⟩)
  ·exact⟨e,by simp[Array.mem_toList_iff.1 he],h1,h2⟩
  ·exact⟨⟨k',v',c⟩,by simp,rfl,rfl⟩
theorem str_inj {a b:ByteArray}(h:Value.string a=.string b):a=b:=by cases h;rfl
theorem qq {a b:Nat}(h:c6 a=c6 b):a=b:=by unfold c6 at h;simp at h;exact h
theorem bm.push {H H':Heap}{x:DG}{fs:List Fl}(h:bm H x fs){f:Fl}{g:FG}(hq:cA H' g f)(hm:cd .string H' x.m (x.es.push {key:=.string f.name,val:=c6 g.p,born:=x.clk}) (x.clk+1))
  (hk:∀b,x.fp b->b≠x.m->b<H.size->H'[b]?=H[b]?) (hg:∀b,g.fp b->H.size<=b):bm H' ⟨x.m,x.es.push {key:=.string f.name,val:=c6 g.p,born:=x.clk},x.clk+1,x.gs++[g]⟩ (fs++[f]):=by
 have old:∀(i:Nat) (f:Fl) (g:FG),fs[i]?=some f->x.gs[i]?=some g->fH x.es (.string f.name) (c6 g.p)/\cA H' g f:=λi f g h1 h2=>
  ⟨(h.ent i f g h1 h2).1,(h.ent i f g h1 h2).2.ak λb hb hbl=>hk b (.inr ⟨g,KH h2,hb⟩) (λe=>h.wZ (KH h2) (e▸hb)) hbl⟩
 have hlen:=h.len
 have split:∀(i:Nat) (f':Fl) (g':FG),(fs++[f])[i]?=some f'->(x.gs++[g])[i]?=some g'->(fs[i]?=some f'/\x.gs[i]?=some g')\/(i=fs.length/\f'=f/\g'=g):=by
  intro i f' g' h1 h2
  by_cases hi:i<fs.length
  ·rw[K9 hi] at h1
   rw[K9 (by omega)] at h2
   exact .inl ⟨h1,h2⟩
  ·rw[LR (by omega)] at h1 h2
   have:i=fs.length:=by
    have:=(KI.1 h1).1;simp at this;omega
   subst this
   simp[hlen] at h1 h2
   exact .inr ⟨rfl,h1.symm,h2.symm⟩
 refine⟨hm,by simp[hlen],by simp[h.size],?_,?_,?_⟩
 ·intro i f' g' h1 h2
  rcases split i f' g' h1 h2 with ⟨q1,q2⟩|⟨_,rfl,rfl⟩
  ·exact⟨gZ.2 (.inl (old i f' g' q1 q2).1),(old i f' g' q1 q2).2⟩
  ·exact⟨gZ.2 (.inr ⟨rfl,rfl⟩),hq⟩
 ·intro k v hkv
  rcases gZ.1 hkv with hkv|⟨rfl,rfl⟩
  ·obtain⟨i,f',g',h1,h2,h3,h4⟩:=h.ent' k v hkv
   have hi:=(KI.1 h1).1
   exact⟨i,f',g',by rw[K9 hi];exact h1,by simp only;rw[K9 (by omega)];exact h2,h3,h4⟩
  ·exact⟨fs.length,f,g,by simp,by simp[<-hlen],rfl,rfl⟩
 ·intro i j g1 g2 h1 h2 hij b hb1 hb2
  have ex:∀(i:Nat) (g1:FG),(x.gs++[g])[i]?=some g1->(x.gs[i]?=some g1/\i<x.gs.length)\/(i=x.gs.length/\g1=g):=by
   intro i g1 h1
   by_cases hi:i<x.gs.length
   ·rw[K9 hi] at h1;exact .inl ⟨h1,hi⟩
   ·rw[LR (by omega)] at h1
    have:i=x.gs.length:=by
     have:=(KI.1 h1).1;simp at this;omega
    subst this
    simp at h1
    exact .inr ⟨rfl,h1.symm⟩
  rcases ex i g1 h1 with ⟨q1,l1⟩|⟨e1,rfl⟩<;>rcases ex j g2 h2 with ⟨q2,l2⟩|⟨e2,rfl⟩
  ·exact h.apart i j g1 g2 q1 q2 hij b hb1 hb2
  ·obtain⟨_,_,_,q⟩:=h.vo q1
   have:=q.lt b hb1
   have:=hg b hb2;omega
  ·obtain⟨_,_,_,q⟩:=h.vo q2
   have:=q.lt b hb2
   have:=hg b hb1;omega
  ·omega
theorem Dk.WF.push {s:Dk}(h:s.WF){n:ByteArray}(hn:s.idx n=none)(hl:s.files.length≠4096):({s with files:=s.files++[⟨n,[],[]⟩]}:Dk).WF:=by
 have hu:({s with files:=s.files++[⟨n,[],[]⟩]}:Dk).used=s.used:=by simp[Dk.used,Fl.au]
 refine⟨?_,by rw[hu];exact h.used,h.most,h.quota,?_,h.down,h.cin⟩
 ·simp only[List.map_append,List.map_cons,List.map_nil]
  rw[List.nodup_append]
  refine⟨h.nodup,by simp,?_⟩
  intro a ha b hb e
  simp at hb
  subst hb
  obtain⟨f,hf,rfl⟩:=List.mem_map.1 ha
  exact Dk.ra hn f hf (iP e)
 ·have:=h.files
  simp;omega
theorem Bh {F:Nat->Prop}{d:Nat}{s:Dk}{H:Heap}{n:ByteArray}{K:Int->Heap->Prop}(h:bj F H d s)
  (hK:∀F' H',bj F' H' d (s.create n).1->Step F F' H H'->K (s.create n).2 H'):Hq.sp (aD d) n H K:=by
 have h0:=h
 obtain⟨x,cin,kp,g,hF⟩:=h
 refine Hq.of ?_
 unfold Hq.vc
 simp only[aq]
 refine kx g.head (down:=s.down) rfl ?_
 have stay:∀e:Int,s.create n=(s,e)->K e H:=by
  intro e he
  have:=hK F H (by rw[he];exact h0) (.refl _ _)
  rw[he] at this;exact this
 cases hd:s.down with
 |true=>exact stay 4 (by unfold Dk.create;rw[hd];rfl)
 |false=>
   refine aw rfl ?_
   refine g.head.ld (c:=cq) (i:=0) (x:=some x.m) rfl ?_
   have next:∀p:Option Addr×Bool,p.2=(s.idx n).isSome->Ez.sp n H (λ(r:Bool) H2=>br (!r) (K (2:Int) H2) (br p.2 (K (10:Int) H2) (ld cq H2 (La ⟨d,0,none⟩ 0) λ(x_2:Option Nat)=>xW H2 x_2 λ(n_1:Nat)=>br ((n_1:Int)==(4096:Int)) (K (3:Int) H2) (DJ.sp (aD d) H2 λ(e_1:Int) H3=>br (e_1==0) (ld cq H3 (La ⟨d,0,none⟩ 0) λ(x_3:Option Nat)=>aF H3 #[(.slice none 0 0),(.slice none 0 0),(.slice none 0 0)] zJ λp H4=>lQ KE (Instr.mapUpdate yN (.map x_3) (.string n) (.pointer (some p))) H4 λH5=>K e_1 H5) (K e_1 H3))))):=by
    intro p hp
    refine Dp ?_
    refine ae (λhn=>stay 2 ?_) (λhn=>?_)
    ·unfold Dk.create;rw[hd];simp at hn;simp[hn]
    ·simp at hn
     rw[hp]
     refine ae (λhi=>stay 10 ?_) (λhi=>?_)
     ·unfold Dk.create;rw[hd];simp[hn,hi]
     ·refine g.head.ld (c:=cq) (i:=0) (x:=some x.m) rfl ?_
      refine⟨s.files.length,⟨x.es,x.clk,g.files.map.obj,g.files.size⟩,?_⟩
      refine ae (λhl=>stay 3 ?_) (λhl=>?_)
      ·unfold Dk.create;rw[hd];simp at hl;simp[hn,hi,show s.files.length=4096 by omega]
      ·have hl':s.files.length≠4096:=by simp at hl;omega
       have hix:s.idx n=none:=by simpa using hi
       have hcr:s.create n=s.step λt=>{t with files:=t.files++[⟨n,[],[]⟩]}:=by unfold Dk.create;rw[hd];simp[hn,hi,hl']
       rw[hcr] at hK
       refine oF g λcin' H3 g3 m3 s3=>?_
       unfold Dk.step at hK
       refine ae (λhz=>?_) (λhz=>?_)
       ·have hz':s.change.2=0:=by simpa using hz
        rw[if_pos hz'] at hK
        rw[hz']
        refine g3.head.ld (c:=cq) (i:=0) (x:=some x.m) rfl ?_
        refine ao λH4 s4 r4 e4=>?_
        obtain⟨et,inf,hu,hdd,hi',hz⟩:=na
        have hfs:=s.bc
        have hno:∀u,¬fH x.es (.string n) u:=by
         intro u hu'
         obtain⟨i,f,gf,q1,_,q3,_⟩:=g3.files.ent' _ _ hu'
         rw[hfs] at q1
         exact Dk.ra hix f (KH q1) (str_inj q3).symm
        have f4:bm H4 x s.change.1.files:=g3.files.ak λb hb hl=>e4.same b hl id
        refine mF hu hdd f4.map (k:=.string n) trivial hno λH5 m5 mo5 s5=>?_
        have hd4:=e4.at g3.head id
        have hdx:=dJ.mC hd4 f4
        have hdm:d≠x.m:=λe=>hdx (.inl e)
        have hnm:H3.size≠x.m:=by have:=g3.files.map.lt;omega
        have r5:=mo5.at r4 hnm
        have hq:cA H5 ⟨H3.size,Sl.mk none 0 0,Sl.mk none 0 0,Sl.mk none 0 0⟩ ⟨n,[],[]⟩:=
         ⟨r5,aK.nil _ _ _,aK.nil _ _ _,aK.nil _ _ _,by rintro b ⟨ad,q,_⟩;cases q⟩
        have f5:=bm.push (H:=H3) g3.files (f:=⟨n,[],[]⟩) (g:=⟨H3.size,Sl.mk none 0 0,Sl.mk none 0 0,Sl.mk none 0 0⟩) hq m5 (λb hb hne hl=>(mo5.same b (by omega) hne).trans (e4.same b hl id)) (by
         rintro b (e|⟨ad,q,_⟩|⟨ad,q,_⟩|⟨ad,q,_⟩)
         ·rw[e];exact Nat.le_refl _
         ·cases q
         ·cases q
         ·cases q)
        have hix3:s.change.1.idx n=none:=by unfold Dk.idx;rw[hfs];exact hix
        have gg:dJ ⟨x.m,_,_,_⟩ cin' kp H5 d {s.change.1 with files:=s.change.1.files++[⟨n,[],[]⟩]}:=
         ⟨by have := mo5.at hd4 hdm
             have hu:({s.change.1 with files:=s.change.1.files++[⟨n,[],[]⟩]}:Dk).used=s.change.1.used:=by simp[Dk.used,Fl.au]
             rw[hu];exact this,g3.crash,f5,g3.wf.push hix3 (by rw[hfs];exact hl')⟩
        obtain⟨F',q1,q2⟩:=gg.out (x:=x) (F:=F) (H:=H) hF (((m3.mono λb _ e=>(hF b).2 (.inl e)).trans (Ext.mod e4)).trans (mo5.mono λb _ e=>(hF b).2 (.inr (.inl e)))) (by
         rintro b (e|⟨gf,hgf,hb⟩)
         ·exact .inl (.inl e)
         ·simp at hgf
          rcases hgf with hgf|rfl
          ·exact .inl (.inr ⟨gf,hgf,hb⟩)
          ·rcases hb with e|⟨ad,q,_⟩|⟨ad,q,_⟩|⟨ad,q,_⟩
           ·right;rw[e];simp only;omega
           ·cases q
           ·cases q
           ·cases q)
        exact hK F' H5 q1 q2
       ·have hz':s.change.2≠0:=by simpa using hz
        rw[if_neg hz'] at hK
        obtain⟨F',q1,q2⟩:=g3.out (x:=x) (F:=F) (H:=H) hF (m3.mono λb _ e=>(hF b).2 (.inl e)) (λb q=>.inl q)
        exact hK F' H3 q1 q2
   refine te g.files rfl g.wf (λi f gf h1 h2 h3 h4 h5=>next _ (by rw[h1];rfl)) (λh1=>next _ (by rw[h1];rfl))
end Go.Proofs.YtdpdmbceakdlmaaGreatDoor
