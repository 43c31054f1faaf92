/-
 The disk: Restart.
-/
import Derived.Test.YtdpdmbceakdlmaaGreatDoorDkr
namespace Go.Proofs.YtdpdmbceakdlmaaGreatDoor
open Go.MapKept
def eP (v:Value):Option ByteArray:=match v with|.string n=>some n|_=>none
def eH (l:List MapEntry) (n:ByteArray):Bool:=l.any fun e=>match eP e.key with|some m=>m.toList==n.toList|none=>false
theorem kg {l:List MapEntry} {n:ByteArray}:eH l n=true↔∃e∈l,e.key=.string n:=by
 unfold eH
 rw[List.any_eq_true]
 constructor
 ·rintro⟨e,he,h⟩
  refine⟨e,he,?_⟩
  cases hk:e.key<;>rw[hk] at h<;>simp[eP] at h
  rw[gS h]
 ·rintro⟨e,he,h⟩
  exact⟨e,he,by rw[h];simp[eP]⟩
theorem vI {l:List MapEntry} {e:MapEntry} {m n:ByteArray} (hk:e.key=.string m):eH (l++[e]) n=(eH l n||(n.toList==m.toList)):=by
 rw[Bool.eq_iff_iff,Bool.or_eq_true,kg,kg,beq_iff_eq]
 constructor
 ·rintro⟨y,hy,h⟩
  rcases List.mem_append.1 hy with q|q
  ·exact .inl ⟨y,q,h⟩
  ·simp at q;subst q
   rw[hk] at h
   rw[str_inj h];exact .inr rfl
 ·rintro(⟨y,hy,h⟩|h)
  ·exact⟨y,List.mem_append_left _ hy,h⟩
  ·exact⟨e,by simp,by rw[hk,gS h]⟩
def l8 (s:Dk) (e:MapEntry):List Int:=match eP e.key with|some n=>(match s.idx n with|some i=>(s.file i).log.map (·.no)|none=>[])|none=>[]
theorem AX {α:Type} (l:List α):(l.map fun _=>0).sum=0:=by
 induction l with
 |nil=>rfl
 |cons a l ih=>simpa using ih
theorem wo {α:Type} (f:α→Nat):∀(l es:List α),l.Nodup→(∀y∈l,y∈es)→(l.map f).sum≤(es.map f).sum
 |[],es,_,_=>by simp
 |a::l,es,hn,hs=>by
   obtain⟨s,t,rfl⟩:=List.append_of_mem (hs a List.mem_cons_self)
   rw[List.nodup_cons] at hn
   have:=wo f l (s++t) hn.2 (fun y hy=>by
    have:=hs y (List.mem_cons_of_mem _ hy)
    rw[List.mem_append,List.mem_cons] at this
    rw[List.mem_append]
    rcases this with h|h|h
    ·exact .inl h
    ·subst h;exact absurd hy hn.1
    ·exact .inr h)
   simp only[List.map_cons,List.sum_cons,List.map_append,List.sum_append] at this ⊢
   omega
theorem wI {α:Type} (f g:α→Nat):∀(l:List α) (i:Nat) (a:α),l[i]?=some a→(∀j b,l[j]?=some b→j≠i→g b=f b)→(l.map g).sum+f a=(l.map f).sum+g a
 |[],i,a,h,_=>by simp at h
 |x::l,0,a,h,hs=>by
   simp at h;subst h
   have:l.map g=l.map f:=by
    apply List.map_congr_left
    intro b hb
    obtain⟨j,hj⟩:=List.mem_iff_getElem?.1 hb
    exact hs (j+1) b (by simpa using hj) (by omega)
   simp only[List.map_cons,List.sum_cons,this];omega
 |x::l,i+1,a,h,hs=>by
   have h1:=wI f g l i a (by simpa using h) (fun j b hj hne=>hs (j+1) b (by simpa using hj) (by omega))
   have h2:=hs 0 x rfl (by omega)
   simp only[List.map_cons,List.sum_cons];omega
theorem bh.perm {H:Heap} {x:DG} {s:Dk} (h:bh H x s.files) (hw:s.WF):(x.es.toList.map (·.key)).Perm (s.files.map fun f=>Value.string f.name):=by
 have hn2:(s.files.map fun f=>Value.string f.name).Nodup:=by
  have:=hw.nodup
  unfold List.Nodup at this ⊢
  rw[List.pairwise_map] at this ⊢
  exact this.imp fun hne e=>hne (by rw[str_inj e])
 rw[List.perm_ext_iff_of_nodup h.map.stamped.2.2 hn2]
 intro k
 constructor
 ·intro hk
  obtain⟨e,he,rfl⟩:=List.mem_map.1 hk
  obtain⟨i,f,g,h1,h2,h3,h4⟩:=h.ent' e.key e.val ⟨e,he,rfl,rfl⟩
  rw[h3]
  exact List.mem_map.2 ⟨f,List.mem_of_getElem? h1,rfl⟩
 ·intro hk
  obtain⟨f,hf,rfl⟩:=List.mem_map.1 hk
  obtain⟨i,hi⟩:=List.mem_iff_getElem?.1 hf
  obtain⟨g,_,⟨e,he,h1,h2⟩,_⟩:=h.yc hi
  exact List.mem_map.2 ⟨e,he,h1⟩
theorem tN {H:Heap} {x:DG} {s:Dk} (h:bh H x s.files) (hw:s.WF) {l:List MapEntry} (hl:l.Perm x.es.toList):(l.flatMap (l8 s)).Perm s.BB:=by
 have h1:((x.es.toList.map (·.key)).flatMap fun k=>match eP k with|some n=>(match s.idx n with|some i=>(s.file i).log.map (·.no)|none=>[])|none=>[]).Perm ((s.files.map fun f=>Value.string f.name).flatMap fun k=>match eP k with|some n=>(match s.idx n with|some i=>(s.file i).log.map (·.no)|none=>[])|none=>[]):=List.Perm.flatMap_right _ (h.perm hw)
 rw[List.flatMap_map,List.flatMap_map] at h1
 have h2:(s.files.flatMap fun f=>match eP (Value.string f.name) with|some n=>(match s.idx n with|some i=>(s.file i).log.map (·.no)|none=>[])|none=>[])=s.BB:=by
  unfold Dk.BB
  rw[List.flatMap_def,List.flatMap_def]
  congr 1
  apply List.map_congr_left
  intro f hf
  obtain⟨i,hi⟩:=List.mem_iff_getElem?.1 hf
  simp only[eP,Dk.idx_eq hw hi,Dk.cQ hi]
 rw[h2] at h1
 exact(List.Perm.flatMap_right _ hl).trans h1
theorem Dk.iH (s:Dk):s.BB.length=s.logs:=by
 unfold Dk.BB Dk.logs
 rw[List.length_flatMap]
 simp
theorem Dk.Bo {s:Dk} {L:List Int} (hL:L.Perm s.BB) (f:Fl):pE (fun w=>gP s.keep (L.filter fun x=>decide (x<w.no)).length) f=s.after f:=by
 have:∀no:Int,(L.filter fun x=>decide (x<no)).length=s.td no:=fun no=>by
  unfold Dk.td;exact(hL.filter _).length_eq
 unfold pE Dk.after
 congr 2
 apply List.filter_congr
 intro w _
 rw[this]
theorem Dk.ux (s:Dk) (f:Fl):(s.after f).ao.length≤f.ao.length:=by
 show (((f.log.filter _).foldl cY f.synced)).length≤_
 exact qM f.log _ f.synced f.synced (Nat.le_refl _)
set_option maxHeartbeats 1000000 in
theorem vr {F:Nat→Prop} {d:Nat} {s:Dk} {H:Heap} {K:Unit→Heap→Prop} (h:bf F H d s) (hlogs:s.logs<68719476736)
  (hK:∀F' H',bf F' H' d s.cq→Step F F' H H'→K () H'):Eo.sp (ay d) H K:=by
 have h0:=h
 obtain⟨x,cin,kp,g,hF⟩:=h
 refine Eo.of ?_
 unfold Eo.vc
 simp only[ak,add_add,Nat.reduceAdd]
 refine ar rfl ?_
 refine g.head.ld (c:=ax) (i:=9) (x:=s.down) rfl ?_
 refine ag (fun hd=>?_) (fun hd=>?_)
 ·have hd':s.down=false:=by simpa using hd
  have e:s.cq=s:=by unfold Dk.cq;rw[hd'];rfl
  rw[e] at hK
  exact hK F H h0 (.refl _ _)
 have hd':s.down=true:=by simpa using hd
 obtain⟨ci,kk,hcr⟩:∃ci kk,s.crash=some (ci,kk):=by
  have:=g.wf.down hd'
  cases hc:s.crash with
  |none=>rw[hc] at this;cases this
  |some p=>exact⟨p.1,p.2,rfl⟩
 obtain⟨rfl,rfl⟩:=g.crash ci kk hcr
 have hkeep:s.keep=kp:=by unfold Dk.keep;rw[hcr]
 have hdx:=dg.kF g.head g.files
 have hdl:d<H.size:=az g.head
 refine g.head.ld (c:=bX) (i:=0) (x:=some x.m) rfl ?_
 obtain⟨et,inf,hu,_,_,_⟩:=mc
 have hst:=g.files.map.stamped
 refine mJ hu g.files.map fun H1 hit e1=>?_
 have hit1:H.size<H1.size:=az hit
 have files1:=g.files.keep (H':=H1) fun b hb hl=>e1.same b hl id
 refine mO (it:=H.size) (fun l z A=>aG EI fg A z (l.flatMap (l8 s))∧Mod (fun b=>b=H.size) H1 A∧(∀b,aj z b→H1.size≤b)) files1.map hit ⟨aG.nil _ _ _,.refl _ _,by rintro b ⟨ad,q,_⟩;cases q⟩ ?_ ?_ ?_
 ·rintro l z A A' ⟨o,m,f⟩ hm hs
  refine⟨o.keep fun b hb hl=>hm.same b hl (by have:=f b hb;omega),m.trans hm,f⟩
 ·rintro l e z A next ⟨o,m,f⟩ he hel hsub hnd hr hito hnext
  obtain⟨i,fl,gf,q1,q2,q3,q4⟩:=g.files.ent' e.key e.val ⟨e,he,rfl,rfl⟩
  have hnos:l8 s e=fl.log.map (·.no):=by
   unfold l8;rw[q3];simp[eP,Dk.idx_eq g.wf q1,Dk.cQ q1]
  refine⟨ay gf.p,by rw[q4];rfl,?_⟩
  have hgfl:∀b,gf.fp b→b<H.size:=fun b hb=>g.files.lt b (.inr ⟨gf,List.mem_of_getElem? q2,hb⟩)
  have hFA:ck A gf fl:=(files1.ent i fl gf q1 q2).2.keep fun b hb hl=>m.same b hl (by have:=hgfl b hb;omega)
  refine hFA.row.ld (c:=aq) (i:=2) (x:=gf.log) rfl ?_
  have htot:(l.flatMap (l8 s)).length+fl.log.length≤s.logs:=by
   have h1:=wo (fun e=>(l8 s e).length) (l++[e]) x.es.toList (by
    rw[List.nodup_append]
    exact⟨hnd,by simp,by intro a ha b hb;simp at hb;subst hb;intro e2;subst e2;exact hel ha⟩) (by
    intro y hy
    rcases List.mem_append.1 hy with q|q
    ·exact hsub y q
    ·simp at q;subst q;exact he)
   have h2:=(tN g.files g.wf (List.Perm.refl x.es.toList)).length_eq
   rw[List.length_flatMap,Dk.iH] at h2
   rw[List.map_append,List.sum_append] at h1
   simp only[List.map_cons,List.map_nil,List.sum_cons,List.sum_nil,hnos,List.length_map] at h1
   rw[List.length_flatMap];omega
  refine vE hFA.log o (by omega) fun z' A' o' g'=>?_
  have hlt:=az hr
  refine hnext z' A' ⟨?_,?_,?_⟩ ?_ ?_
  ·rw[List.flatMap_append]
   simpa[hnos] using o'
  ·refine⟨Nat.le_trans m.size g'.1.size,fun b hb hn=>(g'.1.same b (by have:=m.size;omega) fun hh=>?_).trans (m.same b hb hn)⟩
   have:=f b hh;omega
  ·intro b hb
   rcases g'.2 b hb with q|q
   ·exact f b q
   ·have:=m.size;omega
  ·exact g'.1.same _ hlt fun hh=>by have:=f _ hh;have:=g.files.map.lt;omega
  ·obtain⟨o,ho⟩:=hito
   exact g'.1.same _ (az ho) fun hh=>by have:=f _ hh;omega
 ·rintro l z H3 ⟨oz,m3,fz⟩ hperm _
  have hnp:=tN g.files g.wf hperm
  have hnl:(l.flatMap (l8 s)).length=s.logs:=by rw[hnp.length_eq,Dk.iH]
  refine uu oz (by omega) fun H4 oz4 m4=>?_
  obtain⟨L,hL⟩:∃L,L=(l.flatMap (l8 s)).mergeSort fun x y=>decide (x≤y):=⟨_,rfl⟩
  rw[←hL] at oz4
  have hLp:L.Perm s.BB:=by rw[hL];exact(List.mergeSort_perm _ _).trans hnp
  have hLs:L.Pairwise (·≤·):=by
   have:=List.pairwise_mergeSort (le:=fun x y:Int=>decide (x≤y)) (fun a b c h1 h2=>by simp at h1 h2 ⊢;omega) (fun a b=>by simp;omega) (l.flatMap (l8 s))
   rw[hL]
   exact this.imp fun h=>by simpa using h
  have hLl:L.length=s.logs:=by rw[hLp.length_eq,Dk.iH]
  -- up to here all that was there lies as it lay
  have e4:Mod (fun _=>False) H H4:=by
   have z1:=e1.size;have z2:=m3.size;have z3:=m4.size
   refine⟨by omega,fun b hb _=>(m4.same b (by omega) fun hh=>?_).trans ((m3.same b (by omega) (by omega)).trans (e1.same b hb id))⟩
   have:=fz b hh;omega
  have zlt:∀b,aj z b→H.size≤b:=fun b hb=>by have:=fz b hb;omega
  have d4:=g.head.ext e4
  refine d4.st (i:=1) (by simp[dS]) (by rfl) fun H5 d5 m5 s5=>?_
  have d5':ai H5 d ue (dS x.m 0 s.most s.quota s.ops s.next s.crash.isSome cin kp s.down):=d5
  refine d5'.ld (c:=bX) (i:=0) (x:=some x.m) rfl ?_
  have m05:Mod (fun b=>b=d) H H5:=(Ext.mod e4).trans m5
  have files5:bh H5 x s.files:=g.files.keep fun b hb hl=>m05.same b hl fun e=>hdx (e▸hb)
  have z5:aG EI fg H5 z L:=oz4.keep fun b hb hl=>m5.same b hl (by have:=zlt b hb;omega)
  have z5lt:=z5.lt
  have hs05:=m05.size
  refine mJ hu files5.map fun H6 hit6 e6=>?_
  have hit6l:H5.size<H6.size:=az hit6
  obtain⟨af,haf⟩:∃af:Fl→Fl,af=fun f=>pE (fun w=>gP kp (L.filter fun x=>decide (x<w.no)).length) f:=⟨_,rfl⟩
  have hafs:∀f,af f=s.after f:=fun f=>by rw[haf,←hkeep];exact Dk.Bo hLp f
  have hafn:∀f,(af f).name=f.name:=fun f=>by rw[haf];rfl
  have hafl:∀f,(af f).ao.length≤f.ao.length:=fun f=>by rw[hafs];exact s.ux f
  obtain⟨up,hup⟩:∃up:List MapEntry→Fl→Fl,up=fun l f=>if eH l f.name then af f else f:=⟨_,rfl⟩
  obtain⟨us,hus⟩:∃us:List MapEntry→Nat,us=fun l=>(s.files.map fun f=>if eH l f.name then (af f).ao.length else 0).sum:=⟨_,rfl⟩
  have husle:∀l,us l≤s.used:=fun l=>by
   rw[hus]
   refine kQ _ _ _ fun f _=>?_
   split
   ·exact hafl f
   ·exact Nat.zero_le _
  have w1:=g.wf.used;have w2:=g.wf.most;have w3:=g.wf.quota
  have hxfp:∀b,x.fp b→b<H.size:=g.files.lt
  refine mO (it:=H5.size) (fun l _ A=>∃gs,bh A ⟨x.m,x.es,x.clk,gs⟩ (s.files.map (up l))∧ai A d ue (dS x.m (us l:Nat) s.most s.quota s.ops s.next s.crash.isSome cin kp s.down)∧Mod (fun b=>(b=d∨x.fp b)∨b=H5.size) H6 A∧(∀b,DG.fp ⟨x.m,x.es,x.clk,gs⟩ b→x.fp b∨H6.size≤b)∧aG EI fg A z L) (files5.keep fun b hb hl=>e6.same b hl id).map hit6 ?_ ?_ ?_ ?_
  ·refine⟨x.gs,?_,?_,.refl _ _,fun b hb=>.inl hb,z5.ext e6⟩
   ·have e:s.files.map (up [])=s.files:=by rw[hup];simp[eH]
    rw[e]
    exact files5.keep fun b hb hl=>e6.same b hl id
   ·have e:us []=0:=by
     rw[hus]
     show (s.files.map fun f=>if eH [] f.name then (af f).ao.length else 0).sum=0
     have:(s.files.map fun f=>if eH [] f.name then (af f).ao.length else 0)=s.files.map fun _=>0:=by simp[eH]
     rw[this]
     exact AX _
    rw[e]
    exact d5'.ext e6
  ·rintro l _ A A' ⟨gs,fA,dA,mA,oA,zA⟩ hm hs
   refine⟨gs,fA.keep fun b hb hl=>hm.same b hl ?_,dA.mod hm (by omega),mA.trans (hm.mono fun b _ e=>.inr e),oA,zA.keep fun b hb hl=>hm.same b hl (by have:=z5lt b hb;omega)⟩
   intro e
   rcases oA b hb with q|q
   ·have:=hxfp b q;omega
   ·omega
  ·rintro l e ⟨⟩ A next ⟨gs,fA,dA,mA,oA,zA⟩ he hel hsub hnd hr hito hnext
   obtain⟨i,f1,gf,q1,q2,q3,q4⟩:=fA.ent' e.key e.val ⟨e,he,rfl,rfl⟩
   rw[List.getElem?_map] at q1
   obtain⟨fl,hfl,hf1⟩:∃fl,s.files[i]?=some fl∧up l fl=f1:=by
    cases hq:s.files[i]? with
    |none=>rw[hq] at q1;cases q1
    |some fl=>rw[hq] at q1;exact⟨fl,rfl,by simpa using q1⟩
   have hupn:∀l f,(up l f).name=f.name:=fun l f=>by rw[hup];simp only;split;exact hafn f;rfl
   have hkey:e.key=.string fl.name:=by rw[q3,←hf1,hupn]
   have hnd2:eH l fl.name=false:=by
    cases hq:eH l fl.name with
    |false=>rfl
    |true=>
      obtain⟨e',he',hk'⟩:=kg.1 hq
      have:=ta hst (hsub e' he') he (by rw[hk',hkey])
      subst this;exact absurd he' hel
   have hf1':f1=fl:=by rw[←hf1,hup];simp only;rw[hnd2];rfl
   subst hf1'
   have hfA:(s.files.map (up l))[i]?=some f1:=by rw[List.getElem?_map,hfl];simp[hf1]
   have hFA:=(fA.ent i f1 gf hfA q2).2
   have hgm:=List.mem_of_getElem? q2
   have hgd:¬gf.fp d:=by
    intro hb
    rcases oA d (.inr ⟨gf,hgm,hb⟩) with q|q
    ·exact hdx q
    ·omega
   refine⟨ay gf.p,by rw[q4];rfl,?_⟩
   simp only[ak]
   have hpl:=Dk.dH hfl
   have hll:=Dk.iY hfl
   refine Dm hFA dA zA hLs (by omega) (by omega) (by omega) hgd fun gf' A' hp' hF' hd' hm' hb'=>?_
   have haf1:pE (fun w=>gP kp (L.filter fun x=>decide (x<w.no)).length) f1=af f1:=by rw[haf]
   rw[haf1] at hF' hd'
   have hdone:∀f:Fl,eH (l++[e]) f.name=(eH l f.name||(f.name.toList==f1.name.toList)):=by
    intro f
    exact vI hkey
   have hother:∀(j:Nat) (f:Fl),s.files[j]?=some f→j≠i→(f.name.toList==f1.name.toList)=false:=by
    intro j f hj hne
    cases hq:(f.name.toList==f1.name.toList) with
    |false=>rfl
    |true=>exact absurd (g.wf.inj hj hfl (gS (by simpa using hq))) hne
   obtain⟨fB,oB⟩:=fA.Gb (H':=A') hfA q2 (f':=af f1) (g':=gf') hp' (hafn f1) hF' (fun b hb hn hl=>hm'.same b hl (by
    rintro(h|h)
    ·exact hn h
    ·subst h
     rcases oA b hb with q|q
     ·exact hdx q
     ·omega)) hb'
   have hmapeq:(s.files.map (up l)).set i (af f1)=s.files.map (up (l++[e])):=by
    apply List.ext_getElem?
    intro j
    rw[List.getElem?_set]
    by_cases hij:i=j
    ·subst hij
     have hil:=(List.getElem?_eq_some_iff.1 hfl).1
     rw[if_pos rfl,if_pos (by simpa using hil),List.getElem?_map,hfl]
     simp only[Option.map_some]
     rw[hup]
     simp only[hdone]
     simp
    ·rw[if_neg hij,List.getElem?_map,List.getElem?_map]
     cases hj:s.files[j]? with
     |none=>rfl
     |some f=>
       simp only[Option.map_some]
       rw[hup]
       simp only[hdone,hother j f hj (Ne.symm hij),Bool.or_false]
   rw[hmapeq] at fB
   have husn:us (l++[e])=us l+(af f1).ao.length:=by
    have:=wI (fun f:Fl=>if eH l f.name then (af f).ao.length else 0) (fun f:Fl=>if eH (l++[e]) f.name then (af f).ao.length else 0) s.files i f1 hfl (fun j f hj hne=>by
     simp only[hdone,hother j f hj hne,Bool.or_false])
    have hg:eH (l++[e]) f1.name=true:=by rw[hdone];simp
    simp only[hnd2,hg,if_true,Bool.false_eq_true,if_false,Nat.add_zero] at this
    rw[hus]
    exact this
   have hwrap:IntKind.i64.wrap ((us l:Int)+((af f1).ao.length:Int))=((us (l++[e]):Nat):Int):=by
    have:=husle (l++[e])
    rw[wrap64 (by omega) (by omega),husn];omega
   rw[hwrap] at hd'
   have zA':aG EI fg A' z L:=zA.keep fun b hb hl=>hm'.same b hl (by
    rintro(h|h)
    ·obtain⟨c,t,q,ht⟩:=hFA.obj b h
     obtain⟨c2,q2⟩:=zA.obj b hb
     rw[aL q q2] at ht
     exact absurd ht (by decide)
    ·have:=zlt b hb;omega)
   refine hnext () A' ⟨gs.set i gf',fB,hd',?_,?_,zA'⟩ ?_ ?_
   ·refine⟨Nat.le_trans mA.size hm'.size,fun b hb hn=>(hm'.same b (by have:=mA.size;omega) ?_).trans (mA.same b hb hn)⟩
    rintro(h|h)
    ·rcases oA b (.inr ⟨gf,hgm,h⟩) with q|q
     ·exact hn (.inl (.inr q))
     ·omega
    ·exact hn (.inl (.inl h))
   ·intro b hb
    rcases oB b hb with q|q
    ·exact oA b q
    ·have:=mA.size;omega
   ·refine hm'.same _ (az hr) ?_
    rintro(h|h)
    ·exact fA.vO hgm h
    ·exact hdx (.inl h.symm)
   ·obtain⟨o,ho⟩:=hito
    refine hm'.same _ (az ho) ?_
    rintro(h|h)
    ·rcases oA _ (.inr ⟨gf,hgm,h⟩) with q|q
     ·have:=hxfp _ q;omega
     ·omega
    ·omega
  ·rintro l2 ⟨⟩ A ⟨gs,fA,dA,mA,oA,zA⟩ hperm2 _
   have hall:∀f∈s.files,eH l2 f.name=true:=by
    intro f hf
    obtain⟨i,hi⟩:=List.mem_iff_getElem?.1 hf
    obtain⟨g0,_,⟨e,he,h1,_⟩,_⟩:=g.files.yc hi
    exact kg.2 ⟨e,hperm2.mem_iff.2 he,h1⟩
   have hmap:s.files.map (up l2)=s.files.map s.after:=by
    apply List.map_congr_left
    intro f hf
    rw[hup];simp only[hall f hf,if_true]
    exact hafs f
   rw[hmap] at fA
   have hr:s.cq={s with files:=s.files.map s.after,down:=false,crash:=none}:=by unfold Dk.cq;rw[hd'];rfl
   have hus2:(s.files.map fun f=>if eH l2 f.name then (af f).ao.length else 0)=(s.files.map s.after).map fun f=>f.ao.length:=by
    rw[List.map_map]
    apply List.map_congr_left
    intro f hf
    rw[if_pos (hall f hf),hafs,Function.comp_apply]
   have hused:us l2=s.cq.used:=by
    rw[hr]
    unfold Dk.used
    rw[←hus2,hus]
   refine dA.st (i:=9) (by simp[dS]) (by rfl) fun A1 d1 m1 s1=>?_
   have d1':ai A1 d ue (dS x.m (us l2:Nat) s.most s.quota s.ops s.next s.crash.isSome cin kp false):=d1
   refine gR (b:=d) (o:=6) (t:=ue) d1' (by kernel_rfl) (by simp[dS]) (by intro v hv;simp at hv;rcases hv with rfl|rfl|rfl<;>rfl) fun A2 d2 m2 s2=>?_
   have hdA:=dg.kF dA fA
   have m02:Mod (fun b=>b=d) A A2:=m1.trans m2
   have gg:dg ⟨x.m,x.es,x.clk,gs⟩ 0 0 A2 d s.cq:=by
    refine⟨?_,?_,?_,?_⟩
    ·rw[←hused]
     rw[hr]
     exact d2
    ·rw[hr];intro i k q;cases q
    ·rw[hr];exact fA.keep fun b hb hl=>m02.same b hl fun e=>hdA (e▸hb)
    ·have hu2:=husle l2
     refine⟨?_,by rw[←hused,hr];show us l2≤s.most;omega,by rw[hr];exact w2,by rw[hr];exact w3,by rw[hr];simp;exact g.wf.files,(by rw[hr];intro h;cases h),(by rw[hr];intro i k q;cases q)⟩
     rw[hr]
     simp only[List.map_map]
     exact g.wf.nodup
   have mfin:Mod F H A2:=by
    have t1:Mod F H H6:=(m05.mono fun b _ e=>(hF b).2 (.inl e)).trans (Ext.mod e6)
    have z6:=e6.size
    refine⟨by have:=mA.size;have:=m02.size;omega,fun b hb hn=>?_⟩
    have hne:b≠d:=fun e=>hn ((hF b).2 (.inl e))
    have hnx:¬x.fp b:=fun e=>hn ((hF b).2 (.inr e))
    refine(m02.same b (by have:=mA.size;omega) hne).trans ((mA.same b (by omega) ?_).trans (t1.same b hb hn))
    rintro((h|h)|h)
    ·exact hne h
    ·exact hnx h
    ·omega
   obtain⟨F',r1,r2⟩:=gg.out (x:=x) (F:=F) (H:=H) hF mfin (fun b hb=>(oA b hb).imp id (fun q=>by have:=e6.size;omega))
   exact hK F' A2 r1 r2
end Go.Proofs.YtdpdmbceakdlmaaGreatDoor
