/-
 The library's sorting of texts, said of the heap.
-/
import Derived.Test.YtacfhncgbgijhaaGreatFxn
import Derived.Test.YtacfhncgbgijhaaGreatLay
import Derived.Test.YtacfhncgbgijhaaGreatFxy
import Derived.Test.YtacfhncgbgijhaaGreatJ32
import Derived.Test.YtacfhncgbgijhaaGreatJ33
import Derived.Test.YtacfhncgbgijhaaGreatDks
import Derived.Test.YtacfhncgbgijhaaGreatJ37
import Derived.Test.YtacfhncgbgijhaaGreatDkt
namespace Go.Proofs.YtacfhncgbgijhaaGreat
theorem vu {s:Sl} {l:List (List UInt8)} {H:aa} {K:Unit→aa→Prop} (h:bc EN tj H s l) (hl:l.length<4611686018427387904)
  (hK:∀H',bc EN tj H' s (l.mergeSort fun x y=>decide (x≤y))→Mod (ai s) H H'→K () H'):KY.sp s H K:=by
 intro w hw
 subst hw
 rcases id h.2 with ⟨e1,e2⟩|⟨g,cap,cur,e1,hb,hg,h4,h5,h6,h7⟩
 ·have hn:=h.n (by decide)
  have hl0:l=[]:=List.eq_nil_of_length_eq_zero (by omega)
  have hc:=AnyM.slices_Sort_string_none sortStr none 0 w
  rw[e1]
  refine hc.mono fun e w' ⟨he,hw'⟩=>?_
  subst hw'
  subst hl0
  exact⟨_,he,⟨(),rfl,hK _ (by simpa using h) (.refl _ _)⟩,.refl _⟩
 ·have hn:=h.n (by decide)
  have hall:=zV l
  have hs1:EN.size=1:=rfl
  have henc:∀x:List UInt8,encStr x=.string ⟨x.toArray⟩:=fun _=>rfl
  have hH:Sort.Holds encStr w g 0 l.toArray:=by
   intro j hj
   have hj':j<l.length:=by simpa using hj
   have hv:(EN.all l)[j]?=some (.string ⟨l[j].toArray⟩):=by rw[hall];simp[hj']
   rw[←h7,List.getElem?_take,if_pos (by rw[hs1];omega)] at hv
   refine⟨?_,?_⟩
   ·rw[Nat.zero_add]
    have:=di (o:=j) hg (by simpa using hv)
    simp[hj',henc]
    exact this
   ·rw[Nat.zero_add];exact dU hg
  have hc:=AnyM.slices_Sort_string sortStr g 0 cap l w hH (aL hg) hl
  rw[e1,hn]
  refine hc.mono fun e w' ⟨he,n,os,hw'⟩=>?_
  have hm:=List.mergeSort_perm l (fun x y=>decide (x≤y))
  have hsz:(l.mergeSort fun x y=>decide (x≤y)).length=l.length:=hm.length_eq
  obtain⟨q1,q2,q3,q4⟩:=wZ (enc:=encStr) (n:=n) (d:=(l.mergeSort fun x y=>decide (x≤y)).toArray) (os:=os) hg (by rw[h6,hs1];simp[hsz];omega)
  subst hw'
  refine⟨_,he,⟨(),rfl,hK _ ⟨?_,.inr ⟨g,cap,_,e1,hb,q1,h4,h5,by rw[q3];exact h6,?_⟩⟩ (q2.mono fun b _ e=>⟨⟨g,0,none⟩,?_,e.symm⟩)⟩,(.of_le rfl (Nat.le_add_right _ _))⟩
  ·rw[zV,hs1];simp[hsz,hn]
  ·rw[zV,hs1,Nat.mul_one,hn]
   have:(l.mergeSort fun x y=>decide (x≤y)).toArray.size=l.length:=by simp[hsz]
   rw[this] at q4
   rw[q4]
  ·cases s;simp only[Sl.v,Value.slice.injEq] at e1;exact e1.1
open Go.MapKept
def Dk.list (s:Dk):List (List UInt8):=if s.down then [] else (s.files.map fun f=>f.name.toList).mergeSort fun x y=>decide (x≤y)
theorem IT:y8 Tryz.prog vh tj EN.size 16:=kS (by kernel_rfl)
def nameOf (e:MapEntry):List UInt8:=match Au e.key with|some n=>n.toList|none=>[]
theorem wM (n:ByteArray):Jb n.toList=n:=by
 unfold Jb
 apply ByteArray.ext
 simp[ByteArray.toList_eq]
theorem qm {l r:List (List UInt8)} (h:l.Perm r):(l.mergeSort fun x y=>decide (x≤y))=r.mergeSort fun x y=>decide (x≤y):=by
 have tr:∀a b c:List UInt8,decide (a≤b)=true→decide (b≤c)=true→decide (a≤c)=true:=fun a b c h1 h2=>by simp only[decide_eq_true_eq] at*;exact List.le_trans h1 h2
 have to:∀a b:List UInt8,(decide (a≤b)||decide (b≤a))=true:=fun a b=>by simp only[Bool.or_eq_true,decide_eq_true_eq];exact List.le_total a b
 refine List.Perm.eq_of_pairwise (le:=fun a b=>decide (a≤b)=true) (fun a b _ _ h1 h2=>?_) (List.pairwise_mergeSort tr to l) (List.pairwise_mergeSort tr to r) (((List.mergeSort_perm l _).trans h).trans (List.mergeSort_perm r _).symm)
 simp only[decide_eq_true_eq] at h1 h2
 exact List.le_antisymm h1 h2
theorem yd {l m cap:Nat} {es:Array MapEntry} {clk:Nat} {H:aa} {K:Unit→aa→Prop} (I:List MapEntry→aa→Prop) (hm:cd .string H m es clk) (hcap:ag H cap AF #[.map (some m)])
  (hkeys:∀e∈es.toList,∃n,e.key=.string n) (h0:∀A,Mod (fun _=>False) H A→I [] A) (hfr:∀l A A',I l A→Mod (fun b=>b=H.size) A A'→A'.size=A.size→I l A')
  (hs:∀ls e n A,I ls A→e∈es.toList→e.key=.string n→(∀y∈ls,y∈es.toList)→ls.Nodup→e∉ls→A[m]?=some (.map es clk)→H.size<A.size→b8 Tryz.prog l #[.string n] A fun b A'=>b=true∧I (ls++[e]) A'∧A'[m]?=A[m]?∧A'[H.size]?=A[H.size]?)
  (hfin:∀ls A,I ls A→ls.Perm es.toList→K () A):ET.sp l ⟨cap,0,none⟩ H K:=by
 refine ET.of ?_
 unfold ET.vc
 have:=hcap.ld (c:=cJ) (i:=0) (x:=some m) rfl (K:=fun x=>bS ar Tryz.prog (Instr.range AF (.map x)) H fun(it:Option Addr) H1=>aC Unit () H1 fun next _ H2=>bS iS Tryz.prog (Instr.next (.pointer it) false C3) H2 fun(nx:Bool×List Value) H3=>br nx.1 (bS qU Tryz.prog (Instr.entry (.pointer it)) H3 fun(en:Value×Value) H4=>JF bK en.1 fun(k:ByteArray)=>b8 Tryz.prog l #[(.string k)] H4 fun(b:Bool) H5=>br (!b) (K () H5) (next () H5)) (K () H3))
 refine this ?_
 obtain⟨et,inf,hu,_,_,_⟩:=nU
 refine Bf hu hm fun H1 hit e1=>?_
 have hit1:H.size<H1.size:=aL hit
 refine Ce (it:=H.size) (fun ls _ A=>I ls A∧H.size<A.size) (hm.aq (e1.same _ hm.lt id)) hit ⟨h0 H1 e1,hit1⟩ (fun l x A A' h m s=>⟨hfr l A A' h.1 m s,by omega⟩) ?_ (fun ls x A h hp _=>hfin ls A h.1 hp)
 rintro ls e ⟨⟩ A next ⟨hI,hlt⟩ he hel hsub hnd hr hito hnext
 obtain⟨n,hn⟩:=hkeys e he
 refine⟨n,by rw[hn],?_⟩
 refine(hs ls e n A hI he hn hsub hnd hel hr hlt).mono fun b A' hb=>?_
 obtain⟨rfl,h1,h2,h3⟩:=hb
 refine aA rfl (hnext () A' ⟨h1,?_⟩ h2 h3)
 obtain⟨o,ho⟩:=hito
 rw[←h3] at ho
 exact aL ho
theorem tW {m cap:Nat} {es:Array MapEntry} {clk:Nat} {H:aa} {K:Sl→aa→Prop} (hm:cd .string H m es clk) (hcap:ag H cap AF #[.map (some m)])
  (hkeys:∀e∈es.toList,∃n,e.key=.string n) (hlen:es.size≤1048576)
  (hK:∀(s:Sl) (ls:List MapEntry) (H':aa),bc EN tj H' s (ls.map nameOf)→ls.Perm es.toList→Mod (fun _=>False) H H'→(∀b,ai s b→H.size≤b)→K s H'):
  HI.sp (Sl.mk none 0 0) (.func (.func ET.no) #[] #[(.pointer (some ⟨cap,0,none⟩))]) H K:=by
 refine HI.of ?_
 unfold HI.vc
 refine ak fun H1 s1 r1 m1=>?_
 have hcallable:bQ Tryz.prog ET.no=true:=by kernel_rfl
 refine⟨_,_,rfl,hcallable,fun rec hround=>?_⟩
 obtain⟨r,hr⟩:∃r,r=H1.size:=⟨_,rfl⟩
 obtain⟨l,hl⟩:∃l,l=H1.size+1:=⟨_,rfl⟩
 obtain⟨p,hp⟩:∃p,p=H.size:=⟨_,rfl⟩
 rw[←hl] at hround ⊢
 rw[←hr]
 rw[←hp] at r1
 rw[←hp] at hround
 rw[←hp]
 obtain⟨HB,hHB⟩:∃HB:aa,HB=(H1.push (.deferred (some []))).push (.loop (rec .ready none)):=⟨_,rfl⟩
 rw[←hHB]
 have eB:Mod (fun _=>False) H1 HB:=by rw[hHB];exact(Mod.push _ _ _).trans (Mod.push _ _ _)
 have sB:HB.size=H1.size+2:=by rw[hHB];simp
 have lB:HB[l]?=some (.loop (rec .ready none)):=by rw[hHB,hl,Array.getElem?_push,if_pos (by simp)]
 have rB:HB[r]?=some (.deferred (some [])):=by rw[hHB,hr];simp[Array.getElem?_push]
 have pB:ag HB p vh #[(Sl.mk none 0 0).v]:=r1.ext eB
 have mB:cd .string HB m es clk:=(hm.aq (m1.same _ hm.lt id)).aq (eB.same _ (by have:=hm.lt;omega) id)
 have cB:ag HB cap AF #[.map (some m)]:=(hcap.ext m1).ext eB
 have hml:=hm.lt
 have hcl:cap<H.size:=aL hcap
 let I:List MapEntry→aa→Prop:=fun ls A=>A[l]?=some (.loop (rec .ready none))∧A[r]?=some (.deferred (some []))∧(∃s,ag A p vh #[s.v]∧bc EN tj A s (ls.map nameOf)∧(∀b,ai s b→HB.size<b))∧Mod (fun b=>b=p∨b=l∨b=HB.size) HB A
 refine Spec.mono (R:=fun v H'=>∃x:Unit,v=(aT []).enc x∧lR l rec H' _ _ _) (yd (l:=l) (m:=m) (cap:=cap) (H:=HB) (K:=fun _ H'=>lR l rec H' _ _ _) I mB cB hkeys ?_ ?_ ?_ ?_) (fun v H' ⟨x,_,h⟩=>h)
 ·intro A hA
  exact⟨hA.at lB id,hA.at rB id,⟨_,pB.ext hA,bc.nil _ _ _,by rintro b ⟨ad,q,_⟩;cases q⟩,Ext.mod hA⟩
 ·rintro ls A A' ⟨i1,i2,⟨s,i3,i4,i5⟩,i6⟩ hA hs
  refine⟨hA.at i1 (by omega),hA.at i2 (by omega),⟨s,i3.mod hA (by omega),i4.aq fun b hb hbl=>hA.same b hbl (by have:=i5 b hb;omega),i5⟩,i6.trans (hA.mono fun b _ e=>.inr (.inr e))⟩
 ·rintro ls e n A ⟨i1,i2,⟨s,i3,i4,i5⟩,i6⟩ he hn hsub hnd hel hmA hAl
  refine hround [.string n] A _ i1 ?_
  show iP (some n) _
  refine⟨i1,?_⟩
  obtain⟨Ab,hAb⟩:∃Ab:aa,Ab=A.setIfInBounds l (.loop (rec .busy none)):=⟨_,rfl⟩
  rw[←hAb]
  have mAb:Mod (fun b=>b=l) A Ab:=by rw[hAb];exact Mod.setObj rfl
  have sAb:Ab.size=A.size:=by rw[hAb];simp
  have lAb:Ab[l]?=some (.loop (rec .busy none)):=by rw[hAb];exact gH i1
  have hpl:p≠l:=by omega
  have p1:=i3.mod mAb hpl
  refine p1.ld (c:=an) (i:=0) (x:=s) rfl ?_
  have tl:∀b,ai s b→b≠l:=fun b hb=>by have:=i5 b hb;omega
  have o1:bc EN tj Ab s (ls.map nameOf):=i4.aq fun b hb hbl=>mAb.same b hbl (tl b hb)
  have hln:(ls.map nameOf).length≤1048576:=by
   have:=List.Nodup.length_le_of_subset hnd (l₂:=es.toList) (fun y hy=>hsub y hy)
   simp at this ⊢;omega
  have hne:nameOf e=n.toList:=by unfold nameOf;rw[hn];rfl
  refine bc.push (E:=EN) IT (x:=n.toList) o1 (by have:=wM n;unfold Jb at this;simp[EN,this]) (by omega) (by omega) fun s2 A2 o2 g2 _=>?_
  have lp:p<Ab.size:=aL p1
  have tp:∀b,ai s b→b≠p:=fun b hb=>by have:=i5 b hb;omega
  have p2:ag A2 p vh #[s.v]:=p1.mod g2.1 (fun hb=>tp _ hb rfl)
  have i6s:=i6.size
  have t2:∀b,ai s2 b→HB.size<b:=fun b hb=>by
   rcases g2.2 b hb with q|q
   ·exact i5 b q
   ·omega
  have p2st:=p2.st (i:=0) (v:=s2.v) (by simp) rfl (K:=fun H5=>H5[l]?=some (.loop (rec .busy none))∧(fun b A'=>b=true∧I (ls++[e]) A'∧A'[m]?=A[m]?∧A'[HB.size]?=A[HB.size]?) true (H5.setIfInBounds l (.loop (rec .ready none))))
  rw[show (Addr.add ⟨p,0,none⟩ 0)=⟨p,0,none⟩ from rfl] at p2st
  refine p2st fun A3 p3 m3 s3=>?_
  have l2:A2[l]?=some (.loop (rec .busy none)):=g2.1.at lAb (fun hb=>tl _ hb rfl)
  have l3:A3[l]?=some (.loop (rec .busy none)):=m3.at l2 (by omega)
  refine⟨l3,rfl,⟨gH l3,?_,⟨s2,?_,?_,t2⟩,?_⟩,?_,?_⟩
  ·have m4:Mod (fun b=>b=l) A3 (A3.setIfInBounds l (.loop (rec .ready none))):=Mod.setObj rfl
   exact m4.at (m3.at (g2.1.at (mAb.at i2 (by omega)) (fun hb=>by have:=i5 _ hb;omega)) (by omega)) (by omega)
  ·have m4:Mod (fun b=>b=l) A3 (A3.setIfInBounds l (.loop (rec .ready none))):=Mod.setObj rfl
   exact ag.mod (show ag A3 p vh #[s2.v] from p3) m4 hpl
  ·have m4:Mod (fun b=>b=l) A3 (A3.setIfInBounds l (.loop (rec .ready none))):=Mod.setObj rfl
   rw[List.map_append,List.map_cons,List.map_nil,hne]
   refine o2.aq fun b hb hbl=>?_
   have:=t2 b hb
   exact(m4.same b (by omega) (by omega)).trans (m3.same b hbl (by omega))
  ·have m4:Mod (fun b=>b=l) A3 (A3.setIfInBounds l (.loop (rec .ready none))):=Mod.setObj rfl
   have z2:=g2.1.size
   refine i6.trans' (G:=fun b=>(b=l∨ai s b)∨b=p) ?_ ?_
   ·exact(((mAb.mono fun b _ e=>.inl (.inl e)).trans (g2.1.mono fun b _ e=>.inl (.inr e))).trans (m3.mono fun b _ e=>.inr e)).trans (m4.mono fun b _ e=>.inl (.inl e))
   ·rintro b hb ((e|e)|e)
    ·exact .inr (.inl e)
    ·have:=i5 b e;omega
    ·exact .inl e
  ·have m4:Mod (fun b=>b=l) A3 (A3.setIfInBounds l (.loop (rec .ready none))):=Mod.setObj rfl
   have z2:=g2.1.size
   have hmAl:=aL hmA
   exact(m4.same _ (by omega) (by omega)).trans ((m3.same _ (by omega) (by omega)).trans ((g2.1.same _ (by omega) (fun hb=>by have:=i5 _ hb;omega)).trans (mAb.same _ hmAl (by omega))))
  ·have m4:Mod (fun b=>b=l) A3 (A3.setIfInBounds l (.loop (rec .ready none))):=Mod.setObj rfl
   have z2:=g2.1.size
   exact(m4.same _ (by omega) (by omega)).trans ((m3.same _ (by omega) (by omega)).trans ((g2.1.same _ (by omega) (fun hb=>by have:=i5 _ hb;omega)).trans (mAb.same _ (by omega) (by omega))))
 ·rintro ls A ⟨i1,i2,⟨s,i3,i4,i5⟩,i6⟩ hperm
  refine⟨.ready,none,i1,rfl,?_⟩
  show ld an _ _ _
  have m4:Mod (fun b=>b=l) A (A.setIfInBounds l (.loop (rec .exhausted none))):=Mod.setObj rfl
  have p4:=i3.mod m4 (by omega)
  refine p4.ld (c:=an) (i:=0) (x:=s) rfl ?_
  have r4:=m4.at i2 (by omega)
  refine⟨r4,?_⟩
  have m5:Mod (fun b=>b=r) (A.setIfInBounds l (.loop (rec .exhausted none))) ((A.setIfInBounds l (.loop (rec .exhausted none))).setIfInBounds r (.deferred none)):=Mod.setObj rfl
  have z6:=i6.size
  have z4:=m4.size
  refine hK s ls _ ?_ hperm ?_ (fun b hb=>by have:=i5 b hb;omega)
  ·refine i4.aq fun b hb hbl=>?_
   have:=i5 b hb
   exact(m5.same b (by omega) (by omega)).trans (m4.same b hbl (by omega))
  ·have z5:=m5.size
   refine⟨by omega,fun b hb _=>(m5.same b (by omega) (by omega)).trans ((m4.same b (by omega) (by omega)).trans ((i6.same b (by omega) (by omega)).trans ((eB.same b (by omega) id).trans (m1.same b hb id))))⟩
theorem Ha {F:Nat→Prop} {d:Nat} {s:Dk} {H:aa} {K:Sl→aa→Prop} (h:bU F H d s) (hK:∀l H',bc EN tj H' l s.list→Mod (fun _=>False) H H'→(∀b,ai l b→H.size≤b)→K l H'):G0.sp (aI d) H K:=by
 obtain⟨x,cin,kp,g,hF⟩:=h
 refine G0.of ?_
 unfold G0.vc
 refine nK g.head (down:=s.down) rfl ?_
 cases hd:s.down with
 |true=>
   refine aZ rfl (hK _ H ?_ (.refl _ _) (by rintro b ⟨ad,q,_⟩;cases q))
   unfold Dk.list;rw[hd];exact bc.nil _ _ _
 |false=>
   refine aA rfl ?_
   refine g.head.ld (c:=cJ) (i:=0) (x:=some x.m) rfl ?_
   refine Ju.of ?_
   unfold Ju.vc
   refine ak fun H1 s1 r1 m1=>?_
   refine Jw.of ?_
   unfold Jw.vc
   refine I6.of ?_
   unfold I6.vc
   have hm1:cd .string H1 x.m x.es x.clk:=g.files.map.aq (m1.same _ g.files.map.lt id)
   have hfl:=g.wf.files
   have hsz:=g.files.size
   refine tW hm1 r1 (fun e he=>?_) (by omega) fun sl ls H2 o2 hp m2 f2=>?_
   ·obtain⟨i,f,gf,_,_,h3,_⟩:=g.files.ent' e.key e.val ⟨e,he,rfl,rfl⟩
    exact⟨_,h3⟩
   have hpn:(ls.map nameOf).Perm (s.files.map fun f=>f.name.toList):=by
    have h1:=((hp.map (·.key)).trans (g.files.perm g.wf)).map fun k=>match Au k with|some n=>n.toList|none=>[]
    rw[List.map_map,List.map_map] at h1
    exact h1
   have hln:(ls.map nameOf).length≤4096:=by rw[hpn.length_eq];simpa using hfl
   refine vu o2 (by omega) fun H3 o3 m3=>?_
   rw[qm hpn] at o3
   have z1:=m1.size;have z2:=m2.size;have z3:=m3.size
   refine hK sl H3 ?_ ⟨by omega,fun b hb _=>(m3.same b (by omega) fun hh=>by have:=f2 b hh;omega).trans ((m2.same b (by omega) id).trans (m1.same b hb id))⟩ (fun b hb=>by have:=f2 b hb;omega)
   unfold Dk.list;rw[hd];exact o3
section
variable {H A:aa} {d:Nat} {s:Dk} {n:ByteArray}
end
theorem Cf [Tab] {x:Int} (h:0≤x∧x<18446744073709551616):dm (ie (dL (dh [x])))=x:=by
 rw[lX (ka _)]
 have h8:(dh [x]).length=8:=by simp[dh,dy]
 have a:=xw h8
 obtain⟨b,_⟩:=sq (L:=[[x]]) (w:=1) (by omega) (by simp) (fun l hl=>by simp at hl;subst hl;intro y hy;simp at hy;subst hy;exact h)
 have e:[[x]].flatMap dh=dh [x]:=by simp
 rw[e] at b
 have c:=a.symm.trans b
 simpa using c
def EH (n:ByteArray) (W:Nat) (m:Nat):RR:=⟨⟨n,W,0,false⟩,m,0,none,[]⟩
theorem Pl.uG [Tab] (s:Pl) (n:ByteArray) (g:Int):(s.look n g).1.d.aH≤s.d.aH+1:=by
 have a:=s.nc n g
 unfold Pl.look
 split
 ·exact a
 ·split
  ·exact a
  ·simp only
   rw[Pl.vC];exact a
theorem xV [Tab] (s:Pl) (n:ByteArray) (W:Int):(rnOpen s n W).1.d.aH≤s.d.aH+1:=by
 have a:=s.uG n 0
 unfold rnOpen
 split
 ·exact Nat.le_succ _
 ·split
  ·exact a
  ·split
   ·exact a
   ·split
    ·exact a
    ·split<;>exact a
theorem RR.CD [Tab] (r:RR) (s:Pl) (j:Nat):(r.load s j).1.d.aH≤s.d.aH+1:=by
 have:=s.uG r.b.name ((j:Int)+1)
 unfold RR.load
 split
 ·exact Nat.le_succ _
 ·split
  ·exact this
  ·split<;>exact this
theorem RR.Cz [Tab] (r:RR) (s:Pl):(r.next s).1.d.aH≤s.d.aH+1:=by
 have:=r.CD s (r.at_/r.b.room)
 unfold RR.next
 split
 ·exact Nat.le_succ _
 ·split
  ·exact Nat.le_succ _
  ·split<;>exact this
end Go.Proofs.YtacfhncgbgijhaaGreat
namespace Go.Proofs.YtacfhncgbgijhaaGreat
structure Bd [Tab] (s:Pl) (x y:Nat):Prop where
 fit:s.Fit
 lo:0≤s.next
 hi:s.next≤(x:Int)
 aH:s.d.aH≤y
section
variable {s:Pl} {x y:Nat} {n:ByteArray} {w:RW} {r:RR} {W:Int}
theorem Bd.mono [Tab] {x' y':Nat} (h:Bd s x y) (hx:x≤x') (hy:y≤y'):Bd s x' y':=⟨h.fit,h.lo,by have:=h.hi;omega,Nat.le_trans h.aH hy⟩
theorem Pl.Ja [Tab] {k:Int} (h0:0≤s.next) (h1:s.next<1099511627776):s.next≤(s.bn n k).1.next:=by
 unfold Pl.bn
 split
 ·exact Int.le_refl _
 ·split
  ·rw[Pl.sj s _ h0 h1];omega
  ·rcases s.lL n k with ⟨e,he⟩|⟨e,he⟩|⟨f,he,_⟩
   ·rw[he];show _≤(s.met e).next;rw[(s.eI e).2.2.1];omega
   ·rw[he];show _≤(s.room.1.met e).next;rw[(s.room.1.eI e).2.2.1,s.cr.2.1];omega
   ·rw[he];show _≤(s.room.1.take f).next;rw[Pl.lu _ _ (by rw[s.cr.2.1];exact h0) (by rw[s.cr.2.1];exact h1),s.cr.2.1];omega
theorem Pl.E6 [Tab] (h0:0≤s.next) (h1:s.next<1099511627776):s.next≤(s.fresh n).1.next:=by
 have hr:=s.cr.2.1
 unfold Pl.fresh
 split
 ·exact Int.le_refl _
 ·split
  ·show _≤(s.met _).next;rw[(s.eI _).2.2.1];omega
  ·split
   ·show _≤(s.room.1.met _).next;rw[(s.room.1.eI _).2.2.1,hr];omega
   ·split
    ·show _≤((s.room.1.bF _).met _).next
     rw[((s.room.1.bF _).eI _).2.2.1]
     show _≤s.room.1.next;rw[hr];omega
    ·show _≤((s.room.1.bF _).take _).next
     rw[Pl.lu _ _ (by show 0≤s.room.1.next;rw[hr];exact h0) (by show s.room.1.next<_;rw[hr];exact h1)]
     show _≤s.room.1.next+1;rw[hr];omega
theorem Bd.bn [Tab] (h:Bd s x y) (hx:x<1000000000000) (k:Int):Bd (s.bn n k).1 (x+1) (y+1):=by
 have a:=h.lo
 have b:=h.hi
 have c:=s.sS (n:=n) (k:=k) a (by omega)
 have d:=s.Ja (n:=n) (k:=k) a (by omega)
 have e:=s.nc n k
 have f:=h.aH
 exact⟨h.fit.bn n k,by omega,by omega,by omega⟩
theorem Bd.fresh [Tab] (h:Bd s x y) (hx:x<1000000000000):Bd (s.fresh n).1 (x+1) (y+2):=by
 have a:=h.lo
 have b:=h.hi
 have c:=s.rv (n:=n) a (by omega)
 have d:=s.E6 (n:=n) a (by omega)
 have e:=s.yB n
 have f:=h.aH
 exact⟨h.fit.fresh n,by omega,by omega,by omega⟩
theorem Bd.set [Tab] (h:Bd s x y) (c:Int) (k:UInt8) (b:List UInt8):Bd (s.set c k b).1 x y:=
 ⟨h.fit.set c k b,by rw[Pl.nz];exact h.lo,by rw[Pl.nz];exact h.hi,by rw[Pl.DC];exact h.aH⟩
theorem Bd.aQ [Tab] (h:Bd s x y) (c:Int):Bd (s.aQ c).1 x y:=
 ⟨h.fit.aQ c,by rw[Pl.qM];exact h.lo,by rw[Pl.qM];exact h.hi,by rw[Pl.vC];exact h.aH⟩
theorem Bd.leave [Tab] {q:Pl×Int} (h:Bd q.1 x y) (c:Int):Bd (Pl.leave q c).1 x y:=by
 unfold Pl.leave
 split
 ·exact h.aQ c
 ·exact h
theorem Bd.more [Tab] (h:Bd s x y) (hx:x<1000000000000) (k:UInt8) (b:List UInt8):Bd (s.more n k b).1 (x+1) (y+2):=by
 have f:=h.fresh (n:=n) hx
 unfold Pl.more
 split
 ·exact f
 ·refine Bd.leave ?_ _
  split
  ·exact f
  ·exact f.set _ _ _
theorem Bd.look [Tab] (h:Bd s x y) (hx:x<1000000000000) (k:Int):Bd (s.look n k).1 (x+1) (y+1):=by
 have f:=h.bn (n:=n) hx k
 unfold Pl.look
 split
 ·exact f
 ·split
  ·exact f
  ·exact f.aQ _
theorem Bd.create [Tab] (h:Bd s x y):Bd (s.bF (s.d.create n).1) x y:=
 ⟨h.fit.bF (s.d.nJ n),h.lo,h.hi,Nat.le_trans (s.d.pO n) h.aH⟩
theorem Bd.out [Tab] (h:Bd s x y) (hx:x<1000000000000):Bd (w.out s).1 (x+1) (y+2):=by
 have m:=h.mono (Nat.le_succ x) (Nat.le_add_right y 2)
 unfold RW.out
 split
 ·exact m
 ·exact h.more hx _ _
theorem Bd.add [Tab] (h:Bd s x y) (hx:x<1000000000000) (l:List Int):Bd (w.add s l).1 (x+1) (y+2):=by
 have m:=h.mono (Nat.le_succ x) (Nat.le_add_right y 2)
 unfold RW.add
 split
 ·exact m
 ·split
  ·exact m
  ·split
   ·exact m
   ·split
    ·exact m
    ·exact h.out hx
theorem Bd.make [Tab] (h:Bd s x y) (hx:x<1000000000000):Bd (bo s n W).1 (x+1) (y+2):=by
 have m:=h.mono (Nat.le_succ x) (Nat.le_add_right y 2)
 have c:=h.create (n:=n)
 unfold bo
 split
 ·exact m
 ·split
  ·exact c.mono (Nat.le_succ x) (Nat.le_add_right y 2)
  ·split<;>exact c.more hx _ _
theorem Bd.open [Tab] (h:Bd s x y) (hx:x<1000000000000):Bd (rnOpen s n W).1 (x+1) (y+1):=by
 have m:=h.mono (Nat.le_succ x) (Nat.le_succ y)
 have c:=h.look (n:=n) hx 0
 unfold rnOpen
 split
 ·exact m
 ·split
  ·exact c
  ·split
   ·exact c
   ·split
    ·exact c
    ·split<;>exact c
theorem Bd.load [Tab] (h:Bd s x y) (hx:x<1000000000000) (j:Nat):Bd (r.load s j).1 (x+1) (y+1):=by
 have m:=h.mono (Nat.le_succ x) (Nat.le_succ y)
 have c:=h.look (n:=r.b.name) hx ((j:Int)+1)
 unfold RR.load
 split
 ·exact m
 ·split
  ·exact c
  ·split<;>exact c
theorem Bd.next [Tab] (h:Bd s x y) (hx:x<1000000000000):Bd (r.next s).1 (x+1) (y+1):=by
 have m:=h.mono (Nat.le_succ x) (Nat.le_succ y)
 have c:=h.load (r:=r) hx (r.at_/r.b.room)
 unfold RR.next
 split
 ·exact m
 ·split
  ·exact m
  ·split<;>exact c
theorem iT [Tab] {n:ByteArray}:∀(l:List Nat) {s:Pl},(Pl.aE n l s).1.fs.length=s.fs.length
 |[],s=>rfl
 |k::l,s=>by
   unfold Pl.aE
   split
   ·rename_i i _
    have hk:(s.put i).1.fs.length=s.fs.length:=by simpa using congrArg List.length (s.rk i)
    split
    ·split
     ·rw[iT l];exact hk
     ·exact hk
    ·exact iT l
   ·exact iT l
theorem Bd.flush [Tab] (h:Bd s x y) (hf:s.fs.length≤4096):Bd (s.flush n).1 x (y+4096):=
 ⟨h.fit.flush n,by rw[Pl.lS];exact h.lo,by rw[Pl.lS];exact h.hi,by have:=s.yW n;have:=h.aH;omega⟩
theorem Pl.vJ [Tab] (r:Pl×Int):(Pl.out r).1.fs.length=r.1.fs.length:=by
 show (r.1.met r.2).fs.length=_
 rw[(r.1.eI r.2).2.1]
theorem Pl.Ba [Tab] (s:Pl) (n:ByteArray):(s.flush n).1.fs.length=s.fs.length:=by
 unfold Pl.flush
 split
 ·rfl
 ·split
  ·exact Pl.vJ _
  ·split
   ·rw[Pl.vJ];exact iT _
   ·rw[Pl.vJ];exact iT _
theorem Bd.head [Tab] (h:Bd s x y) (hx:x<1000000000000) (hw:(w.head s).1.fs.length≤4096):Bd (w.head s).1 (x+1) (y+4100):=by
 have f:=h.bn (n:=w.b.name) hx 0
 unfold RW.head at hw ⊢
 split
 ·exact f.mono (Nat.le_refl _) (by omega)
 ·rename_i h1
  rw[if_neg h1] at hw
  have g:=(f.set (s.bn w.b.name 0).2.1 2 (cD w.b.width w.rows))
  have g2:=Bd.leave (q:=(s.bn w.b.name 0).1.set (s.bn w.b.name 0).2.1 2 (cD w.b.width w.rows)) g (s.bn w.b.name 0).2.1
  split
  ·exact g2.mono (Nat.le_refl _) (by omega)
  ·rename_i h2
   rw[if_neg h2,Pl.Ba] at hw
   exact(g2.flush (n:=w.b.name) hw).mono (Nat.le_refl _) (by omega)
theorem Bd.close [Tab] (h:Bd s x y) (hx:x<999999999999) (hw:(w.close s).1.fs.length≤4096):Bd (w.close s).1 (x+2) (y+4200):=by
 have o:=h.out (w:=w) (by omega)
 unfold RW.close at hw ⊢
 split
 ·exact h.mono (by omega) (by omega)
 ·rename_i h1
  rw[if_neg h1] at hw
  split
  ·exact o.mono (by omega) (by omega)
  ·rename_i h2
   rw[if_neg h2] at hw
   have e:((w.out s).2.1.ends (w.out s).1).1=((w.out s).2.1.head (w.out s).1).1:=by unfold RW.ends;split<;>rfl
   rw[e] at hw ⊢
   exact(o.head (by omega) hw).mono (by omega) (by omega)
theorem Bd.dt [Tab] (h:Bd s x y):Bd (s.dt n).1 x y:=
 ⟨h.fit.dt n,by rw[Pl.qH];exact h.lo,by rw[Pl.qH];exact h.hi,Nat.le_trans (s.rO n) h.aH⟩
end
open Go.MapKept
def vY:gr ByteArray:=⟨1,fun x=>[.string x],fun _=>rfl,fun x u hu=>by simp at hu;subst hu;rfl⟩
theorem Jm:y8 Tryz.prog vh tj 1 16:=kS (by kernel_rfl)
theorem KJ:y8 Tryz.prog Kq KU 1 8:=kS (by kernel_rfl)
theorem gJ.one [Tab] {α:Type} {E:gr α} {H:aa} {s:Sl} {l:List α} (h:gJ E H s.a l) (hn:s.n=l.length) (hs:E.size=1) {i:Nat} {x:α} {c:fe} {y:c.α} (hi:l[i]?=some x) (hy:E.enc x=[c.enc y]) {K:c.α→Prop} (hK:K y):
  ae s.a fun a=>(0≤(i:Int)∧(i:Int)<(s.n:Int))∧Go.Proofs.YtacfhncgbgijhaaGreat.ld c H (a.add ((i:Int).toNat*1)) K:=by
 have hl:=(List.getElem?_eq_some_iff.1 hi).1
 obtain⟨ad,ha⟩:=h.addr (by omega) (by omega)
 refine bT ad ha ⟨⟨by omega,by omega⟩,?_⟩
 have:=gJ.ld (c:=c) (K:=K) h ha (i:=i) (j:=0) hi (by rw[hy];rfl) (n:=i*1) (by rw[hs]) hK
 rw[add_add] at this
 rw[Int.toNat_natCast]
 exact this
theorem wq [Tab] {s:Pl} {n:ByteArray} {W:Int}:((rnOpen s n W).2.1=none→(rnOpen s n W).2.2≠0)∧((rnOpen s n W).2.1≠none→(rnOpen s n W).2.2=0):=by
 unfold rnOpen
 split
 ·exact⟨fun _=>by simp,fun q=>absurd rfl q⟩
 ·split
  ·rename_i h;exact⟨fun _=>h,fun q=>absurd rfl q⟩
  ·split
   ·exact⟨fun _=>by simp,fun q=>absurd rfl q⟩
   ·split
    ·rename_i h;exact⟨fun _=>h,fun q=>absurd rfl q⟩
    ·split
     ·exact⟨fun q=>(by cases q),fun _=>rfl⟩
     ·exact⟨fun _=>by simp,fun q=>absurd rfl q⟩
theorem rW [Tab] {W:Int}:∀{ns:List ByteArray} {s:Pl} {x y:Nat},Bd s x y→x+ns.length<1000000000000→Bd (bf W ns s).1 (x+ns.length) (y+ns.length)
 |[],s,x,y,h,_=>h
 |n::ns,s,x,y,h,hx=>by
   rw[List.length_cons] at hx ⊢
   have h1:=h.open (n:=n) (W:=W) (by omega)
   simp only[bf]
   split
   ·exact h1.mono (by omega) (by omega)
   ·have:=rW (W:=W) (ns:=ns) h1 (by omega)
    exact this.mono (by omega) (by omega)
theorem RR.mr [Tab] {r:RR} (h:r.Ok) (s:Pl):(r.next s).2.1.Ok∧(r.next s).2.1.b.name=r.b.name∧(r.next s).2.1.rows=r.rows∧((r.next s).2.2.2.1=true→r.at_<r.rows∧(r.next s).2.1.at_=r.at_+1∧(r.next s).2.2.2.2=0∧(r.next s).2.2.1.length≤16)∧((r.next s).2.2.2.1=false→(r.next s).2.1.at_=r.at_):=by
 obtain⟨k1,k2,k3,k4,k5,k6⟩:=RR.qu (s:=s) (j:=r.at_/r.b.room) h
 have ha:=h.at_
 unfold RR.next
 split
 ·exact⟨h,rfl,rfl,fun q=>(by cases q),fun _=>rfl⟩
 ·split
  ·exact⟨h,rfl,rfl,fun q=>(by cases q),fun _=>rfl⟩
  ·rename_i hne
   split
   ·exact⟨k1,k5,k2,fun q=>(by cases q),fun _=>k3⟩
   ·refine⟨⟨k1.room,?_,k1.page,k1.rows,k1.cols⟩,k5,k2,fun _=>⟨by omega,rfl,rfl,?_⟩,fun q=>(by cases q)⟩
    ·show r.at_+1≤(r.load s (r.at_/r.b.room)).2.1.rows
     rw[k2];omega
    ·show ((r.load s (r.at_/r.b.room)).2.1.ins.getD (r.at_%r.b.room) []).length≤16
     rw[List.getD]
     cases e:(r.load s (r.at_/r.b.room)).2.1.ins[r.at_%r.b.room]? with
     |none=>exact Nat.zero_le _
     |some q=>exact k1.cols q (List.mem_of_getElem? e)
structure tz where
 k:Nat
 r:RR
 si:Sl
 srs:List Sl
def tz.own (x:tz) (b:Nat):Prop:=nu x.k x.si x.srs b
structure eK [Tab] (H0:aa) (F0:Nat→Prop) (col:Nat→Nat) (p dp:Nat) (F:Nat→Prop) (A:aa) (s:Pl) (xs:List tz) (l:Sl):Prop where
 pool:al F A p dp s
 rds:∀(i:Nat) (x:tz),xs[i]?=some x→ux A x.k p x.r x.si x.srs
 oks:∀x∈xs,x.r.Ok∧x.r.b.name.size≤9223372036854775807
 list:bc eP KU A l (xs.map (·.k))
 cF:∀b,F b→col b=0∧(F0 b∨H0.size≤b)
 cR:∀(i:Nat) (x:tz),xs[i]?=some x→∀b,x.own b→col b=5+i∧H0.size≤b
 cL:∀b,ai l b→col b=4∧H0.size≤b
 mod:Mod F0 H0 A
section
variable {H0 A:aa} {F0 F:Nat→Prop} {col:Nat→Nat} {p dp:Nat} {s:Pl} {xs:List tz} {l:Sl}
theorem eK.gl [Tab] (h:eK H0 F0 col p dp F A s xs l) (hg:Gl H0) (h0:¬F0 aY):Gl A:=hg.mod h.mod h0
theorem eK.step [Tab] (h:eK H0 F0 col p dp F A s xs l):Step F0 F H0 A:=⟨h.mod,fun b hb=>(h.cF b hb).2⟩
theorem eK.lt [Tab] (h:eK H0 F0 col p dp F A s xs l) {i:Nat} {x:tz} (hx:xs[i]?=some x):∀b,x.own b→b<A.size:=(h.rds i x hx).lt
theorem eK.sQ [Tab] {G:Nat→Prop} {F':Nat→Prop} {B:aa} {s':Pl} {col':Nat→Nat} (h:eK H0 F0 col p dp F A s xs l) (hp:al F' B p dp s') (m:Mod G A B) (hG:∀b,b<A.size→G b→col b<4) (hG0:∀b,b<H0.size→G b→F0 b)
  (hF:∀b,F' b→col' b=0∧(F0 b∨H0.size≤b)) (hc:∀b,b<A.size→4≤col b→col' b=col b):eK H0 F0 col' p dp F' B s' xs l:=by
 refine⟨hp,fun i x hx=>(h.rds i x hx).mod m fun b hb q=>?_,h.oks,h.list.mod m fun b hb q=>?_,hF,fun i x hx b hb=>?_,fun b hb=>?_,h.mod.trans' m hG0⟩
 ·have:=hG b (h.lt hx b hb) q
  have:=(h.cR i x hx b hb).1
  omega
 ·have:=hG b (h.list.lt b hb) q
  have:=(h.cL b hb).1
  omega
 ·have:=h.cR i x hx b hb
  rw[hc b (h.lt hx b hb) (by omega)];exact this
 ·have:=h.cL b hb
  rw[hc b (h.list.lt b hb) (by omega)];exact this
theorem eK.ext [Tab] {B:aa} (h:eK H0 F0 col p dp F A s xs l) (e:Ext A B):eK H0 F0 col p dp F B s xs l:=
 h.sQ (h.pool.ext e) e (fun _ _ q=>q.elim) (fun _ _ q=>q.elim) h.cF fun _ _ _=>rfl
theorem nF (col:Nat→Nat) (n:Nat) (X Y Z:Nat→Prop) (cx cy cz:Nat) (h1:∀b,X b→¬Y b) (h2:∀b,X b→¬Z b) (h3:∀b,Y b→¬Z b):∃col':Nat→Nat,(∀b,b<n→col' b=col b)∧∀b,n≤b→(X b→col' b=cx)∧(Y b→col' b=cy)∧(Z b→col' b=cz):=by
 classical
 refine⟨fun b=>if b<n then col b else if X b then cx else if Y b then cy else cz,fun b hb=>if_pos hb,fun b hb=>⟨fun q=>?_,fun q=>?_,fun q=>?_⟩⟩
 ·show (if b<n then _ else _)=_
  rw[if_neg (by omega),if_pos q]
 ·show (if b<n then _ else _)=_
  rw[if_neg (by omega),if_neg fun u=>h1 b u q,if_pos q]
 ·show (if b<n then _ else _)=_
  rw[if_neg (by omega),if_neg fun u=>h2 b u q,if_neg fun u=>h3 b u q]
theorem eK.next [Tab] {K:(Sl×Bool×Int)→aa→Prop} {i:Nat} {x:tz} {u v:Nat} (h:eK H0 F0 col p dp F A s xs l) (hg:Gl H0) (h0:¬F0 aY) (hx:xs[i]?=some x) (b:Bd s u v) (hu:u<1000000000000) (hv:v<68719470000)
  (hK:∀F' B col' x' row,eK H0 F0 col' p dp F' B (x.r.next s).1 (xs.set i x') l→x'.k=x.k→x'.r=(x.r.next s).2.1→au B 0 fx 1 row ((x.r.next s).2.2.1.map (Value.int .u64))→(∀b,ai row b→A.size≤b∧col' b=3)→(∀b,b<A.size→col' b=col b)→Mod (fun b=>F b∨b=x.k) A B→
   K (row,(x.r.next s).2.2.2.1,(x.r.next s).2.2.2.2) B):CO.sp (aI x.k) A K:=by
 have hxm:=List.mem_of_getElem? hx
 obtain⟨ok,hn⟩:=h.oks x hxm
 have hi:=(List.getElem?_eq_some_iff.1 hx).1
 have hgA:=h.gl hg h0
 have dis:∀b,F b→¬nu x.k x.si x.srs b:=fun b hb q=>by
  have:=(h.cF b hb).1
  have:=(h.cR i x hx b q).1
  omega
 have hlo:=b.lo
 have hhi:=b.hi
 have hlg:=b.aH
 have hgs:aY≠x.k:=fun q=>by
  have:=(h.cR i x hx x.k (.inl rfl)).2
  have:=hg.lt
  omega
 refine C4 hgA h.pool.fF hgs (⟨h.pool,h.rds i x hx,dis,.refl _ _,fun _ q=>.inl q,fun _ q=>.inl q⟩:iR A F (nu x.k x.si x.srs) x.k p dp x.si x.srs F A s x.r) ok hn (by omega) (by omega) hlo fun F' si' srs' B row g o f=>?_
 obtain⟨col',c1,c2⟩:=nF col A.size F' (nu x.k si' srs') (ai row) 0 (5+i) 3 g.dis (fun b q r=>(f b r).2.1 q) (fun b q r=>(f b r).2.2 q)
 have ok':=RR.mr ok s
 have z:=g.mod.size
 have aq:∀(j:Nat) (y:tz),j≠i→xs[j]?=some y→∀b,y.own b→¬(F b∨b=x.k):=fun j y hj hy b hb q=>by
  have c:=(h.cR j y hy b hb).1
  rcases q with q|q
  ·have:=(h.cF b q).1;omega
  ·have:=(h.cR i x hx b (by subst q;exact .inl rfl)).1;omega
 refine hK F' B col' ⟨x.k,(x.r.next s).2.1,si',srs'⟩ row ⟨g.pool,fun j y hy=>?_,fun y hy=>?_,?_,fun b hb=>?_,fun j y hy b hb=>?_,fun b hb=>?_,?_⟩ rfl rfl o (fun b hb=>⟨(f b hb).1,(c2 b (f b hb).1).2.2 hb⟩) c1 g.mod
 ·by_cases q:j=i
  ·subst q
   rw[List.getElem?_set_self hi] at hy
   cases hy
   exact g.rd
  ·rw[List.getElem?_set_ne (Ne.symm q)] at hy
   exact(h.rds j y hy).mod g.mod (aq j y q hy)
 ·rcases List.mem_or_eq_of_mem_set hy with q|q
  ·exact h.oks y q
  ·subst q
   exact⟨ok'.1,by show (x.r.next s).2.1.b.name.size≤_;rw[ok'.2.1];exact hn⟩
 ·have e:(xs.set i ⟨x.k,(x.r.next s).2.1,si',srs'⟩).map (·.k)=xs.map (·.k):=by
   rw[List.map_set]
   apply List.ext_getElem?
   intro j
   rw[List.getElem?_set]
   split
   ·rename_i q
    subst q
    rw[List.getElem?_map,hx]
    simp[hi]
   ·rfl
  rw[e]
  exact h.list.mod g.mod fun b hb q=>by
   have c:=(h.cL b hb).1
   rcases q with q|q
   ·have:=(h.cF b q).1;omega
   ·have:=(h.cR i x hx b (by subst q;exact .inl rfl)).1;omega
 ·rcases g.own b hb with q|q
  ·rw[c1 b (h.pool.lt b q)];exact h.cF b q
  ·exact⟨(c2 b q).1 hb,.inr (by have:=h.mod.size;omega)⟩
 ·by_cases q:j=i
  ·subst q
   rw[List.getElem?_set_self hi] at hy
   cases hy
   rcases g.own2 b hb with q|q
   ·rw[c1 b (h.lt hx b q)];exact h.cR j x hx b q
   ·exact⟨(c2 b q).2.1 hb,by have:=h.mod.size;omega⟩
  ·rw[List.getElem?_set_ne (Ne.symm q)] at hy
   rw[c1 b (h.lt hy b hb)];exact h.cR j y hy b hb
 ·rw[c1 b (h.list.lt b hb)];exact h.cL b hb
 ·refine h.mod.trans' g.mod fun b hb q=>?_
  rcases q with q|q
  ·exact(h.cF b q).2.resolve_right (by omega)
  ·have:=(h.cR i x hx b (by subst q;exact .inl rfl)).2;omega
end
open Go.MapKept Go.Sort
abbrev Qr:=Sl×List Int
def vn:gr Qr:=⟨1,fun x=>[x.1.v],fun _=>rfl,fun x u hu=>by simp at hu;subst hu;rfl⟩
theorem tL:∀args w,(callFunc ve.no args).run Tryz.prog w=.ok (.enter ve.no args) w:=enters_of Tryz.func14 (by kernel_rfl) rfl
theorem yk [Tab] {a b:Sl} {la lb:List Int} {H:aa} (ha:Ints .u64 H a la) (hb:Ints .u64 H b lb) (hl:la.length≤16):
  Spec Tryz.prog ve.no #[a.v,b.v] H fun v H'=>v=.int .i64 (aF la lb)∧Mod (fun _=>False) H H':=by
 have:=iE (H:=H) (K:=fun r H'=>r=aF la lb∧Mod (fun _=>False) H H') ha hb (by omega) ⟨rfl,.refl _ _⟩
 refine Spec.mono this fun v H' ⟨x,hx,h3,h4⟩=>?_
 subst hx
 exact⟨by rw[h3],h4⟩
theorem w7 {α:Type} {P:α→Prop}:∀{l:List α},(∀x∈l,P x)→∃m:List {x // P x},m.map (·.1)=l
 |[],_=>⟨[],rfl⟩
 |a::l,h=>by
   obtain⟨m,hm⟩:=w7 (l:=l) fun x hx=>h x (List.mem_cons_of_mem _ hx)
   exact⟨⟨a,h a List.mem_cons_self⟩::m,by rw[List.map_cons,hm]⟩
section
variable {H:aa} {s:Sl} {qs:List Qr}
structure kI (H:aa) (s:Sl) (qs:List Qr):Prop where
 out:bc vn gw H s qs
 own:∀q∈qs,au H 0 fx 1 q.1 (q.2.map (Value.int .u64))
 few:∀q∈qs,q.2.length≤16
theorem kI.off [Tab] (h:kI H s qs) {q:Qr} (hq:au H 0 fx 1 q.1 (q.2.map (Value.int .u64))):∀b,ai q.1 b→¬ai s b:=fun b hb=>hq.apart h.out (by decide) b hb
theorem mW [Tab] (qs:List Qr):vn.all qs=qs.map fun q=>q.1.v:=by
 induction qs with
 |nil=>rfl
 |cons q qs ih=>
   have:vn.all (q::qs)=q.1.v::vn.all qs:=rfl
   rw[this,ih];rfl
theorem zQ:∀{rs:List Sl} {ls:List (List Int)},rs.length=ls.length→(rs.zip ls).map (·.1)=rs∧(rs.zip ls).map (·.2)=ls
 |[],[],_=>⟨rfl,rfl⟩
 |[],_::_,h=>by simp at h
 |_::_,[],h=>by simp at h
 |a::rs,b::ls,h=>by
   obtain⟨h1,h2⟩:=zQ (rs:=rs) (ls:=ls) (by simpa using h)
   simp only[List.zip_cons_cons,List.map_cons,h1,h2]
   exact⟨trivial,trivial⟩
theorem ax.qr [Tab] {rs:List Sl} {ls:List (List Int)} (h:ax H 0 s rs ls) (hf:∀l∈ls,l.length≤16):kI H s (rs.zip ls):=by
 obtain⟨z1,z2⟩:=zQ h.len
 refine⟨?_,fun q hq=>?_,fun q hq=>?_⟩
 ·unfold bc
  rw[mW]
  have:((rs.zip ls).map fun q=>q.1.v)=rs.map Sl.v:=by
   conv=>rhs;rw[←z1]
   rw[List.map_map];rfl
  rw[this];exact h.out
 ·obtain⟨i,hi⟩:=List.mem_iff_getElem?.1 hq
  have a:rs[i]?=some q.1:=by rw[←z1,List.getElem?_map,hi];rfl
  have b:ls[i]?=some q.2:=by rw[←z2,List.getElem?_map,hi];rfl
  exact h.row i _ _ a b
 ·exact hf _ (by rw[←z2];exact List.mem_map.2 ⟨q,hq,rfl⟩)
theorem xG [Tab] {K:Unit→aa→Prop} (h:kI H s qs) (hl:qs.length≤1000000)
  (hK:∀qs' H',qs'.Perm qs→qs'.map (·.2)=bp (qs.map (·.2))→kI H' s qs'→Mod (ai s) H H'→K () H'):K4.sp s (.func (.func ve.no) #[] #[]) H K:=by
 let P:Qr→Prop:=fun q=>au H 0 fx 1 q.1 (q.2.map (Value.int .u64))∧q.2.length≤16
 obtain⟨la,hla⟩:=w7 (P:=P) (l:=qs) fun q hq=>⟨h.own q hq,h.few q hq⟩
 haveI:Inhabited {q // P q}:=⟨⟨(Sl.mk none 0 0,[]),au.nil _ _ _ _,Nat.zero_le _⟩⟩
 let E:gr {q // P q}:=⟨1,fun a=>[a.1.1.v],fun _=>rfl,fun x u hu=>by simp at hu;subst hu;rfl⟩
 have hEall:∀l:List {q // P q},E.all l=vn.all (l.map (·.1)):=by
  intro l
  induction l with
  |nil=>rfl
  |cons a l ih=>
    have q1:E.all (a::l)=a.1.1.v::E.all l:=rfl
    have q2:vn.all ((a::l).map (·.1))=a.1.1.v::vn.all (l.map (·.1)):=rfl
    rw[q1,q2,ih]
 have oE:∀{A:aa} {l:List {q // P q}},bc E gw A s l↔bc vn gw A s (l.map (·.1)):=by
  intro A l
  unfold bc
  rw[hEall]
  exact Iff.rfl
 let cf:{q // P q}→{q // P q}→Int:=fun a b=>aF a.1.2 b.1.2
 have hlt:∀a b,ltOf cf a b=decide (aF a.1.2 b.1.2<0):=fun a b=>rfl
 have hO:SWO (ltOf cf):=by
  refine⟨fun a=>by rw[hlt,cE];rfl,fun a b c h1 h2=>?_,fun a b c h1 h2=>?_⟩
  ·rw[hlt] at*
   simp only[decide_eq_true_eq] at*
   exact eW h1 h2
  ·rw[hlt] at*
   simp only[decide_eq_false_iff_not] at*
   have s1:=cI a.1.2 b.1.2
   have s2:=cI b.1.2 c.1.2
   have s3:=cI a.1.2 c.1.2
   have:=gK (a:=c.1.2) (b:=b.1.2) (c:=a.1.2) (by omega) (by omega)
   omega
 have hlal:la.length<4611686018427387904:=by
  have:=congrArg List.length hla
  rw[List.length_map] at this
  omega
 have tw:∀a:{q // P q},∀b,ai a.1.1 b→¬ai s b:=fun a=>h.off a.2.1
 refine tN (ρ:=re) (E:=E) (e:=fun a=>a.1.1.v) Jp (fun _=>rfl) rfl hO tL (by rw[oE,hla];exact h.out) hlal (fun A mA a b=>?_) fun l' A hP hS oA mA=>?_
 ·have i1:Ints .u64 A a.1.1 a.1.2:=(a.2.1.mod mA (tw a)).ints
  have i2:Ints .u64 A b.1.1 b.1.2:=(b.2.1.mod mA (tw b)).ints
  exact yk i1 i2 a.2.2
 ·rw[oE] at oA
  have hP2:(l'.map (·.1)).Perm qs:=by rw[←hla];exact hP.map _
  refine hK (l'.map (·.1)) A hP2 ?_ ⟨oA,fun q hq=>?_,fun q hq=>h.few q (hP2.mem_iff.1 hq)⟩ mA
  ·refine rX ((hP2.map _).trans (fh _).symm) ?_ (gI _)
   rw[List.map_map,List.pairwise_map]
   refine hS.imp fun {a b} q=>?_
   rw[hlt] at q
   simp only[decide_eq_false_iff_not] at q
   have:=cI a.1.2 b.1.2
   show aF a.1.2 b.1.2≤0
   omega
  ·exact(h.own q (hP2.mem_iff.1 hq)).mod mA (h.off (h.own q (hP2.mem_iff.1 hq)))
def gT:List Qr→List Qr
 |[]=>[]
 |a::l=>a::CR (·.2) a l
theorem Bg (l:List Qr):(gT l).map (·.2)=ay (l.map (·.2)):=by
 cases l with
 |nil=>rfl
 |cons a l=>simp only[gT,ay,List.map_cons];rw[vW]
theorem uU {l:List Qr} {q:Qr} (h:q∈gT l):q∈l:=by
 cases l with
 |nil=>exact h
 |cons a l=>
   rcases List.mem_cons.1 h with e|e
   ·rw[e];exact List.mem_cons_self
   ·exact List.mem_cons_of_mem _ (vH _ l a q e)
def uk:Qr→List Qr→Qr
 |a,[]=>a
 |_,c::l=>uk c l
theorem wO (b:Qr):∀(l:List Qr) (a:Qr),CR (·.2) a (l++[b])=if b.2=(uk a l).2 then CR (·.2) a l else CR (·.2) a l++[b]
 |[],a=>by
   by_cases e:b.2=a.2<;>simp[CR,uk,e]
 |c::l,a=>by
   have h2:=wO b l c
   rw[List.cons_append]
   simp only[CR,uk]
   rw[h2]
   split<;>split<;>simp
theorem qX [Tab]:∀(l:List Qr) (a:Qr) (j:Nat),j≤l.length→(a::l)[j]?=some (uk a (l.take j))
 |l,a,0,_=>by simp[uk]
 |[],a,j+1,h=>by simp at h
 |c::l,a,j+1,h=>by
   rw[List.getElem?_cons_succ,List.take_succ_cons]
   exact qX l c j (by simpa using h)
theorem rM [Tab] {l:List Qr} {i:Nat} {p q:Qr} (h0:0<i) (hq:l[i]?=some q) (hp:l[i - 1]?=some p):gT (l.take (i+1))=if q.2=p.2 then gT (l.take i) else gT (l.take i)++[q]:=by
 obtain⟨hi,hq'⟩:=List.getElem?_eq_some_iff.1 hq
 cases l with
 |nil=>simp at hi
 |cons a l=>
   obtain⟨j,rfl⟩:∃j,i=j+1:=⟨i - 1,by omega⟩
   have hj:j<l.length:=by simpa using hi
   rw[List.take_succ_cons,List.take_succ_cons]
   simp only[gT]
   have hlj:l[j]=q:=hq'
   rw[List.take_succ_eq_append_getElem hj,wO,hlj]
   have e:=qX l a j (by omega)
   rw[Nat.add_sub_cancel] at hp
   rw[hp] at e
   cases e
   split<;>simp
theorem JV:(Tryz.prog).underlying fG=some (.slice gw):=by obtain⟨inf,h,_⟩:=xI;exact h
theorem I5:∀w:World,(zeroValue gw).run Tryz.prog w=.ok (.slice none 0 0) w:=by
 obtain⟨inf,_,h1,h2,_⟩:=xI
 intro w
 simp[zeroValue,typeInfo,h1,h2]
theorem FV [Tab] {H:aa} {s:Sl} {ps:List Qr} {lo:Nat} {ty:TypeId} {K:Value→aa→Prop} (h:bc vn gw H s ps) (hlo:lo<ps.length)
  (hK:∀v H',bc vn gw H' (Sl.mk s.a lo s.c) (ps.take lo)→Mod (ai s) H H'→K v H'):
  bS eO Tryz.prog (Builtin.clear_ #[fG] ty #[(.slice (dM s.a s.c lo 1) (s.n - lo) (s.c - lo))]) H K:=by
 intro w hw
 subst hw
 have hn:=h.n (by decide)
 rcases h.2 with ⟨e1,e2⟩|⟨g,cap,cur,e1,hb,hg,h4,h5,h6,h7⟩
 ·omega
 ·cases s with
  |mk sa sn sc=>
  simp only[Sl.v,Value.slice.injEq] at e1
  obtain⟨rfl,_,rfl⟩:=e1
  simp only at hn h4 h7 hK ⊢
  have hE1:vn.size=1:=rfl
  rw[hE1,Nat.mul_one] at h6 h7
  have ea:dM (some ⟨g,0,none⟩) sc lo 1=some ⟨g,lo,none⟩:=by
   unfold dM
   rw[if_neg (by omega)]
   simp[bH]
  rw[ea]
  have hr:=Lib.run_clear_slice (P:=Tryz.prog) w fG gw ty (.slice none 0 0) JV I5 rfl rfl g lo (sn - lo) (sc - lo) (by omega) (fun j hj=>by simp[World.cell?,hg];omega) (fun j hj=>by simp[World.frozen?,hg])
  rw[ni (P:=Tryz.prog) hg (by simp;omega) (by intro v hv;rw[List.eq_of_mem_replicate hv];rfl)] at hr
  have hown:∀k,ai (Sl.mk (some ⟨g,0,none⟩) sn sc) k↔k=g:=fun k=>⟨fun⟨ad,h1,h2⟩=>by cases h1;exact h2.symm,fun h=>⟨_,rfl,h.symm⟩⟩
  refine⟨_,_,hr,⟨_,rfl,hK _ _ ?_ ⟨by simp[World.setRow],fun k _ hk=>setRow_other w g k _ (fun e=>hk ((hown k).2 e))⟩⟩,⟨rfl,Nat.le_refl _⟩⟩
  refine⟨by rw[mW];simp[hE1];omega,.inr ⟨g,sc,_,rfl,Nat.zero_le _,setRow_heap w g cur _ _ _ hg,by simp only;omega,h5,?_,?_⟩⟩
  ·simp only[hE1,Nat.mul_one,List.size_toArray,List.length_append,List.length_take,List.length_replicate,List.length_drop,Array.length_toList]
   omega
  ·simp only[hE1,Nat.mul_one]
   rw[List.append_assoc,List.take_append_of_le_length (by simp;omega),List.take_take,Nat.min_self]
   have e1:vn.all (ps.take lo)=(vn.all ps).take lo:=by rw[mW,mW,List.map_take]
   rw[e1,←h7,List.take_take,Nat.min_eq_left (by omega)]
theorem Aw {a b:Sl} {la lb:List Int} {H:aa} {K:Bool→aa→Prop} (ha:Ints .u64 H a la) (hb:Ints .u64 H b lb) (hl:la.length≤16) (hK:K (decide (la=lb)) H):Dh.sp a b H K:=by
 refine Dh.of ?_
 unfold Dh.vc
 refine iE ha hb (by omega) ?_
 have:(aF la lb==0)=decide (la=lb):=by
  by_cases e:la=lb
  ·rw[decide_eq_true e,cG.2 e];rfl
  ·rw[decide_eq_false e]
   have:aF la lb≠0:=fun q=>e (cG.1 q)
   simpa using this
 rw[this];exact hK
theorem kI.get [Tab] (h:kI H s qs) {i:Nat} {q:Qr} (hi:qs[i]?=some q) {K:Sl→Prop} (hK:K q.1):ae s.a fun a=>(0≤(i:Int)∧(i:Int)<(s.n:Int))∧Go.Proofs.YtacfhncgbgijhaaGreat.ld an H (a.add ((i:Int).toNat*1)) K:=
 gJ.one (E:=vn) (c:=an) h.out.rd (bc.n h.out (by decide)) rfl hi rfl hK
theorem kI.ints (h:kI H s qs) {q:Qr} (hq:q∈qs):Ints .u64 H q.1 q.2:=(h.own q hq).ints
theorem kI.oX [Tab] (h:kI H s qs) {k j:Nat} {q:Qr} (hi:qs[k+j]?=some q) {K:Sl→Prop} (hK:K q.1):ae (dM s.a s.c k 1) fun a=>(0≤(j:Int)∧(j:Int)<((s.n - k:Nat):Int))∧Go.Proofs.YtacfhncgbgijhaaGreat.ld an H (a.add ((j:Int).toNat*1)) K:=by
 have hn:=bc.n h.out (by decide)
 have hc:=au.cap h.out
 have hr:gJ vn H (dM s.a s.c k vn.size) (qs.drop k):=h.out.rd.drop (by omega)
 exact gJ.one (E:=vn) (c:=an) (s:=⟨dM s.a s.c k 1,s.n - k,s.c - k⟩) hr (by rw[List.length_drop];show s.n - k=_;omega) rfl (by rw[List.getElem?_drop];exact hi) rfl hK
set_option maxHeartbeats 1000000 in
theorem yD [Tab] {K:Sl→aa→Prop} (h:kI H s qs) (hl:qs.length≤1000000)
  (hK:∀n H',n=(gT qs).length→kI H' ⟨s.a,n,s.c⟩ (gT qs)→Mod (ai s) H H'→K ⟨s.a,n,s.c⟩ H'):Ix.sp s H K:=by
 refine Ix.of ?_
 unfold Ix.vc
 have hn:=bc.n h.out (by decide)
 have hcap:=au.cap h.out
 have whole:gT qs=qs→K s H:=fun e=>by
  have hs:s=⟨s.a,s.n,s.c⟩:=by cases s;rfl
  rw[hs]
  exact hK s.n H (by rw[e];exact hn) (by rw[e,←hs];exact h) (.refl _ _)
 refine aj (fun hc=>?_) (fun hc=>?_)
 ·have : qs.length < 2 := by have : (s.n : Int) < 2 := by simpa using hc
                             omega
  refine whole ?_
  match qs,this with
  |[],_=>rfl
  |[a],_=>rfl
 have h2 : 2 ≤ qs.length := by have : ¬ (s.n : Int) < 2 := by simpa using hc
                               omega
 refine aB (qs.length - 1) (fun k z A=>z=((k+1:Nat):Int)∧A=H∧gT (qs.take (k+1))=qs.take (k+1)) ⟨rfl,rfl,?_⟩ ?_
 ·match qs,h2 with
  |a::b::l,_=>rfl
 rintro k z A next hk ⟨rfl,rfl,ho⟩ hnext
 refine aj (fun hc=>?_) (fun hc=>?_)
 ·have hlt : k + 1 < qs.length := by have : ((k + 1 : Nat) : Int) < (s.n : Int) := by simpa using hc
                                     omega
  obtain⟨q,gq⟩:∃q,qs[k+1]?=some q:=⟨_,List.getElem?_eq_getElem hlt⟩
  obtain⟨p,gp⟩:∃p,qs[k]?=some p:=⟨_,List.getElem?_eq_getElem (by omega)⟩
  have step:=rM (l:=qs) (i:=k+1) (Nat.succ_pos _) gq gp
  have ek:IntKind.i64.wrap (((k+1:Nat):Int) - 1)=(k:Int):=by rw[wrap64 (by omega) (by omega)];omega
  refine h.get gq ?_
  rw[ek]
  refine h.get gp ?_
  refine Aw (h.ints (List.mem_of_getElem? gq)) (h.ints (List.mem_of_getElem? gp)) (h.few q (List.mem_of_getElem? gq)) ?_
  refine aj (fun hc=>?_) (fun hc=>?_)
  ·have he:q.2=p.2:=of_decide_eq_true hc
   rw[if_pos he] at step
   refine⟨⟨by omega,by omega⟩,?_⟩
   simp only[Int.toNat_natCast,Nat.sub_zero,EX]
   -- from here on rows are moved
   refine⟨Nat,fun j z B=>z.2=(j:Int)∧1≤j∧k+1+j≤qs.length∧∃(w:Nat) (M:List Qr),z.1=(w:Int)∧w≤k+j∧M.length=qs.length∧M.take w=gT (qs.take (k+1+j))∧(∀i,k+j≤i→M[i]?=qs[i]?)∧kI B s M∧Mod (ai s) A B,fun j=>qs.length - j,
    ⟨1,rfl,Nat.le_refl _,by omega,k+1,qs,rfl,by omega,rfl,by rw[step];exact ho.symm,fun _ _=>rfl,h,.refl _ _⟩,?_⟩
   rintro j ⟨w0,j0⟩ B ⟨hj,j1,j2,w,M,hw,wle,ml,mt,mb,hB,mB⟩
   simp only at hj hw
   subst hj
   subst hw
   simp only
   refine aj (fun hc=>?_) (fun hc=>?_)
   ·have hlt2 : k + 1 + j < qs.length := by have : (j : Int) < ((s.n - (k + 1) : Nat) : Int) := by simpa using hc
                                            omega
    obtain⟨q2,gq2⟩:∃q,qs[k+1+j]?=some q:=⟨_,List.getElem?_eq_getElem hlt2⟩
    obtain⟨p2,gp2⟩:∃p,qs[k+1+j - 1]?=some p:=⟨_,List.getElem?_eq_getElem (by omega)⟩
    have step2:=rM (l:=qs) (i:=k+1+j) (by omega) gq2 gp2
    have gqM:M[k+1+j]?=some q2:=by rw[mb _ (by omega)];exact gq2
    have gpM:M[k+1+(j - 1)]?=some p2:=by
     rw[mb _ (by omega),show k+1+(j - 1)=k+1+j - 1 by omega];exact gp2
    have mq:=List.mem_of_getElem? gqM
    have mp:=List.mem_of_getElem? gpM
    have ej:IntKind.i64.wrap ((j:Int) - 1)=((j - 1:Nat):Int):=by rw[wrap64 (by omega) (by omega)];omega
    refine hB.oX gqM ?_
    rw[ej]
    refine hB.oX gpM ?_
    rw[aP j (by omega)]
    refine Aw (hB.ints mq) (hB.ints mp) (hB.few q2 mq) ?_
    have e2:k+1+j+1=k+1+(j+1):=by omega
    refine aj (fun hc=>?_) (fun hc=>?_)
    ·have hne:¬q2.2=p2.2:=by simpa using hc
     rw[if_neg hne] at step2
     refine hB.oX gqM ?_
     have hw:w<M.length:=by omega
     rw[aP w (by omega)]
     refine au.st (i:=(w:Int)) (xs:=vn.all M) (v:=q2.1.v) hB.out (by omega) (by omega) rfl fun C oC mC zC=>?_
     have oC':bc vn gw C s (M.set w q2):=by
      unfold bc
      rw[mW] at oC ⊢
      rw[Int.toNat_natCast,←List.map_set (f:=fun q:Qr=>q.1.v)] at oC
      exact oC
     have keepO:∀x∈M,au C 0 fx 1 x.1 (x.2.map (Value.int .u64)):=fun x hx=>(hB.own x hx).mod mC (hB.off (hB.own x hx))
     have memS:∀x∈M.set w q2,x∈M:=fun x hx=>by
      rcases List.mem_or_eq_of_mem_set hx with u|u
      ·exact u
      ·subst u;exact mq
     refine⟨j+1,⟨rfl,by omega,by omega,w+1,M.set w q2,rfl,by omega,by simp;exact ml,?_,fun i hi=>?_,⟨oC',fun x hx=>keepO x (memS x hx),fun x hx=>hB.few x (memS x hx)⟩,mB.trans mC⟩,by omega⟩
     ·rw[←e2,step2,←mt,List.take_succ_eq_append_getElem (by simpa using hw),List.take_set_of_le (Nat.le_refl _)]
      simp
     ·rw[List.getElem?_set_ne (by omega)]
      exact mb i (by omega)
    ·have heq:q2.2=p2.2:=by simpa using hc
     rw[if_pos heq] at step2
     exact⟨j+1,⟨rfl,by omega,by omega,w,M,rfl,by omega,ml,by rw[←e2,step2];exact mt,fun i hi=>mb i (by omega),hB,mB⟩,by omega⟩
   ·have hge : k + 1 + j = qs.length := by have : ¬ (j : Int) < ((s.n - (k + 1) : Nat) : Int) := by simpa using hc
                                           omega
    rw[hge,List.take_length] at mt
    refine⟨⟨by omega,by omega⟩,?_⟩
    have hwl:w=(gT qs).length:=by rw[←mt,List.length_take];omega
    refine FV hB.out (by omega) fun v C oC mC=>⟨⟨by omega,by omega⟩,?_⟩
    rw[Int.toNat_natCast] at oC ⊢
    rw[mt] at oC
    refine hK w C hwl ⟨oC,fun x hx=>?_,fun x hx=>h.few x (uU hx)⟩ (mB.trans mC)
    have hxM:x∈M:=List.mem_of_mem_take (by rw[mt];exact hx)
    exact(hB.own x hxM).mod mC (hB.off (hB.own x hxM))
  ·have he:¬q.2=p.2:=of_decide_eq_false hc
   rw[if_neg he,ho] at step
   rw[aP (k+1) (by omega)]
   refine hnext (by omega) _ A ⟨rfl,rfl,?_⟩
   rw[step,List.take_succ_eq_append_getElem hlt]
   congr 2
   rw[List.getElem?_eq_getElem hlt] at gq
   exact(Option.some.inj gq).symm
 ·have hge : k + 1 = qs.length := by have : ¬ ((k + 1 : Nat) : Int) < (s.n : Int) := by simpa using hc
                                     omega
  rw[hge,List.take_length] at ho
  exact whole ho
end
end Go.Proofs.YtacfhncgbgijhaaGreat
namespace Go.Proofs.YtacfhncgbgijhaaGreat
open Go.MapKept
theorem Dr [Tab] {names:Sl} {ns:List ByteArray} {W:Int} {H:aa} {F:Nat→Prop} {p dp:Nat} {s:Pl} {x y:Nat} {K:(Sl×Int)→aa→Prop} (hg:Gl H) (hp:al F H p dp s) (hn:names.n=ns.length) (hns:∀A,Mod F H A→gJ vY A names.a ns) (hsz:∀n∈ns,n.size≤9223372036854775807) (b:Bd s x y) (hl:ns.length≤1000000) (hx:x<900000000000) (hy:y<60000000000)
  (hK0:(bf W ns s).2.2≠0→∀F' A,al F' A p dp (bf W ns s).1→Step F F' H A→K (dr,(bf W ns s).2.2) A)
  (hK1:(bf W ns s).2.2=0→∀F' A col xs l,eK H F col p dp F' A (bf W ns s).1 xs l→xs.map (·.r)=(bf W ns s).2.1→xs.length=ns.length→K (l,0) A):Ir.sp (aI p) names W H K:=by
 refine Ir.of ?_
 unfold Ir.vc
 have hF0:=hp.fF
 refine aB ns.length (fun i z A=>z.2=(i:Int)∧∃F' s' col xs,eK H F col p dp F' A s' xs z.1∧xs.length=i∧Bd s' (x+i) (y+i)∧
  bf W ns s=((bf W (ns.drop i) s').1,xs.map (·.r)++(bf W (ns.drop i) s').2.1,(bf W (ns.drop i) s').2.2)) ?_ ?_
 ·refine⟨rfl,F,s,fun _=>0,[],⟨hp,fun i x hx=>by simp at hx,fun x hx=>(by cases hx),bc.nil _ _ _,fun b hb=>⟨rfl,.inl hb⟩,fun i x hx=>by simp at hx,fun b hb=>absurd hb (bE b),.refl _ _⟩,rfl,b,?_⟩
  simp
 rintro i ⟨l,j⟩ A next hi ⟨hj,F',s',col,xs,hR,hxl,bd,he⟩ hnext
 simp only at hj
 subst hj
 simp only
 refine aj (fun hc=>?_) (fun hc=>?_)
 ·have hlt:i<ns.length:=by
   have:(i:Int)<(names.n:Int):=by simpa using hc
   omega
  rw[List.drop_eq_getElem_cons hlt] at he
  have hni:ns[i]?=some ns[i]:=List.getElem?_eq_getElem hlt
  refine gJ.one (E:=vY) (c:=bK) (hns A hR.mod) hn rfl hni rfl ?_
  have hgA:=hR.gl hg hF0
  have q1:=bd.lo
  have q2:=bd.hi
  have q3:=bd.aH
  have bd':=bd.open (n:=ns[i]) (W:=W) (by omega)
  simp only[bf] at he
  refine wW hgA hR.pool (hsz _ (List.getElem_mem hlt)) (by omega) (by omega) q1 (fun F1 B p1 S1 o1=>?_) (fun F1 B k r p1 S1 o1 r1 k1 k2=>?_)
  ·have e0:=wq.1 o1
   rw[o1] at he
   simp only[List.append_nil] at he
   refine aZ (by simpa using e0) ?_
   rw[he] at hK0
   exact hK0 e0 F1 B p1 (hR.step.trans S1)
  ·have e0:(rnOpen s' ns[i] W).2.2=0:=wq.2 (by rw[o1];simp)
   rw[o1] at he
   simp only at he
   rw[e0]
   refine aA rfl ?_
   obtain⟨ok,rb,_⟩:=oq o1
   have z1:=S1.mod.size
   obtain⟨col',c1,c2⟩:=nF col A.size F1 (fun b=>b=k) (fun b=>B.size≤b) 0 (5+i) 4 (fun b q r=>k2 (r▸q)) (fun b q r=>by have:=p1.lt b q;omega) (fun b q r=>by have:=r1.lt b (.inl q);omega)
   have h1:=hR.sQ (col':=col') p1 S1.mod (fun b hb q=>by rw[(hR.cF b q).1];decide) (fun b hb q=>(hR.cF b q).2.resolve_right (by omega)) (fun b q=>by
    rcases S1.own b q with u|u
    ·rw[c1 b (hR.pool.lt b u)];exact hR.cF b u
    ·exact⟨(c2 b u).1 q,.inr (by have:=hR.mod.size;omega)⟩) fun b hb _=>c1 b hb
   refine bc.push (E:=eP) (x:=k) KJ h1.list rfl (by simp;omega) (by simp;omega) fun l' C o3 g3 _=>?_
   rw[aP i (by omega)]
   have off:∀b,ai l b→col' b=4:=fun b hb=>(h1.cL b hb).1
   have kr:ux C k p r dr []:=r1.mod g3.1 fun b hb q=>by
    have hk:b=k:=by
     rcases hb with u|u|⟨z,u,_⟩
     ·exact u
     ·exact absurd u (bE b)
     ·cases u
    have a:=h1.list.lt b q
    have b4:=off b q
    subst hk
    have:=(c2 b k1).2.1 rfl
    omega
   have hz:=h1.mod.size
   refine hnext hlt (l',((i+1:Nat):Int)) C ⟨rfl,F1,(rnOpen s' ns[i] W).1,col',xs++[⟨k,r,dr,[]⟩],⟨?_,fun j x hx=>?_,fun x hx=>?_,?_,fun b hb=>h1.cF b hb,fun j x hx b hb=>?_,fun b hb=>?_,?_⟩,?_,?_,?_⟩
   ·exact h1.pool.aq fun b hb hlt=>g3.1.same b hlt fun q=>by have:=(h1.cF b hb).1;have:=off b q;omega
   ·rw[List.getElem?_append] at hx
    split at hx
    ·exact(h1.rds j x hx).mod g3.1 fun b hb q=>by have:=(h1.cR j x hx b hb).1;have:=off b q;omega
    ·rename_i q
     have:j - xs.length=0:=by have:=(List.getElem?_eq_some_iff.1 hx).1;simp at this;omega
     rw[this] at hx
     simp at hx;subst hx
     exact kr
   ·rcases List.mem_append.1 hx with q|q
    ·exact h1.oks x q
    ·rw[List.mem_singleton] at q
     subst q
     exact⟨ok,by show r.b.name.size≤_;rw[rb];exact hsz _ (List.getElem_mem hlt)⟩
   ·rw[List.map_append];exact o3
   ·rw[List.getElem?_append] at hx
    split at hx
    ·exact h1.cR j x hx b hb
    ·rename_i q
     have hj:j - xs.length=0:=by have:=(List.getElem?_eq_some_iff.1 hx).1;simp at this;omega
     rw[hj] at hx
     simp at hx;subst hx
     have hk:b=k:=by
      rcases hb with u|u|⟨z,u,_⟩
      ·exact u
      ·exact absurd u (bE b)
      ·cases u
     subst hk
     have:=(c2 b k1).2.1 rfl
     refine⟨by omega,by have:=hR.mod.size;omega⟩
   ·rcases g3.2 b hb with q|q
    ·exact h1.cL b q
    ·exact⟨(c2 b (by omega)).2.2 q,by omega⟩
   ·exact h1.mod.trans' g3.1 fun b hb q=>by have:=(h1.cL b q).2;omega
   ·simp;exact hxl
   ·exact bd'.mono (by omega) (by omega)
   ·rw[he,List.map_append]
    simp
 ·have hge:i=ns.length:=by
   have:¬(i:Int)<(names.n:Int):=by simpa using hc
   omega
  subst hge
  rw[List.drop_length] at he
  simp only[bf,List.append_nil] at he
  have e0:(bf W ns s).2.2=0:=by rw[he]
  refine hK1 e0 F' A col xs l (by rw[he];exact hR) (by rw[he]) hxl
structure ct (L:List Hx) (hs:List (Option (List Int))):Prop where
 nodup:(L.map (·.no)).Nodup
 mem:∀(i:Nat) (y:List Int),hs[i]?=some (some y)↔∃x∈L,x.no=i∧x.row=y
structure qw [Tab] (H0:aa) (F0:Nat→Prop) (col:Nat→Nat) (p dp:Nat) (F:Nat→Prop) (A:aa) (s:Pl) (xs:List tz) (l:Sl) (kw:Nat) (w:RW) (sw sl:Sl) (kh:Nat) (hs:Sl) (L:List Hx):Prop where
 rds:eK H0 F0 col p dp F A s xs l
 wr:pI A kw p w sw sl
 heap:me A kh hs L
 cW:∀b,kz kw sw sl b→col b=2∧(F0 b∨H0.size≤b)
 cH:∀b,(b=kh∨ai hs b)→col b=1∧H0.size≤b
 cX:∀x∈L,∀b,ai x.sl b→col b=3
 ptr:∀x∈L,∃y,xs[x.no]?=some y∧x.ptr=aI y.k
 ord:Hp ahead L
section
variable {H0 A:aa} {F0 F:Nat→Prop} {col:Nat→Nat} {p dp:Nat} {s:Pl} {xs:List tz} {l:Sl} {kw:Nat} {w:RW} {sw sl:Sl} {kh:Nat} {hs:Sl} {L:List Hx}
theorem me.lt [Tab] (h:me A kh hs L):∀b,(b=kh∨ai hs b)→b<A.size:=by
 rintro b (q|q)
 ·subst q;exact aL h.row
 ·exact h.els.lt b q
theorem qw.Dw [Tab] {G:Nat→Prop} {B:aa} (h:qw H0 F0 col p dp F A s xs l kw w sw sl kh hs L) (m:Mod G A B) (hG:∀b,b<A.size→G b→col b≠2):pI B kw p w sw sl:=
 h.wr.mod m fun b hb q=>hG b (h.wr.lt b hb) q (h.cW b hb).1
theorem qw.DB [Tab] {G:Nat→Prop} {B:aa} (h:qw H0 F0 col p dp F A s xs l kw w sw sl kh hs L) (m:Mod G A B) (hG:∀b,b<A.size→G b→col b≠1∧col b≠3):me B kh hs L:=
 h.heap.mod m (fun q=>(hG kh (aL h.heap.row) q).1 (h.cH kh (.inl rfl)).1) (fun b hb q=>(hG b (h.heap.els.lt b hb) q).1 (h.cH b (.inr hb)).1) fun x hx b hb q=>(hG b ((h.heap.own x hx).lt b hb) q).2 (h.cX x hx b hb)
theorem qw.ext [Tab] {B:aa} (h:qw H0 F0 col p dp F A s xs l kw w sw sl kh hs L) (e:Ext A B):qw H0 F0 col p dp F B s xs l kw w sw sl kh hs L:=
 ⟨h.rds.ext e,h.Dw e fun _ _ q=>q.elim,h.DB e fun _ _ q=>q.elim,h.cW,h.cH,h.cX,h.ptr,h.ord⟩
theorem qw.C6 [Tab] {B:aa} {hs':Sl} {L':List Hx} (h:qw H0 F0 col p dp F A s xs l kw w sw sl kh hs L) (hh:me B kh hs' L') (ho:Hp ahead L') (m:Mod (fun b=>b=kh∨ai hs b) A B) (hn:∀b,ai hs' b→ai hs b∨A.size≤b)
  (hX:∀x∈L',∀b,ai x.sl b→b<A.size∧col b=3) (hp:∀x∈L',∃y,xs[x.no]?=some y∧x.ptr=aI y.k):∃col',(∀b,b<A.size→col' b=col b)∧qw H0 F0 col' p dp F B s xs l kw w sw sl kh hs' L':=by
 obtain⟨col',c1,c2⟩:=nF col A.size (fun _=>False) (fun _=>False) (fun _=>True) 1 1 1 (fun _ q=>q.elim) (fun _ q=>q.elim) fun _ q=>q.elim
 have z:=h.rds.mod.size
 refine⟨col',c1,h.rds.sQ (h.rds.pool.aq fun b hb hl=>m.same b hl fun q=>?_) m (fun b hb q=>by rw[(h.cH b q).1];decide) (fun b hb q=>by have:=(h.cH b q).2;omega) (fun b q=>by rw[c1 b (h.rds.pool.lt b q)];exact h.rds.cF b q) (fun b hb _=>c1 b hb),
  h.Dw m fun b hb q=>by rw[(h.cH b q).1];decide,hh,fun b hb=>?_,fun b hb=>?_,fun x hx b hb=>?_,hp,ho⟩
 ·have a:=(h.rds.cF b hb).1
  have c:=(h.cH b q).1
  omega
 ·rw[c1 b (h.wr.lt b hb)];exact h.cW b hb
 ·rcases hb with q|q
  ·rw[c1 b (h.heap.lt b (.inl q))];exact h.cH b (.inl q)
  ·rcases hn b q with u|u
   ·rw[c1 b (h.heap.els.lt b u)];exact h.cH b (.inr u)
   ·exact⟨(c2 b u).2.2 trivial,by omega⟩
 ·obtain⟨q1,q2⟩:=hX x hx b hb
  rw[c1 b q1];exact q2
theorem xO [Tab] {K:Int→aa→Prop} {i:Nat} {y:tz} {sl0:Sl} {u v:Nat} (h:qw H0 F0 col p dp F A s xs l kw w sw sl kh hs L) (hg:Gl H0) (h0:¬F0 aY) (hy:xs[i]?=some y) (b:Bd s u v) (hu:u<1000000000000) (hv:v<68719470000) (hl:L.length≤1000000)
  (hK:∀F' B col' y' hs' L',qw H0 F0 col' p dp F' B (y.r.next s).1 (xs.set i y') l kw w sw sl kh hs' L'→y'.r=(y.r.next s).2.1→
   ((y.r.next s).2.2.2.1=true→∃row ptr,L'.Perm (L++[⟨i,row,ptr,(y.r.next s).2.2.1⟩]))→((y.r.next s).2.2.2.1=false→L'=L)→(∀b,b<A.size→col' b=col b)→A.size≤B.size→(∀b,b<A.size→col b=3→B[b]?=A[b]?)→K (y.r.next s).2.2.2.2 B):FI.sp (aI kh) (i:Int) sl0 (aI y.k) A K:=by
 refine FI.of ?_
 unfold FI.vc
 refine ak fun A1 z1 r1 e1=>?_
 have h1:=h.ext e1
 refine ag.ld (c:=ar) (i:=2) (x:=aI y.k) r1 rfl ?_
 have hkeeps:=RR.mr (h1.rds.oks y (List.mem_of_getElem? hy)).1 s
 refine h1.rds.next hg h0 hy b hu hv fun F' B col' y' row q1 qk q2 q3 q4 q5 q6=>?_
 have hkF:∀b,F b∨b=y.k→col b=0∨col b=5+i:=fun b q=>by
  rcases q with q|q
  ·exact .inl (h1.rds.cF b q).1
  ·exact .inr (h1.rds.cR i y hy b (by subst q;exact .inl rfl)).1
 have hi:=(List.getElem?_eq_some_iff.1 hy).1
 have z:=q6.size
 have h2:qw H0 F0 col' p dp F' B (y.r.next s).1 (xs.set i y') l kw w sw sl kh hs L:=by
  refine⟨q1,h1.Dw q6 fun b _ q=>by have:=hkF b q;omega,h1.DB q6 fun b _ q=>by have:=hkF b q;omega,fun b hb=>?_,fun b hb=>?_,fun x hx b hb=>?_,fun x hx=>?_,h.ord⟩
  ·rw[q5 b (h1.wr.lt b hb)];exact h.cW b hb
  ·rw[q5 b (h1.heap.lt b hb)];exact h.cH b hb
  ·rw[q5 b ((h1.heap.own x hx).lt b hb)];exact h.cX x hx b hb
  ·obtain⟨a,a1,a2⟩:=h.ptr x hx
   by_cases e:x.no=i
   ·rw[e] at a1 ⊢
    rw[hy] at a1;cases a1
    exact⟨y',List.getElem?_set_self hi,by rw[qk];exact a2⟩
   ·exact⟨a,by rw[List.getElem?_set_ne (Ne.symm e)];exact a1,a2⟩
 have iu:∀b,b<A.size→col b=3→B[b]?=A[b]?:=fun b hb hc=>(q6.same b (by omega) fun q=>by have:=hkF b q;omega).trans (e1.same b hb id)
 generalize (y.r.next s).2.2.2.2=e at*
 by_cases hok:(y.r.next s).2.2.2.1=true
 ·obtain⟨_,_,he,hlen⟩:=hkeeps.2.2.2.1 hok
  subst he
  refine aZ (by rw[hok];rfl) ?_
  have r2:ag B A.size jO #[.int .i64 (i:Int),sl0.v,.pointer (aI y.k)]:=r1.mod q6 fun q=>by
   have hs1:A.size<A1.size:=by omega
   rcases q with q|q
   ·have:=h.rds.pool.lt _ q;omega
   ·have:=h.rds.lt hy y.k (.inl rfl);omega
  refine ag.ld (c:=ab .i64) (i:=0) (x:=(i:Int)) r2 rfl ?_
  refine ag.ld (c:=ar) (i:=2) (x:=aI y.k) r2 rfl ?_
  refine EZ (x:=⟨i,row,aI y.k,(y.r.next s).2.2.1⟩) h2.heap h.ord q3 hlen hl fun hs' L' C hC hO hP mC oC=>?_
  have hX:∀x∈L',∀b,ai x.sl b→b<B.size∧col' b=3:=fun x hx b hb=>by
   rcases List.mem_append.1 (hP.mem_iff.1 hx) with q|q
   ·exact⟨(h2.heap.own x q).lt b hb,h2.cX x q b hb⟩
   ·rw[List.mem_singleton] at q
    subst q
    exact⟨q3.lt b hb,(q4 b hb).2⟩
  have hPt:∀x∈L',∃a,(xs.set i y')[x.no]?=some a∧x.ptr=aI a.k:=fun x hx=>by
   rcases List.mem_append.1 (hP.mem_iff.1 hx) with q|q
   ·exact h2.ptr x q
   ·rw[List.mem_singleton] at q
    subst q
    exact⟨y',List.getElem?_set_self hi,by rw[qk]⟩
  obtain⟨col2,c1,h3⟩:=h2.C6 hC hO mC oC hX hPt
  refine hK F' C col2 y' hs' L' h3 q2 (fun _=>⟨row,aI y.k,hP⟩) (fun q=>by rw[hok] at q;cases q) (fun b hb=>(c1 b (by omega)).trans (q5 b (by omega))) (by have:=mC.size;omega) fun b hb hc=>?_
  refine(mC.same b (by omega) fun q=>?_).trans (iu b hb hc)
  have:=(h2.cH b q).1
  rw[q5 b (by omega)] at this
  omega
 ·have hok':(y.r.next s).2.2.2.1=false:=by simpa using hok
  refine aA (by rw[hok'];simp) ?_
  exact hK F' B col' y' hs L h2 q2 (fun q=>absurd q hok) (fun _=>rfl) (fun b hb=>q5 b (by omega)) (by omega) iu
end
end Go.Proofs.YtacfhncgbgijhaaGreat
