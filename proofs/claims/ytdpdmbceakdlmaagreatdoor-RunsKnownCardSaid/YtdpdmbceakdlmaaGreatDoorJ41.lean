/-
 The library's sorting of texts, said of the heap.
-/
import Derived.Test.YtdpdmbceakdlmaaGreatDoorJ32
import Derived.Test.YtdpdmbceakdlmaaGreatDoorDks
import Derived.Test.YtdpdmbceakdlmaaGreatDoorJ39
import Derived.Test.YtdpdmbceakdlmaaGreatDoorDkt
open Array renaming getElem?_push->MA
open Go.ByteArray renaming toList_eq->Oq
open Go.Proofs.AnyM renaming slices_Sort_string_none->Rp,slices_Sort_string->RH
open Go.Proofs.Tryz renaming prog->KE
open Go.Value.slice renaming injEq->Ld
open Int renaming toNat_natCast->KU,le_refl->Mc
open List renaming mergeSort_perm->LO,map_map->Md,pairwise_mergeSort->Mu
open List.Nodup renaming length_le_of_subset->M0
open Nat renaming le_refl->KN,zero_le->Lh,le_succ->Lm,zero_add->LV,le_add_right->Nk
namespace Go.Proofs.YtdpdmbceakdlmaaGreatDoor
theorem uF {s:Sl}{l:List (List UInt8)}{H:Heap}{K:Unit->Heap->Prop}(h:aK EN iA H s l)(hl:l.length<4611686018427387904)
  (hK:∀H',aK EN iA H' s (l.mergeSort λx y=>decide (x<=y))->Mod (al s) H H'->K () H'):JA.sp s H K:=by
 intro w hw
 subst hw
 rcases id h.2 with ⟨e1,e2⟩|⟨g,cap,cur,e1,hb,hg,h4,h5,h6,h7⟩
 ·have hn:=h.n (by decide)
  have hl0:l=[]:=List.eq_nil_of_length_eq_zero (by omega)
  have hc:=Rp sortStr none 0 w
  rw[e1]
  refine hc.mono λe w' ⟨he,hw'⟩=>?_
  subst hw'
  subst hl0
  exact⟨_,he,⟨(),rfl,hK _ (by simpa using h) (.refl _ _)⟩,.refl _⟩
 ·have hn:=h.n (by decide)
  have hall:=xD l
  have hs1:EN.size=1:=rfl
  have henc:∀x:List UInt8,encStr x=.string ⟨x.toArray⟩:=λ_=>rfl
  have hH:Sort.Holds encStr w g 0 l.toArray:=by
   intro j hj
   have hj':j<l.length:=by simpa using hj
   have hv:(EN.all l)[j]?=some (.string ⟨l[j].toArray⟩):=by rw[hall];simp[hj']
   rw[<-h7,List.getElem?_take,if_pos (by rw[hs1];omega)] at hv
   refine⟨?_,?_⟩
   ·rw[LV]
    have:=cW (o:=j) hg (by simpa using hv)
    simp[hj',henc]
    exact this
   ·rw[LV];exact dR hg
  have hc:=RH sortStr g 0 cap l w hH (aG hg) hl
  rw[e1,hn]
  refine hc.mono λe w' ⟨he,n,os,hw'⟩=>?_
  have hm:=LO l (λx y=>decide (x<=y))
  have hsz:(l.mergeSort λx y=>decide (x<=y)).length=l.length:=hm.length_eq
  obtain⟨q1,q2,q3,q4⟩:=po (enc:=encStr) (n:=n) (d:=(l.mergeSort λx y=>decide (x<=y)).toArray) (os:=os) hg (by rw[h6,hs1];simp[hsz];omega)
  subst hw'
  refine⟨_,he,⟨(),rfl,hK _ ⟨?_,.inr ⟨g,cap,_,e1,hb,q1,h4,h5,by rw[q3];exact h6,?_⟩⟩ (q2.mono λb _ e=>⟨⟨g,0,none⟩,?_,e.symm⟩)⟩,(.of_le rfl (Nk _ _))⟩
  ·rw[xD,hs1];simp[hsz,hn]
  ·rw[xD,hs1,Nat.mul_one,hn]
   have:(l.mergeSort λx y=>decide (x<=y)).toArray.size=l.length:=by simp[hsz]
   rw[this] at q4
   rw[q4]
  ·cases s;simp only[Sl.v,Ld] at e1;exact e1.1
open Go.MapKept
def Dk.list (s:Dk):List (List UInt8):=if s.down then [] else (s.files.map λf=>f.name.toList).mergeSort λx y=>decide (x<=y)
theorem tM:uy KE iD iA EN.size 16:=ic (by kernel_rfl)
def nameOf (e:MapEntry):List UInt8:=match fL e.key with|some n=>n.toList|none=>[]
theorem pf (n:ByteArray):cu n.toList=n:=by
 unfold cu
 apply ByteArray.ext
 simp[Oq]
theorem jV {l r:List (List UInt8)}(h:l.Perm r):(l.mergeSort λx y=>decide (x<=y))=r.mergeSort λx y=>decide (x<=y):=by
 have tr:∀a b c:List UInt8,decide (a<=b)=true->decide (b<=c)=true->decide (a<=c)=true:=λa b c h1 h2=>by simp only[decide_eq_true_eq] at*;exact List.le_trans h1 h2
 have to:∀a b:List UInt8,(decide (a<=b)||decide (b<=a))=true:=λa b=>by simp only[Bool.or_eq_true,decide_eq_true_eq];exact List.le_total a b
 refine List.Perm.eq_of_pairwise (le:=λa b=>decide (a<=b)=true) (λa b _ _ h1 h2=>?_) (Mu tr to l) (Mu tr to r) (((LO l _).trans h).trans (LO r _).symm)
 simp only[decide_eq_true_eq] at h1 h2
 exact List.le_antisymm h1 h2
theorem u9 {l m cap:Nat}{es:Array MapEntry}{clk:Nat}{H:Heap}{K:Unit->Heap->Prop}(I:List MapEntry->Heap->Prop)(hm:cd .string H m es clk)(hcap:aj H cap yN #[.map (some m)])
  (hkeys:∀e∈es.toList,∃n,e.key=.string n) (h0:∀A,Mod (λ_=>False) H A->I [] A) (hfr:∀l A A',I l A->Mod (λb=>b=H.size) A A'->A'.size=A.size->I l A')
  (hs:∀ls e n A,I ls A->e∈es.toList->e.key=.string n->(∀y∈ls,y∈es.toList)->ls.Nodup->e∉ls->A[m]?=some (.map es clk)->H.size<A.size->cj KE l #[.string n] A λb A'=>b=true/\I (ls++[e]) A'/\A'[m]?=A[m]?/\A'[H.size]?=A[H.size]?)
  (hfin:∀ls A,I ls A->ls.Perm es.toList->K () A):BH.sp l ⟨cap,0,none⟩ H K:=by
 refine BH.of ?_
 unfold BH.vc
 have:=hcap.ld (c:=cq) (i:=0) (x:=some m) rfl (K:=λx=>bt ar KE (Instr.range yN (.map x)) H λ(it:Option Addr) H1=>aC Unit () H1 λnext _ H2=>bt fR KE (Instr.next (.pointer it) false Bx) H2 λ(nx:Bool×List Value) H3=>br nx.1 (bt nh KE (Instr.entry (.pointer it)) H3 λ(en:Value×Value) H4=>FV aV en.1 λ(k:ByteArray)=>cj KE l #[(.string k)] H4 λ(b:Bool) H5=>br (!b) (K () H5) (next () H5)) (K () H3))
 refine this ?_
 obtain⟨et,inf,hu,_,_,_⟩:=na
 refine oM hu hm λH1 hit e1=>?_
 have hit1:H.size<H1.size:=aG hit
 refine ov (it:=H.size) (λls _ A=>I ls A/\H.size<A.size) (hm.ak (e1.same _ hm.lt id)) hit ⟨h0 H1 e1,hit1⟩ (λl x A A' h m s=>⟨hfr l A A' h.1 m s,by omega⟩) ?_ (λls x A h hp _=>hfin ls A h.1 hp)
 rintro ls e ⟨⟩ A next ⟨hI,hlt⟩ he hel hsub hnd hr hito hnext
 obtain⟨n,hn⟩:=hkeys e he
 refine⟨n,by rw[hn],?_⟩
 refine(hs ls e n A hI he hn hsub hnd hel hr hlt).mono λb A' hb=>?_
 obtain⟨rfl,h1,h2,h3⟩:=hb
 refine aw rfl (hnext () A' ⟨h1,?_⟩ h2 h3)
 obtain⟨o,ho⟩:=hito
 rw[<-h3] at ho
 exact aG ho
theorem rF {m cap:Nat}{es:Array MapEntry}{clk:Nat}{H:Heap}{K:Sl->Heap->Prop}(hm:cd .string H m es clk)(hcap:aj H cap yN #[.map (some m)])
  (hkeys:∀e∈es.toList,∃n,e.key=.string n) (hlen:es.size<=1048576)
  (hK:∀(s:Sl) (ls:List MapEntry) (H':Heap),aK EN iA H' s (ls.map nameOf)->ls.Perm es.toList->Mod (λ_=>False) H H'->(∀b,al s b->H.size<=b)->K s H'):
  GO.sp (Sl.mk none 0 0) (.func (.func BH.no) #[] #[(.pointer (some ⟨cap,0,none⟩))]) H K:=by
 refine GO.of ?_
 unfold GO.vc
 refine ao λH1 s1 r1 m1=>?_
 have hcallable:dD KE BH.no=true:=by kernel_rfl
 refine⟨_,_,rfl,hcallable,λrec hround=>?_⟩
 obtain⟨r,hr⟩:∃r,r=H1.size:=⟨_,rfl⟩
 obtain⟨l,hl⟩:∃l,l=H1.size+1:=⟨_,rfl⟩
 obtain⟨p,hp⟩:∃p,p=H.size:=⟨_,rfl⟩
 rw[<-hl] at hround ⊢
 rw[<-hr]
 rw[<-hp] at r1
 rw[<-hp] at hround
 rw[<-hp]
 obtain⟨HB,hHB⟩:∃HB:Heap,HB=(H1.push (.deferred (some []))).push (.loop (rec .ready none)):=⟨_,rfl⟩
 rw[<-hHB]
 have eB:Mod (λ_=>False) H1 HB:=by rw[hHB];exact(Mod.push _ _ _).trans (Mod.push _ _ _)
 have sB:HB.size=H1.size+2:=by rw[hHB];simp
 have lB:HB[l]?=some (.loop (rec .ready none)):=by rw[hHB,hl,MA,if_pos (by simp)]
 have rB:HB[r]?=some (.deferred (some [])):=by rw[hHB,hr];simp[MA]
 have pB:aj HB p iD #[(Sl.mk none 0 0).v]:=r1.ext eB
 have mB:cd .string HB m es clk:=(hm.ak (m1.same _ hm.lt id)).ak (eB.same _ (by have:=hm.lt;omega) id)
 have cB:aj HB cap yN #[.map (some m)]:=(hcap.ext m1).ext eB
 have hml:=hm.lt
 have hcl:cap<H.size:=aG hcap
 let I:List MapEntry->Heap->Prop:=λls A=>A[l]?=some (.loop (rec .ready none))/\A[r]?=some (.deferred (some []))/\(∃s,aj A p iD #[s.v]/\aK EN iA A s (ls.map nameOf)/\(∀b,al s b->HB.size<b))/\Mod (λb=>b=p\/b=l\/b=HB.size) HB A
 refine Spec.mono (R:=λv H'=>∃x:Unit,v=(bg []).enc x/\l8 l rec H' _ _ _) (u9 (l:=l) (m:=m) (cap:=cap) (H:=HB) (K:=λ_ H'=>l8 l rec H' _ _ _) I mB cB hkeys ?_ ?_ ?_ ?_) (λv H' ⟨x,_,h⟩=>h)
 ·intro A hA
  exact⟨hA.at lB id,hA.at rB id,⟨_,pB.ext hA,aK.nil _ _ _,by rintro b ⟨ad,q,_⟩;cases q⟩,Ext.mod hA⟩
 ·rintro ls A A' ⟨i1,i2,⟨s,i3,i4,i5⟩,i6⟩ hA hs
  refine⟨hA.at i1 (by omega),hA.at i2 (by omega),⟨s,i3.mod hA (by omega),i4.ak λb hb hbl=>hA.same b hbl (by have:=i5 b hb;omega),i5⟩,i6.trans (hA.mono λb _ e=>.inr (.inr e))⟩
 ·rintro ls e n A ⟨i1,i2,⟨s,i3,i4,i5⟩,i6⟩ he hn hsub hnd hel hmA hAl
  refine hround [.string n] A _ i1 ?_
  show iz (some n) _
  refine⟨i1,?_⟩
  obtain⟨Ab,hAb⟩:∃Ab:Heap,Ab=A.setIfInBounds l (.loop (rec .busy none)):=⟨_,rfl⟩
  rw[<-hAb]
  have mAb:Mod (λb=>b=l) A Ab:=by rw[hAb];exact Mod.setObj rfl
  have sAb:Ab.size=A.size:=by rw[hAb];simp
  have lAb:Ab[l]?=some (.loop (rec .busy none)):=by rw[hAb];exact gi i1
  have hpl:p≠l:=by omega
  have p1:=i3.mod mAb hpl
  refine p1.ld (c:=av) (i:=0) (x:=s) rfl ?_
  have tl:∀b,al s b->b≠l:=λb hb=>by have:=i5 b hb;omega
  have o1:aK EN iA Ab s (ls.map nameOf):=i4.ak λb hb hbl=>mAb.same b hbl (tl b hb)
  have hln:(ls.map nameOf).length<=1048576:=by
   have:=M0 hnd (l₂:=es.toList) (λy hy=>hsub y hy)
   simp at this ⊢;omega
  have hne:nameOf e=n.toList:=by unfold nameOf;rw[hn];rfl
  refine aK.push (E:=EN) tM (x:=n.toList) o1 (by have:=pf n;unfold cu at this;simp[EN,this]) (by omega) (by omega) λs2 A2 o2 g2 _=>?_
  have lp:p<Ab.size:=aG p1
  have tp:∀b,al s b->b≠p:=λb hb=>by have:=i5 b hb;omega
  have p2:aj A2 p iD #[s.v]:=p1.mod g2.1 (λhb=>tp _ hb rfl)
  have i6s:=i6.size
  have t2:∀b,al s2 b->HB.size<b:=λb hb=>by
   rcases g2.2 b hb with q|q
   ·exact i5 b q
   ·omega
  have p2st:=p2.st (i:=0) (v:=s2.v) (by simp) rfl (K:=λH5=>H5[l]?=some (.loop (rec .busy none))/\(λb A'=>b=true/\I (ls++[e]) A'/\A'[m]?=A[m]?/\A'[HB.size]?=A[HB.size]?) true (H5.setIfInBounds l (.loop (rec .ready none))))
  rw[show (Addr.add ⟨p,0,none⟩ 0)=⟨p,0,none⟩ from rfl] at p2st
  refine p2st λA3 p3 m3 s3=>?_
  have l2:A2[l]?=some (.loop (rec .busy none)):=g2.1.at lAb (λhb=>tl _ hb rfl)
  have l3:A3[l]?=some (.loop (rec .busy none)):=m3.at l2 (by omega)
  refine⟨l3,rfl,⟨gi l3,?_,⟨s2,?_,?_,t2⟩,?_⟩,?_,?_⟩
  ·have m4:Mod (λb=>b=l) A3 (A3.setIfInBounds l (.loop (rec .ready none))):=Mod.setObj rfl
   exact m4.at (m3.at (g2.1.at (mAb.at i2 (by omega)) (λhb=>by have:=i5 _ hb;omega)) (by omega)) (by omega)
  ·have m4:Mod (λb=>b=l) A3 (A3.setIfInBounds l (.loop (rec .ready none))):=Mod.setObj rfl
   exact aj.mod (show aj A3 p iD #[s2.v] from p3) m4 hpl
  ·have m4:Mod (λb=>b=l) A3 (A3.setIfInBounds l (.loop (rec .ready none))):=Mod.setObj rfl
   rw[List.map_append,List.map_cons,List.map_nil,hne]
   refine o2.ak λb hb hbl=>?_
   have:=t2 b hb
   exact(m4.same b (by omega) (by omega)).trans (m3.same b hbl (by omega))
  ·have m4:Mod (λb=>b=l) A3 (A3.setIfInBounds l (.loop (rec .ready none))):=Mod.setObj rfl
   have z2:=g2.1.size
   refine i6.trans' (G:=λb=>(b=l\/al s b)\/b=p) ?_ ?_
   ·exact(((mAb.mono λb _ e=>.inl (.inl e)).trans (g2.1.mono λb _ e=>.inl (.inr e))).trans (m3.mono λb _ e=>.inr e)).trans (m4.mono λb _ e=>.inl (.inl e))
   ·rintro b hb ((e|e)|e)
    ·exact .inr (.inl e)
    ·have:=i5 b e;omega
    ·exact .inl e
  ·have m4:Mod (λb=>b=l) A3 (A3.setIfInBounds l (.loop (rec .ready none))):=Mod.setObj rfl
   have z2:=g2.1.size
   have hmAl:=aG hmA
   exact(m4.same _ (by omega) (by omega)).trans ((m3.same _ (by omega) (by omega)).trans ((g2.1.same _ (by omega) (λhb=>by have:=i5 _ hb;omega)).trans (mAb.same _ hmAl (by omega))))
  ·have m4:Mod (λb=>b=l) A3 (A3.setIfInBounds l (.loop (rec .ready none))):=Mod.setObj rfl
   have z2:=g2.1.size
   exact(m4.same _ (by omega) (by omega)).trans ((m3.same _ (by omega) (by omega)).trans ((g2.1.same _ (by omega) (λhb=>by have:=i5 _ hb;omega)).trans (mAb.same _ (by omega) (by omega))))
 ·rintro ls A ⟨i1,i2,⟨s,i3,i4,i5⟩,i6⟩ hperm
  refine⟨.ready,none,i1,rfl,?_⟩
  show ld av _ _ _
  have m4:Mod (λb=>b=l) A (A.setIfInBounds l (.loop (rec .exhausted none))):=Mod.setObj rfl
  have p4:=i3.mod m4 (by omega)
  refine p4.ld (c:=av) (i:=0) (x:=s) rfl ?_
  have r4:=m4.at i2 (by omega)
  refine⟨r4,?_⟩
  have m5:Mod (λb=>b=r) (A.setIfInBounds l (.loop (rec .exhausted none))) ((A.setIfInBounds l (.loop (rec .exhausted none))).setIfInBounds r (.deferred none)):=Mod.setObj rfl
  have z6:=i6.size
  have z4:=m4.size
  refine hK s ls _ ?_ hperm ?_ (λb hb=>by have:=i5 b hb;omega)
  ·refine i4.ak λb hb hbl=>?_
   have:=i5 b hb
   exact(m5.same b (by omega) (by omega)).trans (m4.same b hbl (by omega))
  ·have z5:=m5.size
   refine⟨by omega,λb hb _=>(m5.same b (by omega) (by omega)).trans ((m4.same b (by omega) (by omega)).trans ((i6.same b (by omega) (by omega)).trans ((eB.same b (by omega) id).trans (m1.same b hb id))))⟩
theorem Fb {F:Nat->Prop}{d:Nat}{s:Dk}{H:Heap}{K:Sl->Heap->Prop}(h:bj F H d s)(hK:∀l H',aK EN iA H' l s.list->Mod (λ_=>False) H H'->(∀b,al l b->H.size<=b)->K l H'):GM.sp (aD d) H K:=by
 obtain⟨x,cin,kp,g,hF⟩:=h
 refine GM.of ?_
 unfold GM.vc
 refine kx g.head (down:=s.down) rfl ?_
 cases hd:s.down with
 |true=>
   refine aP rfl (hK _ H ?_ (.refl _ _) (by rintro b ⟨ad,q,_⟩;cases q))
   unfold Dk.list;rw[hd];exact aK.nil _ _ _
 |false=>
   refine aw rfl ?_
   refine g.head.ld (c:=cq) (i:=0) (x:=some x.m) rfl ?_
   refine HX.of ?_
   unfold HX.vc
   refine ao λH1 s1 r1 m1=>?_
   refine HH.of ?_
   unfold HH.vc
   refine HL.of ?_
   unfold HL.vc
   have hm1:cd .string H1 x.m x.es x.clk:=g.files.map.ak (m1.same _ g.files.map.lt id)
   have hfl:=g.wf.files
   have hsz:=g.files.size
   refine rF hm1 r1 (λe he=>?_) (by omega) λsl ls H2 o2 hp m2 f2=>?_
   ·obtain⟨i,f,gf,_,_,h3,_⟩:=g.files.ent' e.key e.val ⟨e,he,rfl,rfl⟩
    exact⟨_,h3⟩
   have hpn:(ls.map nameOf).Perm (s.files.map λf=>f.name.toList):=by
    have h1:=((hp.map (·.key)).trans (g.files.perm g.wf)).map λk=>match fL k with|some n=>n.toList|none=>[]
    rw[Md,Md] at h1
    exact h1
   have hln:(ls.map nameOf).length<=4096:=by rw[hpn.length_eq];simpa using hfl
   refine uF o2 (by omega) λH3 o3 m3=>?_
   rw[jV hpn] at o3
   have z1:=m1.size;have z2:=m2.size;have z3:=m3.size
   refine hK sl H3 ?_ ⟨by omega,λb hb _=>(m3.same b (by omega) λhh=>by have:=f2 b hh;omega).trans ((m2.same b (by omega) id).trans (m1.same b hb id))⟩ (λb hb=>by have:=f2 b hb;omega)
   unfold Dk.list;rw[hd];exact o3
section
variable {H A:Heap}{d:Nat}{s:Dk}{n:ByteArray}
end
theorem I8 {q:Int}{n:ByteArray}(h0:0<=q)(hq:q<=1048576)(hn:named n=true):Calm (pl0 ((gm q).create n).1 8) n 0 q.toNat (λ_=>(0,[])):=
 ⟨⟨_,Dz (py h0 hq hn).1⟩,yo (by omega) (by omega),by intro f hf;cases hf⟩
theorem yJ {q:Int}{n:ByteArray}{W:Nat}{rs:List (List Int)}(h0:0<=q)(hq:q<=1048576)(hn:named n=true)(hs:n.size<=9223372036854775807)(h1:0<=W)(h2:W<=16):
  (1<=q->(aJ (pl0 (gm q) 8) n W).2=(some (rA n W),0)/\gD (aJ (pl0 (gm q) 8) n W).1 (rA n W) n W (bC W) rs q.toNat 0)/\(q=0->(aJ (pl0 (gm q) 8) n W).2=(none,5)):=by
 obtain⟨r1,r2,r3,r4⟩:=bQ h1 h2
 generalize bC W=room at*
 have hc:=py h0 hq hn
 have C:=I8 h0 hq hn
 have e:aJ (pl0 (gm q) 8) n W=if ((pl0 ((gm q).create n).1 8).more n 0 []).2≠0 then (((pl0 ((gm q).create n).1 8).more n 0 []).1,none,((pl0 ((gm q).create n).1 8).more n 0 []).2) else (((pl0 ((gm q).create n).1 8).more n 0 []).1,some (rA n W),0):=by
  unfold aJ
  rw[if_neg (by rw[r1];omega)]
  have:((pl0 (gm q) 8).d.create n).2=0:=hc.2.2.1
  rw[if_neg (by rw[this];simp)]
  rfl
 rw[e]
 refine⟨λhq1=>?_,λhq0=>?_⟩
 ·obtain⟨a1,a2,a3,a4⟩:=C.more (k:=0) (b:=[]) (by omega) (by omega) hs (by show (0:Int)<=1;omega) (by show (1:Int)<_;omega) (by simp)
  rw[if_neg (by rw[a1];simp)]
  rw[if_pos rfl] at a2
  have hmod:0%room=0:=Nat.zero_mod _
  have hdiv:0/room=0:=Nat.zero_div _
  refine⟨rfl,⟨⟨_,by rw[hdiv];exact a2,λk hk=>?_⟩,rfl,rfl,hmod.symm,?_,λq=>by omega,Lh _,?_,.inl a4⟩⟩
  ·rw[hdiv] at hk
   have:k=0:=by omega
   subst this
   exact cw _ _ _
  ·show []=_
   rw[hmod];simp[cz]
  ·rw[a3];show (0:Int)<=1+1/\(1:Int)+1<=2+0;omega
 ·have a:=C.oV (k:=0) (b:=[]) (by omega)
  rw[if_pos (by rw[a];decide),a]
theorem zM {x:Int}(h:0<=x/\x<18446744073709551616):bH (dy (cC (cg [x])))=x:=by
 rw[mV (fY _)]
 have h8:(cg [x]).length=8:=by simp[cg,cL]
 have a:=qN h8
 obtain⟨b,_⟩:=mw (L:=[[x]]) (w:=1) (by omega) (by simp) (λl hl=>by simp at hl;subst hl;intro y hy;simp at hy;subst hy;exact h)
 have e:[[x]].flatMap cg=cg [x]:=by simp
 rw[e] at b
 have c:=a.symm.trans b
 simpa using c
def C8 (n:ByteArray)(W:Nat)(m:Nat):RR:=⟨⟨n,W,0,false⟩,m,0,none,[]⟩
theorem As {p:Pl}{n:ByteArray}{W q:Nat}{rs:List (List Int)}(h:uO p n W (bC W) rs q)(h1:0<=W)(h2:W<=16)(hs:n.size<=9223372036854775807)(hq:q<=1048576)(hqN:1+az rs.length (bC W)<=q)(hbig:rs.length<=1000000)
  (h0:0<=p.next) (hnx:p.next<1099511627776):
  (rnOpen p n W).2=(some (C8 n W rs.length),0)/\uO (rnOpen p n W).1 n W (bC W) rs q/\pM (C8 n W rs.length) n W (bC W) rs/\(rnOpen p n W).1.next<=p.next+1/\p.next<=(rnOpen p n W).1.next/\((p.look n 0).1.d.len n).1<4611686018427387904/\(C8 n W rs.length).Ok:=by
 obtain⟨r1,r2,r3,r4⟩:=bQ h1 h2
 generalize bC W=room at*
 obtain⟨T,c1,c2,c3⟩:=h.calm
 obtain⟨l1,l2,l3,l4⟩:=c1.look (k:=0) hq hs h0 hnx (by omega) hqN
 rw[c2] at l1
 have e0:((0:Nat):Int)=0:=rfl
 rw[e0] at l1 l2 l3
 have hl:=l2.len
 have hN:=df (n:=rs.length) (show 0<room by omega)
 have hw:bH (dy ((bL W rs.length).drop 1))=(rs.length:Int):=zM (by omega)
 have hW:((bL W rs.length).getD 0 0).toNat=W:=by
  show (UInt8.ofNat (W:Int).toNat).toNat=W
  rw[KU,UInt8.toNat_ofNat'];omega
 have h9:(bL W rs.length).length=9:=by simp[bL,cg,cL]
 have e:rnOpen p n W=((p.look n 0).1,some (C8 n W rs.length),0):=by
  unfold rnOpen
  rw[if_neg (by rw[r1];omega),l1,if_neg (by simp)]
  simp only
  rw[if_neg (λq=>q ⟨by first|trivial|rfl,h9,by rw[hW]⟩),hl]
  simp only
  rw[if_neg (by simp),hw,if_pos ⟨by omega,by rw[r1,KU,KU]⟩]
  rfl
 rw[e]
 refine⟨rfl,⟨T,l2,c2,c3⟩,⟨rfl,rfl,Lh _,λj hj=>(by cases hj),λl hl=>(by cases hl)⟩,by rw[l3];exact Mc _,by rw[l3];omega,by rw[hl];omega,(sQ (s:=p) (n:=n) (W:=W) (by rw[e])).1⟩
theorem Ints.I9 {k:IntKind}{H H':Heap}{s:Sl}{l:List Int}(h:Ints k H s l)(e:∀ad,s.a=some ad->H'[ad.block]?=H[ad.block]?):Ints k H' s l:=
 ⟨h.len,λi v hv=>by
  obtain⟨ad,ha,hc⟩:=h.reads i v hv
  exact⟨ad,ha,(dV (by rw[cO];exact e ad ha)).trans hc⟩⟩
theorem Pl.sX (s:Pl)(n:ByteArray)(g:Int):(s.look n g).1.d.logs<=s.d.logs+1:=by
 have a:=s.jf n g
 unfold Pl.look
 split
 ·exact a
 ·split
  ·exact a
  ·simp only
   rw[Pl.lL];exact a
theorem pz (s:Pl)(n:ByteArray)(W:Int):(rnOpen s n W).1.d.logs<=s.d.logs+1:=by
 have a:=s.sX n 0
 unfold rnOpen
 split
 ·exact Lm _
 ·split
  ·exact a
  ·split
   ·exact a
   ·split
    ·exact a
    ·split<;>exact a
theorem RR.oR (r:RR)(s:Pl)(j:Nat):(r.load s j).1.d.logs<=s.d.logs+1:=by
 have:=s.sX r.b.name ((j:Int)+1)
 unfold RR.load
 split
 ·exact Lm _
 ·split
  ·exact this
  ·split<;>exact this
theorem RR.so (r:RR)(s:Pl):(r.next s).1.d.logs<=s.d.logs+1:=by
 have:=r.oR s (r.at_/r.b.room)
 unfold RR.next
 split
 ·exact Lm _
 ·split
  ·exact Lm _
  ·split<;>exact this
theorem RR.oc (ll:List Int):∀(f i j:Nat) (s:Pl) (r:RR),(RR.cJ ll f i j s r).1.d.logs<=s.d.logs+f
 |0,_,_,_,_=>KN _
 |f+1,i,j,s,r=>by
   have:=r.oR s ((i+j)/2)
   unfold RR.cJ
   split
   ·split
    ·simp only;omega
    ·split
     ·have a:=RR.oc ll f ((i+j)/2+1) j (r.load s ((i+j)/2)).1 (r.load s ((i+j)/2)).2.1;omega
     ·have a:=RR.oc ll f i ((i+j)/2) (r.load s ((i+j)/2)).1 (r.load s ((i+j)/2)).2.1;omega
   ·exact Nk _ _
theorem RR.od (r:RR)(s:Pl)(ll:List Int):(r.find s ll).1.d.logs<=s.d.logs+az r.rows r.b.room:=RR.oc ll _ _ _ s r
theorem RR.AP (r:RR)(s:Pl)(ll:List Int):(r.bS s ll).1.d.logs<=s.d.logs+az r.rows r.b.room+1:=by
 have a:=r.od s ll
 unfold RR.bS
 split
 ·simp only;omega
 ·split
  ·simp only;omega
  ·split
   ·simp only;omega
   ·have b:=(r.find s ll).2.1.oR (r.find s ll).1 (r.find s ll).2.2.1
    unfold RR.goto
    split
    ·simp only;omega
    ·split
     ·omega
     ·simp only;omega
def eG:List (List Int):=[[5],[7]]
theorem og:iv 1 eG:=by
 refine⟨by decide,?_,?_⟩
 ·intro l hl x hx
  simp[eG] at hl
  rcases hl with rfl|rfl<;>(simp at hx;omega)
 ·intro i hi
  have:i=0:=by simp[eG] at hi;omega
  subst this;decide
theorem gD.again {p:Pl}{w:RW}{n:ByteArray}{W room:Nat}{rs:List (List Int)}{q i:Nat}(h:gD p w n W room rs q i)(hi:0<i)(hl:(rs.getD (i - 1) []).length=W):w.add p (rs.getD (i - 1) [])=(p,w,70):=by
 unfold RW.add
 rw[if_neg (by rw[h.ready];simp),if_neg (by rw[h.b,hl];simp),if_pos ⟨by rw[h.rows];exact hi,by rw[h.last hi,tE];exact Mc _⟩]
set_option maxHeartbeats 1000000 in
theorem oU {H:Heap}{K:Bool->Heap->Prop}(hg:Gl H)(hK:∀B,Ext H B->K true B):CC.sp H K:=by
 refine CC.of ?_
 unfold CC.vc
 have hsz:nmF.size<=9223372036854775807:=by decide
 refine yB (by decide) λF1 d H1 a1 e1 f1=>?_
 refine TP.new (m:=8) hg e1 a1 f1 (by decide) (by decide) λp H2 t2=>?_
 obtain⟨m1,_⟩:=yJ (q:=9) (n:=nmF) (W:=1) (rs:=eG) (by decide) (by decide) sY hsz (by decide) (by decide)
 obtain⟨m2,m3⟩:=m1 (by decide)
 have mb:=lS (s:=pl0 (gm 9) 8) (n:=nmF) (W:=1) (by decide) (by decide)
 have z1:(pl0 (gm 9) 8).d.logs=0:=rfl
 have z2:(pl0 (gm 9) 8).next=1:=rfl
 rw[z1,z2] at mb
 refine TP.make (n:=nmF) (W:=1) t2 hg hsz (by rw[z1];decide) (by decide) (by decide) (λf hf=>by cases hf) m2 (λq=>by cases q) λw q k H3 t3=>?_
 cases q
 refine aw rfl (aw rfl ?_)
 have m3':gD (aJ (pl0 (gm 9) 8) nmF 1).1 (rA nmF 1) nmF 1 (bC 1) eG 9 0:=m3
 have t3':TW H H3 k p d (aJ (pl0 (gm 9) 8) nmF 1).1 (rA nmF 1):=t3
 generalize (aJ (pl0 (gm 9) 8) nmF 1).1=s3 at*
 have fits:∀{s:Pl} {w:RW} {i:Nat},gD s w nmF 1 (bC 1) eG 9 i->s.Fit/\0<=s.next:=λh=>by
  obtain⟨T,c,_⟩:=h.calm
  exact⟨c.fit,h.next.1⟩
 -- the first row
 refine ao λH4 z4 r4 x4=>?_
 have A1:=(m3'.add (by decide) (by decide) og (by decide) hsz (by decide) (by decide)).1 (by decide)
 have g1:eG.getD 0 []=[5]:=rfl
 rw[g1] at A1
 have b1:=RW.mz (s:=s3) (w:=rA nmF 1) (l:=[5]) (fits m3').2 (by omega)
 refine TW.add t3' x4 hg (fx r4) (λad ha=>by cases ha;exact .inl (KN _)) (by simp) (by simp[rA]) (by simp[rA]) (by simp[rA]) hsz (by omega) (by omega) (fits m3').1 A1.1 λH5 t5=>?_
 refine aw rfl ?_
 have A1':=A1.2
 generalize ((rA nmF 1).add s3 [5]).1=s5 at*
 generalize ((rA nmF 1).add s3 [5]).2.1=w5 at*
 -- the same again
 refine ao λH6 z6 r6 x6=>?_
 have e70:w5.add s5 [5]=(s5,w5,70):=A1'.again (by decide) (by decide)
 have w5b:=A1'.b
 refine TW.add t5 x6 hg (fx r6) (λad ha=>by cases ha;exact .inl (KN _)) (by simp) (by rw[A1'.wait];decide) (by rw[A1'.rows];decide) (by rw[A1'.n];decide) (by rw[w5b];exact hsz) (by omega) (by omega) (fits A1').1 (e:=70) (by rw[e70]) λH7 t7=>?_
 rw[e70] at t7
 have t7':TW H H7 k p d s5 w5:=t7
 refine aw rfl ?_
 -- the second row
 refine ao λH8 z8 r8 x8=>?_
 have A2:=(A1'.add (by decide) (by decide) og (by decide) hsz (by decide) (by decide)).1 (by decide)
 have g2:eG.getD (0+1) []=[7]:=rfl
 rw[g2] at A2
 have b2:=RW.mz (s:=s5) (w:=w5) (l:=[7]) (fits A1').2 (by omega)
 refine TW.add t7' x8 hg (fx r8) (λad ha=>by cases ha;exact .inl (KN _)) (by simp) (by rw[A1'.wait];decide) (by rw[A1'.rows];decide) (by rw[A1'.n];decide) (by rw[w5b];exact hsz) (by omega) (by omega) (fits A1').1 A2.1 λH9 t9=>?_
 refine aw rfl ?_
 have A2':=A2.2
 generalize (w5.add s5 [7]).1=s9 at*
 generalize (w5.add s5 [7]).2.1=w9 at*
 have w9b:=A2'.b
 -- the end
 have A3:gD s9 w9 nmF 1 (bC 1) eG 9 eG.length:=A2'
 obtain⟨c1,c2,c3,fl,c4,_,c5,_,_⟩:=(A3.close (by decide) (by decide) og hsz (by decide) (by decide)).1 (by decide)
 refine TW.close t9 hg (by rw[A3.rows];decide) (by rw[w9b];decide) (by rw[w9b];exact hsz) (by omega) (by omega) (fits A2').1 c1 λH10 t10=>?_
 have t10p:=t10.ag
 have l10:(w9.close s9).1.d.logs=0:=by unfold Dk.logs;rw[c4];simp[c5]
 generalize (w9.close s9).1=s10 at*
 have h10:0<=s10.next:=by have:=t10p.wf.tick;omega
 have hlen2:eG.length=2:=rfl
 rw[hlen2] at c3
 obtain⟨o1,o2,o3,o4,o5,o6,o7⟩:=As c2 (by decide) (by decide) hsz (by decide) (by decide) (by decide) h10 (by omega)
 have ol:=pz s10 nmF ((1:Nat):Int)
 refine TP.open (n:=nmF) (W:=((1:Nat):Int)) t10p hg hsz (by omega) (by omega) o6 o1 (λq=>by cases q) λr q k' H11 t11=>?_
 cases q
 generalize (rnOpen s10 nmF ((1:Nat):Int)).1=s11 at*
 refine aw rfl (aw rfl ?_)
 refine ao λH12 z12 r12 x12=>?_
 obtain⟨k1,k2,k3,k4,k5,k6,k7,k8,k9,k10⟩:=o2.bS o3 (by decide) (by decide) og hsz (by decide) (by decide) (by omega) (by rw[hlen2];omega) (ll:=[6]) (by decide)
 have hl2:((eG.length:Nat):Int)=2:=rfl
 rw[hl2] at k6 k9
 have fl1:=RR.od (C8 nmF 1 eG.length) s11 [6]
 have fl2:=RR.AP (C8 nmF 1 eG.length) s11 [6]
 have hNp:az (C8 nmF 1 eG.length).rows (C8 nmF 1 eG.length).b.room=1:=by decide
 rw[hNp] at fl1 fl2
 refine TR.bS t11 x12 hg o7 (fx r12) (λad ha=>by cases ha;exact .inl (KN _)) (by simp) hsz (by omega) (by omega) ⟨by omega,by omega⟩ (λ_ q _=>k10 (by rw[k7] at q;rw[hNp] at q;exact q)) k1 λH13 t13=>?_
 refine aw rfl ?_
 have hb:below [6] eG=1:=by decide
 rw[hb] at k4
 have q13:0<=((C8 nmF 1 eG.length).bS s11 [6]).1.next:=by omega
 generalize ((C8 nmF 1 eG.length).bS s11 [6]).1=s13 at*
 generalize ((C8 nmF 1 eG.length).bS s11 [6]).2.1=r13 at*
 have ok13:∀{r:RR},pM r nmF 1 (bC 1) eG->r.Ok:=λ{r} h=>by
  refine⟨by rw[h.room (by decide) (by decide)];decide,by rw[h.rows];exact h.at_,λj hj=>?_,by rw[h.rows];decide,h.cols⟩
  ·obtain⟨_,j2⟩:=h.page j hj
   rw[j2,h.room (by decide) (by decide),h.rows,jk]
 obtain⟨n1,n2,n3,n4,n5,n6⟩:=(k2.next k3 (by decide) (by decide) og hsz (by decide) (by decide) q13 (by omega)).1 (by rw[k4];decide)
 have nl:=RR.so r13 s13
 rw[k4] at n1
 refine TR.next t13 hg (ok13 k3) (by rw[k3.b];exact hsz) (by omega) (by omega) n1 λl H14 t14 i14 _=>?_
 rw[k4] at n4
 have q14:0<=(r13.next s13).1.next:=by omega
 generalize (r13.next s13).1=s14 at*
 generalize (r13.next s13).2.1=r14 at*
 have nn:=(n2.next n3 (by decide) (by decide) og hsz (by decide) (by decide) q14 (by omega)).2 (by rw[n4];decide)
 refine TR.next t14 hg (ok13 n3) (by rw[n3.b];exact hsz) (by omega) (by omega) (row:=[]) (ok:=false) (e:=0) (by rw[nn]) λl2 H15 t15 i15 x15=>?_
 rw[nn] at t15
 have i15':Ints .u64 H15 l [7]:=i14.I9 λad ha=>x15 _ (.inr ⟨ad,ha,rfl⟩)
 have hl1:l.n=1:=i14.len
 refine aP (by rw[hl1];rfl) ?_
 refine ir i15' (i:=0) (j:=0) rfl (by simp) λad ha=>?_
 refine aP rfl ?_
 have t15p:=t15.ag
 obtain⟨D,d1,_⟩:=TP.ba t15p hg
 refine EK d1 ?_
 obtain⟨T,cT,_⟩:=n2.calm
 obtain⟨pg,tT⟩:=cT.told
 have hused:s14.d.used=2:=by
  rw[tT.ba.used,tT.len];rfl
 rw[hused]
 refine aP rfl ?_
 refine ao λH16 z16 r16 x16=>?_
 refine lC (i15'.ext x16) (fx r16) (by simp) ?_
 rw[tE]
 exact hK H16 (t15.at.trans x16)
end Go.Proofs.YtdpdmbceakdlmaaGreatDoor
