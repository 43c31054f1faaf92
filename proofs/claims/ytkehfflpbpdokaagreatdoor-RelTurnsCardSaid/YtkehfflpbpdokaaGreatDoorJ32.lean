/-
 The pool: a file's frames, rising: the values of a map, those that are wanted, sorted.
-/
import Derived.Lib.SliceRun
import Derived.Test.YtkehfflpbpdokaaGreatDoorVc
import Derived.Test.YtkehfflpbpdokaaGreatDoorFxg
import Derived.Test.YtkehfflpbpdokaaGreatDoorFxj
import Derived.Test.YtkehfflpbpdokaaGreatDoorJ29
import Derived.Test.YtkehfflpbpdokaaGreatDoorFxq
import Derived.Test.YtkehfflpbpdokaaGreatDoorLay
open Array renaming getElem?_eq_some_iff->KA,replicate->LV,getElem?_push->MW
open BitVec renaming ofInt->Mc,toNat_ofNat->Mm,ofInt_natCast->MS
open Bool renaming and_eq_true->KD
open Go.Addr renaming add->K0
open Go.Builtin renaming append_->Ks,clear_->Qi
open Go.IntKind renaming i64->Ke,u8->KH,u64->K7,wrap_u64->OE,wrap_u8->ON
open Go.Proofs.AnyF renaming slices_SortFunc_none->OT
open Go.Proofs.Tryz renaming prog->Kf,zeroValue228->SL,func197->TT
open Go.Value renaming int->Km,oneCell'->Qj
open Go.Value.slice renaming injEq->K5
open Go.World renaming frozen?->Pa,cell?->SG
open Int renaming tdiv->KE,toNat_natCast->KI,tmod->KJ,eq_ofNat_of_zero_le->Mz,emod_nonneg->OG,tmod_eq_emod->QB,ofNat_tdiv->Rx
open List renaming getElem?_eq_getElem->Kg,mem_of_getElem?->Ki,getElem?_eq_some_iff->Kj,mem_iff_getElem?->Ko,getElem_mem->Kt,length_append->Kv,mem_map->Kz,take_succ_eq_append_getElem->KB,getElem?_map->KC,length_take->KF,replicate->KG,length_map->KM,getD->KQ,take_of_length_le->KV,map_append->KX,eq_nil_of_length_eq_zero->KY,flatMap_cons->K6,getElem?_take->Lh,map_cons->Ln,getElem?_drop->Lv,map_congr_left->Lx,map_map->Ly,drop_of_length_le->Lz,filter_append->LI,range->L7,pairwise_map->Mi,mergeSort_perm->Ms,take_take->MR,getElem_map->M6,length_filter_le->Nx,map_nil->NM,ext_getElem->NR,pairwise_mergeSort->NV,map_take->NZ,getElem_range->Oa,drop_drop->Oj,getElem?_append->Ox,all_eq_false->OX,Nodup->Po,getElem?_range->Pz,filter_map->QV,foldl_append->R6
open List.Nodup renaming length_le_of_subset->Pt
open List.Pairwise renaming imp_of_mem->QA
open List.Perm renaming eq_of_pairwise->OP,trans->QU,of_eq->QW
open Nat renaming le_refl->Kl,zero_le->KU,mul_le_mul_right->K2,le_trans->K4,lt_or_ge->K8,lt_of_lt_of_le->K9,mul_one->Ld,le_succ->Lj,succ_mul->LU,reduceAdd->MD,succ_le_of_lt->ND,mod_eq_of_lt->NO,add_zero->OM,sub_zero->Pu
open Option renaming getD_some->Mn,map_some->N0
open Option.some renaming inj->Kq
namespace Go.Proofs.YtkehfflpbpdokaaGreatDoor
open Go.MapKept
def fH:ja Nat:=⟨1,λp=>[bX p],λ_=>rfl,λx u hu=>by simp at hu;subst hu;rfl⟩
theorem pJ (l:List Nat):fH.all l=l.map bX:=by
 induction l with
 |nil=>rfl
 |cons x l ih=>
   have:fH.all (x::l)=bX x::fH.all l:=rfl
   rw[this,ih];rfl
theorem Ie:Dq Kf Af qQ fH.size 8:=qg (by kernel_rfl)
def wY (e:MapEntry):Nat:=match e.val with|.pointer (some a)=>a.block|_=>0
theorem rH {l cap:Nat}{x:PG}{H:aa}{K:Unit->aa->Prop}(I:List MapEntry->aa->Prop)(hF:aN H x)(hcap:ag H cap wD #[.map (some x.mf)])
  (h0:∀A,Mod (λ_=>False) H A->I [] A) (hfr:∀l A A',I l A->Mod (λb=>b=H.size) A A'->A'.size=A.size->I l A')
  (hs:∀ls e q A,I ls A->e∈x.ef.toList->e.val=bX q->(∀y∈ls,y∈x.ef.toList)->ls.Nodup->e∉ls->A[x.mf]?=some (.map x.ef x.cf)->H.size<A.size->ck Kf l #[bX q] A λb A'=>b=true/\I (ls++[e]) A'/\A'[x.mf]?=A[x.mf]?/\A'[H.size]?=A[H.size]?)
  (hfin:∀ls A,I ls A->ls.Perm x.ef.toList->K () A):AX.sp l ⟨cap,0,none⟩ H K:=by
 refine AX.of ?_
 unfold AX.vc
 have:=hcap.ld (c:=cO) (i:=0) (x:=some x.mf) rfl (K:=λx=>bo au Kf (Instr.range wD (.map x)) H λ(it:Option Addr) H1=>aI Unit () H1 λnext _ H2=>bo mn Kf (Instr.next (.pointer it) false En) H2 λ(nx:Bool×List Value) H3=>br nx.1 (bo wI Kf (Instr.entry (.pointer it)) H3 λ(en:Value×Value) H4=>Iz au en.2 λ(v:Option Addr)=>ck Kf l #[(.pointer v)] H4 λ(b:Bool) H5=>br (!b) (K () H5) (next () H5)) (K () H3))
 refine this ?_
 obtain⟨et,inf,hu,_,_⟩:=lR
 refine qy hu hF.fmap λH1 hit e1=>?_
 have hit1:H.size<H1.size:=aG hit
 have hF1:aN H1 x:=hF.aA λb _ hl=>e1.same b hl id
 refine qJ (it:=H.size) (λls _ A=>I ls A/\H.size<A.size) hF1.fmap hit ⟨h0 H1 e1,hit1⟩ (λl x A A' h m s=>⟨hfr l A A' h.1 m s,by omega⟩) ?_ (λls x A h hp _=>hfin ls A h.1 hp)
 rintro ls e ⟨⟩ A next ⟨hI,hlt⟩ he hel hsub hnd hr hito hnext
 obtain⟨z,hz,_,hv⟩:=hF.entry he
 refine⟨aD z.2.p,by rw[hv];rfl,?_⟩
 refine(hs ls e z.2.p A hI he hv hsub hnd hel hr hlt).mono λb A' hb=>?_
 obtain⟨rfl,h1,h2,h3⟩:=hb
 refine ax rfl (hnext () A' ⟨h1,?_⟩ h2 h3)
 obtain⟨o,ho⟩:=hito
 rw[<-h3] at ho
 exact aG ho
theorem ov {cap:Nat}{x:PG}{H:aa}{K:Sl->aa->Prop}(hF:aN H x)(hcap:ag H cap wD #[.map (some x.mf)]) (hlen:x.ef.size<=1048576)
  (hK:∀(s:Sl) (ls:List MapEntry) (H':aa),cw fH qQ H' s (ls.map wY)->ls.Perm x.ef.toList->Mod (λ_=>False) H H'->(∀b,ai s b->H.size<=b)->K s H'):
  Gc.sp (Sl.mk none 0 0) (.func (.func AX.no) #[] #[(.pointer (some ⟨cap,0,none⟩))]) H K:=by
 refine Gc.of ?_
 unfold Gc.vc
 refine ar λH1 s1 r1 m1=>?_
 have hcallable:dg Kf AX.no=true:=by kernel_rfl
 refine⟨_,_,rfl,hcallable,λrec hround=>?_⟩
 obtain⟨r,hr⟩:∃r,r=H1.size:=⟨_,rfl⟩
 obtain⟨l,hl⟩:∃l,l=H1.size+1:=⟨_,rfl⟩
 obtain⟨p,hp⟩:∃p,p=H.size:=⟨_,rfl⟩
 rw[<-hl] at hround ⊢
 rw[<-hr]
 rw[<-hp] at r1
 rw[<-hp] at hround
 rw[<-hp]
 obtain⟨HB,hHB⟩:∃HB:aa,HB=(H1.push (.deferred (some []))).push (.loop (rec .ready none)):=⟨_,rfl⟩
 rw[<-hHB]
 have eB:Mod (λ_=>False) H1 HB:=by rw[hHB];exact(Mod.push _ _ _).trans (Mod.push _ _ _)
 have sB:HB.size=H1.size+2:=by rw[hHB];simp
 have lB:HB[l]?=some (.loop (rec .ready none)):=by rw[hHB,hl,MW,if_pos (by simp)]
 have rB:HB[r]?=some (.deferred (some [])):=by rw[hHB,hr];simp[MW]
 have pB:ag HB p Af #[(Sl.mk none 0 0).v]:=r1.ext eB
 have FB:aN HB x:=(hF.aA λb _ hl=>m1.same b hl id).aA λb _ hl=>eB.same b hl id
 have cB:ag HB cap wD #[.map (some x.mf)]:=(hcap.ext m1).ext eB
 have hml:=hF.fmap.lt
 have hcl:cap<H.size:=aG hcap
 let I:List MapEntry->aa->Prop:=λls A=>A[l]?=some (.loop (rec .ready none))/\A[r]?=some (.deferred (some []))/\(∃s,ag A p Af #[s.v]/\cw fH qQ A s (ls.map wY)/\(∀b,ai s b->HB.size<b))/\Mod (λb=>b=p\/b=l\/b=HB.size) HB A
 refine Spec.mono (R:=λv H'=>∃x:Unit,v=(bj []).enc x/\lq l rec H' _ _ _) (rH (l:=l) (cap:=cap) (x:=x) (H:=HB) (K:=λ_ H'=>lq l rec H' _ _ _) I FB cB ?_ ?_ ?_ ?_) (λv H' ⟨x,_,h⟩=>h)
 ·intro A hA
  exact⟨hA.at lB id,hA.at rB id,⟨_,pB.ext hA,cw.nil _ _ _,by rintro b ⟨ad,q,_⟩;cases q⟩,Ext.mod hA⟩
 ·rintro ls A A' ⟨i1,i2,⟨s,i3,i4,i5⟩,i6⟩ hA hs
  refine⟨hA.at i1 (by omega),hA.at i2 (by omega),⟨s,i3.mod hA (by omega),i4.aA λb hb hbl=>hA.same b hbl (by have:=i5 b hb;omega),i5⟩,i6.trans (hA.mono λb _ e=>.inr (.inr e))⟩
 ·rintro ls e q A ⟨i1,i2,⟨s,i3,i4,i5⟩,i6⟩ he hv hsub hnd hel hmA hAl
  refine hround [bX q] A _ i1 ?_
  show gM (some (aD q)) _
  refine⟨i1,?_⟩
  obtain⟨Ab,hAb⟩:∃Ab:aa,Ab=A.setIfInBounds l (.loop (rec .busy none)):=⟨_,rfl⟩
  rw[<-hAb]
  have mAb:Mod (λb=>b=l) A Ab:=by rw[hAb];exact Mod.setObj rfl
  have sAb:Ab.size=A.size:=by rw[hAb];simp
  have lAb:Ab[l]?=some (.loop (rec .busy none)):=by rw[hAb];exact fy i1
  have hpl:p≠l:=by omega
  have p1:=i3.mod mAb hpl
  refine p1.ld (c:=ao) (i:=0) (x:=s) rfl ?_
  have tl:∀b,ai s b->b≠l:=λb hb=>by have:=i5 b hb;omega
  have o1:cw fH qQ Ab s (ls.map wY):=i4.aA λb hb hbl=>mAb.same b hbl (tl b hb)
  have hln:(ls.map wY).length<=1048576:=by
   have:=Pt hnd (l₂:=x.ef.toList) (λy hy=>hsub y hy)
   simp at this ⊢;omega
  have hne:wY e=q:=by unfold wY;rw[hv];rfl
  refine cw.push (E:=fH) Ie (x:=q) o1 rfl (by omega) (by omega) λs2 A2 o2 g2 _=>?_
  have lp:p<Ab.size:=aG p1
  have tp:∀b,ai s b->b≠p:=λb hb=>by have:=i5 b hb;omega
  have p2:ag A2 p Af #[s.v]:=p1.mod g2.1 (λhb=>tp _ hb rfl)
  have i6s:=i6.size
  have t2:∀b,ai s2 b->HB.size<b:=λb hb=>by
   rcases g2.2 b hb with q|q
   ·exact i5 b q
   ·omega
  have p2st:=p2.st (i:=0) (v:=s2.v) (by simp) rfl (K:=λH5=>H5[l]?=some (.loop (rec .busy none))/\(λb A'=>b=true/\I (ls++[e]) A'/\A'[x.mf]?=A[x.mf]?/\A'[HB.size]?=A[HB.size]?) true (H5.setIfInBounds l (.loop (rec .ready none))))
  rw[show (K0 ⟨p,0,none⟩ 0)=⟨p,0,none⟩ from rfl] at p2st
  refine p2st λA3 p3 m3 s3=>?_
  have l2:A2[l]?=some (.loop (rec .busy none)):=g2.1.at lAb (λhb=>tl _ hb rfl)
  have l3:A3[l]?=some (.loop (rec .busy none)):=m3.at l2 (by omega)
  have m4:Mod (λb=>b=l) A3 (A3.setIfInBounds l (.loop (rec .ready none))):=Mod.setObj rfl
  have z2:=g2.1.size
  refine⟨l3,rfl,⟨fy l3,?_,⟨s2,?_,?_,t2⟩,?_⟩,?_,?_⟩
  ·exact m4.at (m3.at (g2.1.at (mAb.at i2 (by omega)) (λhb=>by have:=i5 _ hb;omega)) (by omega)) (by omega)
  ·exact ag.mod (show ag A3 p Af #[s2.v] from p3) m4 hpl
  ·rw[KX,Ln,NM,hne]
   refine o2.aA λb hb hbl=>?_
   have:=t2 b hb
   exact(m4.same b (by omega) (by omega)).trans (m3.same b hbl (by omega))
  ·refine i6.trans' (G:=λb=>(b=l\/ai s b)\/b=p) ?_ ?_
   ·exact(((mAb.mono λb _ e=>.inl (.inl e)).trans (g2.1.mono λb _ e=>.inl (.inr e))).trans (m3.mono λb _ e=>.inr e)).trans (m4.mono λb _ e=>.inl (.inl e))
   ·rintro b hb ((e|e)|e)
    ·exact .inr (.inl e)
    ·have:=i5 b e;omega
    ·exact .inl e
  ·have hmAl:=aG hmA
   exact(m4.same _ (by omega) (by omega)).trans ((m3.same _ (by omega) (by omega)).trans ((g2.1.same _ (by omega) (λhb=>by have:=i5 _ hb;omega)).trans (mAb.same _ hmAl (by omega))))
  ·exact(m4.same _ (by omega) (by omega)).trans ((m3.same _ (by omega) (by omega)).trans ((g2.1.same _ (by omega) (λhb=>by have:=i5 _ hb;omega)).trans (mAb.same _ (by omega) (by omega))))
 ·rintro ls A ⟨i1,i2,⟨s,i3,i4,i5⟩,i6⟩ hperm
  refine⟨.ready,none,i1,rfl,?_⟩
  show ld ao _ _ _
  have m4:Mod (λb=>b=l) A (A.setIfInBounds l (.loop (rec .exhausted none))):=Mod.setObj rfl
  have p4:=i3.mod m4 (by omega)
  refine p4.ld (c:=ao) (i:=0) (x:=s) rfl ?_
  have r4:=m4.at i2 (by omega)
  refine⟨r4,?_⟩
  have m5:Mod (λb=>b=r) (A.setIfInBounds l (.loop (rec .exhausted none))) ((A.setIfInBounds l (.loop (rec .exhausted none))).setIfInBounds r (.deferred none)):=Mod.setObj rfl
  have z6:=i6.size
  have z4:=m4.size
  refine hK s ls _ ?_ hperm ?_ (λb hb=>by have:=i5 b hb;omega)
  ·refine i4.aA λb hb hbl=>?_
   have:=i5 b hb
   exact(m5.same b (by omega) (by omega)).trans (m4.same b hbl (by omega))
  ·have z5:=m5.size
   refine⟨by omega,λb hb _=>(m5.same b (by omega) (by omega)).trans ((m4.same b (by omega) (by omega)).trans ((i6.same b (by omega) (by omega)).trans ((eB.same b (by omega) id).trans (m1.same b hb id))))⟩
theorem tD {H:aa}{s:Sl}{ps:List Nat}(h:cw fH qQ H s ps){i:Nat}{q:Nat}(hi:ps[i]?=some q){z:Int}(hz:z=(i:Int)){K:Addr->Option Addr->Prop}(hK:∀ad,s.a=some ad->K ad (aD q)):
  ae s.a λa=>(0<=z/\z<(s.n:Int))/\ld au H (a.add (z.toNat*1)) λv=>K a v:=by
 subst hz
 have hil:=(Kj.1 hi).1
 have hn:=h.n (by decide)
 obtain⟨ad,ha⟩:=ql.addr h.rd (by decide) (by omega)
 refine cg ad ha ⟨⟨by omega,by omega⟩,?_⟩
 have:=ql.ld (E:=fH) (c:=au) (y:=aD q) h.rd ha hi (j:=0) rfl (n:=i*1) rfl (hK ad ha)
 rw[show (K0 (K0 ad (i*1)) 0)=K0 ad (i*1) from rfl] at this
 rw[KI];exact this
structure Kept (H:aa)(cap:Nat)(n:ByteArray)(ps:List Nat)(sel:Nat->Bool):Prop where
 cap:ag H cap IG #[.string n]
 fr:∀q∈ps,∃g f,de H g f/\g.p=q/\sel q=(f.name.toList==n.toList)
theorem CZ {H:aa}{cap q:Nat}{n:ByteArray}{ps:List Nat}{sel:Nat->Bool}{K:Bool->aa->Prop}(h:Kept H cap n ps sel)(hq:q∈ps)(hK:K (!sel q) H):AA.sp (aD q) ⟨cap,0,none⟩ H K:=by
 refine AA.of ?_
 unfold AA.vc
 simp only[aq,add_add,MD]
 obtain⟨g,f,hA,rfl,hs⟩:=h.fr q hq
 refine hA.row.ld (c:=cX) (i:=0) (x:=f.name) rfl ?_
 have:=h.cap.ld (c:=cX) (i:=0) (x:=n) rfl (K:=λ(x_1:ByteArray)=>K (!(f.name.toList==x_1.toList)) H)
 rw[show (K0 ⟨cap,0,none⟩ 0)=⟨cap,0,none⟩ from rfl] at this
 refine this ?_
 rw[<-hs];exact hK
theorem xV {H:aa}{cap:Nat}{n:ByteArray}{s:Sl}{ps:List Nat}{sel:Nat->Bool}{K:Int->aa->Prop}(h:cw fH qQ H s ps)(hk:Kept H cap n ps sel)(hl:ps.length<=1048576)
  (hN:ps.filter sel=ps->K (-1) H) (hF:∀i,i<ps.length->(ps.take i).filter sel=ps.take i->(∃q,ps[i]?=some q/\sel q=false)->K (i:Int) H):FA.sp s ⟨cap,0,none⟩ H K:=by
 refine FA.of ?_
 unfold FA.vc
 have hn:=h.n (by decide)
 refine av ps.length (λk x H1=>H=H1/\x=(k:Int)/\(ps.take k).filter sel=ps.take k) ⟨rfl,rfl,by simp⟩ ?_
 rintro k _ _ next hk' ⟨rfl,rfl,hf⟩ hnext
 refine ak (λhc=>?_) (λhc=>?_)
 ·have hlt:k<ps.length:=by rw[hn] at hc;simpa using hc
  have hq:ps[k]?=some ps[k]:=Kg hlt
  refine tD h hq rfl λad ha=>?_
  refine CZ hk (Kt hlt) ?_
  cases hs:sel ps[k] with
  |false=>exact aT rfl (hF k hlt hf ⟨_,hq,hs⟩)
  |true=>
    refine ax rfl (hnext hlt _ _ ⟨rfl,aK k (by omega),?_⟩)
    rw[KB hlt,LI,hf]
    simp[hs]
 ·have hge:k=ps.length:=by rw[hn] at hc;simp at hc;omega
  rw[hge,KV (Kl _)] at hf
  exact hN hf
theorem tW {P:Program}{w:World}{g o:Nat}{t:TypeId}{vs:List Value}{cur:Array Value}(hg:w.heap[g]?=some (.cells cur t (0,0)))(hfit:o+vs.length<=cur.size)(h1:∀v∈vs,v.oneCell'=true):
  w.setCells g o vs=w.setRow g (cur.toList.take o++vs++cur.toList.drop (o+vs.length)).toArray:=by
 have a:=run_storeCells_cells (P:=P) g o vs 0 w (λj hj=>by simp[SG,hg];omega) (λj hj=>by simp[Pa,hg]) h1
 have b:=run_storeCells_at P g o t vs 0 cur w hg (by simpa using hfit) h1
 simp only[OM] at a b
 rw[a] at b
 simpa using b
theorem Dv:∀w:World,(zeroValue qQ).run Kf w=.ok (.pointer none) w:=SL
theorem GO:Kf.underlying Af=some (.slice qQ):=by kernel_rfl
theorem zj {H:aa}{s:Sl}{ps:List Nat}{lo:Nat}{ty:TypeId}{K:Value->aa->Prop}(h:cw fH qQ H s ps)(hlo:lo<ps.length)
  (hK:∀v H',cw fH qQ H' (Sl.mk s.a lo s.c) (ps.take lo)->Mod (ai s) H H'->K v H'):
  bo iz Kf (Qi #[Af] ty #[(.slice (bw s.a s.c lo 1) (s.n - lo) (s.c - lo))]) H K:=by
 intro w hw
 subst hw
 have hn:=h.n (by decide)
 rcases h.2 with ⟨e1,e2⟩|⟨g,cap,cur,e1,hb,hg,h4,h5,h6,h7⟩
 ·omega
 ·cases s with
  |mk sa sn sc=>
  simp only[Sl.v,K5] at e1
  obtain⟨rfl,_,rfl⟩:=e1
  simp only at hn h4 h7 hK ⊢
  have hE1:fH.size=1:=rfl
  rw[hE1,Ld] at h6 h7
  have ea:bw (some ⟨g,0,none⟩) sc lo 1=some ⟨g,lo,none⟩:=by
   unfold bw
   rw[if_neg (by omega)]
   simp[bq]
  rw[ea]
  have hr:=Lib.run_clear_slice (P:=Kf) w Af qQ ty (.pointer none) GO Dv rfl rfl g lo (sn - lo) (sc - lo) (by omega) (λj hj=>by simp[SG,hg];omega) (λj hj=>by simp[Pa,hg])
  rw[tW (P:=Kf) hg (by simp;omega) (by intro v hv;rw[List.eq_of_mem_replicate hv];rfl)] at hr
  have hown:∀k,ai (Sl.mk (some ⟨g,0,none⟩) sn sc) k↔k=g:=λk=>⟨λ⟨ad,h1,h2⟩=>by cases h1;exact h2.symm,λh=>⟨_,rfl,h.symm⟩⟩
  refine⟨_,_,hr,⟨_,rfl,hK _ _ ?_ ⟨by simp[World.setRow],λk _ hk=>setRow_other w g k _ (λe=>hk ((hown k).2 e))⟩⟩,⟨rfl,Kl _⟩⟩
  refine⟨by rw[pJ];simp[hE1];omega,.inr ⟨g,sc,_,rfl,KU _,setRow_heap w g cur _ _ _ hg,by simp only;omega,h5,?_,?_⟩⟩
  ·simp only[hE1,Ld,List.size_toArray,Kv,KF,List.length_replicate,List.length_drop,Array.length_toList]
   omega
  ·simp only[hE1,Ld]
   rw[List.append_assoc,List.take_append_of_le_length (by simp;omega),MR,Nat.min_self]
   have e1:fH.all (ps.take lo)=(fH.all ps).take lo:=by rw[pJ,pJ,NZ]
   rw[e1,<-h7,MR,Nat.min_eq_left (by omega)]
theorem yR {H:aa}{cap:Nat}{n:ByteArray}{s:Sl}{ps:List Nat}{sel:Nat->Bool}{K:Sl->aa->Prop}(h:cw fH qQ H s ps)(hk:Kept H cap n ps sel)(hl:ps.length<=1048576)(hcap:∀b,ai s b->b≠cap)
  (hK:∀s' H',cw fH qQ H' s' (ps.filter sel)->Mod (ai s) H H'->(∀b,ai s' b->ai s b)->K s' H'):Fh.sp s ⟨cap,0,none⟩ H K:=by
 refine Fh.of ?_
 unfold Fh.vc
 have hn:=h.n (by decide)
 have hcp:=az.cap h
 refine xV h hk hl (λhall=>aT rfl (hK s H (by rw[hall];exact h) (.refl _ _) λ_ q=>q)) (λi hi hpre hno=>?_)
 refine ax (by simp) ?_
 -- the frames' own blocks are not the slice's
 have hsep:∀q∈ps,¬ai s q:=by
  intro q hq hb
  obtain⟨c,e⟩:=h.obj q hb
  obtain⟨g,f,hA,rfl,_⟩:=hk.fr q hq
  exact absurd (aW hA.row e) (by decide)
 have keepK:∀{A:aa},Mod (ai s) H A->(∀q∈ps,∃g f,de H g f/\g.p=q/\sel q=(f.name.toList==n.toList))->Kept A cap n ps sel:=by
  intro A hM _
  refine⟨hM.at hk.cap λq=>hcap cap q rfl,λq hq=>?_⟩
  obtain⟨g,f,hA,e1,e2⟩:=hk.fr q hq
  refine⟨g,f,hA.aA λb hb hl=>hM.same b hl λq2=>?_,e1,e2⟩
  obtain⟨c,e⟩:=h.obj b q2
  obtain⟨cs,t,e3,ht⟩:=hA.obj b hb
  have:=aW e e3
  rw[<-this] at ht
  exact absurd ht (by decide)
 obtain⟨q0,hq0,hs0⟩:=hno
 have hw0:Ke.wrap ((i:Int)+1)=((i+1:Nat):Int):=aK i (by omega)
 rw[hw0]
 refine⟨Nat×Nat×List Nat,λt z A=>z=((t.1:Int),(t.2.1:Int))/\cw fH qQ A s t.2.2/\t.2.2.length=ps.length/\t.2.2.take t.1=(ps.take t.2.1).filter sel/\t.2.2.drop t.2.1=ps.drop t.2.1/\t.1<t.2.1/\t.2.1<=ps.length/\Mod (ai s) H A,λt=>ps.length - t.2.1,⟨(i,i+1,ps),rfl,h,rfl,?_,rfl,Nat.lt_succ_self _,hi,.refl _ _⟩,?_⟩
 ·show ps.take i=(ps.take (i+1)).filter sel
  have hq:ps[i]=q0:=by rw[Kg hi] at hq0;exact Kq hq0
  rw[KB hi,LI,hpre,hq]
  simp[hs0]
 ·rintro⟨a,j,cur⟩ z A ⟨rfl,o,hlen,htk,hdr,haj,hj,hM⟩
  simp only at o hlen htk hdr haj hj ⊢
  have hkA:=keepK hM hk.fr
  refine ak (λhc=>?_) (λhc=>?_)
  ·have hjl:j<ps.length:=by rw[hn] at hc;simp at hc;omega
   have hcj:cur[j]?=some ps[j]:=by
    have e1:(cur.drop j)[0]?=(ps.drop j)[0]?:=by rw[hdr]
    rw[Lv,Lv,OM,Kg hjl] at e1
    exact e1
   refine tD o hcj rfl λad ha=>?_
   refine CZ hkA (Kt hjl) ?_
   have hwj:Ke.wrap ((j:Int)+1)=((j+1:Nat):Int):=aK j (by omega)
   have hdr':∀l:List Nat,l.drop j=ps.drop j->l.drop (j+1)=ps.drop (j+1):=by
    intro l e
    have:(l.drop j).drop 1=(ps.drop j).drop 1:=by rw[e]
    rwa [Oj,Oj] at this
   cases hs:sel ps[j] with
   |false=>
     refine ax rfl ⟨(a,j+1,cur),⟨by rw[hwj],o,hlen,?_,hdr' cur hdr,by simp only;omega,hjl,hM⟩,by simp only;omega⟩
     simp only
     rw[KB hjl,LI,htk]
     simp[hs]
   |true=>
     refine aT rfl ?_
     rw[ha]
     refine⟨⟨by omega,by omega⟩,?_⟩
     have hal:a<cur.length:=by omega
     have hca:cur[a]?=some cur[a]:=Kg hal
     rw[KI]
     show st A (K0 (K0 ad (a*1)) 0) (bX ps[j]) _
     refine cw.st (i:=a) (j:=0) (x:=cur[a]) (y:=ps[j]) o ha hca (by decide) rfl rfl rfl λA' o' m' z'=>?_
     have hwa:Ke.wrap ((a:Int)+1)=((a+1:Nat):Int):=aK a (by omega)
     refine⟨(a+1,j+1,cur.set a ps[j]),⟨by rw[hwa,hwj],o',by simp[hlen],?_,?_,by simp only;omega,hjl,hM.trans m'⟩,by simp only;omega⟩
     ·simp only
      rw[KB hjl,LI,<-htk,KB (by simp;omega),List.take_set_of_le (Kl _)]
      simp[hs]
     ·simp only
      rw[List.drop_set_of_lt (by omega)]
      exact hdr' cur hdr
  ·have hje:j=ps.length:=by rw[hn] at hc;simp at hc;omega
   subst hje
   rw[KV (Kl _)] at htk
   refine⟨⟨by omega,by omega⟩,?_⟩
   rw[KI]
   refine zj o (by omega) λv A' o' m'=>⟨⟨by omega,by omega⟩,?_⟩
   rw[fS,Pu,Pu]
   rw[htk] at o'
   exact hK _ A' o' (hM.trans m') λb q=>q
open Go.MapKept Go.Shelf Go.Sort
def PG.of (x:PG)(n:ByteArray):List FZ:=(x.zs.filter λz=>z.1.name.toList==n.toList).mergeSort λa b=>decide (a.1.ab<=b.1.ab)
theorem PG.eX {x:PG}{n:ByteArray}{z:FZ}:z∈x.of n↔z∈x.zs/\z.1.name=n:=by
 unfold PG.of
 rw[List.mem_mergeSort,List.mem_filter]
 constructor
 ·rintro⟨h1,h2⟩;exact⟨h1,iP (by simpa using h2)⟩
 ·rintro⟨h1,h2⟩;exact⟨h1,by rw[h2];simp⟩
theorem qT {l r:List Nat}(h:l.Perm r)(hl:l.Pairwise (·<=·))(hr:r.Pairwise (·<=·)):l=r:=
 OP (le:=(·<=·)) (λa b _ _ h1 h2=>Nat.le_antisymm h1 h2) hl hr h
theorem PG.sP (x:PG)(n:ByteArray):(x.of n).Pairwise λa b=>a.1.ab<=b.1.ab:=by
 unfold PG.of
 have:=NV (le:=λa b:FZ=>decide (a.1.ab<=b.1.ab)) (λ_ _ _ h1 h2=>by simp at*;omega) (λ_ _=>by simp;omega) (x.zs.filter λz=>z.1.name.toList==n.toList)
 exact this.imp λh=>by simpa using h
theorem PG.BH {x:PG}{s:Pl}(h:s.fs=x.fs)(n:ByteArray):(x.of n).map (λz=>z.1.ab)=s.lX n:=by
 refine qT ?_ ?_ ?_
 ·unfold Pl.lX PG.of
  rw[h]
  unfold PG.fs
  refine((Ms _ _).map _).trans (QU ?_ (Ms _ _).symm)
  rw[QV,Ly]
  exact List.Perm.refl _
 ·rw[Mi];exact x.sP n
 ·unfold Pl.lX
  have:=NV (le:=λa b:Nat=>decide (a<=b)) (λ_ _ _ h1 h2=>by simp at*;omega) (λ_ _=>by simp;omega) ((s.fs.filter λf=>f.name.toList==n.toList).map (·.ab))
  exact this.imp λh=>by simpa using h
theorem jC {α β:Type}(f:α->β){l:List α}(h:(l.map f).Nodup):l.Nodup:=by
 unfold Po at*
 rw[Mi] at h
 exact h.imp λhne e=>hne (by rw[e])
theorem sR {α β:Type}{f:α->β}:∀{l:List β},(∀b∈l,∃a,f a=b)->∃r:List α,r.map f=l
 |[],_=>⟨[],rfl⟩
 |b::l,h=>by
   obtain⟨a,ha⟩:=h b List.mem_cons_self
   obtain⟨r,hr⟩:=sR (l:=l) λc hc=>h c (List.mem_cons_of_mem _ hc)
   exact⟨a::r,by rw[Ln,ha,hr]⟩
theorem Cc {H:aa}{za zb:FZ}(ha:de H za.2 za.1)(hb:de H zb.2 zb.1)(h1:za.1.ab<1048577)(h2:zb.1.ab<1048577):
  Spec Kf AO.no #[bX za.2.p,bX zb.2.p] H λv H'=>v=.int .i64 ((za.1.ab:Int) - (zb.1.ab:Int))/\Mod (λ_=>False) H H':=by
 have:=AO.of (a:=aD za.2.p) (b:=aD zb.2.p) (H:=H) (R:=λr H'=>r=(za.1.ab:Int) - (zb.1.ab:Int)/\Mod (λ_=>False) H H') (by
  unfold AO.vc
  simp only[aq,add_add,MD]
  refine ha.row.ld (c:=af .i64) (i:=1) (x:=(za.1.ab:Int)) rfl ?_
  refine hb.row.ld (c:=af .i64) (i:=1) (x:=(zb.1.ab:Int)) rfl ?_
  exact⟨wrap64 (by omega) (by omega),.refl _ _⟩)
 refine Spec.mono this λv H' ⟨x,hx,h3,h4⟩=>?_
 subst hx
 exact⟨by rw[h3],h4⟩
theorem zP:∀args w,(callFunc AO.no args).run Kf w=.ok (.enter AO.no args) w:=enters_of TT (by kernel_rfl) rfl
theorem HC {x:PG}{H:aa}{p dp:Nat}{s:Pl}{n:ByteArray}{K:Sl->aa->Prop}(h:bk x H p dp s)
  (hK:∀sl H',cw fH qQ H' sl ((x.of n).map λz=>z.2.p)->Ext H H'->(∀b,ai sl b->H.size<=b)->K sl H'):Gb.sp (aD p) n H K:=by
 refine Gb.of ?_
 unfold Gb.vc
 simp only[aq]
 refine ar λH1 s1 r1 e1=>?_
 have h1:bk x H1 p dp s:=h.aA λb _ hl=>e1.same b hl id
 refine h1.head.ld (c:=cO) (i:=2) (x:=some x.mf) rfl ?_
 refine GZ.of ?_
 unfold GZ.vc
 refine ar λH2 s2 r2 e2=>?_
 refine GV.of ?_
 unfold GV.vc
 have F2:aN H2 x:=h1.ay.aA λb _ hl=>e2.same b hl id
 have hlen:=h.wf.len
 have hmost:=h.wf.most
 have hsz:=h.n
 refine ov F2 r2 (by omega) λsl ls H3 o3 hp3 e3 f3=>?_
 have hF3:aN H3 x:=F2.aA λb _ hl=>e3.same b hl id
 have z1:=e1.size
 have z2:=e2.size
 have z3:=e3.size
 -- the pointers that were met are the frames'
 have hperm:(ls.map wY).Perm (x.zs.map λz=>z.2.p):=by
  have q1:=(hp3.map λe=>(e.key,e.val)).trans h.perm
  have q2:=q1.map λkv:Value×Value=>(match kv.2 with|.pointer (some a)=>a.block|_=>0)
  rw[Ly] at q2
  refine QU (QW ?_) (q2.trans (QW ?_))
  ·exact Lx λe _=>rfl
  ·unfold xH;rw[Ly];exact Lx λz _=>rfl
 have hat:∀q∈ls.map wY,∃z∈x.zs,z.2.p=q:=by
  intro q hq
  obtain⟨z,hz,e⟩:=Kz.1 (hperm.mem_iff.1 hq)
  exact⟨z,hz,e⟩
 let sel:Nat->Bool:=λq=>x.zs.any λz=>z.2.p==q&&z.1.name.toList==n.toList
 have hsel:∀z∈x.zs,sel z.2.p=(z.1.name.toList==n.toList):=by
  intro z hz
  cases hq:z.1.name.toList==n.toList with
  |true=>exact List.any_eq_true.2 ⟨z,hz,by simp[hq]⟩
  |false=>
    refine List.any_eq_false.2 λy hy=>?_
    intro q
    simp only[KD,beq_iff_eq] at q
    have:=h.ay.ptr hy hz q.1
    subst this
    rw[q.2] at hq;simp at hq
 have hll:(ls.map wY).length<=1048576:=by
  rw[hperm.length_eq,KM]
  have:=h.ay.size;omega
 have hk3:Kept H3 H.size n (ls.map wY) sel:=by
  refine⟨e3.at (e2.at r1 id) id,λq hq=>?_⟩
  obtain⟨z,hz,e⟩:=hat q hq
  exact⟨z.2,z.1,hF3.each z hz,e,by rw[<-e];exact hsel z hz⟩
 refine yR o3 hk3 hll (λb hb e=>by have:=f3 b hb;omega) λs4 H4 o4 m4 w4=>?_
 -- sorted
 have m4':Ext H3 H4\/True:=.inr trivial
 have hF4:aN H4 x:=hF3.aA λb hb hl=>m4.same b hl λq=>by
  have:=f3 b q
  have:=h.ay.lt b hb;omega
 have hperm4:((ls.map wY).filter sel).Perm ((x.of n).map λz=>z.2.p):=by
  refine(hperm.filter sel).trans ?_
  rw[QV]
  refine List.Perm.map _ (QU (QW ?_) (Ms _ _).symm)
  refine List.filter_congr λz hz=>?_
  exact hsel z hz
 have fresh4:∀b,ai s4 b->H.size<=b:=λb hb=>by have:=f3 b (w4 b hb);omega
 have e4:Ext H H4:=⟨by have:=m4.size;omega,λb hb _=>(m4.same b (by omega) (λq=>by have:=f3 b q;omega)).trans ((e3.same b (by omega) id).trans ((e2.same b (by omega) id).trans (e1.same b hb id)))⟩
 by_cases hnil:(x.of n)=[]
 ·-- none
  have hl0:(ls.map wY).filter sel=[]:=by
   have:=hperm4.length_eq
   rw[hnil] at this
   exact KY (by simpa using this)
  rw[hl0] at o4
  have hn0:=o4.n (by decide)
  intro w hw
  subst hw
  have hc:=OT (P:=Kf) (ρ:=lF) {CJ with} s4.a s4.c (.func (.func AO.no) #[] #[]) w
  have e0:s4.v=.slice s4.a 0 s4.c:=by
   cases s4;simp only[Sl.v] at hn0 ⊢;rw[hn0];rfl
  rw[e0]
  refine hc.mono λe w' ⟨he,hw'⟩=>?_
  subst hw'
  refine⟨_,he,⟨(),rfl,hK s4 _ ?_ e4 fresh4⟩,.refl _⟩
  rw[hnil];exact o4
 ·obtain⟨z0,hz0⟩:=List.exists_mem_of_ne_nil _ hnil
  obtain⟨la,hla⟩:=sR (f:=λa:{z:FZ // z∈x.zs/\z.1.name=n}=>a.1.2.p) (l:=(ls.map wY).filter sel) (λq hq=>by
   obtain⟨z,hz,e⟩:=Kz.1 (hperm4.mem_iff.1 hq)
   exact⟨⟨z,PG.eX.1 hz⟩,e⟩)
  haveI:Inhabited {z:FZ // z∈x.zs/\z.1.name=n}:=⟨⟨z0,PG.eX.1 hz0⟩⟩
  let E:ja {z:FZ // z∈x.zs/\z.1.name=n}:=⟨1,λa=>[bX a.1.2.p],λ_=>rfl,λx u hu=>by simp at hu;subst hu;rfl⟩
  have hEall:∀l:List {z:FZ // z∈x.zs/\z.1.name=n},E.all l=fH.all (l.map λa=>a.1.2.p):=by
   intro l
   induction l with
   |nil=>rfl
   |cons a l ih=>
     have q1:E.all (a::l)=bX a.1.2.p::E.all l:=rfl
     have q2:fH.all ((a::l).map λa=>a.1.2.p)=bX a.1.2.p::fH.all (l.map λa=>a.1.2.p):=rfl
     rw[q1,q2,ih]
  have oE:∀{A:aa} {l:List {z:FZ // z∈x.zs/\z.1.name=n}},cw E qQ A s4 l↔cw fH qQ A s4 (l.map λa=>a.1.2.p):=by
   intro A l
   unfold cw
   rw[hEall]
   exact Iff.rfl
  have o4':cw E qQ H4 s4 la:=by rw[oE,hla];exact o4
  have hpg:∀a:{z:FZ // z∈x.zs/\z.1.name=n},a.1.1.ab<1048577:=λa=>(h.wf.aB a.1.1 (by rw[h.fs];exact Kz.2 ⟨a.1,a.2.1,rfl⟩)).1
  let cf:{z:FZ // z∈x.zs/\z.1.name=n}->{z:FZ // z∈x.zs/\z.1.name=n}->Int:=λa b=>(a.1.1.ab:Int) - (b.1.1.ab:Int)
  have hlt:∀a b,ltOf cf a b=decide (a.1.1.ab<b.1.1.ab):=by
   intro a b
   show decide ((a.1.1.ab:Int) - (b.1.1.ab:Int)<0)=_
   rw[decide_eq_decide];omega
  have hO:SWO (ltOf cf):=⟨λa=>by rw[hlt];simp,λa b c h1 h2=>by rw[hlt] at*;simp at*;omega,λa b c h1 h2=>by rw[hlt] at*;simp at*;omega⟩
  have hT:∀a b,(ltOf cf) a b=false->(ltOf cf) b a=false->a=b:=by
   intro a b h1 h2
   rw[hlt] at h1 h2
   simp at h1 h2
   apply Subtype.ext
   obtain⟨i,hi⟩:=Ko.1 a.2.1
   obtain⟨j,hj⟩:=Ko.1 b.2.1
   have hk:=h.wf.keys
   have:=key_inj (p:=s) hk (i:=i) (j:=j) (f:=a.1.1) (g:=b.1.1) (by rw[h.fs];simp[PG.fs,hi]) (by rw[h.fs];simp[PG.fs,hj]) (by rw[a.2.2,b.2.2]) (by omega)
   subst this
   rw[hi] at hj;exact Kq hj
  have hlal:la.length<4611686018427387904:=by
   have:la.length=((ls.map wY).filter sel).length:=by rw[<-hla,KM]
   have h2:=Nx sel (ls.map wY)
   omega
  refine rz (ρ:=lF) (E:=E) (e:=λa=>bX a.1.2.p) CJ (λ_=>rfl) rfl hO hT zP o4' hlal (λA mA a b=>?_) λA oA mA=>?_
  ·have hFA:aN A x:=hF4.aA λc hc hl=>mA.same c hl λq=>by
    have:=fresh4 c q
    have:=h.ay.lt c hc;omega
   exact Cc (hFA.each a.1 a.2.1) (hFA.each b.1 b.2.1) (hpg a) (hpg b)
  ·rw[oE] at oA
   have hperm5:=Ms la (λx y=>!(ltOf cf) y x)
   have heq:(la.mergeSort λx y=>!(ltOf cf) y x).map (λa=>a.1.2.p)=(x.of n).map λz=>z.2.p:=by
    have hz:(la.mergeSort λx y=>!(ltOf cf) y x).map (λa=>a.1)=x.of n:=by
     refine OP (le:=λa b:FZ=>a.1.ab<=b.1.ab) (λa b ha hb h1 h2=>?_) ?_ (x.sP n) ?_
     ·obtain⟨a',_,rfl⟩:=Kz.1 ha
      have hb':=PG.eX.1 hb
      have:=hT a' ⟨b,hb'⟩ (by rw[hlt];simp;exact h2) (by rw[hlt];simp;exact h1)
      exact congrArg Subtype.val this
     ·rw[Mi]
      have:=NV (le:=λx y=>!(ltOf cf) y x) (λa b c h1 h2=>by rw[hlt] at*;simp at*;omega) (λa b=>by rw[hlt,hlt];simp;omega) la
      exact this.imp λh=>by rw[hlt] at h;simpa using h
     ·-- the same frames
      have hnd:(x.of n).Nodup:=by
       have hz:x.zs.Nodup:=by
        have:=h.wf.keys
        rw[h.fs] at this
        unfold PG.fs at this
        rw[Ly] at this
        exact jC _ this
       unfold PG.of
       exact(Ms _ _).symm.nodup (hz.filter _)
      have hA:(la.map λa=>a.1.2.p).Perm ((x.of n).map λz=>z.2.p):=by rw[hla];exact hperm4
      have hpp:=(hperm5.map λa=>a.1.2.p).trans hA
      have inj:∀a∈(la.mergeSort λx y=>!(ltOf cf) y x).map (λa=>a.1),∀b∈x.of n,a.2.p=b.2.p->a=b:=by
       intro a ha b hb e
       obtain⟨a',_,rfl⟩:=Kz.1 ha
       exact h.ay.ptr a'.2.1 (PG.eX.1 hb).1 e
      have hnd2:((x.of n).map λz=>z.2.p).Nodup:=by
       unfold Po
       rw[Mi]
       refine QA (λ{a b} ha hb hne e=>hne (h.ay.ptr (PG.eX.1 ha).1 (PG.eX.1 hb).1 e)) hnd
      have hpp':(((la.mergeSort λx y=>!(ltOf cf) y x).map λa=>a.1).map λz=>z.2.p).Perm ((x.of n).map λz=>z.2.p):=by rw[Ly];exact hpp
      have hndA:((la.mergeSort λx y=>!(ltOf cf) y x).map λa=>a.1).Nodup:=jC _ (hpp'.symm.nodup hnd2)
      rw[List.perm_ext_iff_of_nodup hndA hnd]
      intro z
      constructor
      ·intro hz
       obtain⟨a',_,rfl⟩:=Kz.1 hz
       exact PG.eX.2 a'.2
      ·intro hz
       have:z.2.p∈((la.mergeSort λx y=>!(ltOf cf) y x).map λa=>a.1).map λz=>z.2.p:=hpp'.mem_iff.2 (Kz.2 ⟨z,hz,rfl⟩)
       obtain⟨y,hy,e⟩:=Kz.1 this
       rw[<-inj y hy z hz e];exact hy
    rw[<-hz,Ly];rfl
   rw[heq] at oA
   refine hK s4 A oA ⟨by have:=e4.size;have:=mA.size;omega,λb hb _=>(mA.same b (by have:=e4.size;omega) (λq=>by have:=fresh4 b q;omega)).trans (e4.same b hb id)⟩ fresh4
end Go.Proofs.YtkehfflpbpdokaaGreatDoor
namespace Go.Proofs.YtkehfflpbpdokaaGreatDoor
open Go.MapKept
theorem Pl.oV (s:Pl)(n:ByteArray):(s.lX n).length<=s.fs.length:=by
 unfold Pl.lX
 rw[List.length_mergeSort,KM]
 exact Nx _ _
end Go.Proofs.YtkehfflpbpdokaaGreatDoor
namespace Go.Proofs.YtkehfflpbpdokaaGreatDoor
theorem gP {α β:Type}(f:α->β)(u:α->α)(hu:∀x,f (u x)=f x):∀(l:List α) (i:Nat),(l.modify i u).map f=l.map f
 |[],i=>by simp
 |a::l,0=>by simp[hu]
 |a::l,i+1=>by simp[gP f u hu l i]
theorem Pl.kQ (p:Pl)(e:Int):(p.met e).d=p.d/\(p.met e).fs=p.fs/\(p.met e).next=p.next/\(p.met e).most=p.most:=by
 unfold Pl.met;split<;>exact⟨rfl,rfl,rfl,rfl⟩
theorem Pl.BQ (p:Pl)(n:ByteArray)(k:Int):(p.load n k).1=p\/(p.load n k).1=p.room.1:=by
 unfold Pl.load
 split
 ·exact .inl rfl
 ·split
  ·exact .inl rfl
  ·split
   ·exact .inr rfl
   ·split
    ·exact .inr rfl
    ·split<;>exact .inr rfl
theorem Pl.wm (p:Pl)(n:ByteArray)(k:Int):(p.bR n k).1.d.bf<=p.d.bf+1:=by
 unfold Pl.bR
 split
 ·exact Lj _
 ·split
  ·exact Lj _
  ·have h:(p.load n k).1.d.bf<=p.d.bf+1:=by
    rcases p.BQ n k with e|e
    ·rw[e];exact Lj _
    ·rw[e];exact p.nj
   split
   ·rename_i q f e he;rw[he] at h;exact h
   ·rename_i q e he;rw[he] at h;show (q.met e).d.bf<=_;rw[(q.kQ e).1];exact h
theorem Pl.wT (p:Pl)(n:ByteArray):(p.fresh n).1.d.bf<=p.d.bf+2:=by
 have hr:=p.nj
 have hw:=p.room.1.d.pR n (p.d.len n).1 (bP 0 [])
 unfold Pl.fresh
 split
 ·show p.d.bf<=_;omega
 ·split
  ·show (p.met _).d.bf<=_;rw[(p.kQ _).1];omega
  ·split
   ·show (p.room.1.met _).d.bf<=_;rw[(p.room.1.kQ _).1];omega
   ·split
    ·show ((p.room.1.cT _).met _).d.bf<=_
     rw[((p.room.1.cT _).kQ _).1]
     show (p.room.1.d.write _ _ _).1.bf<=_;omega
    ·show (p.room.1.d.write _ _ _).1.bf<=_;omega
theorem Pl.FN (r:Pl×Int):(Pl.out r).1.d=r.1.d:=(r.1.kQ r.2).1
theorem Pl.FU (p:Pl)(h:Int)(k:UInt8)(b:List UInt8):(p.set h k b).1.d=p.d:=by
 unfold Pl.set
 split
 ·rfl
 ·split
  ·split<;>rfl
  ·rfl
theorem Pl.yr (p:Pl)(h:Int):(p.bm h).1.d=p.d:=by
 unfold Pl.bm
 split
 ·rfl
 ·split<;>rfl
theorem Pl.wS (p:Pl)(n:ByteArray):(p.iQ n).1.d.bf<=p.d.bf:=by
 have:=p.d.vA n
 unfold Pl.iQ
 split
 ·exact Kl _
 ·split
  ·rw[Pl.FN];exact Kl _
  ·split
   ·exact Kl _
   ·rw[Pl.FN];exact this
theorem Pl.wO (s:Pl)(n:ByteArray)(k:Int):(∃e,s.load n k=(s,none,e))\/(∃e,s.load n k=(s.room.1,none,e))\/∃f,s.load n k=(s.room.1,some f,0)/\f.name=n/\(f.ab:Int)=k/\(s.room.1.d.read n k).2=0:=by
 unfold Pl.load
 split
 ·exact .inl ⟨_,rfl⟩
 ·split
  ·exact .inl ⟨_,rfl⟩
  ·rename_i hk
   split
   ·exact .inr (.inl ⟨_,rfl⟩)
   ·split
    ·exact .inr (.inl ⟨_,rfl⟩)
    ·rename_i hr
     split
     ·exact .inr (.inl ⟨_,rfl⟩)
     ·exact .inr (.inr ⟨_,rfl,rfl,by show ((k.toNat:Nat):Int)=k;omega,by simpa using hr⟩)
theorem tq {x:Int}(h0:0<=x)(h1:x<1099511627776):ff (x+1)=x+1:=by unfold ff;exact wrap64 (by omega) (by omega)
theorem Pl.xY (s:Pl)(i:Nat)(h0:0<=s.next)(h1:s.next<1099511627776):(s.jI i).next=s.next+1:=tq h0 h1
theorem Pl.sI (s:Pl)(f:Fr)(h0:0<=s.next)(h1:s.next<1099511627776):(s.take f).next=s.next+1:=tq h0 h1
theorem Pl.qk {s:Pl}{n:ByteArray}{k:Int}(h0:0<=s.next)(h1:s.next<1099511627776):(s.bR n k).1.next<=s.next+1:=by
 unfold Pl.bR
 split
 ·show s.next<=_;omega
 ·split
  ·rw[Pl.xY s _ h0 h1];omega
  ·rcases s.wO n k with ⟨e,he⟩|⟨e,he⟩|⟨f,he,_⟩
   ·rw[he];show (s.met e).next<=_;rw[(s.kQ e).2.2.1];omega
   ·rw[he];show (s.room.1.met e).next<=_;rw[(s.room.1.kQ e).2.2.1,s.dC.2.1];omega
   ·rw[he];show (s.room.1.take f).next<=_;rw[Pl.sI _ _ (by rw[s.dC.2.1];exact h0) (by rw[s.dC.2.1];exact h1),s.dC.2.1];omega
theorem Pl.qG {s:Pl}{n:ByteArray}(h0:0<=s.next)(h1:s.next<1099511627776):(s.fresh n).1.next<=s.next+1:=by
 have hr:=s.dC.2.1
 unfold Pl.fresh
 split
 ·show s.next<=_;omega
 ·split
  ·show (s.met _).next<=_;rw[(s.kQ _).2.2.1];omega
  ·split
   ·show (s.room.1.met _).next<=_;rw[(s.room.1.kQ _).2.2.1,hr];omega
   ·split
    ·show ((s.room.1.cT _).met _).next<=_
     rw[((s.room.1.cT _).kQ _).2.2.1]
     show s.room.1.next<=_;rw[hr];omega
    ·show ((s.room.1.cT _).take _).next<=_
     rw[Pl.sI _ _ (by show 0<=s.room.1.next;rw[hr];exact h0) (by show s.room.1.next<_;rw[hr];exact h1)]
     show s.room.1.next+1<=_;rw[hr];omega
theorem Pl.uL (s:Pl)(c:Int)(k:UInt8)(b:List UInt8):(s.set c k b).1.next=s.next:=by
 unfold Pl.set
 split
 ·rfl
 ·split
  ·split<;>rfl
  ·rfl
def Pl.leave (r:Pl×Int)(h:Int):Pl×Int:=if r.2=0 then r.1.bm h else r
def Pl.more (p:Pl)(n:ByteArray)(k:UInt8)(b:List UInt8):Pl×Int:=
 if (p.fresh n).2.2.2≠0 then ((p.fresh n).1,(p.fresh n).2.2.2)
 else Pl.leave (if k=0 then ((p.fresh n).1,0) else (p.fresh n).1.set (p.fresh n).2.1 k b) (p.fresh n).2.1
def Pl.look (p:Pl)(n:ByteArray)(g:Int):Pl×UInt8×List UInt8×Int:=
 if (p.bR n g).2.2≠0 then ((p.bR n g).1,0,[],(p.bR n g).2.2)
 else if ((p.bR n g).1.get (p.bR n g).2.1).2.2≠0 then ((p.bR n g).1,(p.bR n g).1.get (p.bR n g).2.1)
 else (((p.bR n g).1.bm (p.bR n g).2.1).1,((p.bR n g).1.get (p.bR n g).2.1).1,((p.bR n g).1.get (p.bR n g).2.1).2.1,((p.bR n g).1.bm (p.bR n g).2.1).2)
theorem xD {p:List UInt8}{k:UInt8}{b:List UInt8}(h:fm p=some (k,b)):b.length<=504:=by
 unfold fm at h
 split at h
 ·rename_i hc
  cases h
  have hl:=hc.1
  rw[KF]
  omega
 ·cases h
section
variable {p:Pl}{n:ByteArray}{N q:Nat}{T:Nat->UInt8×List UInt8}
end
theorem wv {a b:Sl}{la lb:List Int}{H:aa}{K:Bool->aa->Prop}(ha:Ints .u64 H a la)(hb:Ints .u64 H b lb)(hlen:la.length<4611686018427387904)(hK:K (decide (la=lb)) H):CC.sp a b H K:=by
 refine CC.of ?_
 unfold CC.vc
 have la1:=ha.len
 have lb1:=hb.len
 refine ak (λh=>?_) (λh=>?_)
 ·have h1:la≠lb:=by intro e;subst e;simp[la1,lb1] at h
  simpa[h1] using hK
 ·have h':(a.n:Int)=(b.n:Int):=by simpa using h
  have hl:la.length=lb.length:=by omega
  refine⟨Nat,λk i H'=>i=(k:Int)/\k<=la.length/\H'=H/\la.take k=lb.take k,λk=>la.length - k,⟨0,rfl,KU _,rfl,by simp⟩,?_⟩
  rintro k i H' ⟨rfl,hk,rfl,ht⟩
  refine ak (λh1=>?_) (λh1=>?_)
  ·have h1':(k:Int)<(a.n:Int):=by simpa using h1
   have hlt:k<la.length:=by omega
   refine ha.ld (by omega) (by omega) λad1 e1=>?_
   refine hb.ld (by omega) (by omega) λad2 e2=>?_
   simp only[KI]
   refine ak (λh2=>?_) (λh2=>?_)
   ·have h3:la≠lb:=by intro e;subst e;simp at h2
    simpa[h3] using hK
   ·refine⟨k+1,⟨by rw[wrap64 (by omega) (by omega)];omega,by omega,by trivial,?_⟩,by omega⟩
    rw[KB hlt,KB (by omega:k<lb.length),ht]
    have:la[k]'hlt=lb[k]'(by omega):=by simpa[KQ,Kg hlt,Kg (by omega:k<lb.length)] using h2
    rw[this]
  ·have h1':¬((k:Int)<(a.n:Int)):=by simpa using h1
   have hge:k=la.length:=by omega
   subst hge
   have h2:la=lb:=by rw[KV (Kl _),KV (by omega)] at ht;exact ht
   simpa[h2] using hK
theorem jx {a b:Sl}{la lb:List Int}{H:aa}{K:Bool->aa->Prop}(ha:Ints .u64 H a la)(hb:Ints .u64 H b lb)(hlen:la.length<1099511627776)(hK:K (decide (la=lb)) H):CC.sp a b H K:=wv ha hb (by omega) hK
theorem vU {i n:Int}{H:aa}{K:Int->aa->Prop}(h2:n<=9223372036854775807)
  (hK:K (if n<1 then 0 else i.emod n) H):DA.sp i n H K:=by
 refine DA.of ?_
 unfold DA.vc
 refine ak (λh=>?_) (λh=>?_)
 ·have:n<1:=by simpa using h
  simpa[this] using hK
 ·have hn:1<=n:=by simpa using h
  refine⟨by omega,?_⟩
  rw[if_neg (by omega)] at hK
  have hm:=Int.tmod_def i n
  refine ak (λh=>?_) (λh=>?_)
  ·have hneg:i.tmod n<0:=by simpa using h
   have e:i.emod n=i.tmod n+n:=by
    rw[QB] at hneg ⊢
    split at hneg
    ·have:=OG i (show n≠0 by omega)
     omega
    ·rename_i h3
     rw[if_neg h3]
     have:(n.natAbs:Int)=n:=by omega
     have e2:i%n=i.emod n:=rfl
     omega
   have hb1:-n<i.tmod n:=by
    rw[QB]
    have:=OG i (show n≠0 by omega)
    split<;>omega
   rw[wrap64 (by omega) (by omega),<-e]
   exact hK
  ·have hpos:0<=i.tmod n:=by simpa using h
   have e:i.emod n=i.tmod n:=by
    rw[QB] at hpos ⊢
    split
    ·simp;rfl
    ·rename_i h3
     rw[if_neg h3] at hpos
     have:=Int.emod_lt_of_pos i (show 0<n by omega)
     have:(n.natAbs:Int)=n:=by omega
     omega
   rw[<-e];exact hK
theorem iY:El Kf dn iB 8 (.int .u64 0):=nL (zb:=mX .u64) kK rfl (by kernel_rfl)
theorem GD:El Kf iy kN 1 (.int .u8 0):=nL (zb:=mX .u8) kK rfl (by kernel_rfl)
theorem CA:El Kf gy dA 8 (.int .i64 0):=nL (zb:=mX .i64) kK rfl (by kernel_rfl)
theorem oS:El Kf dG dn 24 (.slice none 0 0):=nL (zb:=yK) wu rfl (by kernel_rfl)
def aP:List Int->List Int->Int
 |[],[]=>0
 |[],_::_=>-1
 |_::_,[]=>1
 |x::a,y::b=>if x<y then -1 else if y<x then 1 else aP a b
theorem fu:∀{a b:List Int},aP a b=0↔a=b
 |[],[]=>by simp[aP]
 |[],_::_=>by simp[aP]
 |_::_,[]=>by simp[aP]
 |x::a,y::b=>by
   unfold aP
   have ih:=@fu a b
   split
   ·simp;intro h;omega
   ·split
    ·simp;intro h;omega
    ·rw[ih];simp;intro;omega
theorem sG:∀(a b:List Int),aP b a=- aP a b
 |[],[]=>by simp[aP]
 |[],_::_=>by simp[aP]
 |_::_,[]=>by simp[aP]
 |x::a,y::b=>by
   have ih:=sG a b
   simp only[aP]
   split
   ·rw[if_neg (by omega)];try rfl
   ·split
    ·rfl
    ·exact ih
theorem jr (a b:List Int):aP a b=-1\/aP a b=0\/aP a b=1:=by
 induction a generalizing b with
 |nil=>cases b<;>simp[aP]
 |cons x a ih=>cases b with
   |nil=>simp[aP]
   |cons y b=>
     simp only[aP]
     split
     ·simp
     ·split
      ·simp
      ·exact ih b
theorem drop_cons {l:List Int}{k:Nat}(h:k<l.length):l.drop k=l.getD k 0::l.drop (k+1):=by
 rw[List.drop_eq_getElem_cons h];simp[KQ,Kg h]
theorem rk {x y:Int}{H:aa}{K:Int->aa->Prop}(hK:K (if x<y then -1 else if y<x then 1 else 0) H):Dl.sp x y H K:=by
 have hn:∀{z:Int} {H:aa} {K:Bool->aa->Prop},K false H->DU.sp z H K:=by
  intro z H K h
  refine DU.of ?_
  unfold DU.vc
  simpa using h
 refine Dl.of ?_
 unfold Dl.vc
 refine hn (hn ?_)
 simp only[br]
 refine ak (λh=>?_) (λh=>?_)
 ·rw[if_pos (by simpa using h)] at hK;exact hK
 ·rw[if_neg (by simpa using h)] at hK
  refine ak (λh=>?_) (λh=>?_)
  ·rw[if_pos (by simpa using h)] at hK;exact hK
  ·rw[if_neg (by simpa using h)] at hK;exact hK
theorem dW {a b:Sl}{la lb:List Int}{H:aa}{K:Int->aa->Prop}(ha:Ints .u64 H a la)(hb:Ints .u64 H b lb)(hlen:la.length<1099511627776)(hK:K (aP la lb) H):rR.sp a b H K:=by
 refine rR.of ?_
 unfold rR.vc
 refine Hr.of ?_
 unfold Hr.vc
 have la1:=ha.len
 have lb1:=hb.len
 refine av la.length (λk i H'=>i=(k:Int)/\k<=lb.length/\H'=H/\aP la lb=aP (la.drop k) (lb.drop k)) ⟨rfl,KU _,rfl,by simp⟩ ?_
 rintro k i H' next hk ⟨rfl,hkb,rfl,hc⟩ hnext
 refine ak (λh=>?_) (λh=>?_)
 ·have h1:k<la.length:=by simp at h;omega
  rw[drop_cons h1] at hc
  refine ha.ld (by omega) (by omega) λad1 e1=>?_
  simp only[KI]
  refine ak (λh2=>?_) (λh2=>?_)
  ·have h2':lb.length<=k:=by simp at h2;omega
   rw[Lz h2',aP] at hc
   rw[<-hc];exact hK
  ·have h2':k<lb.length:=by simp at h2;omega
   rw[drop_cons h2',aP] at hc
   refine hb.ld (by omega) (by omega) λad2 e2=>?_
   simp only[KI]
   refine rk ?_
   refine ak (λh3=>?_) (λh3=>?_)
   ·have e:aP la lb=(if la.getD k 0<lb.getD k 0 then -1 else if lb.getD k 0<la.getD k 0 then 1 else 0):=by
     rw[hc]
     by_cases q1:la.getD k 0<lb.getD k 0
     ·rw[if_pos q1,if_pos q1]
     ·by_cases q2:lb.getD k 0<la.getD k 0
      ·rw[if_neg q1,if_pos q2,if_neg q1,if_pos q2]
      ·rw[if_neg q1,if_neg q2] at h3;simp at h3
    rw[<-e];exact hK
   ·have h3':¬la.getD k 0<lb.getD k 0/\¬lb.getD k 0<la.getD k 0:=by
     constructor
     ·intro q;rw[if_pos q] at h3;simp at h3
     ·intro q;rw[if_neg (by omega),if_pos q] at h3;simp at h3
    rw[if_neg h3'.1,if_neg h3'.2] at hc
    exact hnext h1 _ _ ⟨by rw[aK k (by omega)],h2',rfl,hc⟩
 ·have h1:la.length<=k:=by simp at h;omega
  rw[Lz h1] at hc
  refine ak (λh2=>?_) (λh2=>?_)
  ·have h2':k<lb.length:=by simp at h2;omega
   rw[drop_cons h2',aP] at hc
   rw[<-hc];exact hK
  ·have h2':lb.length<=k:=by simp at h2;omega
   rw[Lz h2',aP] at hc
   rw[<-hc];exact hK
theorem Ints.front {k:IntKind}{H:aa}{s:Sl}{l:List Int}(h:Ints k H s l){n:Nat}(hn:n<=l.length)(c:Nat):Ints k H ⟨s.a,n,c⟩ (l.take n):=
 ⟨by simp;omega,by rw[NZ];exact h.reads.take n⟩
theorem gH {a b:Sl}{la lb:List Int}{H:aa}{K:Bool->aa->Prop}(ha:Ints .u64 H a la)(hb:Ints .u64 H b lb)(hlen:la.length<1099511627776)(hK:K (decide (la=lb)) H):Dx.sp a b H K:=by
 refine Dx.of ?_
 have:=jx ha hb hlen hK
 unfold Dx.vc
 have la1:=ha.len
 have lb1:=hb.len
 refine ak (λh=>?_) (λh=>?_)
 ·have h1:la≠lb:=by intro e;subst e;simp[la1,lb1] at h
  simpa[h1] using hK
 ·have h':(a.n:Int)=(b.n:Int):=by simpa using h
  have hl:la.length=lb.length:=by omega
  refine av la.length (λk i H'=>i=(k:Int)/\H'=H/\la.take k=lb.take k) ⟨rfl,rfl,by simp⟩ ?_
  rintro k i H' next hk ⟨rfl,rfl,ht⟩ hnext
  refine ak (λh1=>?_) (λh1=>?_)
  ·have hlt:k<la.length:=by simp at h1;omega
   refine ha.ld (by omega) (by omega) λad1 e1=>?_
   refine hb.ld (by omega) (by omega) λad2 e2=>?_
   simp only[KI]
   refine ak (λh2=>?_) (λh2=>?_)
   ·have h3:la≠lb:=by intro e;subst e;simp at h2
    simpa[h3] using hK
   ·refine hnext hlt _ _ ⟨by rw[aK k (by omega)],rfl,?_⟩
    rw[KB hlt,KB (by omega:k<lb.length),ht]
    have:la[k]'hlt=lb[k]'(by omega):=by simpa[KQ,Kg hlt,Kg (by omega:k<lb.length)] using h2
    rw[this]
  ·have hge:k=la.length:=by simp at h1;omega
   subst hge
   have h2:la=lb:=by rw[KV (Kl _),KV (by omega)] at ht;exact ht
   simpa[h2] using hK
def cL (l p:List Int):Bool:=decide (p.length<=l.length/\l.take p.length=p)
theorem tV {a b:Sl}{la lb:List Int}{H:aa}{K:Bool->aa->Prop}(ha:Ints .u64 H a la)(hb:Ints .u64 H b lb)(hc:a.n<=a.c)(hlen:la.length<1099511627776)(hK:K (cL la lb) H):Ge.sp a b H K:=by
 refine Ge.of ?_
 unfold Ge.vc
 have la1:=ha.len
 have lb1:=hb.len
 refine ak (λh=>?_) (λh=>?_)
 ·have h':lb.length<=la.length:=by simp at h;omega
  refine⟨by omega,?_⟩
  rw[fS]
  refine gH (la:=la.take lb.length) (lb:=lb) ?_ hb (by simp;omega) ?_
  ·have:=ha.front h' (a.c - 0)
   rw[lb1];simpa using this
  ·unfold cL at hK;simpa[h'] using hK
 ·have h':¬lb.length<=la.length:=by simp at h;omega
  unfold cL at hK;simpa[h'] using hK
def aF (w:Int):Int:=if w<0\/w>16 then 0 else if w=0 then 1 else 8*w
theorem qc {w:Int}{H:aa}{K:Int->aa->Prop}(hK:K (aF w) H):Eh.sp w H K:=by
 refine Eh.of ?_
 unfold Eh.vc
 unfold aF at hK
 refine ak (λh=>?_) (λh=>?_)
 ·have h':w<0:=by simpa using h
  rw[if_pos (.inl h')] at hK
  simpa[h',br] using hK
 ·have h':¬w<0:=by simpa using h
  refine ak (λh2=>?_) (λh2=>?_)
  ·rw[if_pos (.inr (by simpa using h2))] at hK;exact hK
  ·have h2':¬w>16:=by simpa using h2
   rw[if_neg (by omega)] at hK
   refine ak (λh3=>?_) (λh3=>?_)
   ·rw[if_pos (by simpa using h3)] at hK;exact hK
   ·rw[if_neg (by simpa using h3)] at hK
    rw[wrap64 (by omega) (by omega)];exact hK
def lV (w:Int):Int:=if aF w=0 then 0 else KE 504 (aF w)
theorem bL (w:Int):aF w=0\/(0<aF w/\aF w<=128):=by
 unfold aF;split
 ·simp
 ·split
  ·simp
  ·right;omega
theorem vW (w:Int):Ke.wrap (KE 504 (aF w))=KE 504 (aF w):=by
 have h0:=Int.tdiv_nonneg (a:=504) (b:=aF w) (by omega) (by rcases bL w with h|h<;>omega)
 have h1:KE 504 (aF w)<=504:=by
  rcases bL w with h|h
  ·rw[h];simp
  ·exact Int.tdiv_le_self _ (by omega)
 exact wrap64 (by omega) (by omega)
theorem kZ {w:Int}{H:aa}{K:Int->aa->Prop}(hK:K (lV w) H):Bt.sp w H K:=by
 refine Bt.of ?_
 unfold Bt.vc
 refine qc ?_
 unfold lV at hK
 have hc:=bL w
 refine ak (λh=>?_) (λh=>?_)
 ·have h':aF w>0:=by simpa using h
  rw[if_neg (by omega)] at hK
  refine⟨by omega,?_⟩
  rw[vW];exact hK
 ·have h':¬aF w>0:=by simpa using h
  rw[if_pos (by omega)] at hK;exact hK
def dI (l cols:List Int):Bool:=cols.all λc=>decide (0<=c)&&decide (c<(l.length:Int))
def aL (l cols:List Int):List Int:=if dI l cols then cols.map λc=>l.getD c.toNat 0 else []
def Cn (l cols:List Int):Int:=if dI l cols then 0 else 2
theorem yZ {l cols:List Int}{k:Nat}(hk:k<cols.length)(hb:¬(0<=cols.getD k 0/\cols.getD k 0<(l.length:Int))):dI l cols=false:=by
 unfold dI
 rw[OX]
 refine⟨cols[k],Kt _,?_⟩
 simp[KQ,Kg hk] at hb
 simpa using hb
theorem uQ {l cols:List Int}{k:Nat}(hk:k<cols.length)(h:dI l (cols.take k)=true)(h1:0<=cols.getD k 0)(h2:cols.getD k 0<(l.length:Int)):dI l (cols.take (k+1))=true:=by
 unfold dI at h ⊢
 rw[KB hk,List.all_append,h]
 simp[KQ,Kg hk] at h1 h2
 simp[h1,h2]
theorem rL {cols:List Int}{k:Nat}(f:Int->Value)(hk:k<cols.length):(cols.take (k+1)).map f=(cols.take k).map f++[f (cols.getD k 0)]:=by
 rw[KB hk,KX]
 simp only[Ln,NM,KQ,Kg hk,Mn]
theorem kV {l cols:Sl}{ll lc:List Int}{H:aa}{K:(Sl×Int)->aa->Prop}(hl:Ints .u64 H l ll)(hc:Ints .i64 H cols lc)(hlen:lc.length<=1000000)
  (hK:∀s H',az H' H.size iB 1 s ((aL ll lc).map (Km .u64))->Ext H H'->K (s,Cn ll lc) H'):DE.sp l cols H K:=by
 refine DE.of ?_
 unfold DE.vc
 have ln:=hl.len
 have cn:=hc.len
 refine iY.make (base:=H.size) (by omega) (by omega) (by omega) (by omega) (Kl _) ?_
 intro out H1 n1 o1 e1 b1 _
 refine av lc.length (λk z H'=>z.2=(k:Int)/\z.1.n=k/\dI ll (lc.take k)=true/\az H' H.size iB 1 z.1 ((lc.take k).map λc=>Km .u64 (ll.getD c.toNat 0))/\Ext H H') ⟨rfl,by simpa using n1,by simp[dI],by simpa using o1,e1⟩ ?_
 rintro k ⟨s,i⟩ H2 next hk ⟨hi,hn,hok,o2,e2⟩ hnext
 simp only at hi hn o2 ⊢
 subst hi
 refine ak (λh=>?_) (λh=>?_)
 ·have hlt:k<lc.length:=by simp at h;omega
  refine(hc.ext e2).ld (by omega) (by omega) λad1 q1=>?_
  simp only[KI]
  refine ak (λh2=>?_) (λh2=>?_)
  ·have h2':¬(0<=lc.getD k 0/\lc.getD k 0<(ll.length:Int)):=by simp at h2 ⊢;omega
   have hf:=yZ hlt h2'
   have:=hK (Sl.mk none 0 0) H2 (by unfold aL;rw[hf];exact az.nil _ _ _ _) e2
   unfold Cn at this
   rw[hf] at this
   exact this
  ·have h2':0<=lc.getD k 0/\lc.getD k 0<(ll.length:Int):=by simp at h2 ⊢;omega
   refine(hl.ext e2).ld h2'.1 h2'.2 λad2 q2=>?_
   refine iY.push (base:=H.size) o2 rfl (by omega) (by omega) e2.size ?_
   intro s' H3 n3 o3 m3 b3 _
   refine hnext hlt _ _ ⟨by rw[aK k (by omega)],by simp only;omega,uQ hlt hok h2'.1 h2'.2,?_,(e2.mod (F:=ai s).trans m3).ext (λb hb=>(o2.block b hb).1)⟩
   simp only
   rw[rL (λc=>Km .u64 (ll.getD c.toNat 0)) hlt];exact o3
 ·have hge:k=lc.length:=by simp at h;omega
  subst hge
  rw[KV (Kl _)] at hok o2
  have:=hK s H2 (by unfold aL;rw[hok,if_pos rfl,Ly];exact o2) e2
  unfold Cn at this
  rw[hok] at this
  exact this
structure Rows (H:aa)(s:Sl)(ls:List (List Int)):Prop where
 len:s.n=ls.length
 at':∀i (h:i<ls.length),∃ad r,s.a=some ad/\bI H (ad.add i)=some (Sl.v r)/\Ints .u64 H r ls[i]
theorem Rows.ld {H:aa}{s:Sl}{ls:List (List Int)}(h:Rows H s ls){i:Nat}(hi:i<ls.length){K:Addr->Sl->Prop}(hK:∀ad r,s.a=some ad->Ints .u64 H r (ls[i]'hi)->K ad r):
  ae s.a λa=>(0<=(i:Int)/\(i:Int)<(s.n:Int))/\ld ao H (a.add ((i:Int).toNat*1)) λx=>K a x:=by
 obtain⟨ad,r,e,hc,hr⟩:=h.at' i hi
 refine cg ad e ⟨⟨by omega,by rw[h.len];omega⟩,r,?_,hK ad r e hr⟩
 simp only[KI,Ld]
 exact hc
theorem uJ {a b:Sl}{la lb:List (List Int)}{H:aa}{K:Bool->aa->Prop}(ha:Rows H a la)(hb:Rows H b lb)(hlen:la.length<1099511627776)(hl:∀l∈la,l.length<1099511627776)(hK:K (decide (la=lb)) H):FH.sp a b H K:=by
 refine FH.of ?_
 unfold FH.vc
 have la1:=ha.len
 have lb1:=hb.len
 refine ak (λh=>?_) (λh=>?_)
 ·have h1:la≠lb:=by intro e;subst e;simp[la1,lb1] at h
  simpa[h1] using hK
 ·have h':(a.n:Int)=(b.n:Int):=by simpa using h
  have hll:la.length=lb.length:=by omega
  refine av la.length (λk i H'=>i=(k:Int)/\H'=H/\la.take k=lb.take k) ⟨rfl,rfl,by simp⟩ ?_
  rintro k i H' next hk ⟨rfl,rfl,ht⟩ hnext
  refine ak (λh1=>?_) (λh1=>?_)
  ·have hlt:k<la.length:=by simp at h1;omega
   refine ha.ld hlt λad1 r1 e1 hr1=>?_
   refine hb.ld (by omega) λad2 r2 e2 hr2=>?_
   refine jx hr1 hr2 (hl _ (Kt _)) ?_
   refine ak (λh2=>?_) (λh2=>?_)
   ·have h3:la≠lb:=by intro e;subst e;simp at h2
    simpa[h3] using hK
   ·refine hnext hlt _ _ ⟨by rw[aK k (by omega)],rfl,?_⟩
    have h2':la[k]'hlt=lb[k]'(by omega):=by simpa using h2
    rw[KB hlt,KB (by omega:k<lb.length),ht,h2']
  ·have hge:k=la.length:=by simp at h1;omega
   subst hge
   have h2:la=lb:=by rw[KV (Kl _),KV (by omega)] at ht;exact ht
   simpa[h2] using hK
def gi (n:Int)(k:Nat):Int:=KH.wrap (aZ .u64 n (56 - 8*(k:Int)))
def fk (n:Int):List Int:=(L7 8).map (gi n)
def dU (l:List Int):List Int:=if l=[] then [0] else l.flatMap fk
theorem bF (n:Int):(fk n).length=8:=by simp[fk]
theorem nO:∀(l:List Int),(l.flatMap fk).length=8*l.length
 |[]=>rfl
 |x::r=>by rw[K6,Kv,bF,nO r];simp;omega
theorem oh (n:Int){k:Nat}(hk:k<8):(fk n).take (k+1)=(fk n).take k++[gi n k]:=by
 rw[KB (by rw[bF];exact hk)]
 simp[fk]
theorem qD {l:List Int}{k:Nat}(hk:k<l.length):(l.take (k+1)).flatMap fk=(l.take k).flatMap fk++fk (l.getD k 0):=by
 rw[KB hk,List.flatMap_append]
 simp only[K6,List.flatMap_nil,List.append_nil,KQ,Kg hk,Mn]
theorem yn:zc Kf CM=LV 8 (.int .u8 0):=by kernel_rfl
theorem sJ:mF Kf CM 8=true:=by kernel_rfl
theorem Az {n:Int}{H:aa}{K:Array Value->aa->Prop}(hK:∀H',Ext H H'->K ((fk n).map (Km .u8)).toArray H'):FJ.sp (zc Kf CM) n H K:=by
 refine FJ.of ?_
 unfold FJ.vc
 rw[yn]
 refine pw λp H1 hp s1 r1 e1=>?_
 refine pw λq H2 hq s2 r2 e2=>?_
 have hpq:p.block≠q.block:=by omega
 refine av 8 (λk z H'=>z=(k:Int)/\(∃cs:List Value,cs.length=8/\cs.take k=((fk n).take k).map (Km .u8)/\iJ H' p cs.toArray)/\iJ H' q (LV 8 (.int .u8 0))/\Ext H H') ⟨rfl,⟨KG 8 (.int .u8 0),by simp,by simp,r1.mod e2 id⟩,r2,e1.trans e2⟩ ?_
 rintro k z H3 next hk ⟨rfl,⟨cs,hl,ht,r3⟩,q3,e3⟩ hnext
 refine ak (λh=>?_) (λh=>?_)
 ·have hlt:k<8:=by simp at h;omega
  rw[wrap64 (x:=8*(k:Int)) (by omega) (by omega),wrap64 (by omega) (by omega)]
  refine⟨by omega,by omega,?_⟩
  simp only[KI,Ld]
  refine r3.st (by simp;omega) rfl λH4 r4 m4 _=>?_
  refine hnext hlt _ _ ⟨by rw[aK k (by omega)],⟨cs.set k (.int .u8 (gi n k)),by simpa using hl,?_,by rw[<-List.setIfInBounds_toArray];exact r4⟩,q3.mod m4 (λhh=>hpq hh.symm),?_⟩
  ·rw[oh n hlt,KX,<-ht,KB (by simpa[hl] using hlt)]
   simp[List.take_set]
   rw[List.set_eq_of_length_le (by simp;omega)]
  ·exact⟨K4 e3.size m4.size,λb hb _=>(m4.same b (K9 hb e3.size) (by omega)).trans (e3.same b hb id)⟩
 ·have hge:k=8:=by simp at h;omega
  subst hge
  rw[KV (by omega),KV (by rw[bF];omega)] at ht
  subst ht
  refine r3.jq (by simp[bF]) ?_
  refine q3.wb (by simpa[bF] using sJ) (by simp[bF]) (by simp[Qj]) λH5 r5 m5 _=>?_
  refine r5.jq (by simp[bF]) ?_
  exact hK _ ⟨K4 e3.size m5.size,λb hb _=>(m5.same b (K9 hb e3.size) (by omega)).trans (e3.same b hb id)⟩
theorem Ht {H:aa}:az (H.push (.cells #[.int .u8 0] kN)) H.size kN 1 ⟨some ⟨H.size,0,none⟩,1,1⟩ ([(0:Int)].map (Km .u8)):=
 az.fresh (Kl _) (Kl _) (by unfold maxLen;omega) rfl rfl rfl
theorem nh {l:Sl}{ll:List Int}{H:aa}{K:Sl->aa->Prop}(hl:Ints .u64 H l ll)(hlen:ll.length<=1000000)
  (hK:∀s H',az H' H.size kN 1 s ((dU ll).map (Km .u8))->Ext H H'->K s H'):AL.sp l H K:=by
 refine AL.of ?_
 unfold AL.vc
 have ln:=hl.len
 refine ak (λh=>?_) (λh=>?_)
 ·have h':ll=[]:=KY (by simp at h;omega)
  refine hK _ _ ?_ (Mod.push _ _ _)
  unfold dU
  rw[if_pos h']
  exact Ht
 ·have h':ll≠[]:=by intro e;subst e;simp at ln;simp[ln] at h
  unfold dU at hK
  rw[if_neg h'] at hK
  rw[wrap64 (by omega) (by omega)]
  refine GD.make (base:=H.size) (by omega) (by omega) (by omega) (by omega) (Kl _) ?_
  intro out H1 n1 o1 e1 b1 _
  refine av ll.length (λk z H'=>z.2=(k:Int)/\z.1.n=8*k/\az H' H.size kN 1 z.1 (((ll.take k).flatMap fk).map (Km .u8))/\Ext H H') ⟨rfl,by simpa using n1,by simpa using o1,e1⟩ ?_
  rintro k ⟨s,i⟩ H2 next hk ⟨hi,hn,o2,e2⟩ hnext
  simp only at hi hn o2 ⊢
  subst hi
  refine ak (λh=>?_) (λh=>?_)
  ·have hlt:k<ll.length:=by simp at h;omega
   refine(hl.ext e2).ld (by omega) (by omega) λad1 q1=>?_
   simp only[KI]
   refine Az λH3 e3=>?_
   rw[yn]
   refine pw λp H4 hp s4 r4 e4=>?_
   refine r4.wb (by simpa[bF] using sJ) (by simp[bF]) (by simp[Qj]) λH5 r5 m5 s5=>?_
   have e34:Ext H2 H4:=e3.trans e4
   have e25:Ext H2 H5:=(e34.mod (F:=λb=>b=p.block).trans m5).ext (λb hb=>by have:=e3.size;omega)
   rw[fS]
   refine GD.append (base:=H.size) (s:=s) (x:=⟨some p,8 - 0,8 - 0⟩) (ws:=(fk (ll.getD k 0)).map (Km .u8)) (o2.ext e25) (by simp[bF]) (by simpa using r5.reads) (ic _ _) (by simp only;omega) (by simp only;omega) (e2.trans e25).size ?_
   intro s' H6 n6 o6 m6 b6 _
   refine hnext hlt _ _ ⟨by rw[aK k (by omega)],by simp only at n6 ⊢;omega,?_,((Ext.mod (F:=ai s) (e2.trans e25)).trans m6).ext (λb hb=>(o2.block b hb).1)⟩
   simp only
   rw[qD hlt,KX];exact o6
  ·have hge:k=ll.length:=by simp at h;omega
   subst hge
   rw[KV (Kl _)] at o2
   exact hK s H2 o2 e2
def mK (w b:Int):Int:=K7.wrap (K7.wrap (w*256)+K7.wrap b)
def jk (bs:List Int):Int:=bs.foldl mK 0
def rowOf (c:List Int)(w:Nat):List Int:=(L7 w).map λj=>jk ((c.drop (8*j)).take 8)
def dy (b:List Int)(w:Int):Bool:=decide (aF w≠0)&&decide (KJ (b.length:Int) (aF w)=0)&&(decide (w≠0)||b.all λx=>decide (x=0))
def bT (b:List Int)(n k:Nat):List Int:=(b.drop (k*n)).take n
def rowsOf (b:List Int)(w:Int)(m:Nat):List (List Int):=(L7 m).map λk=>rowOf (bT b (aF w).toNat k) w.toNat
def dL (b:List Int)(w:Int):List (List Int):=if dy b w then rowsOf b w (b.length/(aF w).toNat) else []
def xT (b:List Int)(w:Int):Int:=if dy b w then 0 else 60
theorem qq (x:Int):K7.wrap x=x%18446744073709551616:=by
 rw[OE]
theorem vF (w b:Int):0<=mK w b/\mK w b<18446744073709551616:=by
 unfold mK;rw[qq];omega
theorem uv (bs:List Int):0<=jk bs/\jk bs<18446744073709551616:=by
 unfold jk
 rcases List.eq_nil_or_concat bs with h|⟨l,x,h⟩
 ·subst h;simp
 ·subst h;rw[List.concat_eq_append,R6];exact vF _ _
theorem Cf {x b:Int}(hx:0<=x)(hx2:x<18446744073709551616)(hb:0<=b)(hb2:b<256):kO .u64 (dw .u64 x 8) (K7.wrap b)=mK x b:=by
 unfold mK kO dw
 have e0:(2:Int)^(min (8:Int).toNat K7.bits)=256:=by decide
 rw[e0]
 simp only[qq]
 obtain⟨n,rfl⟩:=Mz hx
 obtain⟨m,rfl⟩:=Mz hb
 have hm:m<256:=by omega
 obtain⟨r,hr⟩:∃r,r=n%72057594037927936:=⟨_,rfl⟩
 have hr2:r<72057594037927936:=by omega
 have e1:((n:Int)*256)%18446744073709551616=((256*r:Nat):Int):=by omega
 have e2:(m:Int)%18446744073709551616=((m:Nat):Int):=by omega
 have e3:(Mc K7.bits ((256*r:Nat):Int)|||Mc K7.bits ((m:Nat):Int)).toNat=256*r+m:=by
  have hb64:K7.bits=64:=rfl
  have hor:=Nat.two_pow_add_eq_or_of_lt (i:=8) (b:=m) hm r
  rw[MS,MS,BitVec.toNat_or,Mm,Mm,hb64,NO (by omega),NO (by omega)]
  exact hor.symm
 rw[e1,e2,e3]
 rw[Int.natCast_add]
theorem mI (c:List Int)(w:Nat):(rowOf c w).length=w:=by simp[rowOf]
theorem wR {c:List Int}{w i:Nat}(hi:i<c.length)(hw:c.length=8*w):
  (rowOf (c.take i) w).set (i/8) (mK ((rowOf (c.take i) w).getD (i/8) 0) (c.getD i 0))=rowOf (c.take (i+1)) w:=by
 have hq:i/8<w:=by omega
 apply NR
 ·simp[rowOf]
 ·intro j h1 h2
  have hj:j<w:=by simpa[rowOf] using h2
  have e0:∀t,((c.take t).drop (8*j)).take 8=(c.drop (8*j)).take (min 8 (t - 8*j)):=by
   intro t;rw[List.drop_take,MR]
  rw[List.getElem_set]
  by_cases hji:i/8=j
  ·subst hji
   rw[if_pos rfl]
   simp only[rowOf,KQ,KC,Pz hq,N0,Mn,M6,Oa]
   simp only[e0]
   have e1:min 8 (i+1 - 8*(i/8))=min 8 (i - 8*(i/8))+1:=by omega
   have e2:min 8 (i - 8*(i/8))=i - 8*(i/8):=by omega
   have hlt:i - 8*(i/8)<(c.drop (8*(i/8))).length:=by simp;omega
   rw[e1,e2,KB hlt]
   unfold jk
   rw[R6,List.foldl_cons,List.foldl_nil]
   congr 1
   rw[Kg hi,Mn,List.getElem_drop]
   congr 1
   omega
  ·rw[if_neg hji]
   simp only[rowOf,M6,Oa,e0]
   congr 2
   omega
theorem zl (w:Nat):rowOf [] w=KG w 0:=by
 apply NR
 ·simp[rowOf]
 ·intro j h1 h2;simp[rowOf,jk]
structure bl (H:aa)(base:Nat)(s:Sl)(rs:List Sl)(ls:List (List Int)):Prop where
 out:az H base dn 1 s (rs.map Sl.v)
 len:rs.length=ls.length
 row:∀(i:Nat) (r:Sl) (l:List Int),rs[i]?=some r->ls[i]?=some l->az H base iB 1 r (l.map (Km .u64))
 apart:∀(i j:Nat) (r r':Sl),i≠j->rs[i]?=some r->rs[j]?=some r'->∀b,ai r b->¬ai r' b
theorem bl.nil (H:aa)(base:Nat):bl H base (Sl.mk none 0 0) [] []:=⟨az.nil _ _ _ _,rfl,by simp,by simp⟩
theorem bl.n {H:aa}{base:Nat}{s:Sl}{rs:List Sl}{ls:List (List Int)}(h:bl H base s rs ls):s.n=ls.length:=by
 have h1:=h.out.1;have h2:=h.len;simp at h1;omega
theorem bl.mod {F:Nat->Prop}{H H':aa}{base:Nat}{s:Sl}{rs:List Sl}{ls:List (List Int)}(h:bl H base s rs ls)(hm:Mod F H H')(hs:∀b,ai s b->¬F b)(hr:∀r∈rs,∀b,ai r b->¬F b):bl H' base s rs ls:=
 ⟨h.out.mod hm hs,h.len,λi r l h1 h2=>(h.row i r l h1 h2).mod hm (hr r (Ki h1)),h.apart⟩
theorem bl.ext {H H':aa}{base:Nat}{s:Sl}{rs:List Sl}{ls:List (List Int)}(h:bl H base s rs ls)(hm:Ext H H'):bl H' base s rs ls:=h.mod hm (λ_ _=>id) (λ_ _ _ _=>id)
theorem bl.rowAt {H:aa}{base:Nat}{s:Sl}{rs:List Sl}{ls:List (List Int)}(h:bl H base s rs ls){r:Sl}(hr:r∈rs):∃l:List Int,az H base iB 1 r (l.map (Km .u64)):=by
 obtain⟨i,hi⟩:=Ko.1 hr
 have hlt:i<ls.length:=by rw[<-h.len];exact(Kj.1 hi).1
 exact⟨_,h.row i r _ hi (Kg hlt)⟩
theorem bl.block {H:aa}{base:Nat}{s:Sl}{rs:List Sl}{ls:List (List Int)}(h:bl H base s rs ls):(∀b,ai s b->base<=b/\b<H.size)/\∀r∈rs,∀b,ai r b->base<=b/\b<H.size:=
 ⟨h.out.block,λr hr=>by obtain⟨l,hl⟩:=h.rowAt hr;exact hl.block⟩
theorem bl.Iu {ty:TypeId}{H:aa}{base:Nat}{s:Sl}{rs:List Sl}{ls:List (List Int)}{r:Sl}{l:List Int}{K:Sl->aa->Prop}(h:bl H base s rs ls)
  (hr:az H base iB 1 r (l.map (Km .u64))) (hap:∀r'∈rs,∀b,ai r b->¬ai r' b) (hn:s.n+1<=1099511627776) (hbase:base<=H.size)
  (hK:∀s' H',s'.n=s.n+1->bl H' base s' (rs++[r]) (ls++[l])->Mod (ai s) H H'->(∀b,ai s' b->ai s b\/H.size<=b)->K s' H'):
  aM H #[r.v] dn λp H1=>bo ao Kf (Ks #[dG,dG] ty #[s.v,.slice (some p) 1 1]) H1 K:=by
 refine oS.push (base:=base) h.out rfl hn (by omega) hbase ?_
 intro s' H' n1 o1 m1 b1 _
 refine hK s' H' n1 ⟨by simpa using o1,by simp[h.len],?_,?_⟩ m1 b1
 ·intro i x y hx hy
  rw[Ox] at hx hy
  have hl:=h.len
  split at hx
  ·rename_i hlt
   rw[if_pos (by omega)] at hy
   exact(h.row i x y hx hy).mod m1 (λb hb hb'=>(h.row i x y hx hy).apart h.out (by decide) b hb hb')
  ·rename_i hge
   rw[if_neg (by omega)] at hy
   have e1:i - rs.length=0:=by
    have:=(Kj.1 hx).1;simp at this;omega
   have e2:i - ls.length=0:=by omega
   rw[e1] at hx;rw[e2] at hy
   simp at hx hy
   subst hx;subst hy
   exact hr.mod m1 (λb hb hb'=>hr.apart h.out (by decide) b hb hb')
 ·intro i j x y hij hx hy b hb
  have key:∀(i:Nat) (x:Sl),(rs++[r])[i]?=some x->(i<rs.length/\rs[i]?=some x)\/(i=rs.length/\x=r):=by
   intro i x hx
   rw[Ox] at hx
   split at hx
   ·rename_i hlt;exact .inl ⟨hlt,hx⟩
   ·rename_i hge
    have e1:i - rs.length=0:=by
     have:=(Kj.1 hx).1;simp at this;omega
    rw[e1] at hx;simp at hx
    exact .inr ⟨by omega,hx.symm⟩
  rcases key i x hx with ⟨h1,h2⟩|⟨h1,h2⟩<;>rcases key j y hy with ⟨h3,h4⟩|⟨h3,h4⟩
  ·exact h.apart i j x y hij h2 h4 b hb
  ·subst h4;exact λhb'=>hap x (Ki h2) b hb' hb
  ·subst h2;exact hap y (Ki h4) b hb
  ·omega
theorem bl.push {ty:TypeId}{H:aa}{base:Nat}{s:Sl}{rs:List Sl}{ls:List (List Int)}{r:Sl}{l:List Int}{K:Sl->aa->Prop}(h:bl H base s rs ls)
  (hr:az H base iB 1 r (l.map (Km .u64))) (hap:∀r'∈rs,∀b,ai r b->¬ai r' b) (hn:s.n+1<=1099511627776) (hbase:base<=H.size)
  (hK:∀s' H',s'.n=s.n+1->bl H' base s' (rs++[r]) (ls++[l])->Mod (ai s) H H'->K s' H'):
  aM H #[r.v] dn λp H1=>bo ao Kf (Ks #[dG,dG] ty #[s.v,.slice (some p) 1 1]) H1 K:=
 bl.Iu h hr hap hn hbase λs' H' a b c _=>hK s' H' a b c
theorem uR (b:List Int)(w:Int)(m:Nat):rowsOf b w (m+1)=rowsOf b w m++[rowOf (bT b (aF w).toNat m) w.toNat]:=by
 simp[rowsOf,List.range_succ]
theorem tmod_zero {a n:Nat}(_:0<n)(h:KJ (a:Int) (n:Int)=0):a=a/n*n:=by
 rw[<-Int.ofNat_tmod] at h
 have h1:a%n=0:=by exact_mod_cast h
 have:=Nat.div_add_mod a n
 rw[h1,Nat.mul_comm] at this
 omega
theorem te {b:List Int}{n k j:Nat}(hj:j<n):(bT b n k).getD j 0=b.getD (k*n+j) 0:=by
 unfold bT
 simp only[KQ,Lh,Lv]
 rw[if_pos hj]
theorem qM {b:List Int}{n k m:Nat}(hb:b.length=m*n)(hk:k<m):(bT b n k).length=n:=by
 unfold bT
 have:=K2 n (ND hk)
 rw[LU] at this
 simp;omega
theorem yS {b:List Int}{w:Int}{k:Nat}(hw:w=0)(hk:k<b.length)(h:b.getD k 0≠0):dy b w=false:=by
 unfold dy
 have:(b.all λx=>decide (x=0))=false:=by
  rw[OX]
  refine⟨b[k],Kt _,?_⟩
  simp[KQ,Kg hk] at h
  simpa using h
 rw[this]
 simp[hw]
theorem oP {b:List Int}{w:Int}(h1:aF w≠0)(h2:KJ (b.length:Int) (aF w)=0)(h3:w=0->∀k,k<b.length->b.getD k 0=0):dy b w=true:=by
 unfold dy
 simp only[KD,decide_eq_true_eq,Bool.or_eq_true,List.all_eq_true]
 refine⟨⟨h1,h2⟩,?_⟩
 by_cases hw:w=0
 ·right
  intro x hx
  obtain⟨k,hk,e⟩:=List.mem_iff_getElem.1 hx
  have:=h3 hw k hk
  simp[KQ,Kg hk] at this
  rw[<-e];exact this
 ·exact .inl hw
theorem EK:zc Kf dG=#[.slice none 0 0]:=by kernel_rfl
theorem Bw:zc Kf G6=#[.int .i64 0]:=by kernel_rfl
theorem Ch {p:Sl}{n:Int}{H:aa}{K:Value->aa->Prop}(hn:1<=n)
  (hK:∀c c1 H',c.block=H.size->c1.block=H.size+1->H'.size=H.size+2->dd H' c iy p.v->dd H' c1 dA (.int .i64 n)->Ext H H'->
   K (.func (.func AM.no) #[] #[.pointer (some c),.pointer (some c1)]) H'):F7.sp p n H K:=by
 refine F7.of ?_
 unfold F7.vc
 refine dm λc H1 hc s1 v1 e1=>?_
 refine dm λc1 H2 hc1 s2 v2 e2=>?_
 refine v2.ld (c:=af .i64) (x:=n) ?_
 refine ak (λh=>?_) (λh=>?_)
 ·simp at h;omega
 ·exact hK c c1 H2 hc (by omega) (by omega) (v1.ext e2) v2 (e1.trans e2)
theorem zL {l:Nat}{c c1:Addr}{p:Sl}{n m:Nat}{H:aa}{K:Unit->aa->Prop}(I:Nat->aa->Prop)(D:aa->Prop)(hn:0<n)(hm:p.n=m*n)(hc:p.n<=p.c)(hbig:p.n<=1000000)(hnb:n<=1000000)
  (hI:∀k H',I k H'->dd H' c iy p.v/\dd H' c1 dA (.int .i64 (n:Int))) (h0:I 0 H)
  (hs:∀k H',k<m->I k H'->ck Kf l #[(Sl.mk (p.a.map (·.add (k*n))) n n).v] H' λb H''=>if b then I (k+1) H'' else D H'')
  (hfin:∀H',I m H'->K () H') (hD:∀H',D H'->K () H'):AM.sp l c c1 H K:=by
 refine AM.of ?_
 unfold AM.vc
 refine av m (λk i H'=>i=((k*n:Nat):Int)/\I k H') ⟨by simp,h0⟩ ?_
 rintro k i H1 next hk ⟨rfl,hIk⟩ hnext
 obtain⟨v,v1⟩:=hI k H1 hIk
 refine v.ld (c:=ao) (x:=p) ?_
 refine ak (λh=>?_) (λh=>?_)
 ·have hlt:k<m:=by
   rcases K8 k m with q|q
   ·exact q
   ·have e:k=m:=by omega
    subst e;simp at h;omega
  have hle:k*n+n<=p.n:=by
   have:=K2 n (ND hlt)
   rw[LU] at this;omega
  obtain⟨q,hq⟩:∃q,q=k*n:=⟨_,rfl⟩
  have hnx:(((k+1)*n:Nat):Int)=((q+n:Nat):Int):=by rw[hq,LU]
  have hsy:=hs k H1 hlt hIk
  rw[<-hq] at hle hsy ⊢
  refine v1.ld (c:=af .i64) (x:=(n:Int)) ?_
  refine v.ld (c:=ao) (x:=p) ?_
  refine⟨by omega,?_⟩
  refine v.ld (c:=ao) (x:=p) ?_
  have eE:Ke.wrap ((q:Int)+(if ((p.n - (q:Int).toNat:Nat):Int)<(n:Int) then ((p.n - (q:Int).toNat:Nat):Int) else (n:Int)))=((q+n:Nat):Int):=by
   have:(if ((p.n - (q:Int).toNat:Nat):Int)<(n:Int) then ((p.n - (q:Int).toNat:Nat):Int) else (n:Int))=(n:Int):=by split<;>omega
   rw[this,wrap64 (by omega) (by omega)];omega
  rw[eE]
  refine⟨by omega,by omega,by omega,?_⟩
  have ea:bw p.a ((q+n:Nat):Int).toNat (q:Int).toNat 1=p.a.map (·.add q):=by
   unfold bw
   rw[if_neg (by simp;omega)]
   simp
  have en:((q+n:Nat):Int).toNat - (q:Int).toNat=n:=by omega
  rw[ea,en]
  refine hsy.mono λb H2 hb=>?_
  cases b with
  |false=>exact hD H2 hb
  |true=>
    have hb':I (k+1) H2:=hb
    refine(hI _ _ hb').2.ld (c:=af .i64) (x:=(n:Int)) ?_
    refine hnext hlt _ _ ⟨?_,hb'⟩
    rw[hnx,wrap64 (by omega) (by omega)];omega
 ·have e:k=m:=by
   rcases K8 k m with q|q
   ·have:=K2 n (ND q)
    rw[LU] at this;simp at h;omega
   ·omega
  subst e
  exact hfin H1 hIk
theorem Ints.chunk {H:aa}{p:Sl}{b:List Int}(hp:Ints .u8 H p b){k n:Nat}(hl:k*n+n<=b.length):Ints .u8 H (Sl.mk (p.a.map (·.add (k*n))) n n) (bT b n k):=by
 refine⟨by simp[bT];omega,?_⟩
 intro i v hv
 unfold bT at hv
 rw[NZ,List.map_drop] at hv
 have hi:i<n:=by
  have:=(Kj.1 hv).1;simp at this;omega
 rw[Lh,if_pos hi,Lv] at hv
 obtain⟨ad,e,hc⟩:=hp.reads _ _ hv
 exact⟨ad.add (k*n),by rw[e];rfl,by rw[add_add];exact hc⟩
structure nu (H0:aa)(B:Nat)(b:List Int)(w:Int)(p:Sl)(r2:Nat)(p1 p2 p3 p4 c c1:Addr)(k:Nat)(H:aa):Prop where
 r2:H[r2]?=some (.deferred (some []))
 v1:dd H p1 dA (.int .i64 w)
 v2:dd H p2 dG (.slice none 0 0)
 v3:dd H p3 G6 (.int .i64 0)
 vc:dd H c iy p.v
 vc1:dd H c1 dA (.int .i64 (aF w))
 rows:∃s rs,dd H p4 dG (Sl.v s)/\s.n=k/\bl H B s rs (rowsOf b w k)/\∀x∈rs,x.a≠none
 ext:Ext H0 H
 zero:w=0->∀j,j<k->b.getD j 0=0
theorem nu.mod {H0:aa}{B:Nat}{b:List Int}{w:Int}{p:Sl}{r2:Nat}{p1 p2 p3 p4 c c1:Addr}{k:Nat}{F:Nat->Prop}{H H':aa}(h:nu H0 B b w p r2 p1 p2 p3 p4 c c1 k H)(hm:Mod F H H')
  (h0:∀b,b<H0.size->¬F b) (hc:∀b cs t,H[b]?=some (.cells cs t (0,0))->¬F b) (hd:∀b d,H[b]?=some (.deferred d)->¬F b):nu H0 B b w p r2 p1 p2 p3 p4 c c1 k H':=by
 obtain⟨s,rs,v4,hn,ro,nn⟩:=h.rows
 refine⟨(hm.same _ ?_ (hd _ _ h.r2)).trans h.r2,h.v1.mod hm (hc _ _ _ h.v1.obj),h.v2.mod hm (hc _ _ _ h.v2.obj),h.v3.mod hm (hc _ _ _ h.v3.obj),h.vc.mod hm (hc _ _ _ h.vc.obj),h.vc1.mod hm (hc _ _ _ h.vc1.obj),
  ⟨s,rs,v4.mod hm (hc _ _ _ v4.obj),hn,ro.mod hm (λb hb=>?_) (λr hr b hb=>?_),nn⟩,(h.ext.mod (F:=F).trans hm).ext (λb hb=>?_),h.zero⟩
 ·exact(KA.1 h.r2).1
 ·obtain⟨cur,q⟩:=ro.out.obj b hb;exact hc _ _ _ q
 ·obtain⟨l,hl⟩:=ro.rowAt hr
  obtain⟨cur,q⟩:=hl.obj b hb;exact hc _ _ _ q
 ·rcases K8 b H0.size with q|q
  ·exact absurd hb (h0 b q)
  ·exact q
theorem nu.set {H0:aa}{B:Nat}{b:List Int}{w:Int}{p:Sl}{r2:Nat}{p1 p2 p3 p4 c c1:Addr}{k l:Nat}{H:aa}{x:Loop}{o:Obj}(h:nu H0 B b w p r2 p1 p2 p3 p4 c c1 k H)(hl:H[l]?=some (.loop x))(hl0:H0.size<=l):
  nu H0 B b w p r2 p1 p2 p3 p4 c c1 k (H.setIfInBounds l o):=
 h.mod (F:=λb=>b=l) (Mod.setObj rfl) (λb hb e=>by omega) (λb cs t hb e=>by subst e;rw[hl] at hb;cases hb) (λb d hb e=>by subst e;rw[hl] at hb;cases hb)
theorem nu.HW {H0:aa}{B:Nat}{b:List Int}{w:Int}{p:Sl}{r2:Nat}{p1 p2 p3 p4 c c1:Addr}{k:Nat}{H H':aa}(h:nu H0 B b w p r2 p1 p2 p3 p4 c c1 k H)(hm:Ext H H'):nu H0 B b w p r2 p1 p2 p3 p4 c c1 k H':=
 h.mod hm (λ_ _=>id) (λ_ _ _ _=>id) (λ_ _ _=>id)
set_option maxHeartbeats 4000000 in
theorem Ay {p:Sl}{b:List Int}{w:Int}{H:aa}{K:(Sl×Int)->aa->Prop}(hp:Ints .u8 H p b)(hc:p.n<=p.c)(hbb:∀x∈b,0<=x/\x<256)(hlen:b.length<=1000000)
  (hK:∀s rs H',bl H' H.size s rs (dL b w)->Ext H H'->(∀x∈rs,x.a≠none)->K (s,xT b w) H'):Fe.sp p w H K:=by
 refine Fe.of ?_
 unfold Fe.vc
 rw[EK,Bw]
 have pn:=hp.len
 refine dm λp1 H1 hp1 s1 v1 e1=>?_
 refine dm λp2 H2 hp2 s2 v2 e2=>?_
 refine dm λp3 H3 hp3 s3 v3 e3=>?_
 have v1':=(v1.ext e2).ext e3
 have v2':=v2.ext e3
 have e03:Ext H H3:=(e1.trans e2).trans e3
 refine v1'.ld (c:=af .i64) (x:=w) ?_
 -- the answer where the width is not one
 have bad:∀H4:aa,dd H4 p2 dG (.slice none 0 0)->dd H4 p3 G6 (.int .i64 60)->Ext H H4->dy b w=false->
   ld ao H4 p2 λres=>ld (af .i64) H4 p3 λres_1=>K (res,res_1) H4:=by
  intro H4 q2 q3 e hf
  refine q2.ld (c:=ao) (x:=Sl.mk none 0 0) ?_
  refine q3.ld (c:=af .i64) (x:=60) ?_
  have:=hK (Sl.mk none 0 0) [] H4 (by unfold dL;rw[hf];exact bl.nil _ _) e (by simp)
  unfold xT at this;rw[hf] at this;exact this
 have badW:dy b w=false->st H3 p2 (.slice none 0 0) λH5=>st H5 p3 (.int .i64 60) λH6=>ld ao H6 p2 λres=>ld (af .i64) H6 p3 λres_1=>K (res,res_1) H6:=by
  intro hf
  refine v2'.st rfl λH5 q2 m5 s5=>?_
  refine(v3.mod m5 (by omega)).st rfl λH6 q3 m6 s6=>?_
  exact bad H6 (q2.mod m6 (by omega)) q3 (((e03.mod (F:=λb=>b=p2.block\/b=p3.block).trans (m5.mono (λb _ h=>.inl h))).trans (m6.mono (λb _ h=>.inr h))).ext (λb hb=>by omega)) hf
 refine qc ?_
 refine ak (λh=>badW (by unfold dy;simp at h;simp[h])) (λh=>?_)
 have h':aF w≠0:=by simpa using h
 have hsz:=bL w
 refine⟨h',ak (λh2=>badW (by unfold dy;rw[pn] at h2;simp at h2;simp[h2])) (λh2=>?_)⟩
 have h2':KJ (b.length:Int) (aF w)=0:=by rw[pn] at h2;simpa using h2
 obtain⟨n,hn⟩:∃n:Nat,aF w=(n:Int):=⟨(aF w).toNat,by omega⟩
 have hn0:0<n:=by omega
 obtain⟨m,hm⟩:∃m,m=b.length/n:=⟨_,rfl⟩
 have hmul:b.length=m*n:=by rw[hm];exact tmod_zero hn0 (by rw[<-hn];exact h2')
 have hw0:0<=w/\w<=16:=by
  unfold aF at h'
  split at h'
  ·exact absurd rfl h'
  ·omega
 have hnw:w≠0->n=8*w.toNat:=by
  intro hw;unfold aF at hn;rw[if_neg (by omega),if_neg hw] at hn;omega
 have hn1:w=0->n=1:=by intro hw;unfold aF at hn;rw[hw] at hn;simp at hn;omega
 have hdiv:m<=b.length:=by rw[hm];exact Nat.div_le_self _ _
 have ediv:Ke.wrap (KE (p.n:Int) (aF w))=((m:Nat):Int):=by
  rw[pn,hn,<-Rx,<-hm,wrap64 (by omega) (by omega)]
 refine⟨h',?_⟩
 rw[ediv]
 refine oS.make (base:=H.size) (by omega) (by omega) (by omega) (by omega) e03.size ?_
 intro sl H9 n9 o9 e9 b9 _
 refine dm λp4 H10 hp4 s10 v4 e10=>?_
 refine v4.st rfl λH11 v4b m11 s11=>?_
 have m911:Ext H9 H11:=(e10.mod (F:=λb=>b=p4.block).trans m11).ext (λb hb=>by omega)
 have e011:Ext H H11:=(e03.trans e9).trans m911
 refine Ch (by omega) λc c1 H12 hcb hc1b s12 vc vc1 e12=>?_
 have hcallable:dg Kf AM.no=true:=by kernel_rfl
 refine⟨AM.no,#[.pointer (some c),.pointer (some c1)],rfl,hcallable,λrec hround=>?_⟩
 obtain⟨l,hl⟩:∃l,l=H12.size+1:=⟨_,rfl⟩
 obtain⟨r2,hr2⟩:∃r,r=H12.size:=⟨_,rfl⟩
 rw[<-hl] at hround ⊢
 rw[<-hr2]
 obtain⟨H13,hH13⟩:∃H13:aa,H13=(H12.push (.deferred (some []))).push (.loop (rec .ready none)):=⟨_,rfl⟩
 rw[<-hH13]
 have e13:Ext H12 H13:=by rw[hH13];exact(Mod.push _ _ _).trans (Mod.push _ _ _)
 have hl13:H13[l]?=some (.loop (rec .ready none)):=by rw[hH13,hl,MW,if_pos (by simp)]
 have hr13:H13[r2]?=some (.deferred (some [])):=by rw[hH13,hr2];simp[MW]
 have hl0:H.size<=l:=by have:=(e011.trans e12).size;omega
 have hp24:p2.block≠p4.block:=by have:=e9.size;omega
 have e913:Ext H9 H13:=(m911.trans e12).trans e13
 have e313:Ext H3 H13:=e9.trans e913
 -- between the rounds
 let I:Nat->aa->Prop:=λk H'=>H'[l]?=some (.loop (rec .ready none))/\nu H H.size b w p r2 p1 p2 p3 p4 c c1 k H'
 let D:aa->Prop:=λH'=>H'[l]?=some (.loop (rec .done (some .ret)))/\H'[r2]?=some (.deferred (some []))/\dd H' p2 dG (.slice none 0 0)/\dd H' p3 G6 (.int .i64 60)/\Ext H H'/\dy b w=false
 refine Spec.mono (R:=λv H'=>∃x:Unit,v=(bj []).enc x/\lq l rec H' _ _ _) (zL (l:=l) (c:=c) (c1:=c1) (p:=p) (n:=n) (m:=m) (H:=H13) (K:=λ_ H'=>lq l rec H' _ _ _) I D hn0 (by rw[pn];exact hmul) hc (by omega) (by omega) ?_ ?_ ?_ ?_ ?_) (λv H' ⟨x,_,h⟩=>h)
 ·clear hround
  rintro k H' ⟨_,g⟩
  exact⟨g.vc,by have:=g.vc1;rw[hn] at this;exact this⟩
 ·clear hround
  refine⟨hl13,hr13,v1'.ext e313,v2'.ext e313,v3.ext e313,vc.ext e13,vc1.ext e13,⟨sl,[],(v4b.ext e12).ext e13,by simpa using n9,⟨by simpa using o9.ext e913,rfl,by simp,by simp⟩,by simp⟩,(e011.trans e12).trans e13,λ_ j hj=>by omega⟩
 ·-- a round
  rintro k H' hk ⟨hlr,g⟩
  refine hround [(Sl.mk (p.a.map (·.add (k*n))) n n).v] H' _ hlr ?_
  clear hround
  have hb2:k*n+n<=b.length:=by
   have:=K2 n (ND hk)
   rw[LU] at this;omega
  have hk1:k<b.length:=by have:=Nat.le_mul_of_pos_right k hn0;omega
  have hcl:=qM hmul hk
  show _/\_
  refine⟨hlr,?_⟩
  obtain⟨Hb,hHb⟩:∃Hb:aa,Hb=H'.setIfInBounds l (.loop (rec .busy none)):=⟨_,rfl⟩
  rw[<-hHb]
  have gb:nu H H.size b w p r2 p1 p2 p3 p4 c c1 k Hb:=by rw[hHb];exact g.set hlr hl0
  have hlb:Hb[l]?=some (.loop (rec .busy none)):=by rw[hHb];exact fy hlr
  refine⟨λ_ H14=>Hb=H14/\(w=0->b.getD k 0=0),?_,?_⟩
  ·refine gb.v1.ld (c:=af .i64) (x:=w) ?_
   refine ak (λh4=>?_) (λh4=>⟨rfl,λhw=>by simp at h4;exact absurd hw h4⟩)
   have hw:w=0:=by simpa using h4
   have hci:=(hp.ext gb.ext).chunk hb2
   refine bB hci (i:=0) (j:=0) rfl (by omega) λad q=>?_
   rw[te hn0,hn1 hw]
   have e0:k*1+0=k:=by omega
   rw[e0]
   refine ak (λh5=>?_) (λh5=>⟨rfl,λ_=>by simpa using h5⟩)
   have hf:=yS hw hk1 (by simpa using h5)
   refine gb.v2.st rfl λH15 q2 m15 s15=>?_
   have hp23:p3.block≠p2.block:=by omega
   refine(gb.v3.mod m15 hp23).st rfl λH16 q3 m16 s16=>?_
   have mm:Mod (λb=>b=p2.block\/b=p3.block) Hb H16:=(m15.mono (λb _ h=>.inl h)).trans (m16.mono (λb _ h=>.inr h))
   have hll:l<Hb.size:=(KA.1 hlb).1
   have h16:H16[l]?=some (.loop (rec .busy none)):=(mm.same l hll (by
    rintro(e|e)
    ·have:=gb.v2.obj;rw[<-e,hlb] at this;cases this
    ·have:=gb.v3.obj;rw[<-e,hlb] at this;cases this)).trans hlb
   have hrr:r2<Hb.size:=(KA.1 gb.r2).1
   have h16r:H16[r2]?=some (.deferred (some [])):=(mm.same r2 hrr (by
    rintro(e|e)
    ·have:=gb.v2.obj;rw[<-e,gb.r2] at this;cases this
    ·have:=gb.v3.obj;rw[<-e,gb.r2] at this;cases this)).trans gb.r2
   refine⟨h16,?_⟩
   show D _
   have m17:Mod (λb=>b=l) H16 (H16.setIfInBounds l (.loop (rec .done (some .ret)))):=Mod.setObj rfl
   have hne:∀q:Addr,∀t v,dd H16 q t v->q.block≠l:=λq t v hv e=>by have:=hv.obj;rw[e,h16] at this;cases this
   have q2':=q2.mod m16 (Ne.symm hp23)
   refine⟨fy h16,(m17.same r2 (KA.1 h16r).1 (by omega)).trans h16r,q2'.mod m17 (hne _ _ _ q2'),q3.mod m17 (hne _ _ _ q3),?_,hf⟩
   have e16:Ext H H16:=(gb.ext.mod (F:=λb=>b=p2.block\/b=p3.block).trans mm).ext (λb hb=>by omega)
   exact(e16.mod (F:=λb=>b=l).trans m17).ext (λb hb=>by omega)
  ·rintro _ H14 ⟨rfl,hzero⟩
   refine gb.v1.ld (c:=af .i64) (x:=w) ?_
   refine iY.make (base:=H.size) hw0.1 (Int.le_refl _) (by omega) (by omega) gb.ext.size ?_
   intro sl1 H17 n17 o17 e17 b17 nn17
   have g17:=gb.HW e17
   refine g17.v1.ld (c:=af .i64) (x:=w) ?_
   rw[wrap64 (x:=8*w) (by omega) (by omega)]
   refine av (8*w.toNat) (λi z H'=>z=(i:Int)/\az H' H.size iB 1 sl1 ((rowOf ((bT b n k).take i) w.toNat).map (Km .u64))/\Ext Hb H') ⟨rfl,by simpa[zl] using o17,e17⟩ ?_
   rintro i z H18 next hi ⟨rfl,o18,e18⟩ hnext
   refine ak (λh6=>?_) (λh6=>?_)
   ·have hi8:i<8*w.toNat:=by simp at h6;omega
    have hw:w≠0:=by omega
    have hn8:=hnw hw
    have ei:Ke.wrap (KE (i:Int) 8)=((i/8:Nat):Int):=by
     rw[show (8:Int)=((8:Nat):Int) from rfl,<-Rx,wrap64 (by omega) (by omega)]
    rw[ei]
    have hq:i/8<w.toNat:=by omega
    refine o18.ints.ld (by omega) (by rw[mI];omega) λad1 q1=>?_
    refine((hp.ext (gb.ext.trans e18)).chunk hb2).ld (by omega) (by omega) λad2 q2=>?_
    simp only[KI]
    have hr:=uv ((((bT b n k).take i).drop (8*(i/8))).take 8)
    have hx:(rowOf ((bT b n k).take i) w.toNat).getD (i/8) 0=jk ((((bT b n k).take i).drop (8*(i/8))).take 8):=by
     simp only[rowOf,KQ,KC,Pz hq,N0,Mn]
    have hby:0<=(bT b n k).getD i 0/\(bT b n k).getD i 0<256:=by
     have hi2:i<(bT b n k).length:=by omega
     simp only[KQ,Kg hi2,Mn]
     exact hbb _ (List.mem_of_mem_drop (List.mem_of_mem_take (Kt hi2)))
    rw[Cf (by rw[hx];exact hr.1) (by rw[hx];exact hr.2) hby.1 hby.2]
    refine o18.st (by omega) (by rw[n17];omega) rfl λH19 o19 m19 s19=>?_
    refine hnext hi8 _ _ ⟨by rw[aK i (by omega)],?_,(e18.mod (F:=ai sl1).trans m19).ext b17⟩
    rw[<-wR (by omega) (by omega)]
    simp only[KI,<-List.map_set] at o19
    exact o19
   ·have hi8:i=8*w.toNat:=by simp at h6;omega
    have hfull:rowOf ((bT b n k).take i) w.toNat=rowOf (bT b n k) w.toNat:=by
     by_cases hw:w=0
     ·rw[hw];rfl
     ·rw[KV (by rw[hcl,hnw hw];omega)]
    rw[hfull] at o18
    have g18:=gb.HW e18
    obtain⟨s,rs,v4s,hsn,ro,nn⟩:=gb.rows
    have ro18:=ro.ext e18
    refine(v4s.ext e18).ld (c:=ao) (x:=s) ?_
    refine ro18.push o18 (λr' hr' x hx hx'=>?_) (by omega) (gb.ext.trans e18).size ?_
    ·have h1:=(ro.block.2 r' hr' x hx').2
     have h2:=b17 x hx
     omega
    intro s7 H21 n21 r21 m21
    have hne4:¬ai s p4.block:=λhb=>by
     obtain⟨cur,q⟩:=ro18.out.obj _ hb
     exact absurd (aW q (v4s.ext e18).obj) (by decide)
    refine((v4s.ext e18).mod m21 hne4).st rfl λH22 v22 m22 s22=>?_
    have hb21:∀b,ai s b->H.size<=b:=λb hb=>(ro.block.1 b hb).1
    have hl18:H18[l]?=some (.loop (rec .busy none)):=(e18.same l (KA.1 hlb).1 id).trans hlb
    have hl21:H21[l]?=some (.loop (rec .busy none)):=(m21.same l (KA.1 hl18).1 (λhb=>by
     obtain⟨cur,q⟩:=ro18.out.obj _ hb;rw[hl18] at q;cases q)).trans hl18
    have hl22:H22[l]?=some (.loop (rec .busy none)):=(m22.same l (KA.1 hl21).1 (λhb=>by
     have q:=(v4s.ext e18).mod m21 hne4
     have:=q.obj;rw[<-hb,hl21] at this;cases this)).trans hl21
    refine⟨hl22,?_⟩
    show I (k+1) _
    have mm:Mod (λb=>ai s b\/b=p4.block) H18 H22:=(m21.mono (λb _ h=>.inl h)).trans (m22.mono (λb _ h=>.inr h))
    have aA:∀{q:Addr} {t:TypeId} {v:Value},dd H18 q t v->t≠dn->q.block≠p4.block->dd H22 q t v:=by
     intro q t v hv ht hq
     refine hv.mod mm ?_
     rintro(hb|hb)
     ·obtain⟨cur,q1⟩:=ro18.out.obj _ hb
      have:=hv.obj;rw[this] at q1;simp at q1;exact ht q1.2
     ·exact hq hb
    have g22:nu H H.size b w p r2 p1 p2 p3 p4 c c1 (k+1) H22:=by
     have hr18:r2<H18.size:=(KA.1 g18.r2).1
     refine⟨(mm.same r2 hr18 ?_).trans g18.r2,aA g18.v1 (by decide) (by have:=e9.size;omega),aA g18.v2 (by decide) hp24,aA g18.v3 (by decide) (by have:=e9.size;omega),aA g18.vc (by decide) (by have:=e9.size;omega),aA g18.vc1 (by decide) (by have:=e9.size;omega),⟨s7,rs++[sl1],v22,by omega,?_,λx hx=>by rcases List.mem_append.1 hx with q|q;exact nn x q;simp at q;subst q;exact nn17⟩,?_,?_⟩
     ·rintro(hb|hb)
      ·obtain⟨cur,q1⟩:=ro18.out.obj _ hb
       rw[g18.r2] at q1;cases q1
      ·have:=(v4s.ext e18).obj;rw[<-hb,g18.r2] at this;cases this
     ·rw[uR,hn]
      have r21':bl H21 H.size s7 (rs++[sl1]) (rowsOf b w k++[rowOf (bT b n k) w.toNat]):=r21
      have v21:=(v4s.ext e18).mod m21 hne4
      refine r21'.mod m22 (λb hb e=>?_) (λr hr b hb e=>?_)
      ·obtain⟨cur,q1⟩:=r21'.out.obj _ hb
       rw[e] at q1;exact absurd (aW q1 v21.obj) (by decide)
      ·obtain⟨lx,hlx⟩:=r21'.rowAt hr
       obtain⟨cur,q1⟩:=hlx.obj _ hb
       rw[e] at q1;exact absurd (aW q1 v21.obj) (by decide)
     ·exact((Ext.mod (F:=λb=>ai s b\/b=p4.block) (gb.ext.trans e18)).trans mm).ext (λb hb=>by
       rcases hb with hb|hb
       ·exact hb21 b hb
       ·have:=(e03.trans e9).size;omega)
     ·intro hw j hj
      rcases K8 j k with q|q
      ·exact gb.zero hw j q
      ·have:j=k:=by omega
       rw[this];exact hzero hw
    exact⟨fy hl22,g22.set hl22 hl0⟩
 ·-- all rounds are done
  clear hround
  rintro H' ⟨hlr,g⟩
  refine⟨.ready,none,hlr,rfl,?_⟩
  obtain⟨H'',hH''⟩:∃H'':aa,H''=H'.setIfInBounds l (.loop (rec .exhausted none)):=⟨_,rfl⟩
  show ld _ _ _ _
  rw[<-hH'']
  have g2:nu H H.size b w p r2 p1 p2 p3 p4 c c1 m H'':=by rw[hH''];exact g.set hlr hl0
  obtain⟨s,rs,v4s,hsn,ro,nn⟩:=g2.rows
  refine v4s.ld (c:=ao) (x:=s) ?_
  refine g2.v2.st rfl λH24 q2 m24 s24=>?_
  have hp23:p3.block≠p2.block:=by omega
  refine(g2.v3.mod m24 hp23).st rfl λH25 q3 m25 s25=>?_
  have mm:Mod (λb=>b=p2.block\/b=p3.block) H'' H25:=(m24.mono (λb _ h=>.inl h)).trans (m25.mono (λb _ h=>.inr h))
  have hr:r2<H''.size:=(KA.1 g2.r2).1
  have h25r:H25[r2]?=some (.deferred (some [])):=(mm.same r2 hr (by
   rintro(e|e)
   ·have:=g2.v2.obj;rw[<-e,g2.r2] at this;cases this
   ·have:=g2.v3.obj;rw[<-e,g2.r2] at this;cases this)).trans g2.r2
  refine⟨h25r,?_⟩
  have m26:Mod (λb=>b=r2) H25 (H25.setIfInBounds r2 (.deferred none)):=Mod.setObj rfl
  have hne:∀{q:Addr} {t:TypeId} {v:Value},dd H25 q t v->¬q.block=r2:=λhv e=>by have:=hv.obj;rw[e,h25r] at this;cases this
  have q2':=q2.mod m25 (Ne.symm hp23)
  refine(q2'.mod m26 (hne q2')).ld (c:=ao) (x:=s) ?_
  refine(q3.mod m26 (hne q3)).ld (c:=af .i64) (x:=0) ?_
  have hok:dy b w=true:=oP h' h2' (λhw j hj=>g2.zero hw j (by rw[hm,hn1 hw];simpa using hj))
  have mAll:Mod (λb=>b=p2.block\/b=p3.block\/b=r2) H'' (H25.setIfInBounds r2 (.deferred none)):=(mm.mono (λb _ h=>by rcases h with h|h;exact .inl h;exact .inr (.inl h))).trans (m26.mono (λb _ h=>.inr (.inr h)))
  have hcells:∀b cs t,H''[b]?=some (.cells cs t (0,0))->t≠dG->t≠G6->¬(b=p2.block\/b=p3.block\/b=r2):=by
   rintro b cs t hb h1 h2 (e|e|e)
   ·have:=g2.v2.obj;rw[<-e,hb] at this;simp at this;exact h1 this.2
   ·have:=g2.v3.obj;rw[<-e,hb] at this;simp at this;exact h2 this.2
   ·rw[e,g2.r2] at hb;cases hb
  have:=hK s rs (H25.setIfInBounds r2 (.deferred none)) (by
   unfold dL;rw[hok,if_pos rfl,hn];simp only[KI];rw[<-hm]
   refine ro.mod mAll (λb hb=>?_) (λr hr b hb=>?_)
   ·obtain⟨cur,q1⟩:=ro.out.obj _ hb
    exact hcells _ _ _ q1 (by decide) (by decide)
   ·obtain⟨lx,hlx⟩:=ro.rowAt hr
    obtain⟨cur,q1⟩:=hlx.obj _ hb
    exact hcells _ _ _ q1 (by decide) (by decide)) ((g2.ext.mod (F:=λb=>b=p2.block\/b=p3.block\/b=r2).trans mAll).ext (λb hb=>by
     have:=(e011.trans e12).size
     omega)) nn
  unfold xT at this;rw[hok] at this;exact this
 ·-- left by a return
  clear hround
  rintro H' ⟨hlr,hrr,q2,q3,e,hf⟩
  refine⟨.done,some .ret,hlr,rfl,?_⟩
  obtain⟨H'',hH''⟩:∃H'':aa,H''=H'.setIfInBounds l (.loop (rec .exhausted (some .ret))):=⟨_,rfl⟩
  show _/\_
  rw[<-hH'']
  have m1:Mod (λb=>b=l) H' H'':=by rw[hH''];exact Mod.setObj rfl
  have hne:∀{q:Addr} {t:TypeId} {v:Value},dd H' q t v->¬q.block=l:=λhv e=>by have:=hv.obj;rw[e,hlr] at this;cases this
  have hrr':H''[r2]?=some (.deferred (some [])):=(m1.same r2 (KA.1 hrr).1 (by omega)).trans hrr
  refine⟨hrr',?_⟩
  have m2:Mod (λb=>b=r2) H'' (H''.setIfInBounds r2 (.deferred none)):=Mod.setObj rfl
  have hne2:∀{q:Addr} {t:TypeId} {v:Value},dd H'' q t v->¬q.block=r2:=λhv e=>by have:=hv.obj;rw[e,hrr'] at this;cases this
  have q2':=q2.mod m1 (hne q2)
  have q3':=q3.mod m1 (hne q3)
  exact bad _ (q2'.mod m2 (hne2 q2')) (q3'.mod m2 (hne2 q3')) (((e.mod (F:=λb=>b=l\/b=r2).trans (m1.mono (λb _ h=>.inl h))).trans (m2.mono (λb _ h=>.inr h))).ext (λb hb=>by
   have:=(e011.trans e12).size
   omega)) hf
theorem cH (n:Int)(k:Nat):0<=gi n k/\gi n k<256:=by
 unfold gi
 rw[ON];omega
theorem lg (l:List Int):∀x∈dU l,0<=x/\x<256:=by
 intro x hx
 unfold dU at hx
 split at hx
 ·simp at hx;omega
 ·obtain⟨n,_,hn⟩:=List.mem_flatMap.1 hx
  obtain⟨k,_,hk⟩:=Kz.1 hn
  rw[<-hk];exact cH n k
def fT (l:List Int):List UInt8:=l.map λx=>UInt8.ofNat x.toNat
@[simp] theorem dN (b:List UInt8):(dz b).length=b.length:=by simp[dz]
@[simp] theorem iq (b:List Int):(fT b).length=b.length:=by simp[fT]
theorem lA {l:List Int}(h:∀x∈l,0<=x/\x<256):dz (fT l)=l:=by
 unfold dz fT
 rw[Ly]
 conv=>rhs;rw[<-List.map_id l]
 refine Lx λx hx=>?_
 obtain⟨a,b⟩:=h x hx
 simp only[Function.comp,UInt8.toNat_ofNat',id]
 omega
def below (low:List Int)(ls:List (List Int)):Nat:=(ls.takeWhile λl=>decide (aP l low<0)).length
end Go.Proofs.YtkehfflpbpdokaaGreatDoor
