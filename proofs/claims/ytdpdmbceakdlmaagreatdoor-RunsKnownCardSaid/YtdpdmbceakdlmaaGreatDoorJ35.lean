/-
 The pool: a file's frames, rising: the values of a map, those that are wanted, sorted.
-/
import Derived.Lib.SliceRun
import Derived.Test.YtdpdmbceakdlmaaGreatDoorRows
import Derived.Test.YtdpdmbceakdlmaaGreatDoorVc
import Derived.Test.YtdpdmbceakdlmaaGreatDoorFxg
import Derived.Test.YtdpdmbceakdlmaaGreatDoorFxj
import Derived.Test.YtdpdmbceakdlmaaGreatDoorFxh
import Derived.Test.YtdpdmbceakdlmaaGreatDoorJ32
import Derived.Test.YtdpdmbceakdlmaaGreatDoorFxq
import Derived.Test.YtdpdmbceakdlmaaGreatDoorLay
open Array renaming getElem?_eq_some_iff->KO,replicate->Lz,getElem?_push->MA
open BitVec renaming ofInt->Mw,toNat_ofNat->M9,ofInt_natCast->N0
open Bool renaming and_eq_true->KR
open Go.Addr renaming add->La
open Go.Builtin renaming append_->KM,clear_->QO
open Go.IntKind renaming i64->KG,u64->K0,u8->LA,wrap_u64->Ro,wrap_u8->Rv
open Go.Proofs.AnyF renaming slices_SortFunc_none->Px
open Go.Proofs.Tryz renaming prog->KE,zeroValue126->Sf,func153->Tx
open Go.Value renaming int->Lb,oneCell'->RC
open Go.Value.slice renaming injEq->Ld
open Go.World renaming frozen?->RL,cell?->R8
open Int renaming toNat_natCast->KU,tdiv->LP,tmod->LX,eq_ofNat_of_zero_le->MJ,ofNat_tmod->R9,ofNat_tdiv->Sa
open List renaming mem_of_getElem?->KH,getElem?_eq_some_iff->KI,getElem?_eq_getElem->KJ,take_succ_eq_append_getElem->KP,mem_iff_getElem?->KQ,take_of_length_le->KT,mem_cons_self->KV,mem_append->KW,replicate->KY,mem_map->KZ,mem_filter->K3,mem_cons_of_mem->K7,getElem?_append_left->K9,getElem?_map->Le,range->Lg,length_append->Lj,flatMap_cons->Lk,length_cons->Ln,getD->Lo,map_cons->Lp,eq_nil_of_length_eq_zero->Lq,getElem_mem->Lt,getElem?_take->LB,map_append->LF,append_assoc->LG,filter_append->LH,drop_of_length_le->LK,filter_congr->LM,mergeSort_perm->LO,getElem?_append_right->LR,mem_flatMap->LZ,getElem?_drop->L5,length_map->L9,map_map->Md,mem_of_mem_take->Me,mem_of_mem_drop->Mf,sum_cons->Mp,pairwise_mergeSort->Mu,length_drop->MK,perm_ext_iff_of_nodup->MQ,pairwise_map->MU,map_congr_left->MV,drop_eq_getElem_cons->MW,getElem?_toArray->M3,length_take->M8,foldl_append->Nc,foldl_cons->Nf,getElem_map->Nl,flatMap_append->Nx,length_filter_le->NO,getElem?_range->Ob,length_pos_iff->Oc,length_flatMap->Oe,flatMap_def->OY,filter_sublist->O7,findIdx?_cons->Pj,getElem_range->Pu,take_take->Pv,Nodup->Pw,ext_getElem->P6,getElem?_append->Ql,length_take_le->Qt,mem_mergeSort->QG,drop_drop->Rf,foldl_nil->Ri,drop_eq_nil_iff->Rl,getElem_drop->RD,flatten_cons->RE,filter_map->RX,map_take->Si
open List.Nodup renaming length_le_of_subset->M0
open List.Pairwise renaming imp_of_mem->QX
open List.Perm renaming eq_of_pairwise->N9,trans->Qo,of_eq->Q5
open Nat renaming le_refl->KN,le_trans->Lc,zero_le->Lh,le_succ->Lm,lt_or_ge->Lr,mul_le_mul_right->Ly,lt_of_lt_of_le->LJ,mul_one->LU,succ_mul->L7,mod_lt->MZ,div_add_mod->Ng,succ_le_of_lt->Nt,add_comm->NG,mul_comm->NK,mod_eq_of_lt->N7,reduceAdd->Of,div_le_self->Oi,le_mul_of_pos_right->PK,div_eq_of_lt->P7,add_zero->Qk,mul_add_div->Q6,sub_zero->Sw,mul_add->Ty
open Option renaming getD_some->M6,map_some->NL
open Option.some renaming inj->K1
open UInt8 renaming ofNat->Lf
namespace Go.Proofs.YtdpdmbceakdlmaaGreatDoor
open Go.MapKept
def gH:fN Nat:=⟨1,λp=>[c6 p],λ_=>rfl,λx u hu=>by simp at hu;subst hu;rfl⟩
theorem qJ (l:List Nat):gH.all l=l.map c6:=by
 induction l with
 |nil=>rfl
 |cons x l ih=>
   have:gH.all (x::l)=c6 x::gH.all l:=rfl
   rw[this,ih];rfl
theorem IM:uy KE Ah tC gH.size 8:=ic (by kernel_rfl)
def xk (e:MapEntry):Nat:=match e.val with|.pointer (some a)=>a.block|_=>0
theorem rN {l cap:Nat}{x:PG}{H:Heap}{K:Unit->Heap->Prop}(I:List MapEntry->Heap->Prop)(hF:aL H x)(hcap:aj H cap wQ #[.map (some x.mf)])
  (h0:∀A,Mod (λ_=>False) H A->I [] A) (hfr:∀l A A',I l A->Mod (λb=>b=H.size) A A'->A'.size=A.size->I l A')
  (hs:∀ls e q A,I ls A->e∈x.ef.toList->e.val=c6 q->(∀y∈ls,y∈x.ef.toList)->ls.Nodup->e∉ls->A[x.mf]?=some (.map x.ef x.cf)->H.size<A.size->cj KE l #[c6 q] A λb A'=>b=true/\I (ls++[e]) A'/\A'[x.mf]?=A[x.mf]?/\A'[H.size]?=A[H.size]?)
  (hfin:∀ls A,I ls A->ls.Perm x.ef.toList->K () A):Dv.sp l ⟨cap,0,none⟩ H K:=by
 refine Dv.of ?_
 unfold Dv.vc
 have:=hcap.ld (c:=cq) (i:=0) (x:=some x.mf) rfl (K:=λx=>bt ar KE (Instr.range wQ (.map x)) H λ(it:Option Addr) H1=>aC Unit () H1 λnext _ H2=>bt fR KE (Instr.next (.pointer it) false Bx) H2 λ(nx:Bool×List Value) H3=>br nx.1 (bt nh KE (Instr.entry (.pointer it)) H3 λ(en:Value×Value) H4=>FV ar en.2 λ(v:Option Addr)=>cj KE l #[(.pointer v)] H4 λ(b:Bool) H5=>br (!b) (K () H5) (next () H5)) (K () H3))
 refine this ?_
 obtain⟨et,inf,hu,_,_⟩:=lE
 refine mM hu hF.fmap λH1 hit e1=>?_
 have hit1:H.size<H1.size:=aG hit
 have hF1:aL H1 x:=hF.ak λb _ hl=>e1.same b hl id
 refine mN (it:=H.size) (λls _ A=>I ls A/\H.size<A.size) hF1.fmap hit ⟨h0 H1 e1,hit1⟩ (λl x A A' h m s=>⟨hfr l A A' h.1 m s,by omega⟩) ?_ (λls x A h hp _=>hfin ls A h.1 hp)
 rintro ls e ⟨⟩ A next ⟨hI,hlt⟩ he hel hsub hnd hr hito hnext
 obtain⟨z,hz,_,hv⟩:=hF.entry he
 refine⟨aD z.2.p,by rw[hv];rfl,?_⟩
 refine(hs ls e z.2.p A hI he hv hsub hnd hel hr hlt).mono λb A' hb=>?_
 obtain⟨rfl,h1,h2,h3⟩:=hb
 refine aw rfl (hnext () A' ⟨h1,?_⟩ h2 h3)
 obtain⟨o,ho⟩:=hito
 rw[<-h3] at ho
 exact aG ho
theorem pQ {cap:Nat}{x:PG}{H:Heap}{K:Sl->Heap->Prop}(hF:aL H x)(hcap:aj H cap wQ #[.map (some x.mf)]) (hlen:x.ef.size<=1048576)
  (hK:∀(s:Sl) (ls:List MapEntry) (H':Heap),aK gH tC H' s (ls.map xk)->ls.Perm x.ef.toList->Mod (λ_=>False) H H'->(∀b,al s b->H.size<=b)->K s H'):
  Gz.sp (Sl.mk none 0 0) (.func (.func Dv.no) #[] #[(.pointer (some ⟨cap,0,none⟩))]) H K:=by
 refine Gz.of ?_
 unfold Gz.vc
 refine ao λH1 s1 r1 m1=>?_
 have hcallable:dD KE Dv.no=true:=by kernel_rfl
 refine⟨_,_,rfl,hcallable,λrec hround=>?_⟩
 obtain⟨r,hr⟩:∃r,r=H1.size:=⟨_,rfl⟩
 obtain⟨l,hl⟩:∃l,l=H1.size+1:=⟨_,rfl⟩
 obtain⟨p,hp⟩:∃p,p=H.size:=⟨_,rfl⟩
 rw[<-hl] at hround ⊢
 rw[<-hr]
 rw[<-hp] at r1
 rw[<-hp] at hround
 rw[<-hp]
 obtain⟨HB,hHB⟩:∃HB:Heap,HB=(H1.push (.deferred (some []))).push (.loop (rec .ready none)):=⟨_,rfl⟩
 rw[<-hHB]
 have eB:Mod (λ_=>False) H1 HB:=by rw[hHB];exact(Mod.push _ _ _).trans (Mod.push _ _ _)
 have sB:HB.size=H1.size+2:=by rw[hHB];simp
 have lB:HB[l]?=some (.loop (rec .ready none)):=by rw[hHB,hl,MA,if_pos (by simp)]
 have rB:HB[r]?=some (.deferred (some [])):=by rw[hHB,hr];simp[MA]
 have pB:aj HB p Ah #[(Sl.mk none 0 0).v]:=r1.ext eB
 have FB:aL HB x:=(hF.ak λb _ hl=>m1.same b hl id).ak λb _ hl=>eB.same b hl id
 have cB:aj HB cap wQ #[.map (some x.mf)]:=(hcap.ext m1).ext eB
 have hml:=hF.fmap.lt
 have hcl:cap<H.size:=aG hcap
 let I:List MapEntry->Heap->Prop:=λls A=>A[l]?=some (.loop (rec .ready none))/\A[r]?=some (.deferred (some []))/\(∃s,aj A p Ah #[s.v]/\aK gH tC A s (ls.map xk)/\(∀b,al s b->HB.size<b))/\Mod (λb=>b=p\/b=l\/b=HB.size) HB A
 refine Spec.mono (R:=λv H'=>∃x:Unit,v=(bg []).enc x/\l8 l rec H' _ _ _) (rN (l:=l) (cap:=cap) (x:=x) (H:=HB) (K:=λ_ H'=>l8 l rec H' _ _ _) I FB cB ?_ ?_ ?_ ?_) (λv H' ⟨x,_,h⟩=>h)
 ·intro A hA
  exact⟨hA.at lB id,hA.at rB id,⟨_,pB.ext hA,aK.nil _ _ _,by rintro b ⟨ad,q,_⟩;cases q⟩,Ext.mod hA⟩
 ·rintro ls A A' ⟨i1,i2,⟨s,i3,i4,i5⟩,i6⟩ hA hs
  refine⟨hA.at i1 (by omega),hA.at i2 (by omega),⟨s,i3.mod hA (by omega),i4.ak λb hb hbl=>hA.same b hbl (by have:=i5 b hb;omega),i5⟩,i6.trans (hA.mono λb _ e=>.inr (.inr e))⟩
 ·rintro ls e q A ⟨i1,i2,⟨s,i3,i4,i5⟩,i6⟩ he hv hsub hnd hel hmA hAl
  refine hround [c6 q] A _ i1 ?_
  show iz (some (aD q)) _
  refine⟨i1,?_⟩
  obtain⟨Ab,hAb⟩:∃Ab:Heap,Ab=A.setIfInBounds l (.loop (rec .busy none)):=⟨_,rfl⟩
  rw[<-hAb]
  have mAb:Mod (λb=>b=l) A Ab:=by rw[hAb];exact Mod.setObj rfl
  have sAb:Ab.size=A.size:=by rw[hAb];simp
  have lAb:Ab[l]?=some (.loop (rec .busy none)):=by rw[hAb];exact gi i1
  have hpl:p≠l:=by omega
  have p1:=i3.mod mAb hpl
  refine p1.ld (c:=av) (i:=0) (x:=s) rfl ?_
  have tl:∀b,al s b->b≠l:=λb hb=>by have:=i5 b hb;omega
  have o1:aK gH tC Ab s (ls.map xk):=i4.ak λb hb hbl=>mAb.same b hbl (tl b hb)
  have hln:(ls.map xk).length<=1048576:=by
   have:=M0 hnd (l₂:=x.ef.toList) (λy hy=>hsub y hy)
   simp at this ⊢;omega
  have hne:xk e=q:=by unfold xk;rw[hv];rfl
  refine aK.push (E:=gH) IM (x:=q) o1 rfl (by omega) (by omega) λs2 A2 o2 g2 _=>?_
  have lp:p<Ab.size:=aG p1
  have tp:∀b,al s b->b≠p:=λb hb=>by have:=i5 b hb;omega
  have p2:aj A2 p Ah #[s.v]:=p1.mod g2.1 (λhb=>tp _ hb rfl)
  have i6s:=i6.size
  have t2:∀b,al s2 b->HB.size<b:=λb hb=>by
   rcases g2.2 b hb with q|q
   ·exact i5 b q
   ·omega
  have p2st:=p2.st (i:=0) (v:=s2.v) (by simp) rfl (K:=λH5=>H5[l]?=some (.loop (rec .busy none))/\(λb A'=>b=true/\I (ls++[e]) A'/\A'[x.mf]?=A[x.mf]?/\A'[HB.size]?=A[HB.size]?) true (H5.setIfInBounds l (.loop (rec .ready none))))
  rw[show (La ⟨p,0,none⟩ 0)=⟨p,0,none⟩ from rfl] at p2st
  refine p2st λA3 p3 m3 s3=>?_
  have l2:A2[l]?=some (.loop (rec .busy none)):=g2.1.at lAb (λhb=>tl _ hb rfl)
  have l3:A3[l]?=some (.loop (rec .busy none)):=m3.at l2 (by omega)
  have m4:Mod (λb=>b=l) A3 (A3.setIfInBounds l (.loop (rec .ready none))):=Mod.setObj rfl
  have z2:=g2.1.size
  refine⟨l3,rfl,⟨gi l3,?_,⟨s2,?_,?_,t2⟩,?_⟩,?_,?_⟩
  ·exact m4.at (m3.at (g2.1.at (mAb.at i2 (by omega)) (λhb=>by have:=i5 _ hb;omega)) (by omega)) (by omega)
  ·exact aj.mod (show aj A3 p Ah #[s2.v] from p3) m4 hpl
  ·rw[LF,Lp,List.map_nil,hne]
   refine o2.ak λb hb hbl=>?_
   have:=t2 b hb
   exact(m4.same b (by omega) (by omega)).trans (m3.same b hbl (by omega))
  ·refine i6.trans' (G:=λb=>(b=l\/al s b)\/b=p) ?_ ?_
   ·exact(((mAb.mono λb _ e=>.inl (.inl e)).trans (g2.1.mono λb _ e=>.inl (.inr e))).trans (m3.mono λb _ e=>.inr e)).trans (m4.mono λb _ e=>.inl (.inl e))
   ·rintro b hb ((e|e)|e)
    ·exact .inr (.inl e)
    ·have:=i5 b e;omega
    ·exact .inl e
  ·have hmAl:=aG hmA
   exact(m4.same _ (by omega) (by omega)).trans ((m3.same _ (by omega) (by omega)).trans ((g2.1.same _ (by omega) (λhb=>by have:=i5 _ hb;omega)).trans (mAb.same _ hmAl (by omega))))
  ·exact(m4.same _ (by omega) (by omega)).trans ((m3.same _ (by omega) (by omega)).trans ((g2.1.same _ (by omega) (λhb=>by have:=i5 _ hb;omega)).trans (mAb.same _ (by omega) (by omega))))
 ·rintro ls A ⟨i1,i2,⟨s,i3,i4,i5⟩,i6⟩ hperm
  refine⟨.ready,none,i1,rfl,?_⟩
  show ld av _ _ _
  have m4:Mod (λb=>b=l) A (A.setIfInBounds l (.loop (rec .exhausted none))):=Mod.setObj rfl
  have p4:=i3.mod m4 (by omega)
  refine p4.ld (c:=av) (i:=0) (x:=s) rfl ?_
  have r4:=m4.at i2 (by omega)
  refine⟨r4,?_⟩
  have m5:Mod (λb=>b=r) (A.setIfInBounds l (.loop (rec .exhausted none))) ((A.setIfInBounds l (.loop (rec .exhausted none))).setIfInBounds r (.deferred none)):=Mod.setObj rfl
  have z6:=i6.size
  have z4:=m4.size
  refine hK s ls _ ?_ hperm ?_ (λb hb=>by have:=i5 b hb;omega)
  ·refine i4.ak λb hb hbl=>?_
   have:=i5 b hb
   exact(m5.same b (by omega) (by omega)).trans (m4.same b hbl (by omega))
  ·have z5:=m5.size
   refine⟨by omega,λb hb _=>(m5.same b (by omega) (by omega)).trans ((m4.same b (by omega) (by omega)).trans ((i6.same b (by omega) (by omega)).trans ((eB.same b (by omega) id).trans (m1.same b hb id))))⟩
theorem xu {H:Heap}{s:Sl}{ps:List Nat}(h:aK gH tC H s ps){i:Nat}{q:Nat}(hi:ps[i]?=some q){z:Int}(hz:z=(i:Int)){K:Addr->Option Addr->Prop}(hK:∀ad,s.a=some ad->K ad (aD q)):
  ab s.a λa=>(0<=z/\z<(s.n:Int))/\ld ar H (a.add (z.toNat*1)) λv=>K a v:=by
 subst hz
 have hil:=(KI.1 hi).1
 have hn:=h.n (by decide)
 obtain⟨ad,ha⟩:=cS.addr h.rd (by decide) (by omega)
 refine dv ad ha ⟨⟨by omega,by omega⟩,?_⟩
 have:=cS.ld (E:=gH) (c:=ar) (y:=aD q) h.rd ha hi (j:=0) rfl (n:=i*1) rfl (hK ad ha)
 rw[show (La (La ad (i*1)) 0)=La ad (i*1) from rfl] at this
 rw[KU];exact this
structure Kept (H:Heap)(cap:Nat)(n:ByteArray)(ps:List Nat)(sel:Nat->Bool):Prop where
 cap:aj H cap iA #[.string n]
 fr:∀q∈ps,∃g f,dX H g f/\g.p=q/\sel q=(f.name.toList==n.toList)
theorem Cy {H:Heap}{cap q:Nat}{n:ByteArray}{ps:List Nat}{sel:Nat->Bool}{K:Bool->Heap->Prop}(h:Kept H cap n ps sel)(hq:q∈ps)(hK:K (!sel q) H):Bt.sp (aD q) ⟨cap,0,none⟩ H K:=by
 refine Bt.of ?_
 unfold Bt.vc
 simp only[aq,add_add,Of]
 obtain⟨g,f,hA,rfl,hs⟩:=h.fr q hq
 refine hA.row.ld (c:=aV) (i:=0) (x:=f.name) rfl ?_
 have:=h.cap.ld (c:=aV) (i:=0) (x:=n) rfl (K:=λ(x_1:ByteArray)=>K (!(f.name.toList==x_1.toList)) H)
 rw[show (La ⟨cap,0,none⟩ 0)=⟨cap,0,none⟩ from rfl] at this
 refine this ?_
 rw[<-hs];exact hK
theorem xC {H:Heap}{cap:Nat}{n:ByteArray}{s:Sl}{ps:List Nat}{sel:Nat->Bool}{K:Int->Heap->Prop}(h:aK gH tC H s ps)(hk:Kept H cap n ps sel)(hl:ps.length<=1048576)
  (hN:ps.filter sel=ps->K (-1) H) (hF:∀i,i<ps.length->(ps.take i).filter sel=ps.take i->(∃q,ps[i]?=some q/\sel q=false)->K (i:Int) H):GP.sp s ⟨cap,0,none⟩ H K:=by
 refine GP.of ?_
 unfold GP.vc
 have hn:=h.n (by decide)
 refine ay ps.length (λk x H1=>H=H1/\x=(k:Int)/\(ps.take k).filter sel=ps.take k) ⟨rfl,rfl,by simp⟩ ?_
 rintro k _ _ next hk' ⟨rfl,rfl,hf⟩ hnext
 refine ae (λhc=>?_) (λhc=>?_)
 ·have hlt:k<ps.length:=by rw[hn] at hc;simpa using hc
  have hq:ps[k]?=some ps[k]:=KJ hlt
  refine xu h hq rfl λad ha=>?_
  refine Cy hk (Lt hlt) ?_
  cases hs:sel ps[k] with
  |false=>exact aP rfl (hF k hlt hf ⟨_,hq,hs⟩)
  |true=>
    refine aw rfl (hnext hlt _ _ ⟨rfl,aI k (by omega),?_⟩)
    rw[KP hlt,LH,hf]
    simp[hs]
 ·have hge:k=ps.length:=by rw[hn] at hc;simp at hc;omega
  rw[hge,KT (KN _)] at hf
  exact hN hf
theorem uo {P:Program}{w:World}{g o:Nat}{t:TypeId}{vs:List Value}{cur:Array Value}(hg:w.heap[g]?=some (.cells cur t (0,0)))(hfit:o+vs.length<=cur.size)(h1:∀v∈vs,v.oneCell'=true):
  w.setCells g o vs=w.setRow g (cur.toList.take o++vs++cur.toList.drop (o+vs.length)).toArray:=by
 have a:=run_storeCells_cells (P:=P) g o vs 0 w (λj hj=>by simp[R8,hg];omega) (λj hj=>by simp[RL,hg]) h1
 have b:=run_storeCells_at P g o t vs 0 cur w hg (by simpa using hfit) h1
 simp only[Qk] at a b
 rw[a] at b
 simpa using b
theorem EC:∀w:World,(zeroValue tC).run KE w=.ok (.pointer none) w:=Sf
theorem Ib:KE.underlying Ah=some (.slice tC):=by kernel_rfl
theorem AV {H:Heap}{s:Sl}{ps:List Nat}{lo:Nat}{ty:TypeId}{K:Value->Heap->Prop}(h:aK gH tC H s ps)(hlo:lo<ps.length)
  (hK:∀v H',aK gH tC H' (Sl.mk s.a lo s.c) (ps.take lo)->Mod (al s) H H'->K v H'):
  bt jG KE (QO #[Ah] ty #[(.slice (fP s.a s.c lo 1) (s.n - lo) (s.c - lo))]) H K:=by
 intro w hw
 subst hw
 have hn:=h.n (by decide)
 rcases h.2 with ⟨e1,e2⟩|⟨g,cap,cur,e1,hb,hg,h4,h5,h6,h7⟩
 ·omega
 ·cases s with
  |mk sa sn sc=>
  simp only[Sl.v,Ld] at e1
  obtain⟨rfl,_,rfl⟩:=e1
  simp only at hn h4 h7 hK ⊢
  have hE1:gH.size=1:=rfl
  rw[hE1,LU] at h6 h7
  have ea:fP (some ⟨g,0,none⟩) sc lo 1=some ⟨g,lo,none⟩:=by
   unfold fP
   rw[if_neg (by omega)]
   simp[aX]
  rw[ea]
  have hr:=Lib.run_clear_slice (P:=KE) w Ah tC ty (.pointer none) Ib EC rfl rfl g lo (sn - lo) (sc - lo) (by omega) (λj hj=>by simp[R8,hg];omega) (λj hj=>by simp[RL,hg])
  rw[uo (P:=KE) hg (by simp;omega) (by intro v hv;rw[List.eq_of_mem_replicate hv];rfl)] at hr
  have hown:∀k,al (Sl.mk (some ⟨g,0,none⟩) sn sc) k↔k=g:=λk=>⟨λ⟨ad,h1,h2⟩=>by cases h1;exact h2.symm,λh=>⟨_,rfl,h.symm⟩⟩
  refine⟨_,_,hr,⟨_,rfl,hK _ _ ?_ ⟨by simp[World.setRow],λk _ hk=>setRow_other w g k _ (λe=>hk ((hown k).2 e))⟩⟩,⟨rfl,KN _⟩⟩
  refine⟨by rw[qJ];simp[hE1];omega,.inr ⟨g,sc,_,rfl,Lh _,setRow_heap w g cur _ _ _ hg,by simp only;omega,h5,?_,?_⟩⟩
  ·simp only[hE1,LU,List.size_toArray,Lj,M8,List.length_replicate,MK,Array.length_toList]
   omega
  ·simp only[hE1,LU]
   rw[LG,List.take_append_of_le_length (by simp;omega),Pv,Nat.min_self]
   have e1:gH.all (ps.take lo)=(gH.all ps).take lo:=by rw[qJ,qJ,Si]
   rw[e1,<-h7,Pv,Nat.min_eq_left (by omega)]
theorem zQ {H:Heap}{cap:Nat}{n:ByteArray}{s:Sl}{ps:List Nat}{sel:Nat->Bool}{K:Sl->Heap->Prop}(h:aK gH tC H s ps)(hk:Kept H cap n ps sel)(hl:ps.length<=1048576)(hcap:∀b,al s b->b≠cap)
  (hK:∀s' H',aK gH tC H' s' (ps.filter sel)->Mod (al s) H H'->(∀b,al s' b->al s b)->K s' H'):Hu.sp s ⟨cap,0,none⟩ H K:=by
 refine Hu.of ?_
 unfold Hu.vc
 have hn:=h.n (by decide)
 have hcp:=aT.cap h
 refine xC h hk hl (λhall=>aP rfl (hK s H (by rw[hall];exact h) (.refl _ _) λ_ q=>q)) (λi hi hpre hno=>?_)
 refine aw (by simp) ?_
 -- the frames' own blocks are not the slice's
 have hsep:∀q∈ps,¬al s q:=by
  intro q hq hb
  obtain⟨c,e⟩:=h.obj q hb
  obtain⟨g,f,hA,rfl,_⟩:=hk.fr q hq
  exact absurd (aQ hA.row e) (by decide)
 have keepK:∀{A:Heap},Mod (al s) H A->(∀q∈ps,∃g f,dX H g f/\g.p=q/\sel q=(f.name.toList==n.toList))->Kept A cap n ps sel:=by
  intro A hM _
  refine⟨hM.at hk.cap λq=>hcap cap q rfl,λq hq=>?_⟩
  obtain⟨g,f,hA,e1,e2⟩:=hk.fr q hq
  refine⟨g,f,hA.ak λb hb hl=>hM.same b hl λq2=>?_,e1,e2⟩
  obtain⟨c,e⟩:=h.obj b q2
  obtain⟨cs,t,e3,ht⟩:=hA.obj b hb
  have:=aQ e e3
  rw[<-this] at ht
  exact absurd ht (by decide)
 obtain⟨q0,hq0,hs0⟩:=hno
 have hw0:KG.wrap ((i:Int)+1)=((i+1:Nat):Int):=aI i (by omega)
 rw[hw0]
 refine⟨Nat×Nat×List Nat,λt z A=>z=((t.1:Int),(t.2.1:Int))/\aK gH tC A s t.2.2/\t.2.2.length=ps.length/\t.2.2.take t.1=(ps.take t.2.1).filter sel/\t.2.2.drop t.2.1=ps.drop t.2.1/\t.1<t.2.1/\t.2.1<=ps.length/\Mod (al s) H A,λt=>ps.length - t.2.1,⟨(i,i+1,ps),rfl,h,rfl,?_,rfl,Nat.lt_succ_self _,hi,.refl _ _⟩,?_⟩
 ·show ps.take i=(ps.take (i+1)).filter sel
  have hq:ps[i]=q0:=by rw[KJ hi] at hq0;exact K1 hq0
  rw[KP hi,LH,hpre,hq]
  simp[hs0]
 ·rintro⟨a,j,cur⟩ z A ⟨rfl,o,hlen,htk,hdr,haj,hj,hM⟩
  simp only at o hlen htk hdr haj hj ⊢
  have hkA:=keepK hM hk.fr
  refine ae (λhc=>?_) (λhc=>?_)
  ·have hjl:j<ps.length:=by rw[hn] at hc;simp at hc;omega
   have hcj:cur[j]?=some ps[j]:=by
    have e1:(cur.drop j)[0]?=(ps.drop j)[0]?:=by rw[hdr]
    rw[L5,L5,Qk,KJ hjl] at e1
    exact e1
   refine xu o hcj rfl λad ha=>?_
   refine Cy hkA (Lt hjl) ?_
   have hwj:KG.wrap ((j:Int)+1)=((j+1:Nat):Int):=aI j (by omega)
   have hdr':∀l:List Nat,l.drop j=ps.drop j->l.drop (j+1)=ps.drop (j+1):=by
    intro l e
    have:(l.drop j).drop 1=(ps.drop j).drop 1:=by rw[e]
    rwa [Rf,Rf] at this
   cases hs:sel ps[j] with
   |false=>
     refine aw rfl ⟨(a,j+1,cur),⟨by rw[hwj],o,hlen,?_,hdr' cur hdr,by simp only;omega,hjl,hM⟩,by simp only;omega⟩
     simp only
     rw[KP hjl,LH,htk]
     simp[hs]
   |true=>
     refine aP rfl ?_
     rw[ha]
     refine⟨⟨by omega,by omega⟩,?_⟩
     have hal:a<cur.length:=by omega
     have hca:cur[a]?=some cur[a]:=KJ hal
     rw[KU]
     show st A (La (La ad (a*1)) 0) (c6 ps[j]) _
     refine aK.st (i:=a) (j:=0) (x:=cur[a]) (y:=ps[j]) o ha hca (by decide) rfl rfl rfl λA' o' m' z'=>?_
     have hwa:KG.wrap ((a:Int)+1)=((a+1:Nat):Int):=aI a (by omega)
     refine⟨(a+1,j+1,cur.set a ps[j]),⟨by rw[hwa,hwj],o',by simp[hlen],?_,?_,by simp only;omega,hjl,hM.trans m'⟩,by simp only;omega⟩
     ·simp only
      rw[KP hjl,LH,<-htk,KP (by simp;omega),List.take_set_of_le (KN _)]
      simp[hs]
     ·simp only
      rw[List.drop_set_of_lt (by omega)]
      exact hdr' cur hdr
  ·have hje:j=ps.length:=by rw[hn] at hc;simp at hc;omega
   subst hje
   rw[KT (KN _)] at htk
   refine⟨⟨by omega,by omega⟩,?_⟩
   rw[KU]
   refine AV o (by omega) λv A' o' m'=>⟨⟨by omega,by omega⟩,?_⟩
   rw[kN,Sw,Sw]
   rw[htk] at o'
   exact hK _ A' o' (hM.trans m') λb q=>q
open Go.MapKept Go.Shelf Go.Sort
def PG.of (x:PG)(n:ByteArray):List FZ:=(x.zs.filter λz=>z.1.name.toList==n.toList).mergeSort λa b=>decide (a.1.page<=b.1.page)
theorem PG.j9 {x:PG}{n:ByteArray}{z:FZ}:z∈x.of n↔z∈x.zs/\z.1.name=n:=by
 unfold PG.of
 rw[QG,K3]
 constructor
 ·rintro⟨h1,h2⟩;exact⟨h1,iP (by simpa using h2)⟩
 ·rintro⟨h1,h2⟩;exact⟨h1,by rw[h2];simp⟩
theorem lY {l r:List Nat}(h:l.Perm r)(hl:l.Pairwise (·<=·))(hr:r.Pairwise (·<=·)):l=r:=
 N9 (le:=(·<=·)) (λa b _ _ h1 h2=>Nat.le_antisymm h1 h2) hl hr h
theorem PG.sC (x:PG)(n:ByteArray):(x.of n).Pairwise λa b=>a.1.page<=b.1.page:=by
 unfold PG.of
 have:=Mu (le:=λa b:FZ=>decide (a.1.page<=b.1.page)) (λ_ _ _ h1 h2=>by simp at*;omega) (λ_ _=>by simp;omega) (x.zs.filter λz=>z.1.name.toList==n.toList)
 exact this.imp λh=>by simpa using h
theorem PG.Da {x:PG}{s:Pl}(h:s.fs=x.fs)(n:ByteArray):(x.of n).map (λz=>z.1.page)=s.aU n:=by
 refine lY ?_ ?_ ?_
 ·unfold Pl.aU PG.of
  rw[h]
  unfold PG.fs
  refine((LO _ _).map _).trans (Qo ?_ (LO _ _).symm)
  rw[RX,Md]
  exact List.Perm.refl _
 ·rw[MU];exact x.sC n
 ·unfold Pl.aU
  have:=Mu (le:=λa b:Nat=>decide (a<=b)) (λ_ _ _ h1 h2=>by simp at*;omega) (λ_ _=>by simp;omega) ((s.fs.filter λf=>f.name.toList==n.toList).map (·.page))
  exact this.imp λh=>by simpa using h
theorem nG {α β:Type}(f:α->β){l:List α}(h:(l.map f).Nodup):l.Nodup:=by
 unfold Pw at*
 rw[MU] at h
 exact h.imp λhne e=>hne (by rw[e])
theorem tD {α β:Type}{f:α->β}:∀{l:List β},(∀b∈l,∃a,f a=b)->∃r:List α,r.map f=l
 |[],_=>⟨[],rfl⟩
 |b::l,h=>by
   obtain⟨a,ha⟩:=h b KV
   obtain⟨r,hr⟩:=tD (l:=l) λc hc=>h c (K7 _ hc)
   exact⟨a::r,by rw[Lp,ha,hr]⟩
theorem BU {H:Heap}{za zb:FZ}(ha:dX H za.2 za.1)(hb:dX H zb.2 zb.1)(h1:za.1.page<1048577)(h2:zb.1.page<1048577):
  Spec KE Bs.no #[c6 za.2.p,c6 zb.2.p] H λv H'=>v=.int .i64 ((za.1.page:Int) - (zb.1.page:Int))/\Mod (λ_=>False) H H':=by
 have:=Bs.of (a:=aD za.2.p) (b:=aD zb.2.p) (H:=H) (R:=λr H'=>r=(za.1.page:Int) - (zb.1.page:Int)/\Mod (λ_=>False) H H') (by
  unfold Bs.vc
  simp only[aq,add_add,Of]
  refine ha.row.ld (c:=aa .i64) (i:=1) (x:=(za.1.page:Int)) rfl ?_
  refine hb.row.ld (c:=aa .i64) (i:=1) (x:=(zb.1.page:Int)) rfl ?_
  exact⟨wrap64 (by omega) (by omega),.refl _ _⟩)
 refine Spec.mono this λv H' ⟨x,hx,h3,h4⟩=>?_
 subst hx
 exact⟨by rw[h3],h4⟩
theorem AM:∀args w,(callFunc Bs.no args).run KE w=.ok (.enter Bs.no args) w:=enters_of Tx (by kernel_rfl) rfl
theorem IY {x:PG}{H:Heap}{p dp:Nat}{s:Pl}{n:ByteArray}{K:Sl->Heap->Prop}(h:bw x H p dp s)
  (hK:∀sl H',aK gH tC H' sl ((x.of n).map λz=>z.2.p)->Ext H H'->(∀b,al sl b->H.size<=b)->K sl H'):GQ.sp (aD p) n H K:=by
 refine GQ.of ?_
 unfold GQ.vc
 simp only[aq]
 refine ao λH1 s1 r1 e1=>?_
 have h1:bw x H1 p dp s:=h.ak λb _ hl=>e1.same b hl id
 refine h1.head.ld (c:=cq) (i:=2) (x:=some x.mf) rfl ?_
 refine HV.of ?_
 unfold HV.vc
 refine ao λH2 s2 r2 e2=>?_
 refine HN.of ?_
 unfold HN.vc
 have F2:aL H2 x:=h1.ah.ak λb _ hl=>e2.same b hl id
 have hlen:=h.wf.len
 have hmost:=h.wf.most
 have hsz:=h.n
 refine pQ F2 r2 (by omega) λsl ls H3 o3 hp3 e3 f3=>?_
 have hF3:aL H3 x:=F2.ak λb _ hl=>e3.same b hl id
 have z1:=e1.size
 have z2:=e2.size
 have z3:=e3.size
 -- the pointers that were met are the frames'
 have hperm:(ls.map xk).Perm (x.zs.map λz=>z.2.p):=by
  have q1:=(hp3.map λe=>(e.key,e.val)).trans h.perm
  have q2:=q1.map λkv:Value×Value=>(match kv.2 with|.pointer (some a)=>a.block|_=>0)
  rw[Md] at q2
  refine Qo (Q5 ?_) (q2.trans (Q5 ?_))
  ·exact MV λe _=>rfl
  ·unfold nY;rw[Md];exact MV λz _=>rfl
 have hat:∀q∈ls.map xk,∃z∈x.zs,z.2.p=q:=by
  intro q hq
  obtain⟨z,hz,e⟩:=KZ.1 (hperm.mem_iff.1 hq)
  exact⟨z,hz,e⟩
 let sel:Nat->Bool:=λq=>x.zs.any λz=>z.2.p==q&&z.1.name.toList==n.toList
 have hsel:∀z∈x.zs,sel z.2.p=(z.1.name.toList==n.toList):=by
  intro z hz
  cases hq:z.1.name.toList==n.toList with
  |true=>exact List.any_eq_true.2 ⟨z,hz,by simp[hq]⟩
  |false=>
    refine List.any_eq_false.2 λy hy=>?_
    intro q
    simp only[KR,beq_iff_eq] at q
    have:=h.ah.ptr hy hz q.1
    subst this
    rw[q.2] at hq;simp at hq
 have hll:(ls.map xk).length<=1048576:=by
  rw[hperm.length_eq,L9]
  have:=h.ah.size;omega
 have hk3:Kept H3 H.size n (ls.map xk) sel:=by
  refine⟨e3.at (e2.at r1 id) id,λq hq=>?_⟩
  obtain⟨z,hz,e⟩:=hat q hq
  exact⟨z.2,z.1,hF3.each z hz,e,by rw[<-e];exact hsel z hz⟩
 refine zQ o3 hk3 hll (λb hb e=>by have:=f3 b hb;omega) λs4 H4 o4 m4 w4=>?_
 -- sorted
 have m4':Ext H3 H4\/True:=.inr trivial
 have hF4:aL H4 x:=hF3.ak λb hb hl=>m4.same b hl λq=>by
  have:=f3 b q
  have:=h.ah.lt b hb;omega
 have hperm4:((ls.map xk).filter sel).Perm ((x.of n).map λz=>z.2.p):=by
  refine(hperm.filter sel).trans ?_
  rw[RX]
  refine List.Perm.map _ (Qo (Q5 ?_) (LO _ _).symm)
  refine LM λz hz=>?_
  exact hsel z hz
 have fresh4:∀b,al s4 b->H.size<=b:=λb hb=>by have:=f3 b (w4 b hb);omega
 have e4:Ext H H4:=⟨by have:=m4.size;omega,λb hb _=>(m4.same b (by omega) (λq=>by have:=f3 b q;omega)).trans ((e3.same b (by omega) id).trans ((e2.same b (by omega) id).trans (e1.same b hb id)))⟩
 by_cases hnil:(x.of n)=[]
 ·-- none
  have hl0:(ls.map xk).filter sel=[]:=by
   have:=hperm4.length_eq
   rw[hnil] at this
   exact Lq (by simpa using this)
  rw[hl0] at o4
  have hn0:=o4.n (by decide)
  intro w hw
  subst hw
  have hc:=Px (P:=KE) (ρ:=mg) {Cw with} s4.a s4.c (.func (.func Bs.no) #[] #[]) w
  have e0:s4.v=.slice s4.a 0 s4.c:=by
   cases s4;simp only[Sl.v] at hn0 ⊢;rw[hn0];rfl
  rw[e0]
  refine hc.mono λe w' ⟨he,hw'⟩=>?_
  subst hw'
  refine⟨_,he,⟨(),rfl,hK s4 _ ?_ e4 fresh4⟩,.refl _⟩
  rw[hnil];exact o4
 ·obtain⟨z0,hz0⟩:=List.exists_mem_of_ne_nil _ hnil
  obtain⟨la,hla⟩:=tD (f:=λa:{z:FZ // z∈x.zs/\z.1.name=n}=>a.1.2.p) (l:=(ls.map xk).filter sel) (λq hq=>by
   obtain⟨z,hz,e⟩:=KZ.1 (hperm4.mem_iff.1 hq)
   exact⟨⟨z,PG.j9.1 hz⟩,e⟩)
  haveI:Inhabited {z:FZ // z∈x.zs/\z.1.name=n}:=⟨⟨z0,PG.j9.1 hz0⟩⟩
  let E:fN {z:FZ // z∈x.zs/\z.1.name=n}:=⟨1,λa=>[c6 a.1.2.p],λ_=>rfl,λx u hu=>by simp at hu;subst hu;rfl⟩
  have hEall:∀l:List {z:FZ // z∈x.zs/\z.1.name=n},E.all l=gH.all (l.map λa=>a.1.2.p):=by
   intro l
   induction l with
   |nil=>rfl
   |cons a l ih=>
     have q1:E.all (a::l)=c6 a.1.2.p::E.all l:=rfl
     have q2:gH.all ((a::l).map λa=>a.1.2.p)=c6 a.1.2.p::gH.all (l.map λa=>a.1.2.p):=rfl
     rw[q1,q2,ih]
  have oE:∀{A:Heap} {l:List {z:FZ // z∈x.zs/\z.1.name=n}},aK E tC A s4 l↔aK gH tC A s4 (l.map λa=>a.1.2.p):=by
   intro A l
   unfold aK
   rw[hEall]
   exact Iff.rfl
  have o4':aK E tC H4 s4 la:=by rw[oE,hla];exact o4
  have hpg:∀a:{z:FZ // z∈x.zs/\z.1.name=n},a.1.1.page<1048577:=λa=>(h.wf.au a.1.1 (by rw[h.fs];exact KZ.2 ⟨a.1,a.2.1,rfl⟩)).1
  let cf:{z:FZ // z∈x.zs/\z.1.name=n}->{z:FZ // z∈x.zs/\z.1.name=n}->Int:=λa b=>(a.1.1.page:Int) - (b.1.1.page:Int)
  have hlt:∀a b,ltOf cf a b=decide (a.1.1.page<b.1.1.page):=by
   intro a b
   show decide ((a.1.1.page:Int) - (b.1.1.page:Int)<0)=_
   rw[decide_eq_decide];omega
  have hO:SWO (ltOf cf):=⟨λa=>by rw[hlt];simp,λa b c h1 h2=>by rw[hlt] at*;simp at*;omega,λa b c h1 h2=>by rw[hlt] at*;simp at*;omega⟩
  have hT:∀a b,(ltOf cf) a b=false->(ltOf cf) b a=false->a=b:=by
   intro a b h1 h2
   rw[hlt] at h1 h2
   simp at h1 h2
   apply Subtype.ext
   obtain⟨i,hi⟩:=KQ.1 a.2.1
   obtain⟨j,hj⟩:=KQ.1 b.2.1
   have hk:=h.wf.keys
   have:=key_inj (p:=s) hk (i:=i) (j:=j) (f:=a.1.1) (g:=b.1.1) (by rw[h.fs];simp[PG.fs,hi]) (by rw[h.fs];simp[PG.fs,hj]) (by rw[a.2.2,b.2.2]) (by omega)
   subst this
   rw[hi] at hj;exact K1 hj
  have hlal:la.length<4611686018427387904:=by
   have:la.length=((ls.map xk).filter sel).length:=by rw[<-hla,L9]
   have h2:=NO sel (ls.map xk)
   omega
  refine rY (ρ:=mg) (E:=E) (e:=λa=>c6 a.1.2.p) Cw (λ_=>rfl) rfl hO hT AM o4' hlal (λA mA a b=>?_) λA oA mA=>?_
  ·have hFA:aL A x:=hF4.ak λc hc hl=>mA.same c hl λq=>by
    have:=fresh4 c q
    have:=h.ah.lt c hc;omega
   exact BU (hFA.each a.1 a.2.1) (hFA.each b.1 b.2.1) (hpg a) (hpg b)
  ·rw[oE] at oA
   have hperm5:=LO la (λx y=>!(ltOf cf) y x)
   have heq:(la.mergeSort λx y=>!(ltOf cf) y x).map (λa=>a.1.2.p)=(x.of n).map λz=>z.2.p:=by
    have hz:(la.mergeSort λx y=>!(ltOf cf) y x).map (λa=>a.1)=x.of n:=by
     refine N9 (le:=λa b:FZ=>a.1.page<=b.1.page) (λa b ha hb h1 h2=>?_) ?_ (x.sC n) ?_
     ·obtain⟨a',_,rfl⟩:=KZ.1 ha
      have hb':=PG.j9.1 hb
      have:=hT a' ⟨b,hb'⟩ (by rw[hlt];simp;exact h2) (by rw[hlt];simp;exact h1)
      exact congrArg Subtype.val this
     ·rw[MU]
      have:=Mu (le:=λx y=>!(ltOf cf) y x) (λa b c h1 h2=>by rw[hlt] at*;simp at*;omega) (λa b=>by rw[hlt,hlt];simp;omega) la
      exact this.imp λh=>by rw[hlt] at h;simpa using h
     ·-- the same frames
      have hnd:(x.of n).Nodup:=by
       have hz:x.zs.Nodup:=by
        have:=h.wf.keys
        rw[h.fs] at this
        unfold PG.fs at this
        rw[Md] at this
        exact nG _ this
       unfold PG.of
       exact(LO _ _).symm.nodup (hz.filter _)
      have hA:(la.map λa=>a.1.2.p).Perm ((x.of n).map λz=>z.2.p):=by rw[hla];exact hperm4
      have hpp:=(hperm5.map λa=>a.1.2.p).trans hA
      have inj:∀a∈(la.mergeSort λx y=>!(ltOf cf) y x).map (λa=>a.1),∀b∈x.of n,a.2.p=b.2.p->a=b:=by
       intro a ha b hb e
       obtain⟨a',_,rfl⟩:=KZ.1 ha
       exact h.ah.ptr a'.2.1 (PG.j9.1 hb).1 e
      have hnd2:((x.of n).map λz=>z.2.p).Nodup:=by
       unfold Pw
       rw[MU]
       refine QX (λ{a b} ha hb hne e=>hne (h.ah.ptr (PG.j9.1 ha).1 (PG.j9.1 hb).1 e)) hnd
      have hpp':(((la.mergeSort λx y=>!(ltOf cf) y x).map λa=>a.1).map λz=>z.2.p).Perm ((x.of n).map λz=>z.2.p):=by rw[Md];exact hpp
      have hndA:((la.mergeSort λx y=>!(ltOf cf) y x).map λa=>a.1).Nodup:=nG _ (hpp'.symm.nodup hnd2)
      rw[MQ hndA hnd]
      intro z
      constructor
      ·intro hz
       obtain⟨a',_,rfl⟩:=KZ.1 hz
       exact PG.j9.2 a'.2
      ·intro hz
       have:z.2.p∈((la.mergeSort λx y=>!(ltOf cf) y x).map λa=>a.1).map λz=>z.2.p:=hpp'.mem_iff.2 (KZ.2 ⟨z,hz,rfl⟩)
       obtain⟨y,hy,e⟩:=KZ.1 this
       rw[<-inj y hy z hz e];exact hy
    rw[<-hz,Md];rfl
   rw[heq] at oA
   refine hK s4 A oA ⟨by have:=e4.size;have:=mA.size;omega,λb hb _=>(mA.same b (by have:=e4.size;omega) (λq=>by have:=fresh4 b q;omega)).trans (e4.same b hb id)⟩ fresh4
end Go.Proofs.YtdpdmbceakdlmaaGreatDoor
namespace Go.Proofs.YtdpdmbceakdlmaaGreatDoor
open Go.MapKept
theorem EV {zs:List FZ}{i:Nat}{f f':Fr}{g:re}(hz:zs[i]?=some (f,g))(hk:f'.key=f.key):nY (zs.set i (f',g))=nY zs:=by
 have h1:f'.name=f.name:=congrArg Prod.fst hk
 have h2:f'.page=f.page:=congrArg Prod.snd hk
 unfold nY
 rw[show zs.set i (f',g)=zs.modify i (λ_=>(f',g)) from (aS (g:=λ_=>(f',g)) hz).symm]
 exact cP _ _ _ _ _ hz (by simp only[h1,h2])
theorem Iu {x y:PG}{H:Heap}{z:FZ}{n:ByteArray}(hk:nY y.zs=nY x.zs)(hz:z∈x.zs)(hn:z.1.name=n)(hy:aL H y):∃(i:Nat) (f:Fr),y.zs[i]?=some (f,(⟨z.2.p,(y.zs.getD i z).2.b⟩:re))/\f.name=n/\f.page=z.1.page:=by
 have h1:(iY z.1.name (z.1.page:Int),c6 z.2.p)∈nY y.zs:=by rw[hk];exact KZ.2 ⟨z,hz,rfl⟩
 obtain⟨u,hu,e⟩:=KZ.1 h1
 simp only[Prod.mk.injEq] at e
 have e1:=kq e.1
 have e2:=qq e.2
 obtain⟨i,hi⟩:=KQ.1 hu
 refine⟨i,u.1,?_,e1.1.trans hn,by omega⟩
 have:y.zs.getD i z=u:=by simp[Lo,hi]
 rw[hi,this,<-e2]
theorem Pl.kr (s:Pl)(n:ByteArray):(s.aU n).length<=s.fs.length:=by
 unfold Pl.aU
 rw[List.length_mergeSort,L9]
 exact NO _ _
theorem BJ {F:Nat->Prop}{H:Heap}{p dp:Nat}{s:Pl}{n:ByteArray}{K:Int->Heap->Prop}(hg:Gl H)(h:aM F H p dp s)(hlogs:s.d.logs<68719470000)
  (hK:∀F' H',aM F' H' p dp (s.flush n).1->Step F F' H H'->K (s.flush n).2 H'):ER.sp (aD p) n H K:=by
 have h00:=h
 obtain⟨x,D,hd,hF⟩:=h
 refine ER.of ?_
 unfold ER.vc
 simp only[aq]
 refine jP hd.ag ?_
 unfold Pl.flush at hK
 refine ae (λhw=>?_) (λhw=>?_)
 ·have hw':s.wrong≠0:=by simpa using hw
  rw[if_pos hw'] at hK
  exact hK F H h00 (.refl _ _)
 have hw':¬s.wrong≠0:=by simpa using hw
 rw[if_neg hw'] at hK
 refine hd.ag.head.ld (c:=ar) (i:=0) (x:=aD dp) rfl ?_
 refine tI hd.ba ?_
 have fin:∀(e:Int) (x':PG) (D':Nat->Prop) (H1:Heap) (t:Pl),bP x' D' H1 p dp t->Step (λb=>D b\/x.all p b) (λb=>D' b\/x'.all p b) H H1->(∀F' H',aM F' H' p dp (Pl.out (t,e)).1->Step F F' H H'->K (Pl.out (t,e)).2 H')->
   vN.sp (aD p) e H1 λr H2=>K r H2:=by
  intro e x' D' H1 t h1 S1 hk
  refine xt (hd.gl hg S1.mod) h1 λH2 h2 S2=>?_
  obtain⟨F',q1,q2⟩:=h2.out (x:=x) (D:=D) (F:=F) (H:=H) hF (S1.trans S2)
  exact hk F' H2 q1 q2
 refine ae (λhz=>?_) (λhz=>?_)
 ·have hz':(s.d.len n).2≠0:=by simpa using hz
  rw[if_pos hz'] at hK
  exact fin _ x D H s hd (.refl _ _) hK
 have hz':¬(s.d.len n).2≠0:=by simpa using hz
 rw[if_neg hz'] at hK
 refine IY hd.ag λsl H1 o1 e1 f1=>?_
 have hd1:=hd.ext e1
 have hlen1:=o1.n (by decide)
 have hpo:=PG.Da hd.ag.fs n
 have hll:(s.aU n).length<=4096:=by
  have:=s.kr n
  have:=hd.ag.wf.len;have:=hd.ag.wf.most;omega
 have hsl:sl.n=(s.aU n).length:=by rw[hlen1,<-hpo,L9,L9]
 have hofl:(x.of n).length=(s.aU n).length:=by rw[<-hpo,L9]
 refine ay (s.aU n).length (λk z A=>z=(k:Int)/\∃y D' t,bP y D' A p dp t/\Step (λb=>D b\/x.all p b) (λb=>D' b\/y.all p b) H1 A/\nY y.zs=nY x.zs/\aK gH tC A sl ((x.of n).map λz=>z.2.p)/\t.d.logs<=s.d.logs+k/\Pl.aH n (s.aU n) s=Pl.aH n ((s.aU n).drop k) t) ⟨rfl,x,D,s,hd1,.refl _ _,rfl,o1,KN _,rfl⟩ ?_
 rintro k _ A next hk ⟨rfl,y,D',t,hdA,SA,hkv,oA,hlg,heq⟩ hnext
 have hgA:Gl A:=hd1.gl (hg.mod e1 id) SA.mod
 refine ae (λhc=>?_) (λhc=>?_)
 ·have hlt:k<(s.aU n).length:=by rw[hsl] at hc;simpa using hc
  have hko:k<(x.of n).length:=by omega
  have hzk:(x.of n)[k]∈x.of n:=Lt hko
  obtain⟨hzx,hzn⟩:=PG.j9.1 hzk
  obtain⟨i,f,hi,hfn,hfp⟩:=Iu hkv hzx hzn hdA.ag.ah
  obtain⟨g,hgd⟩:∃g:re,g=⟨(x.of n)[k].2.p,(y.zs.getD i (x.of n)[k]).2.b⟩:=⟨_,rfl⟩
  rw[<-hgd] at hi
  have hgp:g.p=(x.of n)[k].2.p:=by rw[hgd]
  have hfs:t.fs[i]?=some f:=by rw[hdA.ag.fs];simp[PG.fs,hi]
  have hpk:(s.aU n)[k]=f.page:=by
   have:((x.of n).map λz=>z.1.page)[k]'(by simpa using hko)=(s.aU n)[k]:=by congr 1
   rw[<-this,Nl,hfp]
  have hfind:t.find n ((s.aU n)[k]:Int)=some i:=by rw[hpk,<-hfn];exact Pl.find_eq hdA.ag.wf hfs
  have hstep:Pl.aH n ((s.aU n).drop k) t=if f.dirty then (if (t.put i).2=0 then Pl.aH n ((s.aU n).drop (k+1)) (t.put i).1 else t.put i) else Pl.aH n ((s.aU n).drop (k+1)) t:=by
   rw[MW hlt]
   conv=>lhs;unfold Pl.aH
   rw[hfind]
   simp only[Pl.cX hfs]
  have hA:=hdA.ag.ah.each _ (KH hi)
  refine xu oA (i:=k) (q:=(x.of n)[k].2.p) (by simp[hko]) rfl λad ha=>?_
  rw[<-hgp]
  simp only[aq]
  refine hA.row.ld (c:=aA) (i:=4) (x:=f.dirty) rfl ?_
  have hw1:KG.wrap ((k:Int)+1)=((k+1:Nat):Int):=aI k (by omega)
  cases hdt:f.dirty with
  |false=>
    rw[hdt,if_neg (by simp)] at hstep
    exact aP rfl (hnext hlt _ _ ⟨hw1,y,D',t,hdA,SA,hkv,oA,by omega,heq.trans hstep⟩)
  |true=>
    rw[hdt,if_pos rfl] at hstep
    refine aw rfl ?_
    refine zj hgA hdA hi (by omega) (λhne D2 H2 h2 S2=>?_) (λhe D2 H2 h2 S2=>?_)
    ·rw[if_neg hne] at hstep
     refine aP (by simpa using hne) ?_
     have e0:=heq.trans hstep
     rw[e0,if_pos hne] at hK
     exact fin _ y D2 H2 _ h2 ((SA.trans S2).ahead e1) hK
    ·rw[if_pos he] at hstep
     refine aw rfl ?_
     refine hnext hlt _ _ ⟨hw1,_,D2,(t.put i).1,h2,SA.trans S2,?_,?_,?_,heq.trans hstep⟩
     ·show nY (y.zs.set i (f.clean,g))=_
      rw[EV (f':=f.clean) hi rfl];exact hkv
     ·refine oA.ak λb hb hl=>S2.mod.same b hl ?_
      rintro q
      rcases SA.own b q with r|r
      ·have:=hd.lt b r
       have:=f1 b hb;omega
      ·have:=o1.lt b hb;omega
     ·have:=t.ku i;omega
 ·have hge:k=(s.aU n).length:=by rw[hsl] at hc;simp at hc;omega
  have e0:Pl.aH n (s.aU n) s=(t,0):=by rw[heq,hge,LK (KN _)];rfl
  rw[e0,if_neg (by simp)] at hK
  simp only at hK
  refine hdA.ag.head.ld (c:=ar) (i:=0) (x:=aD dp) rfl ?_
  refine Fj hdA.ba λD2 H2 a2 S2=>?_
  obtain⟨q1,q2⟩:=hdA.ky hgA a2 S2
  exact fin _ y D2 H2 _ q1 ((SA.trans q2).ahead e1) hK
end Go.Proofs.YtdpdmbceakdlmaaGreatDoor
namespace Go.Proofs.YtdpdmbceakdlmaaGreatDoor
theorem dU {α β:Type}(f:α->β)(u:α->α)(hu:∀x,f (u x)=f x):∀(l:List α) (i:Nat),(l.modify i u).map f=l.map f
 |[],i=>by simp
 |a::l,0=>by simp[hu]
 |a::l,i+1=>by simp[dU f u hu l i]
theorem Pl.zP {p q:Pl}(h:q.fs.map Fr.key=p.fs.map Fr.key)(n:ByteArray)(k:Int):q.find n k=p.find n k:=by
 have e:∀r:Pl,r.find n k=(r.fs.map Fr.key).findIdx? λx=>x.1.toList==n.toList&&decide ((x.2:Int)=k):=by
  intro r
  rw[List.findIdx?_map]
  rfl
 rw[e,e,h]
theorem Pl.ru (p:Pl)(i:Nat):(p.put i).1.fs.map Fr.key=p.fs.map Fr.key:=by
 unfold Pl.put
 split
 ·show (p.fs.modify i Fr.clean).map Fr.key=_
  exact dU Fr.key Fr.clean (λ_=>rfl) _ _
 ·rfl
theorem Pl.iL {n:ByteArray}:∀(l:List Nat) (p:Pl),Pl.aH n (l.filter λk:Nat=>(p.find n k).isSome) p=Pl.aH n l p
 |[],p=>rfl
 |k::l,p=>by
   rw[List.filter_cons]
   cases hf:p.find n k with
   |none=>
     rw[if_neg (by simp),Pl.iL l p]
     conv=>rhs;unfold Pl.aH
     rw[hf]
   |some i=>
     rw[show (some i).isSome=true from rfl,if_pos rfl]
     conv=>lhs;unfold Pl.aH
     conv=>rhs;unfold Pl.aH
     rw[hf]
     simp only
     have e:(l.filter λk:Nat=>(p.find n k).isSome)=l.filter λk:Nat=>((p.put i).1.find n k).isSome:=LM λj _=>by rw[Pl.zP (p.ru i)]
     split
     ·split
      ·rw[e];exact Pl.iL l _
      ·rfl
     ·exact Pl.iL l p
theorem Pl.rM {p:Pl}(hw:p.WF)(hfit:p.Fit){n:ByteArray}(hl:(p.d.len n).2=0):p.aU n=(Lg (p.d.len n).1).filter λk:Nat=>(p.find n k).isSome:=by
 refine lY ?_ ?_ ?_
 ·rw[MQ]
  ·intro k
   unfold Pl.aU
   rw[QG,KZ,K3,List.mem_range]
   constructor
   ·rintro⟨f,hf,rfl⟩
    rw[K3] at hf
    have hn:f.name=n:=iP (by simpa using hf.2)
    obtain⟨i,hi⟩:=KQ.1 hf.1
    refine⟨?_,?_⟩
    ·rw[Dk.wj hl,<-hn];exact hfit f hf.1
    ·rw[<-hn,Pl.find_eq hw hi];rfl
   ·rintro⟨_,h2⟩
    obtain⟨i,hi⟩:=Option.isSome_iff_exists.1 h2
    obtain⟨f,h3,h4,h5⟩:=Pl.eS hi
    exact⟨f,K3.2 ⟨KH h3,by rw[h4];simp⟩,by omega⟩
  ·unfold Pl.aU
   refine(LO _ _).symm.nodup ?_
   have h1:((p.fs.filter λf=>f.name.toList==n.toList).map Fr.key).Nodup:=(O7.map Fr.key).nodup hw.keys
   unfold Pw at h1 ⊢
   rw[MU] at h1 ⊢
   refine QX (λ{a b} ha hb hne e=>hne ?_) h1
   rw[K3] at ha hb
   have e1:a.name=n:=iP (by simpa using ha.2)
   have e2:b.name=n:=iP (by simpa using hb.2)
   unfold Fr.key;rw[e1,e2,e]
  ·exact List.nodup_range.sublist O7
 ·unfold Pl.aU
  have:=Mu (le:=λa b:Nat=>decide (a<=b)) (λ_ _ _ h1 h2=>by simp at*;omega) (λ_ _=>by simp;omega) ((p.fs.filter λf=>f.name.toList==n.toList).map (·.page))
  exact this.imp λh=>by simpa using h
 ·exact(List.pairwise_le_range).sublist O7
theorem Pl.ux {p:Pl}(hw:p.WF)(hfit:p.Fit){n:ByteArray}(hl:(p.d.len n).2=0):Pl.aH n (p.aU n) p=Pl.aH n (Lg (p.d.len n).1) p:=by
 rw[Pl.rM hw hfit hl,Pl.iL]
theorem Pl.eQ (p:Pl)(e:Int):(p.met e).d=p.d/\(p.met e).fs=p.fs/\(p.met e).next=p.next/\(p.met e).most=p.most:=by
 unfold Pl.met;split<;>exact⟨rfl,rfl,rfl,rfl⟩
theorem Pl.C5 (p:Pl)(n:ByteArray)(k:Int):(p.load n k).1=p\/(p.load n k).1=p.room.1:=by
 unfold Pl.load
 split
 ·exact .inl rfl
 ·split
  ·exact .inl rfl
  ·split
   ·exact .inr rfl
   ·split
    ·exact .inr rfl
    ·split<;>exact .inr rfl
theorem Pl.jf (p:Pl)(n:ByteArray)(k:Int):(p.aR n k).1.d.logs<=p.d.logs+1:=by
 unfold Pl.aR
 split
 ·exact Lm _
 ·split
  ·exact Lm _
  ·have h:(p.load n k).1.d.logs<=p.d.logs+1:=by
    rcases p.C5 n k with e|e
    ·rw[e];exact Lm _
    ·rw[e];exact p.jo
   split
   ·rename_i q f e he;rw[he] at h;exact h
   ·rename_i q e he;rw[he] at h;show (q.met e).d.logs<=_;rw[(q.eQ e).1];exact h
theorem Pl.qE (p:Pl)(n:ByteArray):(p.fresh n).1.d.logs<=p.d.logs+2:=by
 have hr:=p.jo
 have hw:=p.room.1.d.rj n (p.d.len n).1 (bA 0 [])
 unfold Pl.fresh
 split
 ·show p.d.logs<=_;omega
 ·split
  ·show (p.met _).d.logs<=_;rw[(p.eQ _).1];omega
  ·split
   ·show (p.room.1.met _).d.logs<=_;rw[(p.room.1.eQ _).1];omega
   ·split
    ·show ((p.room.1.aZ _).met _).d.logs<=_
     rw[((p.room.1.aZ _).eQ _).1]
     show (p.room.1.d.write _ _ _).1.logs<=_;omega
    ·show (p.room.1.d.write _ _ _).1.logs<=_;omega
theorem Pl.iK {n:ByteArray}:∀(l:List Nat) (p:Pl),(Pl.aH n l p).1.d.logs<=p.d.logs+l.length
 |[],p=>KN _
 |k::l,p=>by
   unfold Pl.aH
   have hp:=λi=>p.ku i
   split
   ·rename_i i hi
    have:=hp i
    split
    ·split
     ·have:=Pl.iK (n:=n) l (p.put i).1
      simp only[Ln];omega
     ·simp only[Ln];omega
    ·have:=Pl.iK (n:=n) l p
     simp only[Ln];omega
   ·have:=Pl.iK (n:=n) l p
    simp only[Ln];omega
theorem Pl.C7 (r:Pl×Int):(Pl.out r).1.d=r.1.d:=(r.1.eQ r.2).1
theorem Pl.yb (p:Pl)(n:ByteArray):(p.flush n).1.d.logs<=p.d.logs+p.fs.length:=by
 have h1:=Pl.iK (n:=n) (p.aU n) p
 have h2:=p.kr n
 have h3:=(Pl.aH n (p.aU n) p).1.d.AO n
 unfold Pl.flush
 split
 ·show p.d.logs<=_;omega
 ·split
  ·rw[Pl.C7];show p.d.logs<=_;omega
  ·split
   ·rw[Pl.C7];omega
   ·rw[Pl.C7];show (Dk.sync _ _).1.logs<=_;omega
theorem Pl.rm (p:Pl)(h:Int)(k:UInt8)(b:List UInt8):(p.set h k b).1.d=p.d:=by
 unfold Pl.set
 split
 ·rfl
 ·split
  ·split<;>rfl
  ·rfl
theorem Pl.lL (p:Pl)(h:Int):(p.aB h).1.d=p.d:=by
 unfold Pl.aB
 split
 ·rfl
 ·split<;>rfl
theorem Pl.iQ {n:ByteArray}:∀(l:List Nat) (p:Pl),(Pl.aH n l p).1.next=p.next/\(Pl.aH n l p).1.tick=p.tick
 |[],p=>⟨rfl,rfl⟩
 |k::l,p=>by
   unfold Pl.aH
   split
   ·rename_i i hi
    have:=p.nB i
    split
    ·split
     ·have h:=Pl.iQ (n:=n) l (p.put i).1
      exact⟨h.1.trans this.2.1,h.2.trans this.2.2.1⟩
     ·exact⟨this.2.1,this.2.2.1⟩
    ·exact Pl.iQ l p
   ·exact Pl.iQ l p
theorem Pl.mS (p:Pl)(n:ByteArray):(p.flush n).1.next=p.next:=by
 have h1:=(Pl.iQ (n:=n) (p.aU n) p).1
 unfold Pl.flush
 split
 ·rfl
 ·split
  ·exact(p.eQ _).2.2.1
  ·split
   ·exact((Pl.aH n (p.aU n) p).1.eQ _).2.2.1.trans h1
   ·exact(((Pl.aH n (p.aU n) p).1.aZ _).eQ _).2.2.1.trans h1
theorem Dk.wX {s t:Dk}{i:Nat}{f:Fl}{g:Fl->Fl}(hf:s.files[i]?=some f)(ht:t.files=s.files.modify i g)(hn:(g f).name=f.name)(n:ByteArray):t.idx n=s.idx n:=by
 unfold Dk.idx
 rw[ht]
 have:∀(l:List Fl) (j:Nat),l[j]?=some f->(l.modify j g).findIdx? (λf=>f.name.toList==n.toList)=l.findIdx? (λf=>f.name.toList==n.toList):=by
  intro l
  induction l with
  |nil=>intro j h;simp at h
  |cons a l ih=>
    intro j h
    match j with
    |0=>
      simp at h;subst h
      simp only[List.modify_zero_cons,Pj,hn]
    |j+1=>
      simp only[List.getElem?_cons_succ] at h
      simp only[List.modify_succ_cons,Pj,ih j h]
 exact this s.files i hf
theorem Dk.BE {s:Dk}{n:ByteArray}{k:Int}{b:List UInt8}(h:(s.write n k b).2=0):0<=k/\k.toNat<(s.write n k b).1.size n:=by
 unfold Dk.write at h ⊢
 by_cases hd:s.down=true
 ·rw[if_pos hd] at h;cases h
 rw[if_neg hd] at h ⊢
 by_cases hb:b.length=512
 ·rw[dif_pos hb] at h ⊢
  cases hi:s.idx n with
  |none=>rw[hi] at h;cases h
  |some i=>
    rw[hi] at h
    simp only at h ⊢
    by_cases hk:k<0\/k>(s.file i).au.length
    ·rw[if_pos hk] at h;cases h
    rw[if_neg hk] at h ⊢
    by_cases hq:k=(s.file i).au.length/\s.used>=s.quota
    ·rw[if_pos hq] at h;cases h
    rw[if_neg hq] at h ⊢
    unfold Dk.step at h ⊢
    by_cases hc:s.change.2=0
    ·rw[if_pos hc]
     refine⟨by omega,?_⟩
     obtain⟨f,hf,_⟩:=Dk.cY hi
     have hf2:s.change.1.files[i]?=some f:=by rw[s.bc];exact hf
     have hix:s.change.1.idx n=some i:=by unfold Dk.idx at hi ⊢;rw[s.bc];exact hi
     obtain⟨w,hw⟩:∃w:Wr,w=⟨s.change.1.next,k.toNat,⟨b,hb⟩⟩:=⟨_,rfl⟩
     simp only[<-hw]
     obtain⟨t,ht⟩:∃t:Dk,t=(s.change.1.ff i w).gk (max s.change.1.most (s.change.1.ff i w).used):=⟨_,rfl⟩
     rw[<-ht]
     have htf:t.files=s.change.1.files.modify i λf=>{f with log:=f.log++[w]}:=by rw[ht];rfl
     have h2:=Dk.wX (g:=λf=>{f with log:=f.log++[w]}) hf2 htf rfl n
     have h3:t.files[i]?=some {f with log:=f.log++[w]}:=by rw[htf];exact bo hf2
     unfold Dk.size
     rw[h2,hix]
     simp only
     rw[Dk.dd h3,Fl.mP,ct,hw]
     show k.toNat<max _ (k.toNat+1)
     omega
    ·rw[if_neg hc] at h;exact absurd h hc
 ·rw[dif_neg hb] at h;cases h
theorem Dk.Ga {s:Dk}{n:ByteArray}{k:Int}(h:(s.read n k).2=0):0<=k/\k.toNat<s.size n:=by
 unfold Dk.read Dk.open at h
 unfold Dk.size
 by_cases hd:s.down=true
 ·rw[if_pos hd] at h;cases h
 rw[if_neg hd] at h
 cases hi:s.idx n with
 |none=>rw[hi] at h;cases h
 |some i=>
   rw[hi] at h
   simp only at h ⊢
   by_cases hk:k<0
   ·rw[if_pos hk] at h;cases h
   rw[if_neg hk] at h
   refine⟨by omega,?_⟩
   rcases Lr k.toNat (s.file i).au.length with q|q
   ·exact q
   ·rw[List.getElem?_eq_none q] at h;cases h
theorem Db {l r:List Fr}(h:l.map Fr.key=r.map Fr.key):∀f∈l,∃f'∈r,f'.key=f.key:=by
 intro f hf
 have:f.key∈r.map Fr.key:=by rw[<-h];exact List.mem_map_of_mem hf
 obtain⟨f',h1,h2⟩:=KZ.1 this
 exact⟨f',h1,h2⟩
theorem Pl.Fit.keys {s t:Pl}(h:s.Fit)(hd:s.d.eR t.d)(hk:t.fs.map Fr.key=s.fs.map Fr.key):t.Fit:=h.grow hd (Db hk)
theorem Pl.Fit.met {s:Pl}(h:s.Fit)(e:Int):(s.met e).Fit:=by
 have:=s.eQ e
 intro f hf
 rw[this.2.1] at hf
 rw[this.1]
 exact h f hf
theorem Pl.Fit.room {s:Pl}(h:s.Fit):s.room.1.Fit:=h.grow s.xJ s.tk
theorem Pl.Fit.dE {s:Pl}(h:s.Fit)(i:Nat):(s.dE i).Fit:=h.keys (.refl _) (dU Fr.key (Fr.aR s.next) (λ_=>rfl) _ _)
theorem Pl.Fit.take {s:Pl}{f:Fr}(h:s.Fit)(hf:f.page<s.d.size f.name):(s.take f).Fit:=by
 refine Pl.Fit.dE ?_ s.fs.length
 intro g hg
 rcases KW.1 (show g∈s.fs++[f] from hg) with q|q
 ·exact h g q
 ·simp at q;subst q;exact hf
theorem Pl.mq (s:Pl)(n:ByteArray)(k:Int):(∃e,s.load n k=(s,none,e))\/(∃e,s.load n k=(s.room.1,none,e))\/∃f,s.load n k=(s.room.1,some f,0)/\f.name=n/\(f.page:Int)=k/\(s.room.1.d.read n k).2=0:=by
 unfold Pl.load
 split
 ·exact .inl ⟨_,rfl⟩
 ·split
  ·exact .inl ⟨_,rfl⟩
  ·rename_i hk
   split
   ·exact .inr (.inl ⟨_,rfl⟩)
   ·split
    ·exact .inr (.inl ⟨_,rfl⟩)
    ·rename_i hr
     split
     ·exact .inr (.inl ⟨_,rfl⟩)
     ·exact .inr (.inr ⟨_,rfl,rfl,by show ((k.toNat:Nat):Int)=k;omega,by simpa using hr⟩)
theorem Pl.Fit.aR {s:Pl}(h:s.Fit)(n:ByteArray)(k:Int):(s.aR n k).1.Fit:=by
 unfold Pl.aR
 split
 ·exact h
 ·split
  ·exact h.dE _
  ·rcases s.mq n k with ⟨e,he⟩|⟨e,he⟩|⟨f,he,h1,h2,h3⟩
   ·rw[he];exact h.met e
   ·rw[he];exact h.room.met e
   ·rw[he]
    refine h.room.take ?_
    have:=(Dk.Ga h3).2
    rw[h1];omega
theorem Pl.Fit.fresh {s:Pl}(h:s.Fit)(n:ByteArray):(s.fresh n).1.Fit:=by
 unfold Pl.fresh
 split
 ·exact h
 ·split
  ·exact h.met _
  ·split
   ·exact h.room.met _
   ·have h2:(s.room.1.aZ (s.room.1.d.write n (s.d.len n).1 (bA 0 [])).1).Fit:=h.room.keys (s.room.1.d.pr _ _ _) rfl
    split
    ·exact h2.met _
    ·rename_i hw
     refine h2.take ?_
     exact(Dk.BE (show (s.room.1.d.write n (s.d.len n).1 (bA 0 [])).2=0 by simpa using hw)).2
theorem Pl.Fit.set {s:Pl}(h:s.Fit)(c:Int)(k:UInt8)(b:List UInt8):(s.set c k b).1.Fit:=by
 unfold Pl.set
 split
 ·exact h
 ·split
  ·split
   ·exact h
   ·exact h.keys (.refl _) (dU Fr.key (Fr.set k b) (λ_=>rfl) _ _)
  ·exact h
theorem Pl.Fit.aB {s:Pl}(h:s.Fit)(c:Int):(s.aB c).1.Fit:=by
 unfold Pl.aB
 split
 ·exact h
 ·split
  ·exact h.keys (.refl _) (dU Fr.key (Fr.aB c _) (λ_=>rfl) _ _)
  ·exact h
theorem Pl.Fit.put {s:Pl}(h:s.Fit)(i:Nat):(s.put i).1.Fit:=h.keys (s.ot i) (s.ru i)
theorem Pl.Fit.aH {n:ByteArray}:∀(l:List Nat) {s:Pl},s.Fit->(Pl.aH n l s).1.Fit
 |[],_,h=>h
 |k::l,s,h=>by
   unfold Pl.aH
   split
   ·split
    ·split
     ·exact Pl.Fit.aH l (h.put _)
     ·exact h.put _
    ·exact Pl.Fit.aH l h
   ·exact Pl.Fit.aH l h
theorem Pl.Fit.out {r:Pl×Int}(h:r.1.Fit):(Pl.out r).1.Fit:=h.met _
theorem Pl.Fit.flush {s:Pl}(h:s.Fit)(n:ByteArray):(s.flush n).1.Fit:=by
 have h1:=Pl.Fit.aH (n:=n) (s.aU n) h
 unfold Pl.flush
 split
 ·exact h
 ·split
  ·exact Pl.Fit.out h
  ·split
   ·exact Pl.Fit.out h1
   ·refine Pl.Fit.out ?_
    exact h1.keys (Dk.w6 _ _) rfl
theorem Pl.Fit.aZ {s:Pl}(h:s.Fit){d:Dk}(hd:s.d.eR d):(s.aZ d).Fit:=h.keys hd rfl
theorem qP {x:Int}(h0:0<=x)(h1:x<1099511627776):da (x+1)=x+1:=by unfold da;exact wrap64 (by omega) (by omega)
theorem Pl.q8 (s:Pl)(i:Nat)(h0:0<=s.next)(h1:s.next<1099511627776):(s.dE i).next=s.next+1:=qP h0 h1
theorem Pl.lu (s:Pl)(f:Fr)(h0:0<=s.next)(h1:s.next<1099511627776):(s.take f).next=s.next+1:=qP h0 h1
theorem Pl.jb {s:Pl}{n:ByteArray}{k:Int}(h0:0<=s.next)(h1:s.next<1099511627776):(s.aR n k).1.next<=s.next+1:=by
 unfold Pl.aR
 split
 ·show s.next<=_;omega
 ·split
  ·rw[Pl.q8 s _ h0 h1];omega
  ·rcases s.mq n k with ⟨e,he⟩|⟨e,he⟩|⟨f,he,_⟩
   ·rw[he];show (s.met e).next<=_;rw[(s.eQ e).2.2.1];omega
   ·rw[he];show (s.room.1.met e).next<=_;rw[(s.room.1.eQ e).2.2.1,s.bJ.2.1];omega
   ·rw[he];show (s.room.1.take f).next<=_;rw[Pl.lu _ _ (by rw[s.bJ.2.1];exact h0) (by rw[s.bJ.2.1];exact h1),s.bJ.2.1];omega
theorem Pl.jM {s:Pl}{n:ByteArray}(h0:0<=s.next)(h1:s.next<1099511627776):(s.fresh n).1.next<=s.next+1:=by
 have hr:=s.bJ.2.1
 unfold Pl.fresh
 split
 ·show s.next<=_;omega
 ·split
  ·show (s.met _).next<=_;rw[(s.eQ _).2.2.1];omega
  ·split
   ·show (s.room.1.met _).next<=_;rw[(s.room.1.eQ _).2.2.1,hr];omega
   ·split
    ·show ((s.room.1.aZ _).met _).next<=_
     rw[((s.room.1.aZ _).eQ _).2.2.1]
     show s.room.1.next<=_;rw[hr];omega
    ·show ((s.room.1.aZ _).take _).next<=_
     rw[Pl.lu _ _ (by show 0<=s.room.1.next;rw[hr];exact h0) (by show s.room.1.next<_;rw[hr];exact h1)]
     show s.room.1.next+1<=_;rw[hr];omega
theorem Pl.iu (s:Pl)(c:Int)(k:UInt8)(b:List UInt8):(s.set c k b).1.next=s.next:=by
 unfold Pl.set
 split
 ·rfl
 ·split
  ·split<;>rfl
  ·rfl
theorem Pl.jE (s:Pl)(c:Int):(s.aB c).1.next=s.next:=by
 unfold Pl.aB
 split
 ·rfl
 ·split<;>rfl
def Pl.leave (r:Pl×Int)(h:Int):Pl×Int:=if r.2=0 then r.1.aB h else r
def Pl.more (p:Pl)(n:ByteArray)(k:UInt8)(b:List UInt8):Pl×Int:=
 if (p.fresh n).2.2.2≠0 then ((p.fresh n).1,(p.fresh n).2.2.2)
 else Pl.leave (if k=0 then ((p.fresh n).1,0) else (p.fresh n).1.set (p.fresh n).2.1 k b) (p.fresh n).2.1
def Pl.look (p:Pl)(n:ByteArray)(g:Int):Pl×UInt8×List UInt8×Int:=
 if (p.aR n g).2.2≠0 then ((p.aR n g).1,0,[],(p.aR n g).2.2)
 else if ((p.aR n g).1.get (p.aR n g).2.1).2.2≠0 then ((p.aR n g).1,(p.aR n g).1.get (p.aR n g).2.1)
 else (((p.aR n g).1.aB (p.aR n g).2.1).1,((p.aR n g).1.get (p.aR n g).2.1).1,((p.aR n g).1.get (p.aR n g).2.1).2.1,((p.aR n g).1.aB (p.aR n g).2.1).2)
theorem qv {p:List UInt8}{k:UInt8}{b:List UInt8}(h:ez p=some (k,b)):b.length<=504:=by
 unfold ez at h
 split at h
 ·rename_i hc
  cases h
  have hl:=hc.1
  rw[M8]
  omega
 ·cases h
theorem Pl.WF.flush {p:Pl}(h:p.WF)(n:ByteArray):(p.flush n).1.WF:=by
 unfold Pl.flush
 split
 ·exact h
 split
 ·exact h.met _
 split
 ·exact(Pl.WF.aH _ h).met _
 ·exact((Pl.WF.aH _ h).aZ _).met _
structure Calm (p:Pl)(n:ByteArray)(N q:Nat)(T:Nat->UInt8×List UInt8):Prop where
 told:∃pg,Told p n N q T pg
 wf:p.WF
 free:∀f∈p.fs,f.pins=[]
section
variable {p:Pl}{n:ByteArray}{N q:Nat}{T:Nat->UInt8×List UInt8}
theorem Calm.roomy (h:Calm p n N q T):p.fs.length<p.most\/∃g∈p.fs,g.pins=[]:=by
 by_cases hl:p.fs.length<p.most
 ·exact .inl hl
 ·right
  have:=h.wf.most
  match hf:p.fs with
  |[]=>rw[hf] at hl;simp at hl;omega
  |f::_=>exact⟨f,KV,h.free f (by rw[hf];exact KV)⟩
theorem Calm.len (h:Calm p n N q T):p.d.len n=(N,0):=by obtain⟨_,t⟩:=h.told;rw[t.ba.len,t.len]
theorem Calm.fit (h:Calm p n N q T):p.Fit:=by obtain⟨_,t⟩:=h.told;exact t.fit
theorem Calm.back {l:List Fr}{f:Fr}{x:Int}(hw:p.WF)(ht:∃pg,Told p n N q T pg)(hf:p.fs=l++[f])(hx:f.pins=[x])(hl:∀g∈l,g.pins=[])(hn:p.next<9223372036854775807):
  (p.aB x).2=0/\Calm (p.aB x).1 n N q T/\(p.aB x).1.next=p.next/\(p.aB x).1.most=p.most:=by
 obtain⟨pg,t⟩:=ht
 have hi:p.fs[l.length]?=some f:=by rw[hf];simp
 obtain⟨u1,u2⟩:=t.aB hw hi (x:=x) (by rw[hx];simp)
 refine⟨by rw[u1],⟨⟨pg,u2⟩,hw.aB x hn,?_⟩,by rw[u1],by rw[u1]⟩
 rw[u1]
 intro g hg
 have hg:g∈p.fs.modify l.length (Fr.aB x (da (p.tick+1))):=hg
 rw[hf,kz] at hg
 rcases KW.1 hg with r|r
 ·exact hl g r
 ·simp at r;subst r
  simp[Fr.aB,hx]
theorem Told.BI {pg:List Pg}(h:Told p n N q T pg)(hw:p.WF)(hg:p.fs.length<p.most\/∃g∈p.fs,g.pins=[])(hN:N<q)(hb:N<1048577)(hs:n.size<=9223372036854775807)(hx:p.next<9223372036854775807):(p.fresh n).1.WF:=by
 obtain⟨h1,⟨pg1,h2⟩,h3,_⟩:=h.roomy hw hg
 have hs5:(bA 0 []).length=512:=fC (by simp)
 obtain⟨w1,w2,w3⟩:=h2.ba.write (k:=N) hs5 (by rw[h2.len];omega) (by rw[h2.len];intro _;exact hN)
 have hrs:=p.bJ
 have hlen:p.d.len n=(N,0):=by rw[h.ba.len,h.len]
 have e:p.fresh n=((p.room.1.aZ (p.room.1.d.write n (N:Int) (bA 0 [])).1).take ⟨n,N,0,[],false,[],0⟩,p.room.1.next,(N:Int),0):=by
  unfold Pl.fresh
  rw[if_neg (by rw[h.wrong];simp),hlen]
  simp only
  rw[if_neg (by simp),if_neg (by rw[h1];simp),if_neg (by rw[w1];simp)]
 rw[e]
 obtain⟨v1,v2⟩:=hw.oG
 have hno:p.room.1.find n (N:Int)=none:=by
  have:=h2.fit.new (n:=n) (by rw[h2.ba.len])
  rw[h2.ba.len,h2.len] at this;exact this
 exact(v1.aZ _).take (by show p.room.1.fs.length<p.room.1.most;rw[hrs.1];exact v2 h1) (by show p.room.1.next<_;rw[hrs.2.1];exact hx) hno (by simp) hb hs rfl rfl
theorem Calm.more (h:Calm p n N q T)(hN:N<q)(hq:q<=1048576)(hs:n.size<=9223372036854775807)(h0:0<=p.next)(h1:p.next<1099511627776){k:UInt8}{b:List UInt8}(hb:b.length<=504):
  (p.more n k b).2=0/\Calm (p.more n k b).1 n (N+1) q (lO T N (if k=0 then (0,[]) else (k,b)))/\(p.more n k b).1.next=p.next+1/\(p.more n k b).1.most=p.most:=by
 obtain⟨pg,t⟩:=h.told
 obtain⟨r1,r2,r3,r4,_,_,pg',r6⟩:=t.fresh h.wf h.roomy hN
 obtain⟨_,_,hsub,_⟩:=t.roomy h.wf h.roomy
 have hfree:∀g∈p.room.1.fs,g.pins=[]:=λg hg=>h.free g (hsub g hg)
 have hnx:(p.fresh n).1.next=p.next+1:=by rw[r3];exact qP h0 h1
 have hwf:(p.fresh n).1.WF:=t.BI h.wf h.roomy hN (by omega) hs (by omega)
 generalize p.room.1.fs=l at r2 hfree
 unfold Pl.more
 rw[r1]
 generalize (p.fresh n).1=s at*
 simp only
 rw[if_neg (by simp)]
 have hi:s.fs[l.length]?=some ⟨n,N,0,[],false,[p.next],0⟩:=by rw[r2];simp
 by_cases hk:k=0
 ·subst hk
  rw[if_pos rfl,if_pos rfl]
  obtain⟨b1,b2,b3,b4⟩:=Calm.back hwf ⟨pg',r6⟩ r2 rfl hfree (by omega)
  exact⟨b1,b2,by rw[<-hnx];exact b3,b4.trans r4⟩
 ·rw[if_neg hk,if_neg hk]
  obtain⟨s1,s2⟩:=r6.set hwf hi (x:=p.next) (k:=k) (b:=b) (by simp) hb
  have hw2:=hwf.set p.next k b
  rw[s1] at hw2 ⊢
  have e2:(s.bf l.length (Fr.set k b)).fs=l++[⟨n,N,k,b,true,[p.next],0⟩]:=by
   show s.fs.modify _ _=_
   rw[r2,kz];rfl
  have et:lO (lO T N (0,[])) N (k,b)=lO T N (k,b):=by
   funext j
   by_cases e:j=N
   ·subst e;rw[cw,cw]
   ·rw[ck e,ck e,ck e]
  have s2':Told (s.bf l.length (Fr.set k b)) n (N+1) q (lO (lO T N (0,[])) N (k,b)) pg':=s2
  rw[et] at s2'
  obtain⟨b1,b2,b3,b4⟩:=Calm.back (x:=p.next) hw2 ⟨pg',s2'⟩ e2 rfl hfree (by show s.next<_;omega)
  exact⟨b1,b2,b3.trans hnx,b4.trans r4⟩
theorem Calm.oV (h:Calm p n N q T)(hN:N=q){k:UInt8}{b:List UInt8}:(p.more n k b).2=5:=by
 obtain⟨pg,t⟩:=h.told
 obtain⟨h1,⟨pg1,h2⟩,h3,_⟩:=t.roomy h.wf h.roomy
 have hs5:(bA 0 []).length=512:=fC (by simp)
 obtain⟨f,a1,a2,a3,a4⟩:=h2.ba.at
 have hwr:(p.room.1.d.write n (N:Int) (bA 0 [])).2=5:=by
  unfold Dk.write
  rw[if_neg (by rw[h2.ba.up];simp),dif_pos hs5,h2.ba.idx]
  simp only[h2.ba.au]
  rw[if_neg (by rw[h2.len];omega),if_pos (by rw[h2.ba.used,h2.ba.quota,h2.len];omega)]
 have e:(p.fresh n).2.2.2=5:=by
  unfold Pl.fresh
  rw[if_neg (by rw[t.wrong];simp),h.len]
  simp only
  rw[if_neg (by simp),if_neg (by rw[h1];simp),if_pos (by rw[hwr];decide)]
  exact hwr
 unfold Pl.more
 rw[if_pos (by rw[e];decide)]
 exact e
theorem Calm.aR (h:Calm p n N q T)(hq:q<=1048576)(hs:n.size<=9223372036854775807)(h0:0<=p.next)(h1:p.next<1099511627776){k:Nat}(hk:k<N)(hNq:N<=q):
  (p.aR n k).2=(p.next,0)/\(p.aR n k).1.WF/\(∃pg,Told (p.aR n k).1 n N q T pg)/\(p.aR n k).1.next=p.next+1/\(p.aR n k).1.most=p.most/\
  ∃(i:Nat) (f:Fr),(p.aR n k).1.fs[i]?=some f/\f.pins=[p.next]/\f.page=k/\∀j g,j≠i->(p.aR n k).1.fs[j]?=some g->g.pins=[]:=by
 obtain⟨pg,t⟩:=h.told
 have hnx:da (p.next+1)=p.next+1:=qP h0 h1
 cases hi:p.find n (k:Int) with
 |some i=>
   obtain⟨f,hf,hfn,hfk⟩:=Pl.eS hi
   obtain⟨r1,r2⟩:=t.DQ hi hf
   rw[r1]
   refine⟨rfl,h.wf.dE hf (by omega),⟨pg,r2⟩,hnx,rfl,i,Fr.aR p.next f,bo hf,?_,by show f.page=k;omega,λj g hj hg=>?_⟩
   ·show f.pins++[p.next]=_
    rw[h.free f (KH hf)];rfl
   ·have hg:(p.fs.modify i (Fr.aR p.next))[j]?=some g:=hg
    rw[bq (λe=>hj e.symm)] at hg
    exact h.free g (KH hg)
 |none=>
   obtain⟨r1,r2,r3,r4,pg',r5⟩:=t.zi h.wf hi hk h.roomy
   obtain⟨z1,⟨pg1,z2⟩,hsub,_⟩:=t.roomy h.wf h.roomy
   have hwf:(p.aR n k).1.WF:=by
    obtain⟨v1,v2⟩:=h.wf.oG
    have hrs:=p.bJ
    have hno:∀g∈p.room.1.fs,g.page≠k:=λg hgm e=>Pl.fX hi g (hsub g hgm) (z2.mine g hgm).1 (by omega)
    obtain⟨b,hb⟩:∃b,pg1[k]?=some b:=⟨_,KJ (by rw[z2.len];exact hk)⟩
    have ho:=z2.rest k b hb λg hgm e=>absurd e (hno g hgm)
    have el:p.load n k=(p.room.1,some ⟨n,k,(T k).1,(T k).2,false,[],0⟩,0):=by
     unfold Pl.load
     rw[h.len]
     simp only
     rw[if_neg (by simp),if_neg (by omega),if_neg (by rw[z1];simp),z2.ba.read hb]
     simp only
     rw[if_neg (by simp),ho]
     simp
    have e:p.aR n k=(p.room.1.take ⟨n,k,(T k).1,(T k).2,false,[],0⟩,p.room.1.next,0):=by
     unfold Pl.aR
     rw[if_neg (by rw[t.wrong];simp),hi,el]
    have hlen5:(T k).2.length<=504:=qv ho
    have hfind:p.room.1.find n (k:Int)=none:=by
     unfold Pl.find
     rw[List.findIdx?_eq_none_iff]
     intro g hg
     have:=hno g hg
     have:¬((g.page:Int)=(k:Int)):=by omega
     simp[this]
    rw[e]
    exact v1.take (by rw[hrs.1];exact v2 z1) (by rw[hrs.2.1];omega) hfind hlen5 (by simp only;omega) hs rfl rfl
   refine⟨r1,hwf,⟨pg',r5⟩,r3.trans hnx,r4,p.room.1.fs.length,_,by rw[r2];simp;rfl,rfl,rfl,λj g hj hg=>?_⟩
   rw[r2] at hg
   rcases Lr j p.room.1.fs.length with hlt|hge
   ·rw[K9 hlt] at hg
    exact h.free g (hsub g (KH hg))
   ·rw[LR hge] at hg
    have:j - p.room.1.fs.length≠0:=by omega
    obtain⟨m,hm⟩:∃m,j - p.room.1.fs.length=m+1:=⟨_,(Nat.succ_pred_eq_of_ne_zero this).symm⟩
    rw[hm] at hg;simp at hg
theorem Calm.I7 (hw:p.WF)(ht:∃pg,Told p n N q T pg){i:Nat}{f:Fr}{x:Int}(hf:p.fs[i]?=some f)(hx:f.pins=[x])(hl:∀j g,j≠i->p.fs[j]?=some g->g.pins=[])(hn:p.next<9223372036854775807):
  (p.aB x).2=0/\Calm (p.aB x).1 n N q T/\(p.aB x).1.next=p.next/\(p.aB x).1.most=p.most:=by
 obtain⟨pg,t⟩:=ht
 obtain⟨u1,u2⟩:=t.aB hw hf (x:=x) (by rw[hx];simp)
 refine⟨by rw[u1],⟨⟨pg,u2⟩,hw.aB x hn,?_⟩,by rw[u1],by rw[u1]⟩
 rw[u1]
 intro g hg
 obtain⟨j,hj⟩:=KQ.1 hg
 have hj:(p.fs.modify i (Fr.aB x (da (p.tick+1))))[j]?=some g:=hj
 by_cases e:i=j
 ·subst e
  rw[bo hf] at hj
  cases hj;simp[Fr.aB,hx]
 ·rw[bq e] at hj
  exact hl j g (λq=>e q.symm) hj
theorem Calm.look (h:Calm p n N q T)(hq:q<=1048576)(hs:n.size<=9223372036854775807)(h0:0<=p.next)(h1:p.next<1099511627776){k:Nat}(hk:k<N)(hNq:N<=q):
  (p.look n k).2=((T k).1,(T k).2,0)/\Calm (p.look n k).1 n N q T/\(p.look n k).1.next=p.next+1/\(p.look n k).1.most=p.most:=by
 obtain⟨r1,r2,r3,r4,r5,i,f,r6,r7,r8,r9⟩:=h.aR hq hs h0 h1 hk hNq
 unfold Pl.look
 rw[r1]
 generalize (p.aR n k).1=s at*
 obtain⟨pg,t⟩:=r3
 have g1:=t.get r2 (x:=p.next) (KH r6) (by rw[r7];simp)
 obtain⟨b1,b2,b3,b4⟩:=Calm.I7 r2 ⟨pg,t⟩ r6 r7 r9 (by omega)
 simp only
 rw[if_neg (by simp),g1]
 simp only
 rw[if_neg (by simp),b1,r8]
 exact⟨rfl,b2,b3.trans r4,b4.trans r5⟩
theorem Calm.bf (h:Calm p n N q T)(hq:q<=1048576)(hs:n.size<=9223372036854775807)(h0:0<=p.next)(h1:p.next<1099511627776){k:Nat}(hk:k<N)(hNq:N<=q){kd:UInt8}{b:List UInt8}(hb:b.length<=504):
  (p.aR n k).2=(p.next,0)/\(Pl.leave ((p.aR n k).1.set p.next kd b) p.next).2=0/\Calm (Pl.leave ((p.aR n k).1.set p.next kd b) p.next).1 n N q (lO T k (kd,b))/\
  (Pl.leave ((p.aR n k).1.set p.next kd b) p.next).1.next=p.next+1/\(Pl.leave ((p.aR n k).1.set p.next kd b) p.next).1.most=p.most:=by
 obtain⟨r1,r2,r3,r4,r5,i,f,r6,r7,r8,r9⟩:=h.aR hq hs h0 h1 hk hNq
 refine⟨r1,?_⟩
 generalize (p.aR n k).1=s at*
 obtain⟨pg,t⟩:=r3
 obtain⟨s1,s2⟩:=t.set r2 r6 (x:=p.next) (k:=kd) (b:=b) (by rw[r7];simp) hb
 have hw2:=r2.set p.next kd b
 rw[s1] at hw2 ⊢
 rw[r8] at s2
 have e1:Pl.leave (s.bf i (Fr.set kd b),0) p.next=(s.bf i (Fr.set kd b)).aB p.next:=if_pos rfl
 rw[e1]
 have e6:(s.bf i (Fr.set kd b)).fs[i]?=some (Fr.set kd b f):=bo r6
 obtain⟨b1,b2,b3,b4⟩:=Calm.I7 (x:=p.next) hw2 ⟨pg,s2⟩ e6 (by simpa[Fr.set] using r7) (λj g hj hg=>r9 j g hj (by
  have hg:(s.fs.modify i (Fr.set kd b))[j]?=some g:=hg
  rw[bq (λe=>hj e.symm)] at hg;exact hg)) (by show s.next<_;omega)
 exact⟨b1,b2,b3.trans r4,b4.trans r5⟩
theorem Calm.flush (h:Calm p n N q T):
  (p.flush n).2=0/\Calm (p.flush n).1 n N q T/\(p.flush n).1.most=p.most/\∃f,(p.flush n).1.d.files=[f]/\f.name=n/\f.log=[]/\f.synced.length=N/\∀(k:Nat) (b:Pg),f.synced[k]?=some b->ez b.1=some (T k):=by
 obtain⟨pg,t⟩:=h.told
 obtain⟨r1,⟨pg',r2,f,r3,r4,r5,r6⟩,r7,r8,r9⟩:=t.flush h.wf
 refine⟨r1,⟨⟨pg',r2⟩,h.wf.flush n,λg hg=>?_⟩,r9,f,r3,r4,r6,by rw[r5];exact r2.len,λk b hk=>?_⟩
 ·rw[r7] at hg
  obtain⟨g',h1,rfl⟩:=KZ.1 hg
  exact h.free g' h1
 ·rw[r5] at hk
  refine r2.rest k b hk λg hg _=>?_
  rw[r7] at hg
  obtain⟨g',h1,rfl⟩:=KZ.1 hg
  rfl
end
theorem pj {a b:Sl}{la lb:List Int}{H:Heap}{K:Bool->Heap->Prop}(ha:Ints .u64 H a la)(hb:Ints .u64 H b lb)(hlen:la.length<4611686018427387904)(hK:K (decide (la=lb)) H):Ei.sp a b H K:=by
 refine Ei.of ?_
 unfold Ei.vc
 have la1:=ha.len
 have lb1:=hb.len
 refine ae (λh=>?_) (λh=>?_)
 ·have h1:la≠lb:=by intro e;subst e;simp[la1,lb1] at h
  simpa[h1] using hK
 ·have h':(a.n:Int)=(b.n:Int):=by simpa using h
  have hl:la.length=lb.length:=by omega
  refine⟨Nat,λk i H'=>i=(k:Int)/\k<=la.length/\H'=H/\la.take k=lb.take k,λk=>la.length - k,⟨0,rfl,Lh _,rfl,by simp⟩,?_⟩
  rintro k i H' ⟨rfl,hk,rfl,ht⟩
  refine ae (λh1=>?_) (λh1=>?_)
  ·have h1':(k:Int)<(a.n:Int):=by simpa using h1
   have hlt:k<la.length:=by omega
   refine ha.ld (by omega) (by omega) λad1 e1=>?_
   refine hb.ld (by omega) (by omega) λad2 e2=>?_
   simp only[KU]
   refine ae (λh2=>?_) (λh2=>?_)
   ·have h3:la≠lb:=by intro e;subst e;simp at h2
    simpa[h3] using hK
   ·refine⟨k+1,⟨by rw[wrap64 (by omega) (by omega)];omega,by omega,by trivial,?_⟩,by omega⟩
    rw[KP hlt,KP (by omega:k<lb.length),ht]
    have:la[k]'hlt=lb[k]'(by omega):=by simpa[Lo,KJ hlt,KJ (by omega:k<lb.length)] using h2
    rw[this]
  ·have h1':¬((k:Int)<(a.n:Int)):=by simpa using h1
   have hge:k=la.length:=by omega
   subst hge
   have h2:la=lb:=by rw[KT (KN _),KT (by omega)] at ht;exact ht
   simpa[h2] using hK
theorem xp {a b:Sl}{la lb:List Int}{H:Heap}{K:Bool->Heap->Prop}(ha:Ints .u64 H a la)(hb:Ints .u64 H b lb)(hlen:la.length<1099511627776)(hK:K (decide (la=lb)) H):Ei.sp a b H K:=pj ha hb (by omega) hK
theorem pk:El KE lU eL 8 (.int .u64 0):=zG (zb:=qx .u64) oD rfl (by kernel_rfl)
theorem HD:El KE dM dF 1 (.int .u8 0):=zG (zb:=qx .u8) oD rfl (by kernel_rfl)
theorem GY:El KE rC lU 24 (.slice none 0 0):=zG (zb:=Ce) CA rfl (by kernel_rfl)
def bz:List Int->List Int->Int
 |[],[]=>0
 |[],_::_=>-1
 |_::_,[]=>1
 |x::a,y::b=>if x<y then -1 else if y<x then 1 else bz a b
theorem sh:∀{a b:List Int},bz a b=0↔a=b
 |[],[]=>by simp[bz]
 |[],_::_=>by simp[bz]
 |_::_,[]=>by simp[bz]
 |x::a,y::b=>by
   unfold bz
   have ih:=@sh a b
   split
   ·simp;intro h;omega
   ·split
    ·simp;intro h;omega
    ·rw[ih];simp;intro;omega
theorem sZ:∀(a b:List Int),bz b a=- bz a b
 |[],[]=>by simp[bz]
 |[],_::_=>by simp[bz]
 |_::_,[]=>by simp[bz]
 |x::a,y::b=>by
   have ih:=sZ a b
   simp only[bz]
   split
   ·rw[if_neg (by omega)];try rfl
   ·split
    ·rfl
    ·exact ih
theorem drop_cons {l:List Int}{k:Nat}(h:k<l.length):l.drop k=l.getD k 0::l.drop (k+1):=by
 rw[MW h];simp[Lo,KJ h]
theorem lC {a b:Sl}{la lb:List Int}{H:Heap}{K:Int->Heap->Prop}(ha:Ints .u64 H a la)(hb:Ints .u64 H b lb)(hlen:la.length<1099511627776)(hK:K (bz la lb) H):BD.sp a b H K:=by
 refine BD.of ?_
 unfold BD.vc
 have la1:=ha.len
 have lb1:=hb.len
 refine ay la.length (λk i H'=>i=(k:Int)/\k<=lb.length/\H'=H/\bz la lb=bz (la.drop k) (lb.drop k)) ⟨rfl,Lh _,rfl,by simp⟩ ?_
 rintro k i H' next hk ⟨rfl,hkb,rfl,hc⟩ hnext
 refine ae (λh=>?_) (λh=>?_)
 ·simp only[KR,decide_eq_true_eq] at h
  have h1:k<la.length:=by omega
  have h2:k<lb.length:=by omega
  rw[drop_cons h1,drop_cons h2,bz] at hc
  refine ha.ld (by omega) (by omega) λad1 e1=>?_
  refine hb.ld (by omega) (by omega) λad2 e2=>?_
  simp only[KU]
  refine ae (λh3=>?_) (λh3=>?_)
  ·have h3':la.getD k 0<lb.getD k 0:=by simpa using h3
   rw[if_pos h3'] at hc;rw[<-hc];exact hK
  ·have h3':¬la.getD k 0<lb.getD k 0:=by simpa using h3
   rw[if_neg h3'] at hc
   refine ha.ld (by omega) (by omega) λad3 e3=>?_
   refine hb.ld (by omega) (by omega) λad4 e4=>?_
   simp only[KU]
   refine ae (λh4=>?_) (λh4=>?_)
   ·have h4':lb.getD k 0<la.getD k 0:=by simpa using h4
    rw[if_pos h4'] at hc;rw[<-hc];exact hK
   ·have h4':¬lb.getD k 0<la.getD k 0:=by simpa using h4
    rw[if_neg h4'] at hc
    exact hnext h1 _ _ ⟨by rw[aI k (by omega)],h2,rfl,hc⟩
 ·have h':la.length<=k\/lb.length<=k:=by
   simp only[Bool.and_eq_false_iff,decide_eq_false_iff_not] at h
   omega
  have e:bz la lb=if la.length<lb.length then -1 else if la.length>lb.length then 1 else 0:=by
   rw[hc]
   rcases h' with h'|h'
   ·rw[LK h']
    cases hd:lb.drop k with
    |nil=>
      have:=Rl.1 hd
      rw[if_neg (by omega),if_neg (by omega)];rfl
    |cons y r=>
      have:=MK (i:=k) (l:=lb)
      rw[hd] at this;simp at this
      rw[if_pos (by omega)];rfl
   ·rw[LK h']
    cases hd:la.drop k with
    |nil=>
      have:=Rl.1 hd
      rw[if_neg (by omega),if_neg (by omega)];rfl
    |cons y r=>
      have:=MK (i:=k) (l:=la)
      rw[hd] at this;simp at this
      rw[if_neg (by omega),if_pos (by omega)];rfl
  rw[e] at hK
  refine ae (λh3=>?_) (λh3=>?_)
  ·rw[if_pos (by simp at h3;omega)] at hK;exact hK
  ·rw[if_neg (by simp at h3;omega)] at hK
   refine ae (λh4=>?_) (λh4=>?_)
   ·rw[if_pos (by simp at h4;omega)] at hK;exact hK
   ·rw[if_neg (by simp at h4;omega)] at hK;exact hK
theorem rW {x y:Int}{H:Heap}{K:Int->Heap->Prop}(hK:K (if x<y then -1 else if y<x then 1 else 0) H):DY.sp x y H K:=by
 have hn:∀{z:Int} {H:Heap} {K:Bool->Heap->Prop},K false H->Eo.sp z H K:=by
  intro z H K h
  refine Eo.of ?_
  unfold Eo.vc
  simpa using h
 refine DY.of ?_
 unfold DY.vc
 refine hn (hn ?_)
 simp only[br]
 refine ae (λh=>?_) (λh=>?_)
 ·rw[if_pos (by simpa using h)] at hK;exact hK
 ·rw[if_neg (by simpa using h)] at hK
  refine ae (λh=>?_) (λh=>?_)
  ·rw[if_pos (by simpa using h)] at hK;exact hK
  ·rw[if_neg (by simpa using h)] at hK;exact hK
theorem lz {a b:Sl}{la lb:List Int}{H:Heap}{K:Int->Heap->Prop}(ha:Ints .u64 H a la)(hb:Ints .u64 H b lb)(hlen:la.length<1099511627776)(hK:K (bz la lb) H):Ap.sp a b H K:=by
 refine Ap.of ?_
 unfold Ap.vc
 refine HS.of ?_
 unfold HS.vc
 have la1:=ha.len
 have lb1:=hb.len
 refine ay la.length (λk i H'=>i=(k:Int)/\k<=lb.length/\H'=H/\bz la lb=bz (la.drop k) (lb.drop k)) ⟨rfl,Lh _,rfl,by simp⟩ ?_
 rintro k i H' next hk ⟨rfl,hkb,rfl,hc⟩ hnext
 refine ae (λh=>?_) (λh=>?_)
 ·have h1:k<la.length:=by simp at h;omega
  rw[drop_cons h1] at hc
  refine ha.ld (by omega) (by omega) λad1 e1=>?_
  simp only[KU]
  refine ae (λh2=>?_) (λh2=>?_)
  ·have h2':lb.length<=k:=by simp at h2;omega
   rw[LK h2',bz] at hc
   rw[<-hc];exact hK
  ·have h2':k<lb.length:=by simp at h2;omega
   rw[drop_cons h2',bz] at hc
   refine hb.ld (by omega) (by omega) λad2 e2=>?_
   simp only[KU]
   refine rW ?_
   refine ae (λh3=>?_) (λh3=>?_)
   ·have e:bz la lb=(if la.getD k 0<lb.getD k 0 then -1 else if lb.getD k 0<la.getD k 0 then 1 else 0):=by
     rw[hc]
     by_cases q1:la.getD k 0<lb.getD k 0
     ·rw[if_pos q1,if_pos q1]
     ·by_cases q2:lb.getD k 0<la.getD k 0
      ·rw[if_neg q1,if_pos q2,if_neg q1,if_pos q2]
      ·rw[if_neg q1,if_neg q2] at h3;simp at h3
    rw[<-e];exact hK
   ·have h3':¬la.getD k 0<lb.getD k 0/\¬lb.getD k 0<la.getD k 0:=by
     constructor
     ·intro q;rw[if_pos q] at h3;simp at h3
     ·intro q;rw[if_neg (by omega),if_pos q] at h3;simp at h3
    rw[if_neg h3'.1,if_neg h3'.2] at hc
    exact hnext h1 _ _ ⟨by rw[aI k (by omega)],h2',rfl,hc⟩
 ·have h1:la.length<=k:=by simp at h;omega
  rw[LK h1] at hc
  refine ae (λh2=>?_) (λh2=>?_)
  ·have h2':k<lb.length:=by simp at h2;omega
   rw[drop_cons h2',bz] at hc
   rw[<-hc];exact hK
  ·have h2':lb.length<=k:=by simp at h2;omega
   rw[LK h2',bz] at hc
   rw[<-hc];exact hK
structure iq (H:Heap)(base:Nat)(r:Sl)(l:List Int):Prop where
 own:aT H base eL 1 ⟨r.a,r.n+1,r.c⟩ ((l++[30583]).map (Lb .u64))
theorem iq.len {H:Heap}{base:Nat}{r:Sl}{l:List Int}(h:iq H base r l):r.n=l.length:=by
 have:=h.own.1;simp at this;omega
theorem iq.cap {H:Heap}{base:Nat}{r:Sl}{l:List Int}(h:iq H base r l):r.n+1<=r.c:=h.own.cap
theorem iq.ints {H:Heap}{base:Nat}{r:Sl}{l:List Int}(h:iq H base r l):Ints .u64 H r l:=by
 refine⟨h.len,?_⟩
 have:=h.own.reads.take l.length
 simpa using this
theorem iq.mod {F:Nat->Prop}{H H':Heap}{base:Nat}{r:Sl}{l:List Int}(h:iq H base r l)(hm:Mod F H H')(hn:∀b,al r b->¬F b):iq H' base r l:=⟨h.own.mod hm hn⟩
theorem iq.block {H:Heap}{base:Nat}{r:Sl}{l:List Int}(h:iq H base r l):∀b,al r b->base<=b/\b<H.size:=h.own.block
theorem El.zy {P:Program}{t ty e:TypeId}{bytes:Nat}{z:Value}(h:El P t e bytes z){H:Heap}{base:Nat}{s:Sl}{xs:List Value}{v:Value}{K:Sl->Heap->Prop}
  (hown:aT H base e 1 s xs) (h1:v.oneCell'=true) (hn:s.n+1<=4611686018427387904) (hb:(s.n+1)*bytes<=140737488355328) (hbase:base<=H.size)
  (hK:∀(s':Sl) (H':Heap),s'.n=s.n+1->aT H' base e 1 s' (xs++[v])->Mod (al s) H H'->(∀b,al s' b->al s b\/H.size<=b)->s'.a≠none->K s' H'):
  aF H #[v] e λp H1=>bt av P (KM #[t,t] ty #[s.v,.slice (some p) 1 1]) H1 K:=by
 have hpush:Mod (λ_=>False) H (H.push (.cells #[v] e)):=Mod.push _ _ _
 refine El.tw (base:=base) (s:=s) (x:=⟨some ⟨H.size,0,none⟩,1,1⟩) (xs:=xs) (ws:=[v]) h (hown.ext hpush) rfl ?_ (by simpa using h1) (by simpa using hn) hb (by simp;omega) ?_
 ·intro i u hu
  cases i with
  |zero=>simp at hu;subst hu;exact⟨_,rfl,cW (c:=#[v]) (t:=e) (fz:=(0,0)) (by simp) (by simp)⟩
  |succ i=>simp at hu
 ·intro s' H' h2 h3 h4 h5 h6
  refine hK s' H' h2 h3 ((Ext.mod hpush).trans h4) (λb hb=>?_) (λhh=>by have:=(h6.1 hh).2;simp at this)
  rcases h5 b hb with h7|h7
  ·exact .inl h7
  ·simp at h7;exact .inr (by omega)
theorem DI {l:Sl}{ll:List Int}{H:Heap}{K:Sl->Heap->Prop}(hl:Ints .u64 H l ll)(hlen:ll.length<=17592186043904)
  (hK:∀r H',iq H' H.size r ll->Ext H H'->K r H'):GK.sp l H K:=by
 refine GK.of ?_
 unfold GK.vc
 have ln:=hl.len
 refine pk.tw (base:=H.size) (s:=Sl.mk none 0 0) (x:=l) (xs:=[]) (ws:=ll.map (Lb .u64)) (aT.nil _ _ _ _) (by simp;omega) hl.reads (pT _ _) (by simp only;omega) (by simp only;omega) (KN _) ?_
 intro out H1 n1 o1 m1 b1 _
 simp only at n1
 have e1:Ext H H1:=m1.ext (by rintro b ⟨ad,h,_⟩;cases h)
 refine pk.zy (base:=H.size) (s:=out) o1 rfl (by omega) (by omega) e1.size ?_
 intro out2 H2 n2 o2 m2 b2 _
 have e2:Ext H H2:=(e1.mod (F:=al out).trans m2).ext (λb hb=>(o1.block b hb).1)
 have hc:=o2.cap
 refine⟨by omega,?_⟩
 refine hK _ _ ⟨?_⟩ e2
 rw[kN]
 have en:out2.n=(l.n:Int).toNat - 0+1:=by simp;omega
 have:Sl.mk out2.a ((l.n:Int).toNat - 0+1) (out2.c - 0)=out2:=by cases out2;simp only at en;simp[en]
 show aT H2 H.size eL 1 (Sl.mk out2.a ((l.n:Int).toNat - 0+1) (out2.c - 0)) _
 rw[this]
 simpa using o2
theorem Cs {r l:Sl}{ll:List Int}{base:Nat}{H:Heap}{K:Bool->Heap->Prop}(hr:iq H base r ll)(hl:Ints .u64 H l ll)(hlen:ll.length<=17592186043904)(hK:K true H):G9.sp r l H K:=by
 refine G9.of ?_
 unfold G9.vc
 have ln:=hl.len
 have rn:=hr.len
 have hc:=hr.cap
 refine pj hr.ints hl (by omega) ?_
 simp only[decide_true,br]
 rw[wrap64 (by omega) (by omega)]
 refine⟨by omega,?_⟩
 rw[kN]
 obtain⟨ad,ha,hcell⟩:=hr.own.reads.at (i:=ll.length) (by simp)
 refine dv ad ha ⟨by omega,30583,?_,hK⟩
 simp only[KU,LU,ln]
 rw[hcell];simp
theorem sR {l:Sl}{xs:List Value}{base:Nat}{H:Heap}{K:Unit->Heap->Prop}(hl:aT H base eL 1 l xs)(hlen:l.n<=17592186043904)(hbase:base<=H.size)
  (hK:∀H',Mod (al l) H H'->K () H'):DL.sp l H K:=by
 refine DL.of ?_
 unfold DL.vc
 refine ay l.n (λk i H'=>i=(k:Int)/\Mod (al l) H H'/\∃ys,aT H' base eL 1 l ys) ⟨rfl,.refl _ _,_,hl⟩ ?_
 rintro k i H1 next hk ⟨rfl,m1,ys,o1⟩ hnext
 refine ae (λh=>?_) (λh=>?_)
 ·have hlt:k<l.n:=by simp at h;omega
  refine o1.st (by omega) (by omega) rfl λH2 o2 m2 _=>?_
  exact hnext hlt _ _ ⟨by rw[aI k (by omega)],m1.trans m2,_,o2⟩
 ·refine ay 3 (λk z H'=>z.2=(k:Int)/\z.1.n=l.n+k/\Mod (al l) H H'/\(∀b,al z.1 b->al l b\/H.size<=b)/\∃ys,aT H' base eL 1 z.1 ys) ⟨rfl,rfl,m1,λb hb=>.inl hb,_,o1⟩ ?_
  rintro j ⟨m,i⟩ H3 next3 hj ⟨hi,hn,m3,b3,ys3,o3⟩ hnext3
  simp only at hi hn b3 o3 ⊢
  subst hi
  refine ae (λh2=>?_) (λh2=>?_)
  ·have hlt:j<3:=by simp at h2;omega
   refine pk.zy (base:=base) o3 rfl (by omega) (by omega) (Lc hbase m3.size) ?_
   intro m' H4 n4 o4 m4 b4 _
   refine hnext3 hlt _ _ ⟨by rw[aI j (by omega)],by simp only;omega,m3.trans' m4 (λb hb hb'=>?_),λb hb=>?_,_,o4⟩
   ·rcases b3 b hb' with h5|h5
    ·exact h5
    ·omega
   ·rcases b4 b hb with h5|h5
    ·exact b3 b h5
    ·exact .inr (Lc m3.size h5)
  ·exact hK _ m3
theorem CO {l:Sl}{xs:List Value}{base:Nat}{H:Heap}{K:Unit->Heap->Prop}(hl:aT H base eL 1 l xs)(hlen:l.n<=1000000)(hbase:base<=H.size)
  (hK:∀H',Mod (al l) H H'->K () H'):DL.sp l H K:=sR hl (by omega) hbase hK
def bk (w:Int):Int:=if w<0\/w>16 then 0 else if w=0 then 1 else 8*w
theorem qS {w:Int}{H:Heap}{K:Int->Heap->Prop}(hK:K (bk w) H):Et.sp w H K:=by
 refine Et.of ?_
 unfold Et.vc
 unfold bk at hK
 refine ae (λh=>?_) (λh=>?_)
 ·have h':w<0:=by simpa using h
  rw[if_pos (.inl h')] at hK
  simpa[h',br] using hK
 ·have h':¬w<0:=by simpa using h
  refine ae (λh2=>?_) (λh2=>?_)
  ·rw[if_pos (.inr (by simpa using h2))] at hK;exact hK
  ·have h2':¬w>16:=by simpa using h2
   rw[if_neg (by omega)] at hK
   refine ae (λh3=>?_) (λh3=>?_)
   ·rw[if_pos (by simpa using h3)] at hK;exact hK
   ·rw[if_neg (by simpa using h3)] at hK
    rw[wrap64 (by omega) (by omega)];exact hK
theorem qk {w:Int}{H:Heap}{K:Int->Heap->Prop}(hK:K (bk w) H):EW.sp w H K:=by
 refine EW.of ?_
 unfold EW.vc
 unfold bk at hK
 refine ae (λh=>?_) (λh=>?_)
 ·rw[if_pos (by simpa using h)] at hK;exact hK
 ·have h':¬(w<0\/w>16):=by simpa using h
  rw[if_neg h'] at hK
  rw[wrap64 (by omega) (by omega)]
  by_cases h0:w=0
  ·rw[if_pos h0] at hK;subst h0;simpa using hK
  ·rw[if_neg h0] at hK;rw[if_pos (by omega)];exact hK
def aW (w:Int):Int:=if bk w=0 then 0 else LP 504 (bk w)
theorem eX (w:Int):bk w=0\/(0<bk w/\bk w<=128):=by
 unfold bk;split
 ·simp
 ·split
  ·simp
  ·right;omega
theorem pv (w:Int):KG.wrap (LP 504 (bk w))=LP 504 (bk w):=by
 have h0:=Int.tdiv_nonneg (a:=504) (b:=bk w) (by omega) (by rcases eX w with h|h<;>omega)
 have h1:LP 504 (bk w)<=504:=by
  rcases eX w with h|h
  ·rw[h];simp
  ·exact Int.tdiv_le_self _ (by omega)
 exact wrap64 (by omega) (by omega)
theorem yn {w:Int}{H:Heap}{K:Int->Heap->Prop}(hK:K (aW w) H):Gs.sp w H K:=by
 refine Gs.of ?_
 unfold Gs.vc
 refine qS ?_
 unfold aW at hK
 have hc:=eX w
 refine ae (λh=>?_) (λh=>?_)
 ·have h':bk w>0:=by simpa using h
  rw[if_neg (by omega)] at hK
  refine⟨by omega,?_⟩
  rw[pv];exact hK
 ·have h':¬bk w>0:=by simpa using h
  rw[if_pos (by omega)] at hK;exact hK
theorem fW {w:Int}{H:Heap}{K:Int->Heap->Prop}(hK:K (aW w) H):zV.sp w H K:=by
 refine zV.of ?_
 unfold zV.vc
 refine qk ?_
 unfold aW at hK
 refine ae (λh=>?_) (λh=>?_)
 ·rw[if_pos (by simpa using h)] at hK;exact hK
 ·rw[if_neg (by simpa using h)] at hK
  refine⟨by simpa using h,?_⟩
  rw[pv];exact hK
structure Rows (H:Heap)(s:Sl)(ls:List (List Int)):Prop where
 len:s.n=ls.length
 at':∀i (h:i<ls.length),∃ad r,s.a=some ad/\de H (ad.add i)=some (Sl.v r)/\Ints .u64 H r ls[i]
theorem Rows.ld {H:Heap}{s:Sl}{ls:List (List Int)}(h:Rows H s ls){i:Nat}(hi:i<ls.length){K:Addr->Sl->Prop}(hK:∀ad r,s.a=some ad->Ints .u64 H r (ls[i]'hi)->K ad r):
  ab s.a λa=>(0<=(i:Int)/\(i:Int)<(s.n:Int))/\ld av H (a.add ((i:Int).toNat*1)) λx=>K a x:=by
 obtain⟨ad,r,e,hc,hr⟩:=h.at' i hi
 refine dv ad e ⟨⟨by omega,by rw[h.len];omega⟩,r,?_,hK ad r e hr⟩
 simp only[KU,LU]
 exact hc
def gL (n:Int)(k:Nat):Int:=LA.wrap (cI .u64 n (56 - 8*(k:Int)))
def cL (n:Int):List Int:=(Lg 8).map (gL n)
def cg (l:List Int):List Int:=if l=[] then [0] else l.flatMap cL
theorem bM (n:Int):(cL n).length=8:=by simp[cL]
theorem oW:∀(l:List Int),(l.flatMap cL).length=8*l.length
 |[]=>rfl
 |x::r=>by rw[Lk,Lj,bM,oW r];simp;omega
theorem j0 (n:Int){k:Nat}(hk:k<8):(cL n).take (k+1)=(cL n).take k++[gL n k]:=by
 rw[KP (by rw[bM];exact hk)]
 simp[cL]
theorem kB {l:List Int}{k:Nat}(hk:k<l.length):(l.take (k+1)).flatMap cL=(l.take k).flatMap cL++cL (l.getD k 0):=by
 rw[KP hk,Nx]
 simp only[Lk,List.flatMap_nil,List.append_nil,Lo,KJ hk,M6]
theorem ze:zc KE CH=Lz 8 (.int .u8 0):=by kernel_rfl
theorem sU:nV KE CH 8=true:=by kernel_rfl
theorem Bc {n:Int}{H:Heap}{K:Array Value->Heap->Prop}(hK:∀H',Ext H H'->K ((cL n).map (Lb .u8)).toArray H'):Gq.sp (zc KE CH) n H K:=by
 refine Gq.of ?_
 unfold Gq.vc
 rw[ze]
 refine qy λp H1 hp s1 r1 e1=>?_
 refine qy λq H2 hq s2 r2 e2=>?_
 have hpq:p.block≠q.block:=by omega
 refine ay 8 (λk z H'=>z=(k:Int)/\(∃cs:List Value,cs.length=8/\cs.take k=((cL n).take k).map (Lb .u8)/\jl H' p cs.toArray)/\jl H' q (Lz 8 (.int .u8 0))/\Ext H H') ⟨rfl,⟨KY 8 (.int .u8 0),by simp,by simp,r1.mod e2 id⟩,r2,e1.trans e2⟩ ?_
 rintro k z H3 next hk ⟨rfl,⟨cs,hl,ht,r3⟩,q3,e3⟩ hnext
 refine ae (λh=>?_) (λh=>?_)
 ·have hlt:k<8:=by simp at h;omega
  rw[wrap64 (x:=8*(k:Int)) (by omega) (by omega),wrap64 (by omega) (by omega)]
  refine⟨by omega,by omega,?_⟩
  simp only[KU,LU]
  refine r3.st (by simp;omega) rfl λH4 r4 m4 _=>?_
  refine hnext hlt _ _ ⟨by rw[aI k (by omega)],⟨cs.set k (.int .u8 (gL n k)),by simpa using hl,?_,by rw[<-List.setIfInBounds_toArray];exact r4⟩,q3.mod m4 (λhh=>hpq hh.symm),?_⟩
  ·rw[j0 n hlt,LF,<-ht,KP (by simpa[hl] using hlt)]
   simp[List.take_set]
   rw[List.set_eq_of_length_le (by simp;omega)]
  ·exact⟨Lc e3.size m4.size,λb hb _=>(m4.same b (LJ hb e3.size) (by omega)).trans (e3.same b hb id)⟩
 ·have hge:k=8:=by simp at h;omega
  subst hge
  rw[KT (by omega),KT (by rw[bM];omega)] at ht
  subst ht
  refine r3.dI (by simp[bM]) ?_
  refine q3.iH (by simpa[bM] using sU) (by simp[bM]) (by simp[RC]) λH5 r5 m5 _=>?_
  refine r5.dI (by simp[bM]) ?_
  exact hK _ ⟨Lc e3.size m5.size,λb hb _=>(m5.same b (LJ hb e3.size) (by omega)).trans (e3.same b hb id)⟩
theorem DB {H:Heap}:aT (H.push (.cells #[.int .u8 0] dF)) H.size dF 1 ⟨some ⟨H.size,0,none⟩,1,1⟩ ([(0:Int)].map (Lb .u8)):=
 aT.fresh (KN _) (KN _) (by unfold maxLen;omega) rfl rfl rfl
theorem tg {l:Sl}{ll:List Int}{H:Heap}{K:Sl->Heap->Prop}(hl:Ints .u64 H l ll)(hlen:ll.length<=1000000)
  (hK:∀s H',aT H' H.size dF 1 s ((cg ll).map (Lb .u8))->Ext H H'->K s H'):wV.sp l H K:=by
 refine wV.of ?_
 unfold wV.vc
 have ln:=hl.len
 refine ae (λh=>?_) (λh=>?_)
 ·have h':ll=[]:=Lq (by simp at h;omega)
  refine hK _ _ ?_ (Mod.push _ _ _)
  unfold cg
  rw[if_pos h']
  exact DB
 ·have h':ll≠[]:=by intro e;subst e;simp at ln;simp[ln] at h
  unfold cg at hK
  rw[if_neg h'] at hK
  rw[wrap64 (by omega) (by omega)]
  refine HD.make (base:=H.size) (by omega) (by omega) (by omega) (by omega) (KN _) ?_
  intro out H1 n1 o1 e1 b1 _
  refine ay ll.length (λk z H'=>z.2=(k:Int)/\z.1.n=8*k/\aT H' H.size dF 1 z.1 (((ll.take k).flatMap cL).map (Lb .u8))/\Ext H H') ⟨rfl,by simpa using n1,by simpa using o1,e1⟩ ?_
  rintro k ⟨s,i⟩ H2 next hk ⟨hi,hn,o2,e2⟩ hnext
  simp only at hi hn o2 ⊢
  subst hi
  refine ae (λh=>?_) (λh=>?_)
  ·have hlt:k<ll.length:=by simp at h;omega
   refine(hl.ext e2).ld (by omega) (by omega) λad1 q1=>?_
   simp only[KU]
   refine Bc λH3 e3=>?_
   rw[ze]
   refine qy λp H4 hp s4 r4 e4=>?_
   refine r4.iH (by simpa[bM] using sU) (by simp[bM]) (by simp[RC]) λH5 r5 m5 s5=>?_
   have e34:Ext H2 H4:=e3.trans e4
   have e25:Ext H2 H5:=(e34.mod (F:=λb=>b=p.block).trans m5).ext (λb hb=>by have:=e3.size;omega)
   rw[kN]
   refine HD.append (base:=H.size) (s:=s) (x:=⟨some p,8 - 0,8 - 0⟩) (ws:=(cL (ll.getD k 0)).map (Lb .u8)) (o2.ext e25) (by simp[bM]) (by simpa using r5.reads) (pT _ _) (by simp only;omega) (by simp only;omega) (e2.trans e25).size ?_
   intro s' H6 n6 o6 m6 b6 _
   refine hnext hlt _ _ ⟨by rw[aI k (by omega)],by simp only at n6 ⊢;omega,?_,((Ext.mod (F:=al s) (e2.trans e25)).trans m6).ext (λb hb=>(o2.block b hb).1)⟩
   simp only
   rw[kB hlt,LF];exact o6
  ·have hge:k=ll.length:=by simp at h;omega
   subst hge
   rw[KT (KN _)] at o2
   exact hK s H2 o2 e2
theorem se {l:Sl}{ll:List Int}{H:Heap}{K:Sl->Heap->Prop}(hl:Ints .u64 H l ll)(hlen:ll.length<=1000000)
  (hK:∀s H',aT H' H.size dF 1 s ((cg ll).map (Lb .u8))->Ext H H'->K s H'):FI.sp l H K:=by
 refine FI.of ?_
 unfold FI.vc
 have ln:=hl.len
 refine ae (λh=>?_) (λh=>?_)
 ·have h':ll=[]:=Lq (by simp at h;omega)
  refine hK _ _ ?_ (Mod.push _ _ _)
  unfold cg
  rw[if_pos h']
  exact DB
 ·have h':ll≠[]:=by intro e;subst e;simp at ln;simp[ln] at h
  unfold cg at hK
  rw[if_neg h'] at hK
  refine ay ll.length (λk z H'=>z.2=(k:Int)/\z.1.n=8*k/\aT H' H.size dF 1 z.1 (((ll.take k).flatMap cL).map (Lb .u8))/\Ext H H') ⟨rfl,rfl,aT.nil _ _ _ _,Mod.refl _ _⟩ ?_
  rintro k ⟨s,i⟩ H2 next hk ⟨hi,hn,o2,e2⟩ hnext
  simp only at hi hn o2 ⊢
  subst hi
  refine ae (λh=>?_) (λh=>?_)
  ·have hlt:k<ll.length:=by simp at h;omega
   refine ay 8 (λj z H'=>z.2=56 - 8*(j:Int)/\z.1.n=8*k+j/\aT H' H.size dF 1 z.1 (((ll.take k).flatMap cL++(cL (ll.getD k 0)).take j).map (Lb .u8))/\Ext H H') ⟨rfl,hn,by simpa using o2,e2⟩ ?_
   rintro j ⟨s2,i2⟩ H3 next3 hj ⟨hi2,hn2,o3,e3⟩ hnext3
   simp only at hi2 hn2 o3 ⊢
   subst hi2
   refine ae (λh=>?_) (λh=>?_)
   ·have hlt2:j<8:=by simp at h;omega
    refine(hl.ext e3).ld (by omega) (by omega) λad1 q1=>?_
    simp only[KU]
    refine⟨by omega,?_⟩
    refine HD.push (base:=H.size) o3 rfl (by omega) (by omega) e3.size ?_
    intro s' H4 n4 o4 m4 b4 _
    refine hnext3 hlt2 _ _ ⟨by simp only;rw[wrap64 (by omega) (by omega)];omega,by simp only;omega,?_,(e3.mod (F:=al s2).trans m4).ext (λb hb=>(o3.block b hb).1)⟩
    simp only
    rw[j0 _ hlt2,<-LG,LF]
    exact o4
   ·have hge:j=8:=by simp at h;omega
    subst hge
    rw[KT (l:=cL (ll.getD k 0)) (by rw[bM];omega)] at o3
    refine hnext hlt _ _ ⟨by rw[aI k (by omega)],by simp only;omega,?_,e3⟩
    simp only
    rw[kB hlt];exact o3
  ·have hge:k=ll.length:=by simp at h;omega
   subst hge
   rw[KT (KN _)] at o2
   exact hK s H2 o2 e2
def kA (w b:Int):Int:=K0.wrap (K0.wrap (w*256)+K0.wrap b)
def bH (bs:List Int):Int:=bs.foldl kA 0
def rowOf (c:List Int)(w:Nat):List Int:=(Lg w).map λj=>bH ((c.drop (8*j)).take 8)
def dC (b:List Int)(w:Int):Bool:=decide (bk w≠0)&&decide (LX (b.length:Int) (bk w)=0)&&(decide (w≠0)||b.all λx=>decide (x=0))
def bI (b:List Int)(n k:Nat):List Int:=(b.drop (k*n)).take n
def rowsOf (b:List Int)(w:Int)(m:Nat):List (List Int):=(Lg m).map λk=>rowOf (bI b (bk w).toNat k) w.toNat
def gR (b:List Int)(w:Int):List (List Int):=if dC b w then rowsOf b w (b.length/(bk w).toNat) else []
def lP (b:List Int)(w:Int):Int:=if dC b w then 0 else 60
theorem kD (x:Int):K0.wrap x=x%18446744073709551616:=by
 rw[Ro]
theorem wP (w b:Int):0<=kA w b/\kA w b<18446744073709551616:=by
 unfold kA;rw[kD];omega
theorem gT (bs:List Int):0<=bH bs/\bH bs<18446744073709551616:=by
 unfold bH
 rcases List.eq_nil_or_concat bs with h|⟨l,x,h⟩
 ·subst h;simp
 ·subst h;rw[List.concat_eq_append,Nc];exact wP _ _
theorem Du {x b:Int}(hx:0<=x)(hx2:x<18446744073709551616)(hb:0<=b)(hb2:b<256):wR .u64 (j5 .u64 x 8) (K0.wrap b)=kA x b:=by
 unfold kA wR j5
 have e0:(2:Int)^(min (8:Int).toNat K0.bits)=256:=by decide
 rw[e0]
 simp only[kD]
 obtain⟨n,rfl⟩:=MJ hx
 obtain⟨m,rfl⟩:=MJ hb
 have hm:m<256:=by omega
 obtain⟨r,hr⟩:∃r,r=n%72057594037927936:=⟨_,rfl⟩
 have hr2:r<72057594037927936:=by omega
 have e1:((n:Int)*256)%18446744073709551616=((256*r:Nat):Int):=by omega
 have e2:(m:Int)%18446744073709551616=((m:Nat):Int):=by omega
 have e3:(Mw K0.bits ((256*r:Nat):Int)|||Mw K0.bits ((m:Nat):Int)).toNat=256*r+m:=by
  have hb64:K0.bits=64:=rfl
  have hor:=Nat.two_pow_add_eq_or_of_lt (i:=8) (b:=m) hm r
  rw[N0,N0,BitVec.toNat_or,M9,M9,hb64,N7 (by omega),N7 (by omega)]
  exact hor.symm
 rw[e1,e2,e3]
 rw[Int.natCast_add]
theorem fm (c:List Int)(w:Nat):(rowOf c w).length=w:=by simp[rowOf]
theorem xY {c:List Int}{w i:Nat}(hi:i<c.length)(hw:c.length=8*w):
  (rowOf (c.take i) w).set (i/8) (kA ((rowOf (c.take i) w).getD (i/8) 0) (c.getD i 0))=rowOf (c.take (i+1)) w:=by
 have hq:i/8<w:=by omega
 apply P6
 ·simp[rowOf]
 ·intro j h1 h2
  have hj:j<w:=by simpa[rowOf] using h2
  have e0:∀t,((c.take t).drop (8*j)).take 8=(c.drop (8*j)).take (min 8 (t - 8*j)):=by
   intro t;rw[List.drop_take,Pv]
  rw[List.getElem_set]
  by_cases hji:i/8=j
  ·subst hji
   rw[if_pos rfl]
   simp only[rowOf,Lo,Le,Ob hq,NL,M6,Nl,Pu]
   simp only[e0]
   have e1:min 8 (i+1 - 8*(i/8))=min 8 (i - 8*(i/8))+1:=by omega
   have e2:min 8 (i - 8*(i/8))=i - 8*(i/8):=by omega
   have hlt:i - 8*(i/8)<(c.drop (8*(i/8))).length:=by simp;omega
   rw[e1,e2,KP hlt]
   unfold bH
   rw[Nc,Nf,Ri]
   congr 1
   rw[KJ hi,M6,RD]
   congr 1
   omega
  ·rw[if_neg hji]
   simp only[rowOf,Nl,Pu,e0]
   congr 2
   omega
theorem AX (w:Nat):rowOf [] w=KY w 0:=by
 apply P6
 ·simp[rowOf]
 ·intro j h1 h2;simp[rowOf,bH]
structure aY (H:Heap)(base:Nat)(s:Sl)(rs:List Sl)(ls:List (List Int)):Prop where
 out:aT H base lU 1 s (rs.map Sl.v)
 len:rs.length=ls.length
 row:∀(i:Nat) (r:Sl) (l:List Int),rs[i]?=some r->ls[i]?=some l->aT H base eL 1 r (l.map (Lb .u64))
 apart:∀(i j:Nat) (r r':Sl),i≠j->rs[i]?=some r->rs[j]?=some r'->∀b,al r b->¬al r' b
theorem aY.nil (H:Heap)(base:Nat):aY H base (Sl.mk none 0 0) [] []:=⟨aT.nil _ _ _ _,rfl,by simp,by simp⟩
theorem aY.n {H:Heap}{base:Nat}{s:Sl}{rs:List Sl}{ls:List (List Int)}(h:aY H base s rs ls):s.n=ls.length:=by
 have h1:=h.out.1;have h2:=h.len;simp at h1;omega
theorem aY.mod {F:Nat->Prop}{H H':Heap}{base:Nat}{s:Sl}{rs:List Sl}{ls:List (List Int)}(h:aY H base s rs ls)(hm:Mod F H H')(hs:∀b,al s b->¬F b)(hr:∀r∈rs,∀b,al r b->¬F b):aY H' base s rs ls:=
 ⟨h.out.mod hm hs,h.len,λi r l h1 h2=>(h.row i r l h1 h2).mod hm (hr r (KH h1)),h.apart⟩
theorem aY.ext {H H':Heap}{base:Nat}{s:Sl}{rs:List Sl}{ls:List (List Int)}(h:aY H base s rs ls)(hm:Ext H H'):aY H' base s rs ls:=h.mod hm (λ_ _=>id) (λ_ _ _ _=>id)
theorem aY.rowAt {H:Heap}{base:Nat}{s:Sl}{rs:List Sl}{ls:List (List Int)}(h:aY H base s rs ls){r:Sl}(hr:r∈rs):∃l:List Int,aT H base eL 1 r (l.map (Lb .u64)):=by
 obtain⟨i,hi⟩:=KQ.1 hr
 have hlt:i<ls.length:=by rw[<-h.len];exact(KI.1 hi).1
 exact⟨_,h.row i r _ hi (KJ hlt)⟩
theorem aY.block {H:Heap}{base:Nat}{s:Sl}{rs:List Sl}{ls:List (List Int)}(h:aY H base s rs ls):(∀b,al s b->base<=b/\b<H.size)/\∀r∈rs,∀b,al r b->base<=b/\b<H.size:=
 ⟨h.out.block,λr hr=>by obtain⟨l,hl⟩:=h.rowAt hr;exact hl.block⟩
theorem aY.rows {H:Heap}{base:Nat}{s:Sl}{rs:List Sl}{ls:List (List Int)}(h:aY H base s rs ls):Rows H s ls:=by
 refine⟨h.n,λi hi=>?_⟩
 have hir:i<rs.length:=by rw[h.len];exact hi
 obtain⟨ad,ha,hc⟩:=h.out.reads.at (i:=i) (by simpa using hir)
 exact⟨ad,rs[i],ha,by simpa using hc,(h.row i _ _ (KJ hir) (KJ hi)).ints⟩
theorem aY.IF {ty:TypeId}{H:Heap}{base:Nat}{s:Sl}{rs:List Sl}{ls:List (List Int)}{r:Sl}{l:List Int}{K:Sl->Heap->Prop}(h:aY H base s rs ls)
  (hr:aT H base eL 1 r (l.map (Lb .u64))) (hap:∀r'∈rs,∀b,al r b->¬al r' b) (hn:s.n+1<=1099511627776) (hbase:base<=H.size)
  (hK:∀s' H',s'.n=s.n+1->aY H' base s' (rs++[r]) (ls++[l])->Mod (al s) H H'->(∀b,al s' b->al s b\/H.size<=b)->K s' H'):
  aF H #[r.v] lU λp H1=>bt av KE (KM #[rC,rC] ty #[s.v,.slice (some p) 1 1]) H1 K:=by
 refine GY.push (base:=base) h.out rfl hn (by omega) hbase ?_
 intro s' H' n1 o1 m1 b1 _
 refine hK s' H' n1 ⟨by simpa using o1,by simp[h.len],?_,?_⟩ m1 b1
 ·intro i x y hx hy
  rw[Ql] at hx hy
  have hl:=h.len
  split at hx
  ·rename_i hlt
   rw[if_pos (by omega)] at hy
   exact(h.row i x y hx hy).mod m1 (λb hb hb'=>(h.row i x y hx hy).apart h.out (by decide) b hb hb')
  ·rename_i hge
   rw[if_neg (by omega)] at hy
   have e1:i - rs.length=0:=by
    have:=(KI.1 hx).1;simp at this;omega
   have e2:i - ls.length=0:=by omega
   rw[e1] at hx;rw[e2] at hy
   simp at hx hy
   subst hx;subst hy
   exact hr.mod m1 (λb hb hb'=>hr.apart h.out (by decide) b hb hb')
 ·intro i j x y hij hx hy b hb
  have key:∀(i:Nat) (x:Sl),(rs++[r])[i]?=some x->(i<rs.length/\rs[i]?=some x)\/(i=rs.length/\x=r):=by
   intro i x hx
   rw[Ql] at hx
   split at hx
   ·rename_i hlt;exact .inl ⟨hlt,hx⟩
   ·rename_i hge
    have e1:i - rs.length=0:=by
     have:=(KI.1 hx).1;simp at this;omega
    rw[e1] at hx;simp at hx
    exact .inr ⟨by omega,hx.symm⟩
  rcases key i x hx with ⟨h1,h2⟩|⟨h1,h2⟩<;>rcases key j y hy with ⟨h3,h4⟩|⟨h3,h4⟩
  ·exact h.apart i j x y hij h2 h4 b hb
  ·subst h4;exact λhb'=>hap x (KH h2) b hb' hb
  ·subst h2;exact hap y (KH h4) b hb
  ·omega
theorem aY.push {ty:TypeId}{H:Heap}{base:Nat}{s:Sl}{rs:List Sl}{ls:List (List Int)}{r:Sl}{l:List Int}{K:Sl->Heap->Prop}(h:aY H base s rs ls)
  (hr:aT H base eL 1 r (l.map (Lb .u64))) (hap:∀r'∈rs,∀b,al r b->¬al r' b) (hn:s.n+1<=1099511627776) (hbase:base<=H.size)
  (hK:∀s' H',s'.n=s.n+1->aY H' base s' (rs++[r]) (ls++[l])->Mod (al s) H H'->K s' H'):
  aF H #[r.v] lU λp H1=>bt av KE (KM #[rC,rC] ty #[s.v,.slice (some p) 1 1]) H1 K:=
 aY.IF h hr hap hn hbase λs' H' a b c _=>hK s' H' a b c
theorem oX (b:List Int)(w:Int)(m:Nat):rowsOf b w (m+1)=rowsOf b w m++[rowOf (bI b (bk w).toNat m) w.toNat]:=by
 simp[rowsOf,List.range_succ]
theorem tmod_zero {a n:Nat}(_:0<n)(h:LX (a:Int) (n:Int)=0):a=a/n*n:=by
 rw[<-R9] at h
 have h1:a%n=0:=by exact_mod_cast h
 have:=Ng a n
 rw[h1,NK] at this
 omega
theorem nq {b:List Int}{n k j:Nat}(hj:j<n):(bI b n k).getD j 0=b.getD (k*n+j) 0:=by
 unfold bI
 simp only[Lo,LB,L5]
 rw[if_pos hj]
theorem kK {b:List Int}{n k m:Nat}(hb:b.length=m*n)(hk:k<m):(bI b n k).length=n:=by
 unfold bI
 have:=Ly n (Nt hk)
 rw[L7] at this
 simp;omega
theorem tj {b:List Int}{w:Int}{k:Nat}(hw:w=0)(hk:k<b.length)(h:b.getD k 0≠0):dC b w=false:=by
 unfold dC
 have:(b.all λx=>decide (x=0))=false:=by
  rw[List.all_eq_false]
  refine⟨b[k],Lt _,?_⟩
  simp[Lo,KJ hk] at h
  simpa using h
 rw[this]
 simp[hw]
theorem ml {b:List Int}{w:Int}(h1:bk w≠0)(h2:LX (b.length:Int) (bk w)=0)(h3:w=0->∀k,k<b.length->b.getD k 0=0):dC b w=true:=by
 unfold dC
 simp only[KR,decide_eq_true_eq,Bool.or_eq_true,List.all_eq_true]
 refine⟨⟨h1,h2⟩,?_⟩
 by_cases hw:w=0
 ·right
  intro x hx
  obtain⟨k,hk,e⟩:=List.mem_iff_getElem.1 hx
  have:=h3 hw k hk
  simp[Lo,KJ hk] at this
  rw[<-e];exact this
 ·exact .inl hw
theorem sf {p:Sl}{b:List Int}{w:Int}{H:Heap}{K:(Sl×Int)->Heap->Prop}(hp:Ints .u8 H p b)(hlen:b.length<=1000000)
  (hK:∀s rs H',aY H' H.size s rs (gR b w)->Ext H H'->K (s,lP b w) H'):EO.sp p w H K:=by
 refine EO.of ?_
 unfold EO.vc
 have pn:=hp.len
 have bad:∀H',Ext H H'->dC b w=false->K (Sl.mk none 0 0,60) H':=by
  intro H' e hf
  have:=hK (Sl.mk none 0 0) [] H' (by unfold gR;rw[hf];exact aY.nil _ _) e
  unfold lP at this;rw[hf] at this;exact this
 refine qk ?_
 refine ae (λh=>?_) (λh=>?_)
 ·have h':bk w=0:=by simpa using h
  exact bad _ (Mod.refl _ _) (by unfold dC;simp[h'])
 ·have h':bk w≠0:=by simpa using h
  have hsz:=eX w
  refine⟨h',ae (λh2=>?_) (λh2=>?_)⟩
  ·have h2':¬LX (b.length:Int) (bk w)=0:=by rw[pn] at h2;simpa using h2
   exact bad _ (Mod.refl _ _) (by unfold dC;simp[h2'])
  ·have h2':LX (b.length:Int) (bk w)=0:=by rw[pn] at h2;simpa using h2
   obtain⟨n,hn⟩:∃n:Nat,bk w=(n:Int):=⟨(bk w).toNat,by omega⟩
   have hn0:0<n:=by omega
   have hmul:b.length=b.length/n*n:=tmod_zero hn0 (by rw[<-hn];exact h2')
   have hw0:0<=w/\w<=16:=by 
    unfold bk at h'
    split at h'
    ·exact absurd rfl h'
    ·omega
   have hnw:w≠0->n=8*w.toNat:=by
    intro hw;unfold bk at hn;rw[if_neg (by omega),if_neg hw] at hn;omega
   refine ay (b.length/n) (λk z H'=>z.2=((k*n:Nat):Int)/\z.1.n=k/\(w=0->∀j,j<k->b.getD j 0=0)/\(∃rs,aY H' H.size z.1 rs (rowsOf b w k))/\Ext H H') ⟨by simp,rfl,λ_ j hj=>by omega,⟨[],aY.nil _ _⟩,Mod.refl _ _⟩ ?_
   rintro k ⟨s,i⟩ H2 next hk ⟨hi,hsn,hz,⟨rs,r2⟩,e2⟩ hnext
   simp only at hi hsn r2 ⊢
   have hbl:k<b.length/n->k*n+n<=b.length:=by
    intro hlt
    have:=Ly n (Nt hlt)
    rw[L7] at this;omega
   refine ae (λh3=>?_) (λh3=>?_)
   ·have hlt:k<b.length/n:=by
     rcases Lr k (b.length/n) with q|q
     ·exact q
     ·have e:k=b.length/n:=by omega
      simp at h3;rw[hi,pn] at h3;rw[e] at h3;omega
    have hb2:=hbl hlt
    have hk1:k<b.length:=by have:=PK k hn0;omega
    refine⟨λ_ H'=>H2=H'/\(w=0->b.getD k 0=0),?_,?_⟩
    ·refine ae (λh4=>?_) (λh4=>⟨rfl,λhw=>by simp at h4;exact absurd hw h4⟩)
     have hw:w=0:=by simpa using h4
     have hn1:n=1:=by unfold bk at hn;rw[hw] at hn;simp at hn;omega
     refine ir (hp.ext e2) (j:=k) (by rw[hi,hn1];simp) hk1 λad q=>?_
     refine ae (λh5=>?_) (λh5=>⟨rfl,λ_=>by simpa using h5⟩)
     exact bad _ e2 (tj hw hk1 (by simpa using h5))
    ·rintro _ H3 ⟨rfl,hzero⟩
     refine ay w.toNat (λj z H'=>z.2=(j:Int)/\z.1.n=j/\aT H' H.size eL 1 z.1 (((rowOf (bI b n k) w.toNat).take j).map (Lb .u64))/\(∀c,al z.1 c->H2.size<=c)/\Ext H2 H') ⟨rfl,rfl,aT.nil _ _ _ _,(by rintro c ⟨ad,q,_⟩;cases q),Mod.refl _ _⟩ ?_
     rintro j ⟨s4,i4⟩ H4 next4 hj ⟨hi4,hn4,o4,b4,e4⟩ hnext4
     simp only at hi4 hn4 o4 b4 ⊢
     subst hi4
     refine ae (λh5=>?_) (λh5=>?_)
     ·have hjw:j<w.toNat:=by simp at h5;omega
      have hw:w≠0:=by omega
      have hn8:=hnw hw
      refine ay 8 (λq z H'=>z.2=(q:Int)/\z.1=bH (((bI b n k).drop (8*j)).take q)/\H'=H4) ⟨rfl,by simp[bH],rfl⟩ ?_
      rintro q ⟨x5,i5⟩ H5 next5 hq ⟨hi5,hx5,rfl⟩ hnext5
      simp only at hi5 hx5 ⊢
      subst hi5
      have hcl:=kK hmul hlt
      refine ae (λh6=>?_) (λh6=>?_)
      ·have hq8:q<8:=by simp at h6;omega
       have eidx:KG.wrap (KG.wrap (i+KG.wrap (8*(j:Int)))+(q:Int))=((k*n+(8*j+q):Nat):Int):=by
        rw[wrap64 (x:=8*(j:Int)) (by omega) (by omega),wrap64 (x:=i+_) (by omega) (by omega),wrap64 (by omega) (by omega),hi]
        push_cast;omega
       refine ir (hp.ext (e2.trans e4)) eidx (by omega) λad q1=>?_
       refine hnext5 hq8 _ _ ⟨by rw[aI q (by omega)],?_,rfl⟩
       simp only
       have hlt2:q<((bI b n k).drop (8*j)).length:=by simp;omega
       rw[KP hlt2,hx5]
       unfold bH
       rw[Nc,Nf,Ri]
       show kA _ _=kA _ _
       congr 1
       rw[RD,<-nq (by omega)]
       simp[Lo,KJ (show 8*j+q<(bI b n k).length by omega)]
      ·have hq8:q=8:=by simp at h6;omega
       subst hq8
       refine pk.push (base:=H.size) o4 rfl (by omega) (by omega) (e2.trans e4).size ?_
       intro s6 H6 n6 o6 m6 b6 _
       refine hnext4 hjw _ _ ⟨by rw[aI j (by omega)],by simp only;omega,?_,λc hc=>?_,(e4.mod (F:=al s4).trans m6).ext b4⟩
       ·simp only
        rw[KP (by rw[fm];exact hjw),LF]
        have e:(rowOf (bI b n k) w.toNat)[j]'(by rw[fm];exact hjw)=x5:=by
         rw[hx5];simp[rowOf]
        rw[e]
        exact o6
       ·rcases b6 c hc with q1|q1
        ·exact b4 c q1
        ·exact Lc e4.size q1
     ·have hjw:j=w.toNat:=by simp at h5;omega
      subst hjw
      rw[KT (by rw[fm];exact KN _)] at o4
      have r4:=r2.ext e4
      refine r4.push o4 (λr' hr' c hc hc'=>?_) (by omega) (e2.trans e4).size ?_
      ·have h1:=(r2.block.2 r' hr' c hc').2
       have h2:=b4 c hc
       omega
      ·intro s7 H7 n7 r7 m7
       refine hnext hlt _ _ ⟨?_,by simp only;omega,λhw j hj=>?_,⟨rs++[s4],?_⟩,((Ext.mod (F:=al s) (e2.trans e4)).trans m7).ext (λc hc=>(r2.block.1 c hc).1)⟩
       ·simp only
        rw[hn,hi,wrap64 (by omega) (by omega),L7];push_cast;rfl
       ·rcases Lr j k with q|q
        ·exact hz hw j q
        ·have:j=k:=by omega
         rw[this];exact hzero hw
       ·simp only
        rw[oX,hn]
        exact r7
   ·have hge:k=b.length/n:=by
     rcases Lr k (b.length/n) with q|q
     ·have:=hbl q;simp at h3;rw[hi,pn] at h3;omega
     ·omega
    have hok:dC b w=true:=ml h' h2' (λhw j hj=>hz hw j (by
     have hn1:n=1:=by unfold bk at hn;rw[hw] at hn;simp at hn;omega
     rw[hge,hn1];simpa using hj))
    have:=hK s rs H2 (by unfold gR;rw[hok,if_pos rfl,hn];simp only[KU];rw[<-hge];exact r2) e2
    unfold lP at this;rw[hok] at this;exact this
theorem Fk:zc KE rC=#[.slice none 0 0]:=by kernel_rfl
theorem BN:zc KE HP=#[.int .i64 0]:=by kernel_rfl
theorem DA {p:Sl}{n:Int}{H:Heap}{K:Value->Heap->Prop}(hn:1<=n)
  (hK:∀c c1 H',c.block=H.size->c1.block=H.size+1->H'.size=H.size+2->dn H' c dM p.v->dn H' c1 j7 (.int .i64 n)->Ext H H'->
   K (.func (.func Bo.no) #[] #[.pointer (some c),.pointer (some c1)]) H'):Hp.sp p n H K:=by
 refine Hp.of ?_
 unfold Hp.vc
 refine dH λc H1 hc s1 v1 e1=>?_
 refine dH λc1 H2 hc1 s2 v2 e2=>?_
 refine v2.ld (c:=aa .i64) (x:=n) ?_
 refine ae (λh=>?_) (λh=>?_)
 ·simp at h;omega
 ·exact hK c c1 H2 hc (by omega) (by omega) (v1.ext e2) v2 (e1.trans e2)
theorem AT {l:Nat}{c c1:Addr}{p:Sl}{n m:Nat}{H:Heap}{K:Unit->Heap->Prop}(I:Nat->Heap->Prop)(D:Heap->Prop)(hn:0<n)(hm:p.n=m*n)(hc:p.n<=p.c)(hbig:p.n<=1000000)(hnb:n<=1000000)
  (hI:∀k H',I k H'->dn H' c dM p.v/\dn H' c1 j7 (.int .i64 (n:Int))) (h0:I 0 H)
  (hs:∀k H',k<m->I k H'->cj KE l #[(Sl.mk (p.a.map (·.add (k*n))) n n).v] H' λb H''=>if b then I (k+1) H'' else D H'')
  (hfin:∀H',I m H'->K () H') (hD:∀H',D H'->K () H'):Bo.sp l c c1 H K:=by
 refine Bo.of ?_
 unfold Bo.vc
 refine ay m (λk i H'=>i=((k*n:Nat):Int)/\I k H') ⟨by simp,h0⟩ ?_
 rintro k i H1 next hk ⟨rfl,hIk⟩ hnext
 obtain⟨v,v1⟩:=hI k H1 hIk
 refine v.ld (c:=av) (x:=p) ?_
 refine ae (λh=>?_) (λh=>?_)
 ·have hlt:k<m:=by
   rcases Lr k m with q|q
   ·exact q
   ·have e:k=m:=by omega
    subst e;simp at h;omega
  have hle:k*n+n<=p.n:=by
   have:=Ly n (Nt hlt)
   rw[L7] at this;omega
  obtain⟨q,hq⟩:∃q,q=k*n:=⟨_,rfl⟩
  have hnx:(((k+1)*n:Nat):Int)=((q+n:Nat):Int):=by rw[hq,L7]
  have hsy:=hs k H1 hlt hIk
  rw[<-hq] at hle hsy ⊢
  refine v1.ld (c:=aa .i64) (x:=(n:Int)) ?_
  refine v.ld (c:=av) (x:=p) ?_
  refine⟨by omega,?_⟩
  refine v.ld (c:=av) (x:=p) ?_
  have eE:KG.wrap ((q:Int)+(if ((p.n - (q:Int).toNat:Nat):Int)<(n:Int) then ((p.n - (q:Int).toNat:Nat):Int) else (n:Int)))=((q+n:Nat):Int):=by
   have:(if ((p.n - (q:Int).toNat:Nat):Int)<(n:Int) then ((p.n - (q:Int).toNat:Nat):Int) else (n:Int))=(n:Int):=by split<;>omega
   rw[this,wrap64 (by omega) (by omega)];omega
  rw[eE]
  refine⟨by omega,by omega,by omega,?_⟩
  have ea:fP p.a ((q+n:Nat):Int).toNat (q:Int).toNat 1=p.a.map (·.add q):=by
   unfold fP
   rw[if_neg (by simp;omega)]
   simp
  have en:((q+n:Nat):Int).toNat - (q:Int).toNat=n:=by omega
  rw[ea,en]
  refine hsy.mono λb H2 hb=>?_
  cases b with
  |false=>exact hD H2 hb
  |true=>
    have hb':I (k+1) H2:=hb
    refine(hI _ _ hb').2.ld (c:=aa .i64) (x:=(n:Int)) ?_
    refine hnext hlt _ _ ⟨?_,hb'⟩
    rw[hnx,wrap64 (by omega) (by omega)];omega
 ·have e:k=m:=by
   rcases Lr k m with q|q
   ·have:=Ly n (Nt q)
    rw[L7] at this;simp at h;omega
   ·omega
  subst e
  exact hfin H1 hIk
theorem Ints.chunk {H:Heap}{p:Sl}{b:List Int}(hp:Ints .u8 H p b){k n:Nat}(hl:k*n+n<=b.length):Ints .u8 H (Sl.mk (p.a.map (·.add (k*n))) n n) (bI b n k):=by
 refine⟨by simp[bI];omega,?_⟩
 intro i v hv
 unfold bI at hv
 rw[Si,List.map_drop] at hv
 have hi:i<n:=by
  have:=(KI.1 hv).1;simp at this;omega
 rw[LB,if_pos hi,L5] at hv
 obtain⟨ad,e,hc⟩:=hp.reads _ _ hv
 exact⟨ad.add (k*n),by rw[e];rfl,by rw[add_add];exact hc⟩
structure om (H0:Heap)(B:Nat)(b:List Int)(w:Int)(p:Sl)(r2:Nat)(p1 p2 p3 p4 c c1:Addr)(k:Nat)(H:Heap):Prop where
 r2:H[r2]?=some (.deferred (some []))
 v1:dn H p1 j7 (.int .i64 w)
 v2:dn H p2 rC (.slice none 0 0)
 v3:dn H p3 HP (.int .i64 0)
 vc:dn H c dM p.v
 vc1:dn H c1 j7 (.int .i64 (bk w))
 rows:∃s rs,dn H p4 rC (Sl.v s)/\s.n=k/\aY H B s rs (rowsOf b w k)/\∀x∈rs,x.a≠none
 ext:Ext H0 H
 zero:w=0->∀j,j<k->b.getD j 0=0
theorem om.mod {H0:Heap}{B:Nat}{b:List Int}{w:Int}{p:Sl}{r2:Nat}{p1 p2 p3 p4 c c1:Addr}{k:Nat}{F:Nat->Prop}{H H':Heap}(h:om H0 B b w p r2 p1 p2 p3 p4 c c1 k H)(hm:Mod F H H')
  (h0:∀b,b<H0.size->¬F b) (hc:∀b cs t,H[b]?=some (.cells cs t (0,0))->¬F b) (hd:∀b d,H[b]?=some (.deferred d)->¬F b):om H0 B b w p r2 p1 p2 p3 p4 c c1 k H':=by
 obtain⟨s,rs,v4,hn,ro,nn⟩:=h.rows
 refine⟨(hm.same _ ?_ (hd _ _ h.r2)).trans h.r2,h.v1.mod hm (hc _ _ _ h.v1.obj),h.v2.mod hm (hc _ _ _ h.v2.obj),h.v3.mod hm (hc _ _ _ h.v3.obj),h.vc.mod hm (hc _ _ _ h.vc.obj),h.vc1.mod hm (hc _ _ _ h.vc1.obj),
  ⟨s,rs,v4.mod hm (hc _ _ _ v4.obj),hn,ro.mod hm (λb hb=>?_) (λr hr b hb=>?_),nn⟩,(h.ext.mod (F:=F).trans hm).ext (λb hb=>?_),h.zero⟩
 ·exact(KO.1 h.r2).1
 ·obtain⟨cur,q⟩:=ro.out.obj b hb;exact hc _ _ _ q
 ·obtain⟨l,hl⟩:=ro.rowAt hr
  obtain⟨cur,q⟩:=hl.obj b hb;exact hc _ _ _ q
 ·rcases Lr b H0.size with q|q
  ·exact absurd hb (h0 b q)
  ·exact q
theorem om.set {H0:Heap}{B:Nat}{b:List Int}{w:Int}{p:Sl}{r2:Nat}{p1 p2 p3 p4 c c1:Addr}{k l:Nat}{H:Heap}{x:Loop}{o:Obj}(h:om H0 B b w p r2 p1 p2 p3 p4 c c1 k H)(hl:H[l]?=some (.loop x))(hl0:H0.size<=l):
  om H0 B b w p r2 p1 p2 p3 p4 c c1 k (H.setIfInBounds l o):=
 h.mod (F:=λb=>b=l) (Mod.setObj rfl) (λb hb e=>by omega) (λb cs t hb e=>by subst e;rw[hl] at hb;cases hb) (λb d hb e=>by subst e;rw[hl] at hb;cases hb)
theorem om.IH {H0:Heap}{B:Nat}{b:List Int}{w:Int}{p:Sl}{r2:Nat}{p1 p2 p3 p4 c c1:Addr}{k:Nat}{H H':Heap}(h:om H0 B b w p r2 p1 p2 p3 p4 c c1 k H)(hm:Ext H H'):om H0 B b w p r2 p1 p2 p3 p4 c c1 k H':=
 h.mod hm (λ_ _=>id) (λ_ _ _ _=>id) (λ_ _ _=>id)
set_option maxHeartbeats 4000000 in
theorem Ad {p:Sl}{b:List Int}{w:Int}{H:Heap}{K:(Sl×Int)->Heap->Prop}(hp:Ints .u8 H p b)(hc:p.n<=p.c)(hbb:∀x∈b,0<=x/\x<256)(hlen:b.length<=1000000)
  (hK:∀s rs H',aY H' H.size s rs (gR b w)->Ext H H'->(∀x∈rs,x.a≠none)->K (s,lP b w) H'):Ec.sp p w H K:=by
 refine Ec.of ?_
 unfold Ec.vc
 rw[Fk,BN]
 have pn:=hp.len
 refine dH λp1 H1 hp1 s1 v1 e1=>?_
 refine dH λp2 H2 hp2 s2 v2 e2=>?_
 refine dH λp3 H3 hp3 s3 v3 e3=>?_
 have v1':=(v1.ext e2).ext e3
 have v2':=v2.ext e3
 have e03:Ext H H3:=(e1.trans e2).trans e3
 refine v1'.ld (c:=aa .i64) (x:=w) ?_
 -- the answer where the width is not one
 have bad:∀H4:Heap,dn H4 p2 rC (.slice none 0 0)->dn H4 p3 HP (.int .i64 60)->Ext H H4->dC b w=false->
   ld av H4 p2 λres=>ld (aa .i64) H4 p3 λres_1=>K (res,res_1) H4:=by
  intro H4 q2 q3 e hf
  refine q2.ld (c:=av) (x:=Sl.mk none 0 0) ?_
  refine q3.ld (c:=aa .i64) (x:=60) ?_
  have:=hK (Sl.mk none 0 0) [] H4 (by unfold gR;rw[hf];exact aY.nil _ _) e (by simp)
  unfold lP at this;rw[hf] at this;exact this
 have badW:dC b w=false->st H3 p2 (.slice none 0 0) λH5=>st H5 p3 (.int .i64 60) λH6=>ld av H6 p2 λres=>ld (aa .i64) H6 p3 λres_1=>K (res,res_1) H6:=by
  intro hf
  refine v2'.st rfl λH5 q2 m5 s5=>?_
  refine(v3.mod m5 (by omega)).st rfl λH6 q3 m6 s6=>?_
  exact bad H6 (q2.mod m6 (by omega)) q3 (((e03.mod (F:=λb=>b=p2.block\/b=p3.block).trans (m5.mono (λb _ h=>.inl h))).trans (m6.mono (λb _ h=>.inr h))).ext (λb hb=>by omega)) hf
 refine qS ?_
 refine ae (λh=>badW (by unfold dC;simp at h;simp[h])) (λh=>?_)
 have h':bk w≠0:=by simpa using h
 have hsz:=eX w
 refine⟨h',ae (λh2=>badW (by unfold dC;rw[pn] at h2;simp at h2;simp[h2])) (λh2=>?_)⟩
 have h2':LX (b.length:Int) (bk w)=0:=by rw[pn] at h2;simpa using h2
 obtain⟨n,hn⟩:∃n:Nat,bk w=(n:Int):=⟨(bk w).toNat,by omega⟩
 have hn0:0<n:=by omega
 obtain⟨m,hm⟩:∃m,m=b.length/n:=⟨_,rfl⟩
 have hmul:b.length=m*n:=by rw[hm];exact tmod_zero hn0 (by rw[<-hn];exact h2')
 have hw0:0<=w/\w<=16:=by
  unfold bk at h'
  split at h'
  ·exact absurd rfl h'
  ·omega
 have hnw:w≠0->n=8*w.toNat:=by
  intro hw;unfold bk at hn;rw[if_neg (by omega),if_neg hw] at hn;omega
 have hn1:w=0->n=1:=by intro hw;unfold bk at hn;rw[hw] at hn;simp at hn;omega
 have hdiv:m<=b.length:=by rw[hm];exact Oi _ _
 have ediv:KG.wrap (LP (p.n:Int) (bk w))=((m:Nat):Int):=by
  rw[pn,hn,<-Sa,<-hm,wrap64 (by omega) (by omega)]
 refine⟨h',?_⟩
 rw[ediv]
 refine GY.make (base:=H.size) (by omega) (by omega) (by omega) (by omega) e03.size ?_
 intro sl H9 n9 o9 e9 b9 _
 refine dH λp4 H10 hp4 s10 v4 e10=>?_
 refine v4.st rfl λH11 v4b m11 s11=>?_
 have m911:Ext H9 H11:=(e10.mod (F:=λb=>b=p4.block).trans m11).ext (λb hb=>by omega)
 have e011:Ext H H11:=(e03.trans e9).trans m911
 refine DA (by omega) λc c1 H12 hcb hc1b s12 vc vc1 e12=>?_
 have hcallable:dD KE Bo.no=true:=by kernel_rfl
 refine⟨Bo.no,#[.pointer (some c),.pointer (some c1)],rfl,hcallable,λrec hround=>?_⟩
 obtain⟨l,hl⟩:∃l,l=H12.size+1:=⟨_,rfl⟩
 obtain⟨r2,hr2⟩:∃r,r=H12.size:=⟨_,rfl⟩
 rw[<-hl] at hround ⊢
 rw[<-hr2]
 obtain⟨H13,hH13⟩:∃H13:Heap,H13=(H12.push (.deferred (some []))).push (.loop (rec .ready none)):=⟨_,rfl⟩
 rw[<-hH13]
 have e13:Ext H12 H13:=by rw[hH13];exact(Mod.push _ _ _).trans (Mod.push _ _ _)
 have hl13:H13[l]?=some (.loop (rec .ready none)):=by rw[hH13,hl,MA,if_pos (by simp)]
 have hr13:H13[r2]?=some (.deferred (some [])):=by rw[hH13,hr2];simp[MA]
 have hl0:H.size<=l:=by have:=(e011.trans e12).size;omega
 have hp24:p2.block≠p4.block:=by have:=e9.size;omega
 have e913:Ext H9 H13:=(m911.trans e12).trans e13
 have e313:Ext H3 H13:=e9.trans e913
 -- between the rounds
 let I:Nat->Heap->Prop:=λk H'=>H'[l]?=some (.loop (rec .ready none))/\om H H.size b w p r2 p1 p2 p3 p4 c c1 k H'
 let D:Heap->Prop:=λH'=>H'[l]?=some (.loop (rec .done (some .ret)))/\H'[r2]?=some (.deferred (some []))/\dn H' p2 rC (.slice none 0 0)/\dn H' p3 HP (.int .i64 60)/\Ext H H'/\dC b w=false
 refine Spec.mono (R:=λv H'=>∃x:Unit,v=(bg []).enc x/\l8 l rec H' _ _ _) (AT (l:=l) (c:=c) (c1:=c1) (p:=p) (n:=n) (m:=m) (H:=H13) (K:=λ_ H'=>l8 l rec H' _ _ _) I D hn0 (by rw[pn];exact hmul) hc (by omega) (by omega) ?_ ?_ ?_ ?_ ?_) (λv H' ⟨x,_,h⟩=>h)
 ·clear hround
  rintro k H' ⟨_,g⟩
  exact⟨g.vc,by have:=g.vc1;rw[hn] at this;exact this⟩
 ·clear hround
  refine⟨hl13,hr13,v1'.ext e313,v2'.ext e313,v3.ext e313,vc.ext e13,vc1.ext e13,⟨sl,[],(v4b.ext e12).ext e13,by simpa using n9,⟨by simpa using o9.ext e913,rfl,by simp,by simp⟩,by simp⟩,(e011.trans e12).trans e13,λ_ j hj=>by omega⟩
 ·-- a round
  rintro k H' hk ⟨hlr,g⟩
  refine hround [(Sl.mk (p.a.map (·.add (k*n))) n n).v] H' _ hlr ?_
  clear hround
  have hb2:k*n+n<=b.length:=by
   have:=Ly n (Nt hk)
   rw[L7] at this;omega
  have hk1:k<b.length:=by have:=PK k hn0;omega
  have hcl:=kK hmul hk
  show _/\_
  refine⟨hlr,?_⟩
  obtain⟨Hb,hHb⟩:∃Hb:Heap,Hb=H'.setIfInBounds l (.loop (rec .busy none)):=⟨_,rfl⟩
  rw[<-hHb]
  have gb:om H H.size b w p r2 p1 p2 p3 p4 c c1 k Hb:=by rw[hHb];exact g.set hlr hl0
  have hlb:Hb[l]?=some (.loop (rec .busy none)):=by rw[hHb];exact gi hlr
  refine⟨λ_ H14=>Hb=H14/\(w=0->b.getD k 0=0),?_,?_⟩
  ·refine gb.v1.ld (c:=aa .i64) (x:=w) ?_
   refine ae (λh4=>?_) (λh4=>⟨rfl,λhw=>by simp at h4;exact absurd hw h4⟩)
   have hw:w=0:=by simpa using h4
   have hci:=(hp.ext gb.ext).chunk hb2
   refine ir hci (i:=0) (j:=0) rfl (by omega) λad q=>?_
   rw[nq hn0,hn1 hw]
   have e0:k*1+0=k:=by omega
   rw[e0]
   refine ae (λh5=>?_) (λh5=>⟨rfl,λ_=>by simpa using h5⟩)
   have hf:=tj hw hk1 (by simpa using h5)
   refine gb.v2.st rfl λH15 q2 m15 s15=>?_
   have hp23:p3.block≠p2.block:=by omega
   refine(gb.v3.mod m15 hp23).st rfl λH16 q3 m16 s16=>?_
   have mm:Mod (λb=>b=p2.block\/b=p3.block) Hb H16:=(m15.mono (λb _ h=>.inl h)).trans (m16.mono (λb _ h=>.inr h))
   have hll:l<Hb.size:=(KO.1 hlb).1
   have h16:H16[l]?=some (.loop (rec .busy none)):=(mm.same l hll (by
    rintro(e|e)
    ·have:=gb.v2.obj;rw[<-e,hlb] at this;cases this
    ·have:=gb.v3.obj;rw[<-e,hlb] at this;cases this)).trans hlb
   have hrr:r2<Hb.size:=(KO.1 gb.r2).1
   have h16r:H16[r2]?=some (.deferred (some [])):=(mm.same r2 hrr (by
    rintro(e|e)
    ·have:=gb.v2.obj;rw[<-e,gb.r2] at this;cases this
    ·have:=gb.v3.obj;rw[<-e,gb.r2] at this;cases this)).trans gb.r2
   refine⟨h16,?_⟩
   show D _
   have m17:Mod (λb=>b=l) H16 (H16.setIfInBounds l (.loop (rec .done (some .ret)))):=Mod.setObj rfl
   have hne:∀q:Addr,∀t v,dn H16 q t v->q.block≠l:=λq t v hv e=>by have:=hv.obj;rw[e,h16] at this;cases this
   have q2':=q2.mod m16 (Ne.symm hp23)
   refine⟨gi h16,(m17.same r2 (KO.1 h16r).1 (by omega)).trans h16r,q2'.mod m17 (hne _ _ _ q2'),q3.mod m17 (hne _ _ _ q3),?_,hf⟩
   have e16:Ext H H16:=(gb.ext.mod (F:=λb=>b=p2.block\/b=p3.block).trans mm).ext (λb hb=>by omega)
   exact(e16.mod (F:=λb=>b=l).trans m17).ext (λb hb=>by omega)
  ·rintro _ H14 ⟨rfl,hzero⟩
   refine gb.v1.ld (c:=aa .i64) (x:=w) ?_
   refine pk.make (base:=H.size) hw0.1 (Int.le_refl _) (by omega) (by omega) gb.ext.size ?_
   intro sl1 H17 n17 o17 e17 b17 nn17
   have g17:=gb.IH e17
   refine g17.v1.ld (c:=aa .i64) (x:=w) ?_
   rw[wrap64 (x:=8*w) (by omega) (by omega)]
   refine ay (8*w.toNat) (λi z H'=>z=(i:Int)/\aT H' H.size eL 1 sl1 ((rowOf ((bI b n k).take i) w.toNat).map (Lb .u64))/\Ext Hb H') ⟨rfl,by simpa[AX] using o17,e17⟩ ?_
   rintro i z H18 next hi ⟨rfl,o18,e18⟩ hnext
   refine ae (λh6=>?_) (λh6=>?_)
   ·have hi8:i<8*w.toNat:=by simp at h6;omega
    have hw:w≠0:=by omega
    have hn8:=hnw hw
    have ei:KG.wrap (LP (i:Int) 8)=((i/8:Nat):Int):=by
     rw[show (8:Int)=((8:Nat):Int) from rfl,<-Sa,wrap64 (by omega) (by omega)]
    rw[ei]
    have hq:i/8<w.toNat:=by omega
    refine o18.ints.ld (by omega) (by rw[fm];omega) λad1 q1=>?_
    refine((hp.ext (gb.ext.trans e18)).chunk hb2).ld (by omega) (by omega) λad2 q2=>?_
    simp only[KU]
    have hr:=gT ((((bI b n k).take i).drop (8*(i/8))).take 8)
    have hx:(rowOf ((bI b n k).take i) w.toNat).getD (i/8) 0=bH ((((bI b n k).take i).drop (8*(i/8))).take 8):=by
     simp only[rowOf,Lo,Le,Ob hq,NL,M6]
    have hby:0<=(bI b n k).getD i 0/\(bI b n k).getD i 0<256:=by
     have hi2:i<(bI b n k).length:=by omega
     simp only[Lo,KJ hi2,M6]
     exact hbb _ (Mf (Me (Lt hi2)))
    rw[Du (by rw[hx];exact hr.1) (by rw[hx];exact hr.2) hby.1 hby.2]
    refine o18.st (by omega) (by rw[n17];omega) rfl λH19 o19 m19 s19=>?_
    refine hnext hi8 _ _ ⟨by rw[aI i (by omega)],?_,(e18.mod (F:=al sl1).trans m19).ext b17⟩
    rw[<-xY (by omega) (by omega)]
    simp only[KU,<-List.map_set] at o19
    exact o19
   ·have hi8:i=8*w.toNat:=by simp at h6;omega
    have hfull:rowOf ((bI b n k).take i) w.toNat=rowOf (bI b n k) w.toNat:=by
     by_cases hw:w=0
     ·rw[hw];rfl
     ·rw[KT (by rw[hcl,hnw hw];omega)]
    rw[hfull] at o18
    have g18:=gb.IH e18
    obtain⟨s,rs,v4s,hsn,ro,nn⟩:=gb.rows
    have ro18:=ro.ext e18
    refine(v4s.ext e18).ld (c:=av) (x:=s) ?_
    refine ro18.push o18 (λr' hr' x hx hx'=>?_) (by omega) (gb.ext.trans e18).size ?_
    ·have h1:=(ro.block.2 r' hr' x hx').2
     have h2:=b17 x hx
     omega
    intro s7 H21 n21 r21 m21
    have hne4:¬al s p4.block:=λhb=>by
     obtain⟨cur,q⟩:=ro18.out.obj _ hb
     exact absurd (aQ q (v4s.ext e18).obj) (by decide)
    refine((v4s.ext e18).mod m21 hne4).st rfl λH22 v22 m22 s22=>?_
    have hb21:∀b,al s b->H.size<=b:=λb hb=>(ro.block.1 b hb).1
    have hl18:H18[l]?=some (.loop (rec .busy none)):=(e18.same l (KO.1 hlb).1 id).trans hlb
    have hl21:H21[l]?=some (.loop (rec .busy none)):=(m21.same l (KO.1 hl18).1 (λhb=>by
     obtain⟨cur,q⟩:=ro18.out.obj _ hb;rw[hl18] at q;cases q)).trans hl18
    have hl22:H22[l]?=some (.loop (rec .busy none)):=(m22.same l (KO.1 hl21).1 (λhb=>by
     have q:=(v4s.ext e18).mod m21 hne4
     have:=q.obj;rw[<-hb,hl21] at this;cases this)).trans hl21
    refine⟨hl22,?_⟩
    show I (k+1) _
    have mm:Mod (λb=>al s b\/b=p4.block) H18 H22:=(m21.mono (λb _ h=>.inl h)).trans (m22.mono (λb _ h=>.inr h))
    have ak:∀{q:Addr} {t:TypeId} {v:Value},dn H18 q t v->t≠lU->q.block≠p4.block->dn H22 q t v:=by
     intro q t v hv ht hq
     refine hv.mod mm ?_
     rintro(hb|hb)
     ·obtain⟨cur,q1⟩:=ro18.out.obj _ hb
      have:=hv.obj;rw[this] at q1;simp at q1;exact ht q1.2
     ·exact hq hb
    have g22:om H H.size b w p r2 p1 p2 p3 p4 c c1 (k+1) H22:=by
     have hr18:r2<H18.size:=(KO.1 g18.r2).1
     refine⟨(mm.same r2 hr18 ?_).trans g18.r2,ak g18.v1 (by decide) (by have:=e9.size;omega),ak g18.v2 (by decide) hp24,ak g18.v3 (by decide) (by have:=e9.size;omega),ak g18.vc (by decide) (by have:=e9.size;omega),ak g18.vc1 (by decide) (by have:=e9.size;omega),⟨s7,rs++[sl1],v22,by omega,?_,λx hx=>by rcases KW.1 hx with q|q;exact nn x q;simp at q;subst q;exact nn17⟩,?_,?_⟩
     ·rintro(hb|hb)
      ·obtain⟨cur,q1⟩:=ro18.out.obj _ hb
       rw[g18.r2] at q1;cases q1
      ·have:=(v4s.ext e18).obj;rw[<-hb,g18.r2] at this;cases this
     ·rw[oX,hn]
      have r21':aY H21 H.size s7 (rs++[sl1]) (rowsOf b w k++[rowOf (bI b n k) w.toNat]):=r21
      have v21:=(v4s.ext e18).mod m21 hne4
      refine r21'.mod m22 (λb hb e=>?_) (λr hr b hb e=>?_)
      ·obtain⟨cur,q1⟩:=r21'.out.obj _ hb
       rw[e] at q1;exact absurd (aQ q1 v21.obj) (by decide)
      ·obtain⟨lx,hlx⟩:=r21'.rowAt hr
       obtain⟨cur,q1⟩:=hlx.obj _ hb
       rw[e] at q1;exact absurd (aQ q1 v21.obj) (by decide)
     ·exact((Ext.mod (F:=λb=>al s b\/b=p4.block) (gb.ext.trans e18)).trans mm).ext (λb hb=>by
       rcases hb with hb|hb
       ·exact hb21 b hb
       ·have:=(e03.trans e9).size;omega)
     ·intro hw j hj
      rcases Lr j k with q|q
      ·exact gb.zero hw j q
      ·have:j=k:=by omega
       rw[this];exact hzero hw
    exact⟨gi hl22,g22.set hl22 hl0⟩
 ·-- all rounds are done
  clear hround
  rintro H' ⟨hlr,g⟩
  refine⟨.ready,none,hlr,rfl,?_⟩
  obtain⟨H'',hH''⟩:∃H'':Heap,H''=H'.setIfInBounds l (.loop (rec .exhausted none)):=⟨_,rfl⟩
  show ld _ _ _ _
  rw[<-hH'']
  have g2:om H H.size b w p r2 p1 p2 p3 p4 c c1 m H'':=by rw[hH''];exact g.set hlr hl0
  obtain⟨s,rs,v4s,hsn,ro,nn⟩:=g2.rows
  refine v4s.ld (c:=av) (x:=s) ?_
  refine g2.v2.st rfl λH24 q2 m24 s24=>?_
  have hp23:p3.block≠p2.block:=by omega
  refine(g2.v3.mod m24 hp23).st rfl λH25 q3 m25 s25=>?_
  have mm:Mod (λb=>b=p2.block\/b=p3.block) H'' H25:=(m24.mono (λb _ h=>.inl h)).trans (m25.mono (λb _ h=>.inr h))
  have hr:r2<H''.size:=(KO.1 g2.r2).1
  have h25r:H25[r2]?=some (.deferred (some [])):=(mm.same r2 hr (by
   rintro(e|e)
   ·have:=g2.v2.obj;rw[<-e,g2.r2] at this;cases this
   ·have:=g2.v3.obj;rw[<-e,g2.r2] at this;cases this)).trans g2.r2
  refine⟨h25r,?_⟩
  have m26:Mod (λb=>b=r2) H25 (H25.setIfInBounds r2 (.deferred none)):=Mod.setObj rfl
  have hne:∀{q:Addr} {t:TypeId} {v:Value},dn H25 q t v->¬q.block=r2:=λhv e=>by have:=hv.obj;rw[e,h25r] at this;cases this
  have q2':=q2.mod m25 (Ne.symm hp23)
  refine(q2'.mod m26 (hne q2')).ld (c:=av) (x:=s) ?_
  refine(q3.mod m26 (hne q3)).ld (c:=aa .i64) (x:=0) ?_
  have hok:dC b w=true:=ml h' h2' (λhw j hj=>g2.zero hw j (by rw[hm,hn1 hw];simpa using hj))
  have mAll:Mod (λb=>b=p2.block\/b=p3.block\/b=r2) H'' (H25.setIfInBounds r2 (.deferred none)):=(mm.mono (λb _ h=>by rcases h with h|h;exact .inl h;exact .inr (.inl h))).trans (m26.mono (λb _ h=>.inr (.inr h)))
  have hcells:∀b cs t,H''[b]?=some (.cells cs t (0,0))->t≠rC->t≠HP->¬(b=p2.block\/b=p3.block\/b=r2):=by
   rintro b cs t hb h1 h2 (e|e|e)
   ·have:=g2.v2.obj;rw[<-e,hb] at this;simp at this;exact h1 this.2
   ·have:=g2.v3.obj;rw[<-e,hb] at this;simp at this;exact h2 this.2
   ·rw[e,g2.r2] at hb;cases hb
  have:=hK s rs (H25.setIfInBounds r2 (.deferred none)) (by
   unfold gR;rw[hok,if_pos rfl,hn];simp only[KU];rw[<-hm]
   refine ro.mod mAll (λb hb=>?_) (λr hr b hb=>?_)
   ·obtain⟨cur,q1⟩:=ro.out.obj _ hb
    exact hcells _ _ _ q1 (by decide) (by decide)
   ·obtain⟨lx,hlx⟩:=ro.rowAt hr
    obtain⟨cur,q1⟩:=hlx.obj _ hb
    exact hcells _ _ _ q1 (by decide) (by decide)) ((g2.ext.mod (F:=λb=>b=p2.block\/b=p3.block\/b=r2).trans mAll).ext (λb hb=>by
     have:=(e011.trans e12).size
     omega)) nn
  unfold lP at this;rw[hok] at this;exact this
 ·-- left by a return
  clear hround
  rintro H' ⟨hlr,hrr,q2,q3,e,hf⟩
  refine⟨.done,some .ret,hlr,rfl,?_⟩
  obtain⟨H'',hH''⟩:∃H'':Heap,H''=H'.setIfInBounds l (.loop (rec .exhausted (some .ret))):=⟨_,rfl⟩
  show _/\_
  rw[<-hH'']
  have m1:Mod (λb=>b=l) H' H'':=by rw[hH''];exact Mod.setObj rfl
  have hne:∀{q:Addr} {t:TypeId} {v:Value},dn H' q t v->¬q.block=l:=λhv e=>by have:=hv.obj;rw[e,hlr] at this;cases this
  have hrr':H''[r2]?=some (.deferred (some [])):=(m1.same r2 (KO.1 hrr).1 (by omega)).trans hrr
  refine⟨hrr',?_⟩
  have m2:Mod (λb=>b=r2) H'' (H''.setIfInBounds r2 (.deferred none)):=Mod.setObj rfl
  have hne2:∀{q:Addr} {t:TypeId} {v:Value},dn H'' q t v->¬q.block=r2:=λhv e=>by have:=hv.obj;rw[e,hrr'] at this;cases this
  have q2':=q2.mod m1 (hne q2)
  have q3':=q3.mod m1 (hne q3)
  exact bad _ (q2'.mod m2 (hne2 q2')) (q3'.mod m2 (hne2 q3')) (((e.mod (F:=λb=>b=l\/b=r2).trans (m1.mono (λb _ h=>.inl h))).trans (m2.mono (λb _ h=>.inr h))).ext (λb hb=>by
   have:=(e011.trans e12).size
   omega)) hf
theorem sL {p:Sl}{b:List Int}{w:Int}{H:Heap}{K:(Sl×Int)->Heap->Prop}(hp:Ints .u8 H p b)(hc:p.n<=p.c)(hbb:∀x∈b,0<=x/\x<256)(hlen:b.length<=1000000)
  (hK:∀s rs H',aY H' H.size s rs (gR b w)->Ext H H'->K (s,lP b w) H'):Ec.sp p w H K:=Ad hp hc hbb hlen λs rs H' r e _=>hK s rs H' r e
theorem cU (n:Int)(k:Nat):0<=gL n k/\gL n k<256:=by
 unfold gL
 rw[Rv];omega
theorem fY (l:List Int):∀x∈cg l,0<=x/\x<256:=by
 intro x hx
 unfold cg at hx
 split at hx
 ·simp at hx;omega
 ·obtain⟨n,_,hn⟩:=LZ.1 hx
  obtain⟨k,_,hk⟩:=KZ.1 hn
  rw[<-hk];exact cU n k
def cC (l:List Int):List UInt8:=l.map λx=>Lf x.toNat
@[simp] theorem gh (b:List UInt8):(dy b).length=b.length:=by simp[dy]
@[simp] theorem ca (b:List Int):(cC b).length=b.length:=by simp[cC]
theorem mV {l:List Int}(h:∀x∈l,0<=x/\x<256):dy (cC l)=l:=by
 unfold dy cC
 rw[Md]
 conv=>rhs;rw[<-List.map_id l]
 refine MV λx hx=>?_
 obtain⟨a,b⟩:=h x hx
 simp only[Function.comp,UInt8.toNat_ofNat',id]
 omega
structure Rb where
 name:ByteArray
 width:Int
 wrong:Int
 closed:Bool
def Rb.ready (b:Rb):Int:=if b.wrong≠0 then b.wrong else if b.closed then 2 else 0
def Rb.bO (b:Rb)(e:Int):Rb:=if e≠0 then {b with wrong:=e} else b
structure RW where
 b:Rb
 wait:List UInt8
 n:Nat
 last:List Int
 rows:Nat
def RW.out (w:RW)(p:Pl):Pl×RW×Int:=
 if w.n=0 then (p,w,0)
 else ((p.more w.b.name 1 w.wait).1,{w with b:=w.b.bO (p.more w.b.name 1 w.wait).2,wait:=[],n:=0},(p.more w.b.name 1 w.wait).2)
def rA (n:ByteArray)(w:Int):RW:=⟨⟨n,w,0,false⟩,[],0,[],0⟩
def aJ (p:Pl)(n:ByteArray)(w:Int):Pl×Option RW×Int:=
 if aW w=0 then (p,none,60)
 else if (p.d.create n).2≠0 then (p.aZ (p.d.create n).1,none,(p.d.create n).2)
 else if ((p.aZ (p.d.create n).1).more n 0 []).2≠0 then (((p.aZ (p.d.create n).1).more n 0 []).1,none,((p.aZ (p.d.create n).1).more n 0 []).2)
 else (((p.aZ (p.d.create n).1).more n 0 []).1,some (rA n w),0)
def RW.push (w:RW)(l:List Int):RW:={w with wait:=w.wait++cC (cg l),n:=w.n+1,last:=l,rows:=w.rows+1}
def RW.add (w:RW)(p:Pl)(l:List Int):Pl×RW×Int:=
 if w.b.ready≠0 then (p,w,w.b.ready)
 else if (l.length:Int)≠w.b.width then (p,w,60)
 else if 0<w.rows/\bz l w.last<=0 then (p,w,70)
 else if ((w.n+1:Nat):Int)<aW w.b.width then (p,w.push l,0)
 else (w.push l).out p
def bL (width:Int)(rows:Nat):List UInt8:=Lf width.toNat::cC (cg [(rows:Int)])
def RW.head (w:RW)(p:Pl):Pl×Int:=
 if (p.aR w.b.name 0).2.2≠0 then ((p.aR w.b.name 0).1,(p.aR w.b.name 0).2.2)
 else if (Pl.leave ((p.aR w.b.name 0).1.set (p.aR w.b.name 0).2.1 2 (bL w.b.width w.rows)) (p.aR w.b.name 0).2.1).2≠0 then Pl.leave ((p.aR w.b.name 0).1.set (p.aR w.b.name 0).2.1 2 (bL w.b.width w.rows)) (p.aR w.b.name 0).2.1
 else (Pl.leave ((p.aR w.b.name 0).1.set (p.aR w.b.name 0).2.1 2 (bL w.b.width w.rows)) (p.aR w.b.name 0).2.1).1.flush w.b.name
def RW.stop (w:RW):RW:={w with b:={w.b with closed:=true}}
def RW.ends (w:RW)(p:Pl):Pl×RW×Nat×Int:=
 if (w.head p).2≠0 then ((w.head p).1,{w with b:=w.b.bO (w.head p).2},0,(w.head p).2) else ((w.head p).1,w.stop,w.rows,0)
def RW.close (w:RW)(p:Pl):Pl×RW×Nat×Int:=
 if w.b.ready≠0 then (p,w,0,w.b.ready)
 else if (w.out p).2.2≠0 then ((w.out p).1,(w.out p).2.1,0,(w.out p).2.2)
 else (w.out p).2.1.ends (w.out p).1
structure RR where
 b:Rb
 rows:Nat
 at_:Nat
 page:Option Nat
 ins:List (List Int)
def Rb.room (b:Rb):Nat:=(aW b.width).toNat
def az (n room:Nat):Nat:=(n+room - 1)/room
def rnOpen (p:Pl)(n:ByteArray)(w:Int):Pl×Option RR×Int:=
 if aW w=0 then (p,none,60)
 else if (p.look n 0).2.2.2≠0 then ((p.look n 0).1,none,(p.look n 0).2.2.2)
 else if ¬((p.look n 0).2.1=2/\(p.look n 0).2.2.1.length=9/\(((p.look n 0).2.2.1.getD 0 0).toNat:Int)=w) then ((p.look n 0).1,none,280)
 else if ((p.look n 0).1.d.len n).2≠0 then ((p.look n 0).1,none,((p.look n 0).1.d.len n).2)
 else if bH (dy ((p.look n 0).2.2.1.drop 1))<=528482304/\((p.look n 0).1.d.len n).1=1+az (bH (dy ((p.look n 0).2.2.1.drop 1))).toNat (aW w).toNat then
  ((p.look n 0).1,some ⟨⟨n,w,0,false⟩,(bH (dy ((p.look n 0).2.2.1.drop 1))).toNat,0,none,[]⟩,0)
 else ((p.look n 0).1,none,280)
def RR.fits (r:RR)(k:Nat)(kind:UInt8)(b:List UInt8):Bool:=
 kind==1&&dC (dy b) r.b.width&&decide ((gR (dy b) r.b.width).length=min r.b.room (r.rows - k*r.b.room))
def RR.load (r:RR)(p:Pl)(k:Nat):Pl×RR×Int:=
 if r.page=some k then (p,r,0)
 else if (p.look r.b.name ((k:Int)+1)).2.2.2≠0 then ((p.look r.b.name ((k:Int)+1)).1,{r with b:=r.b.bO (p.look r.b.name ((k:Int)+1)).2.2.2},(p.look r.b.name ((k:Int)+1)).2.2.2)
 else if r.fits k (p.look r.b.name ((k:Int)+1)).2.1 (p.look r.b.name ((k:Int)+1)).2.2.1 then
  ((p.look r.b.name ((k:Int)+1)).1,{r with page:=some k,ins:=gR (dy (p.look r.b.name ((k:Int)+1)).2.2.1) r.b.width},0)
 else ((p.look r.b.name ((k:Int)+1)).1,{r with b:=r.b.bO 280},280)
def RR.next (r:RR)(p:Pl):Pl×RR×List Int×Bool×Int:=
 if r.b.ready≠0 then (p,r,[],false,r.b.ready)
 else if r.at_=r.rows then (p,r,[],false,0)
 else if (r.load p (r.at_/r.b.room)).2.2≠0 then ((r.load p (r.at_/r.b.room)).1,(r.load p (r.at_/r.b.room)).2.1,[],false,(r.load p (r.at_/r.b.room)).2.2)
 else ((r.load p (r.at_/r.b.room)).1,{(r.load p (r.at_/r.b.room)).2.1 with at_:=r.at_+1},(r.load p (r.at_/r.b.room)).2.1.ins.getD (r.at_%r.b.room) [],true,0)
def jU (l:List (List Int)):List Int:=l.getD (l.length - 1) []
def RR.cJ (low:List Int):Nat->Nat->Nat->Pl->RR->Pl×RR×Nat×Int
 |0,i,_,p,r=>(p,r,i,0)
 |f+1,i,j,p,r=>
   if i<j then
    if (r.load p ((i+j)/2)).2.2≠0 then ((r.load p ((i+j)/2)).1,(r.load p ((i+j)/2)).2.1,i,(r.load p ((i+j)/2)).2.2)
    else if bz (jU (r.load p ((i+j)/2)).2.1.ins) low<0 then RR.cJ low f ((i+j)/2+1) j (r.load p ((i+j)/2)).1 (r.load p ((i+j)/2)).2.1
    else RR.cJ low f i ((i+j)/2) (r.load p ((i+j)/2)).1 (r.load p ((i+j)/2)).2.1
   else (p,r,i,0)
def below (low:List Int)(ls:List (List Int)):Nat:=(ls.takeWhile λl=>decide (bz l low<0)).length
def RR.goto (r:RR)(p:Pl)(low:List Int)(k:Nat):Pl×RR×Int:=
 if k=az r.rows r.b.room then (p,{r with at_:=r.rows},0)
 else if (r.load p k).2.2≠0 then r.load p k
 else ((r.load p k).1,{(r.load p k).2.1 with at_:=k*r.b.room+below low (r.load p k).2.1.ins},0)
def RR.find (r:RR)(p:Pl)(low:List Int):Pl×RR×Nat×Int:=RR.cJ low (az r.rows r.b.room) 0 (az r.rows r.b.room) p r
def RR.bS (r:RR)(p:Pl)(low:List Int):Pl×RR×Int:=
 if r.b.ready≠0 then (p,r,r.b.ready)
 else if (low.length:Int)>r.b.width then (p,r,60)
 else if (r.find p low).2.2.2≠0 then ((r.find p low).1,(r.find p low).2.1,(r.find p low).2.2.2)
 else (r.find p low).2.1.goto (r.find p low).1 low (r.find p low).2.2.1
def RR.stop (r:RR):RR:={r with b:={r.b with closed:=true}}
open Go.ChangeShapes Go.WideShapes Go.ChangeAt Go.RowKit
end Go.Proofs.YtdpdmbceakdlmaaGreatDoor
namespace Go.Proofs.YtdpdmbceakdlmaaGreatDoor
theorem eV (n:Int)(k:Nat)(d:Int)(hd:(2:Int)^(min (56 - 8*(k:Int)).toNat K0.bits)=d)(h0:0<=d):gL n k=n/d%256:=by
 unfold gL cI
 rw[Rv,hd,Int.fdiv_eq_ediv_of_nonneg _ h0]
theorem wb {n:Int}(h0:0<=n)(h1:n<18446744073709551616):∃b0 b1 b2 b3 b4 b5 b6 b7:Int,cL n=[b0,b1,b2,b3,b4,b5,b6,b7]/\
  (0<=b0/\b0<256)/\(0<=b1/\b1<256)/\(0<=b2/\b2<256)/\(0<=b3/\b3<256)/\(0<=b4/\b4<256)/\(0<=b5/\b5<256)/\(0<=b6/\b6<256)/\(0<=b7/\b7<256)/\
  n=b0*72057594037927936+b1*281474976710656+b2*1099511627776+b3*4294967296+b4*16777216+b5*65536+b6*256+b7:=by
 refine⟨gL n 0,gL n 1,gL n 2,gL n 3,gL n 4,gL n 5,gL n 6,gL n 7,rfl,cU n 0,cU n 1,cU n 2,cU n 3,cU n 4,cU n 5,cU n 6,cU n 7,?_⟩
 rw[eV n 0 72057594037927936 (by decide) (by decide),eV n 1 281474976710656 (by decide) (by decide),eV n 2 1099511627776 (by decide) (by decide),eV n 3 4294967296 (by decide) (by decide),
  eV n 4 16777216 (by decide) (by decide),eV n 5 65536 (by decide) (by decide),eV n 6 256 (by decide) (by decide),eV n 7 1 (by decide) (by decide)]
 omega
theorem du {w b:Int}(h0:0<=w)(h1:w<72057594037927936)(h2:0<=b)(h3:b<256):kA w b=w*256+b:=by
 unfold kA
 simp only[kD]
 omega
theorem tX {n:Int}(h0:0<=n)(h1:n<18446744073709551616):bH (cL n)=n:=by
 obtain⟨b0,b1,b2,b3,b4,b5,b6,b7,e,r0,r1,r2,r3,r4,r5,r6,r7,hs⟩:=wb h0 h1
 rw[e]
 unfold bH
 simp only[Nf,Ri]
 rw[du (w:=0) (by omega) (by omega) r0.1 r0.2,du (by omega) (by omega) r1.1 r1.2,du (by omega) (by omega) r2.1 r2.2,du (by omega) (by omega) r3.1 r3.2,
  du (by omega) (by omega) r4.1 r4.2,du (by omega) (by omega) r5.1 r5.2,du (by omega) (by omega) r6.1 r6.2,du (by omega) (by omega) r7.1 r7.2]
 omega
def jW (l:List Int):Prop:=∀x∈l,0<=x/\x<18446744073709551616
theorem ma {n:Nat}:∀(L:List (List Int)),(∀l∈L,l.length=n)->∀k (hk:k<L.length),((L.flatten).drop (k*n)).take n=L[k]
 |[],_,k,hk=>by simp at hk
 |l::L,h,0,_=>by
   have:=h l KV
   simp[<-this]
 |l::L,h,k+1,hk=>by
   have h1:=h l KV
   have ih:=ma L (λx hx=>h x (K7 _ hx)) k (by simpa using hk)
   rw[RE,L7,NG,List.drop_append,LK (by omega),List.nil_append]
   have:n+k*n - l.length=k*n:=by omega
   rw[this]
   simpa using ih
theorem vK {n:Nat}:∀(L:List (List Int)),(∀l∈L,l.length=n)->L.flatten.length=L.length*n
 |[],_=>by simp
 |l::L,h=>by
   rw[RE,Lj,h l KV,vK L (λx hx=>h x (K7 _ hx))]
   simp[L7];omega
theorem zW {l:List Int}{w:Nat}(hl:l.length=w)(hf:jW l):rowOf (cg l) w=l:=by
 by_cases h:l=[]
 ·subst h;simp at hl;subst hl;rfl
 ·unfold cg
  rw[if_neg h]
  apply P6
  ·simp[rowOf,hl]
  ·intro j h1 h2
   simp only[rowOf,Nl,Pu]
   have:=ma (n:=8) (l.map cL) (by intro x hx;obtain⟨y,_,rfl⟩:=KZ.1 hx;exact bM y) j (by simpa using h2)
   rw[<-OY] at this
   rw[NK,this]
   simp only[Nl]
   exact tX (hf _ (Lt h2)).1 (hf _ (Lt h2)).2
theorem lf {l:List Int}{w:Nat}(hl:l.length=w)(hw:w<=16):(cg l).length=(bk w).toNat/\0<(bk w).toNat:=by
 unfold cg bk
 by_cases h:l=[]
 ·subst h;simp at hl;subst hl;simp
 ·have:0<l.length:=Oc.2 h
  rw[if_neg h,if_neg (by omega),if_neg (by omega),oW]
  omega
theorem mw {L:List (List Int)}{w:Nat}(hw:w<=16)(hl:∀l∈L,l.length=w)(hf:∀l∈L,jW l):gR (L.flatMap cg) w=L/\lP (L.flatMap cg) w=0:=by
 have hlen:∀l∈L.map cg,l.length=(bk w).toNat:=by
  intro l h
  obtain⟨x,hx,rfl⟩:=KZ.1 h
  exact(lf (hl x hx) hw).1
 have hn0:0<(bk w).toNat:=(lf (l:=KY w 0) (by simp) hw).2
 have htot:(L.flatMap cg).length=L.length*(bk w).toNat:=by
  rw[OY,vK _ hlen];simp
 have hok:dC (L.flatMap cg) w=true:=by
  refine ml (by omega) ?_ ?_
  ·have e:bk w=(((bk w).toNat:Nat):Int):=by omega
   rw[e,htot,<-R9,Nat.mul_mod_left];rfl
  ·intro h0 k hk
   have h0':w=0:=by omega
   subst h0'
   have:∀x∈L.flatMap cg,x=0:=by
    intro x hx
    obtain⟨l,h1,h2⟩:=LZ.1 hx
    have:l=[]:=Lq (hl l h1)
    subst this
    simpa[cg] using h2
   simp only[Lo,KJ hk,M6]
   exact this _ (Lt hk)
 unfold gR lP
 rw[hok,if_pos rfl,if_pos rfl,htot,Nat.mul_div_cancel _ hn0]
 refine⟨?_,rfl⟩
 apply P6
 ·simp[rowsOf]
 ·intro k h1 h2
  simp only[rowsOf,Nl,Pu]
  have:=ma (L.map cg) hlen k (by simpa using h2)
  rw[<-OY] at this
  unfold bI
  rw[this]
  simp only[Nl,KU]
  exact zW (hl _ (Lt h2)) (hf _ (Lt h2))
theorem mE:∀{a b c:List Int},bz a b<0->bz b c<0->bz a c<0
 |[],[],_,h,_=>by simp[bz] at h
 |[],_::_,[],_,h=>by simp[bz] at h
 |[],_::_,_::_,_,_=>by simp[bz]
 |_::_,[],_,h,_=>by simp[bz] at h
 |_::_,_::_,[],_,h=>by simp[bz] at h
 |x::a,y::b,z::c,h1,h2=>by
   simp only[bz] at h1 h2 ⊢
   have ih:=@mE a b c
   split at h1
   ·split at h2
    ·rw[if_pos (by omega)];decide
    ·split at h2
     ·omega
     ·rw[if_pos (by omega)];decide
   ·split at h1
    ·omega
    ·split at h2
     ·rw[if_pos (by omega)];decide
     ·split at h2
      ·omega
      ·rw[if_neg (by omega),if_neg (by omega)];exact ih h1 h2
theorem yP {a b:List Int}:0<bz a b↔bz b a<0:=by rw[sZ b a];omega
theorem tE (a:List Int):bz a a=0:=sh.2 rfl
structure iv (W:Nat)(rs:List (List Int)):Prop where
 len:∀l∈rs,l.length=W
 fit:∀l∈rs,jW l
 up:∀i,i+1<rs.length->bz (rs.getD i []) (rs.getD (i+1) [])<0
def vf (W:Nat):Nat:=if W=0 then 1 else 8*W
def bC (W:Nat):Nat:=504/vf W
theorem Ff (W:Nat):1<=vf W:=by unfold vf;split<;>omega
theorem bQ {W:Nat}(h1:0<=W)(h2:W<=16):aW W=((bC W:Nat):Int)/\3<=bC W/\bC W*vf W<=504/\bC W<=504:=by
 have hs:bk W=(vf W:Int):=by
  unfold bk vf
  rw[if_neg (by omega)]
  by_cases h:W=0
  ·rw[if_pos (by omega),if_pos h];rfl
  ·rw[if_neg (by omega),if_neg h];omega
 have hp:=Ff W
 have hm:vf W<=128:=by unfold vf;split<;>omega
 refine⟨?_,?_,Nat.div_mul_le_self _ _,Oi _ _⟩
 ·unfold aW
  rw[if_neg (by rw[hs];omega),hs,Int.tdiv_eq_ediv_of_nonneg (by omega)]
  exact(Int.natCast_ediv 504 (vf W)).symm
 ·unfold bC
  rw[Nat.le_div_iff_mul_le (by omega)];omega
def xj (l:List Int):List UInt8:=cC (cg l)
theorem wF {l:List Int}(h:l≠[]):(xj l).length=8*l.length:=by
 unfold xj cg
 rw[if_neg h,ca,Oe]
 have:∀l:List Int,(l.map λx=>(cL x).length).sum=8*l.length:=by
  intro l
  induction l with
  |nil=>rfl
  |cons x l ih=>rw[Lp,Mp,ih];simp[cL];omega
 exact this l
def cz (L:List (List Int)):List UInt8:=L.flatMap xj
theorem AH {l:List Int}{W:Nat}(h:l.length=W):(xj l).length=vf W:=by
 unfold vf
 by_cases q:W=0
 ·rw[if_pos q]
  have:l=[]:=Lq (by omega)
  subst this;rfl
 ·rw[if_neg q,wF (by intro e;rw[e] at h;simp at h;omega),h]
theorem fI {W:Nat}(hW:0<=W):∀{L:List (List Int)},(∀l∈L,l.length=W)->(cz L).length=L.length*vf W
 |[],_=>by simp[cz]
 |a::L,h=>by
   have h2:=fI hW (L:=L) λl hl=>h l (K7 _ hl)
   have h3:(xj a).length=vf W:=AH (h a KV)
   unfold cz at h2 ⊢
   rw[Lk,Lj,h2,h3,Ln,Nat.add_mul]
   omega
theorem oC:∀(L:List (List Int)),dy (cz L)=L.flatMap cg
 |[]=>rfl
 |a::L=>by
   have:=oC L
   unfold cz at this ⊢
   rw[Lk,Lk,<-this]
   unfold dy
   rw[LF]
   congr 1
   exact mV (fY a)
def bZ (rs:List (List Int))(room k:Nat):List (List Int):=(rs.drop (k*room)).take room
def runT (rs:List (List Int))(room:Nat):Nat->UInt8×List UInt8
 |0=>(0,[])
 |k+1=>(1,cz (bZ rs room k))
structure gD (p:Pl)(w:RW)(n:ByteArray)(W room:Nat)(rs:List (List Int))(q i:Nat):Prop where
 calm:∃T,Calm p n (1+i/room) q T/\∀k,k<1+i/room->T k=runT rs room k
 b:w.b=⟨n,W,0,false⟩
 rows:w.rows=i
 n:w.n=i%room
 wait:w.wait=cz ((rs.drop (i/room*room)).take (i%room))
 last:0<i->w.last=rs.getD (i - 1) []
 le:i<=rs.length
 next:0<=p.next/\p.next<=2+i
 most:p.most=8\/8<=p.most
theorem Cf {i room:Nat}(hr:1<=room):(i%room+1<room/\(i+1)/room=i/room/\(i+1)%room=i%room+1)\/(i%room+1=room/\(i+1)/room=i/room+1/\(i+1)%room=0):=by
 have h1:=MZ i hr
 have h2:=Ng i room
 rcases Lr (i%room+1) room with h|h
 ·left
  have e:i+1=room*(i/room)+(i%room+1):=by omega
  refine⟨h,?_,?_⟩
  ·rw[e,Q6 hr,P7 h];simp
  ·rw[e,Nat.mul_add_mod,N7 h]
 ·right
  have e:i+1=room*(i/room+1):=by rw[Ty];omega
  refine⟨by omega,?_,?_⟩
  ·rw[e,Nat.mul_div_cancel_left _ hr]
  ·rw[e,Nat.mul_mod_right]
section
variable {p:Pl}{w:RW}{n:ByteArray}{W:Nat}{rs:List (List Int)}{q i:Nat}
theorem gD.ready {room:Nat}(h:gD p w n W room rs q i):w.b.ready=0:=by rw[h.b];rfl
theorem gD.add (h:gD p w n W (bC W) rs q i)(h1:0<=W)(h2:W<=16)(hr:iv W rs)(hi:i<rs.length)(hs:n.size<=9223372036854775807)(hq:q<=1048576)(hbig:rs.length<=1000000):
  (1+(i+1)/(bC W)<=q->(w.add p (rs.getD i [])).2.2=0/\gD (w.add p (rs.getD i [])).1 (w.add p (rs.getD i [])).2.1 n W (bC W) rs q (i+1))/\
  (q<1+(i+1)/(bC W)->1+i/(bC W)<=q->(w.add p (rs.getD i [])).2.2=5):=by
 obtain⟨r1,r2,r3,r4⟩:=bQ h1 h2
 generalize hroom:bC W=room at*
 obtain⟨T,c1,c2⟩:=h.calm
 have hmem:rs.getD i []∈rs:=by
  rw[Lo,KJ hi];exact Lt hi
 have hlen:=hr.len _ hmem
 have hup:0<i->0<bz (rs.getD i []) w.last:=λh0=>by
  rw[h.last h0,yP]
  have:=hr.up (i - 1) (by omega)
  rwa [Nat.sub_add_cancel h0] at this
 have e:w.add p (rs.getD i [])=if i%room+1<room then (p,w.push (rs.getD i []),0) else (w.push (rs.getD i [])).out p:=by
  unfold RW.add
  rw[if_neg (by rw[h.ready];simp),if_neg (by rw[h.b,hlen];simp),if_neg (by
   rintro⟨a,b⟩
   rw[h.rows] at a
   have:=hup a
   omega),h.b,h.n]
  simp only[r1]
  by_cases hc:i%room+1<room
  ·rw[if_pos hc,if_pos (by omega)]
  ·rw[if_neg hc,if_neg (by omega)]
 have hwait:(w.push (rs.getD i [])).wait=cz ((rs.drop (i/room*room)).take (i%room+1)):=by
  have hd:=Ng i room
  have hmc:room*(i/room)=i/room*room:=NK _ _
  show w.wait++xj (rs.getD i [])=_
  rw[h.wait]
  have hx:(rs.drop (i/room*room))[i%room]?=some (rs.getD i []):=by
   rw[L5]
   have:i/room*room+i%room=i:=by omega
   rw[this,Lo,KJ hi];rfl
  have ht:(rs.drop (i/room*room)).take (i%room+1)=(rs.drop (i/room*room)).take (i%room)++[rs.getD i []]:=by
   rw[List.take_add_one,hx];rfl
  rw[ht]
  unfold cz
  rw[Nx];simp
 have hbase:(w.push (rs.getD i [])).b=⟨n,W,0,false⟩:=h.b
 rcases Cf (i:=i) (room:=room) (by omega) with ⟨m1,m2,m3⟩|⟨m1,m2,m3⟩
 ·rw[e,if_pos m1]
  refine⟨λ_=>⟨rfl,⟨T,by rw[m2];exact⟨c1,c2⟩⟩,hbase,?_,?_,?_,λ_=>rfl,by omega,?_,h.most⟩,λa b=>by omega⟩
  ·show w.rows+1=_;rw[h.rows]
  ·show w.n+1=_;rw[h.n,m3]
  ·rw[hwait,m2,m3]
  ·have:=h.next;show 0<=p.next/\p.next<=2+((i+1:Nat):Int);omega
 ·rw[e,if_neg (by omega)]
  have hpg:cz ((rs.drop (i/room*room)).take (i%room+1))=cz (bZ rs room (i/room)):=by rw[m1];rfl
  have hbl:(cz (bZ rs room (i/room))).length<=504:=by
   rw[fI h1 (L:=bZ rs room (i/room)) (λl hl=>hr.len l (Mf (Me (show l∈(rs.drop _).take _ from hl))))]
   have:(bZ rs room (i/room)).length<=room:=Qt _ _
   calc _<=room*vf W:=Ly _ this
    _<=504:=r3
  have eo:(w.push (rs.getD i [])).out p=((p.more n 1 (cz (bZ rs room (i/room)))).1,{w.push (rs.getD i []) with b:=(w.push (rs.getD i [])).b.bO (p.more n 1 (cz (bZ rs room (i/room)))).2,wait:=[],n:=0},(p.more n 1 (cz (bZ rs room (i/room)))).2):=by
   unfold RW.out
   rw[if_neg (by show w.n+1≠0;omega),hbase,hwait,hpg]
  rw[eo]
  refine⟨λhq1=>?_,λa b=>?_⟩
  ·obtain⟨a1,a2,a3,a4⟩:=c1.more (k:=1) (b:=cz (bZ rs room (i/room))) (by omega) hq hs h.next.1 (by have:=h.next.2;omega) hbl
   rw[if_neg (by decide)] at a2
   have hcalm:∃T,Calm (p.more n 1 (cz (bZ rs room (i/room)))).1 n (1+(i+1)/room) q T/\∀k,k<1+(i+1)/room->T k=runT rs room k:=by
    rw[m2]
    refine⟨_,a2,λk hk=>?_⟩
    by_cases ek:k=1+i/room
    ·subst ek
     rw[cw,NG 1];rfl
    ·rw[ck ek];exact c2 k (by omega)
   have hnx:=h.next
   refine⟨a1,⟨hcalm,?_,?_,m3.symm,?_,λ_=>rfl,by omega,?_,?_⟩⟩
   ·show (w.push (rs.getD i [])).b.bO _=_
    rw[a1,hbase];rfl
   ·show w.rows+1=_;rw[h.rows]
   ·show []=_;rw[m3];simp[cz]
   ·rw[a3];omega
   ·rw[a4];exact h.most
  ·exact c1.oV (by omega)
end
structure uO (p:Pl)(n:ByteArray)(W room:Nat)(rs:List (List Int))(q:Nat):Prop where
 calm:∃T,Calm p n (1+az rs.length room) q T/\T 0=(2,bL W rs.length)/\∀k,k<az rs.length room->T (k+1)=(1,cz (bZ rs room k))
theorem xf {n room:Nat}(hr:1<=room):(n%room=0->az n room=n/room)/\(n%room≠0->az n room=n/room+1):=by
 have h1:=MZ n hr
 have h2:=Ng n room
 unfold az
 refine⟨λh=>?_,λh=>?_⟩
 ·have e:n+room - 1=room*(n/room)+(room - 1):=by omega
  rw[e,Q6 hr,P7 (show room - 1<room by omega)];rfl
 ·have e:n+room - 1=room*(n/room+1)+(n%room - 1):=by rw[Ty];omega
  rw[e,Q6 hr,P7 (show n%room - 1<room by omega)]
section
variable {p:Pl}{w:RW}{n:ByteArray}{W:Nat}{rs:List (List Int)}{q:Nat}
theorem vt (h1:0<=W)(hr:iv W rs)(r3:bC W*vf W<=504)(k:Nat):(cz (bZ rs (bC W) k)).length<=504:=by
 rw[fI h1 (L:=bZ rs (bC W) k) (λl hl=>hr.len l (Mf (Me (show l∈(rs.drop _).take _ from hl))))]
 have:(bZ rs (bC W) k).length<=bC W:=Qt _ _
 calc _<=bC W*vf W:=Ly _ this
  _<=504:=r3
theorem gD.close (h:gD p w n W (bC W) rs q rs.length)(h1:0<=W)(h2:W<=16)(hr:iv W rs)(hs:n.size<=9223372036854775807)(hq:q<=1048576)(hbig:rs.length<=1000000):
  (1+az rs.length (bC W)<=q->(w.close p).2.2=(rs.length,0)/\uO (w.close p).1 n W (bC W) rs q/\(w.close p).1.next<=4+rs.length/\
   (∃f,(w.close p).1.d.files=[f]/\f.name=n/\f.log=[]/\f.synced.length=1+az rs.length (bC W)/\∀(k:Nat) (b:Pg),f.synced[k]?=some b->ez b.1=some (if k=0 then (2,bL W rs.length) else (1,cz (bZ rs (bC W) (k - 1))))))/\
  (q<1+az rs.length (bC W)->1+rs.length/(bC W)<=q->(w.close p).2.2.2=5):=by
 obtain⟨r1,r2,r3,r4⟩:=bQ h1 h2
 have pb:=vt h1 hr r3
 generalize hroom:bC W=room at*
 obtain⟨T,c1,c2⟩:=h.calm
 obtain⟨d1,d2⟩:=xf (n:=rs.length) (room:=room) (by omega)
 have hnx:=h.next
 have hm:=MZ rs.length (show 0<room by omega)
 have hdm:=Ng rs.length room
 -- the rows that wait are put
 have out:(1+az rs.length room<=q->(w.out p).2.2=0/\(w.out p).2.1.b=⟨n,W,0,false⟩/\(w.out p).2.1.rows=rs.length/\0<=(w.out p).1.next/\(w.out p).1.next<=3+rs.length/\
   ∃T,Calm (w.out p).1 n (1+az rs.length room) q T/\∀k,k<1+az rs.length room->T k=runT rs room k)/\(q<1+az rs.length room->1+rs.length/room<=q->(w.out p).2.2=5):=by
  unfold RW.out
  by_cases hz:w.n=0
  ·rw[if_pos hz]
   rw[h.n] at hz
   rw[d1 hz]
   exact⟨λ_=>⟨rfl,h.b,h.rows,hnx.1,by show p.next<=_;omega,T,c1,c2⟩,λa b=>by omega⟩
  ·rw[if_neg hz]
   rw[h.n] at hz
   rw[d2 hz]
   have hw:w.wait=cz (bZ rs room (rs.length/room)):=by
    rw[h.wait]
    unfold bZ
    congr 1
    have hmc:room*(rs.length/room)=rs.length/room*room:=NK _ _
    rw[KT (i:=room) (by rw[MK];omega),KT (by rw[MK];omega)]
   rw[hw,h.b]
   simp only
   refine⟨λhq1=>?_,λa b=>c1.oV (by omega)⟩
   obtain⟨a1,a2,a3,a4⟩:=c1.more (k:=1) (b:=cz (bZ rs room (rs.length/room))) (by omega) hq hs hnx.1 (by omega) (pb _)
   rw[if_neg (by decide)] at a2
   refine⟨a1,?_,h.rows,by rw[a3];omega,by rw[a3];omega,_,a2,λk hk=>?_⟩
   ·rw[a1];rfl
   ·by_cases ek:k=1+rs.length/room
    ·subst ek
     rw[cw,NG 1];rfl
    ·rw[ck ek];exact c2 k (by omega)
 have hrdy:¬w.b.ready≠0:=by rw[h.ready];simp
 refine⟨λhq1=>?_,λa b=>?_⟩
 ·obtain⟨o1,o2,o3,o4,o5,T',o6,o7⟩:=out.1 hq1
  have e:w.close p=(w.out p).2.1.ends (w.out p).1:=by
   unfold RW.close
   rw[if_neg hrdy,if_neg (by rw[o1];simp)]
  rw[e]
  have hhb:(bL W rs.length).length<=504:=by simp[bL,cg,cL]
  obtain⟨t1,t2,t3,t4,t5⟩:=o6.bf hq hs o4 (by omega) (k:=0) (by omega) hq1 (kd:=2) (b:=bL W rs.length) hhb
  obtain⟨f1,f2,f3,f,f4,f5,f6,f7,f8⟩:=t3.flush
  have eh:(w.out p).2.1.head (w.out p).1=(Pl.leave (((w.out p).1.aR n 0).1.set (w.out p).1.next 2 (bL W rs.length)) (w.out p).1.next).1.flush n:=by
   unfold RW.head
   rw[o2,o3]
   simp only
   have t1':((w.out p).1.aR n 0).2=((w.out p).1.next,0):=t1
   rw[t1']
   simp only
   have t2':(Pl.leave (((w.out p).1.aR n 0).1.set (w.out p).1.next 2 (bL W rs.length)) (w.out p).1.next).2=0:=t2
   rw[if_neg (by simp),if_neg (by rw[t2'];simp)]
  have ee:(w.out p).2.1.ends (w.out p).1=(((w.out p).2.1.head (w.out p).1).1,(w.out p).2.1.stop,(w.out p).2.1.rows,0):=by
   unfold RW.ends
   rw[if_neg (by rw[eh];have:=f1;simpa using this)]
  rw[ee,eh,o3]
  have hT:∀k,k<1+az rs.length room->lO T' 0 (2,bL W rs.length) k=if k=0 then (2,bL W rs.length) else (1,cz (bZ rs room (k - 1))):=by
   intro k hk
   by_cases q0:k=0
   ·subst q0;rw[cw,if_pos rfl]
   ·rw[ck q0,o7 k hk,if_neg q0]
    obtain⟨m,rfl⟩:∃m,k=m+1:=⟨k - 1,by omega⟩
    rfl
  refine⟨rfl,⟨_,f2,?_,λk hk=>?_⟩,?_,f,f4,f5,f6,f7,λk b hk=>?_⟩
  ·rw[hT 0 (by omega),if_pos rfl]
  ·rw[hT (k+1) (by omega),if_neg (by omega)];rfl
  ·have:=(Pl.leave (((w.out p).1.aR n 0).1.set (w.out p).1.next 2 (bL W rs.length)) (w.out p).1.next).1.mS n
   have t4':(Pl.leave (((w.out p).1.aR n 0).1.set (w.out p).1.next 2 (bL W rs.length)) (w.out p).1.next).1.next=(w.out p).1.next+1:=t4
   show ((Pl.leave (((w.out p).1.aR n 0).1.set (w.out p).1.next 2 (bL W rs.length)) (w.out p).1.next).1.flush n).1.next<=_
   rw[this,t4'];omega
  ·rw[f8 k b hk]
   have hkl:k<1+az rs.length room:=by rw[<-f7];exact(KI.1 hk).1
   rw[hT k hkl]
 ·unfold RW.close
  have:=out.2 a b
  rw[if_neg hrdy,if_pos (by rw[this];simp)]
  exact this
end
open Go.MapKept
theorem Pl.zH {s:Pl}(h:s.WF)(x:Int):(s.get x).2.1.length<=504:=by
 unfold Pl.get
 split
 ·simp
 ·cases e:s.held x with
  |none=>simp
  |some i=>
    obtain⟨f,hf,_⟩:=Pl.eU e
    simp only[Pl.cX hf]
    exact h.room f (KH hf)
def bD (p:Nat)(b:Rb):List Value:=[.pointer (aD p),.string b.name,.int .i64 b.width,.int .i64 (aW b.width),.int .i64 b.wrong,.bool b.closed]
abbrev bh (H:Heap)(k:Nat)(t:TypeId)(p:Nat)(b:Rb)(rest:List Value):Prop:=aj H k t (bD p b++rest).toArray
section
variable {H:Heap}{k p dp:Nat}{t:TypeId}{b:Rb}{rest:List Value}{F:Nat->Prop}{s:Pl}
theorem bh.get (i:Nat)(v:Value)(h:(bD p b)[i]?=some v):(bD p b++rest).toArray[i]?=some v:=by
 rw[M3,K9 (KI.1 h).1];exact h
theorem bh.tail {j:Nat}{v:Value}(h:rest[j]?=some v):(bD p b++rest).toArray[6+j]?=some v:=by
 rw[M3,LR (by simp[bD])]
 simpa[bD] using h
theorem lh {K:Int->Heap->Prop}(h:bh H k t p b rest)(hK:K b.ready H):C9.sp (aD k) H K:=by
 refine C9.of ?_
 unfold C9.vc
 unfold Rb.ready at hK
 simp only[aq,aD]
 refine aj.ld (c:=aa .i64) (i:=4) (x:=b.wrong) h (bh.get 4 _ rfl) ?_
 refine ae (λhc=>?_) (λhc=>?_)
 ·refine aj.ld (c:=aa .i64) (i:=4) (x:=b.wrong) h (bh.get 4 _ rfl) ?_
  rw[if_pos (by simpa using hc)] at hK
  exact hK
 ·rw[if_neg (by simpa using hc)] at hK
  refine aj.ld (c:=aA) (i:=5) (x:=b.closed) h (bh.get 5 _ rfl) ?_
  cases hcl:b.closed with
  |true=>rw[hcl,if_pos rfl] at hK;exact hK
  |false=>rw[hcl,if_neg (by simp)] at hK;exact hK
theorem vp (e:Int):(bD p b++rest).toArray.setIfInBounds 4 (.int .i64 e)=(bD p {b with wrong:=e}++rest).toArray:=by
 simp[bD]
theorem tR:(bD p b++rest).toArray.setIfInBounds 5 (.bool true)=(bD p {b with closed:=true}++rest).toArray:=by
 simp[bD]
theorem oK {e:Int}{K:Int->Heap->Prop}(h:bh H k t p b rest)(hK:∀H',bh H' k t p (b.bO e) rest->Mod (λq=>q=k) H H'->H'.size=H.size->K e H'):yW.sp (aD k) e H K:=by
 refine yW.of ?_
 unfold yW.vc
 unfold Rb.bO at hK
 simp only[aq,aD]
 refine ae (λhc=>?_) (λhc=>?_)
 ·rw[if_pos (by simpa using hc)] at hK
  refine aj.st h (i:=4) (by simp[bD]) rfl λH' h' m hs=>?_
  rw[vp] at h'
  exact hK H' h' m hs
 ·rw[if_neg (by simpa using hc)] at hK
  exact hK H h (.refl _ _) rfl
theorem Step.size {F F':Nat->Prop}{H H':Heap}(h:Step F F' H H'):H.size<=H'.size:=h.mod.size
theorem yX {kd:UInt8}{sl:Sl}{l:List UInt8}{K:Int->Heap->Prop}(hg:Gl H)(h:bh H k t p b rest)(hp:aM F H p dp s)(hk:¬F k)(hb:bG H sl l)(hsl:∀ad,sl.a=some ad->¬F ad.block)
  (hn:b.name.size<=9223372036854775807) (hlogs:s.d.logs<68719470000) (hnx:s.next<1099511627776) (h0:0<=s.next) (hfit:s.Fit)
  (hK:∀F' H',aM F' H' p dp (s.more b.name kd l).1->Step F F' H H'->K (s.more b.name kd l).2 H'):Ej.sp (aD k) (kd.toNat:Int) sl H K:=by
 have hkl:=aG h
 refine Ej.of ?_
 unfold Ej.vc
 simp only[aq,aD]
 refine aj.ld (c:=ar) (i:=0) (x:=aD p) h (bh.get 0 _ rfl) ?_
 refine aj.ld (c:=aV) (i:=1) (x:=b.name) h (bh.get 1 _ rfl) ?_
 refine CD hg hp hn (by omega) (by omega) hfit λF1 H1 p1 S1=>?_
 have hg1:Gl H1:=hg.mod S1.mod hp.gu
 have h1:bh H1 k t p b rest:=h.mod S1.mod hk
 have hk1:¬F1 k:=λq=>(S1.own k q).elim hk λr=>by omega
 have hb1:bG H1 sl l:=hb.ak λad ha hl=>S1.mod.same _ hl (hsl ad ha)
 have hsl1:∀ad,sl.a=some ad->l≠[]->¬F1 ad.block:=λad ha hne q=>by
  obtain⟨ad',ha',hlt⟩:=hb.addr (Oc.2 hne)
  rw[ha] at ha';cases ha'
  rcases S1.own _ q with r|r
  ·exact hsl ad ha r
  ·omega
 unfold Pl.more at hK
 have hnx1:(s.fresh b.name).1.next<=s.next+1:=s.jM h0 hnx
 generalize hs1:(s.fresh b.name).1=s1 at*
 generalize hr:(s.fresh b.name).2.1=hd at*
 generalize he:(s.fresh b.name).2.2.2=e at*
 by_cases e0:e=0
 ·subst e0
  rw[if_neg (by simp)] at hK
  by_cases k0:kd=0
  ·subst k0
   rw[if_pos rfl] at hK
   refine aw (by simp) ?_
   refine aP (by simp) ?_
   refine aj.ld (c:=ar) (i:=0) (x:=aD p) h1 (bh.get 0 _ rfl) ?_
   refine j8 hg1 p1 (by omega) λF2 H2 p2 S2=>?_
   have el:Pl.leave (s1,0) hd=s1.aB hd:=if_pos rfl
   rw[el] at hK
   exact hK F2 H2 p2 (S1.trans S2)
  ·have hkn:((kd.toNat:Int)!=0)=true:=by
    have:kd.toNat≠0:=λq=>k0 (UInt8.toNat_inj.1 q)
    simp;omega
   rw[if_neg k0] at hK
   refine aP (by rw[hkn];rfl) ?_
   refine aj.ld (c:=ar) (i:=0) (x:=aD p) h1 (bh.get 0 _ rfl) ?_
   refine xE hg1 p1 hb1 λF2 H2 p2 S2=>?_
   have hg2:Gl H2:=hg1.mod S2.mod p1.gu
   have h2:bh H2 k t p b rest:=h1.mod S2.mod hk1
   have hn2:(s1.set hd kd l).1.next=s1.next:=s1.iu hd kd l
   generalize hs2:s1.set hd kd l=s2 at*
   refine ae (λhc=>?_) (λhc=>?_)
   ·have e2:s2.2=0:=by simpa using hc
    refine aj.ld (c:=ar) (i:=0) (x:=aD p) h2 (bh.get 0 _ rfl) ?_
    refine j8 hg2 p2 (by omega) λF3 H3 p3 S3=>?_
    have el:Pl.leave s2 hd=s2.1.aB hd:=if_pos e2
    rw[el] at hK
    exact hK F3 H3 p3 ((S1.trans S2).trans S3)
   ·have e2:s2.2≠0:=by simpa using hc
    have el:Pl.leave s2 hd=s2:=if_neg e2
    rw[el] at hK
    exact hK F2 H2 p2 (S1.trans S2)
 ·rw[if_pos e0] at hK
  refine aw (by simp[e0]) ?_
  refine aw (by simpa using e0) ?_
  exact hK F1 H1 p1 S1
theorem vX {g:Int}{K:(Int×Sl×Int)->Heap->Prop}(hg:Gl H)(h:bh H k t p b rest)(hp:aM F H p dp s)(hk:¬F k)(hg0:0<=g/\g<=9223372036854775807)
  (hn:b.name.size<=9223372036854775807) (hlogs:s.d.logs<68719470000) (hnx:s.next<1099511627776) (h0:0<=s.next)
  (hK:∀F' H' sl,aM F' H' p dp (s.look b.name g).1->Step F F' H H'->aK EB dF H' sl (s.look b.name g).2.2.1->(∀q,al sl q->H.size<=q/\¬F' q)->(s.look b.name g).2.2.1.length<=504->K (((s.look b.name g).2.1.toNat:Int),sl,(s.look b.name g).2.2.2) H'):Er.sp (aD k) g H K:=by
 have hkl:=aG h
 refine Er.of ?_
 unfold Er.vc
 simp only[aq,aD]
 refine aj.ld (c:=ar) (i:=0) (x:=aD p) h (bh.get 0 _ rfl) ?_
 refine aj.ld (c:=aV) (i:=1) (x:=b.name) h (bh.get 1 _ rfl) ?_
 refine yd hg hp hn (by omega) hg0.2 (by omega) (by omega) λF1 H1 p1 S1=>?_
 have hg1:Gl H1:=hg.mod S1.mod hp.gu
 have h1:bh H1 k t p b rest:=h.mod S1.mod hk
 have hnx1:(s.aR b.name g).1.next<=s.next+1:=s.jb h0 hnx
 unfold Pl.look at hK
 generalize hs1:(s.aR b.name g).1=s1 at*
 generalize hr:(s.aR b.name g).2.1=hd at*
 generalize he:(s.aR b.name g).2.2=e at*
 refine ae (λhc=>?_) (λhc=>?_)
 ·have e0:e≠0:=by simpa using hc
  rw[if_pos e0] at hK
  exact hK F1 H1 _ p1 S1 (aK.nil _ _ _) (λq ⟨ad,ha,_⟩=>by cases ha) (by simp)
 ·have e0:¬e≠0:=by simpa using hc
  rw[if_neg e0] at hK
  refine aj.ld (c:=ar) (i:=0) (x:=aD p) h1 (bh.get 0 _ rfl) ?_
  refine Ig p1 λsl H2 o2 e2 f2=>?_
  have p2:=p1.ext e2
  have hg2:Gl H2:=hg1.mod e2 id
  have h2:bh H2 k t p b rest:=h1.ext e2
  have S2:Step F F1 H H2:=S1.trans ⟨e2.mod,λb hb=>.inl hb⟩
  have hgl:=Pl.zH p1.wf hd
  generalize hs2:s1.get hd=r at*
  refine ae (λhc2=>?_) (λhc2=>?_)
  ·have e3:¬r.2.2≠0:=by simpa using hc2
   rw[if_neg e3] at hK
   refine aj.ld (c:=ar) (i:=0) (x:=aD p) h2 (bh.get 0 _ rfl) ?_
   refine j8 hg2 p2 (by omega) λF3 H3 p3 S3=>?_
   have hlt:=o2.lt
   refine hK F3 H3 sl p3 (S2.trans S3) (o2.ak λq hq hl=>S3.mod.same q hl λr=>by have:=p1.lt q r;have:=f2 q hq;omega) (λq hq=>?_) hgl
   have q1:=f2 q hq
   have q2:=S1.size
   refine⟨by omega,λr=>?_⟩
   rcases S3.own q r with r|r
   ·have:=p1.lt q r;omega
   ·have:=hlt q hq;omega
  ·have e3:r.2.2≠0:=by simpa using hc2
   rw[if_pos e3] at hK
   refine hK F1 H2 sl p2 S2 o2 (λq hq=>?_) hgl
   have q1:=f2 q hq
   have q2:=S1.size
   exact⟨by omega,λr=>by have:=p1.lt q r;omega⟩
end
theorem sP {s:Sl}{l:List Int}{H:Heap}{K:Sl->Heap->Prop}(h:Ints .u64 H s l)(hl:l.length<=1000000)
  (hK:∀s' H',aT H' 0 eL 1 s' (l.map (Lb .u64))->Ext H H'->(∀b,al s' b->H.size<=b)->K s' H'):Fh.sp s H K:=by
 refine Fh.of ?_
 unfold Fh.vc
 have hn:=h.len
 refine ae (λhc=>?_) (λhc=>?_)
 ·have:l=[]:=by
   cases l with
   |nil=>rfl
   |cons x r=>
     obtain⟨ad,ha,_⟩:=h.at (i:=0) (by simp)
     rw[ha] at hc;cases hc
  subst this
  exact hK _ H (aT.nil _ _ _ _) (.refl _ _) (by rintro b ⟨ad,q,_⟩;cases q)
 ·refine ao λH1 s1 r1 m1=>?_
  have o1:aT H1 0 eL 1 (Sl.mk (some ⟨H.size,0,none⟩) 0 0) []:=⟨rfl,.inr ⟨H.size,0,#[],rfl,Lh _,r1,KN _,by unfold maxLen;omega,rfl,rfl⟩⟩
  refine pk.append (s:=Sl.mk (some ⟨H.size,0,none⟩) 0 0) (x:=s) (ws:=l.map (Lb .u64)) o1 (by simp;omega) (h.ext m1).reads (pT _ _) (by simp;omega) (by simp;omega) (by omega) λs' H' _ o' m' f' _=>?_
  have m2:Ext H H':=⟨Lc m1.size m'.size,λb hb _=>(m'.same b (by omega) (by rintro⟨ad,e1,e2⟩;cases e1;have:H.size=b:=e2;omega)).trans (m1.same b hb id)⟩
  refine hK s' H' (by simpa using o') m2 λb hb=>?_
  rcases f' b hb with ⟨ad,e1,e2⟩|q
  ·cases e1;have:H.size=b:=e2;omega
  ·omega
structure oQ (H:Heap)(k p:Nat)(w:RW)(sw sl:Sl):Prop where
 row:bh H k DZ p w.b [sw.v,.int .i64 (w.n:Int),sl.v,.int .i64 (w.rows:Int)]
 wait:aK EB dF H sw w.wait
 last:aT H 0 eL 1 sl (w.last.map (Lb .u64))
def fg (k:Nat)(sw sl:Sl)(b:Nat):Prop:=b=k\/al sw b\/al sl b
section
variable {H:Heap}{k p dp:Nat}{w:RW}{sw sl:Sl}{F:Nat->Prop}{s:Pl}
theorem oQ.tJ (h:oQ H k p w sw sl):¬al sw k:=λq=>by
 obtain⟨cur,hc⟩:=h.wait.obj k q
 exact absurd (aQ hc h.row) (by decide)
theorem oQ.xP (h:oQ H k p w sw sl):¬al sl k:=λq=>by
 obtain⟨cur,hc⟩:=h.last.obj k q
 exact absurd (aQ hc h.row) (by decide)
theorem oQ.lt (h:oQ H k p w sw sl):∀b,fg k sw sl b->b<H.size:=by
 rintro b (rfl|q|q)
 ·exact aG h.row
 ·exact h.wait.lt b q
 ·exact h.last.lt b q
theorem oQ.ak {H':Heap}(h:oQ H k p w sw sl)(e:∀b,fg k sw sl b->b<H.size->H'[b]?=H[b]?):oQ H' k p w sw sl:=
 ⟨(e k (.inl rfl) (aG h.row)).trans h.row,h.wait.ak λb hb hl=>e b (.inr (.inl hb)) hl,h.last.ak λb hb hl=>e b (.inr (.inr hb)) hl⟩
theorem oQ.mod {G:Nat->Prop}{H':Heap}(h:oQ H k p w sw sl)(m:Mod G H H')(hn:∀b,fg k sw sl b->¬G b):oQ H' k p w sw sl:=h.ak λb hb hl=>m.same b hl (hn b hb)
theorem yK {K:Int->Heap->Prop}(hg:Gl H)(h:oQ H k p w sw sl)(hp:aM F H p dp s)(hd:∀b,F b->¬fg k sw sl b)
  (hn:w.b.name.size<=9223372036854775807) (hlogs:s.d.logs<68719470000) (hnx:s.next<1099511627776) (h0:0<=s.next) (hfit:s.Fit)
  (hK:∀F' sw' H',aM F' H' p dp (w.out s).1->oQ H' k p (w.out s).2.1 sw' sl->(∀b,al sw' b->al sw b)->Mod (λb=>F b\/b=k) H H'->(∀b,F' b->F b\/H.size<=b)->K (w.out s).2.2 H'):Ey.sp (aD k) H K:=by
 refine Ey.of ?_
 unfold Ey.vc
 simp only[aq,aD]
 refine aj.ld (c:=aa .i64) (i:=7) (x:=(w.n:Int)) h.row (bh.tail (j:=1) rfl) ?_
 refine ae (λhc=>?_) (λhc=>?_)
 ·have e0 : w.n = 0 := by have : (w.n : Int) = 0 := by simpa using hc
                          omega
  have eo:w.out s=(s,w,0):=if_pos e0
  rw[eo] at hK
  exact hK F sw H hp h (λb q=>q) (.refl _ _) (λb q=>.inl q)
 ·have e0:¬w.n=0:=λq=>by rw[q] at hc;simp at hc
  have eo:w.out s=((s.more w.b.name 1 w.wait).1,{w with b:=w.b.bO (s.more w.b.name 1 w.wait).2,wait:=[],n:=0},(s.more w.b.name 1 w.wait).2):=if_neg e0
  rw[eo] at hK
  have hkF:¬F k:=λq=>hd k q (.inl rfl)
  refine aj.ld (c:=av) (i:=6) (x:=sw) h.row (bh.tail (j:=0) rfl) ?_
  refine yX (kd:=1) hg h.row hp hkF (bY h.wait) (λad ha q=>hd _ q (.inr (.inl ⟨ad,ha,rfl⟩))) hn hlogs hnx h0 hfit λF1 H1 p1 S1=>?_
  have h1:=h.mod S1.mod λb hb q=>hd b q hb
  have hkl:=aG h.row
  have hkF1:¬F1 k:=λq=>(S1.own k q).elim hkF λr=>by omega
  generalize (s.more w.b.name 1 w.wait).1=s1 at*
  generalize (s.more w.b.name 1 w.wait).2=e at*
  refine aj.st h1.row (i:=6) (by simp[bD]) rfl λH2 r2 m2 z2=>?_
  refine aj.st r2 (i:=7) (by simp[bD]) rfl λH3 r3 m3 z3=>?_
  have r3':bh H3 k DZ p w.b [(Sl.mk none 0 0).v,.int .i64 ((0:Nat):Int),sl.v,.int .i64 (w.rows:Int)]:=by
   have e:(((bD p w.b++[sw.v,.int .i64 (w.n:Int),sl.v,.int .i64 (w.rows:Int)]).toArray.setIfInBounds 6 (.slice none 0 0)).setIfInBounds 7 (.int .i64 (0:Int)))=(bD p w.b++[(Sl.mk none 0 0).v,.int .i64 ((0:Nat):Int),sl.v,.int .i64 (w.rows:Int)]).toArray:=by
    simp[bD]
   rw[e] at r3;exact r3
  refine oK r3' λH4 r4 m4 z4=>?_
  have m14:Mod (λq=>q=k) H1 H4:=(m2.trans m3).trans m4
  have m04:Mod (λb=>F b\/b=k) H H4:=(S1.mod.mono λb _ q=>.inl q).trans' m14 λb hb q=>.inr q
  refine hK F1 (Sl.mk none 0 0) H4 (p1.ak λb hb hl=>m14.same b hl λq=>hkF1 (q▸hb)) ⟨r4,aK.nil _ _ _,h1.last.ak λb hb hl=>m14.same b hl λq=>h1.xP (q▸hb)⟩ (by rintro b ⟨ad,q,_⟩;cases q) m04 S1.own
theorem tq (l:List Int):(cg l).length<=8*l.length+1:=by
 unfold cg
 split
 ·simp
 ·rw[Oe]
  have:∀l:List Int,(l.map λx=>(cL x).length).sum=8*l.length:=by
   intro l
   induction l with
   |nil=>rfl
   |cons x l ih=>rw[Lp,Mp,ih];simp[cL];omega
  have:=this l
  omega
theorem ju {l:List Int}(h:∀x∈l,0<=x/\x<256):fk (cC l)=l.map (Lb .u8):=by
 rw[<-dN,mV h]
theorem vR {l:Sl}{ll:List Int}{K:Int->Heap->Prop}(hg:Gl H)(hgs:¬fg k sw sl bx)(h:oQ H k p w sw sl)(hp:aM F H p dp s)(hd:∀b,F b->¬fg k sw sl b)
  (hl:Ints .u64 H l ll) (hlb:∀ad,l.a=some ad->¬fg k sw sl ad.block) (hlen:(ll.length:Int)=w.b.width->ll.length<=1000000) (hwl:w.wait.length<=1000000) (hwr:w.rows<1099511627776) (hwn:w.n<1099511627776)
  (hn:w.b.name.size<=9223372036854775807) (hlogs:s.d.logs<68719470000) (hnx:s.next<1099511627776) (h0:0<=s.next) (hfit:s.Fit)
  (hK:∀F' sw' sl' H',aM F' H' p dp (w.add s ll).1->oQ H' k p (w.add s ll).2.1 sw' sl'->(∀b,F' b->¬fg k sw' sl' b)->Step (λb=>F b\/fg k sw sl b) (λb=>F' b\/fg k sw' sl' b) H H'->K (w.add s ll).2.2 H'):tV.sp (aD k) l H K:=by
 refine tV.of ?_
 unfold tV.vc
 unfold aD
 refine aw rfl ?_
 simp only[aq]
 have hln:=hl.len
 unfold RW.add at hK
 refine lh h.row ?_
 refine ae (λhc=>?_) (λhc=>?_)
 ·have e0:w.b.ready≠0:=by simpa using hc
  rw[if_pos e0] at hK
  exact hK F sw sl H hp h hd (.refl _ _)
 have e0:¬w.b.ready≠0:=by simpa using hc
 rw[if_neg e0] at hK
 refine⟨λ_ A=>A=H/\¬((ll.length:Int)≠w.b.width)/\¬(0<w.rows/\bz ll w.last<=0),?_,?_⟩
 ·refine aj.ld (c:=aa .i64) (i:=2) (x:=w.b.width) h.row (bh.get 2 _ rfl) ?_
  refine ae (λhc=>?_) (λhc=>?_)
  ·have e1:(ll.length:Int)≠w.b.width:=by rw[<-hln];simpa using hc
   rw[if_pos e1] at hK
   exact hK F sw sl H hp h hd (.refl _ _)
  have e1:¬((ll.length:Int)≠w.b.width):=by rw[<-hln];simpa using hc
  rw[if_neg e1] at hK
  have hlen:=hlen (by omega)
  refine aj.ld (c:=aa .i64) (i:=9) (x:=(w.rows:Int)) h.row (bh.tail (j:=3) rfl) ?_
  refine ae (λhc=>?_) (λhc=>?_)
  ·have e2 : 0 < w.rows := by have : (w.rows : Int) > 0 := by simpa using hc
                              omega
   refine aj.ld (c:=av) (i:=8) (x:=sl) h.row (bh.tail (j:=2) rfl) ?_
   refine lz hl h.last.ints (by omega) ?_
   refine ae (λhc=>?_) (λhc=>?_)
   ·have e3:bz ll w.last<=0:=by simpa using hc
    rw[if_pos ⟨e2,e3⟩] at hK
    exact hK F sw sl H hp h hd (.refl _ _)
   ·have e3:¬bz ll w.last<=0:=by simpa using hc
    exact⟨rfl,e1,λq=>e3 q.2⟩
  ·have e2 : ¬ 0 < w.rows := by have : ¬ (w.rows : Int) > 0 := by simpa using hc
                                omega
   exact⟨rfl,e1,λq=>e2 q.1⟩
 rintro _ A ⟨rfl,e1,e2⟩
 rw[if_neg e1,if_neg e2] at hK
 have hlen:=hlen (by omega)
 refine⟨λA=>bh A k DZ p w.b [sw.v,.int .i64 (w.n:Int),sl.v,.int .i64 (w.rows:Int)],h.row,?_⟩
 refine aj.eP (c:=av) (i:=6) (x:=sw) (cs:=λ_=>_) (λ_ q=>q) (λ_ _=>bh.tail (j:=0) rfl) ?_
 refine tg hl hlen λr A1 o1 x1=>?_
 have h1:=h.mod x1 λ_ _=>id
 refine⟨h1.row,?_⟩
 have hpl:(cg ll).length<=8*1000000+1:=by have:=tq ll;omega
 have o1':cS EB A1 r.a (cC (cg ll)):=by
  unfold cS;rw[im,ju (fY ll)];exact o1.reads
 have rn:r.n=(cC (cg ll)).length:=by have:=o1.1;simpa using this.symm
 refine aK.append iT h1.wait o1' rn (by rw[ca];omega) (by rw[ca];omega) λs' A2 o2 g2 _=>?_
 have hkl:=aG h.row
 have z1:=x1.size
 have z2:=g2.1.size
 have r2:bh A2 k DZ p w.b [sw.v,.int .i64 (w.n:Int),sl.v,.int .i64 (w.rows:Int)]:=h1.row.mod g2.1 h.tJ
 have l2:Ints .u64 A2 l ll:=(hl.ext x1).mod g2.1 λad ha q=>hlb ad ha (.inr (.inl q))
 have q2:aT A2 0 eL 1 sl (w.last.map (Lb .u64)):=h1.last.mod g2.1 λb hb q=>h1.last.apart h1.wait (by decide) b hb q
 refine aj.st r2 (i:=6) (by simp[bD]) rfl λA3 r3 m3 z3=>?_
 have hnew:¬al s' k:=λq=>by
  rcases g2.2 k q with u|u
  ·exact h.tJ u
  ·omega
 have l3:Ints .u64 A3 l ll:=l2.mod m3 λad ha q=>hlb ad ha (.inl q)
 have o3:aK EB dF A3 s' (w.wait++cC (cg ll)):=o2.mod m3 λb hb q=>hnew (q▸hb)
 refine sP l3 hlen λc A4 o4 x4 f4=>?_
 have r4:=r3.ext x4
 have hck:¬al c k:=λq=>by have:=f4 k q;have:=m3.size;omega
 refine aj.st r4 (i:=8) (by simp[bD]) rfl λA5 r5 m5 z5=>?_
 refine aj.ld (c:=aa .i64) (i:=9) (x:=(w.rows:Int)) r5 (by simp[bD]) ?_
 refine aj.st r5 (i:=9) (by simp[bD]) rfl λA6 r6 m6 z6=>?_
 refine aj.ld (c:=aa .i64) (i:=7) (x:=(w.n:Int)) r6 (by simp[bD]) ?_
 refine aj.st r6 (i:=7) (by simp[bD]) rfl λA7 r7 m7 z7=>?_
 rw[aI w.rows (by omega)] at r7
 rw[aI w.n (by omega)] at r7
 have r7':bh A7 k DZ p w.b [s'.v,.int .i64 ((w.n+1:Nat):Int),c.v,.int .i64 ((w.rows+1:Nat):Int)]:=by
  have e:(((((bD p w.b++[sw.v,.int .i64 (w.n:Int),sl.v,.int .i64 (w.rows:Int)]).toArray.setIfInBounds 6 s'.v).setIfInBounds 8 c.v).setIfInBounds 9 (.int .i64 ((w.rows+1:Nat):Int))).setIfInBounds 7 (.int .i64 ((w.n+1:Nat):Int)))=(bD p w.b++[s'.v,.int .i64 ((w.n+1:Nat):Int),c.v,.int .i64 ((w.rows+1:Nat):Int)]).toArray:=by
   simp[bD]
  rw[e] at r7;exact r7
 have m47:Mod (λq=>q=k) A4 A7:=(m5.trans m6).trans m7
 have h7:oQ A7 k p (w.push ll) s' c:=⟨r7',(o3.ext x4).mod m47 λb hb q=>hnew (q▸hb),o4.mod m47 λb hb q=>hck (q▸hb)⟩
 have m07:Mod (λb=>b=k\/al sw b) A A7:=by
  have a1:Mod (λb=>b=k\/al sw b) A A2:=x1.mod.trans' g2.1 λb _ q=>.inr q
  have a2:Mod (λb=>b=k\/al sw b) A A3:=a1.trans' m3 λb _ q=>.inl q
  have a3:Mod (λb=>b=k\/al sw b) A A4:=a2.trans' x4 λb _ q=>q.elim
  exact a3.trans' m47 λb _ q=>.inl q
 have s'own:∀b,al s' b->al sw b\/A.size<=b:=λb hb=>(g2.2 b hb).imp_right λq=>by omega
 have cown:∀b,al c b->A.size<=b:=λb hb=>by have:=f4 b hb;have:=m3.size;omega
 have p7:aM F A7 p dp s:=hp.ak λb hb hlt=>m07.same b hlt λq=>hd b hb (q.imp_right .inl)
 have hd7:∀b,F b->¬fg k s' c b:=by
  rintro b hb (q|q|q)
  ·exact hd b hb (.inl q)
  ·rcases s'own b q with u|u
   ·exact hd b hb (.inr (.inl u))
   ·have:=hp.lt b hb;omega
  ·have:=cown b q;have:=hp.lt b hb;omega
 have S7:∀(F':Nat->Prop) (sw':Sl) (H':Heap),(∀b,al sw' b->al s' b)->Mod (λb=>F b\/b=k) A7 H'->(∀b,F' b->F b\/A7.size<=b)->Step (λb=>F b\/fg k sw sl b) (λb=>F' b\/fg k sw' c b) A H':=by
  intro F' sw' H' h1 h2 h3
  have z7':=m07.size
  refine⟨(m07.mono λb _ q=>.inr (q.imp_right .inl)).trans' h2 λb _ q=>q.imp_right .inl,λb hb=>?_⟩
  rcases hb with q|q|q|q
  ·rcases h3 b q with u|u
   ·exact .inl (.inl u)
   ·right;omega
  ·exact .inl (.inr (.inl q))
  ·rcases s'own b (h1 b q) with u|u
   ·exact .inl (.inr (.inr (.inl u)))
   ·exact .inr u
  ·exact .inr (cown b q)
 refine aj.ld (c:=aa .i64) (i:=7) (x:=((w.n+1:Nat):Int)) r7' (bh.tail (j:=1) rfl) ?_
 refine aj.ld (c:=aa .i64) (i:=3) (x:=aW w.b.width) r7' (bh.get 3 _ rfl) ?_
 refine ae (λhc=>?_) (λhc=>?_)
 ·have e3:((w.n+1:Nat):Int)<aW w.b.width:=by simpa using hc
  rw[if_pos e3] at hK
  exact hK F s' c A7 p7 h7 hd7 (S7 F s' A7 (λ_ q=>q) (.refl _ _) λb q=>.inl q)
 ·have e3:¬((w.n+1:Nat):Int)<aW w.b.width:=by simpa using hc
  rw[if_neg e3] at hK
  refine yK (hg.ak (m07.same _ hg.lt ?_)) h7 p7 hd7 hn hlogs hnx h0 hfit λF' sw' H' p8 h8 hsub m8 hown=>hK F' sw' c H' p8 h8 ?_ (S7 F' sw' H' hsub m8 hown)
  ·rintro(q|q)
   ·exact hgs (.inl q)
   ·exact hgs (.inr (.inl q))
  ·rintro b hb (q|q|q)
   ·rcases hown b hb with u|u
    ·exact hd7 b u (.inl q)
    ·have:=h7.lt b (.inl q);omega
   ·rcases hown b hb with u|u
    ·exact hd7 b u (.inr (.inl (hsub b q)))
    ·have:=h7.lt b (.inr (.inl (hsub b q)));omega
   ·rcases hown b hb with u|u
    ·exact hd7 b u (.inr (.inr q))
    ·have:=h7.lt b (.inr (.inr q));omega
theorem EX {l:Sl}{ll:List Int}{K:Int->Heap->Prop}(hg:Gl H)(hgs:¬fg k sw sl bx)(h:oQ H k p w sw sl)(hp:aM F H p dp s)(hd:∀b,F b->¬fg k sw sl b)
  (hl:Ints .u64 H l ll) (hlb:∀ad,l.a=some ad->¬fg k sw sl ad.block) (hlen:ll.length<=1000000) (hwl:w.wait.length<=1000000) (hwr:w.rows<1099511627776) (hwn:w.n<1099511627776)
  (hn:w.b.name.size<=9223372036854775807) (hlogs:s.d.logs<68719470000) (hnx:s.next<1099511627776) (h0:0<=s.next) (hfit:s.Fit)
  (hK:∀F' sw' sl' H',aM F' H' p dp (w.add s ll).1->oQ H' k p (w.add s ll).2.1 sw' sl'->(∀b,F' b->¬fg k sw' sl' b)->Step (λb=>F b\/fg k sw sl b) (λb=>F' b\/fg k sw' sl' b) H H'->K (w.add s ll).2.2 H'):tV.sp (aD k) l H K:=vR hg hgs h hp hd hl hlb (λ_=>hlen) hwl hwr hwn hn hlogs hnx h0 hfit hK
end
end Go.Proofs.YtdpdmbceakdlmaaGreatDoor
