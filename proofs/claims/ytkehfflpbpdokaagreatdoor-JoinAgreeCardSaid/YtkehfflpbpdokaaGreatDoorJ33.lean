/-
 The pool: a file's frames, rising: the values of a map, those that are wanted, sorted.
-/
import Derived.Lib.SliceRun
import Derived.Test.YtkehfflpbpdokaaGreatDoorVc
import Derived.Test.YtkehfflpbpdokaaGreatDoorFxg
import Derived.Test.YtkehfflpbpdokaaGreatDoorFxj
import Derived.Test.YtkehfflpbpdokaaGreatDoorJ30
import Derived.Test.YtkehfflpbpdokaaGreatDoorFxq
import Derived.Test.YtkehfflpbpdokaaGreatDoorLay
open Array renaming getElem?_eq_some_iff->Qv,replicate->RJ,getElem?_push->Tm
open BitVec renaming ofInt->R9,toNat_ofNat->Ss,ofInt_natCast->Th
open Bool renaming and_eq_true->Qz
open Go.Addr renaming add->QS
open Go.Builtin renaming append_->Qo,clear_->WO
open Go.IntKind renaming i64->Qe,u8->QF,u64->Q0,wrap_u64->Ve,wrap_u8->Wp
open Go.Proofs.AnyF renaming slices_SortFunc_none->Vo
open Go.Proofs.Tryz renaming prog->Qf,zeroValue228->Y9,func197->ZW
open Go.Value renaming int->Ql,oneCell'->WQ
open Go.Value.slice renaming injEq->Q3
open Go.World renaming frozen?->VH,cell?->Y3
open Int renaming tdiv->Qy,toNat_natCast->QD,tmod->QK,eq_ofNat_of_zero_le->SN,ofNat_tdiv->X5
open List renaming getElem?_eq_getElem->Qg,mem_of_getElem?->Qi,getElem?_eq_some_iff->Qk,getElem_mem->Qn,mem_iff_getElem?->Qr,length_append->Qt,length_take->Qw,take_succ_eq_append_getElem->QA,mem_map->QB,getElem?_map->QC,replicate->QE,length_drop->QG,length_map->QI,getD->QM,take_of_length_le->QO,eq_nil_of_length_eq_zero->QW,map_append->Q4,flatMap_cons->Q5,getElem?_take->Rb,drop_of_length_le->Rj,getElem?_drop->Rr,map_congr_left->Rx,map_map->RE,map_cons->RH,range->RI,filter_append->RU,mergeSort_perm->Sj,pairwise_map->SH,length_filter_le->SK,take_take->Tg,getElem_map->Tu,pairwise_mergeSort->TH,ext_getElem->Uq,map_take->Uy,getElem_range->UH,drop_drop->UR,getElem?_append->U6,all_eq_false->Vu,Nodup->VT,map_nil->VV,drop_eq_nil_iff->V0,getElem?_range->V5,filter_map->Xt,foldl_append->YC
open List.Nodup renaming length_le_of_subset->VZ
open List.Pairwise renaming imp_of_mem->Zm
open List.Perm renaming eq_of_pairwise->Vk,trans->Xs,of_eq->Xu
open Nat renaming le_refl->Qm,zero_le->QN,lt_of_lt_of_le->QP,le_trans->QZ,lt_or_ge->Q6,mul_one->Q9,mul_le_mul_right->Ra,le_succ->Ri,succ_mul->RX,reduceAdd->SQ,succ_le_of_lt->T9,mod_eq_of_lt->Um,add_zero->UU,sub_zero->Vj
open Option renaming getD_some->Sw,map_some->Uz
open Option.some renaming inj->Qq
namespace Go.Proofs.YtkehfflpbpdokaaGreatDoor
open Go.MapKept
def gW:kK Nat:=⟨1,λp=>[cG p],λ_=>rfl,λx u hu=>by simp at hu;subst hu;rfl⟩
theorem tg (l:List Nat):gW.all l=l.map cG:=by
 induction l with
 |nil=>rfl
 |cons x l a=>
   have:gW.all (x::l)=cG x::gW.all l:=rfl;rw[this,a];rfl
theorem NR:IG Qf Eu uX gW.size 8:=tH (by kernel_rfl)
def BM (e:MapEntry):Nat:=match e.val with|.pointer (some a)=>a.block|_=>0
theorem vB {l cap:Nat}{x:PG}{H:aa}{K:Unit->aa->Prop}(I:List MapEntry->aa->Prop)(t:aS H x)(f:ab H cap AN #[.map (some x.mf)])
  (N:∀A,Mod (λ_=>False) H A->I [] A) (u:∀l A a,I l A->Mod (λb=>b=H.size) A a->a.size=A.size->I l a)
  (hs:∀ls e q A,I ls A->e∈x.ef.toList->e.val=cG q->(∀y∈ls,y∈x.ef.toList)->ls.Nodup->e∉ls->A[x.mf]?=some (.map x.ef x.cf)->H.size<A.size->cM Qf l #[cG q] A λb a=>b=true/\I (ls++[e]) a/\a[x.mf]?=A[x.mf]?/\a[H.size]?=A[H.size]?)
  (g:∀ls A,I ls A->ls.Perm x.ef.toList->K () A):Hj.sp l ⟨cap,0,none⟩ H K:=by
 refine Hj.of ?_;unfold Hj.vc;have:=f.ld (c:=dB) (i:=0) (x:=some x.mf) rfl (K:=λx=>bI aq Qf (Instr.range AN (.map x)) H λ(it:Option Addr) H1=>aF Unit () H1 λnext _ O=>bI pG Qf (Instr.next (.pointer it) false J3) O λ(nx:Bool×List Value) E=>br nx.1 (bI Bo Qf (Instr.entry (.pointer it)) E λ(P:Value×Value) Q=>Ot aq P.2 λ(v:Option Addr)=>cM Qf l #[(.pointer v)] Q λ(b:Bool) F=>br (!b) (K () F) (next () F)) (K () E));refine this ?_;obtain⟨W,inf,hu,_,_⟩:=po;refine uV hu t.fmap λH1 j G=>?_;have k:H.size<H1.size:=aI j;have w:aS H1 x:=t.aE λb _ R=>G.same b R id;refine uP (it:=H.size) (λls _ A=>I ls A/\H.size<A.size) w.fmap j ⟨N H1 G,k⟩ (λl x A a h m s=>⟨u l A a h.1 m s,by omega⟩) ?_ (λls x A h S _=>g ls A h.1 S);rintro ls e ⟨⟩ A next ⟨T,B⟩ he C n D hr r d
 obtain⟨z,hz,_,J⟩:=t.entry he;refine⟨av z.2.p,by rw[J];rfl,?_⟩;refine(hs ls e z.2.p A T he J n D C hr B).mono λb a U=>?_;obtain⟨rfl,h1,V,L⟩:=U;refine az rfl (d () a ⟨h1,?_⟩ V L);obtain⟨o,M⟩:=r;rw[<-L] at M;exact aI M
theorem rW {cap:Nat}{x:PG}{H:aa}{K:Sl->aa->Prop}(T:aS H x)(t:ab H cap AN #[.map (some x.mf)]) (hlen:x.ef.size<=1048576)
  (Z:∀(s:Sl) (ls:List MapEntry) (H':aa),dm gW uX H' s (ls.map BM)->ls.Perm x.ef.toList->Mod (λ_=>False) H H'->(∀b,al s b->H.size<=b)->K s H'):
  Lw.sp (Sl.mk none 0 0) (.func (.func Hj.no) #[] #[(.pointer (some ⟨cap,0,none⟩))]) H K:=by
 refine Lw.of ?_;unfold Lw.vc;refine aj λH1 s1 U m1=>?_;have g:cI Qf Hj.no=true:=by kernel_rfl
 refine⟨_,_,rfl,g,λrec d=>?_⟩;obtain⟨r,hr⟩:∃r,r=H1.size:=⟨_,rfl⟩;obtain⟨l,B⟩:∃l,l=H1.size+1:=⟨_,rfl⟩;obtain⟨p,N⟩:∃p,p=H.size:=⟨_,rfl⟩;rw[<-B] at d ⊢;rw[<-hr];rw[<-N] at U;rw[<-N] at d;rw[<-N];obtain⟨f,m⟩:∃f:aa,f=(H1.push (.deferred (some []))).push (.loop (rec .ready none)):=⟨_,rfl⟩;rw[<-m];have J:Mod (λ_=>False) H1 f:=by rw[m];exact(Mod.push _ _ _).trans (Mod.push _ _ _)
 have sB:f.size=H1.size+2:=by rw[m];simp
 have lB:f[l]?=some (.loop (rec .ready none)):=by rw[m,B,Tm,if_pos (by simp)]
 have rB:f[r]?=some (.deferred (some [])):=by rw[m,hr];simp[Tm]
 have pB:ab f p Eu #[(Sl.mk none 0 0).v]:=U.ext J;have FB:aS f x:=(T.aE λb _ B=>m1.same b B id).aE λb _ B=>J.same b B id;have cB:ab f cap AN #[.map (some x.mf)]:=(t.ext m1).ext J;have ae:=T.fmap.lt;have af:cap<H.size:=aI t
 let I:List MapEntry->aa->Prop:=λls A=>A[l]?=some (.loop (rec .ready none))/\A[r]?=some (.deferred (some []))/\(∃s,ab A p Eu #[s.v]/\dm gW uX A s (ls.map BM)/\(∀b,al s b->f.size<b))/\Mod (λb=>b=p\/b=l\/b=f.size) f A
 refine Spec.mono (R:=λv H'=>∃x:Unit,v=(bf []).enc x/\oz l rec H' _ _ _) (vB (l:=l) (cap:=cap) (x:=x) (H:=f) (K:=λ_ H'=>oz l rec H' _ _ _) I FB cB ?_ ?_ ?_ ?_) (λv H' ⟨x,_,h⟩=>h)
 ·intro A n;exact⟨n.at lB id,n.at rB id,⟨_,pB.ext n,dm.nil _ _ _,by rintro b ⟨ad,q,_⟩;cases q⟩,Ext.mod n⟩
 ·rintro ls A L ⟨i1,i2,⟨s,i3,i4,i5⟩,i6⟩ n hs;refine⟨n.at i1 (by omega),n.at i2 (by omega),⟨s,i3.mod n (by omega),i4.aE λb a j=>n.same b j (by have:=i5 b a;omega),i5⟩,i6.trans (n.mono λb _ e=>.inr (.inr e))⟩
 ·rintro ls e q A ⟨i1,i2,⟨s,i3,i4,i5⟩,i6⟩ he hv C O a1 P a6;refine d [cG q] A _ i1 ?_;show jz (some (av q)) _;refine⟨i1,?_⟩;obtain⟨w,o⟩:∃w:aa,w=A.setIfInBounds l (.loop (rec .busy none)):=⟨_,rfl⟩;rw[<-o];have k:Mod (λb=>b=l) A w:=by rw[o];exact Mod.setObj rfl
  have a7:w.size=A.size:=by rw[o];simp
  have Q:w[l]?=some (.loop (rec .busy none)):=by rw[o];exact ib i1
  have D:p≠l:=by omega
  have p1:=i3.mod k D;refine p1.ld (c:=au) (i:=0) (x:=s) rfl ?_;have V:∀b,al s b->b≠l:=λb a=>by have:=i5 b a;omega
  have o1:dm gW uX w s (ls.map BM):=i4.aE λb a j=>k.same b j (V b a);have a8:(ls.map BM).length<=1048576:=by
   have:=VZ O (l₂:=x.ef.toList) (λy hy=>C y hy);simp at this ⊢;omega
  have S:BM e=q:=by unfold BM;rw[hv];rfl
  refine dm.push (E:=gW) NR (x:=q) o1 rfl (by omega) (by omega) λs2 W o2 g2 _=>?_;have lp:p<w.size:=aI p1;have tp:∀b,al s b->b≠p:=λb a=>by have:=i5 b a;omega
  have p2:ab W p Eu #[s.v]:=p1.mod g2.1 (λa=>tp _ a rfl);have ba:=i6.size;have t2:∀b,al s2 b->f.size<b:=λb a=>by
   rcases g2.2 b a with q|q
   ·exact i5 b q
   ·omega
  have u:=p2.st (i:=0) (v:=s2.v) (by simp) rfl (K:=λX=>X[l]?=some (.loop (rec .busy none))/\(λb L=>b=true/\I (ls++[e]) L/\L[x.mf]?=A[x.mf]?/\L[f.size]?=A[f.size]?) true (X.setIfInBounds l (.loop (rec .ready none))));rw[show (QS ⟨p,0,none⟩ 0)=⟨p,0,none⟩ from rfl] at u;refine u λM p3 m3 s3=>?_;have l2:W[l]?=some (.loop (rec .busy none)):=g2.1.at Q (λa=>V _ a rfl);have Y:M[l]?=some (.loop (rec .busy none)):=m3.at l2 (by omega);have m4:Mod (λb=>b=l) M (M.setIfInBounds l (.loop (rec .ready none))):=Mod.setObj rfl;have z2:=g2.1.size;refine⟨Y,rfl,⟨ib Y,?_,⟨s2,?_,?_,t2⟩,?_⟩,?_,?_⟩
  ·exact m4.at (m3.at (g2.1.at (k.at i2 (by omega)) (λa=>by have:=i5 _ a;omega)) (by omega)) (by omega)
  ·exact ab.mod (show ab M p Eu #[s2.v] from p3) m4 D
  ·rw[Q4,RH,VV,S];refine o2.aE λb a j=>?_;have:=t2 b a;exact(m4.same b (by omega) (by omega)).trans (m3.same b j (by omega))
  ·refine i6.trans' (G:=λb=>(b=l\/al s b)\/b=p) ?_ ?_
   ·exact(((k.mono λb _ e=>.inl (.inl e)).trans (g2.1.mono λb _ e=>.inl (.inr e))).trans (m3.mono λb _ e=>.inr e)).trans (m4.mono λb _ e=>.inl (.inl e))
   ·rintro b a ((e|e)|e)
    ·exact .inr (.inl e)
    ·have:=i5 b e;omega
    ·exact .inl e
  ·have F:=aI P;exact(m4.same _ (by omega) (by omega)).trans ((m3.same _ (by omega) (by omega)).trans ((g2.1.same _ (by omega) (λa=>by have:=i5 _ a;omega)).trans (k.same _ F (by omega))))
  ·exact(m4.same _ (by omega) (by omega)).trans ((m3.same _ (by omega) (by omega)).trans ((g2.1.same _ (by omega) (λa=>by have:=i5 _ a;omega)).trans (k.same _ (by omega) (by omega))))
 ·rintro ls A ⟨i1,i2,⟨s,i3,i4,i5⟩,i6⟩ z;refine⟨.ready,none,i1,rfl,?_⟩;show ld au _ _ _;have m4:Mod (λb=>b=l) A (A.setIfInBounds l (.loop (rec .exhausted none))):=Mod.setObj rfl;have p4:=i3.mod m4 (by omega);refine p4.ld (c:=au) (i:=0) (x:=s) rfl ?_;have r4:=m4.at i2 (by omega);refine⟨r4,?_⟩;have m5:Mod (λb=>b=r) (A.setIfInBounds l (.loop (rec .exhausted none))) ((A.setIfInBounds l (.loop (rec .exhausted none))).setIfInBounds r (.deferred none)):=Mod.setObj rfl;have z6:=i6.size;have z4:=m4.size;refine Z s ls _ ?_ z ?_ (λb a=>by have:=i5 b a;omega)
  ·refine i4.aE λb a j=>?_;have:=i5 b a;exact(m5.same b (by omega) (by omega)).trans (m4.same b j (by omega))
  ·have z5:=m5.size;refine⟨by omega,λb a _=>(m5.same b (by omega) (by omega)).trans ((m4.same b (by omega) (by omega)).trans ((i6.same b (by omega) (by omega)).trans ((J.same b (by omega) id).trans (m1.same b a id))))⟩
theorem yq {H:aa}{s:Sl}{ps:List Nat}(h:dm gW uX H s ps){i:Nat}{q:Nat}(hi:ps[i]?=some q){z:Int}(hz:z=(i:Int)){K:Addr->Option Addr->Prop}(d:∀ad,s.a=some ad->K ad (av q)):
  ah s.a λa=>(0<=z/\z<(s.n:Int))/\ld aq H (a.add (z.toNat*1)) λv=>K a v:=by
 subst hz;have e:=(Qk.1 hi).1;have f:=h.n (by decide);obtain⟨ad,b⟩:=tM.addr h.rd (by decide) (by omega);refine aY ad b ⟨⟨by omega,by omega⟩,?_⟩;have:=tM.ld (E:=gW) (c:=aq) (y:=av q) h.rd b hi (j:=0) rfl (n:=i*1) rfl (d ad b);rw[show (QS (QS ad (i*1)) 0)=QS ad (i*1) from rfl] at this;rw[QD];exact this
structure Kept (H:aa)(cap:Nat)(n:ByteArray)(ps:List Nat)(sel:Nat->Bool):Prop where
 cap:ab H cap Ox #[.string n]
 fr:∀q∈ps,∃g f,ez H g f/\g.p=q/\sel q=(f.name.toList==n.toList)
theorem F7 {H:aa}{cap q:Nat}{n:ByteArray}{ps:List Nat}{sel:Nat->Bool}{K:Bool->aa->Prop}(h:Kept H cap n ps sel)(b:q∈ps)(d:K (!sel q) H):EZ.sp (av q) ⟨cap,0,none⟩ H K:=by
 refine EZ.of ?_;unfold EZ.vc;simp only[aw,add_add,SQ];obtain⟨g,f,e,rfl,hs⟩:=h.fr q b;refine e.row.ld (c:=dN) (i:=0) (x:=f.name) rfl ?_;have:=h.cap.ld (c:=dN) (i:=0) (x:=n) rfl (K:=λ(a:ByteArray)=>K (!(f.name.toList==a.toList)) H);rw[show (QS ⟨cap,0,none⟩ 0)=⟨cap,0,none⟩ from rfl] at this;refine this ?_;rw[<-hs];exact d
theorem AZ {H:aa}{cap:Nat}{n:ByteArray}{s:Sl}{ps:List Nat}{sel:Nat->Bool}{K:Int->aa->Prop}(h:dm gW uX H s ps)(hk:Kept H cap n ps sel)(o:ps.length<=1048576)
  (j:ps.filter sel=ps->K (-1) H) (l:∀i,i<ps.length->(ps.take i).filter sel=ps.take i->(∃q,ps[i]?=some q/\sel q=false)->K (i:Int) H):L9.sp s ⟨cap,0,none⟩ H K:=by
 refine L9.of ?_;unfold L9.vc;have f:=h.n (by decide);refine ay ps.length (λk x H1=>H=H1/\x=(k:Int)/\(ps.take k).filter sel=ps.take k) ⟨rfl,rfl,by simp⟩ ?_;rintro k _ _ next m ⟨rfl,rfl,d⟩ b
 refine ao (λc=>?_) (λc=>?_)
 ·have a:k<ps.length:=by rw[f] at c;simpa using c
  have g:ps[k]?=some ps[k]:=Qg a;refine yq h g rfl λad p=>?_;refine F7 hk (Qn a) ?_;cases hs:sel ps[k] with
  |false=>exact aT rfl (l k a d ⟨_,g,hs⟩)
  |true=>
    refine az rfl (b a _ _ ⟨rfl,aH k (by omega),?_⟩);rw[QA a,RU,d];simp[hs]
 ·have e:k=ps.length:=by rw[f] at c;simp at c;omega
  rw[e,QO (Qm _)] at d;exact j d
theorem w9 {P:Program}{w:World}{g o:Nat}{t:TypeId}{vs:List Value}{cur:Array Value}(d:w.heap[g]?=some (.cells cur t (0,0)))(c:o+vs.length<=cur.size)(h1:∀v∈vs,v.oneCell'=true):
  w.setCells g o vs=w.setRow g (cur.toList.take o++vs++cur.toList.drop (o+vs.length)).toArray:=by
 have a:=run_storeCells_cells (P:=P) g o vs 0 w (λj e=>by simp[Y3,d];omega) (λj e=>by simp[VH,d]) h1;have b:=run_storeCells_at P g o t vs 0 cur w d (by simpa using c) h1;simp only[UU] at a b;rw[a] at b;simpa using b
theorem Kf:∀w:World,(zeroValue uX).run Qf w=.ok (.pointer none) w:=Y9
theorem M6:Qf.underlying Eu=some (.slice uX):=by kernel_rfl
theorem DB {H:aa}{s:Sl}{ps:List Nat}{lo:Nat}{ty:TypeId}{K:Value->aa->Prop}(h:dm gW uX H s ps)(n:lo<ps.length)
  (l:∀v H',dm gW uX H' (Sl.mk s.a lo s.c) (ps.take lo)->Mod (al s) H H'->K v H'):
  bI jF Qf (WO #[Eu] ty #[(.slice (bF s.a s.c lo 1) (s.n - lo) (s.c - lo))]) H K:=by
 intro w hw;subst hw;have o:=h.n (by decide);rcases h.2 with ⟨b,e2⟩|⟨g,cap,cur,b,z,d,p,q,r,i⟩
 ·omega
 ·cases s with
  |mk A m f=>
  simp only[Sl.v,Q3] at b;obtain⟨rfl,_,rfl⟩:=b;simp only at o p i l ⊢;have a:gW.size=1:=rfl;rw[a,Q9] at r i;have t:bF (some ⟨g,0,none⟩) f lo 1=some ⟨g,lo,none⟩:=by
   unfold bF;rw[if_neg (by omega)];simp[bJ]
  rw[t];have hr:=Lib.run_clear_slice (P:=Qf) w Eu uX ty (.pointer none) M6 Kf rfl rfl g lo (m - lo) (f - lo) (by omega) (λj u=>by simp[Y3,d];omega) (λj u=>by simp[VH,d]);rw[w9 (P:=Qf) d (by simp;omega) (by intro v x;rw[List.eq_of_mem_replicate x];rfl)] at hr;have c:∀k,al (Sl.mk (some ⟨g,0,none⟩) m f) k↔k=g:=λk=>⟨λ⟨ad,h1,y⟩=>by cases h1;exact y.symm,λh=>⟨_,rfl,h.symm⟩⟩;refine⟨_,_,hr,⟨_,rfl,l _ _ ?_ ⟨by simp[World.setRow],λk _ hk=>setRow_other w g k _ (λe=>hk ((c k).2 e))⟩⟩,⟨rfl,Qm _⟩⟩;refine⟨by rw[tg];simp[a];omega,.inr ⟨g,f,_,rfl,QN _,setRow_heap w g cur _ _ _ d,by simp only;omega,q,?_,?_⟩⟩
  ·simp only[a,Q9,List.size_toArray,Qt,Qw,List.length_replicate,QG,Array.length_toList];omega
  ·simp only[a,Q9];rw[List.append_assoc,List.take_append_of_le_length (by simp;omega),Tg,Nat.min_self];have b:gW.all (ps.take lo)=(gW.all ps).take lo:=by rw[tg,tg,Uy]
   rw[b,<-i,Tg,Nat.min_eq_left (by omega)]
theorem DC {H:aa}{cap:Nat}{n:ByteArray}{s:Sl}{ps:List Nat}{sel:Nat->Bool}{K:Sl->aa->Prop}(h:dm gW uX H s ps)(hk:Kept H cap n ps sel)(M:ps.length<=1048576)(w:∀b,al s b->b≠cap)
  (hK:∀N H',dm gW uX H' N (ps.filter sel)->Mod (al s) H H'->(∀b,al N b->al s b)->K N H'):Lv.sp s ⟨cap,0,none⟩ H K:=by
 refine Lv.of ?_;unfold Lv.vc;have hn:=h.n (by decide);have af:=aA.cap h;refine AZ h hk M (λB=>aT rfl (hK s H (by rw[B];exact h) (.refl _ _) λ_ q=>q)) (λi hi C O=>?_);refine az (by simp) ?_
 -- the frames' own blocks are not the slice's
 have ae:∀q∈ps,¬al s q:=by
  intro q D P;obtain⟨c,e⟩:=h.obj q P;obtain⟨g,f,I,rfl,_⟩:=hk.fr q D;exact absurd (aR I.row e) (by decide)
 have r:∀{A:aa},Mod (al s) H A->(∀q∈ps,∃g f,ez H g f/\g.p=q/\sel q=(f.name.toList==n.toList))->Kept A cap n ps sel:=by
  intro A u _;refine⟨u.at hk.cap λq=>w cap q rfl,λq D=>?_⟩;obtain⟨g,f,I,J,e2⟩:=hk.fr q D;refine⟨g,f,I.aE λb P M=>u.same b M λq2=>?_,J,e2⟩;obtain⟨c,e⟩:=h.obj b q2;obtain⟨cs,t,e3,ht⟩:=I.obj b P;have:=aR e e3;rw[<-this] at ht;exact absurd ht (by decide)
 obtain⟨q0,E,Q⟩:=O;have R:Qe.wrap ((i:Int)+1)=((i+1:Nat):Int):=aH i (by omega);rw[R];refine⟨Nat×Nat×List Nat,λt z A=>z=((t.1:Int),(t.2.1:Int))/\dm gW uX A s t.2.2/\t.2.2.length=ps.length/\t.2.2.take t.1=(ps.take t.2.1).filter sel/\t.2.2.drop t.2.1=ps.drop t.2.1/\t.1<t.2.1/\t.2.1<=ps.length/\Mod (al s) H A,λt=>ps.length - t.2.1,⟨(i,i+1,ps),rfl,h,rfl,?_,rfl,Nat.lt_succ_self _,hi,.refl _ _⟩,?_⟩
 ·show ps.take i=(ps.take (i+1)).filter sel;have D:ps[i]=q0:=by rw[Qg hi] at E;exact Qq E
  rw[QA hi,RU,C,D];simp[Q]
 ·rintro⟨a,j,cur⟩ z A ⟨rfl,o,hlen,k,m,S,hj,u⟩;simp only at o hlen k m S hj ⊢;have T:=r u hk.fr;refine ao (λF=>?_) (λF=>?_)
  ·have d:j<ps.length:=by rw[hn] at F;simp at F;omega
   have U:cur[j]?=some ps[j]:=by
    have J:(cur.drop j)[0]?=(ps.drop j)[0]?:=by rw[m]
    rw[Rr,Rr,UU,Qg d] at J;exact J
   refine yq o U rfl λad ha=>?_;refine F7 T (Qn d) ?_;have G:Qe.wrap ((j:Int)+1)=((j+1:Nat):Int):=aH j (by omega);have p:∀l:List Nat,l.drop j=ps.drop j->l.drop (j+1)=ps.drop (j+1):=by
    intro l e;have:(l.drop j).drop 1=(ps.drop j).drop 1:=by rw[e]
    rwa [UR,UR] at this
   cases hs:sel ps[j] with
   |false=>
     refine az rfl ⟨(a,j+1,cur),⟨by rw[G],o,hlen,?_,p cur m,by simp only;omega,d,u⟩,by simp only;omega⟩;simp only;rw[QA d,RU,k];simp[hs]
   |true=>
     refine aT rfl ?_;rw[ha];refine⟨⟨by omega,by omega⟩,?_⟩;have V:a<cur.length:=by omega
     have W:cur[a]?=some cur[a]:=Qg V;rw[QD];show st A (QS (QS ad (a*1)) 0) (cG ps[j]) _;refine dm.st (i:=a) (j:=0) (x:=cur[a]) (y:=ps[j]) o ha W (by decide) rfl rfl rfl λA' L X z'=>?_;have Y:Qe.wrap ((a:Int)+1)=((a+1:Nat):Int):=aH a (by omega);refine⟨(a+1,j+1,cur.set a ps[j]),⟨by rw[Y,G],L,by simp[hlen],?_,?_,by simp only;omega,d,u.trans X⟩,by simp only;omega⟩
     ·simp only;rw[QA d,RU,<-k,QA (by simp;omega),List.take_set_of_le (Qm _)];simp[hs]
     ·simp only;rw[List.drop_set_of_lt (by omega)];exact p cur m
  ·have Z:j=ps.length:=by rw[hn] at F;simp at F;omega
   subst Z;rw[QO (Qm _)] at k;refine⟨⟨by omega,by omega⟩,?_⟩;rw[QD];refine DB o (by omega) λv A' L X=>⟨⟨by omega,by omega⟩,?_⟩;rw[iE,Vj,Vj];rw[k] at L;exact hK _ A' L (u.trans X) λb q=>q
open Go.MapKept Go.Shelf Go.Sort
def PG.of (x:PG)(n:ByteArray):List FZ:=(x.zs.filter λz=>z.1.name.toList==n.toList).mergeSort λa b=>decide (a.1.ag<=b.1.ag)
theorem PG.gG {x:PG}{n:ByteArray}{z:FZ}:z∈x.of n↔z∈x.zs/\z.1.name=n:=by
 unfold PG.of;rw[List.mem_mergeSort,List.mem_filter];constructor
 ·rintro⟨h1,a⟩;exact⟨h1,ka (by simpa using a)⟩
 ·rintro⟨h1,a⟩;exact⟨h1,by rw[a];simp⟩
theorem vw {l r:List Nat}(h:l.Perm r)(c:l.Pairwise (·<=·))(hr:r.Pairwise (·<=·)):l=r:=
 Vk (le:=(·<=·)) (λa b _ _ h1 d=>Nat.le_antisymm h1 d) c hr h
theorem PG.we (x:PG)(n:ByteArray):(x.of n).Pairwise λa b=>a.1.ag<=b.1.ag:=by
 unfold PG.of;have:=TH (le:=λa b:FZ=>decide (a.1.ag<=b.1.ag)) (λ_ _ _ h1 c=>by simp at*;omega) (λ_ _=>by simp;omega) (x.zs.filter λz=>z.1.name.toList==n.toList);exact this.imp λh=>by simpa using h
theorem PG.Hq {x:PG}{s:Pl}(h:s.fs=x.fs)(n:ByteArray):(x.of n).map (λz=>z.1.ag)=s.pF n:=by
 refine vw ?_ ?_ ?_
 ·unfold Pl.pF PG.of;rw[h];unfold PG.fs;refine((Sj _ _).map _).trans (Xs ?_ (Sj _ _).symm);rw[Xt,RE];exact List.Perm.refl _
 ·rw[SH];exact x.we n
 ·unfold Pl.pF;have:=TH (le:=λa b:Nat=>decide (a<=b)) (λ_ _ _ h1 c=>by simp at*;omega) (λ_ _=>by simp;omega) ((s.fs.filter λf=>f.name.toList==n.toList).map (·.ag));exact this.imp λh=>by simpa using h
theorem kP {α β:Type}(f:α->β){l:List α}(h:(l.map f).Nodup):l.Nodup:=by
 unfold VT at*;rw[SH] at h;exact h.imp λa e=>a (by rw[e])
theorem wY {α β:Type}{f:α->β}:∀{l:List β},(∀b∈l,∃a,f a=b)->∃r:List α,r.map f=l
 |[],_=>⟨[],rfl⟩
 |b::l,h=>by
   obtain⟨a,d⟩:=h b List.mem_cons_self;obtain⟨r,hr⟩:=wY (l:=l) λc e=>h c (List.mem_cons_of_mem _ e);exact⟨a::r,by rw[RH,d,hr]⟩
theorem G9 {H:aa}{d zb:FZ}(e:ez H d.2 d.1)(f:ez H zb.2 zb.1)(h1:d.1.ag<1048577)(k:zb.1.ag<1048577):
  Spec Qf E5.no #[cG d.2.p,cG zb.2.p] H λv H'=>v=.int .i64 ((d.1.ag:Int) - (zb.1.ag:Int))/\Mod (λ_=>False) H H':=by
 have:=E5.of (a:=av d.2.p) (b:=av zb.2.p) (H:=H) (R:=λr H'=>r=(d.1.ag:Int) - (zb.1.ag:Int)/\Mod (λ_=>False) H H') (by
  unfold E5.vc;simp only[aw,add_add,SQ];refine e.row.ld (c:=ai .i64) (i:=1) (x:=(d.1.ag:Int)) rfl ?_;refine f.row.ld (c:=ai .i64) (i:=1) (x:=(zb.1.ag:Int)) rfl ?_;exact⟨wrap64 (by omega) (by omega),.refl _ _⟩)
 refine Spec.mono this λv H' ⟨x,g,h,j⟩=>?_;subst g;exact⟨by rw[h],j⟩
theorem DA:∀args w,(callFunc E5.no args).run Qf w=.ok (.enter E5.no args) w:=enters_of ZW (by kernel_rfl) rfl
theorem NU {x:PG}{H:aa}{p dp:Nat}{s:Pl}{n:ByteArray}{K:Sl->aa->Prop}(h:bx x H p dp s)
  (hK:∀sl H',dm gW uX H' sl ((x.of n).map λz=>z.2.p)->Ext H H'->(∀b,al sl b->H.size<=b)->K sl H'):LY.sp (av p) n H K:=by
 refine LY.of ?_;unfold LY.vc;simp only[aw];refine aj λH1 s1 r1 e1=>?_;have h1:bx x H1 p dp s:=h.aE λb _ B=>e1.same b B id;refine h1.head.ld (c:=dB) (i:=2) (x:=some x.mf) rfl ?_;refine M7.of ?_;unfold M7.vc;refine aj λH2 s2 r2 e2=>?_;refine MU.of ?_;unfold MU.vc;have F2:aS H2 x:=h1.aD.aE λb _ B=>e2.same b B id;have hlen:=h.wf.len;have ae:=h.wf.most;have bD:=h.n;refine rW F2 r2 (by omega) λsl ls H3 o3 af X f3=>?_;have M:aS H3 x:=F2.aE λb _ B=>X.same b B id;have z1:=e1.size;have z2:=e2.size;have z3:=X.size
 -- the pointers that were met are the frames'
 have o:(ls.map BM).Perm (x.zs.map λz=>z.2.p):=by
  have q1:=(af.map λe=>(e.key,e.val)).trans h.perm;have Y:=q1.map λkv:Value×Value=>(match kv.2 with|.pointer (some a)=>a.block|_=>0);rw[RE] at Y;refine Xs (Xu ?_) (Y.trans (Xu ?_))
  ·exact Rx λe _=>rfl
  ·unfold Ce;rw[RE];exact Rx λz _=>rfl
 have a1:∀q∈ls.map BM,∃z∈x.zs,z.2.p=q:=by
  intro q C;obtain⟨z,hz,e⟩:=QB.1 (o.mem_iff.1 C);exact⟨z,hz,e⟩
 let sel:Nat->Bool:=λq=>x.zs.any λz=>z.2.p==q&&z.1.name.toList==n.toList
 have F:∀z∈x.zs,sel z.2.p=(z.1.name.toList==n.toList):=by
  intro z hz;cases C:z.1.name.toList==n.toList with
  |true=>exact List.any_eq_true.2 ⟨z,hz,by simp[C]⟩
  |false=>
    refine List.any_eq_false.2 λy Z=>?_;intro q;simp only[Qz,beq_iff_eq] at q;have:=h.aD.ptr Z hz q.1;subst this;rw[q.2] at C;simp at C
 have a6:(ls.map BM).length<=1048576:=by
  rw[o.length_eq,QI];have:=h.aD.size;omega
 have a7:Kept H3 H.size n (ls.map BM) sel:=by
  refine⟨X.at (e2.at r1 id) id,λq C=>?_⟩;obtain⟨z,hz,e⟩:=a1 q C;exact⟨z.2,z.1,M.each z hz,e,by rw[<-e];exact F z hz⟩
 refine DC o3 a7 a6 (λb r e=>by have:=f3 b r;omega) λt H4 o4 m4 w4=>?_
 -- sorted
 have bE:Ext H3 H4\/True:=.inr trivial;have a8:aS H4 x:=M.aE λb r B=>m4.same b B λq=>by
  have:=f3 b q;have:=h.aD.lt b r;omega
 have m:((ls.map BM).filter sel).Perm ((x.of n).map λz=>z.2.p):=by
  refine(o.filter sel).trans ?_;rw[Xt];refine List.Perm.map _ (Xs (Xu ?_) (Sj _ _).symm);refine List.filter_congr λz hz=>?_;exact F z hz
 have d:∀b,al t b->H.size<=b:=λb r=>by have:=f3 b (w4 b r);omega
 have e4:Ext H H4:=⟨by have:=m4.size;omega,λb r _=>(m4.same b (by omega) (λq=>by have:=f3 b q;omega)).trans ((X.same b (by omega) id).trans ((e2.same b (by omega) id).trans (e1.same b r id)))⟩;by_cases v:(x.of n)=[]
 ·-- none
  have ba:(ls.map BM).filter sel=[]:=by
   have:=m.length_eq;rw[v] at this;exact QW (by simpa using this)
  rw[ba] at o4;have N:=o4.n (by decide);intro w hw;subst hw;have hc:=Vo (P:=Qf) (ρ:=om) {HY with} t.a t.c (.func (.func E5.no) #[] #[]) w;have e0:t.v=.slice t.a 0 t.c:=by
   cases t;simp only[Sl.v] at N ⊢;rw[N];rfl
  rw[e0];refine hc.mono λe w' ⟨he,bg⟩=>?_;subst bg;refine⟨_,he,⟨(),rfl,hK t _ ?_ e4 d⟩,.refl _⟩;rw[v];exact o4
 ·obtain⟨z0,bl⟩:=List.exists_mem_of_ne_nil _ v;obtain⟨la,J⟩:=wY (f:=λa:{z:FZ // z∈x.zs/\z.1.name=n}=>a.1.2.p) (l:=(ls.map BM).filter sel) (λq C=>by
   obtain⟨z,hz,e⟩:=QB.1 (m.mem_iff.1 C);exact⟨⟨z,PG.gG.1 hz⟩,e⟩)
  haveI:Inhabited {z:FZ // z∈x.zs/\z.1.name=n}:=⟨⟨z0,PG.gG.1 bl⟩⟩
  let E:kK {z:FZ // z∈x.zs/\z.1.name=n}:=⟨1,λa=>[cG a.1.2.p],λ_=>rfl,λx u hu=>by simp at hu;subst hu;rfl⟩
  have L:∀l:List {z:FZ // z∈x.zs/\z.1.name=n},E.all l=gW.all (l.map λa=>a.1.2.p):=by
   intro l
   induction l with
   |nil=>rfl
   |cons a l ih=>
     have q1:E.all (a::l)=cG a.1.2.p::E.all l:=rfl;have Y:gW.all ((a::l).map λa=>a.1.2.p)=cG a.1.2.p::gW.all (l.map λa=>a.1.2.p):=rfl;rw[q1,Y,ih]
  have oE:∀{A:aa} {l:List {z:FZ // z∈x.zs/\z.1.name=n}},dm E uX A t l↔dm gW uX A t (l.map λa=>a.1.2.p):=by
   intro A l;unfold dm;rw[L];exact Iff.rfl
  have bs:dm E uX H4 t la:=by rw[oE,J];exact o4
  have O:∀a:{z:FZ // z∈x.zs/\z.1.name=n},a.1.1.ag<1048577:=λa=>(h.wf.aG a.1.1 (by rw[h.fs];exact QB.2 ⟨a.1,a.2.1,rfl⟩)).1
  let cf:{z:FZ // z∈x.zs/\z.1.name=n}->{z:FZ // z∈x.zs/\z.1.name=n}->Int:=λa b=>(a.1.1.ag:Int) - (b.1.1.ag:Int)
  have k:∀a b,ltOf cf a b=decide (a.1.1.ag<b.1.1.ag):=by
   intro a b;show decide ((a.1.1.ag:Int) - (b.1.1.ag:Int)<0)=_;rw[decide_eq_decide];omega
  have hO:SWO (ltOf cf):=⟨λa=>by rw[k];simp,λa b c h1 G=>by rw[k] at*;simp at*;omega,λa b c h1 G=>by rw[k] at*;simp at*;omega⟩;have hT:∀a b,(ltOf cf) a b=false->(ltOf cf) b a=false->a=b:=by
   intro a b h1 G;rw[k] at h1 G;simp at h1 G;apply Subtype.ext;obtain⟨i,hi⟩:=Qr.1 a.2.1;obtain⟨j,hj⟩:=Qr.1 b.2.1;have hk:=h.wf.keys;have:=key_inj (p:=s) hk (i:=i) (j:=j) (f:=a.1.1) (g:=b.1.1) (by rw[h.fs];simp[PG.fs,hi]) (by rw[h.fs];simp[PG.fs,hj]) (by rw[a.2.2,b.2.2]) (by omega);subst this;rw[hi] at hj;exact Qq hj
  have Q:la.length<4611686018427387904:=by
   have:la.length=((ls.map BM).filter sel).length:=by rw[<-J,QI]
   have G:=SK sel (ls.map BM);omega
  refine vA (ρ:=om) (E:=E) (e:=λa=>cG a.1.2.p) HY (λ_=>rfl) rfl hO hT DA bs Q (λA mA a b=>?_) λA oA mA=>?_
  ·have R:aS A x:=a8.aE λc hc B=>mA.same c B λq=>by
    have:=d c q;have:=h.aD.lt c hc;omega
   exact G9 (R.each a.1 a.2.1) (R.each b.1 b.2.1) (O a) (O b)
  ·rw[oE] at oA;have D:=Sj la (λx y=>!(ltOf cf) y x);have heq:(la.mergeSort λx y=>!(ltOf cf) y x).map (λa=>a.1.2.p)=(x.of n).map λz=>z.2.p:=by
    have hz:(la.mergeSort λx y=>!(ltOf cf) y x).map (λa=>a.1)=x.of n:=by
     refine Vk (le:=λa b:FZ=>a.1.ag<=b.1.ag) (λa b S r h1 G=>?_) ?_ (x.we n) ?_
     ·obtain⟨T,_,rfl⟩:=QB.1 S;have bA:=PG.gG.1 r;have:=hT T ⟨b,bA⟩ (by rw[k];simp;exact G) (by rw[k];simp;exact h1);exact congrArg Subtype.val this
     ·rw[SH];have:=TH (le:=λx y=>!(ltOf cf) y x) (λa b c h1 G=>by rw[k] at*;simp at*;omega) (λa b=>by rw[k,k];simp;omega) la;exact this.imp λh=>by rw[k] at h;simpa using h
     ·-- the same frames
      have U:(x.of n).Nodup:=by
       have hz:x.zs.Nodup:=by
        have:=h.wf.keys;rw[h.fs] at this;unfold PG.fs at this;rw[RE] at this;exact kP _ this
       unfold PG.of;exact(Sj _ _).symm.nodup (hz.filter _)
      have hA:(la.map λa=>a.1.2.p).Perm ((x.of n).map λz=>z.2.p):=by rw[J];exact m
      have bB:=(D.map λa=>a.1.2.p).trans hA;have inj:∀a∈(la.mergeSort λx y=>!(ltOf cf) y x).map (λa=>a.1),∀b∈x.of n,a.2.p=b.2.p->a=b:=by
       intro a S b r e;obtain⟨T,_,rfl⟩:=QB.1 S;exact h.aD.ptr T.2.1 (PG.gG.1 r).1 e
      have V:((x.of n).map λz=>z.2.p).Nodup:=by
       unfold VT;rw[SH];refine Zm (λ{a b} S r bC e=>bC (h.aD.ptr (PG.gG.1 S).1 (PG.gG.1 r).1 e)) U
      have I:(((la.mergeSort λx y=>!(ltOf cf) y x).map λa=>a.1).map λz=>z.2.p).Perm ((x.of n).map λz=>z.2.p):=by rw[RE];exact bB
      have W:((la.mergeSort λx y=>!(ltOf cf) y x).map λa=>a.1).Nodup:=kP _ (I.symm.nodup V);rw[List.perm_ext_iff_of_nodup W U];intro z;constructor
      ·intro hz;obtain⟨T,_,rfl⟩:=QB.1 hz;exact PG.gG.2 T.2
      ·intro hz;have:z.2.p∈((la.mergeSort λx y=>!(ltOf cf) y x).map λa=>a.1).map λz=>z.2.p:=I.mem_iff.2 (QB.2 ⟨z,hz,rfl⟩);obtain⟨y,Z,e⟩:=QB.1 this;rw[<-inj y Z z hz e];exact Z
    rw[<-hz,RE];rfl
   rw[heq] at oA;refine hK t A oA ⟨by have:=e4.size;have:=mA.size;omega,λb r _=>(mA.same b (by have:=e4.size;omega) (λq=>by have:=d b q;omega)).trans (e4.same b r id)⟩ d
end Go.Proofs.YtkehfflpbpdokaaGreatDoor
namespace Go.Proofs.YtkehfflpbpdokaaGreatDoor
open Go.MapKept
theorem Pl.uQ (s:Pl)(n:ByteArray):(s.pF n).length<=s.fs.length:=by
 unfold Pl.pF;rw[List.length_mergeSort,QI];exact SK _ _
end Go.Proofs.YtkehfflpbpdokaaGreatDoor
namespace Go.Proofs.YtkehfflpbpdokaaGreatDoor
theorem jm {α β:Type}(f:α->β)(u:α->α)(hu:∀x,f (u x)=f x):∀(l:List α) (i:Nat),(l.modify i u).map f=l.map f
 |[],i=>by simp
 |a::l,0=>by simp[hu]
 |a::l,i+1=>by simp[jm f u hu l i]
theorem Pl.nP (p:Pl)(e:Int):(p.met e).d=p.d/\(p.met e).fs=p.fs/\(p.met e).next=p.next/\(p.met e).most=p.most:=by
 unfold Pl.met;split<;>exact⟨rfl,rfl,rfl,rfl⟩
theorem Pl.HV (p:Pl)(n:ByteArray)(k:Int):(p.load n k).1=p\/(p.load n k).1=p.room.1:=by
 unfold Pl.load;split
 ·exact .inl rfl
 ·split
  ·exact .inl rfl
  ·split
   ·exact .inr rfl
   ·split
    ·exact .inr rfl
    ·split<;>exact .inr rfl
theorem Pl.zi (p:Pl)(n:ByteArray)(k:Int):(p.cK n k).1.d.bt<=p.d.bt+1:=by
 unfold Pl.cK;split
 ·exact Ri _
 ·split
  ·exact Ri _
  ·have h:(p.load n k).1.d.bt<=p.d.bt+1:=by
    rcases p.HV n k with e|e
    ·rw[e];exact Ri _
    ·rw[e];exact p.qo
   split
   ·rename_i q f e he;rw[he] at h;exact h
   ·rename_i q e he;rw[he] at h;show (q.met e).d.bt<=_;rw[(q.nP e).1];exact h
theorem Pl.Cf (p:Pl)(n:ByteArray):(p.fresh n).1.d.bt<=p.d.bt+2:=by
 have hr:=p.qo;have hw:=p.room.1.d.uH n (p.d.len n).1 (cD 0 []);unfold Pl.fresh;split
 ·show p.d.bt<=_;omega
 ·split
  ·show (p.met _).d.bt<=_;rw[(p.nP _).1];omega
  ·split
   ·show (p.room.1.met _).d.bt<=_;rw[(p.room.1.nP _).1];omega
   ·split
    ·show ((p.room.1.dH _).met _).d.bt<=_;rw[((p.room.1.dH _).nP _).1];show (p.room.1.d.write _ _ _).1.bt<=_;omega
    ·show (p.room.1.d.write _ _ _).1.bt<=_;omega
theorem Pl.Lo (r:Pl×Int):(Pl.out r).1.d=r.1.d:=(r.1.nP r.2).1
theorem Pl.Lm (p:Pl)(h:Int)(k:UInt8)(b:List UInt8):(p.set h k b).1.d=p.d:=by
 unfold Pl.set;split
 ·rfl
 ·split
  ·split<;>rfl
  ·rfl
theorem Pl.CE (p:Pl)(h:Int):(p.bK h).1.d=p.d:=by
 unfold Pl.bK;split
 ·rfl
 ·split<;>rfl
theorem Pl.Bl (p:Pl)(n:ByteArray):(p.kr n).1.d.bt<=p.d.bt:=by
 have:=p.d.AE n;unfold Pl.kr;split
 ·exact Qm _
 ·split
  ·rw[Pl.Lo];exact Qm _
  ·split
   ·exact Qm _
   ·rw[Pl.Lo];exact this
theorem Pl.Cs (s:Pl)(n:ByteArray)(k:Int):(∃e,s.load n k=(s,none,e))\/(∃e,s.load n k=(s.room.1,none,e))\/∃f,s.load n k=(s.room.1,some f,0)/\f.name=n/\(f.ag:Int)=k/\(s.room.1.d.read n k).2=0:=by
 unfold Pl.load;split
 ·exact .inl ⟨_,rfl⟩
 ·split
  ·exact .inl ⟨_,rfl⟩
  ·rename_i hk;split
   ·exact .inr (.inl ⟨_,rfl⟩)
   ·split
    ·exact .inr (.inl ⟨_,rfl⟩)
    ·rename_i hr;split
     ·exact .inr (.inl ⟨_,rfl⟩)
     ·exact .inr (.inr ⟨_,rfl,rfl,by show ((k.toNat:Nat):Int)=k;omega,by simpa using hr⟩)
theorem xo {x:Int}(a:0<=x)(h1:x<1099511627776):gQ (x+1)=x+1:=by unfold gQ;exact wrap64 (by omega) (by omega)
theorem Pl.Bf (s:Pl)(i:Nat)(a:0<=s.next)(h1:s.next<1099511627776):(s.lO i).next=s.next+1:=xo a h1
theorem Pl.wS (s:Pl)(f:Fr)(a:0<=s.next)(h1:s.next<1099511627776):(s.take f).next=s.next+1:=xo a h1
theorem Pl.ua {s:Pl}{n:ByteArray}{k:Int}(a:0<=s.next)(h1:s.next<1099511627776):(s.cK n k).1.next<=s.next+1:=by
 unfold Pl.cK;split
 ·show s.next<=_;omega
 ·split
  ·rw[Pl.Bf s _ a h1];omega
  ·rcases s.Cs n k with ⟨e,he⟩|⟨e,he⟩|⟨f,he,_⟩
   ·rw[he];show (s.met e).next<=_;rw[(s.nP e).2.2.1];omega
   ·rw[he];show (s.room.1.met e).next<=_;rw[(s.room.1.nP e).2.2.1,s.fI.2.1];omega
   ·rw[he];show (s.room.1.take f).next<=_;rw[Pl.wS _ _ (by rw[s.fI.2.1];exact a) (by rw[s.fI.2.1];exact h1),s.fI.2.1];omega
theorem Pl.tP {s:Pl}{n:ByteArray}(a:0<=s.next)(h1:s.next<1099511627776):(s.fresh n).1.next<=s.next+1:=by
 have hr:=s.fI.2.1;unfold Pl.fresh;split
 ·show s.next<=_;omega
 ·split
  ·show (s.met _).next<=_;rw[(s.nP _).2.2.1];omega
  ·split
   ·show (s.room.1.met _).next<=_;rw[(s.room.1.nP _).2.2.1,hr];omega
   ·split
    ·show ((s.room.1.dH _).met _).next<=_
     rw[((s.room.1.dH _).nP _).2.2.1];show s.room.1.next<=_;rw[hr];omega
    ·show ((s.room.1.dH _).take _).next<=_
     rw[Pl.wS _ _ (by show 0<=s.room.1.next;rw[hr];exact a) (by show s.room.1.next<_;rw[hr];exact h1)];show s.room.1.next+1<=_;rw[hr];omega
theorem Pl.zv (s:Pl)(c:Int)(k:UInt8)(b:List UInt8):(s.set c k b).1.next=s.next:=by
 unfold Pl.set;split
 ·rfl
 ·split
  ·split<;>rfl
  ·rfl
def Pl.leave (r:Pl×Int)(h:Int):Pl×Int:=if r.2=0 then r.1.bK h else r
def Pl.more (p:Pl)(n:ByteArray)(k:UInt8)(b:List UInt8):Pl×Int:=
 if (p.fresh n).2.2.2≠0 then ((p.fresh n).1,(p.fresh n).2.2.2)
 else Pl.leave (if k=0 then ((p.fresh n).1,0) else (p.fresh n).1.set (p.fresh n).2.1 k b) (p.fresh n).2.1
def Pl.look (p:Pl)(n:ByteArray)(g:Int):Pl×UInt8×List UInt8×Int:=
 if (p.cK n g).2.2≠0 then ((p.cK n g).1,0,[],(p.cK n g).2.2)
 else if ((p.cK n g).1.get (p.cK n g).2.1).2.2≠0 then ((p.cK n g).1,(p.cK n g).1.get (p.cK n g).2.1)
 else (((p.cK n g).1.bK (p.cK n g).2.1).1,((p.cK n g).1.get (p.cK n g).2.1).1,((p.cK n g).1.get (p.cK n g).2.1).2.1,((p.cK n g).1.bK (p.cK n g).2.1).2)
theorem Ci {p:List UInt8}{k:UInt8}{b:List UInt8}(h:gV p=some (k,b)):b.length<=504:=by
 unfold gV at h;split at h
 ·rename_i a;cases h;have c:=a.1;rw[Qw];omega
 ·cases h
section
variable {p:Pl}{n:ByteArray}{N q:Nat}{T:Nat->UInt8×List UInt8}
end
theorem yP {a b:Sl}{la lb:List Int}{H:aa}{K:Bool->aa->Prop}(r:Ints .u64 H a la)(s:Ints .u64 H b lb)(hlen:la.length<4611686018427387904)(f:K (decide (la=lb)) H):DW.sp a b H K:=by
 refine DW.of ?_;unfold DW.vc;have g:=r.len;have j:=s.len;refine ao (λh=>?_) (λh=>?_)
 ·have h1:la≠lb:=by intro e;subst e;simp[g,j] at h
  simpa[h1] using f
 ·have h':(a.n:Int)=(b.n:Int):=by simpa using h
  have w:la.length=lb.length:=by omega
  refine⟨Nat,λk i H'=>i=(k:Int)/\k<=la.length/\H'=H/\la.take k=lb.take k,λk=>la.length - k,⟨0,rfl,QN _,rfl,by simp⟩,?_⟩;rintro k i H' ⟨rfl,hk,rfl,l⟩;refine ao (λh1=>?_) (λh1=>?_)
  ·have m:(k:Int)<(a.n:Int):=by simpa using h1
   have c:k<la.length:=by omega
   refine r.ld (by omega) (by omega) λt x=>?_;refine s.ld (by omega) (by omega) λu e2=>?_;simp only[QD];refine ao (λd=>?_) (λd=>?_)
   ·have v:la≠lb:=by intro e;subst e;simp at d
    simpa[v] using f
   ·refine⟨k+1,⟨by rw[wrap64 (by omega) (by omega)];omega,by omega,by trivial,?_⟩,by omega⟩;rw[QA c,QA (by omega:k<lb.length),l];have:la[k]'c=lb[k]'(by omega):=by simpa[QM,Qg c,Qg (by omega:k<lb.length)] using d
    rw[this]
  ·have m:¬((k:Int)<(a.n:Int)):=by simpa using h1
   have o:k=la.length:=by omega
   subst o;have d:la=lb:=by rw[QO (Qm _),QO (by omega)] at l;exact l
   simpa[d] using f
theorem iq {a b:Sl}{la lb:List Int}{H:aa}{K:Bool->aa->Prop}(c:Ints .u64 H a la)(d:Ints .u64 H b lb)(hlen:la.length<1099511627776)(e:K (decide (la=lb)) H):DW.sp a b H K:=yP c d (by omega) e
theorem jB:El Qf cv gM 8 (.int .u64 0):=re (zb:=qt .u64) nI rfl (by kernel_rfl)
theorem ML:El Qf jX kJ 1 (.int .u8 0):=re (zb:=qt .u8) nI rfl (by kernel_rfl)
theorem Gt:El Qf dX bT 8 (.int .i64 0):=re (zb:=qt .i64) nI rfl (by kernel_rfl)
theorem wE:El Qf cW cv 24 (.slice none 0 0):=re (zb:=CR) As rfl (by kernel_rfl)
def aL:List Int->List Int->Int
 |[],[]=>0
 |[],_::_=>-1
 |_::_,[]=>1
 |x::a,y::b=>if x<y then -1 else if y<x then 1 else aL a b
theorem dM:∀{a b:List Int},aL a b=0↔a=b
 |[],[]=>by simp[aL]
 |[],_::_=>by simp[aL]
 |_::_,[]=>by simp[aL]
 |x::a,y::b=>by
   unfold aL;have c:=@dM a b;split
   ·simp;intro h;omega
   ·split
    ·simp;intro h;omega
    ·rw[c];simp;intro;omega
theorem qh:∀(a b:List Int),aL b a=- aL a b
 |[],[]=>by simp[aL]
 |[],_::_=>by simp[aL]
 |_::_,[]=>by simp[aL]
 |x::a,y::b=>by
   have c:=qh a b;simp only[aL];split
   ·rw[if_neg (by omega)];try rfl
   ·split
    ·rfl
    ·exact c
theorem kR (a b:List Int):aL a b=-1\/aL a b=0\/aL a b=1:=by
 induction a generalizing b with
 |nil=>cases b<;>simp[aL]
 |cons x a c=>cases b with
   |nil=>simp[aL]
   |cons y b=>
     simp only[aL];split
     ·simp
     ·split
      ·simp
      ·exact c b
theorem drop_cons {l:List Int}{k:Nat}(h:k<l.length):l.drop k=l.getD k 0::l.drop (k+1):=by
 rw[List.drop_eq_getElem_cons h];simp[QM,Qg h]
theorem qv {a b:Sl}{la lb:List Int}{H:aa}{K:Int->aa->Prop}(s:Ints .u64 H a la)(t:Ints .u64 H b lb)(hlen:la.length<1099511627776)(c:K (aL la lb) H):Ix.sp a b H K:=by
 refine Ix.of ?_;unfold Ix.vc;have v:=s.len;have w:=t.len;refine ay la.length (λk i H'=>i=(k:Int)/\k<=lb.length/\H'=H/\aL la lb=aL (la.drop k) (lb.drop k)) ⟨rfl,QN _,rfl,by simp⟩ ?_;rintro k i H' next hk ⟨rfl,x,rfl,d⟩ f
 refine ao (λh=>?_) (λh=>?_)
 ·simp only[Qz,decide_eq_true_eq] at h;have h1:k<la.length:=by omega
  have u:k<lb.length:=by omega
  rw[drop_cons h1,drop_cons u,aL] at d;refine s.ld (by omega) (by omega) λz D=>?_;refine t.ld (by omega) (by omega) λA e2=>?_;simp only[QD];refine ao (λg=>?_) (λg=>?_)
  ·have j:la.getD k 0<lb.getD k 0:=by simpa using g
   rw[if_pos j] at d;rw[<-d];exact c
  ·have j:¬la.getD k 0<lb.getD k 0:=by simpa using g
   rw[if_neg j] at d;refine s.ld (by omega) (by omega) λB E=>?_;refine t.ld (by omega) (by omega) λC F=>?_;simp only[QD];refine ao (λm=>?_) (λm=>?_)
   ·have o:lb.getD k 0<la.getD k 0:=by simpa using m
    rw[if_pos o] at d;rw[<-d];exact c
   ·have o:¬lb.getD k 0<la.getD k 0:=by simpa using m
    rw[if_neg o] at d;exact f h1 _ _ ⟨by rw[aH k (by omega)],u,rfl,d⟩
 ·have h':la.length<=k\/lb.length<=k:=by
   simp only[Bool.and_eq_false_iff,decide_eq_false_iff_not] at h;omega
  have e:aL la lb=if la.length<lb.length then -1 else if la.length>lb.length then 1 else 0:=by
   rw[d];rcases h' with h'|h'
   ·rw[Rj h'];cases hd:lb.drop k with
    |nil=>
      have:=V0.1 hd;rw[if_neg (by omega),if_neg (by omega)];rfl
    |cons y r=>
      have:=QG (i:=k) (l:=lb);rw[hd] at this;simp at this;rw[if_pos (by omega)];rfl
   ·rw[Rj h'];cases hd:la.drop k with
    |nil=>
      have:=V0.1 hd;rw[if_neg (by omega),if_neg (by omega)];rfl
    |cons y r=>
      have:=QG (i:=k) (l:=la);rw[hd] at this;simp at this;rw[if_neg (by omega),if_pos (by omega)];rfl
  rw[e] at c;refine ao (λg=>?_) (λg=>?_)
  ·rw[if_pos (by simp at g;omega)] at c;exact c
  ·rw[if_neg (by simp at g;omega)] at c;refine ao (λm=>?_) (λm=>?_)
   ·rw[if_pos (by simp at m;omega)] at c;exact c
   ·rw[if_neg (by simp at m;omega)] at c;exact c
theorem vm {x y:Int}{H:aa}{K:Int->aa->Prop}(a:K (if x<y then -1 else if y<x then 1 else 0) H):IM.sp x y H K:=by
 have b:∀{z:Int} {H:aa} {K:Bool->aa->Prop},K false H->J4.sp z H K:=by
  intro z H K h;refine J4.of ?_;unfold J4.vc;simpa using h
 refine IM.of ?_;unfold IM.vc;refine b (b ?_);simp only[br];refine ao (λh=>?_) (λh=>?_)
 ·rw[if_pos (by simpa using h)] at a;exact a
 ·rw[if_neg (by simpa using h)] at a;refine ao (λh=>?_) (λh=>?_)
  ·rw[if_pos (by simpa using h)] at a;exact a
  ·rw[if_neg (by simpa using h)] at a;exact a
theorem dK {a b:Sl}{la lb:List Int}{H:aa}{K:Int->aa->Prop}(s:Ints .u64 H a la)(t:Ints .u64 H b lb)(hlen:la.length<1099511627776)(o:K (aL la lb) H):tN.sp a b H K:=by
 refine tN.of ?_;unfold tN.vc;refine Mg.of ?_;unfold Mg.vc;have u:=s.len;have v:=t.len;refine ay la.length (λk i H'=>i=(k:Int)/\k<=lb.length/\H'=H/\aL la lb=aL (la.drop k) (lb.drop k)) ⟨rfl,QN _,rfl,by simp⟩ ?_;rintro k i H' next hk ⟨rfl,w,rfl,d⟩ f
 refine ao (λh=>?_) (λh=>?_)
 ·have h1:k<la.length:=by simp at h;omega
  rw[drop_cons h1] at d;refine s.ld (by omega) (by omega) λx z=>?_;simp only[QD];refine ao (λg=>?_) (λg=>?_)
  ·have c:lb.length<=k:=by simp at g;omega
   rw[Rj c,aL] at d;rw[<-d];exact o
  ·have c:k<lb.length:=by simp at g;omega
   rw[drop_cons c,aL] at d;refine t.ld (by omega) (by omega) λy e2=>?_;simp only[QD];refine vm ?_;refine ao (λj=>?_) (λj=>?_)
   ·have e:aL la lb=(if la.getD k 0<lb.getD k 0 then -1 else if lb.getD k 0<la.getD k 0 then 1 else 0):=by
     rw[d];by_cases l:la.getD k 0<lb.getD k 0
     ·rw[if_pos l,if_pos l]
     ·by_cases r:lb.getD k 0<la.getD k 0
      ·rw[if_neg l,if_pos r,if_neg l,if_pos r]
      ·rw[if_neg l,if_neg r] at j;simp at j
    rw[<-e];exact o
   ·have m:¬la.getD k 0<lb.getD k 0/\¬lb.getD k 0<la.getD k 0:=by
     constructor
     ·intro q;rw[if_pos q] at j;simp at j
     ·intro q;rw[if_neg (by omega),if_pos q] at j;simp at j
    rw[if_neg m.1,if_neg m.2] at d;exact f h1 _ _ ⟨by rw[aH k (by omega)],c,rfl,d⟩
 ·have h1:la.length<=k:=by simp at h;omega
  rw[Rj h1] at d;refine ao (λg=>?_) (λg=>?_)
  ·have c:k<lb.length:=by simp at g;omega
   rw[drop_cons c,aL] at d;rw[<-d];exact o
  ·have c:lb.length<=k:=by simp at g;omega
   rw[Rj c,aL] at d;rw[<-d];exact o
theorem Ints.front {k:IntKind}{H:aa}{s:Sl}{l:List Int}(h:Ints k H s l){n:Nat}(a:n<=l.length)(c:Nat):Ints k H ⟨s.a,n,c⟩ (l.take n):=
 ⟨by simp;omega,by rw[Uy];exact h.reads.take n⟩
theorem jy {a b:Sl}{la lb:List Int}{H:aa}{K:Bool->aa->Prop}(j:Ints .u64 H a la)(l:Ints .u64 H b lb)(hlen:la.length<1099511627776)(g:K (decide (la=lb)) H):Kg.sp a b H K:=by
 refine Kg.of ?_;have:=iq j l hlen g;unfold Kg.vc;have m:=j.len;have o:=l.len;refine ao (λh=>?_) (λh=>?_)
 ·have h1:la≠lb:=by intro e;subst e;simp[m,o] at h
  simpa[h1] using g
 ·have h':(a.n:Int)=(b.n:Int):=by simpa using h
  have w:la.length=lb.length:=by omega
  refine ay la.length (λk i H'=>i=(k:Int)/\H'=H/\la.take k=lb.take k) ⟨rfl,rfl,by simp⟩ ?_;rintro k i H' next hk ⟨rfl,rfl,r⟩ d
  refine ao (λh1=>?_) (λh1=>?_)
  ·have c:k<la.length:=by simp at h1;omega
   refine j.ld (by omega) (by omega) λt x=>?_;refine l.ld (by omega) (by omega) λu e2=>?_;simp only[QD];refine ao (λf=>?_) (λf=>?_)
   ·have v:la≠lb:=by intro e;subst e;simp at f
    simpa[v] using g
   ·refine d c _ _ ⟨by rw[aH k (by omega)],rfl,?_⟩;rw[QA c,QA (by omega:k<lb.length),r];have:la[k]'c=lb[k]'(by omega):=by simpa[QM,Qg c,Qg (by omega:k<lb.length)] using f
    rw[this]
  ·have s:k=la.length:=by simp at h1;omega
   subst s;have f:la=lb:=by rw[QO (Qm _),QO (by omega)] at r;exact r
   simpa[f] using g
def fR (l p:List Int):Bool:=decide (p.length<=l.length/\l.take p.length=p)
theorem xt {a b:Sl}{la lb:List Int}{H:aa}{K:Bool->aa->Prop}(e:Ints .u64 H a la)(f:Ints .u64 H b lb)(i:a.n<=a.c)(hlen:la.length<1099511627776)(c:K (fR la lb) H):K5.sp a b H K:=by
 refine K5.of ?_;unfold K5.vc;have g:=e.len;have d:=f.len;refine ao (λh=>?_) (λh=>?_)
 ·have h':lb.length<=la.length:=by simp at h;omega
  refine⟨by omega,?_⟩;rw[iE];refine jy (la:=la.take lb.length) (lb:=lb) ?_ f (by simp;omega) ?_
  ·have:=e.front h' (a.c - 0);rw[d];simpa using this
  ·unfold fR at c;simpa[h'] using c
 ·have h':¬lb.length<=la.length:=by simp at h;omega
  unfold fR at c;simpa[h'] using c
def aK (w:Int):Int:=if w<0\/w>16 then 0 else if w=0 then 1 else 8*w
theorem uw {w:Int}{H:aa}{K:Int->aa->Prop}(a:K (aK w) H):IV.sp w H K:=by
 refine IV.of ?_;unfold IV.vc;unfold aK at a;refine ao (λh=>?_) (λh=>?_)
 ·have h':w<0:=by simpa using h
  rw[if_pos (.inl h')] at a;simpa[h',br] using a
 ·have h':¬w<0:=by simpa using h
  refine ao (λb=>?_) (λb=>?_)
  ·rw[if_pos (.inr (by simpa using b))] at a;exact a
  ·have d:¬w>16:=by simpa using b
   rw[if_neg (by omega)] at a;refine ao (λc=>?_) (λc=>?_)
   ·rw[if_pos (by simpa using c)] at a;exact a
   ·rw[if_neg (by simpa using c)] at a;rw[wrap64 (by omega) (by omega)];exact a
theorem Bx {w:Int}{H:aa}{K:Int->aa->Prop}(a:K (aK w) H):Ll.sp w H K:=by
 refine Ll.of ?_;unfold Ll.vc;unfold aK at a;refine ao (λh=>?_) (λh=>?_)
 ·rw[if_pos (by simpa using h)] at a;exact a
 ·have h':¬(w<0\/w>16):=by simpa using h
  rw[if_neg h'] at a;rw[wrap64 (by omega) (by omega)];by_cases b:w=0
  ·rw[if_pos b] at a;subst b;simpa using a
  ·rw[if_neg b] at a;rw[if_pos (by omega)];exact a
def mw (w:Int):Int:=if aK w=0 then 0 else Qy 504 (aK w)
theorem cq (w:Int):aK w=0\/(0<aK w/\aK w<=128):=by
 unfold aK;split
 ·simp
 ·split
  ·simp
  ·right;omega
theorem rj (w:Int):Qe.wrap (Qy 504 (aK w))=Qy 504 (aK w):=by
 have c:=Int.tdiv_nonneg (a:=504) (b:=aK w) (by omega) (by rcases cq w with h|h<;>omega);have h1:Qy 504 (aK w)<=504:=by
  rcases cq w with h|h
  ·rw[h];simp
  ·exact Int.tdiv_le_self _ (by omega)
 exact wrap64 (by omega) (by omega)
theorem oH {w:Int}{H:aa}{K:Int->aa->Prop}(a:K (mw w) H):HX.sp w H K:=by
 refine HX.of ?_;unfold HX.vc;refine uw ?_;unfold mw at a;have b:=cq w;refine ao (λh=>?_) (λh=>?_)
 ·have h':aK w>0:=by simpa using h
  rw[if_neg (by omega)] at a;refine⟨by omega,?_⟩;rw[rj];exact a
 ·have h':¬aK w>0:=by simpa using h
  rw[if_pos (by omega)] at a;exact a
theorem B9 {w:Int}{H:aa}{K:Int->aa->Prop}(a:K (mw w) H):KR.sp w H K:=by
 refine KR.of ?_;unfold KR.vc;refine Bx ?_;unfold mw at a;refine ao (λh=>?_) (λh=>?_)
 ·rw[if_pos (by simpa using h)] at a;exact a
 ·rw[if_neg (by simpa using h)] at a;refine⟨by simpa using h,?_⟩;rw[rj];exact a
def gX (l cols:List Int):Bool:=cols.all λc=>decide (0<=c)&&decide (c<(l.length:Int))
def bk (l cols:List Int):List Int:=if gX l cols then cols.map λc=>l.getD c.toNat 0 else []
def HK (l cols:List Int):Int:=if gX l cols then 0 else 2
theorem Dp {l cols:List Int}{k:Nat}(hk:k<cols.length)(a:¬(0<=cols.getD k 0/\cols.getD k 0<(l.length:Int))):gX l cols=false:=by
 unfold gX;rw[Vu];refine⟨cols[k],Qn _,?_⟩;simp[QM,Qg hk] at a;simpa using a
theorem Ac {l cols:List Int}{k:Nat}(hk:k<cols.length)(h:gX l (cols.take k)=true)(h1:0<=cols.getD k 0)(a:cols.getD k 0<(l.length:Int)):gX l (cols.take (k+1))=true:=by
 unfold gX at h ⊢;rw[QA hk,List.all_append,h];simp[QM,Qg hk] at h1 a;simp[h1,a]
theorem vl {cols:List Int}{k:Nat}(f:Int->Value)(hk:k<cols.length):(cols.take (k+1)).map f=(cols.take k).map f++[f (cols.getD k 0)]:=by
 rw[QA hk,Q4];simp only[RH,VV,QM,Qg hk,Sw]
theorem fZ {l cols:Sl}{ll lc:List Int}{H:aa}{K:(Sl×Int)->aa->Prop}(m:Ints .u64 H l ll)(o:Ints .i64 H cols lc)(hlen:lc.length<=1000000)
  (r:∀s H',aA H' H.size gM 1 s ((bk ll lc).map (Ql .u64))->Ext H H'->K (s,HK ll lc) H'):GS.sp l cols H K:=by
 refine GS.of ?_;unfold GS.vc;have C:=m.len;have cn:=o.len;refine jB.make (base:=H.size) (by omega) (by omega) (by omega) (by omega) (Qm _) ?_;intro out H1 v o1 w D _;refine ay lc.length (λk z H'=>z.2=(k:Int)/\z.1.n=k/\gX ll (lc.take k)=true/\aA H' H.size gM 1 z.1 ((lc.take k).map λc=>Ql .u64 (ll.getD c.toNat 0))/\Ext H H') ⟨rfl,by simpa using v,by simp[gX],by simpa using o1,w⟩ ?_;rintro k ⟨s,i⟩ t next hk ⟨hi,x,d,o2,e2⟩ f
 simp only at hi x o2 ⊢;subst hi;refine ao (λh=>?_) (λh=>?_)
 ·have e:k<lc.length:=by simp at h;omega
  refine(o.ext e2).ld (by omega) (by omega) λy E=>?_;simp only[QD];refine ao (λg=>?_) (λg=>?_)
  ·have a:¬(0<=lc.getD k 0/\lc.getD k 0<(ll.length:Int)):=by simp at g ⊢;omega
   have u:=Dp e a;have:=r (Sl.mk none 0 0) t (by unfold bk;rw[u];exact aA.nil _ _ _ _) e2;unfold HK at this;rw[u] at this;exact this
  ·have a:0<=lc.getD k 0/\lc.getD k 0<(ll.length:Int):=by simp at g ⊢;omega
   refine(m.ext e2).ld a.1 a.2 λA G=>?_;refine jB.push (base:=H.size) o2 rfl (by omega) (by omega) e2.size ?_;intro I J L o3 m3 M _;refine f e _ _ ⟨by rw[aH k (by omega)],by simp only;omega,Ac e d a.1 a.2,?_,(e2.mod (F:=al s).trans m3).ext (λb B=>(o2.block b B).1)⟩;simp only;rw[vl (λc=>Ql .u64 (ll.getD c.toNat 0)) e];exact o3
 ·have j:k=lc.length:=by simp at h;omega
  subst j;rw[QO (Qm _)] at d o2;have:=r s t (by unfold bk;rw[d,if_pos rfl,RE];exact o2) e2;unfold HK at this;rw[d] at this;exact this
structure Rows (H:aa)(s:Sl)(ls:List (List Int)):Prop where
 len:s.n=ls.length
 at':∀i (h:i<ls.length),∃ad r,s.a=some ad/\cg H (ad.add i)=some (Sl.v r)/\Ints .u64 H r ls[i]
theorem Rows.ld {H:aa}{s:Sl}{ls:List (List Int)}(h:Rows H s ls){i:Nat}(hi:i<ls.length){K:Addr->Sl->Prop}(b:∀ad r,s.a=some ad->Ints .u64 H r (ls[i]'hi)->K ad r):
  ah s.a λa=>(0<=(i:Int)/\(i:Int)<(s.n:Int))/\ld au H (a.add ((i:Int).toNat*1)) λx=>K a x:=by
 obtain⟨ad,r,e,c,hr⟩:=h.at' i hi;refine aY ad e ⟨⟨by omega,by rw[h.len];omega⟩,r,?_,b ad r e hr⟩;simp only[QD,Q9];exact c
theorem zS {a b:Sl}{la lb:List (List Int)}{H:aa}{K:Bool->aa->Prop}(v:Rows H a la)(w:Rows H b lb)(hlen:la.length<1099511627776)(x:∀l∈la,l.length<1099511627776)(g:K (decide (la=lb)) H):LL.sp a b H K:=by
 refine LL.of ?_;unfold LL.vc;have j:=v.len;have m:=w.len;refine ao (λh=>?_) (λh=>?_)
 ·have h1:la≠lb:=by intro e;subst e;simp[j,m] at h
  simpa[h1] using g
 ·have h':(a.n:Int)=(b.n:Int):=by simpa using h
  have y:la.length=lb.length:=by omega
  refine ay la.length (λk i H'=>i=(k:Int)/\H'=H/\la.take k=lb.take k) ⟨rfl,rfl,by simp⟩ ?_;rintro k i H' next hk ⟨rfl,rfl,o⟩ d
  refine ao (λh1=>?_) (λh1=>?_)
  ·have c:k<la.length:=by simp at h1;omega
   refine v.ld c λz C D r=>?_;refine w.ld (by omega) λA r2 e2 s=>?_;refine iq r s (x _ (Qn _)) ?_;refine ao (λf=>?_) (λf=>?_)
   ·have B:la≠lb:=by intro e;subst e;simp at f
    simpa[B] using g
   ·refine d c _ _ ⟨by rw[aH k (by omega)],rfl,?_⟩;have t:la[k]'c=lb[k]'(by omega):=by simpa using f
    rw[QA c,QA (by omega:k<lb.length),o,t]
  ·have u:k=la.length:=by simp at h1;omega
   subst u;have f:la=lb:=by rw[QO (Qm _),QO (by omega)] at o;exact o
   simpa[f] using g
def iU (n:Int)(k:Nat):Int:=QF.wrap (bm .u64 n (56 - 8*(k:Int)))
def gU (n:Int):List Int:=(RI 8).map (iU n)
def gd (l:List Int):List Int:=if l=[] then [0] else l.flatMap gU
theorem bZ (n:Int):(gU n).length=8:=by simp[gU]
theorem qW:∀(l:List Int),(l.flatMap gU).length=8*l.length
 |[]=>rfl
 |x::r=>by rw[Q5,Qt,bZ,qW r];simp;omega
theorem rV (n:Int){k:Nat}(hk:k<8):(gU n).take (k+1)=(gU n).take k++[iU n k]:=by
 rw[QA (by rw[bZ];exact hk)];simp[gU]
theorem tY {l:List Int}{k:Nat}(hk:k<l.length):(l.take (k+1)).flatMap gU=(l.take k).flatMap gU++gU (l.getD k 0):=by
 rw[QA hk,List.flatMap_append];simp only[Q5,List.flatMap_nil,List.append_nil,QM,Qg hk,Sw]
theorem CQ:zc Qf Ig=RJ 8 (.int .u8 0):=by kernel_rfl
theorem vV:oW Qf Ig 8=true:=by kernel_rfl
theorem EO {n:Int}{H:aa}{K:Array Value->aa->Prop}(o:∀H',Ext H H'->K ((gU n).map (Ql .u8)).toArray H'):K0.sp (zc Qf Ig) n H K:=by
 refine K0.of ?_;unfold K0.vc;rw[CQ];refine uk λp H1 w s1 r s=>?_;refine uk λq y A s2 r2 e2=>?_;have f:p.block≠q.block:=by omega
 refine ay 8 (λk z H'=>z=(k:Int)/\(∃cs:List Value,cs.length=8/\cs.take k=((gU n).take k).map (Ql .u8)/\ke H' p cs.toArray)/\ke H' q (RJ 8 (.int .u8 0))/\Ext H H') ⟨rfl,⟨QE 8 (.int .u8 0),by simp,by simp,r.mod e2 id⟩,r2,s.trans e2⟩ ?_;rintro k z B next hk ⟨rfl,⟨cs,j,g,l⟩,m,d⟩ a
 refine ao (λh=>?_) (λh=>?_)
 ·have c:k<8:=by simp at h;omega
  rw[wrap64 (x:=8*(k:Int)) (by omega) (by omega),wrap64 (by omega) (by omega)];refine⟨by omega,by omega,?_⟩;simp only[QD,Q9];refine l.st (by simp;omega) rfl λC t m4 _=>?_;refine a c _ _ ⟨by rw[aH k (by omega)],⟨cs.set k (.int .u8 (iU n k)),by simpa using j,?_,by rw[<-List.setIfInBounds_toArray];exact t⟩,m.mod m4 (λu=>f u.symm),?_⟩
  ·rw[rV n c,Q4,<-g,QA (by simpa[j] using c)];simp[List.take_set];rw[List.set_eq_of_length_le (by simp;omega)]
  ·exact⟨QZ d.size m4.size,λb e _=>(m4.same b (QP e d.size) (by omega)).trans (d.same b e id)⟩
 ·have i:k=8:=by simp at h;omega
  subst i;rw[QO (by omega),QO (by rw[bZ];omega)] at g;subst g;refine l.kN (by simp[bZ]) ?_;refine m.zV (by simpa[bZ] using vV) (by simp[bZ]) (by simp[WQ]) λD v m5 _=>?_;refine v.kN (by simp[bZ]) ?_;exact o _ ⟨QZ d.size m5.size,λb e _=>(m5.same b (QP e d.size) (by omega)).trans (d.same b e id)⟩
theorem MT {H:aa}:aA (H.push (.cells #[.int .u8 0] kJ)) H.size kJ 1 ⟨some ⟨H.size,0,none⟩,1,1⟩ ([(0:Int)].map (Ql .u8)):=
 aA.fresh (Qm _) (Qm _) (by unfold maxLen;omega) rfl rfl rfl
theorem qq {l:Sl}{ll:List Int}{H:aa}{K:Sl->aa->Prop}(o:Ints .u64 H l ll)(hlen:ll.length<=1000000)
  (f:∀s H',aA H' H.size kJ 1 s ((gd ll).map (Ql .u8))->Ext H H'->K s H'):E9.sp l H K:=by
 refine E9.of ?_;unfold E9.vc;have r:=o.len;refine ao (λh=>?_) (λh=>?_)
 ·have h':ll=[]:=QW (by simp at h;omega);refine f _ _ ?_ (Mod.push _ _ _);unfold gd;rw[if_pos h'];exact MT
 ·have h':ll≠[]:=by intro e;subst e;simp at r;simp[r] at h
  unfold gd at f;rw[if_neg h'] at f;rw[wrap64 (by omega) (by omega)];refine ML.make (base:=H.size) (by omega) (by omega) (by omega) (by omega) (Qm _) ?_;intro out H1 v o1 w J _;refine ay ll.length (λk z H'=>z.2=(k:Int)/\z.1.n=8*k/\aA H' H.size kJ 1 z.1 (((ll.take k).flatMap gU).map (Ql .u8))/\Ext H H') ⟨rfl,by simpa using v,by simpa using o1,w⟩ ?_;rintro k ⟨s,i⟩ g next hk ⟨hi,y,o2,e2⟩ a
  simp only at hi y o2 ⊢;subst hi;refine ao (λh=>?_) (λh=>?_)
  ·have d:k<ll.length:=by simp at h;omega
   refine(o.ext e2).ld (by omega) (by omega) λA L=>?_;simp only[QD];refine EO λM t=>?_;rw[CQ];refine uk λp B O P C D=>?_;refine C.zV (by simpa[bZ] using vV) (by simp[bZ]) (by simp[WQ]) λE G m5 Q=>?_;have j:Ext g B:=t.trans D;have c:Ext g E:=(j.mod (F:=λb=>b=p.block).trans m5).ext (λb u=>by have:=t.size;omega);rw[iE];refine ML.append (base:=H.size) (s:=s) (x:=⟨some p,8 - 0,8 - 0⟩) (ws:=(gU (ll.getD k 0)).map (Ql .u8)) (o2.ext c) (by simp[bZ]) (by simpa using G.reads) (iy _ _) (by simp only;omega) (by simp only;omega) (e2.trans c).size ?_;intro R S n6 I m6 U _;refine a d _ _ ⟨by rw[aH k (by omega)],by simp only at n6 ⊢;omega,?_,((Ext.mod (F:=al s) (e2.trans c)).trans m6).ext (λb u=>(o2.block b u).1)⟩;simp only;rw[tY d,Q4];exact I
  ·have m:k=ll.length:=by simp at h;omega
   subst m;rw[QO (Qm _)] at o2;exact f s g o2 e2
def oT (w b:Int):Int:=Q0.wrap (Q0.wrap (w*256)+Q0.wrap b)
def lH (a:List Int):Int:=a.foldl oT 0
def rowOf (c:List Int)(w:Nat):List Int:=(RI w).map λj=>lH ((c.drop (8*j)).take 8)
def eY (b:List Int)(w:Int):Bool:=decide (aK w≠0)&&decide (QK (b.length:Int) (aK w)=0)&&(decide (w≠0)||b.all λx=>decide (x=0))
def cQ (b:List Int)(n k:Nat):List Int:=(b.drop (k*n)).take n
def rowsOf (b:List Int)(w:Int)(m:Nat):List (List Int):=(RI m).map λk=>rowOf (cQ b (aK w).toNat k) w.toNat
def fQ (b:List Int)(w:Int):List (List Int):=if eY b w then rowsOf b w (b.length/(aK w).toNat) else []
def BV (b:List Int)(w:Int):Int:=if eY b w then 0 else 60
theorem um (x:Int):Q0.wrap x=x%18446744073709551616:=by
 rw[Ve]
theorem AI (w b:Int):0<=oT w b/\oT w b<18446744073709551616:=by
 unfold oT;rw[um];omega
theorem xw (a:List Int):0<=lH a/\lH a<18446744073709551616:=by
 unfold lH;rcases List.eq_nil_or_concat a with h|⟨l,x,h⟩
 ·subst h;simp
 ·subst h;rw[List.concat_eq_append,YC];exact AI _ _
theorem Gp {x b:Int}(d:0<=x)(e:x<18446744073709551616)(f:0<=b)(g:b<256):nL .u64 (eZ .u64 x 8) (Q0.wrap b)=oT x b:=by
 unfold oT nL eZ;have h:(2:Int)^(min (8:Int).toNat Q0.bits)=256:=by decide
 rw[h];simp only[um];obtain⟨n,rfl⟩:=SN d;obtain⟨m,rfl⟩:=SN f;have hm:m<256:=by omega
 obtain⟨r,hr⟩:∃r,r=n%72057594037927936:=⟨_,rfl⟩;have j:r<72057594037927936:=by omega
 have k:((n:Int)*256)%18446744073709551616=((256*r:Nat):Int):=by omega
 have e2:(m:Int)%18446744073709551616=((m:Nat):Int):=by omega
 have l:(R9 Q0.bits ((256*r:Nat):Int)|||R9 Q0.bits ((m:Nat):Int)).toNat=256*r+m:=by
  have a:Q0.bits=64:=rfl;have c:=Nat.two_pow_add_eq_or_of_lt (i:=8) (b:=m) hm r;rw[Th,Th,BitVec.toNat_or,Ss,Ss,a,Um (by omega),Um (by omega)];exact c.symm
 rw[k,e2,l];rw[Int.natCast_add]
theorem ph (c:List Int)(w:Nat):(rowOf c w).length=w:=by simp[rowOf]
theorem AX {c:List Int}{w i:Nat}(hi:i<c.length)(hw:c.length=8*w):
  (rowOf (c.take i) w).set (i/8) (oT ((rowOf (c.take i) w).getD (i/8) 0) (c.getD i 0))=rowOf (c.take (i+1)) w:=by
 have e:i/8<w:=by omega
 apply Uq
 ·simp[rowOf]
 ·intro j h1 f;have h:j<w:=by simpa[rowOf] using f
  have d:∀t,((c.take t).drop (8*j)).take 8=(c.drop (8*j)).take (min 8 (t - 8*j)):=by
   intro t;rw[List.drop_take,Tg]
  rw[List.getElem_set];by_cases a:i/8=j
  ·subst a;rw[if_pos rfl];simp only[rowOf,QM,QC,V5 e,Uz,Sw,Tu,UH];simp only[d];have g:min 8 (i+1 - 8*(i/8))=min 8 (i - 8*(i/8))+1:=by omega
   have e2:min 8 (i - 8*(i/8))=i - 8*(i/8):=by omega
   have b:i - 8*(i/8)<(c.drop (8*(i/8))).length:=by simp;omega
   rw[g,e2,QA b];unfold lH;rw[YC,List.foldl_cons,List.foldl_nil];congr 1;rw[Qg hi,Sw,List.getElem_drop];congr 1;omega
  ·rw[if_neg a];simp only[rowOf,Tu,UH,d];congr 2;omega
theorem DT (w:Nat):rowOf [] w=QE w 0:=by
 apply Uq
 ·simp[rowOf]
 ·intro j h1 a;simp[rowOf,lH]
structure aZ (H:aa)(base:Nat)(s:Sl)(rs:List Sl)(ls:List (List Int)):Prop where
 out:aA H base cv 1 s (rs.map Sl.v)
 len:rs.length=ls.length
 row:∀(i:Nat) (r:Sl) (l:List Int),rs[i]?=some r->ls[i]?=some l->aA H base gM 1 r (l.map (Ql .u64))
 apart:∀(i j:Nat) (r r':Sl),i≠j->rs[i]?=some r->rs[j]?=some r'->∀b,al r b->¬al r' b
theorem aZ.nil (H:aa)(base:Nat):aZ H base (Sl.mk none 0 0) [] []:=⟨aA.nil _ _ _ _,rfl,by simp,by simp⟩
theorem aZ.n {H:aa}{base:Nat}{s:Sl}{rs:List Sl}{ls:List (List Int)}(h:aZ H base s rs ls):s.n=ls.length:=by
 have h1:=h.out.1;have a:=h.len;simp at h1;omega
theorem aZ.mod {F:Nat->Prop}{H H':aa}{base:Nat}{s:Sl}{rs:List Sl}{ls:List (List Int)}(h:aZ H base s rs ls)(hm:Mod F H H')(hs:∀b,al s b->¬F b)(hr:∀r∈rs,∀b,al r b->¬F b):aZ H' base s rs ls:=
 ⟨h.out.mod hm hs,h.len,λi r l h1 a=>(h.row i r l h1 a).mod hm (hr r (Qi h1)),h.apart⟩
theorem aZ.ext {H H':aa}{base:Nat}{s:Sl}{rs:List Sl}{ls:List (List Int)}(h:aZ H base s rs ls)(hm:Ext H H'):aZ H' base s rs ls:=h.mod hm (λ_ _=>id) (λ_ _ _ _=>id)
theorem aZ.rowAt {H:aa}{base:Nat}{s:Sl}{rs:List Sl}{ls:List (List Int)}(h:aZ H base s rs ls){r:Sl}(hr:r∈rs):∃l:List Int,aA H base gM 1 r (l.map (Ql .u64)):=by
 obtain⟨i,hi⟩:=Qr.1 hr;have a:i<ls.length:=by rw[<-h.len];exact(Qk.1 hi).1
 exact⟨_,h.row i r _ hi (Qg a)⟩
theorem aZ.block {H:aa}{base:Nat}{s:Sl}{rs:List Sl}{ls:List (List Int)}(h:aZ H base s rs ls):(∀b,al s b->base<=b/\b<H.size)/\∀r∈rs,∀b,al r b->base<=b/\b<H.size:=
 ⟨h.out.block,λr hr=>by obtain⟨l,a⟩:=h.rowAt hr;exact a.block⟩
theorem aZ.N6 {ty:TypeId}{H:aa}{base:Nat}{s:Sl}{rs:List Sl}{ls:List (List Int)}{r:Sl}{l:List Int}{K:Sl->aa->Prop}(h:aZ H base s rs ls)
  (hr:aA H base gM 1 r (l.map (Ql .u64))) (k:∀r'∈rs,∀b,al r b->¬al r' b) (z:s.n+1<=1099511627776) (e:base<=H.size)
  (A:∀g H',g.n=s.n+1->aZ H' base g (rs++[r]) (ls++[l])->Mod (al s) H H'->(∀b,al g b->al s b\/H.size<=b)->K g H'):
  aB H #[r.v] cv λp H1=>bI au Qf (Qo #[cW,cW] ty #[s.v,.slice (some p) 1 1]) H1 K:=by
 refine wE.push (base:=base) h.out rfl z (by omega) e ?_;intro g H' B o1 m1 C _;refine A g H' B ⟨by simpa using o1,by simp[h.len],?_,?_⟩ m1 C
 ·intro i x y a d;rw[U6] at a d;have E:=h.len;split at a
  ·rename_i m;rw[if_pos (by omega)] at d;exact(h.row i x y a d).mod m1 (λb f c=>(h.row i x y a d).apart h.out (by decide) b f c)
  ·rename_i u;rw[if_neg (by omega)] at d;have v:i - rs.length=0:=by
    have:=(Qk.1 a).1;simp at this;omega
   have e2:i - ls.length=0:=by omega
   rw[v] at a;rw[e2] at d;simp at a d;subst a;subst d;exact hr.mod m1 (λb f c=>hr.apart h.out (by decide) b f c)
 ·intro i j x y w a d b f;have key:∀(i:Nat) (x:Sl),(rs++[r])[i]?=some x->(i<rs.length/\rs[i]?=some x)\/(i=rs.length/\x=r):=by
   intro i x a;rw[U6] at a;split at a
   ·rename_i m;exact .inl ⟨m,a⟩
   ·rename_i u;have v:i - rs.length=0:=by
     have:=(Qk.1 a).1;simp at this;omega
    rw[v] at a;simp at a;exact .inr ⟨by omega,a.symm⟩
  rcases key i x a with ⟨h1,o⟩|⟨h1,o⟩<;>rcases key j y d with ⟨D,t⟩|⟨D,t⟩
  ·exact h.apart i j x y w o t b f
  ·subst t;exact λc=>k x (Qi o) b c f
  ·subst o;exact k y (Qi t) b f
  ·omega
theorem aZ.push {ty:TypeId}{H:aa}{base:Nat}{s:Sl}{rs:List Sl}{ls:List (List Int)}{r:Sl}{l:List Int}{K:Sl->aa->Prop}(h:aZ H base s rs ls)
  (hr:aA H base gM 1 r (l.map (Ql .u64))) (f:∀r'∈rs,∀b,al r b->¬al r' b) (g:s.n+1<=1099511627776) (d:base<=H.size)
  (i:∀e H',e.n=s.n+1->aZ H' base e (rs++[r]) (ls++[l])->Mod (al s) H H'->K e H'):
  aB H #[r.v] cv λp H1=>bI au Qf (Qo #[cW,cW] ty #[s.v,.slice (some p) 1 1]) H1 K:=
 aZ.N6 h hr f g d λe H' a b c _=>i e H' a b c
theorem AJ (b:List Int)(w:Int)(m:Nat):rowsOf b w (m+1)=rowsOf b w m++[rowOf (cQ b (aK w).toNat m) w.toNat]:=by
 simp[rowsOf,List.range_succ]
theorem tmod_zero {a n:Nat}(_:0<n)(h:QK (a:Int) (n:Int)=0):a=a/n*n:=by
 rw[<-Int.ofNat_tmod] at h;have h1:a%n=0:=by exact_mod_cast h
 have:=Nat.div_add_mod a n;rw[h1,Nat.mul_comm] at this;omega
theorem yB {b:List Int}{n k j:Nat}(a:j<n):(cQ b n k).getD j 0=b.getD (k*n+j) 0:=by
 unfold cQ;simp only[QM,Rb,Rr];rw[if_pos a]
theorem tX {b:List Int}{n k m:Nat}(a:b.length=m*n)(hk:k<m):(cQ b n k).length=n:=by
 unfold cQ;have:=Ra n (T9 hk);rw[RX] at this;simp;omega
theorem Db {b:List Int}{w:Int}{k:Nat}(hw:w=0)(hk:k<b.length)(h:b.getD k 0≠0):eY b w=false:=by
 unfold eY;have:(b.all λx=>decide (x=0))=false:=by
  rw[Vu];refine⟨b[k],Qn _,?_⟩;simp[QM,Qg hk] at h;simpa using h
 rw[this];simp[hw]
theorem uF {b:List Int}{w:Int}(h1:aK w≠0)(a:QK (b.length:Int) (aK w)=0)(c:w=0->∀k,k<b.length->b.getD k 0=0):eY b w=true:=by
 unfold eY;simp only[Qz,decide_eq_true_eq,Bool.or_eq_true,List.all_eq_true];refine⟨⟨h1,a⟩,?_⟩;by_cases hw:w=0
 ·right;intro x d;obtain⟨k,hk,e⟩:=List.mem_iff_getElem.1 d;have:=c hw k hk;simp[QM,Qg hk] at this;rw[<-e];exact this
 ·exact .inl hw
theorem JP:zc Qf cW=#[.slice none 0 0]:=by kernel_rfl
theorem Ge:zc Qf Mu=#[.int .i64 0]:=by kernel_rfl
theorem FH {p:Sl}{n:Int}{H:aa}{K:Value->aa->Prop}(g:1<=n)
  (a:∀c c1 H',c.block=H.size->c1.block=H.size+1->H'.size=H.size+2->dV H' c jX p.v->dV H' c1 bT (.int .i64 n)->Ext H H'->
   K (.func (.func Fg.no) #[] #[.pointer (some c),.pointer (some c1)]) H'):Lr.sp p n H K:=by
 refine Lr.of ?_;unfold Lr.vc;refine eO λc H1 b s1 v1 d=>?_;refine eO λc1 e f s2 v2 e2=>?_;refine v2.ld (c:=ai .i64) (x:=n) ?_;refine ao (λh=>?_) (λh=>?_)
 ·simp at h;omega
 ·exact a c c1 e b (by omega) (by omega) (v1.ext e2) v2 (d.trans e2)
theorem Dr {l:Nat}{c c1:Addr}{p:Sl}{n m:Nat}{H:aa}{K:Unit->aa->Prop}(I:Nat->aa->Prop)(D:aa->Prop)(J:0<n)(hm:p.n=m*n)(L:p.n<=p.c)(t:p.n<=1000000)(A:n<=1000000)
  (u:∀k H',I k H'->dV H' c jX p.v/\dV H' c1 bT (.int .i64 (n:Int))) (B:I 0 H)
  (hs:∀k H',k<m->I k H'->cM Qf l #[(Sl.mk (p.a.map (·.add (k*n))) n n).v] H' λb g=>if b then I (k+1) g else D g)
  (j:∀H',I m H'->K () H') (C:∀H',D H'->K () H'):Fg.sp l c c1 H K:=by
 refine Fg.of ?_;unfold Fg.vc;refine ay m (λk i H'=>i=((k*n:Nat):Int)/\I k H') ⟨by simp,B⟩ ?_;rintro k i H1 next hk ⟨rfl,a⟩ d
 obtain⟨v,v1⟩:=u k H1 a;refine v.ld (c:=au) (x:=p) ?_;refine ao (λh=>?_) (λh=>?_)
 ·have f:k<m:=by
   rcases Q6 k m with q|q
   ·exact q
   ·have e:k=m:=by omega
    subst e;simp at h;omega
  have hle:k*n+n<=p.n:=by
   have:=Ra n (T9 f);rw[RX] at this;omega
  obtain⟨q,w⟩:∃q,q=k*n:=⟨_,rfl⟩;have s:(((k+1)*n:Nat):Int)=((q+n:Nat):Int):=by rw[w,RX]
  have o:=hs k H1 f a;rw[<-w] at hle o ⊢;refine v1.ld (c:=ai .i64) (x:=(n:Int)) ?_;refine v.ld (c:=au) (x:=p) ?_;refine⟨by omega,?_⟩;refine v.ld (c:=au) (x:=p) ?_;have E:Qe.wrap ((q:Int)+(if ((p.n - (q:Int).toNat:Nat):Int)<(n:Int) then ((p.n - (q:Int).toNat:Nat):Int) else (n:Int)))=((q+n:Nat):Int):=by
   have:(if ((p.n - (q:Int).toNat:Nat):Int)<(n:Int) then ((p.n - (q:Int).toNat:Nat):Int) else (n:Int))=(n:Int):=by split<;>omega
   rw[this,wrap64 (by omega) (by omega)];omega
  rw[E];refine⟨by omega,by omega,by omega,?_⟩;have F:bF p.a ((q+n:Nat):Int).toNat (q:Int).toNat 1=p.a.map (·.add q):=by
   unfold bF;rw[if_neg (by simp;omega)];simp
  have G:((q+n:Nat):Int).toNat - (q:Int).toNat=n:=by omega
  rw[F,G];refine o.mono λb y z=>?_;cases b with
  |false=>exact C y z
  |true=>
    have r:I (k+1) y:=z;refine(u _ _ r).2.ld (c:=ai .i64) (x:=(n:Int)) ?_;refine d f _ _ ⟨?_,r⟩;rw[s,wrap64 (by omega) (by omega)];omega
 ·have e:k=m:=by
   rcases Q6 k m with q|q
   ·have:=Ra n (T9 q);rw[RX] at this;simp at h;omega
   ·omega
  subst e;exact j H1 a
theorem Ints.chunk {H:aa}{p:Sl}{b:List Int}(c:Ints .u8 H p b){k n:Nat}(f:k*n+n<=b.length):Ints .u8 H (Sl.mk (p.a.map (·.add (k*n))) n n) (cQ b n k):=by
 refine⟨by simp[cQ];omega,?_⟩;intro i v a;unfold cQ at a;rw[Uy,List.map_drop] at a;have hi:i<n:=by
  have:=(Qk.1 a).1;simp at this;omega
 rw[Rb,if_pos hi,Rr] at a;obtain⟨ad,e,d⟩:=c.reads _ _ a;exact⟨ad.add (k*n),by rw[e];rfl,by rw[add_add];exact d⟩
structure qk (H0:aa)(B:Nat)(b:List Int)(w:Int)(p:Sl)(r2:Nat)(p1 p2 p3 p4 c c1:Addr)(k:Nat)(H:aa):Prop where
 r2:H[r2]?=some (.deferred (some []))
 v1:dV H p1 bT (.int .i64 w)
 v2:dV H p2 cW (.slice none 0 0)
 v3:dV H p3 Mu (.int .i64 0)
 vc:dV H c jX p.v
 vc1:dV H c1 bT (.int .i64 (aK w))
 rows:∃s rs,dV H p4 cW (Sl.v s)/\s.n=k/\aZ H B s rs (rowsOf b w k)/\∀x∈rs,x.a≠none
 ext:Ext H0 H
 zero:w=0->∀j,j<k->b.getD j 0=0
theorem qk.mod {H0:aa}{B:Nat}{b:List Int}{w:Int}{p:Sl}{r2:Nat}{p1 p2 p3 p4 c c1:Addr}{k:Nat}{F:Nat->Prop}{H H':aa}(h:qk H0 B b w p r2 p1 p2 p3 p4 c c1 k H)(hm:Mod F H H')
  (f:∀b,b<H0.size->¬F b) (a:∀b cs t,H[b]?=some (.cells cs t (0,0))->¬F b) (hd:∀b d,H[b]?=some (.deferred d)->¬F b):qk H0 B b w p r2 p1 p2 p3 p4 c c1 k H':=by
 obtain⟨s,rs,v4,g,ro,nn⟩:=h.rows;refine⟨(hm.same _ ?_ (hd _ _ h.r2)).trans h.r2,h.v1.mod hm (a _ _ _ h.v1.obj),h.v2.mod hm (a _ _ _ h.v2.obj),h.v3.mod hm (a _ _ _ h.v3.obj),h.vc.mod hm (a _ _ _ h.vc.obj),h.vc1.mod hm (a _ _ _ h.vc1.obj),
  ⟨s,rs,v4.mod hm (a _ _ _ v4.obj),g,ro.mod hm (λb e=>?_) (λr hr b e=>?_),nn⟩,(h.ext.mod (F:=F).trans hm).ext (λb e=>?_),h.zero⟩
 ·exact(Qv.1 h.r2).1
 ·obtain⟨cur,q⟩:=ro.out.obj b e;exact a _ _ _ q
 ·obtain⟨l,i⟩:=ro.rowAt hr;obtain⟨cur,q⟩:=i.obj b e;exact a _ _ _ q
 ·rcases Q6 b H0.size with q|q
  ·exact absurd e (f b q)
  ·exact q
theorem qk.set {H0:aa}{B:Nat}{b:List Int}{w:Int}{p:Sl}{r2:Nat}{p1 p2 p3 p4 c c1:Addr}{k l:Nat}{H:aa}{x:Loop}{o:Obj}(h:qk H0 B b w p r2 p1 p2 p3 p4 c c1 k H)(f:H[l]?=some (.loop x))(g:H0.size<=l):
  qk H0 B b w p r2 p1 p2 p3 p4 c c1 k (H.setIfInBounds l o):=
 h.mod (F:=λb=>b=l) (Mod.setObj rfl) (λb a e=>by omega) (λb cs t a e=>by subst e;rw[f] at a;cases a) (λb d a e=>by subst e;rw[f] at a;cases a)
theorem qk.NS {H0:aa}{B:Nat}{b:List Int}{w:Int}{p:Sl}{r2:Nat}{p1 p2 p3 p4 c c1:Addr}{k:Nat}{H H':aa}(h:qk H0 B b w p r2 p1 p2 p3 p4 c c1 k H)(hm:Ext H H'):qk H0 B b w p r2 p1 p2 p3 p4 c c1 k H':=
 h.mod hm (λ_ _=>id) (λ_ _ _ _=>id) (λ_ _ _=>id)
set_option maxHeartbeats 4000000 in
theorem EG {p:Sl}{b:List Int}{w:Int}{H:aa}{K:(Sl×Int)->aa->Prop}(hp:Ints .u8 H p b)(hc:p.n<=p.c)(ey:∀x∈b,0<=x/\x<256)(hlen:b.length<=1000000)
  (hK:∀s rs H',aZ H' H.size s rs (fQ b w)->Ext H H'->(∀x∈rs,x.a≠none)->K (s,BV b w) H'):K7.sp p w H K:=by
 refine K7.of ?_;unfold K7.vc;rw[JP,Ge];have pn:=hp.len;refine eO λp1 H1 e4 s1 v1 e1=>?_;refine eO λp2 H2 e5 s2 v2 e2=>?_;refine eO λp3 H3 e6 s3 v3 e3=>?_;have c4:=(v1.ext e2).ext e3;have c5:=v2.ext e3;have bg:Ext H H3:=(e1.trans e2).trans e3;refine c4.ld (c:=ai .i64) (x:=w) ?_
 -- the answer where the width is not one
 have bad:∀H4:aa,dV H4 p2 cW (.slice none 0 0)->dV H4 p3 Mu (.int .i64 60)->Ext H H4->eY b w=false->
   ld au H4 p2 λres=>ld (ai .i64) H4 p3 λO=>K (res,O) H4:=by
  intro H4 q2 Z e hf;refine q2.ld (c:=au) (x:=Sl.mk none 0 0) ?_;refine Z.ld (c:=ai .i64) (x:=60) ?_;have:=hK (Sl.mk none 0 0) [] H4 (by unfold fQ;rw[hf];exact aZ.nil _ _) e (by simp);unfold BV at this;rw[hf] at this;exact this
 have bG:eY b w=false->st H3 p2 (.slice none 0 0) λH5=>st H5 p3 (.int .i64 60) λH6=>ld au H6 p2 λres=>ld (ai .i64) H6 p3 λO=>K (res,O) H6:=by
  intro hf;refine c5.st rfl λH5 q2 m5 s5=>?_;refine(v3.mod m5 (by omega)).st rfl λH6 Z m6 s6=>?_;exact bad H6 (q2.mod m6 (by omega)) Z (((bg.mod (F:=λb=>b=p2.block\/b=p3.block).trans (m5.mono (λb _ h=>.inl h))).trans (m6.mono (λb _ h=>.inr h))).ext (λb a=>by omega)) hf
 refine uw ?_;refine ao (λh=>bG (by unfold eY;simp at h;simp[h])) (λh=>?_);have h':aK w≠0:=by simpa using h
 have e7:=cq w;refine⟨h',ao (λh2=>bG (by unfold eY;rw[pn] at h2;simp at h2;simp[h2])) (λh2=>?_)⟩;have c6:QK (b.length:Int) (aK w)=0:=by rw[pn] at h2;simpa using h2
 obtain⟨n,hn⟩:∃n:Nat,aK w=(n:Int):=⟨(aK w).toNat,by omega⟩;have bl:0<n:=by omega
 obtain⟨m,hm⟩:∃m,m=b.length/n:=⟨_,rfl⟩;have hmul:b.length=m*n:=by rw[hm];exact tmod_zero bl (by rw[<-hn];exact c6)
 have eA:0<=w/\w<=16:=by
  unfold aK at h';split at h'
  ·exact absurd rfl h'
  ·omega
 have c7:w≠0->n=8*w.toNat:=by
  intro hw;unfold aK at hn;rw[if_neg (by omega),if_neg hw] at hn;omega
 have c8:w=0->n=1:=by intro hw;unfold aK at hn;rw[hw] at hn;simp at hn;omega
 have hdiv:m<=b.length:=by rw[hm];exact Nat.div_le_self _ _
 have ediv:Qe.wrap (Qy (p.n:Int) (aK w))=((m:Nat):Int):=by
  rw[pn,hn,<-X5,<-hm,wrap64 (by omega) (by omega)]
 refine⟨h',?_⟩;rw[ediv];refine wE.make (base:=H.size) (by omega) (by omega) (by omega) (by omega) bg.size ?_;intro sl H9 n9 o9 e9 b9 _;refine eO λp4 e8 fa fb v4 eB=>?_;refine v4.st rfl λc9 eC m11 ff=>?_;have b0:Ext H9 c9:=(eB.mod (F:=λb=>b=p4.block).trans m11).ext (λb a=>by omega);have U:Ext H c9:=(bg.trans e9).trans b0;refine FH (by omega) λc c1 bs fi eW fj vc vc1 X=>?_;have P:cI Qf Fg.no=true:=by kernel_rfl
 refine⟨Fg.no,#[.pointer (some c),.pointer (some c1)],rfl,P,λrec d=>?_⟩;obtain⟨l,hl⟩:∃l,l=bs.size+1:=⟨_,rfl⟩;obtain⟨r2,dk⟩:∃r,r=bs.size:=⟨_,rfl⟩;rw[<-hl] at d ⊢;rw[<-dk];obtain⟨A,V⟩:∃A:aa,A=(bs.push (.deferred (some []))).push (.loop (rec .ready none)):=⟨_,rfl⟩;rw[<-V];have ae:Ext bs A:=by rw[V];exact(Mod.push _ _ _).trans (Mod.push _ _ _)
 have dt:A[l]?=some (.loop (rec .ready none)):=by rw[V,hl,Tm,if_pos (by simp)]
 have dT:A[r2]?=some (.deferred (some [])):=by rw[V,dk];simp[Tm]
 have b8:H.size<=l:=by have:=(U.trans X).size;omega
 have ea:p2.block≠p4.block:=by have:=e9.size;omega
 have b1:Ext H9 A:=(b0.trans X).trans ae;have af:Ext H3 A:=e9.trans b1
 -- between the rounds
 let I:Nat->aa->Prop:=λk H'=>H'[l]?=some (.loop (rec .ready none))/\qk H H.size b w p r2 p1 p2 p3 p4 c c1 k H'
 let D:aa->Prop:=λH'=>H'[l]?=some (.loop (rec .done (some .ret)))/\H'[r2]?=some (.deferred (some []))/\dV H' p2 cW (.slice none 0 0)/\dV H' p3 Mu (.int .i64 60)/\Ext H H'/\eY b w=false
 refine Spec.mono (R:=λv H'=>∃x:Unit,v=(bf []).enc x/\oz l rec H' _ _ _) (Dr (l:=l) (c:=c) (c1:=c1) (p:=p) (n:=n) (m:=m) (H:=A) (K:=λ_ H'=>oz l rec H' _ _ _) I D bl (by rw[pn];exact hmul) hc (by omega) (by omega) ?_ ?_ ?_ ?_ ?_) (λv H' ⟨x,_,h⟩=>h)
 ·clear d;rintro k H' ⟨_,g⟩;exact⟨g.vc,by have:=g.vc1;rw[hn] at this;exact this⟩
 ·clear d;refine⟨dt,dT,c4.ext af,c5.ext af,v3.ext af,vc.ext ae,vc1.ext ae,⟨sl,[],(eC.ext X).ext ae,by simpa using n9,⟨by simpa using o9.ext b1,rfl,by simp,by simp⟩,by simp⟩,(U.trans X).trans ae,λ_ j hj=>by omega⟩
 ·-- a round
  rintro k H' hk ⟨y,g⟩;refine d [(Sl.mk (p.a.map (·.add (k*n))) n n).v] H' _ y ?_;clear d;have eb:k*n+n<=b.length:=by
   have:=Ra n (T9 hk);rw[RX] at this;omega
  have eD:k<b.length:=by have:=Nat.le_mul_of_pos_right k bl;omega
  have eE:=tX hmul hk;show _/\_;refine⟨y,?_⟩;obtain⟨Hb,cm⟩:∃Hb:aa,Hb=H'.setIfInBounds l (.loop (rec .busy none)):=⟨_,rfl⟩;rw[<-cm];have u:qk H H.size b w p r2 p1 p2 p3 p4 c c1 k Hb:=by rw[cm];exact g.set y b8
  have Y:Hb[l]?=some (.loop (rec .busy none)):=by rw[cm];exact ib y
  refine⟨λ_ ec=>Hb=ec/\(w=0->b.getD k 0=0),?_,?_⟩
  ·refine u.v1.ld (c:=ai .i64) (x:=w) ?_;refine ao (λh4=>?_) (λh4=>⟨rfl,λhw=>by simp at h4;exact absurd hw h4⟩);have hw:w=0:=by simpa using h4
   have eF:=(hp.ext u.ext).chunk eb;refine bM eF (i:=0) (j:=0) rfl (by omega) λad q=>?_;rw[yB bl,c8 hw];have e0:k*1+0=k:=by omega
   rw[e0];refine ao (λh5=>?_) (λh5=>⟨rfl,λ_=>by simpa using h5⟩);have hf:=Db hw eD (by simpa using h5);refine u.v2.st rfl λfl q2 m15 fo=>?_;have B:p3.block≠p2.block:=by omega
   refine(u.v3.mod m15 B).st rfl λQ Z m16 fv=>?_;have mm:Mod (λb=>b=p2.block\/b=p3.block) Hb Q:=(m15.mono (λb _ h=>.inl h)).trans (m16.mono (λb _ h=>.inr h));have eG:l<Hb.size:=(Qv.1 Y).1;have cA:Q[l]?=some (.loop (rec .busy none)):=(mm.same l eG (by
    rintro(e|e)
    ·have:=u.v2.obj;rw[<-e,Y] at this;cases this
    ·have:=u.v3.obj;rw[<-e,Y] at this;cases this)).trans Y
   have bA:r2<Hb.size:=(Qv.1 u.r2).1;have b3:Q[r2]?=some (.deferred (some [])):=(mm.same r2 bA (by
    rintro(e|e)
    ·have:=u.v2.obj;rw[<-e,u.r2] at this;cases this
    ·have:=u.v3.obj;rw[<-e,u.r2] at this;cases this)).trans u.r2
   refine⟨cA,?_⟩;show D _;have m17:Mod (λb=>b=l) Q (Q.setIfInBounds l (.loop (rec .done (some .ret)))):=Mod.setObj rfl;have C:∀q:Addr,∀t v,dV Q q t v->q.block≠l:=λq t v hv e=>by have:=hv.obj;rw[e,cA] at this;cases this
   have E:=q2.mod m16 (Ne.symm B);refine⟨ib cA,(m17.same r2 (Qv.1 b3).1 (by omega)).trans b3,E.mod m17 (C _ _ _ E),Z.mod m17 (C _ _ _ Z),?_,hf⟩;have eH:Ext H Q:=(u.ext.mod (F:=λb=>b=p2.block\/b=p3.block).trans mm).ext (λb a=>by omega);exact(eH.mod (F:=λb=>b=l).trans m17).ext (λb a=>by omega)
  ·rintro _ ec ⟨rfl,hzero⟩;refine u.v1.ld (c:=ai .i64) (x:=w) ?_;refine jB.make (base:=H.size) eA.1 (Int.le_refl _) (by omega) (by omega) u.ext.size ?_;intro bB fx n17 eI ed ee eg;have g17:=u.NS ed;refine g17.v1.ld (c:=ai .i64) (x:=w) ?_;rw[wrap64 (x:=8*w) (by omega) (by omega)];refine ay (8*w.toNat) (λi z H'=>z=(i:Int)/\aA H' H.size gM 1 bB ((rowOf ((cQ b n k).take i) w.toNat).map (Ql .u64))/\Ext Hb H') ⟨rfl,by simpa[DT] using eI,ed⟩ ?_;rintro i z bC next hi ⟨rfl,bD,o⟩ cB
   refine ao (λh6=>?_) (λh6=>?_)
   ·have ej:i<8*w.toNat:=by simp at h6;omega
    have hw:w≠0:=by omega
    have fy:=c7 hw;have ei:Qe.wrap (Qy (i:Int) 8)=((i/8:Nat):Int):=by
     rw[show (8:Int)=((8:Nat):Int) from rfl,<-X5,wrap64 (by omega) (by omega)]
    rw[ei];have hq:i/8<w.toNat:=by omega
    refine bD.ints.ld (by omega) (by rw[ph];omega) λfA G=>?_;refine((hp.ext (u.ext.trans o)).chunk eb).ld (by omega) (by omega) λfB q2=>?_;simp only[QD];have hr:=xw ((((cQ b n k).take i).drop (8*(i/8))).take 8);have hx:(rowOf ((cQ b n k).take i) w.toNat).getD (i/8) 0=lH ((((cQ b n k).take i).drop (8*(i/8))).take 8):=by
     simp only[rowOf,QM,QC,V5 hq,Uz,Sw]
    have ek:0<=(cQ b n k).getD i 0/\(cQ b n k).getD i 0<256:=by
     have en:i<(cQ b n k).length:=by omega
     simp only[QM,Qg en,Sw];exact ey _ (List.mem_of_mem_drop (List.mem_of_mem_take (Qn en)))
    rw[Gp (by rw[hx];exact hr.1) (by rw[hx];exact hr.2) ek.1 ek.2];refine bD.st (by omega) (by rw[n17];omega) rfl λfD eo m19 fE=>?_;refine cB ej _ _ ⟨by rw[aH i (by omega)],?_,(o.mod (F:=al bB).trans m19).ext ee⟩;rw[<-AX (by omega) (by omega)];simp only[QD,<-List.map_set] at eo;exact eo
   ·have ej:i=8*w.toNat:=by simp at h6;omega
    have cF:rowOf ((cQ b n k).take i) w.toNat=rowOf (cQ b n k) w.toNat:=by
     by_cases hw:w=0
     ·rw[hw];rfl
     ·rw[QO (by rw[eE,c7 hw];omega)]
    rw[cF] at bD;have g18:=u.NS o;obtain⟨s,rs,J,eL,ro,nn⟩:=u.rows;have L:=ro.ext o;refine(J.ext o).ld (c:=au) (x:=s) ?_;refine L.push bD (λr' eP x hx eR=>?_) (by omega) (u.ext.trans o).size ?_
    ·have h1:=(ro.block.2 r' eP x eR).2;have h2:=ee x hx;omega
    intro s7 ep n21 eT m21;have a1:¬al s p4.block:=λa=>by
     obtain⟨cur,q⟩:=L.out.obj _ a;exact absurd (aR q (J.ext o).obj) (by decide)
    refine((J.ext o).mod m21 a1).st rfl λbE v22 m22 fF=>?_;have er:∀b,al s b->H.size<=b:=λb a=>(ro.block.1 b a).1;have a6:bC[l]?=some (.loop (rec .busy none)):=(o.same l (Qv.1 Y).1 id).trans Y;have a7:ep[l]?=some (.loop (rec .busy none)):=(m21.same l (Qv.1 a6).1 (λa=>by
     obtain⟨cur,q⟩:=L.out.obj _ a;rw[a6] at q;cases q)).trans a6
    have a8:bE[l]?=some (.loop (rec .busy none)):=(m22.same l (Qv.1 a7).1 (λa=>by
     have q:=(J.ext o).mod m21 a1;have:=q.obj;rw[<-a,a7] at this;cases this)).trans a7
    refine⟨a8,?_⟩;show I (k+1) _;have mm:Mod (λb=>al s b\/b=p4.block) bC bE:=(m21.mono (λb _ h=>.inl h)).trans (m22.mono (λb _ h=>.inr h));have aE:∀{q:Addr} {t:TypeId} {v:Value},dV bC q t v->t≠cv->q.block≠p4.block->dV bE q t v:=by
     intro q t v hv ht hq;refine hv.mod mm ?_;rintro(a|a)
     ·obtain⟨cur,G⟩:=L.out.obj _ a;have:=hv.obj;rw[this] at G;simp at G;exact ht G.2
     ·exact hq a
    have g22:qk H H.size b w p r2 p1 p2 p3 p4 c c1 (k+1) bE:=by
     have et:r2<bC.size:=(Qv.1 g18.r2).1;refine⟨(mm.same r2 et ?_).trans g18.r2,aE g18.v1 (by decide) (by have:=e9.size;omega),aE g18.v2 (by decide) ea,aE g18.v3 (by decide) (by have:=e9.size;omega),aE g18.vc (by decide) (by have:=e9.size;omega),aE g18.vc1 (by decide) (by have:=e9.size;omega),⟨s7,rs++[bB],v22,by omega,?_,λx hx=>by rcases List.mem_append.1 hx with q|q;exact nn x q;simp at q;subst q;exact eg⟩,?_,?_⟩
     ·rintro(a|a)
      ·obtain⟨cur,G⟩:=L.out.obj _ a;rw[g18.r2] at G;cases G
      ·have:=(J.ext o).obj;rw[<-a,g18.r2] at this;cases this
     ·rw[AJ,hn];have ba:aZ ep H.size s7 (rs++[bB]) (rowsOf b w k++[rowOf (cQ b n k) w.toNat]):=eT;have v21:=(J.ext o).mod m21 a1;refine ba.mod m22 (λb a e=>?_) (λr hr b a e=>?_)
      ·obtain⟨cur,G⟩:=ba.out.obj _ a;rw[e] at G;exact absurd (aR G v21.obj) (by decide)
      ·obtain⟨lx,c0⟩:=ba.rowAt hr;obtain⟨cur,G⟩:=c0.obj _ a;rw[e] at G;exact absurd (aR G v21.obj) (by decide)
     ·exact((Ext.mod (F:=λb=>al s b\/b=p4.block) (u.ext.trans o)).trans mm).ext (λb a=>by
       rcases a with a|a
       ·exact er b a
       ·have:=(bg.trans e9).size;omega)
     ·intro hw j hj;rcases Q6 j k with q|q
      ·exact u.zero hw j q
      ·have:j=k:=by omega
       rw[this];exact hzero hw
    exact⟨ib a8,g22.set a8 b8⟩
 ·-- all rounds are done
  clear d;rintro H' ⟨y,g⟩;refine⟨.ready,none,y,rfl,?_⟩;obtain⟨f,M⟩:∃f:aa,f=H'.setIfInBounds l (.loop (rec .exhausted none)):=⟨_,rfl⟩;show ld _ _ _ _;rw[<-M];have g2:qk H H.size b w p r2 p1 p2 p3 p4 c c1 m f:=by rw[M];exact g.set y b8
  obtain⟨s,rs,J,eL,ro,nn⟩:=g2.rows;refine J.ld (c:=au) (x:=s) ?_;refine g2.v2.st rfl λfG q2 m24 ga=>?_;have B:p3.block≠p2.block:=by omega
  refine(g2.v3.mod m24 B).st rfl λS Z eu gf=>?_;have mm:Mod (λb=>b=p2.block\/b=p3.block) f S:=(m24.mono (λb _ h=>.inl h)).trans (eu.mono (λb _ h=>.inr h));have hr:r2<f.size:=(Qv.1 g2.r2).1;have b4:S[r2]?=some (.deferred (some [])):=(mm.same r2 hr (by
   rintro(e|e)
   ·have:=g2.v2.obj;rw[<-e,g2.r2] at this;cases this
   ·have:=g2.v3.obj;rw[<-e,g2.r2] at this;cases this)).trans g2.r2
  refine⟨b4,?_⟩;have c3:Mod (λb=>b=r2) S (S.setIfInBounds r2 (.deferred none)):=Mod.setObj rfl;have C:∀{q:Addr} {t:TypeId} {v:Value},dV S q t v->¬q.block=r2:=λhv e=>by have:=hv.obj;rw[e,b4] at this;cases this
  have E:=q2.mod eu (Ne.symm B);refine(E.mod c3 (C E)).ld (c:=au) (x:=s) ?_;refine(Z.mod c3 (C Z)).ld (c:=ai .i64) (x:=0) ?_;have ev:eY b w=true:=uF h' c6 (λhw j hj=>g2.zero hw j (by rw[hm,c8 hw];simpa using hj));have b5:Mod (λb=>b=p2.block\/b=p3.block\/b=r2) f (S.setIfInBounds r2 (.deferred none)):=(mm.mono (λb _ h=>by rcases h with h|h;exact .inl h;exact .inr (.inl h))).trans (c3.mono (λb _ h=>.inr (.inr h)));have W:∀b cs t,f[b]?=some (.cells cs t (0,0))->t≠cW->t≠Mu->¬(b=p2.block\/b=p3.block\/b=r2):=by
   rintro b cs t a h1 h2 (e|e|e)
   ·have:=g2.v2.obj;rw[<-e,a] at this;simp at this;exact h1 this.2
   ·have:=g2.v3.obj;rw[<-e,a] at this;simp at this;exact h2 this.2
   ·rw[e,g2.r2] at a;cases a
  have:=hK s rs (S.setIfInBounds r2 (.deferred none)) (by
   unfold fQ;rw[ev,if_pos rfl,hn];simp only[QD];rw[<-hm];refine ro.mod b5 (λb a=>?_) (λr hr b a=>?_)
   ·obtain⟨cur,G⟩:=ro.out.obj _ a;exact W _ _ _ G (by decide) (by decide)
   ·obtain⟨lx,c0⟩:=ro.rowAt hr;obtain⟨cur,G⟩:=c0.obj _ a;exact W _ _ _ G (by decide) (by decide)) ((g2.ext.mod (F:=λb=>b=p2.block\/b=p3.block\/b=r2).trans b5).ext (λb a=>by
     have:=(U.trans X).size;omega)) nn
  unfold BV at this;rw[ev] at this;exact this
 ·-- left by a return
  clear d;rintro H' ⟨y,bA,q2,Z,e,hf⟩;refine⟨.done,some .ret,y,rfl,?_⟩;obtain⟨f,M⟩:∃f:aa,f=H'.setIfInBounds l (.loop (rec .exhausted (some .ret))):=⟨_,rfl⟩;show _/\_;rw[<-M];have m1:Mod (λb=>b=l) H' f:=by rw[M];exact Mod.setObj rfl
  have C:∀{q:Addr} {t:TypeId} {v:Value},dV H' q t v->¬q.block=l:=λhv e=>by have:=hv.obj;rw[e,y] at this;cases this
  have b6:f[r2]?=some (.deferred (some [])):=(m1.same r2 (Qv.1 bA).1 (by omega)).trans bA;refine⟨b6,?_⟩;have m2:Mod (λb=>b=r2) f (f.setIfInBounds r2 (.deferred none)):=Mod.setObj rfl;have b7:∀{q:Addr} {t:TypeId} {v:Value},dV f q t v->¬q.block=r2:=λhv e=>by have:=hv.obj;rw[e,b6] at this;cases this
  have E:=q2.mod m1 (C q2);have ew:=Z.mod m1 (C Z);exact bad _ (E.mod m2 (b7 E)) (ew.mod m2 (b7 ew)) (((e.mod (F:=λb=>b=l\/b=r2).trans (m1.mono (λb _ h=>.inl h))).trans (m2.mono (λb _ h=>.inr h))).ext (λb a=>by
   have:=(U.trans X).size;omega)) hf
theorem dy (n:Int)(k:Nat):0<=iU n k/\iU n k<256:=by
 unfold iU;rw[Wp];omega
theorem nW (l:List Int):∀x∈gd l,0<=x/\x<256:=by
 intro x a;unfold gd at a;split at a
 ·simp at a;omega
 ·obtain⟨n,_,b⟩:=List.mem_flatMap.1 a;obtain⟨k,_,hk⟩:=QB.1 b;rw[<-hk];exact dy n k
def iO (l:List Int):List UInt8:=l.map λx=>UInt8.ofNat x.toNat
@[simp] theorem fT (b:List UInt8):(fm b).length=b.length:=by simp[fm]
@[simp] theorem j0 (b:List Int):(iO b).length=b.length:=by simp[iO]
theorem og {l:List Int}(h:∀x∈l,0<=x/\x<256):fm (iO l)=l:=by
 unfold fm iO;rw[RE]
 conv=>rhs;rw[<-List.map_id l]
 refine Rx λx c=>?_;obtain⟨a,b⟩:=h x c;simp only[Function.comp,UInt8.toNat_ofNat',id];omega
def below (low:List Int)(ls:List (List Int)):Nat:=(ls.takeWhile λl=>decide (aL l low<0)).length
end Go.Proofs.YtkehfflpbpdokaaGreatDoor
