/-
 The pool: a file's frames, rising: the values of a map, those that are wanted, sorted.
-/
import Derived.Lib.SliceRun
import Derived.Test.YtmkbhnholcaghaaGreatDoorRows
import Derived.Test.YtmkbhnholcaghaaGreatDoorVc
import Derived.Test.YtmkbhnholcaghaaGreatDoorFxg
import Derived.Test.YtmkbhnholcaghaaGreatDoorFxj
import Derived.Test.YtmkbhnholcaghaaGreatDoorFxk
import Derived.Test.YtmkbhnholcaghaaGreatDoorFxh
import Derived.Test.YtmkbhnholcaghaaGreatDoorLay
import Derived.Test.YtmkbhnholcaghaaGreatDoorFxq
import Derived.Test.YtmkbhnholcaghaaGreatDoorFxo
import Derived.Test.YtmkbhnholcaghaaGreatDoorJ34
open Array renaming getElem?_eq_some_iff->Of,replicate->Qt,getElem?_push->QP
open BitVec renaming ofInt->Qc,toNat_ofNat->QJ,ofInt_natCast->Sf
open Bool renaming and_eq_true->Oj,or_eq_true->Pu,eq_iff_iff->TQ
open ByteArray renaming mk->Pe,empty->Qu
open Go.Addr renaming add->OR
open Go.Builtin renaming append_->Oa,clear_->To
open Go.Instr renaming storeAt->Ot
open Go.IntKind renaming i64->N6,u64->OI,u8->O5,wrap_u64->Vx,wrap_u8->Zf
open Go.Proofs.AnyF renaming slices_SortFunc_none->RY
open Go.Proofs.Tryz renaming prog->N5,zeroValue170->Wt,func188->XY
open Go.Value renaming int->On,oneCell'->VQ
open Go.Value.slice renaming injEq->Ov
open Go.World renaming frozen?->U2,cell?->Vm
open Iff renaming rfl->Tt
open Int renaming toNat_natCast->Od,tdiv->OX,tmod->Pq,eq_ofNat_of_zero_le->Qy,tdiv_eq_ediv_of_nonneg->R9,lt_or_eq_of_le->TT,lt_trichotomy->UO,tmod_eq_emod->U4,emod_nonneg->Vc,le_of_lt->VI,tdiv_le_self->V0,tdiv_nonneg->Wb,ofNat_tdiv->Wm
open List renaming getElem?_eq_some_iff->N7,getElem?_eq_getElem->N8,mem_of_getElem?->N9,take_succ_eq_append_getElem->Oc,mem_append->Oe,take_of_length_le->Og,mem_iff_getElem?->Oh,getElem?_map->Oi,mem_map->Ol,mem_cons->Oq,mem_cons_of_mem->Ou,mem_singleton->Ow,map_cons->Ox,eq_nil_of_length_eq_zero->Oy,mem_cons_self->OA,getElem?_append_left->OB,replicate->OD,mem_filter->OK,length_cons->ON,map_append->OO,getElem_mem->OP,getElem?_set->OS,length_map->OT,length_take->OW,drop_eq_getElem_cons->OY,getElem?_take->O2,append_assoc->O3,mergeSort_perm->O6,drop_of_length_le->Pa,range->Pk,mem_of_mem_take->Pm,getD->Pn,getElem?_cons_succ->Po,length_drop->Pr,map_map->Py,filter_append->PD,getElem?_drop->PE,pairwise_mergeSort->PH,pairwise_cons->PK,filter_eq_self->PO,filter_congr->PS,mem_or_eq_of_mem_set->PY,perm_ext_iff_of_nodup->Qa,filter_cons->Qf,any_eq_true->Qg,pairwise_map->Qo,getElem?_append->QO,map_congr_left->QQ,drop_drop->Q1,length_filter_le->Q3,foldl_cons->Q8,foldl_append->Re,filter_sublist->Ri,take_take->Rk,getElem?_toArray->RT,findIdx?_cons->Tb,any_eq_false->Tp,getElem_map->TG,getElem?_range->TM,find?_cons->TP,Nodup->TV,eraseIdx_cons_succ->TW,filter_map->Up,getElem_drop->UN,drop_eq_nil_iff->Vq,map_take->Vr,mem_mergeSort->VG,getElem_range->VH,ext_getElem->V1,foldl_nil->Wl
open List.Nodup renaming length_le_of_subset->QG
open List.Pairwise renaming nil->Sd,imp_of_mem->U3
open List.Perm renaming eq_of_pairwise->QK,trans->Uo,of_eq->Va
open Nat renaming le_refl->Ob,le_trans->Oo,zero_le->Oz,mul_le_mul_right->OL,lt_or_ge->OV,le_succ->OZ,mul_one->O7,succ_mul->Pf,lt_of_lt_of_le->P0,succ_le_of_lt->Ra,add_zero->RB,min_eq_left->RQ,mod_eq_of_lt->Sp,div_le_self->Tc,sub_zero->Tz,reduceAdd->TI,le_mul_of_pos_right->TX,mul_comm->Uq,div_mul_le_self->Uw,div_add_mod->Vb,lt_irrefl->Vs
open Option renaming map_some->Q7,getD_some->Rj
open Option.some renaming inj->OE
open UInt8 renaming ofNat->OQ,toNat_inj->Qw
namespace Go.Proofs.YtmkbhnholcaghaaGreatDoor
open Go.MapKept
def dL:eJ Nat:=⟨1,λp=>[df p],λ_=>rfl,λx u hu=>by simp at hu;subst hu;rfl⟩
theorem ti (l:List Nat):dL.all l=l.map df:=by
 induction l with
 |nil=>rfl
 |cons x l a=>
   have:dL.all (x::l)=df x::dL.all l:=rfl;rw[this,a];rfl
theorem LB:qZ N5 Cf tx dL.size 8:=eK (by kernel_rfl)
def Au (e:MapEntry):Nat:=match e.val with|.pointer (some a)=>a.block|_=>0
theorem tR {l cap:Nat}{x:PG}{H:aa}{K:Unit->aa->Prop}(I:List MapEntry->aa->Prop)(t:aL H x)(f:aj H cap xO #[.map (some x.mf)])
  (N:∀A,Mod (λ_=>False) H A->I [] A) (u:∀l A a,I l A->Mod (λb=>b=H.size) A a->a.size=A.size->I l a)
  (hs:∀ls e q A,I ls A->e∈x.ef.toList->e.val=df q->(∀y∈ls,y∈x.ef.toList)->ls.Nodup->e∉ls->A[x.mf]?=some (.map x.ef x.cf)->H.size<A.size->bZ N5 l #[df q] A λb a=>b=true/\I (ls++[e]) a/\a[x.mf]?=A[x.mf]?/\a[H.size]?=A[H.size]?)
  (g:∀ls A,I ls A->ls.Perm x.ef.toList->K () A):Fs.sp l ⟨cap,0,none⟩ H K:=by
 refine Fs.of ?_;unfold Fs.vc;have:=f.ld (c:=bT) (i:=0) (x:=some x.mf) rfl (K:=λx=>ba av N5 (Instr.range xO (.map x)) H λ(it:Option Addr) H1=>aw Unit () H1 λnext _ O=>ba fW N5 (Instr.next (.pointer it) false Af) O λ(P:Bool×List Value) E=>br P.1 (ba oH N5 (Instr.entry (.pointer it)) E λ(Q:Value×Value) R=>HM av Q.2 λ(v:Option Addr)=>bZ N5 l #[(.pointer v)] R λ(b:Bool) F=>br (!b) (K () F) (next () F)) (K () E));refine this ?_;obtain⟨X,inf,hu,_,_⟩:=mL;refine nV hu t.fmap λH1 j G=>?_;have k:H.size<H1.size:=aA j;have w:aL H1 x:=t.keep λb _ hl=>G.same b hl id;refine nY (it:=H.size) (λls _ A=>I ls A/\H.size<A.size) w.fmap j ⟨N H1 G,k⟩ (λl x A a h m s=>⟨u l A a h.1 m s,by omega⟩) ?_ (λls x A h S _=>g ls A h.1 S);rintro ls e ⟨⟩ A next ⟨T,B⟩ he C n D U r d
 obtain⟨z,Y,_,J⟩:=t.entry he;refine⟨aE z.2.p,by rw[J];rfl,?_⟩;refine(hs ls e z.2.p A T he J n D C U B).mono λb a V=>?_;obtain⟨rfl,h1,W,L⟩:=V;refine aC rfl (d () a ⟨h1,?_⟩ W L);obtain⟨o,M⟩:=r;rw[<-L] at M;exact aA M
theorem qO {cap:Nat}{x:PG}{H:aa}{K:Sl->aa->Prop}(S:aL H x)(t:aj H cap xO #[.map (some x.mf)]) (hlen:x.ef.size<=1048576)
  (Z:∀(s:Sl) (ls:List MapEntry) (H':aa),az dL tx H' s (ls.map Au)->ls.Perm x.ef.toList->Mod (λ_=>False) H H'->(∀b,ag s b->H.size<=b)->K s H'):
  Kk.sp (Sl.mk none 0 0) (.func (.func Fs.no) #[] #[(.pointer (some ⟨cap,0,none⟩))]) H K:=by
 refine Kk.of ?_;unfold Kk.vc;refine ax λH1 s1 T m1=>?_;have g:cP N5 Fs.no=true:=by kernel_rfl
 refine⟨_,_,rfl,g,λrec d=>?_⟩;obtain⟨r,U⟩:∃r,r=H1.size:=⟨_,rfl⟩;obtain⟨l,hl⟩:∃l,l=H1.size+1:=⟨_,rfl⟩;obtain⟨p,M⟩:∃p,p=H.size:=⟨_,rfl⟩;rw[<-hl] at d ⊢;rw[<-U];rw[<-M] at T;rw[<-M] at d;rw[<-M];obtain⟨f,m⟩:∃f:aa,f=(H1.push (.deferred (some []))).push (.loop (rec .ready none)):=⟨_,rfl⟩;rw[<-m];have F:Mod (λ_=>False) H1 f:=by rw[m];exact(Mod.push _ _ _).trans (Mod.push _ _ _)
 have sB:f.size=H1.size+2:=by rw[m];simp
 have lB:f[l]?=some (.loop (rec .ready none)):=by rw[m,hl,QP,if_pos (by simp)]
 have rB:f[r]?=some (.deferred (some [])):=by rw[m,U];simp[QP]
 have pB:aj f p Cf #[(Sl.mk none 0 0).v]:=T.ext F;have FB:aL f x:=(S.keep λb _ hl=>m1.same b hl id).keep λb _ hl=>F.same b hl id;have cB:aj f cap xO #[.map (some x.mf)]:=(t.ext m1).ext F;have af:=S.fmap.lt;have an:cap<H.size:=aA t
 let I:List MapEntry->aa->Prop:=λls A=>A[l]?=some (.loop (rec .ready none))/\A[r]?=some (.deferred (some []))/\(∃s,aj A p Cf #[s.v]/\az dL tx A s (ls.map Au)/\(∀b,ag s b->f.size<b))/\Mod (λb=>b=p\/b=l\/b=f.size) f A
 refine Spec.mono (R:=λv H'=>∃x:Unit,v=(aR []).enc x/\nK l rec H' _ _ _) (tR (l:=l) (cap:=cap) (x:=x) (H:=f) (K:=λ_ H'=>nK l rec H' _ _ _) I FB cB ?_ ?_ ?_ ?_) (λv H' ⟨x,_,h⟩=>h)
 ·intro A n;exact⟨n.at lB id,n.at rB id,⟨_,pB.ext n,az.nil _ _ _,by rintro b ⟨ad,q,_⟩;cases q⟩,Ext.mod n⟩
 ·rintro ls A J ⟨i1,i2,⟨s,i3,i4,i5⟩,i6⟩ n hs;refine⟨n.at i1 (by omega),n.at i2 (by omega),⟨s,i3.mod n (by omega),i4.keep λb a j=>n.same b j (by have:=i5 b a;omega),i5⟩,i6.trans (n.mono λb _ e=>.inr (.inr e))⟩
 ·rintro ls e q A ⟨i1,i2,⟨s,i3,i4,i5⟩,i6⟩ he hv B N a1 O a6;refine d [df q] A _ i1 ?_;show iN (some (aE q)) _;refine⟨i1,?_⟩;obtain⟨w,o⟩:∃w:aa,w=A.setIfInBounds l (.loop (rec .busy none)):=⟨_,rfl⟩;rw[<-o];have k:Mod (λb=>b=l) A w:=by rw[o];exact Mod.setObj rfl
  have a7:w.size=A.size:=by rw[o];simp
  have P:w[l]?=some (.loop (rec .busy none)):=by rw[o];exact gk i1
  have C:p≠l:=by omega
  have p1:=i3.mod k C;refine p1.ld (c:=ak) (i:=0) (x:=s) rfl ?_;have V:∀b,ag s b->b≠l:=λb a=>by have:=i5 b a;omega
  have o1:az dL tx w s (ls.map Au):=i4.keep λb a j=>k.same b j (V b a);have a8:(ls.map Au).length<=1048576:=by
   have:=QG N (l₂:=x.ef.toList) (λy hy=>B y hy);simp at this ⊢;omega
  have Q:Au e=q:=by unfold Au;rw[hv];rfl
  refine az.push (E:=dL) LB (x:=q) o1 rfl (by omega) (by omega) λs2 W o2 g2 _=>?_;have lp:p<w.size:=aA p1;have tp:∀b,ag s b->b≠p:=λb a=>by have:=i5 b a;omega
  have p2:aj W p Cf #[s.v]:=p1.mod g2.1 (λa=>tp _ a rfl);have bb:=i6.size;have t2:∀b,ag s2 b->f.size<b:=λb a=>by
   rcases g2.2 b a with q|q
   ·exact i5 b q
   ·omega
  have u:=p2.st (i:=0) (v:=s2.v) (by simp) rfl (K:=λX=>X[l]?=some (.loop (rec .busy none))/\(λb J=>b=true/\I (ls++[e]) J/\J[x.mf]?=A[x.mf]?/\J[f.size]?=A[f.size]?) true (X.setIfInBounds l (.loop (rec .ready none))));rw[show (OR ⟨p,0,none⟩ 0)=⟨p,0,none⟩ from rfl] at u;refine u λL p3 m3 s3=>?_;have l2:W[l]?=some (.loop (rec .busy none)):=g2.1.at P (λa=>V _ a rfl);have Y:L[l]?=some (.loop (rec .busy none)):=m3.at l2 (by omega);have m4:Mod (λb=>b=l) L (L.setIfInBounds l (.loop (rec .ready none))):=Mod.setObj rfl;have z2:=g2.1.size;refine⟨Y,rfl,⟨gk Y,?_,⟨s2,?_,?_,t2⟩,?_⟩,?_,?_⟩
  ·exact m4.at (m3.at (g2.1.at (k.at i2 (by omega)) (λa=>by have:=i5 _ a;omega)) (by omega)) (by omega)
  ·exact aj.mod (show aj L p Cf #[s2.v] from p3) m4 C
  ·rw[OO,Ox,List.map_nil,Q];refine o2.keep λb a j=>?_;have:=t2 b a;exact(m4.same b (by omega) (by omega)).trans (m3.same b j (by omega))
  ·refine i6.trans' (G:=λb=>(b=l\/ag s b)\/b=p) ?_ ?_
   ·exact(((k.mono λb _ e=>.inl (.inl e)).trans (g2.1.mono λb _ e=>.inl (.inr e))).trans (m3.mono λb _ e=>.inr e)).trans (m4.mono λb _ e=>.inl (.inl e))
   ·rintro b a ((e|e)|e)
    ·exact .inr (.inl e)
    ·have:=i5 b e;omega
    ·exact .inl e
  ·have D:=aA O;exact(m4.same _ (by omega) (by omega)).trans ((m3.same _ (by omega) (by omega)).trans ((g2.1.same _ (by omega) (λa=>by have:=i5 _ a;omega)).trans (k.same _ D (by omega))))
  ·exact(m4.same _ (by omega) (by omega)).trans ((m3.same _ (by omega) (by omega)).trans ((g2.1.same _ (by omega) (λa=>by have:=i5 _ a;omega)).trans (k.same _ (by omega) (by omega))))
 ·rintro ls A ⟨i1,i2,⟨s,i3,i4,i5⟩,i6⟩ z;refine⟨.ready,none,i1,rfl,?_⟩;show ld ak _ _ _;have m4:Mod (λb=>b=l) A (A.setIfInBounds l (.loop (rec .exhausted none))):=Mod.setObj rfl;have p4:=i3.mod m4 (by omega);refine p4.ld (c:=ak) (i:=0) (x:=s) rfl ?_;have r4:=m4.at i2 (by omega);refine⟨r4,?_⟩;have m5:Mod (λb=>b=r) (A.setIfInBounds l (.loop (rec .exhausted none))) ((A.setIfInBounds l (.loop (rec .exhausted none))).setIfInBounds r (.deferred none)):=Mod.setObj rfl;have z6:=i6.size;have z4:=m4.size;refine Z s ls _ ?_ z ?_ (λb a=>by have:=i5 b a;omega)
  ·refine i4.keep λb a j=>?_;have:=i5 b a;exact(m5.same b (by omega) (by omega)).trans (m4.same b j (by omega))
  ·have z5:=m5.size;refine⟨by omega,λb a _=>(m5.same b (by omega) (by omega)).trans ((m4.same b (by omega) (by omega)).trans ((i6.same b (by omega) (by omega)).trans ((F.same b (by omega) id).trans (m1.same b a id))))⟩
theorem rq {H:aa}{s:Sl}{ps:List Nat}(h:az dL tx H s ps){i:Nat}{q:Nat}(hi:ps[i]?=some q){z:Int}(d:z=(i:Int)){K:Addr->Option Addr->Prop}(e:∀ad,s.a=some ad->K ad (aE q)):
  ae s.a λa=>(0<=z/\z<(s.n:Int))/\ld av H (a.add (z.toNat*1)) λv=>K a v:=by
 subst d;have f:=(N7.1 hi).1;have g:=h.n (by decide);obtain⟨ad,b⟩:=bP.addr h.rd (by decide) (by omega);refine aX ad b ⟨⟨by omega,by omega⟩,?_⟩;have:=bP.ld (E:=dL) (c:=av) (y:=aE q) h.rd b hi (j:=0) rfl (n:=i*1) rfl (e ad b);rw[show (OR (OR ad (i*1)) 0)=OR ad (i*1) from rfl] at this;rw[Od];exact this
structure Kept (H:aa)(cap:Nat)(n:ByteArray)(ps:List Nat)(sel:Nat->Bool):Prop where
 cap:aj H cap dI #[.string n]
 fr:∀q∈ps,∃g f,dx H g f/\g.p=q/\sel q=(f.name.toList==n.toList)
theorem EK {H:aa}{cap q:Nat}{n:ByteArray}{ps:List Nat}{sel:Nat->Bool}{K:Bool->aa->Prop}(h:Kept H cap n ps sel)(b:q∈ps)(d:K (!sel q) H):Dr.sp (aE q) ⟨cap,0,none⟩ H K:=by
 refine Dr.of ?_;unfold Dr.vc;simp only[al,add_add,TI];obtain⟨g,f,e,rfl,hs⟩:=h.fr q b;refine e.row.ld (c:=aK) (i:=0) (x:=f.name) rfl ?_;have:=h.cap.ld (c:=aK) (i:=0) (x:=n) rfl (K:=λ(a:ByteArray)=>K (!(f.name.toList==a.toList)) H);rw[show (OR ⟨cap,0,none⟩ 0)=⟨cap,0,none⟩ from rfl] at this;refine this ?_;rw[<-hs];exact d
theorem Ah {H:aa}{cap:Nat}{n:ByteArray}{s:Sl}{ps:List Nat}{sel:Nat->Bool}{K:Int->aa->Prop}(h:az dL tx H s ps)(hk:Kept H cap n ps sel)(hl:ps.length<=1048576)
  (j:ps.filter sel=ps->K (-1) H) (l:∀i,i<ps.length->(ps.take i).filter sel=ps.take i->(∃q,ps[i]?=some q/\sel q=false)->K (i:Int) H):JN.sp s ⟨cap,0,none⟩ H K:=by
 refine JN.of ?_;unfold JN.vc;have f:=h.n (by decide);refine ar ps.length (λk x H1=>H=H1/\x=(k:Int)/\(ps.take k).filter sel=ps.take k) ⟨rfl,rfl,by simp⟩ ?_;rintro k _ _ next m ⟨rfl,rfl,d⟩ b
 refine ah (λc=>?_) (λc=>?_)
 ·have a:k<ps.length:=by rw[f] at c;simpa using c
  have g:ps[k]?=some ps[k]:=N8 a;refine rq h g rfl λad o=>?_;refine EK hk (OP a) ?_;cases hs:sel ps[k] with
  |false=>exact aP rfl (l k a d ⟨_,g,hs⟩)
  |true=>
    refine aC rfl (b a _ _ ⟨rfl,aD k (by omega),?_⟩);rw[Oc a,PD,d];simp[hs]
 ·have e:k=ps.length:=by rw[f] at c;simp at c;omega
  rw[e,Og (Ob _)] at d;exact j d
theorem oM {P:Program}{w:World}{g o:Nat}{t:TypeId}{vs:List Value}{cur:Array Value}(d:w.heap[g]?=some (.cells cur t (0,0)))(c:o+vs.length<=cur.size)(h1:∀v∈vs,v.oneCell'=true):
  w.setCells g o vs=w.setRow g (cur.toList.take o++vs++cur.toList.drop (o+vs.length)).toArray:=by
 have a:=run_storeCells_cells (P:=P) g o vs 0 w (λj e=>by simp[Vm,d];omega) (λj e=>by simp[U2,d]) h1;have b:=run_storeCells_at P g o t vs 0 cur w d (by simpa using c) h1;simp only[RB] at a b;rw[a] at b;simpa using b
theorem HF:∀w:World,(zeroValue tx).run N5 w=.ok (.pointer none) w:=Wt
theorem KH:N5.underlying Cf=some (.slice tx):=by kernel_rfl
theorem Di {H:aa}{s:Sl}{ps:List Nat}{lo:Nat}{ty:TypeId}{K:Value->aa->Prop}(h:az dL tx H s ps)(o:lo<ps.length)
  (l:∀v H',az dL tx H' (Sl.mk s.a lo s.c) (ps.take lo)->Mod (ag s) H H'->K v H'):
  ba gi N5 (To #[Cf] ty #[(.slice (cA s.a s.c lo 1) (s.n - lo) (s.c - lo))]) H K:=by
 intro w hw;subst hw;have p:=h.n (by decide);rcases h.2 with ⟨b,e2⟩|⟨g,cap,cur,b,A,d,q,r,t,i⟩
 ·omega
 ·cases s with
  |mk B m f=>
  simp only[Sl.v,Ov] at b;obtain⟨rfl,_,rfl⟩:=b;simp only at p q i l ⊢;have a:dL.size=1:=rfl;rw[a,O7] at t i;have u:cA (some ⟨g,0,none⟩) f lo 1=some ⟨g,lo,none⟩:=by
   unfold cA;rw[if_neg (by omega)];simp[bk]
  rw[u];have n:=Lib.run_clear_slice (P:=N5) w Cf tx ty (.pointer none) KH HF rfl rfl g lo (m - lo) (f - lo) (by omega) (λj x=>by simp[Vm,d];omega) (λj x=>by simp[U2,d]);rw[oM (P:=N5) d (by simp;omega) (by intro v y;rw[List.eq_of_mem_replicate y];rfl)] at n;have c:∀k,ag (Sl.mk (some ⟨g,0,none⟩) m f) k↔k=g:=λk=>⟨λ⟨ad,h1,z⟩=>by cases h1;exact z.symm,λh=>⟨_,rfl,h.symm⟩⟩;refine⟨_,_,n,⟨_,rfl,l _ _ ?_ ⟨by simp[World.setRow],λk _ hk=>setRow_other w g k _ (λe=>hk ((c k).2 e))⟩⟩,⟨rfl,Ob _⟩⟩;refine⟨by rw[ti];simp[a];omega,.inr ⟨g,f,_,rfl,Oz _,setRow_heap w g cur _ _ _ d,by simp only;omega,r,?_,?_⟩⟩
  ·simp only[a,O7,List.size_toArray,List.length_append,OW,List.length_replicate,Pr,Array.length_toList];omega
  ·simp only[a,O7];rw[O3,List.take_append_of_le_length (by simp;omega),Rk,Nat.min_self];have b:dL.all (ps.take lo)=(dL.all ps).take lo:=by rw[ti,ti,Vr]
   rw[b,<-i,Rk,RQ (by omega)]
theorem BU {H:aa}{cap:Nat}{n:ByteArray}{s:Sl}{ps:List Nat}{sel:Nat->Bool}{K:Sl->aa->Prop}(h:az dL tx H s ps)(hk:Kept H cap n ps sel)(hl:ps.length<=1048576)(w:∀b,ag s b->b≠cap)
  (Y:∀s' H',az dL tx H' s' (ps.filter sel)->Mod (ag s) H H'->(∀b,ag s' b->ag s b)->K s' H'):JS.sp s ⟨cap,0,none⟩ H K:=by
 refine JS.of ?_;unfold JS.vc;have Z:=h.n (by decide);have an:=aM.cap h;refine Ah h hk hl (λB=>aP rfl (Y s H (by rw[B];exact h) (.refl _ _) λ_ q=>q)) (λi hi C M=>?_);refine aC (by simp) ?_
 -- the frames' own blocks are not the slice's
 have af:∀q∈ps,¬ag s q:=by
  intro q D N;obtain⟨c,e⟩:=h.obj q N;obtain⟨g,f,I,rfl,_⟩:=hk.fr q D;exact absurd (aF I.row e) (by decide)
 have r:∀{A:aa},Mod (ag s) H A->(∀q∈ps,∃g f,dx H g f/\g.p=q/\sel q=(f.name.toList==n.toList))->Kept A cap n ps sel:=by
  intro A u _;refine⟨u.at hk.cap λq=>w cap q rfl,λq D=>?_⟩;obtain⟨g,f,I,J,e2⟩:=hk.fr q D;refine⟨g,f,I.keep λb N hl=>u.same b hl λq2=>?_,J,e2⟩;obtain⟨c,e⟩:=h.obj b q2;obtain⟨cs,t,e3,ht⟩:=I.obj b N;have:=aF e e3;rw[<-this] at ht;exact absurd ht (by decide)
 obtain⟨q0,E,O⟩:=M;have P:N6.wrap ((i:Int)+1)=((i+1:Nat):Int):=aD i (by omega);rw[P];refine⟨Nat×Nat×List Nat,λt z A=>z=((t.1:Int),(t.2.1:Int))/\az dL tx A s t.2.2/\t.2.2.length=ps.length/\t.2.2.take t.1=(ps.take t.2.1).filter sel/\t.2.2.drop t.2.1=ps.drop t.2.1/\t.1<t.2.1/\t.2.1<=ps.length/\Mod (ag s) H A,λt=>ps.length - t.2.1,⟨(i,i+1,ps),rfl,h,rfl,?_,rfl,Nat.lt_succ_self _,hi,.refl _ _⟩,?_⟩
 ·show ps.take i=(ps.take (i+1)).filter sel;have D:ps[i]=q0:=by rw[N8 hi] at E;exact OE E
  rw[Oc hi,PD,C,D];simp[O]
 ·rintro⟨a,j,cur⟩ z A ⟨rfl,o,hlen,k,m,Q,hj,u⟩;simp only at o hlen k m Q hj ⊢;have R:=r u hk.fr;refine ah (λF=>?_) (λF=>?_)
  ·have d:j<ps.length:=by rw[Z] at F;simp at F;omega
   have S:cur[j]?=some ps[j]:=by
    have J:(cur.drop j)[0]?=(ps.drop j)[0]?:=by rw[m]
    rw[PE,PE,RB,N8 d] at J;exact J
   refine rq o S rfl λad ha=>?_;refine EK R (OP d) ?_;have G:N6.wrap ((j:Int)+1)=((j+1:Nat):Int):=aD j (by omega);have p:∀l:List Nat,l.drop j=ps.drop j->l.drop (j+1)=ps.drop (j+1):=by
    intro l e;have:(l.drop j).drop 1=(ps.drop j).drop 1:=by rw[e]
    rwa [Q1,Q1] at this
   cases hs:sel ps[j] with
   |false=>
     refine aC rfl ⟨(a,j+1,cur),⟨by rw[G],o,hlen,?_,p cur m,by simp only;omega,d,u⟩,by simp only;omega⟩;simp only;rw[Oc d,PD,k];simp[hs]
   |true=>
     refine aP rfl ?_;rw[ha];refine⟨⟨by omega,by omega⟩,?_⟩;have T:a<cur.length:=by omega
     have U:cur[a]?=some cur[a]:=N8 T;rw[Od];show st A (OR (OR ad (a*1)) 0) (df ps[j]) _;refine az.st (i:=a) (j:=0) (x:=cur[a]) (y:=ps[j]) o ha U (by decide) rfl rfl rfl λA' L V z'=>?_;have W:N6.wrap ((a:Int)+1)=((a+1:Nat):Int):=aD a (by omega);refine⟨(a+1,j+1,cur.set a ps[j]),⟨by rw[W,G],L,by simp[hlen],?_,?_,by simp only;omega,d,u.trans V⟩,by simp only;omega⟩
     ·simp only;rw[Oc d,PD,<-k,Oc (by simp;omega),List.take_set_of_le (Ob _)];simp[hs]
     ·simp only;rw[List.drop_set_of_lt (by omega)];exact p cur m
  ·have X:j=ps.length:=by rw[Z] at F;simp at F;omega
   subst X;rw[Og (Ob _)] at k;refine⟨⟨by omega,by omega⟩,?_⟩;rw[Od];refine Di o (by omega) λv A' L V=>⟨⟨by omega,by omega⟩,?_⟩;rw[lk,Tz,Tz];rw[k] at L;exact Y _ A' L (u.trans V) λb q=>q
open Go.MapKept Go.Shelf Go.Sort
def PG.of (x:PG)(n:ByteArray):List FZ:=(x.zs.filter λz=>z.1.name.toList==n.toList).mergeSort λa b=>decide (a.1.page<=b.1.page)
theorem PG.fe {x:PG}{n:ByteArray}{z:FZ}:z∈x.of n↔z∈x.zs/\z.1.name=n:=by
 unfold PG.of;rw[VG,OK];constructor
 ·rintro⟨h1,a⟩;exact⟨h1,gJ (by simpa using a)⟩
 ·rintro⟨h1,a⟩;exact⟨h1,by rw[a];simp⟩
theorem nu {l r:List Nat}(h:l.Perm r)(hl:l.Pairwise (·<=·))(c:r.Pairwise (·<=·)):l=r:=
 QK (le:=(·<=·)) (λa b _ _ h1 d=>Nat.le_antisymm h1 d) hl c h
theorem PG.ue (x:PG)(n:ByteArray):(x.of n).Pairwise λa b=>a.1.page<=b.1.page:=by
 unfold PG.of;have:=PH (le:=λa b:FZ=>decide (a.1.page<=b.1.page)) (λ_ _ _ h1 c=>by simp at*;omega) (λ_ _=>by simp;omega) (x.zs.filter λz=>z.1.name.toList==n.toList);exact this.imp λh=>by simpa using h
theorem PG.yf {x:PG}{s:Pl}(h:s.fs=x.fs)(n:ByteArray):(x.of n).map (λz=>z.1.page)=s.bq n:=by
 refine nu ?_ ?_ ?_
 ·rw[Pl.gd];unfold PG.of;rw[h];unfold PG.fs;refine((O6 _ _).map _).trans (Uo ?_ (O6 _ _).symm);rw[Up,Py];exact List.Perm.refl _
 ·rw[Qo];exact x.ue n
 ·rw[Pl.gd];have:=PH (le:=λa b:Nat=>decide (a<=b)) (λ_ _ _ h1 c=>by simp at*;omega) (λ_ _=>by simp;omega) ((s.fs.filter λf=>f.name.toList==n.toList).map (·.page));exact this.imp λh=>by simpa using h
theorem kj {α β:Type}(f:α->β){l:List α}(h:(l.map f).Nodup):l.Nodup:=by
 unfold TV at*;rw[Qo] at h;exact h.imp λa e=>a (by rw[e])
theorem ve {α β:Type}{f:α->β}:∀{l:List β},(∀b∈l,∃a,f a=b)->∃r:List α,r.map f=l
 |[],_=>⟨[],rfl⟩
 |b::l,h=>by
   obtain⟨a,d⟩:=h b OA;obtain⟨r,e⟩:=ve (l:=l) λc g=>h c (Ou _ g);exact⟨a::r,by rw[Ox,d,e]⟩
theorem FI {H:aa}{d zb:FZ}(e:dx H d.2 d.1)(f:dx H zb.2 zb.1)(h1:d.1.page<1048577)(k:zb.1.page<1048577):
  Spec N5 DJ.no #[df d.2.p,df zb.2.p] H λv H'=>v=.int .i64 ((d.1.page:Int) - (zb.1.page:Int))/\Mod (λ_=>False) H H':=by
 have:=DJ.of (a:=aE d.2.p) (b:=aE zb.2.p) (H:=H) (R:=λr H'=>r=(d.1.page:Int) - (zb.1.page:Int)/\Mod (λ_=>False) H H') (by
  unfold DJ.vc;simp only[al,add_add,TI];refine e.row.ld (c:=ab .i64) (i:=1) (x:=(d.1.page:Int)) rfl ?_;refine f.row.ld (c:=ab .i64) (i:=1) (x:=(zb.1.page:Int)) rfl ?_;exact⟨wrap64 (by omega) (by omega),.refl _ _⟩)
 refine Spec.mono this λv H' ⟨x,g,h,j⟩=>?_;subst g;exact⟨by rw[h],j⟩
theorem CT:∀args w,(callFunc DJ.no args).run N5 w=.ok (.enter DJ.no args) w:=enters_of XY (by kernel_rfl) rfl
theorem Jz {x:PG}{H:aa}{p dp:Nat}{s:Pl}{n:ByteArray}{K:Sl->aa->Prop}(h:bu x H p dp s)
  (hK:∀sl H',az dL tx H' sl ((x.of n).map λz=>z.2.p)->Ext H H'->(∀b,ag sl b->H.size<=b)->K sl H'):IP.sp (aE p) n H K:=by
 refine IP.of ?_;unfold IP.vc;simp only[al];refine ax λH1 s1 r1 e1=>?_;have h1:bu x H1 p dp s:=h.keep λb _ hl=>e1.same b hl id;refine h1.head.ld (c:=bT) (i:=2) (x:=some x.mf) rfl ?_;refine Ky.of ?_;unfold Ky.vc;refine ax λH2 s2 r2 e2=>?_;refine K1.of ?_;unfold K1.vc;have F2:aL H2 x:=h1.frames.keep λb _ hl=>e2.same b hl id;have hlen:=h.wf.len;have af:=h.wf.most;have bB:=h.n;refine qO F2 r2 (by omega) λsl ls H3 o3 an Y f3=>?_;have N:aL H3 x:=F2.keep λb _ hl=>Y.same b hl id;have z1:=e1.size;have z2:=e2.size;have z3:=Y.size
 -- the pointers that were met are the frames'
 have r:(ls.map Au).Perm (x.zs.map λz=>z.2.p):=by
  have q1:=(an.map λe=>(e.key,e.val)).trans h.perm;have Z:=q1.map λkv:Value×Value=>(match kv.2 with|.pointer (some a)=>a.block|_=>0);rw[Py] at Z;refine Uo (Va ?_) (Z.trans (Va ?_))
  ·exact QQ λe _=>rfl
  ·unfold ph;rw[Py];exact QQ λz _=>rfl
 have a1:∀q∈ls.map Au,∃z∈x.zs,z.2.p=q:=by
  intro q D;obtain⟨z,m,e⟩:=Ol.1 (r.mem_iff.1 D);exact⟨z,m,e⟩
 let sel:Nat->Bool:=λq=>x.zs.any λz=>z.2.p==q&&z.1.name.toList==n.toList
 have G:∀z∈x.zs,sel z.2.p=(z.1.name.toList==n.toList):=by
  intro z m;cases D:z.1.name.toList==n.toList with
  |true=>exact Qg.2 ⟨z,m,by simp[D]⟩
  |false=>
    refine Tp.2 λy hy=>?_;intro q;simp only[Oj,beq_iff_eq] at q;have:=h.frames.ptr hy m q.1;subst this;rw[q.2] at D;simp at D
 have a6:(ls.map Au).length<=1048576:=by
  rw[r.length_eq,OT];have:=h.frames.size;omega
 have a7:Kept H3 H.size n (ls.map Au) sel:=by
  refine⟨Y.at (e2.at r1 id) id,λq D=>?_⟩;obtain⟨z,m,e⟩:=a1 q D;exact⟨z.2,z.1,N.each z m,e,by rw[<-e];exact G z m⟩
 refine BU o3 a7 a6 (λb t e=>by have:=f3 b t;omega) λv H4 o4 m4 w4=>?_
 -- sorted
 have bC:Ext H3 H4\/True:=.inr trivial;have a8:aL H4 x:=N.keep λb t hl=>m4.same b hl λq=>by
  have:=f3 b q;have:=h.frames.lt b t;omega
 have o:((ls.map Au).filter sel).Perm ((x.of n).map λz=>z.2.p):=by
  refine(r.filter sel).trans ?_;rw[Up];refine List.Perm.map _ (Uo (Va ?_) (O6 _ _).symm);refine PS λz m=>?_;exact G z m
 have d:∀b,ag v b->H.size<=b:=λb t=>by have:=f3 b (w4 b t);omega
 have e4:Ext H H4:=⟨by have:=m4.size;omega,λb t _=>(m4.same b (by omega) (λq=>by have:=f3 b q;omega)).trans ((Y.same b (by omega) id).trans ((e2.same b (by omega) id).trans (e1.same b t id)))⟩;by_cases C:(x.of n)=[]
 ·-- none
  have bb:(ls.map Au).filter sel=[]:=by
   have:=o.length_eq;rw[C] at this;exact Oy (by simpa using this)
  rw[bb] at o4;have O:=o4.n (by decide);intro w hw;subst hw;have hc:=RY (P:=N5) (ρ:=nS) {Gp with} v.a v.c (.func (.func DJ.no) #[] #[]) w;have e0:v.v=.slice v.a 0 v.c:=by
   cases v;simp only[Sl.v] at O ⊢;rw[O];rfl
  rw[e0];refine hc.mono λe w' ⟨he,bd⟩=>?_;subst bd;refine⟨_,he,⟨(),rfl,hK v _ ?_ e4 d⟩,.refl _⟩;rw[C];exact o4
 ·obtain⟨z0,bl⟩:=List.exists_mem_of_ne_nil _ C;obtain⟨B,L⟩:=ve (f:=λa:{z:FZ // z∈x.zs/\z.1.name=n}=>a.1.2.p) (l:=(ls.map Au).filter sel) (λq D=>by
   obtain⟨z,m,e⟩:=Ol.1 (o.mem_iff.1 D);exact⟨⟨z,PG.fe.1 m⟩,e⟩)
  haveI:Inhabited {z:FZ // z∈x.zs/\z.1.name=n}:=⟨⟨z0,PG.fe.1 bl⟩⟩
  let E:eJ {z:FZ // z∈x.zs/\z.1.name=n}:=⟨1,λa=>[df a.1.2.p],λ_=>rfl,λx u hu=>by simp at hu;subst hu;rfl⟩
  have M:∀l:List {z:FZ // z∈x.zs/\z.1.name=n},E.all l=dL.all (l.map λa=>a.1.2.p):=by
   intro l
   induction l with
   |nil=>rfl
   |cons a l ih=>
     have q1:E.all (a::l)=df a.1.2.p::E.all l:=rfl;have Z:dL.all ((a::l).map λa=>a.1.2.p)=df a.1.2.p::dL.all (l.map λa=>a.1.2.p):=rfl;rw[q1,Z,ih]
  have oE:∀{A:aa} {l:List {z:FZ // z∈x.zs/\z.1.name=n}},az E tx A v l↔az dL tx A v (l.map λa=>a.1.2.p):=by
   intro A l;unfold az;rw[M];exact Tt
  have bn:az E tx H4 v B:=by rw[oE,L];exact o4
  have Q:∀a:{z:FZ // z∈x.zs/\z.1.name=n},a.1.1.page<1048577:=λa=>(h.wf.aq a.1.1 (by rw[h.fs];exact Ol.2 ⟨a.1,a.2.1,rfl⟩)).1
  let cf:{z:FZ // z∈x.zs/\z.1.name=n}->{z:FZ // z∈x.zs/\z.1.name=n}->Int:=λa b=>(a.1.1.page:Int) - (b.1.1.page:Int)
  have k:∀a b,ltOf cf a b=decide (a.1.1.page<b.1.1.page):=by
   intro a b;show decide ((a.1.1.page:Int) - (b.1.1.page:Int)<0)=_;rw[decide_eq_decide];omega
  have hO:SWO (ltOf cf):=⟨λa=>by rw[k];simp,λa b c h1 I=>by rw[k] at*;simp at*;omega,λa b c h1 I=>by rw[k] at*;simp at*;omega⟩;have hT:∀a b,(ltOf cf) a b=false->(ltOf cf) b a=false->a=b:=by
   intro a b h1 I;rw[k] at h1 I;simp at h1 I;apply Subtype.ext;obtain⟨i,hi⟩:=Oh.1 a.2.1;obtain⟨j,hj⟩:=Oh.1 b.2.1;have hk:=h.wf.keys;have:=key_inj (p:=s) hk (i:=i) (j:=j) (f:=a.1.1) (g:=b.1.1) (by rw[h.fs];simp[PG.fs,hi]) (by rw[h.fs];simp[PG.fs,hj]) (by rw[a.2.2,b.2.2]) (by omega);subst this;rw[hi] at hj;exact OE hj
  have R:B.length<4611686018427387904:=by
   have:B.length=((ls.map Au).filter sel).length:=by rw[<-L,OT]
   have I:=Q3 sel (ls.map Au);omega
  refine tW (ρ:=nS) (E:=E) (e:=λa=>df a.1.2.p) Gp (λ_=>rfl) rfl hO hT CT bn R (λA mA a b=>?_) λA oA mA=>?_
  ·have S:aL A x:=a8.keep λc hc hl=>mA.same c hl λq=>by
    have:=d c q;have:=h.frames.lt c hc;omega
   exact FI (S.each a.1 a.2.1) (S.each b.1 b.2.1) (Q a) (Q b)
  ·rw[oE] at oA;have F:=O6 B (λx y=>!(ltOf cf) y x);have heq:(B.mergeSort λx y=>!(ltOf cf) y x).map (λa=>a.1.2.p)=(x.of n).map λz=>z.2.p:=by
    have m:(B.mergeSort λx y=>!(ltOf cf) y x).map (λa=>a.1)=x.of n:=by
     refine QK (le:=λa b:FZ=>a.1.page<=b.1.page) (λa b T t h1 I=>?_) ?_ (x.ue n) ?_
     ·obtain⟨U,_,rfl⟩:=Ol.1 T;have bs:=PG.fe.1 t;have:=hT U ⟨b,bs⟩ (by rw[k];simp;exact I) (by rw[k];simp;exact h1);exact congrArg Subtype.val this
     ·rw[Qo];have:=PH (le:=λx y=>!(ltOf cf) y x) (λa b c h1 I=>by rw[k] at*;simp at*;omega) (λa b=>by rw[k,k];simp;omega) B;exact this.imp λh=>by rw[k] at h;simpa using h
     ·-- the same frames
      have V:(x.of n).Nodup:=by
       have m:x.zs.Nodup:=by
        have:=h.wf.keys;rw[h.fs] at this;unfold PG.fs at this;rw[Py] at this;exact kj _ this
       unfold PG.of;exact(O6 _ _).symm.nodup (m.filter _)
      have hA:(B.map λa=>a.1.2.p).Perm ((x.of n).map λz=>z.2.p):=by rw[L];exact o
      have bx:=(F.map λa=>a.1.2.p).trans hA;have inj:∀a∈(B.mergeSort λx y=>!(ltOf cf) y x).map (λa=>a.1),∀b∈x.of n,a.2.p=b.2.p->a=b:=by
       intro a T b t e;obtain⟨U,_,rfl⟩:=Ol.1 T;exact h.frames.ptr U.2.1 (PG.fe.1 t).1 e
      have W:((x.of n).map λz=>z.2.p).Nodup:=by
       unfold TV;rw[Qo];refine U3 (λ{a b} T t bA e=>bA (h.frames.ptr (PG.fe.1 T).1 (PG.fe.1 t).1 e)) V
      have J:(((B.mergeSort λx y=>!(ltOf cf) y x).map λa=>a.1).map λz=>z.2.p).Perm ((x.of n).map λz=>z.2.p):=by rw[Py];exact bx
      have X:((B.mergeSort λx y=>!(ltOf cf) y x).map λa=>a.1).Nodup:=kj _ (J.symm.nodup W);rw[Qa X V];intro z;constructor
      ·intro m;obtain⟨U,_,rfl⟩:=Ol.1 m;exact PG.fe.2 U.2
      ·intro m;have:z.2.p∈((B.mergeSort λx y=>!(ltOf cf) y x).map λa=>a.1).map λz=>z.2.p:=J.mem_iff.2 (Ol.2 ⟨z,m,rfl⟩);obtain⟨y,hy,e⟩:=Ol.1 this;rw[<-inj y hy z m e];exact hy
    rw[<-m,Py];rfl
   rw[heq] at oA;refine hK v A oA ⟨by have:=e4.size;have:=mA.size;omega,λb t _=>(mA.same b (by have:=e4.size;omega) (λq=>by have:=d b q;omega)).trans (e4.same b t id)⟩ d
end Go.Proofs.YtmkbhnholcaghaaGreatDoor
namespace Go.Proofs.YtmkbhnholcaghaaGreatDoor
open Go.MapKept
theorem HR {zs:List FZ}{i:Nat}{f f':Fr}{g:td}(a:zs[i]?=some (f,g))(hk:f'.key=f.key):ph (zs.set i (f',g))=ph zs:=by
 have h1:f'.name=f.name:=congrArg Prod.fst hk;have b:f'.page=f.page:=congrArg Prod.snd hk;unfold ph;rw[show zs.set i (f',g)=zs.modify i (λ_=>(f',g)) from (aZ (g:=λ_=>(f',g)) a).symm];exact c7 _ _ _ _ _ a (by simp only[h1,b])
theorem KM {x y:PG}{H:aa}{z:FZ}{n:ByteArray}(hk:ph y.zs=ph x.zs)(a:z∈x.zs)(c:z.1.name=n)(g:aL H y):∃(i:Nat) (f:Fr),y.zs[i]?=some (f,(⟨z.2.p,(y.zs.getD i z).2.b⟩:td))/\f.name=n/\f.page=z.1.page:=by
 have h1:(jj z.1.name (z.1.page:Int),df z.2.p)∈ph y.zs:=by rw[hk];exact Ol.2 ⟨z,a,rfl⟩
 obtain⟨u,hu,e⟩:=Ol.1 h1;simp only[Prod.mk.injEq] at e;have d:=lG e.1;have e2:=su e.2;obtain⟨i,hi⟩:=Oh.1 hu;refine⟨i,u.1,?_,d.1.trans c,by omega⟩;have:y.zs.getD i z=u:=by simp[Pn,hi]
 rw[hi,this,<-e2]
theorem Pl.iB (s:Pl)(n:ByteArray):(s.bq n).length<=s.fs.length:=by
 rw[Pl.gd];rw[List.length_mergeSort,OT];exact Q3 _ _
theorem FD {F:Nat->Prop}{H:aa}{p dp:Nat}{s:Pl}{n:ByteArray}{K:Int->aa->Prop}(hg:Gl H)(h:au F H p dp s)(X:s.d.aB<68719470000)
  (j:∀F' H',au F' H' p dp (s.flush n).1->Step F F' H H'->K (s.flush n).2 H'):IF.sp (aE p) n H K:=by
 have Y:=h;obtain⟨x,D,hd,hF⟩:=h;refine IF.of ?_;unfold IF.vc;simp only[al];refine iL hd.pool ?_;unfold Pl.flush at j;refine ah (λhw=>?_) (λhw=>?_)
 ·have v:s.wrong≠0:=by simpa using hw
  rw[if_pos v] at j;exact j F H Y (.refl _ _)
 have v:¬s.wrong≠0:=by simpa using hw
 rw[if_neg v] at j;refine hd.pool.head.ld (c:=av) (i:=0) (x:=aE dp) rfl ?_;refine tE hd.cv ?_;have fin:∀(e:Int) (Z:PG) (m:Nat->Prop) (H1:aa) (t:Pl),bH Z m H1 p dp t->Step (λb=>D b\/x.all p b) (λb=>m b\/Z.all p b) H H1->(∀F' H',au F' H' p dp (Pl.out (t,e)).1->Step F F' H H'->K (Pl.out (t,e)).2 H')->
   vo.sp (aE p) e H1 λr o=>K r o:=by
  intro e Z m H1 t h1 S1 hk;refine vr (hd.gl hg S1.mod) h1 λo M u=>?_;obtain⟨F',q1,q2⟩:=M.out (x:=x) (D:=D) (F:=F) (H:=H) hF (S1.trans u);exact hk F' o q1 q2
 refine ah (λhz=>?_) (λhz=>?_)
 ·have w:(s.d.len n).2≠0:=by simpa using hz
  rw[if_pos w] at j;exact fin _ x D H s hd (.refl _ _) j
 have w:¬(s.d.len n).2≠0:=by simpa using hz
 rw[if_neg w] at j;refine Jz hd.pool λsl H1 o1 W f1=>?_;have N:=hd.ext W;have B:=o1.n (by decide);have O:=PG.yf hd.pool.fs n;have bn:(s.bq n).length<=4096:=by
  have:=s.iB n;have:=hd.pool.wf.len;have:=hd.pool.wf.most;omega
 have hsl:sl.n=(s.bq n).length:=by rw[B,<-O,OT,OT]
 have bl:(x.of n).length=(s.bq n).length:=by rw[<-O,OT]
 refine ar (s.bq n).length (λk z A=>z=(k:Int)/\∃y m t,bH y m A p dp t/\Step (λb=>D b\/x.all p b) (λb=>m b\/y.all p b) H1 A/\ph y.zs=ph x.zs/\az dL tx A sl ((x.of n).map λz=>z.2.p)/\t.d.aB<=s.d.aB+k/\Pl.bg n (s.bq n) s=Pl.bg n ((s.bq n).drop k) t) ⟨rfl,x,D,s,N,.refl _ _,rfl,o1,Ob _,rfl⟩ ?_;rintro k _ A next hk ⟨rfl,y,m,t,d,L,C,oA,bs,heq⟩ l
 have P:Gl A:=N.gl (hg.mod W id) L.mod;refine ah (λQ=>?_) (λQ=>?_)
 ·have E:k<(s.bq n).length:=by rw[hsl] at Q;simpa using Q
  have G:k<(x.of n).length:=by omega
  have af:(x.of n)[k]∈x.of n:=OP G;obtain⟨an,a1⟩:=PG.fe.1 af;obtain⟨i,f,hi,a6,a7⟩:=KM C an a1 d.pool.frames;obtain⟨g,R⟩:∃g:td,g=⟨(x.of n)[k].2.p,(y.zs.getD i (x.of n)[k]).2.b⟩:=⟨_,rfl⟩;rw[<-R] at hi;have a8:g.p=(x.of n)[k].2.p:=by rw[R]
  have S:t.fs[i]?=some f:=by rw[d.pool.fs];simp[PG.fs,hi]
  have bb:(s.bq n)[k]=f.page:=by
   have:((x.of n).map λz=>z.1.page)[k]'(by simpa using G)=(s.bq n)[k]:=by congr 1
   rw[<-this,TG,a7]
  have I:t.find n ((s.bq n)[k]:Int)=some i:=by rw[bb,<-a6];exact Pl.find_eq d.pool.wf S
  have a:Pl.bg n ((s.bq n).drop k) t=if f.dirty then (if (t.put i).2=0 then Pl.bg n ((s.bq n).drop (k+1)) (t.put i).1 else t.put i) else Pl.bg n ((s.bq n).drop (k+1)) t:=by
   rw[OY E]
   conv=>lhs;unfold Pl.bg
   rw[I];simp only[Pl.fF S]
  have hA:=d.pool.frames.each _ (N9 hi);refine rq oA (i:=k) (q:=(x.of n)[k].2.p) (by simp[G]) rfl λad ha=>?_;rw[<-a8];simp only[al];refine hA.row.ld (c:=ay) (i:=4) (x:=f.dirty) rfl ?_;have T:N6.wrap ((k:Int)+1)=((k+1:Nat):Int):=aD k (by omega);cases U:f.dirty with
  |false=>
    rw[U,if_neg (by simp)] at a;exact aP rfl (l E _ _ ⟨T,y,m,t,d,L,C,oA,by omega,heq.trans a⟩)
  |true=>
    rw[U,if_pos rfl] at a;refine aC rfl ?_;refine Bv P d hi (by omega) (λJ V o M u=>?_) (λhe V o M u=>?_)
    ·rw[if_neg J] at a;refine aP (by simpa using J) ?_;have e0:=heq.trans a;rw[e0,if_pos J] at j;exact fin _ y V o _ M ((L.trans u).ahead W) j
    ·rw[if_pos he] at a;refine aC rfl ?_;refine l E _ _ ⟨T,_,V,(t.put i).1,M,L.trans u,?_,?_,?_,heq.trans a⟩
     ·show ph (y.zs.set i (f.clean,g))=_;rw[HR (f':=f.clean) hi rfl];exact C
     ·refine oA.keep λb hb hl=>u.mod.same b hl ?_;rintro q;rcases L.own b q with r|r
      ·have:=hd.lt b r;have:=f1 b hb;omega
      ·have:=o1.lt b hb;omega
     ·have:=t.lS i;omega
 ·have bd:k=(s.bq n).length:=by rw[hsl] at Q;simp at Q;omega
  have e0:Pl.bg n (s.bq n) s=(t,0):=by rw[heq,bd,Pa (Ob _)];rfl
  rw[e0,if_neg (by simp)] at j;simp only at j;refine d.pool.head.ld (c:=av) (i:=0) (x:=aE dp) rfl ?_;refine Hl d.cv λV o a2 u=>?_;obtain⟨q1,q2⟩:=d.jP P a2 u;exact fin _ y V o _ q1 ((L.trans q2).ahead W) j
end Go.Proofs.YtmkbhnholcaghaaGreatDoor
namespace Go.Proofs.YtmkbhnholcaghaaGreatDoor
theorem dP {α β:Type}(f:α->β)(u:α->α)(hu:∀x,f (u x)=f x):∀(l:List α) (i:Nat),(l.modify i u).map f=l.map f
 |[],i=>by simp
 |a::l,0=>by simp[hu]
 |a::l,i+1=>by simp[dP f u hu l i]
theorem Pl.Cm {p q:Pl}(h:q.fs.map Fr.key=p.fs.map Fr.key)(n:ByteArray)(k:Int):q.find n k=p.find n k:=by
 have e:∀r:Pl,r.find n k=(r.fs.map Fr.key).findIdx? λx=>x.1.toList==n.toList&&decide ((x.2:Int)=k):=by
  intro r;rw[List.findIdx?_map];rfl
 rw[e,e,h]
theorem Pl.sR (p:Pl)(i:Nat):(p.put i).1.fs.map Fr.key=p.fs.map Fr.key:=by
 unfold Pl.put;split
 ·show (p.fs.modify i Fr.clean).map Fr.key=_;exact dP Fr.key Fr.clean (λ_=>rfl) _ _
 ·rfl
theorem Pl.iZ {n:ByteArray}:∀(l:List Nat) (p:Pl),Pl.bg n (l.filter λk:Nat=>(p.find n k).isSome) p=Pl.bg n l p
 |[],p=>rfl
 |k::l,p=>by
   rw[Qf];cases a:p.find n k with
   |none=>
     rw[if_neg (by simp),Pl.iZ l p]
     conv=>rhs;unfold Pl.bg
     rw[a]
   |some i=>
     rw[show (some i).isSome=true from rfl,if_pos rfl]
     conv=>lhs;unfold Pl.bg
     conv=>rhs;unfold Pl.bg
     rw[a];simp only;have e:(l.filter λk:Nat=>(p.find n k).isSome)=l.filter λk:Nat=>((p.put i).1.find n k).isSome:=PS λj _=>by rw[Pl.Cm (p.sR i)]
     split
     ·split
      ·rw[e];exact Pl.iZ l _
      ·rfl
     ·exact Pl.iZ l p
theorem Pl.tZ {p:Pl}(hw:p.WF)(c:p.Fit){n:ByteArray}(hl:(p.d.len n).2=0):p.bq n=(Pk (p.d.len n).1).filter λk:Nat=>(p.find n k).isSome:=by
 refine nu ?_ ?_ ?_
 ·rw[Qa]
  ·intro k;rw[Pl.gd];rw[VG,Ol,OK,List.mem_range];constructor
   ·rintro⟨f,d,rfl⟩;rw[OK] at d;have j:f.name=n:=gJ (by simpa using d.2);obtain⟨i,hi⟩:=Oh.1 d.1;refine⟨?_,?_⟩
    ·rw[Dk.xy hl,<-j];exact c f d.1
    ·rw[<-j,Pl.find_eq hw hi];rfl
   ·rintro⟨_,l⟩;obtain⟨i,hi⟩:=Option.isSome_iff_exists.1 l;obtain⟨f,q,r,t⟩:=Pl.mK hi;exact⟨f,OK.2 ⟨N9 q,by rw[r];simp⟩,by omega⟩
  ·rw[Pl.gd];refine(O6 _ _).symm.nodup ?_;have h1:((p.fs.filter λf=>f.name.toList==n.toList).map Fr.key).Nodup:=(Ri.map Fr.key).nodup hw.keys;unfold TV at h1 ⊢;rw[Qo] at h1 ⊢;refine U3 (λ{a b} m o g e=>g ?_) h1;rw[OK] at m o;have s:a.name=n:=gJ (by simpa using m.2);have e2:b.name=n:=gJ (by simpa using o.2);unfold Fr.key;rw[s,e2,e]
  ·exact List.nodup_range.sublist Ri
 ·rw[Pl.gd];have:=PH (le:=λa b:Nat=>decide (a<=b)) (λ_ _ _ h1 l=>by simp at*;omega) (λ_ _=>by simp;omega) ((p.fs.filter λf=>f.name.toList==n.toList).map (·.page));exact this.imp λh=>by simpa using h
 ·exact(List.pairwise_le_range).sublist Ri
theorem Pl.vq {p:Pl}(hw:p.WF)(a:p.Fit){n:ByteArray}(hl:(p.d.len n).2=0):Pl.bg n (p.bq n) p=Pl.bg n (Pk (p.d.len n).1) p:=by
 rw[Pl.tZ hw a hl,Pl.iZ]
theorem Pl.eF (p:Pl)(e:Int):(p.met e).d=p.d/\(p.met e).fs=p.fs/\(p.met e).next=p.next/\(p.met e).most=p.most:=by
 unfold Pl.met;split<;>exact⟨rfl,rfl,rfl,rfl⟩
theorem Pl.EG (p:Pl)(n:ByteArray)(k:Int):(p.load n k).1=p\/(p.load n k).1=p.room.1:=by
 unfold Pl.load;split
 ·exact .inl rfl
 ·split
  ·exact .inl rfl
  ·split
   ·exact .inr rfl
   ·split
    ·exact .inr rfl
    ·split<;>exact .inr rfl
theorem Pl.tu (p:Pl)(n:ByteArray)(k:Int):(p.bt n k).1.d.aB<=p.d.aB+1:=by
 unfold Pl.bt;split
 ·exact OZ _
 ·split
  ·exact OZ _
  ·have h:(p.load n k).1.d.aB<=p.d.aB+1:=by
    rcases p.EG n k with e|e
    ·rw[e];exact OZ _
    ·rw[e];exact p.jM
   split
   ·rename_i q f e he;rw[he] at h;exact h
   ·rename_i q e he;rw[he] at h;show (q.met e).d.aB<=_;rw[(q.eF e).1];exact h
theorem Pl.zY (p:Pl)(n:ByteArray):(p.fresh n).1.d.aB<=p.d.aB+2:=by
 have a:=p.jM;have hw:=p.room.1.d.tG n (p.d.len n).1 (cI 0 []);unfold Pl.fresh;split
 ·show p.d.aB<=_;omega
 ·split
  ·show (p.met _).d.aB<=_;rw[(p.eF _).1];omega
  ·split
   ·show (p.room.1.met _).d.aB<=_;rw[(p.room.1.eF _).1];omega
   ·split
    ·show ((p.room.1.bE _).met _).d.aB<=_;rw[((p.room.1.bE _).eF _).1];show (p.room.1.d.write _ _ _).1.aB<=_;omega
    ·show (p.room.1.d.write _ _ _).1.aB<=_;omega
theorem Pl.jh {n:ByteArray}:∀(l:List Nat) (p:Pl),(Pl.bg n l p).1.d.aB<=p.d.aB+l.length
 |[],p=>Ob _
 |k::l,p=>by
   unfold Pl.bg;have a:=λi=>p.lS i;split
   ·rename_i i hi;have:=a i;split
    ·split
     ·have:=Pl.jh (n:=n) l (p.put i).1;simp only[ON];omega
     ·simp only[ON];omega
    ·have:=Pl.jh (n:=n) l p;simp only[ON];omega
   ·have:=Pl.jh (n:=n) l p;simp only[ON];omega
theorem Pl.xv (r:Pl×Int):(Pl.out r).1.d=r.1.d:=(r.1.eF r.2).1
theorem Pl.y6 (p:Pl)(n:ByteArray):(p.flush n).1.d.aB<=p.d.aB+p.fs.length:=by
 have h1:=Pl.jh (n:=n) (p.bq n) p;have a:=p.iB n;have b:=(Pl.bg n (p.bq n) p).1.d.Cs n;unfold Pl.flush;split
 ·show p.d.aB<=_;omega
 ·split
  ·rw[Pl.xv];show p.d.aB<=_;omega
  ·split
   ·rw[Pl.xv];omega
   ·rw[Pl.xv];show (Dk.sync _ _).1.aB<=_;omega
theorem Pl.E9 (p:Pl)(h:Int)(k:UInt8)(b:List UInt8):(p.set h k b).1.d=p.d:=by
 unfold Pl.set;split
 ·rfl
 ·split
  ·split<;>rfl
  ·rfl
theorem Pl.BB (p:Pl)(h:Int):(p.aY h).1.d=p.d:=by
 unfold Pl.aY;split
 ·rfl
 ·split<;>rfl
theorem Pl.Aa (p:Pl)(n:ByteArray):(p.cT n).1.d.aB<=p.d.aB:=by
 have:=p.d.xN n;unfold Pl.cT;split
 ·exact Ob _
 ·split
  ·rw[Pl.xv];exact Ob _
  ·split
   ·exact Ob _
   ·rw[Pl.xv];exact this
theorem Pl.je {n:ByteArray}:∀(l:List Nat) (p:Pl),(Pl.bg n l p).1.next=p.next/\(Pl.bg n l p).1.tick=p.tick
 |[],p=>⟨rfl,rfl⟩
 |k::l,p=>by
   unfold Pl.bg;split
   ·rename_i i hi;have:=p.rz i;split
    ·split
     ·have h:=Pl.je (n:=n) l (p.put i).1;exact⟨h.1.trans this.2.1,h.2.trans this.2.2.1⟩
     ·exact⟨this.2.1,this.2.2.1⟩
    ·exact Pl.je l p
   ·exact Pl.je l p
theorem Pl.tw (p:Pl)(n:ByteArray):(p.flush n).1.next=p.next:=by
 have h1:=(Pl.je (n:=n) (p.bq n) p).1;unfold Pl.flush;split
 ·rfl
 ·split
  ·exact(p.eF _).2.2.1
  ·split
   ·exact((Pl.bg n (p.bq n) p).1.eF _).2.2.1.trans h1
   ·exact(((Pl.bg n (p.bq n) p).1.bE _).eF _).2.2.1.trans h1
theorem Dk.zL {s t:Dk}{i:Nat}{f:Fl}{g:Fl->Fl}(b:s.files[i]?=some f)(c:t.files=s.files.modify i g)(d:(g f).name=f.name)(n:ByteArray):t.idx n=s.idx n:=by
 unfold Dk.idx;rw[c];have:∀(l:List Fl) (j:Nat),l[j]?=some f->(l.modify j g).findIdx? (λf=>f.name.toList==n.toList)=l.findIdx? (λf=>f.name.toList==n.toList):=by
  intro l
  induction l with
  |nil=>intro j h;simp at h
  |cons a l e=>
    intro j h
    match j with
    |0=>
      simp at h;subst h;simp only[List.modify_zero_cons,Tb,d]
    |j+1=>
      simp only[Po] at h;simp only[List.modify_succ_cons,Tb,e j h]
 exact this s.files i b
theorem Dk.Fm {s:Dk}{n:ByteArray}{k:Int}{b:List UInt8}(h:(s.write n k b).2=0):0<=k/\k.toNat<(s.write n k b).1.size n:=by
 unfold Dk.write at h ⊢;by_cases hd:s.down=true
 ·rw[if_pos hd] at h;cases h
 rw[if_neg hd] at h ⊢;by_cases d:b.length=512
 ·rw[dif_pos d] at h ⊢;cases hi:s.idx n with
  |none=>rw[hi] at h;cases h
  |some i=>
    rw[hi] at h;simp only at h ⊢;by_cases hk:k<0\/k>(s.file i).aq.length
    ·rw[if_pos hk] at h;cases h
    rw[if_neg hk] at h ⊢;by_cases l:k=(s.file i).aq.length/\s.used>=s.quota
    ·rw[if_pos l] at h;cases h
    rw[if_neg l] at h ⊢;unfold Dk.step at h ⊢;by_cases e:s.change.2=0
    ·rw[if_pos e];refine⟨by omega,?_⟩;obtain⟨f,o,_⟩:=Dk.cj hi;have a:s.change.1.files[i]?=some f:=by rw[s.bm];exact o
     have j:s.change.1.idx n=some i:=by unfold Dk.idx at hi ⊢;rw[s.bm];exact hi
     obtain⟨w,hw⟩:∃w:Wr,w=⟨s.change.1.next,k.toNat,⟨b,d⟩⟩:=⟨_,rfl⟩;simp only[<-hw];obtain⟨t,m⟩:∃t:Dk,t=(s.change.1.fS i w).iY (max s.change.1.most (s.change.1.fS i w).used):=⟨_,rfl⟩;rw[<-m];have c:t.files=s.change.1.files.modify i λf=>{f with log:=f.log++[w]}:=by rw[m];rfl
     have p:=Dk.zL (g:=λf=>{f with log:=f.log++[w]}) a c rfl n;have q:t.files[i]?=some {f with log:=f.log++[w]}:=by rw[c];exact dS a
     unfold Dk.size;rw[p,j];simp only;rw[Dk.du q,Fl.sH,c9,hw];show k.toNat<max _ (k.toNat+1);omega
    ·rw[if_neg e] at h;exact absurd h e
 ·rw[dif_neg d] at h;cases h
theorem Dk.Il {s:Dk}{n:ByteArray}{k:Int}(h:(s.read n k).2=0):0<=k/\k.toNat<s.size n:=by
 unfold Dk.read Dk.open at h;unfold Dk.size;by_cases hd:s.down=true
 ·rw[if_pos hd] at h;cases h
 rw[if_neg hd] at h;cases hi:s.idx n with
 |none=>rw[hi] at h;cases h
 |some i=>
   rw[hi] at h;simp only at h ⊢;by_cases hk:k<0
   ·rw[if_pos hk] at h;cases h
   rw[if_neg hk] at h;refine⟨by omega,?_⟩;rcases OV k.toNat (s.file i).aq.length with q|q
   ·exact q
   ·rw[List.getElem?_eq_none q] at h;cases h
theorem EO {l r:List Fr}(h:l.map Fr.key=r.map Fr.key):∀f∈l,∃f'∈r,f'.key=f.key:=by
 intro f a;have:f.key∈r.map Fr.key:=by rw[<-h];exact List.mem_map_of_mem a
 obtain⟨f',h1,b⟩:=Ol.1 this;exact⟨f',h1,b⟩
theorem Pl.Fit.keys {s t:Pl}(h:s.Fit)(hd:s.d.fm t.d)(hk:t.fs.map Fr.key=s.fs.map Fr.key):t.Fit:=h.grow hd (EO hk)
theorem Pl.Fit.met {s:Pl}(h:s.Fit)(e:Int):(s.met e).Fit:=by
 have:=s.eF e;intro f a;rw[this.2.1] at a;rw[this.1];exact h f a
theorem Pl.Fit.room {s:Pl}(h:s.Fit):s.room.1.Fit:=h.grow s.zQ s.uU
theorem Pl.Fit.gZ {s:Pl}(h:s.Fit)(i:Nat):(s.gZ i).Fit:=h.keys (.refl _) (dP Fr.key (Fr.bt s.next) (λ_=>rfl) _ _)
theorem Pl.Fit.take {s:Pl}{f:Fr}(h:s.Fit)(a:f.page<s.d.size f.name):(s.take f).Fit:=by
 refine Pl.Fit.gZ ?_ s.fs.length;intro g b;rcases Oe.1 (show g∈s.fs++[f] from b) with q|q
 ·exact h g q
 ·simp at q;subst q;exact a
theorem Pl.nU (s:Pl)(n:ByteArray)(k:Int):(∃e,s.load n k=(s,none,e))\/(∃e,s.load n k=(s.room.1,none,e))\/∃f,s.load n k=(s.room.1,some f,0)/\f.name=n/\(f.page:Int)=k/\(s.room.1.d.read n k).2=0:=by
 unfold Pl.load;split
 ·exact .inl ⟨_,rfl⟩
 ·split
  ·exact .inl ⟨_,rfl⟩
  ·rename_i hk;split
   ·exact .inr (.inl ⟨_,rfl⟩)
   ·split
    ·exact .inr (.inl ⟨_,rfl⟩)
    ·rename_i a;split
     ·exact .inr (.inl ⟨_,rfl⟩)
     ·exact .inr (.inr ⟨_,rfl,rfl,by show ((k.toNat:Nat):Int)=k;omega,by simpa using a⟩)
theorem Pl.Fit.bt {s:Pl}(h:s.Fit)(n:ByteArray)(k:Int):(s.bt n k).1.Fit:=by
 unfold Pl.bt;split
 ·exact h
 ·split
  ·exact h.gZ _
  ·rcases s.nU n k with ⟨e,he⟩|⟨e,he⟩|⟨f,he,h1,b,a⟩
   ·rw[he];exact h.met e
   ·rw[he];exact h.room.met e
   ·rw[he];refine h.room.take ?_;have:=(Dk.Il a).2;rw[h1];omega
theorem Pl.Fit.fresh {s:Pl}(h:s.Fit)(n:ByteArray):(s.fresh n).1.Fit:=by
 unfold Pl.fresh;split
 ·exact h
 ·split
  ·exact h.met _
  ·split
   ·exact h.room.met _
   ·have a:(s.room.1.bE (s.room.1.d.write n (s.d.len n).1 (cI 0 [])).1).Fit:=h.room.keys (s.room.1.d.qC _ _ _) rfl;split
    ·exact a.met _
    ·rename_i hw;refine a.take ?_;exact(Dk.Fm (show (s.room.1.d.write n (s.d.len n).1 (cI 0 [])).2=0 by simpa using hw)).2
theorem Pl.Fit.set {s:Pl}(h:s.Fit)(c:Int)(k:UInt8)(b:List UInt8):(s.set c k b).1.Fit:=by
 unfold Pl.set;split
 ·exact h
 ·split
  ·split
   ·exact h
   ·exact h.keys (.refl _) (dP Fr.key (Fr.set k b) (λ_=>rfl) _ _)
  ·exact h
theorem Pl.Fit.aY {s:Pl}(h:s.Fit)(c:Int):(s.aY c).1.Fit:=by
 unfold Pl.aY;split
 ·exact h
 ·split
  ·exact h.keys (.refl _) (dP Fr.key (Fr.aY c _) (λ_=>rfl) _ _)
  ·exact h
theorem Pl.Fit.put {s:Pl}(h:s.Fit)(i:Nat):(s.put i).1.Fit:=h.keys (s.pF i) (s.sR i)
theorem Pl.Fit.bg {n:ByteArray}:∀(l:List Nat) {s:Pl},s.Fit->(Pl.bg n l s).1.Fit
 |[],_,h=>h
 |k::l,s,h=>by
   unfold Pl.bg;split
   ·split
    ·split
     ·exact Pl.Fit.bg l (h.put _)
     ·exact h.put _
    ·exact Pl.Fit.bg l h
   ·exact Pl.Fit.bg l h
theorem Pl.Fit.out {r:Pl×Int}(h:r.1.Fit):(Pl.out r).1.Fit:=h.met _
theorem Pl.Fit.flush {s:Pl}(h:s.Fit)(n:ByteArray):(s.flush n).1.Fit:=by
 have h1:=Pl.Fit.bg (n:=n) (s.bq n) h;unfold Pl.flush;split
 ·exact h
 ·split
  ·exact Pl.Fit.out h
  ·split
   ·exact Pl.Fit.out h1
   ·refine Pl.Fit.out ?_;exact h1.keys (Dk.zx _ _) rfl
theorem wZ {α:Type}{q:α->Bool}{d:α}:∀l:List α,(l.findIdx? q).map (λi=>l.getD i d)=l.find? q
 |[]=>rfl
 |a::l=>by
   rw[Tb,TP];cases h:q a with
   |true=>simp
   |false=>
     simp only[Bool.false_eq_true,if_false,Option.map_map];rw[<-wZ (d:=d) l];congr 1
theorem so {α:Type}{q:α->Bool}:∀(l:List α) (i:Nat) (x:α),l[i]?=some x->q x=false->(l.eraseIdx i).find? q=l.find? q
 |[],i,x,h,_=>by simp at h
 |a::l,0,x,h,b=>by simp at h;subst h;simp[b]
 |a::l,i+1,x,h,b=>by
   rw[TW,TP,TP,so l i x (by simpa using h) b]
theorem Dk.uz (s:Dk)(n:ByteArray):s.size n=match s.files.find? (λf=>f.name.toList==n.toList) with|some f=>f.aq.length|none=>0:=by
 unfold Dk.size;rw[<-wZ (d:=⟨Qu,[],[]⟩) s.files];show (match s.idx n with|some i=>(s.file i).aq.length|none=>0)=_;unfold Dk.idx;cases s.files.findIdx? λf=>f.name.toList==n.toList<;>rfl
theorem Dk.Cg (s:Dk){n m:ByteArray}(h:m≠n):(s.drop n).size m=s.size m:=by
 unfold Dk.drop;cases hi:s.idx n with
 |none=>rfl
 |some i=>
   obtain⟨f,b,a⟩:=Dk.cj hi;rw[Dk.uz,Dk.uz];simp only;rw[so s.files i f b (by rw[a,beq_eq_false_iff_ne];exact λe=>h (gJ e).symm)]
theorem Dk.xB (s:Dk){n m:ByteArray}(h:m≠n):s.size m<=(s.remove n).1.size m:=by
 unfold Dk.remove;split
 ·exact Ob _
 ·split
  ·exact Ob _
  ·unfold Dk.step;split
   ·rw[Dk.Cg _ h];exact s.ig m
   ·exact s.ig m
theorem Pl.Fit.cT {s:Pl}(h:s.Fit)(n:ByteArray):(s.cT n).1.Fit:=by
 unfold Pl.cT;split
 ·exact h
 ·split
  ·exact Pl.Fit.out h
  ·split
   ·exact h
   ·refine Pl.Fit.out ?_;intro f c;have a:f∈s.fs.filter λf=>!(f.name.toList==n.toList):=c;rw[OK] at a;have b:f.name≠n:=λe=>by have:=a.2;rw[e] at this;simp at this
    exact P0 (h f a.1) (s.d.xB b)
theorem Pl.Fit.bE {s:Pl}(h:s.Fit){d:Dk}(hd:s.d.fm d):(s.bE d).Fit:=h.keys hd rfl
theorem Es {x:Int}(a:0<=x)(h1:x<1099511627776):fw (x+1)=x+1:=by unfold fw;exact wrap64 (by omega) (by omega)
theorem Pl.sU (s:Pl)(i:Nat)(a:0<=s.next)(h1:s.next<1099511627776):(s.gZ i).next=s.next+1:=Es a h1
theorem Pl.mw (s:Pl)(f:Fr)(a:0<=s.next)(h1:s.next<1099511627776):(s.take f).next=s.next+1:=Es a h1
theorem Pl.lv {s:Pl}{n:ByteArray}{k:Int}(a:0<=s.next)(h1:s.next<1099511627776):(s.bt n k).1.next<=s.next+1:=by
 unfold Pl.bt;split
 ·show s.next<=_;omega
 ·split
  ·rw[Pl.sU s _ a h1];omega
  ·rcases s.nU n k with ⟨e,he⟩|⟨e,he⟩|⟨f,he,_⟩
   ·rw[he];show (s.met e).next<=_;rw[(s.eF e).2.2.1];omega
   ·rw[he];show (s.room.1.met e).next<=_;rw[(s.room.1.eF e).2.2.1,s.ct.2.1];omega
   ·rw[he];show (s.room.1.take f).next<=_;rw[Pl.mw _ _ (by rw[s.ct.2.1];exact a) (by rw[s.ct.2.1];exact h1),s.ct.2.1];omega
theorem Pl.nJ {s:Pl}{n:ByteArray}(b:0<=s.next)(h1:s.next<1099511627776):(s.fresh n).1.next<=s.next+1:=by
 have a:=s.ct.2.1;unfold Pl.fresh;split
 ·show s.next<=_;omega
 ·split
  ·show (s.met _).next<=_;rw[(s.eF _).2.2.1];omega
  ·split
   ·show (s.room.1.met _).next<=_;rw[(s.room.1.eF _).2.2.1,a];omega
   ·split
    ·show ((s.room.1.bE _).met _).next<=_
     rw[((s.room.1.bE _).eF _).2.2.1];show s.room.1.next<=_;rw[a];omega
    ·show ((s.room.1.bE _).take _).next<=_
     rw[Pl.mw _ _ (by show 0<=s.room.1.next;rw[a];exact b) (by show s.room.1.next<_;rw[a];exact h1)];show s.room.1.next+1<=_;rw[a];omega
theorem Pl.jB (s:Pl)(c:Int)(k:UInt8)(b:List UInt8):(s.set c k b).1.next=s.next:=by
 unfold Pl.set;split
 ·rfl
 ·split
  ·split<;>rfl
  ·rfl
theorem Pl.te (s:Pl)(c:Int):(s.aY c).1.next=s.next:=by
 unfold Pl.aY;split
 ·rfl
 ·split<;>rfl
theorem Pl.rM (s:Pl)(n:ByteArray):(s.cT n).1.next=s.next:=by
 unfold Pl.cT;split
 ·rfl
 ·split
  ·exact(s.eF _).2.2.1
  ·split
   ·rfl
   ·exact(((s.forget n).bE _).eF _).2.2.1
def Pl.leave (r:Pl×Int)(h:Int):Pl×Int:=if r.2=0 then r.1.aY h else r
def Pl.more (p:Pl)(n:ByteArray)(k:UInt8)(b:List UInt8):Pl×Int:=
 if (p.fresh n).2.2.2≠0 then ((p.fresh n).1,(p.fresh n).2.2.2)
 else Pl.leave (if k=0 then ((p.fresh n).1,0) else (p.fresh n).1.set (p.fresh n).2.1 k b) (p.fresh n).2.1
def Pl.look (p:Pl)(n:ByteArray)(g:Int):Pl×UInt8×List UInt8×Int:=
 if (p.bt n g).2.2≠0 then ((p.bt n g).1,0,[],(p.bt n g).2.2)
 else if ((p.bt n g).1.get (p.bt n g).2.1).2.2≠0 then ((p.bt n g).1,(p.bt n g).1.get (p.bt n g).2.1)
 else (((p.bt n g).1.aY (p.bt n g).2.1).1,((p.bt n g).1.get (p.bt n g).2.1).1,((p.bt n g).1.get (p.bt n g).2.1).2.1,((p.bt n g).1.aY (p.bt n g).2.1).2)
section
variable {p:Pl}{n:ByteArray}{N q:Nat}{T:Nat->UInt8×List UInt8}
end
theorem xH {a b:Sl}{c d:List Int}{H:aa}{K:Bool->aa->Prop}(t:Ints .u64 H a c)(u:Ints .u64 H b d)(hlen:c.length<4611686018427387904)(j:K (decide (c=d)) H):JT.sp a b H K:=by
 refine JT.of ?_;unfold JT.vc;have l:=t.len;have m:=u.len;refine ah (λh=>?_) (λh=>?_)
 ·have h1:c≠d:=by intro e;subst e;simp[l,m] at h
  simpa[h1] using j
 ·have y:(a.n:Int)=(b.n:Int):=by simpa using h
  have hl:c.length=d.length:=by omega
  refine⟨Nat,λk i H'=>i=(k:Int)/\k<=c.length/\H'=H/\c.take k=d.take k,λk=>c.length - k,⟨0,rfl,Oz _,rfl,by simp⟩,?_⟩;rintro k i H' ⟨rfl,hk,rfl,o⟩;refine ah (λh1=>?_) (λh1=>?_)
  ·have r:(k:Int)<(a.n:Int):=by simpa using h1
   have f:k<c.length:=by omega
   refine t.ld (by omega) (by omega) λv z=>?_;refine u.ld (by omega) (by omega) λw e2=>?_;simp only[Od];refine ah (λg=>?_) (λg=>?_)
   ·have x:c≠d:=by intro e;subst e;simp at g
    simpa[x] using j
   ·refine⟨k+1,⟨by rw[wrap64 (by omega) (by omega)];omega,by omega,by trivial,?_⟩,by omega⟩;rw[Oc f,Oc (by omega:k<d.length),o];have:c[k]'f=d[k]'(by omega):=by simpa[Pn,N8 f,N8 (by omega:k<d.length)] using g
    rw[this]
  ·have r:¬((k:Int)<(a.n:Int)):=by simpa using h1
   have s:k=c.length:=by omega
   subst s;have g:c=d:=by rw[Og (Ob _),Og (by omega)] at o;exact o
   simpa[g] using j
theorem oc:El N5 ez gS 8 (.int .u64 0):=Bb (zb:=rV .u64) qb rfl (by kernel_rfl)
theorem KZ:El N5 dQ fx 1 (.int .u8 0):=Bb (zb:=rV .u8) qb rfl (by kernel_rfl)
theorem yF:El N5 gh ez 24 (.slice none 0 0):=Bb (zb:=DM) Ec rfl (by kernel_rfl)
def aT:List Int->List Int->Int
 |[],[]=>0
 |[],_::_=>-1
 |_::_,[]=>1
 |x::a,y::b=>if x<y then -1 else if y<x then 1 else aT a b
theorem b8:∀{a b:List Int},aT a b=0↔a=b
 |[],[]=>by simp[aT]
 |[],_::_=>by simp[aT]
 |_::_,[]=>by simp[aT]
 |x::a,y::b=>by
   unfold aT;have c:=@b8 a b;split
   ·simp;intro h;omega
   ·split
    ·simp;intro h;omega
    ·rw[c];simp;intro;omega
theorem bX:∀(a b:List Int),aT b a=- aT a b
 |[],[]=>by simp[aT]
 |[],_::_=>by simp[aT]
 |_::_,[]=>by simp[aT]
 |x::a,y::b=>by
   have c:=bX a b;simp only[aT];split
   ·rw[if_neg (by omega)];try rfl
   ·split
    ·rfl
    ·exact c
theorem zW (a b:List Int):aT a b=-1\/aT a b=0\/aT a b=1:=by
 induction a generalizing b with
 |nil=>cases b<;>simp[aT]
 |cons x a c=>cases b with
   |nil=>simp[aT]
   |cons y b=>
     simp only[aT];split
     ·simp
     ·split
      ·simp
      ·exact c b
theorem drop_cons {l:List Int}{k:Nat}(h:k<l.length):l.drop k=l.getD k 0::l.drop (k+1):=by
 rw[OY h];simp[Pn,N8 h]
theorem jL {a b:Sl}{c d:List Int}{H:aa}{K:Int->aa->Prop}(v:Ints .u64 H a c)(w:Ints .u64 H b d)(hlen:c.length<1099511627776)(f:K (aT c d) H):Am.sp a b H K:=by
 refine Am.of ?_;unfold Am.vc;have z:=v.len;have A:=w.len;refine ar c.length (λk i H'=>i=(k:Int)/\k<=d.length/\H'=H/\aT c d=aT (c.drop k) (d.drop k)) ⟨rfl,Oz _,rfl,by simp⟩ ?_;rintro k i H' next hk ⟨rfl,B,rfl,g⟩ j
 refine ah (λh=>?_) (λh=>?_)
 ·simp only[Oj,decide_eq_true_eq] at h;have h1:k<c.length:=by omega
  have x:k<d.length:=by omega
  rw[drop_cons h1,drop_cons x,aT] at g;refine v.ld (by omega) (by omega) λC G=>?_;refine w.ld (by omega) (by omega) λD e2=>?_;simp only[Od];refine ah (λm=>?_) (λm=>?_)
  ·have o:c.getD k 0<d.getD k 0:=by simpa using m
   rw[if_pos o] at g;rw[<-g];exact f
  ·have o:¬c.getD k 0<d.getD k 0:=by simpa using m
   rw[if_neg o] at g;refine v.ld (by omega) (by omega) λE I=>?_;refine w.ld (by omega) (by omega) λF J=>?_;simp only[Od];refine ah (λs=>?_) (λs=>?_)
   ·have t:d.getD k 0<c.getD k 0:=by simpa using s
    rw[if_pos t] at g;rw[<-g];exact f
   ·have t:¬d.getD k 0<c.getD k 0:=by simpa using s
    rw[if_neg t] at g;exact j h1 _ _ ⟨by rw[aD k (by omega)],x,rfl,g⟩
 ·have u:c.length<=k\/d.length<=k:=by
   simp only[Bool.and_eq_false_iff,decide_eq_false_iff_not] at h;omega
  have e:aT c d=if c.length<d.length then -1 else if c.length>d.length then 1 else 0:=by
   rw[g];rcases u with u|u
   ·rw[Pa u];cases hd:d.drop k with
    |nil=>
      have:=Vq.1 hd;rw[if_neg (by omega),if_neg (by omega)];rfl
    |cons y r=>
      have:=Pr (i:=k) (l:=d);rw[hd] at this;simp at this;rw[if_pos (by omega)];rfl
   ·rw[Pa u];cases hd:c.drop k with
    |nil=>
      have:=Vq.1 hd;rw[if_neg (by omega),if_neg (by omega)];rfl
    |cons y r=>
      have:=Pr (i:=k) (l:=c);rw[hd] at this;simp at this;rw[if_neg (by omega),if_pos (by omega)];rfl
  rw[e] at f;refine ah (λm=>?_) (λm=>?_)
  ·rw[if_pos (by simp at m;omega)] at f;exact f
  ·rw[if_neg (by simp at m;omega)] at f;refine ah (λs=>?_) (λs=>?_)
   ·rw[if_pos (by simp at s;omega)] at f;exact f
   ·rw[if_neg (by simp at s;omega)] at f;exact f
theorem tQ {x y:Int}{H:aa}{K:Int->aa->Prop}(a:K (if x<y then -1 else if y<x then 1 else 0) H):GA.sp x y H K:=by
 have b:∀{z:Int} {H:aa} {K:Bool->aa->Prop},K false H->HC.sp z H K:=by
  intro z H K h;refine HC.of ?_;unfold HC.vc;simpa using h
 refine GA.of ?_;unfold GA.vc;refine b (b ?_);simp only[br];refine ah (λh=>?_) (λh=>?_)
 ·rw[if_pos (by simpa using h)] at a;exact a
 ·rw[if_neg (by simpa using h)] at a;refine ah (λh=>?_) (λh=>?_)
  ·rw[if_pos (by simpa using h)] at a;exact a
  ·rw[if_neg (by simpa using h)] at a;exact a
theorem jE {a b:Sl}{f d:List Int}{H:aa}{K:Int->aa->Prop}(u:Ints .u64 H a f)(v:Ints .u64 H b d)(hlen:f.length<1099511627776)(s:K (aT f d) H):wR.sp a b H K:=by
 refine wR.of ?_;unfold wR.vc;refine K4.of ?_;unfold K4.vc;have w:=u.len;have x:=v.len;refine ar f.length (λk i H'=>i=(k:Int)/\k<=d.length/\H'=H/\aT f d=aT (f.drop k) (d.drop k)) ⟨rfl,Oz _,rfl,by simp⟩ ?_;rintro k i H' next hk ⟨rfl,y,rfl,g⟩ j
 refine ah (λh=>?_) (λh=>?_)
 ·have h1:k<f.length:=by simp at h;omega
  rw[drop_cons h1] at g;refine u.ld (by omega) (by omega) λz B=>?_;simp only[Od];refine ah (λl=>?_) (λl=>?_)
  ·have c:d.length<=k:=by simp at l;omega
   rw[Pa c,aT] at g;rw[<-g];exact s
  ·have c:k<d.length:=by simp at l;omega
   rw[drop_cons c,aT] at g;refine v.ld (by omega) (by omega) λA e2=>?_;simp only[Od];refine tQ ?_;refine ah (λm=>?_) (λm=>?_)
   ·have e:aT f d=(if f.getD k 0<d.getD k 0 then -1 else if d.getD k 0<f.getD k 0 then 1 else 0):=by
     rw[g];by_cases o:f.getD k 0<d.getD k 0
     ·rw[if_pos o,if_pos o]
     ·by_cases t:d.getD k 0<f.getD k 0
      ·rw[if_neg o,if_pos t,if_neg o,if_pos t]
      ·rw[if_neg o,if_neg t] at m;simp at m
    rw[<-e];exact s
   ·have r:¬f.getD k 0<d.getD k 0/\¬d.getD k 0<f.getD k 0:=by
     constructor
     ·intro q;rw[if_pos q] at m;simp at m
     ·intro q;rw[if_neg (by omega),if_pos q] at m;simp at m
    rw[if_neg r.1,if_neg r.2] at g;exact j h1 _ _ ⟨by rw[aD k (by omega)],c,rfl,g⟩
 ·have h1:f.length<=k:=by simp at h;omega
  rw[Pa h1] at g;refine ah (λl=>?_) (λl=>?_)
  ·have c:k<d.length:=by simp at l;omega
   rw[drop_cons c,aT] at g;rw[<-g];exact s
  ·have c:d.length<=k:=by simp at l;omega
   rw[Pa c,aT] at g;rw[<-g];exact s
structure gW (H:aa)(base:Nat)(r:Sl)(l:List Int):Prop where
 own:aM H base gS 1 ⟨r.a,r.n+1,r.c⟩ ((l++[30583]).map (On .u64))
theorem gW.len {H:aa}{base:Nat}{r:Sl}{l:List Int}(h:gW H base r l):r.n=l.length:=by
 have:=h.own.1;simp at this;omega
theorem gW.cap {H:aa}{base:Nat}{r:Sl}{l:List Int}(h:gW H base r l):r.n+1<=r.c:=h.own.cap
theorem gW.ints {H:aa}{base:Nat}{r:Sl}{l:List Int}(h:gW H base r l):Ints .u64 H r l:=by
 refine⟨h.len,?_⟩;have:=h.own.reads.take l.length;simpa using this
theorem gW.mod {F:Nat->Prop}{H H':aa}{base:Nat}{r:Sl}{l:List Int}(h:gW H base r l)(hm:Mod F H H')(a:∀b,ag r b->¬F b):gW H' base r l:=⟨h.own.mod hm a⟩
theorem gW.block {H:aa}{base:Nat}{r:Sl}{l:List Int}(h:gW H base r l):∀b,ag r b->base<=b/\b<H.size:=h.own.block
theorem El.BA {P:Program}{t ty e:TypeId}{bytes:Nat}{z:Value}(h:El P t e bytes z){H:aa}{base:Nat}{s:Sl}{xs:List Value}{v:Value}{K:Sl->aa->Prop}
  (d:aM H base e 1 s xs) (h1:v.oneCell'=true) (k:s.n+1<=4611686018427387904) (f:(s.n+1)*bytes<=140737488355328) (g:base<=H.size)
  (l:∀(s':Sl) (H':aa),s'.n=s.n+1->aM H' base e 1 s' (xs++[v])->Mod (ag s) H H'->(∀b,ag s' b->ag s b\/H.size<=b)->s'.a≠none->K s' H'):
  aI H #[v] e λp H1=>ba ak P (Oa #[t,t] ty #[s.v,.slice (some p) 1 1]) H1 K:=by
 have a:Mod (λ_=>False) H (H.push (.cells #[v] e)):=Mod.push _ _ _;refine El.vh (base:=base) (s:=s) (x:=⟨some ⟨H.size,0,none⟩,1,1⟩) (xs:=xs) (ws:=[v]) h (d.ext a) rfl ?_ (by simpa using h1) (by simpa using k) f (by simp;omega) ?_
 ·intro i u hu;cases i with
  |zero=>simp at hu;subst hu;exact⟨_,rfl,cq (c:=#[v]) (t:=e) (fz:=(0,0)) (by simp) (by simp)⟩
  |succ i=>simp at hu
 ·intro s' H' m o r w y;refine l s' H' m o ((Ext.mod a).trans r) (λb f=>?_) (λA=>by have:=(y.1 A).2;simp at this);rcases w b f with j|j
  ·exact .inl j
  ·simp at j;exact .inr (by omega)
theorem Gq {l:Sl}{ll:List Int}{H:aa}{K:Sl->aa->Prop}(hl:Ints .u64 H l ll)(hlen:ll.length<=17592186043904)
  (i:∀r H',gW H' H.size r ll->Ext H H'->K r H'):I6.sp l H K:=by
 refine I6.of ?_;unfold I6.vc;have k:=hl.len;refine oc.vh (base:=H.size) (s:=Sl.mk none 0 0) (x:=l) (xs:=[]) (ws:=ll.map (On .u64)) (aM.nil _ _ _ _) (by simp;omega) hl.reads (nc _ _) (by simp only;omega) (by simp only;omega) (Ob _) ?_;intro out H1 n1 c m1 m _;simp only at n1;have d:Ext H H1:=m1.ext (by rintro b ⟨ad,h,_⟩;cases h);refine oc.BA (base:=H.size) (s:=out) c rfl (by omega) (by omega) d.size ?_;intro a e n2 f m2 o _;have e2:Ext H e:=(d.mod (F:=ag out).trans m2).ext (λb j=>(c.block b j).1);have t:=f.cap;refine⟨by omega,?_⟩;refine i _ _ ⟨?_⟩ e2;rw[lk];have g:a.n=(l.n:Int).toNat - 0+1:=by simp;omega
 have:Sl.mk a.a ((l.n:Int).toNat - 0+1) (a.c - 0)=a:=by cases a;simp only at g;simp[g]
 show aM e H.size gS 1 (Sl.mk a.a ((l.n:Int).toNat - 0+1) (a.c - 0)) _;rw[this];simpa using f
theorem Ev {r l:Sl}{ll:List Int}{base:Nat}{H:aa}{K:Bool->aa->Prop}(b:gW H base r ll)(hl:Ints .u64 H l ll)(hlen:ll.length<=17592186043904)(c:K true H):GP.sp r l H K:=by
 refine GP.of ?_;unfold GP.vc;have d:=hl.len;have rn:=b.len;have f:=b.cap;refine xH b.ints hl (by omega) ?_;simp only[decide_true,br];rw[wrap64 (by omega) (by omega)];refine⟨by omega,?_⟩;rw[lk];obtain⟨ad,e,a⟩:=b.own.reads.at (i:=ll.length) (by simp);refine aX ad e ⟨by omega,30583,?_,c⟩;simp only[Od,O7,d];rw[a];simp
theorem Dm {l:Sl}{xs:List Value}{base:Nat}{H:aa}{K:Unit->aa->Prop}(hl:aM H base gS 1 l xs)(hlen:l.n<=17592186043904)(c:base<=H.size)
  (x:∀H',Mod (ag l) H H'->K () H'):GV.sp l H K:=by
 refine GV.of ?_;unfold GV.vc;refine ar l.n (λk i H'=>i=(k:Int)/\Mod (ag l) H H'/\∃g,aM H' base gS 1 l g) ⟨rfl,.refl _ _,_,hl⟩ ?_;rintro k i H1 next hk ⟨rfl,m1,g,u⟩ d
 refine ah (λh=>?_) (λh=>?_)
 ·have e:k<l.n:=by simp at h;omega
  refine u.st (by omega) (by omega) rfl λE y m2 _=>?_;exact d e _ _ ⟨by rw[aD k (by omega)],m1.trans m2,_,y⟩
 ·refine ar 3 (λk z H'=>z.2=(k:Int)/\z.1.n=l.n+k/\Mod (ag l) H H'/\(∀b,ag z.1 b->ag l b\/H.size<=b)/\∃g,aM H' base gS 1 z.1 g) ⟨rfl,rfl,m1,λb o=>.inl o,_,u⟩ ?_;rintro j ⟨m,i⟩ F r G ⟨hi,A,m3,s,B,v⟩ a;simp only at hi A s v ⊢;subst hi;refine ah (λw=>?_) (λw=>?_)
  ·have e:j<3:=by simp at w;omega
   refine oc.BA (base:=base) v rfl (by omega) (by omega) (Oo c m3.size) ?_;intro I J L C m4 D _;refine a e _ _ ⟨by rw[aD j (by omega)],by simp only;omega,m3.trans' m4 (λb o t=>?_),λb o=>?_,_,C⟩
   ·rcases s b t with f|f
    ·exact f
    ·omega
   ·rcases D b o with f|f
    ·exact s b f
    ·exact .inr (Oo m3.size f)
  ·exact x _ m3
def bz (w:Int):Int:=if w<0\/w>16 then 0 else if w=0 then 1 else 8*w
theorem tq {w:Int}{H:aa}{K:Int->aa->Prop}(a:K (bz w) H):HZ.sp w H K:=by
 refine HZ.of ?_;unfold HZ.vc;unfold bz at a;refine ah (λh=>?_) (λh=>?_)
 ·have b:w<0:=by simpa using h
  rw[if_pos (.inl b)] at a;simpa[b,br] using a
 ·have b:¬w<0:=by simpa using h
  refine ah (λc=>?_) (λc=>?_)
  ·rw[if_pos (.inr (by simpa using c))] at a;exact a
  ·have e:¬w>16:=by simpa using c
   rw[if_neg (by omega)] at a;refine ah (λd=>?_) (λd=>?_)
   ·rw[if_pos (by simpa using d)] at a;exact a
   ·rw[if_neg (by simpa using d)] at a;rw[wrap64 (by omega) (by omega)];exact a
theorem sG {w:Int}{H:aa}{K:Int->aa->Prop}(a:K (bz w) H):Hd.sp w H K:=by
 refine Hd.of ?_;unfold Hd.vc;unfold bz at a;refine ah (λh=>?_) (λh=>?_)
 ·rw[if_pos (by simpa using h)] at a;exact a
 ·have c:¬(w<0\/w>16):=by simpa using h
  rw[if_neg c] at a;rw[wrap64 (by omega) (by omega)];by_cases b:w=0
  ·rw[if_pos b] at a;subst b;simpa using a
  ·rw[if_neg b] at a;rw[if_pos (by omega)];exact a
def aH (w:Int):Int:=if bz w=0 then 0 else OX 504 (bz w)
theorem fu (w:Int):bz w=0\/(0<bz w/\bz w<=128):=by
 unfold bz;split
 ·simp
 ·split
  ·simp
  ·right;omega
theorem qt (w:Int):N6.wrap (OX 504 (bz w))=OX 504 (bz w):=by
 have c:=Wb (a:=504) (b:=bz w) (by omega) (by rcases fu w with h|h<;>omega);have h1:OX 504 (bz w)<=504:=by
  rcases fu w with h|h
  ·rw[h];simp
  ·exact V0 _ (by omega)
 exact wrap64 (by omega) (by omega)
theorem nQ {w:Int}{H:aa}{K:Int->aa->Prop}(a:K (aH w) H):GJ.sp w H K:=by
 refine GJ.of ?_;unfold GJ.vc;refine tq ?_;unfold aH at a;have c:=fu w;refine ah (λh=>?_) (λh=>?_)
 ·have b:bz w>0:=by simpa using h
  rw[if_neg (by omega)] at a;refine⟨by omega,?_⟩;rw[qt];exact a
 ·have b:¬bz w>0:=by simpa using h
  rw[if_pos (by omega)] at a;exact a
theorem eY {w:Int}{H:aa}{K:Int->aa->Prop}(a:K (aH w) H):Bz.sp w H K:=by
 refine Bz.of ?_;unfold Bz.vc;refine sG ?_;unfold aH at a;refine ah (λh=>?_) (λh=>?_)
 ·rw[if_pos (by simpa using h)] at a;exact a
 ·rw[if_neg (by simpa using h)] at a;refine⟨by simpa using h,?_⟩;rw[qt];exact a
structure Rows (H:aa)(s:Sl)(ls:List (List Int)):Prop where
 len:s.n=ls.length
 at':∀i (h:i<ls.length),∃ad r,s.a=some ad/\cK H (ad.add i)=some (Sl.v r)/\Ints .u64 H r ls[i]
theorem Rows.ld {H:aa}{s:Sl}{ls:List (List Int)}(h:Rows H s ls){i:Nat}(hi:i<ls.length){K:Addr->Sl->Prop}(b:∀ad r,s.a=some ad->Ints .u64 H r (ls[i]'hi)->K ad r):
  ae s.a λa=>(0<=(i:Int)/\(i:Int)<(s.n:Int))/\ld ak H (a.add ((i:Int).toNat*1)) λx=>K a x:=by
 obtain⟨ad,r,e,c,d⟩:=h.at' i hi;refine aX ad e ⟨⟨by omega,by rw[h.len];omega⟩,r,?_,b ad r e d⟩;simp only[Od,O7];exact c
def vf (n:Int)(k:Nat):Int:=O5.wrap (dG .u64 n (56 - 8*(k:Int)))
def eN (n:Int):List Int:=(Pk 8).map (vf n)
def eL (l:List Int):List Int:=if l=[] then [0] else l.flatMap eN
theorem cc (n:Int):(eN n).length=8:=by simp[eN]
theorem kP (n:Int){k:Nat}(hk:k<8):(eN n).take (k+1)=(eN n).take k++[vf n k]:=by
 rw[Oc (by rw[cc];exact hk)];simp[eN]
theorem lY {l:List Int}{k:Nat}(hk:k<l.length):(l.take (k+1)).flatMap eN=(l.take k).flatMap eN++eN (l.getD k 0):=by
 rw[Oc hk,List.flatMap_append];simp only[List.flatMap_cons,List.flatMap_nil,List.append_nil,Pn,N8 hk,Rj]
theorem Bj:zc N5 Fj=Qt 8 (.int .u8 0):=by kernel_rfl
theorem uD:nv N5 Fj 8=true:=by kernel_rfl
theorem CQ {n:Int}{H:aa}{K:Array Value->aa->Prop}(m:∀H',Ext H H'->K ((eN n).map (On .u8)).toArray H'):Kq.sp (zc N5 Fj) n H K:=by
 refine Kq.of ?_;unfold Kq.vc;rw[Bj];refine th λp H1 v s1 o r=>?_;refine th λq w y s2 r2 e2=>?_;have f:p.block≠q.block:=by omega
 refine ar 8 (λk z H'=>z=(k:Int)/\(∃cs:List Value,cs.length=8/\cs.take k=((eN n).take k).map (On .u8)/\jz H' p cs.toArray)/\jz H' q (Qt 8 (.int .u8 0))/\Ext H H') ⟨rfl,⟨OD 8 (.int .u8 0),by simp,by simp,o.mod e2 id⟩,r2,r.trans e2⟩ ?_;rintro k z A next hk ⟨rfl,⟨cs,hl,g,j⟩,l,d⟩ a
 refine ah (λh=>?_) (λh=>?_)
 ·have c:k<8:=by simp at h;omega
  rw[wrap64 (x:=8*(k:Int)) (by omega) (by omega),wrap64 (by omega) (by omega)];refine⟨by omega,by omega,?_⟩;simp only[Od,O7];refine j.st (by simp;omega) rfl λB s m4 _=>?_;refine a c _ _ ⟨by rw[aD k (by omega)],⟨cs.set k (.int .u8 (vf n k)),by simpa using hl,?_,by rw[<-List.setIfInBounds_toArray];exact s⟩,l.mod m4 (λt=>f t.symm),?_⟩
  ·rw[kP n c,OO,<-g,Oc (by simpa[hl] using c)];simp[List.take_set];rw[List.set_eq_of_length_le (by simp;omega)]
  ·exact⟨Oo d.size m4.size,λb e _=>(m4.same b (P0 e d.size) (by omega)).trans (d.same b e id)⟩
 ·have i:k=8:=by simp at h;omega
  subst i;rw[Og (by omega),Og (by rw[cc];omega)] at g;subst g;refine j.c8 (by simp[cc]) ?_;refine l.iF (by simpa[cc] using uD) (by simp[cc]) (by simp[VQ]) λC u m5 _=>?_;refine u.c8 (by simp[cc]) ?_;exact m _ ⟨Oo d.size m5.size,λb e _=>(m5.same b (P0 e d.size) (by omega)).trans (d.same b e id)⟩
theorem Ea {H:aa}:aM (H.push (.cells #[.int .u8 0] fx)) H.size fx 1 ⟨some ⟨H.size,0,none⟩,1,1⟩ ([(0:Int)].map (On .u8)):=
 aM.fresh (Ob _) (Ob _) (by unfold maxLen;omega) rfl rfl rfl
theorem ur {l:Sl}{ll:List Int}{H:aa}{K:Sl->aa->Prop}(hl:Ints .u64 H l ll)(hlen:ll.length<=1000000)
  (g:∀s H',aM H' H.size fx 1 s ((eL ll).map (On .u8))->Ext H H'->K s H'):zU.sp l H K:=by
 refine zU.of ?_;unfold zU.vc;have t:=hl.len;refine ah (λh=>?_) (λh=>?_)
 ·have j:ll=[]:=Oy (by simp at h;omega);refine g _ _ ?_ (Mod.push _ _ _);unfold eL;rw[if_pos j];exact Ea
 ·have j:ll≠[]:=by intro e;subst e;simp at t;simp[t] at h
  unfold eL at g;rw[if_neg j] at g;rw[wrap64 (by omega) (by omega)];refine KZ.make (base:=H.size) (by omega) (by omega) (by omega) (by omega) (Ob _) ?_;intro out H1 n1 w y L _;refine ar ll.length (λk z H'=>z.2=(k:Int)/\z.1.n=8*k/\aM H' H.size fx 1 z.1 (((ll.take k).flatMap eN).map (On .u8))/\Ext H H') ⟨rfl,by simpa using n1,by simpa using w,y⟩ ?_;rintro k ⟨s,i⟩ m next hk ⟨hi,A,d,e2⟩ a
  simp only at hi A d ⊢;subst hi;refine ah (λh=>?_) (λh=>?_)
  ·have f:k<ll.length:=by simp at h;omega
   refine(hl.ext e2).ld (by omega) (by omega) λB M=>?_;simp only[Od];refine CQ λO u=>?_;rw[Bj];refine th λp C P Q D E=>?_;refine D.iF (by simpa[cc] using uD) (by simp[cc]) (by simp[VQ]) λG I m5 R=>?_;have o:Ext m C:=u.trans E;have c:Ext m G:=(o.mod (F:=λb=>b=p.block).trans m5).ext (λb v=>by have:=u.size;omega);rw[lk];refine KZ.append (base:=H.size) (s:=s) (x:=⟨some p,8 - 0,8 - 0⟩) (ws:=(eN (ll.getD k 0)).map (On .u8)) (d.ext c) (by simp[cc]) (by simpa using I.reads) (nc _ _) (by simp only;omega) (by simp only;omega) (e2.trans c).size ?_;intro s' S n6 J m6 U _;refine a f _ _ ⟨by rw[aD k (by omega)],by simp only at n6 ⊢;omega,?_,((Ext.mod (F:=ag s) (e2.trans c)).trans m6).ext (λb v=>(d.block b v).1)⟩;simp only;rw[lY f,OO];exact J
  ·have r:k=ll.length:=by simp at h;omega
   subst r;rw[Og (Ob _)] at d;exact g s m d e2
theorem vg {l:Sl}{ll:List Int}{H:aa}{K:Sl->aa->Prop}(hl:Ints .u64 H l ll)(hlen:ll.length<=1000000)
  (r:∀s H',aM H' H.size fx 1 s ((eL ll).map (On .u8))->Ext H H'->K s H'):It.sp l H K:=by
 refine It.of ?_;unfold It.vc;have y:=hl.len;refine ah (λh=>?_) (λh=>?_)
 ·have v:ll=[]:=Oy (by simp at h;omega);refine r _ _ ?_ (Mod.push _ _ _);unfold eL;rw[if_pos v];exact Ea
 ·have v:ll≠[]:=by intro e;subst e;simp at y;simp[y] at h
  unfold eL at r;rw[if_neg v] at r;refine ar ll.length (λk z H'=>z.2=(k:Int)/\z.1.n=8*k/\aM H' H.size fx 1 z.1 (((ll.take k).flatMap eN).map (On .u8))/\Ext H H') ⟨rfl,rfl,aM.nil _ _ _ _,Mod.refl _ _⟩ ?_;rintro k ⟨s,i⟩ B next hk ⟨hi,A,t,e2⟩ d
  simp only at hi A t ⊢;subst hi;refine ah (λh=>?_) (λh=>?_)
  ·have g:k<ll.length:=by simp at h;omega
   refine ar 8 (λj z H'=>z.2=56 - 8*(j:Int)/\z.1.n=8*k+j/\aM H' H.size fx 1 z.1 (((ll.take k).flatMap eN++(eN (ll.getD k 0)).take j).map (On .u8))/\Ext H H') ⟨rfl,A,by simpa using t,e2⟩ ?_;rintro j ⟨s2,i2⟩ G w I ⟨m,x,o,u⟩ a;simp only at m x o ⊢;subst m;refine ah (λh=>?_) (λh=>?_)
   ·have c:j<8:=by simp at h;omega
    refine(hl.ext u).ld (by omega) (by omega) λC J=>?_;simp only[Od];refine⟨by omega,?_⟩;refine KZ.push (base:=H.size) o rfl (by omega) (by omega) u.size ?_;intro s' L M D m4 O _;refine a c _ _ ⟨by simp only;rw[wrap64 (by omega) (by omega)];omega,by simp only;omega,?_,(u.mod (F:=ag s2).trans m4).ext (λb E=>(o.block b E).1)⟩;simp only;rw[kP _ c,<-O3,OO];exact D
   ·have f:j=8:=by simp at h;omega
    subst f;rw[Og (l:=eN (ll.getD k 0)) (by rw[cc];omega)] at o;refine d g _ _ ⟨by rw[aD k (by omega)],by simp only;omega,?_,u⟩;simp only;rw[lY g];exact o
  ·have f:k=ll.length:=by simp at h;omega
   subst f;rw[Og (Ob _)] at t;exact r s B t e2
def ov (w b:Int):Int:=OI.wrap (OI.wrap (w*256)+OI.wrap b)
def bY (a:List Int):Int:=a.foldl ov 0
def rowOf (c:List Int)(w:Nat):List Int:=(Pk w).map λj=>bY ((c.drop (8*j)).take 8)
def eG (b:List Int)(w:Int):Bool:=decide (bz w≠0)&&decide (Pq (b.length:Int) (bz w)=0)&&(decide (w≠0)||b.all λx=>decide (x=0))
def bI (b:List Int)(n k:Nat):List Int:=(b.drop (k*n)).take n
def rowsOf (b:List Int)(w:Int)(m:Nat):List (List Int):=(Pk m).map λk=>rowOf (bI b (bz w).toNat k) w.toNat
def jm (b:List Int)(w:Int):List (List Int):=if eG b w then rowsOf b w (b.length/(bz w).toNat) else []
def pM (b:List Int)(w:Int):Int:=if eG b w then 0 else 60
theorem xF (x:Int):OI.wrap x=x%18446744073709551616:=by
 rw[Vx]
theorem x6 (w b:Int):0<=ov w b/\ov w b<18446744073709551616:=by
 unfold ov;rw[xF];omega
theorem ir (a:List Int):0<=bY a/\bY a<18446744073709551616:=by
 unfold bY;rcases List.eq_nil_or_concat a with h|⟨l,x,h⟩
 ·subst h;simp
 ·subst h;rw[List.concat_eq_append,Re];exact x6 _ _
theorem FF {x b:Int}(d:0<=x)(e:x<18446744073709551616)(f:0<=b)(g:b<256):yO .u64 (kV .u64 x 8) (OI.wrap b)=ov x b:=by
 unfold ov yO kV;have h:(2:Int)^(min (8:Int).toNat OI.bits)=256:=by decide
 rw[h];simp only[xF];obtain⟨n,rfl⟩:=Qy d;obtain⟨m,rfl⟩:=Qy f;have hm:m<256:=by omega
 obtain⟨r,o⟩:∃r,r=n%72057594037927936:=⟨_,rfl⟩;have j:r<72057594037927936:=by omega
 have k:((n:Int)*256)%18446744073709551616=((256*r:Nat):Int):=by omega
 have e2:(m:Int)%18446744073709551616=((m:Nat):Int):=by omega
 have l:(Qc OI.bits ((256*r:Nat):Int)|||Qc OI.bits ((m:Nat):Int)).toNat=256*r+m:=by
  have a:OI.bits=64:=rfl;have c:=Nat.two_pow_add_eq_or_of_lt (i:=8) (b:=m) hm r;rw[Sf,Sf,BitVec.toNat_or,QJ,QJ,a,Sp (by omega),Sp (by omega)];exact c.symm
 rw[k,e2,l];rw[Int.natCast_add]
theorem fO (c:List Int)(w:Nat):(rowOf c w).length=w:=by simp[rowOf]
theorem Ao {c:List Int}{w i:Nat}(hi:i<c.length)(hw:c.length=8*w):
  (rowOf (c.take i) w).set (i/8) (ov ((rowOf (c.take i) w).getD (i/8) 0) (c.getD i 0))=rowOf (c.take (i+1)) w:=by
 have e:i/8<w:=by omega
 apply V1
 ·simp[rowOf]
 ·intro j h1 f;have h:j<w:=by simpa[rowOf] using f
  have d:∀t,((c.take t).drop (8*j)).take 8=(c.drop (8*j)).take (min 8 (t - 8*j)):=by
   intro t;rw[List.drop_take,Rk]
  rw[List.getElem_set];by_cases a:i/8=j
  ·subst a;rw[if_pos rfl];simp only[rowOf,Pn,Oi,TM e,Q7,Rj,TG,VH];simp only[d];have g:min 8 (i+1 - 8*(i/8))=min 8 (i - 8*(i/8))+1:=by omega
   have e2:min 8 (i - 8*(i/8))=i - 8*(i/8):=by omega
   have b:i - 8*(i/8)<(c.drop (8*(i/8))).length:=by simp;omega
   rw[g,e2,Oc b];unfold bY;rw[Re,Q8,Wl];congr 1;rw[N8 hi,Rj,UN];congr 1;omega
  ·rw[if_neg a];simp only[rowOf,TG,VH,d];congr 2;omega
theorem Cd (w:Nat):rowOf [] w=OD w 0:=by
 apply V1
 ·simp[rowOf]
 ·intro j h1 a;simp[rowOf,bY]
structure aO (H:aa)(base:Nat)(s:Sl)(rs:List Sl)(ls:List (List Int)):Prop where
 out:aM H base ez 1 s (rs.map Sl.v)
 len:rs.length=ls.length
 row:∀(i:Nat) (r:Sl) (l:List Int),rs[i]?=some r->ls[i]?=some l->aM H base gS 1 r (l.map (On .u64))
 apart:∀(i j:Nat) (r r':Sl),i≠j->rs[i]?=some r->rs[j]?=some r'->∀b,ag r b->¬ag r' b
theorem aO.nil (H:aa)(base:Nat):aO H base (Sl.mk none 0 0) [] []:=⟨aM.nil _ _ _ _,rfl,by simp,by simp⟩
theorem aO.n {H:aa}{base:Nat}{s:Sl}{rs:List Sl}{ls:List (List Int)}(h:aO H base s rs ls):s.n=ls.length:=by
 have h1:=h.out.1;have a:=h.len;simp at h1;omega
theorem aO.mod {F:Nat->Prop}{H H':aa}{base:Nat}{s:Sl}{rs:List Sl}{ls:List (List Int)}(h:aO H base s rs ls)(hm:Mod F H H')(hs:∀b,ag s b->¬F b)(a:∀r∈rs,∀b,ag r b->¬F b):aO H' base s rs ls:=
 ⟨h.out.mod hm hs,h.len,λi r l h1 c=>(h.row i r l h1 c).mod hm (a r (N9 h1)),h.apart⟩
theorem aO.ext {H H':aa}{base:Nat}{s:Sl}{rs:List Sl}{ls:List (List Int)}(h:aO H base s rs ls)(hm:Ext H H'):aO H' base s rs ls:=h.mod hm (λ_ _=>id) (λ_ _ _ _=>id)
theorem aO.rowAt {H:aa}{base:Nat}{s:Sl}{rs:List Sl}{ls:List (List Int)}(h:aO H base s rs ls){r:Sl}(b:r∈rs):∃l:List Int,aM H base gS 1 r (l.map (On .u64)):=by
 obtain⟨i,hi⟩:=Oh.1 b;have a:i<ls.length:=by rw[<-h.len];exact(N7.1 hi).1
 exact⟨_,h.row i r _ hi (N8 a)⟩
theorem aO.block {H:aa}{base:Nat}{s:Sl}{rs:List Sl}{ls:List (List Int)}(h:aO H base s rs ls):(∀b,ag s b->base<=b/\b<H.size)/\∀r∈rs,∀b,ag r b->base<=b/\b<H.size:=
 ⟨h.out.block,λr a=>by obtain⟨l,hl⟩:=h.rowAt a;exact hl.block⟩
theorem aO.rows {H:aa}{base:Nat}{s:Sl}{rs:List Sl}{ls:List (List Int)}(h:aO H base s rs ls):Rows H s ls:=by
 refine⟨h.n,λi hi=>?_⟩;have a:i<rs.length:=by rw[h.len];exact hi
 obtain⟨ad,b,c⟩:=h.out.reads.at (i:=i) (by simpa using a);exact⟨ad,rs[i],b,by simpa using c,(h.row i _ _ (N8 a) (N8 hi)).ints⟩
theorem aO.Gd {ty:TypeId}{H:aa}{base:Nat}{s:Sl}{rs:List Sl}{ls:List (List Int)}{r:Sl}{l:List Int}{K:Sl->aa->Prop}(h:aO H base s rs ls)
  (w:aM H base gS 1 r (l.map (On .u64))) (g:∀r'∈rs,∀b,ag r b->¬ag r' b) (z:s.n+1<=1099511627776) (e:base<=H.size)
  (A:∀s' H',s'.n=s.n+1->aO H' base s' (rs++[r]) (ls++[l])->Mod (ag s) H H'->(∀b,ag s' b->ag s b\/H.size<=b)->K s' H'):
  aI H #[r.v] ez λp H1=>ba ak N5 (Oa #[gh,gh] ty #[s.v,.slice (some p) 1 1]) H1 K:=by
 refine yF.push (base:=base) h.out rfl z (by omega) e ?_;intro s' H' n1 B m1 C _;refine A s' H' n1 ⟨by simpa using B,by simp[h.len],?_,?_⟩ m1 C
 ·intro i x y a d;rw[QO] at a d;have hl:=h.len;split at a
  ·rename_i k;rw[if_pos (by omega)] at d;exact(h.row i x y a d).mod m1 (λb f c=>(h.row i x y a d).apart h.out (by decide) b f c)
  ·rename_i t;rw[if_neg (by omega)] at d;have u:i - rs.length=0:=by
    have:=(N7.1 a).1;simp at this;omega
   have e2:i - ls.length=0:=by omega
   rw[u] at a;rw[e2] at d;simp at a d;subst a;subst d;exact w.mod m1 (λb f c=>w.apart h.out (by decide) b f c)
 ·intro i j x y v a d b f;have key:∀(i:Nat) (x:Sl),(rs++[r])[i]?=some x->(i<rs.length/\rs[i]?=some x)\/(i=rs.length/\x=r):=by
   intro i x a;rw[QO] at a;split at a
   ·rename_i k;exact .inl ⟨k,a⟩
   ·rename_i t;have u:i - rs.length=0:=by
     have:=(N7.1 a).1;simp at this;omega
    rw[u] at a;simp at a;exact .inr ⟨by omega,a.symm⟩
  rcases key i x a with ⟨h1,m⟩|⟨h1,m⟩<;>rcases key j y d with ⟨D,o⟩|⟨D,o⟩
  ·exact h.apart i j x y v m o b f
  ·subst o;exact λc=>g x (N9 m) b c f
  ·subst m;exact g y (N9 o) b f
  ·omega
theorem aO.push {ty:TypeId}{H:aa}{base:Nat}{s:Sl}{rs:List Sl}{ls:List (List Int)}{r:Sl}{l:List Int}{K:Sl->aa->Prop}(h:aO H base s rs ls)
  (f:aM H base gS 1 r (l.map (On .u64))) (e:∀r'∈rs,∀b,ag r b->¬ag r' b) (g:s.n+1<=1099511627776) (d:base<=H.size)
  (i:∀s' H',s'.n=s.n+1->aO H' base s' (rs++[r]) (ls++[l])->Mod (ag s) H H'->K s' H'):
  aI H #[r.v] ez λp H1=>ba ak N5 (Oa #[gh,gh] ty #[s.v,.slice (some p) 1 1]) H1 K:=
 aO.Gd h f e g d λs' H' a b c _=>i s' H' a b c
theorem qp (b:List Int)(w:Int)(m:Nat):rowsOf b w (m+1)=rowsOf b w m++[rowOf (bI b (bz w).toNat m) w.toNat]:=by
 simp[rowsOf,List.range_succ]
theorem tmod_zero {a n:Nat}(_:0<n)(h:Pq (a:Int) (n:Int)=0):a=a/n*n:=by
 rw[<-Int.ofNat_tmod] at h;have h1:a%n=0:=by exact_mod_cast h
 have:=Vb a n;rw[h1,Uq] at this;omega
theorem oR {b:List Int}{n k j:Nat}(a:j<n):(bI b n k).getD j 0=b.getD (k*n+j) 0:=by
 unfold bI;simp only[Pn,O2,PE];rw[if_pos a]
theorem lP {b:List Int}{n k m:Nat}(a:b.length=m*n)(hk:k<m):(bI b n k).length=n:=by
 unfold bI;have:=OL n (Ra hk);rw[Pf] at this;simp;omega
theorem vm {b:List Int}{w:Int}{k:Nat}(hw:w=0)(hk:k<b.length)(h:b.getD k 0≠0):eG b w=false:=by
 unfold eG;have:(b.all λx=>decide (x=0))=false:=by
  rw[List.all_eq_false];refine⟨b[k],OP _,?_⟩;simp[Pn,N8 hk] at h;simpa using h
 rw[this];simp[hw]
theorem rm {b:List Int}{w:Int}(h1:bz w≠0)(a:Pq (b.length:Int) (bz w)=0)(c:w=0->∀k,k<b.length->b.getD k 0=0):eG b w=true:=by
 unfold eG;simp only[Oj,decide_eq_true_eq,Pu,List.all_eq_true];refine⟨⟨h1,a⟩,?_⟩;by_cases hw:w=0
 ·right;intro x d;obtain⟨k,hk,e⟩:=List.mem_iff_getElem.1 d;have:=c hw k hk;simp[Pn,N8 hk] at this;rw[<-e];exact this
 ·exact .inl hw
theorem uS {p:Sl}{b:List Int}{w:Int}{H:aa}{K:(Sl×Int)->aa->Prop}(Z:Ints .u8 H p b)(hlen:b.length<=1000000)
  (hK:∀s rs H',aO H' H.size s rs (jm b w)->Ext H H'->K (s,pM b w) H'):IQ.sp p w H K:=by
 refine IQ.of ?_;unfold IQ.vc;have R:=Z.len;have bad:∀H',Ext H H'->eG b w=false->K (Sl.mk none 0 0,60) H':=by
  intro H' e hf;have:=hK (Sl.mk none 0 0) [] H' (by unfold jm;rw[hf];exact aO.nil _ _) e;unfold pM at this;rw[hf] at this;exact this
 refine sG ?_;refine ah (λh=>?_) (λh=>?_)
 ·have o:bz w=0:=by simpa using h
  exact bad _ (Mod.refl _ _) (by unfold eG;simp[o])
 ·have o:bz w≠0:=by simpa using h
  have bd:=fu w;refine⟨o,ah (λB=>?_) (λB=>?_)⟩
  ·have g:¬Pq (b.length:Int) (bz w)=0:=by rw[R] at B;simpa using B
   exact bad _ (Mod.refl _ _) (by unfold eG;simp[g])
  ·have g:Pq (b.length:Int) (bz w)=0:=by rw[R] at B;simpa using B
   obtain⟨n,a⟩:∃n:Nat,bz w=(n:Int):=⟨(bz w).toNat,by omega⟩;have D:0<n:=by omega
   have hmul:b.length=b.length/n*n:=tmod_zero D (by rw[<-a];exact g);have bl:0<=w/\w<=16:=by 
    unfold bz at o;split at o
    ·exact absurd rfl o
    ·omega
   have af:w≠0->n=8*w.toNat:=by
    intro hw;unfold bz at a;rw[if_neg (by omega),if_neg hw] at a;omega
   refine ar (b.length/n) (λk z H'=>z.2=((k*n:Nat):Int)/\z.1.n=k/\(w=0->∀j,j<k->b.getD j 0=0)/\(∃rs,aO H' H.size z.1 rs (rowsOf b w k))/\Ext H H') ⟨by simp,rfl,λ_ j S=>by omega,⟨[],aO.nil _ _⟩,Mod.refl _ _⟩ ?_;rintro k ⟨s,i⟩ U next hk ⟨hi,an,hz,⟨rs,r2⟩,e2⟩ r
   simp only at hi an r2 ⊢;have E:k<b.length/n->k*n+n<=b.length:=by
    intro d;have:=OL n (Ra d);rw[Pf] at this;omega
   refine ah (λC=>?_) (λC=>?_)
   ·have d:k<b.length/n:=by
     rcases OV k (b.length/n) with q|q
     ·exact q
     ·have e:k=b.length/n:=by omega
      simp at C;rw[hi,R] at C;rw[e] at C;omega
    have bn:=E d;have G:k<b.length:=by have:=TX k D;omega
    refine⟨λ_ H'=>U=H'/\(w=0->b.getD k 0=0),?_,?_⟩
    ·refine ah (λV=>?_) (λV=>⟨rfl,λhw=>by simp at V;exact absurd hw V⟩);have hw:w=0:=by simpa using V
     have t:n=1:=by unfold bz at a;rw[hw] at a;simp at a;omega
     refine jy (Z.ext e2) (j:=k) (by rw[hi,t];simp) G λad q=>?_;refine ah (λu=>?_) (λu=>⟨rfl,λ_=>by simpa using u⟩);exact bad _ e2 (vm hw G (by simpa using u))
    ·rintro _ H3 ⟨rfl,hzero⟩;refine ar w.toNat (λj z H'=>z.2=(j:Int)/\z.1.n=j/\aM H' H.size gS 1 z.1 (((rowOf (bI b n k) w.toNat).take j).map (On .u64))/\(∀c,ag z.1 c->U.size<=c)/\Ext U H') ⟨rfl,rfl,aM.nil _ _ _ _,(by rintro c ⟨ad,q,_⟩;cases q),Mod.refl _ _⟩ ?_;rintro j ⟨s4,i4⟩ H4 a1 S ⟨I,a6,W,X,v⟩ l;simp only at I a6 W X ⊢;subst I;refine ah (λu=>?_) (λu=>?_)
     ·have f:j<w.toNat:=by simp at u;omega
      have hw:w≠0:=by omega
      have bs:=af hw;refine ar 8 (λq z H'=>z.2=(q:Int)/\z.1=bY (((bI b n k).drop (8*j)).take q)/\H'=H4) ⟨rfl,by simp[bY],rfl⟩ ?_;rintro q ⟨x5,i5⟩ H5 a7 hq ⟨J,y,rfl⟩ m;simp only at J y ⊢;subst J;have bx:=lP hmul d;refine ah (λh6=>?_) (λh6=>?_)
      ·have A:q<8:=by simp at h6;omega
       have L:N6.wrap (N6.wrap (i+N6.wrap (8*(j:Int)))+(q:Int))=((k*n+(8*j+q):Nat):Int):=by
        rw[wrap64 (x:=8*(j:Int)) (by omega) (by omega),wrap64 (x:=i+_) (by omega) (by omega),wrap64 (by omega) (by omega),hi]
        push_cast;omega
       refine jy (Z.ext (e2.trans v)) L (by omega) λad Y=>?_;refine m A _ _ ⟨by rw[aD q (by omega)],?_,rfl⟩;simp only;have M:q<((bI b n k).drop (8*j)).length:=by simp;omega
       rw[Oc M,y];unfold bY;rw[Re,Q8,Wl];show ov _ _=ov _ _;congr 1;rw[UN,<-oR (by omega)];simp[Pn,N8 (show 8*j+q<(bI b n k).length by omega)]
      ·have A:q=8:=by simp at h6;omega
       subst A;refine oc.push (base:=H.size) W rfl (by omega) (by omega) (e2.trans v).size ?_;intro s6 H6 n6 o6 m6 b6 _;refine l f _ _ ⟨by rw[aD j (by omega)],by simp only;omega,?_,λc O=>?_,(v.mod (F:=ag s4).trans m6).ext X⟩
       ·simp only;rw[Oc (by rw[fO];exact f),OO];have e:(rowOf (bI b n k) w.toNat)[j]'(by rw[fO];exact f)=x5:=by
         rw[y];simp[rowOf]
        rw[e];exact o6
       ·rcases b6 c O with Y|Y
        ·exact X c Y
        ·exact Oo v.size Y
     ·have f:j=w.toNat:=by simp at u;omega
      subst f;rw[Og (by rw[fO];exact Ob _)] at W;have r4:=r2.ext v;refine r4.push W (λr' a8 c O bb=>?_) (by omega) (e2.trans v).size ?_
      ·have h1:=(r2.block.2 r' a8 c bb).2;have B:=X c O;omega
      ·intro s7 H7 n7 r7 m7;refine r d _ _ ⟨?_,by simp only;omega,λhw j S=>?_,⟨rs++[s4],?_⟩,((Ext.mod (F:=ag s) (e2.trans v)).trans m7).ext (λc O=>(r2.block.1 c O).1)⟩
       ·simp only;rw[a,hi,wrap64 (by omega) (by omega),Pf];push_cast;rfl
       ·rcases OV j k with q|q
        ·exact hz hw j q
        ·have:j=k:=by omega
         rw[this];exact hzero hw
       ·simp only;rw[qp,a];exact r7
   ·have P:k=b.length/n:=by
     rcases OV k (b.length/n) with q|q
     ·have:=E q;simp at C;rw[hi,R] at C;omega
     ·omega
    have Q:eG b w=true:=rm o g (λhw j S=>hz hw j (by
     have t:n=1:=by unfold bz at a;rw[hw] at a;simp at a;omega
     rw[P,t];simpa using S))
    have:=hK s rs U (by unfold jm;rw[Q,if_pos rfl,a];simp only[Od];rw[<-P];exact r2) e2;unfold pM at this;rw[Q] at this;exact this
theorem HQ:zc N5 gh=#[.slice none 0 0]:=by kernel_rfl
theorem Gy:zc N5 Lc=#[.int .i64 0]:=by kernel_rfl
theorem Fe {p:Sl}{n:Int}{H:aa}{K:Value->aa->Prop}(g:1<=n)
  (a:∀c c1 H',c.block=H.size->c1.block=H.size+1->H'.size=H.size+2->dM H' c dQ p.v->dM H' c1 ib (.int .i64 n)->Ext H H'->
   K (.func (.func DB.no) #[] #[.pointer (some c),.pointer (some c1)]) H'):JF.sp p n H K:=by
 refine JF.of ?_;unfold JF.vc;refine iA λc H1 b s1 v1 d=>?_;refine iA λc1 e f s2 v2 e2=>?_;refine v2.ld (c:=ab .i64) (x:=n) ?_;refine ah (λh=>?_) (λh=>?_)
 ·simp at h;omega
 ·exact a c c1 e b (by omega) (by omega) (v1.ext e2) v2 (d.trans e2)
theorem CD {l:Nat}{c c1:Addr}{p:Sl}{n m:Nat}{H:aa}{K:Unit->aa->Prop}(I:Nat->aa->Prop)(D:aa->Prop)(J:0<n)(hm:p.n=m*n)(L:p.n<=p.c)(t:p.n<=1000000)(A:n<=1000000)
  (u:∀k H',I k H'->dM H' c dQ p.v/\dM H' c1 ib (.int .i64 (n:Int))) (B:I 0 H)
  (hs:∀k H',k<m->I k H'->bZ N5 l #[(Sl.mk (p.a.map (·.add (k*n))) n n).v] H' λb g=>if b then I (k+1) g else D g)
  (j:∀H',I m H'->K () H') (C:∀H',D H'->K () H'):DB.sp l c c1 H K:=by
 refine DB.of ?_;unfold DB.vc;refine ar m (λk i H'=>i=((k*n:Nat):Int)/\I k H') ⟨by simp,B⟩ ?_;rintro k i H1 next hk ⟨rfl,a⟩ d
 obtain⟨v,v1⟩:=u k H1 a;refine v.ld (c:=ak) (x:=p) ?_;refine ah (λh=>?_) (λh=>?_)
 ·have f:k<m:=by
   rcases OV k m with q|q
   ·exact q
   ·have e:k=m:=by omega
    subst e;simp at h;omega
  have hle:k*n+n<=p.n:=by
   have:=OL n (Ra f);rw[Pf] at this;omega
  obtain⟨q,w⟩:∃q,q=k*n:=⟨_,rfl⟩;have s:(((k+1)*n:Nat):Int)=((q+n:Nat):Int):=by rw[w,Pf]
  have o:=hs k H1 f a;rw[<-w] at hle o ⊢;refine v1.ld (c:=ab .i64) (x:=(n:Int)) ?_;refine v.ld (c:=ak) (x:=p) ?_;refine⟨by omega,?_⟩;refine v.ld (c:=ak) (x:=p) ?_;have E:N6.wrap ((q:Int)+(if ((p.n - (q:Int).toNat:Nat):Int)<(n:Int) then ((p.n - (q:Int).toNat:Nat):Int) else (n:Int)))=((q+n:Nat):Int):=by
   have:(if ((p.n - (q:Int).toNat:Nat):Int)<(n:Int) then ((p.n - (q:Int).toNat:Nat):Int) else (n:Int))=(n:Int):=by split<;>omega
   rw[this,wrap64 (by omega) (by omega)];omega
  rw[E];refine⟨by omega,by omega,by omega,?_⟩;have F:cA p.a ((q+n:Nat):Int).toNat (q:Int).toNat 1=p.a.map (·.add q):=by
   unfold cA;rw[if_neg (by simp;omega)];simp
  have G:((q+n:Nat):Int).toNat - (q:Int).toNat=n:=by omega
  rw[F,G];refine o.mono λb y z=>?_;cases b with
  |false=>exact C y z
  |true=>
    have r:I (k+1) y:=z;refine(u _ _ r).2.ld (c:=ab .i64) (x:=(n:Int)) ?_;refine d f _ _ ⟨?_,r⟩;rw[s,wrap64 (by omega) (by omega)];omega
 ·have e:k=m:=by
   rcases OV k m with q|q
   ·have:=OL n (Ra q);rw[Pf] at this;simp at h;omega
   ·omega
  subst e;exact j H1 a
theorem Ints.chunk {H:aa}{p:Sl}{b:List Int}(c:Ints .u8 H p b){k n:Nat}(hl:k*n+n<=b.length):Ints .u8 H (Sl.mk (p.a.map (·.add (k*n))) n n) (bI b n k):=by
 refine⟨by simp[bI];omega,?_⟩;intro i v a;unfold bI at a;rw[Vr,List.map_drop] at a;have hi:i<n:=by
  have:=(N7.1 a).1;simp at this;omega
 rw[O2,if_pos hi,PE] at a;obtain⟨ad,e,d⟩:=c.reads _ _ a;exact⟨ad.add (k*n),by rw[e];rfl,by rw[add_add];exact d⟩
structure pW (H0:aa)(B:Nat)(b:List Int)(w:Int)(p:Sl)(r2:Nat)(p1 p2 p3 p4 c c1:Addr)(k:Nat)(H:aa):Prop where
 r2:H[r2]?=some (.deferred (some []))
 v1:dM H p1 ib (.int .i64 w)
 v2:dM H p2 gh (.slice none 0 0)
 v3:dM H p3 Lc (.int .i64 0)
 vc:dM H c dQ p.v
 vc1:dM H c1 ib (.int .i64 (bz w))
 rows:∃s rs,dM H p4 gh (Sl.v s)/\s.n=k/\aO H B s rs (rowsOf b w k)/\∀x∈rs,x.a≠none
 ext:Ext H0 H
 zero:w=0->∀j,j<k->b.getD j 0=0
theorem pW.mod {H0:aa}{B:Nat}{b:List Int}{w:Int}{p:Sl}{r2:Nat}{p1 p2 p3 p4 c c1:Addr}{k:Nat}{F:Nat->Prop}{H H':aa}(h:pW H0 B b w p r2 p1 p2 p3 p4 c c1 k H)(hm:Mod F H H')
  (f:∀b,b<H0.size->¬F b) (a:∀b cs t,H[b]?=some (.cells cs t (0,0))->¬F b) (hd:∀b d,H[b]?=some (.deferred d)->¬F b):pW H0 B b w p r2 p1 p2 p3 p4 c c1 k H':=by
 obtain⟨s,rs,v4,g,ro,nn⟩:=h.rows;refine⟨(hm.same _ ?_ (hd _ _ h.r2)).trans h.r2,h.v1.mod hm (a _ _ _ h.v1.obj),h.v2.mod hm (a _ _ _ h.v2.obj),h.v3.mod hm (a _ _ _ h.v3.obj),h.vc.mod hm (a _ _ _ h.vc.obj),h.vc1.mod hm (a _ _ _ h.vc1.obj),
  ⟨s,rs,v4.mod hm (a _ _ _ v4.obj),g,ro.mod hm (λb e=>?_) (λr i b e=>?_),nn⟩,(h.ext.mod (F:=F).trans hm).ext (λb e=>?_),h.zero⟩
 ·exact(Of.1 h.r2).1
 ·obtain⟨cur,q⟩:=ro.out.obj b e;exact a _ _ _ q
 ·obtain⟨l,hl⟩:=ro.rowAt i;obtain⟨cur,q⟩:=hl.obj b e;exact a _ _ _ q
 ·rcases OV b H0.size with q|q
  ·exact absurd e (f b q)
  ·exact q
theorem pW.set {H0:aa}{B:Nat}{b:List Int}{w:Int}{p:Sl}{r2:Nat}{p1 p2 p3 p4 c c1:Addr}{k l:Nat}{H:aa}{x:Loop}{o:Obj}(h:pW H0 B b w p r2 p1 p2 p3 p4 c c1 k H)(hl:H[l]?=some (.loop x))(f:H0.size<=l):
  pW H0 B b w p r2 p1 p2 p3 p4 c c1 k (H.setIfInBounds l o):=
 h.mod (F:=λb=>b=l) (Mod.setObj rfl) (λb a e=>by omega) (λb cs t a e=>by subst e;rw[hl] at a;cases a) (λb d a e=>by subst e;rw[hl] at a;cases a)
theorem pW.Lt {H0:aa}{B:Nat}{b:List Int}{w:Int}{p:Sl}{r2:Nat}{p1 p2 p3 p4 c c1:Addr}{k:Nat}{H H':aa}(h:pW H0 B b w p r2 p1 p2 p3 p4 c c1 k H)(hm:Ext H H'):pW H0 B b w p r2 p1 p2 p3 p4 c c1 k H':=
 h.mod hm (λ_ _=>id) (λ_ _ _ _=>id) (λ_ _ _=>id)
set_option maxHeartbeats 4000000 in
theorem Dd {p:Sl}{b:List Int}{w:Int}{H:aa}{K:(Sl×Int)->aa->Prop}(hp:Ints .u8 H p b)(hc:p.n<=p.c)(ep:∀x∈b,0<=x/\x<256)(hlen:b.length<=1000000)
  (hK:∀s rs H',aO H' H.size s rs (jm b w)->Ext H H'->(∀x∈rs,x.a≠none)->K (s,pM b w) H'):GN.sp p w H K:=by
 refine GN.of ?_;unfold GN.vc;rw[HQ,Gy];have pn:=hp.len;refine iA λp1 H1 e6 s1 v1 e1=>?_;refine iA λp2 H2 e7 s2 v2 e2=>?_;refine iA λp3 H3 e8 s3 v3 e3=>?_;have cy:=(v1.ext e2).ext e3;have cz:=v2.ext e3;have bd:Ext H H3:=(e1.trans e2).trans e3;refine cy.ld (c:=ab .i64) (x:=w) ?_
 -- the answer where the width is not one
 have bad:∀H4:aa,dM H4 p2 gh (.slice none 0 0)->dM H4 p3 Lc (.int .i64 60)->Ext H H4->eG b w=false->
   ld ak H4 p2 λres=>ld (ab .i64) H4 p3 λO=>K (res,O) H4:=by
  intro H4 q2 Z e hf;refine q2.ld (c:=ak) (x:=Sl.mk none 0 0) ?_;refine Z.ld (c:=ab .i64) (x:=60) ?_;have:=hK (Sl.mk none 0 0) [] H4 (by unfold jm;rw[hf];exact aO.nil _ _) e (by simp);unfold pM at this;rw[hf] at this;exact this
 have bD:eG b w=false->st H3 p2 (.slice none 0 0) λH5=>st H5 p3 (.int .i64 60) λH6=>ld ak H6 p2 λres=>ld (ab .i64) H6 p3 λO=>K (res,O) H6:=by
  intro hf;refine cz.st rfl λH5 q2 m5 s5=>?_;refine(v3.mod m5 (by omega)).st rfl λH6 Z m6 s6=>?_;exact bad H6 (q2.mod m6 (by omega)) Z (((bd.mod (F:=λb=>b=p2.block\/b=p3.block).trans (m5.mono (λb _ h=>.inl h))).trans (m6.mono (λb _ h=>.inr h))).ext (λb a=>by omega)) hf
 refine tq ?_;refine ah (λh=>bD (by unfold eG;simp at h;simp[h])) (λh=>?_);have h':bz w≠0:=by simpa using h
 have fa:=fu w;refine⟨h',ah (λh2=>bD (by unfold eG;rw[pn] at h2;simp at h2;simp[h2])) (λh2=>?_)⟩;have cB:Pq (b.length:Int) (bz w)=0:=by rw[pn] at h2;simpa using h2
 obtain⟨n,hn⟩:∃n:Nat,bz w=(n:Int):=⟨(bz w).toNat,by omega⟩;have bl:0<n:=by omega
 obtain⟨m,hm⟩:∃m,m=b.length/n:=⟨_,rfl⟩;have hmul:b.length=m*n:=by rw[hm];exact tmod_zero bl (by rw[<-hn];exact cB)
 have er:0<=w/\w<=16:=by
  unfold bz at h';split at h'
  ·exact absurd rfl h'
  ·omega
 have c0:w≠0->n=8*w.toNat:=by
  intro hw;unfold bz at hn;rw[if_neg (by omega),if_neg hw] at hn;omega
 have c3:w=0->n=1:=by intro hw;unfold bz at hn;rw[hw] at hn;simp at hn;omega
 have hdiv:m<=b.length:=by rw[hm];exact Tc _ _
 have ediv:N6.wrap (OX (p.n:Int) (bz w))=((m:Nat):Int):=by
  rw[pn,hn,<-Wm,<-hm,wrap64 (by omega) (by omega)]
 refine⟨h',?_⟩;rw[ediv];refine yF.make (base:=H.size) (by omega) (by omega) (by omega) (by omega) bd.size ?_;intro sl H9 n9 o9 e9 b9 _;refine iA λp4 fb ff fj v4 et=>?_;refine v4.st rfl λc4 eu m11 fo=>?_;have bM:Ext H9 c4:=(et.mod (F:=λb=>b=p4.block).trans m11).ext (λb a=>by omega);have U:Ext H c4:=(bd.trans e9).trans bM;refine Fe (by omega) λc c1 bn fv e5 fy vc vc1 X=>?_;have P:cP N5 DB.no=true:=by kernel_rfl
 refine⟨DB.no,#[.pointer (some c),.pointer (some c1)],rfl,P,λrec d=>?_⟩;obtain⟨l,hl⟩:∃l,l=bn.size+1:=⟨_,rfl⟩;obtain⟨r2,c5⟩:∃r,r=bn.size:=⟨_,rfl⟩;rw[<-hl] at d ⊢;rw[<-c5];obtain⟨A,V⟩:∃A:aa,A=(bn.push (.deferred (some []))).push (.loop (rec .ready none)):=⟨_,rfl⟩;rw[<-V];have af:Ext bn A:=by rw[V];exact(Mod.push _ _ _).trans (Mod.push _ _ _)
 have dc:A[l]?=some (.loop (rec .ready none)):=by rw[V,hl,QP,if_pos (by simp)]
 have dk:A[r2]?=some (.deferred (some [])):=by rw[V,c5];simp[QP]
 have b5:H.size<=l:=by have:=(U.trans X).size;omega
 have dm:p2.block≠p4.block:=by have:=e9.size;omega
 have bO:Ext H9 A:=(bM.trans X).trans af;have an:Ext H3 A:=e9.trans bO
 -- between the rounds
 let I:Nat->aa->Prop:=λk H'=>H'[l]?=some (.loop (rec .ready none))/\pW H H.size b w p r2 p1 p2 p3 p4 c c1 k H'
 let D:aa->Prop:=λH'=>H'[l]?=some (.loop (rec .done (some .ret)))/\H'[r2]?=some (.deferred (some []))/\dM H' p2 gh (.slice none 0 0)/\dM H' p3 Lc (.int .i64 60)/\Ext H H'/\eG b w=false
 refine Spec.mono (R:=λv H'=>∃x:Unit,v=(aR []).enc x/\nK l rec H' _ _ _) (CD (l:=l) (c:=c) (c1:=c1) (p:=p) (n:=n) (m:=m) (H:=A) (K:=λ_ H'=>nK l rec H' _ _ _) I D bl (by rw[pn];exact hmul) hc (by omega) (by omega) ?_ ?_ ?_ ?_ ?_) (λv H' ⟨x,_,h⟩=>h)
 ·clear d;rintro k H' ⟨_,g⟩;exact⟨g.vc,by have:=g.vc1;rw[hn] at this;exact this⟩
 ·clear d;refine⟨dc,dk,cy.ext an,cz.ext an,v3.ext an,vc.ext af,vc1.ext af,⟨sl,[],(eu.ext X).ext af,by simpa using n9,⟨by simpa using o9.ext bO,rfl,by simp,by simp⟩,by simp⟩,(U.trans X).trans af,λ_ j hj=>by omega⟩
 ·-- a round
  rintro k H' hk ⟨y,g⟩;refine d [(Sl.mk (p.a.map (·.add (k*n))) n n).v] H' _ y ?_;clear d;have dn:k*n+n<=b.length:=by
   have:=OL n (Ra hk);rw[Pf] at this;omega
  have ev:k<b.length:=by have:=TX k bl;omega
  have ew:=lP hmul hk;show _/\_;refine⟨y,?_⟩;obtain⟨Hb,b6⟩:∃Hb:aa,Hb=H'.setIfInBounds l (.loop (rec .busy none)):=⟨_,rfl⟩;rw[<-b6];have u:pW H H.size b w p r2 p1 p2 p3 p4 c c1 k Hb:=by rw[b6];exact g.set y b5
  have Y:Hb[l]?=some (.loop (rec .busy none)):=by rw[b6];exact gk y
  refine⟨λ_ dA=>Hb=dA/\(w=0->b.getD k 0=0),?_,?_⟩
  ·refine u.v1.ld (c:=ab .i64) (x:=w) ?_;refine ah (λh4=>?_) (λh4=>⟨rfl,λhw=>by simp at h4;exact absurd hw h4⟩);have hw:w=0:=by simpa using h4
   have ey:=(hp.ext u.ext).chunk dn;refine jy ey (i:=0) (j:=0) rfl (by omega) λad q=>?_;rw[oR bl,c3 hw];have e0:k*1+0=k:=by omega
   rw[e0];refine ah (λh5=>?_) (λh5=>⟨rfl,λ_=>by simpa using h5⟩);have hf:=vm hw ev (by simpa using h5);refine u.v2.st rfl λfA q2 m15 fB=>?_;have B:p3.block≠p2.block:=by omega
   refine(u.v3.mod m15 B).st rfl λQ Z m16 fE=>?_;have mm:Mod (λb=>b=p2.block\/b=p3.block) Hb Q:=(m15.mono (λb _ h=>.inl h)).trans (m16.mono (λb _ h=>.inr h));have eA:l<Hb.size:=(Of.1 Y).1;have b7:Q[l]?=some (.loop (rec .busy none)):=(mm.same l eA (by
    rintro(e|e)
    ·have:=u.v2.obj;rw[<-e,Y] at this;cases this
    ·have:=u.v3.obj;rw[<-e,Y] at this;cases this)).trans Y
   have bs:r2<Hb.size:=(Of.1 u.r2).1;have b0:Q[r2]?=some (.deferred (some [])):=(mm.same r2 bs (by
    rintro(e|e)
    ·have:=u.v2.obj;rw[<-e,u.r2] at this;cases this
    ·have:=u.v3.obj;rw[<-e,u.r2] at this;cases this)).trans u.r2
   refine⟨b7,?_⟩;show D _;have m17:Mod (λb=>b=l) Q (Q.setIfInBounds l (.loop (rec .done (some .ret)))):=Mod.setObj rfl;have C:∀q:Addr,∀t v,dM Q q t v->q.block≠l:=λq t v hv e=>by have:=hv.obj;rw[e,b7] at this;cases this
   have E:=q2.mod m16 (Ne.symm B);refine⟨gk b7,(m17.same r2 (Of.1 b0).1 (by omega)).trans b0,E.mod m17 (C _ _ _ E),Z.mod m17 (C _ _ _ Z),?_,hf⟩;have eB:Ext H Q:=(u.ext.mod (F:=λb=>b=p2.block\/b=p3.block).trans mm).ext (λb a=>by omega);exact(eB.mod (F:=λb=>b=l).trans m17).ext (λb a=>by omega)
  ·rintro _ dA ⟨rfl,hzero⟩;refine u.v1.ld (c:=ab .i64) (x:=w) ?_;refine oc.make (base:=H.size) er.1 (Int.le_refl _) (by omega) (by omega) u.ext.size ?_;intro bx ga n17 eC dB dD dT;have g17:=u.Lt dB;refine g17.v1.ld (c:=ab .i64) (x:=w) ?_;rw[wrap64 (x:=8*w) (by omega) (by omega)];refine ar (8*w.toNat) (λi z H'=>z=(i:Int)/\aM H' H.size gS 1 bx ((rowOf ((bI b n k).take i) w.toNat).map (On .u64))/\Ext Hb H') ⟨rfl,by simpa[Cd] using eC,dB⟩ ?_;rintro i z bA next hi ⟨rfl,bB,o⟩ cb
   refine ah (λh6=>?_) (λh6=>?_)
   ·have ea:i<8*w.toNat:=by simp at h6;omega
    have hw:w≠0:=by omega
    have gf:=c0 hw;have ei:N6.wrap (OX (i:Int) 8)=((i/8:Nat):Int):=by
     rw[show (8:Int)=((8:Nat):Int) from rfl,<-Wm,wrap64 (by omega) (by omega)]
    rw[ei];have hq:i/8<w.toNat:=by omega
    refine bB.ints.ld (by omega) (by rw[fO];omega) λgg G=>?_;refine((hp.ext (u.ext.trans o)).chunk dn).ld (by omega) (by omega) λgj q2=>?_;simp only[Od];have hr:=ir ((((bI b n k).take i).drop (8*(i/8))).take 8);have hx:(rowOf ((bI b n k).take i) w.toNat).getD (i/8) 0=bY ((((bI b n k).take i).drop (8*(i/8))).take 8):=by
     simp only[rowOf,Pn,Oi,TM hq,Q7,Rj]
    have eb:0<=(bI b n k).getD i 0/\(bI b n k).getD i 0<256:=by
     have ec:i<(bI b n k).length:=by omega
     simp only[Pn,N8 ec,Rj];exact ep _ (List.mem_of_mem_drop (Pm (OP ec)))
    rw[FF (by rw[hx];exact hr.1) (by rw[hx];exact hr.2) eb.1 eb.2];refine bB.st (by omega) (by rw[n17];omega) rfl λgp ed m19 gq=>?_;refine cb ea _ _ ⟨by rw[aD i (by omega)],?_,(o.mod (F:=ag bx).trans m19).ext dD⟩;rw[<-Ao (by omega) (by omega)];simp only[Od,<-List.map_set] at ed;exact ed
   ·have ea:i=8*w.toNat:=by simp at h6;omega
    have ck:rowOf ((bI b n k).take i) w.toNat=rowOf (bI b n k) w.toNat:=by
     by_cases hw:w=0
     ·rw[hw];rfl
     ·rw[Og (by rw[ew,c0 hw];omega)]
    rw[ck] at bB;have g18:=u.Lt o;obtain⟨s,rs,J,eD,ro,nn⟩:=u.rows;have L:=ro.ext o;refine(J.ext o).ld (c:=ak) (x:=s) ?_;refine L.push bB (λr' eE x hx eI=>?_) (by omega) (u.ext.trans o).size ?_
    ·have h1:=(ro.block.2 r' eE x eI).2;have h2:=dD x hx;omega
    intro s7 ee n21 e4 m21;have a1:¬ag s p4.block:=λa=>by
     obtain⟨cur,q⟩:=L.out.obj _ a;exact absurd (aF q (J.ext o).obj) (by decide)
    refine((J.ext o).mod m21 a1).st rfl λbC v22 m22 gw=>?_;have eg:∀b,ag s b->H.size<=b:=λb a=>(ro.block.1 b a).1;have a6:bA[l]?=some (.loop (rec .busy none)):=(o.same l (Of.1 Y).1 id).trans Y;have a7:ee[l]?=some (.loop (rec .busy none)):=(m21.same l (Of.1 a6).1 (λa=>by
     obtain⟨cur,q⟩:=L.out.obj _ a;rw[a6] at q;cases q)).trans a6
    have a8:bC[l]?=some (.loop (rec .busy none)):=(m22.same l (Of.1 a7).1 (λa=>by
     have q:=(J.ext o).mod m21 a1;have:=q.obj;rw[<-a,a7] at this;cases this)).trans a7
    refine⟨a8,?_⟩;show I (k+1) _;have mm:Mod (λb=>ag s b\/b=p4.block) bA bC:=(m21.mono (λb _ h=>.inl h)).trans (m22.mono (λb _ h=>.inr h));have keep:∀{q:Addr} {t:TypeId} {v:Value},dM bA q t v->t≠ez->q.block≠p4.block->dM bC q t v:=by
     intro q t v hv ht hq;refine hv.mod mm ?_;rintro(a|a)
     ·obtain⟨cur,G⟩:=L.out.obj _ a;have:=hv.obj;rw[this] at G;simp at G;exact ht G.2
     ·exact hq a
    have g22:pW H H.size b w p r2 p1 p2 p3 p4 c c1 (k+1) bC:=by
     have ej:r2<bA.size:=(Of.1 g18.r2).1;refine⟨(mm.same r2 ej ?_).trans g18.r2,keep g18.v1 (by decide) (by have:=e9.size;omega),keep g18.v2 (by decide) dm,keep g18.v3 (by decide) (by have:=e9.size;omega),keep g18.vc (by decide) (by have:=e9.size;omega),keep g18.vc1 (by decide) (by have:=e9.size;omega),⟨s7,rs++[bx],v22,by omega,?_,λx hx=>by rcases Oe.1 hx with q|q;exact nn x q;simp at q;subst q;exact dT⟩,?_,?_⟩
     ·rintro(a|a)
      ·obtain⟨cur,G⟩:=L.out.obj _ a;rw[g18.r2] at G;cases G
      ·have:=(J.ext o).obj;rw[<-a,g18.r2] at this;cases this
     ·rw[qp,hn];have bb:aO ee H.size s7 (rs++[bx]) (rowsOf b w k++[rowOf (bI b n k) w.toNat]):=e4;have v21:=(J.ext o).mod m21 a1;refine bb.mod m22 (λb a e=>?_) (λr hr b a e=>?_)
      ·obtain⟨cur,G⟩:=bb.out.obj _ a;rw[e] at G;exact absurd (aF G v21.obj) (by decide)
      ·obtain⟨lx,cm⟩:=bb.rowAt hr;obtain⟨cur,G⟩:=cm.obj _ a;rw[e] at G;exact absurd (aF G v21.obj) (by decide)
     ·exact((Ext.mod (F:=λb=>ag s b\/b=p4.block) (u.ext.trans o)).trans mm).ext (λb a=>by
       rcases a with a|a
       ·exact eg b a
       ·have:=(bd.trans e9).size;omega)
     ·intro hw j hj;rcases OV j k with q|q
      ·exact u.zero hw j q
      ·have:j=k:=by omega
       rw[this];exact hzero hw
    exact⟨gk a8,g22.set a8 b5⟩
 ·-- all rounds are done
  clear d;rintro H' ⟨y,g⟩;refine⟨.ready,none,y,rfl,?_⟩;obtain⟨f,M⟩:∃f:aa,f=H'.setIfInBounds l (.loop (rec .exhausted none)):=⟨_,rfl⟩;show ld _ _ _ _;rw[<-M];have g2:pW H H.size b w p r2 p1 p2 p3 p4 c c1 m f:=by rw[M];exact g.set y b5
  obtain⟨s,rs,J,eD,ro,nn⟩:=g2.rows;refine J.ld (c:=ak) (x:=s) ?_;refine g2.v2.st rfl λgx q2 m24 gy=>?_;have B:p3.block≠p2.block:=by omega
  refine(g2.v3.mod m24 B).st rfl λS Z ek gz=>?_;have mm:Mod (λb=>b=p2.block\/b=p3.block) f S:=(m24.mono (λb _ h=>.inl h)).trans (ek.mono (λb _ h=>.inr h));have hr:r2<f.size:=(Of.1 g2.r2).1;have b1:S[r2]?=some (.deferred (some [])):=(mm.same r2 hr (by
   rintro(e|e)
   ·have:=g2.v2.obj;rw[<-e,g2.r2] at this;cases this
   ·have:=g2.v3.obj;rw[<-e,g2.r2] at this;cases this)).trans g2.r2
  refine⟨b1,?_⟩;have cx:Mod (λb=>b=r2) S (S.setIfInBounds r2 (.deferred none)):=Mod.setObj rfl;have C:∀{q:Addr} {t:TypeId} {v:Value},dM S q t v->¬q.block=r2:=λhv e=>by have:=hv.obj;rw[e,b1] at this;cases this
  have E:=q2.mod ek (Ne.symm B);refine(E.mod cx (C E)).ld (c:=ak) (x:=s) ?_;refine(Z.mod cx (C Z)).ld (c:=ab .i64) (x:=0) ?_;have en:eG b w=true:=rm h' cB (λhw j hj=>g2.zero hw j (by rw[hm,c3 hw];simpa using hj));have b2:Mod (λb=>b=p2.block\/b=p3.block\/b=r2) f (S.setIfInBounds r2 (.deferred none)):=(mm.mono (λb _ h=>by rcases h with h|h;exact .inl h;exact .inr (.inl h))).trans (cx.mono (λb _ h=>.inr (.inr h)));have W:∀b cs t,f[b]?=some (.cells cs t (0,0))->t≠gh->t≠Lc->¬(b=p2.block\/b=p3.block\/b=r2):=by
   rintro b cs t a h1 h2 (e|e|e)
   ·have:=g2.v2.obj;rw[<-e,a] at this;simp at this;exact h1 this.2
   ·have:=g2.v3.obj;rw[<-e,a] at this;simp at this;exact h2 this.2
   ·rw[e,g2.r2] at a;cases a
  have:=hK s rs (S.setIfInBounds r2 (.deferred none)) (by
   unfold jm;rw[en,if_pos rfl,hn];simp only[Od];rw[<-hm];refine ro.mod b2 (λb a=>?_) (λr hr b a=>?_)
   ·obtain⟨cur,G⟩:=ro.out.obj _ a;exact W _ _ _ G (by decide) (by decide)
   ·obtain⟨lx,cm⟩:=ro.rowAt hr;obtain⟨cur,G⟩:=cm.obj _ a;exact W _ _ _ G (by decide) (by decide)) ((g2.ext.mod (F:=λb=>b=p2.block\/b=p3.block\/b=r2).trans b2).ext (λb a=>by
     have:=(U.trans X).size;omega)) nn
  unfold pM at this;rw[en] at this;exact this
 ·-- left by a return
  clear d;rintro H' ⟨y,bs,q2,Z,e,hf⟩;refine⟨.done,some .ret,y,rfl,?_⟩;obtain⟨f,M⟩:∃f:aa,f=H'.setIfInBounds l (.loop (rec .exhausted (some .ret))):=⟨_,rfl⟩;show _/\_;rw[<-M];have m1:Mod (λb=>b=l) H' f:=by rw[M];exact Mod.setObj rfl
  have C:∀{q:Addr} {t:TypeId} {v:Value},dM H' q t v->¬q.block=l:=λhv e=>by have:=hv.obj;rw[e,y] at this;cases this
  have b3:f[r2]?=some (.deferred (some [])):=(m1.same r2 (Of.1 bs).1 (by omega)).trans bs;refine⟨b3,?_⟩;have m2:Mod (λb=>b=r2) f (f.setIfInBounds r2 (.deferred none)):=Mod.setObj rfl;have b4:∀{q:Addr} {t:TypeId} {v:Value},dM f q t v->¬q.block=r2:=λhv e=>by have:=hv.obj;rw[e,b3] at this;cases this
  have E:=q2.mod m1 (C q2);have eo:=Z.mod m1 (C Z);exact bad _ (E.mod m2 (b4 E)) (eo.mod m2 (b4 eo)) (((e.mod (F:=λb=>b=l\/b=r2).trans (m1.mono (λb _ h=>.inl h))).trans (m2.mono (λb _ h=>.inr h))).ext (λb a=>by
   have:=(U.trans X).size;omega)) hf
theorem u4 {p:Sl}{b:List Int}{w:Int}{H:aa}{K:(Sl×Int)->aa->Prop}(c:Ints .u8 H p b)(d:p.n<=p.c)(a:∀x∈b,0<=x/\x<256)(hlen:b.length<=1000000)
  (f:∀s rs H',aO H' H.size s rs (jm b w)->Ext H H'->K (s,pM b w) H'):GN.sp p w H K:=Dd c d a hlen λs rs H' r e _=>f s rs H' r e
theorem x8 (n:Int)(k:Nat):0<=vf n k/\vf n k<256:=by
 unfold vf;rw[Zf];omega
theorem kz (l:List Int):∀x∈eL l,0<=x/\x<256:=by
 intro x a;unfold eL at a;split at a
 ·simp at a;omega
 ·obtain⟨n,_,b⟩:=List.mem_flatMap.1 a;obtain⟨k,_,hk⟩:=Ol.1 b;rw[<-hk];exact x8 n k
def cO (l:List Int):List UInt8:=l.map λx=>OQ x.toNat
@[simp] theorem kC (b:List UInt8):(eH b).length=b.length:=by simp[eH]
@[simp] theorem cd (b:List Int):(cO b).length=b.length:=by simp[cO]
theorem zr {l:List Int}(h:∀x∈l,0<=x/\x<256):eH (cO l)=l:=by
 unfold eH cO;rw[Py]
 conv=>rhs;rw[<-List.map_id l]
 refine QQ λx c=>?_;obtain⟨a,b⟩:=h x c;simp only[Function.comp,UInt8.toNat_ofNat',id];omega
structure Rb where
 name:ByteArray
 width:Int
 wrong:Int
 closed:Bool
def Rb.ready (b:Rb):Int:=if b.wrong≠0 then b.wrong else if b.closed then 2 else 0
def Rb.cr (b:Rb)(e:Int):Rb:=if e≠0 then {b with wrong:=e} else b
structure RW where
 b:Rb
 wait:List UInt8
 n:Nat
 last:List Int
 rows:Nat
def RW.out (w:RW)(p:Pl):Pl×RW×Int:=
 if w.n=0 then (p,w,0)
 else ((p.more w.b.name 1 w.wait).1,{w with b:=w.b.cr (p.more w.b.name 1 w.wait).2,wait:=[],n:=0},(p.more w.b.name 1 w.wait).2)
def vS (n:ByteArray)(w:Int):RW:=⟨⟨n,w,0,false⟩,[],0,[],0⟩
def bj (p:Pl)(n:ByteArray)(w:Int):Pl×Option RW×Int:=
 if aH w=0 then (p,none,60)
 else if (p.d.create n).2≠0 then (p.bE (p.d.create n).1,none,(p.d.create n).2)
 else if ((p.bE (p.d.create n).1).more n 0 []).2≠0 then (((p.bE (p.d.create n).1).more n 0 []).1,none,((p.bE (p.d.create n).1).more n 0 []).2)
 else (((p.bE (p.d.create n).1).more n 0 []).1,some (vS n w),0)
def RW.push (w:RW)(l:List Int):RW:={w with wait:=w.wait++cO (eL l),n:=w.n+1,last:=l,rows:=w.rows+1}
def RW.add (w:RW)(p:Pl)(l:List Int):Pl×RW×Int:=
 if w.b.ready≠0 then (p,w,w.b.ready)
 else if (l.length:Int)≠w.b.width then (p,w,60)
 else if 0<w.rows/\aT l w.last<=0 then (p,w,70)
 else if ((w.n+1:Nat):Int)<aH w.b.width then (p,w.push l,0)
 else (w.push l).out p
def eS (width:Int)(rows:Nat):List UInt8:=OQ width.toNat::cO (eL [(rows:Int)])
def RW.head (w:RW)(p:Pl):Pl×Int:=
 if (p.bt w.b.name 0).2.2≠0 then ((p.bt w.b.name 0).1,(p.bt w.b.name 0).2.2)
 else if (Pl.leave ((p.bt w.b.name 0).1.set (p.bt w.b.name 0).2.1 2 (eS w.b.width w.rows)) (p.bt w.b.name 0).2.1).2≠0 then Pl.leave ((p.bt w.b.name 0).1.set (p.bt w.b.name 0).2.1 2 (eS w.b.width w.rows)) (p.bt w.b.name 0).2.1
 else (Pl.leave ((p.bt w.b.name 0).1.set (p.bt w.b.name 0).2.1 2 (eS w.b.width w.rows)) (p.bt w.b.name 0).2.1).1.flush w.b.name
def RW.stop (w:RW):RW:={w with b:={w.b with closed:=true}}
def RW.ends (w:RW)(p:Pl):Pl×RW×Nat×Int:=
 if (w.head p).2≠0 then ((w.head p).1,{w with b:=w.b.cr (w.head p).2},0,(w.head p).2) else ((w.head p).1,w.stop,w.rows,0)
def RW.close (w:RW)(p:Pl):Pl×RW×Nat×Int:=
 if w.b.ready≠0 then (p,w,0,w.b.ready)
 else if (w.out p).2.2≠0 then ((w.out p).1,(w.out p).2.1,0,(w.out p).2.2)
 else (w.out p).2.1.ends (w.out p).1
structure RR where
 b:Rb
 rows:Nat
 at_:Nat
 page:Option Nat
 ins:List (List Int)
def Rb.room (b:Rb):Nat:=(aH b.width).toNat
def de (n room:Nat):Nat:=(n+room - 1)/room
def rnOpen (p:Pl)(n:ByteArray)(w:Int):Pl×Option RR×Int:=
 if aH w=0 then (p,none,60)
 else if (p.look n 0).2.2.2≠0 then ((p.look n 0).1,none,(p.look n 0).2.2.2)
 else if ¬((p.look n 0).2.1=2/\(p.look n 0).2.2.1.length=9/\(((p.look n 0).2.2.1.getD 0 0).toNat:Int)=w) then ((p.look n 0).1,none,280)
 else if ((p.look n 0).1.d.len n).2≠0 then ((p.look n 0).1,none,((p.look n 0).1.d.len n).2)
 else if bY (eH ((p.look n 0).2.2.1.drop 1))<=528482304/\((p.look n 0).1.d.len n).1=1+de (bY (eH ((p.look n 0).2.2.1.drop 1))).toNat (aH w).toNat then
  ((p.look n 0).1,some ⟨⟨n,w,0,false⟩,(bY (eH ((p.look n 0).2.2.1.drop 1))).toNat,0,none,[]⟩,0)
 else ((p.look n 0).1,none,280)
def RR.fits (r:RR)(k:Nat)(kind:UInt8)(b:List UInt8):Bool:=
 kind==1&&eG (eH b) r.b.width&&decide ((jm (eH b) r.b.width).length=min r.b.room (r.rows - k*r.b.room))
def RR.load (r:RR)(p:Pl)(k:Nat):Pl×RR×Int:=
 if r.page=some k then (p,r,0)
 else if (p.look r.b.name ((k:Int)+1)).2.2.2≠0 then ((p.look r.b.name ((k:Int)+1)).1,{r with b:=r.b.cr (p.look r.b.name ((k:Int)+1)).2.2.2},(p.look r.b.name ((k:Int)+1)).2.2.2)
 else if r.fits k (p.look r.b.name ((k:Int)+1)).2.1 (p.look r.b.name ((k:Int)+1)).2.2.1 then
  ((p.look r.b.name ((k:Int)+1)).1,{r with page:=some k,ins:=jm (eH (p.look r.b.name ((k:Int)+1)).2.2.1) r.b.width},0)
 else ((p.look r.b.name ((k:Int)+1)).1,{r with b:=r.b.cr 280},280)
def RR.next (r:RR)(p:Pl):Pl×RR×List Int×Bool×Int:=
 if r.b.ready≠0 then (p,r,[],false,r.b.ready)
 else if r.at_=r.rows then (p,r,[],false,0)
 else if (r.load p (r.at_/r.b.room)).2.2≠0 then ((r.load p (r.at_/r.b.room)).1,(r.load p (r.at_/r.b.room)).2.1,[],false,(r.load p (r.at_/r.b.room)).2.2)
 else ((r.load p (r.at_/r.b.room)).1,{(r.load p (r.at_/r.b.room)).2.1 with at_:=r.at_+1},(r.load p (r.at_/r.b.room)).2.1.ins.getD (r.at_%r.b.room) [],true,0)
def below (low:List Int)(ls:List (List Int)):Nat:=(ls.takeWhile λl=>decide (aT l low<0)).length
def RR.stop (r:RR):RR:={r with b:={r.b with closed:=true}}
section
variable {α:Type}{lt:α->α->Prop}
def Hp (lt:α->α->Prop)(l:List α):Prop:=∀i a b,0<i->l[i]?=some a->l[(i - 1)/2]?=some b->¬lt a b
def E7 (lt:α->α->Prop)(l:List α)(k:Nat):Prop:=
 (∀i a b,0<i->i≠k->l[i]?=some a->l[(i - 1)/2]?=some b->¬lt a b)/\∀i a b,0<k->0<i->(i - 1)/2=k->l[i]?=some a->l[(k - 1)/2]?=some b->¬lt a b
def FK (lt:α->α->Prop)(l:List α)(k:Nat):Prop:=
 (∀i a b,0<i->(i - 1)/2≠k->l[i]?=some a->l[(i - 1)/2]?=some b->¬lt a b)/\∀i a b,0<k->0<i->(i - 1)/2=k->l[i]?=some a->l[(k - 1)/2]?=some b->¬lt a b
structure Ord (lt:α->α->Prop):Prop where
 asym:∀a b,lt a b->¬lt b a
 trans:∀a b c,¬lt a b->¬lt b c->¬lt a c
variable {l:List α}{k:Nat}
theorem w8 {i j:Nat}{a b:α}(hi:i<l.length)(d:j<l.length)(m:Nat):((l.set i b).set j a)[m]?=if m=j then some a else if m=i then some b else l[m]?:=by
 rw[OS];by_cases h1:j=m
 ·subst h1;rw[if_pos rfl,if_pos rfl,if_pos (by simpa using d)]
 ·rw[if_neg h1,if_neg (λq=>h1 q.symm),OS];by_cases c:i=m
  ·subst c;rw[if_pos rfl,if_pos rfl,if_pos hi]
  ·rw[if_neg c,if_neg (λq=>c q.symm)]
theorem swap_perm {i j:Nat}{a b:α}(hi:l[i]?=some a)(c:l[j]?=some b):((l.set i b).set j a).Perm l:=by
 obtain⟨i1,i2⟩:=N7.1 hi;obtain⟨d,e⟩:=N7.1 c;subst i2;subst e;exact List.set_set_perm i1 d
theorem Iv (h:Hp lt l)(x:α):E7 lt (l++[x]) l.length:=by
 refine⟨λi a b e hk c d=>?_,λi a b e h1 f c d=>?_⟩
 ·have hi:i<l.length:=by
   have:=(N7.1 c).1;simp at this;omega
  rw[OB hi] at c;rw[OB (by omega)] at d;exact h i a b e c d
 ·have:=(N7.1 c).1;simp at this;omega
theorem sS (h:E7 lt l k)(hs:∀a b,0<k->l[k]?=some a->l[(k - 1)/2]?=some b->¬lt a b):Hp lt l:=λi a b c d f=>by
 by_cases e:i=k
 ·subst e;exact hs a b c d f
 ·exact h.1 i a b c e d f
theorem zO (o:Ord lt)(h:E7 lt l k){a b:α}(r:0<k)(s:l[k]?=some a)(f:l[(k - 1)/2]?=some b)(hl:lt a b):E7 lt ((l.set k b).set ((k - 1)/2) a) ((k - 1)/2):=by
 have t:=(N7.1 s).1;have u:=(N7.1 f).1;have g:=λm=>w8 (l:=l) (a:=a) (b:=b) t u m;refine⟨λi x y i0 hi c d=>?_,λi x y v i0 hi c d=>?_⟩
 ·rw[g,if_neg hi] at c;rw[g] at d;by_cases e:i=k
  ·subst e;rw[if_pos rfl] at c;cases c;rw[if_pos rfl] at d;cases d;exact o.asym _ _ hl
  ·rw[if_neg e] at c;split at d
   ·rename_i q;cases d;have:=h.1 i x b i0 e c (by rw[q];exact f);exact o.trans _ _ _ this (o.asym _ _ hl)
   ·split at d
    ·rename_i q;cases d;exact h.2 i x b r i0 q c f
    ·exact h.1 i x y i0 e c d
 ·rw[g,if_neg (by omega)] at c;rw[g,if_neg (by omega),if_neg (by omega)] at d;have j:=h.1 ((k - 1)/2) b y v (by omega) f d;by_cases e:i=k
  ·subst e;rw[if_pos rfl] at c;cases c;exact j
  ·rw[if_neg e] at c;exact o.trans _ _ _ (h.1 i x b i0 e c (by rw[hi];exact f)) j
theorem Az (h:FK lt l k)(hs:∀i a b,0<i->(i - 1)/2=k->l[i]?=some a->l[k]?=some b->¬lt a b):Hp lt l:=λi a b c d f=>by
 by_cases e:(i - 1)/2=k
 ·exact hs i a b c e d (by rw[<-e];exact f)
 ·exact h.1 i a b c e d f
theorem Ae (o:Ord lt)(h:FK lt l k){c:Nat}{a x:α}(j:(c - 1)/2=k)(u:0<c)(v:l[k]?=some a)(r:l[c]?=some x)(hl:lt x a)(hd:∀d y,0<d->(d - 1)/2=k->l[d]?=some y->¬lt y x):FK lt ((l.set k x).set c a) c:=by
 have w:=(N7.1 v).1;have A:=(N7.1 r).1;have g:=λm=>w8 (l:=l) (a:=a) (b:=x) w A m;refine⟨λi y z i0 hi f e=>?_,λi y z _ i0 hi f e=>?_⟩
 ·rw[g] at f e;rw[if_neg hi] at e;by_cases s:i=c
  ·subst s;rw[if_pos rfl] at f;cases f;rw[if_pos j] at e;cases e;exact o.asym _ _ hl
  ·rw[if_neg s] at f;by_cases t:i=k
   ·subst t;rw[if_pos rfl] at f;cases f;rw[if_neg (by omega)] at e;exact h.2 c x z i0 u j r e
   ·rw[if_neg t] at f;by_cases q:(i - 1)/2=k
    ·rw[if_pos q] at e;cases e;exact hd i y i0 q f
    ·rw[if_neg q] at e;exact h.1 i y z i0 q f e
 ·rw[g,if_neg (by omega),if_neg (by omega)] at f;rw[g,if_neg (by omega),if_pos j] at e;cases e;exact h.1 i y x i0 (by omega) f (by rw[hi];exact r)
theorem Gz (o:Ord lt)(h:Hp lt l){a:α}(e:l[0]?=some a):∀(i:Nat) (b:α),l[i]?=some b->¬lt b a:=by
 intro i
 induction i using Nat.strongRecOn with
 |ind i f=>
   intro b c;rcases Nat.eq_zero_or_pos i with q|q
   ·subst q;rw[e] at c;cases c;exact λu=>o.asym _ _ u u
   ·have hi:=(N7.1 c).1;have d:l[(i - 1)/2]?=some l[(i - 1)/2]:=N8 (by omega);exact o.trans _ _ _ (h i b _ q c d) (f _ (by omega) _ d)
theorem Li (h:Hp lt l){a z:α}{n:Nat}(e:l.length=n+1)(f:l[0]?=some a)(g:l[n]?=some z):FK lt ((l.set 0 z).take n) 0/\l.Perm (a::(l.set 0 z).take n):=by
 refine⟨⟨λi x y i0 hi c d=>?_,λi x y j=>absurd j (Vs _)⟩,?_⟩
 ·rw[O2] at c d;split at c
  ·split at d
   ·rw[OS,if_neg (by omega)] at c;rw[OS,if_neg (λq=>hi q.symm)] at d;exact h i x y i0 c d
   ·cases d
  ·cases c
 ·cases l with
  |nil=>simp at e
  |cons b t=>
    simp at f e;subst f;rw[List.set_cons_zero];cases n with
    |zero=>
      have:t=[]:=Oy e;subst this;exact .refl _
    |succ n=>
      refine .cons _ ?_;rw[Po] at g;obtain⟨h1,m⟩:=N7.1 g;rw[List.take_succ_cons];have:t=t.take n++[z]:=by
       have:=List.take_append_getElem h1;rw[m,Og (i:=n+1) (by omega)] at this;exact this.symm
      conv=>lhs;rw[this]
      exact List.perm_append_singleton _ _
end
open Go.MapKept
theorem Em {P:Program}{g:FuncId}{a:Array Value}{args:List Value}{H:aa}{K:Bool->aa->Prop}(arr:Array Value)(b:(args++a.toList).toArray=arr)(c:cP P g=true)(h:ai ay P g arr H K):yv P (.func (.func g) #[] a) args H K:=by
 unfold yv;simp only[c,cond_true];subst b;simpa using h
section
variable {P:Program}{t kt et:TypeId}{d:TypeDesc}{H:aa}{r:Nat}{es:Array MapEntry}{clk:Nat}{k:Value}
end
end Go.Proofs.YtmkbhnholcaghaaGreatDoor
namespace Go.Proofs.YtmkbhnholcaghaaGreatDoor
open Go.ChangeShapes Go.WideShapes Go.ChangeAt Go.RowKit
end Go.Proofs.YtmkbhnholcaghaaGreatDoor
namespace Go.Proofs.YtmkbhnholcaghaaGreatDoor
theorem eW:∀{a b c:List Int},aT a b<0->aT b c<0->aT a c<0
 |[],[],_,h,_=>by simp[aT] at h
 |[],_::_,[],_,h=>by simp[aT] at h
 |[],_::_,_::_,_,_=>by simp[aT]
 |_::_,[],_,h,_=>by simp[aT] at h
 |_::_,_::_,[],_,h=>by simp[aT] at h
 |x::a,y::b,z::c,h1,e=>by
   simp only[aT] at h1 e ⊢;have f:=@eW a b c;split at h1
   ·split at e
    ·rw[if_pos (by omega)];decide
    ·split at e
     ·omega
     ·rw[if_pos (by omega)];decide
   ·split at h1
    ·omega
    ·split at e
     ·rw[if_pos (by omega)];decide
     ·split at e
      ·omega
      ·rw[if_neg (by omega),if_neg (by omega)];exact f h1 e
theorem I4 {a b:List Int}:0<aT a b↔aT b a<0:=by rw[bX b a];omega
theorem iu (a:List Int):aT a a=0:=b8.2 rfl
def IU (W:Nat):Nat:=if W=0 then 1 else 8*W
def xT (W:Nat):Nat:=504/IU W
theorem Ha (W:Nat):1<=IU W:=by unfold IU;split<;>omega
theorem lf {W:Nat}(h1:0<=W)(a:W<=16):aH W=((xT W:Nat):Int)/\3<=xT W/\xT W*IU W<=504/\xT W<=504:=by
 have hs:bz W=(IU W:Int):=by
  unfold bz IU;rw[if_neg (by omega)];by_cases h:W=0
  ·rw[if_pos (by omega),if_pos h];rfl
  ·rw[if_neg (by omega),if_neg h];omega
 have b:=Ha W;have hm:IU W<=128:=by unfold IU;split<;>omega
 refine⟨?_,?_,Uw _ _,Tc _ _⟩
 ·unfold aH;rw[if_neg (by rw[hs];omega),hs,R9 (by omega)];exact(Int.natCast_ediv 504 (IU W)).symm
 ·unfold xT;rw[Nat.le_div_iff_mul_le (by omega)];omega
def vR (l:List Int):List UInt8:=cO (eL l)
section
variable {p:Pl}{w:RW}{n:ByteArray}{W:Nat}{rs:List (List Int)}{q i:Nat}
end
open Go.MapKept
structure Hx where
 no:Nat
 sl:Sl
 ptr:Option Addr
 row:List Int
def DA (x:Hx):List Value:=[.int .i64 (x.no:Int),x.sl.v,.pointer x.ptr]
def K0:eJ Hx:=⟨3,DA,λ_=>rfl,λx u hu=>by
 simp[DA] at hu;rcases hu with rfl|rfl|rfl<;>rfl⟩
theorem Mk:qZ N5 Md jU 3 40:=eK (by kernel_rfl)
theorem wm:(zc N5 jU).size=3:=by kernel_rfl
theorem mT:nv N5 jU 3=true:=by kernel_rfl
theorem yW:cP N5 DE.no=true:=by kernel_rfl
def ahead (a b:Hx):Prop:=aT a.row b.row<0\/(aT a.row b.row=0/\a.no<b.no)
instance (a b:Hx):Decidable (ahead a b):=by unfold ahead;exact inferInstance
theorem fk:Ord ahead:=by
 refine⟨λa b h k=>?_,λa b c h k l=>?_⟩
 ·have:=bX a.row b.row;rcases h with h|⟨h,g⟩<;>rcases k with k|⟨k,j⟩<;>omega
 ·unfold ahead at h k l;have s1:=bX a.row b.row;have s2:=bX b.row c.row;have m:=bX a.row c.row;rcases UO (aT a.row b.row) 0 with u|u|u
  ·exact h (.inl u)
  ·rw[b8.1 u] at l m;rcases UO (aT b.row c.row) 0 with v|v|v
   ·exact k (.inl v)
   ·have g:¬a.no<b.no:=λq=>h (.inr ⟨u,q⟩);have j:¬b.no<c.no:=λq=>k (.inr ⟨v,q⟩);rcases l with l|⟨_,l⟩<;>omega
   ·rcases l with l|⟨l,_⟩<;>omega
  ·have e:aT b.row a.row<0:=by omega
   rcases UO (aT b.row c.row) 0 with v|v|v
   ·exact k (.inl v)
   ·rw[<-b8.1 v] at l;rcases l with l|⟨l,_⟩<;>omega
   ·have f:aT c.row b.row<0:=by omega
    have:=eW f e;rcases l with l|⟨l,_⟩<;>omega
section
variable {H:aa}
theorem Ee {a b:Hx}{K:Bool->aa->Prop}(s:Ints .u64 H a.sl a.row)(u:Ints .u64 H b.sl b.row)(hl:a.row.length<1099511627776)(g:∀H',Ext H H'->K (decide (ahead a b)) H'):DE.sp a.no a.sl a.ptr b.no b.sl b.ptr H K:=by
 refine DE.of ?_;unfold DE.vc;refine ax λH1 y m v=>?_;refine ax λo z2 r2 e2=>?_;have e:Ext H o:=v.trans e2;have g:=g o e;refine aj.ld (c:=ak) (i:=1) (x:=a.sl) (m.ext e2) rfl ?_;refine aj.ld (c:=ak) (i:=1) (x:=b.sl) r2 rfl ?_;refine jE (s.ext e) (u.ext e) hl ?_;refine ah (λh=>?_) (λh=>?_)
 ·have h1:¬aT a.row b.row<0:=by simpa using h
  refine ah (λf=>?_) (λf=>?_)
  ·have j:aT a.row b.row=0:=by simpa using f
   refine aj.ld (c:=ab .i64) (i:=0) (x:=(a.no:Int)) (m.ext e2) rfl ?_;refine aj.ld (c:=ab .i64) (i:=0) (x:=(b.no:Int)) r2 rfl ?_;have:decide ((a.no:Int)<(b.no:Int))=decide (ahead a b):=by
    unfold ahead;refine decide_eq_decide.2 ⟨λq=>.inr ⟨j,by omega⟩,λq=>?_⟩;rcases q with q|⟨_,q⟩<;>omega
   rw[this];exact g
  ·have j:¬aT a.row b.row=0:=by simpa using f
   have:false=decide (ahead a b):=(decide_eq_false (λq=>by rcases q with q|⟨q,_⟩;exact h1 q;exact j q)).symm;rw[this];exact g
 ·have h1:aT a.row b.row<0:=by simpa using h
  have:true=decide (ahead a b):=(decide_eq_true (.inl h1)).symm;rw[this];exact g
set_option maxRecDepth 100000 in
theorem ui {a b:Hx}{K:Bool->aa->Prop}(c:Ints .u64 H a.sl a.row)(e:Ints .u64 H b.sl b.row)(hl:a.row.length<1099511627776)(f:∀H',Ext H H'->K (decide (ahead a b)) H'):
  yv N5 (.func (.func DE.no) #[] #[]) [(.agg #[(.int .i64 (a.no:Int)),a.sl.v,(.pointer a.ptr)]),(.agg #[(.int .i64 (b.no:Int)),b.sl.v,(.pointer b.ptr)])] H K:=
 Em #[(.agg #[(.int .i64 (a.no:Int)),a.sl.v,(.pointer a.ptr)]),(.agg #[(.int .i64 (b.no:Int)),b.sl.v,(.pointer b.ptr)])] rfl yW (Ee c e hl f)
def uV:Value:=.func (.func DE.no) #[] #[]
structure nN (H:aa)(kh:Nat)(s:Sl)(L:List Hx):Prop where
 row:aj H kh LJ #[s.v,uV]
 els:az K0 jU H s L
 own:∀x∈L,aM H 0 gS 1 x.sl (x.row.map (On .u64))
 iD:∀x∈L,x.row.length<=16
variable {kh:Nat}{s:Sl}{L:List Hx}
theorem nN.off (h:nN H kh s L):¬ag s kh:=λq=>by
 obtain⟨cur,a⟩:=h.els.obj kh q;exact absurd (aF a h.row) (by decide)
theorem nN.iI {x:Hx}(h:nN H kh s L)(a:aM H 0 gS 1 x.sl (x.row.map (On .u64))):∀b,ag x.sl b->b≠kh/\¬ag s b:=λb c=>by
 refine⟨λq=>?_,λq=>a.apart h.els (by decide) b c q⟩;subst q;obtain⟨cur,e⟩:=a.obj b c;exact absurd (aF e h.row) (by decide)
theorem nN.mod {G:Nat->Prop}{H':aa}(h:nN H kh s L)(m:Mod G H H')(h1:¬G kh)(c:∀b,ag s b->¬G b)(e:∀x∈L,∀b,ag x.sl b->¬G b):nN H' kh s L:=
 ⟨h.row.mod m h1,h.els.mod m c,λx a=>(h.own x a).mod m (e x a),h.iD⟩
theorem nN.ext {H':aa}(h:nN H kh s L)(e:Ext H H'):nN H' kh s L:=h.mod e id (λ_ _=>id) λ_ _ _ _=>id
theorem nN.get (h:nN H kh s L){i:Nat}{x:Hx}(hi:L[i]?=some x):∃ad,s.a=some ad/\i<s.n/\∀{n:Nat} {K:(Int×Sl×Option Addr)->Prop},n=i*3->K ((x.no:Int),x.sl,x.ptr)->c8 (bQ [(ab .i64),ak,av]) 3 H (ad.add n) K:=by
 obtain⟨ad,b⟩:=h.els.rd.addr (by decide) (by have:=(N7.1 hi).1;omega);have a:=az.n h.els (by decide);refine⟨ad,b,by rw[a];exact(N7.1 hi).1,λa c=>h.els.rd.c8 b hi (y:=((x.no:Int),x.sl,x.ptr)) rfl a rfl c⟩
theorem nN.put {y:Hx}(h:nN H kh s L){i:Nat}(hi:i<L.length)(f:aM H 0 gS 1 y.sl (y.row.map (On .u64)))(a:y.row.length<=16){ad:Addr}(g:s.a=some ad){n:Nat}(j:n=i*3){K:aa->Prop}(u:∀H',nN H' kh s (L.set i y)->Mod (ag s) H H'->K H'):
  jk N5 (Ot jU (.pointer (some (ad.add n))) (.agg #[(.int .i64 (y.no:Int)),y.sl.v,(.pointer y.ptr)])) H K:=by
 refine az.LN (y:=y) h.els g hi rfl mT j λH' o m z=>u H' ⟨h.row.mod m h.off,o,λx c=>?_,λx c=>?_⟩ m
 ·rcases PY c with q|q
  ·exact(h.own x q).mod m λb e=>(h.iI (h.own x q) b e).2
  ·subst q;exact f.mod m λb e=>(h.iI f b e).2
 ·rcases PY c with q|q
  ·exact h.iD x q
  ·subst q;exact a
theorem nN.ints {x:Hx}(h:nN H kh s L)(a:x∈L):Ints .u64 H x.sl x.row:=(h.own x a).ints
theorem Mr {k:Nat}(a:0<k)(hk:k<1099511627776):N6.wrap (OX (N6.wrap ((k:Int) - 1)) 2)=(((k - 1)/2:Nat):Int):=by
 rw[wrap64 (x:=(k:Int) - 1) (by omega) (by omega)];have e:(k:Int) - 1=((k - 1:Nat):Int):=by omega
 rw[e,R9 (by omega),wrap64 (by omega) (by omega)];omega
set_option maxRecDepth 100000 in
theorem Ge {x:Hx}{K:Unit->aa->Prop}(h:nN H kh s L)(hp:Hp ahead L)(hx:aM H 0 gS 1 x.sl (x.row.map (On .u64)))(Q:x.row.length<=16)(hl:L.length<=1000000)
  (hK:∀s' g H',nN H' kh s' g->Hp ahead g->g.Perm (L++[x])->Mod (λb=>b=kh\/ag s b) H H'->(∀b,ag s' b->ag s b\/H.size<=b)->K () H'):JJ.sp (aE kh) (x.no:Int) x.sl x.ptr H K:=by
 refine JJ.of ?_;unfold JJ.vc;unfold aE;simp only[al];refine ax λH1 z1 r1 e1=>?_;have h1:=h.ext e1;refine⟨λA=>aj A kh LJ #[s.v,uV],h1.row,?_⟩;refine aj.dw (c:=ak) (i:=0) (x:=s) (cs:=λ_=>_) (λ_ q=>q) (λ_ _=>rfl) ?_;refine aj.c8 (x:=((x.no:Int),x.sl,x.ptr)) r1 rfl rfl ?_;have hlen:L.length+1<=1000001:=by omega
 refine az.AW (E:=K0) (x:=x) Mk h1.els rfl (by omega) (by omega) (λA=>aj A kh LJ #[s.v,uV]) (λA _ e=>h1.row.ext e) λs' H3 o3 g3 _=>?_;have m3:=g3.1;have r3:aj H3 kh LJ #[s.v,uV]:=h1.row.mod m3 h1.off;have lt:=aA h.row;have R:¬ag s' kh:=λq=>by
  rcases g3.2 kh q with u|u
  ·exact h.off u
  ·omega
 refine aj.st r3 (i:=0) (by simp) rfl λH4 r4 m4 z4=>?_;have o4:az K0 jU H4 s' (L++[x]):=o3.mod m4 λb m q=>R (q▸m);have S:=hx.ext e1;have h4:nN H4 kh s' (L++[x]):=by
  refine⟨r4,o4,λy hy=>?_,λy hy=>?_⟩
  ·rcases Oe.1 hy with q|q
   ·have U:=h1.own y q;have o:=h1.iI U;exact(U.mod m3 λb m=>(o b m).2).mod m4 λb m=>(o b m).1
   ·rw[Ow] at q;subst q;have o:=h1.iI S;exact(S.mod m3 λb m=>(o b m).2).mod m4 λb m=>(o b m).1
  ·rcases Oe.1 hy with q|q
   ·exact h.iD y q
   ·rw[Ow] at q;subst q;exact Q
 have af:Mod (λb=>b=kh\/ag s b) H H4:=((Ext.mod e1).trans' m3 λb _ q=>.inr q).trans' m4 λb _ q=>.inl q;have v:∀b,ag s' b->ag s b\/H.size<=b:=λb m=>(g3.2 b m).imp_right λq=>by omega
 refine aj.ld (c:=ak) (i:=0) (x:=s') r4 rfl ?_;have hn:s'.n=L.length+1:=by rw[az.n o4 (by decide)];simp
 have e0:N6.wrap ((s'.n:Int) - 1)=(L.length:Int):=by rw[hn,wrap64 (by omega) (by omega)];omega
 rw[e0];have V:∀b,b<H.size->ag s' b->ag s b:=λb m q=>(v b q).resolve_right (by omega);refine⟨Nat,λk i A=>i=(k:Int)/\∃g,k<g.length/\g.length=L.length+1/\nN A kh s' g/\E7 ahead g k/\g.Perm (L++[x])/\Mod (λb=>b=kh\/ag s b) H A,λk=>k,⟨L.length,rfl,L++[x],by simp,by simp,h4,Iv hp x,.refl _,af⟩,?_⟩;rintro k i A ⟨rfl,g,k1,k2,z,hU,hP,mA⟩;refine ah (λJ=>?_) (λJ=>?_)
 ·have k0:0<k:=by
   have:(k:Int)>0:=by simpa using J
   omega
  rw[Mr k0 (by omega)];obtain⟨a,M⟩:∃a,g[k]?=some a:=⟨_,N8 k1⟩;obtain⟨b,O⟩:∃b,g[(k - 1)/2]?=some b:=⟨_,N8 (by omega)⟩;have X:=N9 M;have mb:=N9 O;obtain⟨ad,f,na,la⟩:=z.get M;obtain⟨a7,F,nb,lb⟩:=z.get O;rw[f] at F;cases F;refine aj.ld (c:=gi) (i:=1) (x:=uV) z.row rfl ?_;refine aj.ld (c:=ak) (i:=0) (x:=s') z.row rfl ?_;refine aX ad f ⟨⟨by omega,by omega⟩,la (by rw[Od]) ?_⟩;refine aj.ld (c:=ak) (i:=0) (x:=s') z.row rfl ?_;refine aX ad f ⟨⟨by omega,by omega⟩,lb (by rw[Od]) ?_⟩;refine ui (z.ints X) (z.ints mb) (by have:=z.iD a X;omega) λB eB=>?_;have j:=z.ext eB;have mB:Mod (λb=>b=kh\/ag s b) H B:=mA.trans' eB λ_ _ q=>q.elim;refine ah (λJ=>?_) (λJ=>?_)
  ·have hn:¬ahead a b:=by simpa using J
   exact hK s' g B j (sS hU λa' b' _ Y Z=>by rw[M] at Y;cases Y;rw[O] at Z;cases Z;exact hn) hP mB v
  ·have an:ahead a b:=by simpa using J
   refine aj.ld (c:=ak) (i:=0) (x:=s') j.row rfl ?_;refine aj.ld (c:=ak) (i:=0) (x:=s') j.row rfl ?_;refine aj.ld (c:=ak) (i:=0) (x:=s') j.row rfl ?_;obtain⟨a8,G,bb,a1⟩:=j.get M;obtain⟨bd,I,bl,a6⟩:=j.get O;rw[f] at G;cases G;rw[f] at I;cases I;refine aX ad f ⟨⟨by omega,by omega⟩,a6 (by rw[Od]) ?_⟩;refine aj.ld (c:=ak) (i:=0) (x:=s') j.row rfl ?_;refine aX ad f ⟨⟨by omega,by omega⟩,a1 (by rw[Od]) ?_⟩;refine aX ad f ⟨⟨by omega,by omega⟩,?_⟩;refine j.put (y:=b) k1 (j.own b mb) (j.iD b mb) f (by rw[Od]) λC hC mC=>?_;refine aX ad f ⟨⟨by omega,by omega⟩,?_⟩;refine hC.put (y:=a) (i:=(k - 1)/2) (by simp;omega) ((j.own a X).mod mC λq hq=>(j.iI (j.own a X) q hq).2) (j.iD a X) f (by rw[Od]) λD hD mD=>?_;refine⟨(k - 1)/2,⟨rfl,_,by simp;omega,by simp;omega,hD,zO fk hU k0 M O an,(swap_perm M O).trans hP,?_⟩,by show (k - 1)/2<k;omega⟩;have own2:∀q,q<H.size->ag s' q->q=kh\/ag s q:=λq hq u=>.inr (V q hq u);exact(mB.trans' mC own2).trans' mD own2
 ·have k0:k=0:=by
   have:¬(k:Int)>0:=by simpa using J
   omega
  subst k0;exact hK s' g A z (sS hU λ_ _ q=>absurd q (Vs _)) hP mA v
theorem Bn {k c:Nat}(hk:k<1099511627776)(a:c<3):N6.wrap (N6.wrap (2*(k:Int))+(c:Int))=((2*k+c:Nat):Int):=by
 rw[wrap64 (x:=2*(k:Int)) (by omega) (by omega),wrap64 (by omega) (by omega)];omega
set_option maxRecDepth 100000 in
theorem zT (a b:Int)(j:Nat)(e:j<2){K:Int->Prop}(c:K (if j=0 then a else b)):rN (ab .i64) N5 (Instr.index MK (.agg #[(.int .i64 a),(.int .i64 b)]) (.int .i64 (j:Int))) K:=by
 refine⟨_,λw=>?_,c⟩;rcases (show j=0\/j=1 by omega) with rfl|rfl<;>rfl
structure ij (L:List Hx)(n k j c:Nat):Prop where
 lt:c=k\/c<n
 at_:c=k\/((c - 1)/2=k/\0<c/\∀a x,L[k]?=some a->L[c]?=some x->ahead x a)
 least:∀d y x,(d=k\/(2*k<d/\d<=2*k+j))->L[d]?=some y->L[c]?=some x->¬ahead y x
theorem MF (x:Hx):¬ahead x x:=λq=>fk.asym _ _ q q
theorem ij.first {n k:Nat}:ij L n k 0 k:=
 ⟨.inl rfl,.inl rfl,λd y x hd b a=>by
  have:d=k:=by omega
  subst this;rw[b] at a;cases a;exact MF _⟩
theorem ij.skip {n k j c:Nat}(h:ij L n k j c)(hs:∀y x,L[2*k+(j+1)]?=some y->L[c]?=some x->¬ahead y x):ij L n k (j+1) c:=
 ⟨h.lt,h.at_,λd y x hd a b=>by
  by_cases e:d=2*k+(j+1)
  ·subst e;exact hs y x a b
  ·exact h.least d y x (by omega) a b⟩
theorem ij.take {n k j c:Nat}{z x0 a:Hx}(h:ij L n k j c)(C:j<2)(B:2*k+(j+1)<n)(m:L[2*k+(j+1)]?=some z)(b:L[c]?=some x0)(o:L[k]?=some a)(hl:ahead z x0):ij L n k (j+1) (2*k+(j+1)):=by
 refine⟨.inr B,.inr ⟨by omega,by omega,λD E f g=>?_⟩,λd y x hd v A=>?_⟩
 ·rw[o] at f;cases f;rw[m] at g;cases g;rcases h.at_ with q|⟨_,_,q⟩
  ·subst q;rw[o] at b;cases b;exact hl
  ·refine Classical.byContradiction λu=>?_;exact fk.trans _ _ _ u (fk.asym _ _ (q _ _ o b)) hl
 ·rw[m] at A;cases A;by_cases e:d=2*k+(j+1)
  ·subst e;rw[m] at v;cases v;exact MF _
  ·exact fk.trans _ _ _ (h.least d y x0 (by omega) v b) (fk.asym _ _ hl)
theorem Ba (a:Option Addr)(c k:Nat):cA a c 0 k=a:=by
 unfold cA;split
 ·rfl
 ·cases a<;>simp[add_zero']
theorem az.cut {α:Type}{E:eJ α}{e:TypeId}{s:Sl}{l:List α}(h:az E e H s l)(hs:0<E.size){n:Nat}(c:n<=l.length):az E e H ⟨s.a,n,s.c⟩ (l.take n):=by
 have b:=az.n h hs;refine⟨by rw[E.bW,OW];show min n l.length*E.size=n*E.size;rw[RQ c],?_⟩;rcases h.2 with ⟨a,e2⟩|⟨g,cap,cur,a,f,j,v,m,o,u⟩
 ·refine .inl ⟨?_,?_⟩
  ·cases s;simp only[Sl.v,Ov] at a ⊢;simp only at e2 b;exact⟨a.1,by omega,a.2.2⟩
  ·show n=0;omega
 ·refine .inr ⟨g,cap,cur,?_,f,j,?_,m,o,?_⟩
  ·cases s;simp only[Sl.v,Ov] at a ⊢;exact⟨a.1,trivial,a.2.2⟩
  ·show n<=cap;omega
  ·show cur.toList.take (n*E.size)=_;rw[<-E.sX,<-u,Rk];congr 1;have:n*E.size<=s.n*E.size:=OL _ (by omega);rw[RQ this]
set_option maxRecDepth 100000 in
set_option maxHeartbeats 1000000 in
theorem Iq {top:Hx}{K:(Int×Sl×Option Addr)->aa->Prop}(h:nN H kh s L)(hp:Hp ahead L)(ht:L[0]?=some top)(hl:L.length<=1000000)
  (hK:∀s' o H',nN H' kh s' o->Hp ahead o->L.Perm (top::o)->Mod (λb=>b=kh\/ag s b) H H'->(∀b,ag s' b->ag s b)->K ((top.no:Int),top.sl,top.ptr) H'):IZ.sp (aE kh) H K:=by
 refine IZ.of ?_;unfold IZ.vc;unfold aE;simp only[al];have h0:=(N7.1 ht).1;obtain⟨n,hn⟩:∃n,L.length=n+1:=⟨L.length - 1,by omega⟩;have bs:s.n=n+1:=by rw[az.n h.els (by decide)];exact hn
 have ew:N6.wrap ((s.n:Int) - 1)=(n:Int):=by rw[bs,wrap64 (by omega) (by omega)];omega
 have a1:=aA h.row;refine ax λH1 z1 r1 e1=>?_;have h1:=h.ext e1;refine⟨λA=>nN A kh s L,h1,?_⟩;refine aj.dw (c:=ak) (i:=0) (x:=s) (cs:=λ_=>_) (λ_ q=>q.row) (λ_ _=>rfl) ?_;obtain⟨ad,G,_,_⟩:=h.get ht;refine aX ad G ⟨⟨by omega,by omega⟩,((top.no:Int),top.sl,top.ptr),λA hA=>?_,?_⟩
 ·have:=hA.els.rd.row G ht;exact this
 refine aj.dw (c:=ak) (i:=0) (x:=s) (cs:=λ_=>_) (λ_ q=>q.row) (λ_ _=>rfl) ?_;refine ax λH2 z2 r2 e2=>?_;refine⟨h1.ext e2,?_⟩;refine aj.iF (cs:=(DA top).toArray) r2 mT wm (λv hv=>K0.one top v (show v∈DA top by simpa using hv)) λH3 r3 m3 z3=>?_;have e3:Ext H H3:=⟨by have:=m3.size;omega,λb g _=>(m3.same b (by omega) (by intro q;have:b=H1.size:=q;omega)).trans ((e2.same b (by omega) id).trans (e1.same b g id))⟩;have X:=h.ext e3;have p3:aj H3 H.size jU (zc N5 jU):=(r1.ext e2).mod m3 (by intro q;have:H.size=H1.size:=q;omega);refine⟨X,?_⟩;refine aj.ld (c:=ak) (i:=0) (x:=s) X.row rfl ?_;refine aj.ld (c:=ak) (i:=0) (x:=s) X.row rfl ?_;simp only[ew,Od,Tz,Ba];obtain⟨z,hz⟩:∃z,L[n]?=some z:=⟨_,N8 (by omega)⟩;have mz:=N9 hz;obtain⟨b3,S,_,lz⟩:=X.get hz;rw[G] at S;cases S;refine aX ad G ⟨⟨by omega,by omega⟩,lz rfl ?_⟩;refine aX ad G ⟨⟨by omega,by omega⟩,?_⟩;refine X.put (y:=z) (i:=0) h0 (X.own z mz) (X.iD z mz) G (by simp) λH4 U m4=>?_;refine aj.ld (c:=ak) (i:=0) (x:=s) U.row rfl ?_;refine⟨⟨by omega,by have:=aM.cap U.els;omega⟩,?_⟩;refine aj.st U.row (i:=0) (by simp) rfl λH5 r5 m5 z5=>?_;have bx:(.slice s.a n s.c:Value)=(Sl.mk s.a n s.c).v:=rfl;rw[bx] at r5;obtain⟨s2,M⟩:∃s2,s2=Sl.mk s.a n s.c:=⟨_,rfl⟩;rw[<-M] at r5;have own2:∀b,ag s2 b->ag s b:=λb g=>by rw[M] at g;exact g
 have a6:az K0 jU H4 s2 ((L.set 0 z).take n):=by
  rw[M];exact az.cut U.els (by decide) (by simp;omega)
 have a7:=U.off;have h5:nN H5 kh s2 ((L.set 0 z).take n):=by
  refine⟨r5,a6.mod m5 λb g q=>a7 (q▸own2 b g),λx hx=>?_,λx hx=>U.iD x (Pm hx)⟩;have a8:=U.own x (Pm hx);exact a8.mod m5 λb g=>(U.iI a8 b g).1
 obtain⟨dn,pm⟩:=Li hp hn ht hz;have bA:Mod (λb=>b=kh\/ag s b) H H5:=((Ext.mod e3).trans' m4 λb _ q=>.inr q).trans' m5 λb _ q=>.inl q;have Y:∀b,b=H.size\/b=H1.size->¬(b=kh\/ag s b):=λb g q=>by
  rcases q with q|q
  ·omega
  ·have:=h.els.lt b q;omega
 have bb:aj H3 H1.size jU (DA top).toArray:=r3;have I:∀{b:Nat} {cs:Array Value},(b=H.size\/b=H1.size)->aj H3 b jU cs->aj H5 b jU cs:=λg r=>
  (r.mod m4 λq=>Y _ g (.inr q)).mod m5 λq=>Y _ g (.inl q)
 have p5:=I (.inl rfl) p3;have t5:=I (.inr rfl) bb;have Z:((L.set 0 z).take n).length=n:=by simp;omega
 refine⟨Nat,λk i A=>i=(k:Int)/\(k=0\/k<n)/\∃o,o.length=n/\nN A kh s2 o/\FK ahead o k/\o.Perm ((L.set 0 z).take n)/\Mod (λb=>b=kh\/ag s b) H A/\aj A H.size jU (zc N5 jU)/\aj A H1.size jU (DA top).toArray,λk=>n+1 - k,
  ⟨0,rfl,.inl rfl,_,Z,h5,dn,.refl _,bA,p5,t5⟩,?_⟩
 rintro k i A ⟨rfl,hk,o,bB,hA,hD,hP,mA,pA,tA⟩;have b2:s2.n=n:=by rw[M]
 refine⟨Nat,λj w B=>w.2=(j:Int)/\j<=2/\∃c:Nat,w.1=(c:Int)/\ij o n k j c/\Ext A B,λj=>2 - j,⟨0,rfl,by omega,k,rfl,.first,.refl _ _⟩,?_⟩;rintro j ⟨c0,j0⟩ B ⟨hj,j2,c,m,V,O⟩;simp only at hj m;subst hj;subst m;have f:=hA.ext O;simp only;refine ah (λm=>?_) (λm=>?_)
 ·have Q:j<2:=by
   have:(j:Int)<2:=by simpa using m
   omega
  refine zT _ _ j Q ?_;have ey:(if j=0 then N6.wrap (N6.wrap (2*(k:Int))+1) else N6.wrap (N6.wrap (2*(k:Int))+2))=((2*k+(j+1):Nat):Int):=by
   have h1:=Bn (k:=k) (c:=1) (by omega) (by decide);have h2:=Bn (k:=k) (c:=2) (by omega) (by decide);rcases (show j=0\/j=1 by omega) with rfl|rfl
   ·rw[if_pos rfl];exact h1
   ·rw[if_neg (by decide)];exact h2
  rw[ey];have ej:N6.wrap ((j:Int)+1)=((j+1:Nat):Int):=aD j (by omega);rw[ej];refine ah (λm=>?_) (λm=>?_)
  ·have hy:2*k+(j+1)<n:=by
    have:((2*k+(j+1):Nat):Int)<(n:Int):=by simpa using m
    omega
   have bd:c<n:=by rcases V.lt with q|q<;>omega
   obtain⟨y,gy⟩:∃y,o[2*k+(j+1)]?=some y:=⟨_,N8 (by omega)⟩;obtain⟨x0,J⟩:∃x0,o[c]?=some x0:=⟨_,N8 (by omega)⟩;obtain⟨a0,ga⟩:∃a0,o[k]?=some a0:=⟨_,N8 (by omega)⟩;have my:=N9 gy;have mx:=N9 J;obtain⟨E,e,_,ly⟩:=f.get gy;obtain⟨bC,u,_,lx⟩:=f.get J;rw[e] at u;cases u;refine aj.ld (c:=gi) (i:=1) (x:=uV) f.row rfl ?_;refine aj.ld (c:=ak) (i:=0) (x:=s2) f.row rfl ?_;refine aX E e ⟨⟨by omega,by omega⟩,ly (by rw[Od]) ?_⟩;refine aj.ld (c:=ak) (i:=0) (x:=s2) f.row rfl ?_;refine aX E e ⟨⟨by omega,by omega⟩,lx (by rw[Od]) ?_⟩;refine ui (f.ints my) (f.ints mx) (by have:=f.iD y my;omega) λC eC=>?_;have bl:=O.trans eC;refine ah (λm=>?_) (λm=>?_)
   ·have a1:ahead y x0:=by simpa using m
    exact⟨j+1,⟨rfl,by omega,_,rfl,V.take Q hy gy J ga a1,bl⟩,by omega⟩
   ·have bD:¬ahead y x0:=by simpa using m
    exact⟨j+1,⟨rfl,by omega,c,rfl,V.skip λy' x' R af=>by rw[gy] at R;cases R;rw[J] at af;cases af;exact bD,bl⟩,by omega⟩
  ·have hy:¬2*k+(j+1)<n:=by
    have:¬((2*k+(j+1):Nat):Int)<(n:Int):=by simpa using m
    omega
   exact⟨j+1,⟨rfl,by omega,c,rfl,V.skip λy' x' R af=>absurd (N7.1 R).1 (by omega),O⟩,by omega⟩
 ·have Q:j=2:=by
   have:¬(j:Int)<2:=by simpa using m
   omega
  subst Q;have mB:Mod (λb=>b=kh\/ag s b) H B:=mA.trans' O λ_ _ q=>q.elim;refine ah (λm=>?_) (λm=>?_)
  ·have ec:c=k:=by
    have:(c:Int)=(k:Int):=by simpa using m
    omega
   subst ec;refine aj.c8 (x:=((top.no:Int),top.sl,top.ptr)) (tA.ext O) rfl rfl ?_;refine aj.iF (cs:=(DA top).toArray) (pA.ext O) mT wm (λv hv=>K0.one top v (show v∈DA top by simpa using hv)) λC rC mC zC=>?_;refine aj.c8 (x:=((top.no:Int),top.sl,top.ptr)) rC rfl rfl ?_;have an:Hp ahead o:=Az hD λi a b i0 hi ha g=>V.least i a b (by omega) ha g;have zH:H.size<=H.size:=Ob _;refine hK s2 o C (f.mod mC (by omega) (λb g q=>by have:=h.els.lt b (own2 b g);have:b=H.size:=q;omega) λx hx b g q=>?_) an (pm.trans (hP.symm.cons _)) ?_ own2
   ·have:b=H.size:=q;subst this;obtain⟨cur,bn⟩:=(f.own x hx).obj _ g;exact absurd (aF bn (pA.ext O)) (by decide)
   ·exact mB.trans' mC λb g q=>by have:b=H.size:=q;omega
  ·have ec:c≠k:=λq=>by subst q;simp at m
   have bd:c<n:=V.lt.resolve_left ec;obtain⟨bM,bO,b0⟩:=V.at_.resolve_left ec;obtain⟨x0,J⟩:∃x0,o[c]?=some x0:=⟨_,N8 (by omega)⟩;obtain⟨a0,ga⟩:∃a0,o[k]?=some a0:=⟨_,N8 (by omega)⟩;have mx:=N9 J;have ma:=N9 ga;obtain⟨E,e,_,la⟩:=f.get ga;obtain⟨bC,u,_,lx⟩:=f.get J;rw[e] at u;cases u;refine aj.ld (c:=ak) (i:=0) (x:=s2) f.row rfl ?_;refine aj.ld (c:=ak) (i:=0) (x:=s2) f.row rfl ?_;refine aj.ld (c:=ak) (i:=0) (x:=s2) f.row rfl ?_;refine aX E e ⟨⟨by omega,by omega⟩,lx (by rw[Od]) ?_⟩;refine aj.ld (c:=ak) (i:=0) (x:=s2) f.row rfl ?_;refine aX E e ⟨⟨by omega,by omega⟩,la (by rw[Od]) ?_⟩;refine aX E e ⟨⟨by omega,by omega⟩,?_⟩;refine f.put (y:=x0) (i:=k) (by omega) (f.own x0 mx) (f.iD x0 mx) e (by rw[Od]) λC hC mC=>?_;refine aX E e ⟨⟨by omega,by omega⟩,?_⟩;refine hC.put (y:=a0) (i:=c) (by simp;omega) ((f.own a0 ma).mod mC λq hq=>(f.iI (f.own a0 ma) q hq).2) (f.iD a0 ma) e (by rw[Od]) λD b1 mD=>?_;have F:∀b,b=H.size\/b=H1.size->¬ag s2 b:=λb g q=>Y b g (.inr (own2 b q));refine⟨c,⟨rfl,.inr bd,_,by simp;exact bB,b1,Ae fk hD bM bO ga J (b0 a0 x0 ga J) λd y d0 hd gy=>V.least d y x0 (by omega) gy J,(swap_perm ga J).trans hP,?_,?_,?_⟩,by omega⟩
   ·exact(mB.trans' mC λb _ q=>.inr (own2 b q)).trans' mD λb _ q=>.inr (own2 b q)
   ·exact((pA.ext O).mod mC (F _ (.inl rfl))).mod mD (F _ (.inl rfl))
   ·exact((tA.ext O).mod mC (F _ (.inr rfl))).mod mD (F _ (.inr rfl))
end
end Go.Proofs.YtmkbhnholcaghaaGreatDoor
namespace Go.Proofs.YtmkbhnholcaghaaGreatDoor
def DK {α:Type}(key:α->List Int)(a:α):List α->List α
 |[]=>[]
 |b::l=>if key b=key a then DK key b l else b::DK key b l
def dd (a:List Int):List (List Int)->List (List Int)
 |[]=>[]
 |b::l=>if b=a then dd b l else b::dd b l
def eP:List (List Int)->List (List Int)
 |[]=>[]
 |a::l=>a::dd a l
theorem vY {α:Type}(key:α->List Int):∀(l:List α) (a:α),(DK key a l).map key=dd (key a) (l.map key)
 |[],a=>rfl
 |b::l,a=>by
   simp only[DK,dd,Ox];split
   ·exact vY key l b
   ·rw[Ox,vY key l b]
theorem we {α:Type}(key:α->List Int):∀(l:List α) (a x:α),x∈DK key a l->x∈l
 |[],a,x,h=>h
 |b::l,a,x,h=>by
   simp only[DK] at h;split at h
   ·exact Ou _ (we key l b x h)
   ·rcases Oq.1 h with e|e
    ·rw[e];exact OA
    ·exact Ou _ (we key l b x e)
theorem EY {y:List Int}:∀{l:List (List Int)} {a:List Int},y∈a::dd a l↔y∈a::l
 |[],a=>Tt
 |b::l,a=>by
   simp only[dd];have c:=@EY y l b;split
   ·rename_i e;subst e;rw[c];simp
   ·rw[Oq,c];simp
theorem Co {y:List Int}{l:List (List Int)}:y∈eP l↔y∈l:=by
 cases l with
 |nil=>exact Tt
 |cons a l=>exact EY
theorem JY:∀{l:List (List Int)} {a:List Int},(a::l).Pairwise (λx y=>aT x y<=0)->(a::dd a l).Pairwise (λx y=>aT x y<0)
 |[],a,_=>by simp[dd]
 |b::l,a,h=>by
   have j:(b::l).Pairwise (λx y=>aT x y<=0):=(PK.1 h).2;have m:=(PK.1 h).1 b OA;have f:=JY j;simp only[dd];split
   ·rename_i e;rw[<-e];exact f
   ·rename_i g;have c:aT a b<0:=by
     have:aT a b≠0:=λq=>g (b8.1 q).symm;omega
    refine PK.2 ⟨λy o=>?_,f⟩;rcases Oq.1 o with e|e
    ·rw[e];exact c
    ·exact eW c ((PK.1 f).1 y e)
theorem Gt {l:List (List Int)}(h:l.Pairwise (λx y=>aT x y<=0)):(eP l).Pairwise (λx y=>aT x y<0):=by
 cases l with
 |nil=>exact Sd
 |cons a l=>exact JY h
theorem yU {l r:List (List Int)}(h:l.Perm r)(hl:l.Pairwise (λx y=>aT x y<=0))(c:r.Pairwise (λx y=>aT x y<=0)):l=r:=
 QK (le:=λx y=>aT x y<=0) (λa b _ _ h1 e=>b8.1 (by have:=bX a b;omega)) hl c h
open Go.MapKept
def Ll:ByteArray:=Pe #[48,49,50,51,52,53,54,55,56,57,97,98,99,100,101,102,103,104,105,106,107,108,109,110,111,112,113,114,115,116,117,118,119,120,121,122]
def Mc:ByteArray:=Pe #[48,48,48,49,48,50,48,51,48,52,48,53,48,54,48,55,48,56,48,57,49,48,49,49,49,50,49,51,49,52,49,53,49,54,49,55,49,56,49,57,50,48,50,49,50,50,50,51,50,52,50,53,50,54,50,55,50,56,50,57,51,48,51,49,51,50,51,51,51,52,51,53,51,54,51,55,51,56,51,57,52,48,52,49,52,50,52,51,52,52,52,53,52,54,52,55,52,56,52,57,53,48,53,49,53,50,53,51,53,52,53,53,53,54,53,55,53,56,53,57,54,48,54,49,54,50,54,51,54,52,54,53,54,54,54,55,54,56,54,57,55,48,55,49,55,50,55,51,55,52,55,53,55,54,55,55,55,56,55,57,56,48,56,49,56,50,56,51,56,52,56,53,56,54,56,55,56,56,56,57,57,48,57,49,57,50,57,51,57,52,57,53,57,54,57,55,57,56,57,57]
def lW (n:Nat):ByteArray:=if n<10 then Ll.extract n (n+1) else if n<100 then Mc.extract (2*n) (2*n+2) else if n<1000 then Pe #[OQ (48+n/100)]++Mc.extract (2*(n%100)) (2*(n%100)+2) else Qu
theorem II {n:Nat}{H:aa}{K:ByteArray->aa->Prop}(c:n<100)(a:K (lW n) H):Kl.sp (n:Int) H K:=by
 refine Kl.of ?_;unfold Kl.vc;refine KR.of ?_;unfold KR.vc;refine K5.of ?_;unfold K5.vc;refine aP rfl ?_;refine aP (by simp;omega) ?_;refine Lj.of ?_;unfold Lj.vc;rw[aD n (by omega)];have e2:N6.wrap ((n:Int)*2)=((2*n:Nat):Int):=by rw[wrap64 (by omega) (by omega)];omega
 rw[e2];have e:N6.wrap (((2*n:Nat):Int)+2)=((2*n+2:Nat):Int):=by rw[wrap64 (by omega) (by omega)];omega
 rw[e];simp only[Od];unfold lW at a;refine ah (λb=>?_) (λb=>?_)
 ·have h1:n<10:=by
   have:(n:Int)<10:=of_decide_eq_true b;omega
  rw[if_pos h1] at a;have hs:Ll.size=36:=by decide
  refine⟨⟨by omega,?_⟩,⟨by omega,by omega⟩,a⟩;show ((n+1:Nat):Int)<=((Ll.size:Nat):Int);omega
 ·have h1:¬n<10:=by
   have:¬(n:Int)<10:=of_decide_eq_false b;omega
  rw[if_neg h1,if_pos c] at a;have hs:Mc.size=200:=by decide+kernel
  refine⟨⟨by omega,?_⟩,⟨by omega,by omega⟩,a⟩;show ((2*n+2:Nat):Int)<=((Mc.size:Nat):Int);omega
def Ms (l:List UInt8):Nat:=l.foldl (λa c=>10*a+(c.toNat - 48)) 0
theorem DN:∀n,n<100->Ms (lW n).toList=n/\(lW n).size<=2:=by decide+kernel
end Go.Proofs.YtmkbhnholcaghaaGreatDoor
namespace Go.Proofs.YtmkbhnholcaghaaGreatDoor
instance:Inhabited RR:=⟨⟨⟨Qu,0,0,false⟩,0,0,none,[]⟩⟩
def jN (l:List (List Int)):List (List Int):=l.mergeSort λa b=>decide (aT a b<=0)
theorem pr (l:List (List Int)):(jN l).Perm l:=O6 _ _
theorem jr {a b c:List Int}(h1:aT a b<=0)(e:aT b c<=0):aT a c<=0:=by
 rcases TT h1 with u|u
 ·rcases TT e with v|v
  ·exact VI (eW u v)
  ·rw[b8.1 v] at u;exact VI u
 ·rw[b8.1 u];exact e
theorem BI (l:List (List Int)):(jN l).Pairwise (λx y=>aT x y<=0):=by
 have h:=PH (le:=λa b=>decide (aT a b<=0)) (λa b c h1 e=>decide_eq_true (jr (of_decide_eq_true h1) (of_decide_eq_true e))) (λa b=>by
  have:=bX a b;simp only[Pu,decide_eq_true_eq];omega) l
 exact h.imp λh=>of_decide_eq_true h
def aV (W:Int):List ByteArray->Pl->Pl×List RR×Int
 |[],p=>(p,[],0)
 |n::ns,p=>
   match (rnOpen p n W).2.1 with
   |none=>((rnOpen p n W).1,[],(rnOpen p n W).2.2)
   |some r=>((aV W ns (rnOpen p n W).1).1,r::(aV W ns (rnOpen p n W).1).2.1,(aV W ns (rnOpen p n W).1).2.2)
def dO (l:List Int)(b:Bool):Option (List Int):=if b then some l else none
def bc:List RR->Pl->Pl×List RR×List (Option (List Int))×Int
 |[],p=>(p,[],[],0)
 |r::rs,p=>
   if (r.next p).2.2.2.2≠0 then ((r.next p).1,[],[],(r.next p).2.2.2.2)
   else ((bc rs (r.next p).1).1,(r.next p).2.1::(bc rs (r.next p).1).2.1,dO (r.next p).2.2.1 (r.next p).2.2.2.1::(bc rs (r.next p).1).2.2.1,(bc rs (r.next p).1).2.2.2)
def dK:List (Option (List Int))->Option (Nat×List Int)
 |[]=>none
 |none::t=>(dK t).map λq=>(q.1+1,q.2)
 |some a::t=>
   match dK t with
   |none=>some (0,a)
   |some (i,x)=>if aT x a<0 then some (i+1,x) else some (0,a)
def aQ (p:Pl)(w:RW)(x:List Int):Pl×RW×Int:=if w.rows=0\/aT x w.last≠0 then w.add p x else (p,w,0)
def fY:Nat->Pl->List RR->List (Option (List Int))->RW->Pl×Nat×Int
 |0,p,_,_,_=>(p,0,0)
 |f+1,p,rs,hs,w=>
   match dK hs with
   |none=>((w.close p).1,(w.close p).2.2.1,(w.close p).2.2.2)
   |some (i,x)=>
     if (aQ p w x).2.2≠0 then ((aQ p w x).1,0,(aQ p w x).2.2)
     else if ((rs.getD i default).next (aQ p w x).1).2.2.2.2≠0 then (((rs.getD i default).next (aQ p w x).1).1,0,((rs.getD i default).next (aQ p w x).1).2.2.2.2)
     else fY f ((rs.getD i default).next (aQ p w x).1).1 (rs.set i ((rs.getD i default).next (aQ p w x).1).2.1)
      (hs.set i (dO ((rs.getD i default).next (aQ p w x).1).2.2.1 ((rs.getD i default).next (aQ p w x).1).2.2.2.1)) (aQ p w x).2.1
def bN (rs:List RR):Nat:=(rs.map λr=>r.rows - r.at_).sum
def fQ (hs:List (Option (List Int))):Nat:=(hs.map λh=>if h.isSome then 1 else 0).sum
def zn (r:Pl×List RR×List (Option (List Int))×Int)(w:RW):Pl×Nat×Int:=
 if r.2.2.2≠0 then (r.1,0,r.2.2.2) else fY (bN r.2.1+fQ r.2.2.1+1) r.1 r.2.1 r.2.2.1 w
def lL (rs:List RR)(m:Pl×Option RW×Int):Pl×Nat×Int:=
 match m.2.1 with
 |none=>(m.1,0,m.2.2)
 |some w=>zn (bc rs m.1) w
def cM (p:Pl)(names:List ByteArray)(to:ByteArray)(W:Int):Pl×Nat×Int:=
 if names=[] then (p,0,2)
 else if (aV W names p).2.2≠0 then ((aV W names p).1,0,(aV W names p).2.2)
 else lL (aV W names p).2.1 (bj (aV W names p).1 to W)
def kN:List (List Int)->Pl->RW->Pl×RW×Int
 |[],p,w=>(p,w,0)
 |x::l,p,w=>if (w.add p x).2.2≠0 then w.add p x else kN l (w.add p x).1 (w.add p x).2.1
def uO (a:Pl×RW×Int):Pl×Int:=if a.2.2≠0 then (a.1,a.2.2) else ((a.2.1.close a.1).1,(a.2.1.close a.1).2.2.2)
def ia (p:Pl)(n:ByteArray)(W:Int)(L:List (List Int)):Pl×Int:=
 match (bj p n W).2.1 with
 |none=>((bj p n W).1,(bj p n W).2.2)
 |some w=>uO (kN L (bj p n W).1 w)
def jg:List ByteArray->Pl->Pl×Int
 |[],p=>(p,0)
 |n::l,p=>if (p.cT n).2≠0 then p.cT n else jg l (p.cT n).1
structure So where
 name:ByteArray
 width:Int
 frames:Int
 wait:List (List Int)
 side:List ByteArray
 next:Nat
 wrong:Int
 closed:Bool
def So.ready (s:So):Int:=if s.wrong≠0 then s.wrong else if s.closed then 2 else 0
def KU:ByteArray:=Pe #[126]
def bU (n:ByteArray)(k:Nat):ByteArray:=n++KU++lW k
def So.iK (s:So):So:={s with wait:=[],side:=s.side++[bU s.name s.next],next:=s.next+1}
def So.aside (s:So)(p:Pl):Pl×So×Int:=
 ((ia p (bU s.name s.next) s.width (eP (jN s.wait))).1,s.iK,(ia p (bU s.name s.next) s.width (eP (jN s.wait))).2)
def So.add (s:So)(p:Pl)(l:List Int):Pl×So×Int:=
 if s.ready≠0 then (p,s,s.ready)
 else if (l.length:Int)≠s.width then (p,s,60)
 else if ((s.wait.length+1:Nat):Int)<s.frames*aH s.width then (p,{s with wait:=s.wait++[l]},0)
 else (({s with wait:=s.wait++[l]}.aside p).1,{{s with wait:=s.wait++[l]}.iK with wrong:=({s with wait:=s.wait++[l]}.aside p).2.2},({s with wait:=s.wait++[l]}.aside p).2.2)
def fT (l:List ByteArray)(m:Pl×Nat×Int):Pl×Int:=if m.2.2≠0 then (m.1,m.2.2) else jg l m.1
def So.merge (s:So)(p:Pl)(k:Nat)(to:ByteArray):Pl×So×Nat×Int:=
 ((fT (s.side.take k) (cM p (s.side.take k) to s.width)).1,{s with side:=s.side.drop k},(cM p (s.side.take k) to s.width).2.1,(fT (s.side.take k) (cM p (s.side.take k) to s.width)).2)
def So.to (s:So)(k:Nat):So:={s with next:=k}
def So.round (s:So)(p:Pl):Pl×So×Nat×Int:=(s.to (s.next+1)).merge p (s.frames - 1).toNat (bU s.name s.next)
def So.rounds:Nat->So->Pl->Pl×So×Int
 |0,s,p=>(p,s,0)
 |f+1,s,p=>
   if s.frames<=(s.side.length:Int) then
    if (s.round p).2.2.2≠0 then ((s.round p).1,(s.round p).2.1,(s.round p).2.2.2)
    else So.rounds f {(s.round p).2.1 with side:=s.side.drop (s.frames - 1).toNat++[bU s.name s.next]} (s.round p).1
   else (p,s,0)
def So.last (r:Pl×So×Int):Pl×So×Nat×Int:=
 if r.2.2≠0 then (r.1,r.2.1,0,r.2.2) else r.2.1.merge r.1 r.2.1.side.length r.2.1.name
def So.first (s:So)(p:Pl):Pl×So×Int:=if s.wait≠[]\/s.side=[] then s.aside p else (p,s,0)
def So.goes (r:Pl×So×Int):Pl×So×Nat×Int:=
 if r.2.2≠0 then (r.1,r.2.1,0,r.2.2) else So.last (r.2.1.rounds r.2.1.side.length r.1)
def So.ends (r:Pl×So×Nat×Int):Pl×So×Nat×Int:=
 if r.2.2.2≠0 then (r.1,{r.2.1 with wrong:=r.2.2.2},0,r.2.2.2) else (r.1,{r.2.1 with closed:=true},r.2.2.1,0)
def So.done (s:So)(p:Pl):Pl×So×Nat×Int:=
 if s.ready≠0 then (p,s,0,s.ready) else So.ends (So.goes (s.first p))
def GM (n:ByteArray)(W fr:Int):So:=⟨n,W,fr,[],[],0,0,false⟩
def iQ (p:Pl)(n:ByteArray)(W fr:Int):Option So×Int:=
 if aH W=0 then (none,60) else if fr<3\/fr>p.most then (none,30) else (some (GM n W fr),0)
section
variable {p:Pl}{w:RW}{n:ByteArray}{W:Nat}{rs:List (List Int)}{q:Nat}
end
open Go.MapKept
theorem Pl.Bm {s:Pl}(h:s.WF)(x:Int):(s.get x).2.1.length<=504:=by
 unfold Pl.get;split
 ·simp
 ·cases e:s.held x with
  |none=>simp
  |some i=>
    obtain⟨f,a,_⟩:=Pl.iv e;simp only[Pl.fF a];exact h.room f (N9 a)
def bR (p:Nat)(b:Rb):List Value:=[.pointer (aE p),.string b.name,.int .i64 b.width,.int .i64 (aH b.width),.int .i64 b.wrong,.bool b.closed]
abbrev bF (H:aa)(k:Nat)(t:TypeId)(p:Nat)(b:Rb)(rest:List Value):Prop:=aj H k t (bR p b++rest).toArray
section
variable {H:aa}{k p dp:Nat}{t:TypeId}{b:Rb}{rest:List Value}{F:Nat->Prop}{s:Pl}
theorem bF.get (i:Nat)(v:Value)(h:(bR p b)[i]?=some v):(bR p b++rest).toArray[i]?=some v:=by
 rw[RT,OB (N7.1 h).1];exact h
theorem bF.tail {j:Nat}{v:Value}(h:rest[j]?=some v):(bR p b++rest).toArray[6+j]?=some v:=by
 rw[RT,List.getElem?_append_right (by simp[bR])];simpa[bR] using h
theorem pH {K:Int->aa->Prop}(h:bF H k t p b rest)(a:K b.ready H):GX.sp (aE k) H K:=by
 refine GX.of ?_;unfold GX.vc;unfold Rb.ready at a;simp only[al,aE];refine aj.ld (c:=ab .i64) (i:=4) (x:=b.wrong) h (bF.get 4 _ rfl) ?_;refine ah (λf=>?_) (λf=>?_)
 ·refine aj.ld (c:=ab .i64) (i:=4) (x:=b.wrong) h (bF.get 4 _ rfl) ?_;rw[if_pos (by simpa using f)] at a;exact a
 ·rw[if_neg (by simpa using f)] at a;refine aj.ld (c:=ay) (i:=5) (x:=b.closed) h (bF.get 5 _ rfl) ?_;cases e:b.closed with
  |true=>rw[e,if_pos rfl] at a;exact a
  |false=>rw[e,if_neg (by simp)] at a;exact a
theorem xh (e:Int):(bR p b++rest).toArray.setIfInBounds 4 (.int .i64 e)=(bR p {b with wrong:=e}++rest).toArray:=by
 simp[bR]
theorem oW:(bR p b++rest).toArray.setIfInBounds 5 (.bool true)=(bR p {b with closed:=true}++rest).toArray:=by
 simp[bR]
theorem pS {e:Int}{K:Int->aa->Prop}(h:bF H k t p b rest)(a:∀H',bF H' k t p (b.cr e) rest->Mod (λq=>q=k) H H'->H'.size=H.size->K e H'):BN.sp (aE k) e H K:=by
 refine BN.of ?_;unfold BN.vc;unfold Rb.cr at a;simp only[al,aE];refine ah (λc=>?_) (λc=>?_)
 ·rw[if_pos (by simpa using c)] at a;refine aj.st h (i:=4) (by simp[bR]) rfl λH' f m hs=>?_;rw[xh] at f;exact a H' f m hs
 ·rw[if_neg (by simpa using c)] at a;exact a H h (.refl _ _) rfl
theorem Step.size {F F':Nat->Prop}{H H':aa}(h:Step F F' H H'):H.size<=H'.size:=h.mod.size
theorem BO {kd:UInt8}{sl:Sl}{l:List UInt8}{K:Int->aa->Prop}(Q:Gl H)(h:bF H k t p b rest)(R:au F H p dp s)(hk:¬F k)(S:bL H sl l)(hsl:∀ad,sl.a=some ad->¬F ad.block)
  (X:b.name.size<=9223372036854775807) (z:s.d.aB<68719470000) (A:s.next<1099511627776) (Y:0<=s.next) (m:s.Fit)
  (a:∀F' H',au F' H' p dp (s.more b.name kd l).1->Step F F' H H'->K (s.more b.name kd l).2 H'):G0.sp (aE k) (kd.toNat:Int) sl H K:=by
 have Z:=aA h;refine G0.of ?_;unfold G0.vc;simp only[al,aE];refine aj.ld (c:=av) (i:=0) (x:=aE p) h (bF.get 0 _ rfl) ?_;refine aj.ld (c:=aK) (i:=1) (x:=b.name) h (bF.get 1 _ rfl) ?_;refine Eh Q R X (by omega) (by omega) m λB H1 p1 f=>?_;have g:Gl H1:=Q.mod f.mod R.eM;have h1:bF H1 k t p b rest:=h.mod f.mod hk;have C:¬B k:=λq=>(f.own k q).elim hk λr=>by omega
 have D:bL H1 sl l:=S.keep λad v hl=>f.mod.same _ hl (hsl ad v);have U:∀ad,sl.a=some ad->l≠[]->¬B ad.block:=λad v E q=>by
  obtain⟨af,o,an⟩:=S.addr (List.length_pos_iff.2 E);rw[v] at o;cases o;rcases f.own _ q with r|r
  ·exact hsl ad v r
  ·omega
 unfold Pl.more at a;have V:(s.fresh b.name).1.next<=s.next+1:=s.nJ Y A
 generalize a1:(s.fresh b.name).1=s1 at*;generalize hr:(s.fresh b.name).2.1=hd at*;generalize he:(s.fresh b.name).2.2.2=e at*;by_cases y:e=0
 ·subst y;rw[if_neg (by simp)] at a;by_cases G:kd=0
  ·subst G;rw[if_pos rfl] at a;refine aC (by simp) ?_;refine aP (by simp) ?_;refine aj.ld (c:=av) (i:=0) (x:=aE p) h1 (bF.get 0 _ rfl) ?_;refine oq g p1 (by omega) λI u p2 j=>?_;have el:Pl.leave (s1,0) hd=s1.aY hd:=if_pos rfl;rw[el] at a;exact a I u p2 (f.trans j)
  ·have J:((kd.toNat:Int)!=0)=true:=by
    have:kd.toNat≠0:=λq=>G (Qw.1 q);simp;omega
   rw[if_neg G] at a;refine aP (by rw[J];rfl) ?_;refine aj.ld (c:=av) (i:=0) (x:=aE p) h1 (bF.get 0 _ rfl) ?_;refine DV g p1 D λI u p2 j=>?_;have M:Gl u:=g.mod j.mod p1.eM;have h2:bF u k t p b rest:=h1.mod j.mod C;have a6:(s1.set hd kd l).1.next=s1.next:=s1.jB hd kd l
   generalize a7:s1.set hd kd l=s2 at*;refine ah (λO=>?_) (λO=>?_)
   ·have e2:s2.2=0:=by simpa using O
    refine aj.ld (c:=av) (i:=0) (x:=aE p) h2 (bF.get 0 _ rfl) ?_;refine oq M p2 (by omega) λF3 H3 p3 S3=>?_;have el:Pl.leave s2 hd=s2.1.aY hd:=if_pos e2;rw[el] at a;exact a F3 H3 p3 ((f.trans j).trans S3)
   ·have e2:s2.2≠0:=by simpa using O
    have el:Pl.leave s2 hd=s2:=if_neg e2;rw[el] at a;exact a I u p2 (f.trans j)
 ·rw[if_pos y] at a;refine aC (by simp[y]) ?_;refine aC (by simpa using y) ?_;exact a B H1 p1 f
theorem yd {g:Int}{K:(Int×Sl×Int)->aa->Prop}(O:Gl H)(h:bF H k t p b rest)(Q:au F H p dp s)(hk:¬F k)(v:0<=g/\g<=9223372036854775807)
  (U:b.name.size<=9223372036854775807) (y:s.d.aB<68719470000) (z:s.next<1099511627776) (V:0<=s.next)
  (a:∀F' H' sl,au F' H' p dp (s.look b.name g).1->Step F F' H H'->az EB fx H' sl (s.look b.name g).2.2.1->(∀q,ag sl q->H.size<=q/\¬F' q)->(s.look b.name g).2.2.1.length<=504->K (((s.look b.name g).2.1.toNat:Int),sl,(s.look b.name g).2.2.2) H'):ID.sp (aE k) g H K:=by
 have X:=aA h;refine ID.of ?_;unfold ID.vc;simp only[al,aE];refine aj.ld (c:=av) (i:=0) (x:=aE p) h (bF.get 0 _ rfl) ?_;refine aj.ld (c:=aK) (i:=1) (x:=b.name) h (bF.get 1 _ rfl) ?_;refine Eb O Q U (by omega) v.2 (by omega) (by omega) λA H1 p1 j=>?_;have B:Gl H1:=O.mod j.mod Q.eM;have h1:bF H1 k t p b rest:=h.mod j.mod hk;have R:(s.bt b.name g).1.next<=s.next+1:=s.lv V z
 unfold Pl.look at a;generalize Y:(s.bt b.name g).1=s1 at*;generalize hr:(s.bt b.name g).2.1=hd at*;generalize he:(s.bt b.name g).2.2=e at*;refine ah (λC=>?_) (λC=>?_)
 ·have D:e≠0:=by simpa using C
  rw[if_pos D] at a;exact a A H1 _ p1 j (az.nil _ _ _) (λq ⟨ad,Z,_⟩=>by cases Z) (by simp)
 ·have D:¬e≠0:=by simpa using C
  rw[if_neg D] at a;refine aj.ld (c:=av) (i:=0) (x:=aE p) h1 (bF.get 0 _ rfl) ?_;refine KQ p1 λsl u E e2 f2=>?_;have p2:=p1.ext e2;have G:Gl u:=B.mod e2 id;have h2:bF u k t p b rest:=h1.ext e2;have S:Step F A H u:=j.trans ⟨e2.mod,λb hb=>.inl hb⟩;have o:=Pl.Bm p1.wf hd;generalize af:s1.get hd=r at*;refine ah (λf=>?_) (λf=>?_)
  ·have I:¬r.2.2≠0:=by simpa using f
   rw[if_neg I] at a;refine aj.ld (c:=av) (i:=0) (x:=aE p) h2 (bF.get 0 _ rfl) ?_;refine oq G p2 (by omega) λF3 H3 p3 J=>?_;have M:=E.lt;refine a F3 H3 sl p3 (S.trans J) (E.keep λq m hl=>J.mod.same q hl λr=>by have:=p1.lt q r;have:=f2 q m;omega) (λq m=>?_) o;have q1:=f2 q m;have q2:=j.size;refine⟨by omega,λr=>?_⟩;rcases J.own q r with r|r
   ·have:=p1.lt q r;omega
   ·have:=M q m;omega
  ·have I:r.2.2≠0:=by simpa using f
   rw[if_pos I] at a;refine a A u sl p2 S E (λq m=>?_) o;have q1:=f2 q m;have q2:=j.size;exact⟨by omega,λr=>by have:=p1.lt q r;omega⟩
end
theorem pv {s:Sl}{l:List Int}{H:aa}{K:Sl->aa->Prop}(h:Ints .u64 H s l)(hl:l.length<=1000000)
  (f:∀s' H',aM H' 0 gS 1 s' (l.map (On .u64))->Ext H H'->(∀b,ag s' b->H.size<=b)->K s' H'):G4.sp s H K:=by
 refine G4.of ?_;unfold G4.vc;have v:=h.len;refine ah (λa=>?_) (λa=>?_)
 ·have:l=[]:=by
   cases l with
   |nil=>rfl
   |cons x r=>
     obtain⟨ad,j,_⟩:=h.at (i:=0) (by simp);rw[j] at a;cases a
  subst this;exact f _ H (aM.nil _ _ _ _) (.refl _ _) (by rintro b ⟨ad,q,_⟩;cases q)
 ·refine ax λH1 s1 m m1=>?_;have o:aM H1 0 gS 1 (Sl.mk (some ⟨H.size,0,none⟩) 0 0) []:=⟨rfl,.inr ⟨H.size,0,#[],rfl,Oz _,m,Ob _,by unfold maxLen;omega,rfl,rfl⟩⟩;refine oc.append (s:=Sl.mk (some ⟨H.size,0,none⟩) 0 0) (x:=s) (ws:=l.map (On .u64)) o (by simp;omega) (h.ext m1).reads (nc _ _) (by simp;omega) (by simp;omega) (by omega) λs' H' _ u g f' _=>?_;have m2:Ext H H':=⟨Oo m1.size g.size,λb c _=>(g.same b (by omega) (by rintro⟨ad,e,e2⟩;cases e;have:H.size=b:=e2;omega)).trans (m1.same b c id)⟩;refine f s' H' (by simpa using u) m2 λb c=>?_;rcases f' b c with ⟨ad,e,e2⟩|q
  ·cases e;have:H.size=b:=e2;omega
  ·omega
structure pf (H:aa)(k p:Nat)(w:RW)(sw sl:Sl):Prop where
 row:bF H k GD p w.b [sw.v,.int .i64 (w.n:Int),sl.v,.int .i64 (w.rows:Int)]
 wait:az EB fx H sw w.wait
 last:aM H 0 gS 1 sl (w.last.map (On .u64))
def dt (k:Nat)(sw sl:Sl)(b:Nat):Prop:=b=k\/ag sw b\/ag sl b
section
variable {H:aa}{k p dp:Nat}{w:RW}{sw sl:Sl}{F:Nat->Prop}{s:Pl}
theorem pf.jG (h:pf H k p w sw sl):¬ag sw k:=λq=>by
 obtain⟨cur,a⟩:=h.wait.obj k q;exact absurd (aF a h.row) (by decide)
theorem pf.yV (h:pf H k p w sw sl):¬ag sl k:=λq=>by
 obtain⟨cur,a⟩:=h.last.obj k q;exact absurd (aF a h.row) (by decide)
theorem pf.lt (h:pf H k p w sw sl):∀b,dt k sw sl b->b<H.size:=by
 rintro b (rfl|q|q)
 ·exact aA h.row
 ·exact h.wait.lt b q
 ·exact h.last.lt b q
theorem pf.keep {H':aa}(h:pf H k p w sw sl)(e:∀b,dt k sw sl b->b<H.size->H'[b]?=H[b]?):pf H' k p w sw sl:=
 ⟨(e k (.inl rfl) (aA h.row)).trans h.row,h.wait.keep λb a hl=>e b (.inr (.inl a)) hl,h.last.keep λb a hl=>e b (.inr (.inr a)) hl⟩
theorem pf.mod {G:Nat->Prop}{H':aa}(h:pf H k p w sw sl)(m:Mod G H H')(a:∀b,dt k sw sl b->¬G b):pf H' k p w sw sl:=h.keep λb c hl=>m.same b hl (a b c)
theorem Bk {K:Int->aa->Prop}(Q:Gl H)(h:pf H k p w sw sl)(J:au F H p dp s)(hd:∀b,F b->¬dt k sw sl b)
  (R:w.b.name.size<=9223372036854775807) (a:s.d.aB<68719470000) (B:s.next<1099511627776) (S:0<=s.next) (g:s.Fit)
  (y:∀F' m H',au F' H' p dp (w.out s).1->pf H' k p (w.out s).2.1 m sl->(∀b,ag m b->ag sw b)->Mod (λb=>F b\/b=k) H H'->(∀b,F' b->F b\/H.size<=b)->K (w.out s).2.2 H'):I0.sp (aE k) H K:=by
 refine I0.of ?_;unfold I0.vc;simp only[al,aE];refine aj.ld (c:=ab .i64) (i:=7) (x:=(w.n:Int)) h.row (bF.tail (j:=1) rfl) ?_;refine ah (λz=>?_) (λz=>?_)
 ·have C:w.n=0:=by
   have:(w.n:Int)=0:=by simpa using z
   omega
  have D:w.out s=(s,w,0):=if_pos C;rw[D] at y;exact y F sw H J h (λb q=>q) (.refl _ _) (λb q=>.inl q)
 ·have C:¬w.n=0:=λq=>by rw[q] at z;simp at z
  have D:w.out s=((s.more w.b.name 1 w.wait).1,{w with b:=w.b.cr (s.more w.b.name 1 w.wait).2,wait:=[],n:=0},(s.more w.b.name 1 w.wait).2):=if_neg C;rw[D] at y;have o:¬F k:=λq=>hd k q (.inl rfl);refine aj.ld (c:=ak) (i:=6) (x:=sw) h.row (bF.tail (j:=0) rfl) ?_;refine BO (kd:=1) Q h.row J o (bV h.wait) (λad U q=>hd _ q (.inr (.inl ⟨ad,U,rfl⟩))) R a B S g λM H1 p1 A=>?_;have h1:=h.mod A.mod λb f q=>hd b q f;have V:=aA h.row;have u:¬M k:=λq=>(A.own k q).elim o λr=>by omega
  generalize (s.more w.b.name 1 w.wait).1=s1 at*;generalize (s.more w.b.name 1 w.wait).2=e at*;refine aj.st h1.row (i:=6) (by simp[bR]) rfl λZ r2 m2 z2=>?_;refine aj.st r2 (i:=7) (by simp[bR]) rfl λX O m3 z3=>?_;have E:bF X k GD p w.b [(Sl.mk none 0 0).v,.int .i64 ((0:Nat):Int),sl.v,.int .i64 (w.rows:Int)]:=by
   have e:(((bR p w.b++[sw.v,.int .i64 (w.n:Int),sl.v,.int .i64 (w.rows:Int)]).toArray.setIfInBounds 6 (.slice none 0 0)).setIfInBounds 7 (.int .i64 (0:Int)))=(bR p w.b++[(Sl.mk none 0 0).v,.int .i64 ((0:Nat):Int),sl.v,.int .i64 (w.rows:Int)]).toArray:=by
    simp[bR]
   rw[e] at O;exact O
  refine pS E λG Y m4 z4=>?_;have m14:Mod (λq=>q=k) H1 G:=(m2.trans m3).trans m4;have I:Mod (λb=>F b\/b=k) H G:=(A.mod.mono λb _ q=>.inl q).trans' m14 λb f q=>.inr q;refine y M (Sl.mk none 0 0) G (p1.keep λb f hl=>m14.same b hl λq=>u (q▸f)) ⟨Y,az.nil _ _ _,h1.last.keep λb f hl=>m14.same b hl λq=>h1.yV (q▸f)⟩ (by rintro b ⟨ad,q,_⟩;cases q) I A.own
theorem pK (l:List Int):(eL l).length<=8*l.length+1:=by
 unfold eL;split
 ·simp
 ·rw[List.length_flatMap];have:∀l:List Int,(l.map λx=>(eN x).length).sum=8*l.length:=by
   intro l
   induction l with
   |nil=>rfl
   |cons x l a=>rw[Ox,List.sum_cons,a];simp[eN];omega
  have:=this l;omega
theorem j9 {l:List Int}(h:∀x∈l,0<=x/\x<256):fZ (cO l)=l.map (On .u8):=by
 rw[<-gv,zr h]
theorem Ej {l:Sl}{ll:List Int}{K:Int->aa->Prop}(hg:Gl H)(S:¬dt k sw sl bh)(h:pf H k p w sw sl)(R:au F H p dp s)(hd:∀b,F b->¬dt k sw sl b)
  (hl:Ints .u64 H l ll) (U:∀ad,l.a=some ad->¬dt k sw sl ad.block) (hlen:(ll.length:Int)=w.b.width->ll.length<=1000000) (a8:w.wait.length<=1000000) (bb:w.rows<1099511627776) (bd:w.n<1099511627776)
  (hn:w.b.name.size<=9223372036854775807) (G:s.d.aB<68719470000) (af:s.next<1099511627776) (h0:0<=s.next) (V:s.Fit)
  (m:∀F' f I H',au F' H' p dp (w.add s ll).1->pf H' k p (w.add s ll).2.1 f I->(∀b,F' b->¬dt k f I b)->Step (λb=>F b\/dt k sw sl b) (λb=>F' b\/dt k f I b) H H'->K (w.add s ll).2.2 H'):yQ.sp (aE k) l H K:=by
 refine yQ.of ?_;unfold yQ.vc;unfold aE;refine aC rfl ?_;simp only[al];have X:=hl.len;unfold RW.add at m;refine pH h.row ?_;refine ah (λg=>?_) (λg=>?_)
 ·have e0:w.b.ready≠0:=by simpa using g
  rw[if_pos e0] at m;exact m F sw sl H R h hd (.refl _ _)
 have e0:¬w.b.ready≠0:=by simpa using g
 rw[if_neg e0] at m;refine⟨λ_ A=>A=H/\¬((ll.length:Int)≠w.b.width)/\¬(0<w.rows/\aT ll w.last<=0),?_,?_⟩
 ·refine aj.ld (c:=ab .i64) (i:=2) (x:=w.b.width) h.row (bF.get 2 _ rfl) ?_;refine ah (λg=>?_) (λg=>?_)
  ·have J:(ll.length:Int)≠w.b.width:=by rw[<-X];simpa using g
   rw[if_pos J] at m;exact m F sw sl H R h hd (.refl _ _)
  have J:¬((ll.length:Int)≠w.b.width):=by rw[<-X];simpa using g
  rw[if_neg J] at m;have hlen:=hlen (by omega);refine aj.ld (c:=ab .i64) (i:=9) (x:=(w.rows:Int)) h.row (bF.tail (j:=3) rfl) ?_;refine ah (λg=>?_) (λg=>?_)
  ·have e2:0<w.rows:=by
    have:(w.rows:Int)>0:=by simpa using g
    omega
   refine aj.ld (c:=ak) (i:=8) (x:=sl) h.row (bF.tail (j:=2) rfl) ?_;refine jE hl h.last.ints (by omega) ?_;refine ah (λg=>?_) (λg=>?_)
   ·have M:aT ll w.last<=0:=by simpa using g
    rw[if_pos ⟨e2,M⟩] at m;exact m F sw sl H R h hd (.refl _ _)
   ·have M:¬aT ll w.last<=0:=by simpa using g
    exact⟨rfl,J,λq=>M q.2⟩
  ·have e2:¬0<w.rows:=by
    have:¬(w.rows:Int)>0:=by simpa using g
    omega
   exact⟨rfl,J,λq=>e2 q.1⟩
 rintro _ A ⟨rfl,J,e2⟩;rw[if_neg J,if_neg e2] at m;have hlen:=hlen (by omega);refine⟨λA=>bF A k GD p w.b [sw.v,.int .i64 (w.n:Int),sl.v,.int .i64 (w.rows:Int)],h.row,?_⟩;refine aj.dw (c:=ak) (i:=6) (x:=sw) (cs:=λ_=>_) (λ_ q=>q) (λ_ _=>bF.tail (j:=0) rfl) ?_;refine ur hl hlen λr A1 o1 Z=>?_;have h1:=h.mod Z λ_ _=>id;refine⟨h1.row,?_⟩;have bl:(eL ll).length<=8*1000000+1:=by have:=pK ll;omega
 have an:bP EB A1 r.a (cO (eL ll)):=by
  unfold bP;rw[iH,j9 (kz ll)];exact o1.reads
 have rn:r.n=(cO (eL ll)).length:=by have:=o1.1;simpa using this.symm
 refine az.append jo h1.wait an rn (by rw[cd];omega) (by rw[cd];omega) λs' A2 o2 g2 _=>?_;have bn:=aA h.row;have z1:=Z.size;have z2:=g2.1.size;have r2:bF A2 k GD p w.b [sw.v,.int .i64 (w.n:Int),sl.v,.int .i64 (w.rows:Int)]:=h1.row.mod g2.1 h.jG;have l2:Ints .u64 A2 l ll:=(hl.ext Z).mod g2.1 λad ha q=>U ad ha (.inr (.inl q));have q2:aM A2 0 gS 1 sl (w.last.map (On .u64)):=h1.last.mod g2.1 λb a q=>h1.last.apart h1.wait (by decide) b a q;refine aj.st r2 (i:=6) (by simp[bR]) rfl λA3 r3 m3 z3=>?_;have D:¬ag s' k:=λq=>by
  rcases g2.2 k q with u|u
  ·exact h.jG u
  ·omega
 have l3:Ints .u64 A3 l ll:=l2.mod m3 λad ha q=>U ad ha (.inl q);have o3:az EB fx A3 s' (w.wait++cO (eL ll)):=o2.mod m3 λb a q=>D (q▸a);refine pv l3 hlen λc A4 o4 x4 f4=>?_;have r4:=r3.ext x4;have a6:¬ag c k:=λq=>by have:=f4 k q;have:=m3.size;omega
 refine aj.st r4 (i:=8) (by simp[bR]) rfl λA5 r5 m5 z5=>?_;refine aj.ld (c:=ab .i64) (i:=9) (x:=(w.rows:Int)) r5 (by simp[bR]) ?_;refine aj.st r5 (i:=9) (by simp[bR]) rfl λA6 r6 m6 z6=>?_;refine aj.ld (c:=ab .i64) (i:=7) (x:=(w.n:Int)) r6 (by simp[bR]) ?_;refine aj.st r6 (i:=7) (by simp[bR]) rfl λB r7 m7 z7=>?_;rw[aD w.rows (by omega)] at r7;rw[aD w.n (by omega)] at r7;have O:bF B k GD p w.b [s'.v,.int .i64 ((w.n+1:Nat):Int),c.v,.int .i64 ((w.rows+1:Nat):Int)]:=by
  have e:(((((bR p w.b++[sw.v,.int .i64 (w.n:Int),sl.v,.int .i64 (w.rows:Int)]).toArray.setIfInBounds 6 s'.v).setIfInBounds 8 c.v).setIfInBounds 9 (.int .i64 ((w.rows+1:Nat):Int))).setIfInBounds 7 (.int .i64 ((w.n+1:Nat):Int)))=(bR p w.b++[s'.v,.int .i64 ((w.n+1:Nat):Int),c.v,.int .i64 ((w.rows+1:Nat):Int)]).toArray:=by
   simp[bR]
  rw[e] at r7;exact r7
 have Q:Mod (λq=>q=k) A4 B:=(m5.trans m6).trans m7;have Y:pf B k p (w.push ll) s' c:=⟨O,(o3.ext x4).mod Q λb a q=>D (q▸a),o4.mod Q λb a q=>a6 (q▸a)⟩;have C:Mod (λb=>b=k\/ag sw b) A B:=by
  have a1:Mod (λb=>b=k\/ag sw b) A A2:=Z.mod.trans' g2.1 λb _ q=>.inr q;have a2:Mod (λb=>b=k\/ag sw b) A A3:=a1.trans' m3 λb _ q=>.inl q;have a3:Mod (λb=>b=k\/ag sw b) A A4:=a2.trans' x4 λb _ q=>q.elim;exact a3.trans' Q λb _ q=>.inl q
 have v:∀b,ag s' b->ag sw b\/A.size<=b:=λb a=>(g2.2 b a).imp_right λq=>by omega
 have E:∀b,ag c b->A.size<=b:=λb a=>by have:=f4 b a;have:=m3.size;omega
 have p7:au F B p dp s:=R.keep λb a a7=>C.same b a7 λq=>hd b a (q.imp_right .inl);have y:∀b,F b->¬dt k s' c b:=by
  rintro b a (q|q|q)
  ·exact hd b a (.inl q)
  ·rcases v b q with u|u
   ·exact hd b a (.inr (.inl u))
   ·have:=R.lt b a;omega
  ·have:=E b q;have:=R.lt b a;omega
 have S7:∀(F':Nat->Prop) (f:Sl) (H':aa),(∀b,ag f b->ag s' b)->Mod (λb=>F b\/b=k) B H'->(∀b,F' b->F b\/B.size<=b)->Step (λb=>F b\/dt k sw sl b) (λb=>F' b\/dt k f c b) A H':=by
  intro F' f H' h1 h2 h3;have bs:=C.size;refine⟨(C.mono λb _ q=>.inr (q.imp_right .inl)).trans' h2 λb _ q=>q.imp_right .inl,λb a=>?_⟩;rcases a with q|q|q|q
  ·rcases h3 b q with u|u
   ·exact .inl (.inl u)
   ·right;omega
  ·exact .inl (.inr (.inl q))
  ·rcases v b (h1 b q) with u|u
   ·exact .inl (.inr (.inr (.inl u)))
   ·exact .inr u
  ·exact .inr (E b q)
 refine aj.ld (c:=ab .i64) (i:=7) (x:=((w.n+1:Nat):Int)) O (bF.tail (j:=1) rfl) ?_;refine aj.ld (c:=ab .i64) (i:=3) (x:=aH w.b.width) O (bF.get 3 _ rfl) ?_;refine ah (λg=>?_) (λg=>?_)
 ·have M:((w.n+1:Nat):Int)<aH w.b.width:=by simpa using g
  rw[if_pos M] at m;exact m F s' c B p7 Y y (S7 F s' B (λ_ q=>q) (.refl _ _) λb q=>.inl q)
 ·have M:¬((w.n+1:Nat):Int)<aH w.b.width:=by simpa using g
  rw[if_neg M] at m;refine Bk (hg.keep (C.same _ hg.lt ?_)) Y p7 y hn G af h0 V λF' f H' p8 h8 z m8 o=>m F' f c H' p8 h8 ?_ (S7 F' f H' z m8 o)
  ·rintro(q|q)
   ·exact S (.inl q)
   ·exact S (.inr (.inl q))
  ·rintro b a (q|q|q)
   ·rcases o b a with u|u
    ·exact y b u (.inl q)
    ·have:=Y.lt b (.inl q);omega
   ·rcases o b a with u|u
    ·exact y b u (.inr (.inl (z b q)))
    ·have:=Y.lt b (.inr (.inl (z b q)));omega
   ·rcases o b a with u|u
    ·exact y b u (.inr (.inr q))
    ·have:=Y.lt b (.inr (.inr q));omega
theorem Bq {l:Sl}{ll:List Int}{K:Int->aa->Prop}(x:Gl H)(g:¬dt k sw sl bh)(h:pf H k p w sw sl)(y:au F H p dp s)(hd:∀b,F b->¬dt k sw sl b)
  (hl:Ints .u64 H l ll) (j:∀ad,l.a=some ad->¬dt k sw sl ad.block) (hlen:ll.length<=1000000) (m:w.wait.length<=1000000) (o:w.rows<1099511627776) (u:w.n<1099511627776)
  (z:w.b.name.size<=9223372036854775807) (a:s.d.aB<68719470000) (v:s.next<1099511627776) (A:0<=s.next) (f:s.Fit)
  (B:∀F' c e H',au F' H' p dp (w.add s ll).1->pf H' k p (w.add s ll).2.1 c e->(∀b,F' b->¬dt k c e b)->Step (λb=>F b\/dt k sw sl b) (λb=>F' b\/dt k c e b) H H'->K (w.add s ll).2.2 H'):yQ.sp (aE k) l H K:=Ej x g h y hd hl j (λ_=>hlen) m o u z a v A f B
end
structure gU (H0:aa)(F0:Nat->Prop)(k p dp:Nat)(sw sl:Sl)(F:Nat->Prop)(A:aa)(s:Pl)(w:RW):Prop where
 pool:au F A p dp s
 wr:pf A k p w sw sl
 dis:∀b,F b->¬dt k sw sl b
 mod:Mod (λb=>F0 b\/b=k) H0 A
 own:∀b,F b->F0 b\/H0.size<=b
section
variable {H0:aa}{F0:Nat->Prop}{k p dp:Nat}{sw sl:Sl}{F:Nat->Prop}{A:aa}{s:Pl}{w:RW}
theorem gU.step {F':Nat->Prop}{c:aa}{s':Pl}(h:gU H0 F0 k p dp sw sl F A s w)(e:au F' c p dp s')(S:Step F F' A c):gU H0 F0 k p dp sw sl F' c s' w:=by
 refine⟨e,h.wr.mod S.mod λb a q=>h.dis b q a,λb a q=>?_,h.mod.trans' S.mod λb a q=>?_,λb a=>?_⟩
 ·rcases S.own b a with r|r
  ·exact h.dis b r q
  ·have:=h.wr.lt b q;omega
 ·rcases h.own b q with r|r
  ·exact .inl r
  ·omega
 ·rcases S.own b a with r|r
  ·exact h.own b r
  ·right;have:=h.mod.size;omega
theorem gU.ext {a:aa}(h:gU H0 F0 k p dp sw sl F A s w)(e:Ext A a):gU H0 F0 k p dp sw sl F a s w:=h.step (h.pool.ext e) ⟨e.mod,λ_ q=>.inl q⟩
theorem gU.gl (h:gU H0 F0 k p dp sw sl F A s w)(a:Gl H0)(h1:¬F0 bh)(c:bh≠k):Gl A:=a.keep (h.mod.same _ a.lt λq=>q.elim h1 c)
theorem gU.dj {c:aa}{w':RW}{a:Sl}(h:gU H0 F0 k p dp sw sl F A s w)(m:Mod (λb=>b=k) A c)(hw:pf c k p w' a sl)(hs:∀b,ag a b->ag sw b):gU H0 F0 k p dp a sl F c s w':=by
 refine⟨h.pool.keep λb e hl=>m.same b hl λq=>h.dis b e (.inl q),hw,λb e q=>h.dis b e (q.imp_right λr=>r.imp_left (hs b)),h.mod.trans' m λb _ q=>.inr q,h.own⟩
theorem gU.LS {e:aa}{G:Nat->Prop}{n:Nat}(h:gU H0 F0 k p dp sw sl F A s w)(m:Mod G A e)(c:∀b,G b->n<=b)(f:∀b,F b->b<n)(hw:∀b,dt k sw sl b->b<n)(g:H0.size<=n):gU H0 F0 k p dp sw sl F e s w:=
 ⟨h.pool.keep λb a hl=>m.same b hl λq=>by have:=c b q;have:=f b a;omega,h.wr.mod m λb a q=>by have:=c b q;have:=hw b a;omega,h.dis,h.mod.trans' m λb a q=>by have:=c b q;omega,h.own⟩
theorem Jx {n:Nat}(h:n<18446744073709551616):OI.wrap (n:Int)=(n:Int):=by
 have:((n:Int)%18446744073709551616)=n:=Int.emod_eq_of_lt (by omega) (by omega);exact this
theorem Ey {A:aa}{t:Nat}{x:UInt8}(r:aj A t fx #[.int .u8 (x.toNat:Int)]):az EB fx A (Sl.mk (some ⟨t,0,none⟩) 1 1) [x]:=
 ⟨rfl,.inr ⟨t,1,#[.int .u8 (x.toNat:Int)],rfl,Oz _,r,Ob _,by unfold maxLen;omega,rfl,rfl⟩⟩
theorem xd {A:aa}{t:Nat}{x:Int}(r:aj A t gS #[.int .u64 x]):Ints .u64 A (Sl.mk (some ⟨t,0,none⟩) 1 1) [x]:=by
 refine⟨rfl,λi v a=>⟨_,rfl,?_⟩⟩;rw[bk];exact r.cell (by simpa using a)
set_option maxHeartbeats 1000000 in
theorem u7 {H:aa}{K:(Int×Int)->aa->Prop}(hg:Gl H)(bC:¬dt k sw sl bh)(h:pf H k p w sw sl)(hp:au F H p dp s)(hd:∀b,F b->¬dt k sw sl b)
  (bD:w.rows<1099511627776) (bM:0<=w.b.width) (hn:w.b.name.size<=9223372036854775807) (bO:s.d.aB<68719460000) (b4:s.next<1099511620000) (h0:0<=s.next) (a6:s.Fit)
  (b5:(w.out s).1.d.aB<68719465000) (b6:(w.out s).1.next<1099511625000)
  (a7:∀h hd,(Pl.leave (((w.out s).1.bt w.b.name 0).1.set h 2 hd) h).1.d.aB<68719470000)
  (I:∀F' m H',au F' H' p dp (w.close s).1->pf H' k p (w.close s).2.1 m sl->(∀b,F' b->¬dt k m sl b)->Step (λb=>F b\/dt k sw sl b) (λb=>F' b\/dt k m sl b) H H'->K (((w.close s).2.2.1:Int),(w.close s).2.2.2) H'):Fb.sp (aE k) H K:=by
 refine Fb.of ?_;unfold Fb.vc;unfold aE;refine aC rfl ?_;simp only[al];unfold RW.close at I;refine pH h.row ?_;by_cases e0:w.b.ready≠0
 ·rw[if_pos e0] at I;refine aC (by simpa using e0) ?_;refine aP (by simpa using e0) ?_;exact I F sw H hp h hd (.refl _ _)
 rw[if_neg e0] at I;refine aP (by simpa using e0) ?_;have B0:gU H F k p dp sw sl F H s w:=⟨hp,h,hd,.refl _ _,λb q=>.inl q⟩;refine Bk hg h hp hd hn (by omega) (by omega) h0 a6 λF1 f H1 p1 h1 u m1 D=>?_;have a8:0<=(w.out s).1.next:=by have:=p1.wf.tick;omega
 have B1:gU H F k p dp f sl F1 H1 (w.out s).1 (w.out s).2.1:=by
  refine⟨p1,h1,?_,m1,D⟩;rintro b v (q|q|q)
  ·rcases D b v with r|r
   ·exact hd b r (.inl q)
   ·have:=h.lt b (.inl q);omega
  ·rcases D b v with r|r
   ·exact hd b r (.inr (.inl (u b q)))
   ·have:=h.lt b (.inr (.inl (u b q)));omega
  ·rcases D b v with r|r
   ·exact hd b r (.inr (.inr q))
   ·have:=h.lt b (.inr (.inr q));omega
 -- the end of all
 have fin:∀(F':Nat->Prop) (m:Sl) (A:aa) (s':Pl) (w':RW),(∀b,ag m b->ag sw b)->gU H F k p dp m sl F' A s' w'->Step (λb=>F b\/dt k sw sl b) (λb=>F' b\/dt k m sl b) H A:=by
  intro F' m A s' w' hs B;refine⟨B.mod.mono λb _ q=>q.imp_right .inl,λb v=>?_⟩;rcases v with q|q|q|q
  ·rcases B.own b q with r|r
   ·exact .inl (.inl r)
   ·exact .inr r
  ·exact .inl (.inr (.inl q))
  ·exact .inl (.inr (.inr (.inl (hs b q))))
  ·exact .inl (.inr (.inr (.inr q)))
 refine ah (λg=>?_) (λg=>?_)
 ·have e1:(w.out s).2.2≠0:=by simpa using g
  rw[if_pos e1] at I;exact I F1 f H1 p1 h1 B1.dis (fin F1 f H1 _ _ u B1)
 have e1:¬(w.out s).2.2≠0:=by simpa using g
 rw[if_neg e1] at I;have b0:(w.out s).2.1.b=w.b/\(w.out s).2.1.rows=w.rows:=by
  unfold RW.out at e1 ⊢;split
  ·exact⟨rfl,rfl⟩
  ·rename_i hq;rw[if_neg hq] at e1;refine⟨?_,rfl⟩;show w.b.cr _=_;unfold Rb.cr;rw[if_neg e1]
 obtain⟨bb,bd⟩:=b0;rw[<-bb] at hn a7 bM;rw[<-bd] at bD;have U:¬F bh:=hp.eM;have V:bh≠k:=λq=>bC (.inl q);generalize b7:(w.out s).1=s1 at*;generalize b9:(w.out s).2.1=a at*;refine aj.ld (c:=av) (i:=0) (x:=aE p) h1.row (bF.get 0 _ rfl) ?_;refine aj.ld (c:=aK) (i:=1) (x:=a.b.name) h1.row (bF.get 1 _ rfl) ?_;refine Eb (B1.gl hg U V) p1 hn (by decide) (by decide) (by omega) (by omega) λF2 H2 p2 S2=>?_;have y:=B1.step p2 S2;have X:(s1.bt a.b.name 0).1.next<=s1.next+1:=s1.lv a8 (by omega)
 have af:a.head s1=if (s1.bt a.b.name 0).2.2≠0 then ((s1.bt a.b.name 0).1,(s1.bt a.b.name 0).2.2) else
   if (Pl.leave ((s1.bt a.b.name 0).1.set (s1.bt a.b.name 0).2.1 2 (eS a.b.width a.rows)) (s1.bt a.b.name 0).2.1).2≠0 then Pl.leave ((s1.bt a.b.name 0).1.set (s1.bt a.b.name 0).2.1 2 (eS a.b.width a.rows)) (s1.bt a.b.name 0).2.1
   else (Pl.leave ((s1.bt a.b.name 0).1.set (s1.bt a.b.name 0).2.1 2 (eS a.b.width a.rows)) (s1.bt a.b.name 0).2.1).1.flush a.b.name:=rfl
 have b1:=(s1.bt a.b.name 0).1.jB (s1.bt a.b.name 0).2.1 2 (eS a.b.width a.rows);have bl:=a7 (s1.bt a.b.name 0).2.1 (eS a.b.width a.rows);generalize (s1.bt a.b.name 0).1=s2 at*;generalize (s1.bt a.b.name 0).2.1=hh at*;generalize (s1.bt a.b.name 0).2.2=e2 at*
 -- what stands behind each cut
 obtain⟨J,G⟩:∃J:Pl×Int,J=if e2≠0 then (s2,e2) else s2.set hh 2 (eS a.b.width a.rows):=⟨_,rfl⟩
 obtain⟨X1,an⟩:∃X1:Pl×Int,X1=if e2≠0 then (s2,e2) else Pl.leave (s2.set hh 2 (eS a.b.width a.rows)) hh:=⟨_,rfl⟩
 have Y:X1=Pl.leave J hh:=by
  rw[an,G];by_cases q:e2≠0
  ·rw[if_pos q,if_pos q];exact(if_neg q).symm
  ·rw[if_neg q,if_neg q]
 have bn:a.head s1=if X1.2≠0 then X1 else X1.1.flush a.b.name:=by
  rw[af,an];by_cases q:e2≠0
  ·rw[if_pos q,if_pos q,if_pos q]
  ·rw[if_neg q,if_neg q]
 have b3:J.1.next<=s1.next+1:=by
  rw[G];by_cases q:e2≠0
  ·rw[if_pos q];exact X
  ·rw[if_neg q,b1];exact X
 have bs:X1.2=0->X1.1.d.aB<68719470000:=by
  rw[an];by_cases q:e2≠0
  ·rw[if_pos q];intro r;exact absurd r q
  ·rw[if_neg q];intro _;exact bl
 refine⟨λe A=>e=J.2/\∃F',gU H F k p dp f sl F' A J.1 a,?_,?_⟩
 ·refine ah (λg=>?_) (λg=>?_)
  ·have q:¬e2≠0:=by simpa using g
   rw[if_neg q] at G;refine⟨λA=>bF A k GD p a.b [f.v,.int .i64 (a.n:Int),sl.v,.int .i64 (a.rows:Int)],y.wr.row,?_⟩;refine aj.dw (c:=av) (i:=0) (x:=aE p) (cs:=λ_=>_) (λ_ q=>q) (λ_ _=>bF.get 0 _ rfl) ?_;refine aj.dw (c:=ab .i64) (i:=2) (x:=a.b.width) (cs:=λ_=>_) (λ_ q=>q) (λ_ _=>bF.get 2 _ rfl) ?_;refine aj.dw (c:=ab .i64) (i:=9) (x:=(a.rows:Int)) (cs:=λ_=>_) (λ_ q=>q) (λ_ _=>bF.tail (j:=3) rfl) ?_;have b2:O5.wrap a.b.width=((OQ a.b.width.toNat).toNat:Int):=by
    have:a.b.width=(a.b.width.toNat:Int):=by omega
    rw[this,oF];simp
   have bx:OI.wrap (a.rows:Int)=(a.rows:Int):=Jx (by omega);rw[b2,bx];have O:∀(A:aa) (t:Nat) (K':Sl->aa->Prop),aj A t gS #[.int .u64 (a.rows:Int)]->(∀r S,bP EB S r.a (cO (eL [(a.rows:Int)]))->r.n=(cO (eL [(a.rows:Int)])).length->Ext A S->K' r S)->zU.sp (Sl.mk (some ⟨t,0,none⟩) 1 1) A K':=by
    intro A t K' r hk;refine ur (xd r) (by simp) λr S o x=>hk r S ?_ ?_ x
    ·unfold bP;rw[iH,j9 (kz _)];exact o.reads
    ·have:=o.1;rw[cd];simpa using this.symm
   have tail:∀(A:aa) (F':Nat->Prop) (t:Nat) (r:Sl),gU H F k p dp f sl F' A s2 a->H2.size<=t->F'=F2->aj A t fx #[.int .u8 ((OQ a.b.width.toNat).toNat:Int)]->bP EB A r.a (cO (eL [(a.rows:Int)]))->r.n=(cO (eL [(a.rows:Int)])).length->
     ba ak N5 (Oa #[dQ,dQ] dQ #[(.slice (some ⟨t,0,none⟩) 1 1),r.v]) A λ(z:Sl) S=>bF S k GD p a.b [f.v,.int .i64 (a.n:Int),sl.v,.int .i64 (a.rows:Int)]/\
      zX.sp (aE p) hh (2:Int) z S λ(e:Int) bA=>bF bA k GD p a.b [f.v,.int .i64 (a.n:Int),sl.v,.int .i64 (a.rows:Int)]/\(e=J.2/\∃F',gU H F k p dp f sl F' bA J.1 a):=by
    intro A F' t r B ht hF rt hr C;subst hF;have o:=Ey rt;have bB:(cO (eL [(a.rows:Int)])).length=8:=by rw[cd];simp[eL,eN]
    refine az.append jo (s:=Sl.mk (some ⟨t,0,none⟩) 1 1) (x:=r) o hr C (by rw[bB];simp) (by rw[bB];simp) λz S oz gz _=>?_;have B':gU H F k p dp f sl F' S s2 a:=B.LS gz.1 (n:=H2.size) (by rintro b ⟨ad,q1,q2⟩;cases q1;subst q2;exact ht) (λb v=>p2.lt b v) (λb v=>y.wr.lt b v) y.mod.size;refine⟨B'.wr.row,?_⟩;refine DV (kd:=2) (B'.gl hg U V) B'.pool (bV oz) λF3 H3 p3 S3=>?_;have Z:=B'.step p3 S3;refine⟨Z.wr.row,?_⟩;rw[G];exact⟨rfl,F3,Z⟩
   refine⟨?_,?_⟩
   ·refine ax λA1 z1 r1 M=>⟨(y.ext M).wr.row,?_⟩;refine ax λA2 z2 r2 E=>⟨((y.ext M).ext E).wr.row,?_⟩;refine O A2 _ _ r2 λr A3 hr C Q=>⟨(((y.ext M).ext E).ext Q).wr.row,?_⟩;exact tail A3 F2 _ r (((y.ext M).ext E).ext Q) (Ob _) rfl ((r1.ext E).ext Q) hr C
   ·refine ax λA1 z1 r1 M=>⟨(y.ext M).wr.row,?_,?_⟩
    ·refine ax λA2 z2 r2 E=>⟨((y.ext M).ext E).wr.row,?_⟩;refine O A2 _ _ (r1.ext E) λr A3 hr C Q=>⟨(((y.ext M).ext E).ext Q).wr.row,?_⟩;exact tail A3 F2 _ r (((y.ext M).ext E).ext Q) (by omega) rfl (r2.ext Q) hr C
    ·refine O A1 _ _ r1 λr A2 hr C E=>⟨((y.ext M).ext E).wr.row,?_⟩;refine ax λA3 z3 r3 Q=>⟨(((y.ext M).ext E).ext Q).wr.row,?_⟩;have:=E.size;exact tail A3 F2 _ r (((y.ext M).ext E).ext Q) (by omega) rfl r3 (hr.ext Q) C
  ·have q:e2≠0:=by simpa using g
   rw[if_pos q] at G;rw[G];exact⟨rfl,F2,y⟩
 rintro _ A3 ⟨rfl,F3,Z⟩;refine⟨λe A=>e=X1.2/\∃F',gU H F k p dp f sl F' A X1.1 a,?_,?_⟩
 ·refine ah (λg=>?_) (λg=>?_)
  ·have q:J.2=0:=by simpa using g
   refine aj.ld (c:=av) (i:=0) (x:=aE p) Z.wr.row (bF.get 0 _ rfl) ?_;refine oq (Z.gl hg U V) Z.pool (by omega) λF4 H4 p4 S4=>?_;have e:X1=J.1.aY hh:=by rw[Y];exact if_pos q
   rw[e];exact⟨rfl,F4,Z.step p4 S4⟩
  ·have q:¬J.2=0:=by simpa using g
   have e:X1=J:=by rw[Y];exact if_neg q
   rw[e];exact⟨rfl,F3,Z⟩
 rintro _ A4 ⟨rfl,F4,B4⟩;refine⟨λe A=>e=(a.head s1).2/\∃F',gU H F k p dp f sl F' A (a.head s1).1 a,?_,?_⟩
 ·refine ah (λg=>?_) (λg=>?_)
  ·have q:X1.2=0:=by simpa using g
   refine aj.ld (c:=av) (i:=0) (x:=aE p) B4.wr.row (bF.get 0 _ rfl) ?_;refine aj.ld (c:=aK) (i:=1) (x:=a.b.name) B4.wr.row (bF.get 1 _ rfl) ?_;refine FD (B4.gl hg U V) B4.pool (bs q) λF5 H5 p5 S5=>?_;have e:a.head s1=X1.1.flush a.b.name:=by rw[bn];exact if_neg (by simpa using q)
   rw[e];exact⟨rfl,F5,B4.step p5 S5⟩
  ·have q:¬X1.2=0:=by simpa using g
   have e:a.head s1=X1:=by rw[bn];exact if_pos q
   rw[e];exact⟨rfl,F4,B4⟩
 rintro _ A5 ⟨rfl,F5,R⟩;unfold RW.ends at I;refine pS R.wr.row λA6 r6 m6 z6=>?_;refine ah (λg=>?_) (λg=>?_)
 ·have q:(a.head s1).2≠0:=by simpa using g
  rw[if_pos q] at I;have B6:gU H F k p dp f sl F5 A6 (a.head s1).1 {a with b:=a.b.cr (a.head s1).2}:=R.dj m6 ⟨r6,R.wr.wait.mod m6 λb v q=>R.wr.jG (q▸v),R.wr.last.mod m6 λb v q=>R.wr.yV (q▸v)⟩ λ_ q=>q;exact I F5 f A6 B6.pool B6.wr B6.dis (fin F5 f A6 _ _ u B6)
 ·have q:¬(a.head s1).2≠0:=by simpa using g
  rw[if_neg q] at I;have eb:a.b.cr (a.head s1).2=a.b:=if_neg q;rw[eb] at r6;refine aj.st r6 (i:=5) (by simp[bR]) rfl λA7 r7 m7 z7=>?_;rw[oW] at r7;have a1:=m6.trans m7;have B7:gU H F k p dp f sl F5 A7 (a.head s1).1 a.stop:=R.dj a1 ⟨r7,R.wr.wait.mod a1 λb v q=>R.wr.jG (q▸v),R.wr.last.mod a1 λb v q=>R.wr.yV (q▸v)⟩ λ_ q=>q;refine aj.ld (c:=ab .i64) (i:=9) (x:=(a.rows:Int)) B7.wr.row (bF.tail (j:=3) rfl) ?_;exact I F5 f A7 B7.pool B7.wr B7.dis (fin F5 f A7 _ _ u B7)
end
theorem Gu {H:aa}{z:FZ}{K:Bool->aa->Prop}(f:dx H z.2 z.1)(g:K (!z.1.pins.isEmpty) H):Eg.sp (aE z.2.p) H K:=by
 refine Eg.of ?_;unfold Eg.vc;simp only[al];refine f.row.ld (c:=ab .i64) (i:=5) (x:=(z.1.pins.length:Int)) rfl ?_;have e:decide ((z.1.pins.length:Int)>0)=!z.1.pins.isEmpty:=by
  cases z.1.pins with
  |nil=>rfl
  |cons a l=>simp
 rw[e];exact g
theorem vO {H:aa}{s:Sl}{l:List FZ}{K:Int->aa->Prop}(h:az dL tx H s (l.map λz=>z.2.p))(u:∀z∈l,dx H z.2 z.1)(hl:l.length<=1048576)
  (o:∀r:Int,decide (r>=0)=(l.any λz=>!z.1.pins.isEmpty)->K r H):Ja.sp s H K:=by
 refine Ja.of ?_;unfold Ja.vc;have g:=h.n (by decide);rw[OT] at g;refine ar l.length (λk x H1=>H=H1/\x=(k:Int)/\∀z∈l.take k,z.1.pins.isEmpty=true) ⟨rfl,rfl,by simp⟩ ?_;rintro k _ _ next hk ⟨rfl,rfl,j⟩ c
 refine ah (λe=>?_) (λe=>?_)
 ·have a:k<l.length:=by rw[g] at e;simpa using e
  refine rq h (i:=k) (q:=l[k].2.p) (by simp[a]) rfl λad v=>?_;refine Gu (u _ (OP a)) ?_;cases hs:l[k].1.pins.isEmpty with
  |false=>
    refine aP rfl (o _ ?_);rw[decide_eq_true (by omega)];exact(Qg.2 ⟨l[k],OP a,by rw[hs];rfl⟩).symm
  |true=>
    refine aC rfl (c a _ _ ⟨rfl,aD k (by omega),?_⟩);intro z f;rw[Oc a] at f;rcases Oe.1 f with q|q
    ·exact j z q
    ·simp at q;subst q;exact hs
 ·have m:k=l.length:=by rw[g] at e;simp at e;omega
  rw[m,Og (Ob _)] at j;refine o _ ?_;have:(l.any λz=>!z.1.pins.isEmpty)=false:=by
   rw[Tp];intro z f;rw[j z f];simp
  rw[this];rfl
theorem qM {H:aa}{s:Sl}{l:List FZ}{K:Bool->aa->Prop}(h:az dL tx H s (l.map λz=>z.2.p))(a:∀z∈l,dx H z.2 z.1)(hl:l.length<=1048576)
  (c:K (l.any λz=>!z.1.pins.isEmpty) H):Kj.sp s H K:=by
 refine Kj.of ?_;unfold Kj.vc;exact vO h a hl λr e=>by rw[e];exact c
theorem erase_filter:∀{l:List FZ} {i:Nat} {a:FZ},(∀(i j:Nat) (z z':FZ),l[i]?=some z->l[j]?=some z'->z.2.p=z'.2.p->i=j)->l[i]?=some a->l.eraseIdx i=l.filter λz=>!(z.2.p==a.2.p)
 |[],i,a,_,h=>by simp at h
 |b::l,0,a,hu,h=>by
   simp at h;subst h;rw[List.eraseIdx_cons_zero,Qf,if_neg (by simp)];refine(PO.2 λz f=>?_).symm;obtain⟨j,g⟩:=Oh.1 f;have:z.2.p≠b.2.p:=λe=>by have:=hu (j+1) 0 z b (by simpa using g) rfl e;omega
   simpa using this
 |b::l,i+1,a,hu,h=>by
   simp only[Po] at h;have c:b.2.p≠a.2.p:=λe=>by have:=hu 0 (i+1) b a rfl (by simpa using h) e;omega
   rw[TW,Qf,if_pos (by simpa using c)];rw[erase_filter (λi j z z' h1 m e=>by have:=hu (i+1) (j+1) z z' (by simpa using h1) (by simpa using m) e;omega) h]
def jf (zs w:List FZ):List FZ:=zs.filter λz=>!(w.any λu=>u.2.p==z.2.p)
theorem zy (zs w:List FZ)(a:FZ):jf zs (w++[a])=(jf zs w).filter λz=>!(z.2.p==a.2.p):=by
 unfold jf;rw[List.filter_filter];refine PS λz _=>?_;rw[List.any_append,List.any_cons,List.any_nil,Bool.or_false,Bool.not_or,Bool.and_comm];congr 2;exact Bool.beq_comm
theorem He {F:Nat->Prop}{H:aa}{p dp:Nat}{s:Pl}{n:ByteArray}{K:Int->aa->Prop}(hg:Gl H)(h:au F H p dp s)
  (B:∀F' H',au F' H' p dp (s.cT n).1->Step F F' H H'->K (s.cT n).2 H'):JD.sp (aE p) n H K:=by
 have a7:=h;obtain⟨x,D,hd,hF⟩:=h;refine JD.of ?_;unfold JD.vc;simp only[al];refine iL hd.pool ?_;unfold Pl.cT at B;refine ah (λhw=>?_) (λhw=>?_)
 ·have M:s.wrong≠0:=by simpa using hw
  rw[if_pos M] at B;exact B F H a7 (.refl _ _)
 have M:¬s.wrong≠0:=by simpa using hw
 rw[if_neg M] at B;refine hd.pool.head.ld (c:=av) (i:=0) (x:=aE dp) rfl ?_;refine tE hd.cv ?_;have fin:∀(e:Int) (x':PG) (D':Nat->Prop) (H1:aa) (t:Pl),bH x' D' H1 p dp t->Step (λb=>D b\/x.all p b) (λb=>D' b\/x'.all p b) H H1->(∀F' H',au F' H' p dp (Pl.out (t,e)).1->Step F F' H H'->K (Pl.out (t,e)).2 H')->
   vo.sp (aE p) e H1 λr S=>K r S:=by
  intro e x' D' H1 t h1 S1 hk;refine vr (hd.gl hg S1.mod) h1 λS U V=>?_;obtain⟨F',C,E⟩:=U.out (x:=x) (D:=D) (F:=F) (H:=H) hF (S1.trans V);exact hk F' S C E
 refine ah (λm=>?_) (λm=>?_)
 ·have O:(s.d.len n).2≠0:=by simpa using m
  rw[if_pos O] at B;exact fin _ x D H s hd (.refl _ _) B
 have O:¬(s.d.len n).2≠0:=by simpa using m
 rw[if_neg O] at B;refine Jz hd.pool λsl H1 o1 e1 f1=>?_;have I:=hd.ext e1;have o:=o1.n (by decide);rw[OT] at o;have bl:(x.of n).length<=4096:=by
  have h1:=PG.yf hd.pool.fs n;have U:=s.iB n;rw[<-h1,OT] at U;have:=hd.pool.wf.len;have:=hd.pool.wf.most;omega
 have G:((x.of n).any λz=>!z.1.pins.isEmpty)=s.fs.any (λf=>f.name.toList==n.toList&&!f.pins.isEmpty):=by
  rw[TQ,Qg,Qg];constructor
  ·rintro⟨z,m,e⟩;obtain⟨C,E⟩:=PG.fe.1 m;refine⟨z.1,by rw[hd.pool.fs];exact Ol.2 ⟨z,C,rfl⟩,?_⟩;rw[E,e];simp
  ·rintro⟨f,hf,e⟩;rw[hd.pool.fs] at hf;obtain⟨z,m,rfl⟩:=Ol.1 hf;simp only[Oj] at e;exact⟨z,PG.fe.2 ⟨m,gJ (by simpa using e.1)⟩,e.2⟩
 refine qM o1 (λz m=>I.pool.frames.each z (PG.fe.1 m).1) (by omega) ?_;rw[G];cases X:s.fs.any (λf=>f.name.toList==n.toList&&!f.pins.isEmpty) with
 |true=>
   rw[X,if_pos rfl] at B;obtain⟨F',C,E⟩:=I.out (x:=x) (D:=D) (F:=F) (H:=H) hF (Step.ext e1);exact aP rfl (B F' H1 C E)
 |false=>
   rw[X,if_neg (by simp)] at B;refine aC rfl ?_;have Q:∀z∈x.of n,z.1.pins=[]:=by
    intro z m;rw[X] at G;have:=(Tp.1 G) z m;simpa using this
   refine ar (x.of n).length (λk z A=>z=(k:Int)/\∃y,bH y D A p dp {s with fs:=(jf x.zs ((x.of n).take k)).map (·.1)}/\y.zs=jf x.zs ((x.of n).take k)/\Step (λb=>D b\/x.all p b) (λb=>D b\/y.all p b) H1 A/\az dL tx A sl ((x.of n).map λz=>z.2.p)) ⟨rfl,x,?_,?_,.refl _ _,o1⟩ ?_
   ·have e:(jf x.zs ((x.of n).take 0)).map (·.1)=s.fs:=by
     rw[hd.pool.fs];unfold jf PG.fs;rw[PO.2 (λ_ _=>by simp)]
    rw[e];exact I
   ·unfold jf;rw[PO.2 (λ_ _=>by simp)]
   rintro k _ A next hk ⟨rfl,y,g,hy,SA,oA⟩ R
   have Y:Gl A:=I.gl (hg.mod e1 id) SA.mod;refine ah (λZ=>?_) (λZ=>?_)
   ·have J:k<(x.of n).length:=by rw[o] at Z;simpa using Z
    have af:(x.of n)[k]∈x.of n:=OP J;obtain⟨an,bn⟩:=PG.fe.1 af;have a1:(x.of n)[k]∈y.zs:=by
     rw[hy];unfold jf;rw[OK];refine⟨an,?_⟩;rw[Bool.not_eq_true',Tp];intro u hu e;obtain⟨j,hj,rfl⟩:=List.getElem_of_mem hu;simp only[OW] at hj;simp only[List.getElem_take,beq_iff_eq] at e;have a8:(x.of n)[j]∈x.of n:=OP (by omega);have e2:=hd.pool.frames.ptr (PG.fe.1 a8).1 an e;have bb:(x.of n).Nodup:=by
      have m:x.zs.Nodup:=by
       have:=hd.pool.wf.keys;rw[hd.pool.fs] at this;unfold PG.fs at this;rw[Py] at this;exact kj _ this
      unfold PG.of;exact(O6 _ _).symm.nodup (m.filter _)
     have:=(List.getElem_inj bb).1 e2;omega
    obtain⟨i,hi⟩:=Oh.1 a1;refine rq oA (i:=k) (q:=(x.of n)[k].2.p) (by simp[J]) rfl λad ha=>?_;refine g.pool.head.ld (c:=bT) (i:=2) (x:=some y.mf) rfl ?_;simp only[al];refine dx.Bs (g.pool.frames.each _ a1) ?_;refine ze Y g hi (Q _ af) λbs v A2 U V m2=>?_;have e2:y.zs.eraseIdx i=jf x.zs ((x.of n).take (k+1)):=by
     rw[Oc J,zy,<-hy];refine erase_filter (λa c z z' C E e=>?_) hi;by_cases a6:a=c
     ·exact a6
     ·exact absurd (.inl e) (g.pool.frames.apart a c z z' C E a6 z.2.p (.inl rfl))
    refine R J _ _ ⟨aD k (by omega),_,?_,e2,SA.trans V,?_⟩
    ·have e3:(Pl.drop {s with fs:=(jf x.zs ((x.of n).take k)).map (·.1)} i)={s with fs:=(jf x.zs ((x.of n).take (k+1))).map (·.1)}:=by
      unfold Pl.drop;simp only;rw[<-mc,<-e2,hy]
     rw[<-e3];exact U
    ·refine oA.keep λb X hl=>m2.same b hl ?_;intro e;obtain⟨c,q⟩:=oA.obj b X;rw[e,g.pool.frames.fmap.obj] at q;cases q
   ·have bd:k=(x.of n).length:=by rw[o] at Z;simp at Z;omega
    have e4:({s with fs:=(jf x.zs ((x.of n).take k)).map (·.1)}:Pl)=s.forget n:=by
     unfold Pl.forget;rw[bd,Og (Ob _),hd.pool.fs];unfold jf PG.fs;rw[Up];congr 2;refine PS λz m=>?_;show (!_)=!(z.1.name.toList==n.toList);congr 1;rw[TQ,Qg,beq_iff_eq];constructor
     ·rintro⟨u,hu,e⟩;obtain⟨C,E⟩:=PG.fe.1 hu;have:=hd.pool.frames.ptr C m (by simpa using e);rw[<-this,E]
     ·intro e;exact⟨z,PG.fe.2 ⟨m,gJ e⟩,by simp⟩
    rw[e4] at g;refine g.pool.head.ld (c:=av) (i:=0) (x:=aE dp) rfl ?_;refine De g.cv λD2 S a2 V=>?_;obtain⟨C,E⟩:=g.jP Y a2 V;exact fin _ y D2 S _ C ((SA.trans E).ahead e1) B
end Go.Proofs.YtmkbhnholcaghaaGreatDoor
namespace Go.Proofs.YtmkbhnholcaghaaGreatDoor
def v0 (j:Nat)(l:List Int):Prop:=l=[(j:Int)+1]
def vA (j:Nat)(l:List Int):Prop:=(j=2/\l=[])\/(j≠2/\l=[(j:Int)+1])
def vB (j:Nat)(l:List Int):Prop:=j≠2/\l=[(j:Int)+1]
theorem Fu {i n:Int}{H:aa}{K:Int->aa->Prop}(m:n<=9223372036854775807)
  (f:K (if n<1 then 0 else i.emod n) H):Jj.sp i n H K:=by
 refine Jj.of ?_;unfold Jj.vc;refine ah (λh=>?_) (λh=>?_)
 ·have:n<1:=by simpa using h
  simpa[this] using f
 ·have o:1<=n:=by simpa using h
  refine⟨by omega,?_⟩;rw[if_neg (by omega)] at f;refine ah (λh=>?_) (λh=>?_)
  ·have a:i.tmod n<0:=by simpa using h
   have e:i.emod n=i.tmod n+n:=by
    rw[U4] at a ⊢;split at a
    ·have:=Vc i (show n≠0 by omega);omega
    ·rename_i g;rw[if_neg g];have:(n.natAbs:Int)=n:=by omega
     have e2:i%n=i.emod n:=rfl;omega
   have j:-n<i.tmod n:=by
    rw[U4];have:=Vc i (show n≠0 by omega);split<;>omega
   rw[wrap64 (by omega) (by omega),<-e];exact f
  ·have c:0<=i.tmod n:=by simpa using h
   have e:i.emod n=i.tmod n:=by
    rw[U4] at c ⊢;split
    ·simp;rfl
    ·rename_i g;rw[if_neg g] at c;have:=Int.emod_lt_of_pos i (show 0<n by omega);have:(n.natAbs:Int)=n:=by omega
     omega
   rw[<-e];exact f
open Go.MapKept
variable {H A:aa}{p dp:Nat}{s:Pl}{n:ByteArray}
end Go.Proofs.YtmkbhnholcaghaaGreatDoor
namespace Go.Proofs.YtmkbhnholcaghaaGreatDoor
open Go.MapKept
theorem qT:(zc N5 qV).size=6:=by kernel_rfl
theorem mQ:nv N5 qV 6=true:=by kernel_rfl
def CX (pp:Option Addr)(n:ByteArray)(w:Int):Array Value:=#[.pointer pp,.string n,.int .i64 w,.int .i64 (aH w),.int .i64 0,.bool false]
theorem oy (pp:Option Addr)(n:ByteArray)(w:Int):∀v∈(CX pp n w).toList,v.oneCell'=true:=by
 intro v a;simp[CX] at a;rcases a with rfl|rfl|rfl|rfl|rfl|rfl<;>rfl
theorem uM {pp:Option Addr}{n:ByteArray}{w:Int}{H:aa}{K:((Option Addr×ByteArray×Int×Int×Int×Bool)×Int)->aa->Prop}
  {e:Int} (he:(if pp.isNone=true then 1 else if aH w=0 then 60 else 0)=e) (a:∀H',Ext H H'->K ((pp,n,w,aH w,0,false),e) H'):Ip.sp pp n w H K:=by
 subst he;refine Ip.of ?_;unfold Ip.vc;refine ax λH1 E y z=>?_;refine nQ ?_;refine ax λG z2 r2 e2=>?_;refine aj.iF (cs:=CX pp n w) r2 mQ qT (oy _ _ _) λg u m3 z3=>?_;have j:Ext H g:=⟨by have:=m3.size;omega,λb m _=>(m3.same b (by omega) (by intro q;have:b=H1.size:=q;omega)).trans ((e2.same b (by omega) id).trans (z.same b m id))⟩;have o:aj g H.size qV (zc N5 qV):=(y.ext e2).mod m3 (by intro q;have:H.size=H1.size:=q;omega);have fin:∀e:Int,(∀H',Ext H H'->K ((pp,n,w,aH w,0,false),e) H')->c8 (bQ [av,aK,(ab .i64),(ab .i64),(ab .i64),ay]) 6 g ⟨H1.size,0,none⟩ λ(x:(Option Addr×ByteArray×Int×Int×Int×Bool))=>jk N5 (Ot qV (.pointer (some ⟨H.size,0,none⟩)) (.agg #[(.pointer x.1),(.string x.2.1),(.int .i64 x.2.2.1),(.int .i64 x.2.2.2.1),(.int .i64 x.2.2.2.2.1),(.bool x.2.2.2.2.2)])) g λv=>c8 (bQ [av,aK,(ab .i64),(ab .i64),(ab .i64),ay]) 6 v ⟨H.size,0,none⟩ λ(res:(Option Addr×ByteArray×Int×Int×Int×Bool))=>K ((res.1,res.2.1,res.2.2.1,res.2.2.2.1,res.2.2.2.2.1,res.2.2.2.2.2),e) v:=by
  intro e hk;refine aj.c8 (x:=(pp,n,w,aH w,0,false)) u rfl rfl ?_;refine aj.iF (cs:=CX pp n w) o mQ qT (oy _ _ _) λB C m4 z4=>?_;refine aj.c8 (x:=(pp,n,w,aH w,0,false)) C rfl rfl ?_;exact hk B ⟨by have:=m4.size;have:=j.size;omega,λb m _=>(m4.same b (by have:=j.size;omega) (by intro q;have:b=H.size:=q;omega)).trans (j.same b m id)⟩
 refine⟨λ_ A=>A=g/\pp.isNone=false/\¬aH w=0,?_,?_⟩
 ·refine ah (λh=>?_) (λh=>?_)
  ·rw[if_pos h] at a;exact fin 1 a
  ·rw[if_neg (by rw[h];simp)] at a;refine aj.ld (c:=ab .i64) (i:=3) (x:=aH w) u rfl ?_;refine ah (λf=>?_) (λf=>?_)
   ·rw[if_pos (by simpa using f)] at a;exact fin 60 a
   ·exact⟨rfl,h,by simpa using f⟩
 ·rintro _ A ⟨rfl,h1,D⟩;rw[if_neg (by rw[h1];simp),if_neg D] at a;exact fin 0 a
def bf:Sl:=Sl.mk none 0 0
theorem aS (b:Nat):¬ag bf b:=by rintro⟨ad,q,_⟩;cases q
variable {F:Nat->Prop}{H:aa}{p dp:Nat}{s:Pl}{n:ByteArray}{W:Int}{K:(Option Addr×Int)->aa->Prop}
theorem wT (hg:Gl H)(S:au F H p dp s)(hn:n.size<=9223372036854775807)(G:s.d.aB<68719470000)(af:s.next<1099511627776)(h0:0<=s.next)(j:s.Fit)
  (a:∀F' H',au F' H' p dp (bj s n W).1->Step F F' H H'->(bj s n W).2.1=none->K (none,(bj s n W).2.2) H')
  (c:∀F' H' k w,au F' H' p dp (bj s n W).1->Step F F' H H'->(bj s n W).2.1=some w->pf H' k p w bf bf->H.size<=k->¬F' k->K (aE k,(bj s n W).2.2) H'):GZ.sp (aE p) n W H K:=by
 refine GZ.of ?_;unfold GZ.vc;refine uM (e:=if aH W=0 then 60 else 0) (if_neg (by unfold aE;simp)) λH1 h=>?_;refine ax λH2 z2 r2 e2=>?_;refine aj.iF (cs:=CX (aE p) n W) r2 mQ qT (oy _ _ _) λm r3 m3 z3=>?_;have I:Ext H m:=⟨by have:=m3.size;have:=h.size;omega,λb hb _=>(m3.same b (by have:=h.size;omega) (by intro q;have:b=H1.size:=q;have:=h.size;omega)).trans ((e2.same b (by have:=h.size;omega) id).trans (h.same b hb id))⟩;have p3:=S.ext I;have g3:Gl m:=hg.mod I id;have U:Step F F H m:=⟨I.mod,λb q=>.inl q⟩;have an:=h.size;have hk:¬F H1.size:=λq=>by have:=S.lt _ q;omega
 by_cases B:aH W=0
 ·simp only[if_pos B];have em:bj s n W=(s,none,60):=if_pos B;rw[em] at a;refine aC rfl ?_;refine⟨λe A=>e=60/\A=m,aC rfl ⟨rfl,rfl⟩,?_⟩;rintro _ A ⟨rfl,rfl⟩;exact aP rfl (a F A p3 U rfl)
 simp only[if_neg B];refine aP rfl ?_;refine xf p3 ?_;obtain⟨D,d1,_,d3⟩:=au.cv g3 p3;refine C9 d1 λD' J d4 S4=>?_;obtain⟨V,p4,C⟩:=d3 D' J _ d4 S4;have em:bj s n W=if (s.d.create n).2≠0 then (s.bE (s.d.create n).1,none,(s.d.create n).2)
   else if ((s.bE (s.d.create n).1).more n 0 []).2≠0 then (((s.bE (s.d.create n).1).more n 0 []).1,none,((s.bE (s.d.create n).1).more n 0 []).2)
   else (((s.bE (s.d.create n).1).more n 0 []).1,some (vS n W),0):=by unfold bj;rw[if_neg B]
 have M:(s.bE (s.d.create n).1).d.aB<68719470000:=by have:=s.d.lF n;show (s.d.create n).1.aB<_;omega
 have O:(s.bE (s.d.create n).1).Fit:=j.bE (s.d.j5 n);have a1:(s.bE (s.d.create n).1).next=s.next:=rfl
 generalize s.bE (s.d.create n).1=Y at*;generalize (s.d.create n).2=o at*;have u:¬V H1.size:=λq=>by
  rcases C.own _ q with r|r
  ·exact hk r
  ·omega
 have Q:bF J H1.size qV p ⟨n,W,0,false⟩ []:=(show bF m H1.size qV p ⟨n,W,0,false⟩ [] from r3).mod C.mod hk;have v:=U.trans C;have g4:Gl J:=g3.mod C.mod p3.eM;obtain⟨X,y⟩:∃X:Pl×Int,X=if o≠0 then (Y,o) else Y.more n 0 []:=⟨_,rfl⟩
 have R:bj s n W=if X.2≠0 then (X.1,none,X.2) else (X.1,some (vS n W),0):=by
  rw[em,y];by_cases q:o≠0
  ·rw[if_pos q,if_pos q,if_pos q]
  ·rw[if_neg q,if_neg q]
 refine⟨λe A=>e=X.2/\∃F',au F' A p dp X.1/\Step F F' H A/\bF A H1.size qV p ⟨n,W,0,false⟩ [],?_,?_⟩
 ·refine ah (λf=>?_) (λf=>?_)
  ·have q:¬o≠0:=by simpa using f
   rw[if_neg q] at y;refine BO (kd:=0) (sl:=Sl.mk none 0 0) (l:=[]) g4 Q p4 u ⟨rfl,Reads.nil _ _⟩ (by intro ad q;cases q) hn M (by omega) (by omega) O λE H5 z g=>?_;rw[y];exact⟨rfl,E,z,v.trans g,Q.mod g.mod u⟩
  ·have q:o≠0:=by simpa using f
   rw[if_pos q] at y;rw[y];exact⟨rfl,V,p4,v,Q⟩
 rintro _ A ⟨rfl,E,z,g,b5⟩;rw[R] at a c;refine ah (λf=>?_) (λf=>?_)
 ·have q:X.2≠0:=by simpa using f
  rw[if_pos q] at a;exact a E A z g rfl
 ·have q:¬X.2≠0:=by simpa using f
  rw[if_neg q] at c;refine aj.c8 (x:=(aE p,n,W,aH W,0,false)) b5 rfl rfl ?_;refine ax λH6 z6 r6 Z=>?_;have:=g.mod.size;refine c E H6 A.size (vS n W) (z.ext Z) ⟨g.mod.trans' Z λb _ q=>q.elim,g.own⟩ rfl ⟨r6,az.nil _ _ _,aM.nil _ _ _ _⟩ (by omega) λq=>by have:=z.lt _ q;omega
end Go.Proofs.YtmkbhnholcaghaaGreatDoor
namespace Go.Proofs.YtmkbhnholcaghaaGreatDoor
open Go.MapKept
def kI:Option Nat->Int
 |none=>-1
 |some k=>(k:Int)
structure zl (H:aa)(k p:Nat)(r:RR)(si:Sl)(rs:List Sl):Prop where
 row:bF H k Me p r.b [.int .i64 (r.rows:Int),.int .i64 (r.at_:Int),.int .i64 (kI r.page),si.v]
 ins:aO H 0 si rs r.ins
def qJ (k:Nat)(si:Sl)(rs:List Sl)(b:Nat):Prop:=b=k\/ag si b\/∃x∈rs,ag x b
section
variable {H:aa}{k p:Nat}{r:RR}{si:Sl}{rs:List Sl}
theorem zl.lt (h:zl H k p r si rs):∀b,qJ k si rs b->b<H.size:=by
 rintro b (rfl|q|⟨x,a,q⟩)
 ·exact aA h.row
 ·exact(h.ins.block.1 b q).2
 ·exact(h.ins.block.2 x a b q).2
theorem zl.mod {G:Nat->Prop}{H':aa}(h:zl H k p r si rs)(m:Mod G H H')(a:∀b,qJ k si rs b->¬G b):zl H' k p r si rs:=
 ⟨h.row.mod m (a k (.inl rfl)),h.ins.mod m (λb c=>a b (.inr (.inl c))) λx e b c=>a b (.inr (.inr ⟨x,e,c⟩))⟩
theorem zl.CU (h:zl H k p r si rs):¬ag si k:=λq=>by
 obtain⟨cur,a⟩:=h.ins.out.obj k q;exact absurd (aF a h.row) (by decide)
theorem zl.jv (h:zl H k p r si rs):∀x∈rs,¬ag x k:=λx a q=>by
 obtain⟨l,hl⟩:=h.ins.rowAt a;obtain⟨cur,c⟩:=hl.obj k q;exact absurd (aF c h.row) (by decide)
end
structure iU (H0:aa)(F0 O0:Nat->Prop)(k p dp:Nat)(si:Sl)(rs:List Sl)(F:Nat->Prop)(A:aa)(s:Pl)(r:RR):Prop where
 pool:au F A p dp s
 rd:zl A k p r si rs
 dis:∀b,F b->¬qJ k si rs b
 mod:Mod (λb=>F0 b\/b=k) H0 A
 own:∀b,F b->F0 b\/H0.size<=b
 own2:∀b,qJ k si rs b->O0 b\/H0.size<=b
section
variable {H0:aa}{F0 O0:Nat->Prop}{k p dp:Nat}{si:Sl}{rs:List Sl}{F:Nat->Prop}{A:aa}{s:Pl}{r:RR}
theorem iU.step {F':Nat->Prop}{c:aa}{s':Pl}(h:iU H0 F0 O0 k p dp si rs F A s r)(e:au F' c p dp s')(S:Step F F' A c):iU H0 F0 O0 k p dp si rs F' c s' r:=by
 refine⟨e,h.rd.mod S.mod λb a q=>h.dis b q a,λb a q=>?_,h.mod.trans' S.mod λb a q=>?_,λb a=>?_,h.own2⟩
 ·rcases S.own b a with r|r
  ·exact h.dis b r q
  ·have:=h.rd.lt b q;omega
 ·rcases h.own b q with r|r
  ·exact .inl r
  ·omega
 ·rcases S.own b a with r|r
  ·exact h.own b r
  ·right;have:=h.mod.size;omega
theorem iU.ext {a:aa}(h:iU H0 F0 O0 k p dp si rs F A s r)(e:Ext A a):iU H0 F0 O0 k p dp si rs F a s r:=h.step (h.pool.ext e) ⟨e.mod,λ_ q=>.inl q⟩
theorem iU.gl (h:iU H0 F0 O0 k p dp si rs F A s r)(a:Gl H0)(h1:¬F0 bh)(c:bh≠k):Gl A:=a.keep (h.mod.same _ a.lt λq=>q.elim h1 c)
theorem iU.dj {f:aa}{r':RR}{a:Sl}{c:List Sl}(h:iU H0 F0 O0 k p dp si rs F A s r)(m:Mod (λb=>b=k) A f)(g:zl f k p r' a c)(hs:∀b,qJ k a c b->qJ k si rs b\/(H0.size<=b/\¬F b)):iU H0 F0 O0 k p dp a c F f s r':=by
 refine⟨h.pool.keep λb e hl=>m.same b hl λq=>h.dis b e (.inl q),g,λb e q=>?_,h.mod.trans' m λb _ q=>.inr q,h.own,λb q=>?_⟩
 ·rcases hs b q with u|u
  ·exact h.dis b e u
  ·exact u.2 e
 ·rcases hs b q with u|u
  ·exact h.own2 b u
  ·exact .inr u.1
theorem iU.cr {e:Int}{K:Int->aa->Prop}(h:iU H0 F0 O0 k p dp si rs F A s r)(g:∀a,iU H0 F0 O0 k p dp si rs F a s {r with b:=r.b.cr e}->A.size<=a.size->K e a):BN.sp (aE k) e A K:=by
 refine pS h.rd.row λa r' f z'=>g a (h.dj f ⟨r',h.rd.ins.mod f (λb c q=>h.rd.CU (q▸c)) λx j b c q=>h.rd.jv x j (q▸c)⟩ λb q=>.inl q) (Nat.le_of_eq z'.symm)
theorem BX {b:List Int}{w:Int}:∀l∈jm b w,l.length<=16:=by
 unfold jm;split
 ·rename_i h;unfold eG at h;simp only[Oj,decide_eq_true_eq] at h;have hw:w<=16:=by
   have h1:=h.1.1;unfold bz at h1;split at h1
   ·exact absurd rfl h1
   ·omega
  intro l hl;obtain⟨k,_,rfl⟩:=Ol.1 hl;rw[fO];omega
 ·simp
structure RR.Ok (r:RR):Prop where
 room:0<r.b.room
 at_:r.at_<=r.rows
 page:∀j,r.page=some j->r.ins.length=min r.b.room (r.rows - j*r.b.room)
 rows:r.rows<=528482304
 cols:∀l∈r.ins,l.length<=16
theorem cZ (b:Rb):aH b.width=(b.room:Int)/\b.room<=504:=by
 unfold Rb.room;have h:=fu b.width;have a:0<=aH b.width/\aH b.width<=504:=by
  unfold aH;split
  ·omega
  ·refine⟨Wb (by omega) (by omega),V0 _ (by omega)⟩
 omega
theorem Rb.kH (b:Rb)(e:Int):(b.cr e).room=b.room/\(b.cr e).width=b.width/\(b.cr e).name=b.name:=by
 unfold Rb.cr;split<;>exact⟨rfl,rfl,rfl⟩
theorem RR.oN {j:Nat}(h:r.Ok):(r.load s j).2.1.Ok/\(r.load s j).2.1.rows=r.rows/\(r.load s j).2.1.at_=r.at_/\(r.load s j).2.1.b.width=r.b.width/\(r.load s j).2.1.b.name=r.b.name/\((r.load s j).2.2=0->(r.load s j).2.1.b=r.b/\(r.load s j).2.1.page=some j):=by
 unfold RR.load;split
 ·rename_i g;exact⟨h,rfl,rfl,rfl,rfl,λ_=>⟨rfl,g⟩⟩
 ·split
  ·rename_i _ he;obtain⟨a,c,e⟩:=r.b.kH (s.look r.b.name ((j:Int)+1)).2.2.2;exact⟨⟨by simp only[a];exact h.room,h.at_,by simp only[a];exact h.page,h.rows,h.cols⟩,rfl,rfl,c,e,λq=>absurd q he⟩
  ·split
   ·rename_i f;refine⟨⟨h.room,h.at_,λi hi=>?_,h.rows,BX⟩,rfl,rfl,rfl,rfl,λ_=>⟨rfl,rfl⟩⟩;simp only at hi;cases hi;unfold RR.fits at f;simp only[Oj,decide_eq_true_eq] at f;exact f.2
   ·obtain⟨a,c,e⟩:=r.b.kH 280;exact⟨⟨by simp only[a];exact h.room,h.at_,by simp only[a];exact h.page,h.rows,h.cols⟩,rfl,rfl,c,e,λq=>by simp at q⟩
set_option maxHeartbeats 1000000 in
theorem Gn {j:Nat}{K:Int->aa->Prop}(hg:Gl H0)(S:¬F0 bh)(U:bh≠k)(h:iU H0 F0 O0 k p dp si rs F A s r)(ok:r.Ok)(hj:j*r.b.room<=r.rows)(bd:j<1099511627776)
  (hn:r.b.name.size<=9223372036854775807) (v:s.d.aB<68719470000) (V:s.next<1099511627776) (h0:0<=s.next)
  (f:∀F' X Y Z,iU H0 F0 O0 k p dp X Y F' Z (r.load s j).1 (r.load s j).2.1->A.size<=Z.size->K (r.load s j).2.2 Z):Jw.sp (aE k) (j:Int) A K:=by
 refine Jw.of ?_;unfold Jw.vc;unfold aE;simp only[al];obtain⟨D,bl⟩:=cZ r.b;unfold RR.load at f;refine aj.ld (c:=ab .i64) (i:=8) (x:=kI r.page) h.rd.row (bF.tail (j:=2) rfl) ?_;by_cases O:r.page=some j
 ·rw[if_pos O] at f;refine aP (by rw[O];simp[kI]) ?_;exact f F si rs A h (Ob _)
 rw[if_neg O] at f;refine aC ?_ ?_
 ·cases e:r.page with
  |none=>simp only[kI,beq_eq_false_iff_ne,ne_eq];omega
  |some i=>
    have:i≠j:=λq=>O (by rw[e,q]);simp only[kI,beq_eq_false_iff_ne,ne_eq];omega
 rw[aD j (by omega)];refine yd (h.gl hg S U) h.rd.row h.pool (λq=>h.dis k q (.inl rfl)) (by omega) hn v V h0 λQ A1 sl p1 E o1 f1 af=>?_;have e1:((j+1:Nat):Int)=(j:Int)+1:=by omega
 rw[e1] at p1 o1 af ⊢;have G:=h.step p1 E;generalize (s.look r.b.name ((j:Int)+1)).1=s1 at*;generalize (s.look r.b.name ((j:Int)+1)).2.1=kd at*;generalize (s.look r.b.name ((j:Int)+1)).2.2.1=b at*;generalize (s.look r.b.name ((j:Int)+1)).2.2.2=e at*;refine ah (λa=>?_) (λa=>?_)
 ·have e0:e≠0:=by simpa using a
  rw[if_pos e0] at f;exact G.cr λA2 m z2=>f Q si rs A2 m (Oo E.mod.size z2)
 have e0:¬e≠0:=by simpa using a
 rw[if_neg e0] at f;refine aj.ld (c:=ab .i64) (i:=2) (x:=r.b.width) G.rd.row (bF.get 2 _ rfl) ?_;refine u4 (b:=eH b) (bV o1) o1.cap (λx B=>?_) (by rw[kC];omega) λC y A2 ro e2=>?_
 ·unfold eH at B;obtain⟨c,_,rfl⟩:=Ol.1 B;have:=c.toNat_lt;omega
 have m:=G.ext e2;have g:r.fits j kd b=true↔(kd=1/\pM (eH b) r.b.width=0/\(jm (eH b) r.b.width).length=min r.b.room (r.rows - j*r.b.room)):=by
  unfold RR.fits pM;simp only[Oj,beq_iff_eq,decide_eq_true_eq];cases eG (eH b) r.b.width<;>simp
 refine ah (λa=>?_) (λa=>?_)
 ·have z:¬r.fits j kd b=true:=λq=>by
   obtain⟨q1,q2,_⟩:=g.1 q;rw[q2,q1] at a;simp at a
  rw[if_neg z] at f;exact m.cr λR B3 z3=>f Q si rs R B3 (by have:=E.mod.size;have:=e2.size;omega)
 have I:kd=1/\pM (eH b) r.b.width=0:=by
  simp only[Bool.or_eq_false_iff,bne_eq_false_iff_eq] at a;refine⟨?_,a.2⟩;have:kd.toNat=1:=by omega
  exact Qw.1 this
 refine aj.ld (c:=ab .i64) (i:=3) (x:=aH r.b.width) m.rd.row (bF.get 3 _ rfl) ?_;refine aj.ld (c:=ab .i64) (i:=6) (x:=(r.rows:Int)) m.rd.row (bF.tail (j:=0) rfl) ?_;refine aj.ld (c:=ab .i64) (i:=3) (x:=aH r.b.width) m.rd.row (bF.get 3 _ rfl) ?_;have an:(j:Int)*(r.b.room:Int)=((j*r.b.room:Nat):Int):=by simp
 have a1:N6.wrap ((j:Int)*aH r.b.width)=((j*r.b.room:Nat):Int):=by
  rw[D,an];have:=ok.rows;exact wrap64 (by omega) (by omega)
 have a6:N6.wrap ((r.rows:Int) - ((j*r.b.room:Nat):Int))=((r.rows - j*r.b.room:Nat):Int):=by
  have:=ok.rows;rw[wrap64 (by omega) (by omega)];omega
 rw[a1,a6,D,ro.n];have J:(if ((r.rows - j*r.b.room:Nat):Int)<(r.b.room:Int) then ((r.rows - j*r.b.room:Nat):Int) else (r.b.room:Int))=((min r.b.room (r.rows - j*r.b.room):Nat):Int):=by
  split<;>omega
 rw[J];refine ah (λa=>?_) (λa=>?_)
 ·have z:¬r.fits j kd b=true:=λq=>by
   obtain⟨_,_,q3⟩:=g.1 q;rw[q3] at a;simp at a
  rw[if_neg z] at f;exact m.cr λR B3 z3=>f Q si rs R B3 (by have:=E.mod.size;have:=e2.size;omega)
 have a7:((jm (eH b) r.b.width).length:Int)=((min r.b.room (r.rows - j*r.b.room):Nat):Int):=by simpa only[bne_eq_false_iff_eq] using a
 have hf:r.fits j kd b=true:=g.2 ⟨I.1,I.2,Int.ofNat.inj a7⟩;rw[if_pos hf] at f;refine aj.st m.rd.row (i:=8) (by simp[bR]) rfl λR r3 m3 z3=>?_;refine aj.st r3 (i:=9) (by simp[bR]) rfl λA4 r4 m4 z4=>?_;have m24:=m3.trans m4;have a8:bF A4 k Me p r.b [.int .i64 (r.rows:Int),.int .i64 (r.at_:Int),.int .i64 (kI (some j)),C.v]:=by
  have e:((bR p r.b++[.int .i64 (r.rows:Int),.int .i64 (r.at_:Int),.int .i64 (kI r.page),si.v]).toArray.setIfInBounds 8 (.int .i64 (j:Int))).setIfInBounds 9 C.v=(bR p r.b++[.int .i64 (r.rows:Int),.int .i64 (r.at_:Int),.int .i64 (kI (some j)),C.v]).toArray:=by
   simp[bR,kI]
  rw[e] at r4;exact r4
 have o:=ro.block;have bn:k<A1.size:=aA G.rd.row;have bs:=G.mod.size;have bb:aO A2 0 C y (jm (eH b) r.b.width):=⟨ro.out.w5,ro.len,λi x l h1 h2=>(ro.row i x l h1 h2).w5,ro.apart⟩;have rn:zl A4 k p {r with page:=some j,ins:=jm (eH b) r.b.width} C y:=
  ⟨a8,bb.mod m24 (λb M q=>by have:=(o.1 b M).1;omega) λx B b M q=>by have:=(o.2 x B b M).1;omega⟩
 refine f Q C y A4 (m.dj m24 rn λb M=>?_) (by have:=E.mod.size;have:=e2.size;have:=m24.size;omega);rcases M with q|q|⟨x,B,q⟩
 ·exact .inl (.inl q)
 ·have:=(o.1 b q).1;exact .inr ⟨by omega,λu=>by have:=p1.lt b u;omega⟩
 ·have:=(o.2 x B b q).1;exact .inr ⟨by omega,λu=>by have:=p1.lt b u;omega⟩
theorem Cw {K:(Sl×Bool×Int)->aa->Prop}(hg:Gl H0)(M:¬F0 bh)(O:bh≠k)(h:iU H0 F0 O0 k p dp si rs F A s r)(ok:r.Ok)
  (hn:r.b.name.size<=9223372036854775807) (z:s.d.aB<68719470000) (Q:s.next<1099511627776) (h0:0<=s.next)
  (m:∀F' E G R l,iU H0 F0 O0 k p dp E G F' R (r.next s).1 (r.next s).2.1->aM R 0 gS 1 l ((r.next s).2.2.1.map (On .u64))->(∀b,ag l b->A.size<=b/\¬F' b/\¬qJ k E G b)->((r.next s).2.2.2.1=false->l=Sl.mk none 0 0)->K (l,(r.next s).2.2.2.1,(r.next s).2.2.2.2) R):ET.sp (aE k) A K:=by
 refine ET.of ?_;unfold ET.vc;unfold aE;refine aC rfl ?_;simp only[al];obtain⟨I,a1⟩:=cZ r.b;unfold RR.next at m;refine pH h.rd.row ?_;refine ah (λg=>?_) (λg=>?_)
 ·have S:r.b.ready≠0:=by simpa using g
  rw[if_pos S] at m;exact m F si rs A _ h (aM.nil _ _ _ _) (λb q=>absurd q (aS b)) (λ_=>rfl)
 have S:¬r.b.ready≠0:=by simpa using g
 have U:r.b.ready=0:=by omega
 rw[if_neg S] at m;refine aj.ld (c:=ab .i64) (i:=7) (x:=(r.at_:Int)) h.rd.row (bF.tail (j:=1) rfl) ?_;refine aj.ld (c:=ab .i64) (i:=6) (x:=(r.rows:Int)) h.rd.row (bF.tail (j:=0) rfl) ?_;refine ah (λg=>?_) (λg=>?_)
 ·have V:r.at_=r.rows:=by
   have:(r.at_:Int)=(r.rows:Int):=by simpa using g
   omega
  rw[if_pos V] at m;rw[U];exact m F si rs A _ h (aM.nil _ _ _ _) (λb q=>absurd q (aS b)) (λ_=>rfl)
 have V:¬r.at_=r.rows:=λq=>by rw[q] at g;simp at g
 rw[if_neg V] at m;have a6:r.at_<r.rows:=by have:=ok.at_;omega
 refine aj.ld (c:=ab .i64) (i:=7) (x:=(r.at_:Int)) h.rd.row (bF.tail (j:=1) rfl) ?_;refine aj.ld (c:=ab .i64) (i:=3) (x:=aH r.b.width) h.rd.row (bF.get 3 _ rfl) ?_;have X:=ok.room;have a7:=ok.rows;rw[I];refine⟨by omega,?_⟩;have hdiv:N6.wrap (OX (r.at_:Int) (r.b.room:Int))=((r.at_/r.b.room:Nat):Int):=by
  have h1:OX (r.at_:Int) (r.b.room:Int)=((r.at_/r.b.room:Nat):Int):=rfl;have h2:=Tc r.at_ r.b.room;rw[h1];generalize r.at_/r.b.room=q at h2 ⊢;exact wrap64 (by omega) (by omega)
 rw[hdiv];have a8:=Uw r.at_ r.b.room;have bb:=Tc r.at_ r.b.room;refine Gn hg M O h ok (by omega) (by omega) hn z Q h0 λY a o Z v hz=>?_;obtain⟨k1,k2,k3,k4,_,k6⟩:=RR.oN (s:=s) (j:=r.at_/r.b.room) ok;generalize (r.load s (r.at_/r.b.room)).1=s1 at*;generalize (r.load s (r.at_/r.b.room)).2.1=f at*;generalize (r.load s (r.at_/r.b.room)).2.2=e2 at*;refine ah (λg=>?_) (λg=>?_)
 ·have e3:e2≠0:=by simpa using g
  rw[if_pos e3] at m;exact m Y a o Z _ v (aM.nil _ _ _ _) (λb q=>absurd q (aS b)) (λ_=>rfl)
 have e3:¬e2≠0:=by simpa using g
 rw[if_neg e3] at m;obtain⟨k7,k8⟩:=k6 (by omega);have hlen:=k1.page _ k8;rw[k7,k2] at hlen;have hm:=Nat.mod_lt r.at_ X;have bd:=Vb r.at_ r.b.room;have bl:r.b.room*(r.at_/r.b.room)=r.at_/r.b.room*r.b.room:=Uq _ _;have B:r.at_%r.b.room<f.ins.length:=by rw[hlen];omega
 refine aj.ld (c:=ak) (i:=9) (x:=a) v.rd.row (bF.tail (j:=3) rfl) ?_;refine aj.ld (c:=ab .i64) (i:=7) (x:=(f.at_:Int)) v.rd.row (bF.tail (j:=1) rfl) ?_;refine aj.ld (c:=ab .i64) (i:=3) (x:=aH f.b.width) v.rd.row (bF.get 3 _ rfl) ?_;rw[k7,I,k3];refine⟨by omega,?_⟩;have J:Pq (r.at_:Int) (r.b.room:Int)=((r.at_%r.b.room:Nat):Int):=rfl;rw[J];refine v.rd.ins.rows.ld B λad x ha hx=>?_;have an:=k1.cols _ (OP B);refine pv hx (by omega) λl A2 o2 x2 f2=>?_;have D:=v.ext x2;refine aj.ld (c:=ab .i64) (i:=7) (x:=(f.at_:Int)) D.rd.row (bF.tail (j:=1) rfl) ?_;refine aj.st D.rd.row (i:=7) (by simp[bR]) rfl λA3 r3 m3 z3=>?_;rw[k3,aD r.at_ (by omega)] at r3;have af:bF A3 k Me p f.b [.int .i64 (f.rows:Int),.int .i64 ((r.at_+1:Nat):Int),.int .i64 (kI f.page),a.v]:=by
  have e:(bR p f.b++[.int .i64 (f.rows:Int),.int .i64 (r.at_:Int),.int .i64 (kI f.page),a.v]).toArray.setIfInBounds 7 (.int .i64 ((r.at_+1:Nat):Int))=(bR p f.b++[.int .i64 (f.rows:Int),.int .i64 ((r.at_+1:Nat):Int),.int .i64 (kI f.page),a.v]).toArray:=by
   simp[bR]
  rw[e] at r3;exact r3
 have B3:iU H0 F0 O0 k p dp a o Y A3 s1 {f with at_:=r.at_+1}:=D.dj m3 ⟨af,D.rd.ins.mod m3 (λb C q=>D.rd.CU (q▸C)) λx hx b C q=>D.rd.jv x hx (q▸C)⟩ λb q=>.inl q;have y:∀b,qJ k a o b->b<Z.size:=v.rd.lt;have bn:k<Z.size:=y k (.inl rfl);refine m Y a o A3 l B3 ?_ (λb C=>?_) λu=>(by cases u)
 ·have eg:f.ins.getD (r.at_%r.b.room) []=f.ins[r.at_%r.b.room]:=by rw[Pn,N8 B];rfl
  rw[eg];exact o2.mod m3 λb C q=>by have:=f2 b C;omega
 ·have:=f2 b C;exact⟨by omega,λq=>by have:=v.pool.lt b q;omega,λq=>by have:=y b q;omega⟩
theorem yE {K:(Sl×Bool×Int)->aa->Prop}(v:Gl H0)(m:¬F0 bh)(o:bh≠k)(h:iU H0 F0 O0 k p dp si rs F A s r)(ok:r.Ok)
  (x:r.b.name.size<=9223372036854775807) (g:s.d.aB<68719470000) (u:s.next<1099511627776) (y:0<=s.next)
  (z:∀F' e f j l,iU H0 F0 O0 k p dp e f F' j (r.next s).1 (r.next s).2.1->aM j 0 gS 1 l ((r.next s).2.2.1.map (On .u64))->(∀b,ag l b->A.size<=b/\¬F' b/\¬qJ k e f b)->K (l,(r.next s).2.2.2.1,(r.next s).2.2.2.2) j):ET.sp (aE k) A K:=
 Cw v m o h ok x g u y λF' e f j l a b c _=>z F' e f j l a b c
end
end Go.Proofs.YtmkbhnholcaghaaGreatDoor
