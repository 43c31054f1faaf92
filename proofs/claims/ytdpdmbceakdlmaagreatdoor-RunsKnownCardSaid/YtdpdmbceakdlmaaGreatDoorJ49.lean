/-
 The document's pages: the walk of their sum, of what seals them, of what opens them.
-/
import Derived.Test.YtdpdmbceakdlmaaGreatDoorPgb
import Derived.Test.YtdpdmbceakdlmaaGreatDoorJ35
import Derived.Test.YtdpdmbceakdlmaaGreatDoorJ47
import Derived.Test.YtdpdmbceakdlmaaGreatDoorFxs
open BitVec renaming ofNat->N5
open Bool renaming eq_false_iff->RF
open Go.Addr renaming add->La
open Go.IntKind renaming i64->KG,u8->LA,u32->Ma
open Go.Proofs.Tryz renaming prog->KE
open Int renaming toNat_natCast->KU,tmod->LX
open List renaming mem_of_getElem?->KH,getElem?_eq_some_iff->KI,getElem?_eq_getElem->KJ,take_succ_eq_append_getElem->KP,take_of_length_le->KT,mem_append->KW,getElem?_append_left->K9,range->Lg,length_append->Lj,getD->Lo,map_append->LF,filter_append->LH,mem_of_mem_eraseIdx->LQ,getElem?_append_right->LR,length_map->L9,map_map->Md,findIdx?_eq_none_iff->Mi,findIdx?_eq_some_iff_getElem->Mm,nil_append->Mx,getElem_of_mem->MB,getElem?_toArray->M3,length_take->M8,map_set->Ni,contains_iff_mem->Nn,flatMap_append->Nx,length_filter_le->NO,set_set->QZ
open Nat renaming le_refl->KN,zero_le->Lh,lt_or_ge->Lr
open UInt8 renaming ofNat->Lf,toNat_ofNat'->Ml
namespace Go.Proofs.YtdpdmbceakdlmaaGreatDoor
theorem IU (a:BitVec 32):kS .u32 (a.toNat:Int) 1=((a.toNat%2:Nat):Int):=by
 unfold kS
 show Ma.wrap ((BitVec.ofInt 32 (a.toNat:Int)&&&1#32).toNat:Int)=_
 have h1:(1#32).toNat=2^1 - 1:=by decide
 rw[qb,BitVec.toNat_and,h1,Nat.and_two_pow_sub_one_eq_mod]
 exact wrap32 (by omega)
theorem zl (a:BitVec 32):a.getLsbD 0=decide (a.toNat%2=1):=by
 rw[BitVec.getLsbD]
 simp[Nat.testBit_zero]
def bits (r:BitVec 32):Nat->BitVec 32
 |0=>r
 |n+1=>j4 (bits r n)
theorem IN (r:BitVec 32):bits r 8=kQ (kQ r):=rfl
theorem Jt (a:BitVec 32):cI .u32 (a.toNat:Int) 1=((a>>>1).toNat:Int):=by
 rw[show (1:Int)=((1:Nat):Int) from rfl,qH a 1 (by decide),BitVec.toNat_ushiftRight,Nat.shiftRight_eq_div_pow]
theorem ED {s:Sl}{l:List UInt8}{H:Heap}{K:Int->Heap->Prop}(hb:bG H s l)(hl:l.length<4611686018427387904)(hK:K ((fQ l).toNat:Int) H):Gv.sp s H K:=by
 refine Gv.of ?_
 unfold Gv.vc
 have hn:=hb.n
 refine ay l.length (λk x H1=>H1=H/\x=(((oL (l.take k)).toNat:Int),(k:Int))) ⟨rfl,rfl⟩ ?_
 rintro k _ H1 next hk ⟨rfl,rfl⟩ hnext
 refine ae (λhc=>?_) (λhc=>?_)
 ·have hlt:k<l.length:=by rw[hn] at hc;simpa using hc
  refine dZ hb hlt rfl λad ha=>?_
  have hc8:(l[k]).toNat<256:=(l[k]).toNat_lt
  have e0:hZ .u32 ((oL (l.take k)).toNat:Int) (Ma.wrap (((l[k]).toNat:Nat):Int))=((oL (l.take k)^^^N5 32 (l[k]).toNat).toNat:Int):=by
   rw[wrap32 (by omega),<-toNat_ofNat32 l[k],oq,toNat_ofNat32]
  simp only[e0]
  generalize hr:oL (l.take k)^^^N5 32 (l[k]).toNat=r
  refine ay 8 (λj x H2=>H2=H1/\x=(((bits r j).toNat:Int),(j:Int))) ⟨rfl,rfl⟩ ?_
  rintro j _ _ next2 hj ⟨rfl,rfl⟩ hnext2
  refine ae (λhc2=>?_) (λhc2=>?_)
  ·have hj8:j<8:=by simp at hc2;omega
   rw[IU,Jt]
   have hb1:bits r (j+1)=j4 (bits r j):=rfl
   generalize hq:bits r j=q at*
   refine ae (λh1=>?_) (λh1=>?_)
   ·have hm:q.toNat%2=1:=by simp at h1;omega
    refine hnext2 hj8 _ _ ⟨rfl,?_⟩
    rw[aI j (by omega),show (3988292384:Int)=(Fo.toNat:Int) from rfl,oq,hb1]
    unfold j4
    rw[zl,hm];rfl
   ·have hm:q.toNat%2=0:=by simp at h1;omega
    refine hnext2 hj8 _ _ ⟨rfl,?_⟩
    rw[aI j (by omega),hb1]
    unfold j4
    rw[zl,hm];simp
  ·have hj8:j=8:=by simp at hc2;omega
   subst hj8
   refine hnext hlt _ _ ⟨rfl,?_⟩
   rw[aI k (by omega),KP hlt,th,IN]
   unfold Cu
   rw[hr]
 ·have hge:k=l.length:=by rw[hn] at hc;simp at hc;omega
  rw[hge,KT (KN _)]
  have e:hZ .u32 ((oL l).toNat:Int) (4294967295:Int)=((fQ l).toNat:Int):=by
   rw[show (4294967295:Int)=((BitVec.allOnes 32).toNat:Int) from rfl,oq,BitVec.xor_comm]
   congr 2
  rw[e];exact hK
theorem FO:∀inf z,KE.info? dF=some inf->inf.zero=some z->z.cells.toList=EB.enc 0:=by
 intro inf z h1 h2
 have h:((KE.info? dF).bind λi=>i.zero)=some (.int .u8 0):=by kernel_rfl
 rw[h1,Option.bind_some,h2] at h
 cases h;rfl
theorem AG:KE.underlying j7=some (.int .i64):=by kernel_rfl
theorem q7 {kind:UInt8}{s:Sl}{l:List UInt8}{H:Heap}{K:Sl×Int->Heap->Prop}(hb:bG H s l)(hlen:l.length<=504)
  (hK:∀s' H',aK EB dF H' s' (bA kind l)->Ext H H'->(∀b,al s' b->H.size<=b)->K (s',0) H'):Dg.sp (kind.toNat:Int) s H K:=by
 refine Dg.of ?_
 unfold Dg.vc
 have hn:=hb.n
 refine aw (by simp;omega) ?_
 have v4:LA.wrap (LX (s.n:Int) 256)=((Lf l.length).toNat:Int):=by
  have:LX (s.n:Int) 256=((l.length%256:Nat):Int):=by rw[hn];rfl
  rw[this,nO]
  congr 1
  rw[Ml,Ml];omega
 have v5:LA.wrap (KG.wrap (Int.tdiv (s.n:Int) 256))=((Lf (l.length/256)).toNat:Int):=by
  have:Int.tdiv (s.n:Int) 256=((l.length/256:Nat):Int):=by rw[hn];rfl
  rw[this,wrap64 (by omega) (by omega),nO]
 rw[v4,v5]
 refine ao λH1 s1 r1 e1=>?_
 have b1:bG H1 s l:=hb.ak λad _ hl=>e1.same _ hl id
 have o1:aK EB dF H1 (Sl.mk (some ⟨H.size,0,none⟩) 4 4) [Lf l.length,Lf (l.length/256),kind,157]:=
  ⟨rfl,.inr ⟨H.size,4,_,rfl,Lh _,r1,KN _,by unfold maxLen;omega,rfl,rfl⟩⟩
 refine aK.append (E:=EB) iT (s:=Sl.mk (some ⟨H.size,0,none⟩) 4 4) (x:=s) o1 (by rw[cS,im];exact b1.cells) hn (by simp;omega) (by simp;omega) λrest H2 o2 g2 _=>?_
 have hn2:=o2.n (by decide)
 have hn2':rest.n=4+l.length:=by simp at hn2;omega
 have hw:KG.wrap ((508:Int) - (rest.n:Int))=((504 - l.length:Nat):Int):=by rw[wrap64 (by omega) (by omega)];omega
 rw[hw]
 refine aK.Fz (E:=EB) (x0:=0) iT AG FO o2 (by decide) (by simp;omega) λrest2 H3 o3 g3=>?_
 have hbody:[Lf l.length,Lf (l.length/256),kind,157]++l++List.replicate (504 - l.length) 0=cK kind l:=rfl
 rw[hbody] at o3
 have hbl:=jR (kind:=kind) hlen
 have z1:=e1.size;have z2:=g2.1.size;have z3:=g3.1.size
 have f2:∀b,al rest b->H.size<=b:=λb hb=>by
  rcases g2.2 b hb with ⟨ad,q1,q2⟩|q
  ·cases q1;have:H.size=b:=q2;omega
  ·omega
 have f3:∀b,al rest2 b->H.size<=b:=λb hb=>by
  rcases g3.2 b hb with q|q
  ·exact f2 b q
  ·omega
 have m03:Ext H H3:=⟨by omega,λb hb _=>(g3.1.same b (by omega) λhh=>by have:=f2 b hh;omega).trans ((g2.1.same b (by omega) (by rintro⟨ad,q1,q2⟩;cases q1;have:H.size=b:=q2;omega)).trans (e1.same b hb id))⟩
 refine ED (bY o3) (by omega) ?_
 refine ay 4 (λk x H5=>x.2=(k:Int)/\aK EB dF H5 x.1 ((oa (fQ (cK kind l))).take k)/\Mod (λ_=>False) H3 H5/\∀b,al x.1 b->H3.size<=b) ⟨rfl,aK.nil _ _ _,.refl _ _,by rintro b ⟨ad,q,_⟩;cases q⟩ ?_
 rintro k ⟨out,i⟩ H5 next hk ⟨hi,o5,m5,f5⟩ hnext
 simp only at hi
 subst hi
 simp only at o5 f5 hnext ⊢
 have z5:=m5.size
 have h4:(oa (fQ (cK kind l))).length=4:=rfl
 refine ae (λhc=>?_) (λhc=>?_)
 ·have hk4:k<4:=by simp at hc;omega
  have hw8:KG.wrap ((8:Int)*(k:Int))=((8*k:Nat):Int):=by rw[wrap64 (by omega) (by omega)];omega
  rw[hw8]
  refine⟨by omega,?_⟩
  have hv:(oa (fQ (cK kind l)))[k]?=some (Lf ((fQ (cK kind l)).toNat/2^(8*k))):=by
   have:k=0\/k=1\/k=2\/k=3:=by omega
   rcases this with rfl|rfl|rfl|rfl<;>simp[oa]
  rw[qH _ (8*k) (by omega),nO]
  refine aK.push (E:=EB) iT (x:=Lf ((fQ (cK kind l)).toNat/2^(8*k))) o5 rfl (by simp;omega) (by simp;omega) λout2 H7 o7 g7 _=>?_
  have z7:=g7.1.size
  refine hnext hk4 _ _ ⟨aI k (by omega),?_,⟨by omega,λb hb _=>(g7.1.same b (by omega) λhh=>by have:=f5 b hh;omega).trans (m5.same b hb id)⟩,λb hb=>?_⟩
  ·have e:(oa (fQ (cK kind l))).take (k+1)=(oa (fQ (cK kind l))).take k++[Lf ((fQ (cK kind l)).toNat/2^(8*k))]:=by
    rw[List.take_add_one,hv];rfl
   rw[e];exact o7
  ·rcases g7.2 b hb with q|q
   ·exact f5 b q
   ·omega
 ·have hk4:k=4:=by simp at hc;omega
  subst hk4
  have o35:aK EB dF H5 rest2 (cK kind l):=o3.ext m5
  refine aK.append (E:=EB) iT (s:=out) (x:=rest2) o5 o35.rd (o35.n (by decide)) (by simp[hbl];omega) (by simp[hbl];omega) λout3 H8 o8 g8 _=>?_
  have z8:=g8.1.size
  refine hK out3 H8 o8 ⟨by omega,λb hb _=>(g8.1.same b (by omega) λhh=>by have:=f5 b hh;omega).trans ((m5.same b (by omega) id).trans (m03.same b hb id))⟩ λb hb=>?_
  rcases g8.2 b hb with q|q
  ·have:=f5 b q;omega
  ·omega
theorem Dy {s:Sl}{l:List UInt8}{H:Heap}{K:(Int×Sl×Int)->Heap->Prop}(hb:bG H s l)(hcap:s.n<=s.c)(h512:l.length=512)
  (hN:ez l=none->∀H',Ext H H'->K (0,Sl.mk none 0 0,20) H')
  (hK:∀k b s' H',ez l=some (k,b)->b.length<=504->aK EB dF H' s' b->Ext H H'->(∀b,al s' b->H.size<=b)->K ((k.toNat:Int),s',0) H'):Cc.sp s H K:=by
 refine Cc.of ?_
 unfold Cc.vc
 have hn:=hb.n
 refine aw (by simp;omega) ?_
 refine dZ hb (i:=4) (by omega) rfl λad4 ha4=>?_
 refine dZ hb (i:=5) (by omega) rfl λad5 ha5=>?_
 have c4:(l[4]).toNat<256:=(l[4]).toNat_lt
 have c5:(l[5]).toNat<256:=(l[5]).toNat_lt
 have hs:bK l=(l[4]).toNat+256*(l[5]).toNat:=by
  unfold bK;simp[Lo,h512]
 have hw:KG.wrap ((KG.wrap ((l[4]).toNat:Int))+(KG.wrap ((256:Int)*(KG.wrap ((l[5]).toNat:Int)))))=(bK l:Int):=by
  rw[wrap64 (x:=((l[4]).toNat:Int)) (by omega) (by omega),wrap64 (x:=((l[5]).toNat:Int)) (by omega) (by omega),wrap64 (x:=(256:Int)*((l[5]).toNat:Int)) (by omega) (by omega),wrap64 (by omega) (by omega)]
  omega
 rw[hw]
 refine ae (λhc=>?_) (λhc=>?_)
 ·have hgt:504<bK l:=by simp at hc;omega
  exact hN (by unfold ez;rw[if_neg (by omega)]) H (.refl _ _)
 have hle:bK l<=504:=by simp at hc;omega
 have hw8:KG.wrap ((8:Int)+(bK l:Int))=((8+bK l:Nat):Int):=by rw[wrap64 (by omega) (by omega)];omega
 rw[hw8]
 refine⟨⟨by omega,by omega⟩,⟨by omega,by omega⟩,?_⟩
 have hd:=(hb.drop hcap 8).take (bK l) (by simp only;omega) (s.c - 8)
 have ex:(((8+bK l:Nat):Int).toNat - (8:Int).toNat)=bK l:=by omega
 rw[ex]
 have hdl:((l.drop 8).take (bK l)).length=bK l:=by simp;omega
 refine aK.append (E:=EB) iT (s:=Sl.mk none 0 0) (x:=Sl.mk (fP s.a s.c 8 1) (bK l) (s.c - 8)) (l:=[]) (aK.nil _ _ _) (by rw[cS,im];exact hd.cells) (by rw[hdl]) (by simp;omega) (by simp;omega) λs1 H1 o1 g1 _=>?_
 simp only[Mx] at o1
 have e1:Ext H H1:=g1.1.mono λb _ hb=>by obtain⟨ad,q,_⟩:=hb;cases q
 have f1:∀b,al s1 b->H.size<=b:=λb hb=>(g1.2 b hb).resolve_left (by rintro⟨ad,q,_⟩;cases q)
 have b1:bG H1 s l:=hb.ak λad _ hl=>e1.same _ hl id
 refine dZ b1 (i:=6) (by omega) rfl λad6 ha6=>?_
 refine q7 (bY o1) (by rw[hdl];exact hle) λw H2 o2 e2 f2=>?_
 have b2:bG H2 s l:=b1.ak λad _ hl=>e2.same _ hl id
 have z1:=e1.size;have z2:=e2.size
 have h6:l.getD 6 0=l[6]:=by simp[Lo,h512]
 refine jD (bY o2) ?_
 refine jD b2 ?_
 have hcmp:((cu (bA l[6] ((l.drop 8).take (bK l)))).toList==(cu l).toList)=decide (bA l[6] ((l.drop 8).take (bK l))=l):=by
  rw[oT,oT,Bool.eq_iff_iff,beq_iff_eq,decide_eq_true_iff]
 rw[hcmp]
 refine ae (λhq=>?_) (λhq=>?_)
 ·have hq':¬bA l[6] ((l.drop 8).take (bK l))=l:=by simpa using hq
  exact hN (by unfold ez;rw[h6,if_neg (by rintro⟨_,q⟩;exact hq' q)]) H2 (e1.trans e2)
 ·have hq':bA l[6] ((l.drop 8).take (bK l))=l:=by simpa using hq
  refine dZ b2 (i:=6) (by omega) rfl λad6 ha6=>?_
  exact hK l[6] _ s1 H2 (by unfold ez;rw[h6,if_pos ⟨hle,hq'⟩]) (by rw[hdl];exact hle) (o1.ext e2) (e1.trans e2) f1
def mY (i:Option Nat):Int:=match i with|some i=>(i:Int)|none=>-1
theorem ka (i:Option Nat):decide (mY i<0)=i.isNone:=by
 cases i with
 |none=>rfl
 |some i=>exact decide_eq_false (by simp only[mY];omega)
theorem wD (i:Option Nat):decide (mY i>=0)=i.isSome:=by
 cases i with
 |none=>rfl
 |some i=>exact decide_eq_true (by simp only[mY];omega)
theorem gS {b:Nat}:¬al (Sl.mk none 0 0) b:=by rintro⟨ad,q,_⟩;cases q
theorem uk {H:Heap}{sl:Sl}{l:List Int}(h:aK EI j7 H sl l){j:Nat}(hj:j<l.length){K:Int->Prop}(hK:K l[j]):ab sl.a λa=>(0<=(j:Int)/\(j:Int)<(sl.n:Int))/\ld (aa .i64) H (a.add ((j:Int).toNat*1)) K:=by
 obtain⟨ad,ha⟩:=cS.addr h.rd (by decide) (by omega)
 have hn:=h.n (by decide)
 rw[ha]
 refine⟨⟨by omega,by omega⟩,?_⟩
 simp only[KU]
 exact aK.one (c:=aa .i64) h (KJ hj) rfl rfl ha hK
section
variable {ll:Sl}{zs:List RZ}{D:Nat->Prop}{H:Heap}{p dp:Nat}{s:Pl}
theorem sD {n:ByteArray}{g:Int}{K:Int->Heap->Prop}(h:bB ll zs H p dp s)(hK:K (mY (s.find n g)) H):Gc.sp (aD p) n g H K:=by
 refine Gc.of ?_
 unfold Gc.vc
 simp only[aq]
 have hn:=h.n
 have hlen:=h.wf.len;have hmost:=h.wf.most
 refine ay s.fs.length (λk x H1=>x=(k:Int)/\H1=H/\∀j (hj:j<s.fs.length),j<k->(s.fs[j].name.toList==n.toList&&decide ((s.fs[j].page:Int)=g))=false) ⟨rfl,rfl,λj _ h=>by omega⟩ ?_
 rintro k _ H1 next hk ⟨rfl,rfl,hno⟩ hnext
 refine h.head.ld (c:=av) (i:=2) (x:=ll) rfl ?_
 refine ae (λhc=>?_) (λhc=>?_)
 ·have hlt:k<s.fs.length:=by rw[hn] at hc;simpa using hc
  obtain⟨gg,hz⟩:=h.at (KJ hlt)
  have miss:(s.fs[k].name.toList==n.toList&&decide ((s.fs[k].page:Int)=g))=false->next (KG.wrap ((k:Int)+(1:Int))) H1:=λhq=>by
   refine hnext hlt _ _ ⟨aI k (by omega),rfl,λj hj hjk=>?_⟩
   rcases Lr j k with q|q
   ·exact hno j hj q
   ·have:j=k:=by omega
    subst this;exact hq
  refine h.head.ld (c:=av) (i:=2) (x:=ll) rfl ?_
  refine h.ah.ld hz (j:=0) (c:=aV) (y:=s.fs[k].name) rfl ?_
  refine ae (λhq=>?_) (λhq=>miss (by rw[hq];rfl))
  refine h.head.ld (c:=av) (i:=2) (x:=ll) rfl ?_
  refine h.ah.ld hz (j:=1) (c:=aa .i64) (y:=(s.fs[k].page:Int)) rfl ?_
  refine ae (λhq2=>?_) (λhq2=>miss (by rw[hq];simpa using hq2))
  have:s.find n g=some k:=by
   unfold Pl.find
   rw[Mm]
   exact⟨hlt,by rw[hq];simpa using hq2,λj hj=>by simpa using hno j (by omega) hj⟩
  rw[this] at hK
  exact hK
 ·have hge:k=s.fs.length:=by rw[hn] at hc;simp at hc;omega
  have:s.find n g=none:=by
   unfold Pl.find
   rw[Mi]
   intro f hf'
   obtain⟨j,hj,rfl⟩:=MB hf'
   exact hno j hj (by omega)
  rw[this] at hK
  exact hK
theorem oI {c:Int}{K:Int->Heap->Prop}(h:bB ll zs H p dp s)(hnx:s.next<9223372036854775807)(hK:K (mY (s.held c)) H):Eh.sp (aD p) c H K:=by
 refine Eh.of ?_
 unfold Eh.vc
 simp only[aq]
 have hn:=h.n
 have hlen:=h.wf.len;have hmost:=h.wf.most;have htick:=h.wf.tick
 refine ay s.fs.length (λk x H1=>x=(k:Int)/\H1=H/\∀j (hj:j<s.fs.length),j<k->s.fs[j].pins.contains c=false) ⟨rfl,rfl,λj _ h=>by omega⟩ ?_
 rintro k _ H1 next hk ⟨rfl,rfl,hno⟩ hnext
 refine h.head.ld (c:=av) (i:=2) (x:=ll) rfl ?_
 refine ae (λhc=>?_) (λhc=>?_)
 ·have hlt:k<s.fs.length:=by rw[hn] at hc;simpa using hc
  have hfk:s.fs[k]?=some s.fs[k]:=KJ hlt
  obtain⟨gg,hz⟩:=h.at hfk
  have hp:=h.ah.ent _ (KH hz)
  have hpl:s.fs[k].pins.length<=s.pins:=ki (λf:Fr=>f.pins.length) s.fs k _ hfk
  have hpn:=hp.n (by decide)
  simp only at hp hpn
  refine ay s.fs[k].pins.length (λj x H2=>x=(j:Int)/\H2=H1/\∀q (hq:q<s.fs[k].pins.length),q<j->s.fs[k].pins[q]≠c) ⟨rfl,rfl,λj _ h=>by omega⟩ ?_
  rintro j _ H2 next2 hj ⟨rfl,rfl,hno2⟩ hnext2
  refine h.head.ld (c:=av) (i:=2) (x:=ll) rfl ?_
  refine h.ah.ld hz (j:=5) (c:=av) (y:=gg) rfl ?_
  have hw:KG.wrap ((j:Int)+1)=((j+1:Nat):Int):=by rw[wrap64 (by omega) (by omega)];omega
  refine ae (λhc2=>?_) (λhc2=>?_)
  ·have hjl:j<s.fs[k].pins.length:=by rw[hpn] at hc2;simpa using hc2
   refine h.head.ld (c:=av) (i:=2) (x:=ll) rfl ?_
   refine h.ah.ld hz (j:=5) (c:=av) (y:=gg) rfl ?_
   refine uk hp hjl ?_
   refine ae (λhq=>?_) (λhq=>?_)
   ·have hq':s.fs[k].pins[j]=c:=by simpa using hq
    have:s.held c=some k:=by
     unfold Pl.held
     rw[Mm]
     exact⟨hlt,by rw[Nn,<-hq'];exact List.getElem_mem _,λj hj=>by simpa using hno j (by omega) hj⟩
    rw[this] at hK
    exact hK
   ·refine hnext2 hjl _ _ ⟨hw,rfl,λq hq2 hqj=>?_⟩
    rcases Lr q j with r|r
    ·exact hno2 q hq2 r
    ·have:q=j:=by omega
     subst this;simpa using hq
  ·have hge:j=s.fs[k].pins.length:=by rw[hpn] at hc2;simp at hc2;omega
   refine hnext hlt _ _ ⟨aI k (by omega),rfl,λq hq hqk=>?_⟩
   rcases Lr q k with r|r
   ·exact hno q hq r
   ·have:q=k:=by omega
    subst this
    rw[RF]
    intro hm
    rw[Nn] at hm
    obtain⟨i,hi,e⟩:=MB hm
    exact hno2 i hi (by omega) e
 ·have hge:k=s.fs.length:=by rw[hn] at hc;simp at hc;omega
  have:s.held c=none:=by
   unfold Pl.held
   rw[Mi]
   intro f hf'
   obtain⟨j,hj,rfl⟩:=MB hf'
   exact hno j hj (by omega)
  rw[this] at hK
  exact hK
theorem qD {e:Int}{K:Int->Heap->Prop}(h:bp ll zs D H p dp s)
  (hK:∀H',bp ll zs D H' p dp (s.met e)->Step (λb=>D b\/fU ll zs p b) (λb=>D b\/fU ll zs p b) H H'->K e H'):nI.sp (aD p) e H K:=by
 refine nI.of ?_
 unfold nI.vc
 simp only[aq]
 have hw:=h.ag.wf.met e
 refine ae (λhb=>?_) (λhb=>?_)
 ·have em:s.met e={s with wrong:=e}:=by unfold Pl.met bad;rw[if_pos hb]
  refine h.ag.head.st (i:=6) (by decide:6<7) (by rfl) λH' r m z=>?_
  have hp:bB ll zs H' p dp (s.met e):=h.ag.qZ (by rw[em];exact r) m (by rw[em]) hw
  obtain⟨q1,q2⟩:=h.jm hp (by rw[em]) (m.mono λb _ q=>.inl q) (λb q=>.inl q)
  exact hK H' q1 q2
 ·have em:s.met e=s:=by unfold Pl.met bad;rw[hb];rfl
  exact hK H (by rw[em];exact h) (.refl _ _)
theorem pK.erase {H':Heap}{ll':Sl}{i:Nat}(h:pK H ll zs)(harr:aK nH uS H' ll' (zs.eraseIdx i))(hm:∀u∈zs,∀b,al u.2 b->b<H.size->H'[b]?=H[b]?):pK H' ll' (zs.eraseIdx i):=by
 refine⟨harr,λz hz=>?_,?_⟩
 ·have hz':=LQ hz
  exact(h.ent z hz').ak λb hb hl=>hm z hz' b hb hl
 ·intro a c u v h1 h2 hac
  rw[List.getElem?_eraseIdx] at h1 h2
  split at h1<;>split at h2<;>exact h.apart _ _ u v h1 h2 (by omega)
theorem pK.push {H':Heap}{ll':Sl}{f:Fr}(h:pK H ll zs)(hp:f.pins=[])(harr:aK nH uS H' ll' (zs++[(f,Sl.mk none 0 0)]))(hm:∀u∈zs,∀b,al u.2 b->b<H.size->H'[b]?=H[b]?):pK H' ll' (zs++[(f,Sl.mk none 0 0)]):=by
 refine⟨harr,λz hz=>?_,?_⟩
 ·rcases KW.1 hz with q|q
  ·exact(h.ent z q).ak λb hb hl=>hm z q b hb hl
  ·simp at q;subst q
   simp only[hp]
   exact aK.nil _ _ _
 ·intro i j u v h1 h2 hij b hb1 hb2
  have ex:∀(i:Nat) (u:RZ),(zs++[(f,Sl.mk none 0 0)])[i]?=some u->(zs[i]?=some u)\/(i=zs.length/\u=(f,Sl.mk none 0 0)):=by
   intro i u h1
   by_cases hi:i<zs.length
   ·rw[K9 hi] at h1;exact .inl h1
   ·rw[LR (by omega)] at h1
    have:i=zs.length:=by
     have:=(KI.1 h1).1;simp at this;omega
    subst this
    simp at h1
    exact .inr ⟨rfl,h1.symm⟩
  rcases ex i u h1 with q1|⟨e1,rfl⟩<;>rcases ex j v h2 with q2|⟨e2,rfl⟩
  ·exact h.apart i j u v q1 q2 hij b hb1 hb2
  ·exact gS hb2
  ·exact gS hb1
  ·omega
theorem Ba (i:Nat):Bw (zs.eraseIdx i)=(Bw zs).eraseIdx i:=oy _ _ _
theorem sF {i:Nat}{K:Unit->Heap->Prop}(h:bp ll zs D H p dp s)(hi:i<s.fs.length)
  (hK:∀ll' H',bp ll' (zs.eraseIdx i) D H' p dp (s.drop i)->Step (λb=>D b\/fU ll zs p b) (λb=>D b\/fU ll' (zs.eraseIdx i) p b) H H'->K () H'):FU.sp (aD p) i H K:=by
 refine FU.of ?_
 unfold FU.vc
 simp only[aq]
 have hlen:=h.ag.wf.len;have hmost:=h.ag.wf.most
 have hn:=h.ag.n
 have hzl:=h.ag.len
 have hcap:=h.ag.ah.arr.cap
 refine h.ag.head.ld (c:=av) (i:=2) (x:=ll) rfl ?_
 refine⟨⟨by omega,by omega⟩,?_⟩
 have t1:cS nH H (fP ll.a ll.c 0 7) (zs.take i):=by rw[sv];exact h.ag.ah.arr.rd.take
 refine aK.append (E:=nH) Io (s:=Sl.mk none 0 0) (x:=⟨fP ll.a ll.c 0 7,(i:Int).toNat - 0,ll.c - 0⟩) (l:=[]) (aK.nil _ _ _) t1 (by simp;omega) (by simp;omega) (by simp;omega) λl1 H1 o1 g1 _=>?_
 have f1:∀b,al l1 b->H.size<=b:=λb hb=>(g1.2 b hb).resolve_left gS
 have m1:Ext H H1:=g1.1.mono λb _ hb=>gS hb
 have h1:=h.ext m1
 refine h1.ag.head.ld (c:=av) (i:=2) (x:=ll) rfl ?_
 have hw:KG.wrap ((i:Int)+1)=((i+1:Nat):Int):=aI i (by omega)
 simp only[hw]
 refine⟨⟨by omega,by omega⟩,?_⟩
 have t2:cS nH H1 (fP ll.a ll.c (i+1) 7) (zs.drop (i+1)):=cS.drop h1.ag.ah.arr.rd (by omega)
 simp only[KU]
 refine aK.append (E:=nH) Io (s:=l1) (x:=⟨fP ll.a ll.c (i+1) 7,ll.n - (i+1),ll.c - (i+1)⟩) o1 t2 (by simp;omega) (by simp;omega) (by simp;omega) λl2 H2 o2 g2 _=>?_
 have z1:=m1.size;have z2:=g2.1.size
 have f2:∀b,al l2 b->H.size<=b:=λb hb=>by
  rcases g2.2 b hb with q|q
  ·exact f1 b q
  ·omega
 have m2:Ext H H2:=⟨by omega,λb hb _=>(g2.1.same b (by omega) λhh=>by have:=f1 b hh;omega).trans (m1.same b hb id)⟩
 have h2:=h.ext m2
 refine h2.ag.head.st (i:=2) (by decide:2<7) (by rfl) λH3 r3 m3 s3=>?_
 have hpl:=aG h.ag.head
 have off:=bB.off h.ag.head h.ag.ah
 have hp3:bB l2 (zs.eraseIdx i) H3 p dp (s.drop i):=by
  refine⟨r3,?_,?_,h.ag.wf.drop i⟩
  ·refine h2.ag.ah.erase ?_ (λu hu b hb hl=>m3.same b hl λe=>off (e▸.inr ⟨u,hu,hb⟩))
   rw[List.eraseIdx_eq_take_drop_succ]
   simp only[Mx] at o2
   exact o2.ak λb hb hl=>m3.same b hl λe=>by have:=f2 b hb;omega
  ·show s.fs.eraseIdx i=_
   rw[Ba,h.ag.fs]
 have mm:Mod (fU ll zs p) H H3:=⟨by omega,λb hb hne=>(m3.same b (by omega) λe=>hne (.inl e)).trans (m2.same b hb id)⟩
 obtain⟨q1,q2⟩:=h.jm hp3 rfl mm (by
  rintro b (q|⟨u,hu,q⟩)
  ·exact .inr (f2 b q)
  ·exact .inl (.inr ⟨u,LQ hu,q⟩))
 exact hK l2 H3 q1 q2
theorem jw (h:aK nH uS H ll zs){i j:Nat}{z z':RZ}{v:Value}(hz:zs[i]?=some z)(hj:j<7)(hp:jN v=true)(hy:nH.enc z'=(nH.enc z).set j v){K:Heap->Prop}
  (hK:∀H',aK nH uS H' ll (zs.set i z')->Mod (al ll) H H'->H'.size=H.size->K H'):
  ab ll.a λa=>(0<=(i:Int)/\(i:Int)<(ll.n:Int))/\Go.Proofs.YtdpdmbceakdlmaaGreatDoor.st H ((a.add ((i:Int).toNat*7)).add j) v K:=by
 have hi:=(KI.1 hz).1
 obtain⟨ad,ha⟩:=cS.addr h.rd (by decide) (by omega)
 rw[ha]
 refine⟨⟨by omega,by rw[h.n (by decide)];omega⟩,?_⟩
 exact aK.st (E:=nH) h ha hz hj hp hy (by simp[nH]) hK
theorem uB (h:aK nH uS H ll zs){i j:Nat}{z:RZ}(hz:zs[i]?=some z){c:eN}{y:c.α}(hj:(nH.enc z)[j]?=some (c.enc y)){ad:Addr}(ha:ll.a=some ad):de H ((ad.add ((i:Int).toNat*7)).add j)=some (c.enc y):=by
 obtain⟨ad',e1,hc⟩:=cS.cell h.rd hz hj
 rw[ha] at e1;cases e1
 rw[add_add]
 exact hc
theorem bp.vY {H':Heap}{i:Nat}{f f':Fr}{g:Sl}{s':Pl}(h:bp ll zs D H p dp s)(hz:zs[i]?=some (f,g))(harr:aK nH uS H' ll (zs.set i (f',g)))(hm:Mod (al ll) H H')
  (hpins:f'.pins=f.pins) (hs:s'.fs=s.fs.modify i λ_=>f') (hw:s'.WF) (hd:s'.d=s.d) (hh:dL dp ll s'=dL dp ll s):
  bp ll (zs.set i (f',g)) D H' p dp s'/\Step (λb=>D b\/fU ll zs p b) (λb=>D b\/fU ll (zs.set i (f',g)) p b) H H':=by
 have hzm:=KH hz
 have hfs:s.fs[i]?=some f:=by rw[h.ag.fs];simp[Bw,hz]
 obtain⟨t1,t2⟩:=h.ag.ah.set hz harr (z':=(f',g)) (by
  have:=h.ag.ah.ent _ hzm
  simp only at this ⊢
  rw[hpins]
  exact this.ak λb hb hl=>hm.same b hl (h.ag.ah.fV hzm b hb)) (λu hu b hb _ hl=>hm.same b hl (h.ag.ah.fV hu b hb)) (λb hb=>.inl hb)
 have hp:bB ll (zs.set i (f',g)) H' p dp s':=by
  refine⟨?_,t1,?_,hw⟩
  ·rw[hh]
   exact hm.at h.ag.head λq=>bB.off h.ag.head h.ag.ah (.inl q)
  ·rw[hs,aS hfs,h.ag.fs];simp[Bw,Ni]
 exact h.jm hp hd (hm.mono λb _ q=>.inr (.inl q)) t2
theorem rv {i:Nat}{f:Fr}{g:Sl}{K:Int->Heap->Prop}(h:bp ll zs D H p dp s)(hz:zs[i]?=some (f,g))(hlogs:s.d.logs+1<68719476736)
  (hK:∀zs' D' H',bp ll zs' D' H' p dp (s.put i).1->Step (λb=>D b\/fU ll zs p b) (λb=>D' b\/fU ll zs' p b) H H'->K (s.put i).2 H'):Fp.sp (aD p) i H K:=by
 refine Fp.of ?_
 unfold Fp.vc
 simp only[aq]
 have hzm:=KH hz
 have hfs:s.fs[i]?=some f:=by rw[h.ag.fs];simp[Bw,hz]
 have hil:=(KI.1 hfs).1
 have hfr:=Pl.cX hfs
 have hb:=h.ag.wf.room f (KH hfs)
 have hn:=h.ag.n
 have hzl:=h.ag.len
 obtain⟨ad,ha⟩:=cS.addr h.ag.ah.arr.rd (by decide) (by omega)
 have hlt:=h.lt
 refine⟨λA=>aj A p pY (dL dp ll s)/\aK nH uS A ll zs,⟨h.ag.head,h.ag.ah.arr⟩,?_⟩
 refine⟨ll,λA hA=>by rw[aX];exact hA.1.cell rfl,?_⟩
 simp only[ha,aq]
 refine⟨⟨by omega,by omega⟩,?_⟩
 refine⟨(f.kind.toNat:Int),λA hA=>uB (c:=aa .u8) hA.2 hz (j:=2) (y:=(f.kind.toNat:Int)) rfl ha,?_⟩
 refine h.ag.head.ld (c:=av) (i:=2) (x:=ll) rfl ?_
 refine h.ag.ah.ld hz (j:=3) (c:=aV) (y:=cu f.b) rfl ?_
 refine xq λx4 H1 b1 e1 f1=>?_
 have h1:=h.ext e1
 refine⟨⟨h1.ag.head,h1.ag.ah.arr⟩,?_⟩
 refine q7 b1 hb λr H2 o2 e2 f2=>?_
 have h2:=h1.ext e2
 have z1:=e1.size;have z2:=e2.size
 refine h2.ag.head.ld (c:=ar) (i:=0) (x:=aD dp) rfl ?_
 refine h2.ag.head.ld (c:=av) (i:=2) (x:=ll) rfl ?_
 refine h2.ag.ah.ld hz (j:=0) (c:=aV) (y:=f.name) rfl ?_
 refine h2.ag.head.ld (c:=av) (i:=2) (x:=ll) rfl ?_
 refine h2.ag.ah.ld hz (j:=1) (c:=aa .i64) (y:=(f.page:Int)) rfl ?_
 refine sN h2.ba (bY o2) (λad ha hD=>?_) hlogs λD' H3 a3 S3=>?_
 ·have:=f2 ad.block ⟨ad,ha,rfl⟩
  have:=hlt _ (.inl hD);omega
 have hput:s.put i=if (s.d.write f.name f.page f.dg).2=0 then ((s.aZ (s.d.write f.name f.page f.dg).1).bf i Fr.clean,0) else (s.aZ (s.d.write f.name f.page f.dg).1,(s.d.write f.name f.page f.dg).2):=by
  unfold Pl.put;rw[hfr]
 rw[hput] at hK
 obtain⟨q1,q2⟩:=h2.ky a3 S3
 have q2':Step (λb=>D b\/fU ll zs p b) (λb=>D' b\/fU ll zs p b) H H3:=q2.ahead (e1.trans e2)
 show br ((s.d.write f.name f.page f.dg).2==0) _ _
 refine ae (λhq=>?_) (λhq=>?_)
 ·have hq':(s.d.write f.name f.page f.dg).2=0:=by simpa using hq
  rw[if_pos hq'] at hK
  refine q1.ag.head.ld (c:=av) (i:=2) (x:=ll) rfl ?_
  refine jw q1.ag.ah.arr hz (j:=4) (z':=(f.clean,g)) (v:=.bool false) (by decide) rfl rfl λH4 o4 m4 s4=>?_
  obtain⟨u1,u2⟩:=q1.vY (i:=i) (s':=(s.aZ (s.d.write f.name f.page f.dg).1).bf i Fr.clean) hz o4 m4 rfl (by
   show s.fs.modify i Fr.clean=s.fs.modify i λ_=>f.clean
   rw[aS hfs,aS hfs]) ((h.ag.wf.aZ _).bf hfs rfl rfl rfl hb) rfl rfl
  have:=hK _ D' H4 u1 (q2'.trans u2)
  show K (s.d.write f.name f.page f.dg).2 H4
  rw[hq'];exact this
 ·have hq':(s.d.write f.name f.page f.dg).2≠0:=by simpa using hq
  rw[if_neg hq'] at hK
  exact hK zs D' H3 q1 q2'
theorem qu (f:Fr):∀(l:List Fr) (i:Nat) (b:Option (Nat×Int)),fS (l++[f]) i b=if f.pins.isEmpty&&kP f (fS l i b) then some (i+l.length,f.left) else fS l i b
 |[],i,b=>by simp[fS]
 |a::l,i,b=>by
   rw[List.cons_append]
   unfold fS
   rw[qu f l (i+1)]
   simp only[List.length_cons,Nat.add_assoc,Nat.add_comm 1]
theorem su {K:Int->Heap->Prop}(h:bp ll zs D H p dp s)(hlogs:s.d.logs+1<68719476736)
  (hK:∀ll' zs' D' H',bp ll' zs' D' H' p dp s.room.1->Step (λb=>D b\/fU ll zs p b) (λb=>D' b\/fU ll' zs' p b) H H'->K s.room.2 H'):Ed.sp (aD p) H K:=by
 refine Ed.of ?_
 unfold Ed.vc
 simp only[aq]
 have hn:=h.ag.n
 have hlen:=h.ag.wf.len;have hmost:=h.ag.wf.most
 refine h.ag.head.ld (c:=av) (i:=2) (x:=ll) rfl ?_
 refine h.ag.head.ld (c:=aa .i64) (i:=1) (x:=(s.most:Int)) rfl ?_
 refine ae (λhc=>?_) (λhc=>?_)
 ·have hlt:s.fs.length<s.most:=by simp at hc;omega
  have e:s.room=(s,0):=by unfold Pl.room;rw[if_pos hlt]
  rw[e] at hK
  exact hK ll zs D H h (.refl _ _)
 have hge:¬s.fs.length<s.most:=by simp at hc;omega
 refine ay s.fs.length (λk x H1=>H1=H/\x.1=mY ((fS (s.fs.take k) 0 none).map (·.1))/\x.2=(k:Int)) ⟨rfl,rfl,rfl⟩ ?_
 rintro k ⟨bi,i⟩ H1 next hk ⟨rfl,hbi,hi⟩ hnext
 simp only at hbi hi hnext ⊢
 subst hbi
 subst hi
 refine h.ag.head.ld (c:=av) (i:=2) (x:=ll) rfl ?_
 refine ae (λhc=>?_) (λhc=>?_)
 ·have hlt:k<s.fs.length:=by rw[hn] at hc;simpa using hc
  have hfk:s.fs[k]?=some s.fs[k]:=KJ hlt
  obtain⟨gg,hz⟩:=h.ag.at hfk
  have hsn:fS (s.fs.take (k+1)) 0 none=if s.fs[k].pins.isEmpty&&kP s.fs[k] (fS (s.fs.take k) 0 none) then some (k,s.fs[k].left) else fS (s.fs.take k) 0 none:=by
   rw[KP hlt,qu]
   simp[Nat.min_eq_left (Nat.le_of_lt hlt)]
  have hok:qR (s.fs.take k) (fS (s.fs.take k) 0 none):=by
   have:=qK (s.fs.take k) [] none (by intro f hf;cases hf)
   simpa using this
  have hw:=aI k (by omega)
  rw[hw]
  refine h.ag.head.ld (c:=av) (i:=2) (x:=ll) rfl ?_
  refine h.ag.ah.ld hz (j:=5) (c:=av) (y:=gg) rfl ?_
  have hpn:=(h.ag.ah.ent _ (KH hz)).n (by decide)
  simp only at hpn
  have hpe:(((gg.n:Int)==(0:Int))==true)=s.fs[k].pins.isEmpty:=by
   rw[hpn];cases s.fs[k].pins<;>simp
   omega
  rw[hpe]
  cases hpi:s.fs[k].pins.isEmpty with
  |false=>
    rw[hpi,Bool.false_and,if_neg (by simp)] at hsn
    exact aw rfl (hnext hlt _ _ ⟨rfl,by rw[hsn],rfl⟩)
  |true=>
    refine aP rfl ?_
    rw[hpi,Bool.true_and] at hsn
    rw[ka]
    cases hb:fS (s.fs.take k) 0 none with
    |none=>
      rw[hb] at hsn
      refine aP rfl (hnext hlt _ _ ⟨rfl,?_,rfl⟩)
      rw[hsn];rfl
    |some jt=>
      obtain⟨j,t⟩:=jt
      rw[hb] at hsn hok
      obtain⟨fj,h1,h2,h3,h4⟩:=hok
      have hjk:j<k:=by have:=(KI.1 h1).1;simp at this;omega
      have hfj:s.fs[j]?=some fj:=by rw[List.getElem?_take,if_pos hjk] at h1;exact h1
      obtain⟨gj,hzj⟩:=h.ag.at hfj
      refine aw rfl ?_
      refine h.ag.head.ld (c:=av) (i:=2) (x:=ll) rfl ?_
      refine h.ag.ah.ld hz (j:=6) (c:=aa .i64) (y:=s.fs[k].left) rfl ?_
      refine h.ag.head.ld (c:=av) (i:=2) (x:=ll) rfl ?_
      refine h.ag.ah.ld hzj (j:=6) (c:=aa .i64) (y:=fj.left) rfl ?_
      rw[h3]
      refine ae (λhq=>?_) (λhq=>?_)
      ·have:kP s.fs[k] (some (j,t))=true:=hq
       rw[this,if_pos rfl] at hsn
       exact hnext hlt _ _ ⟨rfl,by rw[hsn];rfl,rfl⟩
      ·have:kP s.fs[k] (some (j,t))=false:=hq
       rw[this,if_neg (by simp)] at hsn
       exact hnext hlt _ _ ⟨rfl,by rw[hsn],rfl⟩
 ·have hke:k=s.fs.length:=by rw[hn] at hc;simp at hc;omega
  rw[hke,KT (KN _)]
  have hbest:(fS s.fs 0 none).map (·.1)=s.jS:=rfl
  rw[hbest]
  unfold Pl.room at hK
  rw[if_neg hge] at hK
  rw[ka]
  cases hb:s.jS with
  |none=>
    rw[hb] at hK
    exact hK ll zs D _ h (.refl _ _)
  |some i=>
    rw[hb] at hK
    simp only at hK
    refine aw rfl ?_
    obtain⟨f,hf,hfp,_⟩:=Pl.hC hb
    obtain⟨g,hz⟩:=h.ag.at hf
    have hfr:=Pl.cX hf
    have hil:=(KI.1 hf).1
    rw[hfr] at hK
    refine h.ag.head.ld (c:=av) (i:=2) (x:=ll) rfl ?_
    refine h.ag.ah.ld hz (j:=4) (c:=aA) (y:=f.dirty) rfl ?_
    cases hdr:f.dirty with
    |true=>
      rw[hdr,if_pos rfl] at hK
      refine aP rfl ?_
      refine rv h hz hlogs λzs' D' H' h' S'=>?_
      refine ae (λhq=>?_) (λhq=>?_)
      ·have hq':¬(s.put i).2=0:=by simpa using hq
       rw[if_neg hq'] at hK
       exact hK ll zs' D' H' h' S'
      ·have hq':(s.put i).2=0:=by simpa using hq
       rw[if_pos hq'] at hK
       refine sF h' (by rw[Pl.lf];exact hil) λll2 H2 h2 S2=>?_
       exact hK ll2 _ D' H2 h2 (S'.trans S2)
    |false=>
      rw[hdr,if_neg (by simp)] at hK
      refine aw rfl ?_
      exact sF h hil λll2 H2 h2 S2=>hK ll2 _ D H2 h2 S2
theorem tf {t:Pl}{i:Nat}{f:Fr}{g:Sl}{K:Int->Heap->Prop}(hd:aj H p pY (dL dp ll t))(hfr:pK H ll zs)(hz:zs[i]?=some (f,g))(hzl:zs.length<=4097)(hpl:f.pins.length<1099511627775)(hn0:0<=t.next)(hnx:t.next<9223372036854775807)
  (hK:∀g' H',aj H' p pY (dL dp ll {t with next:=da (t.next+1)})->pK H' ll (zs.set i (Fr.aR t.next f,g'))->Mod (fU ll zs p) H H'->(∀b,zZ ll (zs.set i (Fr.aR t.next f,g')) b->zZ ll zs b\/H.size<=b)->K t.next H'):D9.sp (aD p) i H K:=by
 refine D9.of ?_
 unfold D9.vc
 simp only[aq]
 have hzm:=KH hz
 have hil:=(KI.1 hz).1
 have hn:=hfr.arr.n (by decide)
 have hg:=hfr.ent _ hzm
 simp only at hg
 obtain⟨ad,ha⟩:=cS.addr hfr.arr.rd (by decide) (by omega)
 have off:=bB.off hd hfr
 have aoff:=hfr.fV hzm
 simp only at aoff
 refine⟨λA=>aj A p pY (dL dp ll t)/\aK nH uS A ll zs,⟨hd,hfr.arr⟩,?_⟩
 refine⟨ll,λA hA=>by rw[aX];exact hA.1.cell rfl,?_⟩
 refine⟨ll,λA hA=>by rw[aX];exact hA.1.cell rfl,?_⟩
 simp only[ha,aq]
 refine⟨⟨by omega,by omega⟩,?_⟩
 refine⟨g,λA hA=>uB (c:=av) hA.2 hz (j:=5) (y:=g) rfl ha,?_⟩
 refine hd.ld (c:=aa .i64) (i:=3) (x:=t.next) rfl ?_
 refine aK.DU (E:=EI) CL (x:=t.next) hg rfl (by omega) (by omega) _ (λH1 s1 m1=>⟨hd.ext m1,hfr.arr.ext m1⟩) λs2 H2 o2 g2 _=>?_
 have d2:aj H2 p pY (dL dp ll t):=hd.mod g2.1 λhb=>off (.inr ⟨_,hzm,hb⟩)
 have a2:aK nH uS H2 ll zs:=hfr.arr.ak λb hb hl=>g2.1.same b hl λhh=>aoff b hh hb
 refine⟨⟨d2,a2⟩,?_⟩
 have hst:=jw a2 hz (j:=5) (z':=(Fr.aR t.next f,s2)) (v:=s2.v) (by decide) rfl rfl (K:=λH3=>ld (aa .i64) H3 (La ⟨p,0,none⟩ 3) λ(x_4:Int)=>st H3 (La ⟨p,0,none⟩ 3) (.int .i64 (KG.wrap (x_4+(1:Int)))) λH4=>ld (aa .i64) H4 (La ⟨p,0,none⟩ 3) λ(x_5:Int)=>K (KG.wrap (x_5 - (1:Int))) H4) λH3 o3 m3 s3=>?_
 ·simp only[ha,aq] at hst
  exact hst
 have d3:aj H3 p pY (dL dp ll t):=d2.mod m3 λhb=>off (.inl hb)
 refine d3.ld (c:=aa .i64) (i:=3) (x:=t.next) rfl ?_
 refine d3.st (i:=3) (by decide:3<7) (by rfl) λH4 d4 m4 s4=>?_
 have d4':aj H4 p pY (dL dp ll {t with next:=da (t.next+1)}):=d4
 refine d4'.ld (c:=aa .i64) (i:=3) (x:=da (t.next+1)) rfl ?_
 have hw:KG.wrap (da (t.next+1) - 1)=t.next:=by
  unfold da
  rw[wrap64 (x:=t.next+1) (by omega) (by omega),wrap64 (by omega) (by omega)];omega
 rw[hw]
 have z2:=g2.1.size
 have s2p:∀b,al s2 b->b≠p:=λb hb e=>by
  obtain⟨c,q⟩:=o2.obj b hb
  rw[e] at q
  exact absurd (aQ d2 q) (by decide)
 have s2a:∀b,al s2 b->¬al ll b:=o2.apart a2 (by decide)
 obtain⟨t1,t2⟩:=hfr.set (H':=H4) hz (z':=(Fr.aR t.next f,s2)) (o3.ak λb hb hl=>m4.same b hl λe=>off (e▸.inl hb))
  (o2.ak λb hb hl=>(m4.same b (by omega) (s2p b hb)).trans (m3.same b hl (s2a b hb)))
  (λu hu b hb hne hl=>(m4.same b (by omega) λe=>off (e▸.inr ⟨u,hu,hb⟩)).trans ((m3.same b (by omega) (hfr.fV hu b hb)).trans (g2.1.same b hl hne)))
  (λb hb=>g2.2 b hb)
 refine hK s2 H4 d4' t1 ?_ t2
 exact((g2.1.mono λb _ q=>.inr (.inr ⟨_,hzm,q⟩)).trans (m3.mono λb _ q=>.inr (.inl q))).trans (m4.mono λb _ q=>.inl q)
theorem CI {i:Nat}{f:Fr}{g:Sl}{K:Int->Heap->Prop}(h:bp ll zs D H p dp s)(hz:zs[i]?=some (f,g))(hnx:s.next<1099511627775)
  (hK:∀zs' H',bp ll zs' D H' p dp (s.dE i)->Step (λb=>D b\/fU ll zs p b) (λb=>D b\/fU ll zs' p b) H H'->K s.next H'):D9.sp (aD p) i H K:=by
 have hfs:s.fs[i]?=some f:=by rw[h.ag.fs];simp[Bw,hz]
 have hpl:f.pins.length<=s.pins:=ki (λf:Fr=>f.pins.length) s.fs i f hfs
 have ht:=h.ag.wf.tick;have hlen:=h.ag.wf.len;have hmost:=h.ag.wf.most;have hzl:=h.ag.len
 refine tf (t:=s) h.ag.head h.ag.ah hz (by omega) (by omega) (by omega) (by omega) λg' H' d' r' m' o'=>?_
 have hp:bB ll (zs.set i (Fr.aR s.next f,g')) H' p dp (s.dE i):=by
  refine⟨d',r',?_,h.ag.wf.dE hfs (by omega)⟩
  show s.fs.modify i (Fr.aR s.next)=_
  rw[aS hfs,h.ag.fs];simp[Bw,Ni]
 obtain⟨q1,q2⟩:=h.jm hp rfl m' o'
 exact hK _ H' q1 q2
theorem tF {f:Fr}{K:Int->Heap->Prop}(h:bp ll zs D H p dp s)(hl:s.fs.length<s.most)(hnx:s.next<1099511627775)(hk:s.find f.name f.page=none)(hb:f.b.length<=504)(hpg:f.page<1048577)(hnm:f.name.size<=9223372036854775807)(hp:f.pins=[])(hlf:f.left=0)(hdf:f.dirty=false)
  (hK:∀ll' zs' H',bp ll' zs' D H' p dp (s.take f)->Step (λb=>D b\/fU ll zs p b) (λb=>D b\/fU ll' zs' p b) H H'->K s.next H'):
  Ay.sp (aD p) f.name (f.page:Int) (f.kind.toNat:Int) (cu f.b) false (Sl.mk none 0 0) (0:Int) H K:=by
 refine Ay.of ?_
 unfold Ay.vc
 simp only[aq]
 have ht:=h.ag.wf.tick;have hlen:=h.ag.wf.len;have hmost:=h.ag.wf.most;have hzl:=h.ag.len;have hn:=h.ag.n
 have hwt:=h.ag.wf.take hl (by omega) hk hb hpg hnm hp hlf
 refine ao λH1 s1 r1 e1=>?_
 have h1:=h.ext e1
 refine⟨λA=>aj A p pY (dL dp ll s),h1.ag.head,?_⟩
 refine⟨ll,λA hA=>by rw[aX];exact hA.cell rfl,?_⟩
 refine aj.dI (x:=(f.name,(f.page:Int),(f.kind.toNat:Int),cu f.b,false,Sl.mk none 0 0,(0:Int))) r1 rfl rfl ?_
 refine aK.DU (E:=nH) Io (x:=(f,Sl.mk none 0 0)) h1.ag.ah.arr (by simp[nH,hlf,hdf]) (by omega) (by omega) (λA=>aj A p pY (dL dp ll s)) (λH2 s2 m2=>h1.ag.head.ext m2) λs3 H3 o3 g3 _=>?_
 have off:=bB.off h.ag.head h.ag.ah
 have d3:aj H3 p pY (dL dp ll s):=h1.ag.head.mod g3.1 λq=>off (.inl q)
 refine d3.st (i:=2) (by decide:2<7) (by rfl) λH4 d4 m4 s4=>?_
 have d4':aj H4 p pY (dL dp s3 s):=d4
 refine d4'.ld (c:=aa .i64) (i:=5) (x:=(s.peak:Int)) rfl ?_
 refine d4'.ld (c:=av) (i:=2) (x:=s3) rfl ?_
 have hs3:=o3.n (by decide)
 have hs3':s3.n=s.fs.length+1:=by rw[hs3];simp;omega
 have ep:(if (s3.n:Int)>(s.peak:Int) then (s3.n:Int) else (s.peak:Int))=((max s.peak (s.fs.length+1):Nat):Int):=by
  rw[hs3'];split<;>omega
 simp only[ep]
 refine d4'.st (i:=5) (by decide:5<7) (by rfl) λH5 d5 m5 s5=>?_
 have d5':aj H5 p pY (dL dp s3 (s.add f)):=d5
 refine d5'.ld (c:=av) (i:=2) (x:=s3) rfl ?_
 have hw1:KG.wrap ((s3.n:Int) - 1)=(s.fs.length:Int):=by rw[hs3',wrap64 (by omega) (by omega)];omega
 rw[hw1]
 have z1:=e1.size;have z3:=g3.1.size
 have s3p:∀b,al s3 b->b≠p:=λb hb e=>by
  obtain⟨c,q⟩:=o3.obj b hb
  rw[e] at q
  exact absurd (aQ d3 q) (by decide)
 have m05:Mod (fU ll zs p) H H5:=(((Ext.mod e1).trans (g3.1.mono λb _ q=>.inr (.inl q))).trans (m4.mono λb _ q=>.inl q)).trans (m5.mono λb _ q=>.inl q)
 have o5:aK nH uS H5 s3 (zs++[(f,Sl.mk none 0 0)]):=o3.ak λb hb hl=>(m5.same b (by omega) (s3p b hb)).trans (m4.same b hl (s3p b hb))
 have fr5:pK H5 s3 (zs++[(f,Sl.mk none 0 0)]):=by
  refine h.ag.ah.push hp o5 λu hu b hb hl=>?_
  have hne:b≠p:=λe=>off (e▸.inr ⟨u,hu,hb⟩)
  exact(m5.same b (by omega) hne).trans ((m4.same b (by omega) hne).trans ((g3.1.same b (by omega) (h.ag.ah.fV hu b hb)).trans (e1.same b hl id)))
 have hz5:(zs++[((f,Sl.mk none 0 0):RZ)])[s.fs.length]?=some (f,Sl.mk none 0 0):=by rw[hzl];simp
 refine tf (t:=s.add f) d5' fr5 hz5 (by simp;omega) (by rw[hp];simp) (by show 0<=s.next;omega) (by show s.next<_;omega) λg' H' d' r' m' o'=>?_
 have hpG:bB s3 ((zs++[(f,Sl.mk none 0 0)]).set s.fs.length (Fr.aR s.next f,g')) H' p dp (s.take f):=by
  refine⟨d',r',?_,hwt⟩
  show (s.fs++[f]).modify s.fs.length (Fr.aR s.next)=_
  have hadd:(s.fs++[f])[s.fs.length]?=some f:=by simp
  rw[aS hadd,h.ag.fs];simp[Bw,Ni]
 have o3':∀b,zZ s3 (zs++[(f,Sl.mk none 0 0)]) b->zZ ll zs b\/H.size<=b:=by
  rintro b (q|⟨u,hu,q⟩)
  ·rcases g3.2 b q with r|r
   ·exact .inl (.inl r)
   ·exact .inr (by omega)
  ·rcases KW.1 hu with r|r
   ·exact .inl (.inr ⟨u,r,q⟩)
   ·simp at r;subst r;exact absurd q gS
 have zz:H.size<=H5.size:=m05.size
 obtain⟨q1,q2⟩:=h.jm hpG rfl (m05.trans' m' (by
  rintro b hb (q|q)
  ·exact .inl q
  ·rcases o3' b q with r|r
   ·exact .inr r
   ·omega)) (λb hb=>by
  rcases o' b hb with q|q
  ·exact o3' b q
  ·exact .inr (by omega))
 exact hK _ _ H' q1 q2
end
section
variable {F:Nat->Prop}{H:Heap}{p dp:Nat}{s:Pl}{n:ByteArray}
theorem DS {D:Nat->Prop}{d:Dk}{m:Nat}{K:(Option Addr×Int)->Heap->Prop}(hd:cr D H dp d)(h8:8<=m)(hm:m<=4096)
  (hK:∀F p H',aN F H' p dp (pl0 d m)->Ext H H'->(∀b,F b->D b\/H.size<=b)->K (aD p,0) H'):Hs.sp (aD dp) (m:Int) H K:=by
 refine Hs.of ?_
 unfold Hs.vc
 refine aw rfl ?_
 refine aw (by simp;omega) ?_
 refine aw (by simp;omega) ?_
 refine ao λH1 s1 r1 e1=>?_
 have hlt:=hd.lt
 have hp:bB (Sl.mk none 0 0) [] H1 H.size dp (pl0 d m):=⟨r1,⟨aK.nil _ _ _,by simp,by intro i j z z' h;simp at h⟩,rfl,yo h8 hm⟩
 refine hK (λb=>D b\/fU (Sl.mk none 0 0) [] H.size b) H.size H1 ⟨Sl.mk none 0 0,[],D,⟨hp,hd.ak λb _ hl=>e1.same b hl id,?_⟩,λ_=>Iff.rfl⟩ e1 ?_
 ·rintro b hb (q|q|⟨z,hz,_⟩)
  ·have:=hlt b hb;omega
  ·exact gS q
  ·cases hz
 ·rintro b (q|q|q|⟨z,hz,_⟩)
  ·exact .inl q
  ·exact .inr (by omega)
  ·exact absurd q gS
  ·cases hz
theorem v8 {k:Int}{K:(Int×Int)->Heap->Prop}(h:aN F H p dp s)(hn:n.size<=9223372036854775807)(hlogs:s.d.logs+2<68719476736)(hnx:s.next<1099511627775)
  (hK:∀F' H',aN F' H' p dp (s.aR n k).1->Step F F' H H'->K ((s.aR n k).2.1,(s.aR n k).2.2) H'):Fc.sp (aD p) n k H K:=by
 obtain⟨ll,zs,D,g,hF⟩:=h
 refine Fc.of ?_
 unfold Fc.vc
 simp only[aq]
 have out:∀{ll':Sl} {zs':List RZ} {D':Nat->Prop} {A:Heap} {t:Pl} {a e:Int},bp ll' zs' D' A p dp t->Step (λb=>D b\/fU ll zs p b) (λb=>D' b\/fU ll' zs' p b) H A->s.aR n k=(t,a,e)->K (a,e) A:=by
  intro ll' zs' D' A t a e h1 S1 he
  obtain⟨F',q1,q2⟩:=h1.out hF S1
  have:=hK F' A (by rw[he];exact q1) q2
  rw[he] at this;exact this
 have fin:∀{ll':Sl} {zs':List RZ} {D':Nat->Prop} {A:Heap} {t:Pl} {e:Int},bp ll' zs' D' A p dp t->Step (λb=>D b\/fU ll zs p b) (λb=>D' b\/fU ll' zs' p b) H A->s.aR n k=(t.met e,0,e)->
   nI.sp (aD p) e A λr H'=>K (0,r) H':=by
  intro ll' zs' D' A t e h1 S1 he
  exact qD h1 λA' h2 S2=>out h2 (S1.trans S2) he
 refine g.ag.head.ld (c:=aa .i64) (i:=6) (x:=s.wrong) rfl ?_
 refine ae (λhw=>?_) (λhw=>?_)
 ·have hw':s.wrong≠0:=by simpa using hw
  refine g.ag.head.ld (c:=aa .i64) (i:=6) (x:=s.wrong) rfl ?_
  exact out g (.refl _ _) (by unfold Pl.aR;rw[if_pos hw'])
 have hw':¬s.wrong≠0:=by simpa using hw
 refine sD g.ag ?_
 rw[wD]
 cases hi:s.find n k with
 |some i=>
   obtain⟨f,hf,_,_⟩:=Pl.eS hi
   obtain⟨gg,hz⟩:=g.ag.at hf
   exact aP rfl (CI g hz hnx λzs' A h1 S1=>out h1 S1 (by unfold Pl.aR;rw[if_neg hw',hi]))
 |none=>
   refine aw rfl ?_
   refine g.ag.head.ld (c:=ar) (i:=0) (x:=aD dp) rfl ?_
   refine nc g.ba (by omega) λH3 e3=>?_
   have g3:=g.ext e3
   have S3:Step (λb=>D b\/fU ll zs p b) (λb=>D b\/fU ll zs p b) H H3:=Step.ext e3
   have hload:s.aR n k=match s.load n k with|(q,some f,_)=>(q.take f,q.next,0)|(q,none,e)=>(q.met e,0,e):=by unfold Pl.aR;rw[if_neg hw',hi];rfl
   have bad1:∀{t:Pl} {e:Int},s.load n k=(t,none,e)->s.aR n k=(t.met e,0,e):=λhe=>by rw[hload,he]
   have hlenle:=Dk.kM g.ba.wf n
   by_cases hl:(s.d.len n).2=0
   ·by_cases hp:k<0\/k>=(s.d.len n).1
    ·refine aP (by simp[hl];omega) (aw rfl (aP rfl (fin g3 S3 (bad1 ?_))))
     unfold Pl.load;rw[if_neg (by simp[hl]),if_pos hp]
    ·refine aw (by simp[hl];omega) (aP (by simp[hl]) ?_)
     refine su g3 (by omega) λll4 zs4 D4 H4 h4 S4=>?_
     have S34:=S3.trans S4
     have hrl:=s.jo
     by_cases hr:s.room.2=0
     ·refine aw (by simp[hr]) ?_
      refine h4.ag.head.ld (c:=ar) (i:=0) (x:=aD dp) rfl ?_
      refine sx h4.ba (by omega) λr H5 b5 e5 f5 c5=>?_
      have h5:=h4.ext e5
      by_cases hrd:(s.room.1.d.read n k).2=0
      ·refine aw (by simp[hrd]) ?_
       have h512:=(Dk.vF s.room.1.d n k).2 hrd
       refine Dy b5 c5 h512 (λho H6 e6=>?_) (λkd b sl H6 ho hbl o6 e6 f6=>?_)
       ·refine aP rfl (fin (h5.ext e6) ((S34.behind e5).behind e6) (bad1 ?_))
        unfold Pl.load;rw[if_neg (by simp[hl]),if_neg hp,if_neg (by simp[hr]),if_neg (by simp[hrd]),ho]
       ·refine aw rfl ?_
        refine jD (bY o6) ?_
        obtain⟨pg,rfl⟩:∃pg:Nat,k=pg:=⟨k.toNat,by omega⟩
        have hrs:=s.bJ
        have hrw:=g.ag.wf.oG
        refine tF (f:=⟨n,pg,kd,b,false,[],0⟩) (h5.ext e6) (by rw[hrs.1];exact hrw.2 hr) (by rw[hrs.2.1];exact hnx) (Pl.lM hi) hbl (by show pg<_;omega) hn rfl rfl rfl λll7 zs7 H7 h7 S7=>?_
        refine out h7 (((S34.behind e5).behind e6).trans S7) ?_
        rw[hload]
        unfold Pl.load;rw[if_neg (by simp[hl]),if_neg hp,if_neg (by simp[hr]),if_neg (by simp[hrd]),ho]
        simp
      ·refine aP (by simp[hrd]) (fin h5 (S34.behind e5) (bad1 ?_))
       unfold Pl.load;rw[if_neg (by simp[hl]),if_neg hp,if_neg (by simp[hr]),if_pos (by simpa using hrd)]
     ·refine aP (by simp[hr]) (fin h4 S34 (bad1 ?_))
      unfold Pl.load;rw[if_neg (by simp[hl]),if_neg hp,if_pos (by simpa using hr)]
   ·refine aw (by simp[hl]) (aw (by simp[hl]) (aP (by simp[hl]) (fin g3 S3 (bad1 ?_))))
    unfold Pl.load;rw[if_pos (by simpa using hl)]
theorem yz {K:(Int×Int×Int)->Heap->Prop}(h:aN F H p dp s)(hn:n.size<=9223372036854775807)(hlogs:s.d.logs+2<68719476736)(hnx:s.next<1099511627775)(hfit:s.Fit)
  (hK:∀F' H',aN F' H' p dp (s.fresh n).1->Step F F' H H'->K ((s.fresh n).2.1,(s.fresh n).2.2.1,(s.fresh n).2.2.2) H'):GI.sp (aD p) n H K:=by
 obtain⟨ll,zs,D,g,hF⟩:=h
 refine GI.of ?_
 unfold GI.vc
 simp only[aq]
 have out:∀{ll':Sl} {zs':List RZ} {D':Nat->Prop} {A:Heap} {t:Pl} {a b e:Int},bp ll' zs' D' A p dp t->Step (λb=>D b\/fU ll zs p b) (λb=>D' b\/fU ll' zs' p b) H A->s.fresh n=(t,a,b,e)->K (a,b,e) A:=by
  intro ll' zs' D' A t a b e h1 S1 he
  obtain⟨F',q1,q2⟩:=h1.out hF S1
  have:=hK F' A (by rw[he];exact q1) q2
  rw[he] at this;exact this
 have fin:∀{ll':Sl} {zs':List RZ} {D':Nat->Prop} {A:Heap} {t:Pl} {e:Int},bp ll' zs' D' A p dp t->Step (λb=>D b\/fU ll zs p b) (λb=>D' b\/fU ll' zs' p b) H A->s.fresh n=(t.met e,0,0,e)->
   nI.sp (aD p) e A λr H'=>K (0,0,r) H':=by
  intro ll' zs' D' A t e h1 S1 he
  exact qD h1 λA' h2 S2=>out h2 (S1.trans S2) he
 refine g.ag.head.ld (c:=aa .i64) (i:=6) (x:=s.wrong) rfl ?_
 refine ae (λhw=>?_) (λhw=>?_)
 ·have hw':s.wrong≠0:=by simpa using hw
  refine g.ag.head.ld (c:=aa .i64) (i:=6) (x:=s.wrong) rfl ?_
  exact out g (.refl _ _) (by unfold Pl.fresh;rw[if_pos hw'])
 have hw':¬s.wrong≠0:=by simpa using hw
 refine g.ag.head.ld (c:=ar) (i:=0) (x:=aD dp) rfl ?_
 refine nc g.ba (by omega) λH3 e3=>?_
 have g3:=g.ext e3
 have S3:Step (λb=>D b\/fU ll zs p b) (λb=>D b\/fU ll zs p b) H H3:=Step.ext e3
 have hlenle:=Dk.kM g.ba.wf n
 by_cases hl:(s.d.len n).2=0
 ·refine aP (by simp[hl]) ?_
  refine su g3 (by omega) λll4 zs4 D4 H4 h4 S4=>?_
  have S34:=S3.trans S4
  have hrl:=s.jo
  by_cases hr:s.room.2=0
  ·refine aw (by simp[hr]) ?_
   refine q7 (kind:=0) (l:=[]) (bG.nil _) (by simp) λr H5 o5 e5 f5=>?_
   have h5:=h4.ext e5
   refine h5.ag.head.ld (c:=ar) (i:=0) (x:=aD dp) rfl ?_
   have hlt:=h4.lt
   refine sN h5.ba (bY o5) (λad ha hD=>?_) (by omega) λD6 H6 a6 S6=>?_
   ·have:=f5 ad.block ⟨ad,ha,rfl⟩
    have:=hlt _ (.inl hD);omega
   obtain⟨q1,q2⟩:=h5.ky a6 S6
   have S36:=(S34.behind e5).trans q2
   by_cases hwr:(s.room.1.d.write n (s.d.len n).1 (bA 0 [])).2=0
   ·refine aw (by simp[hwr]) ?_
    have hrs:=s.bJ
    have hrw:=g.ag.wf.oG
    refine tF (f:=⟨n,(s.d.len n).1,0,[],false,[],0⟩) q1 (by show s.room.1.fs.length<s.room.1.most;rw[hrs.1];exact hrw.2 hr) (by show s.room.1.next<_;rw[hrs.2.1];exact hnx) (Pl.lM (hfit.new hl)) (by simp) (by show (s.d.len n).1<_;omega) hn rfl rfl rfl λll7 zs7 H7 h7 S7=>?_
    refine out h7 (S36.trans S7) ?_
    unfold Pl.fresh;rw[if_neg hw',if_neg (by simp[hl]),if_neg (by simp[hr]),if_neg (by simp[hwr])]
    rfl
   ·refine aP (by simp[hwr]) (fin q1 S36 ?_)
    unfold Pl.fresh;rw[if_neg hw',if_neg (by simp[hl]),if_neg (by simp[hr]),if_pos (by simpa using hwr)]
  ·refine aP (by simp[hr]) (fin h4 S34 ?_)
   unfold Pl.fresh;rw[if_neg hw',if_neg (by simp[hl]),if_pos (by simpa using hr)]
 ·refine aw (by simp[hl]) (aP (by simp[hl]) (fin g3 S3 ?_))
  unfold Pl.fresh;rw[if_neg hw',if_pos (by simpa using hl)]
theorem Ak {c:Int}{K:(Int×Sl×Int)->Heap->Prop}(h:aN F H p dp s)(hnx:s.next<9223372036854775807)
  (hK:∀sl H',bG H' sl (s.get c).2.1->Ext H H'->(∀b,al sl b->H.size<=b)->sl.n<=sl.c->K (((s.get c).1.toNat:Int),sl,(s.get c).2.2) H'):GB.sp (aD p) c H K:=by
 obtain⟨ll,zs,D,g,hF⟩:=h
 refine GB.of ?_
 unfold GB.vc
 simp only[aq]
 have none_:∀e:Int,s.get c=(0,[],e)->K (0,Sl.mk none 0 0,e) H:=by
  intro e he
  have:=hK (Sl.mk none 0 0) H (by rw[he];exact bG.nil _) (.refl _ _) (λb q=>absurd q gS) (KN _)
  rw[he] at this;exact this
 refine oI g.ag hnx ?_
 refine g.ag.head.ld (c:=aa .i64) (i:=6) (x:=s.wrong) rfl ?_
 refine ae (λhw=>?_) (λhw=>?_)
 ·have hw':s.wrong≠0:=by simpa using hw
  refine g.ag.head.ld (c:=aa .i64) (i:=6) (x:=s.wrong) rfl ?_
  exact none_ _ (by unfold Pl.get;rw[if_pos hw'])
 have hw':¬s.wrong≠0:=by simpa using hw
 rw[ka]
 cases hi:s.held c with
 |none=>exact aP rfl (none_ _ (by unfold Pl.get;rw[if_neg hw',hi]))
 |some i=>
   refine aw rfl ?_
   obtain⟨f,hf,_⟩:=Pl.eU hi
   obtain⟨gg,hz⟩:=g.ag.at hf
   have hil:=(KI.1 hf).1
   have hn:=g.ag.n;have hzl:=g.ag.len
   obtain⟨ad,ha⟩:=cS.addr g.ag.ah.arr.rd (by decide) (by omega)
   have he:s.get c=(f.kind,f.b,0):=by unfold Pl.get;rw[if_neg hw',hi];simp only;rw[Pl.cX hf]
   rw[he] at hK
   refine⟨λA=>aj A p pY (dL dp ll s)/\aK nH uS A ll zs,⟨g.ag.head,g.ag.ah.arr⟩,?_⟩
   refine⟨ll,λA hA=>by rw[aX];exact hA.1.cell rfl,?_⟩
   simp only[ha,aq]
   refine⟨⟨by simp only[mY];omega,by simp only[mY];omega⟩,?_⟩
   refine⟨(f.kind.toNat:Int),λA hA=>uB (c:=aa .u8) hA.2 hz (j:=2) (y:=(f.kind.toNat:Int)) rfl ha,?_⟩
   refine g.ag.head.ld (c:=av) (i:=2) (x:=ll) rfl ?_
   refine g.ag.ah.ld hz (j:=3) (c:=aV) (y:=cu f.b) rfl ?_
   refine kf λx4 H1 b1 e1 f1 c1=>?_
   exact⟨⟨g.ag.head.ext e1,g.ag.ah.arr.ext e1⟩,hK x4 H1 b1 e1 f1 c1⟩
theorem vg {c:Int}{kd:UInt8}{b:Sl}{l:List UInt8}{K:Int->Heap->Prop}(h:aN F H p dp s)(hnx:s.next<9223372036854775807)(hb:bG H b l)(hbF:∀ad,b.a=some ad->¬F ad.block)
  (hK:∀F' H',aN F' H' p dp (s.set c kd l).1->Step F F' H H'->K (s.set c kd l).2 H'):EJ.sp (aD p) c (kd.toNat:Int) b H K:=by
 have h00:=h
 obtain⟨ll,zs,D,g,hF⟩:=h
 refine EJ.of ?_
 unfold EJ.vc
 simp only[aq]
 have stay:∀e:Int,s.set c kd l=(s,e)->K e H:=by
  intro e he
  have:=hK F H (by rw[he];exact h00) (.refl _ _)
  rw[he] at this;exact this
 refine oI g.ag hnx ?_
 refine g.ag.head.ld (c:=aa .i64) (i:=6) (x:=s.wrong) rfl ?_
 refine ae (λhw=>?_) (λhw=>?_)
 ·have hw':s.wrong≠0:=by simpa using hw
  refine g.ag.head.ld (c:=aa .i64) (i:=6) (x:=s.wrong) rfl ?_
  exact stay _ (by unfold Pl.set;rw[if_pos hw'])
 have hw':¬s.wrong≠0:=by simpa using hw
 rw[ka]
 cases hi:s.held c with
 |none=>exact aP rfl (stay _ (by unfold Pl.set;rw[if_neg hw',hi]))
 |some i=>
   refine aw rfl ?_
   have hbn:=hb.n
   refine ae (λhc=>?_) (λhc=>?_)
   ·have hgt:l.length>504:=by simp at hc;omega
    exact stay _ (by unfold Pl.set;rw[if_neg hw',hi];simp only;rw[if_pos hgt])
   have hle:¬l.length>504:=by simp at hc;omega
   have he:s.set c kd l=(s.bf i (Fr.set kd l),0):=by unfold Pl.set;rw[if_neg hw',hi];simp only;rw[if_neg hle]
   rw[he] at hK
   obtain⟨f,hf,_⟩:=Pl.eU hi
   obtain⟨gg,hz⟩:=g.ag.at hf
   have hil:=(KI.1 hf).1
   have hil2:=(KI.1 hz).1
   have off:=bB.off g.ag.head g.ag.ah
   refine g.ag.head.ld (c:=av) (i:=2) (x:=ll) rfl ?_
   refine jw g.ag.ah.arr hz (j:=2) (z':=({f with kind:=kd},gg)) (v:=.int .u8 (kd.toNat:Int)) (by decide) rfl rfl λH1 o1 m1 s1=>?_
   have d1:aj H1 p pY (dL dp ll s):=g.ag.head.mod m1 λq=>off (.inl q)
   refine d1.ld (c:=av) (i:=2) (x:=ll) rfl ?_
   have b1:bG H1 b l:=hb.ak λad ha hl=>m1.same _ hl λq=>hbF ad ha ((hF _).2 (.inr (.inr (.inl q))))
   refine jD b1 ?_
   have hz1:(zs.set i ({f with kind:=kd},gg))[i]?=some ({f with kind:=kd},gg):=by simp[hil2]
   refine jw o1 hz1 (j:=3) (z':=({f with kind:=kd,b:=l},gg)) (v:=.string (cu l)) (by decide) rfl rfl λH2 o2 m2 s2=>?_
   have d2:aj H2 p pY (dL dp ll s):=d1.mod m2 λq=>off (.inl q)
   refine d2.ld (c:=av) (i:=2) (x:=ll) rfl ?_
   rw[QZ] at o2
   have hz2:(zs.set i ({f with kind:=kd,b:=l},gg))[i]?=some ({f with kind:=kd,b:=l},gg):=by simp[hil2]
   refine jw o2 hz2 (j:=4) (z':=(Fr.set kd l f,gg)) (v:=.bool true) (by decide) rfl rfl λH3 o3 m3 s3=>?_
   rw[QZ] at o3
   obtain⟨u1,u2⟩:=g.vY (i:=i) (s':=s.bf i (Fr.set kd l)) hz o3 ((m1.trans m2).trans m3) rfl (by
    show s.fs.modify i (Fr.set kd l)=s.fs.modify i λ_=>Fr.set kd l f
    rw[aS hf,aS hf]) (g.ag.wf.bf hf rfl rfl rfl (by simp only[Fr.set];omega)) rfl rfl
   obtain⟨F',q1,q2⟩:=u1.out hF u2
   exact hK F' H3 q1 q2
theorem jF {c:Int}{K:Int->Heap->Prop}(h:aN F H p dp s)(hnx:s.next<1099511627775)
  (hK:∀F' H',aN F' H' p dp (s.aB c).1->Step F F' H H'->K (s.aB c).2 H'):DC.sp (aD p) c H K:=by
 have h00:=h
 obtain⟨ll,zs,D,g,hF⟩:=h
 have hwf:=g.ag.wf.aB c (by omega)
 refine DC.of ?_
 unfold DC.vc
 simp only[aq]
 have stay:∀e:Int,s.aB c=(s,e)->K e H:=by
  intro e he
  have:=hK F H (by rw[he];exact h00) (.refl _ _)
  rw[he] at this;exact this
 refine oI g.ag (by omega) ?_
 refine g.ag.head.ld (c:=aa .i64) (i:=6) (x:=s.wrong) rfl ?_
 refine ae (λhw=>?_) (λhw=>?_)
 ·have hw':s.wrong≠0:=by simpa using hw
  refine g.ag.head.ld (c:=aa .i64) (i:=6) (x:=s.wrong) rfl ?_
  exact stay _ (by unfold Pl.aB;rw[if_pos hw'])
 have hw':¬s.wrong≠0:=by simpa using hw
 rw[ka]
 cases hi:s.held c with
 |none=>exact aP rfl (stay _ (by unfold Pl.aB;rw[if_neg hw',hi]))
 |some i=>
   refine aw rfl ?_
   have he:s.aB c=({s with fs:=s.fs.modify i (Fr.aB c (da (s.tick+1))),tick:=da (s.tick+1)},0):=by unfold Pl.aB;rw[if_neg hw',hi]
   rw[he] at hK hwf
   obtain⟨f,hf,_⟩:=Pl.eU hi
   obtain⟨gg,hz⟩:=g.ag.at hf
   have hzm:=KH hz
   have hil:=(KI.1 hf).1
   have hil2:=(KI.1 hz).1
   have off:=bB.off g.ag.head g.ag.ah
   have hpl:f.pins.length<=s.pins:=ki (λf:Fr=>f.pins.length) s.fs i f hf
   have ht:=g.ag.wf.tick
   have hgg:=g.ag.ah.ent _ hzm
   simp only at hgg
   have hgn:=hgg.n (by decide)
   refine ay f.pins.length (λk x H2=>x.2=(k:Int)/\aK EI j7 H2 x.1 ((f.pins.take k).filter λx=>decide (x≠c))/\Ext H H2/\∀b,al x.1 b->H.size<=b) ⟨rfl,aK.nil _ _ _,.refl _ _,λb q=>absurd q gS⟩ ?_
   rintro k ⟨l1,j⟩ H2 next hk ⟨hj,o2,e2,f2⟩ hnext
   simp only at hj o2 f2 hnext ⊢
   subst hj
   have g2:=g.ext e2
   have z2:=e2.size
   refine g2.ag.head.ld (c:=av) (i:=2) (x:=ll) rfl ?_
   refine g2.ag.ah.ld hz (j:=5) (c:=av) (y:=gg) rfl ?_
   refine ae (λhc=>?_) (λhc=>?_)
   ·have hlt:k<f.pins.length:=by rw[hgn] at hc;simpa using hc
    refine g2.ag.head.ld (c:=av) (i:=2) (x:=ll) rfl ?_
    refine g2.ag.ah.ld hz (j:=5) (c:=av) (y:=gg) rfl ?_
    refine uk (hgg.ext e2) hlt ?_
    have htk:(f.pins.take (k+1)).filter (λx=>decide (x≠c))=(f.pins.take k).filter (λx=>decide (x≠c))++if f.pins[k]≠c then [f.pins[k]] else []:=by
     rw[KP hlt,LH]
     congr 1
     by_cases q:f.pins[k]=c<;>simp[q]
    have hw64:KG.wrap ((k:Int)+1)=((k+1:Nat):Int):=aI k (by omega)
    refine ae (λhq=>?_) (λhq=>?_)
    ·have hq':f.pins[k]≠c:=by simpa using hq
     rw[if_pos hq'] at htk
     refine g2.ag.head.ld (c:=av) (i:=2) (x:=ll) rfl ?_
     refine g2.ag.ah.ld hz (j:=5) (c:=av) (y:=gg) rfl ?_
     refine uk (hgg.ext e2) hlt ?_
     have hfl:=NO (λx=>decide (x≠c)) (f.pins.take k)
     simp only[M8] at hfl
     refine aK.push (E:=EI) CL (x:=f.pins[k]) o2 rfl (by omega) (by omega) λl3 H3 o3 g3 _=>?_
     have z3:=g3.1.size
     refine hnext hlt _ _ ⟨hw64,by rw[htk];exact o3,⟨by omega,λb hb _=>(g3.1.same b (by omega) λhh=>by have:=f2 b hh;omega).trans (e2.same b hb id)⟩,λb hb=>?_⟩
     rcases g3.2 b hb with q|q
     ·exact f2 b q
     ·omega
    ·have hq':¬f.pins[k]≠c:=by simpa using hq
     rw[if_neg hq',List.append_nil] at htk
     exact hnext hlt _ _ ⟨hw64,by rw[htk];exact o2,e2,f2⟩
   ·have hge:k=f.pins.length:=by rw[hgn] at hc;simp at hc;omega
    rw[hge,KT (KN _)] at o2
    refine g2.ag.head.ld (c:=av) (i:=2) (x:=ll) rfl ?_
    refine jw g2.ag.ah.arr hz (j:=5) (z':=({f with pins:=f.pins.filter λx=>decide (x≠c)},l1)) (v:=l1.v) (by decide) rfl rfl λH3 o3 m3 s3=>?_
    have d3:aj H3 p pY (dL dp ll s):=g2.ag.head.mod m3 λq=>off (.inl q)
    refine d3.ld (c:=aa .i64) (i:=4) (x:=s.tick) rfl ?_
    refine d3.st (i:=4) (by decide:4<7) (by rfl) λH4 d4 m4 s4=>?_
    obtain⟨t,htt⟩:∃t:Pl,t={s with fs:=s.fs.modify i (Fr.aB c (da (s.tick+1))),tick:=da (s.tick+1)}:=⟨_,rfl⟩
    have d4':aj H4 p pY (dL dp ll t):=by rw[htt];exact d4
    refine d4'.ld (c:=av) (i:=2) (x:=ll) rfl ?_
    refine d4'.ld (c:=aa .i64) (i:=4) (x:=da (s.tick+1)) (by rw[htt];rfl) ?_
    have o4:aK nH uS H4 ll (zs.set i ({f with pins:=f.pins.filter λx=>decide (x≠c)},l1)):=o3.ak λb hb hl=>m4.same b hl λe=>off (e▸.inl hb)
    have hz4:(zs.set i (({f with pins:=f.pins.filter λx=>decide (x≠c)},l1):RZ))[i]?=some ({f with pins:=f.pins.filter λx=>decide (x≠c)},l1):=by simp[hil2]
    refine jw o4 hz4 (j:=6) (z':=(Fr.aB c (da (s.tick+1)) f,l1)) (v:=.int .i64 (da (s.tick+1))) (by decide) rfl rfl λH5 o5 m5 s5=>?_
    rw[QZ] at o5
    have l1p:∀b,al l1 b->b≠p:=λb hb e=>by have:=f2 b hb;have:=aG g.ag.head;omega
    have l1a:∀b,al l1 b->¬al ll b:=o2.apart g2.ag.ah.arr (by decide)
    obtain⟨t1,t2⟩:=g.ag.ah.set (H':=H5) hz (z':=(Fr.aB c (da (s.tick+1)) f,l1)) o5
     (o2.ak λb hb hl=>(m5.same b (by omega) (l1a b hb)).trans ((m4.same b (by omega) (l1p b hb)).trans (m3.same b hl (l1a b hb))))
     (λu hu b hb _ hl=>(m5.same b (by omega) (g.ag.ah.fV hu b hb)).trans ((m4.same b (by omega) λe=>off (e▸.inr ⟨u,hu,hb⟩)).trans ((m3.same b (by omega) (g.ag.ah.fV hu b hb)).trans (e2.same b hl id))))
     (λb hb=>.inr (f2 b hb))
    have hpG:bB ll (zs.set i (Fr.aB c (da (s.tick+1)) f,l1)) H5 p dp t:=by
     refine⟨d4'.mod m5 λq=>off (.inl q),t1,?_,by rw[htt];exact hwf⟩
     rw[htt]
     show s.fs.modify i (Fr.aB c (da (s.tick+1)))=_
     rw[aS hf,g.ag.fs];simp[Bw,Ni]
    obtain⟨q1,q2⟩:=g.jm hpG (by rw[htt]) ((((Ext.mod e2).trans (m3.mono λb _ q=>.inr (.inl q))).trans (m4.mono λb _ q=>.inl q)).trans (m5.mono λb _ q=>.inr (.inl q))) t2
    obtain⟨F',r1,r2⟩:=q1.out hF q2
    rw[htt] at r1
    exact hK F' H5 r1 r2
theorem vC {K:Int->Heap->Prop}(h:aN F H p dp s)(hK:K (s.pinned:Int) H):GH.sp (aD p) H K:=by
 obtain⟨ll,zs,D,g,hF⟩:=h
 refine GH.of ?_
 unfold GH.vc
 simp only[aq]
 have hn:=g.ag.n
 have hlen:=g.ag.wf.len;have hmost:=g.ag.wf.most
 refine ay s.fs.length (λk x H1=>x.1=(((s.fs.take k).filter λf=>!f.pins.isEmpty).length:Int)/\x.2=(k:Int)/\H1=H) ⟨rfl,rfl,rfl⟩ ?_
 rintro k ⟨c,i⟩ H1 next hk ⟨hc1,hi,rfl⟩ hnext
 simp only at hc1 hi hnext ⊢
 subst hc1
 subst hi
 refine g.ag.head.ld (c:=av) (i:=2) (x:=ll) rfl ?_
 refine ae (λhc=>?_) (λhc=>?_)
 ·have hlt:k<s.fs.length:=by rw[hn] at hc;simpa using hc
  obtain⟨gg,hz⟩:=g.ag.at (KJ hlt)
  have hpn:=(g.ag.ah.ent _ (KH hz)).n (by decide)
  simp only at hpn
  have hcl:=NO (λf:Fr=>!f.pins.isEmpty) (s.fs.take k)
  simp only[M8] at hcl
  have htk:((s.fs.take (k+1)).filter λf=>!f.pins.isEmpty).length=((s.fs.take k).filter λf=>!f.pins.isEmpty).length+if s.fs[k].pins.isEmpty then 0 else 1:=by
   rw[KP hlt,LH,Lj]
   congr 1
   cases hq:s.fs[k].pins.isEmpty<;>simp[hq]
  refine g.ag.head.ld (c:=av) (i:=2) (x:=ll) rfl ?_
  refine g.ag.ah.ld hz (j:=5) (c:=av) (y:=gg) rfl ?_
  refine ae (λhq=>?_) (λhq=>?_)
  ·have hne:s.fs[k].pins.isEmpty=false:=by
    cases hp:s.fs[k].pins with
    |nil=>rw[hp] at hpn;simp at hpn hq;omega
    |cons a r=>rfl
   rw[hne] at htk
   refine hnext hlt _ _ ⟨?_,aI k (by omega),rfl⟩
   rw[htk,wrap64 (by omega) (by omega)];simp
  ·have he:s.fs[k].pins.isEmpty=true:=by
    rw[List.isEmpty_iff]
    exact List.eq_nil_of_length_eq_zero (by simp at hq;omega)
   rw[he] at htk
   exact hnext hlt _ _ ⟨by rw[htk];simp,aI k (by omega),rfl⟩
 ·have hge:k=s.fs.length:=by rw[hn] at hc;simp at hc;omega
  rw[hge,KT (KN _)]
  exact hK
end
section
variable {F:Nat->Prop}{H:Heap}{p dp:Nat}{s:Pl}{n:ByteArray}
theorem yp {K:Int->Heap->Prop}(h:aN F H p dp s)(hlogs:s.d.logs<68717000000)(hfit:s.Fit)
  (hK:∀F' H',aN F' H' p dp (s.flush n).1->Step F F' H H'->K (s.flush n).2 H'):Gy.sp (aD p) n H K:=by
 obtain⟨ll,zs,D,g,hF⟩:=h
 refine Gy.of ?_
 unfold Gy.vc
 simp only[aq]
 have out:∀{ll':Sl} {zs':List RZ} {D':Nat->Prop} {A:Heap} {t:Pl} {e:Int},bp ll' zs' D' A p dp t->Step (λb=>D b\/fU ll zs p b) (λb=>D' b\/fU ll' zs' p b) H A->s.flush n=(t,e)->K e A:=by
  intro ll' zs' D' A t e h1 S1 he
  obtain⟨F',q1,q2⟩:=h1.out hF S1
  have:=hK F' A (by rw[he];exact q1) q2
  rw[he] at this;exact this
 have fin:∀{ll':Sl} {zs':List RZ} {D':Nat->Prop} {A:Heap} {t:Pl} {e:Int},bp ll' zs' D' A p dp t->Step (λb=>D b\/fU ll zs p b) (λb=>D' b\/fU ll' zs' p b) H A->s.flush n=Pl.out (t,e)->
   nI.sp (aD p) e A λr H'=>K r H':=by
  intro ll' zs' D' A t e h1 S1 he
  exact qD h1 λA' h2 S2=>out h2 (S1.trans S2) he
 refine g.ag.head.ld (c:=aa .i64) (i:=6) (x:=s.wrong) rfl ?_
 refine ae (λhw=>?_) (λhw=>?_)
 ·have hw':s.wrong≠0:=by simpa using hw
  refine g.ag.head.ld (c:=aa .i64) (i:=6) (x:=s.wrong) rfl ?_
  exact out g (.refl _ _) (by unfold Pl.flush;rw[if_pos hw'])
 have hw':¬s.wrong≠0:=by simpa using hw
 refine g.ag.head.ld (c:=ar) (i:=0) (x:=aD dp) rfl ?_
 refine nc g.ba (by omega) λH3 e3=>?_
 have g3:=g.ext e3
 have S3:Step (λb=>D b\/fU ll zs p b) (λb=>D b\/fU ll zs p b) H H3:=Step.ext e3
 have hlenle:=Dk.kM g.ba.wf n
 by_cases hl:(s.d.len n).2=0
 ·refine aw (by simp[hl]) ?_
  have hfl:=Pl.ux g.ag.wf hfit hl
  generalize hN:(s.d.len n).1=N at*
  obtain⟨R,hR⟩:∃R,R=Pl.aH n (Lg N) s:=⟨_,rfl⟩
  rw[<-hR] at hfl
  refine⟨Nat,λk x A=>x=(k:Int)/\k<=N/\∃(zs':List RZ) (D':Nat->Prop) (t:Pl),bp ll zs' D' A p dp t/\Step (λb=>D b\/fU ll zs p b) (λb=>D' b\/fU ll zs' p b) H A/\Pl.aH n ((Lg N).drop k) t=R/\t.d.logs<=s.d.logs+k,λk=>N - k,⟨0,rfl,Lh _,zs,D,s,g3,S3,by rw[List.drop_zero,hR],KN _⟩,?_⟩
  rintro k _ A ⟨rfl,hk,zs',D',t,ht,hS,hL,hlg⟩
  refine ae (λhc=>?_) (λhc=>?_)
  ·have hlt:k<N:=by simpa using hc
   have hdr:(Lg N).drop k=k::(Lg N).drop (k+1):=by
    rw[List.drop_eq_getElem_cons (by simpa using hlt)];simp
   rw[hdr] at hL
   unfold Pl.aH at hL
   have hw64:=aI k (by omega)
   refine sD ht.ag ?_
   rw[wD]
   cases hi:t.find n k with
   |none=>
     rw[hi] at hL
     simp only at hL
     refine aw rfl ?_
     rw[hw64]
     exact⟨k+1,⟨rfl,hlt,zs',D',t,ht,hS,hL,by omega⟩,by show N - (k+1)<N - k;omega⟩
   |some i=>
     rw[hi] at hL
     refine aP rfl ?_
     obtain⟨f,hf,_,_⟩:=Pl.eS hi
     obtain⟨gg,hz⟩:=ht.ag.at hf
     refine ht.ag.head.ld (c:=av) (i:=2) (x:=ll) rfl ?_
     refine ht.ag.ah.ld hz (j:=4) (c:=aA) (y:=f.dirty) rfl ?_
     simp only[Pl.cX hf] at hL
     cases hdt:f.dirty with
     |false=>
       rw[hdt,if_neg (by simp)] at hL
       refine aw rfl ?_
       rw[hw64]
       exact⟨k+1,⟨rfl,hlt,zs',D',t,ht,hS,hL,by omega⟩,by show N - (k+1)<N - k;omega⟩
     |true=>
       rw[hdt,if_pos rfl] at hL
       refine aP rfl ?_
       have hpl:=t.ku i
       refine rv ht hz (by omega) λzs2 D2 A2 h2 S2=>?_
       by_cases hq:(t.put i).2=0
       ·rw[if_pos hq] at hL
        refine aw (by simp[hq]) ?_
        rw[hw64]
        exact⟨k+1,⟨rfl,hlt,zs2,D2,(t.put i).1,h2,hS.trans S2,hL,by omega⟩,by show N - (k+1)<N - k;omega⟩
       ·rw[if_neg hq] at hL
        refine aP (by simp[hq]) ?_
        refine fin h2 (hS.trans S2) ?_
        unfold Pl.flush
        rw[if_neg hw',if_neg (by simp[hl]),hfl,<-hL,if_pos hq]
  ·have hge:k=N:=by simp at hc;omega
   subst hge
   rw[List.drop_of_length_le (by simp)] at hL
   unfold Pl.aH at hL
   refine ht.ag.head.ld (c:=ar) (i:=0) (x:=aD dp) rfl ?_
   refine BW ht.ba (by omega) λD5 H5 a5 S5=>?_
   obtain⟨q1,q2⟩:=ht.ky a5 S5
   refine fin q1 (hS.trans q2) ?_
   unfold Pl.flush
   rw[if_neg hw',if_neg (by simp[hl]),hfl,<-hL,if_neg (by simp)]
 ·refine aP (by simp[hl]) (fin g3 S3 ?_)
  unfold Pl.flush;rw[if_neg hw',if_pos (by simpa using hl)]
end
open Go.MapKept
def cc (p:Nat)(b:Rb):List Value:=[.pointer (aD p),.string b.name,.int .i64 b.width,.int .i64 b.wrong,.bool b.closed]
abbrev bu (H:Heap)(k:Nat)(t:TypeId)(p:Nat)(b:Rb)(rest:List Value):Prop:=aj H k t (cc p b++rest).toArray
theorem aN.wf {F:Nat->Prop}{H:Heap}{p dp:Nat}{s:Pl}(h:aN F H p dp s):s.WF:=by
 obtain⟨_,_,_,g,_⟩:=h
 exact g.ag.wf
section
variable {H:Heap}{k p dp:Nat}{t:TypeId}{b:Rb}{rest:List Value}{F:Nat->Prop}{s:Pl}
theorem bu.get (i:Nat)(v:Value)(h:(cc p b)[i]?=some v):(cc p b++rest).toArray[i]?=some v:=by
 rw[M3,K9 (KI.1 h).1];exact h
theorem bu.tail {j:Nat}{v:Value}(h:rest[j]?=some v):(cc p b++rest).toArray[5+j]?=some v:=by
 rw[M3,LR (by simp[cc])]
 simpa[cc] using h
theorem lK {K:Int->Heap->Prop}(h:bu H k t p b rest)(hK:K b.ready H):BR.sp (aD k) H K:=by
 refine BR.of ?_
 unfold BR.vc
 unfold Rb.ready at hK
 simp only[aq,aD]
 refine aj.ld (c:=aa .i64) (i:=3) (x:=b.wrong) h (bu.get 3 _ rfl) ?_
 refine ae (λhc=>?_) (λhc=>?_)
 ·refine aj.ld (c:=aa .i64) (i:=3) (x:=b.wrong) h (bu.get 3 _ rfl) ?_
  rw[if_pos (by simpa using hc)] at hK
  exact hK
 ·rw[if_neg (by simpa using hc)] at hK
  refine aj.ld (c:=aA) (i:=4) (x:=b.closed) h (bu.get 4 _ rfl) ?_
  cases hcl:b.closed with
  |true=>rw[hcl,if_pos rfl] at hK;exact hK
  |false=>rw[hcl,if_neg (by simp)] at hK;exact hK
theorem xR (e:Int):(cc p b++rest).toArray.setIfInBounds 3 (.int .i64 e)=(cc p {b with wrong:=e}++rest).toArray:=by
 simp[cc]
theorem wi:(cc p b++rest).toArray.setIfInBounds 4 (.bool true)=(cc p {b with closed:=true}++rest).toArray:=by
 simp[cc]
theorem oh {e:Int}{K:Int->Heap->Prop}(h:bu H k t p b rest)(hw:b.wrong=0)(hK:∀H',bu H' k t p (b.bO e) rest->Mod (λq=>q=k) H H'->H'.size=H.size->K e H'):AK.sp (aD k) e H K:=by
 refine AK.of ?_
 unfold AK.vc
 unfold Rb.bO at hK
 simp only[aq,aD]
 refine ae (λhc=>?_) (λhc=>?_)
 ·rw[if_pos (by simpa using hc)] at hK
  refine aj.ld (c:=aa .i64) (i:=3) (x:=b.wrong) h (bu.get 3 _ rfl) ?_
  refine aP (by rw[hw];rfl) ?_
  refine aj.st h (i:=3) (by simp[cc]) rfl λH' h' m hs=>?_
  rw[xR] at h'
  exact hK H' h' m hs
 ·rw[if_neg (by simpa using hc)] at hK
  exact hK H h (.refl _ _) rfl
theorem zv {kd:UInt8}{sl:Sl}{l:List UInt8}{K:Int->Heap->Prop}(h:bu H k t p b rest)(hp:aN F H p dp s)(hk:¬F k)(hb:bG H sl l)(hsl:∀ad,sl.a=some ad->¬F ad.block/\ad.block<H.size)
  (hn:b.name.size<=9223372036854775807) (hlogs:s.d.logs<68719470000) (hnx:s.next<1099511620000) (h0:0<=s.next) (hfit:s.Fit)
  (hK:∀F' H',aN F' H' p dp (s.more b.name kd l).1->Step F F' H H'->K (s.more b.name kd l).2 H'):FN.sp (aD k) (kd.toNat:Int) sl H K:=by
 have hkl:=aG h
 refine FN.of ?_
 unfold FN.vc
 simp only[aq,aD]
 refine aj.ld (c:=ar) (i:=0) (x:=aD p) h (bu.get 0 _ rfl) ?_
 refine aj.ld (c:=aV) (i:=1) (x:=b.name) h (bu.get 1 _ rfl) ?_
 refine yz hp hn (by omega) (by omega) hfit λF1 H1 p1 S1=>?_
 have h1:bu H1 k t p b rest:=h.mod S1.mod hk
 have hk1:¬F1 k:=λq=>(S1.own k q).elim hk λr=>by omega
 have hb1:bG H1 sl l:=hb.ak λad ha hl=>S1.mod.same _ hl (hsl ad ha).1
 have hsl1:∀ad,sl.a=some ad->¬F1 ad.block:=λad ha q=>by
  have:=(hsl ad ha).2
  rcases S1.own _ q with r|r
  ·exact(hsl ad ha).1 r
  ·omega
 unfold Pl.more at hK
 have hnx1:(s.fresh b.name).1.next<=s.next+1:=s.jM h0 (by omega)
 generalize hs1:(s.fresh b.name).1=s1 at*
 generalize hr:(s.fresh b.name).2.1=hd at*
 generalize he:(s.fresh b.name).2.2.2=e at*
 by_cases e0:e=0
 ·subst e0
  rw[if_neg (by simp)] at hK
  by_cases k0:kd=0
  ·subst k0
   rw[if_pos rfl] at hK
   refine aw (by simp) ?_
   refine aP (by simp) ?_
   refine aj.ld (c:=ar) (i:=0) (x:=aD p) h1 (bu.get 0 _ rfl) ?_
   refine jF p1 (by omega) λF2 H2 p2 S2=>?_
   have el:Pl.leave (s1,0) hd=s1.aB hd:=if_pos rfl
   rw[el] at hK
   exact hK F2 H2 p2 (S1.trans S2)
  ·have hkn:((kd.toNat:Int)!=0)=true:=by
    have:kd.toNat≠0:=λq=>k0 (UInt8.toNat_inj.1 q)
    simp;omega
   rw[if_neg k0] at hK
   refine aP (by rw[hkn];rfl) ?_
   refine aj.ld (c:=ar) (i:=0) (x:=aD p) h1 (bu.get 0 _ rfl) ?_
   refine vg p1 (by omega) hb1 hsl1 λF2 H2 p2 S2=>?_
   have h2:bu H2 k t p b rest:=h1.mod S2.mod hk1
   have hn2:(s1.set hd kd l).1.next=s1.next:=s1.iu hd kd l
   generalize hs2:s1.set hd kd l=s2 at*
   refine ae (λhc=>?_) (λhc=>?_)
   ·have e2:s2.2=0:=by simpa using hc
    refine aj.ld (c:=ar) (i:=0) (x:=aD p) h2 (bu.get 0 _ rfl) ?_
    refine jF p2 (by omega) λF3 H3 p3 S3=>?_
    have el:Pl.leave s2 hd=s2.1.aB hd:=if_pos e2
    rw[el] at hK
    exact hK F3 H3 p3 ((S1.trans S2).trans S3)
   ·have e2:s2.2≠0:=by simpa using hc
    have el:Pl.leave s2 hd=s2:=if_neg e2
    rw[el] at hK
    exact hK F2 H2 p2 (S1.trans S2)
 ·rw[if_pos e0] at hK
  refine aw (by simp[e0]) ?_
  refine aw (by simpa using e0) ?_
  exact hK F1 H1 p1 S1
theorem vJ {g:Int}{K:(Int×Sl×Int)->Heap->Prop}(h:bu H k t p b rest)(hp:aN F H p dp s)(hk:¬F k)
  (hn:b.name.size<=9223372036854775807) (hlogs:s.d.logs<68719470000) (hnx:s.next<1099511620000) (h0:0<=s.next)
  (hK:∀F' H' sl,aN F' H' p dp (s.look b.name g).1->Step F F' H H'->bG H' sl (s.look b.name g).2.2.1->(∀q,al sl q->H.size<=q)->(s.look b.name g).2.2.1.length<=504->sl.n<=sl.c->K (((s.look b.name g).2.1.toNat:Int),sl,(s.look b.name g).2.2.2) H'):FY.sp (aD k) g H K:=by
 have hkl:=aG h
 refine FY.of ?_
 unfold FY.vc
 simp only[aq,aD]
 refine aj.ld (c:=ar) (i:=0) (x:=aD p) h (bu.get 0 _ rfl) ?_
 refine aj.ld (c:=aV) (i:=1) (x:=b.name) h (bu.get 1 _ rfl) ?_
 refine v8 hp hn (by omega) (by omega) λF1 H1 p1 S1=>?_
 have h1:bu H1 k t p b rest:=h.mod S1.mod hk
 have hnx1:(s.aR b.name g).1.next<=s.next+1:=s.jb h0 (by omega)
 unfold Pl.look at hK
 generalize hs1:(s.aR b.name g).1=s1 at*
 generalize hr:(s.aR b.name g).2.1=hd at*
 generalize he:(s.aR b.name g).2.2=e at*
 refine ae (λhc=>?_) (λhc=>?_)
 ·have e0:e≠0:=by simpa using hc
  rw[if_pos e0] at hK
  exact hK F1 H1 _ p1 S1 ⟨rfl,Reads.nil _ _⟩ (λq ⟨ad,ha,_⟩=>by cases ha) (by simp) (KN _)
 ·have e0:¬e≠0:=by simpa using hc
  rw[if_neg e0] at hK
  refine aj.ld (c:=ar) (i:=0) (x:=aD p) h1 (bu.get 0 _ rfl) ?_
  refine Ak p1 (by omega) λsl H2 o2 e2 f2 c2=>?_
  have p2:=p1.ext e2
  have h2:bu H2 k t p b rest:=h1.ext e2
  have S2:Step F F1 H H2:=S1.trans ⟨e2.mod,λb hb=>.inl hb⟩
  have hgl:=Pl.zH p1.wf hd
  have hbad:(s1.get hd).2.2≠0->s1.get hd=(0,[],(s1.get hd).2.2):=by
   unfold Pl.get
   split
   ·intro _;rfl
   ·split
    ·intro q;exact absurd rfl q
    ·intro _;rfl
  generalize hs2:s1.get hd=r at*
  refine ae (λhc2=>?_) (λhc2=>?_)
  ·have e3:r.2.2≠0:=by simpa using hc2
   rw[if_pos e3] at hK
   have hr2:=hbad e3
   have h21:r.1=0:=by rw[hr2]
   have h22:r.2.1=[]:=by rw[hr2]
   simp only[h21,h22] at hK
   exact hK F1 H2 _ p2 S2 ⟨rfl,Reads.nil _ _⟩ (λq ⟨ad,ha,_⟩=>by cases ha) (by simp) (KN _)
  ·have e3:¬r.2.2≠0:=by simpa using hc2
   rw[if_neg e3] at hK
   refine aj.ld (c:=ar) (i:=0) (x:=aD p) h2 (bu.get 0 _ rfl) ?_
   refine jF p2 (by omega) λF3 H3 p3 S3=>?_
   have q2:=S1.size
   refine hK F3 H3 sl p3 (S2.trans S3) (o2.ak λad ha hl=>S3.mod.same _ hl λr=>by have:=p1.lt _ r;have:=f2 _ ⟨ad,ha,rfl⟩;omega) (λq hq=>by have:=f2 q hq;omega) hgl c2
end
structure rz (H:Heap)(k p:Nat)(w:RW)(sw sl:Sl):Prop where
 row:bu H k Fv p w.b [sw.v,.int .i64 (w.n:Int),sl.v,.int .i64 (w.rows:Int)]
 wait:aK EB dF H sw w.wait
 last:aT H 0 eL 1 sl (w.last.map (Value.int .u64))
section
variable {H:Heap}{k p dp:Nat}{w:RW}{sw sl:Sl}{F:Nat->Prop}{s:Pl}
theorem rz.tJ (h:rz H k p w sw sl):¬al sw k:=λq=>by
 obtain⟨cur,hc⟩:=h.wait.obj k q
 exact absurd (aQ hc h.row) (by decide)
theorem rz.xP (h:rz H k p w sw sl):¬al sl k:=λq=>by
 obtain⟨cur,hc⟩:=h.last.obj k q
 exact absurd (aQ hc h.row) (by decide)
theorem rz.lt (h:rz H k p w sw sl):∀b,fg k sw sl b->b<H.size:=by
 rintro b (rfl|q|q)
 ·exact aG h.row
 ·exact h.wait.lt b q
 ·exact h.last.lt b q
theorem rz.ak {H':Heap}(h:rz H k p w sw sl)(e:∀b,fg k sw sl b->b<H.size->H'[b]?=H[b]?):rz H' k p w sw sl:=
 ⟨(e k (.inl rfl) (aG h.row)).trans h.row,h.wait.ak λb hb hl=>e b (.inr (.inl hb)) hl,h.last.ak λb hb hl=>e b (.inr (.inr hb)) hl⟩
theorem rz.mod {G:Nat->Prop}{H':Heap}(h:rz H k p w sw sl)(m:Mod G H H')(hn:∀b,fg k sw sl b->¬G b):rz H' k p w sw sl:=h.ak λb hb hl=>m.same b hl (hn b hb)
theorem Ints.Iq {F:Nat->Prop}{k:IntKind}{H H':Heap}{s:Sl}{l:List Int}(h:Ints k H s l)(hm:Mod F H H')(hn:∀ad,s.a=some ad->l≠[]->¬F ad.block):Ints k H' s l:=by
 by_cases e:l=[]
 ·subst e
  exact⟨h.len,λi v hv=>by simp at hv⟩
 ·exact h.mod hm λad ha=>hn ad ha e
theorem Rb.tO {b:Rb}(h:¬b.ready≠0):b.wrong=0/\b.closed=false:=by
 unfold Rb.ready at h
 split at h
 ·rename_i q;exact absurd q h
 ·rename_i q
  refine⟨Decidable.of_not_not q,?_⟩
  split at h
  ·exact absurd (by decide) h
  ·rename_i q2;exact RF.2 q2
theorem zp {K:Int->Heap->Prop}(h:rz H k p w sw sl)(hp:aN F H p dp s)(hd:∀b,F b->¬fg k sw sl b)(hw0:w.b.wrong=0)
  (hn:w.b.name.size<=9223372036854775807) (hlogs:s.d.logs<68719470000) (hnx:s.next<1099511620000) (h0:0<=s.next) (hfit:s.Fit)
  (hK:∀F' sw' H',aN F' H' p dp (w.out s).1->rz H' k p (w.out s).2.1 sw' sl->(∀b,al sw' b->al sw b)->Mod (λb=>F b\/b=k) H H'->(∀b,F' b->F b\/H.size<=b)->K (w.out s).2.2 H'):Gi.sp (aD k) H K:=by
 refine Gi.of ?_
 unfold Gi.vc
 simp only[aq,aD]
 refine aj.ld (c:=aa .i64) (i:=6) (x:=(w.n:Int)) h.row (bu.tail (j:=1) rfl) ?_
 refine ae (λhc=>?_) (λhc=>?_)
 ·have e0 : w.n = 0 := by have : (w.n : Int) = 0 := by simpa using hc
                          omega
  have eo:w.out s=(s,w,0):=if_pos e0
  rw[eo] at hK
  exact hK F sw H hp h (λb q=>q) (.refl _ _) (λb q=>.inl q)
 ·have e0:¬w.n=0:=λq=>by rw[q] at hc;simp at hc
  have eo:w.out s=((s.more w.b.name 1 w.wait).1,{w with b:=w.b.bO (s.more w.b.name 1 w.wait).2,wait:=[],n:=0},(s.more w.b.name 1 w.wait).2):=if_neg e0
  rw[eo] at hK
  have hkF:¬F k:=λq=>hd k q (.inl rfl)
  refine aj.ld (c:=av) (i:=5) (x:=sw) h.row (bu.tail (j:=0) rfl) ?_
  refine zv (kd:=1) h.row hp hkF (bY h.wait) (λad ha=>⟨λq=>hd _ q (.inr (.inl ⟨ad,ha,rfl⟩)),h.wait.lt _ ⟨ad,ha,rfl⟩⟩) hn hlogs hnx h0 hfit λF1 H1 p1 S1=>?_
  have h1:=h.mod S1.mod λb hb q=>hd b q hb
  have hkl:=aG h.row
  have hkF1:¬F1 k:=λq=>(S1.own k q).elim hkF λr=>by omega
  generalize (s.more w.b.name 1 w.wait).1=s1 at*
  generalize (s.more w.b.name 1 w.wait).2=e at*
  refine aj.st h1.row (i:=5) (by simp[cc]) rfl λH2 r2 m2 z2=>?_
  refine aj.st r2 (i:=6) (by simp[cc]) rfl λH3 r3 m3 z3=>?_
  have r3':bu H3 k Fv p w.b [(Sl.mk none 0 0).v,.int .i64 ((0:Nat):Int),sl.v,.int .i64 (w.rows:Int)]:=by
   have e:((cc p w.b++[sw.v,.int .i64 (w.n:Int),sl.v,.int .i64 (w.rows:Int)]).toArray.setIfInBounds 5 (.slice none 0 0)).setIfInBounds 6 (.int .i64 0)=(cc p w.b++[(Sl.mk none 0 0).v,.int .i64 ((0:Nat):Int),sl.v,.int .i64 (w.rows:Int)]).toArray:=by simp[cc]
   rw[e] at r3;exact r3
  refine oh r3' hw0 λH4 r4 m4 z4=>?_
  have m14:Mod (λq=>q=k) H1 H4:=(m2.trans m3).trans m4
  have m04:Mod (λb=>F b\/b=k) H H4:=(S1.mod.mono λb _ q=>.inl q).trans' m14 λb hb q=>.inr q
  refine hK F1 (Sl.mk none 0 0) H4 (p1.ak λb hb hl=>m14.same b hl λq=>hkF1 (q▸hb)) ⟨r4,aK.nil _ _ _,h1.last.ak λb hb hl=>m14.same b hl λq=>h1.xP (q▸hb)⟩ (by rintro b ⟨ad,q,_⟩;cases q) m04 S1.own
set_option maxHeartbeats 1000000 in
theorem Fx {l:Sl}{ll:List Int}{K:Int->Heap->Prop}(h:rz H k p w sw sl)(hp:aN F H p dp s)(hd:∀b,F b->¬fg k sw sl b)
  (hl:Ints .u64 H l ll) (hlb:∀ad,l.a=some ad->ll≠[]->¬fg k sw sl ad.block) (hlen:(ll.length:Int)=w.b.width->ll.length<=1000000) (hwl:w.wait.length<=1000000) (hwr:w.rows<1099511627776) (hwn:w.n<1099511627776)
  (hn:w.b.name.size<=9223372036854775807) (hlogs:s.d.logs<68719470000) (hnx:s.next<1099511620000) (h0:0<=s.next) (hfit:s.Fit)
  (hK:∀F' sw' sl' H',aN F' H' p dp (w.add s ll).1->rz H' k p (w.add s ll).2.1 sw' sl'->(∀b,F' b->¬fg k sw' sl' b)->Step (λb=>F b\/fg k sw sl b) (λb=>F' b\/fg k sw' sl' b) H H'->K (w.add s ll).2.2 H'):Gd.sp (aD k) l H K:=by
 refine Gd.of ?_
 unfold Gd.vc
 simp only[aq,aD]
 have hln:=hl.len
 unfold RW.add at hK
 refine lK h.row ?_
 refine⟨λ_ A=>A=H/\¬w.b.ready≠0/\¬((ll.length:Int)≠w.b.width)/\¬(0<w.rows/\bz ll w.last<=0),?_,?_⟩
 ·refine ae (λhc=>?_) (λhc=>?_)
  ·have e0:w.b.ready≠0:=by simpa using hc
   rw[if_pos e0] at hK
   exact hK F sw sl H hp h hd (.refl _ _)
  have e0:¬w.b.ready≠0:=by simpa using hc
  rw[if_neg e0] at hK
  refine aj.ld (c:=aa .i64) (i:=2) (x:=w.b.width) h.row (bu.get 2 _ rfl) ?_
  refine ae (λhc=>?_) (λhc=>?_)
  ·have e1:(ll.length:Int)≠w.b.width:=by rw[<-hln];simpa using hc
   rw[if_pos e1] at hK
   exact hK F sw sl H hp h hd (.refl _ _)
  have e1:¬((ll.length:Int)≠w.b.width):=by rw[<-hln];simpa using hc
  rw[if_neg e1] at hK
  have hlen:=hlen (by omega)
  refine aj.ld (c:=aa .i64) (i:=8) (x:=(w.rows:Int)) h.row (bu.tail (j:=3) rfl) ?_
  refine ae (λhc=>?_) (λhc=>?_)
  ·have e2 : 0 < w.rows := by have : (w.rows : Int) > 0 := by simpa using hc
                              omega
   refine aj.ld (c:=av) (i:=7) (x:=sl) h.row (bu.tail (j:=2) rfl) ?_
   refine lC hl h.last.ints (by omega) ?_
   refine ae (λhc=>?_) (λhc=>?_)
   ·have e3:bz ll w.last<=0:=by simpa using hc
    rw[if_pos ⟨e2,e3⟩] at hK
    exact hK F sw sl H hp h hd (.refl _ _)
   ·have e3:¬bz ll w.last<=0:=by simpa using hc
    exact⟨rfl,e0,e1,λq=>e3 q.2⟩
  ·have e2 : ¬ 0 < w.rows := by have : ¬ (w.rows : Int) > 0 := by simpa using hc
                                omega
   exact⟨rfl,e0,e1,λq=>e2 q.1⟩
 rintro _ A ⟨rfl,e0,e1,e2⟩
 rw[if_neg e0,if_neg e1,if_neg e2] at hK
 have hlen:=hlen (by omega)
 obtain⟨hw0,_⟩:=Rb.tO e0
 refine⟨λA=>bu A k Fv p w.b [sw.v,.int .i64 (w.n:Int),sl.v,.int .i64 (w.rows:Int)],h.row,?_⟩
 refine aj.eP (c:=av) (i:=5) (x:=sw) (cs:=λ_=>_) (λ_ q=>q) (λ_ _=>bu.tail (j:=0) rfl) ?_
 refine se hl hlen λr A1 o1 x1=>?_
 have h1:=h.mod x1 λ_ _=>id
 refine⟨h1.row,?_⟩
 have hpl:(cg ll).length<=8*1000000+1:=by have:=tq ll;omega
 have o1':cS EB A1 r.a (cC (cg ll)):=by
  unfold cS;rw[im,ju (fY ll)];exact o1.reads
 have rn:r.n=(cC (cg ll)).length:=by have:=o1.1;simpa using this.symm
 refine aK.append iT h1.wait o1' rn (by rw[ca];omega) (by rw[ca];omega) λs' A2 o2 g2 _=>?_
 have hkl:=aG h.row
 have z1:=x1.size
 have z2:=g2.1.size
 have r2:bu A2 k Fv p w.b [sw.v,.int .i64 (w.n:Int),sl.v,.int .i64 (w.rows:Int)]:=h1.row.mod g2.1 h.tJ
 have l2:Ints .u64 A2 l ll:=(hl.ext x1).Iq g2.1 λad ha hne q=>hlb ad ha hne (.inr (.inl q))
 have hnew:¬al s' k:=λq=>by
  rcases g2.2 k q with u|u
  ·exact h.tJ u
  ·omega
 refine aj.st r2 (i:=5) (by simp[cc]) rfl λA3 r3 m3 z3=>?_
 refine aj.ld (c:=aa .i64) (i:=6) (x:=(w.n:Int)) r3 (by simp[cc]) ?_
 refine aj.st r3 (i:=6) (by simp[cc]) rfl λA4 r4 m4 z4=>?_
 refine aj.ld (c:=aa .i64) (i:=8) (x:=(w.rows:Int)) r4 (by simp[cc]) ?_
 refine aj.st r4 (i:=8) (by simp[cc]) rfl λA5 r5 m5 z5=>?_
 refine aj.st r5 (i:=7) (by simp[cc]) rfl λA6 r6 m6 z6=>?_
 refine aj.ld (c:=av) (i:=7) (x:=Sl.mk none 0 0) r6 (by simp[cc]) ?_
 have m26:Mod (λq=>q=k) A2 A6:=((m3.trans m4).trans m5).trans m6
 have l6:Ints .u64 A6 l ll:=l2.Iq m26 λad ha hne q=>hlb ad ha hne (.inl q)
 have o6:aK EB dF A6 s' (w.wait++cC (cg ll)):=o2.mod m26 λb hb q=>hnew (q▸hb)
 refine pk.append (base:=A6.size) (s:=Sl.mk none 0 0) (x:=l) (aT.nil _ _ _ _) (by rw[L9];exact hln.symm) l6.reads (pT _ _) (by simp;omega) (by simp;omega) (KN _) λc A7 n7 o7 m7 f7 _=>?_
 have x7:Ext A6 A7:=⟨m7.size,λb hb _=>m7.same b hb (by rintro⟨ad,q,_⟩;cases q)⟩
 have cown6:∀b,al c b->A6.size<=b:=λb hb=>by
  rcases f7 b hb with ⟨ad,q,_⟩|q
  ·cases q
  ·exact q
 have hck:¬al c k:=λq=>by have:=cown6 k q;have:=m26.size;omega
 refine aj.st (r6.ext x7) (i:=7) (by simp[cc]) rfl λA8 r8 m8 z8=>?_
 rw[aI w.rows (by omega),aI w.n (by omega)] at r8
 have r8':bu A8 k Fv p w.b [s'.v,.int .i64 ((w.n+1:Nat):Int),c.v,.int .i64 ((w.rows+1:Nat):Int)]:=by
  have e:(((((cc p w.b++[sw.v,.int .i64 (w.n:Int),sl.v,.int .i64 (w.rows:Int)]).toArray.setIfInBounds 5 s'.v).setIfInBounds 6 (.int .i64 ((w.n+1:Nat):Int))).setIfInBounds 8 (.int .i64 ((w.rows+1:Nat):Int))).setIfInBounds 7 (.slice none 0 0)).setIfInBounds 7 c.v=(cc p w.b++[s'.v,.int .i64 ((w.n+1:Nat):Int),c.v,.int .i64 ((w.rows+1:Nat):Int)]).toArray:=by
   simp[cc]
  rw[e] at r8;exact r8
 have h8:rz A8 k p (w.push ll) s' c:=⟨r8',(o6.ext x7).mod m8 λb hb q=>hnew (q▸hb),(by
  have:=o7.vE
  rw[Mx] at this
  exact this.mod m8 λb hb q=>hck (q▸hb))⟩
 have m08:Mod (λb=>b=k\/al sw b) A A8:=by
  have a1:Mod (λb=>b=k\/al sw b) A A2:=x1.mod.trans' g2.1 λb _ q=>.inr q
  have a2:Mod (λb=>b=k\/al sw b) A A6:=a1.trans' m26 λb _ q=>.inl q
  have a3:Mod (λb=>b=k\/al sw b) A A7:=a2.trans' x7 λb _ q=>q.elim
  exact a3.trans' m8 λb _ q=>.inl q
 have s'own:∀b,al s' b->al sw b\/A.size<=b:=λb hb=>(g2.2 b hb).imp_right λq=>by omega
 have cown:∀b,al c b->A.size<=b:=λb hb=>by have:=cown6 b hb;have:=m26.size;omega
 have p8:aN F A8 p dp s:=hp.ak λb hb hlt=>m08.same b hlt λq=>hd b hb (q.imp_right .inl)
 have hd8:∀b,F b->¬fg k s' c b:=by
  rintro b hb (q|q|q)
  ·exact hd b hb (.inl q)
  ·rcases s'own b q with u|u
   ·exact hd b hb (.inr (.inl u))
   ·have:=hp.lt b hb;omega
  ·have:=cown b q;have:=hp.lt b hb;omega
 have S8:∀(F':Nat->Prop) (sw':Sl) (H':Heap),(∀b,al sw' b->al s' b)->Mod (λb=>F b\/b=k) A8 H'->(∀b,F' b->F b\/A8.size<=b)->Step (λb=>F b\/fg k sw sl b) (λb=>F' b\/fg k sw' c b) A H':=by
  intro F' sw' H' h1 h2 h3
  have z8':=m08.size
  refine⟨(m08.mono λb _ q=>.inr (q.imp_right .inl)).trans' h2 λb _ q=>q.imp_right .inl,λb hb=>?_⟩
  rcases hb with q|q|q|q
  ·rcases h3 b q with u|u
   ·exact .inl (.inl u)
   ·right;omega
  ·exact .inl (.inr (.inl q))
  ·rcases s'own b (h1 b q) with u|u
   ·exact .inl (.inr (.inr (.inl u)))
   ·exact .inr u
  ·exact .inr (cown b q)
 refine⟨λA=>bu A k Fv p w.b [s'.v,.int .i64 ((w.n+1:Nat):Int),c.v,.int .i64 ((w.rows+1:Nat):Int)],r8',?_⟩
 refine aj.eP (c:=aa .i64) (i:=6) (x:=((w.n+1:Nat):Int)) (cs:=λ_=>_) (λ_ q=>q) (λ_ _=>bu.tail (j:=1) rfl) ?_
 refine aj.ld (c:=aa .i64) (i:=2) (x:=w.b.width) r8' (bu.get 2 _ rfl) ?_
 refine fW ⟨r8',?_⟩
 refine ae (λhc=>?_) (λhc=>?_)
 ·have e3:((w.n+1:Nat):Int)<aW w.b.width:=by simpa using hc
  rw[if_pos e3] at hK
  exact hK F s' c A8 p8 h8 hd8 (S8 F s' A8 (λ_ q=>q) (.refl _ _) λb q=>.inl q)
 ·have e3:¬((w.n+1:Nat):Int)<aW w.b.width:=by simpa using hc
  rw[if_neg e3] at hK
  refine zp h8 p8 hd8 hw0 hn hlogs hnx h0 hfit λF' sw' H' p9 h9 hsub m9 hown=>hK F' sw' c H' p9 h9 ?_ (S8 F' sw' H' hsub m9 hown)
  rintro b hb (q|q|q)
  ·rcases hown b hb with u|u
   ·exact hd8 b u (.inl q)
   ·have:=h8.lt b (.inl q);omega
  ·rcases hown b hb with u|u
   ·exact hd8 b u (.inr (.inl (hsub b q)))
   ·have:=h8.lt b (.inr (.inl (hsub b q)));omega
  ·rcases hown b hb with u|u
   ·exact hd8 b u (.inr (.inr q))
   ·have:=h8.lt b (.inr (.inr q));omega
end
theorem Fy {H:Heap}{z:Sl}{ws:List Wr}(h:aK vq wT H z ws){i:Nat}{w:Wr}(hw:ws[i]?=some w){K:(Int×Int×ByteArray)->Prop}(hK:K (w.no,(w.page:Int),cu w.b.1)):
  ab z.a λa=>(0<=(i:Int)/\(i:Int)<(z.n:Int))/\dI (dr [(aa .i64),(aa .i64),aV]) 3 H (a.add ((i:Int).toNat*3)) K:=by
 have hn:=h.n (by decide)
 have hi:=(KI.1 hw).1
 obtain⟨ad,ha⟩:=cS.addr h.rd (by decide) (by omega)
 rw[ha]
 refine⟨⟨by omega,by omega⟩,?_⟩
 exact cS.dI (E:=vq) (c:=dr [(aa .i64),(aa .i64),aV]) (y:=(w.no,(w.page:Int),cu w.b.1)) h.rd ha hw rfl (by simp[vq]) rfl hK
theorem FE {H:Heap}{z:Sl}{ws:List Wr}(h:aK vq wT H z ws){i:Nat}{w:Wr}(hw:ws[i]?=some w){K:Int->Prop}(hK:K w.no):
  ab z.a λa=>(0<=(i:Int)/\(i:Int)<(z.n:Int))/\ld (aa .i64) H ((a.add ((i:Int).toNat*3)).add 0) K:=by
 have hn:=h.n (by decide)
 have hi:=(KI.1 hw).1
 obtain⟨ad,ha⟩:=cS.addr h.rd (by decide) (by omega)
 rw[ha]
 refine⟨⟨by omega,by omega⟩,?_⟩
 exact cS.ld (E:=vq) (c:=aa .i64) (y:=w.no) h.rd ha (j:=0) hw rfl (by simp[vq]) hK
theorem Gg {fl:Sl}{gs:List (Sl×Sl)}{d:Nat}{cs:Array Value}{s:Dk}{no:Int}{H:Heap}{K:Int->Heap->Prop}(hd:aj H d uR cs)(hc0:cs[0]?=some fl.v)(hf:aO H fl gs s.files)(hfl:s.files.length<=4096)(hlogs:s.logs<68719476736)
  (hK:K (s.ve no:Nat) H):Hc.sp (aD d) no H K:=by
 refine Hc.of ?_
 unfold Hc.vc
 simp only[aq]
 have hn:=hf.n
 obtain⟨cnt,hcnt⟩:∃cnt:List Int->Nat,cnt=λl=>(l.filter λx=>decide (x<no)).length:=⟨_,rfl⟩
 obtain⟨pre,hpre⟩:∃pre:Nat->List Int,pre=λk=>(s.files.take k).flatMap λf=>f.log.map (·.no):=⟨_,rfl⟩
 have cntle:∀l,cnt l<=l.length:=λl=>by rw[hcnt];exact NO _ _
 have prele:∀k,(pre k).length<=s.logs:=λk=>by
  rw[<-Dk.jK]
  unfold Dk.D8
  rw[hpre]
  simp only
  conv=>rhs;rw[<-List.take_append_drop k s.files,Nx,Lj]
  omega
 refine ay s.files.length (λk x H1=>x=(((cnt (pre k):Nat):Int),(k:Int))/\H1=H) ⟨by rw[hcnt,hpre];rfl,rfl⟩ ?_
 rintro k _ H1 next hk ⟨rfl,rfl⟩ hnext
 refine hd.ld (c:=av) (i:=0) (x:=fl) hc0 ?_
 refine ae (λhc=>?_) (λhc=>?_)
 ·have hlt:k<s.files.length:=by rw[hn] at hc;simpa using hc
  have hfk:s.files[k]?=some s.files[k]:=KJ hlt
  obtain⟨f,hfe⟩:∃f,f=s.files[k]:=⟨_,rfl⟩
  rw[<-hfe] at hfk
  obtain⟨gg,hg,_,q2⟩:=hf.zN hfk
  have hln:=q2.n (by decide)
  have hll:=Dk.jy hfk
  have hpk:pre (k+1)=pre k++f.log.map (·.no):=by
   rw[hpre];simp only
   rw[KP hlt,<-hfe,Nx];simp
  have cntapp:∀a b,cnt (a++b)=cnt a+cnt b:=λa b=>by rw[hcnt];simp
  have hp1:=prele (k+1)
  have hc1:=cntle (pre k)
  refine ay f.log.length (λj x H2=>x=(((cnt (pre k)+cnt ((f.log.take j).map (·.no)):Nat):Int),(j:Int))/\H2=H1) ⟨by rw[hcnt];simp,rfl⟩ ?_
  rintro j _ H2 yH hj ⟨rfl,rfl⟩ hnext1
  refine hd.ld (c:=av) (i:=0) (x:=fl) hc0 ?_
  refine hf.ld1 hfk hg (j:=2) (c:=av) (y:=gg.2) rfl ?_
  refine ae (λhc2=>?_) (λhc2=>?_)
  ·have hjl:j<f.log.length:=by rw[hln] at hc2;simpa using hc2
   refine hd.ld (c:=av) (i:=0) (x:=fl) hc0 ?_
   refine hf.ld1 hfk hg (j:=2) (c:=av) (y:=gg.2) rfl ?_
   refine FE q2 (KJ hjl) ?_
   have htk:cnt ((f.log.take (j+1)).map (·.no))=cnt ((f.log.take j).map (·.no))+(if f.log[j].no<no then 1 else 0):=by
    rw[KP hjl,LF,cntapp]
    congr 1
    rw[hcnt]
    simp only[List.map_cons,List.map_nil,List.filter_cons,List.filter_nil]
    split<;>rename_i h<;>simp at h<;>simp[h]
   have hc3:=cntle ((f.log.take j).map (·.no))
   simp only[L9,M8] at hc3
   rw[hpk,Lj,L9] at hp1
   refine ae (λhb=>?_) (λhb=>?_)
   ·have hb':f.log[j].no<no:=by simpa using hb
    refine hnext1 hjl _ _ ⟨?_,rfl⟩
    rw[htk,if_pos hb',aI j (by omega),wrap64 (by omega) (by omega)]
    simp only[Prod.mk.injEq,and_true];omega
   ·have hb':¬f.log[j].no<no:=by simpa using hb
    refine hnext1 hjl _ _ ⟨?_,rfl⟩
    rw[htk,if_neg hb',aI j (by omega)]
    simp
  ·have hge:j=f.log.length:=by rw[hln] at hc2;simp at hc2;omega
   rw[hge,KT (KN _)]
   refine hnext hlt _ _ ⟨?_,rfl⟩
   rw[hpk,cntapp,aI k (by omega)]
 ·have hge:k=s.files.length:=by rw[hn] at hc;simp at hc;omega
  have e:s.ve no=cnt (pre k):=by
   unfold Dk.ve Dk.D8
   rw[hcnt,hpre,hge]
   simp
  rw[e] at hK
  exact hK
set_option maxHeartbeats 1000000 in
theorem vV {F:Nat->Prop}{d:Nat}{s:Dk}{H:Heap}{K:Unit->Heap->Prop}(h:cr F H d s)(hlogs:s.logs<68719476736)
  (hK:∀F' H',cr F' H' d s.cG->Step F F' H H'->K () H'):GG.sp (aD d) H K:=by
 have h0:=h
 obtain⟨fl,gs,cin,kp,g,hF⟩:=h
 refine GG.of ?_
 unfold GG.vc
 simp only[aq]
 refine g.head.ld (c:=aA) (i:=8) (x:=s.down) rfl ?_
 refine ae (λhd=>?_) (λhd=>?_)
 ·have hd':s.down=false:=by simpa using hd
  have e:s.cG=s:=by unfold Dk.cG;rw[hd'];rfl
  rw[e] at hK
  exact hK F H h0 (.refl _ _)
 have hd':s.down=true:=by simpa using hd
 obtain⟨ci,kk,hcr⟩:∃ci kk,s.crash=some (ci,kk):=by
  have:=g.wf.down hd'
  cases hc:s.crash with
  |none=>rw[hc] at this;cases this
  |some p=>exact⟨p.1,p.2,rfl⟩
 obtain⟨rfl,rfl⟩:=g.crash ci kk hcr
 have hkeep:s.ak=kp:=by unfold Dk.ak;rw[hcr]
 have hn:=g.files.n
 have hfl:=g.wf.files
 have w1:=g.wf.used;have w2:=g.wf.most;have w3:=g.wf.quota
 refine ay s.files.length (λk x H1=>x.2=(k:Int)/\Mod (λ_=>False) H H1/\(∀b,al x.1 b->H.size<=b)/\∃gs2,aO H1 x.1 gs2 ((s.files.take k).map s.after)/\(∀gg∈gs2,(∀b,al gg.1 b->yQ fl gs b\/H.size<=b)/\gg.2=Sl.mk none 0 0))
  ⟨rfl,.refl _ _,(by rintro b ⟨ad,q,_⟩;cases q),[],⟨aK.nil _ _ _,rfl,by intro i f g h;simp at h,by intro i j g g' h;simp at h⟩,by simp⟩ ?_
 rintro k ⟨z,i⟩ H1 next hk ⟨hi,m1,f1,gs2,R1,fp1⟩ hnext
 simp only at hi
 subst hi
 simp only at f1 R1 hnext ⊢
 have d1:=g.head.ext m1
 have F1:aO H1 fl gs s.files:=g.files.ak λb hb hl=>m1.same b hl id
 refine d1.ld (c:=av) (i:=0) (x:=fl) rfl ?_
 refine ae (λhc=>?_) (λhc=>?_)
 ·have hlt:k<s.files.length:=by rw[hn] at hc;simpa using hc
  have hfk:s.files[k]?=some s.files[k]:=KJ hlt
  obtain⟨f,hfe⟩:∃f,f=s.files[k]:=⟨_,rfl⟩
  rw[<-hfe] at hfk
  obtain⟨gg,hg,q1,q2⟩:=F1.zN hfk
  have hrow:=lA _ _ k f gg hfk hg
  have hln:=q2.n (by decide)
  have hpl:=Dk.eH hfk;have hll:=Dk.jy hfk
  have hgm:=KH hg
  obtain⟨ad,ha⟩:=cS.addr F1.arr.rd (by decide) (by have:=(KI.1 hrow).1;omega)
  refine⟨λA=>aj A d uR (dt fl s.most s.quota s.ops s.next s.crash.isSome cin kp s.down)/\aK rU uA A fl (tK s.files gs),⟨d1,F1.arr⟩,?_⟩
  refine⟨fl,λA hA=>by rw[aX];exact hA.1.cell rfl,?_⟩
  refine dv ad ha ⟨⟨by omega,by omega⟩,?_⟩
  refine⟨f.name,λA hA=>?_,?_⟩
  ·obtain⟨ad',e1,hc⟩:=cS.cell hA.2.rd hrow (j:=0) (v:=.string f.name) rfl
   rw[ha] at e1;cases e1
   rw[add_add];exact hc
  refine⟨fl,λA hA=>by rw[aX];exact hA.1.cell rfl,?_⟩
  refine dv ad ha ⟨⟨by omega,by omega⟩,?_⟩
  refine⟨gg.1,λA hA=>?_,?_⟩
  ·obtain⟨ad',e1,hc⟩:=cS.cell hA.2.rd hrow (j:=1) (v:=gg.1.v) rfl
   rw[ha] at e1;cases e1
   rw[add_add];exact hc
  refine ao λH2 s2 r2 m2=>⟨⟨d1.ext m2,F1.arr.ext m2⟩,?_⟩
  refine r2.iH (cs:=#[.string f.name,gg.1.v,.slice none 0 0]) (by kernel_rfl) (by kernel_rfl) (by intro v hv;simp at hv;rcases hv with rfl|rfl|rfl<;>rfl) λH3 r3 m3 s3=>?_
  obtain⟨p,hp⟩:∃p,p=H1.size:=⟨_,rfl⟩
  rw[<-hp] at r3 m3
  rw[<-hp]
  have z1:=m1.size;have z2:=m2.size
  have m13:Mod (λ_=>False) H1 H3:=⟨by omega,λb hb _=>(m3.same b (by omega) (by omega)).trans (m2.same b hb id)⟩
  obtain⟨q,hq⟩:∃q:Wr->Bool,q=λw=>iO s.ak (s.ve w.no):=⟨_,rfl⟩
  have haft:s.after f=⟨f.name,(f.log.filter q).foldl dq f.synced,[]⟩:=by rw[hq];rfl
  have q13:aK iU iA H3 gg.1 f.synced:=q1.ext m13
  -- the writes, one by one
  refine ay f.log.length (λj x H4=>x=(j:Int)/\Mod (λb=>b=p) H3 H4/\∃sy,aj H4 p uA #[.string f.name,sy.v,.slice none 0 0]/\aK iU iA H4 sy (((f.log.take j).filter q).foldl dq f.synced)/\(∀b,al sy b->yQ fl gs b\/H.size<=b)/\(∀b,al sy b->b≠p))
   ⟨rfl,.refl _ _,gg.1,r3,by simpa using q13,λb hb=>.inl (.inr ⟨gg,hgm,.inl hb⟩),λb hb=>by have:=q1.lt b hb;omega⟩ ?_
  rintro j _ H4 yH hj ⟨rfl,m4,sy,r4,o4,fy,ny⟩ hnext1
  have m14:Mod (λ_=>False) H1 H4:=⟨by have:=m4.size;omega,λb hb _=>(m4.same b (by omega) (by omega)).trans (m13.same b hb id)⟩
  have d4:=d1.ext m14
  have F4:aO H4 fl gs s.files:=F1.ak λb hb hl=>m14.same b hl id
  obtain⟨_,q24⟩:=F4.ent k f gg hfk hg
  have z4:=m14.size
  refine d4.ld (c:=av) (i:=0) (x:=fl) rfl ?_
  refine F4.ld1 hfk hg (j:=2) (c:=av) (y:=gg.2) rfl ?_
  refine ae (λhc1=>?_) (λhc1=>?_)
  ·have hjl:j<f.log.length:=by rw[hln] at hc1;simpa using hc1
   obtain⟨w,hwe⟩:∃w,w=f.log[j]:=⟨_,rfl⟩
   have hw:f.log[j]?=some w:=by rw[hwe];exact KJ hjl
   refine d4.ld (c:=av) (i:=0) (x:=fl) rfl ?_
   refine F4.ld1 hfk hg (j:=2) (c:=av) (y:=gg.2) rfl ?_
   refine Fy q24 hw ?_
   refine ao λH5 s5 r5 m5=>?_
   refine r5.iH (cs:=#[.int .i64 w.no,.int .i64 w.page,.string (cu w.b.1)]) (by kernel_rfl) (by kernel_rfl) (by intro v hv;simp at hv;rcases hv with rfl|rfl|rfl<;>rfl) λH6 r6 m6 s6=>?_
   have m46:Mod (λ_=>False) H4 H6:=⟨by omega,λb hb _=>(m6.same b (by omega) (by omega)).trans (m5.same b hb id)⟩
   have d6:=d4.ext m46
   have F6:aO H6 fl gs s.files:=F4.ak λb hb hl=>m46.same b hl id
   refine⟨λA=>aj A d uR (dt fl s.most s.quota s.ops s.next s.crash.isSome cin kp s.down),d6,?_⟩
   refine⟨kp,λA hA=>by rw[aX];exact hA.cell rfl,?_⟩
   refine r6.ld (c:=aa .i64) (i:=0) (x:=w.no) rfl ?_
   refine Gg d6 rfl F6 hfl hlogs ⟨d6,?_⟩
   refine⟨Int.tmod_nonneg _ (by omega),?_⟩
   have hqw:q w=((kS .u64 (cI .u64 kp (LX ((s.ve w.no:Nat):Int) 64)) 1)==1):=by rw[hq,hkeep];rfl
   have htk:(f.log.take (j+1)).filter q=(f.log.take j).filter q++(if q w then [w] else []):=by
    rw[KP hjl,LH,<-hwe]
    cases hqb:q w<;>simp[hqb]
   have r46:=r4.ext m46
   have o46:aK iU iA H6 sy (((f.log.take j).filter q).foldl dq f.synced):=o4.ext m46
   refine ae (λhb=>?_) (λhb=>?_)
   ·have hqt:q w=true:=by rw[hqw];exact hb
    refine r46.ld (c:=av) (i:=1) (x:=sy) rfl ?_
    refine r6.dI (c:=dr [(aa .i64),(aa .i64),aV]) (x:=(w.no,(w.page:Int),cu w.b.1)) rfl rfl ?_
    have hpg:=lI f.log f.synced w (KH hw)
    have hle:=lG f.log q j f.synced
    have hpe:(f.log.foldl dq f.synced).length=f.au.length:=rfl
    refine yU (w:=w) o46 (by omega) (by omega) λs7 H7 o7 m7 f7=>?_
    have r47:=r46.ext m7
    refine r47.st (i:=1) (by simp) (by rfl) λH8 r8 m8 s8=>?_
    have z7:=m7.size
    have hpl4:=aG r4
    refine hnext1 hjl _ _ ⟨aI j (by omega),((m4.trans (Ext.mod m46)).trans (Ext.mod m7)).trans m8,s7,(show aj H8 p uA #[.string f.name,s7.v,.slice none 0 0] from r8),?_,λb hb=>by have:=f7 b hb;right;omega,λb hb=>by have:=f7 b hb;omega⟩
    rw[htk,if_pos hqt,List.foldl_append]
    exact o7.ak λb hb hl=>m8.same b hl (by have:=f7 b hb;omega)
   ·have hqt:q w=false:=by rw[hqw];exact hb
    refine hnext1 hjl _ _ ⟨aI j (by omega),m4.trans (Ext.mod m46),sy,r46,?_,fy,ny⟩
    rw[htk,hqt]
    simpa using o46
  ·have hge:j=f.log.length:=by rw[hln] at hc1;simp at hc1;omega
   rw[hge,KT (KN _)] at o4
   refine r4.dI (c:=dr [aV,av,av]) (x:=(f.name,sy,Sl.mk none 0 0)) rfl rfl ?_
   have R4:aO H4 z gs2 ((s.files.take k).map s.after):=R1.ak λb hb hl=>m14.same b hl id
   have hzl:(tK ((s.files.take k).map s.after) gs2).length=k:=by
    rw[fZ _ _ R4.len];simp;omega
   refine aK.push (E:=rU) IC (x:=(f.name,sy,Sl.mk none 0 0)) R4.arr rfl (by omega) (by omega) λz5 H5 o5 g5 _=>?_
   have z5s:=g5.1.size
   have zty:∀b,al sy b->¬al z b:=o4.apart R4.arr (by decide)
   have m15:Mod (λ_=>False) H H5:=⟨by omega,λb hb _=>(g5.1.same b (by omega) λhh=>by have:=f1 b hh;omega).trans ((m14.same b (by omega) id).trans (m1.same b hb id))⟩
   have R5:=R4.push (H':=H5) (fl':=z5) (f:=s.after f) (g:=(sy,Sl.mk none 0 0)) (by rw[haft];exact o5) (by rw[haft];exact o4.ak λb hb hl=>g5.1.same b hl (zty b hb)) (by rw[haft];exact aK.nil _ _ _)
    (λb hb hl=>g5.1.same b hl λhh=>by
     obtain⟨gj,hgj,hb⟩:=hb
     obtain⟨i2,hi2⟩:=List.mem_iff_getElem?.1 hgj
     exact R4.fV hi2 b hb hh) (by rintro b ⟨ad,q,_⟩;cases q)
   refine hnext hlt _ _ ⟨aI k (by omega),m15,λb hb=>?_,gs2++[(sy,Sl.mk none 0 0)],?_,?_⟩
   ·rcases g5.2 b hb with h|h
    ·exact f1 b h
    ·omega
   ·rw[KP hlt,<-hfe,LF]
    exact R5
   ·intro g' hg'
    rcases KW.1 hg' with h|h
    ·exact fp1 g' h
    ·simp at h;subst h;exact⟨fy,rfl⟩
 ·have hge:k=s.files.length:=by rw[hn] at hc;simp at hc;omega
  rw[hge,KT (KN _)] at R1
  have hdl:=aG g.head
  refine d1.st (i:=0) (by simp[dt]) (by rfl) λH2 r2 m2 s2=>?_
  refine r2.st (i:=8) (by simp[dt]) (by rfl) λH3 r3 m3 s3=>?_
  refine r3.st (i:=5) (by simp[dt]) (by rfl) λH4 r4 m4 s4=>?_
  have m14:Mod (λb=>b=d) H1 H4:=(m2.trans m3).trans m4
  have off:¬yQ z gs2 d:=by
   rintro(q|⟨gj,hgj,q|q⟩)
   ·have:=f1 d q;omega
   ·rcases (fp1 gj hgj).1 d q with h|h
    ·exact iW.off g.head g.files h
    ·omega
   ·rw[(fp1 gj hgj).2] at q
    obtain⟨ad,q,_⟩:=q;cases q
  have hr:s.cG={s with files:=s.files.map s.after,down:=false,crash:=none}:=by unfold Dk.cG;rw[hd'];rfl
  have hule:s.cG.used<=s.used:=by
   rw[hr]
   show ((s.files.map s.after).map λf=>f.au.length).sum<=s.used
   rw[Md]
   exact mK _ _ _ λf _=>s.vA f
  have gG:iW z gs2 cin kp H4 d s.cG:=by
   refine⟨?_,?_,?_,?_⟩
   ·rw[hr];exact r4
   ·rw[hr];intro i k q;cases q
   ·rw[hr];exact R1.ak λb hb hl=>m14.same b hl λe=>off (e▸hb)
   ·refine⟨?_,Nat.le_trans hule (by rw[hr];exact w1),by rw[hr];exact w2,by rw[hr];exact w3,by rw[hr];simp;exact hfl,(by rw[hr];intro h;cases h),(by rw[hr];intro i k q;cases q)⟩
    rw[hr]
    simp only[Md]
    exact g.wf.nodup
  have hmm:Mod F H H4:=(Ext.mod m1).trans (m14.mono λb _ e=>(hF b).2 (.inl e))
  obtain⟨F',t1,t2⟩:=gG.out (fl:=fl) (gs:=gs) (F:=F) (H:=H) hF hmm (by
   rintro b (q|⟨gj,hgj,q|q⟩)
   ·exact .inr (f1 b q)
   ·exact(fp1 gj hgj).1 b q
   ·rw[(fp1 gj hgj).2] at q
    obtain⟨ad,q,_⟩:=q;cases q)
  exact hK F' H4 t1 t2
end Go.Proofs.YtdpdmbceakdlmaaGreatDoor
