/-
 Pages: the walk of their sum, of what seals them, of what opens them.
-/
import Derived.Test.YtdpdmbceakdlmaaGreatDoorDkg
import Derived.Test.YtdpdmbceakdlmaaGreatDoorPga
import Derived.Laws.CopyRow
import Derived.Laws.IdiomCopy
open BitVec renaming ofInt->Mw,toNat_ofNat->M9,ofInt_natCast->N0,ofNat->N5,allOnes->Qz
open Go.Builtin renaming copy_->QT
open Go.IntKind renaming i64->KG,u8->LA,u32->Ma,signed->RB,wrap->RT,bits->RU
open Go.Proofs.Tryz renaming prog->KE
open Go.World renaming setRow->O9
open Int renaming toNat_natCast->KU,fdiv_eq_ediv_of_nonneg->NQ,pow_nonneg->R2
open List renaming getElem?_eq_getElem->KJ,take_succ_eq_append_getElem->KP,take_of_length_le->KT,replicate->KY,getElem?_map->Le,getD->Lo,getElem?_take->LB,drop_eq_getElem_cons->MW,any_eq_true->NA,set_cons_zero->Ph
open Nat renaming le_refl->KN,mul_one->LU,mod_lt->MZ,mod_eq_of_lt->N7
open Option.some renaming inj->K1
open UInt8 renaming ofNat->Lf,toNat_inj->MH
namespace Go.Proofs.YtdpdmbceakdlmaaGreatDoor
theorem qb (a:BitVec 32):Mw 32 (a.toNat:Int)=a:=by
 rw[N0,BitVec.ofNat_toNat,BitVec.setWidth_eq]
theorem wrap32 {n:Nat}(h:n<4294967296):Ma.wrap (n:Int)=(n:Int):=by
 simp[RT,RU,RB];omega
theorem nO (n:Nat):LA.wrap (n:Int)=((Lf n).toNat:Int):=by
 rw[UInt8.toNat_ofNat']
 simp[RT,RU,RB]
theorem oq (a b:BitVec 32):hZ .u32 (a.toNat:Int) (b.toNat:Int)=((a^^^b).toNat:Int):=by
 unfold hZ
 show Ma.wrap ((Mw 32 (a.toNat:Int)^^^Mw 32 (b.toNat:Int)).toNat:Int)=_
 rw[qb,qb]
 exact wrap32 (a^^^b).isLt
theorem CM (a:BitVec 32):kS .u32 (a.toNat:Int) 15=((a.toNat%16:Nat):Int):=by
 unfold kS
 show Ma.wrap ((Mw 32 (a.toNat:Int)&&&15#32).toNat:Int)=_
 rw[qb,BL]
 rw[M9]
 have:a.toNat%16%2^32=a.toNat%16:=by omega
 rw[this]
 exact wrap32 (by omega)
theorem qH (a:BitVec 32)(k:Nat)(hk:k<=32):cI .u32 (a.toNat:Int) (k:Int)=((a.toNat/2^k:Nat):Int):=by
 unfold cI
 have:min (k:Int).toNat Ma.bits=k:=by
  show min (k:Int).toNat 32=k
  omega
 rw[this,NQ _ (R2 (by decide)),Int.natCast_ediv,Int.natCast_pow]
 rfl
def bx:Nat:=0
def Gl (H:Heap):Prop:=∀i,i<16->de H ⟨bx,i,none⟩=some (.int .u32 ((mc.getD i 0#32).toNat:Int))
theorem Gl.lt {H:Heap}(h:Gl H):bx<H.size:=fK (h 0 (by decide))
theorem Gl.ak {H H':Heap}(h:Gl H)(k:H'[bx]?=H[bx]?):Gl H':=λi hi=>(dV k).trans (h i hi)
theorem Gl.mod {F:Nat->Prop}{H H':Heap}(h:Gl H)(hm:Mod F H H')(hn:¬F bx):Gl H':=h.ak (hm.same _ h.lt hn)
theorem wh {H:Heap}(h:Gl H){i:Nat}(hi:i<16){K:Int->Prop}(hK:K ((mc.getD i 0#32).toNat:Int)){a:Addr}(ha:a=⟨bx,i,none⟩):ld (aa .u32) H a K:=by
 subst ha
 exact⟨_,h i hi,hK⟩
def oL (l:List UInt8):BitVec 32:=l.foldl Cu (Qz 32)
theorem th (l:List UInt8)(c:UInt8):oL (l++[c])=Cu (oL l) c:=by simp[oL]
theorem toNat_ofNat32 (c:UInt8):(N5 32 c.toNat).toNat=c.toNat:=by
 rw[M9]
 have:=c.toNat_lt
 omega
theorem Iw {l:List UInt8}{i:Nat}(h:i<l.length):(dy l).getD i 0=((l[i]).toNat:Int):=by
 simp[dy,Lo,h]
theorem dZ {l:List UInt8}{H:Heap}{s:Sl}(h:bG H s l){i:Nat}(hi:i<l.length){z:Int}(hz:z=(i:Int)){K:Addr->Int->Prop}(hK:∀ad,s.a=some ad->K ad ((l[i]).toNat:Int)):
  ab s.a λa=>(0<=z/\z<(s.n:Int))/\ld (aa .u8) H (a.add (z.toNat*1)) λx=>K a x:=
 ir (l:=dy l) h hz (by simpa[dy] using hi) (λad ha=>by rw[Iw hi];exact hK ad ha)
theorem DP {s:Sl}{l:List UInt8}{H:Heap}{K:Int->Heap->Prop}(hg:Gl H)(hb:bG H s l)(hl:l.length<4611686018427387904)(hK:K ((fQ l).toNat:Int) H):Gf.sp s H K:=by
 refine Gf.of ?_
 unfold Gf.vc
 have hn:=hb.n
 refine ay l.length (λk x H1=>H1=H/\x=(((oL (l.take k)).toNat:Int),(k:Int))) ⟨rfl,rfl⟩ ?_
 rintro k _ _ next hk ⟨rfl,rfl⟩ hnext
 refine ae (λhc=>?_) (λhc=>?_)
 ·have hlt:k<l.length:=by rw[hn] at hc;simpa using hc
  refine dZ hb hlt rfl λad ha=>?_
  have hc8:(l[k]).toNat<256:=(l[k]).toNat_lt
  have e0:hZ .u32 ((oL (l.take k)).toNat:Int) (Ma.wrap (((l[k]).toNat:Nat):Int))=((oL (l.take k)^^^N5 32 (l[k]).toNat).toNat:Int):=by
   rw[wrap32 (by omega),<-toNat_ofNat32 l[k],oq,toNat_ofNat32]
  simp only[e0]
  generalize hr:oL (l.take k)^^^N5 32 (l[k]).toNat=r
  have half:∀(r:BitVec 32),hZ .u32 (cI .u32 (r.toNat:Int) 4) ((mc.getD (r.toNat%16) 0#32).toNat:Int)=((kQ r).toNat:Int):=by
   intro r
   have h1:cI .u32 (r.toNat:Int) 4=((r>>>4).toNat:Int):=by
    rw[show (4:Int)=((4:Nat):Int) from rfl,qH r 4 (by decide),BitVec.toNat_ushiftRight,Nat.shiftRight_eq_div_pow]
   rw[h1,oq,<-Ge]
  rw[CM]
  refine⟨⟨by omega,by omega⟩,?_⟩
  refine wh hg (i:=r.toNat%16) (MZ _ (by decide)) ?_ (by rw[KU,LU,aX];rfl)
  rw[half,CM]
  refine⟨⟨by omega,by omega⟩,?_⟩
  refine wh hg (i:=(kQ r).toNat%16) (MZ _ (by decide)) ?_ (by rw[KU,LU,aX];rfl)
  rw[half]
  refine hnext hlt _ _ ⟨rfl,?_⟩
  have hs:=aI k (by omega)
  rw[hs,KP hlt,th]
  unfold Cu
  rw[hr]
 ·have hge:k=l.length:=by rw[hn] at hc;simp at hc;omega
  rw[hge,KT (KN _)]
  have e:hZ .u32 (4294967295:Int) ((oL l).toNat:Int)=((fQ l).toNat:Int):=by
   rw[show (4294967295:Int)=((Qz 32).toNat:Int) from rfl,oq]
   congr 2
  rw[e];exact hK
theorem DE {P:Program}{dT sT ty elem t:TypeId}{H:Heap}{b o dl dc:Nat}{x:Sl}{cur:Array Value}{cs:List Value}{K:Int->Heap->Prop}(hu:P.underlying dT=some (.slice elem))(hs:(P.info? elem).map (·.size)=some 1)
  (h:aj H b t cur) (hx:Reads H x.a cs) (hn:x.n=cs.length) (hle:x.n<=dl) (hfit:o+cs.length<=cur.size) (h1:∀v∈cs,v.oneCell'=true)
  (hK:∀H',aj H' b t (cur.toList.take o++cs++cur.toList.drop (o+cs.length)).toArray->Mod (λk=>k=b) H H'->H'.size=H.size->K (cs.length:Int) H'):
  bt (aa .i64) P (QT #[dT,sT] ty #[.slice (some ⟨b,o,none⟩) dl dc,x.v]) H K:=by
 intro w hw
 subst hw
 obtain⟨xa,xn,xc⟩:=x
 simp only[Sl.v] at*
 by_cases hz:cs=[]
 ·subst hz
  have hx0:xn=0:=hn
  subst hx0
  have hr:=run_copy_none (P:=P) w dT sT ty elem (some ⟨b,o,none⟩) xa dl dc 0 xc hu hs (by simp)
  refine⟨_,w,hr,⟨0,rfl,?_⟩,.refl w⟩
  refine hK w.heap ?_ (.refl _ _) rfl
  have e:(cur.toList.take o++[]++cur.toList.drop (o+([]:List Value).length)).toArray=cur:=by simp
  rw[e];exact h
 ·have hpos:0<cs.length:=List.length_pos_iff.2 hz
  obtain⟨ad,rfl,_⟩:=hx.at hpos
  have hsrc:∀j v,cs[j]?=some v->w.cell? (ad.add j)=some v:=λj v hv=>by
   obtain⟨ad',e,hc⟩:=hx j v hv
   cases e;exact hc
  have hr:=run_copy_row (P:=P) w dT sT ty elem b o dl dc ad xn xc cur t cs hu hs h (by rw[<-hn];exact(Nat.min_eq_left hle).symm) hsrc hfit h1
  refine⟨_,_,hr,⟨(cs.length:Int),rfl,hK _ (setRow_heap w b cur _ t _ h) ⟨by simp[O9],λk _ hk=>setRow_other w b k _ hk⟩ (by simp[O9])⟩,(.of_le rfl (KN _))⟩
abbrev mI (H:Heap)(b:Nat)(t:TypeId)(l:List UInt8):Prop:=aj H b t (fk l).toArray
theorem mI.st {H:Heap}{b:Nat}{t:TypeId}{l:List UInt8}{K:Heap->Prop}(h:mI H b t l){i:Nat}{x:UInt8}(hi:i<l.length)(hK:∀H',mI H' b t (l.set i x)->Mod (λk=>k=b) H H'->H'.size=H.size->K H'):
  Go.Proofs.YtdpdmbceakdlmaaGreatDoor.st H (Addr.add ⟨b,0,none⟩ i) (.int .u8 (x.toNat:Int)) K:=by
 refine aj.st h (i:=i) (by simpa[fk] using hi) rfl λH' r m s=>hK H' ?_ m s
 have e:((fk l).toArray.setIfInBounds i (.int .u8 (x.toNat:Int)))=(fk (l.set i x)).toArray:=by
  apply Array.toList_inj.1
  simp[fk]
 rw[e] at r;exact r
theorem mI.Jc {H:Heap}{b:Nat}{t:TypeId}{l:List UInt8}(h:mI H b t l){o n c:Nat}(hn:o+n<=l.length):bG H (Sl.mk (some ⟨b,o,none⟩) n c) ((l.drop o).take n):=by
 refine⟨by simp[dy];omega,λi v hv=>⟨_,rfl,?_⟩⟩
 rw[dN] at hv
 rw[add_lit]
 refine cW h ?_
 have hi:i<n:=by have:=(List.getElem?_eq_some_iff.1 hv).1;simp[fk] at this;omega
 simp only[fk,Le,LB,if_pos hi,List.getElem?_drop] at hv
 simp only[fk,List.getElem?_toArray,Le]
 exact hv
theorem rK {α:Type}{A B:List α}{k:Nat}{x:α}(hk:k<A.length)(hB:k<B.length)(hx:A[k]?=some x):(A.take k++B.drop k).set k x=A.take (k+1)++B.drop (k+1):=by
 have hl:(A.take k).length=k:=by simp;omega
 rw[List.set_append_right _ _ (by omega),hl,Nat.sub_self]
 have e:B.drop k=B[k]::B.drop (k+1):=MW hB
 rw[e,Ph,KP hk]
 have:A[k]=x:=by rw[KJ hk] at hx;exact K1 hx
 rw[this];simp
theorem FH:KE.underlying dM=some (.slice dF):=by kernel_rfl
theorem Is:(KE.info? dF).map (·.size)=some 1:=by kernel_rfl
theorem HO:zc KE HE=(fk (KY 512 0)).toArray:=by kernel_rfl
theorem Ir:KY 512 (0:UInt8)=0::0::0::0::0::0::0::0::KY 504 0:=rfl
set_option maxRecDepth 20000 in
theorem ES {kind:UInt8}{s:Sl}{l:List UInt8}{H:Heap}{K:Sl×Int->Heap->Prop}(hg:Gl H)(hb:bG H s l)(hlen:l.length<=504)
  (hK:∀s' H',aK EB dF H' s' (bA kind l)->Ext H H'->(∀b,al s' b->H.size<=b)->K (s',0) H'):Gn.sp (kind.toNat:Int) s H K:=by
 refine Gn.of ?_
 unfold Gn.vc
 have hn:=hb.n
 refine aw (by simp;omega) ?_
 rw[HO]
 refine ao λH1 s1 r1 e1=>?_
 rw[Ir] at r1
 have b1:bG H1 s l:=hb.ak λad _ hl=>e1.same _ hl id
 refine⟨⟨by decide,by decide⟩,?_⟩
 have v4:LA.wrap (s.n:Int)=((Lf l.length).toNat:Int):=by rw[hn,nO]
 have v5:LA.wrap (cI .i64 (s.n:Int) 8)=((Lf (l.length/256)).toNat:Int):=by
  have:cI .i64 (s.n:Int) 8=((l.length/256:Nat):Int):=by
   unfold cI
   rw[hn,show (min (8:Int).toNat KG.bits)=8 from rfl,NQ _ (R2 (by decide))]
   rfl
  rw[this,nO]
 rw[v4]
 refine mI.st (i:=4) r1 (by simp) λH2 r2 m2 z2=>?_
 refine⟨⟨by decide,by decide⟩,?_⟩
 rw[v5]
 refine mI.st (i:=5) r2 (by simp) λH3 r3 m3 z3=>?_
 refine⟨⟨by decide,by decide⟩,?_⟩
 refine mI.st (i:=6) r3 (by simp) λH4 r4 m4 z4=>?_
 refine⟨⟨by decide,by decide⟩,?_⟩
 refine mI.st (i:=7) (x:=157) r4 (by simp) λH5 r5 m5 z5=>?_
 refine⟨⟨by decide,by decide⟩,?_⟩
 have m15:Mod (λb=>b=H.size) H1 H5:=((m2.trans m3).trans m4).trans m5
 have m05:Ext H H5:=⟨by have:=e1.size;have:=m15.size;omega,λb hb _=>(m15.same b (by omega) (by omega)).trans (e1.same b hb id)⟩
 have b5:bG H5 s l:=hb.ak λad _ hl=>m05.same _ hl id
 have a8:fP (some ⟨H.size,0,none⟩) 512 ((8:Int).toNat) 1=some ⟨H.size,8,none⟩:=rfl
 rw[a8]
 refine DE (t:=HE) FH Is r5 b5.cells (by rw[hn];simp[fk]) (by rw[hn];show _<=504;omega) (by simp[fk];omega) (by
  intro v hv
  obtain⟨x,_,rfl⟩:=List.mem_map.1 hv;rfl) λH6 r6 m6 z6=>?_
 have L6:(0::0::0::0::cK kind l:List UInt8)=[0,0,0,0]++cK kind l:=rfl
 have r6':mI H6 H.size HE ([0,0,0,0]++cK kind l):=by
  have e:(((fk (((((0::0::0::0::0::0::0::0::KY 504 0:List UInt8).set 4 (Lf l.length)).set 5 (Lf (l.length/256))).set 6 kind).set 7 157)).toArray.toList.take 8++fk l)++(fk (((((0::0::0::0::0::0::0::0::KY 504 0:List UInt8).set 4 (Lf l.length)).set 5 (Lf (l.length/256))).set 6 kind).set 7 157)).toArray.toList.drop (8+(fk l).length)).toArray=(fk ([0,0,0,0]++cK kind l)).toArray:=by
   congr 1
   simp only[List.set_cons_succ,Ph,fk,List.map_cons,List.take_succ_cons,List.take_zero,List.map_append,cK,List.length_map,List.map_replicate]
   rw[show 8+l.length=l.length+8 from Nat.add_comm _ _]
   simp only[List.drop_succ_cons,List.drop_replicate]
   simp
  rw[e] at r6;exact r6
 have m16:Mod (λb=>b=H.size) H1 H6:=m15.trans m6
 have m06:Ext H H6:=⟨by have:=e1.size;have:=m16.size;omega,λb hb _=>(m16.same b (by omega) (by omega)).trans (e1.same b hb id)⟩
 refine⟨⟨by decide,by decide⟩,?_⟩
 have a4:fP (some ⟨H.size,0,none⟩) 512 ((4:Int).toNat) 1=some ⟨H.size,4,none⟩:=rfl
 rw[a4]
 have hbl:=jR (kind:=kind) hlen
 have by6:=mI.Jc r6' (o:=4) (n:=508) (c:=508) (by simp[hbl])
 have ed:(([0,0,0,0]++cK kind l:List UInt8).drop 4).take 508=cK kind l:=by
  show (cK kind l).take 508=_
  rw[KT (by omega)]
 rw[ed] at by6
 refine DP (hg.mod m06 id) by6 (by omega) ?_
 refine ay 4 (λk x H7=>x=(k:Int)/\mI H7 H.size HE ((oa (fQ (cK kind l))).take k++([0,0,0,0]++cK kind l).drop k)/\Mod (λb=>b=H.size) H6 H7) ⟨rfl,r6',.refl _ _⟩ ?_
 rintro k _ H7 next hk ⟨rfl,r7,m7⟩ hnext
 refine ae (λhc=>?_) (λhc=>?_)
 ·have hk4:k<4:=by simp at hc;omega
  have hw:KG.wrap ((8:Int)*(k:Int))=((8*k:Nat):Int):=by rw[wrap64 (by omega) (by omega)];omega
  rw[hw]
  refine⟨by omega,⟨by omega,by omega⟩,?_⟩
  have hv:(oa (fQ (cK kind l)))[k]?=some (Lf ((fQ (cK kind l)).toNat/2^(8*k))):=by
   have:k=0\/k=1\/k=2\/k=3:=by omega
   rcases this with rfl|rfl|rfl|rfl<;>simp[oa]
  rw[qH _ (8*k) (by omega),nO,KU,LU]
  refine mI.st (i:=k) r7 (by simp[oa,hbl];omega) λH8 r8 m8 z8=>?_
  rw[rK (by simp[oa];omega) (by simp[hbl];omega) hv] at r8
  exact hnext hk4 _ _ ⟨aI k (by omega),r8,m7.trans m8⟩
 ·have hk4:k=4:=by simp at hc;omega
  subst hk4
  have r7':mI H7 H.size HE (bA kind l):=by
   have e:(oa (fQ (cK kind l))).take 4++([0,0,0,0]++cK kind l:List UInt8).drop 4=bA kind l:=rfl
   rw[e] at r7;exact r7
  have hsl:=fC (kind:=kind) hlen
  have by7:=mI.Jc r7' (o:=0) (n:=512) (c:=512) (by omega)
  rw[List.drop_zero,KT (by omega)] at by7
  have a0:fP (some ⟨H.size,0,none⟩) 512 0 1=some ⟨H.size,0,none⟩:=rfl
  rw[a0]
  refine fM by7 (by omega) λs' H' o' m' f'=>?_
  have m17:Mod (λb=>b=H.size) H1 H7:=m16.trans m7
  have z1:=e1.size;have z7:=m17.size;have z':=m'.size
  refine hK s' H' o' ⟨by omega,λb hb _=>(m'.same b (by omega) id).trans ((m17.same b (by omega) (by omega)).trans (e1.same b hb id))⟩ (λb hb=>?_)
  have:=f' b hb;omega
theorem bG.drop {H:Heap}{s:Sl}{l:List UInt8}(h:bG H s l)(hc:s.n<=s.c)(i:Nat):bG H (Sl.mk (fP s.a s.c i 1) (s.n - i) (s.c - i)) (l.drop i):=by
 have hn:=h.n
 refine⟨by simp[dy,hn],?_⟩
 have:=cS.drop (E:=EB) (i:=i) (c:=s.c) (a:=s.a) (l:=l) (by unfold cS;rw[im];exact h.cells) (by omega)
 unfold cS at this
 rw[im] at this
 rw[dN]
 exact this
theorem bG.take {H:Heap}{s:Sl}{l:List UInt8}(h:bG H s l)(i:Nat)(hi:i<=s.n)(c:Nat):bG H (Sl.mk s.a i c) (l.take i):=by
 have hn:=h.n
 refine⟨by simp[dy];omega,?_⟩
 rw[dN]
 have:fk (l.take i)=(fk l).take i:=by simp[fk]
 rw[this]
 exact h.cells.take i
theorem Bg {s:Sl}{l:List UInt8}{H:Heap}{K:Int->Heap->Prop}(hb:bG H s l)(hl:l.length<4611686018427387904)(hK:∀r:Int,(decide (r>=0))=l.any (λc=>c !=0)->K r H):GF.sp s H K:=by
 refine GF.of ?_
 unfold GF.vc
 have hn:=hb.n
 refine ay l.length (λk x H1=>H1=H/\x=(k:Int)/\(l.take k).any (λc=>c !=0)=false) ⟨rfl,rfl,by simp⟩ ?_
 rintro k _ _ next hk ⟨rfl,rfl,hno⟩ hnext
 refine ae (λhc=>?_) (λhc=>?_)
 ·have hlt:k<l.length:=by rw[hn] at hc;simpa using hc
  refine dZ hb hlt rfl λad ha=>?_
  refine Eb.of ?_
  unfold Eb.vc
  have ex:l=l.take k++l[k]::l.drop (k+1):=by
   rw[<-MW hlt,List.take_append_drop]
  refine ae (λhz=>?_) (λhz=>?_)
  ·have hne:l[k]≠0:=by
    intro e;rw[e] at hz;simp at hz
   refine hK _ ?_
   have e2:l.any (λc=>c !=0)=true:=NA.2 ⟨l[k],List.getElem_mem hlt,by simpa using hne⟩
   rw[e2];simp
  ·have he:l[k]=0:=by
    have:((l[k]).toNat:Int)=0:=by simpa using hz
    exact MH.1 (by rw[UInt8.toNat_zero];omega)
   refine hnext hlt _ _ ⟨rfl,aI k (by omega),?_⟩
   rw[KP hlt,List.any_append,hno,he];rfl
 ·have hge:k=l.length:=by rw[hn] at hc;simp at hc;omega
  rw[hge,KT (KN _)] at hno
  refine hK _ ?_
  rw[hno];rfl
theorem tH {s:Sl}{l:List UInt8}{H:Heap}{K:Bool->Heap->Prop}(hb:bG H s l)(hl:l.length<4611686018427387904)(hK:K (l.any (λc=>c !=0)) H):Hw.sp s H K:=by
 refine Hw.of ?_
 unfold Hw.vc
 refine Bg hb hl λr hr=>?_
 rw[hr];exact hK
theorem FF {a b:Nat}(ha:a<256)(hb:b<256):wR .i64 (KG.wrap (a:Int)) (j5 .i64 (KG.wrap (b:Int)) 8)=((a+256*b:Nat):Int):=by
 rw[wrap64 (by omega) (by omega),wrap64 (x:=(b:Int)) (by omega) (by omega)]
 have e1:j5 .i64 (b:Int) 8=((b*256:Nat):Int):=by
  unfold j5
  rw[show (min (8:Int).toNat KG.bits)=8 from rfl,wrap64 (by omega) (by omega)]
  omega
 rw[e1]
 unfold wR
 show KG.wrap ((Mw 64 (a:Int)|||Mw 64 ((b*256:Nat):Int)).toNat:Int)=_
 rw[N0,N0,BitVec.toNat_or,M9,M9,N7 (by omega),N7 (by omega)]
 have e2:a|||b*256=a+256*b:=by
  have:=Nat.shiftLeft_add_eq_or_of_lt (i:=8) (b:=a) (by omega) b
  rw[Nat.shiftLeft_eq] at this
  rw[Nat.or_comm,show b*256=b*2^8 from rfl,<-this];omega
 rw[e2]
 exact wrap64 (by omega) (by omega)
theorem jH {l:List UInt8}(h:l.length=512)(hn:¬(l.take 4=oa (fQ (l.drop 4))/\bK l<=504/\l.getD 7 0=157/\∀c∈l.drop (8+bK l),c=0)):ez l=none:=by
 unfold ez
 rw[if_neg (λq=>hn ((sO h).1 q))]
theorem yr {l:List UInt8}(h:l.length=512)(hn:l.take 4=oa (fQ (l.drop 4))/\bK l<=504/\l.getD 7 0=157/\∀c∈l.drop (8+bK l),c=0):ez l=some (l.getD 6 0,(l.drop 8).take (bK l)):=by
 unfold ez
 rw[if_pos ((sO h).2 hn)]
set_option maxRecDepth 20000 in
theorem Fg {s:Sl}{l:List UInt8}{H:Heap}{K:(Int×Sl×Int)->Heap->Prop}(hg:Gl H)(hb:bG H s l)(hl:l.length<4611686018427387904)(hcap:s.n<=s.c)
  (hA:l.length≠512->K (0,Sl.mk none 0 0,2) H) (hT:l.length=512->ez l=none->K (0,Sl.mk none 0 0,20) H)
  (hK:∀k b s' H',l.length=512->ez l=some (k,b)->b.length<=504->aK EB dF H' s' b->Ext H H'->(∀b,al s' b->H.size<=b)->K ((k.toNat:Int),s',0) H'):G7.sp s H K:=by
 refine G7.of ?_
 unfold G7.vc
 have hn:=hb.n
 refine ae (λhc=>hA (by rw[hn] at hc;simp at hc;omega)) (λhc=>?_)
 have h512:l.length=512:=by rw[hn] at hc;simp at hc;omega
 refine⟨⟨by decide,by omega⟩,?_⟩
 have d4:=hb.drop hcap 4
 refine DP hg d4 (by simp;omega) ?_
 refine ay 4 (λk x H1=>H=H1/\x=(k:Int)/\l.take k=(oa (fQ (l.drop 4))).take k) ⟨rfl,rfl,rfl⟩ ?_
 rintro k _ _ next hk ⟨rfl,rfl,heq⟩ hnext
 refine ae (λhc=>?_) (λhc=>?_)
 ·have hk4:k<4:=by simp at hc;omega
  have hlt:k<l.length:=by omega
  refine dZ hb hlt rfl λad ha=>?_
  have hw:KG.wrap ((8:Int)*(k:Int))=((8*k:Nat):Int):=by rw[wrap64 (by omega) (by omega)];omega
  rw[hw]
  refine⟨by omega,?_⟩
  rw[qH _ (8*k) (by omega),nO]
  have hv:(oa (fQ (l.drop 4)))[k]?=some (Lf ((fQ (l.drop 4)).toNat/2^(8*k))):=by
   have:k=0\/k=1\/k=2\/k=3:=by omega
   rcases this with rfl|rfl|rfl|rfl<;>simp[oa]
  refine ae (λhz=>?_) (λhz=>?_)
  ·refine hT h512 (jH h512 λq=>?_)
   have e1:(l.take 4)[k]?=some l[k]:=by rw[LB,if_pos hk4,KJ hlt]
   rw[q.1,hv] at e1
   rw[K1 e1] at hz
   simp at hz
  ·have e1:l[k]=Lf ((fQ (l.drop 4)).toNat/2^(8*k)):=by
    refine MH.1 ?_
    have:((l[k]).toNat:Int)=((Lf ((fQ (l.drop 4)).toNat/2^(8*k))).toNat:Int):=by simpa using hz
    omega
   refine hnext hk4 _ _ ⟨rfl,aI k (by omega),?_⟩
   have hk4':k<(oa (fQ (l.drop 4))).length:=by simp[oa];omega
   rw[KP hlt,KP hk4',heq]
   rw[KJ hk4'] at hv
   rw[K1 hv,e1]
 ·have hk4:k=4:=by simp at hc;omega
  subst hk4
  have hsum:l.take 4=oa (fQ (l.drop 4)):=by
   rw[heq];exact KT (by simp[oa])
  refine dZ (i:=4) (z:=4) hb (by omega) rfl λ_ _=>?_
  refine dZ (i:=5) (z:=5) hb (by omega) rfl λ_ _=>?_
  have hsz:wR .i64 (KG.wrap ((l[4]).toNat:Int)) (j5 .i64 (KG.wrap ((l[5]).toNat:Int)) 8)=(bK l:Int):=by
   rw[FF (l[4]).toNat_lt (l[5]).toNat_lt]
   unfold bK
   simp[Lo,KJ (show 4<l.length by omega),KJ (show 5<l.length by omega)]
  rw[hsz]
  refine ae (λhz=>hT h512 (jH h512 λq=>?_)) (λhz=>?_)
  ·have:=q.2.1;simp at hz;omega
  have hle:bK l<=504:=by simp at hz;omega
  refine dZ (i:=7) (z:=7) hb (by omega) rfl λ_ _=>?_
  have h7:l.getD 7 0=l[7]:=by simp[Lo,KJ (show 7<l.length by omega)]
  refine ae (λhz=>hT h512 (jH h512 λq=>?_)) (λhz=>?_)
  ·have:=q.2.2.1
   rw[h7] at this
   rw[this] at hz;simp at hz
  have h7':l.getD 7 0=157:=by
   rw[h7]
   refine MH.1 ?_
   have:((l[7]).toNat:Int)=157:=by simpa using hz
   rw[show (157:UInt8).toNat=157 from rfl];omega
  have hw8:KG.wrap ((8:Int)+(bK l:Int))=((8+bK l:Nat):Int):=by rw[wrap64 (by omega) (by omega)];omega
  rw[hw8,KU]
  refine⟨⟨by omega,by omega⟩,?_⟩
  refine tH (hb.drop hcap (8+bK l)) (by simp;omega) ?_
  refine ae (λhz=>hT h512 (jH h512 λq=>?_)) (λhz=>?_)
  ·obtain⟨c,hc1,hc2⟩:=NA.1 hz
   rw[q.2.2.2 c hc1] at hc2;simp at hc2
  have hz':∀c∈l.drop (8+bK l),c=0:=by
   intro c hc1
   have:=List.any_eq_false.1 hz c hc1
   simpa using this
  have hop:=yr h512 ⟨hsum,hle,h7',hz'⟩
  refine⟨λH'=>Ext H H',.refl _ _,?_⟩
  have hlt6:6<l.length:=by omega
  have hb':∀H',Ext H H'->bG H' s l:=λH' e=>hb.ak λad _ hl=>e.same _ hl id
  obtain⟨ad,ha,_⟩:=hb.addr (by omega)
  refine dv ad ha ⟨⟨by decide,by omega⟩,((l[6]).toNat:Int),λH' e=>?_,?_⟩
  ·have hc6:=(hb' H' e).at (i:=6) (by simp[dy];omega)
   obtain⟨ad',ha',hc6⟩:=hc6
   rw[ha] at ha';cases ha'
   rw[show (6:Int).toNat*1=6 from rfl,hc6]
   simp[dy]
  ·refine⟨⟨by omega,by omega⟩,⟨by decide,by omega⟩,?_⟩
   have hd8:=(hb.drop hcap 8).take (bK l) (by show _<=s.n - 8;omega) (s.c - 8)
   have e8:(8+bK l) - (8:Int).toNat=bK l:=by show 8+bK l - 8=_;omega
   rw[e8]
   refine fM hd8 (by simp;omega) λs' H' o' m' f'=>⟨m',?_⟩
   have h6:l.getD 6 0=l[6]:=by simp[Lo,KJ hlt6]
   rw[h6] at hop
   exact hK l[6] _ s' H' h512 hop (by simp;omega) o' m' f'
end Go.Proofs.YtdpdmbceakdlmaaGreatDoor
