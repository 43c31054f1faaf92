/-
 Pages: the walk of their sum, of what seals them, of what opens them.
-/
import Derived.Test.YtkehfflpbpdokaaGreatDoorDkg
import Derived.Test.YtkehfflpbpdokaaGreatDoorPga
import Derived.Laws.CopyRow
import Derived.Laws.IdiomCopy
open BitVec renaming ofInt->Mc,toNat_ofNat->Mm,ofInt_natCast->MS,ofNat->OL,allOnes->Rl
open Go.Builtin renaming copy_->Li
open Go.IntKind renaming i64->Ke,u32->Kh,u8->KH,signed->R3,wrap->Sm,bits->Sp
open Go.Proofs.Tryz renaming prog->Kf
open Go.World renaming setRow->N3
open Int renaming toNat_natCast->KI,fdiv_eq_ediv_of_nonneg->M4,pow_nonneg->Rn
open List renaming getElem?_eq_getElem->Kg,take_succ_eq_append_getElem->KB,getElem?_map->KC,replicate->KG,getD->KQ,take_of_length_le->KV,getElem?_take->Lh,drop_eq_getElem_cons->Mp,any_eq_true->MA,set_cons_zero->OK
open Nat renaming le_refl->Kl,mul_one->Ld,mod_eq_of_lt->NO,mod_lt->RD
open Option.some renaming inj->Kq
open UInt8 renaming ofNat->Ky,toNat_inj->N5
namespace Go.Proofs.YtkehfflpbpdokaaGreatDoor
theorem uB (a:BitVec 32):Mc 32 (a.toNat:Int)=a:=by
 rw[MS,BitVec.ofNat_toNat,BitVec.setWidth_eq]
theorem wrap32 {n:Nat}(h:n<4294967296):Kh.wrap (n:Int)=(n:Int):=by
 simp[Sm,Sp,R3];omega
theorem jF (n:Nat):KH.wrap (n:Int)=((Ky n).toNat:Int):=by
 rw[UInt8.toNat_ofNat']
 simp[Sm,Sp,R3]
theorem xt (a b:BitVec 32):jL .u32 (a.toNat:Int) (b.toNat:Int)=((a^^^b).toNat:Int):=by
 unfold jL
 show Kh.wrap ((Mc 32 (a.toNat:Int)^^^Mc 32 (b.toNat:Int)).toNat:Int)=_
 rw[uB,uB]
 exact wrap32 (a^^^b).isLt
theorem Cg (a:BitVec 32):vM .u32 (a.toNat:Int) 15=((a.toNat%16:Nat):Int):=by
 unfold vM
 show Kh.wrap ((Mc 32 (a.toNat:Int)&&&15#32).toNat:Int)=_
 rw[uB,BB]
 rw[Mm]
 have:a.toNat%16%2^32=a.toNat%16:=by omega
 rw[this]
 exact wrap32 (by omega)
theorem xX (a:BitVec 32)(k:Nat)(hk:k<=32):aZ .u32 (a.toNat:Int) (k:Int)=((a.toNat/2^k:Nat):Int):=by
 unfold aZ
 have:min (k:Int).toNat Kh.bits=k:=by
  show min (k:Int).toNat 32=k
  omega
 rw[this,M4 _ (Rn (by decide)),Int.natCast_ediv,Int.natCast_pow]
 rfl
def ft:Nat:=1
def Gl (H:aa):Prop:=∀i,i<16->bI H ⟨ft,i,none⟩=some (.int .u32 ((lr.getD i 0#32).toNat:Int))
theorem Gl.lt {H:aa}(h:Gl H):ft<H.size:=iV (h 0 (by decide))
theorem Gl.aA {H H':aa}(h:Gl H)(k:H'[ft]?=H[ft]?):Gl H':=λi hi=>(dx k).trans (h i hi)
theorem Gl.mod {F:Nat->Prop}{H H':aa}(h:Gl H)(hm:Mod F H H')(hn:¬F ft):Gl H':=h.aA (hm.same _ h.lt hn)
theorem uG {H:aa}(h:Gl H){i:Nat}(hi:i<16){K:Int->Prop}(hK:K ((lr.getD i 0#32).toNat:Int)){a:Addr}(ha:a=⟨ft,i,none⟩):ld (af .u32) H a K:=by
 subst ha
 exact⟨_,h i hi,hK⟩
def vD (l:List UInt8):BitVec 32:=l.foldl Ei (Rl 32)
theorem zI (l:List UInt8)(c:UInt8):vD (l++[c])=Ei (vD l) c:=by simp[vD]
theorem toNat_ofNat32 (c:UInt8):(OL 32 c.toNat).toNat=c.toNat:=by
 rw[Mm]
 have:=c.toNat_lt
 omega
theorem G7 {l:List UInt8}{i:Nat}(h:i<l.length):(dz l).getD i 0=((l[i]).toNat:Int):=by
 simp[dz,KQ,h]
theorem kB {l:List UInt8}{H:aa}{s:Sl}(h:cG H s l){i:Nat}(hi:i<l.length){z:Int}(hz:z=(i:Int)){K:Addr->Int->Prop}(hK:∀ad,s.a=some ad->K ad ((l[i]).toNat:Int)):
  ae s.a λa=>(0<=z/\z<(s.n:Int))/\ld (af .u8) H (a.add (z.toNat*1)) λx=>K a x:=
 bB (l:=dz l) h hz (by simpa[dz] using hi) (λad ha=>by rw[G7 hi];exact hK ad ha)
theorem Cj {s:Sl}{l:List UInt8}{H:aa}{K:Int->aa->Prop}(hg:Gl H)(hb:cG H s l)(hl:l.length<4611686018427387904)(hK:K ((jN l).toNat:Int) H):E8.sp s H K:=by
 refine E8.of ?_
 unfold E8.vc
 have hn:=hb.n
 refine av l.length (λk x H1=>H1=H/\x=(((vD (l.take k)).toNat:Int),(k:Int))) ⟨rfl,rfl⟩ ?_
 rintro k _ _ next hk ⟨rfl,rfl⟩ hnext
 refine ak (λhc=>?_) (λhc=>?_)
 ·have hlt:k<l.length:=by rw[hn] at hc;simpa using hc
  refine kB hb hlt rfl λad ha=>?_
  have hc8:(l[k]).toNat<256:=(l[k]).toNat_lt
  have e0:jL .u32 ((vD (l.take k)).toNat:Int) (Kh.wrap (((l[k]).toNat:Nat):Int))=((vD (l.take k)^^^OL 32 (l[k]).toNat).toNat:Int):=by
   rw[wrap32 (by omega),<-toNat_ofNat32 l[k],xt,toNat_ofNat32]
  simp only[e0]
  generalize hr:vD (l.take k)^^^OL 32 (l[k]).toNat=r
  have half:∀(r:BitVec 32),jL .u32 (aZ .u32 (r.toNat:Int) 4) ((lr.getD (r.toNat%16) 0#32).toNat:Int)=((lz r).toNat:Int):=by
   intro r
   have h1:aZ .u32 (r.toNat:Int) 4=((r>>>4).toNat:Int):=by
    rw[show (4:Int)=((4:Nat):Int) from rfl,xX r 4 (by decide),BitVec.toNat_ushiftRight,Nat.shiftRight_eq_div_pow]
   rw[h1,xt,<-EN]
  rw[Cg]
  refine⟨⟨by omega,by omega⟩,?_⟩
  refine uG hg (i:=r.toNat%16) (RD _ (by decide)) ?_ (by rw[KI,Ld,bq];rfl)
  rw[half,Cg]
  refine⟨⟨by omega,by omega⟩,?_⟩
  refine uG hg (i:=(lz r).toNat%16) (RD _ (by decide)) ?_ (by rw[KI,Ld,bq];rfl)
  rw[half]
  refine hnext hlt _ _ ⟨rfl,?_⟩
  have hs:=aK k (by omega)
  rw[hs,KB hlt,zI]
  unfold Ei
  rw[hr]
 ·have hge:k=l.length:=by rw[hn] at hc;simp at hc;omega
  rw[hge,KV (Kl _)]
  have e:jL .u32 (4294967295:Int) ((vD l).toNat:Int)=((jN l).toNat:Int):=by
   rw[show (4294967295:Int)=((Rl 32).toNat:Int) from rfl,xt]
   congr 2
  rw[e];exact hK
theorem A0 {P:Program}{dT sT ty elem t:TypeId}{H:aa}{b o dl dc:Nat}{x:Sl}{cur:Array Value}{cs:List Value}{K:Int->aa->Prop}(hu:P.underlying dT=some (.slice elem))(hs:(P.info? elem).map (·.size)=some 1)
  (h:ag H b t cur) (hx:Reads H x.a cs) (hn:x.n=cs.length) (hle:x.n<=dl) (hfit:o+cs.length<=cur.size) (h1:∀v∈cs,v.oneCell'=true)
  (hK:∀H',ag H' b t (cur.toList.take o++cs++cur.toList.drop (o+cs.length)).toArray->Mod (λk=>k=b) H H'->H'.size=H.size->K (cs.length:Int) H'):
  bo (af .i64) P (Li #[dT,sT] ty #[.slice (some ⟨b,o,none⟩) dl dc,x.v]) H K:=by
 intro w hw
 subst hw
 obtain⟨xa,xn,xc⟩:=x
 simp only[Sl.v] at*
 by_cases hz:cs=[]
 ·subst hz
  have hx0:xn=0:=hn
  subst hx0
  have hr:=run_copy_none (P:=P) w dT sT ty elem (some ⟨b,o,none⟩) xa dl dc 0 xc hu hs (by simp)
  refine⟨_,w,hr,⟨0,rfl,?_⟩,.refl w⟩
  refine hK w.heap ?_ (.refl _ _) rfl
  have e:(cur.toList.take o++[]++cur.toList.drop (o+([]:List Value).length)).toArray=cur:=by simp
  rw[e];exact h
 ·have hpos:0<cs.length:=List.length_pos_iff.2 hz
  obtain⟨ad,rfl,_⟩:=hx.at hpos
  have hsrc:∀j v,cs[j]?=some v->w.cell? (ad.add j)=some v:=λj v hv=>by
   obtain⟨ad',e,hc⟩:=hx j v hv
   cases e;exact hc
  have hr:=run_copy_row (P:=P) w dT sT ty elem b o dl dc ad xn xc cur t cs hu hs h (by rw[<-hn];exact(Nat.min_eq_left hle).symm) hsrc hfit h1
  refine⟨_,_,hr,⟨(cs.length:Int),rfl,hK _ (setRow_heap w b cur _ t _ h) ⟨by simp[N3],λk _ hk=>setRow_other w b k _ hk⟩ (by simp[N3])⟩,(.of_le rfl (Kl _))⟩
abbrev kW (H:aa)(b:Nat)(t:TypeId)(l:List UInt8):Prop:=ag H b t (gO l).toArray
theorem kW.st {H:aa}{b:Nat}{t:TypeId}{l:List UInt8}{K:aa->Prop}(h:kW H b t l){i:Nat}{x:UInt8}(hi:i<l.length)(hK:∀H',kW H' b t (l.set i x)->Mod (λk=>k=b) H H'->H'.size=H.size->K H'):
  Go.Proofs.YtkehfflpbpdokaaGreatDoor.st H (Addr.add ⟨b,0,none⟩ i) (.int .u8 (x.toNat:Int)) K:=by
 refine ag.st h (i:=i) (by simpa[gO] using hi) rfl λH' r m s=>hK H' ?_ m s
 have e:((gO l).toArray.setIfInBounds i (.int .u8 (x.toNat:Int)))=(gO (l.set i x)).toArray:=by
  apply Array.toList_inj.1
  simp[gO]
 rw[e] at r;exact r
theorem kW.Iw {H:aa}{b:Nat}{t:TypeId}{l:List UInt8}(h:kW H b t l){o n c:Nat}(hn:o+n<=l.length):cG H (Sl.mk (some ⟨b,o,none⟩) n c) ((l.drop o).take n):=by
 refine⟨by simp[dz];omega,λi v hv=>⟨_,rfl,?_⟩⟩
 rw[iL] at hv
 rw[add_lit]
 refine cv h ?_
 have hi:i<n:=by have:=(List.getElem?_eq_some_iff.1 hv).1;simp[gO] at this;omega
 simp only[gO,KC,Lh,if_pos hi,List.getElem?_drop] at hv
 simp only[gO,List.getElem?_toArray,KC]
 exact hv
theorem re {α:Type}{A B:List α}{k:Nat}{x:α}(hk:k<A.length)(hB:k<B.length)(hx:A[k]?=some x):(A.take k++B.drop k).set k x=A.take (k+1)++B.drop (k+1):=by
 have hl:(A.take k).length=k:=by simp;omega
 rw[List.set_append_right _ _ (by omega),hl,Nat.sub_self]
 have e:B.drop k=B[k]::B.drop (k+1):=Mp hB
 rw[e,OK,KB hk]
 have:A[k]=x:=by rw[Kg hk] at hx;exact Kq hx
 rw[this];simp
theorem DV:Kf.underlying iy=some (.slice kN):=by kernel_rfl
theorem G9:(Kf.info? kN).map (·.size)=some 1:=by kernel_rfl
theorem GU:zc Kf Hd=(gO (KG 512 0)).toArray:=by kernel_rfl
theorem Gn:KG 512 (0:UInt8)=0::0::0::0::0::0::0::0::KG 504 0:=rfl
set_option maxRecDepth 20000 in
theorem DN {kind:UInt8}{s:Sl}{l:List UInt8}{H:aa}{K:Sl×Int->aa->Prop}(hg:Gl H)(hb:cG H s l)(hlen:l.length<=504)
  (hK:∀s' H',cw EB kN H' s' (bP kind l)->Ext H H'->(∀b,ai s' b->H.size<=b)->K (s',0) H'):FK.sp (kind.toNat:Int) s H K:=by
 refine FK.of ?_
 unfold FK.vc
 have hn:=hb.n
 refine ax (by simp;omega) ?_
 rw[GU]
 refine ar λH1 s1 r1 e1=>?_
 rw[Gn] at r1
 have b1:cG H1 s l:=hb.aA λad _ hl=>e1.same _ hl id
 refine⟨⟨by decide,by decide⟩,?_⟩
 have v4:KH.wrap (s.n:Int)=((Ky l.length).toNat:Int):=by rw[hn,jF]
 have v5:KH.wrap (aZ .i64 (s.n:Int) 8)=((Ky (l.length/256)).toNat:Int):=by
  have:aZ .i64 (s.n:Int) 8=((l.length/256:Nat):Int):=by
   unfold aZ
   rw[hn,show (min (8:Int).toNat Ke.bits)=8 from rfl,M4 _ (Rn (by decide))]
   rfl
  rw[this,jF]
 rw[v4]
 refine kW.st (i:=4) r1 (by simp) λH2 r2 m2 z2=>?_
 refine⟨⟨by decide,by decide⟩,?_⟩
 rw[v5]
 refine kW.st (i:=5) r2 (by simp) λH3 r3 m3 z3=>?_
 refine⟨⟨by decide,by decide⟩,?_⟩
 refine kW.st (i:=6) r3 (by simp) λH4 r4 m4 z4=>?_
 refine⟨⟨by decide,by decide⟩,?_⟩
 refine kW.st (i:=7) (x:=157) r4 (by simp) λH5 r5 m5 z5=>?_
 refine⟨⟨by decide,by decide⟩,?_⟩
 have m15:Mod (λb=>b=H.size) H1 H5:=((m2.trans m3).trans m4).trans m5
 have m05:Ext H H5:=⟨by have:=e1.size;have:=m15.size;omega,λb hb _=>(m15.same b (by omega) (by omega)).trans (e1.same b hb id)⟩
 have b5:cG H5 s l:=hb.aA λad _ hl=>m05.same _ hl id
 have a8:bw (some ⟨H.size,0,none⟩) 512 ((8:Int).toNat) 1=some ⟨H.size,8,none⟩:=rfl
 rw[a8]
 refine A0 (t:=Hd) DV G9 r5 b5.cells (by rw[hn];simp[gO]) (by rw[hn];show _<=504;omega) (by simp[gO];omega) (by
  intro v hv
  obtain⟨x,_,rfl⟩:=List.mem_map.1 hv;rfl) λH6 r6 m6 z6=>?_
 have L6:(0::0::0::0::ez kind l:List UInt8)=[0,0,0,0]++ez kind l:=rfl
 have r6':kW H6 H.size Hd ([0,0,0,0]++ez kind l):=by
  have e:(((gO (((((0::0::0::0::0::0::0::0::KG 504 0:List UInt8).set 4 (Ky l.length)).set 5 (Ky (l.length/256))).set 6 kind).set 7 157)).toArray.toList.take 8++gO l)++(gO (((((0::0::0::0::0::0::0::0::KG 504 0:List UInt8).set 4 (Ky l.length)).set 5 (Ky (l.length/256))).set 6 kind).set 7 157)).toArray.toList.drop (8+(gO l).length)).toArray=(gO ([0,0,0,0]++ez kind l)).toArray:=by
   congr 1
   simp only[List.set_cons_succ,OK,gO,List.map_cons,List.take_succ_cons,List.take_zero,List.map_append,ez,List.length_map,List.map_replicate]
   rw[show 8+l.length=l.length+8 from Nat.add_comm _ _]
   simp only[List.drop_succ_cons,List.drop_replicate]
   simp
  rw[e] at r6;exact r6
 have m16:Mod (λb=>b=H.size) H1 H6:=m15.trans m6
 have m06:Ext H H6:=⟨by have:=e1.size;have:=m16.size;omega,λb hb _=>(m16.same b (by omega) (by omega)).trans (e1.same b hb id)⟩
 refine⟨⟨by decide,by decide⟩,?_⟩
 have a4:bw (some ⟨H.size,0,none⟩) 512 ((4:Int).toNat) 1=some ⟨H.size,4,none⟩:=rfl
 rw[a4]
 have hbl:=lL (kind:=kind) hlen
 have by6:=kW.Iw r6' (o:=4) (n:=508) (c:=508) (by simp[hbl])
 have ed:(([0,0,0,0]++ez kind l:List UInt8).drop 4).take 508=ez kind l:=by
  show (ez kind l).take 508=_
  rw[KV (by omega)]
 rw[ed] at by6
 refine Cj (hg.mod m06 id) by6 (by omega) ?_
 refine av 4 (λk x H7=>x=(k:Int)/\kW H7 H.size Hd ((qR (jN (ez kind l))).take k++([0,0,0,0]++ez kind l).drop k)/\Mod (λb=>b=H.size) H6 H7) ⟨rfl,r6',.refl _ _⟩ ?_
 rintro k _ H7 next hk ⟨rfl,r7,m7⟩ hnext
 refine ak (λhc=>?_) (λhc=>?_)
 ·have hk4:k<4:=by simp at hc;omega
  have hw:Ke.wrap ((8:Int)*(k:Int))=((8*k:Nat):Int):=by rw[wrap64 (by omega) (by omega)];omega
  rw[hw]
  refine⟨by omega,⟨by omega,by omega⟩,?_⟩
  have hv:(qR (jN (ez kind l)))[k]?=some (Ky ((jN (ez kind l)).toNat/2^(8*k))):=by
   have:k=0\/k=1\/k=2\/k=3:=by omega
   rcases this with rfl|rfl|rfl|rfl<;>simp[qR]
  rw[xX _ (8*k) (by omega),jF,KI,Ld]
  refine kW.st (i:=k) r7 (by simp[qR,hbl];omega) λH8 r8 m8 z8=>?_
  rw[re (by simp[qR];omega) (by simp[hbl];omega) hv] at r8
  exact hnext hk4 _ _ ⟨aK k (by omega),r8,m7.trans m8⟩
 ·have hk4:k=4:=by simp at hc;omega
  subst hk4
  have r7':kW H7 H.size Hd (bP kind l):=by
   have e:(qR (jN (ez kind l))).take 4++([0,0,0,0]++ez kind l:List UInt8).drop 4=bP kind l:=rfl
   rw[e] at r7;exact r7
  have hsl:=gx (kind:=kind) hlen
  have by7:=kW.Iw r7' (o:=0) (n:=512) (c:=512) (by omega)
  rw[List.drop_zero,KV (by omega)] at by7
  have a0:bw (some ⟨H.size,0,none⟩) 512 0 1=some ⟨H.size,0,none⟩:=rfl
  rw[a0]
  refine eN by7 (by omega) λs' H' o' m' f'=>?_
  have m17:Mod (λb=>b=H.size) H1 H7:=m16.trans m7
  have z1:=e1.size;have z7:=m17.size;have z':=m'.size
  refine hK s' H' o' ⟨by omega,λb hb _=>(m'.same b (by omega) id).trans ((m17.same b (by omega) (by omega)).trans (e1.same b hb id))⟩ (λb hb=>?_)
  have:=f' b hb;omega
theorem cG.drop {H:aa}{s:Sl}{l:List UInt8}(h:cG H s l)(hc:s.n<=s.c)(i:Nat):cG H (Sl.mk (bw s.a s.c i 1) (s.n - i) (s.c - i)) (l.drop i):=by
 have hn:=h.n
 refine⟨by simp[dz,hn],?_⟩
 have:=ql.drop (E:=EB) (i:=i) (c:=s.c) (a:=s.a) (l:=l) (by unfold ql;rw[uh];exact h.cells) (by omega)
 unfold ql at this
 rw[uh] at this
 rw[iL]
 exact this
theorem cG.take {H:aa}{s:Sl}{l:List UInt8}(h:cG H s l)(i:Nat)(hi:i<=s.n)(c:Nat):cG H (Sl.mk s.a i c) (l.take i):=by
 have hn:=h.n
 refine⟨by simp[dz];omega,?_⟩
 rw[iL]
 have:gO (l.take i)=(gO l).take i:=by simp[gO]
 rw[this]
 exact h.cells.take i
theorem Ao {s:Sl}{l:List UInt8}{H:aa}{K:Int->aa->Prop}(hb:cG H s l)(hl:l.length<4611686018427387904)(hK:∀r:Int,(decide (r>=0))=l.any (λc=>c !=0)->K r H):Gf.sp s H K:=by
 refine Gf.of ?_
 unfold Gf.vc
 have hn:=hb.n
 refine av l.length (λk x H1=>H1=H/\x=(k:Int)/\(l.take k).any (λc=>c !=0)=false) ⟨rfl,rfl,by simp⟩ ?_
 rintro k _ _ next hk ⟨rfl,rfl,hno⟩ hnext
 refine ak (λhc=>?_) (λhc=>?_)
 ·have hlt:k<l.length:=by rw[hn] at hc;simpa using hc
  refine kB hb hlt rfl λad ha=>?_
  refine De.of ?_
  unfold De.vc
  have ex:l=l.take k++l[k]::l.drop (k+1):=by
   rw[<-Mp hlt,List.take_append_drop]
  refine ak (λhz=>?_) (λhz=>?_)
  ·have hne:l[k]≠0:=by
    intro e;rw[e] at hz;simp at hz
   refine hK _ ?_
   have e2:l.any (λc=>c !=0)=true:=MA.2 ⟨l[k],List.getElem_mem hlt,by simpa using hne⟩
   rw[e2];simp
  ·have he:l[k]=0:=by
    have:((l[k]).toNat:Int)=0:=by simpa using hz
    exact N5.1 (by rw[UInt8.toNat_zero];omega)
   refine hnext hlt _ _ ⟨rfl,aK k (by omega),?_⟩
   rw[KB hlt,List.any_append,hno,he];rfl
 ·have hge:k=l.length:=by rw[hn] at hc;simp at hc;omega
  rw[hge,KV (Kl _)] at hno
  refine hK _ ?_
  rw[hno];rfl
theorem ui {s:Sl}{l:List UInt8}{H:aa}{K:Bool->aa->Prop}(hb:cG H s l)(hl:l.length<4611686018427387904)(hK:K (l.any (λc=>c !=0)) H):Gi.sp s H K:=by
 refine Gi.of ?_
 unfold Gi.vc
 refine Ao hb hl λr hr=>?_
 rw[hr];exact hK
theorem DX {a b:Nat}(ha:a<256)(hb:b<256):kO .i64 (Ke.wrap (a:Int)) (dw .i64 (Ke.wrap (b:Int)) 8)=((a+256*b:Nat):Int):=by
 rw[wrap64 (by omega) (by omega),wrap64 (x:=(b:Int)) (by omega) (by omega)]
 have e1:dw .i64 (b:Int) 8=((b*256:Nat):Int):=by
  unfold dw
  rw[show (min (8:Int).toNat Ke.bits)=8 from rfl,wrap64 (by omega) (by omega)]
  omega
 rw[e1]
 unfold kO
 show Ke.wrap ((Mc 64 (a:Int)|||Mc 64 ((b*256:Nat):Int)).toNat:Int)=_
 rw[MS,MS,BitVec.toNat_or,Mm,Mm,NO (by omega),NO (by omega)]
 have e2:a|||b*256=a+256*b:=by
  have:=Nat.shiftLeft_add_eq_or_of_lt (i:=8) (b:=a) (by omega) b
  rw[Nat.shiftLeft_eq] at this
  rw[Nat.or_comm,show b*256=b*2^8 from rfl,<-this];omega
 rw[e2]
 exact wrap64 (by omega) (by omega)
theorem jm {l:List UInt8}(h:l.length=512)(hn:¬(l.take 4=qR (jN (l.drop 4))/\cY l<=504/\l.getD 7 0=157/\∀c∈l.drop (8+cY l),c=0)):fm l=none:=by
 unfold fm
 rw[if_neg (λq=>hn ((sS h).1 q))]
theorem xh {l:List UInt8}(h:l.length=512)(hn:l.take 4=qR (jN (l.drop 4))/\cY l<=504/\l.getD 7 0=157/\∀c∈l.drop (8+cY l),c=0):fm l=some (l.getD 6 0,(l.drop 8).take (cY l)):=by
 unfold fm
 rw[if_pos ((sS h).2 hn)]
set_option maxRecDepth 20000 in
theorem EH {s:Sl}{l:List UInt8}{H:aa}{K:(Int×Sl×Int)->aa->Prop}(hg:Gl H)(hb:cG H s l)(hl:l.length<4611686018427387904)(hcap:s.n<=s.c)
  (hA:l.length≠512->K (0,Sl.mk none 0 0,2) H) (hT:l.length=512->fm l=none->K (0,Sl.mk none 0 0,20) H)
  (hK:∀k b s' H',l.length=512->fm l=some (k,b)->b.length<=504->cw EB kN H' s' b->Ext H H'->(∀b,ai s' b->H.size<=b)->K ((k.toNat:Int),s',0) H'):Gd.sp s H K:=by
 refine Gd.of ?_
 unfold Gd.vc
 have hn:=hb.n
 refine ak (λhc=>hA (by rw[hn] at hc;simp at hc;omega)) (λhc=>?_)
 have h512:l.length=512:=by rw[hn] at hc;simp at hc;omega
 refine⟨⟨by decide,by omega⟩,?_⟩
 have d4:=hb.drop hcap 4
 refine Cj hg d4 (by simp;omega) ?_
 refine av 4 (λk x H1=>H=H1/\x=(k:Int)/\l.take k=(qR (jN (l.drop 4))).take k) ⟨rfl,rfl,rfl⟩ ?_
 rintro k _ _ next hk ⟨rfl,rfl,heq⟩ hnext
 refine ak (λhc=>?_) (λhc=>?_)
 ·have hk4:k<4:=by simp at hc;omega
  have hlt:k<l.length:=by omega
  refine kB hb hlt rfl λad ha=>?_
  have hw:Ke.wrap ((8:Int)*(k:Int))=((8*k:Nat):Int):=by rw[wrap64 (by omega) (by omega)];omega
  rw[hw]
  refine⟨by omega,?_⟩
  rw[xX _ (8*k) (by omega),jF]
  have hv:(qR (jN (l.drop 4)))[k]?=some (Ky ((jN (l.drop 4)).toNat/2^(8*k))):=by
   have:k=0\/k=1\/k=2\/k=3:=by omega
   rcases this with rfl|rfl|rfl|rfl<;>simp[qR]
  refine ak (λhz=>?_) (λhz=>?_)
  ·refine hT h512 (jm h512 λq=>?_)
   have e1:(l.take 4)[k]?=some l[k]:=by rw[Lh,if_pos hk4,Kg hlt]
   rw[q.1,hv] at e1
   rw[Kq e1] at hz
   simp at hz
  ·have e1:l[k]=Ky ((jN (l.drop 4)).toNat/2^(8*k)):=by
    refine N5.1 ?_
    have:((l[k]).toNat:Int)=((Ky ((jN (l.drop 4)).toNat/2^(8*k))).toNat:Int):=by simpa using hz
    omega
   refine hnext hk4 _ _ ⟨rfl,aK k (by omega),?_⟩
   have hk4':k<(qR (jN (l.drop 4))).length:=by simp[qR];omega
   rw[KB hlt,KB hk4',heq]
   rw[Kg hk4'] at hv
   rw[Kq hv,e1]
 ·have hk4:k=4:=by simp at hc;omega
  subst hk4
  have hsum:l.take 4=qR (jN (l.drop 4)):=by
   rw[heq];exact KV (by simp[qR])
  refine kB (i:=4) (z:=4) hb (by omega) rfl λ_ _=>?_
  refine kB (i:=5) (z:=5) hb (by omega) rfl λ_ _=>?_
  have hsz:kO .i64 (Ke.wrap ((l[4]).toNat:Int)) (dw .i64 (Ke.wrap ((l[5]).toNat:Int)) 8)=(cY l:Int):=by
   rw[DX (l[4]).toNat_lt (l[5]).toNat_lt]
   unfold cY
   simp[KQ,Kg (show 4<l.length by omega),Kg (show 5<l.length by omega)]
  rw[hsz]
  refine ak (λhz=>hT h512 (jm h512 λq=>?_)) (λhz=>?_)
  ·have:=q.2.1;simp at hz;omega
  have hle:cY l<=504:=by simp at hz;omega
  refine kB (i:=7) (z:=7) hb (by omega) rfl λ_ _=>?_
  have h7:l.getD 7 0=l[7]:=by simp[KQ,Kg (show 7<l.length by omega)]
  refine ak (λhz=>hT h512 (jm h512 λq=>?_)) (λhz=>?_)
  ·have:=q.2.2.1
   rw[h7] at this
   rw[this] at hz;simp at hz
  have h7':l.getD 7 0=157:=by
   rw[h7]
   refine N5.1 ?_
   have:((l[7]).toNat:Int)=157:=by simpa using hz
   rw[show (157:UInt8).toNat=157 from rfl];omega
  have hw8:Ke.wrap ((8:Int)+(cY l:Int))=((8+cY l:Nat):Int):=by rw[wrap64 (by omega) (by omega)];omega
  rw[hw8,KI]
  refine⟨⟨by omega,by omega⟩,?_⟩
  refine ui (hb.drop hcap (8+cY l)) (by simp;omega) ?_
  refine ak (λhz=>hT h512 (jm h512 λq=>?_)) (λhz=>?_)
  ·obtain⟨c,hc1,hc2⟩:=MA.1 hz
   rw[q.2.2.2 c hc1] at hc2;simp at hc2
  have hz':∀c∈l.drop (8+cY l),c=0:=by
   intro c hc1
   have:=List.any_eq_false.1 hz c hc1
   simpa using this
  have hop:=xh h512 ⟨hsum,hle,h7',hz'⟩
  refine⟨λH'=>Ext H H',.refl _ _,?_⟩
  have hlt6:6<l.length:=by omega
  have hb':∀H',Ext H H'->cG H' s l:=λH' e=>hb.aA λad _ hl=>e.same _ hl id
  obtain⟨ad,ha,_⟩:=hb.addr (by omega)
  refine cg ad ha ⟨⟨by decide,by omega⟩,((l[6]).toNat:Int),λH' e=>?_,?_⟩
  ·have hc6:=(hb' H' e).at (i:=6) (by simp[dz];omega)
   obtain⟨ad',ha',hc6⟩:=hc6
   rw[ha] at ha';cases ha'
   rw[show (6:Int).toNat*1=6 from rfl,hc6]
   simp[dz]
  ·refine⟨⟨by omega,by omega⟩,⟨by decide,by omega⟩,?_⟩
   have hd8:=(hb.drop hcap 8).take (cY l) (by show _<=s.n - 8;omega) (s.c - 8)
   have e8:(8+cY l) - (8:Int).toNat=cY l:=by show 8+cY l - 8=_;omega
   rw[e8]
   refine eN hd8 (by simp;omega) λs' H' o' m' f'=>⟨m',?_⟩
   have h6:l.getD 6 0=l[6]:=by simp[KQ,Kg hlt6]
   rw[h6] at hop
   exact hK l[6] _ s' H' h512 hop (by simp;omega) o' m' f'
end Go.Proofs.YtkehfflpbpdokaaGreatDoor
