/-
 Pages: the walk of their sum, of what seals them, of what opens them.
-/
import Derived.Test.YtkehfflpbpdokaaGreatDoorDkg
import Derived.Test.YtkehfflpbpdokaaGreatDoorPga
import Derived.Laws.CopyRow
import Derived.Laws.IdiomCopy
open BitVec renaming ofInt->Mc,toNat_ofNat->Mm,ofInt_natCast->MS,ofNat->OL,allOnes->Rl
open Go.Builtin renaming copy_->Li
open Go.IntKind renaming i64->Ke,u32->Kh,u8->KH,signed->R3,wrap->Sm,bits->Sp
open Go.Proofs.Tryz renaming prog->Kf
open Go.World renaming setRow->N3
open Int renaming toNat_natCast->KI,fdiv_eq_ediv_of_nonneg->M4,pow_nonneg->Rn
open List renaming getElem?_eq_getElem->Kg,take_succ_eq_append_getElem->KB,getElem?_map->KC,replicate->KG,getD->KQ,take_of_length_le->KV,getElem?_take->Lh,drop_eq_getElem_cons->Mp,any_eq_true->MA,set_cons_zero->OK
open Nat renaming le_refl->Kl,mul_one->Ld,mod_eq_of_lt->NO,mod_lt->RD
open Option.some renaming inj->Kq
open UInt8 renaming ofNat->Ky,toNat_inj->N5
namespace Go.Proofs.YtkehfflpbpdokaaGreatDoor
theorem uu (a:BitVec 32):Mc 32 (a.toNat:Int)=a:=by
 rw[MS,BitVec.ofNat_toNat,BitVec.setWidth_eq]
theorem wrap32 {n:Nat}(h:n<4294967296):Kh.wrap (n:Int)=(n:Int):=by
 simp[Sm,Sp,R3];omega
theorem jH (n:Nat):KH.wrap (n:Int)=((Ky n).toNat:Int):=by
 rw[UInt8.toNat_ofNat']
 simp[Sm,Sp,R3]
theorem xq (a b:BitVec 32):jK .u32 (a.toNat:Int) (b.toNat:Int)=((a^^^b).toNat:Int):=by
 unfold jK
 show Kh.wrap ((Mc 32 (a.toNat:Int)^^^Mc 32 (b.toNat:Int)).toNat:Int)=_
 rw[uu,uu]
 exact wrap32 (a^^^b).isLt
theorem BD (a:BitVec 32):wu .u32 (a.toNat:Int) 15=((a.toNat%16:Nat):Int):=by
 unfold wu
 show Kh.wrap ((Mc 32 (a.toNat:Int)&&&15#32).toNat:Int)=_
 rw[uu,Br]
 rw[Mm]
 have:a.toNat%16%2^32=a.toNat%16:=by omega
 rw[this]
 exact wrap32 (by omega)
theorem xJ (a:BitVec 32)(k:Nat)(hk:k<=32):bc .u32 (a.toNat:Int) (k:Int)=((a.toNat/2^k:Nat):Int):=by
 unfold bc
 have:min (k:Int).toNat Kh.bits=k:=by
  show min (k:Int).toNat 32=k
  omega
 rw[this,M4 _ (Rn (by decide)),Int.natCast_ediv,Int.natCast_pow]
 rfl
def fL:Nat:=1
def Gl (H:aa):Prop:=∀i,i<16->bF H ⟨fL,i,none⟩=some (.int .u32 ((kX.getD i 0#32).toNat:Int))
theorem Gl.lt {H:aa}(h:Gl H):fL<H.size:=iJ (h 0 (by decide))
theorem Gl.aA {H H':aa}(h:Gl H)(k:H'[fL]?=H[fL]?):Gl H':=λi hi=>(dv k).trans (h i hi)
theorem Gl.mod {F:Nat->Prop}{H H':aa}(h:Gl H)(hm:Mod F H H')(hn:¬F fL):Gl H':=h.aA (hm.same _ h.lt hn)
theorem vY {H:aa}(h:Gl H){i:Nat}(hi:i<16){K:Int->Prop}(hK:K ((kX.getD i 0#32).toNat:Int)){a:Addr}(ha:a=⟨fL,i,none⟩):ld (af .u32) H a K:=by
 subst ha
 exact⟨_,h i hi,hK⟩
def vI (l:List UInt8):BitVec 32:=l.foldl Eo (Rl 32)
theorem Ap (l:List UInt8)(c:UInt8):vI (l++[c])=Eo (vI l) c:=by simp[vI]
theorem toNat_ofNat32 (c:UInt8):(OL 32 c.toNat).toNat=c.toNat:=by
 rw[Mm]
 have:=c.toNat_lt
 omega
theorem Hl {l:List UInt8}{i:Nat}(h:i<l.length):(dz l).getD i 0=((l[i]).toNat:Int):=by
 simp[dz,KQ,h]
theorem kJ {l:List UInt8}{H:aa}{s:Sl}(h:cH H s l){i:Nat}(hi:i<l.length){z:Int}(hz:z=(i:Int)){K:Addr->Int->Prop}(hK:∀ad,s.a=some ad->K ad ((l[i]).toNat:Int)):
  ae s.a λa=>(0<=z/\z<(s.n:Int))/\ld (af .u8) H (a.add (z.toNat*1)) λx=>K a x:=
 bA (l:=dz l) h hz (by simpa[dz] using hi) (λad ha=>by rw[Hl hi];exact hK ad ha)
theorem BM {s:Sl}{l:List UInt8}{H:aa}{K:Int->aa->Prop}(hg:Gl H)(hb:cH H s l)(hl:l.length<4611686018427387904)(hK:K ((jL l).toNat:Int) H):DL.sp s H K:=by
 refine DL.of ?_
 unfold DL.vc
 have hn:=hb.n
 refine av l.length (λk x H1=>H1=H/\x=(((vI (l.take k)).toNat:Int),(k:Int))) ⟨rfl,rfl⟩ ?_
 rintro k _ _ next hk ⟨rfl,rfl⟩ hnext
 refine ak (λhc=>?_) (λhc=>?_)
 ·have hlt:k<l.length:=by rw[hn] at hc;simpa using hc
  refine kJ hb hlt rfl λad ha=>?_
  have hc8:(l[k]).toNat<256:=(l[k]).toNat_lt
  have e0:jK .u32 ((vI (l.take k)).toNat:Int) (Kh.wrap (((l[k]).toNat:Nat):Int))=((vI (l.take k)^^^OL 32 (l[k]).toNat).toNat:Int):=by
   rw[wrap32 (by omega),<-toNat_ofNat32 l[k],xq,toNat_ofNat32]
  simp only[e0]
  generalize hr:vI (l.take k)^^^OL 32 (l[k]).toNat=r
  have half:∀(r:BitVec 32),jK .u32 (bc .u32 (r.toNat:Int) 4) ((kX.getD (r.toNat%16) 0#32).toNat:Int)=((lg r).toNat:Int):=by
   intro r
   have h1:bc .u32 (r.toNat:Int) 4=((r>>>4).toNat:Int):=by
    rw[show (4:Int)=((4:Nat):Int) from rfl,xJ r 4 (by decide),BitVec.toNat_ushiftRight,Nat.shiftRight_eq_div_pow]
   rw[h1,xq,<-EM]
  rw[BD]
  refine⟨⟨by omega,by omega⟩,?_⟩
  refine vY hg (i:=r.toNat%16) (RD _ (by decide)) ?_ (by rw[KI,Ld,bt];rfl)
  rw[half,BD]
  refine⟨⟨by omega,by omega⟩,?_⟩
  refine vY hg (i:=(lg r).toNat%16) (RD _ (by decide)) ?_ (by rw[KI,Ld,bt];rfl)
  rw[half]
  refine hnext hlt _ _ ⟨rfl,?_⟩
  have hs:=aK k (by omega)
  rw[hs,KB hlt,Ap]
  unfold Eo
  rw[hr]
 ·have hge:k=l.length:=by rw[hn] at hc;simp at hc;omega
  rw[hge,KV (Kl _)]
  have e:jK .u32 (4294967295:Int) ((vI l).toNat:Int)=((jL l).toNat:Int):=by
   rw[show (4294967295:Int)=((Rl 32).toNat:Int) from rfl,xq]
   congr 2
  rw[e];exact hK
theorem AZ {P:Program}{dT sT ty elem t:TypeId}{H:aa}{b o dl dc:Nat}{x:Sl}{cur:Array Value}{cs:List Value}{K:Int->aa->Prop}(hu:P.underlying dT=some (.slice elem))(hs:(P.info? elem).map (·.size)=some 1)
  (h:ag H b t cur) (hx:Reads H x.a cs) (hn:x.n=cs.length) (hle:x.n<=dl) (hfit:o+cs.length<=cur.size) (h1:∀v∈cs,v.oneCell'=true)
  (hK:∀H',ag H' b t (cur.toList.take o++cs++cur.toList.drop (o+cs.length)).toArray->Mod (λk=>k=b) H H'->H'.size=H.size->K (cs.length:Int) H'):
  bo (af .i64) P (Li #[dT,sT] ty #[.slice (some ⟨b,o,none⟩) dl dc,x.v]) H K:=by
 intro w hw
 subst hw
 obtain⟨xa,xn,xc⟩:=x
 simp only[Sl.v] at*
 by_cases hz:cs=[]
 ·subst hz
  have hx0:xn=0:=hn
  subst hx0
  have hr:=run_copy_none (P:=P) w dT sT ty elem (some ⟨b,o,none⟩) xa dl dc 0 xc hu hs (by simp)
  refine⟨_,w,hr,⟨0,rfl,?_⟩,.refl w⟩
  refine hK w.heap ?_ (.refl _ _) rfl
  have e:(cur.toList.take o++[]++cur.toList.drop (o+([]:List Value).length)).toArray=cur:=by simp
  rw[e];exact h
 ·have hpos:0<cs.length:=List.length_pos_iff.2 hz
  obtain⟨ad,rfl,_⟩:=hx.at hpos
  have hsrc:∀j v,cs[j]?=some v->w.cell? (ad.add j)=some v:=λj v hv=>by
   obtain⟨ad',e,hc⟩:=hx j v hv
   cases e;exact hc
  have hr:=run_copy_row (P:=P) w dT sT ty elem b o dl dc ad xn xc cur t cs hu hs h (by rw[<-hn];exact(Nat.min_eq_left hle).symm) hsrc hfit h1
  refine⟨_,_,hr,⟨(cs.length:Int),rfl,hK _ (setRow_heap w b cur _ t _ h) ⟨by simp[N3],λk _ hk=>setRow_other w b k _ hk⟩ (by simp[N3])⟩,(.of_le rfl (Kl _))⟩
abbrev lu (H:aa)(b:Nat)(t:TypeId)(l:List UInt8):Prop:=ag H b t (gJ l).toArray
theorem lu.st {H:aa}{b:Nat}{t:TypeId}{l:List UInt8}{K:aa->Prop}(h:lu H b t l){i:Nat}{x:UInt8}(hi:i<l.length)(hK:∀H',lu H' b t (l.set i x)->Mod (λk=>k=b) H H'->H'.size=H.size->K H'):
  Go.Proofs.YtkehfflpbpdokaaGreatDoor.st H (Addr.add ⟨b,0,none⟩ i) (.int .u8 (x.toNat:Int)) K:=by
 refine ag.st h (i:=i) (by simpa[gJ] using hi) rfl λH' r m s=>hK H' ?_ m s
 have e:((gJ l).toArray.setIfInBounds i (.int .u8 (x.toNat:Int)))=(gJ (l.set i x)).toArray:=by
  apply Array.toList_inj.1
  simp[gJ]
 rw[e] at r;exact r
theorem lu.Iy {H:aa}{b:Nat}{t:TypeId}{l:List UInt8}(h:lu H b t l){o n c:Nat}(hn:o+n<=l.length):cH H (Sl.mk (some ⟨b,o,none⟩) n c) ((l.drop o).take n):=by
 refine⟨by simp[dz];omega,λi v hv=>⟨_,rfl,?_⟩⟩
 rw[iT] at hv
 rw[add_lit]
 refine ct h ?_
 have hi:i<n:=by have:=(List.getElem?_eq_some_iff.1 hv).1;simp[gJ] at this;omega
 simp only[gJ,KC,Lh,if_pos hi,List.getElem?_drop] at hv
 simp only[gJ,List.getElem?_toArray,KC]
 exact hv
theorem re {α:Type}{A B:List α}{k:Nat}{x:α}(hk:k<A.length)(hB:k<B.length)(hx:A[k]?=some x):(A.take k++B.drop k).set k x=A.take (k+1)++B.drop (k+1):=by
 have hl:(A.take k).length=k:=by simp;omega
 rw[List.set_append_right _ _ (by omega),hl,Nat.sub_self]
 have e:B.drop k=B[k]::B.drop (k+1):=Mp hB
 rw[e,OK,KB hk]
 have:A[k]=x:=by rw[Kg hk] at hx;exact Kq hx
 rw[this];simp
theorem EO:Kf.underlying iy=some (.slice kO):=by kernel_rfl
theorem Ho:(Kf.info? kO).map (·.size)=some 1:=by kernel_rfl
theorem GN:zc Kf Gn=(gJ (KG 512 0)).toArray:=by kernel_rfl
theorem GH:KG 512 (0:UInt8)=0::0::0::0::0::0::0::0::KG 504 0:=rfl
set_option maxRecDepth 20000 in
theorem EH {kind:UInt8}{s:Sl}{l:List UInt8}{H:aa}{K:Sl×Int->aa->Prop}(hg:Gl H)(hb:cH H s l)(hlen:l.length<=504)
  (hK:∀s' H',cw EB kO H' s' (bQ kind l)->Ext H H'->(∀b,ai s' b->H.size<=b)->K (s',0) H'):Fx.sp (kind.toNat:Int) s H K:=by
 refine Fx.of ?_
 unfold Fx.vc
 have hn:=hb.n
 refine ax (by simp;omega) ?_
 rw[GN]
 refine ar λH1 s1 r1 e1=>?_
 rw[GH] at r1
 have b1:cH H1 s l:=hb.aA λad _ hl=>e1.same _ hl id
 refine⟨⟨by decide,by decide⟩,?_⟩
 have v4:KH.wrap (s.n:Int)=((Ky l.length).toNat:Int):=by rw[hn,jH]
 have v5:KH.wrap (bc .i64 (s.n:Int) 8)=((Ky (l.length/256)).toNat:Int):=by
  have:bc .i64 (s.n:Int) 8=((l.length/256:Nat):Int):=by
   unfold bc
   rw[hn,show (min (8:Int).toNat Ke.bits)=8 from rfl,M4 _ (Rn (by decide))]
   rfl
  rw[this,jH]
 rw[v4]
 refine lu.st (i:=4) r1 (by simp) λH2 r2 m2 z2=>?_
 refine⟨⟨by decide,by decide⟩,?_⟩
 rw[v5]
 refine lu.st (i:=5) r2 (by simp) λH3 r3 m3 z3=>?_
 refine⟨⟨by decide,by decide⟩,?_⟩
 refine lu.st (i:=6) r3 (by simp) λH4 r4 m4 z4=>?_
 refine⟨⟨by decide,by decide⟩,?_⟩
 refine lu.st (i:=7) (x:=157) r4 (by simp) λH5 r5 m5 z5=>?_
 refine⟨⟨by decide,by decide⟩,?_⟩
 have m15:Mod (λb=>b=H.size) H1 H5:=((m2.trans m3).trans m4).trans m5
 have m05:Ext H H5:=⟨by have:=e1.size;have:=m15.size;omega,λb hb _=>(m15.same b (by omega) (by omega)).trans (e1.same b hb id)⟩
 have b5:cH H5 s l:=hb.aA λad _ hl=>m05.same _ hl id
 have a8:bw (some ⟨H.size,0,none⟩) 512 ((8:Int).toNat) 1=some ⟨H.size,8,none⟩:=rfl
 rw[a8]
 refine AZ (t:=Gn) EO Ho r5 b5.cells (by rw[hn];simp[gJ]) (by rw[hn];show _<=504;omega) (by simp[gJ];omega) (by
  intro v hv
  obtain⟨x,_,rfl⟩:=List.mem_map.1 hv;rfl) λH6 r6 m6 z6=>?_
 have L6:(0::0::0::0::dZ kind l:List UInt8)=[0,0,0,0]++dZ kind l:=rfl
 have r6':lu H6 H.size Gn ([0,0,0,0]++dZ kind l):=by
  have e:(((gJ (((((0::0::0::0::0::0::0::0::KG 504 0:List UInt8).set 4 (Ky l.length)).set 5 (Ky (l.length/256))).set 6 kind).set 7 157)).toArray.toList.take 8++gJ l)++(gJ (((((0::0::0::0::0::0::0::0::KG 504 0:List UInt8).set 4 (Ky l.length)).set 5 (Ky (l.length/256))).set 6 kind).set 7 157)).toArray.toList.drop (8+(gJ l).length)).toArray=(gJ ([0,0,0,0]++dZ kind l)).toArray:=by
   congr 1
   simp only[List.set_cons_succ,OK,gJ,List.map_cons,List.take_succ_cons,List.take_zero,List.map_append,dZ,List.length_map,List.map_replicate]
   rw[show 8+l.length=l.length+8 from Nat.add_comm _ _]
   simp only[List.drop_succ_cons,List.drop_replicate]
   simp
  rw[e] at r6;exact r6
 have m16:Mod (λb=>b=H.size) H1 H6:=m15.trans m6
 have m06:Ext H H6:=⟨by have:=e1.size;have:=m16.size;omega,λb hb _=>(m16.same b (by omega) (by omega)).trans (e1.same b hb id)⟩
 refine⟨⟨by decide,by decide⟩,?_⟩
 have a4:bw (some ⟨H.size,0,none⟩) 512 ((4:Int).toNat) 1=some ⟨H.size,4,none⟩:=rfl
 rw[a4]
 have hbl:=l9 (kind:=kind) hlen
 have by6:=lu.Iy r6' (o:=4) (n:=508) (c:=508) (by simp[hbl])
 have ed:(([0,0,0,0]++dZ kind l:List UInt8).drop 4).take 508=dZ kind l:=by
  show (dZ kind l).take 508=_
  rw[KV (by omega)]
 rw[ed] at by6
 refine BM (hg.mod m06 id) by6 (by omega) ?_
 refine av 4 (λk x H7=>x=(k:Int)/\lu H7 H.size Gn ((qW (jL (dZ kind l))).take k++([0,0,0,0]++dZ kind l).drop k)/\Mod (λb=>b=H.size) H6 H7) ⟨rfl,r6',.refl _ _⟩ ?_
 rintro k _ H7 next hk ⟨rfl,r7,m7⟩ hnext
 refine ak (λhc=>?_) (λhc=>?_)
 ·have hk4:k<4:=by simp at hc;omega
  have hw:Ke.wrap ((8:Int)*(k:Int))=((8*k:Nat):Int):=by rw[wrap64 (by omega) (by omega)];omega
  rw[hw]
  refine⟨by omega,⟨by omega,by omega⟩,?_⟩
  have hv:(qW (jL (dZ kind l)))[k]?=some (Ky ((jL (dZ kind l)).toNat/2^(8*k))):=by
   have:k=0\/k=1\/k=2\/k=3:=by omega
   rcases this with rfl|rfl|rfl|rfl<;>simp[qW]
  rw[xJ _ (8*k) (by omega),jH,KI,Ld]
  refine lu.st (i:=k) r7 (by simp[qW,hbl];omega) λH8 r8 m8 z8=>?_
  rw[re (by simp[qW];omega) (by simp[hbl];omega) hv] at r8
  exact hnext hk4 _ _ ⟨aK k (by omega),r8,m7.trans m8⟩
 ·have hk4:k=4:=by simp at hc;omega
  subst hk4
  have r7':lu H7 H.size Gn (bQ kind l):=by
   have e:(qW (jL (dZ kind l))).take 4++([0,0,0,0]++dZ kind l:List UInt8).drop 4=bQ kind l:=rfl
   rw[e] at r7;exact r7
  have hsl:=gx (kind:=kind) hlen
  have by7:=lu.Iy r7' (o:=0) (n:=512) (c:=512) (by omega)
  rw[List.drop_zero,KV (by omega)] at by7
  have a0:bw (some ⟨H.size,0,none⟩) 512 0 1=some ⟨H.size,0,none⟩:=rfl
  rw[a0]
  refine eU by7 (by omega) λs' H' o' m' f'=>?_
  have m17:Mod (λb=>b=H.size) H1 H7:=m16.trans m7
  have z1:=e1.size;have z7:=m17.size;have z':=m'.size
  refine hK s' H' o' ⟨by omega,λb hb _=>(m'.same b (by omega) id).trans ((m17.same b (by omega) (by omega)).trans (e1.same b hb id))⟩ (λb hb=>?_)
  have:=f' b hb;omega
theorem cH.drop {H:aa}{s:Sl}{l:List UInt8}(h:cH H s l)(hc:s.n<=s.c)(i:Nat):cH H (Sl.mk (bw s.a s.c i 1) (s.n - i) (s.c - i)) (l.drop i):=by
 have hn:=h.n
 refine⟨by simp[dz,hn],?_⟩
 have:=qN.drop (E:=EB) (i:=i) (c:=s.c) (a:=s.a) (l:=l) (by unfold qN;rw[tX];exact h.cells) (by omega)
 unfold qN at this
 rw[tX] at this
 rw[iT]
 exact this
theorem cH.take {H:aa}{s:Sl}{l:List UInt8}(h:cH H s l)(i:Nat)(hi:i<=s.n)(c:Nat):cH H (Sl.mk s.a i c) (l.take i):=by
 have hn:=h.n
 refine⟨by simp[dz];omega,?_⟩
 rw[iT]
 have:gJ (l.take i)=(gJ l).take i:=by simp[gJ]
 rw[this]
 exact h.cells.take i
theorem zO {s:Sl}{l:List UInt8}{H:aa}{K:Int->aa->Prop}(hb:cH H s l)(hl:l.length<4611686018427387904)(hK:∀r:Int,(decide (r>=0))=l.any (λc=>c !=0)->K r H):Fk.sp s H K:=by
 refine Fk.of ?_
 unfold Fk.vc
 have hn:=hb.n
 refine av l.length (λk x H1=>H1=H/\x=(k:Int)/\(l.take k).any (λc=>c !=0)=false) ⟨rfl,rfl,by simp⟩ ?_
 rintro k _ _ next hk ⟨rfl,rfl,hno⟩ hnext
 refine ak (λhc=>?_) (λhc=>?_)
 ·have hlt:k<l.length:=by rw[hn] at hc;simpa using hc
  refine kJ hb hlt rfl λad ha=>?_
  refine C7.of ?_
  unfold C7.vc
  have ex:l=l.take k++l[k]::l.drop (k+1):=by
   rw[<-Mp hlt,List.take_append_drop]
  refine ak (λhz=>?_) (λhz=>?_)
  ·have hne:l[k]≠0:=by
    intro e;rw[e] at hz;simp at hz
   refine hK _ ?_
   have e2:l.any (λc=>c !=0)=true:=MA.2 ⟨l[k],List.getElem_mem hlt,by simpa using hne⟩
   rw[e2];simp
  ·have he:l[k]=0:=by
    have:((l[k]).toNat:Int)=0:=by simpa using hz
    exact N5.1 (by rw[UInt8.toNat_zero];omega)
   refine hnext hlt _ _ ⟨rfl,aK k (by omega),?_⟩
   rw[KB hlt,List.any_append,hno,he];rfl
 ·have hge:k=l.length:=by rw[hn] at hc;simp at hc;omega
  rw[hge,KV (Kl _)] at hno
  refine hK _ ?_
  rw[hno];rfl
theorem tM {s:Sl}{l:List UInt8}{H:aa}{K:Bool->aa->Prop}(hb:cH H s l)(hl:l.length<4611686018427387904)(hK:K (l.any (λc=>c !=0)) H):FC.sp s H K:=by
 refine FC.of ?_
 unfold FC.vc
 refine zO hb hl λr hr=>?_
 rw[hr];exact hK
theorem EN {a b:Nat}(ha:a<256)(hb:b<256):kM .i64 (Ke.wrap (a:Int)) (dx .i64 (Ke.wrap (b:Int)) 8)=((a+256*b:Nat):Int):=by
 rw[wrap64 (by omega) (by omega),wrap64 (x:=(b:Int)) (by omega) (by omega)]
 have e1:dx .i64 (b:Int) 8=((b*256:Nat):Int):=by
  unfold dx
  rw[show (min (8:Int).toNat Ke.bits)=8 from rfl,wrap64 (by omega) (by omega)]
  omega
 rw[e1]
 unfold kM
 show Ke.wrap ((Mc 64 (a:Int)|||Mc 64 ((b*256:Nat):Int)).toNat:Int)=_
 rw[MS,MS,BitVec.toNat_or,Mm,Mm,NO (by omega),NO (by omega)]
 have e2:a|||b*256=a+256*b:=by
  have:=Nat.shiftLeft_add_eq_or_of_lt (i:=8) (b:=a) (by omega) b
  rw[Nat.shiftLeft_eq] at this
  rw[Nat.or_comm,show b*256=b*2^8 from rfl,<-this];omega
 rw[e2]
 exact wrap64 (by omega) (by omega)
theorem jB {l:List UInt8}(h:l.length=512)(hn:¬(l.take 4=qW (jL (l.drop 4))/\cZ l<=504/\l.getD 7 0=157/\∀c∈l.drop (8+cZ l),c=0)):fk l=none:=by
 unfold fk
 rw[if_neg (λq=>hn ((sL h).1 q))]
theorem xx {l:List UInt8}(h:l.length=512)(hn:l.take 4=qW (jL (l.drop 4))/\cZ l<=504/\l.getD 7 0=157/\∀c∈l.drop (8+cZ l),c=0):fk l=some (l.getD 6 0,(l.drop 8).take (cZ l)):=by
 unfold fk
 rw[if_pos ((sL h).2 hn)]
set_option maxRecDepth 20000 in
theorem DZ {s:Sl}{l:List UInt8}{H:aa}{K:(Int×Sl×Int)->aa->Prop}(hg:Gl H)(hb:cH H s l)(hl:l.length<4611686018427387904)(hcap:s.n<=s.c)
  (hA:l.length≠512->K (0,Sl.mk none 0 0,2) H) (hT:l.length=512->fk l=none->K (0,Sl.mk none 0 0,20) H)
  (hK:∀k b s' H',l.length=512->fk l=some (k,b)->b.length<=504->cw EB kO H' s' b->Ext H H'->(∀b,ai s' b->H.size<=b)->K ((k.toNat:Int),s',0) H'):Fz.sp s H K:=by
 refine Fz.of ?_
 unfold Fz.vc
 have hn:=hb.n
 refine ak (λhc=>hA (by rw[hn] at hc;simp at hc;omega)) (λhc=>?_)
 have h512:l.length=512:=by rw[hn] at hc;simp at hc;omega
 refine⟨⟨by decide,by omega⟩,?_⟩
 have d4:=hb.drop hcap 4
 refine BM hg d4 (by simp;omega) ?_
 refine av 4 (λk x H1=>H=H1/\x=(k:Int)/\l.take k=(qW (jL (l.drop 4))).take k) ⟨rfl,rfl,rfl⟩ ?_
 rintro k _ _ next hk ⟨rfl,rfl,heq⟩ hnext
 refine ak (λhc=>?_) (λhc=>?_)
 ·have hk4:k<4:=by simp at hc;omega
  have hlt:k<l.length:=by omega
  refine kJ hb hlt rfl λad ha=>?_
  have hw:Ke.wrap ((8:Int)*(k:Int))=((8*k:Nat):Int):=by rw[wrap64 (by omega) (by omega)];omega
  rw[hw]
  refine⟨by omega,?_⟩
  rw[xJ _ (8*k) (by omega),jH]
  have hv:(qW (jL (l.drop 4)))[k]?=some (Ky ((jL (l.drop 4)).toNat/2^(8*k))):=by
   have:k=0\/k=1\/k=2\/k=3:=by omega
   rcases this with rfl|rfl|rfl|rfl<;>simp[qW]
  refine ak (λhz=>?_) (λhz=>?_)
  ·refine hT h512 (jB h512 λq=>?_)
   have e1:(l.take 4)[k]?=some l[k]:=by rw[Lh,if_pos hk4,Kg hlt]
   rw[q.1,hv] at e1
   rw[Kq e1] at hz
   simp at hz
  ·have e1:l[k]=Ky ((jL (l.drop 4)).toNat/2^(8*k)):=by
    refine N5.1 ?_
    have:((l[k]).toNat:Int)=((Ky ((jL (l.drop 4)).toNat/2^(8*k))).toNat:Int):=by simpa using hz
    omega
   refine hnext hk4 _ _ ⟨rfl,aK k (by omega),?_⟩
   have hk4':k<(qW (jL (l.drop 4))).length:=by simp[qW];omega
   rw[KB hlt,KB hk4',heq]
   rw[Kg hk4'] at hv
   rw[Kq hv,e1]
 ·have hk4:k=4:=by simp at hc;omega
  subst hk4
  have hsum:l.take 4=qW (jL (l.drop 4)):=by
   rw[heq];exact KV (by simp[qW])
  refine kJ (i:=4) (z:=4) hb (by omega) rfl λ_ _=>?_
  refine kJ (i:=5) (z:=5) hb (by omega) rfl λ_ _=>?_
  have hsz:kM .i64 (Ke.wrap ((l[4]).toNat:Int)) (dx .i64 (Ke.wrap ((l[5]).toNat:Int)) 8)=(cZ l:Int):=by
   rw[EN (l[4]).toNat_lt (l[5]).toNat_lt]
   unfold cZ
   simp[KQ,Kg (show 4<l.length by omega),Kg (show 5<l.length by omega)]
  rw[hsz]
  refine ak (λhz=>hT h512 (jB h512 λq=>?_)) (λhz=>?_)
  ·have:=q.2.1;simp at hz;omega
  have hle:cZ l<=504:=by simp at hz;omega
  refine kJ (i:=7) (z:=7) hb (by omega) rfl λ_ _=>?_
  have h7:l.getD 7 0=l[7]:=by simp[KQ,Kg (show 7<l.length by omega)]
  refine ak (λhz=>hT h512 (jB h512 λq=>?_)) (λhz=>?_)
  ·have:=q.2.2.1
   rw[h7] at this
   rw[this] at hz;simp at hz
  have h7':l.getD 7 0=157:=by
   rw[h7]
   refine N5.1 ?_
   have:((l[7]).toNat:Int)=157:=by simpa using hz
   rw[show (157:UInt8).toNat=157 from rfl];omega
  have hw8:Ke.wrap ((8:Int)+(cZ l:Int))=((8+cZ l:Nat):Int):=by rw[wrap64 (by omega) (by omega)];omega
  rw[hw8,KI]
  refine⟨⟨by omega,by omega⟩,?_⟩
  refine tM (hb.drop hcap (8+cZ l)) (by simp;omega) ?_
  refine ak (λhz=>hT h512 (jB h512 λq=>?_)) (λhz=>?_)
  ·obtain⟨c,hc1,hc2⟩:=MA.1 hz
   rw[q.2.2.2 c hc1] at hc2;simp at hc2
  have hz':∀c∈l.drop (8+cZ l),c=0:=by
   intro c hc1
   have:=List.any_eq_false.1 hz c hc1
   simpa using this
  have hop:=xx h512 ⟨hsum,hle,h7',hz'⟩
  refine⟨λH'=>Ext H H',.refl _ _,?_⟩
  have hlt6:6<l.length:=by omega
  have hb':∀H',Ext H H'->cH H' s l:=λH' e=>hb.aA λad _ hl=>e.same _ hl id
  obtain⟨ad,ha,_⟩:=hb.addr (by omega)
  refine cg ad ha ⟨⟨by decide,by omega⟩,((l[6]).toNat:Int),λH' e=>?_,?_⟩
  ·have hc6:=(hb' H' e).at (i:=6) (by simp[dz];omega)
   obtain⟨ad',ha',hc6⟩:=hc6
   rw[ha] at ha';cases ha'
   rw[show (6:Int).toNat*1=6 from rfl,hc6]
   simp[dz]
  ·refine⟨⟨by omega,by omega⟩,⟨by decide,by omega⟩,?_⟩
   have hd8:=(hb.drop hcap 8).take (cZ l) (by show _<=s.n - 8;omega) (s.c - 8)
   have e8:(8+cZ l) - (8:Int).toNat=cZ l:=by show 8+cZ l - 8=_;omega
   rw[e8]
   refine eU hd8 (by simp;omega) λs' H' o' m' f'=>⟨m',?_⟩
   have h6:l.getD 6 0=l[6]:=by simp[KQ,Kg hlt6]
   rw[h6] at hop
   exact hK l[6] _ s' H' h512 hop (by simp;omega) o' m' f'
end Go.Proofs.YtkehfflpbpdokaaGreatDoor
