/-
 Pages: the walk of their sum, of what seals them, of what opens them.
-/
import Derived.Test.YtacfhncgbgijhaaGreatDkg
import Derived.Test.YtacfhncgbgijhaaGreatPga
import Derived.Laws.CopyRow
import Derived.Laws.IdiomCopy
namespace Go.Proofs.YtacfhncgbgijhaaGreat
theorem u9 (a:BitVec 32):BitVec.ofInt 32 (a.toNat:Int)=a:=by
 rw[BitVec.ofInt_natCast,BitVec.ofNat_toNat,BitVec.setWidth_eq]
theorem wrap32 {n:Nat} (h:n<4294967296):IntKind.u32.wrap (n:Int)=(n:Int):=by
 simp[IntKind.wrap,IntKind.bits,IntKind.signed];omega
theorem xS (n:Nat):IntKind.u8.wrap (n:Int)=((UInt8.ofNat n).toNat:Int):=by
 rw[UInt8.toNat_ofNat']
 simp[IntKind.wrap,IntKind.bits,IntKind.signed]
theorem zO (a b:BitVec 32):kx .u32 (a.toNat:Int) (b.toNat:Int)=((a^^^b).toNat:Int):=by
 unfold kx
 show IntKind.u32.wrap ((BitVec.ofInt 32 (a.toNat:Int)^^^BitVec.ofInt 32 (b.toNat:Int)).toNat:Int)=_
 rw[u9,u9]
 exact wrap32 (a^^^b).isLt
theorem EM (a:BitVec 32):xA .u32 (a.toNat:Int) 15=((a.toNat%16:Nat):Int):=by
 unfold xA
 show IntKind.u32.wrap ((BitVec.ofInt 32 (a.toNat:Int)&&&15#32).toNat:Int)=_
 rw[u9,JJ]
 rw[BitVec.toNat_ofNat]
 have:a.toNat%16%2^32=a.toNat%16:=by omega
 rw[this]
 exact wrap32 (by omega)
theorem yV (a:BitVec 32) (k:Nat) (hk:k≤32):jX .u32 (a.toNat:Int) (k:Int)=((a.toNat/2^k:Nat):Int):=by
 unfold jX
 have:min (k:Int).toNat IntKind.u32.bits=k:=by
  show min (k:Int).toNat 32=k
  omega
 rw[this,Int.fdiv_eq_ediv_of_nonneg _ (Int.pow_nonneg (by decide)),Int.natCast_ediv,Int.natCast_pow]
 rfl
def aY:Nat:=0
def Gl [Tab] (H:aa):Prop:=∀i,i<16→cQ H ⟨aY,i,none⟩=some (.int .u32 ((tc.getD i 0#32).toNat:Int))
theorem Gl.lt [Tab] {H:aa} (h:Gl H):aY<H.size:=jA (h 0 (by decide))
theorem Gl.aq [Tab] {H H':aa} (h:Gl H) (k:H'[aY]?=H[aY]?):Gl H':=fun i hi=>(gQ k).trans (h i hi)
theorem Gl.mod [Tab] {F:Nat→Prop} {H H':aa} (h:Gl H) (hm:Mod F H H') (hn:¬F aY):Gl H':=h.aq (hm.same _ h.lt hn)
theorem wR [Tab] {H:aa} (h:Gl H) {i:Nat} (hi:i<16) {K:Int→Prop} (hK:K ((tc.getD i 0#32).toNat:Int)) {a:Addr} (ha:a=⟨aY,i,none⟩):ld (ab .u32) H a K:=by
 subst ha
 exact⟨_,h i hi,hK⟩
def ya [Tab] (l:List UInt8):BitVec 32:=l.foldl GR (BitVec.allOnes 32)
theorem BF [Tab] (l:List UInt8) (c:UInt8):ya (l++[c])=GR (ya l) c:=by simp[ya]
theorem toNat_ofNat32 (c:UInt8):(BitVec.ofNat 32 c.toNat).toNat=c.toNat:=by
 rw[BitVec.toNat_ofNat]
 have:=c.toNat_lt
 omega
theorem IC {l:List UInt8} {i:Nat} (h:i<l.length):(ie l).getD i 0=((l[i]).toNat:Int):=by
 simp[ie,List.getD,h]
theorem jZ {l:List UInt8} {H:aa} {s:Sl} (h:eF H s l) {i:Nat} (hi:i<l.length) {z:Int} (hz:z=(i:Int)) {K:Addr→Int→Prop} (hK:∀ad,s.a=some ad→K ad ((l[i]).toNat:Int)):
  ae s.a fun a=>(0≤z∧z<(s.n:Int))∧ld (ab .u8) H (a.add (z.toNat*1)) fun x=>K a x:=
 fN (l:=ie l) h hz (by simpa[ie] using hi) (fun ad ha=>by rw[IC hi];exact hK ad ha)
theorem C7 [Tab] {s:Sl} {l:List UInt8} {H:aa} {K:Int→aa→Prop} (hg:Gl H) (hb:eF H s l) (hl:l.length<4611686018427387904) (hK:K ((ky l).toNat:Int) H):Gu.sp s H K:=by
 refine Gu.of ?_
 unfold Gu.vc
 have hn:=hb.n
 refine aB l.length (fun k x H1=>H1=H∧x=(((ya (l.take k)).toNat:Int),(k:Int))) ⟨rfl,rfl⟩ ?_
 rintro k _ _ next hk ⟨rfl,rfl⟩ hnext
 refine aj (fun hc=>?_) (fun hc=>?_)
 ·have hlt:k<l.length:=by rw[hn] at hc;simpa using hc
  refine jZ hb hlt rfl fun ad ha=>?_
  have hc8:(l[k]).toNat<256:=(l[k]).toNat_lt
  have e0:kx .u32 ((ya (l.take k)).toNat:Int) (IntKind.u32.wrap (((l[k]).toNat:Nat):Int))=((ya (l.take k)^^^BitVec.ofNat 32 (l[k]).toNat).toNat:Int):=by
   rw[wrap32 (by omega),←toNat_ofNat32 l[k],zO,toNat_ofNat32]
  simp only[e0]
  generalize hr:ya (l.take k)^^^BitVec.ofNat 32 (l[k]).toNat=r
  have half:∀(r:BitVec 32),kx .u32 (jX .u32 (r.toNat:Int) 4) ((tc.getD (r.toNat%16) 0#32).toNat:Int)=((DX r).toNat:Int):=by
   intro r
   have h1:jX .u32 (r.toNat:Int) 4=((r>>>4).toNat:Int):=by
    rw[show (4:Int)=((4:Nat):Int) from rfl,yV r 4 (by decide),BitVec.toNat_ushiftRight,Nat.shiftRight_eq_div_pow]
   rw[h1,zO,←Gn]
  rw[EM]
  refine⟨⟨by omega,by omega⟩,?_⟩
  refine wR hg (i:=r.toNat%16) (Nat.mod_lt _ (by decide)) ?_ (by rw[Int.toNat_natCast,Nat.mul_one,bH];rfl)
  rw[half,EM]
  refine⟨⟨by omega,by omega⟩,?_⟩
  refine wR hg (i:=(DX r).toNat%16) (Nat.mod_lt _ (by decide)) ?_ (by rw[Int.toNat_natCast,Nat.mul_one,bH];rfl)
  rw[half]
  refine hnext hlt _ _ ⟨rfl,?_⟩
  have hs:=aP k (by omega)
  rw[hs,List.take_succ_eq_append_getElem hlt,BF]
  unfold GR
  rw[hr]
 ·have hge:k=l.length:=by rw[hn] at hc;simp at hc;omega
  rw[hge,List.take_of_length_le (Nat.le_refl _)]
  have e:kx .u32 (4294967295:Int) ((ya l).toNat:Int)=((ky l).toNat:Int):=by
   rw[show (4294967295:Int)=((BitVec.allOnes 32).toNat:Int) from rfl,zO]
   congr 2
  rw[e];exact hK
theorem Fa {P:Program} {dT sT ty elem t:TypeId} {H:aa} {b o dl dc:Nat} {x:Sl} {cur:Array Value} {cs:List Value} {K:Int→aa→Prop} (hu:P.underlying dT=some (.slice elem)) (hs:(P.info? elem).map (·.size)=some 1)
  (h:ag H b t cur) (hx:Reads H x.a cs) (hn:x.n=cs.length) (hle:x.n≤dl) (hfit:o+cs.length≤cur.size) (h1:∀v∈cs,v.oneCell'=true)
  (hK:∀H',ag H' b t (cur.toList.take o++cs++cur.toList.drop (o+cs.length)).toArray→Mod (fun k=>k=b) H H'→H'.size=H.size→K (cs.length:Int) H'):
  bS (ab .i64) P (Builtin.copy_ #[dT,sT] ty #[.slice (some ⟨b,o,none⟩) dl dc,x.v]) H K:=by
 intro w hw
 subst hw
 obtain⟨xa,xn,xc⟩:=x
 simp only[Sl.v] at*
 by_cases hz:cs=[]
 ·subst hz
  have hx0:xn=0:=hn
  subst hx0
  have hr:=run_copy_none (P:=P) w dT sT ty elem (some ⟨b,o,none⟩) xa dl dc 0 xc hu hs (by simp)
  refine⟨_,w,hr,⟨0,rfl,?_⟩,.refl w⟩
  refine hK w.heap ?_ (.refl _ _) rfl
  have e:(cur.toList.take o++[]++cur.toList.drop (o+([]:List Value).length)).toArray=cur:=by simp
  rw[e];exact h
 ·have hpos:0<cs.length:=List.length_pos_iff.2 hz
  obtain⟨ad,rfl,_⟩:=hx.at hpos
  have hsrc:∀j v,cs[j]?=some v→w.cell? (ad.add j)=some v:=fun j v hv=>by
   obtain⟨ad',e,hc⟩:=hx j v hv
   cases e;exact hc
  have hr:=run_copy_row (P:=P) w dT sT ty elem b o dl dc ad xn xc cur t cs hu hs h (by rw[←hn];exact(Nat.min_eq_left hle).symm) hsrc hfit h1
  refine⟨_,_,hr,⟨(cs.length:Int),rfl,hK _ (setRow_heap w b cur _ t _ h) ⟨by simp[World.setRow],fun k _ hk=>setRow_other w b k _ hk⟩ (by simp[World.setRow])⟩,(.of_le rfl (Nat.le_refl _))⟩
abbrev l9 (H:aa) (b:Nat) (t:TypeId) (l:List UInt8):Prop:=ag H b t (iG l).toArray
theorem l9.st {H:aa} {b:Nat} {t:TypeId} {l:List UInt8} {K:aa→Prop} (h:l9 H b t l) {i:Nat} {x:UInt8} (hi:i<l.length) (hK:∀H',l9 H' b t (l.set i x)→Mod (fun k=>k=b) H H'→H'.size=H.size→K H'):
  Go.Proofs.YtacfhncgbgijhaaGreat.st H (Addr.add ⟨b,0,none⟩ i) (.int .u8 (x.toNat:Int)) K:=by
 refine ag.st h (i:=i) (by simpa[iG] using hi) rfl fun H' r m s=>hK H' ?_ m s
 have e:((iG l).toArray.setIfInBounds i (.int .u8 (x.toNat:Int)))=(iG (l.set i x)).toArray:=by
  apply Array.toList_inj.1
  simp[iG]
 rw[e] at r;exact r
theorem l9.J0 {H:aa} {b:Nat} {t:TypeId} {l:List UInt8} (h:l9 H b t l) {o n c:Nat} (hn:o+n≤l.length):eF H (Sl.mk (some ⟨b,o,none⟩) n c) ((l.drop o).take n):=by
 refine⟨by simp[ie];omega,fun i v hv=>⟨_,rfl,?_⟩⟩
 rw[iQ] at hv
 rw[add_lit]
 refine di h ?_
 have hi:i<n:=by have:=(List.getElem?_eq_some_iff.1 hv).1;simp[iG] at this;omega
 simp only[iG,List.getElem?_map,List.getElem?_take,if_pos hi,List.getElem?_drop] at hv
 simp only[iG,List.getElem?_toArray,List.getElem?_map]
 exact hv
theorem tn {α:Type} {A B:List α} {k:Nat} {x:α} (hk:k<A.length) (hB:k<B.length) (hx:A[k]?=some x):(A.take k++B.drop k).set k x=A.take (k+1)++B.drop (k+1):=by
 have hl:(A.take k).length=k:=by simp;omega
 rw[List.set_append_right _ _ (by omega),hl,Nat.sub_self]
 have e:B.drop k=B[k]::B.drop (k+1):=List.drop_eq_getElem_cons hB
 rw[e,List.set_cons_zero,List.take_succ_eq_append_getElem hk]
 have:A[k]=x:=by rw[List.getElem?_eq_getElem hk] at hx;exact Option.some.inj hx
 rw[this];simp
theorem Ge:Tryz.prog.underlying jP=some (.slice lF):=by kernel_rfl
theorem I0:(Tryz.prog.info? lF).map (·.size)=some 1:=by kernel_rfl
theorem Jg:zc Tryz.prog II=(iG (List.replicate 512 0)).toArray:=by kernel_rfl
theorem IJ:List.replicate 512 (0:UInt8)=0::0::0::0::0::0::0::0::List.replicate 504 0:=rfl
set_option maxRecDepth 20000 in
theorem Ht [Tab] {kind:UInt8} {s:Sl} {l:List UInt8} {H:aa} {K:Sl×Int→aa→Prop} (hg:Gl H) (hb:eF H s l) (hlen:l.length≤504)
  (hK:∀s' H',bc EB lF H' s' (cc kind l)→Ext H H'→(∀b,ai s' b→H.size≤b)→K (s',0) H'):Ip.sp (kind.toNat:Int) s H K:=by
 refine Ip.of ?_
 unfold Ip.vc
 have hn:=hb.n
 refine aA (by simp;omega) ?_
 rw[Jg]
 refine ak fun H1 s1 r1 e1=>?_
 rw[IJ] at r1
 have b1:eF H1 s l:=hb.aq fun ad _ hl=>e1.same _ hl id
 refine⟨⟨by decide,by decide⟩,?_⟩
 have v4:IntKind.u8.wrap (s.n:Int)=((UInt8.ofNat l.length).toNat:Int):=by rw[hn,xS]
 have v5:IntKind.u8.wrap (jX .i64 (s.n:Int) 8)=((UInt8.ofNat (l.length/256)).toNat:Int):=by
  have:jX .i64 (s.n:Int) 8=((l.length/256:Nat):Int):=by
   unfold jX
   rw[hn,show (min (8:Int).toNat IntKind.i64.bits)=8 from rfl,Int.fdiv_eq_ediv_of_nonneg _ (Int.pow_nonneg (by decide))]
   rfl
  rw[this,xS]
 rw[v4]
 refine l9.st (i:=4) r1 (by simp) fun H2 r2 m2 z2=>?_
 refine⟨⟨by decide,by decide⟩,?_⟩
 rw[v5]
 refine l9.st (i:=5) r2 (by simp) fun H3 r3 m3 z3=>?_
 refine⟨⟨by decide,by decide⟩,?_⟩
 refine l9.st (i:=6) r3 (by simp) fun H4 r4 m4 z4=>?_
 refine⟨⟨by decide,by decide⟩,?_⟩
 refine l9.st (i:=7) (x:=157) r4 (by simp) fun H5 r5 m5 z5=>?_
 refine⟨⟨by decide,by decide⟩,?_⟩
 have m15:Mod (fun b=>b=H.size) H1 H5:=((m2.trans m3).trans m4).trans m5
 have m05:Ext H H5:=⟨by have:=e1.size;have:=m15.size;omega,fun b hb _=>(m15.same b (by omega) (by omega)).trans (e1.same b hb id)⟩
 have b5:eF H5 s l:=hb.aq fun ad _ hl=>m05.same _ hl id
 have a8:dM (some ⟨H.size,0,none⟩) 512 ((8:Int).toNat) 1=some ⟨H.size,8,none⟩:=rfl
 rw[a8]
 refine Fa (t:=II) Ge I0 r5 b5.cells (by rw[hn];simp[iG]) (by rw[hn];show _≤504;omega) (by simp[iG];omega) (by
  intro v hv
  obtain⟨x,_,rfl⟩:=List.mem_map.1 hv;rfl) fun H6 r6 m6 z6=>?_
 have L6:(0::0::0::0::fk kind l:List UInt8)=[0,0,0,0]++fk kind l:=rfl
 have r6':l9 H6 H.size II ([0,0,0,0]++fk kind l):=by
  have e:(((iG (((((0::0::0::0::0::0::0::0::List.replicate 504 0:List UInt8).set 4 (UInt8.ofNat l.length)).set 5 (UInt8.ofNat (l.length/256))).set 6 kind).set 7 157)).toArray.toList.take 8++iG l)++(iG (((((0::0::0::0::0::0::0::0::List.replicate 504 0:List UInt8).set 4 (UInt8.ofNat l.length)).set 5 (UInt8.ofNat (l.length/256))).set 6 kind).set 7 157)).toArray.toList.drop (8+(iG l).length)).toArray=(iG ([0,0,0,0]++fk kind l)).toArray:=by
   congr 1
   simp only[List.set_cons_succ,List.set_cons_zero,iG,List.map_cons,List.take_succ_cons,List.take_zero,List.map_append,fk,List.length_map,List.map_replicate]
   rw[show 8+l.length=l.length+8 from Nat.add_comm _ _]
   simp only[List.drop_succ_cons,List.drop_replicate]
   simp
  rw[e] at r6;exact r6
 have m16:Mod (fun b=>b=H.size) H1 H6:=m15.trans m6
 have m06:Ext H H6:=⟨by have:=e1.size;have:=m16.size;omega,fun b hb _=>(m16.same b (by omega) (by omega)).trans (e1.same b hb id)⟩
 refine⟨⟨by decide,by decide⟩,?_⟩
 have a4:dM (some ⟨H.size,0,none⟩) 512 ((4:Int).toNat) 1=some ⟨H.size,4,none⟩:=rfl
 rw[a4]
 have hbl:=nY (kind:=kind) hlen
 have by6:=l9.J0 r6' (o:=4) (n:=508) (c:=508) (by simp[hbl])
 have ed:(([0,0,0,0]++fk kind l:List UInt8).drop 4).take 508=fk kind l:=by
  show (fk kind l).take 508=_
  rw[List.take_of_length_le (by omega)]
 rw[ed] at by6
 refine C7 (hg.mod m06 id) by6 (by omega) ?_
 refine aB 4 (fun k x H7=>x=(k:Int)∧l9 H7 H.size II ((tx (ky (fk kind l))).take k++([0,0,0,0]++fk kind l).drop k)∧Mod (fun b=>b=H.size) H6 H7) ⟨rfl,r6',.refl _ _⟩ ?_
 rintro k _ H7 next hk ⟨rfl,r7,m7⟩ hnext
 refine aj (fun hc=>?_) (fun hc=>?_)
 ·have hk4:k<4:=by simp at hc;omega
  have hw:IntKind.i64.wrap ((8:Int)*(k:Int))=((8*k:Nat):Int):=by rw[wrap64 (by omega) (by omega)];omega
  rw[hw]
  refine⟨by omega,⟨by omega,by omega⟩,?_⟩
  have hv:(tx (ky (fk kind l)))[k]?=some (UInt8.ofNat ((ky (fk kind l)).toNat/2^(8*k))):=by
   have:k=0∨k=1∨k=2∨k=3:=by omega
   rcases this with rfl|rfl|rfl|rfl<;>simp[tx]
  rw[yV _ (8*k) (by omega),xS,Int.toNat_natCast,Nat.mul_one]
  refine l9.st (i:=k) r7 (by simp[tx,hbl];omega) fun H8 r8 m8 z8=>?_
  rw[tn (by simp[tx];omega) (by simp[hbl];omega) hv] at r8
  exact hnext hk4 _ _ ⟨aP k (by omega),r8,m7.trans m8⟩
 ·have hk4:k=4:=by simp at hc;omega
  subst hk4
  have r7':l9 H7 H.size II (cc kind l):=by
   have e:(tx (ky (fk kind l))).take 4++([0,0,0,0]++fk kind l:List UInt8).drop 4=cc kind l:=rfl
   rw[e] at r7;exact r7
  have hsl:=jY (kind:=kind) hlen
  have by7:=l9.J0 r7' (o:=0) (n:=512) (c:=512) (by omega)
  rw[List.drop_zero,List.take_of_length_le (by omega)] at by7
  have a0:dM (some ⟨H.size,0,none⟩) 512 0 1=some ⟨H.size,0,none⟩:=rfl
  rw[a0]
  refine fK by7 (by omega) fun s' H' o' m' f'=>?_
  have m17:Mod (fun b=>b=H.size) H1 H7:=m16.trans m7
  have z1:=e1.size;have z7:=m17.size;have z':=m'.size
  refine hK s' H' o' ⟨by omega,fun b hb _=>(m'.same b (by omega) id).trans ((m17.same b (by omega) (by omega)).trans (e1.same b hb id))⟩ (fun b hb=>?_)
  have:=f' b hb;omega
theorem eF.drop {H:aa} {s:Sl} {l:List UInt8} (h:eF H s l) (hc:s.n≤s.c) (i:Nat):eF H (Sl.mk (dM s.a s.c i 1) (s.n - i) (s.c - i)) (l.drop i):=by
 have hn:=h.n
 refine⟨by simp[ie,hn],?_⟩
 have:=gJ.drop (E:=EB) (i:=i) (c:=s.c) (a:=s.a) (l:=l) (by unfold gJ;rw[pj];exact h.cells) (by omega)
 unfold gJ at this
 rw[pj] at this
 rw[iQ]
 exact this
theorem eF.take {H:aa} {s:Sl} {l:List UInt8} (h:eF H s l) (i:Nat) (hi:i≤s.n) (c:Nat):eF H (Sl.mk s.a i c) (l.take i):=by
 have hn:=h.n
 refine⟨by simp[ie];omega,?_⟩
 rw[iQ]
 have:iG (l.take i)=(iG l).take i:=by simp[iG]
 rw[this]
 exact h.cells.take i
theorem CB {s:Sl} {l:List UInt8} {H:aa} {K:Int→aa→Prop} (hb:eF H s l) (hl:l.length<4611686018427387904) (hK:∀r:Int,(decide (r≥0))=l.any (fun c=>c !=0)→K r H):It.sp s H K:=by
 refine It.of ?_
 unfold It.vc
 have hn:=hb.n
 refine aB l.length (fun k x H1=>H1=H∧x=(k:Int)∧(l.take k).any (fun c=>c !=0)=false) ⟨rfl,rfl,by simp⟩ ?_
 rintro k _ _ next hk ⟨rfl,rfl,hno⟩ hnext
 refine aj (fun hc=>?_) (fun hc=>?_)
 ·have hlt:k<l.length:=by rw[hn] at hc;simpa using hc
  refine jZ hb hlt rfl fun ad ha=>?_
  refine FD.of ?_
  unfold FD.vc
  have ex:l=l.take k++l[k]::l.drop (k+1):=by
   rw[←List.drop_eq_getElem_cons hlt,List.take_append_drop]
  refine aj (fun hz=>?_) (fun hz=>?_)
  ·have hne:l[k]≠0:=by
    intro e;rw[e] at hz;simp at hz
   refine hK _ ?_
   have e2:l.any (fun c=>c !=0)=true:=List.any_eq_true.2 ⟨l[k],List.getElem_mem hlt,by simpa using hne⟩
   rw[e2];simp
  ·have he:l[k]=0:=by
    have:((l[k]).toNat:Int)=0:=by simpa using hz
    exact UInt8.toNat_inj.1 (by rw[UInt8.toNat_zero];omega)
   refine hnext hlt _ _ ⟨rfl,aP k (by omega),?_⟩
   rw[List.take_succ_eq_append_getElem hlt,List.any_append,hno,he];rfl
 ·have hge:k=l.length:=by rw[hn] at hc;simp at hc;omega
  rw[hge,List.take_of_length_le (Nat.le_refl _)] at hno
  refine hK _ ?_
  rw[hno];rfl
theorem vF {s:Sl} {l:List UInt8} {H:aa} {K:Bool→aa→Prop} (hb:eF H s l) (hl:l.length<4611686018427387904) (hK:K (l.any (fun c=>c !=0)) H):Ig.sp s H K:=by
 refine Ig.of ?_
 unfold Ig.vc
 refine CB hb hl fun r hr=>?_
 rw[hr];exact hK
theorem FT {a b:Nat} (ha:a<256) (hb:b<256):ym .i64 (IntKind.i64.wrap (a:Int)) (ku .i64 (IntKind.i64.wrap (b:Int)) 8)=((a+256*b:Nat):Int):=by
 rw[wrap64 (by omega) (by omega),wrap64 (x:=(b:Int)) (by omega) (by omega)]
 have e1:ku .i64 (b:Int) 8=((b*256:Nat):Int):=by
  unfold ku
  rw[show (min (8:Int).toNat IntKind.i64.bits)=8 from rfl,wrap64 (by omega) (by omega)]
  omega
 rw[e1]
 unfold ym
 show IntKind.i64.wrap ((BitVec.ofInt 64 (a:Int)|||BitVec.ofInt 64 ((b*256:Nat):Int)).toNat:Int)=_
 rw[BitVec.ofInt_natCast,BitVec.ofInt_natCast,BitVec.toNat_or,BitVec.toNat_ofNat,BitVec.toNat_ofNat,Nat.mod_eq_of_lt (by omega),Nat.mod_eq_of_lt (by omega)]
 have e2:a|||b*256=a+256*b:=by
  have:=Nat.shiftLeft_add_eq_or_of_lt (i:=8) (b:=a) (by omega) b
  rw[Nat.shiftLeft_eq] at this
  rw[Nat.or_comm,show b*256=b*2^8 from rfl,←this];omega
 rw[e2]
 exact wrap64 (by omega) (by omega)
theorem jT [Tab] {l:List UInt8} (h:l.length=512) (hn:¬(l.take 4=tx (ky (l.drop 4))∧dv l≤504∧l.getD 7 0=157∧∀c∈l.drop (8+dv l),c=0)):fW l=none:=by
 unfold fW
 rw[if_neg (fun q=>hn ((uy h).1 q))]
theorem zh [Tab] {l:List UInt8} (h:l.length=512) (hn:l.take 4=tx (ky (l.drop 4))∧dv l≤504∧l.getD 7 0=157∧∀c∈l.drop (8+dv l),c=0):fW l=some (l.getD 6 0,(l.drop 8).take (dv l)):=by
 unfold fW
 rw[if_pos ((uy h).2 hn)]
set_option maxRecDepth 20000 in
theorem Gm [Tab] {s:Sl} {l:List UInt8} {H:aa} {K:(Int×Sl×Int)→aa→Prop} (hg:Gl H) (hb:eF H s l) (hl:l.length<4611686018427387904) (hcap:s.n≤s.c)
  (hA:l.length≠512→K (0,Sl.mk none 0 0,2) H) (hT:l.length=512→fW l=none→K (0,Sl.mk none 0 0,20) H)
  (hK:∀k b s' H',l.length=512→fW l=some (k,b)→b.length≤504→bc EB lF H' s' b→Ext H H'→(∀b,ai s' b→H.size≤b)→K ((k.toNat:Int),s',0) H'):Io.sp s H K:=by
 refine Io.of ?_
 unfold Io.vc
 have hn:=hb.n
 refine aj (fun hc=>hA (by rw[hn] at hc;simp at hc;omega)) (fun hc=>?_)
 have h512:l.length=512:=by rw[hn] at hc;simp at hc;omega
 refine⟨⟨by decide,by omega⟩,?_⟩
 have d4:=hb.drop hcap 4
 refine C7 hg d4 (by simp;omega) ?_
 refine aB 4 (fun k x H1=>H=H1∧x=(k:Int)∧l.take k=(tx (ky (l.drop 4))).take k) ⟨rfl,rfl,rfl⟩ ?_
 rintro k _ _ next hk ⟨rfl,rfl,heq⟩ hnext
 refine aj (fun hc=>?_) (fun hc=>?_)
 ·have hk4:k<4:=by simp at hc;omega
  have hlt:k<l.length:=by omega
  refine jZ hb hlt rfl fun ad ha=>?_
  have hw:IntKind.i64.wrap ((8:Int)*(k:Int))=((8*k:Nat):Int):=by rw[wrap64 (by omega) (by omega)];omega
  rw[hw]
  refine⟨by omega,?_⟩
  rw[yV _ (8*k) (by omega),xS]
  have hv:(tx (ky (l.drop 4)))[k]?=some (UInt8.ofNat ((ky (l.drop 4)).toNat/2^(8*k))):=by
   have:k=0∨k=1∨k=2∨k=3:=by omega
   rcases this with rfl|rfl|rfl|rfl<;>simp[tx]
  refine aj (fun hz=>?_) (fun hz=>?_)
  ·refine hT h512 (jT h512 fun q=>?_)
   have e1:(l.take 4)[k]?=some l[k]:=by rw[List.getElem?_take,if_pos hk4,List.getElem?_eq_getElem hlt]
   rw[q.1,hv] at e1
   rw[Option.some.inj e1] at hz
   simp at hz
  ·have e1:l[k]=UInt8.ofNat ((ky (l.drop 4)).toNat/2^(8*k)):=by
    refine UInt8.toNat_inj.1 ?_
    have:((l[k]).toNat:Int)=((UInt8.ofNat ((ky (l.drop 4)).toNat/2^(8*k))).toNat:Int):=by simpa using hz
    omega
   refine hnext hk4 _ _ ⟨rfl,aP k (by omega),?_⟩
   have hk4':k<(tx (ky (l.drop 4))).length:=by simp[tx];omega
   rw[List.take_succ_eq_append_getElem hlt,List.take_succ_eq_append_getElem hk4',heq]
   rw[List.getElem?_eq_getElem hk4'] at hv
   rw[Option.some.inj hv,e1]
 ·have hk4:k=4:=by simp at hc;omega
  subst hk4
  have hsum:l.take 4=tx (ky (l.drop 4)):=by
   rw[heq];exact List.take_of_length_le (by simp[tx])
  refine jZ (i:=4) (z:=4) hb (by omega) rfl fun _ _=>?_
  refine jZ (i:=5) (z:=5) hb (by omega) rfl fun _ _=>?_
  have hsz:ym .i64 (IntKind.i64.wrap ((l[4]).toNat:Int)) (ku .i64 (IntKind.i64.wrap ((l[5]).toNat:Int)) 8)=(dv l:Int):=by
   rw[FT (l[4]).toNat_lt (l[5]).toNat_lt]
   unfold dv
   simp[List.getD,List.getElem?_eq_getElem (show 4<l.length by omega),List.getElem?_eq_getElem (show 5<l.length by omega)]
  rw[hsz]
  refine aj (fun hz=>hT h512 (jT h512 fun q=>?_)) (fun hz=>?_)
  ·have:=q.2.1;simp at hz;omega
  have hle:dv l≤504:=by simp at hz;omega
  refine jZ (i:=7) (z:=7) hb (by omega) rfl fun _ _=>?_
  have h7:l.getD 7 0=l[7]:=by simp[List.getD,List.getElem?_eq_getElem (show 7<l.length by omega)]
  refine aj (fun hz=>hT h512 (jT h512 fun q=>?_)) (fun hz=>?_)
  ·have:=q.2.2.1
   rw[h7] at this
   rw[this] at hz;simp at hz
  have h7':l.getD 7 0=157:=by
   rw[h7]
   refine UInt8.toNat_inj.1 ?_
   have:((l[7]).toNat:Int)=157:=by simpa using hz
   rw[show (157:UInt8).toNat=157 from rfl];omega
  have hw8:IntKind.i64.wrap ((8:Int)+(dv l:Int))=((8+dv l:Nat):Int):=by rw[wrap64 (by omega) (by omega)];omega
  rw[hw8,Int.toNat_natCast]
  refine⟨⟨by omega,by omega⟩,?_⟩
  refine vF (hb.drop hcap (8+dv l)) (by simp;omega) ?_
  refine aj (fun hz=>hT h512 (jT h512 fun q=>?_)) (fun hz=>?_)
  ·obtain⟨c,hc1,hc2⟩:=List.any_eq_true.1 hz
   rw[q.2.2.2 c hc1] at hc2;simp at hc2
  have hz':∀c∈l.drop (8+dv l),c=0:=by
   intro c hc1
   have:=List.any_eq_false.1 hz c hc1
   simpa using this
  have hop:=zh h512 ⟨hsum,hle,h7',hz'⟩
  refine⟨fun H'=>Ext H H',.refl _ _,?_⟩
  have hlt6:6<l.length:=by omega
  have hb':∀H',Ext H H'→eF H' s l:=fun H' e=>hb.aq fun ad _ hl=>e.same _ hl id
  obtain⟨ad,ha,_⟩:=hb.addr (by omega)
  refine bT ad ha ⟨⟨by decide,by omega⟩,((l[6]).toNat:Int),fun H' e=>?_,?_⟩
  ·have hc6:=(hb' H' e).at (i:=6) (by simp[ie];omega)
   obtain⟨ad',ha',hc6⟩:=hc6
   rw[ha] at ha';cases ha'
   rw[show (6:Int).toNat*1=6 from rfl,hc6]
   simp[ie]
  ·refine⟨⟨by omega,by omega⟩,⟨by decide,by omega⟩,?_⟩
   have hd8:=(hb.drop hcap 8).take (dv l) (by show _≤s.n - 8;omega) (s.c - 8)
   have e8:(8+dv l) - (8:Int).toNat=dv l:=by show 8+dv l - 8=_;omega
   rw[e8]
   refine fK hd8 (by simp;omega) fun s' H' o' m' f'=>⟨m',?_⟩
   have h6:l.getD 6 0=l[6]:=by simp[List.getD,List.getElem?_eq_getElem hlt6]
   rw[h6] at hop
   exact hK l[6] _ s' H' h512 hop (by simp;omega) o' m' f'
end Go.Proofs.YtacfhncgbgijhaaGreat
