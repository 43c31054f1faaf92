/-
 Pages: the walk of their sum, of what seals them, of what opens them.
-/
import Derived.Test.YtdpdmbceakdlmaaGreatDoorDkg
import Derived.Test.YtdpdmbceakdlmaaGreatDoorPga
import Derived.Laws.CopyRow
import Derived.Laws.IdiomCopy
namespace Go.Proofs.YtdpdmbceakdlmaaGreatDoor
theorem nT (a:BitVec 32):BitVec.ofInt 32 (a.toNat:Int)=a:=by
 rw[BitVec.ofInt_natCast,BitVec.ofNat_toNat,BitVec.setWidth_eq]
theorem wrap32 {n:Nat} (h:n<4294967296):IntKind.u32.wrap (n:Int)=(n:Int):=by
 simp[IntKind.wrap,IntKind.bits,IntKind.signed];omega
theorem me (n:Nat):IntKind.u8.wrap (n:Int)=((UInt8.ofNat n).toNat:Int):=by
 rw[UInt8.toNat_ofNat']
 simp[IntKind.wrap,IntKind.bits,IntKind.signed]
theorem mw (a b:BitVec 32):gB .u32 (a.toNat:Int) (b.toNat:Int)=((a^^^b).toNat:Int):=by
 unfold gB
 show IntKind.u32.wrap ((BitVec.ofInt 32 (a.toNat:Int)^^^BitVec.ofInt 32 (b.toNat:Int)).toNat:Int)=_
 rw[nT,nT]
 exact wrap32 (a^^^b).isLt
theorem AE (a:BitVec 32):jI .u32 (a.toNat:Int) 15=((a.toNat%16:Nat):Int):=by
 unfold jI
 show IntKind.u32.wrap ((BitVec.ofInt 32 (a.toNat:Int)&&&15#32).toNat:Int)=_
 rw[nT,As]
 rw[BitVec.toNat_ofNat]
 have:a.toNat%16%2^32=a.toNat%16:=by omega
 rw[this]
 exact wrap32 (by omega)
theorem oZ (a:BitVec 32) (k:Nat) (hk:k≤32):cr .u32 (a.toNat:Int) (k:Int)=((a.toNat/2^k:Nat):Int):=by
 unfold cr
 have:min (k:Int).toNat IntKind.u32.bits=k:=by
  show min (k:Int).toNat 32=k
  omega
 rw[this,Int.fdiv_eq_ediv_of_nonneg _ (Int.pow_nonneg (by decide)),Int.natCast_ediv,Int.natCast_pow]
 rfl
def bo:Nat:=0
def Gl (H:Heap):Prop:=∀i,i<16→cp H ⟨bo,i,none⟩=some (.int .u32 ((kD.getD i 0#32).toNat:Int))
theorem Gl.lt {H:Heap} (h:Gl H):bo<H.size:=eD (h 0 (by decide))
theorem Gl.keep {H H':Heap} (h:Gl H) (k:H'[bo]?=H[bo]?):Gl H':=fun i hi=>(du k).trans (h i hi)
theorem Gl.mod {F:Nat→Prop} {H H':Heap} (h:Gl H) (hm:Mod F H H') (hn:¬F bo):Gl H':=h.keep (hm.same _ h.lt hn)
theorem uH {H:Heap} (h:Gl H) {i:Nat} (hi:i<16) {K:Int→Prop} (hK:K ((kD.getD i 0#32).toNat:Int)) {a:Addr} (ha:a=⟨bo,i,none⟩):ld (aa .u32) H a K:=by
 subst ha
 exact⟨_,h i hi,hK⟩
def mQ (l:List UInt8):BitVec 32:=l.foldl y7 (BitVec.allOnes 32)
theorem rh (l:List UInt8) (c:UInt8):mQ (l++[c])=y7 (mQ l) c:=by simp[mQ]
theorem toNat_ofNat32 (c:UInt8):(BitVec.ofNat 32 c.toNat).toNat=c.toNat:=by
 rw[BitVec.toNat_ofNat]
 have:=c.toNat_lt
 omega
theorem Fy {l:List UInt8} {i:Nat} (h:i<l.length):(di l).getD i 0=((l[i]).toNat:Int):=by
 simp[di,List.getD,h]
theorem dy {l:List UInt8} {H:Heap} {s:Sl} (h:bI H s l) {i:Nat} (hi:i<l.length) {z:Int} (hz:z=(i:Int)) {K:Addr→Int→Prop} (hK:∀ad,s.a=some ad→K ad ((l[i]).toNat:Int)):
  ab s.a fun a=>(0≤z∧z<(s.n:Int))∧ld (aa .u8) H (a.add (z.toNat*1)) fun x=>K a x:=
 gr (l:=di l) h hz (by simpa[di] using hi) (fun ad ha=>by rw[Fy hi];exact hK ad ha)
theorem zU {s:Sl} {l:List UInt8} {H:Heap} {K:Int→Heap→Prop} (hg:Gl H) (hb:bI H s l) (hl:l.length<4611686018427387904) (hK:K ((eR l).toNat:Int) H):C2.sp s H K:=by
 refine C2.of ?_
 unfold C2.vc
 have hn:=hb.n
 refine aw l.length (fun k x H1=>H1=H∧x=(((mQ (l.take k)).toNat:Int),(k:Int))) ⟨rfl,rfl⟩ ?_
 rintro k _ _ next hk ⟨rfl,rfl⟩ hnext
 refine ag (fun hc=>?_) (fun hc=>?_)
 ·have hlt:k<l.length:=by rw[hn] at hc;simpa using hc
  refine dy hb hlt rfl fun ad ha=>?_
  have hc8:(l[k]).toNat<256:=(l[k]).toNat_lt
  have e0:gB .u32 ((mQ (l.take k)).toNat:Int) (IntKind.u32.wrap (((l[k]).toNat:Nat):Int))=((mQ (l.take k)^^^BitVec.ofNat 32 (l[k]).toNat).toNat:Int):=by
   rw[wrap32 (by omega),←toNat_ofNat32 l[k],mw,toNat_ofNat32]
  simp only[e0]
  generalize hr:mQ (l.take k)^^^BitVec.ofNat 32 (l[k]).toNat=r
  have half:∀(r:BitVec 32),gB .u32 (cr .u32 (r.toNat:Int) 4) ((kD.getD (r.toNat%16) 0#32).toNat:Int)=((jE r).toNat:Int):=by
   intro r
   have h1:cr .u32 (r.toNat:Int) 4=((r>>>4).toNat:Int):=by
    rw[show (4:Int)=((4:Nat):Int) from rfl,oZ r 4 (by decide),BitVec.toNat_ushiftRight,Nat.shiftRight_eq_div_pow]
   rw[h1,mw,←C5]
  rw[AE]
  refine⟨⟨by omega,by omega⟩,?_⟩
  refine uH hg (i:=r.toNat%16) (Nat.mod_lt _ (by decide)) ?_ (by rw[Int.toNat_natCast,Nat.mul_one,aW];rfl)
  rw[half,AE]
  refine⟨⟨by omega,by omega⟩,?_⟩
  refine uH hg (i:=(jE r).toNat%16) (Nat.mod_lt _ (by decide)) ?_ (by rw[Int.toNat_natCast,Nat.mul_one,aW];rfl)
  rw[half]
  refine hnext hlt _ _ ⟨rfl,?_⟩
  have hs:=aK k (by omega)
  rw[hs,List.take_succ_eq_append_getElem hlt,rh]
  unfold y7
  rw[hr]
 ·have hge:k=l.length:=by rw[hn] at hc;simp at hc;omega
  rw[hge,List.take_of_length_le (Nat.le_refl _)]
  have e:gB .u32 (4294967295:Int) ((mQ l).toNat:Int)=((eR l).toNat:Int):=by
   rw[show (4294967295:Int)=((BitVec.allOnes 32).toNat:Int) from rfl,mw]
   congr 2
  rw[e];exact hK
theorem AD {P:Program} {dT sT ty elem t:TypeId} {H:Heap} {b o dl dc:Nat} {x:Sl} {cur:Array Value} {cs:List Value} {K:Int→Heap→Prop} (hu:P.underlying dT=some (.slice elem)) (hs:(P.info? elem).map (·.size)=some 1)
  (h:ai H b t cur) (hx:Reads H x.a cs) (hn:x.n=cs.length) (hle:x.n≤dl) (hfit:o+cs.length≤cur.size) (h1:∀v∈cs,v.oneCell'=true)
  (hK:∀H',ai H' b t (cur.toList.take o++cs++cur.toList.drop (o+cs.length)).toArray→Mod (fun k=>k=b) H H'→H'.size=H.size→K (cs.length:Int) H'):
  bu (aa .i64) P (Builtin.copy_ #[dT,sT] ty #[.slice (some ⟨b,o,none⟩) dl dc,x.v]) H K:=by
 intro w hw
 subst hw
 obtain⟨xa,xn,xc⟩:=x
 simp only[Sl.v] at*
 by_cases hz:cs=[]
 ·subst hz
  have hx0:xn=0:=hn
  subst hx0
  have hr:=run_copy_none (P:=P) w dT sT ty elem (some ⟨b,o,none⟩) xa dl dc 0 xc hu hs (by simp)
  refine⟨_,w,hr,⟨0,rfl,?_⟩,.refl w⟩
  refine hK w.heap ?_ (.refl _ _) rfl
  have e:(cur.toList.take o++[]++cur.toList.drop (o+([]:List Value).length)).toArray=cur:=by simp
  rw[e];exact h
 ·have hpos:0<cs.length:=List.length_pos_iff.2 hz
  obtain⟨ad,rfl,_⟩:=hx.at hpos
  have hsrc:∀j v,cs[j]?=some v→w.cell? (ad.add j)=some v:=fun j v hv=>by
   obtain⟨ad',e,hc⟩:=hx j v hv
   cases e;exact hc
  have hr:=run_copy_row (P:=P) w dT sT ty elem b o dl dc ad xn xc cur t cs hu hs h (by rw[←hn];exact(Nat.min_eq_left hle).symm) hsrc hfit h1
  refine⟨_,_,hr,⟨(cs.length:Int),rfl,hK _ (setRow_heap w b cur _ t _ h) ⟨by simp[World.setRow],fun k _ hk=>setRow_other w b k _ hk⟩ (by simp[World.setRow])⟩,(.of_le rfl (Nat.le_refl _))⟩
abbrev kW (H:Heap) (b:Nat) (t:TypeId) (l:List UInt8):Prop:=ai H b t (eX l).toArray
theorem kW.st {H:Heap} {b:Nat} {t:TypeId} {l:List UInt8} {K:Heap→Prop} (h:kW H b t l) {i:Nat} {x:UInt8} (hi:i<l.length) (hK:∀H',kW H' b t (l.set i x)→Mod (fun k=>k=b) H H'→H'.size=H.size→K H'):
  Go.Proofs.YtdpdmbceakdlmaaGreatDoor.st H (Addr.add ⟨b,0,none⟩ i) (.int .u8 (x.toNat:Int)) K:=by
 refine ai.st h (i:=i) (by simpa[eX] using hi) rfl fun H' r m s=>hK H' ?_ m s
 have e:((eX l).toArray.setIfInBounds i (.int .u8 (x.toNat:Int)))=(eX (l.set i x)).toArray:=by
  apply Array.toList_inj.1
  simp[eX]
 rw[e] at r;exact r
theorem kW.Gj {H:Heap} {b:Nat} {t:TypeId} {l:List UInt8} (h:kW H b t l) {o n c:Nat} (hn:o+n≤l.length):bI H (Sl.mk (some ⟨b,o,none⟩) n c) ((l.drop o).take n):=by
 refine⟨by simp[di];omega,fun i v hv=>⟨_,rfl,?_⟩⟩
 rw[fx] at hv
 rw[add_lit]
 refine cK h ?_
 have hi:i<n:=by have:=(List.getElem?_eq_some_iff.1 hv).1;simp[eX] at this;omega
 simp only[eX,List.getElem?_map,List.getElem?_take,if_pos hi,List.getElem?_drop] at hv
 simp only[eX,List.getElem?_toArray,List.getElem?_map]
 exact hv
theorem pT {α:Type} {A B:List α} {k:Nat} {x:α} (hk:k<A.length) (hB:k<B.length) (hx:A[k]?=some x):(A.take k++B.drop k).set k x=A.take (k+1)++B.drop (k+1):=by
 have hl:(A.take k).length=k:=by simp;omega
 rw[List.set_append_right _ _ (by omega),hl,Nat.sub_self]
 have e:B.drop k=B[k]::B.drop (k+1):=List.drop_eq_getElem_cons hB
 rw[e,List.set_cons_zero,List.take_succ_eq_append_getElem hk]
 have:A[k]=x:=by rw[List.getElem?_eq_getElem hk] at hx;exact Option.some.inj hx
 rw[this];simp
theorem CI:Tryz.prog.underlying dw=some (.slice eA):=by kernel_rfl
theorem Fq:(Tryz.prog.info? eA).map (·.size)=some 1:=by kernel_rfl
theorem Fp:zc Tryz.prog E9=(eX (List.replicate 512 0)).toArray:=by kernel_rfl
theorem ES:List.replicate 512 (0:UInt8)=0::0::0::0::0::0::0::0::List.replicate 504 0:=rfl
set_option maxRecDepth 20000 in
theorem Cl {kind:UInt8} {s:Sl} {l:List UInt8} {H:Heap} {K:Sl×Int→Heap→Prop} (hg:Gl H) (hb:bI H s l) (hlen:l.length≤504)
  (hK:∀s' H',aG EB eA H' s' (bp kind l)→Ext H H'→(∀b,aj s' b→H.size≤b)→K (s',0) H'):D7.sp (kind.toNat:Int) s H K:=by
 refine D7.of ?_
 unfold D7.vc
 have hn:=hb.n
 refine ar (by simp;omega) ?_
 rw[Fp]
 refine au fun H1 s1 r1 e1=>?_
 rw[ES] at r1
 have b1:bI H1 s l:=hb.keep fun ad _ hl=>e1.same _ hl id
 refine⟨⟨by decide,by decide⟩,?_⟩
 have v4:IntKind.u8.wrap (s.n:Int)=((UInt8.ofNat l.length).toNat:Int):=by rw[hn,me]
 have v5:IntKind.u8.wrap (cr .i64 (s.n:Int) 8)=((UInt8.ofNat (l.length/256)).toNat:Int):=by
  have:cr .i64 (s.n:Int) 8=((l.length/256:Nat):Int):=by
   unfold cr
   rw[hn,show (min (8:Int).toNat IntKind.i64.bits)=8 from rfl,Int.fdiv_eq_ediv_of_nonneg _ (Int.pow_nonneg (by decide))]
   rfl
  rw[this,me]
 rw[v4]
 refine kW.st (i:=4) r1 (by simp) fun H2 r2 m2 z2=>?_
 refine⟨⟨by decide,by decide⟩,?_⟩
 rw[v5]
 refine kW.st (i:=5) r2 (by simp) fun H3 r3 m3 z3=>?_
 refine⟨⟨by decide,by decide⟩,?_⟩
 refine kW.st (i:=6) r3 (by simp) fun H4 r4 m4 z4=>?_
 refine⟨⟨by decide,by decide⟩,?_⟩
 refine kW.st (i:=7) (x:=157) r4 (by simp) fun H5 r5 m5 z5=>?_
 refine⟨⟨by decide,by decide⟩,?_⟩
 have m15:Mod (fun b=>b=H.size) H1 H5:=((m2.trans m3).trans m4).trans m5
 have m05:Ext H H5:=⟨by have:=e1.size;have:=m15.size;omega,fun b hb _=>(m15.same b (by omega) (by omega)).trans (e1.same b hb id)⟩
 have b5:bI H5 s l:=hb.keep fun ad _ hl=>m05.same _ hl id
 have a8:eQ (some ⟨H.size,0,none⟩) 512 ((8:Int).toNat) 1=some ⟨H.size,8,none⟩:=rfl
 rw[a8]
 refine AD (t:=E9) CI Fq r5 b5.cells (by rw[hn];simp[eX]) (by rw[hn];show _≤504;omega) (by simp[eX];omega) (by
  intro v hv
  obtain⟨x,_,rfl⟩:=List.mem_map.1 hv;rfl) fun H6 r6 m6 z6=>?_
 have L6:(0::0::0::0::cv kind l:List UInt8)=[0,0,0,0]++cv kind l:=rfl
 have r6':kW H6 H.size E9 ([0,0,0,0]++cv kind l):=by
  have e:(((eX (((((0::0::0::0::0::0::0::0::List.replicate 504 0:List UInt8).set 4 (UInt8.ofNat l.length)).set 5 (UInt8.ofNat (l.length/256))).set 6 kind).set 7 157)).toArray.toList.take 8++eX l)++(eX (((((0::0::0::0::0::0::0::0::List.replicate 504 0:List UInt8).set 4 (UInt8.ofNat l.length)).set 5 (UInt8.ofNat (l.length/256))).set 6 kind).set 7 157)).toArray.toList.drop (8+(eX l).length)).toArray=(eX ([0,0,0,0]++cv kind l)).toArray:=by
   congr 1
   simp only[List.set_cons_succ,List.set_cons_zero,eX,List.map_cons,List.take_succ_cons,List.take_zero,List.map_append,cv,List.length_map,List.map_replicate]
   rw[show 8+l.length=l.length+8 from Nat.add_comm _ _]
   simp only[List.drop_succ_cons,List.drop_replicate]
   simp
  rw[e] at r6;exact r6
 have m16:Mod (fun b=>b=H.size) H1 H6:=m15.trans m6
 have m06:Ext H H6:=⟨by have:=e1.size;have:=m16.size;omega,fun b hb _=>(m16.same b (by omega) (by omega)).trans (e1.same b hb id)⟩
 refine⟨⟨by decide,by decide⟩,?_⟩
 have a4:eQ (some ⟨H.size,0,none⟩) 512 ((4:Int).toNat) 1=some ⟨H.size,4,none⟩:=rfl
 rw[a4]
 have hbl:=iU (kind:=kind) hlen
 have by6:=kW.Gj r6' (o:=4) (n:=508) (c:=508) (by simp[hbl])
 have ed:(([0,0,0,0]++cv kind l:List UInt8).drop 4).take 508=cv kind l:=by
  show (cv kind l).take 508=_
  rw[List.take_of_length_le (by omega)]
 rw[ed] at by6
 refine zU (hg.mod m06 id) by6 (by omega) ?_
 refine aw 4 (fun k x H7=>x=(k:Int)∧kW H7 H.size E9 ((mV (eR (cv kind l))).take k++([0,0,0,0]++cv kind l).drop k)∧Mod (fun b=>b=H.size) H6 H7) ⟨rfl,r6',.refl _ _⟩ ?_
 rintro k _ H7 next hk ⟨rfl,r7,m7⟩ hnext
 refine ag (fun hc=>?_) (fun hc=>?_)
 ·have hk4:k<4:=by simp at hc;omega
  have hw:IntKind.i64.wrap ((8:Int)*(k:Int))=((8*k:Nat):Int):=by rw[wrap64 (by omega) (by omega)];omega
  rw[hw]
  refine⟨by omega,⟨by omega,by omega⟩,?_⟩
  have hv:(mV (eR (cv kind l)))[k]?=some (UInt8.ofNat ((eR (cv kind l)).toNat/2^(8*k))):=by
   have:k=0∨k=1∨k=2∨k=3:=by omega
   rcases this with rfl|rfl|rfl|rfl<;>simp[mV]
  rw[oZ _ (8*k) (by omega),me,Int.toNat_natCast,Nat.mul_one]
  refine kW.st (i:=k) r7 (by simp[mV,hbl];omega) fun H8 r8 m8 z8=>?_
  rw[pT (by simp[mV];omega) (by simp[hbl];omega) hv] at r8
  exact hnext hk4 _ _ ⟨aK k (by omega),r8,m7.trans m8⟩
 ·have hk4:k=4:=by simp at hc;omega
  subst hk4
  have r7':kW H7 H.size E9 (bp kind l):=by
   have e:(mV (eR (cv kind l))).take 4++([0,0,0,0]++cv kind l:List UInt8).drop 4=bp kind l:=rfl
   rw[e] at r7;exact r7
  have hsl:=eG (kind:=kind) hlen
  have by7:=kW.Gj r7' (o:=0) (n:=512) (c:=512) (by omega)
  rw[List.drop_zero,List.take_of_length_le (by omega)] at by7
  have a0:eQ (some ⟨H.size,0,none⟩) 512 0 1=some ⟨H.size,0,none⟩:=rfl
  rw[a0]
  refine eO by7 (by omega) fun s' H' o' m' f'=>?_
  have m17:Mod (fun b=>b=H.size) H1 H7:=m16.trans m7
  have z1:=e1.size;have z7:=m17.size;have z':=m'.size
  refine hK s' H' o' ⟨by omega,fun b hb _=>(m'.same b (by omega) id).trans ((m17.same b (by omega) (by omega)).trans (e1.same b hb id))⟩ (fun b hb=>?_)
  have:=f' b hb;omega
theorem bI.drop {H:Heap} {s:Sl} {l:List UInt8} (h:bI H s l) (hc:s.n≤s.c) (i:Nat):bI H (Sl.mk (eQ s.a s.c i 1) (s.n - i) (s.c - i)) (l.drop i):=by
 have hn:=h.n
 refine⟨by simp[di,hn],?_⟩
 have:=cL.drop (E:=EB) (i:=i) (c:=s.c) (a:=s.a) (l:=l) (by unfold cL;rw[gC];exact h.cells) (by omega)
 unfold cL at this
 rw[gC] at this
 rw[fx]
 exact this
theorem bI.take {H:Heap} {s:Sl} {l:List UInt8} (h:bI H s l) (i:Nat) (hi:i≤s.n) (c:Nat):bI H (Sl.mk s.a i c) (l.take i):=by
 have hn:=h.n
 refine⟨by simp[di];omega,?_⟩
 rw[fx]
 have:eX (l.take i)=(eX l).take i:=by simp[eX]
 rw[this]
 exact h.cells.take i
theorem xo {s:Sl} {l:List UInt8} {H:Heap} {K:Int→Heap→Prop} (hb:bI H s l) (hl:l.length<4611686018427387904) (hK:∀r:Int,(decide (r≥0))=l.any (fun c=>c !=0)→K r H):DE.sp s H K:=by
 refine DE.of ?_
 unfold DE.vc
 have hn:=hb.n
 refine aw l.length (fun k x H1=>H1=H∧x=(k:Int)∧(l.take k).any (fun c=>c !=0)=false) ⟨rfl,rfl,by simp⟩ ?_
 rintro k _ _ next hk ⟨rfl,rfl,hno⟩ hnext
 refine ag (fun hc=>?_) (fun hc=>?_)
 ·have hlt:k<l.length:=by rw[hn] at hc;simpa using hc
  refine dy hb hlt rfl fun ad ha=>?_
  refine By.of ?_
  unfold By.vc
  have ex:l=l.take k++l[k]::l.drop (k+1):=by
   rw[←List.drop_eq_getElem_cons hlt,List.take_append_drop]
  refine ag (fun hz=>?_) (fun hz=>?_)
  ·have hne:l[k]≠0:=by
    intro e;rw[e] at hz;simp at hz
   refine hK _ ?_
   have e2:l.any (fun c=>c !=0)=true:=List.any_eq_true.2 ⟨l[k],List.getElem_mem hlt,by simpa using hne⟩
   rw[e2];simp
  ·have he:l[k]=0:=by
    have:((l[k]).toNat:Int)=0:=by simpa using hz
    exact UInt8.toNat_inj.1 (by rw[UInt8.toNat_zero];omega)
   refine hnext hlt _ _ ⟨rfl,aK k (by omega),?_⟩
   rw[List.take_succ_eq_append_getElem hlt,List.any_append,hno,he];rfl
 ·have hge:k=l.length:=by rw[hn] at hc;simp at hc;omega
  rw[hge,List.take_of_length_le (Nat.le_refl _)] at hno
  refine hK _ ?_
  rw[hno];rfl
theorem rN {s:Sl} {l:List UInt8} {H:Heap} {K:Bool→Heap→Prop} (hb:bI H s l) (hl:l.length<4611686018427387904) (hK:K (l.any (fun c=>c !=0)) H):DI.sp s H K:=by
 refine DI.of ?_
 unfold DI.vc
 refine xo hb hl fun r hr=>?_
 rw[hr];exact hK
theorem Du {a b:Nat} (ha:a<256) (hb:b<256):uL .i64 (IntKind.i64.wrap (a:Int)) (ji .i64 (IntKind.i64.wrap (b:Int)) 8)=((a+256*b:Nat):Int):=by
 rw[wrap64 (by omega) (by omega),wrap64 (x:=(b:Int)) (by omega) (by omega)]
 have e1:ji .i64 (b:Int) 8=((b*256:Nat):Int):=by
  unfold ji
  rw[show (min (8:Int).toNat IntKind.i64.bits)=8 from rfl,wrap64 (by omega) (by omega)]
  omega
 rw[e1]
 unfold uL
 show IntKind.i64.wrap ((BitVec.ofInt 64 (a:Int)|||BitVec.ofInt 64 ((b*256:Nat):Int)).toNat:Int)=_
 rw[BitVec.ofInt_natCast,BitVec.ofInt_natCast,BitVec.toNat_or,BitVec.toNat_ofNat,BitVec.toNat_ofNat,Nat.mod_eq_of_lt (by omega),Nat.mod_eq_of_lt (by omega)]
 have e2:a|||b*256=a+256*b:=by
  have:=Nat.shiftLeft_add_eq_or_of_lt (i:=8) (b:=a) (by omega) b
  rw[Nat.shiftLeft_eq] at this
  rw[Nat.or_comm,show b*256=b*2^8 from rfl,←this];omega
 rw[e2]
 exact wrap64 (by omega) (by omega)
theorem iC {l:List UInt8} (h:l.length=512) (hn:¬(l.take 4=mV (eR (l.drop 4))∧bA l≤504∧l.getD 7 0=157∧∀c∈l.drop (8+bA l),c=0)):dG l=none:=by
 unfold dG
 rw[if_neg (fun q=>hn ((qY h).1 q))]
theorem vG {l:List UInt8} (h:l.length=512) (hn:l.take 4=mV (eR (l.drop 4))∧bA l≤504∧l.getD 7 0=157∧∀c∈l.drop (8+bA l),c=0):dG l=some (l.getD 6 0,(l.drop 8).take (bA l)):=by
 unfold dG
 rw[if_pos ((qY h).2 hn)]
set_option maxRecDepth 20000 in
theorem CQ {s:Sl} {l:List UInt8} {H:Heap} {K:(Int×Sl×Int)→Heap→Prop} (hg:Gl H) (hb:bI H s l) (hl:l.length<4611686018427387904) (hcap:s.n≤s.c)
  (hA:l.length≠512→K (0,Sl.mk none 0 0,2) H) (hT:l.length=512→dG l=none→K (0,Sl.mk none 0 0,20) H)
  (hK:∀k b s' H',l.length=512→dG l=some (k,b)→b.length≤504→aG EB eA H' s' b→Ext H H'→(∀b,aj s' b→H.size≤b)→K ((k.toNat:Int),s',0) H'):Ec.sp s H K:=by
 refine Ec.of ?_
 unfold Ec.vc
 have hn:=hb.n
 refine ag (fun hc=>hA (by rw[hn] at hc;simp at hc;omega)) (fun hc=>?_)
 have h512:l.length=512:=by rw[hn] at hc;simp at hc;omega
 refine⟨⟨by decide,by omega⟩,?_⟩
 have d4:=hb.drop hcap 4
 refine zU hg d4 (by simp;omega) ?_
 refine aw 4 (fun k x H1=>H=H1∧x=(k:Int)∧l.take k=(mV (eR (l.drop 4))).take k) ⟨rfl,rfl,rfl⟩ ?_
 rintro k _ _ next hk ⟨rfl,rfl,heq⟩ hnext
 refine ag (fun hc=>?_) (fun hc=>?_)
 ·have hk4:k<4:=by simp at hc;omega
  have hlt:k<l.length:=by omega
  refine dy hb hlt rfl fun ad ha=>?_
  have hw:IntKind.i64.wrap ((8:Int)*(k:Int))=((8*k:Nat):Int):=by rw[wrap64 (by omega) (by omega)];omega
  rw[hw]
  refine⟨by omega,?_⟩
  rw[oZ _ (8*k) (by omega),me]
  have hv:(mV (eR (l.drop 4)))[k]?=some (UInt8.ofNat ((eR (l.drop 4)).toNat/2^(8*k))):=by
   have:k=0∨k=1∨k=2∨k=3:=by omega
   rcases this with rfl|rfl|rfl|rfl<;>simp[mV]
  refine ag (fun hz=>?_) (fun hz=>?_)
  ·refine hT h512 (iC h512 fun q=>?_)
   have e1:(l.take 4)[k]?=some l[k]:=by rw[List.getElem?_take,if_pos hk4,List.getElem?_eq_getElem hlt]
   rw[q.1,hv] at e1
   rw[Option.some.inj e1] at hz
   simp at hz
  ·have e1:l[k]=UInt8.ofNat ((eR (l.drop 4)).toNat/2^(8*k)):=by
    refine UInt8.toNat_inj.1 ?_
    have:((l[k]).toNat:Int)=((UInt8.ofNat ((eR (l.drop 4)).toNat/2^(8*k))).toNat:Int):=by simpa using hz
    omega
   refine hnext hk4 _ _ ⟨rfl,aK k (by omega),?_⟩
   have hk4':k<(mV (eR (l.drop 4))).length:=by simp[mV];omega
   rw[List.take_succ_eq_append_getElem hlt,List.take_succ_eq_append_getElem hk4',heq]
   rw[List.getElem?_eq_getElem hk4'] at hv
   rw[Option.some.inj hv,e1]
 ·have hk4:k=4:=by simp at hc;omega
  subst hk4
  have hsum:l.take 4=mV (eR (l.drop 4)):=by
   rw[heq];exact List.take_of_length_le (by simp[mV])
  refine dy (i:=4) (z:=4) hb (by omega) rfl fun _ _=>?_
  refine dy (i:=5) (z:=5) hb (by omega) rfl fun _ _=>?_
  have hsz:uL .i64 (IntKind.i64.wrap ((l[4]).toNat:Int)) (ji .i64 (IntKind.i64.wrap ((l[5]).toNat:Int)) 8)=(bA l:Int):=by
   rw[Du (l[4]).toNat_lt (l[5]).toNat_lt]
   unfold bA
   simp[List.getD,List.getElem?_eq_getElem (show 4<l.length by omega),List.getElem?_eq_getElem (show 5<l.length by omega)]
  rw[hsz]
  refine ag (fun hz=>hT h512 (iC h512 fun q=>?_)) (fun hz=>?_)
  ·have:=q.2.1;simp at hz;omega
  have hle:bA l≤504:=by simp at hz;omega
  refine dy (i:=7) (z:=7) hb (by omega) rfl fun _ _=>?_
  have h7:l.getD 7 0=l[7]:=by simp[List.getD,List.getElem?_eq_getElem (show 7<l.length by omega)]
  refine ag (fun hz=>hT h512 (iC h512 fun q=>?_)) (fun hz=>?_)
  ·have:=q.2.2.1
   rw[h7] at this
   rw[this] at hz;simp at hz
  have h7':l.getD 7 0=157:=by
   rw[h7]
   refine UInt8.toNat_inj.1 ?_
   have:((l[7]).toNat:Int)=157:=by simpa using hz
   rw[show (157:UInt8).toNat=157 from rfl];omega
  have hw8:IntKind.i64.wrap ((8:Int)+(bA l:Int))=((8+bA l:Nat):Int):=by rw[wrap64 (by omega) (by omega)];omega
  rw[hw8,Int.toNat_natCast]
  refine⟨⟨by omega,by omega⟩,?_⟩
  refine rN (hb.drop hcap (8+bA l)) (by simp;omega) ?_
  refine ag (fun hz=>hT h512 (iC h512 fun q=>?_)) (fun hz=>?_)
  ·obtain⟨c,hc1,hc2⟩:=List.any_eq_true.1 hz
   rw[q.2.2.2 c hc1] at hc2;simp at hc2
  have hz':∀c∈l.drop (8+bA l),c=0:=by
   intro c hc1
   have:=List.any_eq_false.1 hz c hc1
   simpa using this
  have hop:=vG h512 ⟨hsum,hle,h7',hz'⟩
  refine⟨fun H'=>Ext H H',.refl _ _,?_⟩
  have hlt6:6<l.length:=by omega
  have hb':∀H',Ext H H'→bI H' s l:=fun H' e=>hb.keep fun ad _ hl=>e.same _ hl id
  obtain⟨ad,ha,_⟩:=hb.addr (by omega)
  refine c6 ad ha ⟨⟨by decide,by omega⟩,((l[6]).toNat:Int),fun H' e=>?_,?_⟩
  ·have hc6:=(hb' H' e).at (i:=6) (by simp[di];omega)
   obtain⟨ad',ha',hc6⟩:=hc6
   rw[ha] at ha';cases ha'
   rw[show (6:Int).toNat*1=6 from rfl,hc6]
   simp[di]
  ·refine⟨⟨by omega,by omega⟩,⟨by decide,by omega⟩,?_⟩
   have hd8:=(hb.drop hcap 8).take (bA l) (by show _≤s.n - 8;omega) (s.c - 8)
   have e8:(8+bA l) - (8:Int).toNat=bA l:=by show 8+bA l - 8=_;omega
   rw[e8]
   refine eO hd8 (by simp;omega) fun s' H' o' m' f'=>⟨m',?_⟩
   have h6:l.getD 6 0=l[6]:=by simp[List.getD,List.getElem?_eq_getElem hlt6]
   rw[h6] at hop
   exact hK l[6] _ s' H' h512 hop (by simp;omega) o' m' f'
end Go.Proofs.YtdpdmbceakdlmaaGreatDoor
