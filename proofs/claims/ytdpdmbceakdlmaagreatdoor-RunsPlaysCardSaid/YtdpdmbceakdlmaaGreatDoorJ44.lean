/-
 The document's pages: the walk of their sum, of what seals them, of what opens them.
-/
import Derived.Test.YtdpdmbceakdlmaaGreatDoorVc
import Derived.Test.YtdpdmbceakdlmaaGreatDoorFxk
import Derived.Test.YtdpdmbceakdlmaaGreatDoorPgb
import Derived.Test.YtdpdmbceakdlmaaGreatDoorJ30
import Derived.Test.YtdpdmbceakdlmaaGreatDoorJ33
import Derived.Test.YtdpdmbceakdlmaaGreatDoorJ42
import Derived.Test.YtdpdmbceakdlmaaGreatDoorFxs
namespace Go.Proofs.YtdpdmbceakdlmaaGreatDoor
theorem FN (a:BitVec 32):jI .u32 (a.toNat:Int) 1=((a.toNat%2:Nat):Int):=by
 unfold jI
 show IntKind.u32.wrap ((BitVec.ofInt 32 (a.toNat:Int)&&&1#32).toNat:Int)=_
 have h1:(1#32).toNat=2^1 - 1:=by decide
 rw[nT,BitVec.toNat_and,h1,Nat.and_two_pow_sub_one_eq_mod]
 exact wrap32 (by omega)
theorem wY (a:BitVec 32):a.getLsbD 0=decide (a.toNat%2=1):=by
 rw[BitVec.getLsbD]
 simp[Nat.testBit_zero]
def bits (r:BitVec 32):Nat→BitVec 32
 |0=>r
 |n+1=>jj (bits r n)
theorem FM (r:BitVec 32):bits r 8=jE (jE r):=rfl
theorem Gv (a:BitVec 32):cr .u32 (a.toNat:Int) 1=((a>>>1).toNat:Int):=by
 rw[show (1:Int)=((1:Nat):Int) from rfl,oZ a 1 (by decide),BitVec.toNat_ushiftRight,Nat.shiftRight_eq_div_pow]
theorem CV {s:Sl} {l:List UInt8} {H:Heap} {K:Int→Heap→Prop} (hb:bI H s l) (hl:l.length<4611686018427387904) (hK:K ((eR l).toNat:Int) H):D8.sp s H K:=by
 refine D8.of ?_
 unfold D8.vc
 have hn:=hb.n
 refine aw l.length (fun k x H1=>H1=H∧x=(((mQ (l.take k)).toNat:Int),(k:Int))) ⟨rfl,rfl⟩ ?_
 rintro k _ H1 next hk ⟨rfl,rfl⟩ hnext
 refine ag (fun hc=>?_) (fun hc=>?_)
 ·have hlt:k<l.length:=by rw[hn] at hc;simpa using hc
  refine dy hb hlt rfl fun ad ha=>?_
  have hc8:(l[k]).toNat<256:=(l[k]).toNat_lt
  have e0:gB .u32 ((mQ (l.take k)).toNat:Int) (IntKind.u32.wrap (((l[k]).toNat:Nat):Int))=((mQ (l.take k)^^^BitVec.ofNat 32 (l[k]).toNat).toNat:Int):=by
   rw[wrap32 (by omega),←toNat_ofNat32 l[k],mw,toNat_ofNat32]
  simp only[e0]
  generalize hr:mQ (l.take k)^^^BitVec.ofNat 32 (l[k]).toNat=r
  refine aw 8 (fun j x H2=>H2=H1∧x=(((bits r j).toNat:Int),(j:Int))) ⟨rfl,rfl⟩ ?_
  rintro j _ _ next2 hj ⟨rfl,rfl⟩ hnext2
  refine ag (fun hc2=>?_) (fun hc2=>?_)
  ·have hj8:j<8:=by simp at hc2;omega
   rw[FN,Gv]
   have hb1:bits r (j+1)=jj (bits r j):=rfl
   generalize hq:bits r j=q at*
   refine ag (fun h1=>?_) (fun h1=>?_)
   ·have hm:q.toNat%2=1:=by simp at h1;omega
    refine hnext2 hj8 _ _ ⟨rfl,?_⟩
    rw[aK j (by omega),show (3988292384:Int)=(C4.toNat:Int) from rfl,mw,hb1]
    unfold jj
    rw[wY,hm];rfl
   ·have hm:q.toNat%2=0:=by simp at h1;omega
    refine hnext2 hj8 _ _ ⟨rfl,?_⟩
    rw[aK j (by omega),hb1]
    unfold jj
    rw[wY,hm];simp
  ·have hj8:j=8:=by simp at hc2;omega
   subst hj8
   refine hnext hlt _ _ ⟨rfl,?_⟩
   rw[aK k (by omega),List.take_succ_eq_append_getElem hlt,rh,FM]
   unfold y7
   rw[hr]
 ·have hge:k=l.length:=by rw[hn] at hc;simp at hc;omega
  rw[hge,List.take_of_length_le (Nat.le_refl _)]
  have e:gB .u32 ((mQ l).toNat:Int) (4294967295:Int)=((eR l).toNat:Int):=by
   rw[show (4294967295:Int)=((BitVec.allOnes 32).toNat:Int) from rfl,mw,BitVec.xor_comm]
   congr 2
  rw[e];exact hK
theorem CC:∀inf z,Tryz.prog.info? eA=some inf→inf.zero=some z→z.cells.toList=EB.enc 0:=by
 intro inf z h1 h2
 have h:((Tryz.prog.info? eA).bind fun i=>i.zero)=some (.int .u8 0):=by kernel_rfl
 rw[h1,Option.bind_some,h2] at h
 cases h;rfl
theorem yq:Tryz.prog.underlying fg=some (.int .i64):=by kernel_rfl
theorem oD {kind:UInt8} {s:Sl} {l:List UInt8} {H:Heap} {K:Sl×Int→Heap→Prop} (hb:bI H s l) (hlen:l.length≤504)
  (hK:∀s' H',aG EB eA H' s' (bp kind l)→Ext H H'→(∀b,aj s' b→H.size≤b)→K (s',0) H'):zO.sp (kind.toNat:Int) s H K:=by
 refine zO.of ?_
 unfold zO.vc
 have hn:=hb.n
 refine ar (by simp;omega) ?_
 have v4:IntKind.u8.wrap (Int.tmod (s.n:Int) 256)=((UInt8.ofNat l.length).toNat:Int):=by
  have:Int.tmod (s.n:Int) 256=((l.length%256:Nat):Int):=by rw[hn];rfl
  rw[this,me]
  congr 1
  rw[UInt8.toNat_ofNat',UInt8.toNat_ofNat'];omega
 have v5:IntKind.u8.wrap (IntKind.i64.wrap (Int.tdiv (s.n:Int) 256))=((UInt8.ofNat (l.length/256)).toNat:Int):=by
  have:Int.tdiv (s.n:Int) 256=((l.length/256:Nat):Int):=by rw[hn];rfl
  rw[this,wrap64 (by omega) (by omega),me]
 rw[v4,v5]
 refine au fun H1 s1 r1 e1=>?_
 have b1:bI H1 s l:=hb.keep fun ad _ hl=>e1.same _ hl id
 have o1:aG EB eA H1 (Sl.mk (some ⟨H.size,0,none⟩) 4 4) [UInt8.ofNat l.length,UInt8.ofNat (l.length/256),kind,157]:=
  ⟨rfl,.inr ⟨H.size,4,_,rfl,Nat.zero_le _,r1,Nat.le_refl _,by unfold maxLen;omega,rfl,rfl⟩⟩
 refine aG.append (E:=EB) hC (s:=Sl.mk (some ⟨H.size,0,none⟩) 4 4) (x:=s) o1 (by rw[cL,gC];exact b1.cells) hn (by simp;omega) (by simp;omega) fun rest H2 o2 g2 _=>?_
 have hn2:=o2.n (by decide)
 have hn2':rest.n=4+l.length:=by simp at hn2;omega
 have hw:IntKind.i64.wrap ((508:Int) - (rest.n:Int))=((504 - l.length:Nat):Int):=by rw[wrap64 (by omega) (by omega)];omega
 rw[hw]
 refine aG.CT (E:=EB) (x0:=0) hC yq CC o2 (by decide) (by simp;omega) fun rest2 H3 o3 g3=>?_
 have hbody:[UInt8.ofNat l.length,UInt8.ofNat (l.length/256),kind,157]++l++List.replicate (504 - l.length) 0=cv kind l:=rfl
 rw[hbody] at o3
 have hbl:=iU (kind:=kind) hlen
 have z1:=e1.size;have z2:=g2.1.size;have z3:=g3.1.size
 have f2:∀b,aj rest b→H.size≤b:=fun b hb=>by
  rcases g2.2 b hb with ⟨ad,q1,q2⟩|q
  ·cases q1;have:H.size=b:=q2;omega
  ·omega
 have f3:∀b,aj rest2 b→H.size≤b:=fun b hb=>by
  rcases g3.2 b hb with q|q
  ·exact f2 b q
  ·omega
 have m03:Ext H H3:=⟨by omega,fun b hb _=>(g3.1.same b (by omega) fun hh=>by have:=f2 b hh;omega).trans ((g2.1.same b (by omega) (by rintro⟨ad,q1,q2⟩;cases q1;have:H.size=b:=q2;omega)).trans (e1.same b hb id))⟩
 refine CV (bM o3) (by omega) ?_
 refine aw 4 (fun k x H5=>x.2=(k:Int)∧aG EB eA H5 x.1 ((mV (eR (cv kind l))).take k)∧Mod (fun _=>False) H3 H5∧∀b,aj x.1 b→H3.size≤b) ⟨rfl,aG.nil _ _ _,.refl _ _,by rintro b ⟨ad,q,_⟩;cases q⟩ ?_
 rintro k ⟨out,i⟩ H5 next hk ⟨hi,o5,m5,f5⟩ hnext
 simp only at hi
 subst hi
 simp only at o5 f5 hnext ⊢
 have z5:=m5.size
 have h4:(mV (eR (cv kind l))).length=4:=rfl
 refine ag (fun hc=>?_) (fun hc=>?_)
 ·have hk4:k<4:=by simp at hc;omega
  have hw8:IntKind.i64.wrap ((8:Int)*(k:Int))=((8*k:Nat):Int):=by rw[wrap64 (by omega) (by omega)];omega
  rw[hw8]
  refine⟨by omega,?_⟩
  have hv:(mV (eR (cv kind l)))[k]?=some (UInt8.ofNat ((eR (cv kind l)).toNat/2^(8*k))):=by
   have:k=0∨k=1∨k=2∨k=3:=by omega
   rcases this with rfl|rfl|rfl|rfl<;>simp[mV]
  rw[oZ _ (8*k) (by omega),me]
  refine aG.push (E:=EB) hC (x:=UInt8.ofNat ((eR (cv kind l)).toNat/2^(8*k))) o5 rfl (by simp;omega) (by simp;omega) fun out2 H7 o7 g7 _=>?_
  have z7:=g7.1.size
  refine hnext hk4 _ _ ⟨aK k (by omega),?_,⟨by omega,fun b hb _=>(g7.1.same b (by omega) fun hh=>by have:=f5 b hh;omega).trans (m5.same b hb id)⟩,fun b hb=>?_⟩
  ·have e:(mV (eR (cv kind l))).take (k+1)=(mV (eR (cv kind l))).take k++[UInt8.ofNat ((eR (cv kind l)).toNat/2^(8*k))]:=by
    rw[List.take_add_one,hv];rfl
   rw[e];exact o7
  ·rcases g7.2 b hb with q|q
   ·exact f5 b q
   ·omega
 ·have hk4:k=4:=by simp at hc;omega
  subst hk4
  have o35:aG EB eA H5 rest2 (cv kind l):=o3.ext m5
  refine aG.append (E:=EB) hC (s:=out) (x:=rest2) o5 o35.rd (o35.n (by decide)) (by simp[hbl];omega) (by simp[hbl];omega) fun out3 H8 o8 g8 _=>?_
  have z8:=g8.1.size
  refine hK out3 H8 o8 ⟨by omega,fun b hb _=>(g8.1.same b (by omega) fun hh=>by have:=f5 b hh;omega).trans ((m5.same b (by omega) id).trans (m03.same b hb id))⟩ fun b hb=>?_
  rcases g8.2 b hb with q|q
  ·have:=f5 b q;omega
  ·omega
theorem zp {s:Sl} {l:List UInt8} {H:Heap} {K:(Int×Sl×Int)→Heap→Prop} (hb:bI H s l) (hcap:s.n≤s.c) (h512:l.length=512)
  (hN:dG l=none→∀H',Ext H H'→K (0,Sl.mk none 0 0,20) H')
  (hK:∀k b s' H',dG l=some (k,b)→b.length≤504→aG EB eA H' s' b→Ext H H'→(∀b,aj s' b→H.size≤b)→K ((k.toNat:Int),s',0) H'):Aw.sp s H K:=by
 refine Aw.of ?_
 unfold Aw.vc
 have hn:=hb.n
 refine ar (by simp;omega) ?_
 refine dy hb (i:=4) (by omega) rfl fun ad4 ha4=>?_
 refine dy hb (i:=5) (by omega) rfl fun ad5 ha5=>?_
 have c4:(l[4]).toNat<256:=(l[4]).toNat_lt
 have c5:(l[5]).toNat<256:=(l[5]).toNat_lt
 have hs:bA l=(l[4]).toNat+256*(l[5]).toNat:=by
  unfold bA;simp[List.getD,h512]
 have hw:IntKind.i64.wrap ((IntKind.i64.wrap ((l[4]).toNat:Int))+(IntKind.i64.wrap ((256:Int)*(IntKind.i64.wrap ((l[5]).toNat:Int)))))=(bA l:Int):=by
  rw[wrap64 (x:=((l[4]).toNat:Int)) (by omega) (by omega),wrap64 (x:=((l[5]).toNat:Int)) (by omega) (by omega),wrap64 (x:=(256:Int)*((l[5]).toNat:Int)) (by omega) (by omega),wrap64 (by omega) (by omega)]
  omega
 rw[hw]
 refine ag (fun hc=>?_) (fun hc=>?_)
 ·have hgt:504<bA l:=by simp at hc;omega
  exact hN (by unfold dG;rw[if_neg (by omega)]) H (.refl _ _)
 have hle:bA l≤504:=by simp at hc;omega
 have hw8:IntKind.i64.wrap ((8:Int)+(bA l:Int))=((8+bA l:Nat):Int):=by rw[wrap64 (by omega) (by omega)];omega
 rw[hw8]
 refine⟨⟨by omega,by omega⟩,⟨by omega,by omega⟩,?_⟩
 have hd:=(hb.drop hcap 8).take (bA l) (by simp only;omega) (s.c - 8)
 have ex:(((8+bA l:Nat):Int).toNat - (8:Int).toNat)=bA l:=by omega
 rw[ex]
 have hdl:((l.drop 8).take (bA l)).length=bA l:=by simp;omega
 refine aG.append (E:=EB) hC (s:=Sl.mk none 0 0) (x:=Sl.mk (eQ s.a s.c 8 1) (bA l) (s.c - 8)) (l:=[]) (aG.nil _ _ _) (by rw[cL,gC];exact hd.cells) (by rw[hdl]) (by simp;omega) (by simp;omega) fun s1 H1 o1 g1 _=>?_
 simp only[List.nil_append] at o1
 have e1:Ext H H1:=g1.1.mono fun b _ hb=>by obtain⟨ad,q,_⟩:=hb;cases q
 have f1:∀b,aj s1 b→H.size≤b:=fun b hb=>(g1.2 b hb).resolve_left (by rintro⟨ad,q,_⟩;cases q)
 have b1:bI H1 s l:=hb.keep fun ad _ hl=>e1.same _ hl id
 refine dy b1 (i:=6) (by omega) rfl fun ad6 ha6=>?_
 refine oD (bM o1) (by rw[hdl];exact hle) fun w H2 o2 e2 f2=>?_
 have b2:bI H2 s l:=b1.keep fun ad _ hl=>e2.same _ hl id
 have z1:=e1.size;have z2:=e2.size
 have h6:l.getD 6 0=l[6]:=by simp[List.getD,h512]
 refine iJ (bM o2) ?_
 refine iJ b2 ?_
 have hcmp:((ca (bp l[6] ((l.drop 8).take (bA l)))).toList==(ca l).toList)=decide (bp l[6] ((l.drop 8).take (bA l))=l):=by
  rw[mS,mS,Bool.eq_iff_iff,beq_iff_eq,decide_eq_true_iff]
 rw[hcmp]
 refine ag (fun hq=>?_) (fun hq=>?_)
 ·have hq':¬bp l[6] ((l.drop 8).take (bA l))=l:=by simpa using hq
  exact hN (by unfold dG;rw[h6,if_neg (by rintro⟨_,q⟩;exact hq' q)]) H2 (e1.trans e2)
 ·have hq':bp l[6] ((l.drop 8).take (bA l))=l:=by simpa using hq
  refine dy b2 (i:=6) (by omega) rfl fun ad6 ha6=>?_
  exact hK l[6] _ s1 H2 (by unfold dG;rw[h6,if_pos ⟨hle,hq'⟩]) (by rw[hdl];exact hle) (o1.ext e2) (e1.trans e2) f1
def ma (i:Option Nat):Int:=match i with|some i=>(i:Int)|none=>-1
theorem jW (i:Option Nat):decide (ma i<0)=i.isNone:=by
 cases i with
 |none=>rfl
 |some i=>exact decide_eq_false (by simp only[ma];omega)
theorem tc (i:Option Nat):decide (ma i≥0)=i.isSome:=by
 cases i with
 |none=>rfl
 |some i=>exact decide_eq_true (by simp only[ma];omega)
theorem fT {b:Nat}:¬aj (Sl.mk none 0 0) b:=by rintro⟨ad,q,_⟩;cases q
theorem sH {H:Heap} {sl:Sl} {l:List Int} (h:aG EI fg H sl l) {j:Nat} (hj:j<l.length) {K:Int→Prop} (hK:K l[j]):ab sl.a fun a=>(0≤(j:Int)∧(j:Int)<(sl.n:Int))∧ld (aa .i64) H (a.add ((j:Int).toNat*1)) K:=by
 obtain⟨ad,ha⟩:=cL.addr h.rd (by decide) (by omega)
 have hn:=h.n (by decide)
 rw[ha]
 refine⟨⟨by omega,by omega⟩,?_⟩
 simp only[Int.toNat_natCast]
 exact aG.one (c:=aa .i64) h (List.getElem?_eq_getElem hj) rfl rfl ha hK
section
variable {ll:Sl} {zs:List RZ} {D:Nat→Prop} {H:Heap} {p dp:Nat} {s:Pl}
theorem qZ {n:ByteArray} {g:Int} {K:Int→Heap→Prop} (h:bq ll zs H p dp s) (hK:K (ma (s.find n g)) H):CF.sp (ay p) n g H K:=by
 refine CF.of ?_
 unfold CF.vc
 simp only[ak]
 have hn:=h.n
 have hlen:=h.wf.len;have hmost:=h.wf.most
 refine aw s.fs.length (fun k x H1=>x=(k:Int)∧H1=H∧∀j (hj:j<s.fs.length),j<k→(s.fs[j].name.toList==n.toList&&decide ((s.fs[j].page:Int)=g))=false) ⟨rfl,rfl,fun j _ h=>by omega⟩ ?_
 rintro k _ H1 next hk ⟨rfl,rfl,hno⟩ hnext
 refine h.head.ld (c:=aq) (i:=2) (x:=ll) rfl ?_
 refine ag (fun hc=>?_) (fun hc=>?_)
 ·have hlt:k<s.fs.length:=by rw[hn] at hc;simpa using hc
  obtain⟨gg,hz⟩:=h.at (List.getElem?_eq_getElem hlt)
  have miss:(s.fs[k].name.toList==n.toList&&decide ((s.fs[k].page:Int)=g))=false→next (IntKind.i64.wrap ((k:Int)+(1:Int))) H1:=fun hq=>by
   refine hnext hlt _ _ ⟨aK k (by omega),rfl,fun j hj hjk=>?_⟩
   rcases Nat.lt_or_ge j k with q|q
   ·exact hno j hj q
   ·have:j=k:=by omega
    subst this;exact hq
  refine h.head.ld (c:=aq) (i:=2) (x:=ll) rfl ?_
  refine h.frames.ld hz (j:=0) (c:=aR) (y:=s.fs[k].name) rfl ?_
  refine ag (fun hq=>?_) (fun hq=>miss (by rw[hq];rfl))
  refine h.head.ld (c:=aq) (i:=2) (x:=ll) rfl ?_
  refine h.frames.ld hz (j:=1) (c:=aa .i64) (y:=(s.fs[k].page:Int)) rfl ?_
  refine ag (fun hq2=>?_) (fun hq2=>miss (by rw[hq];simpa using hq2))
  have:s.find n g=some k:=by
   unfold Pl.find
   rw[List.findIdx?_eq_some_iff_getElem]
   exact⟨hlt,by rw[hq];simpa using hq2,fun j hj=>by simpa using hno j (by omega) hj⟩
  rw[this] at hK
  exact hK
 ·have hge:k=s.fs.length:=by rw[hn] at hc;simp at hc;omega
  have:s.find n g=none:=by
   unfold Pl.find
   rw[List.findIdx?_eq_none_iff]
   intro f hf'
   obtain⟨j,hj,rfl⟩:=List.getElem_of_mem hf'
   exact hno j hj (by omega)
  rw[this] at hK
  exact hK
theorem mR {c:Int} {K:Int→Heap→Prop} (h:bq ll zs H p dp s) (hnx:s.next<9223372036854775807) (hK:K (ma (s.held c)) H):Bx.sp (ay p) c H K:=by
 refine Bx.of ?_
 unfold Bx.vc
 simp only[ak]
 have hn:=h.n
 have hlen:=h.wf.len;have hmost:=h.wf.most;have htick:=h.wf.tick
 refine aw s.fs.length (fun k x H1=>x=(k:Int)∧H1=H∧∀j (hj:j<s.fs.length),j<k→s.fs[j].pins.contains c=false) ⟨rfl,rfl,fun j _ h=>by omega⟩ ?_
 rintro k _ H1 next hk ⟨rfl,rfl,hno⟩ hnext
 refine h.head.ld (c:=aq) (i:=2) (x:=ll) rfl ?_
 refine ag (fun hc=>?_) (fun hc=>?_)
 ·have hlt:k<s.fs.length:=by rw[hn] at hc;simpa using hc
  have hfk:s.fs[k]?=some s.fs[k]:=List.getElem?_eq_getElem hlt
  obtain⟨gg,hz⟩:=h.at hfk
  have hp:=h.frames.ent _ (List.mem_of_getElem? hz)
  have hpl:s.fs[k].pins.length≤s.pins:=jz (fun f:Fr=>f.pins.length) s.fs k _ hfk
  have hpn:=hp.n (by decide)
  simp only at hp hpn
  refine aw s.fs[k].pins.length (fun j x H2=>x=(j:Int)∧H2=H1∧∀q (hq:q<s.fs[k].pins.length),q<j→s.fs[k].pins[q]≠c) ⟨rfl,rfl,fun j _ h=>by omega⟩ ?_
  rintro j _ H2 next2 hj ⟨rfl,rfl,hno2⟩ hnext2
  refine h.head.ld (c:=aq) (i:=2) (x:=ll) rfl ?_
  refine h.frames.ld hz (j:=5) (c:=aq) (y:=gg) rfl ?_
  have hw:IntKind.i64.wrap ((j:Int)+1)=((j+1:Nat):Int):=by rw[wrap64 (by omega) (by omega)];omega
  refine ag (fun hc2=>?_) (fun hc2=>?_)
  ·have hjl:j<s.fs[k].pins.length:=by rw[hpn] at hc2;simpa using hc2
   refine h.head.ld (c:=aq) (i:=2) (x:=ll) rfl ?_
   refine h.frames.ld hz (j:=5) (c:=aq) (y:=gg) rfl ?_
   refine sH hp hjl ?_
   refine ag (fun hq=>?_) (fun hq=>?_)
   ·have hq':s.fs[k].pins[j]=c:=by simpa using hq
    have:s.held c=some k:=by
     unfold Pl.held
     rw[List.findIdx?_eq_some_iff_getElem]
     exact⟨hlt,by rw[List.contains_iff_mem,←hq'];exact List.getElem_mem _,fun j hj=>by simpa using hno j (by omega) hj⟩
    rw[this] at hK
    exact hK
   ·refine hnext2 hjl _ _ ⟨hw,rfl,fun q hq2 hqj=>?_⟩
    rcases Nat.lt_or_ge q j with r|r
    ·exact hno2 q hq2 r
    ·have:q=j:=by omega
     subst this;simpa using hq
  ·have hge:j=s.fs[k].pins.length:=by rw[hpn] at hc2;simp at hc2;omega
   refine hnext hlt _ _ ⟨aK k (by omega),rfl,fun q hq hqk=>?_⟩
   rcases Nat.lt_or_ge q k with r|r
   ·exact hno q hq r
   ·have:q=k:=by omega
    subst this
    rw[Bool.eq_false_iff]
    intro hm
    rw[List.contains_iff_mem] at hm
    obtain⟨i,hi,e⟩:=List.getElem_of_mem hm
    exact hno2 i hi (by omega) e
 ·have hge:k=s.fs.length:=by rw[hn] at hc;simp at hc;omega
  have:s.held c=none:=by
   unfold Pl.held
   rw[List.findIdx?_eq_none_iff]
   intro f hf'
   obtain⟨j,hj,rfl⟩:=List.getElem_of_mem hf'
   exact hno j hj (by omega)
  rw[this] at hK
  exact hK
theorem ph {e:Int} {K:Int→Heap→Prop} (h:bk ll zs D H p dp s)
  (hK:∀H',bk ll zs D H' p dp (s.met e)→Step (fun b=>D b∨fq ll zs p b) (fun b=>D b∨fq ll zs p b) H H'→K e H'):ml.sp (ay p) e H K:=by
 refine ml.of ?_
 unfold ml.vc
 simp only[ak]
 have hw:=h.ae.wf.met e
 refine ag (fun hb=>?_) (fun hb=>?_)
 ·have em:s.met e={s with wrong:=e}:=by unfold Pl.met bad;rw[if_pos hb]
  refine h.ae.head.st (i:=6) (by decide:6<7) (by rfl) fun H' r m z=>?_
  have hp:bq ll zs H' p dp (s.met e):=h.ae.pO (by rw[em];exact r) m (by rw[em]) hw
  obtain⟨q1,q2⟩:=h.il hp (by rw[em]) (m.mono fun b _ q=>.inl q) (fun b q=>.inl q)
  exact hK H' q1 q2
 ·have em:s.met e=s:=by unfold Pl.met bad;rw[hb];rfl
  exact hK H (by rw[em];exact h) (.refl _ _)
theorem nR.erase {H':Heap} {ll':Sl} {i:Nat} (h:nR H ll zs) (harr:aG lQ sP H' ll' (zs.eraseIdx i)) (hm:∀u∈zs,∀b,aj u.2 b→b<H.size→H'[b]?=H[b]?):nR H' ll' (zs.eraseIdx i):=by
 refine⟨harr,fun z hz=>?_,?_⟩
 ·have hz':=List.mem_of_mem_eraseIdx hz
  exact(h.ent z hz').keep fun b hb hl=>hm z hz' b hb hl
 ·intro a c u v h1 h2 hac
  rw[List.getElem?_eraseIdx] at h1 h2
  split at h1<;>split at h2<;>exact h.apart _ _ u v h1 h2 (by omega)
theorem nR.push {H':Heap} {ll':Sl} {f:Fr} (h:nR H ll zs) (hp:f.pins=[]) (harr:aG lQ sP H' ll' (zs++[(f,Sl.mk none 0 0)])) (hm:∀u∈zs,∀b,aj u.2 b→b<H.size→H'[b]?=H[b]?):nR H' ll' (zs++[(f,Sl.mk none 0 0)]):=by
 refine⟨harr,fun z hz=>?_,?_⟩
 ·rcases List.mem_append.1 hz with q|q
  ·exact(h.ent z q).keep fun b hb hl=>hm z q b hb hl
  ·simp at q;subst q
   simp only[hp]
   exact aG.nil _ _ _
 ·intro i j u v h1 h2 hij b hb1 hb2
  have ex:∀(i:Nat) (u:RZ),(zs++[(f,Sl.mk none 0 0)])[i]?=some u→(zs[i]?=some u)∨(i=zs.length∧u=(f,Sl.mk none 0 0)):=by
   intro i u h1
   by_cases hi:i<zs.length
   ·rw[List.getElem?_append_left hi] at h1;exact .inl h1
   ·rw[List.getElem?_append_right (by omega)] at h1
    have:i=zs.length:=by
     have:=(List.getElem?_eq_some_iff.1 h1).1;simp at this;omega
    subst this
    simp at h1
    exact .inr ⟨rfl,h1.symm⟩
  rcases ex i u h1 with q1|⟨e1,rfl⟩<;>rcases ex j v h2 with q2|⟨e2,rfl⟩
  ·exact h.apart i j u v q1 q2 hij b hb1 hb2
  ·exact fT hb2
  ·exact fT hb1
  ·omega
theorem xt (i:Nat):yT (zs.eraseIdx i)=(yT zs).eraseIdx i:=mZ _ _ _
theorem rv {i:Nat} {K:Unit→Heap→Prop} (h:bk ll zs D H p dp s) (hi:i<s.fs.length)
  (hK:∀ll' H',bk ll' (zs.eraseIdx i) D H' p dp (s.drop i)→Step (fun b=>D b∨fq ll zs p b) (fun b=>D b∨fq ll' (zs.eraseIdx i) p b) H H'→K () H'):BZ.sp (ay p) i H K:=by
 refine BZ.of ?_
 unfold BZ.vc
 simp only[ak]
 have hlen:=h.ae.wf.len;have hmost:=h.ae.wf.most
 have hn:=h.ae.n
 have hzl:=h.ae.len
 have hcap:=h.ae.frames.arr.cap
 refine h.ae.head.ld (c:=aq) (i:=2) (x:=ll) rfl ?_
 refine⟨⟨by omega,by omega⟩,?_⟩
 have t1:cL lQ H (eQ ll.a ll.c 0 7) (zs.take i):=by rw[qO];exact h.ae.frames.arr.rd.take
 refine aG.append (E:=lQ) Ff (s:=Sl.mk none 0 0) (x:=⟨eQ ll.a ll.c 0 7,(i:Int).toNat - 0,ll.c - 0⟩) (l:=[]) (aG.nil _ _ _) t1 (by simp;omega) (by simp;omega) (by simp;omega) fun l1 H1 o1 g1 _=>?_
 have f1:∀b,aj l1 b→H.size≤b:=fun b hb=>(g1.2 b hb).resolve_left fT
 have m1:Ext H H1:=g1.1.mono fun b _ hb=>fT hb
 have h1:=h.ext m1
 refine h1.ae.head.ld (c:=aq) (i:=2) (x:=ll) rfl ?_
 have hw:IntKind.i64.wrap ((i:Int)+1)=((i+1:Nat):Int):=aK i (by omega)
 simp only[hw]
 refine⟨⟨by omega,by omega⟩,?_⟩
 have t2:cL lQ H1 (eQ ll.a ll.c (i+1) 7) (zs.drop (i+1)):=cL.drop h1.ae.frames.arr.rd (by omega)
 simp only[Int.toNat_natCast]
 refine aG.append (E:=lQ) Ff (s:=l1) (x:=⟨eQ ll.a ll.c (i+1) 7,ll.n - (i+1),ll.c - (i+1)⟩) o1 t2 (by simp;omega) (by simp;omega) (by simp;omega) fun l2 H2 o2 g2 _=>?_
 have z1:=m1.size;have z2:=g2.1.size
 have f2:∀b,aj l2 b→H.size≤b:=fun b hb=>by
  rcases g2.2 b hb with q|q
  ·exact f1 b q
  ·omega
 have m2:Ext H H2:=⟨by omega,fun b hb _=>(g2.1.same b (by omega) fun hh=>by have:=f1 b hh;omega).trans (m1.same b hb id)⟩
 have h2:=h.ext m2
 refine h2.ae.head.st (i:=2) (by decide:2<7) (by rfl) fun H3 r3 m3 s3=>?_
 have hpl:=az h.ae.head
 have off:=bq.off h.ae.head h.ae.frames
 have hp3:bq l2 (zs.eraseIdx i) H3 p dp (s.drop i):=by
  refine⟨r3,?_,?_,h.ae.wf.drop i⟩
  ·refine h2.ae.frames.erase ?_ (fun u hu b hb hl=>m3.same b hl fun e=>off (e▸.inr ⟨u,hu,hb⟩))
   rw[List.eraseIdx_eq_take_drop_succ]
   simp only[List.nil_append] at o2
   exact o2.keep fun b hb hl=>m3.same b hl fun e=>by have:=f2 b hb;omega
  ·show s.fs.eraseIdx i=_
   rw[xt,h.ae.fs]
 have mm:Mod (fq ll zs p) H H3:=⟨by omega,fun b hb hne=>(m3.same b (by omega) fun e=>hne (.inl e)).trans (m2.same b hb id)⟩
 obtain⟨q1,q2⟩:=h.il hp3 rfl mm (by
  rintro b (q|⟨u,hu,q⟩)
  ·exact .inr (f2 b q)
  ·exact .inl (.inr ⟨u,List.mem_of_mem_eraseIdx hu,q⟩))
 exact hK l2 H3 q1 q2
theorem iG (h:aG lQ sP H ll zs) {i j:Nat} {z z':RZ} {v:Value} (hz:zs[i]?=some z) (hj:j<7) (hp:iI v=true) (hy:lQ.enc z'=(lQ.enc z).set j v) {K:Heap→Prop}
  (hK:∀H',aG lQ sP H' ll (zs.set i z')→Mod (aj ll) H H'→H'.size=H.size→K H'):
  ab ll.a fun a=>(0≤(i:Int)∧(i:Int)<(ll.n:Int))∧Go.Proofs.YtdpdmbceakdlmaaGreatDoor.st H ((a.add ((i:Int).toNat*7)).add j) v K:=by
 have hi:=(List.getElem?_eq_some_iff.1 hz).1
 obtain⟨ad,ha⟩:=cL.addr h.rd (by decide) (by omega)
 rw[ha]
 refine⟨⟨by omega,by rw[h.n (by decide)];omega⟩,?_⟩
 exact aG.st (E:=lQ) h ha hz hj hp hy (by simp[lQ]) hK
theorem sD (h:aG lQ sP H ll zs) {i j:Nat} {z:RZ} (hz:zs[i]?=some z) {c:dN} {y:c.α} (hj:(lQ.enc z)[j]?=some (c.enc y)) {ad:Addr} (ha:ll.a=some ad):cp H ((ad.add ((i:Int).toNat*7)).add j)=some (c.enc y):=by
 obtain⟨ad',e1,hc⟩:=cL.cell h.rd hz hj
 rw[ha] at e1;cases e1
 rw[add_add]
 exact hc
theorem bk.tt {H':Heap} {i:Nat} {f f':Fr} {g:Sl} {s':Pl} (h:bk ll zs D H p dp s) (hz:zs[i]?=some (f,g)) (harr:aG lQ sP H' ll (zs.set i (f',g))) (hm:Mod (aj ll) H H')
  (hpins:f'.pins=f.pins) (hs:s'.fs=s.fs.modify i fun _=>f') (hw:s'.WF) (hd:s'.d=s.d) (hh:dq dp ll s'=dq dp ll s):
  bk ll (zs.set i (f',g)) D H' p dp s'∧Step (fun b=>D b∨fq ll zs p b) (fun b=>D b∨fq ll (zs.set i (f',g)) p b) H H':=by
 have hzm:=List.mem_of_getElem? hz
 have hfs:s.fs[i]?=some f:=by rw[h.ae.fs];simp[yT,hz]
 obtain⟨t1,t2⟩:=h.ae.frames.set hz harr (z':=(f',g)) (by
  have:=h.ae.frames.ent _ hzm
  simp only at this ⊢
  rw[hpins]
  exact this.keep fun b hb hl=>hm.same b hl (h.ae.frames.fm hzm b hb)) (fun u hu b hb _ hl=>hm.same b hl (h.ae.frames.fm hu b hb)) (fun b hb=>.inl hb)
 have hp:bq ll (zs.set i (f',g)) H' p dp s':=by
  refine⟨?_,t1,?_,hw⟩
  ·rw[hh]
   exact hm.at h.ae.head fun q=>bq.off h.ae.head h.ae.frames (.inl q)
  ·rw[hs,aM hfs,h.ae.fs];simp[yT,List.map_set]
 exact h.il hp hd (hm.mono fun b _ q=>.inr (.inl q)) t2
theorem oU {i:Nat} {f:Fr} {g:Sl} {K:Int→Heap→Prop} (h:bk ll zs D H p dp s) (hz:zs[i]?=some (f,g)) (hlogs:s.d.logs+1<68719476736)
  (hK:∀zs' D' H',bk ll zs' D' H' p dp (s.put i).1→Step (fun b=>D b∨fq ll zs p b) (fun b=>D' b∨fq ll zs' p b) H H'→K (s.put i).2 H'):Cc.sp (ay p) i H K:=by
 refine Cc.of ?_
 unfold Cc.vc
 simp only[ak]
 have hzm:=List.mem_of_getElem? hz
 have hfs:s.fs[i]?=some f:=by rw[h.ae.fs];simp[yT,hz]
 have hil:=(List.getElem?_eq_some_iff.1 hfs).1
 have hfr:=Pl.cJ hfs
 have hb:=h.ae.wf.room f (List.mem_of_getElem? hfs)
 have hn:=h.ae.n
 have hzl:=h.ae.len
 obtain⟨ad,ha⟩:=cL.addr h.ae.frames.arr.rd (by decide) (by omega)
 have hlt:=h.lt
 refine⟨fun A=>ai A p nW (dq dp ll s)∧aG lQ sP A ll zs,⟨h.ae.head,h.ae.frames.arr⟩,?_⟩
 refine⟨ll,fun A hA=>by rw[aW];exact hA.1.cell rfl,?_⟩
 simp only[ha,ak]
 refine⟨⟨by omega,by omega⟩,?_⟩
 refine⟨(f.kind.toNat:Int),fun A hA=>sD (c:=aa .u8) hA.2 hz (j:=2) (y:=(f.kind.toNat:Int)) rfl ha,?_⟩
 refine h.ae.head.ld (c:=aq) (i:=2) (x:=ll) rfl ?_
 refine h.ae.frames.ld hz (j:=3) (c:=aR) (y:=ca f.b) rfl ?_
 refine vB fun x4 H1 b1 e1 f1=>?_
 have h1:=h.ext e1
 refine⟨⟨h1.ae.head,h1.ae.frames.arr⟩,?_⟩
 refine oD b1 hb fun r H2 o2 e2 f2=>?_
 have h2:=h1.ext e2
 have z1:=e1.size;have z2:=e2.size
 refine h2.ae.head.ld (c:=al) (i:=0) (x:=ay dp) rfl ?_
 refine h2.ae.head.ld (c:=aq) (i:=2) (x:=ll) rfl ?_
 refine h2.ae.frames.ld hz (j:=0) (c:=aR) (y:=f.name) rfl ?_
 refine h2.ae.head.ld (c:=aq) (i:=2) (x:=ll) rfl ?_
 refine h2.ae.frames.ld hz (j:=1) (c:=aa .i64) (y:=(f.page:Int)) rfl ?_
 refine qX h2.bc (bM o2) (fun ad ha hD=>?_) hlogs fun D' H3 a3 S3=>?_
 ·have:=f2 ad.block ⟨ad,ha,rfl⟩
  have:=hlt _ (.inl hD);omega
 have hput:s.put i=if (s.d.write f.name f.page f.cV).2=0 then ((s.aV (s.d.write f.name f.page f.cV).1).aZ i Fr.clean,0) else (s.aV (s.d.write f.name f.page f.cV).1,(s.d.write f.name f.page f.cV).2):=by
  unfold Pl.put;rw[hfr]
 rw[hput] at hK
 obtain⟨q1,q2⟩:=h2.jC a3 S3
 have q2':Step (fun b=>D b∨fq ll zs p b) (fun b=>D' b∨fq ll zs p b) H H3:=q2.ahead (e1.trans e2)
 show br ((s.d.write f.name f.page f.cV).2==0) _ _
 refine ag (fun hq=>?_) (fun hq=>?_)
 ·have hq':(s.d.write f.name f.page f.cV).2=0:=by simpa using hq
  rw[if_pos hq'] at hK
  refine q1.ae.head.ld (c:=aq) (i:=2) (x:=ll) rfl ?_
  refine iG q1.ae.frames.arr hz (j:=4) (z':=(f.clean,g)) (v:=.bool false) (by decide) rfl rfl fun H4 o4 m4 s4=>?_
  obtain⟨u1,u2⟩:=q1.tt (i:=i) (s':=(s.aV (s.d.write f.name f.page f.cV).1).aZ i Fr.clean) hz o4 m4 rfl (by
   show s.fs.modify i Fr.clean=s.fs.modify i fun _=>f.clean
   rw[aM hfs,aM hfs]) ((h.ae.wf.aV _).aZ hfs rfl rfl rfl hb) rfl rfl
  have:=hK _ D' H4 u1 (q2'.trans u2)
  show K (s.d.write f.name f.page f.cV).2 H4
  rw[hq'];exact this
 ·have hq':(s.d.write f.name f.page f.cV).2≠0:=by simpa using hq
  rw[if_neg hq'] at hK
  exact hK zs D' H3 q1 q2'
theorem ou (f:Fr):∀(l:List Fr) (i:Nat) (b:Option (Nat×Int)),eV (l++[f]) i b=if f.pins.isEmpty&&jl f (eV l i b) then some (i+l.length,f.left) else eV l i b
 |[],i,b=>by simp[eV]
 |a::l,i,b=>by
   rw[List.cons_append]
   unfold eV
   rw[ou f l (i+1)]
   simp only[List.length_cons,Nat.add_assoc,Nat.add_comm 1]
theorem qV {K:Int→Heap→Prop} (h:bk ll zs D H p dp s) (hlogs:s.d.logs+1<68719476736)
  (hK:∀ll' zs' D' H',bk ll' zs' D' H' p dp s.room.1→Step (fun b=>D b∨fq ll zs p b) (fun b=>D' b∨fq ll' zs' p b) H H'→K s.room.2 H'):BC.sp (ay p) H K:=by
 refine BC.of ?_
 unfold BC.vc
 simp only[ak]
 have hn:=h.ae.n
 have hlen:=h.ae.wf.len;have hmost:=h.ae.wf.most
 refine h.ae.head.ld (c:=aq) (i:=2) (x:=ll) rfl ?_
 refine h.ae.head.ld (c:=aa .i64) (i:=1) (x:=(s.most:Int)) rfl ?_
 refine ag (fun hc=>?_) (fun hc=>?_)
 ·have hlt:s.fs.length<s.most:=by simp at hc;omega
  have e:s.room=(s,0):=by unfold Pl.room;rw[if_pos hlt]
  rw[e] at hK
  exact hK ll zs D H h (.refl _ _)
 have hge:¬s.fs.length<s.most:=by simp at hc;omega
 refine aw s.fs.length (fun k x H1=>H1=H∧x.1=ma ((eV (s.fs.take k) 0 none).map (·.1))∧x.2=(k:Int)) ⟨rfl,rfl,rfl⟩ ?_
 rintro k ⟨bi,i⟩ H1 next hk ⟨rfl,hbi,hi⟩ hnext
 simp only at hbi hi hnext ⊢
 subst hbi
 subst hi
 refine h.ae.head.ld (c:=aq) (i:=2) (x:=ll) rfl ?_
 refine ag (fun hc=>?_) (fun hc=>?_)
 ·have hlt:k<s.fs.length:=by rw[hn] at hc;simpa using hc
  have hfk:s.fs[k]?=some s.fs[k]:=List.getElem?_eq_getElem hlt
  obtain⟨gg,hz⟩:=h.ae.at hfk
  have hsn:eV (s.fs.take (k+1)) 0 none=if s.fs[k].pins.isEmpty&&jl s.fs[k] (eV (s.fs.take k) 0 none) then some (k,s.fs[k].left) else eV (s.fs.take k) 0 none:=by
   rw[List.take_succ_eq_append_getElem hlt,ou]
   simp[Nat.min_eq_left (Nat.le_of_lt hlt)]
  have hok:pw (s.fs.take k) (eV (s.fs.take k) 0 none):=by
   have:=oM (s.fs.take k) [] none (by intro f hf;cases hf)
   simpa using this
  have hw:=aK k (by omega)
  rw[hw]
  refine h.ae.head.ld (c:=aq) (i:=2) (x:=ll) rfl ?_
  refine h.ae.frames.ld hz (j:=5) (c:=aq) (y:=gg) rfl ?_
  have hpn:=(h.ae.frames.ent _ (List.mem_of_getElem? hz)).n (by decide)
  simp only at hpn
  have hpe:(((gg.n:Int)==(0:Int))==true)=s.fs[k].pins.isEmpty:=by
   rw[hpn];cases s.fs[k].pins<;>simp
   omega
  rw[hpe]
  cases hpi:s.fs[k].pins.isEmpty with
  |false=>
    rw[hpi,Bool.false_and,if_neg (by simp)] at hsn
    exact ar rfl (hnext hlt _ _ ⟨rfl,by rw[hsn],rfl⟩)
  |true=>
    refine aU rfl ?_
    rw[hpi,Bool.true_and] at hsn
    rw[jW]
    cases hb:eV (s.fs.take k) 0 none with
    |none=>
      rw[hb] at hsn
      refine aU rfl (hnext hlt _ _ ⟨rfl,?_,rfl⟩)
      rw[hsn];rfl
    |some jt=>
      obtain⟨j,t⟩:=jt
      rw[hb] at hsn hok
      obtain⟨fj,h1,h2,h3,h4⟩:=hok
      have hjk:j<k:=by have:=(List.getElem?_eq_some_iff.1 h1).1;simp at this;omega
      have hfj:s.fs[j]?=some fj:=by rw[List.getElem?_take,if_pos hjk] at h1;exact h1
      obtain⟨gj,hzj⟩:=h.ae.at hfj
      refine ar rfl ?_
      refine h.ae.head.ld (c:=aq) (i:=2) (x:=ll) rfl ?_
      refine h.ae.frames.ld hz (j:=6) (c:=aa .i64) (y:=s.fs[k].left) rfl ?_
      refine h.ae.head.ld (c:=aq) (i:=2) (x:=ll) rfl ?_
      refine h.ae.frames.ld hzj (j:=6) (c:=aa .i64) (y:=fj.left) rfl ?_
      rw[h3]
      refine ag (fun hq=>?_) (fun hq=>?_)
      ·have:jl s.fs[k] (some (j,t))=true:=hq
       rw[this,if_pos rfl] at hsn
       exact hnext hlt _ _ ⟨rfl,by rw[hsn];rfl,rfl⟩
      ·have:jl s.fs[k] (some (j,t))=false:=hq
       rw[this,if_neg (by simp)] at hsn
       exact hnext hlt _ _ ⟨rfl,by rw[hsn],rfl⟩
 ·have hke:k=s.fs.length:=by rw[hn] at hc;simp at hc;omega
  rw[hke,List.take_of_length_le (Nat.le_refl _)]
  have hbest:(eV s.fs 0 none).map (·.1)=s.iF:=rfl
  rw[hbest]
  unfold Pl.room at hK
  rw[if_neg hge] at hK
  rw[jW]
  cases hb:s.iF with
  |none=>
    rw[hb] at hK
    exact hK ll zs D _ h (.refl _ _)
  |some i=>
    rw[hb] at hK
    simp only at hK
    refine ar rfl ?_
    obtain⟨f,hf,hfp,_⟩:=Pl.fX hb
    obtain⟨g,hz⟩:=h.ae.at hf
    have hfr:=Pl.cJ hf
    have hil:=(List.getElem?_eq_some_iff.1 hf).1
    rw[hfr] at hK
    refine h.ae.head.ld (c:=aq) (i:=2) (x:=ll) rfl ?_
    refine h.ae.frames.ld hz (j:=4) (c:=ax) (y:=f.dirty) rfl ?_
    cases hdr:f.dirty with
    |true=>
      rw[hdr,if_pos rfl] at hK
      refine aU rfl ?_
      refine oU h hz hlogs fun zs' D' H' h' S'=>?_
      refine ag (fun hq=>?_) (fun hq=>?_)
      ·have hq':¬(s.put i).2=0:=by simpa using hq
       rw[if_neg hq'] at hK
       exact hK ll zs' D' H' h' S'
      ·have hq':(s.put i).2=0:=by simpa using hq
       rw[if_pos hq'] at hK
       refine rv h' (by rw[Pl.ki];exact hil) fun ll2 H2 h2 S2=>?_
       exact hK ll2 _ D' H2 h2 (S'.trans S2)
    |false=>
      rw[hdr,if_neg (by simp)] at hK
      refine ar rfl ?_
      exact rv h hil fun ll2 H2 h2 S2=>hK ll2 _ D H2 h2 S2
theorem qI {t:Pl} {i:Nat} {f:Fr} {g:Sl} {K:Int→Heap→Prop} (hd:ai H p nW (dq dp ll t)) (hfr:nR H ll zs) (hz:zs[i]?=some (f,g)) (hzl:zs.length≤4097) (hpl:f.pins.length<1099511627775) (hn0:0≤t.next) (hnx:t.next<9223372036854775807)
  (hK:∀g' H',ai H' p nW (dq dp ll {t with next:=cR (t.next+1)})→nR H' ll (zs.set i (Fr.aQ t.next f,g'))→Mod (fq ll zs p) H H'→(∀b,xS ll (zs.set i (Fr.aQ t.next f,g')) b→xS ll zs b∨H.size≤b)→K t.next H'):BK.sp (ay p) i H K:=by
 refine BK.of ?_
 unfold BK.vc
 simp only[ak]
 have hzm:=List.mem_of_getElem? hz
 have hil:=(List.getElem?_eq_some_iff.1 hz).1
 have hn:=hfr.arr.n (by decide)
 have hg:=hfr.ent _ hzm
 simp only at hg
 obtain⟨ad,ha⟩:=cL.addr hfr.arr.rd (by decide) (by omega)
 have off:=bq.off hd hfr
 have aoff:=hfr.fm hzm
 simp only at aoff
 refine⟨fun A=>ai A p nW (dq dp ll t)∧aG lQ sP A ll zs,⟨hd,hfr.arr⟩,?_⟩
 refine⟨ll,fun A hA=>by rw[aW];exact hA.1.cell rfl,?_⟩
 refine⟨ll,fun A hA=>by rw[aW];exact hA.1.cell rfl,?_⟩
 simp only[ha,ak]
 refine⟨⟨by omega,by omega⟩,?_⟩
 refine⟨g,fun A hA=>sD (c:=aq) hA.2 hz (j:=5) (y:=g) rfl ha,?_⟩
 refine hd.ld (c:=aa .i64) (i:=3) (x:=t.next) rfl ?_
 refine aG.zM (E:=EI) zK (x:=t.next) hg rfl (by omega) (by omega) _ (fun H1 s1 m1=>⟨hd.ext m1,hfr.arr.ext m1⟩) fun s2 H2 o2 g2 _=>?_
 have d2:ai H2 p nW (dq dp ll t):=hd.mod g2.1 fun hb=>off (.inr ⟨_,hzm,hb⟩)
 have a2:aG lQ sP H2 ll zs:=hfr.arr.keep fun b hb hl=>g2.1.same b hl fun hh=>aoff b hh hb
 refine⟨⟨d2,a2⟩,?_⟩
 have hst:=iG a2 hz (j:=5) (z':=(Fr.aQ t.next f,s2)) (v:=s2.v) (by decide) rfl rfl (K:=fun H3=>ld (aa .i64) H3 (Addr.add ⟨p,0,none⟩ 3) fun(x_4:Int)=>st H3 (Addr.add ⟨p,0,none⟩ 3) (.int .i64 (IntKind.i64.wrap (x_4+(1:Int)))) fun H4=>ld (aa .i64) H4 (Addr.add ⟨p,0,none⟩ 3) fun(x_5:Int)=>K (IntKind.i64.wrap (x_5 - (1:Int))) H4) fun H3 o3 m3 s3=>?_
 ·simp only[ha,ak] at hst
  exact hst
 have d3:ai H3 p nW (dq dp ll t):=d2.mod m3 fun hb=>off (.inl hb)
 refine d3.ld (c:=aa .i64) (i:=3) (x:=t.next) rfl ?_
 refine d3.st (i:=3) (by decide:3<7) (by rfl) fun H4 d4 m4 s4=>?_
 have d4':ai H4 p nW (dq dp ll {t with next:=cR (t.next+1)}):=d4
 refine d4'.ld (c:=aa .i64) (i:=3) (x:=cR (t.next+1)) rfl ?_
 have hw:IntKind.i64.wrap (cR (t.next+1) - 1)=t.next:=by
  unfold cR
  rw[wrap64 (x:=t.next+1) (by omega) (by omega),wrap64 (by omega) (by omega)];omega
 rw[hw]
 have z2:=g2.1.size
 have s2p:∀b,aj s2 b→b≠p:=fun b hb e=>by
  obtain⟨c,q⟩:=o2.obj b hb
  rw[e] at q
  exact absurd (aL d2 q) (by decide)
 have s2a:∀b,aj s2 b→¬aj ll b:=o2.apart a2 (by decide)
 obtain⟨t1,t2⟩:=hfr.set (H':=H4) hz (z':=(Fr.aQ t.next f,s2)) (o3.keep fun b hb hl=>m4.same b hl fun e=>off (e▸.inl hb))
  (o2.keep fun b hb hl=>(m4.same b (by omega) (s2p b hb)).trans (m3.same b hl (s2a b hb)))
  (fun u hu b hb hne hl=>(m4.same b (by omega) fun e=>off (e▸.inr ⟨u,hu,hb⟩)).trans ((m3.same b (by omega) (hfr.fm hu b hb)).trans (g2.1.same b hl hne)))
  (fun b hb=>g2.2 b hb)
 refine hK s2 H4 d4' t1 ?_ t2
 exact((g2.1.mono fun b _ q=>.inr (.inr ⟨_,hzm,q⟩)).trans (m3.mono fun b _ q=>.inr (.inl q))).trans (m4.mono fun b _ q=>.inl q)
theorem AW {i:Nat} {f:Fr} {g:Sl} {K:Int→Heap→Prop} (h:bk ll zs D H p dp s) (hz:zs[i]?=some (f,g)) (hnx:s.next<1099511627775)
  (hK:∀zs' H',bk ll zs' D H' p dp (s.dh i)→Step (fun b=>D b∨fq ll zs p b) (fun b=>D b∨fq ll zs' p b) H H'→K s.next H'):BK.sp (ay p) i H K:=by
 have hfs:s.fs[i]?=some f:=by rw[h.ae.fs];simp[yT,hz]
 have hpl:f.pins.length≤s.pins:=jz (fun f:Fr=>f.pins.length) s.fs i f hfs
 have ht:=h.ae.wf.tick;have hlen:=h.ae.wf.len;have hmost:=h.ae.wf.most;have hzl:=h.ae.len
 refine qI (t:=s) h.ae.head h.ae.frames hz (by omega) (by omega) (by omega) (by omega) fun g' H' d' r' m' o'=>?_
 have hp:bq ll (zs.set i (Fr.aQ s.next f,g')) H' p dp (s.dh i):=by
  refine⟨d',r',?_,h.ae.wf.dh hfs (by omega)⟩
  show s.fs.modify i (Fr.aQ s.next)=_
  rw[aM hfs,h.ae.fs];simp[yT,List.map_set]
 obtain⟨q1,q2⟩:=h.il hp rfl m' o'
 exact hK _ H' q1 q2
theorem qx {f:Fr} {K:Int→Heap→Prop} (h:bk ll zs D H p dp s) (hl:s.fs.length<s.most) (hnx:s.next<1099511627775) (hk:s.find f.name f.page=none) (hb:f.b.length≤504) (hpg:f.page<1048577) (hnm:f.name.size≤9223372036854775807) (hp:f.pins=[]) (hlf:f.left=0) (hdf:f.dirty=false)
  (hK:∀ll' zs' H',bk ll' zs' D H' p dp (s.take f)→Step (fun b=>D b∨fq ll zs p b) (fun b=>D b∨fq ll' zs' p b) H H'→K s.next H'):
  xi.sp (ay p) f.name (f.page:Int) (f.kind.toNat:Int) (ca f.b) false (Sl.mk none 0 0) (0:Int) H K:=by
 refine xi.of ?_
 unfold xi.vc
 simp only[ak]
 have ht:=h.ae.wf.tick;have hlen:=h.ae.wf.len;have hmost:=h.ae.wf.most;have hzl:=h.ae.len;have hn:=h.ae.n
 have hwt:=h.ae.wf.take hl (by omega) hk hb hpg hnm hp hlf
 refine au fun H1 s1 r1 e1=>?_
 have h1:=h.ext e1
 refine⟨fun A=>ai A p nW (dq dp ll s),h1.ae.head,?_⟩
 refine⟨ll,fun A hA=>by rw[aW];exact hA.cell rfl,?_⟩
 refine ai.dE (x:=(f.name,(f.page:Int),(f.kind.toNat:Int),ca f.b,false,Sl.mk none 0 0,(0:Int))) r1 rfl rfl ?_
 refine aG.zM (E:=lQ) Ff (x:=(f,Sl.mk none 0 0)) h1.ae.frames.arr (by simp[lQ,hlf,hdf]) (by omega) (by omega) (fun A=>ai A p nW (dq dp ll s)) (fun H2 s2 m2=>h1.ae.head.ext m2) fun s3 H3 o3 g3 _=>?_
 have off:=bq.off h.ae.head h.ae.frames
 have d3:ai H3 p nW (dq dp ll s):=h1.ae.head.mod g3.1 fun q=>off (.inl q)
 refine d3.st (i:=2) (by decide:2<7) (by rfl) fun H4 d4 m4 s4=>?_
 have d4':ai H4 p nW (dq dp s3 s):=d4
 refine d4'.ld (c:=aa .i64) (i:=5) (x:=(s.peak:Int)) rfl ?_
 refine d4'.ld (c:=aq) (i:=2) (x:=s3) rfl ?_
 have hs3:=o3.n (by decide)
 have hs3':s3.n=s.fs.length+1:=by rw[hs3];simp;omega
 have ep:(if (s3.n:Int)>(s.peak:Int) then (s3.n:Int) else (s.peak:Int))=((max s.peak (s.fs.length+1):Nat):Int):=by
  rw[hs3'];split<;>omega
 simp only[ep]
 refine d4'.st (i:=5) (by decide:5<7) (by rfl) fun H5 d5 m5 s5=>?_
 have d5':ai H5 p nW (dq dp s3 (s.add f)):=d5
 refine d5'.ld (c:=aq) (i:=2) (x:=s3) rfl ?_
 have hw1:IntKind.i64.wrap ((s3.n:Int) - 1)=(s.fs.length:Int):=by rw[hs3',wrap64 (by omega) (by omega)];omega
 rw[hw1]
 have z1:=e1.size;have z3:=g3.1.size
 have s3p:∀b,aj s3 b→b≠p:=fun b hb e=>by
  obtain⟨c,q⟩:=o3.obj b hb
  rw[e] at q
  exact absurd (aL d3 q) (by decide)
 have m05:Mod (fq ll zs p) H H5:=(((Ext.mod e1).trans (g3.1.mono fun b _ q=>.inr (.inl q))).trans (m4.mono fun b _ q=>.inl q)).trans (m5.mono fun b _ q=>.inl q)
 have o5:aG lQ sP H5 s3 (zs++[(f,Sl.mk none 0 0)]):=o3.keep fun b hb hl=>(m5.same b (by omega) (s3p b hb)).trans (m4.same b hl (s3p b hb))
 have fr5:nR H5 s3 (zs++[(f,Sl.mk none 0 0)]):=by
  refine h.ae.frames.push hp o5 fun u hu b hb hl=>?_
  have hne:b≠p:=fun e=>off (e▸.inr ⟨u,hu,hb⟩)
  exact(m5.same b (by omega) hne).trans ((m4.same b (by omega) hne).trans ((g3.1.same b (by omega) (h.ae.frames.fm hu b hb)).trans (e1.same b hl id)))
 have hz5:(zs++[((f,Sl.mk none 0 0):RZ)])[s.fs.length]?=some (f,Sl.mk none 0 0):=by rw[hzl];simp
 refine qI (t:=s.add f) d5' fr5 hz5 (by simp;omega) (by rw[hp];simp) (by show 0≤s.next;omega) (by show s.next<_;omega) fun g' H' d' r' m' o'=>?_
 have hpG:bq s3 ((zs++[(f,Sl.mk none 0 0)]).set s.fs.length (Fr.aQ s.next f,g')) H' p dp (s.take f):=by
  refine⟨d',r',?_,hwt⟩
  show (s.fs++[f]).modify s.fs.length (Fr.aQ s.next)=_
  have hadd:(s.fs++[f])[s.fs.length]?=some f:=by simp
  rw[aM hadd,h.ae.fs];simp[yT,List.map_set]
 have o3':∀b,xS s3 (zs++[(f,Sl.mk none 0 0)]) b→xS ll zs b∨H.size≤b:=by
  rintro b (q|⟨u,hu,q⟩)
  ·rcases g3.2 b q with r|r
   ·exact .inl (.inl r)
   ·exact .inr (by omega)
  ·rcases List.mem_append.1 hu with r|r
   ·exact .inl (.inr ⟨u,r,q⟩)
   ·simp at r;subst r;exact absurd q fT
 have zz:H.size≤H5.size:=m05.size
 obtain⟨q1,q2⟩:=h.il hpG rfl (m05.trans' m' (by
  rintro b hb (q|q)
  ·exact .inl q
  ·rcases o3' b q with r|r
   ·exact .inr r
   ·omega)) (fun b hb=>by
  rcases o' b hb with q|q
  ·exact o3' b q
  ·exact .inr (by omega))
 exact hK _ _ H' q1 q2
end
section
variable {F:Nat→Prop} {H:Heap} {p dp:Nat} {s:Pl} {n:ByteArray}
theorem Bq {D:Nat→Prop} {d:Dk} {m:Nat} {K:(Option Addr×Int)→Heap→Prop} (hd:bY D H dp d) (h8:8≤m) (hm:m≤4096)
  (hK:∀F p H',aI F H' p dp (pl0 d m)→Ext H H'→(∀b,F b→D b∨H.size≤b)→K (ay p,0) H'):Es.sp (ay dp) (m:Int) H K:=by
 refine Es.of ?_
 unfold Es.vc
 refine ar rfl ?_
 refine ar (by simp;omega) ?_
 refine ar (by simp;omega) ?_
 refine au fun H1 s1 r1 e1=>?_
 have hlt:=hd.lt
 have hp:bq (Sl.mk none 0 0) [] H1 H.size dp (pl0 d m):=⟨r1,⟨aG.nil _ _ _,by simp,by intro i j z z' h;simp at h⟩,rfl,vN h8 hm⟩
 refine hK (fun b=>D b∨fq (Sl.mk none 0 0) [] H.size b) H.size H1 ⟨Sl.mk none 0 0,[],D,⟨hp,hd.keep fun b _ hl=>e1.same b hl id,?_⟩,fun _=>Iff.rfl⟩ e1 ?_
 ·rintro b hb (q|q|⟨z,hz,_⟩)
  ·have:=hlt b hb;omega
  ·exact fT q
  ·cases hz
 ·rintro b (q|q|q|⟨z,hz,_⟩)
  ·exact .inl q
  ·exact .inr (by omega)
  ·exact absurd q fT
  ·cases hz
theorem tf {k:Int} {K:(Int×Int)→Heap→Prop} (h:aI F H p dp s) (hn:n.size≤9223372036854775807) (hlogs:s.d.logs+2<68719476736) (hnx:s.next<1099511627775)
  (hK:∀F' H',aI F' H' p dp (s.aQ n k).1→Step F F' H H'→K ((s.aQ n k).2.1,(s.aQ n k).2.2) H'):CG.sp (ay p) n k H K:=by
 obtain⟨ll,zs,D,g,hF⟩:=h
 refine CG.of ?_
 unfold CG.vc
 simp only[ak]
 have out:∀{ll':Sl} {zs':List RZ} {D':Nat→Prop} {A:Heap} {t:Pl} {a e:Int},bk ll' zs' D' A p dp t→Step (fun b=>D b∨fq ll zs p b) (fun b=>D' b∨fq ll' zs' p b) H A→s.aQ n k=(t,a,e)→K (a,e) A:=by
  intro ll' zs' D' A t a e h1 S1 he
  obtain⟨F',q1,q2⟩:=h1.out hF S1
  have:=hK F' A (by rw[he];exact q1) q2
  rw[he] at this;exact this
 have fin:∀{ll':Sl} {zs':List RZ} {D':Nat→Prop} {A:Heap} {t:Pl} {e:Int},bk ll' zs' D' A p dp t→Step (fun b=>D b∨fq ll zs p b) (fun b=>D' b∨fq ll' zs' p b) H A→s.aQ n k=(t.met e,0,e)→
   ml.sp (ay p) e A fun r H'=>K (0,r) H':=by
  intro ll' zs' D' A t e h1 S1 he
  exact ph h1 fun A' h2 S2=>out h2 (S1.trans S2) he
 refine g.ae.head.ld (c:=aa .i64) (i:=6) (x:=s.wrong) rfl ?_
 refine ag (fun hw=>?_) (fun hw=>?_)
 ·have hw':s.wrong≠0:=by simpa using hw
  refine g.ae.head.ld (c:=aa .i64) (i:=6) (x:=s.wrong) rfl ?_
  exact out g (.refl _ _) (by unfold Pl.aQ;rw[if_pos hw'])
 have hw':¬s.wrong≠0:=by simpa using hw
 refine qZ g.ae ?_
 rw[tc]
 cases hi:s.find n k with
 |some i=>
   obtain⟨f,hf,_,_⟩:=Pl.fk hi
   obtain⟨gg,hz⟩:=g.ae.at hf
   exact aU rfl (AW g hz hnx fun zs' A h1 S1=>out h1 S1 (by unfold Pl.aQ;rw[if_neg hw',hi]))
 |none=>
   refine ar rfl ?_
   refine g.ae.head.ld (c:=al) (i:=0) (x:=ay dp) rfl ?_
   refine lJ g.bc (by omega) fun H3 e3=>?_
   have g3:=g.ext e3
   have S3:Step (fun b=>D b∨fq ll zs p b) (fun b=>D b∨fq ll zs p b) H H3:=Step.ext e3
   have hload:s.aQ n k=match s.load n k with|(q,some f,_)=>(q.take f,q.next,0)|(q,none,e)=>(q.met e,0,e):=by unfold Pl.aQ;rw[if_neg hw',hi];rfl
   have bad1:∀{t:Pl} {e:Int},s.load n k=(t,none,e)→s.aQ n k=(t.met e,0,e):=fun he=>by rw[hload,he]
   have hlenle:=Dk.jO g.bc.wf n
   by_cases hl:(s.d.len n).2=0
   ·by_cases hp:k<0∨k≥(s.d.len n).1
    ·refine aU (by simp[hl];omega) (ar rfl (aU rfl (fin g3 S3 (bad1 ?_))))
     unfold Pl.load;rw[if_neg (by simp[hl]),if_pos hp]
    ·refine ar (by simp[hl];omega) (aU (by simp[hl]) ?_)
     refine qV g3 (by omega) fun ll4 zs4 D4 H4 h4 S4=>?_
     have S34:=S3.trans S4
     have hrl:=s.ij
     by_cases hr:s.room.2=0
     ·refine ar (by simp[hr]) ?_
      refine h4.ae.head.ld (c:=al) (i:=0) (x:=ay dp) rfl ?_
      refine q7 h4.bc (by omega) fun r H5 b5 e5 f5 c5=>?_
      have h5:=h4.ext e5
      by_cases hrd:(s.room.1.d.read n k).2=0
      ·refine ar (by simp[hrd]) ?_
       have h512:=(Dk.tX s.room.1.d n k).2 hrd
       refine zp b5 c5 h512 (fun ho H6 e6=>?_) (fun kd b sl H6 ho hbl o6 e6 f6=>?_)
       ·refine aU rfl (fin (h5.ext e6) ((S34.behind e5).behind e6) (bad1 ?_))
        unfold Pl.load;rw[if_neg (by simp[hl]),if_neg hp,if_neg (by simp[hr]),if_neg (by simp[hrd]),ho]
       ·refine ar rfl ?_
        refine iJ (bM o6) ?_
        obtain⟨pg,rfl⟩:∃pg:Nat,k=pg:=⟨k.toNat,by omega⟩
        have hrs:=s.bz
        have hrw:=g.ae.wf.ng
        refine qx (f:=⟨n,pg,kd,b,false,[],0⟩) (h5.ext e6) (by rw[hrs.1];exact hrw.2 hr) (by rw[hrs.2.1];exact hnx) (Pl.jZ hi) hbl (by show pg<_;omega) hn rfl rfl rfl fun ll7 zs7 H7 h7 S7=>?_
        refine out h7 (((S34.behind e5).behind e6).trans S7) ?_
        rw[hload]
        unfold Pl.load;rw[if_neg (by simp[hl]),if_neg hp,if_neg (by simp[hr]),if_neg (by simp[hrd]),ho]
        simp
      ·refine aU (by simp[hrd]) (fin h5 (S34.behind e5) (bad1 ?_))
       unfold Pl.load;rw[if_neg (by simp[hl]),if_neg hp,if_neg (by simp[hr]),if_pos (by simpa using hrd)]
     ·refine aU (by simp[hr]) (fin h4 S34 (bad1 ?_))
      unfold Pl.load;rw[if_neg (by simp[hl]),if_neg hp,if_pos (by simpa using hr)]
   ·refine ar (by simp[hl]) (ar (by simp[hl]) (aU (by simp[hl]) (fin g3 S3 (bad1 ?_))))
    unfold Pl.load;rw[if_pos (by simpa using hl)]
theorem vd {K:(Int×Int×Int)→Heap→Prop} (h:aI F H p dp s) (hn:n.size≤9223372036854775807) (hlogs:s.d.logs+2<68719476736) (hnx:s.next<1099511627775) (hfit:s.Fit)
  (hK:∀F' H',aI F' H' p dp (s.fresh n).1→Step F F' H H'→K ((s.fresh n).2.1,(s.fresh n).2.2.1,(s.fresh n).2.2.2) H'):DK.sp (ay p) n H K:=by
 obtain⟨ll,zs,D,g,hF⟩:=h
 refine DK.of ?_
 unfold DK.vc
 simp only[ak]
 have out:∀{ll':Sl} {zs':List RZ} {D':Nat→Prop} {A:Heap} {t:Pl} {a b e:Int},bk ll' zs' D' A p dp t→Step (fun b=>D b∨fq ll zs p b) (fun b=>D' b∨fq ll' zs' p b) H A→s.fresh n=(t,a,b,e)→K (a,b,e) A:=by
  intro ll' zs' D' A t a b e h1 S1 he
  obtain⟨F',q1,q2⟩:=h1.out hF S1
  have:=hK F' A (by rw[he];exact q1) q2
  rw[he] at this;exact this
 have fin:∀{ll':Sl} {zs':List RZ} {D':Nat→Prop} {A:Heap} {t:Pl} {e:Int},bk ll' zs' D' A p dp t→Step (fun b=>D b∨fq ll zs p b) (fun b=>D' b∨fq ll' zs' p b) H A→s.fresh n=(t.met e,0,0,e)→
   ml.sp (ay p) e A fun r H'=>K (0,0,r) H':=by
  intro ll' zs' D' A t e h1 S1 he
  exact ph h1 fun A' h2 S2=>out h2 (S1.trans S2) he
 refine g.ae.head.ld (c:=aa .i64) (i:=6) (x:=s.wrong) rfl ?_
 refine ag (fun hw=>?_) (fun hw=>?_)
 ·have hw':s.wrong≠0:=by simpa using hw
  refine g.ae.head.ld (c:=aa .i64) (i:=6) (x:=s.wrong) rfl ?_
  exact out g (.refl _ _) (by unfold Pl.fresh;rw[if_pos hw'])
 have hw':¬s.wrong≠0:=by simpa using hw
 refine g.ae.head.ld (c:=al) (i:=0) (x:=ay dp) rfl ?_
 refine lJ g.bc (by omega) fun H3 e3=>?_
 have g3:=g.ext e3
 have S3:Step (fun b=>D b∨fq ll zs p b) (fun b=>D b∨fq ll zs p b) H H3:=Step.ext e3
 have hlenle:=Dk.jO g.bc.wf n
 by_cases hl:(s.d.len n).2=0
 ·refine aU (by simp[hl]) ?_
  refine qV g3 (by omega) fun ll4 zs4 D4 H4 h4 S4=>?_
  have S34:=S3.trans S4
  have hrl:=s.ij
  by_cases hr:s.room.2=0
  ·refine ar (by simp[hr]) ?_
   refine oD (kind:=0) (l:=[]) (bI.nil _) (by simp) fun r H5 o5 e5 f5=>?_
   have h5:=h4.ext e5
   refine h5.ae.head.ld (c:=al) (i:=0) (x:=ay dp) rfl ?_
   have hlt:=h4.lt
   refine qX h5.bc (bM o5) (fun ad ha hD=>?_) (by omega) fun D6 H6 a6 S6=>?_
   ·have:=f5 ad.block ⟨ad,ha,rfl⟩
    have:=hlt _ (.inl hD);omega
   obtain⟨q1,q2⟩:=h5.jC a6 S6
   have S36:=(S34.behind e5).trans q2
   by_cases hwr:(s.room.1.d.write n (s.d.len n).1 (bp 0 [])).2=0
   ·refine ar (by simp[hwr]) ?_
    have hrs:=s.bz
    have hrw:=g.ae.wf.ng
    refine qx (f:=⟨n,(s.d.len n).1,0,[],false,[],0⟩) q1 (by show s.room.1.fs.length<s.room.1.most;rw[hrs.1];exact hrw.2 hr) (by show s.room.1.next<_;rw[hrs.2.1];exact hnx) (Pl.jZ (hfit.new hl)) (by simp) (by show (s.d.len n).1<_;omega) hn rfl rfl rfl fun ll7 zs7 H7 h7 S7=>?_
    refine out h7 (S36.trans S7) ?_
    unfold Pl.fresh;rw[if_neg hw',if_neg (by simp[hl]),if_neg (by simp[hr]),if_neg (by simp[hwr])]
    rfl
   ·refine aU (by simp[hwr]) (fin q1 S36 ?_)
    unfold Pl.fresh;rw[if_neg hw',if_neg (by simp[hl]),if_neg (by simp[hr]),if_pos (by simpa using hwr)]
  ·refine aU (by simp[hr]) (fin h4 S34 ?_)
   unfold Pl.fresh;rw[if_neg hw',if_neg (by simp[hl]),if_pos (by simpa using hr)]
 ·refine ar (by simp[hl]) (aU (by simp[hl]) (fin g3 S3 ?_))
  unfold Pl.fresh;rw[if_neg hw',if_pos (by simpa using hl)]
theorem yb {c:Int} {K:(Int×Sl×Int)→Heap→Prop} (h:aI F H p dp s) (hnx:s.next<9223372036854775807)
  (hK:∀sl H',bI H' sl (s.get c).2.1→Ext H H'→(∀b,aj sl b→H.size≤b)→sl.n≤sl.c→K (((s.get c).1.toNat:Int),sl,(s.get c).2.2) H'):EC.sp (ay p) c H K:=by
 obtain⟨ll,zs,D,g,hF⟩:=h
 refine EC.of ?_
 unfold EC.vc
 simp only[ak]
 have none_:∀e:Int,s.get c=(0,[],e)→K (0,Sl.mk none 0 0,e) H:=by
  intro e he
  have:=hK (Sl.mk none 0 0) H (by rw[he];exact bI.nil _) (.refl _ _) (fun b q=>absurd q fT) (Nat.le_refl _)
  rw[he] at this;exact this
 refine mR g.ae hnx ?_
 refine g.ae.head.ld (c:=aa .i64) (i:=6) (x:=s.wrong) rfl ?_
 refine ag (fun hw=>?_) (fun hw=>?_)
 ·have hw':s.wrong≠0:=by simpa using hw
  refine g.ae.head.ld (c:=aa .i64) (i:=6) (x:=s.wrong) rfl ?_
  exact none_ _ (by unfold Pl.get;rw[if_pos hw'])
 have hw':¬s.wrong≠0:=by simpa using hw
 rw[jW]
 cases hi:s.held c with
 |none=>exact aU rfl (none_ _ (by unfold Pl.get;rw[if_neg hw',hi]))
 |some i=>
   refine ar rfl ?_
   obtain⟨f,hf,_⟩:=Pl.dU hi
   obtain⟨gg,hz⟩:=g.ae.at hf
   have hil:=(List.getElem?_eq_some_iff.1 hf).1
   have hn:=g.ae.n;have hzl:=g.ae.len
   obtain⟨ad,ha⟩:=cL.addr g.ae.frames.arr.rd (by decide) (by omega)
   have he:s.get c=(f.kind,f.b,0):=by unfold Pl.get;rw[if_neg hw',hi];simp only;rw[Pl.cJ hf]
   rw[he] at hK
   refine⟨fun A=>ai A p nW (dq dp ll s)∧aG lQ sP A ll zs,⟨g.ae.head,g.ae.frames.arr⟩,?_⟩
   refine⟨ll,fun A hA=>by rw[aW];exact hA.1.cell rfl,?_⟩
   simp only[ha,ak]
   refine⟨⟨by simp only[ma];omega,by simp only[ma];omega⟩,?_⟩
   refine⟨(f.kind.toNat:Int),fun A hA=>sD (c:=aa .u8) hA.2 hz (j:=2) (y:=(f.kind.toNat:Int)) rfl ha,?_⟩
   refine g.ae.head.ld (c:=aq) (i:=2) (x:=ll) rfl ?_
   refine g.ae.frames.ld hz (j:=3) (c:=aR) (y:=ca f.b) rfl ?_
   refine js fun x4 H1 b1 e1 f1 c1=>?_
   exact⟨⟨g.ae.head.ext e1,g.ae.frames.arr.ext e1⟩,hK x4 H1 b1 e1 f1 c1⟩
theorem um {c:Int} {kd:UInt8} {b:Sl} {l:List UInt8} {K:Int→Heap→Prop} (h:aI F H p dp s) (hnx:s.next<9223372036854775807) (hb:bI H b l) (hbF:∀ad,b.a=some ad→¬F ad.block)
  (hK:∀F' H',aI F' H' p dp (s.set c kd l).1→Step F F' H H'→K (s.set c kd l).2 H'):Df.sp (ay p) c (kd.toNat:Int) b H K:=by
 have h00:=h
 obtain⟨ll,zs,D,g,hF⟩:=h
 refine Df.of ?_
 unfold Df.vc
 simp only[ak]
 have stay:∀e:Int,s.set c kd l=(s,e)→K e H:=by
  intro e he
  have:=hK F H (by rw[he];exact h00) (.refl _ _)
  rw[he] at this;exact this
 refine mR g.ae hnx ?_
 refine g.ae.head.ld (c:=aa .i64) (i:=6) (x:=s.wrong) rfl ?_
 refine ag (fun hw=>?_) (fun hw=>?_)
 ·have hw':s.wrong≠0:=by simpa using hw
  refine g.ae.head.ld (c:=aa .i64) (i:=6) (x:=s.wrong) rfl ?_
  exact stay _ (by unfold Pl.set;rw[if_pos hw'])
 have hw':¬s.wrong≠0:=by simpa using hw
 rw[jW]
 cases hi:s.held c with
 |none=>exact aU rfl (stay _ (by unfold Pl.set;rw[if_neg hw',hi]))
 |some i=>
   refine ar rfl ?_
   have hbn:=hb.n
   refine ag (fun hc=>?_) (fun hc=>?_)
   ·have hgt:l.length>504:=by simp at hc;omega
    exact stay _ (by unfold Pl.set;rw[if_neg hw',hi];simp only;rw[if_pos hgt])
   have hle:¬l.length>504:=by simp at hc;omega
   have he:s.set c kd l=(s.aZ i (Fr.set kd l),0):=by unfold Pl.set;rw[if_neg hw',hi];simp only;rw[if_neg hle]
   rw[he] at hK
   obtain⟨f,hf,_⟩:=Pl.dU hi
   obtain⟨gg,hz⟩:=g.ae.at hf
   have hil:=(List.getElem?_eq_some_iff.1 hf).1
   have hil2:=(List.getElem?_eq_some_iff.1 hz).1
   have off:=bq.off g.ae.head g.ae.frames
   refine g.ae.head.ld (c:=aq) (i:=2) (x:=ll) rfl ?_
   refine iG g.ae.frames.arr hz (j:=2) (z':=({f with kind:=kd},gg)) (v:=.int .u8 (kd.toNat:Int)) (by decide) rfl rfl fun H1 o1 m1 s1=>?_
   have d1:ai H1 p nW (dq dp ll s):=g.ae.head.mod m1 fun q=>off (.inl q)
   refine d1.ld (c:=aq) (i:=2) (x:=ll) rfl ?_
   have b1:bI H1 b l:=hb.keep fun ad ha hl=>m1.same _ hl fun q=>hbF ad ha ((hF _).2 (.inr (.inr (.inl q))))
   refine iJ b1 ?_
   have hz1:(zs.set i ({f with kind:=kd},gg))[i]?=some ({f with kind:=kd},gg):=by simp[hil2]
   refine iG o1 hz1 (j:=3) (z':=({f with kind:=kd,b:=l},gg)) (v:=.string (ca l)) (by decide) rfl rfl fun H2 o2 m2 s2=>?_
   have d2:ai H2 p nW (dq dp ll s):=d1.mod m2 fun q=>off (.inl q)
   refine d2.ld (c:=aq) (i:=2) (x:=ll) rfl ?_
   rw[List.set_set] at o2
   have hz2:(zs.set i ({f with kind:=kd,b:=l},gg))[i]?=some ({f with kind:=kd,b:=l},gg):=by simp[hil2]
   refine iG o2 hz2 (j:=4) (z':=(Fr.set kd l f,gg)) (v:=.bool true) (by decide) rfl rfl fun H3 o3 m3 s3=>?_
   rw[List.set_set] at o3
   obtain⟨u1,u2⟩:=g.tt (i:=i) (s':=s.aZ i (Fr.set kd l)) hz o3 ((m1.trans m2).trans m3) rfl (by
    show s.fs.modify i (Fr.set kd l)=s.fs.modify i fun _=>Fr.set kd l f
    rw[aM hf,aM hf]) (g.ae.wf.aZ hf rfl rfl rfl (by simp only[Fr.set];omega)) rfl rfl
   obtain⟨F',q1,q2⟩:=u1.out hF u2
   exact hK F' H3 q1 q2
theorem iV {c:Int} {K:Int→Heap→Prop} (h:aI F H p dp s) (hnx:s.next<1099511627775)
  (hK:∀F' H',aI F' H' p dp (s.aD c).1→Step F F' H H'→K (s.aD c).2 H'):Bp.sp (ay p) c H K:=by
 have h00:=h
 obtain⟨ll,zs,D,g,hF⟩:=h
 have hwf:=g.ae.wf.aD c (by omega)
 refine Bp.of ?_
 unfold Bp.vc
 simp only[ak]
 have stay:∀e:Int,s.aD c=(s,e)→K e H:=by
  intro e he
  have:=hK F H (by rw[he];exact h00) (.refl _ _)
  rw[he] at this;exact this
 refine mR g.ae (by omega) ?_
 refine g.ae.head.ld (c:=aa .i64) (i:=6) (x:=s.wrong) rfl ?_
 refine ag (fun hw=>?_) (fun hw=>?_)
 ·have hw':s.wrong≠0:=by simpa using hw
  refine g.ae.head.ld (c:=aa .i64) (i:=6) (x:=s.wrong) rfl ?_
  exact stay _ (by unfold Pl.aD;rw[if_pos hw'])
 have hw':¬s.wrong≠0:=by simpa using hw
 rw[jW]
 cases hi:s.held c with
 |none=>exact aU rfl (stay _ (by unfold Pl.aD;rw[if_neg hw',hi]))
 |some i=>
   refine ar rfl ?_
   have he:s.aD c=({s with fs:=s.fs.modify i (Fr.aD c (cR (s.tick+1))),tick:=cR (s.tick+1)},0):=by unfold Pl.aD;rw[if_neg hw',hi]
   rw[he] at hK hwf
   obtain⟨f,hf,_⟩:=Pl.dU hi
   obtain⟨gg,hz⟩:=g.ae.at hf
   have hzm:=List.mem_of_getElem? hz
   have hil:=(List.getElem?_eq_some_iff.1 hf).1
   have hil2:=(List.getElem?_eq_some_iff.1 hz).1
   have off:=bq.off g.ae.head g.ae.frames
   have hpl:f.pins.length≤s.pins:=jz (fun f:Fr=>f.pins.length) s.fs i f hf
   have ht:=g.ae.wf.tick
   have hgg:=g.ae.frames.ent _ hzm
   simp only at hgg
   have hgn:=hgg.n (by decide)
   refine aw f.pins.length (fun k x H2=>x.2=(k:Int)∧aG EI fg H2 x.1 ((f.pins.take k).filter fun x=>decide (x≠c))∧Ext H H2∧∀b,aj x.1 b→H.size≤b) ⟨rfl,aG.nil _ _ _,.refl _ _,fun b q=>absurd q fT⟩ ?_
   rintro k ⟨l1,j⟩ H2 next hk ⟨hj,o2,e2,f2⟩ hnext
   simp only at hj o2 f2 hnext ⊢
   subst hj
   have g2:=g.ext e2
   have z2:=e2.size
   refine g2.ae.head.ld (c:=aq) (i:=2) (x:=ll) rfl ?_
   refine g2.ae.frames.ld hz (j:=5) (c:=aq) (y:=gg) rfl ?_
   refine ag (fun hc=>?_) (fun hc=>?_)
   ·have hlt:k<f.pins.length:=by rw[hgn] at hc;simpa using hc
    refine g2.ae.head.ld (c:=aq) (i:=2) (x:=ll) rfl ?_
    refine g2.ae.frames.ld hz (j:=5) (c:=aq) (y:=gg) rfl ?_
    refine sH (hgg.ext e2) hlt ?_
    have htk:(f.pins.take (k+1)).filter (fun x=>decide (x≠c))=(f.pins.take k).filter (fun x=>decide (x≠c))++if f.pins[k]≠c then [f.pins[k]] else []:=by
     rw[List.take_succ_eq_append_getElem hlt,List.filter_append]
     congr 1
     by_cases q:f.pins[k]=c<;>simp[q]
    have hw64:IntKind.i64.wrap ((k:Int)+1)=((k+1:Nat):Int):=aK k (by omega)
    refine ag (fun hq=>?_) (fun hq=>?_)
    ·have hq':f.pins[k]≠c:=by simpa using hq
     rw[if_pos hq'] at htk
     refine g2.ae.head.ld (c:=aq) (i:=2) (x:=ll) rfl ?_
     refine g2.ae.frames.ld hz (j:=5) (c:=aq) (y:=gg) rfl ?_
     refine sH (hgg.ext e2) hlt ?_
     have hfl:=List.length_filter_le (fun x=>decide (x≠c)) (f.pins.take k)
     simp only[List.length_take] at hfl
     refine aG.push (E:=EI) zK (x:=f.pins[k]) o2 rfl (by omega) (by omega) fun l3 H3 o3 g3 _=>?_
     have z3:=g3.1.size
     refine hnext hlt _ _ ⟨hw64,by rw[htk];exact o3,⟨by omega,fun b hb _=>(g3.1.same b (by omega) fun hh=>by have:=f2 b hh;omega).trans (e2.same b hb id)⟩,fun b hb=>?_⟩
     rcases g3.2 b hb with q|q
     ·exact f2 b q
     ·omega
    ·have hq':¬f.pins[k]≠c:=by simpa using hq
     rw[if_neg hq',List.append_nil] at htk
     exact hnext hlt _ _ ⟨hw64,by rw[htk];exact o2,e2,f2⟩
   ·have hge:k=f.pins.length:=by rw[hgn] at hc;simp at hc;omega
    rw[hge,List.take_of_length_le (Nat.le_refl _)] at o2
    refine g2.ae.head.ld (c:=aq) (i:=2) (x:=ll) rfl ?_
    refine iG g2.ae.frames.arr hz (j:=5) (z':=({f with pins:=f.pins.filter fun x=>decide (x≠c)},l1)) (v:=l1.v) (by decide) rfl rfl fun H3 o3 m3 s3=>?_
    have d3:ai H3 p nW (dq dp ll s):=g2.ae.head.mod m3 fun q=>off (.inl q)
    refine d3.ld (c:=aa .i64) (i:=4) (x:=s.tick) rfl ?_
    refine d3.st (i:=4) (by decide:4<7) (by rfl) fun H4 d4 m4 s4=>?_
    obtain⟨t,htt⟩:∃t:Pl,t={s with fs:=s.fs.modify i (Fr.aD c (cR (s.tick+1))),tick:=cR (s.tick+1)}:=⟨_,rfl⟩
    have d4':ai H4 p nW (dq dp ll t):=by rw[htt];exact d4
    refine d4'.ld (c:=aq) (i:=2) (x:=ll) rfl ?_
    refine d4'.ld (c:=aa .i64) (i:=4) (x:=cR (s.tick+1)) (by rw[htt];rfl) ?_
    have o4:aG lQ sP H4 ll (zs.set i ({f with pins:=f.pins.filter fun x=>decide (x≠c)},l1)):=o3.keep fun b hb hl=>m4.same b hl fun e=>off (e▸.inl hb)
    have hz4:(zs.set i (({f with pins:=f.pins.filter fun x=>decide (x≠c)},l1):RZ))[i]?=some ({f with pins:=f.pins.filter fun x=>decide (x≠c)},l1):=by simp[hil2]
    refine iG o4 hz4 (j:=6) (z':=(Fr.aD c (cR (s.tick+1)) f,l1)) (v:=.int .i64 (cR (s.tick+1))) (by decide) rfl rfl fun H5 o5 m5 s5=>?_
    rw[List.set_set] at o5
    have l1p:∀b,aj l1 b→b≠p:=fun b hb e=>by have:=f2 b hb;have:=az g.ae.head;omega
    have l1a:∀b,aj l1 b→¬aj ll b:=o2.apart g2.ae.frames.arr (by decide)
    obtain⟨t1,t2⟩:=g.ae.frames.set (H':=H5) hz (z':=(Fr.aD c (cR (s.tick+1)) f,l1)) o5
     (o2.keep fun b hb hl=>(m5.same b (by omega) (l1a b hb)).trans ((m4.same b (by omega) (l1p b hb)).trans (m3.same b hl (l1a b hb))))
     (fun u hu b hb _ hl=>(m5.same b (by omega) (g.ae.frames.fm hu b hb)).trans ((m4.same b (by omega) fun e=>off (e▸.inr ⟨u,hu,hb⟩)).trans ((m3.same b (by omega) (g.ae.frames.fm hu b hb)).trans (e2.same b hl id))))
     (fun b hb=>.inr (f2 b hb))
    have hpG:bq ll (zs.set i (Fr.aD c (cR (s.tick+1)) f,l1)) H5 p dp t:=by
     refine⟨d4'.mod m5 fun q=>off (.inl q),t1,?_,by rw[htt];exact hwf⟩
     rw[htt]
     show s.fs.modify i (Fr.aD c (cR (s.tick+1)))=_
     rw[aM hf,g.ae.fs];simp[yT,List.map_set]
    obtain⟨q1,q2⟩:=g.il hpG (by rw[htt]) ((((Ext.mod e2).trans (m3.mono fun b _ q=>.inr (.inl q))).trans (m4.mono fun b _ q=>.inl q)).trans (m5.mono fun b _ q=>.inr (.inl q))) t2
    obtain⟨F',r1,r2⟩:=q1.out hF q2
    rw[htt] at r1
    exact hK F' H5 r1 r2
theorem tq {K:Int→Heap→Prop} (h:aI F H p dp s) (hK:K (s.pinned:Int) H):Ej.sp (ay p) H K:=by
 obtain⟨ll,zs,D,g,hF⟩:=h
 refine Ej.of ?_
 unfold Ej.vc
 simp only[ak]
 have hn:=g.ae.n
 have hlen:=g.ae.wf.len;have hmost:=g.ae.wf.most
 refine aw s.fs.length (fun k x H1=>x.1=(((s.fs.take k).filter fun f=>!f.pins.isEmpty).length:Int)∧x.2=(k:Int)∧H1=H) ⟨rfl,rfl,rfl⟩ ?_
 rintro k ⟨c,i⟩ H1 next hk ⟨hc1,hi,rfl⟩ hnext
 simp only at hc1 hi hnext ⊢
 subst hc1
 subst hi
 refine g.ae.head.ld (c:=aq) (i:=2) (x:=ll) rfl ?_
 refine ag (fun hc=>?_) (fun hc=>?_)
 ·have hlt:k<s.fs.length:=by rw[hn] at hc;simpa using hc
  obtain⟨gg,hz⟩:=g.ae.at (List.getElem?_eq_getElem hlt)
  have hpn:=(g.ae.frames.ent _ (List.mem_of_getElem? hz)).n (by decide)
  simp only at hpn
  have hcl:=List.length_filter_le (fun f:Fr=>!f.pins.isEmpty) (s.fs.take k)
  simp only[List.length_take] at hcl
  have htk:((s.fs.take (k+1)).filter fun f=>!f.pins.isEmpty).length=((s.fs.take k).filter fun f=>!f.pins.isEmpty).length+if s.fs[k].pins.isEmpty then 0 else 1:=by
   rw[List.take_succ_eq_append_getElem hlt,List.filter_append,List.length_append]
   congr 1
   cases hq:s.fs[k].pins.isEmpty<;>simp[hq]
  refine g.ae.head.ld (c:=aq) (i:=2) (x:=ll) rfl ?_
  refine g.ae.frames.ld hz (j:=5) (c:=aq) (y:=gg) rfl ?_
  refine ag (fun hq=>?_) (fun hq=>?_)
  ·have hne:s.fs[k].pins.isEmpty=false:=by
    cases hp:s.fs[k].pins with
    |nil=>rw[hp] at hpn;simp at hpn hq;omega
    |cons a r=>rfl
   rw[hne] at htk
   refine hnext hlt _ _ ⟨?_,aK k (by omega),rfl⟩
   rw[htk,wrap64 (by omega) (by omega)];simp
  ·have he:s.fs[k].pins.isEmpty=true:=by
    rw[List.isEmpty_iff]
    exact List.eq_nil_of_length_eq_zero (by simp at hq;omega)
   rw[he] at htk
   exact hnext hlt _ _ ⟨by rw[htk];simp,aK k (by omega),rfl⟩
 ·have hge:k=s.fs.length:=by rw[hn] at hc;simp at hc;omega
  rw[hge,List.take_of_length_le (Nat.le_refl _)]
  exact hK
end
section
variable {F:Nat→Prop} {H:Heap} {p dp:Nat} {s:Pl} {n:ByteArray}
theorem vk {K:Int→Heap→Prop} (h:aI F H p dp s) (hlogs:s.d.logs<68717000000) (hfit:s.Fit)
  (hK:∀F' H',aI F' H' p dp (s.flush n).1→Step F F' H H'→K (s.flush n).2 H'):DS.sp (ay p) n H K:=by
 obtain⟨ll,zs,D,g,hF⟩:=h
 refine DS.of ?_
 unfold DS.vc
 simp only[ak]
 have out:∀{ll':Sl} {zs':List RZ} {D':Nat→Prop} {A:Heap} {t:Pl} {e:Int},bk ll' zs' D' A p dp t→Step (fun b=>D b∨fq ll zs p b) (fun b=>D' b∨fq ll' zs' p b) H A→s.flush n=(t,e)→K e A:=by
  intro ll' zs' D' A t e h1 S1 he
  obtain⟨F',q1,q2⟩:=h1.out hF S1
  have:=hK F' A (by rw[he];exact q1) q2
  rw[he] at this;exact this
 have fin:∀{ll':Sl} {zs':List RZ} {D':Nat→Prop} {A:Heap} {t:Pl} {e:Int},bk ll' zs' D' A p dp t→Step (fun b=>D b∨fq ll zs p b) (fun b=>D' b∨fq ll' zs' p b) H A→s.flush n=Pl.out (t,e)→
   ml.sp (ay p) e A fun r H'=>K r H':=by
  intro ll' zs' D' A t e h1 S1 he
  exact ph h1 fun A' h2 S2=>out h2 (S1.trans S2) he
 refine g.ae.head.ld (c:=aa .i64) (i:=6) (x:=s.wrong) rfl ?_
 refine ag (fun hw=>?_) (fun hw=>?_)
 ·have hw':s.wrong≠0:=by simpa using hw
  refine g.ae.head.ld (c:=aa .i64) (i:=6) (x:=s.wrong) rfl ?_
  exact out g (.refl _ _) (by unfold Pl.flush;rw[if_pos hw'])
 have hw':¬s.wrong≠0:=by simpa using hw
 refine g.ae.head.ld (c:=al) (i:=0) (x:=ay dp) rfl ?_
 refine lJ g.bc (by omega) fun H3 e3=>?_
 have g3:=g.ext e3
 have S3:Step (fun b=>D b∨fq ll zs p b) (fun b=>D b∨fq ll zs p b) H H3:=Step.ext e3
 have hlenle:=Dk.jO g.bc.wf n
 by_cases hl:(s.d.len n).2=0
 ·refine ar (by simp[hl]) ?_
  have hfl:=Pl.rY g.ae.wf hfit hl
  generalize hN:(s.d.len n).1=N at*
  obtain⟨R,hR⟩:∃R,R=Pl.aA n (List.range N) s:=⟨_,rfl⟩
  rw[←hR] at hfl
  refine⟨Nat,fun k x A=>x=(k:Int)∧k≤N∧∃(zs':List RZ) (D':Nat→Prop) (t:Pl),bk ll zs' D' A p dp t∧Step (fun b=>D b∨fq ll zs p b) (fun b=>D' b∨fq ll zs' p b) H A∧Pl.aA n ((List.range N).drop k) t=R∧t.d.logs≤s.d.logs+k,fun k=>N - k,⟨0,rfl,Nat.zero_le _,zs,D,s,g3,S3,by rw[List.drop_zero,hR],Nat.le_refl _⟩,?_⟩
  rintro k _ A ⟨rfl,hk,zs',D',t,ht,hS,hL,hlg⟩
  refine ag (fun hc=>?_) (fun hc=>?_)
  ·have hlt:k<N:=by simpa using hc
   have hdr:(List.range N).drop k=k::(List.range N).drop (k+1):=by
    rw[List.drop_eq_getElem_cons (by simpa using hlt)];simp
   rw[hdr] at hL
   unfold Pl.aA at hL
   have hw64:=aK k (by omega)
   refine qZ ht.ae ?_
   rw[tc]
   cases hi:t.find n k with
   |none=>
     rw[hi] at hL
     simp only at hL
     refine ar rfl ?_
     rw[hw64]
     exact⟨k+1,⟨rfl,hlt,zs',D',t,ht,hS,hL,by omega⟩,by show N - (k+1)<N - k;omega⟩
   |some i=>
     rw[hi] at hL
     refine aU rfl ?_
     obtain⟨f,hf,_,_⟩:=Pl.fk hi
     obtain⟨gg,hz⟩:=ht.ae.at hf
     refine ht.ae.head.ld (c:=aq) (i:=2) (x:=ll) rfl ?_
     refine ht.ae.frames.ld hz (j:=4) (c:=ax) (y:=f.dirty) rfl ?_
     simp only[Pl.cJ hf] at hL
     cases hdt:f.dirty with
     |false=>
       rw[hdt,if_neg (by simp)] at hL
       refine ar rfl ?_
       rw[hw64]
       exact⟨k+1,⟨rfl,hlt,zs',D',t,ht,hS,hL,by omega⟩,by show N - (k+1)<N - k;omega⟩
     |true=>
       rw[hdt,if_pos rfl] at hL
       refine aU rfl ?_
       have hpl:=t.jR i
       refine oU ht hz (by omega) fun zs2 D2 A2 h2 S2=>?_
       by_cases hq:(t.put i).2=0
       ·rw[if_pos hq] at hL
        refine ar (by simp[hq]) ?_
        rw[hw64]
        exact⟨k+1,⟨rfl,hlt,zs2,D2,(t.put i).1,h2,hS.trans S2,hL,by omega⟩,by show N - (k+1)<N - k;omega⟩
       ·rw[if_neg hq] at hL
        refine aU (by simp[hq]) ?_
        refine fin h2 (hS.trans S2) ?_
        unfold Pl.flush
        rw[if_neg hw',if_neg (by simp[hl]),hfl,←hL,if_pos hq]
  ·have hge:k=N:=by simp at hc;omega
   subst hge
   rw[List.drop_of_length_le (by simp)] at hL
   unfold Pl.aA at hL
   refine ht.ae.head.ld (c:=al) (i:=0) (x:=ay dp) rfl ?_
   refine Bl ht.bc (by omega) fun D5 H5 a5 S5=>?_
   obtain⟨q1,q2⟩:=ht.jC a5 S5
   refine fin q1 (hS.trans q2) ?_
   unfold Pl.flush
   rw[if_neg hw',if_neg (by simp[hl]),hfl,←hL,if_neg (by simp)]
 ·refine aU (by simp[hl]) (fin g3 S3 ?_)
  unfold Pl.flush;rw[if_neg hw',if_pos (by simpa using hl)]
end
open Go.MapKept
def bQ (p:Nat) (b:Rb):List Value:=[.pointer (ay p),.string b.name,.int .i64 b.width,.int .i64 b.wrong,.bool b.closed]
abbrev bl (H:Heap) (k:Nat) (t:TypeId) (p:Nat) (b:Rb) (rest:List Value):Prop:=ai H k t (bQ p b++rest).toArray
theorem aI.wf {F:Nat→Prop} {H:Heap} {p dp:Nat} {s:Pl} (h:aI F H p dp s):s.WF:=by
 obtain⟨_,_,_,g,_⟩:=h
 exact g.ae.wf
section
variable {H:Heap} {k p dp:Nat} {t:TypeId} {b:Rb} {rest:List Value} {F:Nat→Prop} {s:Pl}
theorem bl.get (i:Nat) (v:Value) (h:(bQ p b)[i]?=some v):(bQ p b++rest).toArray[i]?=some v:=by
 rw[List.getElem?_toArray,List.getElem?_append_left (List.getElem?_eq_some_iff.1 h).1];exact h
theorem bl.tail {j:Nat} {v:Value} (h:rest[j]?=some v):(bQ p b++rest).toArray[5+j]?=some v:=by
 rw[List.getElem?_toArray,List.getElem?_append_right (by simp[bQ])]
 simpa[bQ] using h
theorem j6 {K:Int→Heap→Prop} (h:bl H k t p b rest) (hK:K b.ready H):AS.sp (ay k) H K:=by
 refine AS.of ?_
 unfold AS.vc
 unfold Rb.ready at hK
 simp only[ak,ay]
 refine ai.ld (c:=aa .i64) (i:=3) (x:=b.wrong) h (bl.get 3 _ rfl) ?_
 refine ag (fun hc=>?_) (fun hc=>?_)
 ·refine ai.ld (c:=aa .i64) (i:=3) (x:=b.wrong) h (bl.get 3 _ rfl) ?_
  rw[if_pos (by simpa using hc)] at hK
  exact hK
 ·rw[if_neg (by simpa using hc)] at hK
  refine ai.ld (c:=ax) (i:=4) (x:=b.closed) h (bl.get 4 _ rfl) ?_
  cases hcl:b.closed with
  |true=>rw[hcl,if_pos rfl] at hK;exact hK
  |false=>rw[hcl,if_neg (by simp)] at hK;exact hK
theorem vU (e:Int):(bQ p b++rest).toArray.setIfInBounds 3 (.int .i64 e)=(bQ p {b with wrong:=e}++rest).toArray:=by
 simp[bQ]
theorem tS:(bQ p b++rest).toArray.setIfInBounds 4 (.bool true)=(bQ p {b with closed:=true}++rest).toArray:=by
 simp[bQ]
theorem mT {e:Int} {K:Int→Heap→Prop} (h:bl H k t p b rest) (hw:b.wrong=0) (hK:∀H',bl H' k t p (b.bV e) rest→Mod (fun q=>q=k) H H'→H'.size=H.size→K e H'):xB.sp (ay k) e H K:=by
 refine xB.of ?_
 unfold xB.vc
 unfold Rb.bV at hK
 simp only[ak,ay]
 refine ag (fun hc=>?_) (fun hc=>?_)
 ·rw[if_pos (by simpa using hc)] at hK
  refine ai.ld (c:=aa .i64) (i:=3) (x:=b.wrong) h (bl.get 3 _ rfl) ?_
  refine aU (by rw[hw];rfl) ?_
  refine ai.st h (i:=3) (by simp[bQ]) rfl fun H' h' m hs=>?_
  rw[vU] at h'
  exact hK H' h' m hs
 ·rw[if_neg (by simpa using hc)] at hK
  exact hK H h (.refl _ _) rfl
theorem wM {kd:UInt8} {sl:Sl} {l:List UInt8} {K:Int→Heap→Prop} (h:bl H k t p b rest) (hp:aI F H p dp s) (hk:¬F k) (hb:bI H sl l) (hsl:∀ad,sl.a=some ad→¬F ad.block∧ad.block<H.size)
  (hn:b.name.size≤9223372036854775807) (hlogs:s.d.logs<68719470000) (hnx:s.next<1099511620000) (h0:0≤s.next) (hfit:s.Fit)
  (hK:∀F' H',aI F' H' p dp (s.more b.name kd l).1→Step F F' H H'→K (s.more b.name kd l).2 H'):CE.sp (ay k) (kd.toNat:Int) sl H K:=by
 have hkl:=az h
 refine CE.of ?_
 unfold CE.vc
 simp only[ak,ay]
 refine ai.ld (c:=al) (i:=0) (x:=ay p) h (bl.get 0 _ rfl) ?_
 refine ai.ld (c:=aR) (i:=1) (x:=b.name) h (bl.get 1 _ rfl) ?_
 refine vd hp hn (by omega) (by omega) hfit fun F1 H1 p1 S1=>?_
 have h1:bl H1 k t p b rest:=h.mod S1.mod hk
 have hk1:¬F1 k:=fun q=>(S1.own k q).elim hk fun r=>by omega
 have hb1:bI H1 sl l:=hb.keep fun ad ha hl=>S1.mod.same _ hl (hsl ad ha).1
 have hsl1:∀ad,sl.a=some ad→¬F1 ad.block:=fun ad ha q=>by
  have:=(hsl ad ha).2
  rcases S1.own _ q with r|r
  ·exact(hsl ad ha).1 r
  ·omega
 unfold Pl.more at hK
 have hnx1:(s.fresh b.name).1.next≤s.next+1:=s.iE h0 (by omega)
 generalize hs1:(s.fresh b.name).1=s1 at*
 generalize hr:(s.fresh b.name).2.1=hd at*
 generalize he:(s.fresh b.name).2.2.2=e at*
 by_cases e0:e=0
 ·subst e0
  rw[if_neg (by simp)] at hK
  by_cases k0:kd=0
  ·subst k0
   rw[if_pos rfl] at hK
   refine ar (by simp) ?_
   refine aU (by simp) ?_
   refine ai.ld (c:=al) (i:=0) (x:=ay p) h1 (bl.get 0 _ rfl) ?_
   refine iV p1 (by omega) fun F2 H2 p2 S2=>?_
   have el:Pl.leave (s1,0) hd=s1.aD hd:=if_pos rfl
   rw[el] at hK
   exact hK F2 H2 p2 (S1.trans S2)
  ·have hkn:((kd.toNat:Int)!=0)=true:=by
    have:kd.toNat≠0:=fun q=>k0 (UInt8.toNat_inj.1 q)
    simp;omega
   rw[if_neg k0] at hK
   refine aU (by rw[hkn];rfl) ?_
   refine ai.ld (c:=al) (i:=0) (x:=ay p) h1 (bl.get 0 _ rfl) ?_
   refine um p1 (by omega) hb1 hsl1 fun F2 H2 p2 S2=>?_
   have h2:bl H2 k t p b rest:=h1.mod S2.mod hk1
   have hn2:(s1.set hd kd l).1.next=s1.next:=s1.gv hd kd l
   generalize hs2:s1.set hd kd l=s2 at*
   refine ag (fun hc=>?_) (fun hc=>?_)
   ·have e2:s2.2=0:=by simpa using hc
    refine ai.ld (c:=al) (i:=0) (x:=ay p) h2 (bl.get 0 _ rfl) ?_
    refine iV p2 (by omega) fun F3 H3 p3 S3=>?_
    have el:Pl.leave s2 hd=s2.1.aD hd:=if_pos e2
    rw[el] at hK
    exact hK F3 H3 p3 ((S1.trans S2).trans S3)
   ·have e2:s2.2≠0:=by simpa using hc
    have el:Pl.leave s2 hd=s2:=if_neg e2
    rw[el] at hK
    exact hK F2 H2 p2 (S1.trans S2)
 ·rw[if_pos e0] at hK
  refine ar (by simp[e0]) ?_
  refine ar (by simpa using e0) ?_
  exact hK F1 H1 p1 S1
theorem tk {g:Int} {K:(Int×Sl×Int)→Heap→Prop} (h:bl H k t p b rest) (hp:aI F H p dp s) (hk:¬F k)
  (hn:b.name.size≤9223372036854775807) (hlogs:s.d.logs<68719470000) (hnx:s.next<1099511620000) (h0:0≤s.next)
  (hK:∀F' H' sl,aI F' H' p dp (s.look b.name g).1→Step F F' H H'→bI H' sl (s.look b.name g).2.2.1→(∀q,aj sl q→H.size≤q)→(s.look b.name g).2.2.1.length≤504→sl.n≤sl.c→K (((s.look b.name g).2.1.toNat:Int),sl,(s.look b.name g).2.2.2) H'):CK.sp (ay k) g H K:=by
 have hkl:=az h
 refine CK.of ?_
 unfold CK.vc
 simp only[ak,ay]
 refine ai.ld (c:=al) (i:=0) (x:=ay p) h (bl.get 0 _ rfl) ?_
 refine ai.ld (c:=aR) (i:=1) (x:=b.name) h (bl.get 1 _ rfl) ?_
 refine tf hp hn (by omega) (by omega) fun F1 H1 p1 S1=>?_
 have h1:bl H1 k t p b rest:=h.mod S1.mod hk
 have hnx1:(s.aQ b.name g).1.next≤s.next+1:=s.ie h0 (by omega)
 unfold Pl.look at hK
 generalize hs1:(s.aQ b.name g).1=s1 at*
 generalize hr:(s.aQ b.name g).2.1=hd at*
 generalize he:(s.aQ b.name g).2.2=e at*
 refine ag (fun hc=>?_) (fun hc=>?_)
 ·have e0:e≠0:=by simpa using hc
  rw[if_pos e0] at hK
  exact hK F1 H1 _ p1 S1 ⟨rfl,Reads.nil _ _⟩ (fun q ⟨ad,ha,_⟩=>by cases ha) (by simp) (Nat.le_refl _)
 ·have e0:¬e≠0:=by simpa using hc
  rw[if_neg e0] at hK
  refine ai.ld (c:=al) (i:=0) (x:=ay p) h1 (bl.get 0 _ rfl) ?_
  refine yb p1 (by omega) fun sl H2 o2 e2 f2 c2=>?_
  have p2:=p1.ext e2
  have h2:bl H2 k t p b rest:=h1.ext e2
  have S2:Step F F1 H H2:=S1.trans ⟨e2.mod,fun b hb=>.inl hb⟩
  have hgl:=Pl.xd p1.wf hd
  have hbad:(s1.get hd).2.2≠0→s1.get hd=(0,[],(s1.get hd).2.2):=by
   unfold Pl.get
   split
   ·intro _;rfl
   ·split
    ·intro q;exact absurd rfl q
    ·intro _;rfl
  generalize hs2:s1.get hd=r at*
  refine ag (fun hc2=>?_) (fun hc2=>?_)
  ·have e3:r.2.2≠0:=by simpa using hc2
   rw[if_pos e3] at hK
   have hr2:=hbad e3
   have h21:r.1=0:=by rw[hr2]
   have h22:r.2.1=[]:=by rw[hr2]
   simp only[h21,h22] at hK
   exact hK F1 H2 _ p2 S2 ⟨rfl,Reads.nil _ _⟩ (fun q ⟨ad,ha,_⟩=>by cases ha) (by simp) (Nat.le_refl _)
  ·have e3:¬r.2.2≠0:=by simpa using hc2
   rw[if_neg e3] at hK
   refine ai.ld (c:=al) (i:=0) (x:=ay p) h2 (bl.get 0 _ rfl) ?_
   refine iV p2 (by omega) fun F3 H3 p3 S3=>?_
   have q2:=S1.size
   refine hK F3 H3 sl p3 (S2.trans S3) (o2.keep fun ad ha hl=>S3.mod.same _ hl fun r=>by have:=p1.lt _ r;have:=f2 _ ⟨ad,ha,rfl⟩;omega) (fun q hq=>by have:=f2 q hq;omega) hgl c2
end
theorem qw {s:Sl} {l:List Int} {H:Heap} {K:Sl→Heap→Prop} (h:Ints .u64 H s l) (hl:l.length≤1000000)
  (hK:∀s' H',aN H' 0 iw 1 s' (l.map (Value.int .u64))→Ext H H'→(∀b,aj s' b→H.size≤b)→K s' H'):Db.sp s H K:=by
 refine Db.of ?_
 unfold Db.vc
 have hn:=h.len
 refine ag (fun hc=>?_) (fun hc=>?_)
 ·have:l=[]:=by
   cases l with
   |nil=>rfl
   |cons x r=>
     obtain⟨ad,ha,_⟩:=h.at (i:=0) (by simp)
     rw[ha] at hc;cases hc
  subst this
  exact hK _ H (aN.nil _ _ _ _) (.refl _ _) (by rintro b ⟨ad,q,_⟩;cases q)
 ·refine au fun H1 s1 r1 m1=>?_
  have o1:aN H1 0 iw 1 (Sl.mk (some ⟨H.size,0,none⟩) 0 0) []:=⟨rfl,.inr ⟨H.size,0,#[],rfl,Nat.zero_le _,r1,Nat.le_refl _,by unfold maxLen;omega,rfl,rfl⟩⟩
  refine ov.append (s:=Sl.mk (some ⟨H.size,0,none⟩) 0 0) (x:=s) (ws:=l.map (Value.int .u64)) o1 (by simp;omega) (h.ext m1).reads (od _ _) (by simp;omega) (by simp;omega) (by omega) fun s' H' _ o' m' f' _=>?_
  have m2:Ext H H':=⟨Nat.le_trans m1.size m'.size,fun b hb _=>(m'.same b (by omega) (by rintro⟨ad,e1,e2⟩;cases e1;have:H.size=b:=e2;omega)).trans (m1.same b hb id)⟩
  refine hK s' H' (by simpa using o') m2 fun b hb=>?_
  rcases f' b hb with ⟨ad,e1,e2⟩|q
  ·cases e1;have:H.size=b:=e2;omega
  ·omega
structure nb (H:Heap) (k p:Nat) (w:RW) (sw sl:Sl):Prop where
 row:ba H k BF p w.b [sw.v,.int .i64 (w.n:Int),sl.v,.int .i64 (w.rows:Int)]
 wait:aG EB eA H sw w.wait
 last:aN H 0 iw 1 sl (w.last.map (Value.int .u64))
def ez (k:Nat) (sw sl:Sl) (b:Nat):Prop:=b=k∨aj sw b∨aj sl b
section
variable {H:Heap} {k p dp:Nat} {w:RW} {sw sl:Sl} {F:Nat→Prop} {s:Pl}
theorem nb.rQ (h:nb H k p w sw sl):¬aj sw k:=fun q=>by
 obtain⟨cur,hc⟩:=h.wait.obj k q
 exact absurd (aL hc h.row) (by decide)
theorem nb.uR (h:nb H k p w sw sl):¬aj sl k:=fun q=>by
 obtain⟨cur,hc⟩:=h.last.obj k q
 exact absurd (aL hc h.row) (by decide)
theorem nb.lt (h:nb H k p w sw sl):∀b,ez k sw sl b→b<H.size:=by
 rintro b (rfl|q|q)
 ·exact az h.row
 ·exact h.wait.lt b q
 ·exact h.last.lt b q
theorem nb.keep {H':Heap} (h:nb H k p w sw sl) (e:∀b,ez k sw sl b→b<H.size→H'[b]?=H[b]?):nb H' k p w sw sl:=
 ⟨(e k (.inl rfl) (az h.row)).trans h.row,h.wait.keep fun b hb hl=>e b (.inr (.inl hb)) hl,h.last.keep fun b hb hl=>e b (.inr (.inr hb)) hl⟩
theorem nb.mod {G:Nat→Prop} {H':Heap} (h:nb H k p w sw sl) (m:Mod G H H') (hn:∀b,ez k sw sl b→¬G b):nb H' k p w sw sl:=h.keep fun b hb hl=>m.same b hl (hn b hb)
theorem wD {K:Int→Heap→Prop} (hg:Gl H) (h:nb H k p w sw sl) (hp:aE F H p dp s) (hd:∀b,F b→¬ez k sw sl b)
  (hn:w.b.name.size≤9223372036854775807) (hlogs:s.d.logs<68719470000) (hnx:s.next<1099511627776) (h0:0≤s.next) (hfit:s.Fit)
  (hK:∀F' sw' H',aE F' H' p dp (w.out s).1→nb H' k p (w.out s).2.1 sw' sl→(∀b,aj sw' b→aj sw b)→Mod (fun b=>F b∨b=k) H H'→(∀b,F' b→F b∨H.size≤b)→K (w.out s).2.2 H'):Di.sp (ay k) H K:=by
 refine Di.of ?_
 unfold Di.vc
 simp only[ak,ay]
 refine ai.ld (c:=aa .i64) (i:=7) (x:=(w.n:Int)) h.row (ba.tail (j:=1) rfl) ?_
 refine ag (fun hc=>?_) (fun hc=>?_)
 ·have e0 : w.n = 0 := by have : (w.n : Int) = 0 := by simpa using hc
                          omega
  have eo:w.out s=(s,w,0):=if_pos e0
  rw[eo] at hK
  exact hK F sw H hp h (fun b q=>q) (.refl _ _) (fun b q=>.inl q)
 ·have e0:¬w.n=0:=fun q=>by rw[q] at hc;simp at hc
  have eo:w.out s=((s.more w.b.name 1 w.wait).1,{w with b:=w.b.bV (s.more w.b.name 1 w.wait).2,wait:=[],n:=0},(s.more w.b.name 1 w.wait).2):=if_neg e0
  rw[eo] at hK
  have hkF:¬F k:=fun q=>hd k q (.inl rfl)
  refine ai.ld (c:=aq) (i:=6) (x:=sw) h.row (ba.tail (j:=0) rfl) ?_
  refine wj (kd:=1) hg h.row hp hkF (bM h.wait) (fun ad ha q=>hd _ q (.inr (.inl ⟨ad,ha,rfl⟩))) hn hlogs hnx h0 hfit fun F1 H1 p1 S1=>?_
  have h1:=h.mod S1.mod fun b hb q=>hd b q hb
  have hkl:=az h.row
  have hkF1:¬F1 k:=fun q=>(S1.own k q).elim hkF fun r=>by omega
  generalize (s.more w.b.name 1 w.wait).1=s1 at*
  generalize (s.more w.b.name 1 w.wait).2=e at*
  refine ai.st h1.row (i:=6) (by simp[bw]) rfl fun H2 r2 m2 z2=>?_
  refine ai.st r2 (i:=7) (by simp[bw]) rfl fun H3 r3 m3 z3=>?_
  have r3':ba H3 k BF p w.b [(Sl.mk none 0 0).v,.int .i64 ((0:Nat):Int),sl.v,.int .i64 (w.rows:Int)]:=by
   have e:(((bw p w.b++[sw.v,.int .i64 (w.n:Int),sl.v,.int .i64 (w.rows:Int)]).toArray.setIfInBounds 6 (.slice none 0 0)).setIfInBounds 7 (.int .i64 (0:Int)))=(bw p w.b++[(Sl.mk none 0 0).v,.int .i64 ((0:Nat):Int),sl.v,.int .i64 (w.rows:Int)]).toArray:=by
    simp[bw]
   rw[e] at r3;exact r3
  refine nc r3' fun H4 r4 m4 z4=>?_
  have m14:Mod (fun q=>q=k) H1 H4:=(m2.trans m3).trans m4
  have m04:Mod (fun b=>F b∨b=k) H H4:=(S1.mod.mono fun b _ q=>.inl q).trans' m14 fun b hb q=>.inr q
  refine hK F1 (Sl.mk none 0 0) H4 (p1.keep fun b hb hl=>m14.same b hl fun q=>hkF1 (q▸hb)) ⟨r4,aG.nil _ _ _,h1.last.keep fun b hb hl=>m14.same b hl fun q=>h1.uR (q▸hb)⟩ (by rintro b ⟨ad,q,_⟩;cases q) m04 S1.own
theorem qR (l:List Int):(bS l).length≤8*l.length+1:=by
 unfold bS
 split
 ·simp
 ·rw[List.length_flatMap]
  have:∀l:List Int,(l.map fun x=>(cu x).length).sum=8*l.length:=by
   intro l
   induction l with
   |nil=>rfl
   |cons x l ih=>rw[List.map_cons,List.sum_cons,ih];simp[cu];omega
  have:=this l
  omega
theorem iW {l:List Int} (h:∀x∈l,0≤x∧x<256):eX (cg l)=l.map (Value.int .u8):=by
 rw[←fx,kV h]
theorem uF {l:Sl} {ll:List Int} {K:Int→Heap→Prop} (hg:Gl H) (hgs:¬ez k sw sl bo) (h:nb H k p w sw sl) (hp:aE F H p dp s) (hd:∀b,F b→¬ez k sw sl b)
  (hl:Ints .u64 H l ll) (hlb:∀ad,l.a=some ad→¬ez k sw sl ad.block) (hlen:(ll.length:Int)=w.b.width→ll.length≤1000000) (hwl:w.wait.length≤1000000) (hwr:w.rows<1099511627776) (hwn:w.n<1099511627776)
  (hn:w.b.name.size≤9223372036854775807) (hlogs:s.d.logs<68719470000) (hnx:s.next<1099511627776) (h0:0≤s.next) (hfit:s.Fit)
  (hK:∀F' sw' sl' H',aE F' H' p dp (w.add s ll).1→nb H' k p (w.add s ll).2.1 sw' sl'→(∀b,F' b→¬ez k sw' sl' b)→Step (fun b=>F b∨ez k sw sl b) (fun b=>F' b∨ez k sw' sl' b) H H'→K (w.add s ll).2.2 H'):wB.sp (ay k) l H K:=by
 refine wB.of ?_
 unfold wB.vc
 unfold ay
 refine ar rfl ?_
 simp only[ak]
 have hln:=hl.len
 unfold RW.add at hK
 refine j4 h.row ?_
 refine ag (fun hc=>?_) (fun hc=>?_)
 ·have e0:w.b.ready≠0:=by simpa using hc
  rw[if_pos e0] at hK
  exact hK F sw sl H hp h hd (.refl _ _)
 have e0:¬w.b.ready≠0:=by simpa using hc
 rw[if_neg e0] at hK
 refine⟨fun _ A=>A=H∧¬((ll.length:Int)≠w.b.width)∧¬(0<w.rows∧bt ll w.last≤0),?_,?_⟩
 ·refine ai.ld (c:=aa .i64) (i:=2) (x:=w.b.width) h.row (ba.get 2 _ rfl) ?_
  refine ag (fun hc=>?_) (fun hc=>?_)
  ·have e1:(ll.length:Int)≠w.b.width:=by rw[←hln];simpa using hc
   rw[if_pos e1] at hK
   exact hK F sw sl H hp h hd (.refl _ _)
  have e1:¬((ll.length:Int)≠w.b.width):=by rw[←hln];simpa using hc
  rw[if_neg e1] at hK
  have hlen:=hlen (by omega)
  refine ai.ld (c:=aa .i64) (i:=9) (x:=(w.rows:Int)) h.row (ba.tail (j:=3) rfl) ?_
  refine ag (fun hc=>?_) (fun hc=>?_)
  ·have e2 : 0 < w.rows := by have : (w.rows : Int) > 0 := by simpa using hc
                              omega
   refine ai.ld (c:=aq) (i:=8) (x:=sl) h.row (ba.tail (j:=2) rfl) ?_
   refine kf hl h.last.ints (by omega) ?_
   refine ag (fun hc=>?_) (fun hc=>?_)
   ·have e3:bt ll w.last≤0:=by simpa using hc
    rw[if_pos ⟨e2,e3⟩] at hK
    exact hK F sw sl H hp h hd (.refl _ _)
   ·have e3:¬bt ll w.last≤0:=by simpa using hc
    exact⟨rfl,e1,fun q=>e3 q.2⟩
  ·have e2 : ¬ 0 < w.rows := by have : ¬ (w.rows : Int) > 0 := by simpa using hc
                                omega
   exact⟨rfl,e1,fun q=>e2 q.1⟩
 rintro _ A ⟨rfl,e1,e2⟩
 rw[if_neg e1,if_neg e2] at hK
 have hlen:=hlen (by omega)
 refine⟨fun A=>ba A k BF p w.b [sw.v,.int .i64 (w.n:Int),sl.v,.int .i64 (w.rows:Int)],h.row,?_⟩
 refine ai.dK (c:=aq) (i:=6) (x:=sw) (cs:=fun _=>_) (fun _ q=>q) (fun _ _=>ba.tail (j:=0) rfl) ?_
 refine qp hl hlen fun r A1 o1 x1=>?_
 have h1:=h.mod x1 fun _ _=>id
 refine⟨h1.row,?_⟩
 have hpl:(bS ll).length≤8*1000000+1:=by have:=qR ll;omega
 have o1':cL EB A1 r.a (cg (bS ll)):=by
  unfold cL;rw[gC,iW (fe ll)];exact o1.reads
 have rn:r.n=(cg (bS ll)).length:=by have:=o1.1;simpa using this.symm
 refine aG.append hC h1.wait o1' rn (by rw[bP];omega) (by rw[bP];omega) fun s' A2 o2 g2 _=>?_
 have hkl:=az h.row
 have z1:=x1.size
 have z2:=g2.1.size
 have r2:ba A2 k BF p w.b [sw.v,.int .i64 (w.n:Int),sl.v,.int .i64 (w.rows:Int)]:=h1.row.mod g2.1 h.rQ
 have l2:Ints .u64 A2 l ll:=(hl.ext x1).mod g2.1 fun ad ha q=>hlb ad ha (.inr (.inl q))
 have q2:aN A2 0 iw 1 sl (w.last.map (Value.int .u64)):=h1.last.mod g2.1 fun b hb q=>h1.last.apart h1.wait (by decide) b hb q
 refine ai.st r2 (i:=6) (by simp[bw]) rfl fun A3 r3 m3 z3=>?_
 have hnew:¬aj s' k:=fun q=>by
  rcases g2.2 k q with u|u
  ·exact h.rQ u
  ·omega
 have l3:Ints .u64 A3 l ll:=l2.mod m3 fun ad ha q=>hlb ad ha (.inl q)
 have o3:aG EB eA A3 s' (w.wait++cg (bS ll)):=o2.mod m3 fun b hb q=>hnew (q▸hb)
 refine qw l3 hlen fun c A4 o4 x4 f4=>?_
 have r4:=r3.ext x4
 have hck:¬aj c k:=fun q=>by have:=f4 k q;have:=m3.size;omega
 refine ai.st r4 (i:=8) (by simp[bw]) rfl fun A5 r5 m5 z5=>?_
 refine ai.ld (c:=aa .i64) (i:=9) (x:=(w.rows:Int)) r5 (by simp[bw]) ?_
 refine ai.st r5 (i:=9) (by simp[bw]) rfl fun A6 r6 m6 z6=>?_
 refine ai.ld (c:=aa .i64) (i:=7) (x:=(w.n:Int)) r6 (by simp[bw]) ?_
 refine ai.st r6 (i:=7) (by simp[bw]) rfl fun A7 r7 m7 z7=>?_
 rw[aK w.rows (by omega)] at r7
 rw[aK w.n (by omega)] at r7
 have r7':ba A7 k BF p w.b [s'.v,.int .i64 ((w.n+1:Nat):Int),c.v,.int .i64 ((w.rows+1:Nat):Int)]:=by
  have e:(((((bw p w.b++[sw.v,.int .i64 (w.n:Int),sl.v,.int .i64 (w.rows:Int)]).toArray.setIfInBounds 6 s'.v).setIfInBounds 8 c.v).setIfInBounds 9 (.int .i64 ((w.rows+1:Nat):Int))).setIfInBounds 7 (.int .i64 ((w.n+1:Nat):Int)))=(bw p w.b++[s'.v,.int .i64 ((w.n+1:Nat):Int),c.v,.int .i64 ((w.rows+1:Nat):Int)]).toArray:=by
   simp[bw]
  rw[e] at r7;exact r7
 have m47:Mod (fun q=>q=k) A4 A7:=(m5.trans m6).trans m7
 have h7:nb A7 k p (w.push ll) s' c:=⟨r7',(o3.ext x4).mod m47 fun b hb q=>hnew (q▸hb),o4.mod m47 fun b hb q=>hck (q▸hb)⟩
 have m07:Mod (fun b=>b=k∨aj sw b) A A7:=by
  have a1:Mod (fun b=>b=k∨aj sw b) A A2:=x1.mod.trans' g2.1 fun b _ q=>.inr q
  have a2:Mod (fun b=>b=k∨aj sw b) A A3:=a1.trans' m3 fun b _ q=>.inl q
  have a3:Mod (fun b=>b=k∨aj sw b) A A4:=a2.trans' x4 fun b _ q=>q.elim
  exact a3.trans' m47 fun b _ q=>.inl q
 have s'own:∀b,aj s' b→aj sw b∨A.size≤b:=fun b hb=>(g2.2 b hb).imp_right fun q=>by omega
 have cown:∀b,aj c b→A.size≤b:=fun b hb=>by have:=f4 b hb;have:=m3.size;omega
 have p7:aE F A7 p dp s:=hp.keep fun b hb hlt=>m07.same b hlt fun q=>hd b hb (q.imp_right .inl)
 have hd7:∀b,F b→¬ez k s' c b:=by
  rintro b hb (q|q|q)
  ·exact hd b hb (.inl q)
  ·rcases s'own b q with u|u
   ·exact hd b hb (.inr (.inl u))
   ·have:=hp.lt b hb;omega
  ·have:=cown b q;have:=hp.lt b hb;omega
 have S7:∀(F':Nat→Prop) (sw':Sl) (H':Heap),(∀b,aj sw' b→aj s' b)→Mod (fun b=>F b∨b=k) A7 H'→(∀b,F' b→F b∨A7.size≤b)→Step (fun b=>F b∨ez k sw sl b) (fun b=>F' b∨ez k sw' c b) A H':=by
  intro F' sw' H' h1 h2 h3
  have z7':=m07.size
  refine⟨(m07.mono fun b _ q=>.inr (q.imp_right .inl)).trans' h2 fun b _ q=>q.imp_right .inl,fun b hb=>?_⟩
  rcases hb with q|q|q|q
  ·rcases h3 b q with u|u
   ·exact .inl (.inl u)
   ·right;omega
  ·exact .inl (.inr (.inl q))
  ·rcases s'own b (h1 b q) with u|u
   ·exact .inl (.inr (.inr (.inl u)))
   ·exact .inr u
  ·exact .inr (cown b q)
 refine ai.ld (c:=aa .i64) (i:=7) (x:=((w.n+1:Nat):Int)) r7' (ba.tail (j:=1) rfl) ?_
 refine ai.ld (c:=aa .i64) (i:=3) (x:=aS w.b.width) r7' (ba.get 3 _ rfl) ?_
 refine ag (fun hc=>?_) (fun hc=>?_)
 ·have e3:((w.n+1:Nat):Int)<aS w.b.width:=by simpa using hc
  rw[if_pos e3] at hK
  exact hK F s' c A7 p7 h7 hd7 (S7 F s' A7 (fun _ q=>q) (.refl _ _) fun b q=>.inl q)
 ·have e3:¬((w.n+1:Nat):Int)<aS w.b.width:=by simpa using hc
  rw[if_neg e3] at hK
  refine wD (hg.keep (m07.same _ hg.lt ?_)) h7 p7 hd7 hn hlogs hnx h0 hfit fun F' sw' H' p8 h8 hsub m8 hown=>hK F' sw' c H' p8 h8 ?_ (S7 F' sw' H' hsub m8 hown)
  ·rintro(q|q)
   ·exact hgs (.inl q)
   ·exact hgs (.inr (.inl q))
  ·rintro b hb (q|q|q)
   ·rcases hown b hb with u|u
    ·exact hd7 b u (.inl q)
    ·have:=h7.lt b (.inl q);omega
   ·rcases hown b hb with u|u
    ·exact hd7 b u (.inr (.inl (hsub b q)))
    ·have:=h7.lt b (.inr (.inl (hsub b q)));omega
   ·rcases hown b hb with u|u
    ·exact hd7 b u (.inr (.inr q))
    ·have:=h7.lt b (.inr (.inr q));omega
theorem Cp {l:Sl} {ll:List Int} {K:Int→Heap→Prop} (hg:Gl H) (hgs:¬ez k sw sl bo) (h:nb H k p w sw sl) (hp:aE F H p dp s) (hd:∀b,F b→¬ez k sw sl b)
  (hl:Ints .u64 H l ll) (hlb:∀ad,l.a=some ad→¬ez k sw sl ad.block) (hlen:ll.length≤1000000) (hwl:w.wait.length≤1000000) (hwr:w.rows<1099511627776) (hwn:w.n<1099511627776)
  (hn:w.b.name.size≤9223372036854775807) (hlogs:s.d.logs<68719470000) (hnx:s.next<1099511627776) (h0:0≤s.next) (hfit:s.Fit)
  (hK:∀F' sw' sl' H',aE F' H' p dp (w.add s ll).1→nb H' k p (w.add s ll).2.1 sw' sl'→(∀b,F' b→¬ez k sw' sl' b)→Step (fun b=>F b∨ez k sw sl b) (fun b=>F' b∨ez k sw' sl' b) H H'→K (w.add s ll).2.2 H'):wB.sp (ay k) l H K:=uF hg hgs h hp hd hl hlb (fun _=>hlen) hwl hwr hwn hn hlogs hnx h0 hfit hK
end
structure oI (H:Heap) (k p:Nat) (w:RW) (sw sl:Sl):Prop where
 row:bl H k Ci p w.b [sw.v,.int .i64 (w.n:Int),sl.v,.int .i64 (w.rows:Int)]
 wait:aG EB eA H sw w.wait
 last:aN H 0 iw 1 sl (w.last.map (Value.int .u64))
section
variable {H:Heap} {k p dp:Nat} {w:RW} {sw sl:Sl} {F:Nat→Prop} {s:Pl}
theorem oI.rQ (h:oI H k p w sw sl):¬aj sw k:=fun q=>by
 obtain⟨cur,hc⟩:=h.wait.obj k q
 exact absurd (aL hc h.row) (by decide)
theorem oI.uR (h:oI H k p w sw sl):¬aj sl k:=fun q=>by
 obtain⟨cur,hc⟩:=h.last.obj k q
 exact absurd (aL hc h.row) (by decide)
theorem oI.lt (h:oI H k p w sw sl):∀b,ez k sw sl b→b<H.size:=by
 rintro b (rfl|q|q)
 ·exact az h.row
 ·exact h.wait.lt b q
 ·exact h.last.lt b q
theorem oI.keep {H':Heap} (h:oI H k p w sw sl) (e:∀b,ez k sw sl b→b<H.size→H'[b]?=H[b]?):oI H' k p w sw sl:=
 ⟨(e k (.inl rfl) (az h.row)).trans h.row,h.wait.keep fun b hb hl=>e b (.inr (.inl hb)) hl,h.last.keep fun b hb hl=>e b (.inr (.inr hb)) hl⟩
theorem oI.mod {G:Nat→Prop} {H':Heap} (h:oI H k p w sw sl) (m:Mod G H H') (hn:∀b,ez k sw sl b→¬G b):oI H' k p w sw sl:=h.keep fun b hb hl=>m.same b hl (hn b hb)
theorem Ints.Gn {F:Nat→Prop} {k:IntKind} {H H':Heap} {s:Sl} {l:List Int} (h:Ints k H s l) (hm:Mod F H H') (hn:∀ad,s.a=some ad→l≠[]→¬F ad.block):Ints k H' s l:=by
 by_cases e:l=[]
 ·subst e
  exact⟨h.len,fun i v hv=>by simp at hv⟩
 ·exact h.mod hm fun ad ha=>hn ad ha e
theorem Rb.rz {b:Rb} (h:¬b.ready≠0):b.wrong=0∧b.closed=false:=by
 unfold Rb.ready at h
 split at h
 ·rename_i q;exact absurd q h
 ·rename_i q
  refine⟨Decidable.of_not_not q,?_⟩
  split at h
  ·exact absurd (by decide) h
  ·rename_i q2;exact Bool.eq_false_iff.2 q2
theorem wJ {K:Int→Heap→Prop} (h:oI H k p w sw sl) (hp:aI F H p dp s) (hd:∀b,F b→¬ez k sw sl b) (hw0:w.b.wrong=0)
  (hn:w.b.name.size≤9223372036854775807) (hlogs:s.d.logs<68719470000) (hnx:s.next<1099511620000) (h0:0≤s.next) (hfit:s.Fit)
  (hK:∀F' sw' H',aI F' H' p dp (w.out s).1→oI H' k p (w.out s).2.1 sw' sl→(∀b,aj sw' b→aj sw b)→Mod (fun b=>F b∨b=k) H H'→(∀b,F' b→F b∨H.size≤b)→K (w.out s).2.2 H'):Dp.sp (ay k) H K:=by
 refine Dp.of ?_
 unfold Dp.vc
 simp only[ak,ay]
 refine ai.ld (c:=aa .i64) (i:=6) (x:=(w.n:Int)) h.row (bl.tail (j:=1) rfl) ?_
 refine ag (fun hc=>?_) (fun hc=>?_)
 ·have e0 : w.n = 0 := by have : (w.n : Int) = 0 := by simpa using hc
                          omega
  have eo:w.out s=(s,w,0):=if_pos e0
  rw[eo] at hK
  exact hK F sw H hp h (fun b q=>q) (.refl _ _) (fun b q=>.inl q)
 ·have e0:¬w.n=0:=fun q=>by rw[q] at hc;simp at hc
  have eo:w.out s=((s.more w.b.name 1 w.wait).1,{w with b:=w.b.bV (s.more w.b.name 1 w.wait).2,wait:=[],n:=0},(s.more w.b.name 1 w.wait).2):=if_neg e0
  rw[eo] at hK
  have hkF:¬F k:=fun q=>hd k q (.inl rfl)
  refine ai.ld (c:=aq) (i:=5) (x:=sw) h.row (bl.tail (j:=0) rfl) ?_
  refine wM (kd:=1) h.row hp hkF (bM h.wait) (fun ad ha=>⟨fun q=>hd _ q (.inr (.inl ⟨ad,ha,rfl⟩)),h.wait.lt _ ⟨ad,ha,rfl⟩⟩) hn hlogs hnx h0 hfit fun F1 H1 p1 S1=>?_
  have h1:=h.mod S1.mod fun b hb q=>hd b q hb
  have hkl:=az h.row
  have hkF1:¬F1 k:=fun q=>(S1.own k q).elim hkF fun r=>by omega
  generalize (s.more w.b.name 1 w.wait).1=s1 at*
  generalize (s.more w.b.name 1 w.wait).2=e at*
  refine ai.st h1.row (i:=5) (by simp[bQ]) rfl fun H2 r2 m2 z2=>?_
  refine ai.st r2 (i:=6) (by simp[bQ]) rfl fun H3 r3 m3 z3=>?_
  have r3':bl H3 k Ci p w.b [(Sl.mk none 0 0).v,.int .i64 ((0:Nat):Int),sl.v,.int .i64 (w.rows:Int)]:=by
   have e:((bQ p w.b++[sw.v,.int .i64 (w.n:Int),sl.v,.int .i64 (w.rows:Int)]).toArray.setIfInBounds 5 (.slice none 0 0)).setIfInBounds 6 (.int .i64 0)=(bQ p w.b++[(Sl.mk none 0 0).v,.int .i64 ((0:Nat):Int),sl.v,.int .i64 (w.rows:Int)]).toArray:=by simp[bQ]
   rw[e] at r3;exact r3
  refine mT r3' hw0 fun H4 r4 m4 z4=>?_
  have m14:Mod (fun q=>q=k) H1 H4:=(m2.trans m3).trans m4
  have m04:Mod (fun b=>F b∨b=k) H H4:=(S1.mod.mono fun b _ q=>.inl q).trans' m14 fun b hb q=>.inr q
  refine hK F1 (Sl.mk none 0 0) H4 (p1.keep fun b hb hl=>m14.same b hl fun q=>hkF1 (q▸hb)) ⟨r4,aG.nil _ _ _,h1.last.keep fun b hb hl=>m14.same b hl fun q=>h1.uR (q▸hb)⟩ (by rintro b ⟨ad,q,_⟩;cases q) m04 S1.own
set_option maxHeartbeats 1000000 in
theorem CR {l:Sl} {ll:List Int} {K:Int→Heap→Prop} (h:oI H k p w sw sl) (hp:aI F H p dp s) (hd:∀b,F b→¬ez k sw sl b)
  (hl:Ints .u64 H l ll) (hlb:∀ad,l.a=some ad→ll≠[]→¬ez k sw sl ad.block) (hlen:(ll.length:Int)=w.b.width→ll.length≤1000000) (hwl:w.wait.length≤1000000) (hwr:w.rows<1099511627776) (hwn:w.n<1099511627776)
  (hn:w.b.name.size≤9223372036854775807) (hlogs:s.d.logs<68719470000) (hnx:s.next<1099511620000) (h0:0≤s.next) (hfit:s.Fit)
  (hK:∀F' sw' sl' H',aI F' H' p dp (w.add s ll).1→oI H' k p (w.add s ll).2.1 sw' sl'→(∀b,F' b→¬ez k sw' sl' b)→Step (fun b=>F b∨ez k sw sl b) (fun b=>F' b∨ez k sw' sl' b) H H'→K (w.add s ll).2.2 H'):Ch.sp (ay k) l H K:=by
 refine Ch.of ?_
 unfold Ch.vc
 simp only[ak,ay]
 have hln:=hl.len
 unfold RW.add at hK
 refine j6 h.row ?_
 refine⟨fun _ A=>A=H∧¬w.b.ready≠0∧¬((ll.length:Int)≠w.b.width)∧¬(0<w.rows∧bt ll w.last≤0),?_,?_⟩
 ·refine ag (fun hc=>?_) (fun hc=>?_)
  ·have e0:w.b.ready≠0:=by simpa using hc
   rw[if_pos e0] at hK
   exact hK F sw sl H hp h hd (.refl _ _)
  have e0:¬w.b.ready≠0:=by simpa using hc
  rw[if_neg e0] at hK
  refine ai.ld (c:=aa .i64) (i:=2) (x:=w.b.width) h.row (bl.get 2 _ rfl) ?_
  refine ag (fun hc=>?_) (fun hc=>?_)
  ·have e1:(ll.length:Int)≠w.b.width:=by rw[←hln];simpa using hc
   rw[if_pos e1] at hK
   exact hK F sw sl H hp h hd (.refl _ _)
  have e1:¬((ll.length:Int)≠w.b.width):=by rw[←hln];simpa using hc
  rw[if_neg e1] at hK
  have hlen:=hlen (by omega)
  refine ai.ld (c:=aa .i64) (i:=8) (x:=(w.rows:Int)) h.row (bl.tail (j:=3) rfl) ?_
  refine ag (fun hc=>?_) (fun hc=>?_)
  ·have e2 : 0 < w.rows := by have : (w.rows : Int) > 0 := by simpa using hc
                              omega
   refine ai.ld (c:=aq) (i:=7) (x:=sl) h.row (bl.tail (j:=2) rfl) ?_
   refine ka hl h.last.ints (by omega) ?_
   refine ag (fun hc=>?_) (fun hc=>?_)
   ·have e3:bt ll w.last≤0:=by simpa using hc
    rw[if_pos ⟨e2,e3⟩] at hK
    exact hK F sw sl H hp h hd (.refl _ _)
   ·have e3:¬bt ll w.last≤0:=by simpa using hc
    exact⟨rfl,e0,e1,fun q=>e3 q.2⟩
  ·have e2 : ¬ 0 < w.rows := by have : ¬ (w.rows : Int) > 0 := by simpa using hc
                                omega
   exact⟨rfl,e0,e1,fun q=>e2 q.1⟩
 rintro _ A ⟨rfl,e0,e1,e2⟩
 rw[if_neg e0,if_neg e1,if_neg e2] at hK
 have hlen:=hlen (by omega)
 obtain⟨hw0,_⟩:=Rb.rz e0
 refine⟨fun A=>bl A k Ci p w.b [sw.v,.int .i64 (w.n:Int),sl.v,.int .i64 (w.rows:Int)],h.row,?_⟩
 refine ai.dK (c:=aq) (i:=5) (x:=sw) (cs:=fun _=>_) (fun _ q=>q) (fun _ _=>bl.tail (j:=0) rfl) ?_
 refine ra hl hlen fun r A1 o1 x1=>?_
 have h1:=h.mod x1 fun _ _=>id
 refine⟨h1.row,?_⟩
 have hpl:(bS ll).length≤8*1000000+1:=by have:=qR ll;omega
 have o1':cL EB A1 r.a (cg (bS ll)):=by
  unfold cL;rw[gC,iW (fe ll)];exact o1.reads
 have rn:r.n=(cg (bS ll)).length:=by have:=o1.1;simpa using this.symm
 refine aG.append hC h1.wait o1' rn (by rw[bP];omega) (by rw[bP];omega) fun s' A2 o2 g2 _=>?_
 have hkl:=az h.row
 have z1:=x1.size
 have z2:=g2.1.size
 have r2:bl A2 k Ci p w.b [sw.v,.int .i64 (w.n:Int),sl.v,.int .i64 (w.rows:Int)]:=h1.row.mod g2.1 h.rQ
 have l2:Ints .u64 A2 l ll:=(hl.ext x1).Gn g2.1 fun ad ha hne q=>hlb ad ha hne (.inr (.inl q))
 have hnew:¬aj s' k:=fun q=>by
  rcases g2.2 k q with u|u
  ·exact h.rQ u
  ·omega
 refine ai.st r2 (i:=5) (by simp[bQ]) rfl fun A3 r3 m3 z3=>?_
 refine ai.ld (c:=aa .i64) (i:=6) (x:=(w.n:Int)) r3 (by simp[bQ]) ?_
 refine ai.st r3 (i:=6) (by simp[bQ]) rfl fun A4 r4 m4 z4=>?_
 refine ai.ld (c:=aa .i64) (i:=8) (x:=(w.rows:Int)) r4 (by simp[bQ]) ?_
 refine ai.st r4 (i:=8) (by simp[bQ]) rfl fun A5 r5 m5 z5=>?_
 refine ai.st r5 (i:=7) (by simp[bQ]) rfl fun A6 r6 m6 z6=>?_
 refine ai.ld (c:=aq) (i:=7) (x:=Sl.mk none 0 0) r6 (by simp[bQ]) ?_
 have m26:Mod (fun q=>q=k) A2 A6:=((m3.trans m4).trans m5).trans m6
 have l6:Ints .u64 A6 l ll:=l2.Gn m26 fun ad ha hne q=>hlb ad ha hne (.inl q)
 have o6:aG EB eA A6 s' (w.wait++cg (bS ll)):=o2.mod m26 fun b hb q=>hnew (q▸hb)
 refine ov.append (base:=A6.size) (s:=Sl.mk none 0 0) (x:=l) (aN.nil _ _ _ _) (by rw[List.length_map];exact hln.symm) l6.reads (od _ _) (by simp;omega) (by simp;omega) (Nat.le_refl _) fun c A7 n7 o7 m7 f7 _=>?_
 have x7:Ext A6 A7:=⟨m7.size,fun b hb _=>m7.same b hb (by rintro⟨ad,q,_⟩;cases q)⟩
 have cown6:∀b,aj c b→A6.size≤b:=fun b hb=>by
  rcases f7 b hb with ⟨ad,q,_⟩|q
  ·cases q
  ·exact q
 have hck:¬aj c k:=fun q=>by have:=cown6 k q;have:=m26.size;omega
 refine ai.st (r6.ext x7) (i:=7) (by simp[bQ]) rfl fun A8 r8 m8 z8=>?_
 rw[aK w.rows (by omega),aK w.n (by omega)] at r8
 have r8':bl A8 k Ci p w.b [s'.v,.int .i64 ((w.n+1:Nat):Int),c.v,.int .i64 ((w.rows+1:Nat):Int)]:=by
  have e:(((((bQ p w.b++[sw.v,.int .i64 (w.n:Int),sl.v,.int .i64 (w.rows:Int)]).toArray.setIfInBounds 5 s'.v).setIfInBounds 6 (.int .i64 ((w.n+1:Nat):Int))).setIfInBounds 8 (.int .i64 ((w.rows+1:Nat):Int))).setIfInBounds 7 (.slice none 0 0)).setIfInBounds 7 c.v=(bQ p w.b++[s'.v,.int .i64 ((w.n+1:Nat):Int),c.v,.int .i64 ((w.rows+1:Nat):Int)]).toArray:=by
   simp[bQ]
  rw[e] at r8;exact r8
 have h8:oI A8 k p (w.push ll) s' c:=⟨r8',(o6.ext x7).mod m8 fun b hb q=>hnew (q▸hb),(by
  have:=o7.tC
  rw[List.nil_append] at this
  exact this.mod m8 fun b hb q=>hck (q▸hb))⟩
 have m08:Mod (fun b=>b=k∨aj sw b) A A8:=by
  have a1:Mod (fun b=>b=k∨aj sw b) A A2:=x1.mod.trans' g2.1 fun b _ q=>.inr q
  have a2:Mod (fun b=>b=k∨aj sw b) A A6:=a1.trans' m26 fun b _ q=>.inl q
  have a3:Mod (fun b=>b=k∨aj sw b) A A7:=a2.trans' x7 fun b _ q=>q.elim
  exact a3.trans' m8 fun b _ q=>.inl q
 have s'own:∀b,aj s' b→aj sw b∨A.size≤b:=fun b hb=>(g2.2 b hb).imp_right fun q=>by omega
 have cown:∀b,aj c b→A.size≤b:=fun b hb=>by have:=cown6 b hb;have:=m26.size;omega
 have p8:aI F A8 p dp s:=hp.keep fun b hb hlt=>m08.same b hlt fun q=>hd b hb (q.imp_right .inl)
 have hd8:∀b,F b→¬ez k s' c b:=by
  rintro b hb (q|q|q)
  ·exact hd b hb (.inl q)
  ·rcases s'own b q with u|u
   ·exact hd b hb (.inr (.inl u))
   ·have:=hp.lt b hb;omega
  ·have:=cown b q;have:=hp.lt b hb;omega
 have S8:∀(F':Nat→Prop) (sw':Sl) (H':Heap),(∀b,aj sw' b→aj s' b)→Mod (fun b=>F b∨b=k) A8 H'→(∀b,F' b→F b∨A8.size≤b)→Step (fun b=>F b∨ez k sw sl b) (fun b=>F' b∨ez k sw' c b) A H':=by
  intro F' sw' H' h1 h2 h3
  have z8':=m08.size
  refine⟨(m08.mono fun b _ q=>.inr (q.imp_right .inl)).trans' h2 fun b _ q=>q.imp_right .inl,fun b hb=>?_⟩
  rcases hb with q|q|q|q
  ·rcases h3 b q with u|u
   ·exact .inl (.inl u)
   ·right;omega
  ·exact .inl (.inr (.inl q))
  ·rcases s'own b (h1 b q) with u|u
   ·exact .inl (.inr (.inr (.inl u)))
   ·exact .inr u
  ·exact .inr (cown b q)
 refine⟨fun A=>bl A k Ci p w.b [s'.v,.int .i64 ((w.n+1:Nat):Int),c.v,.int .i64 ((w.rows+1:Nat):Int)],r8',?_⟩
 refine ai.dK (c:=aa .i64) (i:=6) (x:=((w.n+1:Nat):Int)) (cs:=fun _=>_) (fun _ q=>q) (fun _ _=>bl.tail (j:=1) rfl) ?_
 refine ai.ld (c:=aa .i64) (i:=2) (x:=w.b.width) r8' (bl.get 2 _ rfl) ?_
 refine eW ⟨r8',?_⟩
 refine ag (fun hc=>?_) (fun hc=>?_)
 ·have e3:((w.n+1:Nat):Int)<aS w.b.width:=by simpa using hc
  rw[if_pos e3] at hK
  exact hK F s' c A8 p8 h8 hd8 (S8 F s' A8 (fun _ q=>q) (.refl _ _) fun b q=>.inl q)
 ·have e3:¬((w.n+1:Nat):Int)<aS w.b.width:=by simpa using hc
  rw[if_neg e3] at hK
  refine wJ h8 p8 hd8 hw0 hn hlogs hnx h0 hfit fun F' sw' H' p9 h9 hsub m9 hown=>hK F' sw' c H' p9 h9 ?_ (S8 F' sw' H' hsub m9 hown)
  rintro b hb (q|q|q)
  ·rcases hown b hb with u|u
   ·exact hd8 b u (.inl q)
   ·have:=h8.lt b (.inl q);omega
  ·rcases hown b hb with u|u
   ·exact hd8 b u (.inr (.inl (hsub b q)))
   ·have:=h8.lt b (.inr (.inl (hsub b q)));omega
  ·rcases hown b hb with u|u
   ·exact hd8 b u (.inr (.inr q))
   ·have:=h8.lt b (.inr (.inr q));omega
end
structure fL (H0:Heap) (F0:Nat→Prop) (k p dp:Nat) (sw sl:Sl) (F:Nat→Prop) (A:Heap) (s:Pl) (w:RW):Prop where
 ae:aE F A p dp s
 wr:nb A k p w sw sl
 dis:∀b,F b→¬ez k sw sl b
 mod:Mod (fun b=>F0 b∨b=k) H0 A
 own:∀b,F b→F0 b∨H0.size≤b
section
variable {H0:Heap} {F0:Nat→Prop} {k p dp:Nat} {sw sl:Sl} {F:Nat→Prop} {A:Heap} {s:Pl} {w:RW}
theorem fL.step {F':Nat→Prop} {A':Heap} {s':Pl} (h:fL H0 F0 k p dp sw sl F A s w) (hp:aE F' A' p dp s') (S:Step F F' A A'):fL H0 F0 k p dp sw sl F' A' s' w:=by
 refine⟨hp,h.wr.mod S.mod fun b hb q=>h.dis b q hb,fun b hb q=>?_,h.mod.trans' S.mod fun b hb q=>?_,fun b hb=>?_⟩
 ·rcases S.own b hb with r|r
  ·exact h.dis b r q
  ·have:=h.wr.lt b q;omega
 ·rcases h.own b q with r|r
  ·exact .inl r
  ·omega
 ·rcases S.own b hb with r|r
  ·exact h.own b r
  ·right;have:=h.mod.size;omega
theorem fL.ext {A':Heap} (h:fL H0 F0 k p dp sw sl F A s w) (e:Ext A A'):fL H0 F0 k p dp sw sl F A' s w:=h.step (h.ae.ext e) ⟨e.mod,fun _ q=>.inl q⟩
theorem fL.gl (h:fL H0 F0 k p dp sw sl F A s w) (hg:Gl H0) (h1:¬F0 bo) (h2:bo≠k):Gl A:=hg.keep (h.mod.same _ hg.lt fun q=>q.elim h1 h2)
theorem fL.aZ {A':Heap} {w':RW} {sw':Sl} (h:fL H0 F0 k p dp sw sl F A s w) (m:Mod (fun b=>b=k) A A') (hw:nb A' k p w' sw' sl) (hs:∀b,aj sw' b→aj sw b):fL H0 F0 k p dp sw' sl F A' s w':=by
 refine⟨h.ae.keep fun b hb hl=>m.same b hl fun q=>h.dis b hb (.inl q),hw,fun b hb q=>h.dis b hb (q.imp_right fun r=>r.imp_left (hs b)),h.mod.trans' m fun b _ q=>.inr q,h.own⟩
theorem fL.Gc {A':Heap} {G:Nat→Prop} {n:Nat} (h:fL H0 F0 k p dp sw sl F A s w) (m:Mod G A A') (hG:∀b,G b→n≤b) (hF:∀b,F b→b<n) (hw:∀b,ez k sw sl b→b<n) (h0:H0.size≤n):fL H0 F0 k p dp sw sl F A' s w:=
 ⟨h.ae.keep fun b hb hl=>m.same b hl fun q=>by have:=hG b q;have:=hF b hb;omega,h.wr.mod m fun b hb q=>by have:=hG b q;have:=hw b hb;omega,h.dis,h.mod.trans' m fun b hb q=>by have:=hG b q;omega,h.own⟩
theorem DA {n:Nat} (h:n<18446744073709551616):IntKind.u64.wrap (n:Int)=(n:Int):=by
 have:((n:Int)%18446744073709551616)=n:=Int.emod_eq_of_lt (by omega) (by omega)
 exact this
theorem yZ {A:Heap} {t:Nat} {x:UInt8} (r:ai A t eA #[.int .u8 (x.toNat:Int)]):aG EB eA A (Sl.mk (some ⟨t,0,none⟩) 1 1) [x]:=
 ⟨rfl,.inr ⟨t,1,#[.int .u8 (x.toNat:Int)],rfl,Nat.zero_le _,r,Nat.le_refl _,by unfold maxLen;omega,rfl,rfl⟩⟩
theorem gD {A:Heap} {t:Nat} {x:Int} (r:ai A t iw #[.int .u64 x]):Ints .u64 A (Sl.mk (some ⟨t,0,none⟩) 1 1) [x]:=by
 refine⟨rfl,fun i v hv=>⟨_,rfl,?_⟩⟩
 rw[aW]
 exact r.cell (by simpa using hv)
set_option maxHeartbeats 1000000 in
theorem qT {H:Heap} {K:(Int×Int)→Heap→Prop} (hg:Gl H) (hgs:¬ez k sw sl bo) (h:nb H k p w sw sl) (hp:aE F H p dp s) (hd:∀b,F b→¬ez k sw sl b)
  (hwr:w.rows<1099511627776) (hwd:0≤w.b.width) (hn:w.b.name.size≤9223372036854775807) (hlogs:s.d.logs<68719460000) (hnx:s.next<1099511620000) (h0:0≤s.next) (hfit:s.Fit)
  (hb1:(w.out s).1.d.logs<68719465000) (hb2:(w.out s).1.next<1099511625000)
  (hb3:∀h hd,(Pl.leave (((w.out s).1.aQ w.b.name 0).1.set h 2 hd) h).1.d.logs<68719470000)
  (hK:∀F' sw' H',aE F' H' p dp (w.close s).1→nb H' k p (w.close s).2.1 sw' sl→(∀b,F' b→¬ez k sw' sl b)→Step (fun b=>F b∨ez k sw sl b) (fun b=>F' b∨ez k sw' sl b) H H'→K (((w.close s).2.2.1:Int),(w.close s).2.2.2) H'):Ay.sp (ay k) H K:=by
 refine Ay.of ?_
 unfold Ay.vc
 unfold ay
 refine ar rfl ?_
 simp only[ak]
 unfold RW.close at hK
 refine j4 h.row ?_
 by_cases e0:w.b.ready≠0
 ·rw[if_pos e0] at hK
  refine ar (by simpa using e0) ?_
  refine aU (by simpa using e0) ?_
  exact hK F sw H hp h hd (.refl _ _)
 rw[if_neg e0] at hK
 refine aU (by simpa using e0) ?_
 have B0:fL H F k p dp sw sl F H s w:=⟨hp,h,hd,.refl _ _,fun b q=>.inl q⟩
 refine wD hg h hp hd hn (by omega) (by omega) h0 hfit fun F1 sw1 H1 p1 h1 hsub m1 own1=>?_
 have hb20:0≤(w.out s).1.next:=by have:=p1.wf.tick;omega
 have B1:fL H F k p dp sw1 sl F1 H1 (w.out s).1 (w.out s).2.1:=by
  refine⟨p1,h1,?_,m1,own1⟩
  rintro b hb (q|q|q)
  ·rcases own1 b hb with r|r
   ·exact hd b r (.inl q)
   ·have:=h.lt b (.inl q);omega
  ·rcases own1 b hb with r|r
   ·exact hd b r (.inr (.inl (hsub b q)))
   ·have:=h.lt b (.inr (.inl (hsub b q)));omega
  ·rcases own1 b hb with r|r
   ·exact hd b r (.inr (.inr q))
   ·have:=h.lt b (.inr (.inr q));omega
 -- the end of all
 have fin:∀(F':Nat→Prop) (sw':Sl) (A:Heap) (s':Pl) (w':RW),(∀b,aj sw' b→aj sw b)→fL H F k p dp sw' sl F' A s' w'→Step (fun b=>F b∨ez k sw sl b) (fun b=>F' b∨ez k sw' sl b) H A:=by
  intro F' sw' A s' w' hs B
  refine⟨B.mod.mono fun b _ q=>q.imp_right .inl,fun b hb=>?_⟩
  rcases hb with q|q|q|q
  ·rcases B.own b q with r|r
   ·exact .inl (.inl r)
   ·exact .inr r
  ·exact .inl (.inr (.inl q))
  ·exact .inl (.inr (.inr (.inl (hs b q))))
  ·exact .inl (.inr (.inr (.inr q)))
 refine ag (fun hc=>?_) (fun hc=>?_)
 ·have e1:(w.out s).2.2≠0:=by simpa using hc
  rw[if_pos e1] at hK
  exact hK F1 sw1 H1 p1 h1 B1.dis (fin F1 sw1 H1 _ _ hsub B1)
 have e1:¬(w.out s).2.2≠0:=by simpa using hc
 rw[if_neg e1] at hK
 have hwb:(w.out s).2.1.b=w.b∧(w.out s).2.1.rows=w.rows:=by
  unfold RW.out at e1 ⊢
  split
  ·exact⟨rfl,rfl⟩
  ·rename_i hq
   rw[if_neg hq] at e1
   refine⟨?_,rfl⟩
   show w.b.bV _=_
   unfold Rb.bV;rw[if_neg e1]
 obtain⟨hwb1,hwb2⟩:=hwb
 rw[←hwb1] at hn hb3 hwd
 rw[←hwb2] at hwr
 have hF0:¬F bo:=hp.fG
 have hk0:bo≠k:=fun q=>hgs (.inl q)
 generalize hs1:(w.out s).1=s1 at*
 generalize hw1:(w.out s).2.1=w1 at*
 refine ai.ld (c:=al) (i:=0) (x:=ay p) h1.row (ba.get 0 _ rfl) ?_
 refine ai.ld (c:=aR) (i:=1) (x:=w1.b.name) h1.row (ba.get 1 _ rfl) ?_
 refine AN (B1.gl hg hF0 hk0) p1 hn (by decide) (by decide) (by omega) (by omega) fun F2 H2 p2 S2=>?_
 have B2:=B1.step p2 S2
 have hnx2:(s1.aQ w1.b.name 0).1.next≤s1.next+1:=s1.ie hb20 (by omega)
 have hhead:w1.head s1=if (s1.aQ w1.b.name 0).2.2≠0 then ((s1.aQ w1.b.name 0).1,(s1.aQ w1.b.name 0).2.2) else
   if (Pl.leave ((s1.aQ w1.b.name 0).1.set (s1.aQ w1.b.name 0).2.1 2 (bJ w1.b.width w1.rows)) (s1.aQ w1.b.name 0).2.1).2≠0 then Pl.leave ((s1.aQ w1.b.name 0).1.set (s1.aQ w1.b.name 0).2.1 2 (bJ w1.b.width w1.rows)) (s1.aQ w1.b.name 0).2.1
   else (Pl.leave ((s1.aQ w1.b.name 0).1.set (s1.aQ w1.b.name 0).2.1 2 (bJ w1.b.width w1.rows)) (s1.aQ w1.b.name 0).2.1).1.flush w1.b.name:=rfl
 have hsn:=(s1.aQ w1.b.name 0).1.gv (s1.aQ w1.b.name 0).2.1 2 (bJ w1.b.width w1.rows)
 have hb3':=hb3 (s1.aQ w1.b.name 0).2.1 (bJ w1.b.width w1.rows)
 generalize (s1.aQ w1.b.name 0).1=s2 at*
 generalize (s1.aQ w1.b.name 0).2.1=hh at*
 generalize (s1.aQ w1.b.name 0).2.2=e2 at*
 -- what stands behind each cut
 obtain⟨X0,hX0⟩:∃X0:Pl×Int,X0=if e2≠0 then (s2,e2) else s2.set hh 2 (bJ w1.b.width w1.rows):=⟨_,rfl⟩
 obtain⟨X1,hX1⟩:∃X1:Pl×Int,X1=if e2≠0 then (s2,e2) else Pl.leave (s2.set hh 2 (bJ w1.b.width w1.rows)) hh:=⟨_,rfl⟩
 have hX1':X1=Pl.leave X0 hh:=by
  rw[hX1,hX0]
  by_cases q:e2≠0
  ·rw[if_pos q,if_pos q];exact(if_neg q).symm
  ·rw[if_neg q,if_neg q]
 have hX2:w1.head s1=if X1.2≠0 then X1 else X1.1.flush w1.b.name:=by
  rw[hhead,hX1]
  by_cases q:e2≠0
  ·rw[if_pos q,if_pos q,if_pos q]
  ·rw[if_neg q,if_neg q]
 have hX0n:X0.1.next≤s1.next+1:=by
  rw[hX0]
  by_cases q:e2≠0
  ·rw[if_pos q];exact hnx2
  ·rw[if_neg q,hsn];exact hnx2
 have hX1l:X1.2=0→X1.1.d.logs<68719470000:=by
  rw[hX1]
  by_cases q:e2≠0
  ·rw[if_pos q];intro r;exact absurd r q
  ·rw[if_neg q];intro _;exact hb3'
 refine⟨fun e A=>e=X0.2∧∃F',fL H F k p dp sw1 sl F' A X0.1 w1,?_,?_⟩
 ·refine ag (fun hc=>?_) (fun hc=>?_)
  ·have q:¬e2≠0:=by simpa using hc
   rw[if_neg q] at hX0
   refine⟨fun A=>ba A k BF p w1.b [sw1.v,.int .i64 (w1.n:Int),sl.v,.int .i64 (w1.rows:Int)],B2.wr.row,?_⟩
   refine ai.dK (c:=al) (i:=0) (x:=ay p) (cs:=fun _=>_) (fun _ q=>q) (fun _ _=>ba.get 0 _ rfl) ?_
   refine ai.dK (c:=aa .i64) (i:=2) (x:=w1.b.width) (cs:=fun _=>_) (fun _ q=>q) (fun _ _=>ba.get 2 _ rfl) ?_
   refine ai.dK (c:=aa .i64) (i:=9) (x:=(w1.rows:Int)) (cs:=fun _=>_) (fun _ q=>q) (fun _ _=>ba.tail (j:=3) rfl) ?_
   have hu8:IntKind.u8.wrap w1.b.width=((UInt8.ofNat w1.b.width.toNat).toNat:Int):=by
    have:w1.b.width=(w1.b.width.toNat:Int):=by omega
    rw[this,me];simp
   have hu64:IntKind.u64.wrap (w1.rows:Int)=(w1.rows:Int):=DA (by omega)
   rw[hu8,hu64]
   have putW:∀(A:Heap) (t:Nat) (K':Sl→Heap→Prop),ai A t iw #[.int .u64 (w1.rows:Int)]→(∀r A',cL EB A' r.a (cg (bS [(w1.rows:Int)]))→r.n=(cg (bS [(w1.rows:Int)])).length→Ext A A'→K' r A')→uV.sp (Sl.mk (some ⟨t,0,none⟩) 1 1) A K':=by
    intro A t K' r hk
    refine qp (gD r) (by simp) fun r A' o x=>hk r A' ?_ ?_ x
    ·unfold cL;rw[gC,iW (fe _)];exact o.reads
    ·have:=o.1;rw[bP];simpa using this.symm
   have tail:∀(A:Heap) (F':Nat→Prop) (t:Nat) (r:Sl),fL H F k p dp sw1 sl F' A s2 w1→H2.size≤t→F'=F2→ai A t eA #[.int .u8 ((UInt8.ofNat w1.b.width.toNat).toNat:Int)]→cL EB A r.a (cg (bS [(w1.rows:Int)]))→r.n=(cg (bS [(w1.rows:Int)])).length→
     bu aq Tryz.prog (Builtin.append_ #[dw,dw] dw #[(.slice (some ⟨t,0,none⟩) 1 1),r.v]) A fun(z:Sl) A'=>ba A' k BF p w1.b [sw1.v,.int .i64 (w1.n:Int),sl.v,.int .i64 (w1.rows:Int)]∧
      vQ.sp (ay p) hh (2:Int) z A' fun(e:Int) A''=>ba A'' k BF p w1.b [sw1.v,.int .i64 (w1.n:Int),sl.v,.int .i64 (w1.rows:Int)]∧(e=X0.2∧∃F',fL H F k p dp sw1 sl F' A'' X0.1 w1):=by
    intro A F' t r B ht hF rt hr hrn
    subst hF
    have o:=yZ rt
    have hrl:(cg (bS [(w1.rows:Int)])).length=8:=by rw[bP];simp[bS,cu]
    refine aG.append hC (s:=Sl.mk (some ⟨t,0,none⟩) 1 1) (x:=r) o hr hrn (by rw[hrl];simp) (by rw[hrl];simp) fun z A' oz gz _=>?_
    have B':fL H F k p dp sw1 sl F' A' s2 w1:=B.Gc gz.1 (n:=H2.size) (by rintro b ⟨ad,q1,q2⟩;cases q1;subst q2;exact ht) (fun b hb=>p2.lt b hb) (fun b hb=>B2.wr.lt b hb) B2.mod.size
    refine⟨B'.wr.row,?_⟩
    refine zx (kd:=2) (B'.gl hg hF0 hk0) B'.ae (bM oz) fun F3 H3 p3 S3=>?_
    have B3:=B'.step p3 S3
    refine⟨B3.wr.row,?_⟩
    rw[hX0]
    exact⟨rfl,F3,B3⟩
   refine⟨?_,?_⟩
   ·refine au fun A1 z1 r1 x1=>⟨(B2.ext x1).wr.row,?_⟩
    refine au fun A2 z2 r2 x2=>⟨((B2.ext x1).ext x2).wr.row,?_⟩
    refine putW A2 _ _ r2 fun r A3 hr hrn x3=>⟨(((B2.ext x1).ext x2).ext x3).wr.row,?_⟩
    exact tail A3 F2 _ r (((B2.ext x1).ext x2).ext x3) (Nat.le_refl _) rfl ((r1.ext x2).ext x3) hr hrn
   ·refine au fun A1 z1 r1 x1=>⟨(B2.ext x1).wr.row,?_,?_⟩
    ·refine au fun A2 z2 r2 x2=>⟨((B2.ext x1).ext x2).wr.row,?_⟩
     refine putW A2 _ _ (r1.ext x2) fun r A3 hr hrn x3=>⟨(((B2.ext x1).ext x2).ext x3).wr.row,?_⟩
     exact tail A3 F2 _ r (((B2.ext x1).ext x2).ext x3) (by omega) rfl (r2.ext x3) hr hrn
    ·refine putW A1 _ _ r1 fun r A2 hr hrn x2=>⟨((B2.ext x1).ext x2).wr.row,?_⟩
     refine au fun A3 z3 r3 x3=>⟨(((B2.ext x1).ext x2).ext x3).wr.row,?_⟩
     have:=x2.size
     exact tail A3 F2 _ r (((B2.ext x1).ext x2).ext x3) (by omega) rfl r3 (hr.ext x3) hrn
  ·have q:e2≠0:=by simpa using hc
   rw[if_pos q] at hX0
   rw[hX0]
   exact⟨rfl,F2,B2⟩
 rintro _ A3 ⟨rfl,F3,B3⟩
 refine⟨fun e A=>e=X1.2∧∃F',fL H F k p dp sw1 sl F' A X1.1 w1,?_,?_⟩
 ·refine ag (fun hc=>?_) (fun hc=>?_)
  ·have q:X0.2=0:=by simpa using hc
   refine ai.ld (c:=al) (i:=0) (x:=ay p) B3.wr.row (ba.get 0 _ rfl) ?_
   refine lE (B3.gl hg hF0 hk0) B3.ae (by omega) fun F4 H4 p4 S4=>?_
   have e:X1=X0.1.aD hh:=by rw[hX1'];exact if_pos q
   rw[e]
   exact⟨rfl,F4,B3.step p4 S4⟩
  ·have q:¬X0.2=0:=by simpa using hc
   have e:X1=X0:=by rw[hX1'];exact if_neg q
   rw[e]
   exact⟨rfl,F3,B3⟩
 rintro _ A4 ⟨rfl,F4,B4⟩
 refine⟨fun e A=>e=(w1.head s1).2∧∃F',fL H F k p dp sw1 sl F' A (w1.head s1).1 w1,?_,?_⟩
 ·refine ag (fun hc=>?_) (fun hc=>?_)
  ·have q:X1.2=0:=by simpa using hc
   refine ai.ld (c:=al) (i:=0) (x:=ay p) B4.wr.row (ba.get 0 _ rfl) ?_
   refine ai.ld (c:=aR) (i:=1) (x:=w1.b.name) B4.wr.row (ba.get 1 _ rfl) ?_
   refine AH (B4.gl hg hF0 hk0) B4.ae (hX1l q) fun F5 H5 p5 S5=>?_
   have e:w1.head s1=X1.1.flush w1.b.name:=by rw[hX2];exact if_neg (by simpa using q)
   rw[e]
   exact⟨rfl,F5,B4.step p5 S5⟩
  ·have q:¬X1.2=0:=by simpa using hc
   have e:w1.head s1=X1:=by rw[hX2];exact if_pos q
   rw[e]
   exact⟨rfl,F4,B4⟩
 rintro _ A5 ⟨rfl,F5,B5⟩
 unfold RW.ends at hK
 refine nc B5.wr.row fun A6 r6 m6 z6=>?_
 refine ag (fun hc=>?_) (fun hc=>?_)
 ·have q:(w1.head s1).2≠0:=by simpa using hc
  rw[if_pos q] at hK
  have B6:fL H F k p dp sw1 sl F5 A6 (w1.head s1).1 {w1 with b:=w1.b.bV (w1.head s1).2}:=B5.aZ m6 ⟨r6,B5.wr.wait.mod m6 fun b hb q=>B5.wr.rQ (q▸hb),B5.wr.last.mod m6 fun b hb q=>B5.wr.uR (q▸hb)⟩ fun _ q=>q
  exact hK F5 sw1 A6 B6.ae B6.wr B6.dis (fin F5 sw1 A6 _ _ hsub B6)
 ·have q:¬(w1.head s1).2≠0:=by simpa using hc
  rw[if_neg q] at hK
  have eb:w1.b.bV (w1.head s1).2=w1.b:=if_neg q
  rw[eb] at r6
  refine ai.st r6 (i:=5) (by simp[bw]) rfl fun A7 r7 m7 z7=>?_
  rw[rM] at r7
  have m57:=m6.trans m7
  have B7:fL H F k p dp sw1 sl F5 A7 (w1.head s1).1 w1.stop:=B5.aZ m57 ⟨r7,B5.wr.wait.mod m57 fun b hb q=>B5.wr.rQ (q▸hb),B5.wr.last.mod m57 fun b hb q=>B5.wr.uR (q▸hb)⟩ fun _ q=>q
  refine ai.ld (c:=aa .i64) (i:=9) (x:=(w1.rows:Int)) B7.wr.row (ba.tail (j:=3) rfl) ?_
  exact hK F5 sw1 A7 B7.ae B7.wr B7.dis (fin F5 sw1 A7 _ _ hsub B7)
end
end Go.Proofs.YtdpdmbceakdlmaaGreatDoor
namespace Go.Proofs.YtdpdmbceakdlmaaGreatDoor
def v0 (j:Nat) (l:List Int):Prop:=l=[(j:Int)+1]
theorem sY {i n:Int} {H:Heap} {K:Int→Heap→Prop} (h2:n≤9223372036854775807)
  (hK:K (if n<1 then 0 else i.emod n) H):Dj.sp i n H K:=by
 refine Dj.of ?_
 unfold Dj.vc
 refine ag (fun h=>?_) (fun h=>?_)
 ·have:n<1:=by simpa using h
  simpa[this] using hK
 ·have hn:1≤n:=by simpa using h
  refine⟨by omega,?_⟩
  rw[if_neg (by omega)] at hK
  refine ag (fun h=>?_) (fun h=>?_)
  ·have hneg:i.tmod n<0:=by simpa using h
   have e:i.emod n=i.tmod n+n:=by
    rw[Int.tmod_eq_emod] at hneg ⊢
    split at hneg
    ·have:=Int.emod_nonneg i (show n≠0 by omega)
     omega
    ·rename_i h3
     rw[if_neg h3]
     have:(n.natAbs:Int)=n:=by omega
     have e2:i%n=i.emod n:=rfl
     omega
   have hb1:-n<i.tmod n:=by
    rw[Int.tmod_eq_emod]
    have:=Int.emod_nonneg i (show n≠0 by omega)
    split<;>omega
   rw[wrap64 (by omega) (by omega),←e]
   exact hK
  ·have hpos:0≤i.tmod n:=by simpa using h
   have e:i.emod n=i.tmod n:=by
    rw[Int.tmod_eq_emod] at hpos ⊢
    split
    ·simp;rfl
    ·rename_i h3
     rw[if_neg h3] at hpos
     have:=Int.emod_lt_of_pos i (show 0<n by omega)
     have:(n.natAbs:Int)=n:=by omega
     omega
   rw[←e];exact hK
open Go.MapKept
def TP (H A:Heap) (p dp:Nat) (s:Pl):Prop:=Ext H A∧∃F,aE F A p dp s∧∀b,F b→H.size≤b
variable {H A:Heap} {p dp:Nat} {s:Pl} {n:ByteArray}
theorem TP.gl (t:TP H A p dp s) (hg:Gl H):Gl A:=hg.mod t.1 id
theorem TP.wf (t:TP H A p dp s):s.WF:=by
 obtain⟨h1,F,h2,h3⟩:=t;exact h2.wf
theorem TP.go (t:TP H A p dp s):∃F,aE F A p dp s∧∀(s':Pl) (F':Nat→Prop) (B:Heap),aE F' B p dp s'→Step F F' A B→TP H B p dp s':=by
 obtain⟨h1,F,h2,h3⟩:=t
 refine⟨F,h2,fun s' F' B h4 S=>⟨⟨Nat.le_trans h1.size S.mod.size,fun b hb _=>(S.mod.same b (Nat.lt_of_lt_of_le hb h1.size) fun q=>by have:=h3 b q;omega).trans (h1.same b hb id)⟩,F',h4,fun b hb=>?_⟩⟩
 rcases S.own b hb with q|q
 ·exact h3 b q
 ·exact Nat.le_trans h1.size q
theorem TP.bc (t:TP H A p dp s) (hg:Gl H):∃D,bf D A dp s.d∧∀(d:Dk) (D':Nat→Prop) (B:Heap),bf D' B dp d→Step D D' A B→TP H B p dp (s.aV d):=by
 have hgA:=t.gl hg
 obtain⟨F,h1,h2⟩:=t.go
 obtain⟨D,q1,q2,q3⟩:=h1.bc hgA
 refine⟨D,q1,fun d D' B h4 S=>?_⟩
 obtain⟨F',r1,r2⟩:=q3 D' B d h4 S
 exact h2 _ F' B r1 r2
theorem TP.new {D:Nat→Prop} {d:Dk} {m:Nat} {K:(Option Addr×Int)→Heap→Prop} (hg:Gl H) (e:Ext H A) (hd:bf D A dp d) (hD:∀b,D b→H.size≤b) (h8:8≤m) (hm:m≤4096)
  (hK:∀p B,TP H B p dp (pl0 d m)→K (ay p,0) B):BN.sp (ay dp) (m:Int) A K:=by
 refine pD (hg.mod e id) hd (fun q=>by have:=hD _ q;have:=hg.lt;omega) h8 hm fun F p B h1 e1 f1=>?_
 refine hK p B ⟨e.trans e1,F,h1,fun b hb=>?_⟩
 rcases f1 b hb with q|q
 ·exact hD b q
 ·exact Nat.le_trans e.size q
def nmF:ByteArray:=ByteArray.mk #[102]
theorem yE:named nmF=true:=by decide
theorem np {q:Int} (h0:0≤q) (hq:q≤1048576) {n:ByteArray} (hn:named n=true):Live ((gk q).create n).1 n [] q.toNat∧((gk q).create n).1.ops=1∧((gk q).create n).2=0∧((gk q).create n).1.logs=0:=by
 have e:(gk q).create n=({gk q with files:=[⟨n,[],[]⟩],ops:=cR (0+1)},0):=by
  unfold Dk.create
  rw[if_neg (by simp[gk]),if_neg (by rw[hn];simp),if_neg (by simp[gk,Dk.idx]),if_neg (by simp[gk])]
  rfl
 rw[e]
 refine⟨⟨rfl,rfl,⟨_,rfl,rfl,rfl⟩,?_⟩,by show cR (0+1)=1;decide,rfl,rfl⟩
 show (min (max q 0) 1048576).toNat=q.toNat
 congr 1;omega
theorem y8 {d:Dk} {n:ByteArray} {q m:Nat} {T:Nat→UInt8×List UInt8} (h:Live d n [] q):Told (pl0 d m) n 0 q T []:=
 ⟨rfl,h,rfl,by intro f hf;simp[pl0] at hf,by intro k b hk;simp at hk⟩
end Go.Proofs.YtdpdmbceakdlmaaGreatDoor
namespace Go.Proofs.YtdpdmbceakdlmaaGreatDoor
open Go.MapKept
theorem om:(zc Tryz.prog oa).size=6:=by kernel_rfl
theorem j7:lX Tryz.prog oa 6=true:=by kernel_rfl
def xr (pp:Option Addr) (n:ByteArray) (w:Int):Array Value:=#[.pointer pp,.string n,.int .i64 w,.int .i64 (aS w),.int .i64 0,.bool false]
theorem lC (pp:Option Addr) (n:ByteArray) (w:Int):∀v∈(xr pp n w).toList,v.oneCell'=true:=by
 intro v hv
 simp[xr] at hv
 rcases hv with rfl|rfl|rfl|rfl|rfl|rfl<;>rfl
theorem qC {pp:Option Addr} {n:ByteArray} {w:Int} {H:Heap} {K:((Option Addr×ByteArray×Int×Int×Int×Bool)×Int)→Heap→Prop}
  {e:Int} (he:(if pp.isNone=true then 1 else if aS w=0 then 60 else 0)=e) (hK:∀H',Ext H H'→K ((pp,n,w,aS w,0,false),e) H'):C1.sp pp n w H K:=by
 subst he
 refine C1.of ?_
 unfold C1.vc
 refine au fun H1 z1 r1 e1=>?_
 refine uU ?_
 refine au fun H2 z2 r2 e2=>?_
 refine ai.ja (cs:=xr pp n w) r2 j7 om (lC _ _ _) fun H3 r3 m3 z3=>?_
 have e3:Ext H H3:=⟨by have:=m3.size;omega,fun b hb _=>(m3.same b (by omega) (by intro q;have:b=H1.size:=q;omega)).trans ((e2.same b (by omega) id).trans (e1.same b hb id))⟩
 have r13:ai H3 H.size oa (zc Tryz.prog oa):=(r1.ext e2).mod m3 (by intro q;have:H.size=H1.size:=q;omega)
 have fin:∀e:Int,(∀H',Ext H H'→K ((pp,n,w,aS w,0,false),e) H')→dE (cX [al,aR,(aa .i64),(aa .i64),(aa .i64),ax]) 6 H3 ⟨H1.size,0,none⟩ fun(x:(Option Addr×ByteArray×Int×Int×Int×Bool))=>ko Tryz.prog (Instr.storeAt oa (.pointer (some ⟨H.size,0,none⟩)) (.agg #[(.pointer x.1),(.string x.2.1),(.int .i64 x.2.2.1),(.int .i64 x.2.2.2.1),(.int .i64 x.2.2.2.2.1),(.bool x.2.2.2.2.2)])) H3 fun H6=>dE (cX [al,aR,(aa .i64),(aa .i64),(aa .i64),ax]) 6 H6 ⟨H.size,0,none⟩ fun(res:(Option Addr×ByteArray×Int×Int×Int×Bool))=>K ((res.1,res.2.1,res.2.2.1,res.2.2.2.1,res.2.2.2.2.1,res.2.2.2.2.2),e) H6:=by
  intro e hk
  refine ai.dE (x:=(pp,n,w,aS w,0,false)) r3 rfl rfl ?_
  refine ai.ja (cs:=xr pp n w) r13 j7 om (lC _ _ _) fun H4 r4 m4 z4=>?_
  refine ai.dE (x:=(pp,n,w,aS w,0,false)) r4 rfl rfl ?_
  exact hk H4 ⟨by have:=m4.size;have:=e3.size;omega,fun b hb _=>(m4.same b (by have:=e3.size;omega) (by intro q;have:b=H.size:=q;omega)).trans (e3.same b hb id)⟩
 refine⟨fun _ A=>A=H3∧pp.isNone=false∧¬aS w=0,?_,?_⟩
 ·refine ag (fun hc=>?_) (fun hc=>?_)
  ·rw[if_pos hc] at hK
   exact fin 1 hK
  ·rw[if_neg (by rw[hc];simp)] at hK
   refine ai.ld (c:=aa .i64) (i:=3) (x:=aS w) r3 rfl ?_
   refine ag (fun hc2=>?_) (fun hc2=>?_)
   ·rw[if_pos (by simpa using hc2)] at hK
    exact fin 60 hK
   ·exact⟨rfl,hc,by simpa using hc2⟩
 ·rintro _ A ⟨rfl,h1,h2⟩
  rw[if_neg (by rw[h1];simp),if_neg h2] at hK
  exact fin 0 hK
def gy:Sl:=Sl.mk none 0 0
theorem cF (b:Nat):¬aj gy b:=by rintro⟨ad,q,_⟩;cases q
variable {F:Nat→Prop} {H:Heap} {p dp:Nat} {s:Pl} {n:ByteArray} {W:Int} {K:(Option Addr×Int)→Heap→Prop}
theorem sU (hg:Gl H) (hp:aE F H p dp s) (hn:n.size≤9223372036854775807) (hlogs:s.d.logs<68719470000) (hnx:s.next<1099511627776) (h0:0≤s.next) (hfit:s.Fit)
  (hK0:∀F' H',aE F' H' p dp (aH s n W).1→Step F F' H H'→(aH s n W).2.1=none→K (none,(aH s n W).2.2) H')
  (hK1:∀F' H' k w,aE F' H' p dp (aH s n W).1→Step F F' H H'→(aH s n W).2.1=some w→nb H' k p w gy gy→H.size≤k→¬F' k→K (ay k,(aH s n W).2.2) H'):Bv.sp (ay p) n W H K:=by
 refine Bv.of ?_
 unfold Bv.vc
 refine qC (e:=if aS W=0 then 60 else 0) (if_neg (by unfold ay;simp)) fun H1 e1=>?_
 refine au fun H2 z2 r2 e2=>?_
 refine ai.ja (cs:=xr (ay p) n W) r2 j7 om (lC _ _ _) fun H3 r3 m3 z3=>?_
 have e3:Ext H H3:=⟨by have:=m3.size;have:=e1.size;omega,fun b hb _=>(m3.same b (by have:=e1.size;omega) (by intro q;have:b=H1.size:=q;have:=e1.size;omega)).trans ((e2.same b (by have:=e1.size;omega) id).trans (e1.same b hb id))⟩
 have p3:=hp.ext e3
 have g3:Gl H3:=hg.mod e3 id
 have S3:Step F F H H3:=⟨e3.mod,fun b q=>.inl q⟩
 have z13:=e1.size
 have hk:¬F H1.size:=fun q=>by have:=hp.lt _ q;omega
 by_cases hr:aS W=0
 ·simp only[if_pos hr]
  have em:aH s n W=(s,none,60):=if_pos hr
  rw[em] at hK0
  refine ar rfl ?_
  refine⟨fun e A=>e=60∧A=H3,ar rfl ⟨rfl,rfl⟩,?_⟩
  rintro _ A ⟨rfl,rfl⟩
  exact aU rfl (hK0 F A p3 S3 rfl)
 simp only[if_neg hr]
 refine aU rfl ?_
 refine sQ p3 ?_
 obtain⟨D,d1,_,d3⟩:=aE.bc g3 p3
 refine xU d1 fun D' H4 d4 S4=>?_
 obtain⟨F4,p4,T4⟩:=d3 D' H4 _ d4 S4
 have em:aH s n W=if (s.d.create n).2≠0 then (s.aV (s.d.create n).1,none,(s.d.create n).2)
   else if ((s.aV (s.d.create n).1).more n 0 []).2≠0 then (((s.aV (s.d.create n).1).more n 0 []).1,none,((s.aV (s.d.create n).1).more n 0 []).2)
   else (((s.aV (s.d.create n).1).more n 0 []).1,some (rl n W),0):=by unfold aH;rw[if_neg hr]
 have hl4:(s.aV (s.d.create n).1).d.logs<68719470000:=by have:=s.d.gL n;show (s.d.create n).1.logs<_;omega
 have hf4:(s.aV (s.d.create n).1).Fit:=hfit.aV (s.d.iX n)
 have hn4:(s.aV (s.d.create n).1).next=s.next:=rfl
 generalize s.aV (s.d.create n).1=s4 at*
 generalize (s.d.create n).2=e4 at*
 have hk4:¬F4 H1.size:=fun q=>by
  rcases T4.own _ q with r|r
  ·exact hk r
  ·omega
 have b4:ba H4 H1.size oa p ⟨n,W,0,false⟩ []:=(show ba H3 H1.size oa p ⟨n,W,0,false⟩ [] from r3).mod T4.mod hk
 have T4':=S3.trans T4
 have g4:Gl H4:=g3.mod T4.mod p3.fG
 obtain⟨X,hX⟩:∃X:Pl×Int,X=if e4≠0 then (s4,e4) else s4.more n 0 []:=⟨_,rfl⟩
 have em':aH s n W=if X.2≠0 then (X.1,none,X.2) else (X.1,some (rl n W),0):=by
  rw[em,hX]
  by_cases q:e4≠0
  ·rw[if_pos q,if_pos q,if_pos q]
  ·rw[if_neg q,if_neg q]
 refine⟨fun e A=>e=X.2∧∃F',aE F' A p dp X.1∧Step F F' H A∧ba A H1.size oa p ⟨n,W,0,false⟩ [],?_,?_⟩
 ·refine ag (fun hc=>?_) (fun hc=>?_)
  ·have q:¬e4≠0:=by simpa using hc
   rw[if_neg q] at hX
   refine wj (kd:=0) (sl:=Sl.mk none 0 0) (l:=[]) g4 b4 p4 hk4 ⟨rfl,Reads.nil _ _⟩ (by intro ad q;cases q) hn hl4 (by omega) (by omega) hf4 fun F5 H5 p5 S5=>?_
   rw[hX]
   exact⟨rfl,F5,p5,T4'.trans S5,b4.mod S5.mod hk4⟩
  ·have q:e4≠0:=by simpa using hc
   rw[if_pos q] at hX
   rw[hX]
   exact⟨rfl,F4,p4,T4',b4⟩
 rintro _ A ⟨rfl,F5,p5,S5,b5⟩
 rw[em'] at hK0 hK1
 refine ag (fun hc=>?_) (fun hc=>?_)
 ·have q:X.2≠0:=by simpa using hc
  rw[if_pos q] at hK0
  exact hK0 F5 A p5 S5 rfl
 ·have q:¬X.2≠0:=by simpa using hc
  rw[if_neg q] at hK1
  refine ai.dE (x:=(ay p,n,W,aS W,0,false)) b5 rfl rfl ?_
  refine au fun H6 z6 r6 e6=>?_
  have:=S5.mod.size
  refine hK1 F5 H6 A.size (rl n W) (p5.ext e6) ⟨S5.mod.trans' e6 fun b _ q=>q.elim,S5.own⟩ rfl ⟨r6,aG.nil _ _ _,aN.nil _ _ _ _⟩ (by omega) fun q=>by have:=p5.lt _ q;omega
end Go.Proofs.YtdpdmbceakdlmaaGreatDoor
namespace Go.Proofs.YtdpdmbceakdlmaaGreatDoor
open Go.MapKept
theorem Da {H:Heap} {z:Sl} {ws:List Wr} (h:aG sW uO H z ws) {i:Nat} {w:Wr} (hw:ws[i]?=some w) {K:(Int×Int×ByteArray)→Prop} (hK:K (w.no,(w.page:Int),ca w.b.1)):
  ab z.a fun a=>(0≤(i:Int)∧(i:Int)<(z.n:Int))∧dE (cX [(aa .i64),(aa .i64),aR]) 3 H (a.add ((i:Int).toNat*3)) K:=by
 have hn:=h.n (by decide)
 have hi:=(List.getElem?_eq_some_iff.1 hw).1
 obtain⟨ad,ha⟩:=cL.addr h.rd (by decide) (by omega)
 rw[ha]
 refine⟨⟨by omega,by omega⟩,?_⟩
 exact cL.dE (E:=sW) (c:=cX [(aa .i64),(aa .i64),aR]) (y:=(w.no,(w.page:Int),ca w.b.1)) h.rd ha hw rfl (by simp[sW]) rfl hK
theorem CN {H:Heap} {z:Sl} {ws:List Wr} (h:aG sW uO H z ws) {i:Nat} {w:Wr} (hw:ws[i]?=some w) {K:Int→Prop} (hK:K w.no):
  ab z.a fun a=>(0≤(i:Int)∧(i:Int)<(z.n:Int))∧ld (aa .i64) H ((a.add ((i:Int).toNat*3)).add 0) K:=by
 have hn:=h.n (by decide)
 have hi:=(List.getElem?_eq_some_iff.1 hw).1
 obtain⟨ad,ha⟩:=cL.addr h.rd (by decide) (by omega)
 rw[ha]
 refine⟨⟨by omega,by omega⟩,?_⟩
 exact cL.ld (E:=sW) (c:=aa .i64) (y:=w.no) h.rd ha (j:=0) hw rfl (by simp[sW]) hK
theorem BY {fl:Sl} {gs:List (Sl×Sl)} {d:Nat} {cs:Array Value} {s:Dk} {no:Int} {H:Heap} {K:Int→Heap→Prop} (hd:ai H d sK cs) (hc0:cs[0]?=some fl.v) (hf:aJ H fl gs s.files) (hfl:s.files.length≤4096) (hlogs:s.logs<68719476736)
  (hK:K (s.td no:Nat) H):Eg.sp (ay d) no H K:=by
 refine Eg.of ?_
 unfold Eg.vc
 simp only[ak]
 have hn:=hf.n
 obtain⟨cnt,hcnt⟩:∃cnt:List Int→Nat,cnt=fun l=>(l.filter fun x=>decide (x<no)).length:=⟨_,rfl⟩
 obtain⟨pre,hpre⟩:∃pre:Nat→List Int,pre=fun k=>(s.files.take k).flatMap fun f=>f.log.map (·.no):=⟨_,rfl⟩
 have cntle:∀l,cnt l≤l.length:=fun l=>by rw[hcnt];exact List.length_filter_le _ _
 have prele:∀k,(pre k).length≤s.logs:=fun k=>by
  rw[←Dk.iH]
  unfold Dk.BB
  rw[hpre]
  simp only
  conv=>rhs;rw[←List.take_append_drop k s.files,List.flatMap_append,List.length_append]
  omega
 refine aw s.files.length (fun k x H1=>x=(((cnt (pre k):Nat):Int),(k:Int))∧H1=H) ⟨by rw[hcnt,hpre];rfl,rfl⟩ ?_
 rintro k _ H1 next hk ⟨rfl,rfl⟩ hnext
 refine hd.ld (c:=aq) (i:=0) (x:=fl) hc0 ?_
 refine ag (fun hc=>?_) (fun hc=>?_)
 ·have hlt:k<s.files.length:=by rw[hn] at hc;simpa using hc
  have hfk:s.files[k]?=some s.files[k]:=List.getElem?_eq_getElem hlt
  obtain⟨f,hfe⟩:∃f,f=s.files[k]:=⟨_,rfl⟩
  rw[←hfe] at hfk
  obtain⟨gg,hg,_,q2⟩:=hf.yc hfk
  have hln:=q2.n (by decide)
  have hll:=Dk.iY hfk
  have hpk:pre (k+1)=pre k++f.log.map (·.no):=by
   rw[hpre];simp only
   rw[List.take_succ_eq_append_getElem hlt,←hfe,List.flatMap_append];simp
  have cntapp:∀a b,cnt (a++b)=cnt a+cnt b:=fun a b=>by rw[hcnt];simp
  have hp1:=prele (k+1)
  have hc1:=cntle (pre k)
  refine aw f.log.length (fun j x H2=>x=(((cnt (pre k)+cnt ((f.log.take j).map (·.no)):Nat):Int),(j:Int))∧H2=H1) ⟨by rw[hcnt];simp,rfl⟩ ?_
  rintro j _ H2 next1 hj ⟨rfl,rfl⟩ hnext1
  refine hd.ld (c:=aq) (i:=0) (x:=fl) hc0 ?_
  refine hf.ld1 hfk hg (j:=2) (c:=aq) (y:=gg.2) rfl ?_
  refine ag (fun hc2=>?_) (fun hc2=>?_)
  ·have hjl:j<f.log.length:=by rw[hln] at hc2;simpa using hc2
   refine hd.ld (c:=aq) (i:=0) (x:=fl) hc0 ?_
   refine hf.ld1 hfk hg (j:=2) (c:=aq) (y:=gg.2) rfl ?_
   refine CN q2 (List.getElem?_eq_getElem hjl) ?_
   have htk:cnt ((f.log.take (j+1)).map (·.no))=cnt ((f.log.take j).map (·.no))+(if f.log[j].no<no then 1 else 0):=by
    rw[List.take_succ_eq_append_getElem hjl,List.map_append,cntapp]
    congr 1
    rw[hcnt]
    simp only[List.map_cons,List.map_nil,List.filter_cons,List.filter_nil]
    split<;>rename_i h<;>simp at h<;>simp[h]
   have hc3:=cntle ((f.log.take j).map (·.no))
   simp only[List.length_map,List.length_take] at hc3
   rw[hpk,List.length_append,List.length_map] at hp1
   refine ag (fun hb=>?_) (fun hb=>?_)
   ·have hb':f.log[j].no<no:=by simpa using hb
    refine hnext1 hjl _ _ ⟨?_,rfl⟩
    rw[htk,if_pos hb',aK j (by omega),wrap64 (by omega) (by omega)]
    simp only[Prod.mk.injEq,and_true];omega
   ·have hb':¬f.log[j].no<no:=by simpa using hb
    refine hnext1 hjl _ _ ⟨?_,rfl⟩
    rw[htk,if_neg hb',aK j (by omega)]
    simp
  ·have hge:j=f.log.length:=by rw[hln] at hc2;simp at hc2;omega
   rw[hge,List.take_of_length_le (Nat.le_refl _)]
   refine hnext hlt _ _ ⟨?_,rfl⟩
   rw[hpk,cntapp,aK k (by omega)]
 ·have hge:k=s.files.length:=by rw[hn] at hc;simp at hc;omega
  have e:s.td no=cnt (pre k):=by
   unfold Dk.td Dk.BB
   rw[hcnt,hpre,hge]
   simp
  rw[e] at hK
  exact hK
set_option maxHeartbeats 1000000 in
theorem tE {F:Nat→Prop} {d:Nat} {s:Dk} {H:Heap} {K:Unit→Heap→Prop} (h:bY F H d s) (hlogs:s.logs<68719476736)
  (hK:∀F' H',bY F' H' d s.cq→Step F F' H H'→K () H'):DW.sp (ay d) H K:=by
 have h0:=h
 obtain⟨fl,gs,cin,kp,g,hF⟩:=h
 refine DW.of ?_
 unfold DW.vc
 simp only[ak]
 refine g.head.ld (c:=ax) (i:=8) (x:=s.down) rfl ?_
 refine ag (fun hd=>?_) (fun hd=>?_)
 ·have hd':s.down=false:=by simpa using hd
  have e:s.cq=s:=by unfold Dk.cq;rw[hd'];rfl
  rw[e] at hK
  exact hK F H h0 (.refl _ _)
 have hd':s.down=true:=by simpa using hd
 obtain⟨ci,kk,hcr⟩:∃ci kk,s.crash=some (ci,kk):=by
  have:=g.wf.down hd'
  cases hc:s.crash with
  |none=>rw[hc] at this;cases this
  |some p=>exact⟨p.1,p.2,rfl⟩
 obtain⟨rfl,rfl⟩:=g.crash ci kk hcr
 have hkeep:s.keep=kp:=by unfold Dk.keep;rw[hcr]
 have hn:=g.files.n
 have hfl:=g.wf.files
 have w1:=g.wf.used;have w2:=g.wf.most;have w3:=g.wf.quota
 refine aw s.files.length (fun k x H1=>x.2=(k:Int)∧Mod (fun _=>False) H H1∧(∀b,aj x.1 b→H.size≤b)∧∃gs2,aJ H1 x.1 gs2 ((s.files.take k).map s.after)∧(∀gg∈gs2,(∀b,aj gg.1 b→wR fl gs b∨H.size≤b)∧gg.2=Sl.mk none 0 0))
  ⟨rfl,.refl _ _,(by rintro b ⟨ad,q,_⟩;cases q),[],⟨aG.nil _ _ _,rfl,by intro i f g h;simp at h,by intro i j g g' h;simp at h⟩,by simp⟩ ?_
 rintro k ⟨z,i⟩ H1 next hk ⟨hi,m1,f1,gs2,R1,fp1⟩ hnext
 simp only at hi
 subst hi
 simp only at f1 R1 hnext ⊢
 have d1:=g.head.ext m1
 have F1:aJ H1 fl gs s.files:=g.files.keep fun b hb hl=>m1.same b hl id
 refine d1.ld (c:=aq) (i:=0) (x:=fl) rfl ?_
 refine ag (fun hc=>?_) (fun hc=>?_)
 ·have hlt:k<s.files.length:=by rw[hn] at hc;simpa using hc
  have hfk:s.files[k]?=some s.files[k]:=List.getElem?_eq_getElem hlt
  obtain⟨f,hfe⟩:∃f,f=s.files[k]:=⟨_,rfl⟩
  rw[←hfe] at hfk
  obtain⟨gg,hg,q1,q2⟩:=F1.yc hfk
  have hrow:=j3 _ _ k f gg hfk hg
  have hln:=q2.n (by decide)
  have hpl:=Dk.dH hfk;have hll:=Dk.iY hfk
  have hgm:=List.mem_of_getElem? hg
  obtain⟨ad,ha⟩:=cL.addr F1.arr.rd (by decide) (by have:=(List.getElem?_eq_some_iff.1 hrow).1;omega)
  refine⟨fun A=>ai A d sK (cZ fl s.most s.quota s.ops s.next s.crash.isSome cin kp s.down)∧aG qj sj A fl (sf s.files gs),⟨d1,F1.arr⟩,?_⟩
  refine⟨fl,fun A hA=>by rw[aW];exact hA.1.cell rfl,?_⟩
  refine c6 ad ha ⟨⟨by omega,by omega⟩,?_⟩
  refine⟨f.name,fun A hA=>?_,?_⟩
  ·obtain⟨ad',e1,hc⟩:=cL.cell hA.2.rd hrow (j:=0) (v:=.string f.name) rfl
   rw[ha] at e1;cases e1
   rw[add_add];exact hc
  refine⟨fl,fun A hA=>by rw[aW];exact hA.1.cell rfl,?_⟩
  refine c6 ad ha ⟨⟨by omega,by omega⟩,?_⟩
  refine⟨gg.1,fun A hA=>?_,?_⟩
  ·obtain⟨ad',e1,hc⟩:=cL.cell hA.2.rd hrow (j:=1) (v:=gg.1.v) rfl
   rw[ha] at e1;cases e1
   rw[add_add];exact hc
  refine au fun H2 s2 r2 m2=>⟨⟨d1.ext m2,F1.arr.ext m2⟩,?_⟩
  refine r2.ja (cs:=#[.string f.name,gg.1.v,.slice none 0 0]) (by kernel_rfl) (by kernel_rfl) (by intro v hv;simp at hv;rcases hv with rfl|rfl|rfl<;>rfl) fun H3 r3 m3 s3=>?_
  obtain⟨p,hp⟩:∃p,p=H1.size:=⟨_,rfl⟩
  rw[←hp] at r3 m3
  rw[←hp]
  have z1:=m1.size;have z2:=m2.size
  have m13:Mod (fun _=>False) H1 H3:=⟨by omega,fun b hb _=>(m3.same b (by omega) (by omega)).trans (m2.same b hb id)⟩
  obtain⟨q,hq⟩:∃q:Wr→Bool,q=fun w=>gP s.keep (s.td w.no):=⟨_,rfl⟩
  have haft:s.after f=⟨f.name,(f.log.filter q).foldl cY f.synced,[]⟩:=by rw[hq];rfl
  have q13:aG gZ gu H3 gg.1 f.synced:=q1.ext m13
  -- the writes, one by one
  refine aw f.log.length (fun j x H4=>x=(j:Int)∧Mod (fun b=>b=p) H3 H4∧∃sy,ai H4 p sj #[.string f.name,sy.v,.slice none 0 0]∧aG gZ gu H4 sy (((f.log.take j).filter q).foldl cY f.synced)∧(∀b,aj sy b→wR fl gs b∨H.size≤b)∧(∀b,aj sy b→b≠p))
   ⟨rfl,.refl _ _,gg.1,r3,by simpa using q13,fun b hb=>.inl (.inr ⟨gg,hgm,.inl hb⟩),fun b hb=>by have:=q1.lt b hb;omega⟩ ?_
  rintro j _ H4 next1 hj ⟨rfl,m4,sy,r4,o4,fy,ny⟩ hnext1
  have m14:Mod (fun _=>False) H1 H4:=⟨by have:=m4.size;omega,fun b hb _=>(m4.same b (by omega) (by omega)).trans (m13.same b hb id)⟩
  have d4:=d1.ext m14
  have F4:aJ H4 fl gs s.files:=F1.keep fun b hb hl=>m14.same b hl id
  obtain⟨_,q24⟩:=F4.ent k f gg hfk hg
  have z4:=m14.size
  refine d4.ld (c:=aq) (i:=0) (x:=fl) rfl ?_
  refine F4.ld1 hfk hg (j:=2) (c:=aq) (y:=gg.2) rfl ?_
  refine ag (fun hc1=>?_) (fun hc1=>?_)
  ·have hjl:j<f.log.length:=by rw[hln] at hc1;simpa using hc1
   obtain⟨w,hwe⟩:∃w,w=f.log[j]:=⟨_,rfl⟩
   have hw:f.log[j]?=some w:=by rw[hwe];exact List.getElem?_eq_getElem hjl
   refine d4.ld (c:=aq) (i:=0) (x:=fl) rfl ?_
   refine F4.ld1 hfk hg (j:=2) (c:=aq) (y:=gg.2) rfl ?_
   refine Da q24 hw ?_
   refine au fun H5 s5 r5 m5=>?_
   refine r5.ja (cs:=#[.int .i64 w.no,.int .i64 w.page,.string (ca w.b.1)]) (by kernel_rfl) (by kernel_rfl) (by intro v hv;simp at hv;rcases hv with rfl|rfl|rfl<;>rfl) fun H6 r6 m6 s6=>?_
   have m46:Mod (fun _=>False) H4 H6:=⟨by omega,fun b hb _=>(m6.same b (by omega) (by omega)).trans (m5.same b hb id)⟩
   have d6:=d4.ext m46
   have F6:aJ H6 fl gs s.files:=F4.keep fun b hb hl=>m46.same b hl id
   refine⟨fun A=>ai A d sK (cZ fl s.most s.quota s.ops s.next s.crash.isSome cin kp s.down),d6,?_⟩
   refine⟨kp,fun A hA=>by rw[aW];exact hA.cell rfl,?_⟩
   refine r6.ld (c:=aa .i64) (i:=0) (x:=w.no) rfl ?_
   refine BY d6 rfl F6 hfl hlogs ⟨d6,?_⟩
   refine⟨Int.tmod_nonneg _ (by omega),?_⟩
   have hqw:q w=((jI .u64 (cr .u64 kp (Int.tmod ((s.td w.no:Nat):Int) 64)) 1)==1):=by rw[hq,hkeep];rfl
   have htk:(f.log.take (j+1)).filter q=(f.log.take j).filter q++(if q w then [w] else []):=by
    rw[List.take_succ_eq_append_getElem hjl,List.filter_append,←hwe]
    cases hqb:q w<;>simp[hqb]
   have r46:=r4.ext m46
   have o46:aG gZ gu H6 sy (((f.log.take j).filter q).foldl cY f.synced):=o4.ext m46
   refine ag (fun hb=>?_) (fun hb=>?_)
   ·have hqt:q w=true:=by rw[hqw];exact hb
    refine r46.ld (c:=aq) (i:=1) (x:=sy) rfl ?_
    refine r6.dE (c:=cX [(aa .i64),(aa .i64),aR]) (x:=(w.no,(w.page:Int),ca w.b.1)) rfl rfl ?_
    have hpg:=j5 f.log f.synced w (List.mem_of_getElem? hw)
    have hle:=j8 f.log q j f.synced
    have hpe:(f.log.foldl cY f.synced).length=f.ao.length:=rfl
    refine w7 (w:=w) o46 (by omega) (by omega) fun s7 H7 o7 m7 f7=>?_
    have r47:=r46.ext m7
    refine r47.st (i:=1) (by simp) (by rfl) fun H8 r8 m8 s8=>?_
    have z7:=m7.size
    have hpl4:=az r4
    refine hnext1 hjl _ _ ⟨aK j (by omega),((m4.trans (Ext.mod m46)).trans (Ext.mod m7)).trans m8,s7,(show ai H8 p sj #[.string f.name,s7.v,.slice none 0 0] from r8),?_,fun b hb=>by have:=f7 b hb;right;omega,fun b hb=>by have:=f7 b hb;omega⟩
    rw[htk,if_pos hqt,List.foldl_append]
    exact o7.keep fun b hb hl=>m8.same b hl (by have:=f7 b hb;omega)
   ·have hqt:q w=false:=by rw[hqw];exact hb
    refine hnext1 hjl _ _ ⟨aK j (by omega),m4.trans (Ext.mod m46),sy,r46,?_,fy,ny⟩
    rw[htk,hqt]
    simpa using o46
  ·have hge:j=f.log.length:=by rw[hln] at hc1;simp at hc1;omega
   rw[hge,List.take_of_length_le (Nat.le_refl _)] at o4
   refine r4.dE (c:=cX [aR,aq,aq]) (x:=(f.name,sy,Sl.mk none 0 0)) rfl rfl ?_
   have R4:aJ H4 z gs2 ((s.files.take k).map s.after):=R1.keep fun b hb hl=>m14.same b hl id
   have hzl:(sf ((s.files.take k).map s.after) gs2).length=k:=by
    rw[ft _ _ R4.len];simp;omega
   refine aG.push (E:=qj) FF (x:=(f.name,sy,Sl.mk none 0 0)) R4.arr rfl (by omega) (by omega) fun z5 H5 o5 g5 _=>?_
   have z5s:=g5.1.size
   have zty:∀b,aj sy b→¬aj z b:=o4.apart R4.arr (by decide)
   have m15:Mod (fun _=>False) H H5:=⟨by omega,fun b hb _=>(g5.1.same b (by omega) fun hh=>by have:=f1 b hh;omega).trans ((m14.same b (by omega) id).trans (m1.same b hb id))⟩
   have R5:=R4.push (H':=H5) (fl':=z5) (f:=s.after f) (g:=(sy,Sl.mk none 0 0)) (by rw[haft];exact o5) (by rw[haft];exact o4.keep fun b hb hl=>g5.1.same b hl (zty b hb)) (by rw[haft];exact aG.nil _ _ _)
    (fun b hb hl=>g5.1.same b hl fun hh=>by
     obtain⟨gj,hgj,hb⟩:=hb
     obtain⟨i2,hi2⟩:=List.mem_iff_getElem?.1 hgj
     exact R4.fm hi2 b hb hh) (by rintro b ⟨ad,q,_⟩;cases q)
   refine hnext hlt _ _ ⟨aK k (by omega),m15,fun b hb=>?_,gs2++[(sy,Sl.mk none 0 0)],?_,?_⟩
   ·rcases g5.2 b hb with h|h
    ·exact f1 b h
    ·omega
   ·rw[List.take_succ_eq_append_getElem hlt,←hfe,List.map_append]
    exact R5
   ·intro g' hg'
    rcases List.mem_append.1 hg' with h|h
    ·exact fp1 g' h
    ·simp at h;subst h;exact⟨fy,rfl⟩
 ·have hge:k=s.files.length:=by rw[hn] at hc;simp at hc;omega
  rw[hge,List.take_of_length_le (Nat.le_refl _)] at R1
  have hdl:=az g.head
  refine d1.st (i:=0) (by simp[cZ]) (by rfl) fun H2 r2 m2 s2=>?_
  refine r2.st (i:=8) (by simp[cZ]) (by rfl) fun H3 r3 m3 s3=>?_
  refine r3.st (i:=5) (by simp[cZ]) (by rfl) fun H4 r4 m4 s4=>?_
  have m14:Mod (fun b=>b=d) H1 H4:=(m2.trans m3).trans m4
  have off:¬wR z gs2 d:=by
   rintro(q|⟨gj,hgj,q|q⟩)
   ·have:=f1 d q;omega
   ·rcases (fp1 gj hgj).1 d q with h|h
    ·exact gY.off g.head g.files h
    ·omega
   ·rw[(fp1 gj hgj).2] at q
    obtain⟨ad,q,_⟩:=q;cases q
  have hr:s.cq={s with files:=s.files.map s.after,down:=false,crash:=none}:=by unfold Dk.cq;rw[hd'];rfl
  have hule:s.cq.used≤s.used:=by
   rw[hr]
   show ((s.files.map s.after).map fun f=>f.ao.length).sum≤s.used
   rw[List.map_map]
   exact kQ _ _ _ fun f _=>s.ux f
  have gG:gY z gs2 cin kp H4 d s.cq:=by
   refine⟨?_,?_,?_,?_⟩
   ·rw[hr];exact r4
   ·rw[hr];intro i k q;cases q
   ·rw[hr];exact R1.keep fun b hb hl=>m14.same b hl fun e=>off (e▸hb)
   ·refine⟨?_,Nat.le_trans hule (by rw[hr];exact w1),by rw[hr];exact w2,by rw[hr];exact w3,by rw[hr];simp;exact hfl,(by rw[hr];intro h;cases h),(by rw[hr];intro i k q;cases q)⟩
    rw[hr]
    simp only[List.map_map]
    exact g.wf.nodup
  have hmm:Mod F H H4:=(Ext.mod m1).trans (m14.mono fun b _ e=>(hF b).2 (.inl e))
  obtain⟨F',t1,t2⟩:=gG.out (fl:=fl) (gs:=gs) (F:=F) (H:=H) hF hmm (by
   rintro b (q|⟨gj,hgj,q|q⟩)
   ·exact .inr (f1 b q)
   ·exact(fp1 gj hgj).1 b q
   ·rw[(fp1 gj hgj).2] at q
    obtain⟨ad,q,_⟩:=q;cases q)
  exact hK F' H4 t1 t2
end Go.Proofs.YtdpdmbceakdlmaaGreatDoor
