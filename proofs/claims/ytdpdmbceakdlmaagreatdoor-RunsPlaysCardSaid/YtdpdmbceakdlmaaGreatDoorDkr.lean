/-
 The disk: where a number stands among sorted ones; the numbers of unsynced writes; a file behind a crash.
-/
import Derived.Test.YtdpdmbceakdlmaaGreatDoorDkg
import Derived.Test.YtdpdmbceakdlmaaGreatDoorDks
namespace Go.Proofs.YtdpdmbceakdlmaaGreatDoor
open Go.MapKept
theorem tx {x y:Int} {H:Heap} {K:Bool→Heap→Prop} (hK:K (decide (x<y)) H):DX.sp x y H K:=by
 refine DX.of ?_
 unfold DX.vc
 refine DU.of ?_
 unfold DU.vc
 exact ar (by simp) hK
theorem rZ {x:Int} {H:Heap} {K:Bool→Heap→Prop} (hK:K false H):Dd.sp x H K:=by
 refine Dd.of ?_
 unfold Dd.vc
 have:(x !=x)=false:=by simp
 rw[this];exact hK
theorem rI {i j:Nat} (h:i+j<4611686018427387904):IntKind.i64.wrap (cr .u64 (IntKind.u64.wrap (IntKind.i64.wrap ((i:Int)+(j:Int)))) 1)=(((i+j)/2:Nat):Int):=by
 rw[show IntKind.i64.wrap ((i:Int)+(j:Int))=(i:Int)+(j:Int) from wrap64 (by omega) (by omega)]
 have h1:IntKind.u64.wrap ((i:Int)+(j:Int))=((i+j:Nat):Int):=by
  rw[IntKind.wrap_u64];omega
 rw[h1]
 have h2:cr .u64 ((i+j:Nat):Int) 1=(((i+j)/2:Nat):Int):=by
  unfold cr
  have:(2:Int)^(min (1:Int).toNat IntKind.u64.bits)=2:=by decide
  rw[this,Int.fdiv_eq_ediv_of_nonneg _ (by omega)]
  omega
 rw[h2,wrap64 (by omega) (by omega)]
theorem AY {L:List Int} {t:Int} {i:Nat} (hi:i≤L.length) (h1:∀k (hk:k<L.length),k<i→L[k]<t) (h2:∀k (hk:k<L.length),i≤k→¬L[k]<t):(L.filter fun x=>decide (x<t)).length=i:=by
 have e:L=L.take i++L.drop i:=(List.take_append_drop i L).symm
 rw[e,List.filter_append,List.length_append]
 have a:(L.take i).filter (fun x=>decide (x<t))=L.take i:=by
  rw[List.filter_eq_self]
  intro x hx
  obtain⟨k,hk,rfl⟩:=List.getElem_of_mem hx
  simp at hk ⊢
  exact h1 k (by omega) (by omega)
 have b:(L.drop i).filter (fun x=>decide (x<t))=[]:=by
  rw[List.filter_eq_nil_iff]
  intro x hx
  obtain⟨k,hk,rfl⟩:=List.getElem_of_mem hx
  simp at hk ⊢
  have:=h2 (i+k) (by omega) (by omega)
  omega
 rw[a,b];simp;omega
theorem xH {z:Sl} {L:List Int} {t:Int} {H:Heap} {K:(Int×Bool)→Heap→Prop} (h:aG EI fg H z L) (hs:L.Pairwise (·≤·)) (hl:L.length<2305843009213693952)
  (hK:∀b,K ((((L.filter fun x=>decide (x<t)).length:Nat):Int),b) H):Cj.sp z t H K:=by
 refine Cj.of ?_
 unfold Cj.vc
 have hn:=h.n (by decide)
 have srt:∀a b (ha:a<L.length) (hb:b<L.length),a≤b→L[a]≤L[b]:=by
  intro a b ha hb hab
  rcases Nat.lt_or_ge a b with q|q
  ·exact(List.pairwise_iff_getElem.1 hs) a b ha hb q
  ·have:a=b:=by omega
   subst this;exact Int.le_refl _
 have rd:∀(i:Nat) (hi:i<L.length) {K':Int→Prop},K' L[i]→ab z.a fun a=>(0≤(i:Int)∧(i:Int)<(z.n:Int))∧ld (aa .i64) H (a.add ((i:Int).toNat*1)) fun x=>K' x:=by
  intro i hi K' hk
  obtain⟨ad,ha⟩:=cL.addr h.rd (by decide) (by omega)
  rw[ha]
  refine⟨⟨by omega,by omega⟩,?_⟩
  have:=cL.ld (c:=aa .i64) (K:=K') h.rd ha (i:=i) (j:=0) (x:=L[i]) (y:=L[i]) (List.getElem?_eq_getElem hi) rfl (n:=i*1) rfl hk
  simpa[Addr.add] using this
 refine⟨Nat×Nat,fun g x H'=>x=((g.1:Int),(g.2:Int))∧H'=H∧g.1≤g.2∧g.2≤L.length∧(∀k (hk:k<L.length),k<g.1→L[k]<t)∧(∀k (hk:k<L.length),g.2≤k→¬L[k]<t),fun g=>g.2 - g.1,⟨(0,L.length),by rw[hn];rfl,rfl,Nat.zero_le _,Nat.le_refl _,fun k _ hk=>by simp at hk,fun k hk h=>by simp at h;omega⟩,?_⟩
 rintro⟨i,j⟩ _ H' ⟨rfl,rfl,hij,hj,hlo,hhi⟩
 refine ag (fun hc=>?_) (fun hc=>?_)
 ·have hc':i<j:=by simpa using hc
  have hm:=rI (i:=i) (j:=j) (by omega)
  simp only[hm]
  have hmi:(i+j)/2<L.length:=by omega
  refine rd _ hmi ?_
  refine tx ?_
  refine ag (fun hb=>?_) (fun hb=>?_)
  ·have hb':L[(i+j)/2]<t:=by simpa using hb
   refine⟨((i+j)/2+1,j),⟨?_,rfl,by omega,hj,fun k hk hk2=>?_,hhi⟩,?_⟩
   ·rw[aK _ (by omega)]
   ·exact Int.lt_of_le_of_lt (srt k _ hk hmi (by simp only at hk2;omega)) hb'
   ·show j - _<j - i;simp only;omega
  ·have hb':¬L[(i+j)/2]<t:=by simpa using hb
   refine⟨(i,(i+j)/2),⟨rfl,rfl,by simp only;omega,by simp only;omega,hlo,fun k hk hk2 hlt=>?_⟩,?_⟩
   ·exact hb' (Int.lt_of_le_of_lt (srt _ k hmi hk hk2) hlt)
   ·show _ - i<j - i;simp only;omega
 ·have hc':i=j:=by
   have:¬i<j:=by simpa using hc
   simp only at hij;omega
  subst hc'
  have hcnt:=AY hj hlo hhi
  rw[hcnt] at hK
  refine ag (fun hb=>?_) (fun _=>hK _)
  have hb':i<L.length:=by rw[hn] at hb;simpa using hb
  refine rd i hb' ?_
  refine ag (fun _=>hK _) (fun _=>?_)
  refine rd i hb' ?_
  refine rZ ?_
  exact ar rfl (hK _)
theorem zK:sN Tryz.prog yB fg EI.size 8:=gW (by kernel_rfl)
theorem lA:sL.size=514:=rfl
theorem vE {x2 z:Sl} {ws:List Wr} {ns:List Int} {H:Heap} {K:Sl→Heap→Prop} (hlog:aG sL nU H x2 ws) (hz:aG EI fg H z ns) (hlen:ns.length+ws.length≤137438953472)
  (hK:∀s H',aG EI fg H' s (ns++ws.map (·.no))→Grown z s H H'→K s H'):
  aC (Sl×Int) (z,(0:Int)) H fun next_1 z_1 H5=>br (decide (z_1.2<(x2.n:Int))) (ab x2.a fun a_3=>(0≤z_1.2∧z_1.2<(x2.n:Int))∧dE iA 514 H5 (a_3.add (z_1.2.toNat*514)) fun(x_3:Array Value)=>aP H5 (zc Tryz.prog nU) nU fun p_1 H6=>ko Tryz.prog (Instr.storeAt nU (.pointer (some p_1)) (.agg x_3)) H6 fun H7=>ld (aa .i64) H7 (p_1.add 0) fun(x_4:Int)=>aP H7 #[(.int .i64 x_4)] fg fun p_2 H8=>bu aq Tryz.prog (Builtin.append_ #[yB,yB] yB #[z_1.1.v,(.slice (some p_2) 1 1)]) H8 fun(s:Sl) H9=>next_1 (s,IntKind.i64.wrap (z_1.2+(1:Int))) H9) (K z_1.1 H5):=by
 have hn:=hlog.n (by decide)
 have hzl:=hz.lt
 have hap:∀b,aj x2 b→¬aj z b:=hlog.apart hz (by decide)
 refine aw ws.length (fun k x H5=>x.2=(k:Int)∧aG EI fg H5 x.1 (ns++(ws.take k).map (·.no))∧Grown z x.1 H H5) ⟨rfl,by simpa using hz,.refl _ _,fun b hb=>.inl hb⟩ ?_
 rintro k ⟨s,i⟩ H5 next hk ⟨hi,o5,g5⟩ hnext
 simp only at hi
 subst hi
 simp only at o5 g5 hnext ⊢
 refine ag (fun hc=>?_) (fun hc=>?_)
 ·have hc':k<ws.length:=by rw[hn] at hc;simpa using hc
  have log5:aG sL nU H5 x2 ws:=hlog.keep fun b hb hl=>g5.1.same b hl (hap b hb)
  obtain⟨ad,ha⟩:=cL.addr log5.rd (by decide) (by omega)
  rw[ha]
  refine⟨⟨by omega,by omega⟩,?_⟩
  have hw:ws[k]?=some ws[k]:=List.getElem?_eq_getElem hc'
  refine cL.dE (c:=iA) (y:=(sL.enc ws[k]).toArray) log5.rd ha hw rfl (by simp[lA]) lA.symm ?_
  have hsz:(sL.enc ws[k]).toArray.size=514:=by simp[sL.len];rfl
  refine au fun H6 s6 r6 m6=>?_
  refine r6.ja (by rw[hsz];kernel_rfl) (by rw[hsz];exact iD) (by simpa using sL.one ws[k]) fun H7 r7 m7 s7=>?_
  refine r7.ld (c:=aa .i64) (i:=0) (x:=ws[k].no) rfl ?_
  have s57:=s7.trans s6
  have o7:aG EI fg H7 s (ns++(ws.take k).map (·.no)):=o5.keep fun b hb hl=>(m7.same b (by omega) (by omega)).trans (m6.same b hl id)
  refine aG.push (E:=EI) zK (x:=ws[k].no) o7 rfl (by simp;omega) (by simp;omega) fun s9 H9 o9 g9 _=>?_
  have o5l:=o5.lt
  refine hnext hc' _ _ ⟨aK k (by omega),?_,?_⟩
  ·rw[List.take_succ_eq_append_getElem hc',List.map_append,←List.append_assoc]
   exact o9
  ·have z1:=g5.1.size;have z2:=g9.1.size
   refine⟨⟨by omega,fun b hb hnb=>?_⟩,fun b hb=>?_⟩
   ·refine(g9.1.same b (by omega) fun hh=>?_).trans ((m7.same b (by omega) (by omega)).trans ((m6.same b (by omega) id).trans (g5.1.same b hb hnb)))
    rcases g5.2 b hh with q|q
    ·exact hnb q
    ·omega
   ·rcases g9.2 b hb with q|q
    ·exact g5.2 b q
    ·right;omega
 ·have hc':k=ws.length:=by rw[hn] at hc;simp at hc;omega
  subst hc'
  refine hK s H5 ?_ g5
  simpa using o5
def pE (q:Wr→Bool) (f:Fl):Fl:=⟨f.name,(f.log.filter q).foldl cY f.synced,[]⟩
theorem j5:∀(ws:List Wr) (l:List Pg) (w:Wr),w∈ws→w.page+1≤(ws.foldl cY l).length
 |[],_,_,h=>by cases h
 |a::ws,l,w,h=>by
   rcases List.mem_cons.1 h with e|h
   ·subst e
    exact Nat.le_trans (by rw[bZ];omega) (jD ws (cY l w))
   ·exact j5 ws (cY l a) w h
theorem j8 (ws:List Wr) (q:Wr→Bool) (k:Nat) (l:List Pg):(((ws.take k).filter q).foldl cY l).length≤(ws.foldl cY l).length:=by
 refine Nat.le_trans (qM (ws.take k) q l l (Nat.le_refl _)) ?_
 conv=>rhs;rw[←List.take_append_drop k ws,List.foldl_append]
 exact jD _ _
theorem Dm {d m:Nat} {gf:FG} {f:Fl} {z:Sl} {L:List Int} {u most quota ops nx cin kp:Int} {laid down:Bool} {H:Heap} {K:Heap→Prop} (hF:ck H gf f) (hd:ai H d ue (dS m u most quota ops nx laid cin kp down)) (hz:aG EI fg H z L)
  (hL:L.Pairwise (·≤·)) (hLl:L.length<2305843009213693952) (hp:f.ao.length≤1048576) (hlog:f.log.length<68719476736) (hgd:¬gf.fp d)
  (hK:∀gf' H',gf'.p=gf.p→ck H' gf' (pE (fun w=>gP kp (L.filter fun x=>decide (x<w.no)).length) f)→ai H' d ue (dS m (IntKind.i64.wrap (u+((pE (fun w=>gP kp (L.filter fun x=>decide (x<w.no)).length) f).ao.length:Int))) most quota ops nx laid cin kp down)→
   Mod (fun b=>gf.fp b∨b=d) H H'→(∀b,gf'.fp b→gf.fp b∨H.size≤b)→K H'):
  ld aq H (Addr.add ⟨gf.p,0,none⟩ 1) fun(x_6:Sl)=>yP.sp x_6 H fun(r_1:Sl) H16=>st H16 (Addr.add ⟨gf.p,0,none⟩ 0) r_1.v fun H17=>ld aq H17 (Addr.add ⟨gf.p,0,none⟩ 2) fun(x_7:Sl)=>aC Int (0:Int) H17 fun next_3 z_3 H18=>br (decide (z_3<(x_7.n:Int))) (ab x_7.a fun a_9=>(0≤z_3∧z_3<(x_7.n:Int))∧dE iA 514 H18 (a_9.add (z_3.toNat*514)) fun(x_8:Array Value)=>aP H18 (zc Tryz.prog nU) nU fun p_3 H19=>ko Tryz.prog (Instr.storeAt nU (.pointer (some p_3)) (.agg x_8)) H19 fun H20=>ld (aa .i64) H20 (p_3.add 0) fun(x_9:Int)=>Cj.sp z x_9 H20 fun(r_2:(Int×Bool)) H21=>ld (aa .u64) H21 (Addr.add ⟨d,0,none⟩ 8) fun(x_10:Int)=>0≤(Int.tmod r_2.1 (64:Int))∧br ((jI .u64 (cr .u64 x_10 (Int.tmod r_2.1 (64:Int))) (1:Int))==(1:Int)) (ld aq H21 (Addr.add ⟨gf.p,0,none⟩ 0) fun(x_11:Sl)=>ld (aa .i64) H21 (p_3.add 1) fun(x_12:Int)=>dE iA 512 H21 (p_3.add 2) fun(x_13:Array Value)=>BL.sp x_11 x_12 x_13 H21 fun(r_3:Sl) H22=>st H22 (Addr.add ⟨gf.p,0,none⟩ 0) r_3.v fun H23=>next_3 (IntKind.i64.wrap (z_3+(1:Int))) H23) (next_3 (IntKind.i64.wrap (z_3+(1:Int))) H21)) (ld aq H18 (Addr.add ⟨gf.p,0,none⟩ 0) fun(x_14:Sl)=>yP.sp x_14 H18 fun(r_4:Sl) H24=>st H24 (Addr.add ⟨gf.p,0,none⟩ 1) r_4.v fun H25=>st H25 (Addr.add ⟨gf.p,0,none⟩ 2) (.slice none 0 0) fun H26=>ld (aa .i64) H26 (Addr.add ⟨d,0,none⟩ 1) fun(x_15:Int)=>ld aq H26 (Addr.add ⟨gf.p,0,none⟩ 0) fun(x_16:Sl)=>st H26 (Addr.add ⟨d,0,none⟩ 1) (.int .i64 (IntKind.i64.wrap (x_15+(x_16.n:Int)))) fun H27=>K H27):=by
 have hpd:gf.p≠d:=fun e=>hgd (e▸.inl rfl)
 have typ:∀{E:Type} {En:eC E} {e:TypeId} {s:Sl} {l:List E},aG En e H s l→e≠yF→∀b,aj s b→b≠gf.p:=by
  intro E En e s l o ht b hb eb
  obtain⟨c,q⟩:=o.obj b hb
  rw[eb] at q
  exact ht (aL hF.row q).symm
 have zd:∀b,aj z b→b≠d:=fun b hb eb=>by
  obtain⟨c,q⟩:=hz.obj b hb
  rw[eb] at q
  exact absurd (aL hd q) (by decide)
 have tlog:=typ hF.log (by decide)
 have tsyn:=typ hF.syn (by decide)
 have tz:=typ hz (by decide)
 have hpl:gf.p<H.size:=az hF.row
 have hdl:d<H.size:=az hd
 have hsyl:f.synced.length≤f.ao.length:=f.qy
 refine hF.row.ld (c:=aq) (i:=1) (x:=gf.syn) rfl ?_
 refine hY hF.syn (by omega) fun s1 H1 o1 m1 f1=>?_
 have r1:=hF.row.ext m1
 refine r1.st (i:=0) (by simp) (by rfl) fun H2 r2 m2 z2=>?_
 refine r2.ld (c:=aq) (i:=2) (x:=gf.log) rfl ?_
 have hln:=hF.log.n (by decide)
 have m12:Mod (fun b=>b=gf.p) H H2:=(Ext.mod m1).trans m2
 have o2:aG pZ qS H2 s1 f.synced:=o1.keep fun b hb hl=>m2.same b hl (by have:=f1 b hb;omega)
 obtain⟨q,hq⟩:∃q:Wr→Bool,q=fun w=>gP kp (L.filter fun x=>decide (x<w.no)).length:=⟨_,rfl⟩
 rw[←hq] at hK
 refine aw f.log.length (fun k i H5=>i=(k:Int)∧∃sl,ai H5 gf.p yF #[sl.v,gf.syn.v,gf.log.v]∧aG pZ qS H5 sl (((f.log.take k).filter q).foldl cY f.synced)∧Mod (fun b=>b=gf.p) H H5∧(∀b,aj sl b→H.size≤b)) ⟨rfl,s1,(show ai H2 gf.p yF #[s1.v,gf.syn.v,gf.log.v] from r2),by simpa using o2,m12,f1⟩ ?_
 rintro k _ H5 next hk ⟨rfl,sl,r5,o5,m5,f5⟩ hnext
 have z5:=m5.size
 refine ag (fun hc=>?_) (fun hc=>?_)
 ·have hc':k<f.log.length:=by rw[hln] at hc;simpa using hc
  have log5:aG sL nU H5 gf.log f.log:=hF.log.keep fun b hb hl=>m5.same b hl (tlog b hb)
  obtain⟨ad,ha⟩:=cL.addr log5.rd (by decide) (by omega)
  rw[ha]
  refine⟨⟨by omega,by omega⟩,?_⟩
  have hw:f.log[k]?=some f.log[k]:=List.getElem?_eq_getElem hc'
  obtain⟨w,hwe⟩:∃w,w=f.log[k]:=⟨_,rfl⟩
  rw[←hwe] at hw
  refine cL.dE (c:=iA) (y:=(sL.enc w).toArray) log5.rd ha hw rfl (by simp[lA]) lA.symm ?_
  have hsz:(sL.enc w).toArray.size=514:=by simp[sL.len];rfl
  refine au fun H6 s6 r6 m6=>?_
  refine r6.ja (by rw[hsz];kernel_rfl) (by rw[hsz];exact iD) (by simpa using sL.one w) fun H7 r7 m7 s7=>?_
  refine r7.ld (c:=aa .i64) (i:=0) (x:=w.no) rfl ?_
  have m57:Mod (fun _=>False) H5 H7:=⟨by omega,fun b hb _=>(m7.same b (by omega) (by omega)).trans (m6.same b hb id)⟩
  have z7:aG EI fg H7 z L:=hz.keep fun b hb hl=>(m57.same b (by omega) id).trans (m5.same b hl (tz b hb))
  refine xH z7 hL hLl fun bb=>?_
  have d7:ai H7 d ue (dS m u most quota ops nx laid cin kp down):=(hd.mod m5 (Ne.symm hpd)).ext m57
  refine d7.ld (c:=aa .u64) (i:=8) (x:=kp) rfl ?_
  refine⟨by simp only;exact Int.tmod_nonneg _ (by omega),?_⟩
  have hqw:q w=((jI .u64 (cr .u64 kp (Int.tmod (((L.filter fun x=>decide (x<w.no)).length:Nat):Int) 64)) 1)==1):=by rw[hq];rfl
  have htk:(f.log.take (k+1)).filter q=(f.log.take k).filter q++(if q w then [w] else []):=by
   rw[List.take_succ_eq_append_getElem hc',List.filter_append,←hwe]
   cases hqb:q w<;>simp[hqb]
  have r57:ai H7 gf.p yF #[sl.v,gf.syn.v,gf.log.v]:=r5.ext m57
  have o57:aG pZ qS H7 sl (((f.log.take k).filter q).foldl cY f.synced):=o5.keep fun b hb hl=>m57.same b hl id
  refine ag (fun hb=>?_) (fun hb=>?_)
  ·have hqt:q w=true:=by rw[hqw];exact hb
   refine r57.ld (c:=aq) (i:=0) (x:=sl) rfl ?_
   refine r7.ld (c:=aa .i64) (i:=1) (x:=(w.page:Int)) rfl ?_
   refine⟨(eX w.b.1).toArray,?_,?_⟩
   ·rw[aW]
    refine r7.ju (by simp[eX,w.b.2]) fun j hj=>?_
    simp only[sL,Nat.add_comm 2 j]
    simp
   ·have hpg:=j5 f.log f.synced w (List.mem_of_getElem? hw)
    have hle:=j8 f.log q k f.synced
    have hpe:(f.log.foldl cY f.synced).length=f.ao.length:=rfl
    refine AU (no:=w.no) (b:=w.b) o57 (by omega) (by omega) fun s8 H8 o8 g8=>?_
    have slp:¬aj sl gf.p:=fun hh=>by have:=f5 _ hh;omega
    have r8:ai H8 gf.p yF #[sl.v,gf.syn.v,gf.log.v]:=r57.mod g8.1 slp
    refine r8.st (i:=0) (by simp) (by rfl) fun H9 r9 m9 s9=>?_
    have z8:=g8.1.size;have z57:=m57.size
    have f8:∀b,aj s8 b→H.size≤b:=fun b hb=>by
     rcases g8.2 b hb with h|h
     ·exact f5 b h
     ·omega
    refine hnext hc' _ _ ⟨aK k (by omega),s8,(show ai H9 gf.p yF #[s8.v,gf.syn.v,gf.log.v] from r9),?_,?_,f8⟩
    ·rw[htk,if_pos hqt,List.foldl_append]
     exact o8.keep fun b hb hl=>m9.same b hl (by have:=f8 b hb;omega)
    ·refine⟨by omega,fun b hb hn=>(m9.same b (by omega) hn).trans ((g8.1.same b (by omega) fun hh=>?_).trans ((m57.same b (by omega) id).trans (m5.same b hb hn)))⟩
     have:=f5 b hh;omega
  ·have hqt:q w=false:=by rw[hqw];exact hb
   refine hnext hc' _ _ ⟨aK k (by omega),sl,r57,?_,m5.trans (Ext.mod m57),f5⟩
   rw[htk,hqt]
   simpa using o57
 ·have hc':k=f.log.length:=by rw[hln] at hc;simp at hc;omega
  rw[hc',List.take_of_length_le (Nat.le_refl _)] at o5
  have hle:=j8 f.log q f.log.length f.synced
  rw[List.take_of_length_le (Nat.le_refl _)] at hle
  have hpe:(f.log.foldl cY f.synced).length=f.ao.length:=rfl
  refine r5.ld (c:=aq) (i:=0) (x:=sl) rfl ?_
  refine hY o5 (by omega) fun s6 H6 o6 m6 f6=>?_
  have r6:=r5.ext m6
  refine r6.st (i:=1) (by simp) (by rfl) fun H7 r7 m7 s7=>?_
  refine r7.st (i:=2) (by simp) (by rfl) fun H8 r8 m8 s8=>?_
  have z6:=m6.size
  have m58:Mod (fun b=>b=gf.p) H5 H8:=((Ext.mod m6).trans m7).trans m8
  have mH8:=m5.trans m58
  have d8:ai H8 d ue (dS m u most quota ops nx laid cin kp down):=hd.mod mH8 (Ne.symm hpd)
  refine d8.ld (c:=aa .i64) (i:=1) (x:=u) rfl ?_
  refine r8.ld (c:=aq) (i:=0) (x:=sl) rfl ?_
  refine d8.st (i:=1) (by simp[dS]) (by rfl) fun H9 r9 m9 s9=>?_
  have hsn:=o5.n (by decide)
  have hbp:(pE q f).ao=(f.log.filter q).foldl cY f.synced:=rfl
  refine hK ⟨gf.p,sl,s6,Sl.mk none 0 0⟩ H9 rfl ⟨?_,?_,?_,aG.nil _ _ _,?_⟩ ?_ ?_ ?_
  ·exact r8.mod m9 hpd
  ·refine o5.keep fun b hb hl=>?_
   have:=f5 b hb
   exact(m9.same b (by omega) (by omega)).trans ((m8.same b (by omega) (by omega)).trans ((m7.same b (by omega) (by omega)).trans (m6.same b hl id)))
  ·refine o6.keep fun b hb hl=>?_
   have:=f6 b hb
   exact(m9.same b (by omega) (by omega)).trans ((m8.same b (by omega) (by omega)).trans (m7.same b hl (by omega)))
  ·intro b hb hb2
   have:=f6 b hb2
   have:=o5.lt b hb;omega
  ·rw[hbp,←hsn];exact r9
  ·refine⟨by omega,fun b hb hn=>(m9.same b (by have:=mH8.size;omega) fun e=>hn (.inr e)).trans (mH8.same b hb fun e=>hn (.inl (.inl e)))⟩
  ·rintro b (e|hb|hb|⟨_,hb,_⟩)
   ·exact .inl (.inl e)
   ·exact .inr (f5 b hb)
   ·have:=f6 b hb;right;omega
   ·cases hb
end Go.Proofs.YtdpdmbceakdlmaaGreatDoor
