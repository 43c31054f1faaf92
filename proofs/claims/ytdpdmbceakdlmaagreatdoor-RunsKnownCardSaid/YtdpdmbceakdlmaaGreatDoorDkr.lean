/-
 The disk: where a number stands among sorted ones; the numbers of unsynced writes; a file behind a crash.
-/
import Derived.Test.YtdpdmbceakdlmaaGreatDoorDkg
import Derived.Test.YtdpdmbceakdlmaaGreatDoorDks
open Go.Addr renaming add->La
open Go.Builtin renaming append_->KM
open Go.Instr renaming storeAt->Li
open Go.IntKind renaming i64->KG,u64->K0,wrap_u64->Ro
open Go.Proofs.Tryz renaming prog->KE
open Int renaming tmod->LX,lt_of_le_of_lt->Rw
open List renaming getElem?_eq_getElem->KJ,take_succ_eq_append_getElem->KP,take_of_length_le->KT,filter_append->LH,getElem_of_mem->MB,take_append_drop->M1,foldl_append->Nc
open Nat renaming le_refl->KN,le_trans->Lc
namespace Go.Proofs.YtdpdmbceakdlmaaGreatDoor
open Go.MapKept
theorem uY {x y:Int}{H:Heap}{K:Bool->Heap->Prop}(hK:K (decide (x<y)) H):Gp.sp x y H K:=by
 refine Gp.of ?_
 unfold Gp.vc
 refine Hi.of ?_
 unfold Hi.vc
 exact aw (by simp) hK
theorem uc {x:Int}{H:Heap}{K:Bool->Heap->Prop}(hK:K false H):FR.sp x H K:=by
 refine FR.of ?_
 unfold FR.vc
 have:(x !=x)=false:=by simp
 rw[this];exact hK
theorem uw {i j:Nat}(h:i+j<4611686018427387904):KG.wrap (cI .u64 (K0.wrap (KG.wrap ((i:Int)+(j:Int)))) 1)=(((i+j)/2:Nat):Int):=by
 rw[show KG.wrap ((i:Int)+(j:Int))=(i:Int)+(j:Int) from wrap64 (by omega) (by omega)]
 have h1:K0.wrap ((i:Int)+(j:Int))=((i+j:Nat):Int):=by
  rw[Ro];omega
 rw[h1]
 have h2:cI .u64 ((i+j:Nat):Int) 1=(((i+j)/2:Nat):Int):=by
  unfold cI
  have:(2:Int)^(min (1:Int).toNat K0.bits)=2:=by decide
  rw[this,Int.fdiv_eq_ediv_of_nonneg _ (by omega)]
  omega
 rw[h2,wrap64 (by omega) (by omega)]
theorem Cz {L:List Int}{t:Int}{i:Nat}(hi:i<=L.length)(h1:∀k (hk:k<L.length),k<i->L[k]<t)(h2:∀k (hk:k<L.length),i<=k->¬L[k]<t):(L.filter λx=>decide (x<t)).length=i:=by
 have e:L=L.take i++L.drop i:=(M1 i L).symm
 rw[e,LH,List.length_append]
 have a:(L.take i).filter (λx=>decide (x<t))=L.take i:=by
  rw[List.filter_eq_self]
  intro x hx
  obtain⟨k,hk,rfl⟩:=MB hx
  simp at hk ⊢
  exact h1 k (by omega) (by omega)
 have b:(L.drop i).filter (λx=>decide (x<t))=[]:=by
  rw[List.filter_eq_nil_iff]
  intro x hx
  obtain⟨k,hk,rfl⟩:=MB hx
  simp at hk ⊢
  have:=h2 (i+k) (by omega) (by omega)
  omega
 rw[a,b];simp;omega
theorem AY {z:Sl}{L:List Int}{t:Int}{H:Heap}{K:(Int×Bool)->Heap->Prop}(h:aK EI j7 H z L)(hs:L.Pairwise (·<=·))(hl:L.length<2305843009213693952)
  (hK:∀b,K ((((L.filter λx=>decide (x<t)).length:Nat):Int),b) H):EE.sp z t H K:=by
 refine EE.of ?_
 unfold EE.vc
 have hn:=h.n (by decide)
 have srt:∀a b (ha:a<L.length) (hb:b<L.length),a<=b->L[a]<=L[b]:=by
  intro a b ha hb hab
  rcases Nat.lt_or_ge a b with q|q
  ·exact(List.pairwise_iff_getElem.1 hs) a b ha hb q
  ·have:a=b:=by omega
   subst this;exact Int.le_refl _
 have rd:∀(i:Nat) (hi:i<L.length) {K':Int->Prop},K' L[i]->ab z.a λa=>(0<=(i:Int)/\(i:Int)<(z.n:Int))/\ld (aa .i64) H (a.add ((i:Int).toNat*1)) λx=>K' x:=by
  intro i hi K' hk
  obtain⟨ad,ha⟩:=cS.addr h.rd (by decide) (by omega)
  rw[ha]
  refine⟨⟨by omega,by omega⟩,?_⟩
  have:=cS.ld (c:=aa .i64) (K:=K') h.rd ha (i:=i) (j:=0) (x:=L[i]) (y:=L[i]) (KJ hi) rfl (n:=i*1) rfl hk
  simpa[La] using this
 refine⟨Nat×Nat,λg x H'=>x=((g.1:Int),(g.2:Int))/\H'=H/\g.1<=g.2/\g.2<=L.length/\(∀k (hk:k<L.length),k<g.1->L[k]<t)/\(∀k (hk:k<L.length),g.2<=k->¬L[k]<t),λg=>g.2 - g.1,⟨(0,L.length),by rw[hn];rfl,rfl,Nat.zero_le _,KN _,λk _ hk=>by simp at hk,λk hk h=>by simp at h;omega⟩,?_⟩
 rintro⟨i,j⟩ _ H' ⟨rfl,rfl,hij,hj,hlo,hhi⟩
 refine ae (λhc=>?_) (λhc=>?_)
 ·have hc':i<j:=by simpa using hc
  have hm:=uw (i:=i) (j:=j) (by omega)
  simp only[hm]
  have hmi:(i+j)/2<L.length:=by omega
  refine rd _ hmi ?_
  refine uY ?_
  refine ae (λhb=>?_) (λhb=>?_)
  ·have hb':L[(i+j)/2]<t:=by simpa using hb
   refine⟨((i+j)/2+1,j),⟨?_,rfl,by omega,hj,λk hk hk2=>?_,hhi⟩,?_⟩
   ·rw[aI _ (by omega)]
   ·exact Rw (srt k _ hk hmi (by simp only at hk2;omega)) hb'
   ·show j - _<j - i;simp only;omega
  ·have hb':¬L[(i+j)/2]<t:=by simpa using hb
   refine⟨(i,(i+j)/2),⟨rfl,rfl,by simp only;omega,by simp only;omega,hlo,λk hk hk2 hlt=>?_⟩,?_⟩
   ·exact hb' (Rw (srt _ k hmi hk hk2) hlt)
   ·show _ - i<j - i;simp only;omega
 ·have hc':i=j:=by
   have:¬i<j:=by simpa using hc
   simp only at hij;omega
  subst hc'
  have hcnt:=Cz hj hlo hhi
  rw[hcnt] at hK
  refine ae (λhb=>?_) (λ_=>hK _)
  have hb':i<L.length:=by rw[hn] at hb;simpa using hb
  refine rd i hb' ?_
  refine ae (λ_=>hK _) (λ_=>?_)
  refine rd i hb' ?_
  refine uc ?_
  exact aw rfl (hK _)
theorem CL:uy KE Ax j7 EI.size 8:=ic (by kernel_rfl)
theorem nC:uN.size=514:=rfl
theorem xA {x2 z:Sl}{ws:List Wr}{ns:List Int}{H:Heap}{K:Sl->Heap->Prop}(hlog:aK uN qa H x2 ws)(hz:aK EI j7 H z ns)(hlen:ns.length+ws.length<=137438953472)
  (hK:∀s H',aK EI j7 H' s (ns++ws.map (·.no))->Grown z s H H'->K s H'):
  aC (Sl×Int) (z,(0:Int)) H λnext_1 z_1 H5=>br (decide (z_1.2<(x2.n:Int))) (ab x2.a λa_3=>(0<=z_1.2/\z_1.2<(x2.n:Int))/\dI jn 514 H5 (a_3.add (z_1.2.toNat*514)) λ(x_3:Array Value)=>aF H5 (zc KE qa) qa λp_1 H6=>lQ KE (Li qa (.pointer (some p_1)) (.agg x_3)) H6 λH7=>ld (aa .i64) H7 (p_1.add 0) λ(x_4:Int)=>aF H7 #[(.int .i64 x_4)] j7 λp_2 H8=>bt av KE (KM #[Ax,Ax] Ax #[z_1.1.v,(.slice (some p_2) 1 1)]) H8 λ(s:Sl) H9=>next_1 (s,KG.wrap (z_1.2+(1:Int))) H9) (K z_1.1 H5):=by
 have hn:=hlog.n (by decide)
 have hzl:=hz.lt
 have hap:∀b,al x2 b->¬al z b:=hlog.apart hz (by decide)
 refine ay ws.length (λk x H5=>x.2=(k:Int)/\aK EI j7 H5 x.1 (ns++(ws.take k).map (·.no))/\Grown z x.1 H H5) ⟨rfl,by simpa using hz,.refl _ _,λb hb=>.inl hb⟩ ?_
 rintro k ⟨s,i⟩ H5 next hk ⟨hi,o5,g5⟩ hnext
 simp only at hi
 subst hi
 simp only at o5 g5 hnext ⊢
 refine ae (λhc=>?_) (λhc=>?_)
 ·have hc':k<ws.length:=by rw[hn] at hc;simpa using hc
  have log5:aK uN qa H5 x2 ws:=hlog.ak λb hb hl=>g5.1.same b hl (hap b hb)
  obtain⟨ad,ha⟩:=cS.addr log5.rd (by decide) (by omega)
  rw[ha]
  refine⟨⟨by omega,by omega⟩,?_⟩
  have hw:ws[k]?=some ws[k]:=KJ hc'
  refine cS.dI (c:=jn) (y:=(uN.enc ws[k]).toArray) log5.rd ha hw rfl (by simp[nC]) nC.symm ?_
  have hsz:(uN.enc ws[k]).toArray.size=514:=by simp[uN.len];rfl
  refine ao λH6 s6 r6 m6=>?_
  refine r6.iH (by rw[hsz];kernel_rfl) (by rw[hsz];exact jB) (by simpa using uN.one ws[k]) λH7 r7 m7 s7=>?_
  refine r7.ld (c:=aa .i64) (i:=0) (x:=ws[k].no) rfl ?_
  have s57:=s7.trans s6
  have o7:aK EI j7 H7 s (ns++(ws.take k).map (·.no)):=o5.ak λb hb hl=>(m7.same b (by omega) (by omega)).trans (m6.same b hl id)
  refine aK.push (E:=EI) CL (x:=ws[k].no) o7 rfl (by simp;omega) (by simp;omega) λs9 H9 o9 g9 _=>?_
  have o5l:=o5.lt
  refine hnext hc' _ _ ⟨aI k (by omega),?_,?_⟩
  ·rw[KP hc',List.map_append,<-List.append_assoc]
   exact o9
  ·have z1:=g5.1.size;have z2:=g9.1.size
   refine⟨⟨by omega,λb hb hnb=>?_⟩,λb hb=>?_⟩
   ·refine(g9.1.same b (by omega) λhh=>?_).trans ((m7.same b (by omega) (by omega)).trans ((m6.same b (by omega) id).trans (g5.1.same b hb hnb)))
    rcases g5.2 b hh with q|q
    ·exact hnb q
    ·omega
   ·rcases g9.2 b hb with q|q
    ·exact g5.2 b q
    ·right;omega
 ·have hc':k=ws.length:=by rw[hn] at hc;simp at hc;omega
  subst hc'
  refine hK s H5 ?_ g5
  simpa using o5
def ri (q:Wr->Bool)(f:Fl):Fl:=⟨f.name,(f.log.filter q).foldl dq f.synced,[]⟩
theorem lI:∀(ws:List Wr) (l:List Pg) (w:Wr),w∈ws->w.page+1<=(ws.foldl dq l).length
 |[],_,_,h=>by cases h
 |a::ws,l,w,h=>by
   rcases List.mem_cons.1 h with e|h
   ·subst e
    exact Lc (by rw[ct];omega) (kC ws (dq l w))
   ·exact lI ws (dq l a) w h
theorem lG (ws:List Wr)(q:Wr->Bool)(k:Nat)(l:List Pg):(((ws.take k).filter q).foldl dq l).length<=(ws.foldl dq l).length:=by
 refine Lc (sK (ws.take k) q l l (KN _)) ?_
 conv=>rhs;rw[<-M1 k ws,Nc]
 exact kC _ _
theorem Ew {d m:Nat}{gf:FG}{f:Fl}{z:Sl}{L:List Int}{u most quota ops nx cin kp:Int}{laid down:Bool}{H:Heap}{K:Heap->Prop}(hF:cA H gf f)(hd:aj H d wE (eW m u most quota ops nx laid cin kp down))(hz:aK EI j7 H z L)
  (hL:L.Pairwise (·<=·)) (hLl:L.length<2305843009213693952) (hp:f.au.length<=1048576) (hlog:f.log.length<68719476736) (hgd:¬gf.fp d)
  (hK:∀gf' H',gf'.p=gf.p->cA H' gf' (ri (λw=>iO kp (L.filter λx=>decide (x<w.no)).length) f)->aj H' d wE (eW m (KG.wrap (u+((ri (λw=>iO kp (L.filter λx=>decide (x<w.no)).length) f).au.length:Int))) most quota ops nx laid cin kp down)->
   Mod (λb=>gf.fp b\/b=d) H H'->(∀b,gf'.fp b->gf.fp b\/H.size<=b)->K H'):
  ld av H (La ⟨gf.p,0,none⟩ 1) λ(x_6:Sl)=>BA.sp x_6 H λ(r_1:Sl) H16=>st H16 (La ⟨gf.p,0,none⟩ 0) r_1.v λH17=>ld av H17 (La ⟨gf.p,0,none⟩ 2) λ(x_7:Sl)=>aC Int (0:Int) H17 λnext_3 z_3 H18=>br (decide (z_3<(x_7.n:Int))) (ab x_7.a λa_9=>(0<=z_3/\z_3<(x_7.n:Int))/\dI jn 514 H18 (a_9.add (z_3.toNat*514)) λ(x_8:Array Value)=>aF H18 (zc KE qa) qa λp_3 H19=>lQ KE (Li qa (.pointer (some p_3)) (.agg x_8)) H19 λH20=>ld (aa .i64) H20 (p_3.add 0) λ(x_9:Int)=>EE.sp z x_9 H20 λ(r_2:(Int×Bool)) H21=>ld (aa .u64) H21 (La ⟨d,0,none⟩ 8) λ(x_10:Int)=>0<=(LX r_2.1 (64:Int))/\br ((kS .u64 (cI .u64 x_10 (LX r_2.1 (64:Int))) (1:Int))==(1:Int)) (ld av H21 (La ⟨gf.p,0,none⟩ 0) λ(x_11:Sl)=>ld (aa .i64) H21 (p_3.add 1) λ(x_12:Int)=>dI jn 512 H21 (p_3.add 2) λ(x_13:Array Value)=>DX.sp x_11 x_12 x_13 H21 λ(r_3:Sl) H22=>st H22 (La ⟨gf.p,0,none⟩ 0) r_3.v λH23=>next_3 (KG.wrap (z_3+(1:Int))) H23) (next_3 (KG.wrap (z_3+(1:Int))) H21)) (ld av H18 (La ⟨gf.p,0,none⟩ 0) λ(x_14:Sl)=>BA.sp x_14 H18 λ(r_4:Sl) H24=>st H24 (La ⟨gf.p,0,none⟩ 1) r_4.v λH25=>st H25 (La ⟨gf.p,0,none⟩ 2) (.slice none 0 0) λH26=>ld (aa .i64) H26 (La ⟨d,0,none⟩ 1) λ(x_15:Int)=>ld av H26 (La ⟨gf.p,0,none⟩ 0) λ(x_16:Sl)=>st H26 (La ⟨d,0,none⟩ 1) (.int .i64 (KG.wrap (x_15+(x_16.n:Int)))) λH27=>K H27):=by
 have hpd:gf.p≠d:=λe=>hgd (e▸.inl rfl)
 have typ:∀{E:Type} {En:fN E} {e:TypeId} {s:Sl} {l:List E},aK En e H s l->e≠zJ->∀b,al s b->b≠gf.p:=by
  intro E En e s l o ht b hb eb
  obtain⟨c,q⟩:=o.obj b hb
  rw[eb] at q
  exact ht (aQ hF.row q).symm
 have zd:∀b,al z b->b≠d:=λb hb eb=>by
  obtain⟨c,q⟩:=hz.obj b hb
  rw[eb] at q
  exact absurd (aQ hd q) (by decide)
 have tlog:=typ hF.log (by decide)
 have tsyn:=typ hF.syn (by decide)
 have tz:=typ hz (by decide)
 have hpl:gf.p<H.size:=aG hF.row
 have hdl:d<H.size:=aG hd
 have hsyl:f.synced.length<=f.au.length:=f.sg
 refine hF.row.ld (c:=av) (i:=1) (x:=gf.syn) rfl ?_
 refine iZ hF.syn (by omega) λs1 H1 o1 m1 f1=>?_
 have r1:=hF.row.ext m1
 refine r1.st (i:=0) (by simp) (by rfl) λH2 r2 m2 z2=>?_
 refine r2.ld (c:=av) (i:=2) (x:=gf.log) rfl ?_
 have hln:=hF.log.n (by decide)
 have m12:Mod (λb=>b=gf.p) H H2:=(Ext.mod m1).trans m2
 have o2:aK rE tv H2 s1 f.synced:=o1.ak λb hb hl=>m2.same b hl (by have:=f1 b hb;omega)
 obtain⟨q,hq⟩:∃q:Wr->Bool,q=λw=>iO kp (L.filter λx=>decide (x<w.no)).length:=⟨_,rfl⟩
 rw[<-hq] at hK
 refine ay f.log.length (λk i H5=>i=(k:Int)/\∃sl,aj H5 gf.p zJ #[sl.v,gf.syn.v,gf.log.v]/\aK rE tv H5 sl (((f.log.take k).filter q).foldl dq f.synced)/\Mod (λb=>b=gf.p) H H5/\(∀b,al sl b->H.size<=b)) ⟨rfl,s1,(show aj H2 gf.p zJ #[s1.v,gf.syn.v,gf.log.v] from r2),by simpa using o2,m12,f1⟩ ?_
 rintro k _ H5 next hk ⟨rfl,sl,r5,o5,m5,f5⟩ hnext
 have z5:=m5.size
 refine ae (λhc=>?_) (λhc=>?_)
 ·have hc':k<f.log.length:=by rw[hln] at hc;simpa using hc
  have log5:aK uN qa H5 gf.log f.log:=hF.log.ak λb hb hl=>m5.same b hl (tlog b hb)
  obtain⟨ad,ha⟩:=cS.addr log5.rd (by decide) (by omega)
  rw[ha]
  refine⟨⟨by omega,by omega⟩,?_⟩
  have hw:f.log[k]?=some f.log[k]:=KJ hc'
  obtain⟨w,hwe⟩:∃w,w=f.log[k]:=⟨_,rfl⟩
  rw[<-hwe] at hw
  refine cS.dI (c:=jn) (y:=(uN.enc w).toArray) log5.rd ha hw rfl (by simp[nC]) nC.symm ?_
  have hsz:(uN.enc w).toArray.size=514:=by simp[uN.len];rfl
  refine ao λH6 s6 r6 m6=>?_
  refine r6.iH (by rw[hsz];kernel_rfl) (by rw[hsz];exact jB) (by simpa using uN.one w) λH7 r7 m7 s7=>?_
  refine r7.ld (c:=aa .i64) (i:=0) (x:=w.no) rfl ?_
  have m57:Mod (λ_=>False) H5 H7:=⟨by omega,λb hb _=>(m7.same b (by omega) (by omega)).trans (m6.same b hb id)⟩
  have z7:aK EI j7 H7 z L:=hz.ak λb hb hl=>(m57.same b (by omega) id).trans (m5.same b hl (tz b hb))
  refine AY z7 hL hLl λbb=>?_
  have d7:aj H7 d wE (eW m u most quota ops nx laid cin kp down):=(hd.mod m5 (Ne.symm hpd)).ext m57
  refine d7.ld (c:=aa .u64) (i:=8) (x:=kp) rfl ?_
  refine⟨by simp only;exact Int.tmod_nonneg _ (by omega),?_⟩
  have hqw:q w=((kS .u64 (cI .u64 kp (LX (((L.filter λx=>decide (x<w.no)).length:Nat):Int) 64)) 1)==1):=by rw[hq];rfl
  have htk:(f.log.take (k+1)).filter q=(f.log.take k).filter q++(if q w then [w] else []):=by
   rw[KP hc',LH,<-hwe]
   cases hqb:q w<;>simp[hqb]
  have r57:aj H7 gf.p zJ #[sl.v,gf.syn.v,gf.log.v]:=r5.ext m57
  have o57:aK rE tv H7 sl (((f.log.take k).filter q).foldl dq f.synced):=o5.ak λb hb hl=>m57.same b hl id
  refine ae (λhb=>?_) (λhb=>?_)
  ·have hqt:q w=true:=by rw[hqw];exact hb
   refine r57.ld (c:=av) (i:=0) (x:=sl) rfl ?_
   refine r7.ld (c:=aa .i64) (i:=1) (x:=(w.page:Int)) rfl ?_
   refine⟨(fk w.b.1).toArray,?_,?_⟩
   ·rw[aX]
    refine r7.kT (by simp[fk,w.b.2]) λj hj=>?_
    simp only[uN,Nat.add_comm 2 j]
    simp
   ·have hpg:=lI f.log f.synced w (List.mem_of_getElem? hw)
    have hle:=lG f.log q k f.synced
    have hpe:(f.log.foldl dq f.synced).length=f.au.length:=rfl
    refine Cn (no:=w.no) (b:=w.b) o57 (by omega) (by omega) λs8 H8 o8 g8=>?_
    have slp:¬al sl gf.p:=λhh=>by have:=f5 _ hh;omega
    have r8:aj H8 gf.p zJ #[sl.v,gf.syn.v,gf.log.v]:=r57.mod g8.1 slp
    refine r8.st (i:=0) (by simp) (by rfl) λH9 r9 m9 s9=>?_
    have z8:=g8.1.size;have z57:=m57.size
    have f8:∀b,al s8 b->H.size<=b:=λb hb=>by
     rcases g8.2 b hb with h|h
     ·exact f5 b h
     ·omega
    refine hnext hc' _ _ ⟨aI k (by omega),s8,(show aj H9 gf.p zJ #[s8.v,gf.syn.v,gf.log.v] from r9),?_,?_,f8⟩
    ·rw[htk,if_pos hqt,Nc]
     exact o8.ak λb hb hl=>m9.same b hl (by have:=f8 b hb;omega)
    ·refine⟨by omega,λb hb hn=>(m9.same b (by omega) hn).trans ((g8.1.same b (by omega) λhh=>?_).trans ((m57.same b (by omega) id).trans (m5.same b hb hn)))⟩
     have:=f5 b hh;omega
  ·have hqt:q w=false:=by rw[hqw];exact hb
   refine hnext hc' _ _ ⟨aI k (by omega),sl,r57,?_,m5.trans (Ext.mod m57),f5⟩
   rw[htk,hqt]
   simpa using o57
 ·have hc':k=f.log.length:=by rw[hln] at hc;simp at hc;omega
  rw[hc',KT (KN _)] at o5
  have hle:=lG f.log q f.log.length f.synced
  rw[KT (KN _)] at hle
  have hpe:(f.log.foldl dq f.synced).length=f.au.length:=rfl
  refine r5.ld (c:=av) (i:=0) (x:=sl) rfl ?_
  refine iZ o5 (by omega) λs6 H6 o6 m6 f6=>?_
  have r6:=r5.ext m6
  refine r6.st (i:=1) (by simp) (by rfl) λH7 r7 m7 s7=>?_
  refine r7.st (i:=2) (by simp) (by rfl) λH8 r8 m8 s8=>?_
  have z6:=m6.size
  have m58:Mod (λb=>b=gf.p) H5 H8:=((Ext.mod m6).trans m7).trans m8
  have mH8:=m5.trans m58
  have d8:aj H8 d wE (eW m u most quota ops nx laid cin kp down):=hd.mod mH8 (Ne.symm hpd)
  refine d8.ld (c:=aa .i64) (i:=1) (x:=u) rfl ?_
  refine r8.ld (c:=av) (i:=0) (x:=sl) rfl ?_
  refine d8.st (i:=1) (by simp[eW]) (by rfl) λH9 r9 m9 s9=>?_
  have hsn:=o5.n (by decide)
  have hbp:(ri q f).au=(f.log.filter q).foldl dq f.synced:=rfl
  refine hK ⟨gf.p,sl,s6,Sl.mk none 0 0⟩ H9 rfl ⟨?_,?_,?_,aK.nil _ _ _,?_⟩ ?_ ?_ ?_
  ·exact r8.mod m9 hpd
  ·refine o5.ak λb hb hl=>?_
   have:=f5 b hb
   exact(m9.same b (by omega) (by omega)).trans ((m8.same b (by omega) (by omega)).trans ((m7.same b (by omega) (by omega)).trans (m6.same b hl id)))
  ·refine o6.ak λb hb hl=>?_
   have:=f6 b hb
   exact(m9.same b (by omega) (by omega)).trans ((m8.same b (by omega) (by omega)).trans (m7.same b hl (by omega)))
  ·intro b hb hb2
   have:=f6 b hb2
   have:=o5.lt b hb;omega
  ·rw[hbp,<-hsn];exact r9
  ·refine⟨by omega,λb hb hn=>(m9.same b (by have:=mH8.size;omega) λe=>hn (.inr e)).trans (mH8.same b hb λe=>hn (.inl (.inl e)))⟩
  ·rintro b (e|hb|hb|⟨_,hb,_⟩)
   ·exact .inl (.inl e)
   ·exact .inr (f5 b hb)
   ·have:=f6 b hb;right;omega
   ·cases hb
end Go.Proofs.YtdpdmbceakdlmaaGreatDoor
