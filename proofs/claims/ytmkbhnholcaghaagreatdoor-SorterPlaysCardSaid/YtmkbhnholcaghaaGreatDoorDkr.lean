/-
 The disk: where a number stands among sorted ones; the numbers of unsynced writes; a file behind a crash.
-/
import Derived.Test.YtmkbhnholcaghaaGreatDoorDkg
import Derived.Test.YtmkbhnholcaghaaGreatDoorDks
open Go.Addr renaming add->OJ
open Go.Builtin renaming append_->N2
open Go.Instr renaming storeAt->Og
open Go.IntKind renaming i64->NY,u64->OA,wrap_u64->Vp
open Go.Proofs.Tryz renaming prog->NX
open Int renaming tmod->Pf,lt_of_le_of_lt->VB
open List renaming getElem?_eq_getElem->N0,take_succ_eq_append_getElem->N4,take_of_length_le->N8,filter_append->Pv,getElem_of_mem->PH,take_append_drop->Qh,foldl_append->Q4
open Nat renaming le_refl->N3,le_trans->Oo
namespace Go.Proofs.YtmkbhnholcaghaaGreatDoor
open Go.MapKept
theorem xI {x y:Int}{H:aa}{K:Bool->aa->Prop}(a:K (decide (x<y)) H):Kj.sp x y H K:=by
 refine Kj.of ?_;unfold Kj.vc;refine J6.of ?_;unfold J6.vc;exact aC (by simp) a
theorem vz {x:Int}{H:aa}{K:Bool->aa->Prop}(a:K false H):HH.sp x H K:=by
 refine HH.of ?_;unfold HH.vc;have:(x !=x)=false:=by simp
 rw[this];exact a
theorem Kt {i j:Nat}(h:i+j<4611686018427387904):NY.wrap (dF .u64 (OA.wrap (NY.wrap ((i:Int)+(j:Int)))) 1)=(((i+j)/2:Nat):Int):=by
 rw[show NY.wrap ((i:Int)+(j:Int))=(i:Int)+(j:Int) from wrap64 (by omega) (by omega)];have h1:OA.wrap ((i:Int)+(j:Int))=((i+j:Nat):Int):=by
  rw[Vp];omega
 rw[h1];have a:dF .u64 ((i+j:Nat):Int) 1=(((i+j)/2:Nat):Int):=by
  unfold dF;have:(2:Int)^(min (1:Int).toNat OA.bits)=2:=by decide
  rw[this,Int.fdiv_eq_ediv_of_nonneg _ (by omega)];omega
 rw[a,wrap64 (by omega) (by omega)]
theorem EC {L:List Int}{t:Int}{i:Nat}(hi:i<=L.length)(h1:∀k (hk:k<L.length),k<i->L[k]<t)(d:∀k (hk:k<L.length),i<=k->¬L[k]<t):(L.filter λx=>decide (x<t)).length=i:=by
 have e:L=L.take i++L.drop i:=(Qh i L).symm;rw[e,Pv,List.length_append];have a:(L.take i).filter (λx=>decide (x<t))=L.take i:=by
  rw[List.filter_eq_self];intro x c;obtain⟨k,hk,rfl⟩:=PH c;simp at hk ⊢;exact h1 k (by omega) (by omega)
 have b:(L.drop i).filter (λx=>decide (x<t))=[]:=by
  rw[List.filter_eq_nil_iff];intro x c;obtain⟨k,hk,rfl⟩:=PH c;simp at hk ⊢;have:=d (i+k) (by omega) (by omega);omega
 rw[a,b];simp;omega
theorem CM {z:Sl}{L:List Int}{t:Int}{H:aa}{K:(Int×Bool)->aa->Prop}(h:az EI hZ H z L)(hs:L.Pairwise (·<=·))(hl:L.length<2305843009213693952)
  (v:∀b,K ((((L.filter λx=>decide (x<t)).length:Nat):Int),b) H):IB.sp z t H K:=by
 refine IB.of ?_;unfold IB.vc;have C:=h.n (by decide);have m:∀a b (o:a<L.length) (e:b<L.length),a<=b->L[a]<=L[b]:=by
  intro a b o e E;rcases Nat.lt_or_ge a b with q|q
  ·exact(List.pairwise_iff_getElem.1 hs) a b o e q
  ·have:a=b:=by omega
   subst this;exact Int.le_refl _
 have rd:∀(i:Nat) (hi:i<L.length) {K':Int->Prop},K' L[i]->ae z.a λa=>(0<=(i:Int)/\(i:Int)<(z.n:Int))/\ld (ab .i64) H (a.add ((i:Int).toNat*1)) λx=>K' x:=by
  intro i hi K' hk;obtain⟨ad,o⟩:=bP.addr h.rd (by decide) (by omega);rw[o];refine⟨⟨by omega,by omega⟩,?_⟩;have:=bP.ld (c:=ab .i64) (K:=K') h.rd o (i:=i) (j:=0) (x:=L[i]) (y:=L[i]) (N0 hi) rfl (n:=i*1) rfl hk;simpa[OJ] using this
 refine⟨Nat×Nat,λg x H'=>x=((g.1:Int),(g.2:Int))/\H'=H/\g.1<=g.2/\g.2<=L.length/\(∀k (hk:k<L.length),k<g.1->L[k]<t)/\(∀k (hk:k<L.length),g.2<=k->¬L[k]<t),λg=>g.2 - g.1,⟨(0,L.length),by rw[C];rfl,rfl,Nat.zero_le _,N3 _,λk _ hk=>by simp at hk,λk hk h=>by simp at h;omega⟩,?_⟩;rintro⟨i,j⟩ _ H' ⟨rfl,rfl,w,D,p,r⟩;refine ah (λA=>?_) (λA=>?_)
 ·have s:i<j:=by simpa using A
  have hm:=Kt (i:=i) (j:=j) (by omega);simp only[hm];have f:(i+j)/2<L.length:=by omega
  refine rd _ f ?_;refine xI ?_;refine ah (λe=>?_) (λe=>?_)
  ·have d:L[(i+j)/2]<t:=by simpa using e
   refine⟨((i+j)/2+1,j),⟨?_,rfl,by omega,D,λk hk l=>?_,r⟩,?_⟩
   ·rw[aD _ (by omega)]
   ·exact VB (m k _ hk f (by simp only at l;omega)) d
   ·show j - _<j - i;simp only;omega
  ·have d:¬L[(i+j)/2]<t:=by simpa using e
   refine⟨(i,(i+j)/2),⟨rfl,rfl,by simp only;omega,by simp only;omega,p,λk hk l B=>?_⟩,?_⟩
   ·exact d (VB (m _ k f hk l) B)
   ·show _ - i<j - i;simp only;omega
 ·have s:i=j:=by
   have:¬i<j:=by simpa using A
   simp only at w;omega
  subst s;have u:=EC D p r;rw[u] at v;refine ah (λe=>?_) (λ_=>v _);have d:i<L.length:=by rw[C] at e;simpa using e
  refine rd i d ?_;refine ah (λ_=>v _) (λ_=>?_);refine rd i d ?_;refine vz ?_;exact aC rfl (v _)
theorem Fp:qY NX Dd hZ EI.size 8:=eJ (by kernel_rfl)
theorem oN:wM.size=514:=rfl
theorem ze {m z:Sl}{ws:List Wr}{ns:List Int}{H:aa}{K:Sl->aa->Prop}(d:az wM qP H m ws)(w:az EI hZ H z ns)(hlen:ns.length+ws.length<=137438953472)
  (M:∀s H',az EI hZ H' s (ns++ws.map (·.no))->Grown z s H H'->K s H'):
  aw (Sl×Int) (z,(0:Int)) H λg a h=>br (decide (a.2<(m.n:Int))) (ae m.a λA=>(0<=a.2/\a.2<(m.n:Int))/\c6 jO 514 h (A.add (a.2.toNat*514)) λ(B:Array Value)=>aI h (zc NX qP) qP λn G=>ji NX (Og qP (.pointer (some n)) (.agg B)) G λt=>ld (ab .i64) t (n.add 0) λ(C:Int)=>aI t #[(.int .i64 C)] hZ λD N=>ba ak NX (N2 #[Dd,Dd] Dd #[a.1.v,(.slice (some D) 1 1)]) N λ(s:Sl) I=>g (s,NY.wrap (a.2+(1:Int))) I) (K a.1 h):=by
 have J:=d.n (by decide);have O:=w.lt;have F:∀b,ag m b->¬ag z b:=d.apart w (by decide);refine ar ws.length (λk x h=>x.2=(k:Int)/\az EI hZ h x.1 (ns++(ws.take k).map (·.no))/\Grown z x.1 H h) ⟨rfl,by simpa using w,.refl _ _,λb j=>.inl j⟩ ?_;rintro k ⟨s,i⟩ h next hk ⟨hi,u,g5⟩ e
 simp only at hi;subst hi;simp only at u g5 e ⊢;refine ah (λo=>?_) (λo=>?_)
 ·have f:k<ws.length:=by rw[J] at o;simpa using o
  have l:az wM qP h m ws:=d.keep λb j hl=>g5.1.same b hl (F b j);obtain⟨ad,L⟩:=bP.addr l.rd (by decide) (by omega);rw[L];refine⟨⟨by omega,by omega⟩,?_⟩;have hw:ws[k]?=some ws[k]:=N0 f;refine bP.c6 (c:=jO) (y:=(wM.enc ws[k]).toArray) l.rd L hw rfl (by simp[oN]) oN.symm ?_;have p:(wM.enc ws[k]).toArray.size=514:=by simp[wM.len];rfl
  refine ax λG P Q m6=>?_;refine Q.iD (by rw[p];kernel_rfl) (by rw[p];exact jY) (by simpa using wM.one ws[k]) λt R m7 S=>?_;refine R.ld (c:=ab .i64) (i:=0) (x:=ws[k].no) rfl ?_;have T:=S.trans P;have U:az EI hZ t s (ns++(ws.take k).map (·.no)):=u.keep λb j hl=>(m7.same b (by omega) (by omega)).trans (m6.same b hl id);refine az.push (E:=EI) Fp (x:=ws[k].no) U rfl (by simp;omega) (by simp;omega) λY I V g9 _=>?_;have W:=u.lt;refine e f _ _ ⟨aD k (by omega),?_,?_⟩
  ·rw[N4 f,List.map_append,<-List.append_assoc];exact V
  ·have Z:=g5.1.size;have z2:=g9.1.size;refine⟨⟨by omega,λb j r=>?_⟩,λb j=>?_⟩
   ·refine(g9.1.same b (by omega) λX=>?_).trans ((m7.same b (by omega) (by omega)).trans ((m6.same b (by omega) id).trans (g5.1.same b j r)));rcases g5.2 b X with q|q
    ·exact r q
    ·omega
   ·rcases g9.2 b j with q|q
    ·exact g5.2 b q
    ·right;omega
 ·have f:k=ws.length:=by rw[J] at o;simp at o;omega
  subst f;refine M s h ?_ g5;simpa using u
def rM (q:Wr->Bool)(f:Fl):Fl:=⟨f.name,(f.log.filter q).foldl dM f.synced,[]⟩
theorem mT:∀(ws:List Wr) (l:List Pg) (w:Wr),w∈ws->w.page+1<=(ws.foldl dM l).length
 |[],_,_,h=>by cases h
 |a::ws,l,w,h=>by
   rcases List.mem_cons.1 h with e|h
   ·subst e;exact Oo (by rw[c7];omega) (lL ws (dM l w))
   ·exact mT ws (dM l a) w h
theorem mQ (ws:List Wr)(q:Wr->Bool)(k:Nat)(l:List Pg):(((ws.take k).filter q).foldl dM l).length<=(ws.foldl dM l).length:=by
 refine Oo (vl (ws.take k) q l l (N3 _)) ?_
 conv=>rhs;rw[<-Qh k ws,Q4]
 exact lL _ _
theorem Hz {d m:Nat}{a:FG}{f:Fl}{z:Sl}{L:List Int}{u most quota ops nx cin kp:Int}{laid down:Bool}{H:aa}{K:aa->Prop}(B:cA H a f)(hd:aj H d xi (fh m u most quota ops nx laid cin kp down))(hz:az EI hZ H z L)
  (hL:L.Pairwise (·<=·)) (bA:L.length<2305843009213693952) (hp:f.aq.length<=1048576) (c4:f.log.length<68719476736) (bB:¬a.fp d)
  (hK:∀G H',G.p=a.p->cA H' G (rM (λw=>jb kp (L.filter λx=>decide (x<w.no)).length) f)->aj H' d xi (fh m (NY.wrap (u+((rM (λw=>jb kp (L.filter λx=>decide (x<w.no)).length) f).aq.length:Int))) most quota ops nx laid cin kp down)->
   Mod (λb=>a.fp b\/b=d) H H'->(∀b,G.fp b->a.fp b\/H.size<=b)->K H'):
  ld ak H (OJ ⟨a.p,0,none⟩ 1) λ(bC:Sl)=>Dp.sp bC H λ(bD:Sl) bM=>st bM (OJ ⟨a.p,0,none⟩ 0) bD.v λU=>ld ak U (OJ ⟨a.p,0,none⟩ 2) λ(I:Sl)=>aw Int (0:Int) U λp r C=>br (decide (r<(I.n:Int))) (ae I.a λbO=>(0<=r/\r<(I.n:Int))/\c6 jO 514 C (bO.add (r.toNat*514)) λ(b0:Array Value)=>aI C (zc NX qP) qP λD b1=>ji NX (Og qP (.pointer (some D)) (.agg b0)) b1 λV=>ld (ab .i64) V (D.add 0) λ(b2:Int)=>IB.sp z b2 V λ(W:(Int×Bool)) t=>ld (ab .u64) t (OJ ⟨d,0,none⟩ 8) λ(X:Int)=>0<=(Pf W.1 (64:Int))/\br ((lH .u64 (dF .u64 X (Pf W.1 (64:Int))) (1:Int))==(1:Int)) (ld ak t (OJ ⟨a.p,0,none⟩ 0) λ(Y:Sl)=>ld (ab .i64) t (D.add 1) λ(Z:Int)=>c6 jO 512 t (D.add 2) λ(af:Array Value)=>GC.sp Y Z af t λ(b3:Sl) b4=>st b4 (OJ ⟨a.p,0,none⟩ 0) b3.v λb5=>p (NY.wrap (r+(1:Int))) b5) (p (NY.wrap (r+(1:Int))) t)) (ld ak C (OJ ⟨a.p,0,none⟩ 0) λ(an:Sl)=>Dp.sp an C λ(b6:Sl) b9=>st b9 (OJ ⟨a.p,0,none⟩ 1) b6.v λcb=>st cb (OJ ⟨a.p,0,none⟩ 2) (.slice none 0 0) λJ=>ld (ab .i64) J (OJ ⟨d,0,none⟩ 1) λ(a1:Int)=>ld ak J (OJ ⟨a.p,0,none⟩ 0) λ(a6:Sl)=>st J (OJ ⟨d,0,none⟩ 1) (.int .i64 (NY.wrap (a1+(a6.n:Int)))) λck=>K ck):=by
 have M:a.p≠d:=λe=>bB (e▸.inl rfl);have N:∀{E:Type} {En:eH E} {e:TypeId} {s:Sl} {l:List E},az En e H s l->e≠CI->∀b,ag s b->b≠a.p:=by
  intro E En e s l o ht b g eb;obtain⟨c,q⟩:=o.obj b g;rw[eb] at q;exact ht (aF B.row q).symm
 have zd:∀b,ag z b->b≠d:=λb g eb=>by
  obtain⟨c,q⟩:=hz.obj b g;rw[eb] at q;exact absurd (aF hd q) (by decide)
 have a7:=N B.log (by decide);have c5:=N B.syn (by decide);have tz:=N hz (by decide);have dk:a.p<H.size:=aA B.row;have dm:d<H.size:=aA hd;have dc:f.synced.length<=f.aq.length:=f.uu;refine B.row.ld (c:=ak) (i:=1) (x:=a.syn) rfl ?_;refine jq B.syn (by omega) λs1 H1 o1 m1 f1=>?_;have r1:=B.row.ext m1;refine r1.st (i:=0) (by simp) (by rfl) λH2 r2 m2 z2=>?_;refine r2.ld (c:=ak) (i:=2) (x:=a.log) rfl ?_;have a8:=B.log.n (by decide);have m12:Mod (λb=>b=a.p) H H2:=(Ext.mod m1).trans m2;have o2:az tN uy H2 s1 f.synced:=o1.keep λb g hl=>m2.same b hl (by have:=f1 b g;omega);obtain⟨q,hq⟩:∃q:Wr->Bool,q=λw=>jb kp (L.filter λx=>decide (x<w.no)).length:=⟨_,rfl⟩;rw[<-hq] at hK;refine ar f.log.length (λk i O=>i=(k:Int)/\∃sl,aj O a.p CI #[sl.v,a.syn.v,a.log.v]/\az tN uy O sl (((f.log.take k).filter q).foldl dM f.synced)/\Mod (λb=>b=a.p) H O/\(∀b,ag sl b->H.size<=b)) ⟨rfl,s1,(show aj H2 a.p CI #[s1.v,a.syn.v,a.log.v] from r2),by simpa using o2,m12,f1⟩ ?_;rintro k _ O next hk ⟨rfl,sl,r5,S,m5,f5⟩ A
 have z5:=m5.size;refine ah (λhc=>?_) (λhc=>?_)
 ·have v:k<f.log.length:=by rw[a8] at hc;simpa using hc
  have F:az wM qP O a.log f.log:=B.log.keep λb g hl=>m5.same b hl (a7 b g);obtain⟨ad,ha⟩:=bP.addr F.rd (by decide) (by omega);rw[ha];refine⟨⟨by omega,by omega⟩,?_⟩;have hw:f.log[k]?=some f.log[k]:=N0 v;obtain⟨w,bd⟩:∃w,w=f.log[k]:=⟨_,rfl⟩;rw[<-bd] at hw;refine bP.c6 (c:=jO) (y:=(wM.enc w).toArray) F.rd ha hw rfl (by simp[oN]) oN.symm ?_;have bl:(wM.enc w).toArray.size=514:=by simp[wM.len];rfl
  refine ax λH6 s6 r6 m6=>?_;refine r6.iD (by rw[bl];kernel_rfl) (by rw[bl];exact jY) (by simpa using wM.one w) λT r7 m7 s7=>?_;refine r7.ld (c:=ab .i64) (i:=0) (x:=w.no) rfl ?_;have n:Mod (λ_=>False) O T:=⟨by omega,λb g _=>(m7.same b (by omega) (by omega)).trans (m6.same b g id)⟩;have z7:az EI hZ T z L:=hz.keep λb g hl=>(n.same b (by omega) id).trans (m5.same b hl (tz b g));refine CM z7 hL bA λbb=>?_;have d7:aj T d xi (fh m u most quota ops nx laid cin kp down):=(hd.mod m5 (Ne.symm M)).ext n;refine d7.ld (c:=ab .u64) (i:=8) (x:=kp) rfl ?_;refine⟨by simp only;exact Int.tmod_nonneg _ (by omega),?_⟩;have bn:q w=((lH .u64 (dF .u64 kp (Pf (((L.filter λx=>decide (x<w.no)).length:Nat):Int) 64)) 1)==1):=by rw[hq];rfl
  have bs:(f.log.take (k+1)).filter q=(f.log.take k).filter q++(if q w then [w] else []):=by
   rw[N4 v,Pv,<-bd];cases cm:q w<;>simp[cm]
  have P:aj T a.p CI #[sl.v,a.syn.v,a.log.v]:=r5.ext n;have bx:az tN uy T sl (((f.log.take k).filter q).foldl dM f.synced):=S.keep λb g hl=>n.same b hl id;refine ah (λg=>?_) (λg=>?_)
  ·have Q:q w=true:=by rw[bn];exact g
   refine P.ld (c:=ak) (i:=0) (x:=sl) rfl ?_;refine r7.ld (c:=ab .i64) (i:=1) (x:=(w.page:Int)) rfl ?_;refine⟨(fY w.b.1).toArray,?_,?_⟩
   ·rw[bj];refine r7.lK (by simp[fY,w.b.2]) λj hj=>?_;simp only[wM,Nat.add_comm 2 j];simp
   ·have dn:=mT f.log f.synced w (List.mem_of_getElem? hw);have hle:=mQ f.log q k f.synced;have cx:(f.log.foldl dM f.synced).length=f.aq.length:=rfl;refine Ei (no:=w.no) (b:=w.b) bx (by omega) (by omega) λs8 H8 o8 g8=>?_;have cy:¬ag sl a.p:=λhh=>by have:=f5 _ hh;omega
    have r8:aj H8 a.p CI #[sl.v,a.syn.v,a.log.v]:=P.mod g8.1 cy;refine r8.st (i:=0) (by simp) (by rfl) λH9 r9 m9 s9=>?_;have z8:=g8.1.size;have z57:=n.size;have f8:∀b,ag s8 b->H.size<=b:=λb g=>by
     rcases g8.2 b g with h|h
     ·exact f5 b h
     ·omega
    refine A v _ _ ⟨aD k (by omega),s8,(show aj H9 a.p CI #[s8.v,a.syn.v,a.log.v] from r9),?_,?_,f8⟩
    ·rw[bs,if_pos Q,Q4];exact o8.keep λb g hl=>m9.same b hl (by have:=f8 b g;omega)
    ·refine⟨by omega,λb g hn=>(m9.same b (by omega) hn).trans ((g8.1.same b (by omega) λhh=>?_).trans ((n.same b (by omega) id).trans (m5.same b g hn)))⟩;have:=f5 b hh;omega
  ·have Q:q w=false:=by rw[bn];exact g
   refine A v _ _ ⟨aD k (by omega),sl,P,?_,m5.trans (Ext.mod n),f5⟩;rw[bs,Q];simpa using bx
 ·have v:k=f.log.length:=by rw[a8] at hc;simp at hc;omega
  rw[v,N8 (N3 _)] at S;have hle:=mQ f.log q f.log.length f.synced;rw[N8 (N3 _)] at hle;have cx:(f.log.foldl dM f.synced).length=f.aq.length:=rfl;refine r5.ld (c:=ak) (i:=0) (x:=sl) rfl ?_;refine jq S (by omega) λs6 H6 o6 m6 f6=>?_;have r6:=r5.ext m6;refine r6.st (i:=1) (by simp) (by rfl) λT r7 m7 s7=>?_;refine r7.st (i:=2) (by simp) (by rfl) λH8 r8 m8 s8=>?_;have z6:=m6.size;have cz:Mod (λb=>b=a.p) O H8:=((Ext.mod m6).trans m7).trans m8;have R:=m5.trans cz;have d8:aj H8 d xi (fh m u most quota ops nx laid cin kp down):=hd.mod R (Ne.symm M);refine d8.ld (c:=ab .i64) (i:=1) (x:=u) rfl ?_;refine r8.ld (c:=ak) (i:=0) (x:=sl) rfl ?_;refine d8.st (i:=1) (by simp[fh]) (by rfl) λH9 r9 m9 s9=>?_;have cB:=S.n (by decide);have c0:(rM q f).aq=(f.log.filter q).foldl dM f.synced:=rfl;refine hK ⟨a.p,sl,s6,Sl.mk none 0 0⟩ H9 rfl ⟨?_,?_,?_,az.nil _ _ _,?_⟩ ?_ ?_ ?_
  ·exact r8.mod m9 M
  ·refine S.keep λb g hl=>?_;have:=f5 b g;exact(m9.same b (by omega) (by omega)).trans ((m8.same b (by omega) (by omega)).trans ((m7.same b (by omega) (by omega)).trans (m6.same b hl id)))
  ·refine o6.keep λb g hl=>?_;have:=f6 b g;exact(m9.same b (by omega) (by omega)).trans ((m8.same b (by omega) (by omega)).trans (m7.same b hl (by omega)))
  ·intro b g c3;have:=f6 b c3;have:=S.lt b g;omega
  ·rw[c0,<-cB];exact r9
  ·refine⟨by omega,λb g hn=>(m9.same b (by have:=R.size;omega) λe=>hn (.inr e)).trans (R.same b g λe=>hn (.inl (.inl e)))⟩
  ·rintro b (e|g|g|⟨_,g,_⟩)
   ·exact .inl (.inl e)
   ·exact .inr (f5 b g)
   ·have:=f6 b g;right;omega
   ·cases g
end Go.Proofs.YtmkbhnholcaghaaGreatDoor
