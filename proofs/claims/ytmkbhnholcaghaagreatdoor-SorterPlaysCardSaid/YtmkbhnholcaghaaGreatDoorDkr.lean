/-
 The disk: where a number stands among sorted ones; the numbers of unsynced writes; a file behind a crash.
-/
import Derived.Test.YtmkbhnholcaghaaGreatDoorDkg
import Derived.Test.YtmkbhnholcaghaaGreatDoorDks
open Go.Addr renaming add->OR
open Go.Builtin renaming append_->Oa
open Go.Instr renaming storeAt->Ot
open Go.IntKind renaming i64->N6,u64->OI,wrap_u64->Vx
open Go.Proofs.Tryz renaming prog->N5
open Int renaming tmod->Pq,lt_of_le_of_lt->VJ
open List renaming getElem?_eq_getElem->N8,take_succ_eq_append_getElem->Oc,take_of_length_le->Og,filter_append->PD,getElem_of_mem->PQ,take_append_drop->Qq,foldl_append->Re
open Nat renaming le_refl->Ob,le_trans->Oo
namespace Go.Proofs.YtmkbhnholcaghaaGreatDoor
open Go.MapKept
theorem xM {x y:Int}{H:aa}{K:Bool->aa->Prop}(a:K (decide (x<y)) H):Je.sp x y H K:=by
 refine Je.of ?_;unfold Je.vc;refine Jy.of ?_;unfold Jy.vc;exact aC (by simp) a
theorem vE {x:Int}{H:aa}{K:Bool->aa->Prop}(a:K false H):I8.sp x H K:=by
 refine I8.of ?_;unfold I8.vc;have:(x !=x)=false:=by simp
 rw[this];exact a
theorem KA {i j:Nat}(h:i+j<4611686018427387904):N6.wrap (dG .u64 (OI.wrap (N6.wrap ((i:Int)+(j:Int)))) 1)=(((i+j)/2:Nat):Int):=by
 rw[show N6.wrap ((i:Int)+(j:Int))=(i:Int)+(j:Int) from wrap64 (by omega) (by omega)];have h1:OI.wrap ((i:Int)+(j:Int))=((i+j:Nat):Int):=by
  rw[Vx];omega
 rw[h1];have a:dG .u64 ((i+j:Nat):Int) 1=(((i+j)/2:Nat):Int):=by
  unfold dG;have:(2:Int)^(min (1:Int).toNat OI.bits)=2:=by decide
  rw[this,Int.fdiv_eq_ediv_of_nonneg _ (by omega)];omega
 rw[a,wrap64 (by omega) (by omega)]
theorem EH {L:List Int}{t:Int}{i:Nat}(hi:i<=L.length)(h1:∀k (hk:k<L.length),k<i->L[k]<t)(d:∀k (hk:k<L.length),i<=k->¬L[k]<t):(L.filter λx=>decide (x<t)).length=i:=by
 have e:L=L.take i++L.drop i:=(Qq i L).symm;rw[e,PD,List.length_append];have a:(L.take i).filter (λx=>decide (x<t))=L.take i:=by
  rw[List.filter_eq_self];intro x c;obtain⟨k,hk,rfl⟩:=PQ c;simp at hk ⊢;exact h1 k (by omega) (by omega)
 have b:(L.drop i).filter (λx=>decide (x<t))=[]:=by
  rw[List.filter_eq_nil_iff];intro x c;obtain⟨k,hk,rfl⟩:=PQ c;simp at hk ⊢;have:=d (i+k) (by omega) (by omega);omega
 rw[a,b];simp;omega
theorem CP {z:Sl}{L:List Int}{t:Int}{H:aa}{K:(Int×Bool)->aa->Prop}(h:az EI ib H z L)(hs:L.Pairwise (·<=·))(hl:L.length<2305843009213693952)
  (v:∀b,K ((((L.filter λx=>decide (x<t)).length:Nat):Int),b) H):IK.sp z t H K:=by
 refine IK.of ?_;unfold IK.vc;have C:=h.n (by decide);have m:∀a b (o:a<L.length) (e:b<L.length),a<=b->L[a]<=L[b]:=by
  intro a b o e E;rcases Nat.lt_or_ge a b with q|q
  ·exact(List.pairwise_iff_getElem.1 hs) a b o e q
  ·have:a=b:=by omega
   subst this;exact Int.le_refl _
 have rd:∀(i:Nat) (hi:i<L.length) {K':Int->Prop},K' L[i]->ae z.a λa=>(0<=(i:Int)/\(i:Int)<(z.n:Int))/\ld (ab .i64) H (a.add ((i:Int).toNat*1)) λx=>K' x:=by
  intro i hi K' hk;obtain⟨ad,o⟩:=bP.addr h.rd (by decide) (by omega);rw[o];refine⟨⟨by omega,by omega⟩,?_⟩;have:=bP.ld (c:=ab .i64) (K:=K') h.rd o (i:=i) (j:=0) (x:=L[i]) (y:=L[i]) (N8 hi) rfl (n:=i*1) rfl hk;simpa[OR] using this
 refine⟨Nat×Nat,λg x H'=>x=((g.1:Int),(g.2:Int))/\H'=H/\g.1<=g.2/\g.2<=L.length/\(∀k (hk:k<L.length),k<g.1->L[k]<t)/\(∀k (hk:k<L.length),g.2<=k->¬L[k]<t),λg=>g.2 - g.1,⟨(0,L.length),by rw[C];rfl,rfl,Nat.zero_le _,Ob _,λk _ hk=>by simp at hk,λk hk h=>by simp at h;omega⟩,?_⟩;rintro⟨i,j⟩ _ H' ⟨rfl,rfl,w,D,p,r⟩;refine ah (λA=>?_) (λA=>?_)
 ·have s:i<j:=by simpa using A
  have hm:=KA (i:=i) (j:=j) (by omega);simp only[hm];have f:(i+j)/2<L.length:=by omega
  refine rd _ f ?_;refine xM ?_;refine ah (λe=>?_) (λe=>?_)
  ·have d:L[(i+j)/2]<t:=by simpa using e
   refine⟨((i+j)/2+1,j),⟨?_,rfl,by omega,D,λk hk l=>?_,r⟩,?_⟩
   ·rw[aD _ (by omega)]
   ·exact VJ (m k _ hk f (by simp only at l;omega)) d
   ·show j - _<j - i;simp only;omega
  ·have d:¬L[(i+j)/2]<t:=by simpa using e
   refine⟨(i,(i+j)/2),⟨rfl,rfl,by simp only;omega,by simp only;omega,p,λk hk l B=>?_⟩,?_⟩
   ·exact d (VJ (m _ k f hk l) B)
   ·show _ - i<j - i;simp only;omega
 ·have s:i=j:=by
   have:¬i<j:=by simpa using A
   simp only at w;omega
  subst s;have u:=EH D p r;rw[u] at v;refine ah (λe=>?_) (λ_=>v _);have d:i<L.length:=by rw[C] at e;simpa using e
  refine rd i d ?_;refine ah (λ_=>v _) (λ_=>?_);refine rd i d ?_;refine vE ?_;exact aC rfl (v _)
theorem Fv:qZ N5 Dh ib EI.size 8:=eK (by kernel_rfl)
theorem oP:wQ.size=514:=rfl
theorem zk {m z:Sl}{ws:List Wr}{ns:List Int}{H:aa}{K:Sl->aa->Prop}(d:az wQ qR H m ws)(w:az EI ib H z ns)(hlen:ns.length+ws.length<=137438953472)
  (M:∀s H',az EI ib H' s (ns++ws.map (·.no))->Grown z s H H'->K s H'):
  aw (Sl×Int) (z,(0:Int)) H λg a h=>br (decide (a.2<(m.n:Int))) (ae m.a λA=>(0<=a.2/\a.2<(m.n:Int))/\c8 jQ 514 h (A.add (a.2.toNat*514)) λ(B:Array Value)=>aI h (zc N5 qR) qR λn G=>jk N5 (Ot qR (.pointer (some n)) (.agg B)) G λt=>ld (ab .i64) t (n.add 0) λ(C:Int)=>aI t #[(.int .i64 C)] ib λD N=>ba ak N5 (Oa #[Dh,Dh] Dh #[a.1.v,(.slice (some D) 1 1)]) N λ(s:Sl) I=>g (s,N6.wrap (a.2+(1:Int))) I) (K a.1 h):=by
 have J:=d.n (by decide);have O:=w.lt;have F:∀b,ag m b->¬ag z b:=d.apart w (by decide);refine ar ws.length (λk x h=>x.2=(k:Int)/\az EI ib h x.1 (ns++(ws.take k).map (·.no))/\Grown z x.1 H h) ⟨rfl,by simpa using w,.refl _ _,λb j=>.inl j⟩ ?_;rintro k ⟨s,i⟩ h next hk ⟨hi,u,g5⟩ e
 simp only at hi;subst hi;simp only at u g5 e ⊢;refine ah (λo=>?_) (λo=>?_)
 ·have f:k<ws.length:=by rw[J] at o;simpa using o
  have l:az wQ qR h m ws:=d.keep λb j hl=>g5.1.same b hl (F b j);obtain⟨ad,L⟩:=bP.addr l.rd (by decide) (by omega);rw[L];refine⟨⟨by omega,by omega⟩,?_⟩;have hw:ws[k]?=some ws[k]:=N8 f;refine bP.c8 (c:=jQ) (y:=(wQ.enc ws[k]).toArray) l.rd L hw rfl (by simp[oP]) oP.symm ?_;have p:(wQ.enc ws[k]).toArray.size=514:=by simp[wQ.len];rfl
  refine ax λG P Q m6=>?_;refine Q.iF (by rw[p];kernel_rfl) (by rw[p];exact j3) (by simpa using wQ.one ws[k]) λt R m7 S=>?_;refine R.ld (c:=ab .i64) (i:=0) (x:=ws[k].no) rfl ?_;have T:=S.trans P;have U:az EI ib t s (ns++(ws.take k).map (·.no)):=u.keep λb j hl=>(m7.same b (by omega) (by omega)).trans (m6.same b hl id);refine az.push (E:=EI) Fv (x:=ws[k].no) U rfl (by simp;omega) (by simp;omega) λY I V g9 _=>?_;have W:=u.lt;refine e f _ _ ⟨aD k (by omega),?_,?_⟩
  ·rw[Oc f,List.map_append,<-List.append_assoc];exact V
  ·have Z:=g5.1.size;have z2:=g9.1.size;refine⟨⟨by omega,λb j r=>?_⟩,λb j=>?_⟩
   ·refine(g9.1.same b (by omega) λX=>?_).trans ((m7.same b (by omega) (by omega)).trans ((m6.same b (by omega) id).trans (g5.1.same b j r)));rcases g5.2 b X with q|q
    ·exact r q
    ·omega
   ·rcases g9.2 b j with q|q
    ·exact g5.2 b q
    ·right;omega
 ·have f:k=ws.length:=by rw[J] at o;simp at o;omega
  subst f;refine M s h ?_ g5;simpa using u
def rP (q:Wr->Bool)(f:Fl):Fl:=⟨f.name,(f.log.filter q).foldl dN f.synced,[]⟩
theorem mV:∀(ws:List Wr) (l:List Pg) (w:Wr),w∈ws->w.page+1<=(ws.foldl dN l).length
 |[],_,_,h=>by cases h
 |a::ws,l,w,h=>by
   rcases List.mem_cons.1 h with e|h
   ·subst e;exact Oo (by rw[c9];omega) (lN ws (dN l w))
   ·exact mV ws (dN l a) w h
theorem mS (ws:List Wr)(q:Wr->Bool)(k:Nat)(l:List Pg):(((ws.take k).filter q).foldl dN l).length<=(ws.foldl dN l).length:=by
 refine Oo (vn (ws.take k) q l l (Ob _)) ?_
 conv=>rhs;rw[<-Qq k ws,Re]
 exact lN _ _
theorem HH {d m:Nat}{a:FG}{f:Fl}{z:Sl}{L:List Int}{u most quota ops nx cin kp:Int}{laid down:Bool}{H:aa}{K:aa->Prop}(B:cC H a f)(hd:aj H d xp (fi m u most quota ops nx laid cin kp down))(hz:az EI ib H z L)
  (hL:L.Pairwise (·<=·)) (bA:L.length<2305843009213693952) (hp:f.aq.length<=1048576) (c3:f.log.length<68719476736) (bB:¬a.fp d)
  (hK:∀G H',G.p=a.p->cC H' G (rP (λw=>jd kp (L.filter λx=>decide (x<w.no)).length) f)->aj H' d xp (fi m (N6.wrap (u+((rP (λw=>jd kp (L.filter λx=>decide (x<w.no)).length) f).aq.length:Int))) most quota ops nx laid cin kp down)->
   Mod (λb=>a.fp b\/b=d) H H'->(∀b,G.fp b->a.fp b\/H.size<=b)->K H'):
  ld ak H (OR ⟨a.p,0,none⟩ 1) λ(bC:Sl)=>Du.sp bC H λ(bD:Sl) bM=>st bM (OR ⟨a.p,0,none⟩ 0) bD.v λU=>ld ak U (OR ⟨a.p,0,none⟩ 2) λ(I:Sl)=>aw Int (0:Int) U λp r C=>br (decide (r<(I.n:Int))) (ae I.a λbO=>(0<=r/\r<(I.n:Int))/\c8 jQ 514 C (bO.add (r.toNat*514)) λ(b0:Array Value)=>aI C (zc N5 qR) qR λD b1=>jk N5 (Ot qR (.pointer (some D)) (.agg b0)) b1 λV=>ld (ab .i64) V (D.add 0) λ(b2:Int)=>IK.sp z b2 V λ(W:(Int×Bool)) t=>ld (ab .u64) t (OR ⟨d,0,none⟩ 8) λ(X:Int)=>0<=(Pq W.1 (64:Int))/\br ((lJ .u64 (dG .u64 X (Pq W.1 (64:Int))) (1:Int))==(1:Int)) (ld ak t (OR ⟨a.p,0,none⟩ 0) λ(Y:Sl)=>ld (ab .i64) t (D.add 1) λ(Z:Int)=>c8 jQ 512 t (D.add 2) λ(af:Array Value)=>GB.sp Y Z af t λ(b3:Sl) b4=>st b4 (OR ⟨a.p,0,none⟩ 0) b3.v λb5=>p (N6.wrap (r+(1:Int))) b5) (p (N6.wrap (r+(1:Int))) t)) (ld ak C (OR ⟨a.p,0,none⟩ 0) λ(an:Sl)=>Du.sp an C λ(b6:Sl) b7=>st b7 (OR ⟨a.p,0,none⟩ 1) b6.v λb9=>st b9 (OR ⟨a.p,0,none⟩ 2) (.slice none 0 0) λJ=>ld (ab .i64) J (OR ⟨d,0,none⟩ 1) λ(a1:Int)=>ld ak J (OR ⟨a.p,0,none⟩ 0) λ(a6:Sl)=>st J (OR ⟨d,0,none⟩ 1) (.int .i64 (N6.wrap (a1+(a6.n:Int)))) λcb=>K cb):=by
 have M:a.p≠d:=λe=>bB (e▸.inl rfl);have N:∀{E:Type} {En:eJ E} {e:TypeId} {s:Sl} {l:List E},az En e H s l->e≠CL->∀b,ag s b->b≠a.p:=by
  intro E En e s l o ht b g eb;obtain⟨c,q⟩:=o.obj b g;rw[eb] at q;exact ht (aF B.row q).symm
 have zd:∀b,ag z b->b≠d:=λb g eb=>by
  obtain⟨c,q⟩:=hz.obj b g;rw[eb] at q;exact absurd (aF hd q) (by decide)
 have a7:=N B.log (by decide);have c4:=N B.syn (by decide);have tz:=N hz (by decide);have dc:a.p<H.size:=aA B.row;have dk:d<H.size:=aA hd;have c5:f.synced.length<=f.aq.length:=f.uv;refine B.row.ld (c:=ak) (i:=1) (x:=a.syn) rfl ?_;refine js B.syn (by omega) λs1 H1 o1 m1 f1=>?_;have r1:=B.row.ext m1;refine r1.st (i:=0) (by simp) (by rfl) λH2 r2 m2 z2=>?_;refine r2.ld (c:=ak) (i:=2) (x:=a.log) rfl ?_;have a8:=B.log.n (by decide);have m12:Mod (λb=>b=a.p) H H2:=(Ext.mod m1).trans m2;have o2:az tP uA H2 s1 f.synced:=o1.keep λb g hl=>m2.same b hl (by have:=f1 b g;omega);obtain⟨q,hq⟩:∃q:Wr->Bool,q=λw=>jd kp (L.filter λx=>decide (x<w.no)).length:=⟨_,rfl⟩;rw[<-hq] at hK;refine ar f.log.length (λk i O=>i=(k:Int)/\∃sl,aj O a.p CL #[sl.v,a.syn.v,a.log.v]/\az tP uA O sl (((f.log.take k).filter q).foldl dN f.synced)/\Mod (λb=>b=a.p) H O/\(∀b,ag sl b->H.size<=b)) ⟨rfl,s1,(show aj H2 a.p CL #[s1.v,a.syn.v,a.log.v] from r2),by simpa using o2,m12,f1⟩ ?_;rintro k _ O next hk ⟨rfl,sl,r5,S,m5,f5⟩ A
 have z5:=m5.size;refine ah (λhc=>?_) (λhc=>?_)
 ·have v:k<f.log.length:=by rw[a8] at hc;simpa using hc
  have F:az wQ qR O a.log f.log:=B.log.keep λb g hl=>m5.same b hl (a7 b g);obtain⟨ad,ha⟩:=bP.addr F.rd (by decide) (by omega);rw[ha];refine⟨⟨by omega,by omega⟩,?_⟩;have hw:f.log[k]?=some f.log[k]:=N8 v;obtain⟨w,bd⟩:∃w,w=f.log[k]:=⟨_,rfl⟩;rw[<-bd] at hw;refine bP.c8 (c:=jQ) (y:=(wQ.enc w).toArray) F.rd ha hw rfl (by simp[oP]) oP.symm ?_;have bl:(wQ.enc w).toArray.size=514:=by simp[wQ.len];rfl
  refine ax λH6 s6 r6 m6=>?_;refine r6.iF (by rw[bl];kernel_rfl) (by rw[bl];exact j3) (by simpa using wQ.one w) λT r7 m7 s7=>?_;refine r7.ld (c:=ab .i64) (i:=0) (x:=w.no) rfl ?_;have n:Mod (λ_=>False) O T:=⟨by omega,λb g _=>(m7.same b (by omega) (by omega)).trans (m6.same b g id)⟩;have z7:az EI ib T z L:=hz.keep λb g hl=>(n.same b (by omega) id).trans (m5.same b hl (tz b g));refine CP z7 hL bA λbb=>?_;have d7:aj T d xp (fi m u most quota ops nx laid cin kp down):=(hd.mod m5 (Ne.symm M)).ext n;refine d7.ld (c:=ab .u64) (i:=8) (x:=kp) rfl ?_;refine⟨by simp only;exact Int.tmod_nonneg _ (by omega),?_⟩;have bn:q w=((lJ .u64 (dG .u64 kp (Pq (((L.filter λx=>decide (x<w.no)).length:Nat):Int) 64)) 1)==1):=by rw[hq];rfl
  have bs:(f.log.take (k+1)).filter q=(f.log.take k).filter q++(if q w then [w] else []):=by
   rw[Oc v,PD,<-bd];cases ck:q w<;>simp[ck]
  have P:aj T a.p CL #[sl.v,a.syn.v,a.log.v]:=r5.ext n;have bx:az tP uA T sl (((f.log.take k).filter q).foldl dN f.synced):=S.keep λb g hl=>n.same b hl id;refine ah (λg=>?_) (λg=>?_)
  ·have Q:q w=true:=by rw[bn];exact g
   refine P.ld (c:=ak) (i:=0) (x:=sl) rfl ?_;refine r7.ld (c:=ab .i64) (i:=1) (x:=(w.page:Int)) rfl ?_;refine⟨(fZ w.b.1).toArray,?_,?_⟩
   ·rw[bk];refine r7.lM (by simp[fZ,w.b.2]) λj hj=>?_;simp only[wQ,Nat.add_comm 2 j];simp
   ·have dm:=mV f.log f.synced w (List.mem_of_getElem? hw);have hle:=mS f.log q k f.synced;have cm:(f.log.foldl dN f.synced).length=f.aq.length:=rfl;refine Ep (no:=w.no) (b:=w.b) bx (by omega) (by omega) λs8 H8 o8 g8=>?_;have cx:¬ag sl a.p:=λhh=>by have:=f5 _ hh;omega
    have r8:aj H8 a.p CL #[sl.v,a.syn.v,a.log.v]:=P.mod g8.1 cx;refine r8.st (i:=0) (by simp) (by rfl) λH9 r9 m9 s9=>?_;have z8:=g8.1.size;have z57:=n.size;have f8:∀b,ag s8 b->H.size<=b:=λb g=>by
     rcases g8.2 b g with h|h
     ·exact f5 b h
     ·omega
    refine A v _ _ ⟨aD k (by omega),s8,(show aj H9 a.p CL #[s8.v,a.syn.v,a.log.v] from r9),?_,?_,f8⟩
    ·rw[bs,if_pos Q,Re];exact o8.keep λb g hl=>m9.same b hl (by have:=f8 b g;omega)
    ·refine⟨by omega,λb g hn=>(m9.same b (by omega) hn).trans ((g8.1.same b (by omega) λhh=>?_).trans ((n.same b (by omega) id).trans (m5.same b g hn)))⟩;have:=f5 b hh;omega
  ·have Q:q w=false:=by rw[bn];exact g
   refine A v _ _ ⟨aD k (by omega),sl,P,?_,m5.trans (Ext.mod n),f5⟩;rw[bs,Q];simpa using bx
 ·have v:k=f.log.length:=by rw[a8] at hc;simp at hc;omega
  rw[v,Og (Ob _)] at S;have hle:=mS f.log q f.log.length f.synced;rw[Og (Ob _)] at hle;have cm:(f.log.foldl dN f.synced).length=f.aq.length:=rfl;refine r5.ld (c:=ak) (i:=0) (x:=sl) rfl ?_;refine js S (by omega) λs6 H6 o6 m6 f6=>?_;have r6:=r5.ext m6;refine r6.st (i:=1) (by simp) (by rfl) λT r7 m7 s7=>?_;refine r7.st (i:=2) (by simp) (by rfl) λH8 r8 m8 s8=>?_;have z6:=m6.size;have cy:Mod (λb=>b=a.p) O H8:=((Ext.mod m6).trans m7).trans m8;have R:=m5.trans cy;have d8:aj H8 d xp (fi m u most quota ops nx laid cin kp down):=hd.mod R (Ne.symm M);refine d8.ld (c:=ab .i64) (i:=1) (x:=u) rfl ?_;refine r8.ld (c:=ak) (i:=0) (x:=sl) rfl ?_;refine d8.st (i:=1) (by simp[fi]) (by rfl) λH9 r9 m9 s9=>?_;have cz:=S.n (by decide);have cB:(rP q f).aq=(f.log.filter q).foldl dN f.synced:=rfl;refine hK ⟨a.p,sl,s6,Sl.mk none 0 0⟩ H9 rfl ⟨?_,?_,?_,az.nil _ _ _,?_⟩ ?_ ?_ ?_
  ·exact r8.mod m9 M
  ·refine S.keep λb g hl=>?_;have:=f5 b g;exact(m9.same b (by omega) (by omega)).trans ((m8.same b (by omega) (by omega)).trans ((m7.same b (by omega) (by omega)).trans (m6.same b hl id)))
  ·refine o6.keep λb g hl=>?_;have:=f6 b g;exact(m9.same b (by omega) (by omega)).trans ((m8.same b (by omega) (by omega)).trans (m7.same b hl (by omega)))
  ·intro b g c0;have:=f6 b c0;have:=S.lt b g;omega
  ·rw[cB,<-cz];exact r9
  ·refine⟨by omega,λb g hn=>(m9.same b (by have:=R.size;omega) λe=>hn (.inr e)).trans (R.same b g λe=>hn (.inl (.inl e)))⟩
  ·rintro b (e|g|g|⟨_,g,_⟩)
   ·exact .inl (.inl e)
   ·exact .inr (f5 b g)
   ·have:=f6 b g;right;omega
   ·cases g
end Go.Proofs.YtmkbhnholcaghaaGreatDoor
