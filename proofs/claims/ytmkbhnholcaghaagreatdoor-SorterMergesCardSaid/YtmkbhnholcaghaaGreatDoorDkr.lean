/-
 The disk: where a number stands among sorted ones; the numbers of unsynced writes; a file behind a crash.
-/
import Derived.Test.YtmkbhnholcaghaaGreatDoorDkg
import Derived.Test.YtmkbhnholcaghaaGreatDoorDks
open Go.Addr renaming add->O4
open Go.Builtin renaming append_->Oq
open Go.Instr renaming storeAt->OI
open Go.IntKind renaming i64->Ol,u64->OW,wrap_u64->VL
open Go.Proofs.Tryz renaming prog->Oj
open Int renaming tmod->PE,lt_of_le_of_lt->VX
open List renaming getElem?_eq_getElem->On,take_succ_eq_append_getElem->Ou,take_of_length_le->OA,filter_append->PT,getElem_of_mem->Qk,take_append_drop->QF,foldl_append->Rs
open Nat renaming le_refl->Ot,le_trans->OE
namespace Go.Proofs.YtmkbhnholcaghaaGreatDoor
open Go.MapKept
theorem xV {x y:Int}{H:aa}{K:Bool->aa->Prop}(a:K (decide (x<y)) H):Jj.sp x y H K:=by
 refine Jj.of ?_;unfold Jj.vc;refine JD.of ?_;unfold JD.vc;exact aC (by simp) a
theorem vM {x:Int}{H:aa}{K:Bool->aa->Prop}(a:K false H):Jd.sp x H K:=by
 refine Jd.of ?_;unfold Jd.vc;have:(x !=x)=false:=by simp
 rw[this];exact a
theorem KG {i j:Nat}(h:i+j<4611686018427387904):Ol.wrap (dI .u64 (OW.wrap (Ol.wrap ((i:Int)+(j:Int)))) 1)=(((i+j)/2:Nat):Int):=by
 rw[show Ol.wrap ((i:Int)+(j:Int))=(i:Int)+(j:Int) from wrap64 (by omega) (by omega)];have h1:OW.wrap ((i:Int)+(j:Int))=((i+j:Nat):Int):=by
  rw[VL];omega
 rw[h1];have a:dI .u64 ((i+j:Nat):Int) 1=(((i+j)/2:Nat):Int):=by
  unfold dI;have:(2:Int)^(min (1:Int).toNat OW.bits)=2:=by decide
  rw[this,Int.fdiv_eq_ediv_of_nonneg _ (by omega)];omega
 rw[a,wrap64 (by omega) (by omega)]
theorem EX {L:List Int}{t:Int}{i:Nat}(hi:i<=L.length)(h1:∀k (hk:k<L.length),k<i->L[k]<t)(d:∀k (hk:k<L.length),i<=k->¬L[k]<t):(L.filter λx=>decide (x<t)).length=i:=by
 have e:L=L.take i++L.drop i:=(QF i L).symm;rw[e,PT,List.length_append];have a:(L.take i).filter (λx=>decide (x<t))=L.take i:=by
  rw[List.filter_eq_self];intro x c;obtain⟨k,hk,rfl⟩:=Qk c;simp at hk ⊢;exact h1 k (by omega) (by omega)
 have b:(L.drop i).filter (λx=>decide (x<t))=[]:=by
  rw[List.filter_eq_nil_iff];intro x c;obtain⟨k,hk,rfl⟩:=Qk c;simp at hk ⊢;have:=d (i+k) (by omega) (by omega);omega
 rw[a,b];simp;omega
theorem C4 {z:Sl}{L:List Int}{t:Int}{H:aa}{K:(Int×Bool)->aa->Prop}(h:az EI iH H z L)(hs:L.Pairwise (·<=·))(hl:L.length<2305843009213693952)
  (v:∀b,K ((((L.filter λx=>decide (x<t)).length:Nat):Int),b) H):IS.sp z t H K:=by
 refine IS.of ?_;unfold IS.vc;have C:=h.n (by decide);have m:∀a b (o:a<L.length) (e:b<L.length),a<=b->L[a]<=L[b]:=by
  intro a b o e E;rcases Nat.lt_or_ge a b with q|q
  ·exact(List.pairwise_iff_getElem.1 hs) a b o e q
  ·have:a=b:=by omega
   subst this;exact Int.le_refl _
 have rd:∀(i:Nat) (hi:i<L.length) {K':Int->Prop},K' L[i]->ae z.a λa=>(0<=(i:Int)/\(i:Int)<(z.n:Int))/\ld (ab .i64) H (a.add ((i:Int).toNat*1)) λx=>K' x:=by
  intro i hi K' hk;obtain⟨ad,o⟩:=bQ.addr h.rd (by decide) (by omega);rw[o];refine⟨⟨by omega,by omega⟩,?_⟩;have:=bQ.ld (c:=ab .i64) (K:=K') h.rd o (i:=i) (j:=0) (x:=L[i]) (y:=L[i]) (On hi) rfl (n:=i*1) rfl hk;simpa[O4] using this
 refine⟨Nat×Nat,λg x H'=>x=((g.1:Int),(g.2:Int))/\H'=H/\g.1<=g.2/\g.2<=L.length/\(∀k (hk:k<L.length),k<g.1->L[k]<t)/\(∀k (hk:k<L.length),g.2<=k->¬L[k]<t),λg=>g.2 - g.1,⟨(0,L.length),by rw[C];rfl,rfl,Nat.zero_le _,Ot _,λk _ hk=>by simp at hk,λk hk h=>by simp at h;omega⟩,?_⟩;rintro⟨i,j⟩ _ H' ⟨rfl,rfl,w,D,p,r⟩;refine ag (λA=>?_) (λA=>?_)
 ·have s:i<j:=by simpa using A
  have hm:=KG (i:=i) (j:=j) (by omega);simp only[hm];have f:(i+j)/2<L.length:=by omega
  refine rd _ f ?_;refine xV ?_;refine ag (λe=>?_) (λe=>?_)
  ·have d:L[(i+j)/2]<t:=by simpa using e
   refine⟨((i+j)/2+1,j),⟨?_,rfl,by omega,D,λk hk l=>?_,r⟩,?_⟩
   ·rw[aD _ (by omega)]
   ·exact VX (m k _ hk f (by simp only at l;omega)) d
   ·show j - _<j - i;simp only;omega
  ·have d:¬L[(i+j)/2]<t:=by simpa using e
   refine⟨(i,(i+j)/2),⟨rfl,rfl,by simp only;omega,by simp only;omega,p,λk hk l B=>?_⟩,?_⟩
   ·exact d (VX (m _ k f hk l) B)
   ·show _ - i<j - i;simp only;omega
 ·have s:i=j:=by
   have:¬i<j:=by simpa using A
   simp only at w;omega
  subst s;have u:=EX D p r;rw[u] at v;refine ag (λe=>?_) (λ_=>v _);have d:i<L.length:=by rw[C] at e;simpa using e
  refine rd i d ?_;refine ag (λ_=>v _) (λ_=>?_);refine rd i d ?_;refine vM ?_;exact aC rfl (v _)
theorem FI:rq Oj y9 iH EI.size 8:=eL (by kernel_rfl)
theorem oW:w5.size=514:=rfl
theorem zv {m z:Sl}{ws:List Wr}{ns:List Int}{H:aa}{K:Sl->aa->Prop}(d:az w5 qZ H m ws)(w:az EI iH H z ns)(hlen:ns.length+ws.length<=137438953472)
  (M:∀s H',az EI iH H' s (ns++ws.map (·.no))->Grown z s H H'->K s H'):
  ax (Sl×Int) (z,(0:Int)) H λg a h=>br (decide (a.2<(m.n:Int))) (ae m.a λA=>(0<=a.2/\a.2<(m.n:Int))/\c9 jU 514 h (A.add (a.2.toNat*514)) λ(B:Array Value)=>aJ h (zc Oj qZ) qZ λn G=>jo Oj (OI qZ (.pointer (some n)) (.agg B)) G λt=>ld (ab .i64) t (n.add 0) λ(C:Int)=>aJ t #[(.int .i64 C)] iH λD N=>bf ak Oj (Oq #[y9,y9] y9 #[a.1.v,(.slice (some D) 1 1)]) N λ(s:Sl) I=>g (s,Ol.wrap (a.2+(1:Int))) I) (K a.1 h):=by
 have J:=d.n (by decide);have O:=w.lt;have F:∀b,ah m b->¬ah z b:=d.apart w (by decide);refine ar ws.length (λk x h=>x.2=(k:Int)/\az EI iH h x.1 (ns++(ws.take k).map (·.no))/\Grown z x.1 H h) ⟨rfl,by simpa using w,.refl _ _,λb j=>.inl j⟩ ?_;rintro k ⟨s,i⟩ h next hk ⟨hi,u,g5⟩ e
 simp only at hi;subst hi;simp only at u g5 e ⊢;refine ag (λo=>?_) (λo=>?_)
 ·have f:k<ws.length:=by rw[J] at o;simpa using o
  have l:az w5 qZ h m ws:=d.keep λb j hl=>g5.1.same b hl (F b j);obtain⟨ad,L⟩:=bQ.addr l.rd (by decide) (by omega);rw[L];refine⟨⟨by omega,by omega⟩,?_⟩;have hw:ws[k]?=some ws[k]:=On f;refine bQ.c9 (c:=jU) (y:=(w5.enc ws[k]).toArray) l.rd L hw rfl (by simp[oW]) oW.symm ?_;have p:(w5.enc ws[k]).toArray.size=514:=by simp[w5.len];rfl
  refine av λG P Q m6=>?_;refine Q.iI (by rw[p];kernel_rfl) (by rw[p];exact ke) (by simpa using w5.one ws[k]) λt R m7 S=>?_;refine R.ld (c:=ab .i64) (i:=0) (x:=ws[k].no) rfl ?_;have T:=S.trans P;have U:az EI iH t s (ns++(ws.take k).map (·.no)):=u.keep λb j hl=>(m7.same b (by omega) (by omega)).trans (m6.same b hl id);refine az.push (E:=EI) FI (x:=ws[k].no) U rfl (by simp;omega) (by simp;omega) λY I V g9 _=>?_;have W:=u.lt;refine e f _ _ ⟨aD k (by omega),?_,?_⟩
  ·rw[Ou f,List.map_append,<-List.append_assoc];exact V
  ·have Z:=g5.1.size;have z2:=g9.1.size;refine⟨⟨by omega,λb j r=>?_⟩,λb j=>?_⟩
   ·refine(g9.1.same b (by omega) λX=>?_).trans ((m7.same b (by omega) (by omega)).trans ((m6.same b (by omega) id).trans (g5.1.same b j r)));rcases g5.2 b X with q|q
    ·exact r q
    ·omega
   ·rcases g9.2 b j with q|q
    ·exact g5.2 b q
    ·right;omega
 ·have f:k=ws.length:=by rw[J] at o;simp at o;omega
  subst f;refine M s h ?_ g5;simpa using u
def rZ (q:Wr->Bool)(f:Fl):Fl:=⟨f.name,(f.log.filter q).foldl dP f.synced,[]⟩
theorem nj:∀(ws:List Wr) (l:List Pg) (w:Wr),w∈ws->w.page+1<=(ws.foldl dP l).length
 |[],_,_,h=>by cases h
 |a::ws,l,w,h=>by
   rcases List.mem_cons.1 h with e|h
   ·subst e;exact OE (by rw[da];omega) (lU ws (dP l w))
   ·exact nj ws (dP l a) w h
theorem ng (ws:List Wr)(q:Wr->Bool)(k:Nat)(l:List Pg):(((ws.take k).filter q).foldl dP l).length<=(ws.foldl dP l).length:=by
 refine OE (vz (ws.take k) q l l (Ot _)) ?_
 conv=>rhs;rw[<-QF k ws,Rs]
 exact lU _ _
theorem HO {d m:Nat}{a:FG}{f:Fl}{z:Sl}{L:List Int}{u most quota ops nx cin kp:Int}{laid down:Bool}{H:aa}{K:aa->Prop}(B:cD H a f)(hd:aj H d xB (fm m u most quota ops nx laid cin kp down))(hz:az EI iH H z L)
  (hL:L.Pairwise (·<=·)) (bA:L.length<2305843009213693952) (hp:f.aq.length<=1048576) (c0:f.log.length<68719476736) (bB:¬a.fp d)
  (hK:∀G H',G.p=a.p->cD H' G (rZ (λw=>jh kp (L.filter λx=>decide (x<w.no)).length) f)->aj H' d xB (fm m (Ol.wrap (u+((rZ (λw=>jh kp (L.filter λx=>decide (x<w.no)).length) f).aq.length:Int))) most quota ops nx laid cin kp down)->
   Mod (λb=>a.fp b\/b=d) H H'->(∀b,G.fp b->a.fp b\/H.size<=b)->K H'):
  ld ak H (O4 ⟨a.p,0,none⟩ 1) λ(bC:Sl)=>DI.sp bC H λ(bD:Sl) bM=>st bM (O4 ⟨a.p,0,none⟩ 0) bD.v λU=>ld ak U (O4 ⟨a.p,0,none⟩ 2) λ(I:Sl)=>ax Int (0:Int) U λp r C=>br (decide (r<(I.n:Int))) (ae I.a λbN=>(0<=r/\r<(I.n:Int))/\c9 jU 514 C (bN.add (r.toNat*514)) λ(bO:Array Value)=>aJ C (zc Oj qZ) qZ λD b0=>jo Oj (OI qZ (.pointer (some D)) (.agg bO)) b0 λV=>ld (ab .i64) V (D.add 0) λ(b1:Int)=>IS.sp z b1 V λ(W:(Int×Bool)) t=>ld (ab .u64) t (O4 ⟨d,0,none⟩ 8) λ(X:Int)=>0<=(PE W.1 (64:Int))/\br ((lQ .u64 (dI .u64 X (PE W.1 (64:Int))) (1:Int))==(1:Int)) (ld ak t (O4 ⟨a.p,0,none⟩ 0) λ(Y:Sl)=>ld (ab .i64) t (D.add 1) λ(Z:Int)=>c9 jU 512 t (D.add 2) λ(af:Array Value)=>GL.sp Y Z af t λ(b2:Sl) b3=>st b3 (O4 ⟨a.p,0,none⟩ 0) b2.v λb4=>p (Ol.wrap (r+(1:Int))) b4) (p (Ol.wrap (r+(1:Int))) t)) (ld ak C (O4 ⟨a.p,0,none⟩ 0) λ(an:Sl)=>DI.sp an C λ(b5:Sl) b6=>st b6 (O4 ⟨a.p,0,none⟩ 1) b5.v λb7=>st b7 (O4 ⟨a.p,0,none⟩ 2) (.slice none 0 0) λJ=>ld (ab .i64) J (O4 ⟨d,0,none⟩ 1) λ(a1:Int)=>ld ak J (O4 ⟨a.p,0,none⟩ 0) λ(a6:Sl)=>st J (O4 ⟨d,0,none⟩ 1) (.int .i64 (Ol.wrap (a1+(a6.n:Int)))) λb9=>K b9):=by
 have M:a.p≠d:=λe=>bB (e▸.inl rfl);have N:∀{E:Type} {En:eK E} {e:TypeId} {s:Sl} {l:List E},az En e H s l->e≠C0->∀b,ah s b->b≠a.p:=by
  intro E En e s l o ht b g eb;obtain⟨c,q⟩:=o.obj b g;rw[eb] at q;exact ht (aG B.row q).symm
 have zd:∀b,ah z b->b≠d:=λb g eb=>by
  obtain⟨c,q⟩:=hz.obj b g;rw[eb] at q;exact absurd (aG hd q) (by decide)
 have a7:=N B.log (by decide);have c3:=N B.syn (by decide);have tz:=N hz (by decide);have c5:a.p<H.size:=aA B.row;have dc:d<H.size:=aA hd;have c4:f.synced.length<=f.aq.length:=f.uH;refine B.row.ld (c:=ak) (i:=1) (x:=a.syn) rfl ?_;refine jx B.syn (by omega) λs1 H1 o1 m1 f1=>?_;have r1:=B.row.ext m1;refine r1.st (i:=0) (by simp) (by rfl) λH2 r2 m2 z2=>?_;refine r2.ld (c:=ak) (i:=2) (x:=a.log) rfl ?_;have a8:=B.log.n (by decide);have m12:Mod (λb=>b=a.p) H H2:=(Ext.mod m1).trans m2;have o2:az tZ uL H2 s1 f.synced:=o1.keep λb g hl=>m2.same b hl (by have:=f1 b g;omega);obtain⟨q,hq⟩:∃q:Wr->Bool,q=λw=>jh kp (L.filter λx=>decide (x<w.no)).length:=⟨_,rfl⟩;rw[<-hq] at hK;refine ar f.log.length (λk i O=>i=(k:Int)/\∃sl,aj O a.p C0 #[sl.v,a.syn.v,a.log.v]/\az tZ uL O sl (((f.log.take k).filter q).foldl dP f.synced)/\Mod (λb=>b=a.p) H O/\(∀b,ah sl b->H.size<=b)) ⟨rfl,s1,(show aj H2 a.p C0 #[s1.v,a.syn.v,a.log.v] from r2),by simpa using o2,m12,f1⟩ ?_;rintro k _ O next hk ⟨rfl,sl,r5,S,m5,f5⟩ A
 have z5:=m5.size;refine ag (λhc=>?_) (λhc=>?_)
 ·have v:k<f.log.length:=by rw[a8] at hc;simpa using hc
  have F:az w5 qZ O a.log f.log:=B.log.keep λb g hl=>m5.same b hl (a7 b g);obtain⟨ad,ha⟩:=bQ.addr F.rd (by decide) (by omega);rw[ha];refine⟨⟨by omega,by omega⟩,?_⟩;have hw:f.log[k]?=some f.log[k]:=On v;obtain⟨w,bd⟩:∃w,w=f.log[k]:=⟨_,rfl⟩;rw[<-bd] at hw;refine bQ.c9 (c:=jU) (y:=(w5.enc w).toArray) F.rd ha hw rfl (by simp[oW]) oW.symm ?_;have bl:(w5.enc w).toArray.size=514:=by simp[w5.len];rfl
  refine av λH6 s6 r6 m6=>?_;refine r6.iI (by rw[bl];kernel_rfl) (by rw[bl];exact ke) (by simpa using w5.one w) λT r7 m7 s7=>?_;refine r7.ld (c:=ab .i64) (i:=0) (x:=w.no) rfl ?_;have n:Mod (λ_=>False) O T:=⟨by omega,λb g _=>(m7.same b (by omega) (by omega)).trans (m6.same b g id)⟩;have z7:az EI iH T z L:=hz.keep λb g hl=>(n.same b (by omega) id).trans (m5.same b hl (tz b g));refine C4 z7 hL bA λbb=>?_;have d7:aj T d xB (fm m u most quota ops nx laid cin kp down):=(hd.mod m5 (Ne.symm M)).ext n;refine d7.ld (c:=ab .u64) (i:=8) (x:=kp) rfl ?_;refine⟨by simp only;exact Int.tmod_nonneg _ (by omega),?_⟩;have bn:q w=((lQ .u64 (dI .u64 kp (PE (((L.filter λx=>decide (x<w.no)).length:Nat):Int) 64)) 1)==1):=by rw[hq];rfl
  have bs:(f.log.take (k+1)).filter q=(f.log.take k).filter q++(if q w then [w] else []):=by
   rw[Ou v,PT,<-bd];cases cb:q w<;>simp[cb]
  have P:aj T a.p C0 #[sl.v,a.syn.v,a.log.v]:=r5.ext n;have bx:az tZ uL T sl (((f.log.take k).filter q).foldl dP f.synced):=S.keep λb g hl=>n.same b hl id;refine ag (λg=>?_) (λg=>?_)
  ·have Q:q w=true:=by rw[bn];exact g
   refine P.ld (c:=ak) (i:=0) (x:=sl) rfl ?_;refine r7.ld (c:=ab .i64) (i:=1) (x:=(w.page:Int)) rfl ?_;refine⟨(gk w.b.1).toArray,?_,?_⟩
   ·rw[bk];refine r7.lT (by simp[gk,w.b.2]) λj hj=>?_;simp only[w5,Nat.add_comm 2 j];simp
   ·have dk:=nj f.log f.synced w (List.mem_of_getElem? hw);have hle:=ng f.log q k f.synced;have ck:(f.log.foldl dP f.synced).length=f.aq.length:=rfl;refine EE (no:=w.no) (b:=w.b) bx (by omega) (by omega) λs8 H8 o8 g8=>?_;have cm:¬ah sl a.p:=λhh=>by have:=f5 _ hh;omega
    have r8:aj H8 a.p C0 #[sl.v,a.syn.v,a.log.v]:=P.mod g8.1 cm;refine r8.st (i:=0) (by simp) (by rfl) λH9 r9 m9 s9=>?_;have z8:=g8.1.size;have z57:=n.size;have f8:∀b,ah s8 b->H.size<=b:=λb g=>by
     rcases g8.2 b g with h|h
     ·exact f5 b h
     ·omega
    refine A v _ _ ⟨aD k (by omega),s8,(show aj H9 a.p C0 #[s8.v,a.syn.v,a.log.v] from r9),?_,?_,f8⟩
    ·rw[bs,if_pos Q,Rs];exact o8.keep λb g hl=>m9.same b hl (by have:=f8 b g;omega)
    ·refine⟨by omega,λb g hn=>(m9.same b (by omega) hn).trans ((g8.1.same b (by omega) λhh=>?_).trans ((n.same b (by omega) id).trans (m5.same b g hn)))⟩;have:=f5 b hh;omega
  ·have Q:q w=false:=by rw[bn];exact g
   refine A v _ _ ⟨aD k (by omega),sl,P,?_,m5.trans (Ext.mod n),f5⟩;rw[bs,Q];simpa using bx
 ·have v:k=f.log.length:=by rw[a8] at hc;simp at hc;omega
  rw[v,OA (Ot _)] at S;have hle:=ng f.log q f.log.length f.synced;rw[OA (Ot _)] at hle;have ck:(f.log.foldl dP f.synced).length=f.aq.length:=rfl;refine r5.ld (c:=ak) (i:=0) (x:=sl) rfl ?_;refine jx S (by omega) λs6 H6 o6 m6 f6=>?_;have r6:=r5.ext m6;refine r6.st (i:=1) (by simp) (by rfl) λT r7 m7 s7=>?_;refine r7.st (i:=2) (by simp) (by rfl) λH8 r8 m8 s8=>?_;have z6:=m6.size;have cx:Mod (λb=>b=a.p) O H8:=((Ext.mod m6).trans m7).trans m8;have R:=m5.trans cx;have d8:aj H8 d xB (fm m u most quota ops nx laid cin kp down):=hd.mod R (Ne.symm M);refine d8.ld (c:=ab .i64) (i:=1) (x:=u) rfl ?_;refine r8.ld (c:=ak) (i:=0) (x:=sl) rfl ?_;refine d8.st (i:=1) (by simp[fm]) (by rfl) λH9 r9 m9 s9=>?_;have cy:=S.n (by decide);have cz:(rZ q f).aq=(f.log.filter q).foldl dP f.synced:=rfl;refine hK ⟨a.p,sl,s6,Sl.mk none 0 0⟩ H9 rfl ⟨?_,?_,?_,az.nil _ _ _,?_⟩ ?_ ?_ ?_
  ·exact r8.mod m9 M
  ·refine S.keep λb g hl=>?_;have:=f5 b g;exact(m9.same b (by omega) (by omega)).trans ((m8.same b (by omega) (by omega)).trans ((m7.same b (by omega) (by omega)).trans (m6.same b hl id)))
  ·refine o6.keep λb g hl=>?_;have:=f6 b g;exact(m9.same b (by omega) (by omega)).trans ((m8.same b (by omega) (by omega)).trans (m7.same b hl (by omega)))
  ·intro b g cB;have:=f6 b cB;have:=S.lt b g;omega
  ·rw[cz,<-cy];exact r9
  ·refine⟨by omega,λb g hn=>(m9.same b (by have:=R.size;omega) λe=>hn (.inr e)).trans (R.same b g λe=>hn (.inl (.inl e)))⟩
  ·rintro b (e|g|g|⟨_,g,_⟩)
   ·exact .inl (.inl e)
   ·exact .inr (f5 b g)
   ·have:=f6 b g;right;omega
   ·cases g
end Go.Proofs.YtmkbhnholcaghaaGreatDoor
