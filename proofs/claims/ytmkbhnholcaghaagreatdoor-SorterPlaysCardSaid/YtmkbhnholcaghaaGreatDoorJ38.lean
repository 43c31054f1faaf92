/-
 Runs: a row sought: the walk.
-/
import Derived.Test.YtmkbhnholcaghaaGreatDoorJ35
import Derived.Test.YtmkbhnholcaghaaGreatDoorDkr
open Go.IntKind renaming i64->N6
namespace Go.Proofs.YtmkbhnholcaghaaGreatDoor
open Go.MapKept
section
variable {H0:aa}{F0 O0:Nat->Prop}{k p dp:Nat}{si:Sl}{rs:List Sl}{F:Nat->Prop}{A:aa}{s:Pl}{r:RR}{c c1:Addr}{low:Sl}{ll:List Int}
theorem mO {n room:Nat}(a:0<room):de n room<=n:=by
 unfold de;rcases Nat.eq_zero_or_pos n with h|h
 ·subst h;rw[Nat.div_eq_of_lt (by omega)];omega
 ·apply Nat.le_of_lt_succ;rw[Nat.div_lt_iff_lt_mul a,Nat.succ_mul];have:=Nat.le_mul_of_pos_right n a;omega
end
def Down (ll:List Int)(ls:List (List Int)):Prop:=∀i j,i<=j->j<ls.length->aT (ls.getD j []) ll<0->aT (ls.getD i []) ll<0
section
variable {H0:aa}{F0 O0:Nat->Prop}{k p dp:Nat}{si:Sl}{rs:List Sl}{F:Nat->Prop}{A:aa}{s:Pl}{r:RR}{low:Sl}{ll:List Int}
theorem Cr {t:TypeId}{b:Rb}{rest:List Value}{n:Nat}{H:aa}{K:Int->aa->Prop}(h:bF H k t p b rest)(d:0<b.room)(l:n<=528482304)(e:K (de n b.room:Int) H):J9.sp (aE k) (n:Int) H K:=by
 refine J9.of ?_;unfold J9.vc;unfold aE;simp only[al];obtain⟨a,f⟩:=cZ b;refine aj.ld (c:=ab .i64) (i:=3) (x:=aH b.width) h (bF.get 3 _ rfl) ?_;refine aj.ld (c:=ab .i64) (i:=3) (x:=aH b.width) h (bF.get 3 _ rfl) ?_;rw[a];refine⟨by omega,?_⟩;have g:N6.wrap ((n:Int)+(b.room:Int))=((n+b.room:Nat):Int):=by rw[wrap64 (by omega) (by omega)];omega
 have e2:N6.wrap (((n+b.room:Nat):Int) - 1)=((n+b.room - 1:Nat):Int):=by rw[wrap64 (by omega) (by omega)];omega
 have j:Int.tdiv ((n+b.room - 1:Nat):Int) (b.room:Int)=((de n b.room:Nat):Int):=rfl;rw[g,e2,j];have:=mO (n:=n) d;rw[wrap64 (by omega) (by omega)];exact e
end
theorem wU {b:List Int}(h:b.length=8):jm b 1=[[bY b]]:=by
 have hs:bz 1=8:=by decide
 have a:eG b 1=true:=by unfold eG;rw[hs,h];rfl
 unfold jm;rw[if_pos a,hs,h];have:(8/(8:Int).toNat)=1:=by decide
 rw[this];unfold rowsOf;rw[hs];have d:List.take 8 b=b:=List.take_of_length_le (by omega);simp[List.range_succ,rowOf,bI,d]
theorem mr {s:Pl}{n:ByteArray}{W:Int}{r:RR}(h:(rnOpen s n W).2.1=some r):r.Ok/\r.b=⟨n,W,0,false⟩/\r.at_=0/\r.page=none/\r.ins=[]:=by
 unfold rnOpen at h;split at h
 ·cases h
 ·rename_i a;split at h
  ·cases h
  ·split at h
   ·cases h
   ·split at h
    ·cases h
    ·split at h
     ·rename_i hw;cases h;have:=ir (eH ((s.look n 0).2.2.1.drop 1));have h1:=hw.1;refine⟨⟨?_,Nat.zero_le _,by simp,by simp only;omega,by simp⟩,rfl,rfl,rfl,rfl⟩;have:=cZ ⟨n,W,0,false⟩;unfold Rb.room at this ⊢;simp only at this ⊢;omega
     ·cases h
variable {F:Nat->Prop}{H:aa}{p dp:Nat}{s:Pl}{n:ByteArray}{W:Int}{K:(Option Addr×Int)->aa->Prop}
set_option maxHeartbeats 1000000 in
theorem sV (hg:Gl H)(hp:au F H p dp s)(hn:n.size<=9223372036854775807)(t:s.d.aB<68719470000)(Q:s.next<1099511627776)(h0:0<=s.next)
  (a:∀F' H',au F' H' p dp (rnOpen s n W).1->Step F F' H H'->(rnOpen s n W).2.1=none->K (none,(rnOpen s n W).2.2) H')
  (h:∀F' H' k r,au F' H' p dp (rnOpen s n W).1->Step F F' H H'->(rnOpen s n W).2.1=some r->zl H' k p r bf []->H.size<=k->¬F' k->K (aE k,(rnOpen s n W).2.2) H'):Ii.sp (aE p) n W H K:=by
 refine Ii.of ?_;unfold Ii.vc;refine uM (e:=if aH W=0 then 60 else 0) (if_neg (by unfold aE;simp)) λH1 y=>?_;refine ax λH2 z2 r2 e2=>?_;refine aj.iF (cs:=CX (aE p) n W) r2 mQ qT (oy _ _ _) λB r3 m3 z3=>?_;have R:Ext H B:=⟨by have:=m3.size;have:=y.size;omega,λb hb _=>(m3.same b (by have:=y.size;omega) (by intro q;have:b=H1.size:=q;have:=y.size;omega)).trans ((e2.same b (by have:=y.size;omega) id).trans (y.same b hb id))⟩;have p3:=hp.ext R;have g3:Gl B:=hg.mod R id;have S3:Step F F H B:=⟨R.mod,λb q=>.inl q⟩;have bl:=y.size;have hk:¬F H1.size:=λq=>by have:=hp.lt _ q;omega
 by_cases M:aH W=0
 ·simp only[if_pos M];have em:rnOpen s n W=(s,none,60):=if_pos M;rw[em] at a;exact aP rfl (a F B p3 S3 rfl)
 simp only[if_neg M];refine aC rfl ?_;have b3:bF B H1.size qV p ⟨n,W,0,false⟩ []:=r3;refine yd (g:=0) (b:=⟨n,W,0,false⟩) g3 b3 p3 hk (by decide) hn t Q h0 λo C sl p4 S O f4 T=>?_;have em:rnOpen s n W=if (s.look n 0).2.2.2≠0 then ((s.look n 0).1,none,(s.look n 0).2.2.2)
  else if ¬((s.look n 0).2.1=2/\(s.look n 0).2.2.1.length=9/\(((s.look n 0).2.2.1.getD 0 0).toNat:Int)=W) then ((s.look n 0).1,none,280)
  else if ((s.look n 0).1.d.len n).2≠0 then ((s.look n 0).1,none,((s.look n 0).1.d.len n).2)
  else if bY (eH ((s.look n 0).2.2.1.drop 1))<=528482304/\((s.look n 0).1.d.len n).1=1+de (bY (eH ((s.look n 0).2.2.1.drop 1))).toNat (aH W).toNat then
   ((s.look n 0).1,some ⟨⟨n,W,0,false⟩,(bY (eH ((s.look n 0).2.2.1.drop 1))).toNat,0,none,[]⟩,0)
  else ((s.look n 0).1,none,280):=by unfold rnOpen;rw[if_neg M]
 rw[em] at a h;simp only at p4 O f4 T ⊢;generalize (s.look n 0).1=s4 at*;generalize (s.look n 0).2.1=kd at*;generalize (s.look n 0).2.2.1=b at*;generalize (s.look n 0).2.2.2=e at*;have E:=S3.trans S;have b4:bF C H1.size qV p ⟨n,W,0,false⟩ []:=b3.mod S.mod hk;have u:=bV O;have U:=u.n;refine ah (λf=>?_) (λf=>?_)
 ·have V:e≠0:=by simpa using f
  rw[if_pos V] at a;exact a o C p4 E rfl
 have V:¬e≠0:=by simpa using f
 rw[if_neg V] at a h;refine ah (λf=>?_) (λf=>?_)
 ·have l:¬(kd=2/\b.length=9/\((b.getD 0 0).toNat:Int)=W):=by
   rintro⟨q1,q2,_⟩;rw[U,q2,q1] at f;simp at f
  rw[if_pos l] at a;exact a o C p4 E rfl
 have X:kd=2/\b.length=9:=by
  simp only[Bool.or_eq_false_iff,bne_eq_false_iff_eq] at f;refine⟨UInt8.toNat_inj.1 (by have:=f.1;show kd.toNat=2;omega),by have:=f.2;omega⟩
 obtain⟨Y,Z⟩:=X;refine dY u (i:=0) (by omega) rfl λad ha=>?_;have af:N6.wrap ((b[0]'(by omega)).toNat:Int)=((b.getD 0 0).toNat:Int):=by
  have:b.getD 0 0=b[0]'(by omega):=by rw[List.getD,List.getElem?_eq_getElem (by omega)];rfl
  have bn:=(b[0]'(by omega)).toNat_lt;rw[this,wrap64 (by omega) (by omega)]
 rw[af];refine ah (λf=>?_) (λf=>?_)
 ·have l:¬(kd=2/\b.length=9/\((b.getD 0 0).toNat:Int)=W):=by
   rintro⟨_,_,q3⟩;rw[q3] at f;simp at f
  rw[if_pos l] at a;exact a o C p4 E rfl
 have G:¬¬(kd=2/\b.length=9/\((b.getD 0 0).toNat:Int)=W):=λq=>q ⟨Y,Z,by simpa only[bne_eq_false_iff_eq] using f⟩;rw[if_neg G] at a h;refine xf p4 ?_;obtain⟨D,d1,_,_⟩:=au.cv (g3.mod S.mod p3.eM) p4;refine tE d1 ?_;have hm:=Dk.jX d1.wf n;generalize (s4.d.len n).1=N at*;generalize (s4.d.len n).2=e5 at*;refine ah (λf=>?_) (λf=>?_)
 ·have z:e5≠0:=by simpa using f
  rw[if_pos z] at a;exact a o C p4 E rfl
 have z:¬e5≠0:=by simpa using f
 rw[if_neg z] at a h;refine⟨by omega,?_⟩;have hd:=u.drop O.cap 1;have an:(eH (b.drop 1)).length=8:=by rw[kC,List.length_drop];omega
 refine u4 (b:=eH (b.drop 1)) hd (by have:=O.cap;show sl.n - 1<=sl.c - 1;omega) (λx hx=>?_) (by omega) λsr rs I ro v=>?_
 ·unfold eH at hx;obtain⟨c,_,rfl⟩:=List.mem_map.1 hx;have:=c.toNat_lt;omega
 rw[wU an] at ro;have P:=p4.ext v;have J:Step F o H I:=E.trans ⟨v.mod,λb q=>.inl q⟩;have b5:=b4.ext v;refine ro.rows.ld (i:=0) (by simp) λbs x1 bx a1=>?_;have L:Ints .u64 I x1 [bY (eH (b.drop 1))]:=a1;refine jy L (i:=0) (j:=0) rfl (by simp) λbA bB=>?_;have a6:=ir (eH (b.drop 1));simp only[List.getD_cons_zero];obtain⟨w,a7⟩:∃w,w=bY (eH (b.drop 1)):=⟨_,rfl⟩;rw[<-a7] at a h a6 ⊢;have a8:=cZ ⟨n,W,0,false⟩;refine ah (λf=>?_) (λf=>?_)
 ·have hw:w<=528482304:=by simpa using f
  obtain⟨wn,rfl⟩:∃wn:Nat,w=(wn:Int):=⟨w.toNat,by omega⟩;rw[show N6.wrap (wn:Int)=(wn:Int) from wrap64 (by omega) (by omega)];have m:0<(Rb.room ⟨n,W,0,false⟩):=by
   have:=a8.1;simp only at this;omega
  refine Cr (b:=⟨n,W,0,false⟩) b5 m (by omega) ?_;have bb:=mO (n:=wn) m;have bd:Rb.room ⟨n,W,0,false⟩=(aH W).toNat:=rfl;rw[bd] at bb ⊢;have w2:N6.wrap (1+(de wn (aH W).toNat:Int))=((1+de wn (aH W).toNat:Nat):Int):=by
   rw[wrap64 (by omega) (by omega)];omega
  rw[w2];rw[Int.toNat_natCast] at a h;refine ah (λf=>?_) (λf=>?_)
  ·have e7:N=1+de wn (aH W).toNat:=by
    have:(N:Int)=((1+de wn (aH W).toNat:Nat):Int):=by simpa using f
    omega
   rw[if_pos ⟨hw,e7⟩] at h;refine aj.c8 (x:=(aE p,n,W,aH W,0,false)) b5 rfl rfl ?_;refine ax λH6 z6 r6 z=>?_;have:=J.mod.size;refine h o H6 I.size ⟨⟨n,W,0,false⟩,wn,0,none,[]⟩ (P.ext z) ⟨J.mod.trans' z λb _ q=>q.elim,J.own⟩ rfl ⟨r6,aO.nil _ _⟩ (by omega) λq=>by have:=P.lt _ q;omega
  ·have e7:¬(((wn:Nat):Int)<=528482304/\N=1+de wn (aH W).toNat):=λq=>by
    rw[q.2] at f;simp at f
   rw[if_neg e7] at a;exact a o I P J rfl
 ·have hw:¬w<=528482304:=by simpa using f
  rw[if_neg (λq=>hw q.1)] at a;exact a o I P J rfl
end Go.Proofs.YtmkbhnholcaghaaGreatDoor
namespace Go.Proofs.YtmkbhnholcaghaaGreatDoor
section
variable {p:Pl}{r:RR}{n:ByteArray}{W:Nat}{rs:List (List Int)}{q:Nat}
end
open Go.MapKept
section
variable {s:Pl}{w:RW}
theorem Pl.Bp (r:Pl×Int)(h:Int):(Pl.leave r h).1.d=r.1.d:=by
 unfold Pl.leave;split
 ·exact Pl.BB _ _
 ·rfl
end
section
variable {H A:aa}{k p dp:Nat}{s:Pl}{w:RW}{n:ByteArray}{W:Int}
variable {X:Nat->Prop}{r:RR}
end
end Go.Proofs.YtmkbhnholcaghaaGreatDoor
