/-
 Runs: a row sought: the walk.
-/
import Derived.Test.YtacfhncgbgijhaaGreatJ33
import Derived.Test.YtacfhncgbgijhaaGreatJ34
import Derived.Test.YtacfhncgbgijhaaGreatDkr
namespace Go.Proofs.YtacfhncgbgijhaaGreat
open Go.MapKept
section
variable {H0:aa} {F0 O0:Nat→Prop} {k p dp:Nat} {si:Sl} {rs:List Sl} {F:Nat→Prop} {A:aa} {s:Pl} {r:RR} {c c1:Addr} {low:Sl} {ll:List Int}
theorem pk {n room:Nat} (hr:0<room):aJ n room≤n:=by
 unfold aJ
 rcases Nat.eq_zero_or_pos n with h|h
 ·subst h;rw[Nat.div_eq_of_lt (by omega)];omega
 ·apply Nat.le_of_lt_succ
  rw[Nat.div_lt_iff_lt_mul hr,Nat.succ_mul]
  have:=Nat.le_mul_of_pos_right n hr
  omega
end
section
variable {H0:aa} {F0 O0:Nat→Prop} {k p dp:Nat} {si:Sl} {rs:List Sl} {F:Nat→Prop} {A:aa} {s:Pl} {r:RR} {low:Sl} {ll:List Int}
theorem Bt [Tab] {t:TypeId} {b:Rb} {rest:List Value} {n:Nat} {H:aa} {K:Int→aa→Prop} (h:bz H k t p b rest) (hr:0<b.room) (hn:n≤528482304) (hK:K (aJ n b.room:Int) H):HL.sp (aI k) (n:Int) H K:=by
 refine HL.of ?_
 unfold HL.vc
 unfold aI
 simp only[av]
 obtain⟨rm1,rm2⟩:=gm b
 refine ag.ld (c:=ab .i64) (i:=3) (x:=aU b.width) h (bz.get 3 _ rfl) ?_
 refine ag.ld (c:=ab .i64) (i:=3) (x:=aU b.width) h (bz.get 3 _ rfl) ?_
 rw[rm1]
 refine⟨by omega,?_⟩
 have e1:IntKind.i64.wrap ((n:Int)+(b.room:Int))=((n+b.room:Nat):Int):=by rw[wrap64 (by omega) (by omega)];omega
 have e2:IntKind.i64.wrap (((n+b.room:Nat):Int) - 1)=((n+b.room - 1:Nat):Int):=by rw[wrap64 (by omega) (by omega)];omega
 have e3:Int.tdiv ((n+b.room - 1:Nat):Int) (b.room:Int)=((aJ n b.room:Nat):Int):=rfl
 rw[e1,e2,e3]
 have:=pk (n:=n) hr
 rw[wrap64 (by omega) (by omega)]
 exact hK
end
theorem xw [Tab] {b:List Int} (h:b.length=8):lA b 1=[[dm b]]:=by
 have hs:bJ 1=8:=by decide
 have ho:fu b 1=true:=by unfold fu;rw[hs,h];rfl
 unfold lA
 rw[if_pos ho,hs,h]
 have:(8/(8:Int).toNat)=1:=by decide
 rw[this]
 unfold rowsOf
 rw[hs]
 have ht:List.take 8 b=b:=List.take_of_length_le (by omega)
 simp[List.range_succ,rowOf,cj,ht]
theorem oq [Tab] {s:Pl} {n:ByteArray} {W:Int} {r:RR} (h:(rnOpen s n W).2.1=some r):r.Ok∧r.b=⟨n,W,0,false⟩∧r.at_=0∧r.page=none∧r.ins=[]:=by
 unfold rnOpen at h
 split at h
 ·cases h
 ·rename_i hr
  split at h
  ·cases h
  ·split at h
   ·cases h
   ·split at h
    ·cases h
    ·split at h
     ·rename_i hw
      cases h
      have:=j7 (ie ((s.look n 0).2.2.1.drop 1))
      have h1:=hw.1
      refine⟨⟨?_,Nat.zero_le _,by simp,by simp only;omega,by simp⟩,rfl,rfl,rfl,rfl⟩
      have:=gm ⟨n,W,0,false⟩
      unfold Rb.room at this ⊢
      simp only at this ⊢
      omega
     ·cases h
variable {F:Nat→Prop} {H:aa} {p dp:Nat} {s:Pl} {n:ByteArray} {W:Int} {K:(Option Addr×Int)→aa→Prop}
set_option maxHeartbeats 1000000 in
theorem wW [Tab] (hg:Gl H) (hp:al F H p dp s) (hn:n.size≤9223372036854775807) (hlogs:s.d.aH<68719470000) (hnx:s.next<1099511627776) (h0:0≤s.next)
  (hK0:∀F' H',al F' H' p dp (rnOpen s n W).1→Step F F' H H'→(rnOpen s n W).2.1=none→K (none,(rnOpen s n W).2.2) H')
  (hK1:∀F' H' k r,al F' H' p dp (rnOpen s n W).1→Step F F' H H'→(rnOpen s n W).2.1=some r→ux H' k p r dr []→H.size≤k→¬F' k→K (aI k,(rnOpen s n W).2.2) H'):Fw.sp (aI p) n W H K:=by
 refine Fw.of ?_
 unfold Fw.vc
 refine uL (e:=if aU W=0 then 60 else 0) (if_neg (by unfold aI;simp)) fun H1 e1=>?_
 refine ak fun H2 z2 r2 e2=>?_
 refine ag.kM (cs:=Bm (aI p) n W) r2 k9 qF (oa _ _ _) fun H3 r3 m3 z3=>?_
 have e3:Ext H H3:=⟨by have:=m3.size;have:=e1.size;omega,fun b hb _=>(m3.same b (by have:=e1.size;omega) (by intro q;have:b=H1.size:=q;have:=e1.size;omega)).trans ((e2.same b (by have:=e1.size;omega) id).trans (e1.same b hb id))⟩
 have p3:=hp.ext e3
 have g3:Gl H3:=hg.mod e3 id
 have S3:Step F F H H3:=⟨e3.mod,fun b q=>.inl q⟩
 have z13:=e1.size
 have hk:¬F H1.size:=fun q=>by have:=hp.lt _ q;omega
 by_cases hr:aU W=0
 ·simp only[if_pos hr]
  have em:rnOpen s n W=(s,none,60):=if_pos hr
  rw[em] at hK0
  exact aZ rfl (hK0 F H3 p3 S3 rfl)
 simp only[if_neg hr]
 refine aA rfl ?_
 have b3:bz H3 H1.size qA p ⟨n,W,0,false⟩ []:=r3
 refine xW (g:=0) (b:=⟨n,W,0,false⟩) g3 b3 p3 hk (by decide) hn hlogs hnx h0 fun F4 H4 sl p4 S4 o4 f4 hl4=>?_
 have em:rnOpen s n W=if (s.look n 0).2.2.2≠0 then ((s.look n 0).1,none,(s.look n 0).2.2.2)
  else if ¬((s.look n 0).2.1=2∧(s.look n 0).2.2.1.length=9∧(((s.look n 0).2.2.1.getD 0 0).toNat:Int)=W) then ((s.look n 0).1,none,280)
  else if ((s.look n 0).1.d.len n).2≠0 then ((s.look n 0).1,none,((s.look n 0).1.d.len n).2)
  else if dm (ie ((s.look n 0).2.2.1.drop 1))≤528482304∧((s.look n 0).1.d.len n).1=1+aJ (dm (ie ((s.look n 0).2.2.1.drop 1))).toNat (aU W).toNat then
   ((s.look n 0).1,some ⟨⟨n,W,0,false⟩,(dm (ie ((s.look n 0).2.2.1.drop 1))).toNat,0,none,[]⟩,0)
  else ((s.look n 0).1,none,280):=by unfold rnOpen;rw[if_neg hr]
 rw[em] at hK0 hK1
 simp only at p4 o4 f4 hl4 ⊢
 generalize (s.look n 0).1=s4 at*
 generalize (s.look n 0).2.1=kd at*
 generalize (s.look n 0).2.2.1=b at*
 generalize (s.look n 0).2.2.2=e at*
 have T4:=S3.trans S4
 have b4:bz H4 H1.size qA p ⟨n,W,0,false⟩ []:=b3.mod S4.mod hk
 have hb4:=gY o4
 have hbn:=hb4.n
 refine aj (fun hc=>?_) (fun hc=>?_)
 ·have e0:e≠0:=by simpa using hc
  rw[if_pos e0] at hK0
  exact hK0 F4 H4 p4 T4 rfl
 have e0:¬e≠0:=by simpa using hc
 rw[if_neg e0] at hK0 hK1
 refine aj (fun hc=>?_) (fun hc=>?_)
 ·have hnot:¬(kd=2∧b.length=9∧((b.getD 0 0).toNat:Int)=W):=by
   rintro⟨q1,q2,_⟩
   rw[hbn,q2,q1] at hc
   simp at hc
  rw[if_pos hnot] at hK0
  exact hK0 F4 H4 p4 T4 rfl
 have hk9:kd=2∧b.length=9:=by
  simp only[Bool.or_eq_false_iff,bne_eq_false_iff_eq] at hc
  refine⟨UInt8.toNat_inj.1 (by have:=hc.1;show kd.toNat=2;omega),by have:=hc.2;omega⟩
 obtain⟨hkd,hb9⟩:=hk9
 refine jZ hb4 (i:=0) (by omega) rfl fun ad ha=>?_
 have hw8:IntKind.i64.wrap ((b[0]'(by omega)).toNat:Int)=((b.getD 0 0).toNat:Int):=by
  have:b.getD 0 0=b[0]'(by omega):=by rw[List.getD,List.getElem?_eq_getElem (by omega)];rfl
  have hlt:=(b[0]'(by omega)).toNat_lt
  rw[this,wrap64 (by omega) (by omega)]
 rw[hw8]
 refine aj (fun hc=>?_) (fun hc=>?_)
 ·have hnot:¬(kd=2∧b.length=9∧((b.getD 0 0).toNat:Int)=W):=by
   rintro⟨_,_,q3⟩
   rw[q3] at hc
   simp at hc
  rw[if_pos hnot] at hK0
  exact hK0 F4 H4 p4 T4 rfl
 have hyes:¬¬(kd=2∧b.length=9∧((b.getD 0 0).toNat:Int)=W):=fun q=>q ⟨hkd,hb9,by simpa only[bne_eq_false_iff_eq] using hc⟩
 rw[if_neg hyes] at hK0 hK1
 refine xR p4 ?_
 obtain⟨D,d1,_,_⟩:=al.gW (g3.mod S4.mod p3.fF) p4
 refine rZ d1 ?_
 have hm:=Dk.yw d1.wf n
 generalize (s4.d.len n).1=N at*
 generalize (s4.d.len n).2=e5 at*
 refine aj (fun hc=>?_) (fun hc=>?_)
 ·have e6:e5≠0:=by simpa using hc
  rw[if_pos e6] at hK0
  exact hK0 F4 H4 p4 T4 rfl
 have e6:¬e5≠0:=by simpa using hc
 rw[if_neg e6] at hK0 hK1
 refine⟨by omega,?_⟩
 have hd:=hb4.drop o4.cap 1
 have hl8:(ie (b.drop 1)).length=8:=by rw[rP,List.length_drop];omega
 refine uK (b:=ie (b.drop 1)) hd (by have:=o4.cap;show sl.n - 1≤sl.c - 1;omega) (fun x hx=>?_) (by omega) fun sr rs H5 ro e5'=>?_
 ·unfold ie at hx
  obtain⟨c,_,rfl⟩:=List.mem_map.1 hx
  have:=c.toNat_lt;omega
 rw[xw hl8] at ro
 have p5:=p4.ext e5'
 have T5:Step F F4 H H5:=T4.trans ⟨e5'.mod,fun b q=>.inl q⟩
 have b5:=b4.ext e5'
 refine ro.rows.ld (i:=0) (by simp) fun ad1 x1 ha1 hx1=>?_
 have hx1':Ints .u64 H5 x1 [dm (ie (b.drop 1))]:=hx1
 refine fN hx1' (i:=0) (j:=0) rfl (by simp) fun ad2 ha2=>?_
 have hwr:=j7 (ie (b.drop 1))
 simp only[List.getD_cons_zero]
 obtain⟨w,hwd⟩:∃w,w=dm (ie (b.drop 1)):=⟨_,rfl⟩
 rw[←hwd] at hK0 hK1 hwr ⊢
 have hrm:=gm ⟨n,W,0,false⟩
 refine aj (fun hc=>?_) (fun hc=>?_)
 ·have hw:w≤528482304:=by simpa using hc
  obtain⟨wn,rfl⟩:∃wn:Nat,w=(wn:Int):=⟨w.toNat,by omega⟩
  rw[show IntKind.i64.wrap (wn:Int)=(wn:Int) from wrap64 (by omega) (by omega)]
  have hroom:0<(Rb.room ⟨n,W,0,false⟩):=by
   have:=hrm.1;simp only at this;omega
  refine Bt (b:=⟨n,W,0,false⟩) b5 hroom (by omega) ?_
  have hpl:=pk (n:=wn) hroom
  have hrt:Rb.room ⟨n,W,0,false⟩=(aU W).toNat:=rfl
  rw[hrt] at hpl ⊢
  have w2:IntKind.i64.wrap (1+(aJ wn (aU W).toNat:Int))=((1+aJ wn (aU W).toNat:Nat):Int):=by
   rw[wrap64 (by omega) (by omega)];omega
  rw[w2]
  rw[Int.toNat_natCast] at hK0 hK1
  refine aj (fun hc=>?_) (fun hc=>?_)
  ·have e7:N=1+aJ wn (aU W).toNat:=by
    have:(N:Int)=((1+aJ wn (aU W).toNat:Nat):Int):=by simpa using hc
    omega
   rw[if_pos ⟨hw,e7⟩] at hK1
   refine ag.db (x:=(aI p,n,W,aU W,0,false)) b5 rfl rfl ?_
   refine ak fun H6 z6 r6 e6=>?_
   have:=T5.mod.size
   refine hK1 F4 H6 H5.size ⟨⟨n,W,0,false⟩,wn,0,none,[]⟩ (p5.ext e6) ⟨T5.mod.trans' e6 fun b _ q=>q.elim,T5.own⟩ rfl ⟨r6,ax.nil _ _⟩ (by omega) fun q=>by have:=p5.lt _ q;omega
  ·have e7:¬(((wn:Nat):Int)≤528482304∧N=1+aJ wn (aU W).toNat):=fun q=>by
    rw[q.2] at hc;simp at hc
   rw[if_neg e7] at hK0
   exact hK0 F4 H5 p5 T5 rfl
 ·have hw:¬w≤528482304:=by simpa using hc
  rw[if_neg (fun q=>hw q.1)] at hK0
  exact hK0 F4 H5 p5 T5 rfl
end Go.Proofs.YtacfhncgbgijhaaGreat
namespace Go.Proofs.YtacfhncgbgijhaaGreat
structure kE (r:RR) (n:ByteArray) (W room:Nat) (rs:List (List Int)):Prop where
 b:r.b=⟨n,W,0,false⟩
 rows:r.rows=rs.length
 at_:r.at_≤rs.length
 page:∀j,r.page=some j→j<aJ rs.length room∧r.ins=df rs room j
 cols:∀l∈r.ins,l.length≤16
theorem uY {rs:List (List Int)} {room j:Nat}:(df rs room j).length=min room (rs.length - j*room):=by
 unfold df;rw[List.length_take,List.length_drop]
theorem Bb [Tab] {rs:List (List Int)} {room j i:Nat} (hi:i<room):(df rs room j).getD i []=rs.getD (j*room+i) []:=by
 unfold df
 simp only[List.getD]
 rw[List.getElem?_take,if_pos hi,List.getElem?_drop]
section
variable {p:Pl} {r:RR} {n:ByteArray} {W:Nat} {rs:List (List Int)} {q:Nat}
theorem kE.room [Tab] (h:kE r n W (cg W) rs) (h1:0≤W) (h2:W≤16):r.b.room=cg W:=by
 unfold Rb.room
 rw[h.b]
 simp only
 rw[(bR h1 h2).1];rfl
theorem fR.mono [Tab] (hr:fR W rs):∀{i j:Nat},i<j→j<rs.length→aF (rs.getD i []) (rs.getD j [])<0
 |i,0,h,_=>by omega
 |i,j+1,h,hj=>by
   rcases Nat.lt_or_ge i j with q|q
   ·exact eW (hr.mono q (by omega)) (hr.up j hj)
   ·have:i=j:=by omega
    subst this;exact hr.up i hj
end
open Go.MapKept
section
variable {s:Pl} {w:RW}
theorem Pl.AE [Tab] (r:Pl×Int) (h:Int):(Pl.leave r h).1.d=r.1.d:=by
 unfold Pl.leave;split
 ·exact Pl.vC _ _
 ·rfl
end
section
variable {H A:aa} {k p dp:Nat} {s:Pl} {w:RW} {n:ByteArray} {W:Int}
variable {X:Nat→Prop} {r:RR}
end
end Go.Proofs.YtacfhncgbgijhaaGreat
