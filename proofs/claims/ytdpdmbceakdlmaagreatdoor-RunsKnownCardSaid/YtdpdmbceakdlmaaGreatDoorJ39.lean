/-
 Runs: a row sought: the walk.
-/
import Derived.Test.YtdpdmbceakdlmaaGreatDoorJ35
import Derived.Test.YtdpdmbceakdlmaaGreatDoorJ36
import Derived.Test.YtdpdmbceakdlmaaGreatDoorDkr
open Go.IntKind renaming i64->KG
open Int renaming le_refl->Mc
open List renaming getElem?_eq_getElem->KJ,replicate->KY,length_cons->Ln,getD->Lo,getElem_mem->Lt,length_drop->MK,takeWhile_cons->Nw,takeWhile_sublist->On
open Nat renaming le_refl->KN,zero_le->Lh,lt_or_ge->Lr,lt_of_lt_of_le->LJ,add_mul->MG,mod_lt->MZ,div_add_mod->Ng,mul_comm->NK,le_div_iff_mul_le->NP,div_mul_le_self->Od,lt_iff_add_one_le->P8
namespace Go.Proofs.YtdpdmbceakdlmaaGreatDoor
open Go.MapKept
section
variable {H0:Heap}{F0 O0:Nat->Prop}{k p dp:Nat}{si:Sl}{rs:List Sl}{F:Nat->Prop}{A:Heap}{s:Pl}{r:RR}{c c1:Addr}{low:Sl}{ll:List Int}
theorem c0.start (h:c0 H0 F0 O0 k p dp si rs F A s r):c0 A F (iV k si rs) k p dp si rs F A s r:=⟨h.ag,h.rd,h.dis,.refl _ _,λ_ q=>.inl q,λ_ q=>.inl q⟩
theorem c0.trans {si':Sl}{rs':List Sl}{F':Nat->Prop}{A':Heap}{s':Pl}{r':RR}(h:c0 H0 F0 O0 k p dp si rs F A s r)(g:c0 A F (iV k si rs) k p dp si' rs' F' A' s' r'):c0 H0 F0 O0 k p dp si' rs' F' A' s' r':=by
 have z:=h.mod.size
 refine⟨g.ag,g.rd,g.dis,h.mod.trans' g.mod λb hb q=>?_,λb hb=>?_,λb hb=>?_⟩
 ·rcases q with q|q
  ·rcases h.own b q with u|u
   ·exact .inl u
   ·omega
  ·exact .inr q
 ·rcases g.own b hb with q|q
  ·exact h.own b q
  ·right;omega
 ·rcases g.own2 b hb with q|q
  ·exact h.own2 b q
  ·right;omega
theorem RR.qU {j:Nat}(h:(r.load s j).2.2≠0):(r.load s j).2.1.b.wrong=(r.load s j).2.2:=by
 unfold RR.load at h ⊢
 split
 ·rename_i hp;rw[if_pos hp] at h;exact absurd rfl h
 ·rename_i hp
  rw[if_neg hp] at h
  split
  ·rename_i he;simp only[Rb.bO];rw[if_pos he]
  ·rename_i he
   rw[if_neg he] at h
   split
   ·rename_i hf;rw[if_pos hf] at h;exact absurd rfl h
   ·rfl
theorem Pl.vQ {s:Pl}{n:ByteArray}{g:Int}(h0:0<=s.next)(h1:s.next<1099511627776):(s.look n g).1.d.logs<=s.d.logs+1/\(s.look n g).1.next<=s.next+1:=by
 have a:=s.jf n g
 have b:=s.jb (n:=n) (k:=g) h0 h1
 unfold Pl.look
 split
 ·exact⟨a,b⟩
 ·split
  ·exact⟨a,b⟩
  ·simp only
   rw[Pl.lL,Pl.jE]
   exact⟨a,b⟩
theorem RR.oZ {j:Nat}(h0:0<=s.next)(h1:s.next<1099511627776):(r.load s j).1.d.logs<=s.d.logs+1/\(r.load s j).1.next<=s.next+1:=by
 have:=Pl.vQ (n:=r.b.name) (g:=(j:Int)+1) h0 h1
 unfold RR.load
 split
 ·exact⟨Nat.le_succ _,by show s.next<=s.next+1;omega⟩
 ·split
  ·exact this
  ·split<;>exact this
theorem gX {j n room:Nat}(hr:0<room)(h:j<az n room):j*room<n:=by
 unfold az at h
 have h1:j+1<=(n+room - 1)/room:=h
 rw[NP hr,MG] at h1
 omega
theorem df {n room:Nat}(hr:0<room):az n room<=n:=by
 unfold az
 rcases Nat.eq_zero_or_pos n with h|h
 ·subst h;rw[Nat.div_eq_of_lt (by omega)];omega
 ·apply Nat.le_of_lt_succ
  rw[Nat.div_lt_iff_lt_mul hr,Nat.succ_mul]
  have:=Nat.le_mul_of_pos_right n hr
  omega
structure qQ (HB:Heap)(F0:Nat->Prop)(k:Nat)(c c1:Addr)(low:Sl)(ll:List Int):Prop where
 cap:dn HB c Jp (.pointer (aD k))
 cap1:dn HB c1 lU low.v
 rd:Ints .u64 HB low ll
 offF:∀b,F0 b->b≠c.block/\b≠c1.block/\∀ad,low.a=some ad->ll≠[]->b≠ad.block
 offk:k≠c.block/\k≠c1.block/\∀ad,low.a=some ad->ll≠[]->k≠ad.block
theorem qQ.at (h:qQ H0 F0 k c c1 low ll){A:Heap}(m:Mod (λb=>F0 b\/b=k) H0 A):dn A c Jp (.pointer (aD k))/\dn A c1 lU low.v/\Ints .u64 A low ll:=by
 refine⟨h.cap.mod m λq=>?_,h.cap1.mod m λq=>?_,?_⟩
 ·rcases q with q|q
  ·exact(h.offF _ q).1 rfl
  ·exact h.offk.1 q.symm
 ·rcases q with q|q
  ·exact(h.offF _ q).2.1 rfl
  ·exact h.offk.2.1 q.symm
 ·by_cases hne:ll=[]
  ·subst hne
   exact⟨h.rd.len,λi v hv=>by simp at hv⟩
  refine h.rd.mod m λad ha q=>?_
  rcases q with q|q
  ·exact(h.offF _ q).2.2 ad ha hne rfl
  ·exact h.offk.2.2 ad ha hne q.symm
theorem EU {j:Nat}{K:Bool->Heap->Prop}(C:qQ H0 F0 k c c1 low ll)(hlow:ll.length<=1000000)(hg:Gl H0)(hF0:¬F0 bx)(hk0:bx≠k)(h:c0 H0 F0 O0 k p dp si rs F A s r)(ok:r.Ok)(hj:j<az r.rows r.b.room)(hw:r.b.wrong=0)
  (hn:r.b.name.size<=9223372036854775807) (hlogs:s.d.logs<68719470000) (hnx:s.next<1099511627776) (h0:0<=s.next)
  (hK:∀F' si' rs' A',c0 H0 F0 O0 k p dp si' rs' F' A' (r.load s j).1 (r.load s j).2.1->K (decide ((r.load s j).2.2≠0\/¬bz (jU (r.load s j).2.1.ins) ll<0)) A'):AW.sp (j:Int) c c1 A K:=by
 refine AW.of ?_
 unfold AW.vc
 have hpr:=gX ok.room hj
 have hj2:j<1099511627776:=by have:=df (n:=r.rows) ok.room;have:=ok.rows;omega
 refine(C.at h.mod).1.ld (c:=ar) (x:=aD k) ?_
 unfold aD
 simp only[aq]
 refine aj.ld (c:=aa .i64) (i:=4) (x:=r.b.wrong) h.rd.row (bh.get 4 _ rfl) ?_
 refine aw (by rw[hw];rfl) ?_
 refine(C.at h.mod).1.ld (c:=ar) (x:=aD k) ?_
 refine qm hg hF0 hk0 h ok (by omega) hj2 hn hlogs hnx h0 λF1 si1 rs1 A1 B1 hz=>?_
 obtain⟨k1,k2,k3,k4,_,k6⟩:=RR.dY (s:=s) (j:=j) ok
 generalize (r.load s j).1=s1 at*
 generalize (r.load s j).2.1=r1 at*
 generalize (r.load s j).2.2=e2 at*
 have hq:=hK F1 si1 rs1 A1 B1
 refine ae (λhc=>?_) (λhc=>?_)
 ·have e3:e2≠0:=by simpa using hc
  rw[decide_eq_true (Or.inl e3)] at hq
  exact hq
 have e3:e2=0:=by simpa using hc
 obtain⟨k7,k8⟩:=k6 e3
 have hlen:=k1.page _ k8
 rw[k7,k2] at hlen
 have hpos:0<r1.ins.length:=by rw[hlen];have:=ok.room;omega
 obtain⟨z1,z2,z3⟩:=C.at B1.mod
 refine z1.ld (c:=ar) (x:=aD k) ?_
 unfold aD
 simp only[aq]
 refine aj.ld (c:=av) (i:=9) (x:=si1) B1.rd.row (bh.tail (j:=3) rfl) ?_
 refine z1.ld (c:=ar) (x:=aD k) ?_
 unfold aD
 simp only[aq]
 refine aj.ld (c:=av) (i:=9) (x:=si1) B1.rd.row (bh.tail (j:=3) rfl) ?_
 have hil:r1.ins.length<=504:=by have:=(cN r.b).2;rw[hlen];omega
 have hlast:KG.wrap ((si1.n:Int) - 1)=((r1.ins.length - 1:Nat):Int):=by
  rw[B1.rd.ins.n,wrap64 (by omega) (by omega)];omega
 rw[hlast]
 refine B1.rd.ins.rows.ld (by omega) λad x ha hx=>?_
 refine z2.ld (c:=av) (x:=low) ?_
 have hcol:=k1.cols _ (Lt (show r1.ins.length - 1<r1.ins.length by omega))
 refine lz hx z3 (by omega) ?_
 have el:jU r1.ins=r1.ins[r1.ins.length - 1]:=by
  unfold jU;rw[Lo,KJ (by omega)];rfl
 rw[el] at hq
 have ed:decide (e2≠0\/¬bz r1.ins[r1.ins.length - 1] ll<0)=decide (bz r1.ins[r1.ins.length - 1] ll>=0):=by
  rw[decide_eq_decide];omega
 rw[ed] at hq
 exact hq
theorem xS {K:Int->Heap->Prop}(C:qQ H0 F0 k c c1 low ll)(hlow:ll.length<=1000000)(hg:Gl H0)(hF0:¬F0 bx)(hk0:bx≠k)(h:c0 H0 F0 O0 k p dp si rs F A s r)(ok:r.Ok)(hw:r.b.wrong=0)
  (hn:r.b.name.size<=9223372036854775807) (hlogs:s.d.logs+528482304<68719470000) (hnx:s.next+528482304<1099511627776)
  (hK0:∀F' si' rs' A' i,(r.find s ll).2.2.2≠0->(r.find s ll).2.1.b.wrong=(r.find s ll).2.2.2->c0 H0 F0 O0 k p dp si' rs' F' A' (r.find s ll).1 (r.find s ll).2.1->K i A')
  (hK1:∀F' si' rs' A',(r.find s ll).2.2.2=0->(r.find s ll).2.1.b=r.b->(r.find s ll).2.1.rows=r.rows->(r.find s ll).2.1.Ok->(r.find s ll).2.2.1<=az r.rows r.b.room->c0 H0 F0 O0 k p dp si' rs' F' A' (r.find s ll).1 (r.find s ll).2.1->K ((r.find s ll).2.2.1:Int) A'):
  Hk.sp (az r.rows r.b.room:Int) c c1 A K:=by
 refine Hk.of ?_
 unfold Hk.vc
 have hN:az r.rows r.b.room<=528482304:=by have:=df (n:=r.rows) ok.room;have:=ok.rows;omega
 obtain⟨T,hT⟩:∃T,T=r.find s ll:=⟨_,rfl⟩
 obtain⟨N,hNN⟩:∃N,N=az r.rows r.b.room:=⟨_,rfl⟩
 rw[<-hT] at hK0 hK1
 rw[<-hNN] at hK1 hN ⊢
 refine ay N (λm z A'=>∃(i j:Nat) (s':Pl) (r':RR) (F':Nat->Prop) (si':Sl) (rs':List Sl),z=((i:Int),(j:Int))/\i<=j/\j<=N/\j - i+m<=N/\c0 H0 F0 O0 k p dp si' rs' F' A' s' r'/\(s'.d.logs<=s.d.logs+m/\s'.next<=s.next+m)/\
  ((RR.cJ ll (N - m) i j s' r'=T/\r'.b=r.b/\r'.rows=r.rows/\r'.Ok)\/(T.1=s'/\T.2.1=r'/\T.2.2.2≠0/\r'.b.wrong=T.2.2.2))) ?_ ?_
 ·refine⟨0,N,s,r,F,si,rs,rfl,Lh _,KN _,by omega,h,⟨KN _,by omega⟩,.inl ⟨?_,rfl,rfl,ok⟩⟩
  rw[hT,hNN];rfl
 rintro m _ A1 next hm ⟨i,j,s1,r1,F1,si1,rs1,rfl,hij,hjN,hmn,B1,⟨b1,b2⟩,hT1⟩ hnext
 refine ae (λhc=>?_) (λhc=>?_)
 ·have hlt : i < j := by have : (i : Int) < (j : Int) := by simpa using hc
                         omega
  have hmid:=uw (i:=i) (j:=j) (by omega)
  simp only
  rw[hmid]
  have hh1:i<=(i+j)/2:=by omega
  have hh2:(i+j)/2<j:=by omega
  rcases hT1 with ⟨t1,t2,t3,t4⟩|⟨t1,t2,t3,t4⟩
  ·have b3:0<=s1.next:=by have:=B1.ag.wf.tick;omega
   have c1:=RR.oZ (s:=s1) (r:=r1) (j:=(i+j)/2) b3 (by omega)
   obtain⟨f,hf⟩:∃f,N - m=f+1:=⟨N - m - 1,by omega⟩
   have hf2:N - (m+1)=f:=by omega
   rw[hf] at t1
   unfold RR.cJ at t1
   rw[if_pos hlt] at t1
   refine EU C hlow hg hF0 hk0 B1 t4 (by rw[t2,t3,<-hNN];omega) (by rw[t2];exact hw) (by rw[t2];exact hn) (by omega) (by omega) b3 λF2 si2 rs2 A2 B2=>?_
   obtain⟨k1,k2,k3,k4,_,k6⟩:=RR.dY (s:=s1) (j:=(i+j)/2) t4
   have kb:=RR.qU (s:=s1) (r:=r1) (j:=(i+j)/2)
   generalize (r1.load s1 ((i+j)/2)).1=s2 at*
   generalize (r1.load s1 ((i+j)/2)).2.1=r2 at*
   generalize (r1.load s1 ((i+j)/2)).2.2=e2 at*
   by_cases e3:e2≠0
   ·rw[if_pos e3] at t1
    refine aw (by simp[e3]) ?_
    exact hnext (by omega) _ _ ⟨i,(i+j)/2,s2,r2,F2,si2,rs2,rfl,hh1,by omega,by omega,B2,⟨by omega,by omega⟩,.inr ⟨by rw[<-t1],by rw[<-t1],by rw[<-t1];exact e3,by rw[<-t1];exact kb e3⟩⟩
   ·rw[if_neg e3] at t1
    have e3':e2=0:=by omega
    obtain⟨k7,k8⟩:=k6 e3'
    by_cases e4:bz (jU r2.ins) ll<0
    ·rw[if_pos e4] at t1
     refine aP (by simp[e3',e4]) ?_
     refine hnext (by omega) _ _ ⟨(i+j)/2+1,j,s2,r2,F2,si2,rs2,?_,by omega,hjN,by omega,B2,⟨by omega,by omega⟩,.inl ⟨by rw[hf2];exact t1,by rw[k7,t2],by rw[k2,t3],k1⟩⟩
     rw[aI _ (by omega)]
    ·rw[if_neg e4] at t1
     refine aw (by simp[e3',e4]) ?_
     exact hnext (by omega) _ _ ⟨i,(i+j)/2,s2,r2,F2,si2,rs2,rfl,hh1,by omega,by omega,B2,⟨by omega,by omega⟩,.inl ⟨by rw[hf2];exact t1,by rw[k7,t2],by rw[k2,t3],k1⟩⟩
  ·-- a page could not be looked at: the question answers yes
   have step:∀K':Bool->Heap->Prop,K' true A1->AW.sp (((i+j)/2:Nat):Int) c c1 A1 K':=by
    intro K' hk
    refine AW.of ?_
    unfold AW.vc
    refine(C.at B1.mod).1.ld (c:=ar) (x:=aD k) ?_
    unfold aD
    simp only[aq]
    refine aj.ld (c:=aa .i64) (i:=4) (x:=r1.b.wrong) B1.rd.row (bh.get 4 _ rfl) ?_
    exact aP (by rw[t4];simpa using t3) hk
   refine step _ (aw rfl ?_)
   exact hnext (by omega) _ _ ⟨i,(i+j)/2,s1,r1,F1,si1,rs1,rfl,hh1,by omega,by omega,B1,⟨by omega,by omega⟩,.inr ⟨t1,t2,t3,t4⟩⟩
 ·have hge : ¬ i < j := by have : ¬ (i : Int) < (j : Int) := by simpa using hc
                           omega
  rcases hT1 with ⟨t1,t2,t3,t4⟩|⟨t1,t2,t3,t4⟩
  ·have e:RR.cJ ll (N - m) i j s1 r1=(s1,r1,i,0):=by
    cases hq:N - m with
    |zero=>rfl
    |succ f=>unfold RR.cJ;rw[if_neg hge]
   rw[e] at t1
   have:=hK1 F1 si1 rs1 A1 (by rw[<-t1]) (by rw[<-t1];exact t2) (by rw[<-t1];exact t3) (by rw[<-t1];exact t4) (by rw[<-t1];simp only;omega) (by rw[<-t1];exact B1)
   rw[<-t1] at this
   exact this
  ·exact hK0 F1 si1 rs1 A1 _ t3 (by rw[t2];exact t4) (by rw[t1,t2];exact B1)
end
def Down (ll:List Int)(ls:List (List Int)):Prop:=∀i j,i<=j->j<ls.length->bz (ls.getD j []) ll<0->bz (ls.getD i []) ll<0
theorem ko {ll:List Int}:∀{ls:List (List Int)} {n:Nat},n<=ls.length->(∀x,x<n->bz (ls.getD x []) ll<0)->(n<ls.length->¬bz (ls.getD n []) ll<0)->below ll ls=n
 |[],n,h,_,_=>by simp at h;subst h;rfl
 |a::ls,0,_,_,h3=>by
   have:=h3 (by simp)
   unfold below
   rw[Nw,if_neg (by simpa using this)];rfl
 |a::ls,n+1,h1,h2,h3=>by
   have h0:bz a ll<0:=h2 0 (by omega)
   have ih:=ko (ll:=ll) (ls:=ls) (n:=n) (by simpa using h1) (λx hx=>h2 (x+1) (by omega)) (λhx=>h3 (by simpa using hx))
   unfold below at ih ⊢
   rw[Nw,if_pos (by simpa using h0),Ln,ih]
theorem tS {ls:List (List Int)}{i:Nat}(h:i<ls.length):ls.getD i []=ls[i]:=by rw[Lo,KJ h];rfl
theorem EL {si low:Sl}{ls:List (List Int)}{ll:List Int}{H:Heap}{K:(Int×Bool)->Heap->Prop}(h:Rows H si ls)(hl:Ints .u64 H low ll)(hd:Down ll ls)(hc:∀l∈ls,l.length<=16)(hn:ls.length<=1000000)
  (hK:∀b,K ((below ll ls:Int),b) H):GD.sp si low H K:=by
 refine GD.of ?_
 unfold GD.vc
 refine ay ls.length (λm z A=>A=H/\∃i j:Nat,z=((i:Int),(j:Int))/\i<=j/\j<=ls.length/\j - i+m<=ls.length/\(∀x,x<i->bz (ls.getD x []) ll<0)/\∀x,j<=x->x<ls.length->¬bz (ls.getD x []) ll<0) ?_ ?_
 ·refine⟨rfl,0,ls.length,?_,Lh _,KN _,by omega,λx hx=>by omega,λx h1 h2=>by omega⟩
  rw[h.len];rfl
 rintro m _ A next hm ⟨rfl,i,j,rfl,hij,hjN,hmn,hlo,hhi⟩ hnext
 refine ae (λhcc=>?_) (λhcc=>?_)
 ·have hlt : i < j := by have : (i : Int) < (j : Int) := by simpa using hcc
                         omega
  have hmid:=uw (i:=i) (j:=j) (by omega)
  simp only
  rw[hmid]
  have hh2:(i+j)/2<ls.length:=by omega
  refine h.ld hh2 λad x ha hx=>?_
  have hcol:=hc _ (Lt hh2)
  refine lz hx hl (by omega) ?_
  rw[<-tS hh2]
  refine ae (λhc2=>?_) (λhc2=>?_)
  ·have e:bz (ls.getD ((i+j)/2) []) ll<0:=by simpa using hc2
   refine hnext (by omega) _ _ ⟨rfl,(i+j)/2+1,j,?_,by omega,hjN,by omega,λy hy=>hd y ((i+j)/2) (by omega) hh2 e,hhi⟩
   rw[aI _ (by omega)]
  ·have e:¬bz (ls.getD ((i+j)/2) []) ll<0:=by simpa using hc2
   exact hnext (by omega) _ _ ⟨rfl,i,(i+j)/2,rfl,by omega,by omega,by omega,hlo,λy h1 h2 q=>e (hd ((i+j)/2) y h1 h2 q)⟩
 ·have hge : ¬ i < j := by have : ¬ (i : Int) < (j : Int) := by simpa using hcc
                           omega
  have eij:i=j:=by omega
  subst eij
  have eb:below ll ls=i:=ko hjN hlo λhx=>hhi i (KN _) hx
  rw[eb] at hK
  refine ae (λhc2=>?_) (λhc2=>?_)
  ·have hil : i < ls.length := by have : (i : Int) < (si.n : Int) := by simpa using hc2
                                  rw[h.len] at this;omega
   refine h.ld hil λad x ha hx=>?_
   have hcol:=hc _ (Lt hil)
   exact lz hx hl (by omega) (hK _)
  ·exact hK false
section
variable {H0:Heap}{F0 O0:Nat->Prop}{k p dp:Nat}{si:Sl}{rs:List Sl}{F:Nat->Prop}{A:Heap}{s:Pl}{r:RR}{low:Sl}{ll:List Int}
theorem ta {t:TypeId}{b:Rb}{rest:List Value}{n:Nat}{H:Heap}{K:Int->Heap->Prop}(h:bh H k t p b rest)(hr:0<b.room)(hn:n<=528482304)(hK:K (az n b.room:Int) H):FM.sp (aD k) (n:Int) H K:=by
 refine FM.of ?_
 unfold FM.vc
 unfold aD
 simp only[aq]
 obtain⟨rm1,rm2⟩:=cN b
 refine aj.ld (c:=aa .i64) (i:=3) (x:=aW b.width) h (bh.get 3 _ rfl) ?_
 refine aj.ld (c:=aa .i64) (i:=3) (x:=aW b.width) h (bh.get 3 _ rfl) ?_
 rw[rm1]
 refine⟨by omega,?_⟩
 have e1:KG.wrap ((n:Int)+(b.room:Int))=((n+b.room:Nat):Int):=by rw[wrap64 (by omega) (by omega)];omega
 have e2:KG.wrap (((n+b.room:Nat):Int) - 1)=((n+b.room - 1:Nat):Int):=by rw[wrap64 (by omega) (by omega)];omega
 have e3:Int.tdiv ((n+b.room - 1:Nat):Int) (b.room:Int)=((az n b.room:Nat):Int):=rfl
 rw[e1,e2,e3]
 have:=df (n:=n) hr
 rw[wrap64 (by omega) (by omega)]
 exact hK
set_option maxHeartbeats 1000000 in
theorem sE {K:Int->Heap->Prop}(hg:Gl H0)(hF0:¬F0 bx)(hk0:bx≠k)(h:c0 H0 F0 O0 k p dp si rs F A s r)(ok:r.Ok)(hl:Ints .u64 A low ll)(hlb:∀ad,low.a=some ad->ll≠[]->¬F ad.block/\ad.block≠k)(hlow:(ll.length:Int)<=r.b.width->ll.length<=1000000)
  (hn:r.b.name.size<=9223372036854775807) (hlogs:s.d.logs+528482304<68719460000) (hnx:s.next+528482304<1099511620000)
  (hfb:(r.find s ll).1.d.logs<68719470000/\(r.find s ll).1.next<1099511627776)
  (hdown:(r.find s ll).2.2.2=0->(r.find s ll).2.2.1≠az r.rows r.b.room->((r.find s ll).2.1.load (r.find s ll).1 (r.find s ll).2.2.1).2.2=0->Down ll ((r.find s ll).2.1.load (r.find s ll).1 (r.find s ll).2.2.1).2.1.ins)
  (hK:∀F' si' rs' A',c0 H0 F0 O0 k p dp si' rs' F' A' (r.bS s ll).1 (r.bS s ll).2.1->K (r.bS s ll).2.2 A'):wc.sp (aD k) low A K:=by
 refine wc.of ?_
 unfold wc.vc
 refine dH λc A1 hc1 z1 v1 e1=>?_
 refine dH λc1 A2 hc2 z2 v2 e2=>?_
 have v1':=v1.ext e2
 have B2:=(h.ext e1).ext e2
 have hFlt:∀b,F b->b<A.size:=λb hb=>h.ag.lt b hb
 have hkl:k<A.size:=aG h.rd.row
 have hllt:∀ad,low.a=some ad->ll≠[]->ad.block<A.size:=λad ha hne=>by
  obtain⟨ad',ha',hc⟩:=hl.at (i:=0) (List.length_pos_iff.2 hne)
  rw[ha] at ha';cases ha'
  have:=fK hc
  rwa [cO] at this
 have C:qQ A2 F k c c1 low ll:=by
  refine⟨v1',v2,(hl.ext e1).ext e2,λb hb=>⟨?_,?_,λad ha hne q=>(hlb ad ha hne).1 (q▸hb)⟩,?_,?_,λad ha hne q=>(hlb ad ha hne).2 q.symm⟩
  ·have:=hFlt b hb;omega
  ·have:=hFlt b hb;omega
  ·omega
  ·omega
 have hgA2:=B2.gl hg hF0 hk0
 have hFg:¬F bx:=h.ag.gu
 have G0:=B2.start
 refine(C.at (.refl _ _)).1.ld (c:=ar) (x:=aD k) ?_
 refine aw rfl ?_
 refine(C.at (.refl _ _)).1.ld (c:=ar) (x:=aD k) ?_
 unfold aD
 simp only[aq]
 unfold RR.bS at hK
 refine lh B2.rd.row ?_
 refine ae (λhc=>?_) (λhc=>?_)
 ·have e0:r.b.ready≠0:=by simpa using hc
  rw[if_pos e0] at hK
  exact hK F si rs A2 B2
 have e0:¬r.b.ready≠0:=by simpa using hc
 rw[if_neg e0] at hK
 have hw:r.b.wrong=0:=by
  unfold Rb.ready at e0
  by_cases q:r.b.wrong≠0
  ·rw[if_pos q] at e0;exact absurd q e0
  ·omega
 refine(C.at (.refl _ _)).2.1.ld (c:=av) (x:=low) ?_
 refine(C.at (.refl _ _)).1.ld (c:=ar) (x:=aD k) ?_
 unfold aD
 simp only[aq]
 refine aj.ld (c:=aa .i64) (i:=2) (x:=r.b.width) B2.rd.row (bh.get 2 _ rfl) ?_
 have hln:=hl.len
 refine ae (λhc=>?_) (λhc=>?_)
 ·have e1:(ll.length:Int)>r.b.width:=by rw[<-hln];simpa using hc
  rw[if_pos e1] at hK
  exact hK F si rs A2 B2
 have e1':¬(ll.length:Int)>r.b.width:=by rw[<-hln];simpa using hc
 rw[if_neg e1'] at hK
 have hlow:=hlow (by omega)
 refine(C.at (.refl _ _)).1.ld (c:=ar) (x:=aD k) ?_
 unfold aD
 simp only[aq]
 refine(C.at (.refl _ _)).1.ld (c:=ar) (x:=aD k) ?_
 unfold aD
 simp only[aq]
 refine aj.ld (c:=aa .i64) (i:=6) (x:=(r.rows:Int)) B2.rd.row (bh.tail (j:=0) rfl) ?_
 refine ta B2.rd.row ok.room ok.rows ?_
 have hrow:=ok.rows
 have hNle:=df (n:=r.rows) ok.room
 refine xS C hlow hgA2 hFg hk0 G0 ok hw hn (by omega) (by omega) (λF3 si3 rs3 A3 i h1 h2 B3=>?_) (λF3 si3 rs3 A3 h1 h2 h3 h4 h5 B3=>?_)
 ·rw[if_pos h1] at hK
  refine(C.at B3.mod).1.ld (c:=ar) (x:=aD k) ?_
  unfold aD
  simp only[aq]
  refine aj.ld (c:=aa .i64) (i:=4) (x:=(r.find s ll).2.1.b.wrong) B3.rd.row (bh.get 4 _ rfl) ?_
  refine aP (by rw[h2];simpa using h1) ?_
  refine(C.at B3.mod).1.ld (c:=ar) (x:=aD k) ?_
  unfold aD
  simp only[aq]
  refine aj.ld (c:=aa .i64) (i:=4) (x:=(r.find s ll).2.1.b.wrong) B3.rd.row (bh.get 4 _ rfl) ?_
  rw[h2]
  exact hK F3 si3 rs3 A3 (B2.trans B3)
 ·rw[if_neg (by rw[h1];simp)] at hK
  unfold RR.goto at hK
  rw[h2,h3] at hK
  have hok:=@RR.dY (r.find s ll).1 (r.find s ll).2.1 (r.find s ll).2.2.1 h4
  have hd1:=hdown h1
  generalize (r.find s ll).1=s3 at*
  generalize (r.find s ll).2.1=r3 at*
  generalize (r.find s ll).2.2.1=kk at*
  refine(C.at B3.mod).1.ld (c:=ar) (x:=aD k) ?_
  unfold aD
  simp only[aq]
  refine aj.ld (c:=aa .i64) (i:=4) (x:=r3.b.wrong) B3.rd.row (bh.get 4 _ rfl) ?_
  refine aw (by rw[h2,hw];rfl) ?_
  refine ae (λhc=>?_) (λhc=>?_)
  ·have e3:kk=az r.rows r.b.room:=by
    have:(kk:Int)=(az r.rows r.b.room:Int):=by simpa using hc
    omega
   rw[if_pos e3] at hK
   refine(C.at B3.mod).1.ld (c:=ar) (x:=aD k) ?_
   refine(C.at B3.mod).1.ld (c:=ar) (x:=aD k) ?_
   unfold aD
   simp only[aq]
   refine aj.ld (c:=aa .i64) (i:=6) (x:=(r3.rows:Int)) B3.rd.row (bh.tail (j:=0) rfl) ?_
   refine aj.st B3.rd.row (i:=7) (by simp[bD]) rfl λA4 r4 m4 z4=>?_
   have r4':bh A4 k Iz p r3.b [.int .i64 (r3.rows:Int),.int .i64 (r.rows:Int),.int .i64 (fT r3.page),si3.v]:=by
    have e:(bD p r3.b++[.int .i64 (r3.rows:Int),.int .i64 (r3.at_:Int),.int .i64 (fT r3.page),si3.v]).toArray.setIfInBounds 7 (.int .i64 (r3.rows:Int))=(bD p r3.b++[.int .i64 (r3.rows:Int),.int .i64 (r.rows:Int),.int .i64 (fT r3.page),si3.v]).toArray:=by
     rw[h3];simp[bD]
    rw[e] at r4;exact r4
   rw[h2,h3] at r4'
   exact hK F3 si3 rs3 A4 (B2.trans (B3.bf m4 ⟨r4',B3.rd.ins.mod m4 (λb hb q=>B3.rd.pN (q▸hb)) λx hx b hb q=>B3.rd.nF x hx (q▸hb)⟩ λb q=>.inl q))
  ·have e3:¬kk=az r.rows r.b.room:=λq=>by rw[q] at hc;simp at hc
   rw[if_neg e3] at hK
   refine(C.at B3.mod).1.ld (c:=ar) (x:=aD k) ?_
   have hkk:kk<az r.rows r.b.room:=by omega
   have hpl:=gX ok.room hkk
   refine qm hgA2 hFg hk0 B3 h4 (by rw[h2,h3];omega) (by omega) (by rw[h2];exact hn) hfb.1 hfb.2 (by have:=B3.ag.wf.tick;omega) λF4 si4 rs4 A4 B4 hz4=>?_
   obtain⟨k1,k2,k3,k4,_,k6⟩:=hok
   generalize r3.load s3 kk=L at*
   obtain⟨s4,r4,e4⟩:=L
   simp only at hK k1 k2 k3 k4 k6 B4 hd1 ⊢
   refine ae (λhc=>?_) (λhc=>?_)
   ·have e5:e4≠0:=by simpa using hc
    rw[if_pos e5] at hK
    exact hK F4 si4 rs4 A4 (B2.trans B4)
   have e5:¬e4≠0:=by simpa using hc
   rw[if_neg e5] at hK
   obtain⟨k7,k8⟩:=k6 (by omega)
   have hlen:=k1.page _ k8
   rw[k7,h2,k2,h3] at hlen
   have hil:r4.ins.length<=504:=by have:=(cN r.b).2;rw[hlen];omega
   refine(C.at B4.mod).1.ld (c:=ar) (x:=aD k) ?_
   unfold aD
   simp only[aq]
   refine aj.ld (c:=av) (i:=9) (x:=si4) B4.rd.row (bh.tail (j:=3) rfl) ?_
   refine(C.at B4.mod).2.1.ld (c:=av) (x:=low) ?_
   refine EL B4.rd.ins.rows (C.at B4.mod).2.2 (hd1 e3 (by omega)) k1.cols (by omega) λbb=>?_
   have hbl:below ll r4.ins<=r4.ins.length:=by unfold below;exact(On _).length_le
   refine(C.at B4.mod).1.ld (c:=ar) (x:=aD k) ?_
   refine(C.at B4.mod).1.ld (c:=ar) (x:=aD k) ?_
   unfold aD
   simp only[aq]
   refine aj.ld (c:=aa .i64) (i:=3) (x:=aW r4.b.width) B4.rd.row (bh.get 3 _ rfl) ?_
   refine aj.st B4.rd.row (i:=7) (by simp[bD]) rfl λA5 r5 m5 z5=>?_
   obtain⟨rm1,rm2⟩:=cN r.b
   have w1:KG.wrap ((kk:Int)*aW r4.b.width)=((kk*r.b.room:Nat):Int):=by
    rw[k7,h2,rm1]
    have:(kk:Int)*(r.b.room:Int)=((kk*r.b.room:Nat):Int):=by simp
    rw[this];exact wrap64 (by omega) (by omega)
   have w2:KG.wrap (((kk*r.b.room:Nat):Int)+(below ll r4.ins:Int))=((kk*r.b.room+below ll r4.ins:Nat):Int):=by
    rw[wrap64 (by omega) (by omega)];omega
   rw[w1,w2] at r5
   have r5':bh A5 k Iz p r4.b [.int .i64 (r4.rows:Int),.int .i64 ((kk*r.b.room+below ll r4.ins:Nat):Int),.int .i64 (fT r4.page),si4.v]:=by
    have e:(bD p r4.b++[.int .i64 (r4.rows:Int),.int .i64 (r4.at_:Int),.int .i64 (fT r4.page),si4.v]).toArray.setIfInBounds 7 (.int .i64 ((kk*r.b.room+below ll r4.ins:Nat):Int))=(bD p r4.b++[.int .i64 (r4.rows:Int),.int .i64 ((kk*r.b.room+below ll r4.ins:Nat):Int),.int .i64 (fT r4.page),si4.v]).toArray:=by
     simp[bD]
    rw[e] at r5;exact r5
   exact hK F4 si4 rs4 A5 (B2.trans (B4.bf m5 ⟨r5',B4.rd.ins.mod m5 (λb hb q=>B4.rd.pN (q▸hb)) λx hx b hb q=>B4.rd.nF x hx (q▸hb)⟩ λb q=>.inl q))
theorem BY {K:Int->Heap->Prop}(hg:Gl H0)(hF0:¬F0 bx)(hk0:bx≠k)(h:c0 H0 F0 O0 k p dp si rs F A s r)(ok:r.Ok)(hl:Ints .u64 A low ll)(hlb:∀ad,low.a=some ad->ll≠[]->¬F ad.block/\ad.block≠k)(hlow:ll.length<=1000000)
  (hn:r.b.name.size<=9223372036854775807) (hlogs:s.d.logs+528482304<68719460000) (hnx:s.next+528482304<1099511620000)
  (hfb:(r.find s ll).1.d.logs<68719470000/\(r.find s ll).1.next<1099511627776)
  (hdown:(r.find s ll).2.2.2=0->(r.find s ll).2.2.1≠az r.rows r.b.room->((r.find s ll).2.1.load (r.find s ll).1 (r.find s ll).2.2.1).2.2=0->Down ll ((r.find s ll).2.1.load (r.find s ll).1 (r.find s ll).2.2.1).2.1.ins)
  (hK:∀F' si' rs' A',c0 H0 F0 O0 k p dp si' rs' F' A' (r.bS s ll).1 (r.bS s ll).2.1->K (r.bS s ll).2.2 A'):wc.sp (aD k) low A K:=sE hg hF0 hk0 h ok hl hlb (λ_=>hlow) hn hlogs hnx hfb hdown hK
end
theorem qN {b:List Int}(h:b.length=8):gR b 1=[[bH b]]:=by
 have hs:bk 1=8:=by decide
 have ho:dC b 1=true:=by unfold dC;rw[hs,h];rfl
 unfold gR
 rw[if_pos ho,hs,h]
 have:(8/(8:Int).toNat)=1:=by decide
 rw[this]
 unfold rowsOf
 rw[hs]
 have ht:List.take 8 b=b:=List.take_of_length_le (by omega)
 simp[List.range_succ,rowOf,bI,ht]
theorem sQ {s:Pl}{n:ByteArray}{W:Int}{r:RR}(h:(rnOpen s n W).2.1=some r):r.Ok/\r.b=⟨n,W,0,false⟩/\r.at_=0/\r.page=none/\r.ins=[]:=by
 unfold rnOpen at h
 split at h
 ·cases h
 ·rename_i hr
  split at h
  ·cases h
  ·split at h
   ·cases h
   ·split at h
    ·cases h
    ·split at h
     ·rename_i hw
      cases h
      have:=gT (dy ((s.look n 0).2.2.1.drop 1))
      have h1:=hw.1
      refine⟨⟨?_,Lh _,by simp,by simp only;omega,by simp⟩,rfl,rfl,rfl,rfl⟩
      have:=cN ⟨n,W,0,false⟩
      unfold Rb.room at this ⊢
      simp only at this ⊢
      omega
     ·cases h
theorem yy {n:ByteArray}{w:Int}{H:Heap}{K:(Option Addr×Int)->Heap->Prop}(hK:∀H',Ext H H'->K (none,1) H'):xK.sp none n w H K:=by
 refine xK.of ?_
 unfold xK.vc
 refine lH (e:=1) rfl λH1 e1=>?_
 refine ao λH2 z2 r2 e2=>?_
 refine aj.iH (cs:=uT none n w) r2 hY kX (js _ _ _) λH3 r3 m3 z3=>?_
 have e3:Ext H H3:=⟨by have:=m3.size;have:=e1.size;omega,λb hb _=>(m3.same b (by have:=e1.size;omega) (by intro q;have:b=H1.size:=q;have:=e1.size;omega)).trans ((e2.same b (by have:=e1.size;omega) id).trans (e1.same b hb id))⟩
 exact aP rfl (hK H3 e3)
variable {F:Nat->Prop}{H:Heap}{p dp:Nat}{s:Pl}{n:ByteArray}{W:Int}{K:(Option Addr×Int)->Heap->Prop}
set_option maxHeartbeats 1000000 in
theorem vd (hg:Gl H)(hp:aM F H p dp s)(hn:n.size<=9223372036854775807)(hlogs:s.d.logs<68719470000)(hnx:s.next<1099511627776)(h0:0<=s.next)
  (hK0:∀F' H',aM F' H' p dp (rnOpen s n W).1->Step F F' H H'->(rnOpen s n W).2.1=none->K (none,(rnOpen s n W).2.2) H')
  (hK1:∀F' H' k r,aM F' H' p dp (rnOpen s n W).1->Step F F' H H'->(rnOpen s n W).2.1=some r->yG H' k p r ig []->H.size<=k->¬F' k->K (aD k,(rnOpen s n W).2.2) H'):xK.sp (aD p) n W H K:=by
 refine xK.of ?_
 unfold xK.vc
 refine lH (e:=if aW W=0 then 60 else 0) (if_neg (by unfold aD;simp)) λH1 e1=>?_
 refine ao λH2 z2 r2 e2=>?_
 refine aj.iH (cs:=uT (aD p) n W) r2 hY kX (js _ _ _) λH3 r3 m3 z3=>?_
 have e3:Ext H H3:=⟨by have:=m3.size;have:=e1.size;omega,λb hb _=>(m3.same b (by have:=e1.size;omega) (by intro q;have:b=H1.size:=q;have:=e1.size;omega)).trans ((e2.same b (by have:=e1.size;omega) id).trans (e1.same b hb id))⟩
 have p3:=hp.ext e3
 have g3:Gl H3:=hg.mod e3 id
 have S3:Step F F H H3:=⟨e3.mod,λb q=>.inl q⟩
 have z13:=e1.size
 have hk:¬F H1.size:=λq=>by have:=hp.lt _ q;omega
 by_cases hr:aW W=0
 ·simp only[if_pos hr]
  have em:rnOpen s n W=(s,none,60):=if_pos hr
  rw[em] at hK0
  exact aP rfl (hK0 F H3 p3 S3 rfl)
 simp only[if_neg hr]
 refine aw rfl ?_
 have b3:bh H3 H1.size pS p ⟨n,W,0,false⟩ []:=r3
 refine vX (g:=0) (b:=⟨n,W,0,false⟩) g3 b3 p3 hk (by decide) hn hlogs hnx h0 λF4 H4 sl p4 S4 o4 f4 hl4=>?_
 have em:rnOpen s n W=if (s.look n 0).2.2.2≠0 then ((s.look n 0).1,none,(s.look n 0).2.2.2)
  else if ¬((s.look n 0).2.1=2/\(s.look n 0).2.2.1.length=9/\(((s.look n 0).2.2.1.getD 0 0).toNat:Int)=W) then ((s.look n 0).1,none,280)
  else if ((s.look n 0).1.d.len n).2≠0 then ((s.look n 0).1,none,((s.look n 0).1.d.len n).2)
  else if bH (dy ((s.look n 0).2.2.1.drop 1))<=528482304/\((s.look n 0).1.d.len n).1=1+az (bH (dy ((s.look n 0).2.2.1.drop 1))).toNat (aW W).toNat then
   ((s.look n 0).1,some ⟨⟨n,W,0,false⟩,(bH (dy ((s.look n 0).2.2.1.drop 1))).toNat,0,none,[]⟩,0)
  else ((s.look n 0).1,none,280):=by unfold rnOpen;rw[if_neg hr]
 rw[em] at hK0 hK1
 simp only at p4 o4 f4 hl4 ⊢
 generalize (s.look n 0).1=s4 at*
 generalize (s.look n 0).2.1=kd at*
 generalize (s.look n 0).2.2.1=b at*
 generalize (s.look n 0).2.2.2=e at*
 have T4:=S3.trans S4
 have b4:bh H4 H1.size pS p ⟨n,W,0,false⟩ []:=b3.mod S4.mod hk
 have hb4:=bY o4
 have hbn:=hb4.n
 refine ae (λhc=>?_) (λhc=>?_)
 ·have e0:e≠0:=by simpa using hc
  rw[if_pos e0] at hK0
  exact hK0 F4 H4 p4 T4 rfl
 have e0:¬e≠0:=by simpa using hc
 rw[if_neg e0] at hK0 hK1
 refine ae (λhc=>?_) (λhc=>?_)
 ·have hnot:¬(kd=2/\b.length=9/\((b.getD 0 0).toNat:Int)=W):=by
   rintro⟨q1,q2,_⟩
   rw[hbn,q2,q1] at hc
   simp at hc
  rw[if_pos hnot] at hK0
  exact hK0 F4 H4 p4 T4 rfl
 have hk9:kd=2/\b.length=9:=by
  simp only[Bool.or_eq_false_iff,bne_eq_false_iff_eq] at hc
  refine⟨UInt8.toNat_inj.1 (by have:=hc.1;show kd.toNat=2;omega),by have:=hc.2;omega⟩
 obtain⟨hkd,hb9⟩:=hk9
 refine dZ hb4 (i:=0) (by omega) rfl λad ha=>?_
 have hw8:KG.wrap ((b[0]'(by omega)).toNat:Int)=((b.getD 0 0).toNat:Int):=by
  have:b.getD 0 0=b[0]'(by omega):=by rw[Lo,KJ (by omega)];rfl
  have hlt:=(b[0]'(by omega)).toNat_lt
  rw[this,wrap64 (by omega) (by omega)]
 rw[hw8]
 refine ae (λhc=>?_) (λhc=>?_)
 ·have hnot:¬(kd=2/\b.length=9/\((b.getD 0 0).toNat:Int)=W):=by
   rintro⟨_,_,q3⟩
   rw[q3] at hc
   simp at hc
  rw[if_pos hnot] at hK0
  exact hK0 F4 H4 p4 T4 rfl
 have hyes:¬¬(kd=2/\b.length=9/\((b.getD 0 0).toNat:Int)=W):=λq=>q ⟨hkd,hb9,by simpa only[bne_eq_false_iff_eq] using hc⟩
 rw[if_neg hyes] at hK0 hK1
 refine u7 p4 ?_
 obtain⟨D,d1,_,_⟩:=aM.ba (g3.mod S4.mod p3.gu) p4
 refine tI d1 ?_
 have hm:=Dk.kM d1.wf n
 generalize (s4.d.len n).1=N at*
 generalize (s4.d.len n).2=e5 at*
 refine ae (λhc=>?_) (λhc=>?_)
 ·have e6:e5≠0:=by simpa using hc
  rw[if_pos e6] at hK0
  exact hK0 F4 H4 p4 T4 rfl
 have e6:¬e5≠0:=by simpa using hc
 rw[if_neg e6] at hK0 hK1
 refine⟨by omega,?_⟩
 have hd:=hb4.drop o4.cap 1
 have hl8:(dy (b.drop 1)).length=8:=by rw[gh,MK];omega
 refine sL (b:=dy (b.drop 1)) hd (by have:=o4.cap;show sl.n - 1<=sl.c - 1;omega) (λx hx=>?_) (by omega) λsr rs H5 ro e5'=>?_
 ·unfold dy at hx
  obtain⟨c,_,rfl⟩:=List.mem_map.1 hx
  have:=c.toNat_lt;omega
 rw[qN hl8] at ro
 have p5:=p4.ext e5'
 have T5:Step F F4 H H5:=T4.trans ⟨e5'.mod,λb q=>.inl q⟩
 have b5:=b4.ext e5'
 refine ro.rows.ld (i:=0) (by simp) λad1 x1 ha1 hx1=>?_
 have hx1':Ints .u64 H5 x1 [bH (dy (b.drop 1))]:=hx1
 refine ir hx1' (i:=0) (j:=0) rfl (by simp) λad2 ha2=>?_
 have hwr:=gT (dy (b.drop 1))
 simp only[List.getD_cons_zero]
 obtain⟨w,hwd⟩:∃w,w=bH (dy (b.drop 1)):=⟨_,rfl⟩
 rw[<-hwd] at hK0 hK1 hwr ⊢
 have hrm:=cN ⟨n,W,0,false⟩
 refine ae (λhc=>?_) (λhc=>?_)
 ·have hw:w<=528482304:=by simpa using hc
  obtain⟨wn,rfl⟩:∃wn:Nat,w=(wn:Int):=⟨w.toNat,by omega⟩
  rw[show KG.wrap (wn:Int)=(wn:Int) from wrap64 (by omega) (by omega)]
  have hroom:0<(Rb.room ⟨n,W,0,false⟩):=by
   have:=hrm.1;simp only at this;omega
  refine ta (b:=⟨n,W,0,false⟩) b5 hroom (by omega) ?_
  have hpl:=df (n:=wn) hroom
  have hrt:Rb.room ⟨n,W,0,false⟩=(aW W).toNat:=rfl
  rw[hrt] at hpl ⊢
  have w2:KG.wrap (1+(az wn (aW W).toNat:Int))=((1+az wn (aW W).toNat:Nat):Int):=by
   rw[wrap64 (by omega) (by omega)];omega
  rw[w2]
  rw[Int.toNat_natCast] at hK0 hK1
  refine ae (λhc=>?_) (λhc=>?_)
  ·have e7:N=1+az wn (aW W).toNat:=by
    have:(N:Int)=((1+az wn (aW W).toNat:Nat):Int):=by simpa using hc
    omega
   rw[if_pos ⟨hw,e7⟩] at hK1
   refine aj.dI (x:=(aD p,n,W,aW W,0,false)) b5 rfl rfl ?_
   refine ao λH6 z6 r6 e6=>?_
   have:=T5.mod.size
   refine hK1 F4 H6 H5.size ⟨⟨n,W,0,false⟩,wn,0,none,[]⟩ (p5.ext e6) ⟨T5.mod.trans' e6 λb _ q=>q.elim,T5.own⟩ rfl ⟨r6,aY.nil _ _⟩ (by omega) λq=>by have:=p5.lt _ q;omega
  ·have e7:¬(((wn:Nat):Int)<=528482304/\N=1+az wn (aW W).toNat):=λq=>by
    rw[q.2] at hc;simp at hc
   rw[if_neg e7] at hK0
   exact hK0 F4 H5 p5 T5 rfl
 ·have hw:¬w<=528482304:=by simpa using hc
  rw[if_neg (λq=>hw q.1)] at hK0
  exact hK0 F4 H5 p5 T5 rfl
end Go.Proofs.YtdpdmbceakdlmaaGreatDoor
namespace Go.Proofs.YtdpdmbceakdlmaaGreatDoor
structure pM (r:RR)(n:ByteArray)(W room:Nat)(rs:List (List Int)):Prop where
 b:r.b=⟨n,W,0,false⟩
 rows:r.rows=rs.length
 at_:r.at_<=rs.length
 page:∀j,r.page=some j->j<az rs.length room/\r.ins=bZ rs room j
 cols:∀l∈r.ins,l.length<=16
theorem jk {rs:List (List Int)}{room j:Nat}:(bZ rs room j).length=min room (rs.length - j*room):=by
 unfold bZ;rw[List.length_take,MK]
theorem jg {rs:List (List Int)}{room j i:Nat}(hi:i<room):(bZ rs room j).getD i []=rs.getD (j*room+i) []:=by
 unfold bZ
 simp only[Lo]
 rw[List.getElem?_take,if_pos hi,List.getElem?_drop]
section
variable {p:Pl}{r:RR}{n:ByteArray}{W:Nat}{rs:List (List Int)}{q:Nat}
theorem pM.room (h:pM r n W (bC W) rs)(h1:0<=W)(h2:W<=16):r.b.room=bC W:=by
 unfold Rb.room
 rw[h.b]
 simp only
 rw[(bQ h1 h2).1];rfl
theorem uO.load (h:uO p n W (bC W) rs q)(hd:pM r n W (bC W) rs)(h1:0<=W)(h2:W<=16)(hr:iv W rs)(hs:n.size<=9223372036854775807)(hq:q<=1048576)(hqN:1+az rs.length (bC W)<=q)
  (h0:0<=p.next) (hnx:p.next<1099511627776) {j:Nat} (hj:j<az rs.length (bC W)):
  (r.load p j).2.2=0/\uO (r.load p j).1 n W (bC W) rs q/\pM (r.load p j).2.1 n W (bC W) rs/\(r.load p j).2.1.ins=bZ rs (bC W) j/\(r.load p j).2.1.at_=r.at_/\p.next<=(r.load p j).1.next/\(r.load p j).1.next<=p.next+1:=by
 have hrm:=hd.room h1 h2
 obtain⟨r1,r2,r3,r4⟩:=bQ h1 h2
 generalize bC W=room at*
 unfold RR.load
 by_cases hp:r.page=some j
 ·rw[if_pos hp]
  exact⟨rfl,h,hd,(hd.page j hp).2,rfl,Mc _,by show p.next<=p.next+1;omega⟩
 rw[if_neg hp]
 obtain⟨T,c1,c2,c3⟩:=h.calm
 obtain⟨l1,l2,l3,l4⟩:=c1.look (k:=j+1) hq hs h0 hnx (by omega) hqN
 have e1:((j+1:Nat):Int)=(j:Int)+1:=by omega
 rw[e1,c3 j hj] at l1
 rw[e1] at l2 l3
 rw[hd.b]
 simp only
 rw[l1]
 simp only
 have hsub:∀l∈bZ rs room j,l∈rs:=λl hl=>List.mem_of_mem_drop (List.mem_of_mem_take (show l∈(rs.drop _).take _ from hl))
 obtain⟨g1,g2⟩:=mw h2 (λl hl=>hr.len l (hsub l hl)) (λl hl=>hr.fit l (hsub l hl))
 rw[<-oC] at g1 g2
 have hok:dC (dy (cz (bZ rs room j))) W=true:=by
  unfold lP at g2
  cases e:dC (dy (cz (bZ rs room j))) W with
  |true=>rfl
  |false=>rw[e] at g2;simp at g2
 have hfit:r.fits j 1 (cz (bZ rs room j))=true:=by
  unfold RR.fits
  rw[hd.b,hd.rows]
  simp only
  rw[hok,g1,jk]
  have:Rb.room ⟨n,W,0,false⟩=room:=by rw[<-hd.b];exact hrm
  rw[this];simp
 rw[if_neg (by simp),if_pos hfit]
 refine⟨rfl,⟨T,l2,c2,c3⟩,⟨rfl,hd.rows,hd.at_,λi hi=>?_,sM⟩,g1,rfl,?_,?_⟩
 ·simp only at hi;cases hi
  exact⟨hj,g1⟩
 ·rw[l3];omega
 ·rw[l3];exact Mc _
theorem uO.next (h:uO p n W (bC W) rs q)(hd:pM r n W (bC W) rs)(h1:0<=W)(h2:W<=16)(hr:iv W rs)(hs:n.size<=9223372036854775807)(hq:q<=1048576)(hqN:1+az rs.length (bC W)<=q)
  (h0:0<=p.next) (hnx:p.next<1099511627776):
  (r.at_<rs.length->(r.next p).2.2=(rs.getD r.at_ [],true,0)/\uO (r.next p).1 n W (bC W) rs q/\pM (r.next p).2.1 n W (bC W) rs/\(r.next p).2.1.at_=r.at_+1/\p.next<=(r.next p).1.next/\(r.next p).1.next<=p.next+1)/\
  (r.at_=rs.length->r.next p=(p,r,[],false,0)):=by
 have hrdy:¬r.b.ready≠0:=by rw[hd.b];simp[Rb.ready]
 have hrm:=hd.room h1 h2
 refine⟨λha=>?_,λha=>?_⟩
 ·have hr3:=(bQ h1 h2).2.1
  have hpj:r.at_/(bC W)<az rs.length (bC W):=by
   unfold az
   rw[P8,NP (by omega),MG]
   have:=Od r.at_ (bC W)
   omega
  obtain⟨l1,l2,l3,l4,l5,l6,l7⟩:=h.load hd h1 h2 hr hs hq hqN h0 hnx hpj
  unfold RR.next
  rw[if_neg hrdy,if_neg (by rw[hd.rows];omega),hrm,if_neg (by rw[l1];simp)]
  simp only
  have hm:=MZ r.at_ (show 0<bC W by omega)
  have hdm:=Ng r.at_ (bC W)
  have hmc:(bC W)*(r.at_/(bC W))=r.at_/(bC W)*(bC W):=NK _ _
  have hat:r.at_/(bC W)*(bC W)+r.at_%(bC W)=r.at_:=by omega
  have eg:(r.load p (r.at_/(bC W))).2.1.ins.getD (r.at_%(bC W)) []=rs.getD r.at_ []:=by rw[l4,jg hm,hat]
  rw[eg]
  exact⟨by first|trivial|rfl,l2,⟨l3.b,l3.rows,by show r.at_+1<=_;omega,l3.page,l3.cols⟩,by first|trivial|rfl,l6,l7⟩
 ·unfold RR.next
  rw[if_neg hrdy,if_pos (by rw[hd.rows];exact ha)]
theorem iv.mono (hr:iv W rs):∀{i j:Nat},i<j->j<rs.length->bz (rs.getD i []) (rs.getD j [])<0
 |i,0,h,_=>by omega
 |i,j+1,h,hj=>by
   rcases Lr i j with q|q
   ·exact mE (hr.mono q (by omega)) (hr.up j hj)
   ·have:i=j:=by omega
    subst this;exact hr.up i hj
theorem iv.down (hr:iv W rs)(ll:List Int):Down ll rs:=λi j hij hj h=>by
 rcases Lr i j with q|q
 ·exact mE (hr.mono q hj) h
 ·have:i=j:=by omega
  subst this;exact h
theorem qB (ll:List Int)(ls:List (List Int)):below ll ls<=ls.length:=(On _).length_le
theorem kY {ll:List Int}:∀{ls:List (List Int)},Down ll ls->∀{i:Nat},i<ls.length->(bz (ls.getD i []) ll<0↔i<below ll ls)
 |[],_,i,h=>by simp at h
 |a::ls,hd,i,h=>by
   have hd':Down ll ls:=λx y h1 h2 h3=>hd (x+1) (y+1) (by omega) (by simpa using h2) h3
   unfold below
   rw[Nw]
   by_cases ha:bz a ll<0
   ·rw[if_pos (by simpa using ha),Ln]
    cases i with
    |zero=>exact⟨λ_=>by omega,λ_=>ha⟩
    |succ i=>
      have:=kY (ll:=ll) (ls:=ls) hd' (i:=i) (by simpa using h)
      unfold below at this
      show bz (ls.getD i []) ll<0↔_
      rw[this];omega
   ·rw[if_neg (by simpa using ha)]
    refine⟨λq=>absurd (hd 0 i (Lh _) h q) ha,λq=>by simp at q⟩
def eI (ll:List Int)(rs:List (List Int))(room:Nat):Nat:=if below ll rs=rs.length then az rs.length room else below ll rs/room
theorem Dx (hr:iv W rs)(ll:List Int){room j:Nat}(h3:1<=room)(hj:j<az rs.length room):bz (jU (bZ rs room j)) ll<0↔j<eI ll rs room:=by
 have hjl:=gX h3 hj
 have hlen:=jk (rs:=rs) (room:=room) (j:=j)
 have e:jU (bZ rs room j)=rs.getD (j*room+((bZ rs room j).length - 1)) []:=by
  unfold jU;exact jg (by omega)
 rw[e,kY (hr.down ll) (by omega)]
 unfold eI
 have hle:=qB ll rs
 split
 ·rename_i hb
  rw[hb];omega
 ·rename_i hb
  rw[<-Nat.add_one_le_iff (n:=j),NP h3,MG]
  omega
theorem uO.cJ (h1:0<=W)(h2:W<=16)(hr:iv W rs)(hs:n.size<=9223372036854775807)(hq:q<=1048576)(hqN:1+az rs.length (bC W)<=q)(ll:List Int):∀(f i j:Nat) (p:Pl) (r:RR),uO p n W (bC W) rs q->pM r n W (bC W) rs->0<=p.next->p.next+f<1099511627776->
  i<=eI ll rs (bC W)->eI ll rs (bC W)<=j->j<=az rs.length (bC W)->j - i<=f->
  (RR.cJ ll f i j p r).2.2=(eI ll rs (bC W),0)/\uO (RR.cJ ll f i j p r).1 n W (bC W) rs q/\pM (RR.cJ ll f i j p r).2.1 n W (bC W) rs/\p.next<=(RR.cJ ll f i j p r).1.next/\(RR.cJ ll f i j p r).1.next<=p.next+f
 |0,i,j,p,r,hp,hd,h0,hnx,hi,hj,hjN,hf=>by
   have:i=eI ll rs (bC W):=by omega
   unfold RR.cJ
   exact⟨by rw[<-this],hp,hd,Mc _,by show p.next<=p.next+0;omega⟩
 |f+1,i,j,p,r,hp,hd,h0,hnx,hi,hj,hjN,hf=>by
   have hr3:=(bQ h1 h2).2.1
   unfold RR.cJ
   by_cases hlt:i<j
   ·rw[if_pos hlt]
    have hm:(i+j)/2<az rs.length (bC W):=by omega
    obtain⟨l1,l2,l3,l4,l5,l6,l7⟩:=hp.load hd h1 h2 hr hs hq hqN h0 (by omega) hm
    have hl:=Dx hr ll (room:=bC W) (by omega) hm
    rw[if_neg (by rw[l1];simp),l4]
    by_cases hc:bz (jU (bZ rs (bC W) ((i+j)/2))) ll<0
    ·rw[if_pos hc]
     have:=hl.1 hc
     obtain⟨a1,a2,a3,a4,a5⟩:=uO.cJ h1 h2 hr hs hq hqN ll f ((i+j)/2+1) j (r.load p ((i+j)/2)).1 (r.load p ((i+j)/2)).2.1 l2 l3 (by omega) (by omega) (by omega) hj hjN (by omega)
     exact⟨a1,a2,a3,by omega,by omega⟩
    ·rw[if_neg hc]
     have:¬(i+j)/2<eI ll rs (bC W):=λq=>hc (hl.2 q)
     obtain⟨a1,a2,a3,a4,a5⟩:=uO.cJ h1 h2 hr hs hq hqN ll f i ((i+j)/2) (r.load p ((i+j)/2)).1 (r.load p ((i+j)/2)).2.1 l2 l3 (by omega) (by omega) hi (by omega) (by omega) (by omega)
     exact⟨a1,a2,a3,by omega,by omega⟩
   ·rw[if_neg hlt]
    have:i=eI ll rs (bC W):=by omega
    exact⟨by rw[<-this],hp,hd,Mc _,by show p.next<=p.next+((f+1:Nat):Int);omega⟩
theorem uO.bS (h:uO p n W (bC W) rs q)(hd:pM r n W (bC W) rs)(h1:0<=W)(h2:W<=16)(hr:iv W rs)(hs:n.size<=9223372036854775807)(hq:q<=1048576)(hqN:1+az rs.length (bC W)<=q)
  (h0:0<=p.next) (hnx:p.next+rs.length<1099511600000) {ll:List Int} (hll:ll.length<=W):
  (r.bS p ll).2.2=0/\uO (r.bS p ll).1 n W (bC W) rs q/\pM (r.bS p ll).2.1 n W (bC W) rs/\(r.bS p ll).2.1.at_=below ll rs/\p.next<=(r.bS p ll).1.next/\(r.bS p ll).1.next<=p.next+rs.length+1/\
  (r.find p ll).2.2=(eI ll rs (bC W),0)/\p.next<=(r.find p ll).1.next/\(r.find p ll).1.next<=p.next+rs.length/\(eI ll rs (bC W)≠az rs.length (bC W)->Down ll ((r.find p ll).2.1.load (r.find p ll).1 (r.find p ll).2.2.1).2.1.ins):=by
 have hrdy:¬r.b.ready≠0:=by rw[hd.b];simp[Rb.ready]
 have hrm:=hd.room h1 h2
 have hr3:=(bQ h1 h2).2.1
 have hble:=qB ll rs
 have hNle:=df (n:=rs.length) (show 0<bC W by omega)
 have hpt:eI ll rs (bC W)<=az rs.length (bC W):=by
  unfold eI
  split
  ·exact KN _
  ·rename_i hb
   unfold az
   exact Nat.div_le_div_right (by omega)
 have ef:r.find p ll=RR.cJ ll (az rs.length (bC W)) 0 (az rs.length (bC W)) p r:=by
  unfold RR.find;rw[hrm,hd.rows]
 obtain⟨s1,s2,s3,s4,s5⟩:=uO.cJ h1 h2 hr hs hq hqN ll (az rs.length (bC W)) 0 (az rs.length (bC W)) p r h hd h0 (by omega) (Lh _) hpt (KN _) (by omega)
 rw[<-ef] at s1 s2 s3 s4 s5
 have e:r.bS p ll=(r.find p ll).2.1.goto (r.find p ll).1 ll (eI ll rs (bC W)):=by
  unfold RR.bS
  rw[if_neg hrdy,if_neg (by rw[hd.b];simp only;omega),s1,if_neg (by simp)]
 rw[e,s1]
 have hroom:=s3.room h1 h2
 generalize (r.find p ll).1=p3 at*
 generalize (r.find p ll).2.1=r3 at*
 have hdn:∀j,Down ll (bZ rs (bC W) j):=λj x y hxy hy hc=>by
  rw[jk] at hy
  rw[jg (by omega)] at hc ⊢
  exact hr.down ll _ _ (by omega) (by omega) hc
 unfold RR.goto
 rw[s3.rows,hroom]
 by_cases hb:below ll rs=rs.length
 ·have ept:eI ll rs (bC W)=az rs.length (bC W):=if_pos hb
  rw[if_pos ept]
  exact⟨rfl,s2,⟨s3.b,rfl,KN _,s3.page,s3.cols⟩,hb.symm,s4,by show p3.next<=_;omega,rfl,s4,by omega,λq=>absurd ept q⟩
 ·have ept:eI ll rs (bC W)=below ll rs/(bC W):=if_neg hb
  have hltB:below ll rs<rs.length:=by omega
  have hlt:eI ll rs (bC W)<az rs.length (bC W):=by
   rw[ept]
   unfold az
   rw[P8,NP (by omega),MG]
   have:=Od (below ll rs) (bC W)
   omega
  rw[if_neg (by omega)]
  obtain⟨l1,l2,l3,l4,l5,l6,l7⟩:=s2.load s3 h1 h2 hr hs hq hqN (by omega) (by omega) hlt
  rw[if_neg (by rw[l1];simp)]
  have hbl:eI ll rs (bC W)*(bC W)+below ll (bZ rs (bC W) (eI ll rs (bC W)))=below ll rs:=by
   have hm:=MZ (below ll rs) (show 0<bC W by omega)
   have hdm:=Ng (below ll rs) (bC W)
   have hmc:(bC W)*(below ll rs/(bC W))=below ll rs/(bC W)*(bC W):=NK _ _
   have:below ll (bZ rs (bC W) (eI ll rs (bC W)))=below ll rs%(bC W):=by
    rw[ept]
    refine ko (by rw[jk];omega) (λx hx=>?_) (λhx=>?_)
    ·rw[jg (by omega),kY (hr.down ll) (by omega)];omega
    ·rw[jg hm,kY (hr.down ll) (by omega)];omega
   rw[this,ept];omega
  rw[l4,hbl]
  refine⟨rfl,l2,⟨l3.b,l3.rows,by show below ll rs<=_;omega,l3.page,l3.cols⟩,rfl,?_,?_,rfl,s4,by omega,λ_=>hdn _⟩
  ·show p.next<=(r3.load p3 (eI ll rs (bC W))).1.next;omega
  ·show (r3.load p3 (eI ll rs (bC W))).1.next<=_;omega
end
structure bX (p:Pl)(T:Nat->UInt8×List UInt8):Prop where
 told:∃pg,Told p nmF 3 20 T pg
def Hd (p:Pl)(k:Nat)(x:Int):Prop:=∃(i:Nat) (f:Fr),p.fs[i]?=some f/\f.page=k/\x∈f.pins
theorem Told.JO {p:Pl}{n:ByteArray}{q:Nat}{T:Nat->UInt8×List UInt8}{pg:List Pg}(h:Told p n 3 q T pg)(hw:p.WF):p.fs.length<4:=by
 refine Nat.lt_of_not_le λhl=>?_
 have g:∀i (hi:i<p.fs.length),(p.fs[i]).page<3:=λi hi=>(h.mine _ (Lt hi)).2.1
 have ne:∀i j (hi:i<p.fs.length) (hj:j<p.fs.length),i≠j->(p.fs[i]).page≠(p.fs[j]).page:=λi j hi hj hne e=>hne (h.inj hw (KJ hi) (KJ hj) e)
 have g0:=g 0 (by omega)
 have g1:=g 1 (by omega)
 have g2:=g 2 (by omega)
 have g3:=g 3 (by omega)
 have n1:=ne 0 1 (by omega) (by omega) (by decide)
 have n2:=ne 0 2 (by omega) (by omega) (by decide)
 have n3:=ne 0 3 (by omega) (by omega) (by decide)
 have n4:=ne 1 2 (by omega) (by omega) (by decide)
 have n5:=ne 1 3 (by omega) (by omega) (by decide)
 have n6:=ne 2 3 (by omega) (by omega) (by decide)
 omega
section
variable {p:Pl}{T:Nat->UInt8×List UInt8}{k:Nat}{x:Int}
theorem bX.aR (h:bX p T)(hw:p.WF)(h1:p.next<1099511627776)(hk:k<3):(p.aR nmF k).2=(p.next,0)/\bX (p.aR nmF k).1 T/\(p.aR nmF k).1.WF/\Hd (p.aR nmF k).1 k p.next/\(∀k' x,Hd p k' x->Hd (p.aR nmF k).1 k' x)/\(p.aR nmF k).1.next=p.next+1:=by
 obtain⟨⟨pg,t⟩⟩:=h
 have hfew:=t.JO hw
 have hm:=hw.most
 have ht:=hw.tick
 have hnx:da (p.next+1)=p.next+1:=qP (by omega) h1
 cases hi:p.find nmF (k:Int) with
 |some i=>
   obtain⟨f,hf,hfn,hfk⟩:=Pl.eS hi
   obtain⟨r1,r2⟩:=t.DQ hi hf
   rw[r1]
   refine⟨rfl,⟨⟨pg,r2⟩⟩,hw.dE hf (by omega),⟨i,Fr.aR p.next f,bo hf,by show f.page=k;omega,by show p.next∈f.pins++[p.next];simp⟩,λk' x ⟨j,g,hj,hk',hx⟩=>?_,hnx⟩
   by_cases e:i=j
   ·subst e
    rw[hf] at hj
    cases hj
    exact⟨i,_,bo hf,hk',by show x∈f.pins++[_];simp[hx]⟩
   ·exact⟨j,g,(bq e).trans hj,hk',hx⟩
 |none=>
   obtain⟨r1,r2,r3,r4,pg',r5⟩:=t.zi hw hi hk (.inl (by omega))
   have hroom:p.room=(p,0):=by unfold Pl.room;rw[if_pos (by omega)]
   have hlen:p.d.len nmF=(3,0):=by rw[t.ba.len,t.len]
   have hno:∀g∈p.fs,g.page≠k:=λg hgm e=>Pl.fX hi g hgm (t.mine g hgm).1 (by omega)
   obtain⟨b,hb⟩:∃b,pg[k]?=some b:=⟨_,KJ (by rw[t.len];exact hk)⟩
   have ho:=t.rest k b hb λg hgm e=>absurd e (hno g hgm)
   have el:p.load nmF k=(p,some ⟨nmF,k,(T k).1,(T k).2,false,[],0⟩,0):=by
    unfold Pl.load
    rw[hlen,hroom]
    simp only
    rw[if_neg (by simp),if_neg (by omega),if_neg (by simp),t.ba.read hb]
    simp only
    rw[if_neg (by simp),ho]
    simp
   have e:p.aR nmF k=(p.take ⟨nmF,k,(T k).1,(T k).2,false,[],0⟩,p.next,0):=by
    unfold Pl.aR
    rw[if_neg (by rw[t.wrong];simp),hi,el]
   have hwf:(p.aR nmF k).1.WF:=by
    rw[e]
    exact hw.take (by omega) (by omega) hi (qv ho) (by simp only;omega) (show nmF.size<=9223372036854775807 by decide) rfl rfl
   rw[hroom] at r2
   refine⟨r1,⟨⟨pg',r5⟩⟩,hwf,⟨p.fs.length,_,by rw[r2];simp;rfl,rfl,by simp⟩,λk' x ⟨j,g,hj,hk',hx⟩=>⟨j,g,?_,hk',hx⟩,r3.trans hnx⟩
   rw[r2,List.getElem?_append_left (List.getElem?_eq_some_iff.1 hj).1]
   exact hj
theorem bX.set (h:bX p T)(hw:p.WF)(hx:Hd p k x){c:UInt8}{b:List UInt8}(hb:b.length<=504):(p.set x c b).2=0/\bX (p.set x c b).1 (lO T k (c,b))/\(∀k' y,Hd p k' y->Hd (p.set x c b).1 k' y)/\(p.set x c b).1.next=p.next:=by
 obtain⟨⟨pg,t⟩⟩:=h
 obtain⟨i,f,hf,rfl,hx⟩:=hx
 obtain⟨s1,s2⟩:=t.set hw hf hx (k:=c) (b:=b) hb
 rw[s1]
 refine⟨rfl,⟨⟨pg,s2⟩⟩,λk' y ⟨j,g,hj,hk',hy⟩=>?_,rfl⟩
 by_cases e:i=j
 ·subst e
  rw[hf] at hj
  cases hj
  exact⟨i,Fr.set c b f,bo hf,hk',hy⟩
 ·exact⟨j,g,(bq e).trans hj,hk',hy⟩
theorem bX.aB (h:bX p T)(hw:p.WF)(hx:Hd p k x):bX (p.aB x).1 T/\(∀k' y,y≠x->Hd p k' y->Hd (p.aB x).1 k' y)/\(p.aB x).1.next=p.next:=by
 obtain⟨⟨pg,t⟩⟩:=h
 obtain⟨i,f,hf,rfl,hx⟩:=hx
 obtain⟨u1,u2⟩:=t.aB hw hf hx
 refine⟨⟨⟨pg,u2⟩⟩,λk' y hne ⟨j,g,hj,hk',hy⟩=>?_,by rw[u1]⟩
 rw[u1]
 by_cases e:i=j
 ·subst e
  rw[hf] at hj
  cases hj
  exact⟨i,Fr.aB x (da (p.tick+1)) f,bo hf,hk',by simp[Fr.aB,hy,hne]⟩
 ·exact⟨j,g,(bq e).trans hj,hk',hy⟩
theorem bX.look (h:bX p T)(hw:p.WF)(h1:p.next<1099511627776)(hk:k<3):(p.look nmF k).2=((T k).1,(T k).2,0)/\bX (p.look nmF k).1 T/\(p.look nmF k).1.WF/\(p.look nmF k).1.next=p.next+1:=by
 obtain⟨r1,r2,r3,r4,r5,r6⟩:=h.aR hw h1 hk
 obtain⟨i,f,q1,q2,q3⟩:=r4
 obtain⟨pg,t⟩:=r2.told
 have g1:=t.get r3 (x:=p.next) (List.mem_of_getElem? q1) q3
 obtain⟨u1,u2,u3⟩:=r2.aB r3 ⟨i,f,q1,q2,q3⟩
 have u4:=r3.aB p.next (by omega)
 have u5:((p.aR nmF k).1.aB p.next).2=0:=by rw[(t.aB r3 q1 q3).1]
 unfold Pl.look
 rw[r1]
 simp only
 rw[if_neg (by simp),g1]
 simp only
 rw[if_neg (by simp),u5,q2]
 exact⟨rfl,u1,u4,u3.trans r6⟩
theorem bX.len (h:bX p T):p.d.len nmF=(3,0):=by
 obtain⟨⟨pg,t⟩⟩:=h
 rw[t.ba.len,t.len]
theorem yL:aW 1=63:=by decide
theorem bX.bad (h:bX p T)(hw:p.WF)(h1:p.next<1099511627776){c:UInt8}{b:List UInt8}(hT:T 0=(c,b))(hb:¬(c=2/\b.length=9/\((b.getD 0 0).toNat:Int)=1)\/¬(bH (dy (b.drop 1))<=528482304/\3=1+az (bH (dy (b.drop 1))).toNat 63)):(rnOpen p nmF 1).2=(none,280):=by
 obtain⟨l1,l2,l3,l4⟩:=h.look hw h1 (k:=0) (by decide)
 have l1':(p.look nmF 0).2=(c,b,0):=l1.trans (by rw[hT])
 have hl:(p.look nmF 0).1.d.len nmF=(3,0):=l2.len
 unfold rnOpen
 rw[if_neg (by rw[yL];decide),l1',if_neg (by simp)]
 simp only
 by_cases q:c=2/\b.length=9/\((b.getD 0 0).toNat:Int)=1
 ·rw[if_neg (by simpa using q),hl,if_neg (by simp),if_neg (by
   rw[yL]
   exact hb.resolve_left λu=>u q)]
 ·rw[if_pos q]
theorem bX.DM (h:bX p T)(hw:p.WF)(h1:p.next<1099511627776){b:List UInt8}{m:Nat}(hT:T 0=(2,b))(hb:b.length=9/\((b.getD 0 0).toNat:Int)=1)(hm:bH (dy (b.drop 1))=m)(hm2:m<=528482304/\3=1+az m 63):(rnOpen p nmF 1).2=(some ⟨⟨nmF,1,0,false⟩,m,0,none,[]⟩,0)/\bX (rnOpen p nmF 1).1 T/\(rnOpen p nmF 1).1.WF/\(rnOpen p nmF 1).1.next=p.next+1:=by
 obtain⟨l1,l2,l3,l4⟩:=h.look hw h1 (k:=0) (by decide)
 have l1':(p.look nmF 0).2=(2,b,0):=l1.trans (by rw[hT])
 have l2':bX (p.look nmF 0).1 T:=l2
 have hl:(p.look nmF 0).1.d.len nmF=(3,0):=l2.len
 have e:rnOpen p nmF 1=((p.look nmF 0).1,some ⟨⟨nmF,1,0,false⟩,m,0,none,[]⟩,0):=by
  unfold rnOpen
  rw[if_neg (by rw[yL];decide),l1',if_neg (by simp)]
  simp only
  rw[if_neg (by simpa using hb),hl,if_neg (by simp),hm,if_pos ⟨by omega,by rw[yL];exact hm2.2⟩]
  rfl
 rw[e]
 exact⟨rfl,l2',l3,l4⟩
def db:RR:=⟨⟨nmF,1,0,false⟩,70,0,none,[]⟩
theorem bX.yH (h:bX p T)(hw:p.WF)(h1:p.next<1099511627776)(hT:(T 1).1=2):(db.next p).2.2=([],false,280)/\(db.next p).2.1.b.ready=280/\(db.next p).2.1={db with b:=db.b.bO 280}/\(db.next p).1.next=p.next+1:=by
 obtain⟨l1,l2,l3,l4⟩:=h.look hw h1 (k:=1) (by decide)
 have hl:(p.look nmF (((0:Nat):Int)+1))=((p.look nmF ((1:Nat):Int)).1,2,(T 1).2,0):=by
  show (p.look nmF ((1:Nat):Int))=_
  rw[<-hT,<-l1]
 have e:db.load p 0=((p.look nmF ((1:Nat):Int)).1,{db with b:=db.b.bO 280},280):=by
  unfold RR.load
  have hn:db.b.name=nmF:=rfl
  rw[if_neg (by simp[db]),hn,hl]
  simp only
  rw[if_neg (by simp),if_neg (by simp[RR.fits])]
 have e2:db.next p=((p.look nmF ((1:Nat):Int)).1,{db with b:=db.b.bO 280},[],false,280):=by
  unfold RR.next
  rw[if_neg (by decide),if_neg (by decide)]
  have:db.at_/db.b.room=0:=by decide
  rw[this,e,if_pos (by simp)]
 rw[e2]
 exact⟨rfl,rfl,rfl,l4⟩
theorem bX.IP (h:bX p T)(hw:p.WF)(h1:p.next<1099511627776)(hT:T 2=(1,KY 8 0)):(db.find p [69]).2.2.2=280/\(db.find p [69]).1=(p.look nmF ((2:Nat):Int)).1/\(db.bS p [69]).2.2=280/\(p.look nmF ((2:Nat):Int)).1.next=p.next+1:=by
 obtain⟨l1,l2,l3,l4⟩:=h.look hw h1 (k:=2) (by decide)
 have hl:(p.look nmF (((1:Nat):Int)+1))=((p.look nmF ((2:Nat):Int)).1,1,KY 8 0,0):=by
  show (p.look nmF ((2:Nat):Int))=_
  have:(p.look nmF ((2:Nat):Int)).2=(1,KY 8 0,0):=by rw[l1,hT]
  rw[<-this]
 have e:db.load p 1=((p.look nmF ((2:Nat):Int)).1,{db with b:=db.b.bO 280},280):=by
  unfold RR.load
  have hn:db.b.name=nmF:=rfl
  rw[if_neg (by simp[db]),hn,hl]
  simp only
  rw[if_neg (by simp),if_neg (by decide)]
 have hN:az db.rows db.b.room=2:=by decide
 have e2:db.find p [69]=((p.look nmF ((2:Nat):Int)).1,{db with b:=db.b.bO 280},0,280):=by
  unfold RR.find
  rw[hN]
  unfold RR.cJ
  have:(0+2)/2=1:=rfl
  rw[if_pos (by decide),this,e,if_pos (by simp)]
 refine⟨by rw[e2],by rw[e2],?_,l4⟩
 unfold RR.bS
 rw[if_neg (by decide),if_neg (by decide),e2,if_pos (by simp)]
end
open Go.MapKept
section
variable {s:Pl}{w:RW}
theorem Pl.zx (r:Pl×Int)(h:Int):(Pl.leave r h).1.d=r.1.d:=by
 unfold Pl.leave;split
 ·exact Pl.lL _ _
 ·rfl
theorem Pl.xi (r:Pl×Int)(h:Int):(Pl.leave r h).1.next=r.1.next:=by
 unfold Pl.leave;split
 ·exact Pl.jE _ _
 ·rfl
theorem Pl.oY (n:ByteArray)(k:UInt8)(b:List UInt8)(h0:0<=s.next)(h1:s.next<1099511627776):(s.more n k b).1.d.logs<=s.d.logs+2/\(s.more n k b).1.next<=s.next+1:=by
 have a:=s.qE n
 have c:=s.jM (n:=n) h0 h1
 unfold Pl.more
 split
 ·exact⟨a,c⟩
 ·rw[Pl.zx,Pl.xi]
  split
  ·exact⟨a,c⟩
  ·rw[Pl.rm,Pl.iu];exact⟨a,c⟩
theorem RW.qG (h0:0<=s.next)(h1:s.next<1099511627776):(w.out s).1.d.logs<=s.d.logs+2/\(w.out s).1.next<=s.next+1:=by
 have:=Pl.oY (s:=s) w.b.name 1 w.wait h0 h1
 unfold RW.out
 split
 ·exact⟨by show s.d.logs<=_;omega,by show s.next<=_;omega⟩
 ·exact this
theorem RW.mz {l:List Int}(h0:0<=s.next)(h1:s.next<1099511627776):(w.add s l).1.d.logs<=s.d.logs+2/\(w.add s l).1.next<=s.next+1:=by
 have:=RW.qG (w:=w.push l) h0 h1
 unfold RW.add
 split
 ·exact⟨by show s.d.logs<=_;omega,by show s.next<=_;omega⟩
 ·split
  ·exact⟨by show s.d.logs<=_;omega,by show s.next<=_;omega⟩
  ·split
   ·exact⟨by show s.d.logs<=_;omega,by show s.next<=_;omega⟩
   ·split
    ·exact⟨by show s.d.logs<=_;omega,by show s.next<=_;omega⟩
    ·exact this
theorem lS {n:ByteArray}{W:Int}(h0:0<=s.next)(h1:s.next<1099511627776):(aJ s n W).1.d.logs<=s.d.logs+2/\(aJ s n W).1.next<=s.next+1:=by
 have a:=s.d.iI n
 have b:=Pl.oY (s:=s.aZ (s.d.create n).1) n 0 [] h0 h1
 have e1:(s.aZ (s.d.create n).1).d.logs=(s.d.create n).1.logs:=rfl
 have e2:(s.aZ (s.d.create n).1).next=s.next:=rfl
 rw[e1,e2] at b
 unfold aJ
 split
 ·exact⟨by show s.d.logs<=_;omega,by show s.next<=_;omega⟩
 ·split
  ·exact⟨by show (s.d.create n).1.logs<=_;omega,by show s.next<=_;omega⟩
  ·split
   ·exact⟨by have:=b.1;simp only;omega,b.2⟩
   ·exact⟨by have:=b.1;simp only;omega,b.2⟩
end
def TW (H A:Heap)(k p dp:Nat)(s:Pl)(w:RW):Prop:=Ext H A/\∃F sw sl,aM F A p dp s/\oQ A k p w sw sl/\(∀b,F b->¬fg k sw sl b)/\(∀b,F b->H.size<=b)/\∀b,fg k sw sl b->H.size<=b
section
variable {H A:Heap}{k p dp:Nat}{s:Pl}{w:RW}{n:ByteArray}{W:Int}
theorem TW.ag (t:TW H A k p dp s w):TP H A p dp s:=by
 obtain⟨h1,F,sw,sl,h2,h3,h4,h5,h6⟩:=t
 exact⟨h1,F,h2,h5⟩
theorem TP.make {K:(Option Addr×Int)->Heap->Prop}{o:Option RW}{e:Int}(t:TP H A p dp s)(hg:Gl H)(hn:n.size<=9223372036854775807)(hlogs:s.d.logs<68719470000)(hnx:s.next<1099511627776)(h0:0<=s.next)(hfit:s.Fit)
  (hr:(aJ s n W).2=(o,e)) (hK0:o=none->∀B,TP H B p dp (aJ s n W).1->K (none,e) B) (hK1:∀w,o=some w->∀k B,TW H B k p dp (aJ s n W).1 w->K (aD k,e) B):xg.sp (aD p) n W A K:=by
 have hgA:=t.gl hg
 obtain⟨h1,F,h2,h3⟩:=t
 have z:=h1.size
 refine vB hgA h2 hn hlogs hnx h0 hfit (λF' B q1 S q2=>?_) (λF' B k w q1 S q2 q3 q4 q5=>?_)
 ·rw[hr] at q2 ⊢
  refine hK0 q2 B ⟨⟨by have:=S.mod.size;omega,λb hb _=>(S.mod.same b (by omega) λq=>by have:=h3 b q;omega).trans (h1.same b hb id)⟩,F',q1,λb hb=>?_⟩
  rcases S.own b hb with q|q
  ·exact h3 b q
  ·omega
 ·rw[hr] at q2 ⊢
  refine hK1 w q2 k B ⟨⟨by have:=S.mod.size;omega,λb hb _=>(S.mod.same b (by omega) λq=>by have:=h3 b q;omega).trans (h1.same b hb id)⟩,F',ig,ig,q1,q3,?_,λb hb=>?_,?_⟩
  ·rintro b hb (q|q|q)
   ·exact q5 (q▸hb)
   ·exact cV b q
   ·exact cV b q
  ·rcases S.own b hb with q|q
   ·exact h3 b q
   ·omega
  ·rintro b (q|q|q)
   ·omega
   ·exact absurd q (cV b)
   ·exact absurd q (cV b)
theorem TW.go {A0 B:Heap}{F F':Nat->Prop}{sw sl sw' sl':Sl}{s':Pl}{w':RW}(h1:Ext H A0)(e0:Ext A0 A)(h5:∀b,F b->H.size<=b)(h6:∀b,fg k sw sl b->H.size<=b)
  (S:Step (λb=>F b\/fg k sw sl b) (λb=>F' b\/fg k sw' sl' b) A B) (q1:aM F' B p dp s') (q2:oQ B k p w' sw' sl') (q3:∀b,F' b->¬fg k sw' sl' b):TW H B k p dp s' w':=by
 have z0:=h1.size
 have z1:=e0.size
 have z2:=S.mod.size
 have own:∀b,F' b\/fg k sw' sl' b->H.size<=b:=λb hb=>by
  rcases S.own b hb with (q|q)|q
  ·exact h5 b q
  ·exact h6 b q
  ·omega
 refine⟨⟨by omega,λb hb _=>(S.mod.same b (by omega) λq=>?_).trans ((e0.same b (by omega) id).trans (h1.same b hb id))⟩,F',sw',sl',q1,q2,q3,λb hb=>own b (.inl hb),λb hb=>own b (.inr hb)⟩
 rcases q with q|q
 ·have:=h5 b q;omega
 ·have:=h6 b q;omega
theorem TW.add {A0:Heap}{l:Sl}{ll:List Int}{e:Int}{K:Int->Heap->Prop}(t:TW H A0 k p dp s w)(e0:Ext A0 A)(hg:Gl H)(hl:Ints .u64 A l ll)(hp:∀ad,l.a=some ad->A0.size<=ad.block\/ad.block<H.size)
  (hlen:ll.length<=1000000) (hwl:w.wait.length<=1000000) (hwr:w.rows<1099511627776) (hwn:w.n<1099511627776) (hn:w.b.name.size<=9223372036854775807) (hlogs:s.d.logs<68719470000) (hnx:s.next<1099511627776) (hfit:s.Fit)
  (hr:(w.add s ll).2.2=e) (hK:∀B,TW H B k p dp (w.add s ll).1 (w.add s ll).2.1->K e B):tV.sp (aD k) l A K:=by
 obtain⟨h1,F,sw,sl,h2,h3,h4,h5,h6⟩:=t
 have hgl:=hg.lt
 have z0:=h1.size
 have z1:=e0.size
 subst hr
 refine EX ((hg.mod h1 id).mod e0 id) (λq=>by have:=h6 _ q;omega) (h3.mod e0 λ_ _=>id) (h2.ext e0) h4 hl (λad ha q=>?_) hlen hwl hwr hwn hn hlogs hnx (by have:=h2.wf.tick;omega) hfit λF' sw' sl' B q1 q2 q3 S=>?_
 ·have:=h6 _ q
  have:=h3.lt _ q
  rcases hp ad ha with u|u<;>omega
 ·exact hK B (TW.go h1 e0 h5 h6 S q1 q2 q3)
theorem TW.close {e:Int}{K:(Int×Int)->Heap->Prop}(t:TW H A k p dp s w)(hg:Gl H)(hwr:w.rows<1099511627776)(hwd:0<=w.b.width)(hn:w.b.name.size<=9223372036854775807)(hlogs:s.d.logs<68719400000)(hnx:s.next<1099511600000)(hfit:s.Fit)
  {m:Nat} (hr:(w.close s).2.2=(m,e)) (hK:∀B,TW H B k p dp (w.close s).1 (w.close s).2.1->K ((m:Int),e) B):wU.sp (aD k) A K:=by
 obtain⟨h1,F,sw,sl,h2,h3,h4,h5,h6⟩:=t
 have hgl:=hg.lt
 have h0:0<=s.next:=by have:=h2.wf.tick;omega
 have ob:=RW.qG (s:=s) (w:=w) h0 (by omega)
 refine sA (hg.mod h1 id) (λq=>by have:=h6 _ q;omega) h3 h2 h4 hwr hwd hn (by omega) (by omega) h0 hfit (by omega) (by omega) (λx hd=>?_) λF' sw' B q1 q2 q3 S=>?_
 ·rw[Pl.zx,Pl.rm]
  have:=(w.out s).1.jf w.b.name 0
  omega
 ·rw[hr]
  exact hK B (TW.go h1 (.refl _ _) h5 h6 S q1 q2 q3)
def TR (H A:Heap)(X:Nat->Prop)(k p dp:Nat)(s:Pl)(r:RR):Prop:=
 H.size<=k/\∃F si rs,c0 H (λb=>H.size<=b) (λb=>H.size<=b) k p dp si rs F A s r/\∀b,X b->¬F b/\¬iV k si rs b/\b<A.size
variable {X:Nat->Prop}{r:RR}
theorem TR.at (t:TR H A X k p dp s r):Ext H A:=by
 obtain⟨h0,F,si,rs,h1,_⟩:=t
 exact h1.mod.ext λb hb=>by rcases hb with q|q<;>omega
theorem TR.gl (t:TR H A X k p dp s r)(hg:Gl H):Gl A:=hg.mod t.at id
theorem TR.ext {B:Heap}(t:TR H A X k p dp s r)(e:Ext A B):TR H B X k p dp s r:=by
 obtain⟨h0,F,si,rs,h1,h2⟩:=t
 exact⟨h0,F,si,rs,h1.ext e,λb hb=>⟨(h2 b hb).1,(h2 b hb).2.1,LJ (h2 b hb).2.2 e.size⟩⟩
theorem TR.ag (t:TR H A X k p dp s r):TP H A p dp s:=by
 have e:=t.at
 obtain⟨h0,F,si,rs,h1,h2⟩:=t
 exact⟨e,F,h1.ag,λb hb=>(h1.own b hb).elim id id⟩
theorem TR.goes {B:Heap}{F F':Nat->Prop}{si si':Sl}{rs rs':List Sl}{s':Pl}{r':RR}(h0:H.size<=k)(h1:c0 H (λb=>H.size<=b) (λb=>H.size<=b) k p dp si rs F A s r)(h2:∀b,X b->¬F b/\¬iV k si rs b/\b<A.size)
  (g:c0 A F (iV k si rs) k p dp si' rs' F' B s' r'):TR H B X k p dp s' r'/\∀b,X b->B[b]?=A[b]?:=by
 refine⟨⟨h0,F',si',rs',h1.trans g,λb hb=>?_⟩,λb hb=>?_⟩
 ·obtain⟨x1,x2,x3⟩:=h2 b hb
  refine⟨λq=>?_,λq=>?_,LJ x3 g.mod.size⟩
  ·rcases g.own b q with u|u
   ·exact x1 u
   ·omega
  ·rcases g.own2 b q with u|u
   ·exact x2 u
   ·omega
 ·obtain⟨x1,x2,x3⟩:=h2 b hb
  refine g.mod.same b x3 λq=>?_
  rcases q with q|q
  ·exact x1 q
  ·exact x2 (.inl q)
theorem TP.open {K:(Option Addr×Int)->Heap->Prop}{o:Option RR}{e:Int}(t:TP H A p dp s)(hg:Gl H)(hn:n.size<=9223372036854775807)(hlogs:s.d.logs<68719470000)(hnx:s.next<1099511627776)(hlen:((s.look n 0).1.d.len n).1<4611686018427387904)
  (hr:(rnOpen s n W).2=(o,e)) (hK0:o=none->∀B,TP H B p dp (rnOpen s n W).1->K (none,e) B) (hK1:∀r,o=some r->∀k B,TR H B (λ_=>False) k p dp (rnOpen s n W).1 r->K (aD k,e) B):xK.sp (aD p) n W A K:=by
 have hgA:=t.gl hg
 obtain⟨h1,F,h2,h3⟩:=t
 have z:=h1.size
 refine vd hgA h2 hn hlogs hnx (by have:=h2.wf.tick;omega) (λF' B q1 S q2=>?_) (λF' B k r q1 S q2 q3 q4 q5=>?_)
 ·rw[hr] at q2 ⊢
  refine hK0 q2 B ⟨⟨by have:=S.mod.size;omega,λb hb _=>(S.mod.same b (by omega) λq=>by have:=h3 b q;omega).trans (h1.same b hb id)⟩,F',q1,λb hb=>?_⟩
  rcases S.own b hb with q|q
  ·exact h3 b q
  ·omega
 ·rw[hr] at q2 ⊢
  have own:∀b,F' b->H.size<=b:=λb hb=>by
   rcases S.own b hb with q|q
   ·exact h3 b q
   ·omega
  have rdk:∀b,iV k ig [] b->b=k:=by
   rintro b (q|q|⟨x,hx,_⟩)
   ·exact q
   ·exact absurd q (cV b)
   ·cases hx
  refine hK1 r q2 k B ⟨by omega,F',ig,[],⟨q1,q3,λb hb q=>q5 ((rdk b q)▸hb),⟨by have:=S.mod.size;omega,λb hb hnb=>(S.mod.same b (by omega) λq=>hnb (.inl (h3 b q))).trans (h1.same b hb id)⟩,λb hb=>.inl (own b hb),λb hb=>.inr (by rw[rdk b hb];omega)⟩,λb hb=>hb.elim⟩
theorem TR.next {K:(Sl×Bool×Int)->Heap->Prop}{e:Int}{row:List Int}{ok:Bool}(t:TR H A X k p dp s r)(hg:Gl H)(hok:r.Ok)(hn:r.b.name.size<=9223372036854775807)(hlogs:s.d.logs<68719470000)(hnx:s.next<1099511627776)
  (hr:(r.next s).2.2=(row,ok,e)) (hK:∀l B,TR H B (λb=>X b\/al l b) k p dp (r.next s).1 (r.next s).2.1->Ints .u64 B l row->(∀b,X b->B[b]?=A[b]?)->K (l,ok,e) B):tY.sp (aD k) A K:=by
 have hgA:=t.gl hg
 obtain⟨h0,F,si,rs,h1,h2⟩:=t
 have hgl:=hg.lt
 refine uZ hgA h1.ag.gu (by omega) h1.start hok hn hlogs hnx (by have:=h1.ag.wf.tick;omega) λF' si' rs' B l g o f=>?_
 obtain⟨⟨w0,F2,si2,rs2,w1,w2⟩,w3⟩:=TR.goes h0 h1 h2 g
 rw[hr] at o ⊢
 refine hK l B ⟨h0,F',si',rs',h1.trans g,λb hb=>?_⟩ o.ints w3
 rcases hb with q|q
 ·obtain⟨x1,x2,x3⟩:=h2 b q
  refine⟨λq=>?_,λq=>?_,LJ x3 g.mod.size⟩
  ·rcases g.own b q with u|u
   ·exact x1 u
   ·omega
  ·rcases g.own2 b q with u|u
   ·exact x2 u
   ·omega
 ·exact⟨(f b q).2.1,(f b q).2.2,o.lt b q⟩
theorem TR.bS {A0:Heap}{low:Sl}{ll:List Int}{K:Int->Heap->Prop}{e:Int}(t:TR H A0 X k p dp s r)(e0:Ext A0 A)(hg:Gl H)(hok:r.Ok)(hl:Ints .u64 A low ll)(hp:∀ad,low.a=some ad->A0.size<=ad.block\/ad.block<H.size)(hlow:ll.length<=1000000)
  (hn:r.b.name.size<=9223372036854775807) (hlogs:s.d.logs+528482304<68719460000) (hnx:s.next+528482304<1099511620000)
  (hfb:(r.find s ll).1.d.logs<68719470000/\(r.find s ll).1.next<1099511627776)
  (hdown:(r.find s ll).2.2.2=0->(r.find s ll).2.2.1≠az r.rows r.b.room->((r.find s ll).2.1.load (r.find s ll).1 (r.find s ll).2.2.1).2.2=0->Down ll ((r.find s ll).2.1.load (r.find s ll).1 (r.find s ll).2.2.1).2.1.ins)
  (hr:(r.bS s ll).2.2=e) (hK:∀B,TR H B X k p dp (r.bS s ll).1 (r.bS s ll).2.1->K e B):wc.sp (aD k) low A K:=by
 have t2:=t.ext e0
 have hgA:=t2.gl hg
 have z0:=t.at.size
 obtain⟨h0,F,si,rs,h1,h2⟩:=t
 have hgl:=hg.lt
 have h1':=h1.ext e0
 have h2':∀b,X b->¬F b/\¬iV k si rs b/\b<A.size:=λb hb=>⟨(h2 b hb).1,(h2 b hb).2.1,LJ (h2 b hb).2.2 e0.size⟩
 have hF:∀b,F b->H.size<=b/\b<A0.size:=λb hb=>⟨(h1.own b hb).elim id id,h1.ag.lt b hb⟩
 have hkk:k<A0.size:=aG h1.rd.row
 subst hr
 refine BY hgA h1.ag.gu (by omega) h1'.start hok hl (λad ha _=>⟨λq=>?_,λq=>?_⟩) hlow hn hlogs hnx hfb hdown λF' si' rs' B g=>?_
 ·have:=hF _ q;rcases hp ad ha with u|u<;>omega
 ·rcases hp ad ha with u|u<;>omega
 ·exact hK B (TR.goes h0 h1' h2' g).1
end
end Go.Proofs.YtdpdmbceakdlmaaGreatDoor
