/-
 Relations: names; what a relation has in memory; the smaller functions: the walk.
-/
import Derived.Test.YtkehfflpbpdokaaGreatDoorJ26
import Derived.Test.YtkehfflpbpdokaaGreatDoorJ36
open Array renaming toList_append->Ut,toList_inj->VF
open ByteArray renaming mk->RV,ext->VB,size_append->VP,data_append->X7
open Go.Addr renaming add->QS
open Go.Builtin renaming append_->Qo
open Go.ByteArray renaming toList_eq->UK
open Go.IntKind renaming i64->Qe
open Go.Proofs.Tryz renaming prog->Qf
open Int renaming toNat_natCast->QD
open List renaming getElem?_eq_getElem->Qg,mem_of_getElem?->Qi,mem_append->Qj,getElem?_eq_some_iff->Qk,getElem_mem->Qn,mem_cons_self->Qp,mem_iff_getElem?->Qr,mem_cons->Qs,mem_map->QB,getElem?_map->QC,length_map->QI,not_mem_nil->QT,mem_singleton->QV,nodup_append->QY,map_append->Q4,append_assoc->Rg,mem_map_of_mem->Ru,map_congr_left->Rx,append_nil->RA,nil_append->RB,map_map->RE,getElem?_inj->RM,sublist_append_right->SC,sublist_append_left->Ur,append_cancel_left->Xn,perm_append_comm->X8
open Nat renaming le_refl->Qm,mul_one->Q9,add_mul->TN
open Option.some renaming inj->Qq
namespace Go.Proofs.YtkehfflpbpdokaaGreatDoor
open Go.MapKept
def eN (name:ByteArray)(j:Nat):ByteArray:=(name++RV #[46])++jT j
theorem KD {name:ByteArray}{i j:Nat}(hi:i<1000)(a:j<1000)(h:eN name i=eN name j):i=j:=by
 have e:jT i=jT j:=by
  have h1:=congrArg (λb=>b.toList) h;unfold eN at h1;simp only[UK,X7,Ut] at h1;have c:=Xn h1;exact VB (VF.1 c)
 rw[<-(nF i hi).1,<-(nF j a).1,e]
theorem JK {name:ByteArray}{i j:Nat}(hi:i<1000)(d:¬j<1000):eN name j≠eN name i:=by
 intro h;have e:jT j=jT i:=by
  have h1:=congrArg (λb=>b.toList) h;unfold eN at h1;simp only[UK,X7,Ut] at h1;have c:=Xn h1;exact VB (VF.1 c)
 have e2:jT j=ByteArray.empty:=by
  unfold jT;rw[if_neg (by omega),if_neg (by omega),if_neg (by omega)]
 have:=(nF i hi).1;have a:=Ef i hi;rw[<-e,e2] at a;exact a rfl
theorem Me {name:ByteArray}{i j:Nat}(hi:i<1000)(h:j≠i):eN name j≠eN name i:=λe=>by
 by_cases q:j<1000
 ·exact h (KD q hi e)
 ·exact JK hi q e
theorem mu {name:ByteArray}{j:Nat}(a:j<1000):(eN name j).size<=name.size+4/\name.size+1<=(eN name j).size:=by
 have:=(nF j a).2;unfold eN;rw[VP,VP];have:(RV #[46]).size=1:=rfl;omega
theorem Da {name:ByteArray}{j:Nat}(a:j<1000)(b:name.size<=90):named (eN name j)=true:=by
 have:=mu (name:=name) a;unfold named;simp only[Bool.and_eq_true,decide_eq_true_eq];omega
structure jW (X:Nat->Prop)(H:aa)(s:Sl)(ls:List (List Int)):Prop where
 len:s.n=ls.length
 off:iL X H s
 at':∀i (h:i<ls.length),∃ad r,s.a=some ad/\cg H (ad.add i)=some (Sl.v r)/\iL X H r/\Ints .i64 H r ls[i]/\r.n<=r.c
theorem jW.step {X X':Nat->Prop}{A B:aa}{s:Sl}{ls:List (List Int)}(h:jW X A s ls)(S:Step X X' A B):jW X' B s ls:=⟨h.len,h.off.step S,λi hi=>by
 obtain⟨ad,r,a,c,b,d,e⟩:=h.at' i hi;exact⟨ad,r,a,S.mod.cell c (by rw[cj];exact(h.off ad a).2),b.step S,b.ints d S,e⟩⟩
structure ja (X:Nat->Prop)(H:aa)(s:Sl)(vs:List Value):Prop where
 len:s.n=vs.length
 off:iL X H s
 reads:Reads H s.a vs
theorem ja.step {X X':Nat->Prop}{A B:aa}{s:Sl}{vs:List Value}(h:ja X A s vs)(S:Step X X' A B):ja X' B s vs:=⟨h.len,h.off.step S,h.reads.mod S.mod λad a=>(h.off ad a).2⟩
theorem ja.nil (X:Nat->Prop)(H:aa):ja X H (Sl.mk none 0 0) []:=⟨rfl,λ_ h=>(by cases h),Reads.nil _ _⟩
theorem Step.fK {X X' Y a:Nat->Prop}{A B:aa}(S:Step Y a A B)(h1:∀b,Y b->X b)(c:∀b,X' b->X b\/a b):Step X X' A B:=
 ⟨S.mod.mono λb _ u=>h1 b u,λb d=>(c b d).elim .inl λu=>(S.own b u).imp (h1 b) id⟩
structure Tx where
 k:Nat
 n:ByteArray
 L:List (List Int)
structure aP where
 pb:Nat
 s:Sl
 ts:List Tx
structure ak where
 rb:Nat
 name:ByteArray
 W:Nat
 os:Sl
 ords:List (List Int)
 f:aP
 d:aP
 e:aP
 ex:List Tx
 next:Nat
 nb:Nat
 turns:Nat
def ak.parts (R:ak):List aP:=[R.f,R.d,R.e]
def ak.all (R:ak):List Tx:=R.f.ts++(R.d.ts++(R.e.ts++R.ex))
def ak.O (R:ak)(b:Nat):Prop:=b=R.rb\/(∃q∈R.parts,b=q.pb)\/∃t∈R.all,b=t.k
def ak.X (R:ak)(F:Nat->Prop)(b:Nat):Prop:=F b\/R.O b
def jG (p:Nat)(R:ak):Array Value:=#[.pointer (av p),.string R.name,.int .i64 R.W,R.os.v,.int .i64 0,.bool false,.pointer (av R.f.pb),.pointer (av R.d.pb),.pointer (av R.e.pb),.int .i64 R.next,.int .i64 R.turns]
def iS (rb:Nat)(s:Sl):Array Value:=#[.pointer (some ⟨rb,0,none⟩),s.v]
def oN (ts:List Tx):List Value:=ts.map λt=>cG t.k
structure aW (H0 A:aa)(F:Nat->Prop)(p:Nat)(M:bd)(R:ak):Prop where
 row:ab A R.rb Dj (jG p R)
 pt:∀q∈R.parts,ab A q.pb EY (iS R.rb q.s)/\ja (R.X F) A q.s (oN q.ts)
 ords:jW (R.X F) A R.os R.ords
 tr:∀t∈R.all,dg A p M t.k t.n R.W t.L
 off:∀b,R.O b->¬F b/\H0.size<=b
 pbs:(R.parts.map (·.pb)).Nodup
 ks:(R.all.map (·.k)).Nodup
 ns:(R.all.map (·.n)).Nodup
 nms:∀t∈R.all,∃j,j<R.nb/\t.n=eN R.name j
 free:∀j,(∀t∈R.all,t.n≠eN R.name j)->M (eN R.name j)=none
section
variable {H0 A B:aa}{F F':Nat->Prop}{p dp:Nat}{M M':bd}{R:ak}
theorem aW.lt (h:aW H0 A F p M R):∀b,R.O b->b<A.size:=by
 rintro b (rfl|⟨q,a,rfl⟩|⟨t,c,rfl⟩)
 ·exact aI h.row
 ·exact aI (h.pt q a).1
 ·exact(h.tr t c).lt
theorem aW.aside (h:aW H0 A F p M R)(S:Step (R.X F) (R.X F') A B)(hs:∀b,R.O b->B[b]?=A[b]?/\¬F' b)(e:∀t∈R.all,M' t.n=M t.n)(f:∀j,(∀t∈R.all,t.n≠eN R.name j)->M' (eN R.name j)=none):aW H0 B F' p M' R:=
 ⟨(hs _ (.inl rfl)).1.trans h.row,λq a=>⟨(hs _ (.inr (.inl ⟨q,a,rfl⟩))).1.trans (h.pt q a).1,(h.pt q a).2.step S⟩,h.ords.step S,λt c=>(h.tr t c).aE (hs _ (.inr (.inr ⟨t,c,rfl⟩))).1 (e t c),λb d=>⟨(hs b d).2,(h.off b d).2⟩,h.pbs,h.ks,h.ns,h.nms,f⟩
theorem aW.Nq (h:aW H0 A F p M R)(a:∀q∈R.parts,ja (R.X F') B q.s (oN q.ts))(c:jW (R.X F') B R.os R.ords)(hs:∀b,R.O b->B[b]?=A[b]?/\¬F' b)(g:∀t∈R.all,M' t.n=M t.n)(i:∀j,(∀t∈R.all,t.n≠eN R.name j)->M' (eN R.name j)=none):aW H0 B F' p M' R:=
 ⟨(hs _ (.inl rfl)).1.trans h.row,λq d=>⟨(hs _ (.inr (.inl ⟨q,d,rfl⟩))).1.trans (h.pt q d).1,a q d⟩,c,λt e=>(h.tr t e).aE (hs _ (.inr (.inr ⟨t,e,rfl⟩))).1 (g t e),λb f=>⟨(hs b f).2,(h.off b f).2⟩,h.pbs,h.ks,h.ns,h.nms,i⟩
theorem aW.grow (h:aW H0 A F p M R)(e:Ext A B):aW H0 B F p M R:=
 h.aside ⟨e.mod,λ_ u=>.inl u⟩ (λb a=>⟨e.same b (h.lt b a) id,(h.off b a).1⟩) (λ_ _=>rfl) h.free
theorem aW.ID {b:Nat}{c:Array Value}{t:TypeId}{t1:Tx}(h:aW H0 A F p M R)(e:t1∈R.all)(f:ab A b t c)(d:t≠OR):t1.k≠b:=by
 rintro rfl;obtain⟨x,root,depth,P,a,_⟩:=(h.tr t1 e).at_;exact d (aR f a)
theorem aW.Og {q:aP}(h:aW H0 A F p M R)(a:q∈R.parts):q.pb≠R.rb:=by
 intro e;have:=(h.pt q a).1;rw[e] at this;exact absurd (aR this h.row) (by decide)
theorem aW.ar (h:aW H0 A F p M R)(S:Step F F' A B):aW H0 B F' p M R:=
 h.aside (S.fK (λb u=>.inl u) λb u=>u.elim .inr λv=>.inl (.inr v)) (λb a=>⟨S.mod.same b (h.lt b a) (h.off b a).1,λu=>(S.own b u).elim (h.off b a).1 λv=>by have:=h.lt b a;omega⟩) (λ_ _=>rfl) h.free
theorem aW.congr (h:aW H0 A F p M R)(e:∀b,F b↔F' b):aW H0 A F' p M R:=(funext λb=>propext (e b):F=F')▸h
theorem aW.less (h:aW H0 A F p M R)(e:∀b,F' b->F b):aW H0 A F' p M R:=by
 have c:∀b,b<A.size->R.X F' b->R.X F b:=λb _ u=>u.elim (λv=>.inl (e b v)) .inr;refine⟨h.row,λq a=>⟨(h.pt q a).1,(h.pt q a).2.len,(h.pt q a).2.off.mono c,(h.pt q a).2.reads⟩,⟨h.ords.len,h.ords.off.mono c,λi hi=>?_⟩,h.tr,λb d=>⟨λu=>(h.off b d).1 (e b u),(h.off b d).2⟩,h.pbs,h.ks,h.ns,h.nms,h.free⟩;obtain⟨ad,r,f,g,j,k,l⟩:=h.ords.at' i hi;exact⟨ad,r,f,g,j.mono c,k,l⟩
def Tx.up (k:Nat)(L:List (List Int))(t:Tx):Tx:=if t.k=k then {t with L:=L} else t
theorem Tx.GW (k:Nat)(L:List (List Int))(t:Tx):(t.up k L).k=t.k:=by unfold Tx.up;split<;>rfl
theorem Tx.Kt (k:Nat)(L:List (List Int))(t:Tx):(t.up k L).n=t.n:=by unfold Tx.up;split<;>rfl
def aP.up (k:Nat)(L:List (List Int))(q:aP):aP:={q with ts:=q.ts.map (Tx.up k L)}
def ak.up (k:Nat)(L:List (List Int))(R:ak):ak:={R with f:=R.f.up k L,d:=R.d.up k L,e:=R.e.up k L,ex:=R.ex.map (Tx.up k L)}
theorem ak.qy (k:Nat)(L:List (List Int))(R:ak):(R.up k L).all=R.all.map (Tx.up k L):=by
 unfold ak.all ak.up aP.up;simp only[Q4]
theorem ak.Ag (k:Nat)(L:List (List Int))(R:ak):(R.up k L).parts=R.parts.map (aP.up k L):=rfl
theorem ak.M5 (k:Nat)(L:List (List Int))(R:ak)(b:Nat):(R.up k L).O b↔R.O b:=by
 unfold ak.O;rw[ak.qy,ak.Ag];have h1:(∃q∈R.parts.map (aP.up k L),b=q.pb)↔∃q∈R.parts,b=q.pb:=by
  constructor
  ·rintro⟨_,a,rfl⟩;obtain⟨q,c,rfl⟩:=QB.1 a;exact⟨q,c,rfl⟩
  ·rintro⟨q,a,rfl⟩;exact⟨_,Ru a,rfl⟩
 have f:(∃t∈R.all.map (Tx.up k L),b=t.k)↔∃t∈R.all,b=t.k:=by
  constructor
  ·rintro⟨_,d,rfl⟩;obtain⟨t,e,rfl⟩:=QB.1 d;exact⟨t,e,t.GW k L⟩
  ·rintro⟨t,d,rfl⟩;exact⟨_,Ru d,(t.GW k L).symm⟩
 rw[h1,f];exact Iff.rfl
theorem Np (k:Nat)(L:List (List Int))(ts:List Tx):oN (ts.map (Tx.up k L))=oN ts:=by
 unfold oN;rw[RE];exact Rx λt _=>by show cG (t.up k L).k=_;rw[Tx.GW]
theorem aW.Cg {t:Tx}{L:List (List Int)}(h:aW H0 A F p M R)(m:t∈R.all)(S:Step (λb=>F b\/b=t.k) (λb=>F' b\/b=t.k) A B)(hk:¬F' t.k)(I:dg B p M' t.k t.n R.W L)(E:∀a,a≠t.n->M' a=M a):aW H0 B F' p M' (R.up t.k L):=by
 have z:R.O t.k:=.inr (.inr ⟨t,m,rfl⟩);have G:Step (R.X F) ((R.up t.k L).X F') A B:=S.fK (λb u=>u.elim .inl λv=>.inr (v▸z)) λb u=>u.elim (λv=>.inr (.inl v)) λv=>.inl (.inr ((ak.M5 _ _ _ _).1 v));have o:∀b,R.O b->¬F' b/\H0.size<=b:=λb f=>by
  refine⟨λu=>?_,(h.off b f).2⟩;by_cases e:b=t.k
  ·subst e;exact hk u
  ·rcases S.own b (.inl u) with (v|v)|v
   ·exact(h.off b f).1 v
   ·exact e v
   ·have:=h.lt b f;omega
 have same:∀b,R.O b->b≠t.k->B[b]?=A[b]?:=λb f e=>S.mod.same b (h.lt b f) λu=>u.elim (h.off b f).1 e;have C:((R.up t.k L).all.map (·.k))=R.all.map (·.k):=by rw[ak.qy,RE];exact Rx λx _=>x.GW _ _
 have D:((R.up t.k L).all.map (·.n))=R.all.map (·.n):=by rw[ak.qy,RE];exact Rx λx _=>x.Kt _ _
 have inj:∀x∈R.all,x≠t->x.k≠t.k/\x.n≠t.n:=by
  intro x d r;obtain⟨i,hi⟩:=Qr.1 d;obtain⟨j,g⟩:=Qr.1 m;have s:=(Qk.1 hi).1;refine⟨λe=>r ?_,λe=>r ?_⟩
  ·have:=(RM (l:=R.all.map (·.k)) (i:=i) (j:=j) (by simpa using s) h.ks).1 (by rw[QC,QC,hi,g];simp[e]);subst this;rw[hi] at g;exact Qq g
  ·have:=(RM (l:=R.all.map (·.n)) (i:=i) (j:=j) (by simpa using s) h.ns).1 (by rw[QC,QC,hi,g];simp[e]);subst this;rw[hi] at g;exact Qq g
 refine⟨(same _ (.inl rfl) λe=>?_).trans h.row,λq H=>?_,h.ords.step G,λx d=>?_,λb f=>o b ((ak.M5 _ _ _ _).1 f),h.pbs,by rw[C];exact h.ks,by rw[D];exact h.ns,λx d=>?_,λj g=>?_⟩
 ·exact(h.ID m h.row (by decide)) e.symm
 ·rw[ak.Ag] at H;obtain⟨q,w,rfl⟩:=QB.1 H;obtain⟨a,b⟩:=h.pt q w;refine⟨(same _ (.inr (.inl ⟨q,w,rfl⟩)) λe=>(h.ID m a (by decide)) e.symm).trans a,?_⟩;show ja _ _ q.s (oN (q.ts.map (Tx.up t.k L)));rw[Np];exact b.step G
 ·rw[ak.qy] at d;obtain⟨x,c,rfl⟩:=QB.1 d;by_cases e:x=t
  ·subst e;unfold Tx.up;rw[if_pos rfl];exact I
  ·obtain⟨i1,i2⟩:=inj x c e;unfold Tx.up;rw[if_neg i1];exact(h.tr x c).aE (same _ (.inr (.inr ⟨x,c,rfl⟩)) i1) (E _ i2)
 ·rw[ak.qy] at d;obtain⟨x,c,rfl⟩:=QB.1 d;rw[Tx.Kt];exact h.nms x c
 ·have y:∀x∈R.all,x.n≠eN R.name j:=λx d e=>g (x.up t.k L) (by rw[ak.qy];exact Ru d) (by rw[Tx.Kt];exact e);show M' (eN R.name j)=none;rw[E _ λe=>y t m e.symm];exact h.free j y
theorem aW.Ln (h:aW H0 A F p M R)(b:R.nb<=1000){j:Nat}(c:R.nb<=j):M (eN R.name j)=none:=h.free j λt a e=>by
 obtain⟨i,hi,e2⟩:=h.nms t a;exact Me (name:=R.name) (i:=i) (j:=j) (by omega) (by omega) (e.symm.trans e2)
end
structure ak.Fit (R:ak):Prop where
 W:R.W<=16
 name:R.name.size<=90
 nb:R.nb<=1000
 rows:∀t∈R.all,t.L.length<=400
def aP.rows (q:aP):List (List Int):=match q.ts with|[]=>[]|t::_=>t.L
theorem ak.dj {R:ak}{q:aP}(a:q∈R.parts):∀t∈q.ts,t∈R.all:=by
 intro t b;unfold ak.parts at a;unfold ak.all;simp only[Qs,QT,or_false] at a;simp only[Qj];rcases a with rfl|rfl|rfl
 ·exact .inl b
 ·exact .inr (.inl b)
 ·exact .inr (.inr (.inl b))
theorem ak.Ha {R:ak}{q:aP}{F:Nat->Prop}(a:q∈R.parts):R.X F q.pb:=.inr (.inr (.inl ⟨q,a,rfl⟩))
section
variable {X:Nat->Prop}{H:aa}{s:Sl}{ls:List (List Int)}
theorem jW.ld (h:jW X H s ls){i:Nat}(hi:i<ls.length){z:Int}(hz:z=(i:Int)){K:Addr->Sl->Prop}(c:∀ad r,s.a=some ad->iL X H r->Ints .i64 H r ls[i]->r.n<=r.c->K ad r):
  ah s.a λa=>(0<=z/\z<(s.n:Int))/\Go.Proofs.YtkehfflpbpdokaaGreatDoor.ld au H (a.add (z.toNat*1)) λx=>K a x:=by
 obtain⟨ad,r,b,d,e,f,g⟩:=h.at' i hi;have:=h.len;subst hz;refine aY ad b ⟨⟨by omega,by omega⟩,r,?_,c ad r b e f g⟩;rw[QD,Q9];exact d
theorem ja.ld {vs:List Value}{c:gz}(h:ja X H s vs){i:Nat}{x:c.α}(hi:vs[i]?=some (c.enc x)){z:Int}(hz:z=(i:Int)){K:Addr->c.α->Prop}(d:∀ad,s.a=some ad->K ad x):
  ah s.a λa=>(0<=z/\z<(s.n:Int))/\Go.Proofs.YtkehfflpbpdokaaGreatDoor.ld c H (a.add (z.toNat*1)) λv=>K a v:=by
 obtain⟨ad,b,e⟩:=h.reads i _ hi;have:=(Qk.1 hi).1;have:=h.len;subst hz;refine aY ad b ⟨⟨by omega,by omega⟩,x,?_,d ad b⟩;rw[QD,Q9];exact e
theorem xq {ts:List Tx}{i:Nat}{t:Tx}(h:ts[i]?=some t):(oN ts)[i]?=some (aq.enc (av t.k)):=by
 unfold oN;rw[QC,h];rfl
end
section
variable {H0 A B:aa}{F F':Nat->Prop}{p dp Q U most m:Nat}{s s':Pl}{M M':bd}{R:ak}{q:aP}{l:Sl}{ll:List Int}
theorem kg {K:Int->aa->Prop}(r:ab A R.rb Dj (jG p R))(a:K 0 A):Iu.sp (av R.rb) A K:=by
 refine Iu.of ?_;unfold Iu.vc;refine az rfl ?_;simp only[aw,add_add,Nat.reduceAdd];refine ab.ld (c:=ai .i64) (i:=4) (x:=0) r rfl ?_;refine az rfl ?_;refine ab.ld (c:=aC) (i:=5) (x:=false) r rfl ?_;exact az rfl a
theorem pz {b:Option Addr}{K:Int->aa->Prop}(a:K 0 A):Dx.sp b 0 A K:=by
 refine Dx.of ?_;unfold Dx.vc;exact az rfl a
theorem oS {b:Nat}{K:Option Addr->aa->Prop}(a:∀B,B.size=A.size+1->ab B A.size EY (iS b (Sl.mk none 0 0))->Ext A B->K (av A.size) B):Ff.sp (some ⟨b,0,none⟩) A K:=by
 refine Ff.of ?_;unfold Ff.vc;exact aj λB z r e=>a B z r e
theorem Dc {i:Nat}{K:Sl->aa->Prop}(h:aW H0 A F p M R)(a:Ints .u64 A l ll)(hi:i<R.ords.length)(hlen:R.ords[i].length<=1000)
  (b:∀s B,aA B A.size gM 1 s ((bk ll R.ords[i]).map (Value.int .u64))->Ext A B->K s B):J8.sp (some ⟨R.rb,0,none⟩) l (i:Int) A K:=by
 refine J8.of ?_;unfold J8.vc;simp only[aw];refine ab.ld (c:=au) (i:=3) (x:=R.os) h.row rfl ?_;refine h.ords.ld hi rfl λad r _ _ hr _=>?_;exact fZ a hr (by omega) λs B o e=>b s B o e
theorem wi {K:Int->aa->Prop}(h:aW H0 A F p M R)(e:q∈R.parts)(b:K (q.rows.length:Int) A):Kk.sp (av q.pb) A K:=by
 refine Kk.of ?_;unfold Kk.vc;obtain⟨r,hs⟩:=h.pt q e;simp only[aw];refine ab.ld (c:=au) (i:=1) (x:=q.s) r rfl ?_;have d:=hs.len;unfold aP.rows at b;unfold oN at d;cases a:q.ts with
 |nil=>
   rw[a] at d b;refine aT (by rw[d];rfl) b
 |cons t ts=>
   rw[a] at d b hs;refine az (by rw[d];simp;omega) ?_;refine ab.ld (c:=au) (i:=1) (x:=q.s) r rfl ?_;refine ja.ld (c:=aq) (x:=av t.k) (i:=0) hs rfl rfl λad _=>?_;exact(h.tr t (ak.dj e t (by rw[a];exact Qp))).count b
theorem ak.Fit.nm (a:R.Fit)(h:aW H0 A F p M R){t:Tx}(b:t∈R.all):t.n.size<=9223372036854775807:=by
 obtain⟨j,c,e⟩:=h.nms t b;have h1:=a.nb;have d:=a.name;have:=(mu (name:=R.name) (j:=j) (by omega)).1;rw[e];omega
theorem KG {K:(Bool×Int)->aa->Prop}(h:aW H0 A F p M R)(k:aM H0 A F p dp s M Q U most m)(u:Gl H0)(f:R.Fit)(v:Q<=1048576)(hm:m+1000000<=30000000000)(n:q∈R.parts)(w:Ints .u64 A l ll)(g:uv F A l ll)(j:ll.length=R.W)
  (e:∀F' s' B,aM H0 B F' p dp s' M Q U most (m+1000000)->aW H0 B F' p M R->Step F F' A B->K (decide (ll∈q.rows),0) B):Lg.sp (av q.pb) l A K:=by
 refine Lg.of ?_;unfold Lg.vc;obtain⟨r,hs⟩:=h.pt q n;simp only[aw];refine ab.ld (c:=au) (i:=1) (x:=q.s) r rfl ?_;have a:=hs.len;unfold aP.rows at e;unfold oN at a;cases d:q.ts with
 |nil=>
   rw[d] at a e;exact aT (by rw[a];rfl) (e F s A (k.later (by omega)) h (Step.refl _ _))
 |cons t ts=>
   rw[d] at a e hs;refine az (by rw[a];simp;omega) ?_;refine ab.ld (c:=au) (i:=1) (x:=q.s) r rfl ?_;refine ja.ld (c:=aq) (x:=av t.k) (i:=0) hs rfl rfl λad _=>?_;have b:t∈R.all:=ak.dj n t (by rw[d];exact Qp);refine(h.tr t b).has k u (h.off _ (.inr (.inr ⟨t,b,rfl⟩))) (f.nm h b) f.W (f.rows t b) v hm w g j λF' s' B p1 t1 y o z=>?_;exact e F' s' B p1 (h.ar o) o
theorem HW {qs:List aP}{ps:Sl}{K:(Bool×Int)->aa->Prop}(h:aW H0 A F p M R)(I:aM H0 A F p dp s M Q U most m)(J:Gl H0)(L:R.Fit)(N:Q<=1048576)(hm:m+1000000*qs.length<=30000000000)(O:∀q∈qs,q∈R.parts)(n:ja F A ps (qs.map λq=>cG q.pb))(P:Ints .u64 A l ll)(o:iL F A l)(t:ll.length=R.W)
  (y:∀b F' s' B,(b=true↔∃q∈qs,ll∈q.rows)->aM H0 B F' p dp s' M Q U most (m+1000000*qs.length)->aW H0 B F' p M R->Step F F' A B->K (b,0) B):KW.sp (av R.rb) l ps A K:=by
 refine KW.of ?_;unfold KW.vc;have S:ps.n=qs.length:=by have:=n.len;simpa using this
 refine ay qs.length (λi z B=>z=(i:Int)/\(∀q∈qs.take i,ll∉q.rows)/\∃F' s',aM H0 B F' p dp s' M Q U most (m+1000000*i)/\aW H0 B F' p M R/\Step F F' A B) ⟨rfl,by simp,F,s,by simpa using I,h,Step.refl _ _⟩ ?_;rintro i _ B next hi ⟨rfl,g,T,s1,p1,D,k⟩ j
 refine ao (λv=>?_) (λv=>?_)
 ·have d:i<qs.length:=by
   have:(i:Int)<(ps.n:Int):=by simpa using v
   omega
  refine ja.ld (c:=aq) (x:=av qs[i].pb) (i:=i) (n.step k) (by rw[QC,Qg d];rfl) rfl λad _=>?_;refine KG D p1 J L N (by omega) (O _ (Qn d)) (o.ints P k) ((o.step k).O7 _) t λE s2 C p2 r2 G=>?_;have e:m+1000000*i+1000000=m+1000000*(i+1):=by omega
  rw[e] at p2;refine ao (λf=>?_) (λf=>?_)
  ·have f:ll∈qs[i].rows:=by simpa using f
   show K (decide (ll∈qs[i].rows),0) C;rw[decide_eq_true f];exact y true E s2 C ⟨λ_=>⟨_,Qn d,f⟩,λ_=>rfl⟩ (p2.later (by omega)) r2 (k.trans G)
  ·have f:ll∉qs[i].rows:=by simpa using f
   refine j d _ _ ⟨aH i (by omega),λq r=>?_,E,s2,p2,r2,k.trans G⟩;rw[List.take_add_one,Qg d] at r;rcases Qj.1 r with u|u
   ·exact g q u
   ·obtain rfl:q=qs[i]:=by simpa using u
    exact f
 ·have w:i=qs.length:=by
   have:¬(i:Int)<(ps.n:Int):=by simpa using v
   omega
  subst w;rw[List.take_length] at g;exact y false T s1 B ⟨λu=>(by cases u),λ⟨q,a,b⟩=>absurd b (g q a)⟩ p1 D k
def ak.asked (R:ak)(n:Int):List aP:=if n=1 then [R.f,R.d] else if n=2 then [R.d] else if n=3 then [R.f] else []
theorem ak.mM (R:ak)(n:Int):∀q∈R.asked n,q∈R.parts:=by
 unfold ak.asked ak.parts;intro q a;split at a
 ·simp at a ⊢;rcases a with rfl|rfl<;>simp
 ·split at a
  ·simp at a ⊢;simp[a]
  ·split at a
   ·simp at a ⊢;simp[a]
   ·cases a
theorem Cx {X:Nat->Prop}{qs:List aP}{t:TypeId}{K:Addr->aa->Prop}(a:∀b,X b->b<A.size)
  (c:∀B,ja X B ⟨some ⟨A.size,0,none⟩,qs.length,qs.length⟩ (qs.map λq=>cG q.pb)->Ext A B->K ⟨A.size,0,none⟩ B):aB A (qs.map λq=>cG q.pb).toArray t K:=by
 refine aj λB z r e=>c B ⟨by simp,λad d=>?_,λi v f=>⟨_,rfl,?_⟩⟩ e
 ·have:ad=⟨A.size,0,none⟩:=(Qq d).symm;subst this;exact⟨by show A.size<B.size;omega,λu=>by have:=a _ u;simp at this⟩
 ·rw[bJ];exact r.cell (by simpa using f)
theorem Fm {X:Nat->Prop}{n:Int}{K:Sl->aa->Prop}(h:aW H0 A F p M R)(j:∀b,X b->b<A.size)
  (a:∀ps B,ja X B ps ((R.asked n).map λq=>cG q.pb)->(ps.a.isNone=true↔R.asked n=[])->Ext A B->K ps B):LJ.sp (av R.rb) n A K:=by
 refine LJ.of ?_;unfold LJ.vc;unfold ak.asked at a;simp only[aw];refine ao (λh1=>?_) (λh1=>?_)
 ·have h1:n=1:=by simpa using h1
  rw[if_pos h1] at a;refine ab.ld (c:=aq) (i:=6) (x:=av R.f.pb) h.row rfl ?_;refine ab.ld (c:=aq) (i:=7) (x:=av R.d.pb) h.row rfl ?_;exact Cx (qs:=[R.f,R.d]) j λB f g=>a _ B f ⟨λu=>(by cases u),λu=>(by cases u)⟩ g
 ·have h1:n≠1:=by simpa using h1
  rw[if_neg h1] at a;refine ao (λd=>?_) (λd=>?_)
  ·have d:n=2:=by simpa using d
   rw[if_pos d] at a;refine ab.ld (c:=aq) (i:=7) (x:=av R.d.pb) h.row rfl ?_;exact Cx (qs:=[R.d]) j λB f g=>a _ B f ⟨λu=>(by cases u),λu=>(by cases u)⟩ g
  ·have d:n≠2:=by simpa using d
   rw[if_neg d] at a;refine ao (λe=>?_) (λe=>?_)
   ·have e:n=3:=by simpa using e
    rw[if_pos e] at a;refine ab.ld (c:=aq) (i:=6) (x:=av R.f.pb) h.row rfl ?_;exact Cx (qs:=[R.f]) j λB f g=>a _ B f ⟨λu=>(by cases u),λu=>(by cases u)⟩ g
   ·have e:n≠3:=by simpa using e
    rw[if_neg e] at a;exact a _ A (ja.nil _ _) ⟨λ_=>rfl,λ_=>rfl⟩ (.refl _ _)
end
def xF (v:Value):Bool:=match v with|.pointer none=>true|_=>false
theorem vX (v:Value)(h:xF v=true):v=.pointer none:=by
 unfold xF at h;split at h
 ·rfl
 ·cases h
theorem Jk:El Qf Mm Oa 8 (.pointer none):=re (zb:=xF) vX rfl (by kernel_rfl)
def ov (M:bd)(c:Nat):Prop:=∃ns:List ByteArray,(∀a y,M a=some y->a∈ns)/\ns.length<=c
theorem ov.more {M:bd}{c:Nat}{n:ByteArray}{x:Option St}(h:ov M c):ov (fS M n x) (c+1):=by
 obtain⟨ns,h1,d⟩:=h;refine⟨n::ns,λa y b=>?_,by simp;omega⟩;by_cases e:a=n
 ·subst e;exact Qp
 ·rw[aU e] at b;exact List.mem_cons_of_mem _ (h1 a y b)
theorem ov.same {M M':bd}{c:Nat}{n:ByteArray}{x:St}(h:ov M c)(d:M n=some x)(f:∀a,a≠n->M' a=M a):ov M' c:=by
 obtain⟨ns,h1,g⟩:=h;refine⟨ns,λa y b=>?_,g⟩;by_cases e:a=n
 ·subst e;exact h1 a x d
 ·rw[f a e] at b;exact h1 a y b
theorem ov.mono {M:bd}{c d:Nat}(h:ov M c)(a:c<=d):ov M d:=by obtain⟨ns,h1,b⟩:=h;exact⟨ns,h1,by omega⟩
def ak.get (R:ak):Nat->aP
 |0=>R.f
 |1=>R.d
 |_=>R.e
def ak.put (R:ak)(j:Nat)(q:aP):ak:=match j with
 |0=>{R with f:=q}
 |1=>{R with d:=q}
 |_=>{R with e:=q}
def ak.fO (R:ak)(nx nb:Nat):ak:=⟨R.rb,R.name,R.W,R.os,R.ords,R.f,R.d,R.e,R.ex,nx,nb,R.turns⟩
theorem ak.Ma (R:ak)(hex:R.ex=[])(a:R.nb=R.next):({R with ex:=[],next:=R.next+0,nb:=R.next+0}:ak)=R:=by
 cases R;simp only at hex a;subst hex;subst a;rfl
theorem ak.get_mem (R:ak)(j:Nat):R.get j∈R.parts:=by
 unfold ak.parts;rcases j with _|_|j<;>simp[ak.get]
theorem ak.Jy (R:ak)(j:Nat)(q:aP):(R.put j q).get j=q:=by rcases j with _|_|j<;>rfl
theorem ak.KO (R:ak)(j:Nat)(q q':aP):(R.put j q).put j q'=R.put j q':=by rcases j with _|_|j<;>rfl
theorem ak.kX (R:ak)(j:Nat):R.put j (R.get j)=R:=by rcases j with _|_|j<;>rfl
theorem ak.l9 (R:ak)(j:Nat)(q:aP):(R.put j q).rb=R.rb/\(R.put j q).name=R.name/\(R.put j q).W=R.W/\(R.put j q).os=R.os/\(R.put j q).ords=R.ords/\(R.put j q).next=R.next/\(R.put j q).nb=R.nb/\(R.put j q).turns=R.turns/\(R.put j q).ex=R.ex:=by
 rcases j with _|_|j<;>exact⟨rfl,rfl,rfl,rfl,rfl,rfl,rfl,rfl,rfl⟩
theorem jv {k:Nat}{L:List (List Int)}{l:List Tx}(h:k∉l.map (·.k)):l.map (Tx.up k L)=l:=by
 have:l.map (Tx.up k L)=l.map id:=Rx λt a=>by
  unfold Tx.up;rw[if_neg λe=>h (QB.2 ⟨t,a,e⟩)];rfl
 rw[this,List.map_id]
theorem aP.jv {k:Nat}{L:List (List Int)}{q:aP}(h:k∉q.ts.map (·.k)):q.up k L=q:=by
 unfold aP.up;rw[Go.Proofs.YtkehfflpbpdokaaGreatDoor.jv h]
theorem ak.Ni {R:ak}{j:Nat}{t:Tx}{L:List (List Int)}(b:(R.all.map (·.k)).Nodup)(a:t∈(R.get j).ts):R.up t.k L=R.put j ((R.get j).up t.k L):=by
 have hk:∀{l:List Tx},t∈l->t.k∈l.map (·.k):=λh=>Ru h;unfold ak.all at b;simp only[Q4,QY,Qj] at b;obtain⟨_,⟨_,⟨_,_,g⟩,c⟩,h1⟩:=b;unfold ak.up;rcases j with _|_|j
 ·have a:t∈R.f.ts:=a;show _={R with f:=R.f.up t.k L};rw[aP.jv (q:=R.d) λu=>h1 _ (hk a) _ (.inl u) rfl,aP.jv (q:=R.e) λu=>h1 _ (hk a) _ (.inr (.inl u)) rfl,jv (l:=R.ex) λu=>h1 _ (hk a) _ (.inr (.inr u)) rfl]
 ·have a:t∈R.d.ts:=a;show _={R with d:=R.d.up t.k L};rw[aP.jv (q:=R.f) λu=>h1 _ u _ (.inl (hk a)) rfl,aP.jv (q:=R.e) λu=>c _ (hk a) _ (.inl u) rfl,jv (l:=R.ex) λu=>c _ (hk a) _ (.inr u) rfl]
 ·have a:t∈R.e.ts:=a;show _={R with e:=R.e.up t.k L};rw[aP.jv (q:=R.f) λu=>h1 _ u _ (.inr (.inl (hk a))) rfl,aP.jv (q:=R.d) λu=>c _ u _ (.inl (hk a)) rfl,jv (l:=R.ex) λu=>g _ (hk a) _ u rfl]
section
variable {H0 A B:aa}{F F':Nat->Prop}{p dp Q U most m:Nat}{s s':Pl}{M M':bd}{R:ak}{l:Sl}{ll:List Int}
theorem aW.yj {k:Nat}{x:St}(h:aW H0 A F p M R)(hz:H0.size<=A.size)(S:Step F F' A B)(hk:¬F' k)(C:A.size<=k)(i:R.nb<1000)(D:dg B p (fS M (eN R.name R.nb) (some x)) k (eN R.name R.nb) R.W []):aW H0 B F' p (fS M (eN R.name R.nb) (some x)) {R with ex:=R.ex++[⟨k,eN R.name R.nb,[]⟩],nb:=R.nb+1}:=by
 have c:({R with ex:=R.ex++[⟨k,eN R.name R.nb,[]⟩],nb:=R.nb+1}:ak).all=R.all++[⟨k,eN R.name R.nb,[]⟩]:=by
  unfold ak.all;simp only[Rg]
 have hO:∀b,({R with ex:=R.ex++[⟨k,eN R.name R.nb,[]⟩],nb:=R.nb+1}:ak).O b↔R.O b\/b=k:=by
  intro b;unfold ak.O;rw[c];constructor
  ·rintro(u|u|⟨t,d,e⟩)
   ·exact .inl (.inl u)
   ·exact .inl (.inr (.inl u))
   ·rcases Qj.1 d with v|v
    ·exact .inl (.inr (.inr ⟨t,v,e⟩))
    ·have:t=⟨k,eN R.name R.nb,[]⟩:=by simpa using v
     subst this;exact .inr e
  ·rintro((u|u|⟨t,d,e⟩)|u)
   ·exact .inl u
   ·exact .inr (.inl u)
   ·exact .inr (.inr ⟨t,Qj.2 (.inl d),e⟩)
   ·exact .inr (.inr ⟨_,Qj.2 (.inr (QV.2 rfl)),u⟩)
 have y:Step (R.X F) (ak.X {R with ex:=R.ex++[⟨k,eN R.name R.nb,[]⟩],nb:=R.nb+1} F') A B:=by
  refine⟨S.mod.mono λb _ u=>.inl u,λb u=>?_⟩;rcases u with u|u
  ·exact(S.own b u).imp .inl id
  ·rcases (hO b).1 u with v|v
   ·exact .inl (.inr v)
   ·exact .inr (by omega)
 have same:∀b,R.O b->B[b]?=A[b]?:=λb f=>S.mod.same b (h.lt b f) (h.off b f).1;have g:∀t∈R.all,t.n≠eN R.name R.nb:=λt d e=>by
  obtain⟨x,z⟩:=(h.tr t d).there;rw[e,h.Ln (Nat.le_of_lt i) (Qm _)] at z;cases z
 refine⟨(same _ (.inl rfl)).trans h.row,λq n=>⟨(same _ (.inr (.inl ⟨q,n,rfl⟩))).trans (h.pt q n).1,(h.pt q n).2.step y⟩,h.ords.step y,λt d=>?_,λb f=>?_,h.pbs,?_,?_,λt d=>?_,λj o=>?_⟩
 ·rw[c] at d;rcases Qj.1 d with v|v
  ·exact(h.tr t v).aE (same _ (.inr (.inr ⟨t,v,rfl⟩))) (aU (g t v))
  ·have:t=⟨k,eN R.name R.nb,[]⟩:=by simpa using v
   subst this;exact D
 ·rcases (hO b).1 f with v|v
  ·exact⟨λu=>(S.own b u).elim (h.off b v).1 λw=>by have:=h.lt b v;omega,(h.off b v).2⟩
  ·subst v;exact⟨hk,by omega⟩
 ·rw[c,Q4,QY];refine⟨h.ks,by simp,λa r b f e=>?_⟩;obtain⟨t,d,rfl⟩:=QB.1 r;have:=h.lt _ (.inr (.inr ⟨t,d,rfl⟩));simp at f;omega
 ·rw[c,Q4,QY];refine⟨h.ns,by simp,λa r b f e=>?_⟩;obtain⟨t,d,rfl⟩:=QB.1 r;simp at f;exact g t d (e.trans f)
 ·rw[c] at d;rcases Qj.1 d with v|v
  ·obtain⟨j,a,b⟩:=h.nms t v;exact⟨j,by show j<R.nb+1;omega,b⟩
  ·have:t=⟨k,eN R.name R.nb,[]⟩:=by simpa using v
   subst this;exact⟨R.nb,Nat.lt_succ_self _,rfl⟩
 ·rw[c] at o;show fS M (eN R.name R.nb) (some x) (eN R.name j)=none;rw[aU λe=>o ⟨k,eN R.name R.nb,[]⟩ (Qj.2 (.inr (QV.2 rfl))) e.symm];exact h.free j λt d=>o t (Qj.2 (.inl d))
theorem aW.cell {nx tu:Nat}(h:aW H0 A F p M R)(r:ab B R.rb Dj (jG p {R with next:=nx,turns:=tu}))(d:Mod (λb=>b=R.rb) A B):aW H0 B F p M {R with next:=nx,turns:=tu}:=by
 have f:Step (R.X F) (R.X F) A B:=⟨d.mono λb _ u=>.inr (.inl u),λ_ u=>.inl u⟩;have same:∀b,R.O b->b≠R.rb->B[b]?=A[b]?:=λb g e=>d.same b (h.lt b g) e;exact⟨r,λq a=>⟨(same _ (.inr (.inl ⟨q,a,rfl⟩)) (h.Og a)).trans (h.pt q a).1,(h.pt q a).2.step f⟩,h.ords.step f,λt c=>(h.tr t c).aE (same _ (.inr (.inr ⟨t,c,rfl⟩)) (h.ID c h.row (by decide))) rfl,h.off,h.pbs,h.ks,h.ns,h.nms,h.free⟩
theorem aW.J5 {j:Nat}{sl:Sl}(h:aW H0 A F p M R)(g:(R.get j).ts=[])(hs:ja (R.X F) B sl (oN R.ex))(r:ab B (R.get j).pb EY (iS R.rb sl))(E:Mod (λb=>b=(R.get j).pb) A B):aW H0 B F p M {R.put j ⟨(R.get j).pb,sl,R.ex⟩ with ex:=[]}:=by
 have d:({R.put j ⟨(R.get j).pb,sl,R.ex⟩ with ex:=[]}:ak).all.Perm R.all:=by
  unfold ak.all;rcases j with _|_|j
  ·have g:R.f.ts=[]:=g;show (R.ex++(R.d.ts++(R.e.ts++[]))).Perm _;rw[g,RA,RB,<-Rg R.d.ts];exact X8
  ·have g:R.d.ts=[]:=g;show (R.f.ts++(R.ex++(R.e.ts++[]))).Perm _;rw[g,RA,RB];exact List.Perm.append_left _ X8
  ·have g:R.e.ts=[]:=g;show (R.f.ts++(R.d.ts++(R.ex++[]))).Perm _;rw[g,RA,RB]
 have v:({R.put j ⟨(R.get j).pb,sl,R.ex⟩ with ex:=[]}:ak).parts.map (·.pb)=R.parts.map (·.pb):=by rcases j with _|_|j<;>rfl
 have y:({R.put j ⟨(R.get j).pb,sl,R.ex⟩ with ex:=[]}:ak).rb=R.rb:=by rcases j with _|_|j<;>rfl
 have hO:∀b,({R.put j ⟨(R.get j).pb,sl,R.ex⟩ with ex:=[]}:ak).O b↔R.O b:=by
  intro b;unfold ak.O;have K:(∃q∈({R.put j ⟨(R.get j).pb,sl,R.ex⟩ with ex:=[]}:ak).parts,b=q.pb)↔∃q∈R.parts,b=q.pb:=by
   have G:∀l:List aP,(∃q∈l,b=q.pb)↔b∈l.map (·.pb):=λl=>by
    rw[QB];exact⟨λ⟨q,a,c⟩=>⟨q,a,c.symm⟩,λ⟨q,a,c⟩=>⟨q,a,c.symm⟩⟩
   rw[G,G,v]
  have e2:(∃t∈({R.put j ⟨(R.get j).pb,sl,R.ex⟩ with ex:=[]}:ak).all,b=t.k)↔∃t∈R.all,b=t.k:=⟨λ⟨t,a,c⟩=>⟨t,d.mem_iff.1 a,c⟩,λ⟨t,a,c⟩=>⟨t,d.mem_iff.2 a,c⟩⟩;rw[K,e2,y]
 have w:∀b,ak.X {R.put j ⟨(R.get j).pb,sl,R.ex⟩ with ex:=[]} F b↔R.X F b:=λb=>by
  unfold ak.X;rw[hO b]
 have z:ak.X {R.put j ⟨(R.get j).pb,sl,R.ex⟩ with ex:=[]} F=R.X F:=funext λb=>propext (w b);have I:Step (R.X F) (ak.X {R.put j ⟨(R.get j).pb,sl,R.ex⟩ with ex:=[]} F) A B:=⟨E.mono λb _ u=>by rw[u];exact ak.Ha (R.get_mem j),λb u=>.inl ((w b).1 u)⟩;have same:∀b,R.O b->b≠(R.get j).pb->B[b]?=A[b]?:=λb C e=>E.same b (h.lt b C) e;have x:ab B R.rb Dj (jG p R):=(same _ (.inl rfl) (λe=>h.Og (R.get_mem j) e.symm)).trans h.row;have f:∀q∈R.parts,q.pb≠(R.get j).pb->ab B q.pb EY (iS R.rb q.s)/\ja (ak.X {R.put j ⟨(R.get j).pb,sl,R.ex⟩ with ex:=[]} F) B q.s (oN q.ts):=λq n D=>⟨(same _ (.inr (.inl ⟨q,n,rfl⟩)) D).trans (h.pt q n).1,(h.pt q n).2.step I⟩;have k:[R.f.pb,R.d.pb,R.e.pb].Nodup:=h.pbs;simp only[List.nodup_cons,Qs,QT,or_false,not_or] at k;rw[<-z] at hs;refine⟨?_,?_,?_,?_,λb C=>h.off b ((hO b).1 C),by rw[v];exact h.pbs,(d.map _).nodup_iff.2 h.ks,(d.map _).nodup_iff.2 h.ns,?_,?_⟩
 ·rcases j with _|_|j<;>exact x
 ·have mf:R.f∈R.parts:=by simp[ak.parts]
  have md:R.d∈R.parts:=by simp[ak.parts]
  have J:R.e∈R.parts:=by simp[ak.parts]
  intro q n;unfold ak.parts at n;simp only[Qs,QT,or_false] at n;rcases j with _|_|j
  ·rcases n with rfl|rfl|rfl
   ·exact⟨r,hs⟩
   ·exact f _ md λe=>k.1.1 e.symm
   ·exact f _ J λe=>k.1.2 e.symm
  ·rcases n with rfl|rfl|rfl
   ·exact f _ mf k.1.1
   ·exact⟨r,hs⟩
   ·exact f _ J λe=>k.2.1 e.symm
  ·rcases n with rfl|rfl|rfl
   ·exact f _ mf k.1.2
   ·exact f _ md k.2.1
   ·exact⟨r,hs⟩
 ·have:=h.ords.step I;rcases j with _|_|j<;>exact this
 ·intro t o;have h1:=h.tr t (d.mem_iff.1 o);have L:=h1.aE (B:=B) (M':=M) (same _ (.inr (.inr ⟨t,d.mem_iff.1 o,rfl⟩)) (h.ID (d.mem_iff.1 o) (h.pt _ (R.get_mem j)).1 (by decide))) rfl;rcases j with _|_|j<;>exact L
 ·intro t o;have:=h.nms t (d.mem_iff.1 o);rcases j with _|_|j<;>exact this
 ·intro i hi;have h1:=h.free i λt o=>by
   have:=hi t (d.mem_iff.2 o);rcases j with _|_|j<;>exact this
  rcases j with _|_|j<;>exact h1
end
structure AW (ords:List (List Int))(ll:List Int)(i:Nat)(old new:List Tx):Prop where
 ks:new.map (·.k)=old.map (·.k)
 ns:new.map (·.n)=old.map (·.n)
 len:new.length=old.length
 done:∀j t t',j<i->old[j]?=some t->new[j]?=some t'->nK (bk ll (ords.getD j [])) t.L t'.L/\t'.L.length<=t.L.length+1
 left:∀j,i<=j->new[j]?=old[j]?
structure gN (H0 A:aa)(F:Nat->Prop)(p dp:Nat)(s:Pl)(M:bd)(Q U most m c:Nat)(R:ak):Prop where
 ar:aM H0 A F p dp s M Q U most m
 rel:aW H0 A F p M R
 lQ:ov M c
section
variable {H0 A B:aa}{F F':Nat->Prop}{p dp Q U most m c:Nat}{s s':Pl}{M M':bd}{R:ak}{l:Sl}{ll:List Int}
theorem gN.grow (h:gN H0 A F p dp s M Q U most m c R)(e:Ext A B):gN H0 B F p dp s M Q U most m c R:=⟨h.ar.grow e,h.rel.grow e,h.lQ⟩
theorem gN.OU (h:gN H0 A F p dp s M Q U most m c R):∀b,R.X F b->b<A.size:=λb u=>u.elim (h.ar.ar.lt b) (h.rel.lt b)
set_option maxHeartbeats 2000000 in
theorem BL {j:Nat}{K:Int->aa->Prop}{J:aa->Prop}(h:gN H0 A F p dp s M Q U most m c R)(hg:Gl H0)(bs:Pw H0)(hF:R.Fit)(hQ:Q<=1048576)(hm:m+100000<=30000000000)(hq:U+2*R.ords.length+2<Q)(hc:c+R.ords.length<4096)(bA:(R.get j).ts=[])(hex:R.ex=[])(ae:R.nb=R.next)(hn:R.next+R.ords.length<=1000)(ho:R.ords.length<=16)
  (hJ:∀F' s' M' sl ts B,gN H0 B F' p dp s' M' Q (U+2*R.ords.length) most (m+2*R.ords.length) (c+R.ords.length) ((R.put j ⟨(R.get j).pb,sl,ts⟩).fO (R.next+R.ords.length) (R.next+R.ords.length))->ts.length=R.ords.length->(∀t∈ts,t.L=[])->Step (R.X F) (ak.X ((R.put j ⟨(R.get j).pb,sl,ts⟩).fO (R.next+R.ords.length) (R.next+R.ords.length)) F') A B->(∀a,(∀i,a≠eN R.name i)->M' a=M a)->(∀b,al sl b->A.size<=b)->J B):
  aF (Sl×Int) ((Sl.mk none 0 0),(0:Int)) A λnext y H2=>br (decide (y.2<(R.os.n:Int))) (∃G:aa->Prop,G H2/\ah (av (R.get j).pb) λbB=>bW aq G (bB.add 0) λ(bC:Option Addr)=>ah bC λbD=>bW aq G (bD.add 0) λ(bG:Option Addr)=>ah (av (R.get j).pb) λb0=>bW aq G (b0.add 0) λ(b3:Option Addr)=>ah b3 λb4=>bW dN G (b4.add 1) λ(P:ByteArray)=>((P.size+(RV #[46]).size:Nat):Int)<=9223372036854775807/\ah (some (QS ⟨R.rb,0,none⟩ 9)) λb5=>Go.Proofs.YtkehfflpbpdokaaGreatDoor.ld (ai .i64) H2 b5 λ(b6:Int)=>E6.sp b6 H2 λ(r:ByteArray) H3=>G H3/\(((P++(RV #[46])).size+r.size:Nat):Int)<=9223372036854775807/\ah (av (R.get j).pb) λb7=>bW aq G (b7.add 0) λ(b8:Option Addr)=>ah b8 λb9=>bW (ai .i64) G (b9.add 2) λ(cm:Int)=>Iv.sp bG ((P++(RV #[46]))++r) cm H3 λ(S:(Option Addr×Int)) H4=>br (S.2!=(0:Int)) (K S.2 H4) (ah (some (QS ⟨R.rb,0,none⟩ 9)) λaf=>Go.Proofs.YtkehfflpbpdokaaGreatDoor.ld (ai .i64) H4 af λ(a1:Int)=>ah (some (QS ⟨R.rb,0,none⟩ 9)) λa6=>st H4 a6 (.int .i64 (Qe.wrap (a1+(1:Int)))) λH5=>aB H5 #[(.pointer S.1)] Oa λcA H6=>bI au Qf (Qo #[Mm,Mm] Mm #[y.1.v,(.slice (some cA) 1 1)]) H6 λ(cB:Sl) H7=>next (cB,Qe.wrap (y.2+(1:Int))) H7)) (ah (av (R.get j).pb) λa7=>st H2 (a7.add 1) y.1.v λH8=>J H8):=by
 have hlen:=h.rel.ords.len;have ed:=h.ar.ext.size;have f:=R.get_mem j;refine ay R.ords.length (λi z B=>z.2=(i:Int)/\∃F' s' M' news,gN H0 B F' p dp s' M' Q (U+2*i) most (m+2*i) (c+i) {R with ex:=news,next:=R.next+i,nb:=R.next+i}/\news.length=i/\(∀t∈news,t.L=[])/\aA B 0 Oa 1 z.1 (oN news)/\(∀b,al z.1 b->A.size<=b/\¬ak.X {R with ex:=news,next:=R.next+i,nb:=R.next+i} F' b)/\Step (R.X F) (ak.X {R with ex:=news,next:=R.next+i,nb:=R.next+i} F') A B/\(∀a,(∀i,a≠eN R.name i)->M' a=M a)) ⟨rfl,F,s,M,[],?_,rfl,by simp,aA.nil _ _ _ _,λb u=>(by obtain⟨ad,I,_⟩:=u;cases I),?_,λ_ _=>rfl⟩ ?_
 ·have e:=R.Ma hex ae;rw[e];exact h
 ·have e:=R.Ma hex ae;rw[e];exact Step.refl _ _
 rintro i ⟨z,_⟩ B next hi ⟨rfl,F1,s1,T,news,h1,nl,hL,o1,w,V,a8⟩ W
 dsimp only at o1 w ⊢;obtain⟨rp,sp⟩:=h1.rel.pt (R.get j) f;have rr:=h1.rel.row;refine ao (λY=>?_) (λY=>?_)
 ·have cF:i<R.ords.length:=by
   have:(i:Int)<(R.os.n:Int):=by simpa using Y
   omega
  refine⟨Ext B,.refl _ _,?_⟩;simp only[aw,av];refine ab.bW (c:=aq) (i:=0) (x:=some ⟨R.rb,0,none⟩) (cs:=λ_=>iS R.rb (R.get j).s) (λD g=>rp.ext g) (λ_ _=>rfl) ?_;simp only[aw];refine ab.bW (c:=aq) (i:=0) (x:=av p) (cs:=λ_=>jG p {R with ex:=news,next:=R.next+i,nb:=R.next+i}) (λD g=>rr.ext g) (λ_ _=>rfl) ?_;refine ab.bW (c:=aq) (i:=0) (x:=some ⟨R.rb,0,none⟩) (cs:=λ_=>iS R.rb (R.get j).s) (λD g=>rp.ext g) (λ_ _=>rfl) ?_;simp only[aw];refine ab.bW (c:=dN) (i:=1) (x:=R.name) (cs:=λ_=>jG p {R with ex:=news,next:=R.next+i,nb:=R.next+i}) (λD g=>rr.ext g) (λ_ _=>rfl) ?_;have c0:=hF.name;have c3:(RV #[46]).size=1:=rfl;refine⟨by rw[c3];omega,?_⟩;refine ab.ld (c:=ai .i64) (i:=9) (x:=((R.next+i:Nat):Int)) rr rfl ?_;refine Ft (bs.ext h1.ar.ext) (by omega) λB0 L=>⟨L,?_,?_⟩
  ·have:=(mu (name:=R.name) (j:=R.next+i) (by omega)).1;unfold eN at this;rw[VP] at this;omega
  replace h1:=h1.grow L;replace o1:=o1.ext L;replace V:=V.trans (Step.bX L);refine ab.bW (c:=aq) (i:=0) (x:=some ⟨R.rb,0,none⟩) (cs:=λ_=>iS R.rb (R.get j).s) (λD g=>rp.ext g) (λ_ _=>rfl) ?_;simp only[aw];refine ab.bW (c:=ai .i64) (i:=2) (x:=(R.W:Int)) (cs:=λ_=>jG p {R with ex:=news,next:=R.next+i,nb:=R.next+i}) (λD g=>rr.ext g) (λ_ _=>rfl) ?_;obtain⟨ns,c4,ee⟩:=h1.lQ;have eg:=(mu (name:=R.name) (j:=R.next+i) (by omega)).1;refine h1.ar.yj (n:=eN R.name (R.next+i)) (ns:=ns) hg (by omega) (Da (by omega) c0) hF.W hQ (by omega) (by omega) (h1.rel.Ln (by show R.next+i<=1000;omega) (Qm _)) c4 (by omega) λN s2 x2 k C p2 t2 S2 k2 kA _=>?_;refine az rfl ?_;have c5:=h1.ar.ext.size;have r2:=h1.rel.yj c5 S2 k2 kA (by show R.next+i<1000;omega) t2;have ba:∀b,ak.O {R with ex:=news++[⟨k,eN R.name (R.next+i),[]⟩],next:=R.next+i,nb:=R.next+i+1} b->b=k\/ak.O {R with ex:=news,next:=R.next+i,nb:=R.next+i} b:=by
   intro b u;unfold ak.O at u ⊢;rcases u with u|u|⟨t,Z,e⟩
   ·exact .inr (.inl u)
   ·exact .inr (.inr (.inl u))
   ·unfold ak.all at Z ⊢;simp only[Qj,QV] at Z ⊢;rcases Z with v|v|v|v|v
    ·exact .inr (.inr (.inr ⟨t,.inl v,e⟩))
    ·exact .inr (.inr (.inr ⟨t,.inr (.inl v),e⟩))
    ·exact .inr (.inr (.inr ⟨t,.inr (.inr (.inl v)),e⟩))
    ·exact .inr (.inr (.inr ⟨t,.inr (.inr (.inr v)),e⟩))
    ·subst v;exact .inl e
  have d2:ov (fS T (eN R.name (R.next+i)) (some x2)) (c+i+1):=h1.lQ.more;refine ab.ld (c:=ai .i64) (i:=9) (x:=((R.next+i:Nat):Int)) r2.row rfl ?_;refine ab.st r2.row (i:=9) (by simp[jG]) rfl λD rD mD zD=>?_;rw[aH (R.next+i) (by omega)] at rD;have r3:=r2.cell (nx:=R.next+i+1) (tu:=R.turns) rD mD;have bg:¬N R.rb:=(r2.off _ (.inl rfl)).1;have p3:aM H0 D N p dp s2 (fS T (eN R.name (R.next+i)) (some x2)) Q (U+2*i+2) most (m+2*i+2):=p2.aside ⟨by have:=p2.ext.size;omega,λb d _=>(mD.same b (by have:=p2.ext.size;omega) λu=>by have:=(r2.off _ (.inl rfl)).2;rw[u] at d;exact absurd this (by show ¬H0.size<=R.rb;omega)).trans (p2.ext.same b d id)⟩ λb d=>mD.same b (p2.ar.lt b d) λu=>bg (u▸d);have o:∀b,al z b->b<B0.size/\b≠R.rb/\¬N b:=λb d=>by
   have c6:=(o1.block b d).2;have:=(w b d).2;exact⟨c6,λe=>this (.inr (.inl e)),λu=>(S2.own b u).elim (λv=>this (.inl v)) λv=>by omega⟩
  have ei:=S2.mod.size;have oD:aA D 0 Oa 1 z (oN news):=(o1.mod S2.mod λb d u=>(w b d).2 (.inl u)).mod mD λb d=>(o b d).2.1;have zn:z.n=i:=by have:=o1.1;unfold oN at this;simp at this;omega
  refine Jk.push (base:=0) (s:=z) (xs:=oN news) oD rfl (by omega) (by omega) (Nat.zero_le _) λz' E n' oE mE bE _=>?_;have c7:=mE.size;have O:∀b,ak.X {R with ex:=news++[⟨k,eN R.name (R.next+i),[]⟩],next:=R.next+(i+1),nb:=R.next+(i+1)} N b->¬al z b:=by
   intro b u d;obtain⟨q1,q2,q3⟩:=o b d;rcases u with u|u
   ·exact q3 u
   ·rcases ba b u with v|v
    ·omega
    ·exact(w b d).2 (.inr v)
  have SB:Step (ak.X {R with ex:=news,next:=R.next+i,nb:=R.next+i} F1) (ak.X {R with ex:=news++[⟨k,eN R.name (R.next+i),[]⟩],next:=R.next+(i+1),nb:=R.next+(i+1)} N) B0 D:=by
   refine⟨(S2.mod.mono λb _ u=>.inl u).trans (mD.mono λb _ u=>.inr (.inl u)),λb u=>?_⟩;rcases u with u|u
   ·exact(S2.own b u).imp .inl id
   ·rcases ba b u with v|v
    ·exact .inr (by omega)
    ·exact .inl (.inr v)
  have bl:=V.trans SB;have SE:Step (R.X F) (ak.X {R with ex:=news++[⟨k,eN R.name (R.next+i),[]⟩],next:=R.next+(i+1),nb:=R.next+(i+1)} N) A E:=⟨bl.mod.trans' mE λb d u=>by have:=(w b u).1;omega,bl.own⟩;have r4:aW H0 E N p (fS T (eN R.name (R.next+i)) (some x2)) {R with ex:=news++[⟨k,eN R.name (R.next+i),[]⟩],next:=R.next+(i+1),nb:=R.next+(i+1)}:=
   r3.Nq (λq hq=>(h.rel.pt q hq).2.step SE) (h.rel.ords.step SE) (λb d=>⟨mE.same b (r3.lt b d) (O b (.inr d)),(r3.off b d).1⟩) (λ_ _=>rfl) r3.free
  have p4:aM H0 E N p dp s2 (fS T (eN R.name (R.next+i)) (some x2)) Q (U+2*i+2) most (m+2*i+2):=p3.aside ⟨Nat.le_trans p3.ext.size c7,λb d _=>(mE.same b (Nat.lt_of_lt_of_le d p3.ext.size) λu=>by have:=(w b u).1;omega).trans (p3.ext.same b d id)⟩ λb d=>mE.same b (p3.ar.lt b d) λu=>(o b u).2.2 d;refine W cF _ _ ⟨aH i (by omega),N,s2,_,news++[⟨k,eN R.name (R.next+i),[]⟩],⟨p4,r4,d2⟩,by simp[nl],λt Z=>?_,?_,λb d=>?_,SE,λa I=>?_⟩
  ·rcases Qj.1 Z with v|v
   ·exact hL t v
   ·have:t=⟨k,eN R.name (R.next+i),[]⟩:=by simpa using v
    rw[this]
  ·have:oN (news++[⟨k,eN R.name (R.next+i),[]⟩])=oN news++[cG k]:=by unfold oN;rw[Q4];rfl
   rw[this];exact oE
  ·have ej:=SB.mod.size;have ec:=V.mod.size;rcases bE b d with v|v
   ·exact⟨(w b v).1,λu=>O b u v⟩
   ·refine⟨by omega,λu=>?_⟩;rcases u with u|u
    ·have:=p3.ar.lt b u;omega
    ·have:=r3.lt b u;omega
  ·rw[aU (I (R.next+i))];exact a8 a I
 ·have c8:i=R.ords.length:=by
   have:¬(i:Int)<(R.os.n:Int):=by simpa using Y
   omega
  subst c8;simp only[aw,av];refine ab.st rp (i:=1) (by simp[iS]) (by cases z;rfl) λC rC mC zC=>?_;have c9:¬F1 (R.get j).pb:=(h1.rel.off _ (.inr (.inl ⟨_,f,rfl⟩))).1;have zn:z.n=(oN news).length:=by have:=o1.1;simpa using this.symm
  have dk:∀b,al z b->b<B.size:=λb d=>(o1.block b d).2;have sX:ja (ak.X {R with ex:=news,next:=R.next+R.ords.length,nb:=R.next+R.ords.length} F1) C z (oN news):=by
   refine⟨zn,λad I=>⟨by have:=dk _ ⟨ad,I,rfl⟩;omega,(w _ ⟨ad,I,rfl⟩).2⟩,o1.reads.mod mC λad I u=>(w _ ⟨ad,I,rfl⟩).2 (by rw[u];exact ak.Ha f)⟩
  have r2:=aW.J5 (j:=j) h1.rel (show (ak.get {R with ex:=news,next:=R.next+R.ords.length,nb:=R.next+R.ords.length} j).ts=[] by rcases j with _|_|j<;>exact bA) sX (by rcases j with _|_|j<;>exact rC) (by rcases j with _|_|j<;>exact mC);have e:({ak.put {R with ex:=news,next:=R.next+R.ords.length,nb:=R.next+R.ords.length} j ⟨(ak.get {R with ex:=news,next:=R.next+R.ords.length,nb:=R.next+R.ords.length} j).pb,z,news⟩ with ex:=[]}:ak)=((R.put j ⟨(R.get j).pb,z,news⟩).fO (R.next+R.ords.length) (R.next+R.ords.length)):=by
   rcases j with _|_|j<;>(simp only[ak.put,ak.get,ak.fO];rw[hex])
  have r3:aW H0 C F1 p T ((R.put j ⟨(R.get j).pb,z,news⟩).fO (R.next+R.ords.length) (R.next+R.ords.length)):=e▸r2;have p3:aM H0 C F1 p dp s1 T Q (U+2*R.ords.length) most (m+2*R.ords.length):=h1.ar.aside ⟨by have:=h1.ar.ext.size;omega,λb d _=>(mC.same b (by have:=h1.ar.ext.size;omega) λu=>by have:=(h1.rel.off _ (.inr (.inl ⟨_,f,rfl⟩))).2;rw[u] at d;exact absurd d (by omega)).trans (h1.ar.ext.same b d id)⟩ λb d=>mC.same b (h1.ar.ar.lt b d) λu=>c9 (u▸d);refine hJ F1 s1 T z news C ⟨p3,r3,h1.lQ⟩ nl hL ?_ a8 λb d=>(w b d).1;refine⟨V.mod.trans' mC λb d u=>by rw[u];exact ak.Ha f,λb u=>?_⟩;rcases u with u|u
  ·exact V.own b (.inl u)
  ·refine V.own b (.inr ?_);have dt:(ak.parts ((R.put j ⟨(R.get j).pb,z,news⟩).fO (R.next+R.ords.length) (R.next+R.ords.length))).map (·.pb)=R.parts.map (·.pb):=by rcases j with _|_|j<;>rfl
   have dT:∀t,t∈ak.all ((R.put j ⟨(R.get j).pb,z,news⟩).fO (R.next+R.ords.length) (R.next+R.ords.length))->t∈ak.all {R with ex:=news,next:=R.next+R.ords.length,nb:=R.next+R.ords.length}:=by
    intro t;unfold ak.all;rcases j with _|_|j<;>(simp only[ak.put,ak.fO,Qj,hex,QT,or_false];intro u)
    ·rcases u with u|u|u
     ·exact .inr (.inr (.inr u))
     ·exact .inr (.inl u)
     ·exact .inr (.inr (.inl u))
    ·rcases u with u|u|u
     ·exact .inl u
     ·exact .inr (.inr (.inr u))
     ·exact .inr (.inr (.inl u))
    ·rcases u with u|u|u
     ·exact .inl u
     ·exact .inr (.inl u)
     ·exact .inr (.inr (.inr u))
   have ea:ak.rb ((R.put j ⟨(R.get j).pb,z,news⟩).fO (R.next+R.ords.length) (R.next+R.ords.length))=R.rb:=by rcases j with _|_|j<;>rfl
   rcases u with u|⟨q,hq,e2⟩|⟨t,Z,e2⟩
   ·exact .inl (u.trans ea)
   ·have:b∈R.parts.map (·.pb):=by rw[<-dt,e2];exact Ru hq
    obtain⟨q',eb,e3⟩:=QB.1 this;exact .inr (.inl ⟨q',eb,e3.symm⟩)
   ·exact .inr (.inr ⟨t,dT t Z,e2⟩)
end
theorem ak.JW (R:ak)(j:Nat):((R.get j).ts).Sublist R.all:=by
 unfold ak.all;rcases j with _|_|j
 ·exact Ur _ _
 ·exact(Ur _ _).trans (SC _ _)
 ·exact((Ur _ _).trans (SC _ _)).trans (SC _ _)
theorem tT {ts:List Tx}{i:Nat}{t:Tx}{L:List (List Int)}(f:(ts.map (·.k)).Nodup)(hi:ts[i]?=some t)(a:Nat):(ts.map (Tx.up t.k L))[a]?=if a=i then some {t with L:=L} else ts[a]?:=by
 rw[QC];by_cases e:a=i
 ·subst e;rw[if_pos rfl,hi];simp[Tx.up]
 ·rw[if_neg e];cases d:ts[a]? with
  |none=>rfl
  |some x=>
    have b:=(Qk.1 d).1;have:x.k≠t.k:=λq=>e ((RM (l:=ts.map (·.k)) (i:=a) (j:=i) (by simpa using b) f).1 (by rw[QC,QC,d,hi];simp[q]));simp[Tx.up,this]
theorem AW.step {ords:List (List Int)}{ll:List Int}{i:Nat}{old ts:List Tx}{t:Tx}{L:List (List Int)}(h:AW ords ll i old ts)(d:(ts.map (·.k)).Nodup)(hi:ts[i]?=some t)(g:nK (bk ll (ords.getD i [])) t.L L)(j:L.length<=t.L.length+1):AW ords ll (i+1) old (ts.map (Tx.up t.k L)):=by
 refine⟨?_,?_,by rw[QI];exact h.len,λa x x' n f b=>?_,λa n=>?_⟩
 ·rw[RE,<-h.ks];exact Rx λx _=>x.GW _ _
 ·rw[RE,<-h.ns];exact Rx λx _=>x.Kt _ _
 ·rw[tT d hi] at b;by_cases e:a=i
  ·subst e;rw[if_pos rfl] at b;cases b;rw[h.left a (Qm _),f] at hi;cases hi;exact⟨g,j⟩
  ·rw[if_neg e] at b;exact h.done a x x' (by omega) f b
 ·rw[tT d hi,if_neg (by omega)];exact h.left a (by omega)
section
variable {H0 A B:aa}{F F':Nat->Prop}{p dp Q U most m c:Nat}{s s':Pl}{M M':bd}{R:ak}{l:Sl}{ll:List Int}
set_option maxHeartbeats 2000000 in
theorem Ei {j w:Nat}{K:Int->aa->Prop}(h:gN H0 A F p dp s M Q U most m c R)(hg:Gl H0)(hF:R.Fit)(hQ:Q<=1048576)(hm:m+100000<=30000000000)(hw:∀t∈(R.get j).ts,t.L.length<=w)(bG:w<=400)(hq:U+R.ords.length*(2*w+4)+w+2<Q)(ho:R.ords.length<=16)(b0:(R.get j).ts.length=R.ords.length)
  (hl:Ints .u64 A l ll) (a8:iL (R.X F) A l) (ht:∀i (hi:i<R.ords.length),R.ords[i].length<=1000/\(bk ll R.ords[i]).length=R.W/\cO (bk ll R.ords[i]))
  (hK:∀F' s' M' S ts B,gN H0 B F' p dp s' M' Q S most (m+4000*R.ords.length) c (R.put j ⟨(R.get j).pb,(R.get j).s,ts⟩)->AW R.ords ll R.ords.length (R.get j).ts ts->S<=U+R.ords.length*(2*w+4)->Step (R.X F) (ak.X (R.put j ⟨(R.get j).pb,(R.get j).s,ts⟩) F') A B->(∀a,(∀i,a≠eN R.name i)->M' a=M a)->K 0 B):
  ah (av (R.get j).pb) λT=>Go.Proofs.YtkehfflpbpdokaaGreatDoor.ld au A (T.add 1) λ(o:Sl)=>aF Int (0:Int) A λy g H9=>br (decide (g<(o.n:Int))) (ah o.a λV=>(0<=g/\g<(o.n:Int))/\Go.Proofs.YtkehfflpbpdokaaGreatDoor.ld aq H9 (V.add (g.toNat*1)) λ(W:Option Addr)=>ah (av (R.get j).pb) λY=>Go.Proofs.YtkehfflpbpdokaaGreatDoor.ld aq H9 (Y.add 0) λ(Z:Option Addr)=>J8.sp Z l g H9 λ(ba:Sl) bg=>Iy.sp W ba bg λ(ae:(Bool×Int)) af=>br (ae.2!=(0:Int)) (K ae.2 af) (y (Qe.wrap (g+(1:Int))) af)) (K (0:Int) H9):=by
 have a1:=R.get_mem j;simp only[aw,av];refine ab.ld (c:=au) (i:=1) (x:=(R.get j).s) (h.rel.pt _ a1).1 rfl ?_;have b1:(R.get j).s.n=R.ords.length:=by have:=(h.rel.pt _ a1).2.len;unfold oN at this;rw[QI] at this;omega
 refine ay R.ords.length (λi z B=>z=(i:Int)/\∃F' s' M' S ts,gN H0 B F' p dp s' M' Q S most (m+4000*i) c (R.put j ⟨(R.get j).pb,(R.get j).s,ts⟩)/\AW R.ords ll i (R.get j).ts ts/\S<=U+i*(2*w+4)/\Step (R.X F) (ak.X (R.put j ⟨(R.get j).pb,(R.get j).s,ts⟩) F') A B/\(∀a,(∀i,a≠eN R.name i)->M' a=M a)) ⟨rfl,F,s,M,U,(R.get j).ts,?_,⟨rfl,rfl,rfl,λa _ _ ha=>(by omega),λ_ _=>rfl⟩,by omega,?_,λ_ _=>rfl⟩ ?_
 ·have e:R.put j ⟨(R.get j).pb,(R.get j).s,(R.get j).ts⟩=R:=R.kX j;rw[e];exact h
 ·have e:R.put j ⟨(R.get j).pb,(R.get j).s,(R.get j).ts⟩=R:=R.kX j;rw[e];exact Step.refl _ _
 rintro i _ B next hi ⟨rfl,F1,s1,M1,U1,ts,h1,I1,hU,S1,a6⟩ I
 refine ao (λJ=>?_) (λJ=>?_)
 ·have r:i<R.ords.length:=by
   have:(i:Int)<((R.get j).s.n:Int):=by simpa using J
   omega
  obtain⟨e1,e2,e3,e4,e5,e6,e7,e8,e9⟩:=R.l9 j ⟨(R.get j).pb,(R.get j).s,ts⟩;have eg:=R.Jy j ⟨(R.get j).pb,(R.get j).s,ts⟩;generalize bl:R.put j ⟨(R.get j).pb,(R.get j).s,ts⟩=E at*;have G:(⟨(R.get j).pb,(R.get j).s,ts⟩:aP)∈E.parts:=eg▸E.get_mem j;obtain⟨rp,sp⟩:=h1.rel.pt _ G;dsimp only at rp sp;rw[e1] at rp;have L:i<ts.length:=by have:=I1.len;omega
  have N:ts[i]?=some ts[i]:=Qg L;have d:ts[i]∈E.all:=ak.dj G _ (Qn L);refine ja.ld (c:=aq) (x:=av ts[i].k) (i:=i) sp (xq N) rfl λad _=>?_;refine ab.ld (c:=aq) (i:=0) (x:=some ⟨R.rb,0,none⟩) rp rfl ?_;obtain⟨t1,t2,t3⟩:=ht i r;rw[<-e1];have a7:i<E.ords.length:=by rw[e5];exact r
  have eo:E.ords[i]=R.ords[i]:=by simp[e5]
  refine Dc h1.rel (a8.ints hl S1) a7 (by rw[eo];exact t1) λrs C oC eC=>?_;rw[eo] at oC;have P:=h1.grow eC;have hold:ts[i]∈(R.get j).ts:=by
   have:=I1.left i (Qm _);rw[N] at this;exact Qi this.symm
  have b3:=hw _ hold;have bs:ts[i].n.size<=9223372036854775807:=by
   obtain⟨a,ha,e⟩:=h1.rel.nms _ d;have:=(mu (name:=R.name) (j:=a) (by have:=hF.nb;rw[e7] at ha;omega)).1;have:=hF.name;rw[e,e2];omega
  have hmul:i*(2*w+4)+(2*w+4)<=R.ords.length*(2*w+4):=by
   have:=Nat.mul_le_mul_right (2*w+4) (show i+1<=R.ords.length from r);rw[TN,Nat.one_mul] at this;exact this
  refine(P.rel.tr _ d).insert P.ar hg (P.rel.off _ (.inr (.inr ⟨_,d,rfl⟩))) bs (by rw[e3];exact hF.W) (by omega) hQ (by omega) (by omega) oC.ints ⟨by rw[e3];exact t2,t3⟩ λf L' F2 s2 M2 U2 D p2 T2 _ pl _ ln O S2 k2 b4=>?_;refine az rfl ?_;have r2:=P.rel.Cg d S2 k2 T2 O;have bA:ts[i]∈(E.get j).ts:=by rw[eg];exact Qn L
  have bB:E.up ts[i].k L'=R.put j ⟨(R.get j).pb,(R.get j).s,ts.map (Tx.up ts[i].k L')⟩:=by
   rw[ak.Ni h1.rel.ks bA,eg,<-bl,ak.KO];rfl
  obtain⟨x2,bC⟩:=(P.rel.tr _ d).there;have d2:=P.lQ.same bC O;have S3:Step (R.X F) ((E.up ts[i].k L').X F2) A D:=by
   refine S1.trans (Step.trans (Step.bX eC) (S2.fK (λb u=>u.elim .inl λv=>.inr (v▸.inr (.inr ⟨_,d,rfl⟩))) λb u=>u.elim (λv=>.inr (.inl v)) λv=>.inl (.inr ((ak.M5 _ _ _ _).1 v))))
  rw[bB] at r2 S3;have bD:(ts.map (·.k)).Nodup:=by
   have:=((E.JW j).map (·.k)).nodup h1.rel.ks
   rwa [eg] at this
  refine I r _ _ ⟨aH i (by omega),F2,s2,M2,U2,_,⟨p2.later (by omega),r2,d2⟩,I1.step bD N (by rw[show R.ords.getD i []=R.ords[i] by simp[List.getD,Qg r]];exact pl) ln,?_,S3,λa ha=>?_⟩
  ·rw[TN];omega
  ·rw[O a λe=>?_]
   ·exact a6 a ha
   ·obtain⟨b,hb,e'⟩:=h1.rel.nms _ d;refine ha b ?_;rw[e,e',e2]
 ·have bE:i=R.ords.length:=by
   have:¬(i:Int)<((R.get j).s.n:Int):=by simpa using J
   omega
  subst bE;exact hK F1 s1 M1 U1 ts B h1 I1 hU S1 a6
end
def aP.aQ (q:aP)(i:Nat):List (List Int):=match q.ts[i]? with|some t=>t.L|none=>[]
section
variable {H0 A B:aa}{F F':Nat->Prop}{p dp Q U most m c:Nat}{s s':Pl}{M M':bd}{R:ak}{l:Sl}{ll:List Int}
structure Ins (ords:List (List Int))(ll:List Int)(q q':aP):Prop where
 pb:q'.pb=q.pb
 len:q'.ts.length=ords.length
 rows:∀i,i<ords.length->nK (bk ll (ords.getD i [])) (q.aQ i) (q'.aQ i)/\(q'.aQ i).length<=(q.aQ i).length+1
theorem AW.ins {ords:List (List Int)}{q:aP}{ts:List Tx}{sl:Sl}{pb:Nat}(b:q.ts.length=ords.length)(d:pb=q.pb)(I:AW ords ll ords.length q.ts ts):Ins ords ll q ⟨pb,sl,ts⟩:=by
 refine⟨d,by rw[<-b];exact I.len,λi hi=>?_⟩;have h1:i<q.ts.length:=by omega
 have a:i<ts.length:=by have:=I.len;omega
 have:=I.done i _ _ hi (Qg h1) (Qg a);unfold aP.aQ;simp only[Qg h1,Qg a];exact this
set_option maxHeartbeats 1000000 in
theorem wH {j w:Nat}{K:Int->aa->Prop}(h:gN H0 A F p dp s M Q U most m c R)(hg:Gl H0)(O:Pw H0)(J:R.Fit)(hQ:Q<=1048576)(hm:m+200000<=30000000000)(hw:∀i,((R.get j).aQ i).length<=w)(P:w<=400)(hq:U+R.ords.length*(2*w+6)+w+4<Q)(hc:c+R.ords.length<4096)(ho:R.ords.length<=16)(S:(R.get j).ts=[]\/(R.get j).ts.length=R.ords.length)(hex:R.ex=[])(n:R.nb=R.next)(hn:R.next+R.ords.length<=1000)
  (hl:Ints .u64 A l ll) (z:iL (R.X F) A l) (f:∀i (hi:i<R.ords.length),R.ords[i].length<=1000/\(bk ll R.ords[i]).length=R.W/\cO (bk ll R.ords[i]))
  (hK:∀F' s' M' o q' nx B,gN H0 B F' p dp s' M' Q o most (m+100000) (c+R.ords.length) ((R.put j q').fO nx nx)->Ins R.ords ll (R.get j) q'->o<=U+R.ords.length*(2*w+6)->nx<=R.next+R.ords.length->Step (R.X F) (ak.X ((R.put j q').fO nx nx) F') A B->(∀a,(∀i,a≠eN R.name i)->M' a=M a)->(q'.s=(R.get j).s\/∀b,al q'.s b->A.size<=b)->K 0 B):Kl.sp (av (R.get j).pb) l (some (QS ⟨R.rb,0,none⟩ 9)) A K:=by
 have r:=R.get_mem j;refine Kl.of ?_;unfold Kl.vc;have hmul:R.ords.length*(2*w+6)=R.ords.length*(2*w+4)+2*R.ords.length:=by
  rw[show 2*w+6=(2*w+4)+2 by omega,Nat.mul_add];omega
 -- what holds where the ways meet
 refine⟨λ_ B=>∃F' s' M' o m' sl ts nx,gN H0 B F' p dp s' M' Q o most m' (c+R.ords.length) ((R.put j ⟨(R.get j).pb,sl,ts⟩).fO nx nx)/\ts.length=R.ords.length/\(∀i t,ts[i]?=some t->t.L=(R.get j).aQ i)/\o<=U+2*R.ords.length/\m'<=m+100/\nx<=R.next+R.ords.length/\Step (R.X F) (ak.X ((R.put j ⟨(R.get j).pb,sl,ts⟩).fO nx nx) F') A B/\(∀a,(∀i,a≠eN R.name i)->M' a=M a)/\(sl=(R.get j).s\/∀b,al sl b->A.size<=b),?_,?_⟩
 ·refine aY _ rfl ?_;refine ab.ld (c:=au) (i:=1) (x:=(R.get j).s) (h.rel.pt _ r).1 rfl ?_;have g:=(h.rel.pt _ r).2.len;unfold oN at g;rw[QI] at g;refine ao (λk=>?_) (λk=>?_)
  ·have hz:((R.get j).s.n:Int)=0:=by simpa using k
   have d:(R.get j).ts=[]:=List.eq_nil_of_length_eq_zero (by omega);rw[aw];refine ab.ld (c:=aq) (i:=0) (x:=some ⟨R.rb,0,none⟩) (h.rel.pt _ r).1 rfl ?_;rw[aw];refine ab.ld (c:=au) (i:=3) (x:=R.os) h.rel.row rfl ?_;refine BL (K:=K) h hg O J hQ (by omega) (by omega) hc d hex n hn ho λF' s' M' sl ts B T L N D hM v=>?_;refine⟨F',s',M',_,_,sl,ts,_,T,L,λi t f=>?_,by omega,by omega,by omega,D,hM,.inr v⟩;unfold aP.aQ;rw[d,N t (Qi f)];simp
  ·have d:(R.get j).ts≠[]:=λe=>by rw[e] at g;rw[g] at k;simp at k
   have e:((R.put j ⟨(R.get j).pb,(R.get j).s,(R.get j).ts⟩).fO R.next R.next)=R:=by
    have:R.put j ⟨(R.get j).pb,(R.get j).s,(R.get j).ts⟩=R:=R.kX j;rw[this];cases R;simp only at n;subst n;rfl
   refine⟨F,s,M,U,m,(R.get j).s,(R.get j).ts,R.next,by rw[e];exact⟨h.ar,h.rel,h.lQ.mono (by omega)⟩,S.resolve_left d,λi t f=>?_,by omega,by omega,by omega,by rw[e];exact Step.refl _ _,λ_ _=>rfl,.inl rfl⟩;unfold aP.aQ;rw[f]
 ·rintro _ B ⟨F1,s1,M1,U1,m1,sl,ts,nx,T,L,N,a8,ba,V,D,Y,v⟩;obtain⟨e1,e2,e3,e4,e5,e6,e7,e8,e9⟩:=R.l9 j ⟨(R.get j).pb,sl,ts⟩;have E:((R.put j ⟨(R.get j).pb,sl,ts⟩).fO nx nx).get j=⟨(R.get j).pb,sl,ts⟩:=by rcases j with _|_|j<;>rfl
  have Z:∀q,((R.put j ⟨(R.get j).pb,sl,ts⟩).fO nx nx).put j q=(R.put j q).fO nx nx:=by intro q;rcases j with _|_|j<;>rfl
  have y:((R.put j ⟨(R.get j).pb,sl,ts⟩).fO nx nx).ords=R.ords:=e5;have a2:((R.put j ⟨(R.get j).pb,sl,ts⟩).fO nx nx).W=R.W:=e3;have a3:((R.put j ⟨(R.get j).pb,sl,ts⟩).fO nx nx).name=R.name:=e2;have G:∀t∈ts,t.L.length<=w:=λt f=>by
   obtain⟨i,hi⟩:=Qr.1 f;rw[N i t hi];exact hw i
  have ae:((R.put j ⟨(R.get j).pb,sl,ts⟩).fO nx nx).Fit:=by
   refine⟨by rw[a2];exact J.W,by rw[a3];exact J.name,by show nx<=1000;omega,λt f=>?_⟩;have:t∈ts\/t∈R.all:=by
    unfold ak.all at f ⊢;rcases j with _|_|j<;>(simp only[ak.put,ak.fO,Qj] at f ⊢)
    ·rcases f with u|u|u|u
     ·exact .inl u
     ·exact .inr (.inr (.inl u))
     ·exact .inr (.inr (.inr (.inl u)))
     ·exact .inr (.inr (.inr (.inr u)))
    ·rcases f with u|u|u|u
     ·exact .inr (.inl u)
     ·exact .inl u
     ·exact .inr (.inr (.inr (.inl u)))
     ·exact .inr (.inr (.inr (.inr u)))
    ·rcases f with u|u|u|u
     ·exact .inr (.inl u)
     ·exact .inr (.inr (.inl u))
     ·exact .inl u
     ·exact .inr (.inr (.inr (.inr u)))
   rcases this with u|u
   ·have:=G t u;omega
   ·exact J.rows t u
  have bg:(⟨(R.get j).pb,sl,ts⟩:aP).pb=(((R.put j ⟨(R.get j).pb,sl,ts⟩).fO nx nx).get j).pb:=by rw[E]
  have key:=Ei (j:=j) (w:=w) (K:=K) (l:=l) (ll:=ll) T hg ae hQ (by omega) (by rw[E];exact G) P (by rw[y];omega) (by rw[y];exact ho) (by rw[E,y];exact L) (z.ints hl D) (z.step D) (by
   intro i hi;have:=f i (by rw[y] at hi;exact hi);simpa only[y,a2] using this) (λF' s' M' o af C r2 I2 a6 S2 a7=>by
    rw[E] at r2 I2 S2;rw[Z] at r2 S2;rw[y] at r2 I2 a6;have hI:=I2.ins (sl:=sl) (pb:=(R.get j).pb) (q:=⟨(R.get j).pb,sl,ts⟩) L rfl;refine hK F' s' M' o ⟨(R.get j).pb,sl,af⟩ nx C ⟨r2.ar.later (by omega),r2.rel,r2.lQ⟩ ⟨rfl,hI.len,λi hi=>?_⟩ (by omega) V (D.trans S2) (λa ha=>by rw[a7 a (by rw[a3];exact ha)];exact Y a ha) v;have h3:=hI.rows i hi;have h4:(⟨(R.get j).pb,sl,ts⟩:aP).aQ i=(R.get j).aQ i:=by
     have I:i<ts.length:=by omega
     show (match ts[i]? with|some t=>t.L|none=>[])=_;rw[Qg I];exact N i _ (Qg I)
    rw[h4] at h3;exact h3)
  rw[E] at key;exact key
end
end Go.Proofs.YtkehfflpbpdokaaGreatDoor
