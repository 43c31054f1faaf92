/-
 Relations: a row is put into a part; trees that are made: the walk.
-/
import Derived.Test.YtkehfflpbpdokaaGreatDoorJ25
import Derived.Test.YtkehfflpbpdokaaGreatDoorJ36
open ByteArray renaming mk->LA
open Go.Addr renaming add->K0
open Go.Builtin renaming append_->Ks
open Go.IntKind renaming i64->Ke
open Go.Proofs.Tryz renaming prog->Kf
open List renaming getElem?_eq_getElem->Kg,mem_of_getElem?->Ki,mem_append->Kk,getElem_mem->Kt,mem_cons->Ku,mem_map->Kz,getElem?_map->KC,length_map->KM,not_mem_nil->KN,map_append->KX,nodup_append->La,mem_singleton->Lc,append_assoc->Lk,mem_map_of_mem->Lp,append_nil->Lu,map_congr_left->Lx,map_map->Ly,nil_append->LN,sublist_append_right->Ng,sublist_append_left->NS,perm_append_comm->Ry
open Nat renaming le_refl->Kl,add_mul->MZ
namespace Go.Proofs.YtkehfflpbpdokaaGreatDoor
open Go.MapKept
def tX (v:Value):Bool:=match v with|.pointer none=>true|_=>false
theorem sW (v:Value)(h:tX v=true):v=.pointer none:=by
 unfold tX at h
 split at h
 ·rfl
 ·cases h
theorem Eg:El Kf GH Hy 8 (.pointer none):=nL (zb:=tX) sW rfl (by kernel_rfl)
def nv (M:aU)(c:Nat):Prop:=∃ns:List ByteArray,(∀a y,M a=some y->a∈ns)/\ns.length<=c
theorem nv.more {M:aU}{c:Nat}{n:ByteArray}{x:Option St}(h:nv M c):nv (dP M n x) (c+1):=by
 obtain⟨ns,h1,h2⟩:=h
 refine⟨n::ns,λa y hy=>?_,by simp;omega⟩
 by_cases e:a=n
 ·subst e;exact List.mem_cons_self
 ·rw[aQ e] at hy;exact List.mem_cons_of_mem _ (h1 a y hy)
theorem nv.same {M M':aU}{c:Nat}{n:ByteArray}{x:St}(h:nv M c)(hn:M n=some x)(hM:∀a,a≠n->M' a=M a):nv M' c:=by
 obtain⟨ns,h1,h2⟩:=h
 refine⟨ns,λa y hy=>?_,h2⟩
 by_cases e:a=n
 ·subst e;exact h1 a x hn
 ·rw[hM a e] at hy;exact h1 a y hy
theorem nv.mono {M:aU}{c d:Nat}(h:nv M c)(hc:c<=d):nv M d:=by obtain⟨ns,h1,h2⟩:=h;exact⟨ns,h1,by omega⟩
def ah.get (R:ah):Nat->aE
 |0=>R.f
 |1=>R.d
 |_=>R.e
def ah.put (R:ah)(j:Nat)(q:aE):ah:=match j with
 |0=>{R with f:=q}
 |1=>{R with d:=q}
 |_=>{R with e:=q}
def ah.dM (R:ah)(nx nb:Nat):ah:=⟨R.rb,R.name,R.W,R.os,R.ords,R.f,R.d,R.e,R.ex,nx,nb,R.turns⟩
theorem ah.Fp (R:ah)(hex:R.ex=[])(hnb:R.nb=R.next):({R with ex:=[],next:=R.next+0,nb:=R.next+0}:ah)=R:=by
 cases R
 simp only at hex hnb
 subst hex
 subst hnb
 rfl
theorem ah.get_mem (R:ah)(j:Nat):R.get j∈R.parts:=by
 unfold ah.parts
 rcases j with _|_|j<;>simp[ah.get]
theorem ah.ET (R:ah)(j:Nat)(q:aE):(R.put j q).get j=q:=by rcases j with _|_|j<;>rfl
theorem ah.E9 (R:ah)(j:Nat)(q q':aE):(R.put j q).put j q'=R.put j q':=by rcases j with _|_|j<;>rfl
theorem ah.jc (R:ah)(j:Nat):R.put j (R.get j)=R:=by rcases j with _|_|j<;>rfl
theorem ah.j0 (R:ah)(j:Nat)(q:aE):(R.put j q).rb=R.rb/\(R.put j q).name=R.name/\(R.put j q).W=R.W/\(R.put j q).os=R.os/\(R.put j q).ords=R.ords/\(R.put j q).next=R.next/\(R.put j q).nb=R.nb/\(R.put j q).turns=R.turns/\(R.put j q).ex=R.ex:=by
 rcases j with _|_|j<;>exact⟨rfl,rfl,rfl,rfl,rfl,rfl,rfl,rfl,rfl⟩
theorem gQ {k:Nat}{L:List (List Int)}{l:List Tx}(h:k∉l.map (·.k)):l.map (Tx.up k L)=l:=by
 have:l.map (Tx.up k L)=l.map id:=Lx λt ht=>by
  unfold Tx.up
  rw[if_neg λe=>h (Kz.2 ⟨t,ht,e⟩)];rfl
 rw[this,List.map_id]
theorem aE.gQ {k:Nat}{L:List (List Int)}{q:aE}(h:k∉q.ts.map (·.k)):q.up k L=q:=by
 unfold aE.up
 rw[Go.Proofs.YtkehfflpbpdokaaGreatDoor.gQ h]
theorem ah.Hl {R:ah}{j:Nat}{t:Tx}{L:List (List Int)}(hks:(R.all.map (·.k)).Nodup)(ht:t∈(R.get j).ts):R.up t.k L=R.put j ((R.get j).up t.k L):=by
 have hk:∀{l:List Tx},t∈l->t.k∈l.map (·.k):=λh=>Lp h
 unfold ah.all at hks
 simp only[KX,La,Kk] at hks
 obtain⟨_,⟨_,⟨_,_,h3⟩,h2⟩,h1⟩:=hks
 unfold ah.up
 rcases j with _|_|j
 ·have ht:t∈R.f.ts:=ht
  show _={R with f:=R.f.up t.k L}
  rw[aE.gQ (q:=R.d) λu=>h1 _ (hk ht) _ (.inl u) rfl,aE.gQ (q:=R.e) λu=>h1 _ (hk ht) _ (.inr (.inl u)) rfl,gQ (l:=R.ex) λu=>h1 _ (hk ht) _ (.inr (.inr u)) rfl]
 ·have ht:t∈R.d.ts:=ht
  show _={R with d:=R.d.up t.k L}
  rw[aE.gQ (q:=R.f) λu=>h1 _ u _ (.inl (hk ht)) rfl,aE.gQ (q:=R.e) λu=>h2 _ (hk ht) _ (.inl u) rfl,gQ (l:=R.ex) λu=>h2 _ (hk ht) _ (.inr u) rfl]
 ·have ht:t∈R.e.ts:=ht
  show _={R with e:=R.e.up t.k L}
  rw[aE.gQ (q:=R.f) λu=>h1 _ u _ (.inr (.inl (hk ht))) rfl,aE.gQ (q:=R.d) λu=>h2 _ u _ (.inl (hk ht)) rfl,gQ (l:=R.ex) λu=>h3 _ (hk ht) _ u rfl]
section
variable {H0 A B:aa}{F F':Nat->Prop}{p dp Q U most m:Nat}{s s':Pl}{M M':aU}{R:ah}{l:Sl}{ll:List Int}
theorem aO.uc {k:Nat}{x:St}(h:aO H0 A F p M R)(hz:H0.size<=A.size)(S:Step F F' A B)(hk:¬F' k)(hka:A.size<=k)(hnb:R.nb<1000)(hT:cr B p (dP M (cS R.name R.nb) (some x)) k (cS R.name R.nb) R.W []):aO H0 B F' p (dP M (cS R.name R.nb) (some x)) {R with ex:=R.ex++[⟨k,cS R.name R.nb,[]⟩],nb:=R.nb+1}:=by
 have hall:({R with ex:=R.ex++[⟨k,cS R.name R.nb,[]⟩],nb:=R.nb+1}:ah).all=R.all++[⟨k,cS R.name R.nb,[]⟩]:=by
  unfold ah.all
  simp only[Lk]
 have hO:∀b,({R with ex:=R.ex++[⟨k,cS R.name R.nb,[]⟩],nb:=R.nb+1}:ah).O b↔R.O b\/b=k:=by
  intro b
  unfold ah.O
  rw[hall]
  constructor
  ·rintro(u|u|⟨t,ht,e⟩)
   ·exact .inl (.inl u)
   ·exact .inl (.inr (.inl u))
   ·rcases Kk.1 ht with v|v
    ·exact .inl (.inr (.inr ⟨t,v,e⟩))
    ·have:t=⟨k,cS R.name R.nb,[]⟩:=by simpa using v
     subst this;exact .inr e
  ·rintro((u|u|⟨t,ht,e⟩)|u)
   ·exact .inl u
   ·exact .inr (.inl u)
   ·exact .inr (.inr ⟨t,Kk.2 (.inl ht),e⟩)
   ·exact .inr (.inr ⟨_,Kk.2 (.inr (Lc.2 rfl)),u⟩)
 have S':Step (R.X F) (ah.X {R with ex:=R.ex++[⟨k,cS R.name R.nb,[]⟩],nb:=R.nb+1} F') A B:=by
  refine⟨S.mod.mono λb _ u=>.inl u,λb u=>?_⟩
  rcases u with u|u
  ·exact(S.own b u).imp .inl id
  ·rcases (hO b).1 u with v|v
   ·exact .inl (.inr v)
   ·exact .inr (by omega)
 have same:∀b,R.O b->B[b]?=A[b]?:=λb hb=>S.mod.same b (h.lt b hb) (h.off b hb).1
 have hnot:∀t∈R.all,t.n≠cS R.name R.nb:=λt ht e=>by
  obtain⟨x,hx⟩:=(h.tr t ht).there
  rw[e,h.FY (Nat.le_of_lt hnb) (Kl _)] at hx;cases hx
 refine⟨(same _ (.inl rfl)).trans h.row,λq hq=>⟨(same _ (.inr (.inl ⟨q,hq,rfl⟩))).trans (h.pt q hq).1,(h.pt q hq).2.step S'⟩,h.ords.step S',λt ht=>?_,λb hb=>?_,h.pbs,?_,?_,λt ht=>?_,λj hj=>?_⟩
 ·rw[hall] at ht
  rcases Kk.1 ht with v|v
  ·exact(h.tr t v).aA (same _ (.inr (.inr ⟨t,v,rfl⟩))) (aQ (hnot t v))
  ·have:t=⟨k,cS R.name R.nb,[]⟩:=by simpa using v
   subst this;exact hT
 ·rcases (hO b).1 hb with v|v
  ·exact⟨λu=>(S.own b u).elim (h.off b v).1 λw=>by have:=h.lt b v;omega,(h.off b v).2⟩
  ·subst v;exact⟨hk,by omega⟩
 ·rw[hall,KX,La]
  refine⟨h.ks,by simp,λa ha b hb e=>?_⟩
  obtain⟨t,ht,rfl⟩:=Kz.1 ha
  have:=h.lt _ (.inr (.inr ⟨t,ht,rfl⟩))
  simp at hb
  omega
 ·rw[hall,KX,La]
  refine⟨h.ns,by simp,λa ha b hb e=>?_⟩
  obtain⟨t,ht,rfl⟩:=Kz.1 ha
  simp at hb
  exact hnot t ht (e.trans hb)
 ·rw[hall] at ht
  rcases Kk.1 ht with v|v
  ·obtain⟨j,a,b⟩:=h.nms t v
   exact⟨j,by show j<R.nb+1;omega,b⟩
  ·have:t=⟨k,cS R.name R.nb,[]⟩:=by simpa using v
   subst this;exact⟨R.nb,Nat.lt_succ_self _,rfl⟩
 ·rw[hall] at hj
  show dP M (cS R.name R.nb) (some x) (cS R.name j)=none
  rw[aQ λe=>hj ⟨k,cS R.name R.nb,[]⟩ (Kk.2 (.inr (Lc.2 rfl))) e.symm]
  exact h.free j λt ht=>hj t (Kk.2 (.inl ht))
theorem aO.cell {nx tu:Nat}(h:aO H0 A F p M R)(r:ag B R.rb EJ (ju p {R with next:=nx,turns:=tu}))(mm:Mod (λb=>b=R.rb) A B):aO H0 B F p M {R with next:=nx,turns:=tu}:=by
 have S':Step (R.X F) (R.X F) A B:=⟨mm.mono λb _ u=>.inr (.inl u),λ_ u=>.inl u⟩
 have same:∀b,R.O b->b≠R.rb->B[b]?=A[b]?:=λb hb e=>mm.same b (h.lt b hb) e
 exact⟨r,λq hq=>⟨(same _ (.inr (.inl ⟨q,hq,rfl⟩)) (h.HE hq)).trans (h.pt q hq).1,(h.pt q hq).2.step S'⟩,h.ords.step S',λt ht=>(h.tr t ht).aA (same _ (.inr (.inr ⟨t,ht,rfl⟩)) (h.Dn ht h.row (by decide))) rfl,h.off,h.pbs,h.ks,h.ns,h.nms,h.free⟩
theorem aO.D6 {j:Nat}{sl:Sl}(h:aO H0 A F p M R)(hts:(R.get j).ts=[])(hs:ia (R.X F) B sl (l6 R.ex))(r:ag B (R.get j).pb AI (gk R.rb sl))(mm:Mod (λb=>b=(R.get j).pb) A B):aO H0 B F p M {R.put j ⟨(R.get j).pb,sl,R.ex⟩ with ex:=[]}:=by
 have hperm:({R.put j ⟨(R.get j).pb,sl,R.ex⟩ with ex:=[]}:ah).all.Perm R.all:=by
  unfold ah.all
  rcases j with _|_|j
  ·have hts:R.f.ts=[]:=hts
   show (R.ex++(R.d.ts++(R.e.ts++[]))).Perm _
   rw[hts,Lu,LN,<-Lk R.d.ts]
   exact Ry
  ·have hts:R.d.ts=[]:=hts
   show (R.f.ts++(R.ex++(R.e.ts++[]))).Perm _
   rw[hts,Lu,LN]
   exact List.Perm.append_left _ Ry
  ·have hts:R.e.ts=[]:=hts
   show (R.f.ts++(R.d.ts++(R.ex++[]))).Perm _
   rw[hts,Lu,LN]
 have hpb:({R.put j ⟨(R.get j).pb,sl,R.ex⟩ with ex:=[]}:ah).parts.map (·.pb)=R.parts.map (·.pb):=by rcases j with _|_|j<;>rfl
 have hrb:({R.put j ⟨(R.get j).pb,sl,R.ex⟩ with ex:=[]}:ah).rb=R.rb:=by rcases j with _|_|j<;>rfl
 have hO:∀b,({R.put j ⟨(R.get j).pb,sl,R.ex⟩ with ex:=[]}:ah).O b↔R.O b:=by
  intro b
  unfold ah.O
  have e1:(∃q∈({R.put j ⟨(R.get j).pb,sl,R.ex⟩ with ex:=[]}:ah).parts,b=q.pb)↔∃q∈R.parts,b=q.pb:=by
   have a1:∀l:List aE,(∃q∈l,b=q.pb)↔b∈l.map (·.pb):=λl=>by
    rw[Kz]
    exact⟨λ⟨q,a,c⟩=>⟨q,a,c.symm⟩,λ⟨q,a,c⟩=>⟨q,a,c.symm⟩⟩
   rw[a1,a1,hpb]
  have e2:(∃t∈({R.put j ⟨(R.get j).pb,sl,R.ex⟩ with ex:=[]}:ah).all,b=t.k)↔∃t∈R.all,b=t.k:=⟨λ⟨t,a,c⟩=>⟨t,hperm.mem_iff.1 a,c⟩,λ⟨t,a,c⟩=>⟨t,hperm.mem_iff.2 a,c⟩⟩
  rw[e1,e2,hrb]
 have hXX:∀b,ah.X {R.put j ⟨(R.get j).pb,sl,R.ex⟩ with ex:=[]} F b↔R.X F b:=λb=>by
  unfold ah.X
  rw[hO b]
 have hXe:ah.X {R.put j ⟨(R.get j).pb,sl,R.ex⟩ with ex:=[]} F=R.X F:=funext λb=>propext (hXX b)
 have S':Step (R.X F) (ah.X {R.put j ⟨(R.get j).pb,sl,R.ex⟩ with ex:=[]} F) A B:=⟨mm.mono λb _ u=>by rw[u];exact ah.CK (R.get_mem j),λb u=>.inl ((hXX b).1 u)⟩
 have same:∀b,R.O b->b≠(R.get j).pb->B[b]?=A[b]?:=λb hb e=>mm.same b (h.lt b hb) e
 have hrow:ag B R.rb EJ (ju p R):=(same _ (.inl rfl) (λe=>h.HE (R.get_mem j) e.symm)).trans h.row
 have hother:∀q∈R.parts,q.pb≠(R.get j).pb->ag B q.pb AI (gk R.rb q.s)/\ia (ah.X {R.put j ⟨(R.get j).pb,sl,R.ex⟩ with ex:=[]} F) B q.s (l6 q.ts):=λq hq hne=>⟨(same _ (.inr (.inl ⟨q,hq,rfl⟩)) hne).trans (h.pt q hq).1,(h.pt q hq).2.step S'⟩
 have hnd:[R.f.pb,R.d.pb,R.e.pb].Nodup:=h.pbs
 simp only[List.nodup_cons,Ku,KN,or_false,not_or] at hnd
 rw[<-hXe] at hs
 refine⟨?_,?_,?_,?_,λb hb=>h.off b ((hO b).1 hb),by rw[hpb];exact h.pbs,(hperm.map _).nodup_iff.2 h.ks,(hperm.map _).nodup_iff.2 h.ns,?_,?_⟩
 ·rcases j with _|_|j<;>exact hrow
 ·have mf:R.f∈R.parts:=by simp[ah.parts]
  have md:R.d∈R.parts:=by simp[ah.parts]
  have me:R.e∈R.parts:=by simp[ah.parts]
  intro q hq
  unfold ah.parts at hq
  simp only[Ku,KN,or_false] at hq
  rcases j with _|_|j
  ·rcases hq with rfl|rfl|rfl
   ·exact⟨r,hs⟩
   ·exact hother _ md λe=>hnd.1.1 e.symm
   ·exact hother _ me λe=>hnd.1.2 e.symm
  ·rcases hq with rfl|rfl|rfl
   ·exact hother _ mf hnd.1.1
   ·exact⟨r,hs⟩
   ·exact hother _ me λe=>hnd.2.1 e.symm
  ·rcases hq with rfl|rfl|rfl
   ·exact hother _ mf hnd.1.2
   ·exact hother _ md hnd.2.1
   ·exact⟨r,hs⟩
 ·have:=h.ords.step S'
  rcases j with _|_|j<;>exact this
 ·intro t ht
  have h1:=h.tr t (hperm.mem_iff.1 ht)
  have h2:=h1.aA (B:=B) (M':=M) (same _ (.inr (.inr ⟨t,hperm.mem_iff.1 ht,rfl⟩)) (h.Dn (hperm.mem_iff.1 ht) (h.pt _ (R.get_mem j)).1 (by decide))) rfl
  rcases j with _|_|j<;>exact h2
 ·intro t ht
  have:=h.nms t (hperm.mem_iff.1 ht)
  rcases j with _|_|j<;>exact this
 ·intro i hi
  have h1:=h.free i λt ht=>by
   have:=hi t (hperm.mem_iff.2 ht)
   rcases j with _|_|j<;>exact this
  rcases j with _|_|j<;>exact h1
end
structure wQ (ords:List (List Int))(ll:List Int)(i:Nat)(old new:List Tx):Prop where
 ks:new.map (·.k)=old.map (·.k)
 ns:new.map (·.n)=old.map (·.n)
 len:new.length=old.length
 done:∀j t t',j<i->old[j]?=some t->new[j]?=some t'->kM (aL ll (ords.getD j [])) t.L t'.L/\t'.L.length<=t.L.length+1
 left:∀j,i<=j->new[j]?=old[j]?
structure eS (H0 A:aa)(F:Nat->Prop)(p dp:Nat)(s:Pl)(M:aU)(Q U most m c:Nat)(R:ah):Prop where
 al:aJ H0 A F p dp s M Q U most m
 rel:aO H0 A F p M R
 nW:nv M c
section
variable {H0 A B:aa}{F F':Nat->Prop}{p dp Q U most m c:Nat}{s s':Pl}{M M':aU}{R:ah}{l:Sl}{ll:List Int}
theorem eS.grow (h:eS H0 A F p dp s M Q U most m c R)(e:Ext A B):eS H0 B F p dp s M Q U most m c R:=⟨h.al.grow e,h.rel.grow e,h.nW⟩
theorem eS.I7 (h:eS H0 A F p dp s M Q U most m c R):∀b,R.X F b->b<A.size:=λb u=>u.elim (h.al.al.lt b) (h.rel.lt b)
set_option maxHeartbeats 2000000 in
theorem xp {j:Nat}{K:Int->aa->Prop}{J:aa->Prop}(h:eS H0 A F p dp s M Q U most m c R)(hg:Gl H0)(hpw:Pw H0)(hF:R.Fit)(hQ:Q<=1048576)(hm:m+100000<=30000000000)(hq:U+2*R.ords.length+2<Q)(hc:c+R.ords.length<4096)(hts:(R.get j).ts=[])(hex:R.ex=[])(hnb:R.nb=R.next)(hn:R.next+R.ords.length<=1000)(ho:R.ords.length<=16)
  (hJ:∀F' s' M' sl ts B,eS H0 B F' p dp s' M' Q (U+2*R.ords.length) most (m+2*R.ords.length) (c+R.ords.length) ((R.put j ⟨(R.get j).pb,sl,ts⟩).dM (R.next+R.ords.length) (R.next+R.ords.length))->ts.length=R.ords.length->(∀t∈ts,t.L=[])->Step (R.X F) (ah.X ((R.put j ⟨(R.get j).pb,sl,ts⟩).dM (R.next+R.ords.length) (R.next+R.ords.length)) F') A B->(∀a,(∀i,a≠cS R.name i)->M' a=M a)->(∀b,ai sl b->A.size<=b)->J B):
  aI (Sl×Int) ((Sl.mk none 0 0),(0:Int)) A λnext z_1 H2=>br (decide (z_1.2<(R.os.n:Int))) (∃G:aa->Prop,G H2/\ae (aD (R.get j).pb) λa_3=>cP au G (a_3.add 0) λ(x_3:Option Addr)=>ae x_3 λa_4=>cP au G (a_4.add 0) λ(x_4:Option Addr)=>ae (aD (R.get j).pb) λa_5=>cP au G (a_5.add 0) λ(x_5:Option Addr)=>ae x_5 λa_6=>cP cX G (a_6.add 1) λ(x_6:ByteArray)=>((x_6.size+(LA #[46]).size:Nat):Int)<=9223372036854775807/\ae (some (K0 ⟨R.rb,0,none⟩ 9)) λa_7=>Go.Proofs.YtkehfflpbpdokaaGreatDoor.ld (af .i64) H2 a_7 λ(x_7:Int)=>AK.sp x_7 H2 λ(r:ByteArray) H3=>G H3/\(((x_6++(LA #[46])).size+r.size:Nat):Int)<=9223372036854775807/\ae (aD (R.get j).pb) λa_8=>cP au G (a_8.add 0) λ(x_8:Option Addr)=>ae x_8 λa_9=>cP (af .i64) G (a_9.add 2) λ(x_9:Int)=>Dt.sp x_4 ((x_6++(LA #[46]))++r) x_9 H3 λ(r_1:(Option Addr×Int)) H4=>br (r_1.2!=(0:Int)) (K r_1.2 H4) (ae (some (K0 ⟨R.rb,0,none⟩ 9)) λa_10=>Go.Proofs.YtkehfflpbpdokaaGreatDoor.ld (af .i64) H4 a_10 λ(x_10:Int)=>ae (some (K0 ⟨R.rb,0,none⟩ 9)) λa_11=>st H4 a_11 (.int .i64 (Ke.wrap (x_10+(1:Int)))) λH5=>aM H5 #[(.pointer r_1.1)] Hy λp_1 H6=>bo ao Kf (Ks #[GH,GH] GH #[z_1.1.v,(.slice (some p_1) 1 1)]) H6 λ(l_1:Sl) H7=>next (l_1,Ke.wrap (z_1.2+(1:Int))) H7)) (ae (aD (R.get j).pb) λa_12=>st H2 (a_12.add 1) z_1.1.v λH8=>J H8):=by
 have hlen:=h.rel.ords.len
 have hz0:=h.al.ext.size
 have hjm:=R.get_mem j
 refine av R.ords.length (λi z B=>z.2=(i:Int)/\∃F' s' M' news,eS H0 B F' p dp s' M' Q (U+2*i) most (m+2*i) (c+i) {R with ex:=news,next:=R.next+i,nb:=R.next+i}/\news.length=i/\(∀t∈news,t.L=[])/\az B 0 Hy 1 z.1 (l6 news)/\(∀b,ai z.1 b->A.size<=b/\¬ah.X {R with ex:=news,next:=R.next+i,nb:=R.next+i} F' b)/\Step (R.X F) (ah.X {R with ex:=news,next:=R.next+i,nb:=R.next+i} F') A B/\(∀a,(∀i,a≠cS R.name i)->M' a=M a)) ⟨rfl,F,s,M,[],?_,rfl,by simp,az.nil _ _ _ _,λb u=>(by obtain⟨ad,ha,_⟩:=u;cases ha),?_,λ_ _=>rfl⟩ ?_
 ·have e:=R.Fp hex hnb
  rw[e];exact h
 ·have e:=R.Fp hex hnb
  rw[e];exact Step.refl _ _
 rintro i ⟨z,_⟩ B next hi ⟨rfl,F1,s1,M1,news,h1,nl,hL,o1,b1,S1,hM1⟩ hnext
 dsimp only at o1 b1 ⊢
 obtain⟨rp,sp⟩:=h1.rel.pt (R.get j) hjm
 have rr:=h1.rel.row
 refine ak (λhcd=>?_) (λhcd=>?_)
 ·have hlt:i<R.ords.length:=by
   have:(i:Int)<(R.os.n:Int):=by simpa using hcd
   omega
  refine⟨Ext B,.refl _ _,?_⟩
  simp only[aq,aD]
  refine ag.cP (c:=au) (i:=0) (x:=some ⟨R.rb,0,none⟩) (cs:=λ_=>gk R.rb (R.get j).s) (λD hD=>rp.ext hD) (λ_ _=>rfl) ?_
  simp only[aq]
  refine ag.cP (c:=au) (i:=0) (x:=aD p) (cs:=λ_=>ju p {R with ex:=news,next:=R.next+i,nb:=R.next+i}) (λD hD=>rr.ext hD) (λ_ _=>rfl) ?_
  refine ag.cP (c:=au) (i:=0) (x:=some ⟨R.rb,0,none⟩) (cs:=λ_=>gk R.rb (R.get j).s) (λD hD=>rp.ext hD) (λ_ _=>rfl) ?_
  simp only[aq]
  refine ag.cP (c:=cX) (i:=1) (x:=R.name) (cs:=λ_=>ju p {R with ex:=news,next:=R.next+i,nb:=R.next+i}) (λD hD=>rr.ext hD) (λ_ _=>rfl) ?_
  have hnm:=hF.name
  have e46:(LA #[46]).size=1:=rfl
  refine⟨by rw[e46];omega,?_⟩
  refine ag.ld (c:=af .i64) (i:=9) (x:=((R.next+i:Nat):Int)) rr rfl ?_
  refine Bd (hpw.ext h1.al.ext) (by omega) λB0 eB0=>⟨eB0,?_,?_⟩
  ·have:=(kr (name:=R.name) (j:=R.next+i) (by omega)).1
   unfold cS at this
   rw[ByteArray.size_append] at this
   omega
  replace h1:=h1.grow eB0
  replace o1:=o1.ext eB0
  replace S1:=S1.trans (Step.bp eB0)
  refine ag.cP (c:=au) (i:=0) (x:=some ⟨R.rb,0,none⟩) (cs:=λ_=>gk R.rb (R.get j).s) (λD hD=>rp.ext hD) (λ_ _=>rfl) ?_
  simp only[aq]
  refine ag.cP (c:=af .i64) (i:=2) (x:=(R.W:Int)) (cs:=λ_=>ju p {R with ex:=news,next:=R.next+i,nb:=R.next+i}) (λD hD=>rr.ext hD) (λ_ _=>rfl) ?_
  obtain⟨ns,hns,hnl⟩:=h1.nW
  have hsz:=(kr (name:=R.name) (j:=R.next+i) (by omega)).1
  refine h1.al.uc (n:=cS R.name (R.next+i)) (ns:=ns) hg (by omega) (zQ (by omega) hnm) hF.W hQ (by omega) (by omega) (h1.rel.FY (by show R.next+i<=1000;omega) (Kl _)) hns (by omega) λF2 s2 x2 k C p2 t2 S2 k2 kA _=>?_
  refine ax rfl ?_
  have hzB:=h1.al.ext.size
  have r2:=h1.rel.uc hzB S2 k2 kA (by show R.next+i<1000;omega) t2
  have hO2:∀b,ah.O {R with ex:=news++[⟨k,cS R.name (R.next+i),[]⟩],next:=R.next+i,nb:=R.next+i+1} b->b=k\/ah.O {R with ex:=news,next:=R.next+i,nb:=R.next+i} b:=by
   intro b u
   unfold ah.O at u ⊢
   rcases u with u|u|⟨t,ht,e⟩
   ·exact .inr (.inl u)
   ·exact .inr (.inr (.inl u))
   ·unfold ah.all at ht ⊢
    simp only[Kk,Lc] at ht ⊢
    rcases ht with v|v|v|v|v
    ·exact .inr (.inr (.inr ⟨t,.inl v,e⟩))
    ·exact .inr (.inr (.inr ⟨t,.inr (.inl v),e⟩))
    ·exact .inr (.inr (.inr ⟨t,.inr (.inr (.inl v)),e⟩))
    ·exact .inr (.inr (.inr ⟨t,.inr (.inr (.inr v)),e⟩))
    ·subst v;exact .inl e
  have d2:nv (dP M1 (cS R.name (R.next+i)) (some x2)) (c+i+1):=h1.nW.more
  refine ag.ld (c:=af .i64) (i:=9) (x:=((R.next+i:Nat):Int)) r2.row rfl ?_
  refine ag.st r2.row (i:=9) (by simp[ju]) rfl λD rD mD zD=>?_
  rw[aK (R.next+i) (by omega)] at rD
  have r3:=r2.cell (nx:=R.next+i+1) (tu:=R.turns) rD mD
  have hFrb:¬F2 R.rb:=(r2.off _ (.inl rfl)).1
  have p3:aJ H0 D F2 p dp s2 (dP M1 (cS R.name (R.next+i)) (some x2)) Q (U+2*i+2) most (m+2*i+2):=p2.aside ⟨by have:=p2.ext.size;omega,λb hb _=>(mD.same b (by have:=p2.ext.size;omega) λu=>by have:=(r2.off _ (.inl rfl)).2;rw[u] at hb;exact absurd this (by show ¬H0.size<=R.rb;omega)).trans (p2.ext.same b hb id)⟩ λb hb=>mD.same b (p2.al.lt b hb) λu=>hFrb (u▸hb)
  have own2:∀b,ai z b->b<B0.size/\b≠R.rb/\¬F2 b:=λb hb=>by
   have hbl:=(o1.block b hb).2
   have:=(b1 b hb).2
   exact⟨hbl,λe=>this (.inr (.inl e)),λu=>(S2.own b u).elim (λv=>this (.inl v)) λv=>by omega⟩
  have hzC:=S2.mod.size
  have oD:az D 0 Hy 1 z (l6 news):=(o1.mod S2.mod λb hb u=>(b1 b hb).2 (.inl u)).mod mD λb hb=>(own2 b hb).2.1
  have zn:z.n=i:=by have:=o1.1;unfold l6 at this;simp at this;omega
  refine Eg.push (base:=0) (s:=z) (xs:=l6 news) oD rfl (by omega) (by omega) (Nat.zero_le _) λz' E n' oE mE bE _=>?_
  have hzE:=mE.size
  have offE:∀b,ah.X {R with ex:=news++[⟨k,cS R.name (R.next+i),[]⟩],next:=R.next+(i+1),nb:=R.next+(i+1)} F2 b->¬ai z b:=by
   intro b u hb
   obtain⟨q1,q2,q3⟩:=own2 b hb
   rcases u with u|u
   ·exact q3 u
   ·rcases hO2 b u with v|v
    ·omega
    ·exact(b1 b hb).2 (.inr v)
  have SB:Step (ah.X {R with ex:=news,next:=R.next+i,nb:=R.next+i} F1) (ah.X {R with ex:=news++[⟨k,cS R.name (R.next+i),[]⟩],next:=R.next+(i+1),nb:=R.next+(i+1)} F2) B0 D:=by
   refine⟨(S2.mod.mono λb _ u=>.inl u).trans (mD.mono λb _ u=>.inr (.inl u)),λb u=>?_⟩
   rcases u with u|u
   ·exact(S2.own b u).imp .inl id
   ·rcases hO2 b u with v|v
    ·exact .inr (by omega)
    ·exact .inl (.inr v)
  have S12:=S1.trans SB
  have SE:Step (R.X F) (ah.X {R with ex:=news++[⟨k,cS R.name (R.next+i),[]⟩],next:=R.next+(i+1),nb:=R.next+(i+1)} F2) A E:=⟨S12.mod.trans' mE λb hb u=>by have:=(b1 b u).1;omega,S12.own⟩
  have r4:aO H0 E F2 p (dP M1 (cS R.name (R.next+i)) (some x2)) {R with ex:=news++[⟨k,cS R.name (R.next+i),[]⟩],next:=R.next+(i+1),nb:=R.next+(i+1)}:=
   r3.Gw (λq hq=>(h.rel.pt q hq).2.step SE) (h.rel.ords.step SE) (λb hb=>⟨mE.same b (r3.lt b hb) (offE b (.inr hb)),(r3.off b hb).1⟩) (λ_ _=>rfl) r3.free
  have p4:aJ H0 E F2 p dp s2 (dP M1 (cS R.name (R.next+i)) (some x2)) Q (U+2*i+2) most (m+2*i+2):=p3.aside ⟨Nat.le_trans p3.ext.size hzE,λb hb _=>(mE.same b (Nat.lt_of_lt_of_le hb p3.ext.size) λu=>by have:=(b1 b u).1;omega).trans (p3.ext.same b hb id)⟩ λb hb=>mE.same b (p3.al.lt b hb) λu=>(own2 b u).2.2 hb
  refine hnext hlt _ _ ⟨aK i (by omega),F2,s2,_,news++[⟨k,cS R.name (R.next+i),[]⟩],⟨p4,r4,d2⟩,by simp[nl],λt ht=>?_,?_,λb hb=>?_,SE,λa ha=>?_⟩
  ·rcases Kk.1 ht with v|v
   ·exact hL t v
   ·have:t=⟨k,cS R.name (R.next+i),[]⟩:=by simpa using v
    rw[this]
  ·have:l6 (news++[⟨k,cS R.name (R.next+i),[]⟩])=l6 news++[bX k]:=by unfold l6;rw[KX];rfl
   rw[this];exact oE
  ·have hzD:=SB.mod.size
   have hzB':=S1.mod.size
   rcases bE b hb with v|v
   ·exact⟨(b1 b v).1,λu=>offE b u v⟩
   ·refine⟨by omega,λu=>?_⟩
    rcases u with u|u
    ·have:=p3.al.lt b u;omega
    ·have:=r3.lt b u;omega
  ·rw[aQ (ha (R.next+i))]
   exact hM1 a ha
 ·have hge:i=R.ords.length:=by
   have:¬(i:Int)<(R.os.n:Int):=by simpa using hcd
   omega
  subst hge
  simp only[aq,aD]
  refine ag.st rp (i:=1) (by simp[gk]) (by cases z;rfl) λC rC mC zC=>?_
  have hpF:¬F1 (R.get j).pb:=(h1.rel.off _ (.inr (.inl ⟨_,hjm,rfl⟩))).1
  have zn:z.n=(l6 news).length:=by have:=o1.1;simpa using this.symm
  have hzl:∀b,ai z b->b<B.size:=λb hb=>(o1.block b hb).2
  have sX:ia (ah.X {R with ex:=news,next:=R.next+R.ords.length,nb:=R.next+R.ords.length} F1) C z (l6 news):=by
   refine⟨zn,λad ha=>⟨by have:=hzl _ ⟨ad,ha,rfl⟩;omega,(b1 _ ⟨ad,ha,rfl⟩).2⟩,o1.reads.mod mC λad ha u=>(b1 _ ⟨ad,ha,rfl⟩).2 (by rw[u];exact ah.CK hjm)⟩
  have r2:=aO.D6 (j:=j) h1.rel (show (ah.get {R with ex:=news,next:=R.next+R.ords.length,nb:=R.next+R.ords.length} j).ts=[] by rcases j with _|_|j<;>exact hts) sX (by rcases j with _|_|j<;>exact rC) (by rcases j with _|_|j<;>exact mC)
  have e:({ah.put {R with ex:=news,next:=R.next+R.ords.length,nb:=R.next+R.ords.length} j ⟨(ah.get {R with ex:=news,next:=R.next+R.ords.length,nb:=R.next+R.ords.length} j).pb,z,news⟩ with ex:=[]}:ah)=((R.put j ⟨(R.get j).pb,z,news⟩).dM (R.next+R.ords.length) (R.next+R.ords.length)):=by
   rcases j with _|_|j<;>(simp only[ah.put,ah.get,ah.dM];rw[hex])
  have r3:aO H0 C F1 p M1 ((R.put j ⟨(R.get j).pb,z,news⟩).dM (R.next+R.ords.length) (R.next+R.ords.length)):=e▸r2
  have p3:aJ H0 C F1 p dp s1 M1 Q (U+2*R.ords.length) most (m+2*R.ords.length):=h1.al.aside ⟨by have:=h1.al.ext.size;omega,λb hb _=>(mC.same b (by have:=h1.al.ext.size;omega) λu=>by have:=(h1.rel.off _ (.inr (.inl ⟨_,hjm,rfl⟩))).2;rw[u] at hb;exact absurd hb (by omega)).trans (h1.al.ext.same b hb id)⟩ λb hb=>mC.same b (h1.al.al.lt b hb) λu=>hpF (u▸hb)
  refine hJ F1 s1 M1 z news C ⟨p3,r3,h1.nW⟩ nl hL ?_ hM1 λb hb=>(b1 b hb).1
  refine⟨S1.mod.trans' mC λb hb u=>by rw[u];exact ah.CK hjm,λb u=>?_⟩
  rcases u with u|u
  ·exact S1.own b (.inl u)
  ·refine S1.own b (.inr ?_)
   have hpb:(ah.parts ((R.put j ⟨(R.get j).pb,z,news⟩).dM (R.next+R.ords.length) (R.next+R.ords.length))).map (·.pb)=R.parts.map (·.pb):=by rcases j with _|_|j<;>rfl
   have hal:∀t,t∈ah.all ((R.put j ⟨(R.get j).pb,z,news⟩).dM (R.next+R.ords.length) (R.next+R.ords.length))->t∈ah.all {R with ex:=news,next:=R.next+R.ords.length,nb:=R.next+R.ords.length}:=by
    intro t
    unfold ah.all
    rcases j with _|_|j<;>(simp only[ah.put,ah.dM,Kk,hex,KN,or_false];intro u)
    ·rcases u with u|u|u
     ·exact .inr (.inr (.inr u))
     ·exact .inr (.inl u)
     ·exact .inr (.inr (.inl u))
    ·rcases u with u|u|u
     ·exact .inl u
     ·exact .inr (.inr (.inr u))
     ·exact .inr (.inr (.inl u))
    ·rcases u with u|u|u
     ·exact .inl u
     ·exact .inr (.inl u)
     ·exact .inr (.inr (.inr u))
   have hrb:ah.rb ((R.put j ⟨(R.get j).pb,z,news⟩).dM (R.next+R.ords.length) (R.next+R.ords.length))=R.rb:=by rcases j with _|_|j<;>rfl
   rcases u with u|⟨q,hq,e2⟩|⟨t,ht,e2⟩
   ·exact .inl (u.trans hrb)
   ·have:b∈R.parts.map (·.pb):=by rw[<-hpb,e2];exact Lp hq
    obtain⟨q',hq',e3⟩:=Kz.1 this
    exact .inr (.inl ⟨q',hq',e3.symm⟩)
   ·exact .inr (.inr ⟨t,hal t ht,e2⟩)
end
theorem ah.E5 (R:ah)(j:Nat):((R.get j).ts).Sublist R.all:=by
 unfold ah.all
 rcases j with _|_|j
 ·exact NS _ _
 ·exact(NS _ _).trans (Ng _ _)
 ·exact((NS _ _).trans (Ng _ _)).trans (Ng _ _)
theorem oT {ts:List Tx}{i:Nat}{t:Tx}{L:List (List Int)}(hn:(ts.map (·.k)).Nodup)(hi:ts[i]?=some t)(a:Nat):(ts.map (Tx.up t.k L))[a]?=if a=i then some {t with L:=L} else ts[a]?:=by
 rw[KC]
 by_cases e:a=i
 ·subst e
  rw[if_pos rfl,hi]
  simp[Tx.up]
 ·rw[if_neg e]
  cases hx:ts[a]? with
  |none=>rfl
  |some x=>
    have hlt:=(List.getElem?_eq_some_iff.1 hx).1
    have:x.k≠t.k:=λq=>e ((List.getElem?_inj (l:=ts.map (·.k)) (i:=a) (j:=i) (by simpa using hlt) hn).1 (by rw[KC,KC,hx,hi];simp[q]))
    simp[Tx.up,this]
theorem wQ.step {ords:List (List Int)}{ll:List Int}{i:Nat}{old ts:List Tx}{t:Tx}{L:List (List Int)}(h:wQ ords ll i old ts)(hn:(ts.map (·.k)).Nodup)(hi:ts[i]?=some t)(hp:kM (aL ll (ords.getD i [])) t.L L)(hl:L.length<=t.L.length+1):wQ ords ll (i+1) old (ts.map (Tx.up t.k L)):=by
 refine⟨?_,?_,by rw[KM];exact h.len,λa x x' ha hx hx'=>?_,λa ha=>?_⟩
 ·rw[Ly,<-h.ks];exact Lx λx _=>x.AT _ _
 ·rw[Ly,<-h.ns];exact Lx λx _=>x.D9 _ _
 ·rw[oT hn hi] at hx'
  by_cases e:a=i
  ·subst e
   rw[if_pos rfl] at hx'
   cases hx'
   rw[h.left a (Kl _),hx] at hi
   cases hi
   exact⟨hp,hl⟩
  ·rw[if_neg e] at hx'
   exact h.done a x x' (by omega) hx hx'
 ·rw[oT hn hi,if_neg (by omega)]
  exact h.left a (by omega)
section
variable {H0 A B:aa}{F F':Nat->Prop}{p dp Q U most m c:Nat}{s s':Pl}{M M':aU}{R:ah}{l:Sl}{ll:List Int}
set_option maxHeartbeats 2000000 in
theorem zF {j w:Nat}{K:Int->aa->Prop}(h:eS H0 A F p dp s M Q U most m c R)(hg:Gl H0)(hF:R.Fit)(hQ:Q<=1048576)(hm:m+100000<=30000000000)(hw:∀t∈(R.get j).ts,t.L.length<=w)(hw4:w<=400)(hq:U+R.ords.length*(2*w+4)+w+2<Q)(ho:R.ords.length<=16)(hts:(R.get j).ts.length=R.ords.length)
  (hl:Ints .u64 A l ll) (hlo:fL (R.X F) A l) (ht:∀i (hi:i<R.ords.length),R.ords[i].length<=1000/\(aL ll R.ords[i]).length=R.W/\bQ (aL ll R.ords[i]))
  (hK:∀F' s' M' U' ts B,eS H0 B F' p dp s' M' Q U' most (m+4000*R.ords.length) c (R.put j ⟨(R.get j).pb,(R.get j).s,ts⟩)->wQ R.ords ll R.ords.length (R.get j).ts ts->U'<=U+R.ords.length*(2*w+4)->Step (R.X F) (ah.X (R.put j ⟨(R.get j).pb,(R.get j).s,ts⟩) F') A B->(∀a,(∀i,a≠cS R.name i)->M' a=M a)->K 0 B):
  ae (aD (R.get j).pb) λa_13=>Go.Proofs.YtkehfflpbpdokaaGreatDoor.ld ao A (a_13.add 1) λ(x_11:Sl)=>aI Int (0:Int) A λnext_1 z_2 H9=>br (decide (z_2<(x_11.n:Int))) (ae x_11.a λa_14=>(0<=z_2/\z_2<(x_11.n:Int))/\Go.Proofs.YtkehfflpbpdokaaGreatDoor.ld au H9 (a_14.add (z_2.toNat*1)) λ(x_12:Option Addr)=>ae (aD (R.get j).pb) λa_15=>Go.Proofs.YtkehfflpbpdokaaGreatDoor.ld au H9 (a_15.add 0) λ(x_13:Option Addr)=>EU.sp x_13 l z_2 H9 λ(r_2:Sl) H10=>Db.sp x_12 r_2 H10 λ(r_3:(Bool×Int)) H11=>br (r_3.2!=(0:Int)) (K r_3.2 H11) (next_1 (Ke.wrap (z_2+(1:Int))) H11)) (K (0:Int) H9):=by
 have hjm:=R.get_mem j
 simp only[aq,aD]
 refine ag.ld (c:=ao) (i:=1) (x:=(R.get j).s) (h.rel.pt _ hjm).1 rfl ?_
 have hsn:(R.get j).s.n=R.ords.length:=by have:=(h.rel.pt _ hjm).2.len;unfold l6 at this;rw[KM] at this;omega
 refine av R.ords.length (λi z B=>z=(i:Int)/\∃F' s' M' U' ts,eS H0 B F' p dp s' M' Q U' most (m+4000*i) c (R.put j ⟨(R.get j).pb,(R.get j).s,ts⟩)/\wQ R.ords ll i (R.get j).ts ts/\U'<=U+i*(2*w+4)/\Step (R.X F) (ah.X (R.put j ⟨(R.get j).pb,(R.get j).s,ts⟩) F') A B/\(∀a,(∀i,a≠cS R.name i)->M' a=M a)) ⟨rfl,F,s,M,U,(R.get j).ts,?_,⟨rfl,rfl,rfl,λa _ _ ha=>(by omega),λ_ _=>rfl⟩,by omega,?_,λ_ _=>rfl⟩ ?_
 ·have e:R.put j ⟨(R.get j).pb,(R.get j).s,(R.get j).ts⟩=R:=R.jc j
  rw[e];exact h
 ·have e:R.put j ⟨(R.get j).pb,(R.get j).s,(R.get j).ts⟩=R:=R.jc j
  rw[e];exact Step.refl _ _
 rintro i _ B next hi ⟨rfl,F1,s1,M1,U1,ts,h1,I1,hU,S1,hM1⟩ hnext
 refine ak (λhcd=>?_) (λhcd=>?_)
 ·have hlt:i<R.ords.length:=by
   have:(i:Int)<((R.get j).s.n:Int):=by simpa using hcd
   omega
  obtain⟨e1,e2,e3,e4,e5,e6,e7,e8,e9⟩:=R.j0 j ⟨(R.get j).pb,(R.get j).s,ts⟩
  have eg:=R.ET j ⟨(R.get j).pb,(R.get j).s,ts⟩
  generalize hR1:R.put j ⟨(R.get j).pb,(R.get j).s,ts⟩=R1 at*
  have hjm1:(⟨(R.get j).pb,(R.get j).s,ts⟩:aE)∈R1.parts:=eg▸R1.get_mem j
  obtain⟨rp,sp⟩:=h1.rel.pt _ hjm1
  dsimp only at rp sp
  rw[e1] at rp
  have hil:i<ts.length:=by have:=I1.len;omega
  have hti:ts[i]?=some ts[i]:=Kg hil
  have hta:ts[i]∈R1.all:=ah.cI hjm1 _ (Kt hil)
  refine ia.ld (c:=au) (x:=aD ts[i].k) (i:=i) sp (tZ hti) rfl λad _=>?_
  refine ag.ld (c:=au) (i:=0) (x:=some ⟨R.rb,0,none⟩) rp rfl ?_
  obtain⟨t1,t2,t3⟩:=ht i hlt
  rw[<-e1]
  have hlt1:i<R1.ords.length:=by rw[e5];exact hlt
  have eo:R1.ords[i]=R.ords[i]:=by simp[e5]
  refine yO h1.rel (hlo.ints hl S1) hlt1 (by rw[eo];exact t1) λrs C oC eC=>?_
  rw[eo] at oC
  have h2:=h1.grow eC
  have hold:ts[i]∈(R.get j).ts:=by
   have:=I1.left i (Kl _)
   rw[hti] at this
   exact Ki this.symm
  have hwt:=hw _ hold
  have hnm:ts[i].n.size<=9223372036854775807:=by
   obtain⟨a,ha,e⟩:=h1.rel.nms _ hta
   have:=(kr (name:=R.name) (j:=a) (by have:=hF.nb;rw[e7] at ha;omega)).1
   have:=hF.name
   rw[e,e2];omega
  have hmul:i*(2*w+4)+(2*w+4)<=R.ords.length*(2*w+4):=by
   have:=Nat.mul_le_mul_right (2*w+4) (show i+1<=R.ords.length from hlt)
   rw[MZ,Nat.one_mul] at this
   exact this
  refine(h2.rel.tr _ hta).insert h2.al hg (h2.rel.off _ (.inr (.inr ⟨_,hta,rfl⟩))) hnm (by rw[e3];exact hF.W) (by omega) hQ (by omega) (by omega) oC.ints ⟨by rw[e3];exact t2,t3⟩ λf L' F2 s2 M2 U2 D p2 T2 _ pl _ ln hM2 S2 k2 hU2=>?_
  refine ax rfl ?_
  have r2:=h2.rel.xq hta S2 k2 T2 hM2
  have htg:ts[i]∈(R1.get j).ts:=by rw[eg];exact Kt hil
  have eup:R1.up ts[i].k L'=R.put j ⟨(R.get j).pb,(R.get j).s,ts.map (Tx.up ts[i].k L')⟩:=by
   rw[ah.Hl h1.rel.ks htg,eg,<-hR1,ah.E9];rfl
  obtain⟨x2,hx2⟩:=(h2.rel.tr _ hta).there
  have d2:=h2.nW.same hx2 hM2
  have S3:Step (R.X F) ((R1.up ts[i].k L').X F2) A D:=by
   refine S1.trans (Step.trans (Step.bp eC) (S2.fg (λb u=>u.elim .inl λv=>.inr (v▸.inr (.inr ⟨_,hta,rfl⟩))) λb u=>u.elim (λv=>.inr (.inl v)) λv=>.inl (.inr ((ah.Hs _ _ _ _).1 v))))
  rw[eup] at r2 S3
  have hnd:(ts.map (·.k)).Nodup:=by
   have:=((R1.E5 j).map (·.k)).nodup h1.rel.ks
   rwa [eg] at this
  refine hnext hlt _ _ ⟨aK i (by omega),F2,s2,M2,U2,_,⟨p2.later (by omega),r2,d2⟩,I1.step hnd hti (by rw[show R.ords.getD i []=R.ords[i] by simp[List.getD,Kg hlt]];exact pl) ln,?_,S3,λa ha=>?_⟩
  ·rw[MZ];omega
  ·rw[hM2 a λe=>?_]
   ·exact hM1 a ha
   ·obtain⟨b,hb,e'⟩:=h1.rel.nms _ hta
    refine ha b ?_
    rw[e,e',e2]
 ·have hge:i=R.ords.length:=by
   have:¬(i:Int)<((R.get j).s.n:Int):=by simpa using hcd
   omega
  subst hge
  exact hK F1 s1 M1 U1 ts B h1 I1 hU S1 hM1
end
def aE.aH (q:aE)(i:Nat):List (List Int):=match q.ts[i]? with|some t=>t.L|none=>[]
section
variable {H0 A B:aa}{F F':Nat->Prop}{p dp Q U most m c:Nat}{s s':Pl}{M M':aU}{R:ah}{l:Sl}{ll:List Int}
structure Ins (ords:List (List Int))(ll:List Int)(q q':aE):Prop where
 pb:q'.pb=q.pb
 len:q'.ts.length=ords.length
 rows:∀i,i<ords.length->kM (aL ll (ords.getD i [])) (q.aH i) (q'.aH i)/\(q'.aH i).length<=(q.aH i).length+1
theorem wQ.ins {ords:List (List Int)}{q:aE}{ts:List Tx}{sl:Sl}{pb:Nat}(hq:q.ts.length=ords.length)(hp:pb=q.pb)(I:wQ ords ll ords.length q.ts ts):Ins ords ll q ⟨pb,sl,ts⟩:=by
 refine⟨hp,by rw[<-hq];exact I.len,λi hi=>?_⟩
 have h1:i<q.ts.length:=by omega
 have h2:i<ts.length:=by have:=I.len;omega
 have:=I.done i _ _ hi (Kg h1) (Kg h2)
 unfold aE.aH
 simp only[Kg h1,Kg h2]
 exact this
set_option maxHeartbeats 1000000 in
theorem sC {j w:Nat}{K:Int->aa->Prop}(h:eS H0 A F p dp s M Q U most m c R)(hg:Gl H0)(hpw:Pw H0)(hF:R.Fit)(hQ:Q<=1048576)(hm:m+200000<=30000000000)(hw:∀i,((R.get j).aH i).length<=w)(hw4:w<=400)(hq:U+R.ords.length*(2*w+6)+w+4<Q)(hc:c+R.ords.length<4096)(ho:R.ords.length<=16)(hts:(R.get j).ts=[]\/(R.get j).ts.length=R.ords.length)(hex:R.ex=[])(hnb:R.nb=R.next)(hn:R.next+R.ords.length<=1000)
  (hl:Ints .u64 A l ll) (hlo:fL (R.X F) A l) (ht:∀i (hi:i<R.ords.length),R.ords[i].length<=1000/\(aL ll R.ords[i]).length=R.W/\bQ (aL ll R.ords[i]))
  (hK:∀F' s' M' U' q' nx B,eS H0 B F' p dp s' M' Q U' most (m+100000) (c+R.ords.length) ((R.put j q').dM nx nx)->Ins R.ords ll (R.get j) q'->U'<=U+R.ords.length*(2*w+6)->nx<=R.next+R.ords.length->Step (R.X F) (ah.X ((R.put j q').dM nx nx) F') A B->(∀a,(∀i,a≠cS R.name i)->M' a=M a)->(q'.s=(R.get j).s\/∀b,ai q'.s b->A.size<=b)->K 0 B):ER.sp (aD (R.get j).pb) l (some (K0 ⟨R.rb,0,none⟩ 9)) A K:=by
 have hjm:=R.get_mem j
 refine ER.of ?_
 unfold ER.vc
 have hmul:R.ords.length*(2*w+6)=R.ords.length*(2*w+4)+2*R.ords.length:=by
  rw[show 2*w+6=(2*w+4)+2 by omega,Nat.mul_add];omega
 -- what holds where the ways meet
 refine⟨λ_ B=>∃F' s' M' U' m' sl ts nx,eS H0 B F' p dp s' M' Q U' most m' (c+R.ords.length) ((R.put j ⟨(R.get j).pb,sl,ts⟩).dM nx nx)/\ts.length=R.ords.length/\(∀i t,ts[i]?=some t->t.L=(R.get j).aH i)/\U'<=U+2*R.ords.length/\m'<=m+100/\nx<=R.next+R.ords.length/\Step (R.X F) (ah.X ((R.put j ⟨(R.get j).pb,sl,ts⟩).dM nx nx) F') A B/\(∀a,(∀i,a≠cS R.name i)->M' a=M a)/\(sl=(R.get j).s\/∀b,ai sl b->A.size<=b),?_,?_⟩
 ·refine cg _ rfl ?_
  refine ag.ld (c:=ao) (i:=1) (x:=(R.get j).s) (h.rel.pt _ hjm).1 rfl ?_
  have hsn:=(h.rel.pt _ hjm).2.len
  unfold l6 at hsn
  rw[KM] at hsn
  refine ak (λhcd=>?_) (λhcd=>?_)
  ·have hz:((R.get j).s.n:Int)=0:=by simpa using hcd
   have hts0:(R.get j).ts=[]:=List.eq_nil_of_length_eq_zero (by omega)
   rw[aq]
   refine ag.ld (c:=au) (i:=0) (x:=some ⟨R.rb,0,none⟩) (h.rel.pt _ hjm).1 rfl ?_
   rw[aq]
   refine ag.ld (c:=ao) (i:=3) (x:=R.os) h.rel.row rfl ?_
   refine xp (K:=K) h hg hpw hF hQ (by omega) (by omega) hc hts0 hex hnb hn ho λF' s' M' sl ts B r1 tl tL S1 hM hsl=>?_
   refine⟨F',s',M',_,_,sl,ts,_,r1,tl,λi t ht=>?_,by omega,by omega,by omega,S1,hM,.inr hsl⟩
   unfold aE.aH
   rw[hts0,tL t (Ki ht)];simp
  ·have hts0:(R.get j).ts≠[]:=λe=>by rw[e] at hsn;rw[hsn] at hcd;simp at hcd
   have e:((R.put j ⟨(R.get j).pb,(R.get j).s,(R.get j).ts⟩).dM R.next R.next)=R:=by
    have:R.put j ⟨(R.get j).pb,(R.get j).s,(R.get j).ts⟩=R:=R.jc j
    rw[this]
    cases R
    simp only at hnb
    subst hnb
    rfl
   refine⟨F,s,M,U,m,(R.get j).s,(R.get j).ts,R.next,by rw[e];exact⟨h.al,h.rel,h.nW.mono (by omega)⟩,hts.resolve_left hts0,λi t ht=>?_,by omega,by omega,by omega,by rw[e];exact Step.refl _ _,λ_ _=>rfl,.inl rfl⟩
   unfold aE.aH
   rw[ht]
 ·rintro _ B ⟨F1,s1,M1,U1,m1,sl,ts,nx,r1,tl,tL,hU1,hm1,hnx,S1,hM1,hsl⟩
  obtain⟨e1,e2,e3,e4,e5,e6,e7,e8,e9⟩:=R.j0 j ⟨(R.get j).pb,sl,ts⟩
  have eg:((R.put j ⟨(R.get j).pb,sl,ts⟩).dM nx nx).get j=⟨(R.get j).pb,sl,ts⟩:=by rcases j with _|_|j<;>rfl
  have epp:∀q,((R.put j ⟨(R.get j).pb,sl,ts⟩).dM nx nx).put j q=(R.put j q).dM nx nx:=by intro q;rcases j with _|_|j<;>rfl
  have a1:((R.put j ⟨(R.get j).pb,sl,ts⟩).dM nx nx).ords=R.ords:=e5
  have a2:((R.put j ⟨(R.get j).pb,sl,ts⟩).dM nx nx).W=R.W:=e3
  have a3:((R.put j ⟨(R.get j).pb,sl,ts⟩).dM nx nx).name=R.name:=e2
  have hw':∀t∈ts,t.L.length<=w:=λt ht=>by
   obtain⟨i,hi⟩:=List.mem_iff_getElem?.1 ht
   rw[tL i t hi];exact hw i
  have hF1:((R.put j ⟨(R.get j).pb,sl,ts⟩).dM nx nx).Fit:=by
   refine⟨by rw[a2];exact hF.W,by rw[a3];exact hF.name,by show nx<=1000;omega,λt ht=>?_⟩
   have:t∈ts\/t∈R.all:=by
    unfold ah.all at ht ⊢
    rcases j with _|_|j<;>(simp only[ah.put,ah.dM,Kk] at ht ⊢)
    ·rcases ht with u|u|u|u
     ·exact .inl u
     ·exact .inr (.inr (.inl u))
     ·exact .inr (.inr (.inr (.inl u)))
     ·exact .inr (.inr (.inr (.inr u)))
    ·rcases ht with u|u|u|u
     ·exact .inr (.inl u)
     ·exact .inl u
     ·exact .inr (.inr (.inr (.inl u)))
     ·exact .inr (.inr (.inr (.inr u)))
    ·rcases ht with u|u|u|u
     ·exact .inr (.inl u)
     ·exact .inr (.inr (.inl u))
     ·exact .inl u
     ·exact .inr (.inr (.inr (.inr u)))
   rcases this with u|u
   ·have:=hw' t u;omega
   ·exact hF.rows t u
  have hpb:(⟨(R.get j).pb,sl,ts⟩:aE).pb=(((R.put j ⟨(R.get j).pb,sl,ts⟩).dM nx nx).get j).pb:=by rw[eg]
  have key:=zF (j:=j) (w:=w) (K:=K) (l:=l) (ll:=ll) r1 hg hF1 hQ (by omega) (by rw[eg];exact hw') hw4 (by rw[a1];omega) (by rw[a1];exact ho) (by rw[eg,a1];exact tl) (hlo.ints hl S1) (hlo.step S1) (by
   intro i hi
   have:=ht i (by rw[a1] at hi;exact hi)
   simpa only[a1,a2] using this) (λF' s' M' U' ts' C r2 I2 hU2 S2 hM2=>by
    rw[eg] at r2 I2 S2
    rw[epp] at r2 S2
    rw[a1] at r2 I2 hU2
    have hI:=I2.ins (sl:=sl) (pb:=(R.get j).pb) (q:=⟨(R.get j).pb,sl,ts⟩) tl rfl
    refine hK F' s' M' U' ⟨(R.get j).pb,sl,ts'⟩ nx C ⟨r2.al.later (by omega),r2.rel,r2.nW⟩ ⟨rfl,hI.len,λi hi=>?_⟩ (by omega) hnx (S1.trans S2) (λa ha=>by rw[hM2 a (by rw[a3];exact ha)];exact hM1 a ha) hsl
    have h3:=hI.rows i hi
    have h4:(⟨(R.get j).pb,sl,ts⟩:aE).aH i=(R.get j).aH i:=by
     have hil:i<ts.length:=by omega
     show (match ts[i]? with|some t=>t.L|none=>[])=_
     rw[Kg hil]
     exact tL i _ (Kg hil)
    rw[h4] at h3
    exact h3)
  rw[eg] at key
  exact key
end
end Go.Proofs.YtkehfflpbpdokaaGreatDoor
