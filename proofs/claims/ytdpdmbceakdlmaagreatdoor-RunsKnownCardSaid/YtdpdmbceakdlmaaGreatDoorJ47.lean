/-
 The document's pool in memory.
-/
import Derived.Test.YtdpdmbceakdlmaaGreatDoorJ35
import Derived.Test.YtdpdmbceakdlmaaGreatDoorJ41
import Derived.Test.YtdpdmbceakdlmaaGreatDoorDrd
open Go.Builtin renaming append_->KM
open Go.ByteArray renaming toList_eq->Oq
open Go.IntKind renaming i64->KG
open Go.Proofs.Tryz renaming prog->KE
open Int renaming toNat_natCast->KU
open List renaming mem_of_getElem?->KH,getElem?_eq_some_iff->KI,getElem?_eq_getElem->KJ,append_assoc->LG,nil_append->Mx,getElem_of_mem->MB,le_trans->QN,le_of_lt->Sk
open List.Pairwise renaming nil->Ux
open Nat renaming lt_or_ge->Lr
namespace Go.Proofs.YtdpdmbceakdlmaaGreatDoor
open Go.MapKept
abbrev RZ:=Fr×Sl
def nH:fN RZ:=⟨7,λz=>[.string z.1.name,.int .i64 (z.1.page:Int),.int .u8 (z.1.kind.toNat:Int),.string (cu z.1.b),.bool z.1.dirty,z.2.v,.int .i64 z.1.left],λ_=>rfl,λx u hu=>by simp at hu;rcases hu with rfl|rfl|rfl|rfl|rfl|rfl|rfl<;>rfl⟩
theorem Io:uy KE Ef uS nH.size 88:=ic (by kernel_rfl)
structure pK (H:Heap)(ll:Sl)(zs:List RZ):Prop where
 arr:aK nH uS H ll zs
 ent:∀z∈zs,aK EI j7 H z.2 z.1.pins
 apart:∀(i j:Nat) (z z':RZ),zs[i]?=some z->zs[j]?=some z'->i≠j->∀b,al z.2 b->¬al z'.2 b
def zZ (ll:Sl)(zs:List RZ)(b:Nat):Prop:=al ll b\/∃z∈zs,al z.2 b
def Bw (zs:List RZ):List Fr:=zs.map (·.1)
theorem pK.lt {H:Heap}{ll:Sl}{zs:List RZ}(h:pK H ll zs):∀b,zZ ll zs b->b<H.size:=by
 rintro b (q|⟨z,hz,q⟩)
 ·exact h.arr.lt b q
 ·exact(h.ent z hz).lt b q
theorem pK.ak {H H':Heap}{ll:Sl}{zs:List RZ}(h:pK H ll zs)(k:∀b,zZ ll zs b->b<H.size->H'[b]?=H[b]?):pK H' ll zs:=
 ⟨h.arr.ak λb hb=>k b (.inl hb),λz hz=>(h.ent z hz).ak λb hb=>k b (.inr ⟨z,hz,hb⟩),h.apart⟩
theorem pK.ty {H:Heap}{ll:Sl}{zs:List RZ}(h:pK H ll zs):∀b,zZ ll zs b->∃cs t,H[b]?=some (.cells cs t (0,0))/\(t=uS\/t=j7):=by
 rintro b (q|⟨z,hz,q⟩)
 ·obtain⟨c,e⟩:=h.arr.obj b q;exact⟨c,_,e,.inl rfl⟩
 ·obtain⟨c,e⟩:=(h.ent z hz).obj b q;exact⟨c,_,e,.inr rfl⟩
theorem pK.fV {H:Heap}{ll:Sl}{zs:List RZ}(h:pK H ll zs){z:RZ}(hz:z∈zs):∀b,al z.2 b->¬al ll b:=by
 intro b hb hl
 obtain⟨c,e⟩:=(h.ent z hz).obj b hb
 obtain⟨c',e'⟩:=h.arr.obj b hl
 exact absurd (aQ e e') (by decide)
def dL (dp:Nat)(ll:Sl)(s:Pl):Array Value:=#[c6 dp,.int .i64 (s.most:Int),ll.v,.int .i64 s.next,.int .i64 s.tick,.int .i64 (s.peak:Int),.int .i64 s.wrong]
structure bB (ll:Sl)(zs:List RZ)(H:Heap)(p dp:Nat)(s:Pl):Prop where
 head:aj H p pY (dL dp ll s)
 ah:pK H ll zs
 fs:s.fs=Bw zs
 wf:s.WF
def fU (ll:Sl)(zs:List RZ)(p b:Nat):Prop:=b=p\/zZ ll zs b
theorem bB.off {H:Heap}{p:Nat}{ll:Sl}{zs:List RZ}{cs:Array Value}(hd:aj H p pY cs)(h:pK H ll zs):¬zZ ll zs p:=by
 intro hb
 obtain⟨c,t,e,ht⟩:=h.ty p hb
 rw[<-aQ hd e] at ht
 exact absurd ht (by decide)
theorem bB.lt {ll:Sl}{zs:List RZ}{H:Heap}{p dp:Nat}{s:Pl}(h:bB ll zs H p dp s):∀b,fU ll zs p b->b<H.size:=by
 rintro b (rfl|hb)
 ·exact aG h.head
 ·exact h.ah.lt b hb
theorem bB.ak {ll:Sl}{zs:List RZ}{H H':Heap}{p dp:Nat}{s:Pl}(h:bB ll zs H p dp s)(k:∀b,fU ll zs p b->b<H.size->H'[b]?=H[b]?):bB ll zs H' p dp s:=
 ⟨(k p (.inl rfl) (aG h.head)).trans h.head,h.ah.ak λb hb=>k b (.inr hb),h.fs,h.wf⟩
theorem bB.aZ {ll:Sl}{zs:List RZ}{H:Heap}{p dp:Nat}{s:Pl}(h:bB ll zs H p dp s)(d:Dk):bB ll zs H p dp (s.aZ d):=⟨h.head,h.ah,h.fs,h.wf.aZ d⟩
theorem bB.at {ll:Sl}{zs:List RZ}{H:Heap}{p dp:Nat}{s:Pl}(h:bB ll zs H p dp s){i:Nat}{f:Fr}(hf:s.fs[i]?=some f):∃g,zs[i]?=some (f,g):=by
 rw[h.fs] at hf
 unfold Bw at hf
 rw[List.getElem?_map,Option.map_eq_some_iff] at hf
 obtain⟨⟨f',g⟩,h1,rfl⟩:=hf
 exact⟨g,h1⟩
theorem bB.len {ll:Sl}{zs:List RZ}{H:Heap}{p dp:Nat}{s:Pl}(h:bB ll zs H p dp s):s.fs.length=zs.length:=by rw[h.fs];simp[Bw]
theorem bB.n {ll:Sl}{zs:List RZ}{H:Heap}{p dp:Nat}{s:Pl}(h:bB ll zs H p dp s):ll.n=s.fs.length:=by rw[h.ah.arr.n (by decide),h.len]
structure bp (ll:Sl)(zs:List RZ)(D:Nat->Prop)(H:Heap)(p dp:Nat)(s:Pl):Prop where
 ag:bB ll zs H p dp s
 ba:cr D H dp s.d
 apart:∀b,D b->¬fU ll zs p b
def aN (F:Nat->Prop)(H:Heap)(p dp:Nat)(s:Pl):Prop:=∃ll zs D,bp ll zs D H p dp s/\∀b,F b↔D b\/fU ll zs p b
theorem bp.lt {ll:Sl}{zs:List RZ}{D:Nat->Prop}{H:Heap}{p dp:Nat}{s:Pl}(h:bp ll zs D H p dp s):∀b,D b\/fU ll zs p b->b<H.size:=by
 rintro b (hb|hb)
 ·exact h.ba.lt b hb
 ·exact h.ag.lt b hb
theorem bp.ak {ll:Sl}{zs:List RZ}{D:Nat->Prop}{H H':Heap}{p dp:Nat}{s:Pl}(h:bp ll zs D H p dp s)(k:∀b,D b\/fU ll zs p b->b<H.size->H'[b]?=H[b]?):bp ll zs D H' p dp s:=
 ⟨h.ag.ak λb hb=>k b (.inr hb),h.ba.ak λb hb=>k b (.inl hb),h.apart⟩
theorem bp.ext {ll:Sl}{zs:List RZ}{D:Nat->Prop}{H H':Heap}{p dp:Nat}{s:Pl}(h:bp ll zs D H p dp s)(e:Ext H H'):bp ll zs D H' p dp s:=h.ak λb _ hl=>e.same b hl id
theorem aN.lt {F:Nat->Prop}{H:Heap}{p dp:Nat}{s:Pl}(h:aN F H p dp s):∀b,F b->b<H.size:=by
 obtain⟨ll,zs,D,g,hF⟩:=h
 exact λb hb=>g.lt b ((hF b).1 hb)
theorem aN.ak {F:Nat->Prop}{H H':Heap}{p dp:Nat}{s:Pl}(h:aN F H p dp s)(k:∀b,F b->b<H.size->H'[b]?=H[b]?):aN F H' p dp s:=by
 obtain⟨ll,zs,D,g,hF⟩:=h
 exact⟨ll,zs,D,g.ak λb hb=>k b ((hF b).2 hb),hF⟩
theorem aN.ext {F:Nat->Prop}{H H':Heap}{p dp:Nat}{s:Pl}(h:aN F H p dp s)(e:Ext H H'):aN F H' p dp s:=h.ak λb _ hl=>e.same b hl id
theorem bp.ky {ll:Sl}{zs:List RZ}{D D':Nat->Prop}{H H':Heap}{p dp:Nat}{s:Pl}{d:Dk}(h:bp ll zs D H p dp s)(hd:cr D' H' dp d)(hs:Step D D' H H'):
  bp ll zs D' H' p dp (s.aZ d)/\Step (λb=>D b\/fU ll zs p b) (λb=>D' b\/fU ll zs p b) H H':=by
 obtain⟨q1,q2⟩:=hs.side h.apart h.ag.lt
 exact⟨⟨(h.ag.ak λb hb hl=>hs.mod.same b hl λq=>h.apart b q hb).aZ d,hd,q1⟩,q2⟩
theorem bp.jm {ll ll':Sl}{zs zs':List RZ}{D:Nat->Prop}{H H':Heap}{p dp:Nat}{s s':Pl}(h:bp ll zs D H p dp s)(hp:bB ll' zs' H' p dp s')(hd:s'.d=s.d)(hm:Mod (fU ll zs p) H H')(ho:∀b,zZ ll' zs' b->zZ ll zs b\/H.size<=b):
  bp ll' zs' D H' p dp s'/\Step (λb=>D b\/fU ll zs p b) (λb=>D b\/fU ll' zs' p b) H H':=by
 have hl:=h.ba.lt
 refine⟨⟨hp,by rw[hd];exact h.ba.ak λb hb hbl=>hm.same b hbl (h.apart b hb),?_⟩,hm.mono λb _ q=>.inr q,?_⟩
 ·rintro b hb (q|q)
  ·exact h.apart b hb (.inl q)
  ·rcases ho b q with r|r
   ·exact h.apart b hb (.inr r)
   ·have:=hl b hb;omega
 ·rintro b (q|q|q)
  ·exact .inl (.inl q)
  ·exact .inl (.inr (.inl q))
  ·exact(ho b q).imp (λr=>.inr (.inr r)) id
theorem bp.out {ll ll':Sl}{zs zs':List RZ}{D D':Nat->Prop}{F:Nat->Prop}{H H':Heap}{p dp:Nat}{s:Pl}(h:bp ll' zs' D' H' p dp s)(hF:∀b,F b↔D b\/fU ll zs p b)(hs:Step (λb=>D b\/fU ll zs p b) (λb=>D' b\/fU ll' zs' p b) H H'):
  ∃F',aN F' H' p dp s/\Step F F' H H':=
 ⟨λb=>D' b\/fU ll' zs' p b,⟨ll',zs',D',h,λ_=>Iff.rfl⟩,hs.mod.mono λb _ q=>(hF b).2 q,λb hb=>(hs.own b hb).imp (hF b).2 id⟩
theorem bB.qZ {ll:Sl}{zs:List RZ}{H H':Heap}{p dp:Nat}{s s':Pl}(h:bB ll zs H p dp s)(hr:aj H' p pY (dL dp ll s'))(hm:Mod (λb=>b=p) H H')(hf:s'.fs=s.fs)(hw:s'.WF):bB ll zs H' p dp s':=
 ⟨hr,h.ah.ak λb hb hl=>hm.same b hl λe=>bB.off h.head h.ah (e▸hb),hf.trans h.fs,hw⟩
theorem pK.ld {H:Heap}{ll:Sl}{zs:List RZ}(h:pK H ll zs){i j:Nat}{z:RZ}(hz:zs[i]?=some z){c:eN}{y:c.α}(hj:(nH.enc z)[j]?=some (c.enc y)){K:c.α->Prop}(hK:K y):
  ab ll.a λa=>(0<=(i:Int)/\(i:Int)<(ll.n:Int))/\Go.Proofs.YtdpdmbceakdlmaaGreatDoor.ld c H ((a.add ((i:Int).toNat*7)).add j) K:=by
 have hi:=(KI.1 hz).1
 obtain⟨ad,ha⟩:=cS.addr h.arr.rd (by decide) (by omega)
 rw[ha]
 refine⟨⟨by omega,by rw[h.arr.n (by decide)];omega⟩,?_⟩
 exact cS.ld (E:=nH) (c:=c) h.arr.rd ha hz hj (by simp[nH]) hK
theorem pK.set {H H':Heap}{ll:Sl}{zs:List RZ}(h:pK H ll zs){i:Nat}{z z':RZ}(hz:zs[i]?=some z)(harr:aK nH uS H' ll (zs.set i z'))(he:aK EI j7 H' z'.2 z'.1.pins)
  (hm:∀u∈zs,∀b,al u.2 b->¬al z.2 b->b<H.size->H'[b]?=H[b]?) (ho:∀b,al z'.2 b->al z.2 b\/H.size<=b):
  pK H' ll (zs.set i z')/\∀b,zZ ll (zs.set i z') b->zZ ll zs b\/H.size<=b:=by
 have hil:=(KI.1 hz).1
 refine⟨⟨harr,λu hu=>?_,?_⟩,?_⟩
 ·rcases gq hu with ⟨j,hji,hj⟩|rfl
  ·have hum:=KH hj
   exact(h.ent u hum).ak λb hb hl=>hm u hum b hb (λq=>h.apart j i u z hj hz hji b hb q) hl
  ·exact he
 ·intro a c u v h1 h2 hac b hb1 hb2
  rw[List.getElem?_set] at h1 h2
  by_cases hia:i=a
  ·subst hia
   rw[if_neg hac] at h2
   rw[if_pos rfl,if_pos hil] at h1
   cases h1
   rcases ho b hb1 with q|q
   ·exact h.apart i c z v hz h2 hac b q hb2
   ·have:=(h.ent v (KH h2)).lt b hb2;omega
  ·rw[if_neg hia] at h1
   by_cases hic:i=c
   ·subst hic
    rw[if_pos rfl,if_pos hil] at h2
    cases h2
    rcases ho b hb2 with q|q
    ·exact h.apart a i u z h1 hz hac b hb1 q
    ·have:=(h.ent u (KH h1)).lt b hb1;omega
   ·rw[if_neg hic] at h2
    exact h.apart a c u v h1 h2 hac b hb1 hb2
 ·rintro b (q|⟨u,hu,q⟩)
  ·exact .inl (.inl q)
  ·rcases gq hu with ⟨j,_,hj⟩|rfl
   ·exact .inl (.inr ⟨u,KH hj,q⟩)
   ·exact(ho b q).imp (λr=>.inr ⟨z,KH hz,r⟩) id
theorem oT (l:List UInt8):(cu l).toList=l:=by
 rw[Oq];rfl
theorem pU {H:Heap}{z:Sl}{L:List (List UInt8)}(h:aK EN iA H z L){i:Nat}(hi:i<L.length){K:ByteArray->Prop}(hK:K (cu L[i])):ab z.a λa=>(0<=(i:Int)/\(i:Int)<(z.n:Int))/\ld aV H (a.add ((i:Int).toNat*1)) K:=by
 have hn:=h.n (by decide)
 obtain⟨ad,ha⟩:=cS.addr h.rd (by decide) (by omega)
 rw[ha]
 refine⟨⟨by omega,by omega⟩,?_⟩
 simp only[KU]
 exact aK.one (c:=aV) (y:=cu L[i]) h (KJ hi) rfl rfl ha hK
theorem rZ {L:List (List UInt8)}{x:List UInt8}{a:Nat}(hL:L.Pairwise (·<=·))(ha:a<=L.length)(h1:∀j (hj:j<L.length),j<a->L[j]<x)(h2:∀j (hj:j<L.length),a<=j->x<=L[j]):(L.take a++[x]++L.drop a).Pairwise (·<=·):=by
 rw[LG,List.pairwise_append]
 refine⟨hL.sublist (List.take_sublist _ _),?_,?_⟩
 ·rw[List.singleton_append,List.pairwise_cons]
  refine⟨λy hy=>?_,hL.sublist (List.drop_sublist _ _)⟩
  obtain⟨k,hk,rfl⟩:=MB hy
  simp at hk ⊢
  exact h2 (a+k) (by omega) (by omega)
 ·intro y hy z hz
  obtain⟨k,hk,rfl⟩:=MB hy
  simp at hk
  have hyx:L[k]<x:=h1 k (by omega) (by omega)
  simp only[List.getElem_take]
  rcases List.mem_append.1 hz with q|q
  ·simp at q;subst q;exact Sk hyx
  ·obtain⟨m,hm,rfl⟩:=MB q
   simp at hm ⊢
   exact QN (Sk hyx) (h2 (a+m) (by omega) (by omega))
theorem DH {F:Nat->Prop}{d:Nat}{s:Dk}{H:Heap}{K:Sl->Heap->Prop}(h:cr F H d s)(hK:∀l H',aK EN iA H' l s.list->Mod (λ_=>False) H H'->(∀b,al l b->H.size<=b)->K l H'):Ho.sp (aD d) H K:=by
 obtain⟨fl,gs,cin,kp,g,_⟩:=h
 refine Ho.of ?_
 unfold Ho.vc
 simp only[aq]
 have hfl:=g.wf.files
 have hn:=g.files.n
 have fin:∀(L:List (List UInt8)) (l:Sl) (A:Heap),s.down=false->aK EN iA A l L->L.Pairwise (·<=·)->L.Perm (s.files.map λf=>f.name.toList)->Mod (λ_=>False) H A->(∀b,al l b->H.size<=b)->K l A:=by
  intro L l A hd o hs hp m f
  refine hK l A ?_ m f
  have e:s.list=L:=by
   unfold Dk.list;rw[hd]
   simp only[Bool.false_eq_true,if_false]
   rw[<-jV hp]
   have tr:∀a b c:List UInt8,decide (a<=b)=true->decide (b<=c)=true->decide (a<=c)=true:=λa b c h1 h2=>by simp only[decide_eq_true_eq] at*;exact QN h1 h2
   have to:∀a b:List UInt8,(decide (a<=b)||decide (b<=a))=true:=λa b=>by simp only[Bool.or_eq_true,decide_eq_true_eq];exact List.le_total a b
   refine List.Perm.eq_of_pairwise (le:=λa b=>decide (a<=b)=true) (λa b _ _ h1 h2=>?_) (List.pairwise_mergeSort tr to L) (hs.imp λh=>by simpa using h) (List.mergeSort_perm L _)
   simp only[decide_eq_true_eq] at h1 h2
   exact List.le_antisymm h1 h2
  rw[e];exact o
 refine ay s.files.length (λk x H1=>x.2=(k:Int)/\Mod (λ_=>False) H H1/\(∀b,al x.1 b->H.size<=b)/\(s.down=true->k=0/\x.1=Sl.mk none 0 0)/\∃L,aK EN iA H1 x.1 L/\L.Pairwise (·<=·)/\L.Perm ((s.files.take k).map λf=>f.name.toList)) ⟨rfl,.refl _ _,(by rintro b ⟨ad,q,_⟩;cases q),λ_=>⟨rfl,rfl⟩,[],aK.nil _ _ _,Ux,by simp⟩ ?_
 rintro k ⟨l,i⟩ H1 next hk ⟨hi,m1,f1,hdn,L,o1,hs,hp⟩ hnext
 simp only at hi
 subst hi
 simp only at f1 hdn o1 hnext ⊢
 have d1:=g.head.ext m1
 have F1:aO H1 fl gs s.files:=g.files.ak λb hb hl=>m1.same b hl id
 have downK:s.down=true->K l H1:=by
  intro hd
  obtain⟨_,e⟩:=hdn hd
  rw[e]
  refine hK _ H1 ?_ m1 (by rintro b ⟨ad,q,_⟩;cases q)
  unfold Dk.list;rw[hd];exact aK.nil _ _ _
 refine d1.ld (c:=av) (i:=0) (x:=fl) rfl ?_
 refine ae (λhc=>?_) (λhc=>?_)
 ·have hlt:k<s.files.length:=by rw[hn] at hc;simpa using hc
  refine d1.ld (c:=aA) (i:=8) (x:=s.down) rfl ?_
  cases hd:s.down with
  |true=>exact aw rfl (downK hd)
  |false=>
    refine aP rfl ?_
    have hf:s.files[k]?=some s.files[k]:=KJ hlt
    obtain⟨f,hfe⟩:∃f,f=s.files[k]:=⟨_,rfl⟩
    rw[<-hfe] at hf
    obtain⟨gg,hg,_,_⟩:=F1.zN hf
    have hLl:L.length=k:=by rw[hp.length_eq];simp;omega
    have hln:=o1.n (by decide)
    have hcap:=o1.cap
    have hx:=pf f.name
    have ins:∀a:Nat,a<=L.length->(∀j (hj:j<L.length),j<a->L[j]<f.name.toList)->(∀j (hj:j<L.length),a<=j->f.name.toList<=L[j])->
      ((0<=(a:Int)/\(a:Int)<=(l.c:Int))/\bt av KE (KM #[iD,iD] iD #[(.slice none 0 0),(.slice (fP l.a l.c 0 1) ((a:Int).toNat - 0) (l.c - 0))]) H1 λ(s_3:Sl) H7=>ld av H7 (Addr.add ⟨d,0,none⟩ 0) λ(x_7:Sl)=>ab x_7.a λa_8=>(0<=(k:Int)/\(k:Int)<(x_7.n:Int))/\ld aV H7 ((a_8.add ((k:Int).toNat*3)).add 0) λ(x_8:ByteArray)=>aF H7 #[(.string x_8)] iA λp_2 H8=>bt av KE (KM #[iD,iD] iD #[s_3.v,(.slice (some p_2) 1 1)]) H8 λ(s_4:Sl) H9=>(0<=(a:Int)/\(a:Int)<=(l.n:Int))/\bt av KE (KM #[iD,iD] iD #[s_4.v,(.slice (fP l.a l.c (a:Int).toNat 1) (l.n - (a:Int).toNat) (l.c - (a:Int).toNat))]) H9 λ(s_5:Sl) H10=>next (s_5,KG.wrap ((k:Int)+(1:Int))) H10):=by
     intro a ha h1 h2
     refine⟨⟨by omega,by omega⟩,?_⟩
     have t1:cS EN H1 (fP l.a l.c 0 1) (L.take a):=by rw[sv];exact o1.rd.take
     refine aK.append (E:=EN) tM (s:=Sl.mk none 0 0) (x:=⟨fP l.a l.c 0 1,(a:Int).toNat - 0,l.c - 0⟩) (l:=[]) (aK.nil _ _ _) t1 (by simp;omega) (by simp;omega) (by simp;omega) λl2 H2 o2 g2 _=>?_
     have f2:∀b,al l2 b->H1.size<=b:=λb hb=>(g2.2 b hb).resolve_left (by rintro⟨ad,q,_⟩;cases q)
     have m2:Mod (λ_=>False) H1 H2:=g2.1.mono λb _ hb=>by obtain⟨ad,q,_⟩:=hb;cases q
     refine(d1.ext m2).ld (c:=av) (i:=0) (x:=fl) rfl ?_
     have F2:aO H2 fl gs s.files:=F1.ak λb hb hl=>m2.same b hl id
     refine F2.ld1 hf hg (j:=0) (c:=aV) (y:=f.name) rfl ?_
     refine aK.push (E:=EN) tM (x:=f.name.toList) o2 (by unfold cu at hx;simp[EN,hx]) (by simp;omega) (by simp;omega) λl3 H3 o3 g3 _=>?_
     have z2:=m2.size;have z3:=g3.1.size
     have f3:∀b,al l3 b->H1.size<=b:=λb hb=>by
      rcases g3.2 b hb with q|q
      ·exact f2 b q
      ·omega
     have m13:Mod (λ_=>False) H1 H3:=⟨by omega,λb hb _=>(g3.1.same b (by omega) λhh=>by have:=f2 b hh;omega).trans (m2.same b hb id)⟩
     refine⟨⟨by omega,by omega⟩,?_⟩
     have o13:aK EN iA H3 l L:=o1.ext m13
     have t3:cS EN H3 (fP l.a l.c a 1) (L.drop a):=cS.drop o13.rd (by omega)
     simp only[KU]
     refine aK.append (E:=EN) tM (s:=l3) (x:=⟨fP l.a l.c a 1,l.n - a,l.c - a⟩) o3 t3 (by simp;omega) (by simp;omega) (by simp;omega) λl4 H4 o4 g4 _=>?_
     have z4:=g4.1.size;have z1:=m1.size
     refine hnext hlt _ _ ⟨aI k (by omega),⟨by omega,λb hb _=>(g4.1.same b (by omega) λhh=>by have:=f3 b hh;omega).trans ((m13.same b (by omega) id).trans (m1.same b hb id))⟩,?_,(λh=>by rw[hd] at h;cases h),_,o4,?_,?_⟩
     ·intro b hb
      rcases g4.2 b hb with q|q
      ·have:=f3 b q;omega
      ·omega
     ·simp only[Mx]
      exact rZ hs ha h1 h2
     ·simp only[Mx]
      rw[List.take_succ_eq_append_getElem hlt,<-hfe,List.map_append,List.map_cons,List.map_nil]
      refine List.Perm.trans ?_ (hp.append_right _)
      have e:=List.take_append_drop a L
      conv=>rhs;rw[<-e]
      rw[LG,LG]
      exact List.Perm.append_left _ (List.perm_append_comm)
    refine ay L.length (λa x H2=>x=(a:Int)/\H2=H1/\∀j (hj:j<L.length),j<a->L[j]<f.name.toList) ⟨rfl,rfl,λj _ h=>by omega⟩ ?_
    rintro a _ H2 yH ha ⟨rfl,rfl,hlo⟩ hnext1
    refine ae (λhc1=>?_) (λhc1=>?_)
    ·have ha':a<L.length:=by rw[hln] at hc1;simpa using hc1
     refine pU o1 ha' ?_
     refine d1.ld (c:=av) (i:=0) (x:=fl) rfl ?_
     refine F1.ld1 hf hg (j:=0) (c:=aV) (y:=f.name) rfl ?_
     rw[oT,bytesLess_eq]
     refine ae (λhb=>?_) (λhb=>?_)
     ·have hb':L[a]<f.name.toList:=by simpa using hb
      refine hnext1 ha' _ _ ⟨aI a (by omega),rfl,λj hj hja=>?_⟩
      rcases Lr j a with q|q
      ·exact hlo j hj q
      ·have:j=a:=by omega
       subst this;exact hb'
     ·have hb':¬L[a]<f.name.toList:=by simpa using hb
      refine ins a (by omega) hlo λj hj haj=>?_
      refine QN (List.not_lt.1 hb') ?_
      rcases Lr a j with q|q
      ·exact(List.pairwise_iff_getElem.1 hs) a j ha' hj q
      ·have:a=j:=by omega
       subst this;exact List.le_refl _
    ·have hge:a=L.length:=by rw[hln] at hc1;simp at hc1;omega
     exact ins a (by omega) hlo λj hj haj=>by omega
 ·have hge:k=s.files.length:=by rw[hn] at hc;simp at hc;omega
  rw[hge,List.take_of_length_le (Nat.le_refl _)] at hp
  cases hd:s.down with
  |true=>exact downK hd
  |false=>exact fin L l H1 hd o1 hs hp m1 f1
end Go.Proofs.YtdpdmbceakdlmaaGreatDoor
