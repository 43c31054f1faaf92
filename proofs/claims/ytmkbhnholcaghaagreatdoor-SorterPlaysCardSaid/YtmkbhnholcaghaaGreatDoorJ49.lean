/-
 The document's pool in memory.
-/
import Derived.Test.YtmkbhnholcaghaaGreatDoorPgb
import Derived.Test.YtmkbhnholcaghaaGreatDoorJ35
import Derived.Test.YtmkbhnholcaghaaGreatDoorJ40
import Derived.Test.YtmkbhnholcaghaaGreatDoorFxs
import Derived.Test.YtmkbhnholcaghaaGreatDoorDrd
open BitVec renaming ofNat->Sm
open Bool renaming eq_false_iff->VR
open Go.Addr renaming add->OR
open Go.Builtin renaming append_->Oa
open Go.ByteArray renaming toList_eq->Te
open Go.IntKind renaming i64->N6,u8->O5,u32->PN
open Go.Proofs.Tryz renaming prog->N5
open Int renaming toNat_natCast->Od,tmod->Pq
open List renaming getElem?_eq_some_iff->N7,getElem?_eq_getElem->N8,mem_of_getElem?->N9,take_succ_eq_append_getElem->Oc,mem_append->Oe,take_of_length_le->Og,map_cons->Ox,eq_nil_of_length_eq_zero->Oy,getElem?_append_left->OB,length_append->OG,map_append->OO,length_map->OT,length_take->OW,append_assoc->O3,getElem?_append_right->O9,range->Pk,getD->Pn,map_set->Pv,map_map->Py,mem_of_mem_eraseIdx->Pz,filter_append->PD,getElem_of_mem->PQ,findIdx?_eq_some_iff_getElem->P3,nil_append->Qd,filter_cons->Qf,isEmpty_iff->Qi,findIdx?_eq_none_iff->Qj,pairwise_iff_getElem->Qk,take_append_drop->Qq,map_nil->QR,length_filter_le->Q3,any_append->Q9,contains_iff_mem->RO,getElem?_toArray->RT,flatMap_append->SH,set_set->Us,le_trans->UL,take_add_one->UQ,le_of_lt->WB
open List.Pairwise renaming nil->Sd
open Nat renaming le_refl->Ob,zero_le->Oz,lt_or_ge->OV
open UInt8 renaming ofNat->OQ,toNat_ofNat'->Q0
namespace Go.Proofs.YtmkbhnholcaghaaGreatDoor
open Go.MapKept
abbrev RZ:=Fr×Sl
def mv:eJ RZ:=⟨7,λz=>[.string z.1.name,.int .i64 (z.1.page:Int),.int .u8 (z.1.kind.toNat:Int),.string (cD z.1.b),.bool z.1.dirty,z.2.v,.int .i64 z.1.left],λ_=>rfl,λx u hu=>by simp at hu;rcases hu with rfl|rfl|rfl|rfl|rfl|rfl|rfl<;>rfl⟩
theorem IA:qZ N5 CA tN mv.size 88:=eK (by kernel_rfl)
structure pb (H:aa)(ll:Sl)(zs:List RZ):Prop where
 arr:az mv tN H ll zs
 ent:∀z∈zs,az EI ib H z.2 z.1.pins
 apart:∀(i j:Nat) (z z':RZ),zs[i]?=some z->zs[j]?=some z'->i≠j->∀b,ag z.2 b->¬ag z'.2 b
def Cy (ll:Sl)(zs:List RZ)(b:Nat):Prop:=ag ll b\/∃z∈zs,ag z.2 b
def CM (zs:List RZ):List Fr:=zs.map (·.1)
theorem pb.lt {H:aa}{ll:Sl}{zs:List RZ}(h:pb H ll zs):∀b,Cy ll zs b->b<H.size:=by
 rintro b (q|⟨z,a,q⟩)
 ·exact h.arr.lt b q
 ·exact(h.ent z a).lt b q
theorem pb.keep {H H':aa}{ll:Sl}{zs:List RZ}(h:pb H ll zs)(k:∀b,Cy ll zs b->b<H.size->H'[b]?=H[b]?):pb H' ll zs:=
 ⟨h.arr.keep λb a=>k b (.inl a),λz c=>(h.ent z c).keep λb a=>k b (.inr ⟨z,c,a⟩),h.apart⟩
theorem pb.ty {H:aa}{ll:Sl}{zs:List RZ}(h:pb H ll zs):∀b,Cy ll zs b->∃cs t,H[b]?=some (.cells cs t (0,0))/\(t=tN\/t=ib):=by
 rintro b (q|⟨z,a,q⟩)
 ·obtain⟨c,e⟩:=h.arr.obj b q;exact⟨c,_,e,.inl rfl⟩
 ·obtain⟨c,e⟩:=(h.ent z a).obj b q;exact⟨c,_,e,.inr rfl⟩
theorem pb.gr {H:aa}{ll:Sl}{zs:List RZ}(h:pb H ll zs){z:RZ}(a:z∈zs):∀b,ag z.2 b->¬ag ll b:=by
 intro b d hl;obtain⟨c,e⟩:=(h.ent z a).obj b d;obtain⟨g,f⟩:=h.arr.obj b hl;exact absurd (aF e f) (by decide)
def dH (dp:Nat)(ll:Sl)(s:Pl):Array Value:=#[df dp,.int .i64 (s.most:Int),ll.v,.int .i64 s.next,.int .i64 s.tick,.int .i64 (s.peak:Int),.int .i64 s.wrong]
structure bw (ll:Sl)(zs:List RZ)(H:aa)(p dp:Nat)(s:Pl):Prop where
 head:aj H p ry (dH dp ll s)
 frames:pb H ll zs
 fs:s.fs=CM zs
 wf:s.WF
def fD (ll:Sl)(zs:List RZ)(p b:Nat):Prop:=b=p\/Cy ll zs b
theorem bw.off {H:aa}{p:Nat}{ll:Sl}{zs:List RZ}{cs:Array Value}(hd:aj H p ry cs)(h:pb H ll zs):¬Cy ll zs p:=by
 intro b;obtain⟨c,t,e,a⟩:=h.ty p b;rw[<-aF hd e] at a;exact absurd a (by decide)
theorem bw.lt {ll:Sl}{zs:List RZ}{H:aa}{p dp:Nat}{s:Pl}(h:bw ll zs H p dp s):∀b,fD ll zs p b->b<H.size:=by
 rintro b (rfl|a)
 ·exact aA h.head
 ·exact h.frames.lt b a
theorem bw.keep {ll:Sl}{zs:List RZ}{H H':aa}{p dp:Nat}{s:Pl}(h:bw ll zs H p dp s)(k:∀b,fD ll zs p b->b<H.size->H'[b]?=H[b]?):bw ll zs H' p dp s:=
 ⟨(k p (.inl rfl) (aA h.head)).trans h.head,h.frames.keep λb a=>k b (.inr a),h.fs,h.wf⟩
theorem bw.bE {ll:Sl}{zs:List RZ}{H:aa}{p dp:Nat}{s:Pl}(h:bw ll zs H p dp s)(d:Dk):bw ll zs H p dp (s.bE d):=⟨h.head,h.frames,h.fs,h.wf.bE d⟩
theorem bw.at {ll:Sl}{zs:List RZ}{H:aa}{p dp:Nat}{s:Pl}(h:bw ll zs H p dp s){i:Nat}{f:Fr}(a:s.fs[i]?=some f):∃g,zs[i]?=some (f,g):=by
 rw[h.fs] at a;unfold CM at a;rw[List.getElem?_map,Option.map_eq_some_iff] at a;obtain⟨⟨f',g⟩,h1,rfl⟩:=a;exact⟨g,h1⟩
theorem bw.len {ll:Sl}{zs:List RZ}{H:aa}{p dp:Nat}{s:Pl}(h:bw ll zs H p dp s):s.fs.length=zs.length:=by rw[h.fs];simp[CM]
theorem bw.n {ll:Sl}{zs:List RZ}{H:aa}{p dp:Nat}{s:Pl}(h:bw ll zs H p dp s):ll.n=s.fs.length:=by rw[h.frames.arr.n (by decide),h.len]
structure bp (ll:Sl)(zs:List RZ)(D:Nat->Prop)(H:aa)(p dp:Nat)(s:Pl):Prop where
 pool:bw ll zs H p dp s
 cv:cp D H dp s.d
 apart:∀b,D b->¬fD ll zs p b
def ao (F:Nat->Prop)(H:aa)(p dp:Nat)(s:Pl):Prop:=∃ll zs D,bp ll zs D H p dp s/\∀b,F b↔D b\/fD ll zs p b
theorem bp.lt {ll:Sl}{zs:List RZ}{D:Nat->Prop}{H:aa}{p dp:Nat}{s:Pl}(h:bp ll zs D H p dp s):∀b,D b\/fD ll zs p b->b<H.size:=by
 rintro b (a|a)
 ·exact h.cv.lt b a
 ·exact h.pool.lt b a
theorem bp.keep {ll:Sl}{zs:List RZ}{D:Nat->Prop}{H H':aa}{p dp:Nat}{s:Pl}(h:bp ll zs D H p dp s)(k:∀b,D b\/fD ll zs p b->b<H.size->H'[b]?=H[b]?):bp ll zs D H' p dp s:=
 ⟨h.pool.keep λb a=>k b (.inr a),h.cv.keep λb a=>k b (.inl a),h.apart⟩
theorem bp.ext {ll:Sl}{zs:List RZ}{D:Nat->Prop}{H H':aa}{p dp:Nat}{s:Pl}(h:bp ll zs D H p dp s)(e:Ext H H'):bp ll zs D H' p dp s:=h.keep λb _ hl=>e.same b hl id
theorem ao.lt {F:Nat->Prop}{H:aa}{p dp:Nat}{s:Pl}(h:ao F H p dp s):∀b,F b->b<H.size:=by
 obtain⟨ll,zs,D,g,a⟩:=h;exact λb c=>g.lt b ((a b).1 c)
theorem ao.keep {F:Nat->Prop}{H H':aa}{p dp:Nat}{s:Pl}(h:ao F H p dp s)(k:∀b,F b->b<H.size->H'[b]?=H[b]?):ao F H' p dp s:=by
 obtain⟨ll,zs,D,g,a⟩:=h;exact⟨ll,zs,D,g.keep λb c=>k b ((a b).2 c),a⟩
theorem ao.ext {F:Nat->Prop}{H H':aa}{p dp:Nat}{s:Pl}(h:ao F H p dp s)(e:Ext H H'):ao F H' p dp s:=h.keep λb _ hl=>e.same b hl id
theorem bp.jP {ll:Sl}{zs:List RZ}{D a:Nat->Prop}{H H':aa}{p dp:Nat}{s:Pl}{d:Dk}(h:bp ll zs D H p dp s)(hd:cp a H' dp d)(hs:Step D a H H'):
  bp ll zs a H' p dp (s.bE d)/\Step (λb=>D b\/fD ll zs p b) (λb=>a b\/fD ll zs p b) H H':=by
 obtain⟨c,e⟩:=hs.side h.apart h.pool.lt;exact⟨⟨(h.pool.keep λb f hl=>hs.mod.same b hl λq=>h.apart b q f).bE d,hd,c⟩,e⟩
theorem bp.iV {ll a:Sl}{zs c:List RZ}{D:Nat->Prop}{H H':aa}{p dp:Nat}{s s':Pl}(h:bp ll zs D H p dp s)(g:bw a c H' p dp s')(hd:s'.d=s.d)(hm:Mod (fD ll zs p) H H')(f:∀b,Cy a c b->Cy ll zs b\/H.size<=b):
  bp a c D H' p dp s'/\Step (λb=>D b\/fD ll zs p b) (λb=>D b\/fD a c p b) H H':=by
 have hl:=h.cv.lt;refine⟨⟨g,by rw[hd];exact h.cv.keep λb d e=>hm.same b e (h.apart b d),?_⟩,hm.mono λb _ q=>.inr q,?_⟩
 ·rintro b d (q|q)
  ·exact h.apart b d (.inl q)
  ·rcases f b q with r|r
   ·exact h.apart b d (.inr r)
   ·have:=hl b d;omega
 ·rintro b (q|q|q)
  ·exact .inl (.inl q)
  ·exact .inl (.inr (.inl q))
  ·exact(f b q).imp (λr=>.inr (.inr r)) id
theorem bp.out {ll a:Sl}{zs c:List RZ}{D d:Nat->Prop}{F:Nat->Prop}{H H':aa}{p dp:Nat}{s:Pl}(h:bp a c d H' p dp s)(e:∀b,F b↔D b\/fD ll zs p b)(hs:Step (λb=>D b\/fD ll zs p b) (λb=>d b\/fD a c p b) H H'):
  ∃F',ao F' H' p dp s/\Step F F' H H':=
 ⟨λb=>d b\/fD a c p b,⟨a,c,d,h,λ_=>Iff.rfl⟩,hs.mod.mono λb _ q=>(e b).2 q,λb f=>(hs.own b f).imp (e b).2 id⟩
theorem bw.sb {ll:Sl}{zs:List RZ}{H H':aa}{p dp:Nat}{s s':Pl}(h:bw ll zs H p dp s)(a:aj H' p ry (dH dp ll s'))(hm:Mod (λb=>b=p) H H')(c:s'.fs=s.fs)(hw:s'.WF):bw ll zs H' p dp s':=
 ⟨a,h.frames.keep λb d hl=>hm.same b hl λe=>bw.off h.head h.frames (e▸d),c.trans h.fs,hw⟩
theorem pb.ld {H:aa}{ll:Sl}{zs:List RZ}(h:pb H ll zs){i j:Nat}{z:RZ}(b:zs[i]?=some z){c:eO}{y:c.α}(e:(mv.enc z)[j]?=some (c.enc y)){K:c.α->Prop}(f:K y):
  ae ll.a λa=>(0<=(i:Int)/\(i:Int)<(ll.n:Int))/\Go.Proofs.YtmkbhnholcaghaaGreatDoor.ld c H ((a.add ((i:Int).toNat*7)).add j) K:=by
 have hi:=(N7.1 b).1;obtain⟨ad,d⟩:=bP.addr h.arr.rd (by decide) (by omega);rw[d];refine⟨⟨by omega,by rw[h.arr.n (by decide)];omega⟩,?_⟩;exact bP.ld (E:=mv) (c:=c) h.arr.rd d b e (by simp[mv]) f
theorem pb.set {H H':aa}{ll:Sl}{zs:List RZ}(h:pb H ll zs){i:Nat}{z z':RZ}(k:zs[i]?=some z)(l:az mv tN H' ll (zs.set i z'))(he:az EI ib H' z'.2 z'.1.pins)
  (hm:∀u∈zs,∀b,ag u.2 b->¬ag z.2 b->b<H.size->H'[b]?=H[b]?) (t:∀b,ag z'.2 b->ag z.2 b\/H.size<=b):
  pb H' ll (zs.set i z')/\∀b,Cy ll (zs.set i z') b->Cy ll zs b\/H.size<=b:=by
 have m:=(N7.1 k).1;refine⟨⟨l,λu hu=>?_,?_⟩,?_⟩
 ·rcases jT hu with ⟨j,w,s⟩|rfl
  ·have n:=N9 s;exact(h.ent u n).keep λb x hl=>hm u n b x (λq=>h.apart j i u z s k w b x q) hl
  ·exact he
 ·intro a c u v h1 g d b e f;rw[List.getElem?_set] at h1 g;by_cases o:i=a
  ·subst o;rw[if_neg d] at g;rw[if_pos rfl,if_pos m] at h1;cases h1;rcases t b e with q|q
   ·exact h.apart i c z v k g d b q f
   ·have:=(h.ent v (N9 g)).lt b f;omega
  ·rw[if_neg o] at h1;by_cases p:i=c
   ·subst p;rw[if_pos rfl,if_pos m] at g;cases g;rcases t b f with q|q
    ·exact h.apart a i u z h1 k d b e q
    ·have:=(h.ent u (N9 h1)).lt b e;omega
   ·rw[if_neg p] at g;exact h.apart a c u v h1 g d b e f
 ·rintro b (q|⟨u,hu,q⟩)
  ·exact .inl (.inl q)
  ·rcases jT hu with ⟨j,_,s⟩|rfl
   ·exact .inl (.inr ⟨u,N9 s,q⟩)
   ·exact(t b q).imp (λr=>.inr ⟨z,N9 k,r⟩) id
theorem pQ (l:List UInt8):(cD l).toList=l:=by
 rw[Te];rfl
theorem rf {H:aa}{z:Sl}{L:List (List UInt8)}(h:az EN dI H z L){i:Nat}(hi:i<L.length){K:ByteArray->Prop}(d:K (cD L[i])):ae z.a λa=>(0<=(i:Int)/\(i:Int)<(z.n:Int))/\ld aK H (a.add ((i:Int).toNat*1)) K:=by
 have e:=h.n (by decide);obtain⟨ad,b⟩:=bP.addr h.rd (by decide) (by omega);rw[b];refine⟨⟨by omega,by omega⟩,?_⟩;simp only[Od];exact az.one (c:=aK) (y:=cD L[i]) h (N8 hi) rfl rfl b d
theorem tY {L:List (List UInt8)}{x:List UInt8}{a:Nat}(d:L.Pairwise (·<=·))(h:a<=L.length)(h1:∀j (f:j<L.length),j<a->L[j]<x)(e:∀j (f:j<L.length),a<=j->x<=L[j]):(L.take a++[x]++L.drop a).Pairwise (·<=·):=by
 rw[O3,List.pairwise_append];refine⟨d.sublist (List.take_sublist _ _),?_,?_⟩
 ·rw[List.singleton_append,List.pairwise_cons];refine⟨λy c=>?_,d.sublist (List.drop_sublist _ _)⟩;obtain⟨k,hk,rfl⟩:=PQ c;simp at hk ⊢;exact e (a+k) (by omega) (by omega)
 ·intro y c z g;obtain⟨k,hk,rfl⟩:=PQ c;simp at hk;have b:L[k]<x:=h1 k (by omega) (by omega);simp only[List.getElem_take];rcases Oe.1 g with q|q
  ·simp at q;subst q;exact WB b
  ·obtain⟨m,hm,rfl⟩:=PQ q;simp at hm ⊢;exact UL (WB b) (e (a+m) (by omega) (by omega))
theorem Gc {F:Nat->Prop}{d:Nat}{s:Dk}{H:aa}{K:Sl->aa->Prop}(h:cp F H d s)(hK:∀l H',az EN dI H' l s.list->Mod (λ_=>False) H H'->(∀b,ag l b->H.size<=b)->K l H'):J1.sp (aE d) H K:=by
 obtain⟨fl,gs,cin,kp,g,_⟩:=h;refine J1.of ?_;unfold J1.vc;simp only[al];have bb:=g.wf.files;have hn:=g.files.n;have fin:∀(L:List (List UInt8)) (l:Sl) (A:aa),s.down=false->az EN dI A l L->L.Pairwise (·<=·)->L.Perm (s.files.map λf=>f.name.toList)->Mod (λ_=>False) H A->(∀b,ag l b->H.size<=b)->K l A:=by
  intro L l A hd o hs G m f;refine hK l A ?_ m f;have e:s.list=L:=by
   unfold Dk.list;rw[hd];simp only[Bool.false_eq_true,if_false];rw[<-kM G];have tr:∀a b c:List UInt8,decide (a<=b)=true->decide (b<=c)=true->decide (a<=c)=true:=λa b c h1 I=>by simp only[decide_eq_true_eq] at*;exact UL h1 I
   have to:∀a b:List UInt8,(decide (a<=b)||decide (b<=a))=true:=λa b=>by simp only[Bool.or_eq_true,decide_eq_true_eq];exact List.le_total a b
   refine List.Perm.eq_of_pairwise (le:=λa b=>decide (a<=b)=true) (λa b _ _ h1 I=>?_) (List.pairwise_mergeSort tr to L) (hs.imp λh=>by simpa using h) (List.mergeSort_perm L _);simp only[decide_eq_true_eq] at h1 I;exact List.le_antisymm h1 I
  rw[e];exact o
 refine ar s.files.length (λk x H1=>x.2=(k:Int)/\Mod (λ_=>False) H H1/\(∀b,ag x.1 b->H.size<=b)/\(s.down=true->k=0/\x.1=Sl.mk none 0 0)/\∃L,az EN dI H1 x.1 L/\L.Pairwise (·<=·)/\L.Perm ((s.files.take k).map λf=>f.name.toList)) ⟨rfl,.refl _ _,(by rintro b ⟨ad,q,_⟩;cases q),λ_=>⟨rfl,rfl⟩,[],az.nil _ _ _,Sd,by simp⟩ ?_;rintro k ⟨l,i⟩ H1 next hk ⟨hi,m1,f1,J,L,v,hs,G⟩ p
 simp only at hi;subst hi;simp only at f1 J v p ⊢;have d1:=g.head.ext m1;have T:aJ H1 fl gs s.files:=g.files.keep λb n hl=>m1.same b hl id;have r:s.down=true->K l H1:=by
  intro hd;obtain⟨_,e⟩:=J hd;rw[e];refine hK _ H1 ?_ m1 (by rintro b ⟨ad,q,_⟩;cases q);unfold Dk.list;rw[hd];exact az.nil _ _ _
 refine d1.ld (c:=ak) (i:=0) (x:=fl) rfl ?_;refine ah (λM=>?_) (λM=>?_)
 ·have w:k<s.files.length:=by rw[hn] at M;simpa using M
  refine d1.ld (c:=ay) (i:=8) (x:=s.down) rfl ?_;cases hd:s.down with
  |true=>exact aC rfl (r hd)
  |false=>
    refine aP rfl ?_;have S:s.files[k]?=some s.files[k]:=N8 w;obtain⟨f,N⟩:∃f,f=s.files[k]:=⟨_,rfl⟩;rw[<-N] at S;obtain⟨gg,hg,_,_⟩:=T.BG S;have bd:L.length=k:=by rw[G.length_eq];simp;omega
    have O:=v.n (by decide);have a8:=v.cap;have hx:=qE f.name;have ins:∀a:Nat,a<=L.length->(∀j (z:j<L.length),j<a->L[j]<f.name.toList)->(∀j (z:j<L.length),a<=j->f.name.toList<=L[j])->
      ((0<=(a:Int)/\(a:Int)<=(l.c:Int))/\ba ak N5 (Oa #[dU,dU] dU #[(.slice none 0 0),(.slice (cA l.a l.c 0 1) ((a:Int).toNat - 0) (l.c - 0))]) H1 λ(U:Sl) V=>ld ak V (OR ⟨d,0,none⟩ 0) λ(P:Sl)=>ae P.a λW=>(0<=(k:Int)/\(k:Int)<(P.n:Int))/\ld aK V ((W.add ((k:Int).toNat*3)).add 0) λ(X:ByteArray)=>aI V #[(.string X)] dI λY H8=>ba ak N5 (Oa #[dU,dU] dU #[U.v,(.slice (some Y) 1 1)]) H8 λ(Z:Sl) H9=>(0<=(a:Int)/\(a:Int)<=(l.n:Int))/\ba ak N5 (Oa #[dU,dU] dU #[Z.v,(.slice (cA l.a l.c (a:Int).toNat 1) (l.n - (a:Int).toNat) (l.c - (a:Int).toNat))]) H9 λ(af:Sl) an=>next (af,N6.wrap ((k:Int)+(1:Int))) an):=by
     intro a ha h1 I;refine⟨⟨by omega,by omega⟩,?_⟩;have t1:bP EN H1 (cA l.a l.c 0 1) (L.take a):=by rw[pX];exact v.rd.take
     refine az.append (E:=EN) wG (s:=Sl.mk none 0 0) (x:=⟨cA l.a l.c 0 1,(a:Int).toNat - 0,l.c - 0⟩) (l:=[]) (az.nil _ _ _) t1 (by simp;omega) (by simp;omega) (by simp;omega) λl2 Q o2 g2 _=>?_;have f2:∀b,ag l2 b->H1.size<=b:=λb n=>(g2.2 b n).resolve_left (by rintro⟨ad,q,_⟩;cases q);have m2:Mod (λ_=>False) H1 Q:=g2.1.mono λb _ n=>by obtain⟨ad,q,_⟩:=n;cases q
     refine(d1.ext m2).ld (c:=ak) (i:=0) (x:=fl) rfl ?_;have F2:aJ Q fl gs s.files:=T.keep λb n hl=>m2.same b hl id;refine F2.ld1 S hg (j:=0) (c:=aK) (y:=f.name) rfl ?_;refine az.push (E:=EN) wG (x:=f.name.toList) o2 (by unfold cD at hx;simp[EN,hx]) (by simp;omega) (by simp;omega) λl3 H3 o3 g3 _=>?_;have z2:=m2.size;have z3:=g3.1.size;have f3:∀b,ag l3 b->H1.size<=b:=λb n=>by
      rcases g3.2 b n with q|q
      ·exact f2 b q
      ·omega
     have m13:Mod (λ_=>False) H1 H3:=⟨by omega,λb n _=>(g3.1.same b (by omega) λhh=>by have:=f2 b hh;omega).trans (m2.same b n id)⟩;refine⟨⟨by omega,by omega⟩,?_⟩;have a1:az EN dI H3 l L:=v.ext m13;have t3:bP EN H3 (cA l.a l.c a 1) (L.drop a):=bP.drop a1.rd (by omega);simp only[Od];refine az.append (E:=EN) wG (s:=l3) (x:=⟨cA l.a l.c a 1,l.n - a,l.c - a⟩) o3 t3 (by simp;omega) (by simp;omega) (by simp;omega) λl4 H4 o4 g4 _=>?_;have z4:=g4.1.size;have z1:=m1.size;refine p w _ _ ⟨aD k (by omega),⟨by omega,λb n _=>(g4.1.same b (by omega) λhh=>by have:=f3 b hh;omega).trans ((m13.same b (by omega) id).trans (m1.same b n id))⟩,?_,(λh=>by rw[hd] at h;cases h),_,o4,?_,?_⟩
     ·intro b n;rcases g4.2 b n with q|q
      ·have:=f3 b q;omega
      ·omega
     ·simp only[Qd];exact tY hs ha h1 I
     ·simp only[Qd];rw[Oc w,<-N,OO,Ox,QR];refine List.Perm.trans ?_ (G.append_right _);have e:=Qq a L
      conv=>rhs;rw[<-e]
      rw[O3,O3];exact List.Perm.append_left _ (List.perm_append_comm)
    refine ar L.length (λa x Q=>x=(a:Int)/\Q=H1/\∀j (z:j<L.length),j<a->L[j]<f.name.toList) ⟨rfl,rfl,λj _ h=>by omega⟩ ?_;rintro a _ Q a6 ha ⟨rfl,rfl,B⟩ u;refine ah (λt=>?_) (λt=>?_)
    ·have C:a<L.length:=by rw[O] at t;simpa using t
     refine rf v C ?_;refine d1.ld (c:=ak) (i:=0) (x:=fl) rfl ?_;refine T.ld1 S hg (j:=0) (c:=aK) (y:=f.name) rfl ?_;rw[pQ,bytesLess_eq];refine ah (λn=>?_) (λn=>?_)
     ·have D:L[a]<f.name.toList:=by simpa using n
      refine u C _ _ ⟨aD a (by omega),rfl,λj z bl=>?_⟩;rcases OV j a with q|q
      ·exact B j z q
      ·have:j=a:=by omega
       subst this;exact D
     ·have D:¬L[a]<f.name.toList:=by simpa using n
      refine ins a (by omega) B λj z a7=>?_;refine UL (List.not_lt.1 D) ?_;rcases OV a j with q|q
      ·exact(Qk.1 hs) a j C z q
      ·have:a=j:=by omega
       subst this;exact List.le_refl _
    ·have R:a=L.length:=by rw[O] at t;simp at t;omega
     exact ins a (by omega) B λj z a7=>by omega
 ·have R:k=s.files.length:=by rw[hn] at M;simp at M;omega
  rw[R,Og (Ob _)] at G;cases hd:s.down with
  |true=>exact r hd
  |false=>exact fin L l H1 hd v hs G m1 f1
end Go.Proofs.YtmkbhnholcaghaaGreatDoor
namespace Go.Proofs.YtmkbhnholcaghaaGreatDoor
theorem LD (a:BitVec 32):lJ .u32 (a.toNat:Int) 1=((a.toNat%2:Nat):Int):=by
 unfold lJ;show PN.wrap ((BitVec.ofInt 32 (a.toNat:Int)&&&1#32).toNat:Int)=_;have h1:(1#32).toNat=2^1 - 1:=by decide
 rw[q9,BitVec.toNat_and,h1,Nat.and_two_pow_sub_one_eq_mod];exact wrap32 (by omega)
theorem Bl (a:BitVec 32):a.getLsbD 0=decide (a.toNat%2=1):=by
 rw[BitVec.getLsbD];simp[Nat.testBit_zero]
def bits (r:BitVec 32):Nat->BitVec 32
 |0=>r
 |n+1=>kW (bits r n)
theorem LP (r:BitVec 32):bits r 8=lq (lq r):=rfl
theorem Mq (a:BitVec 32):dG .u32 (a.toNat:Int) 1=((a>>>1).toNat:Int):=by
 rw[show (1:Int)=((1:Nat):Int) from rfl,sE a 1 (by decide),BitVec.toNat_ushiftRight,Nat.shiftRight_eq_div_pow]
theorem Hg {s:Sl}{l:List UInt8}{H:aa}{K:Int->aa->Prop}(n:bL H s l)(hl:l.length<4611686018427387904)(p:K ((fR l).toNat:Int) H):Jc.sp s H K:=by
 refine Jc.of ?_;unfold Jc.vc;have o:=n.n;refine ar l.length (λk x H1=>H1=H/\x=(((pO (l.take k)).toNat:Int),(k:Int))) ⟨rfl,rfl⟩ ?_;rintro k _ H1 next hk ⟨rfl,rfl⟩ c
 refine ah (λg=>?_) (λg=>?_)
 ·have d:k<l.length:=by rw[o] at g;simpa using g
  refine dY n d rfl λad y=>?_;have t:(l[k]).toNat<256:=(l[k]).toNat_lt;have u:iP .u32 ((pO (l.take k)).toNat:Int) (PN.wrap (((l[k]).toNat:Nat):Int))=((pO (l.take k)^^^Sm 32 (l[k]).toNat).toNat:Int):=by
   rw[wrap32 (by omega),<-toNat_ofNat32 l[k],pL,toNat_ofNat32]
  simp only[u];generalize v:pO (l.take k)^^^Sm 32 (l[k]).toNat=r;refine ar 8 (λj x w=>w=H1/\x=(((bits r j).toNat:Int),(j:Int))) ⟨rfl,rfl⟩ ?_;rintro j _ _ i z ⟨rfl,rfl⟩ a;refine ah (λf=>?_) (λf=>?_)
  ·have b:j<8:=by simp at f;omega
   rw[LD,Mq];have h:bits r (j+1)=kW (bits r j):=rfl;generalize A:bits r j=q at*;refine ah (λh1=>?_) (λh1=>?_)
   ·have hm:q.toNat%2=1:=by simp at h1;omega
    refine a b _ _ ⟨rfl,?_⟩;rw[aD j (by omega),show (3988292384:Int)=(Ih.toNat:Int) from rfl,pL,h];unfold kW;rw[Bl,hm];rfl
   ·have hm:q.toNat%2=0:=by simp at h1;omega
    refine a b _ _ ⟨rfl,?_⟩;rw[aD j (by omega),h];unfold kW;rw[Bl,hm];simp
  ·have b:j=8:=by simp at f;omega
   subst b;refine c d _ _ ⟨rfl,?_⟩;rw[aD k (by omega),Oc d,vj,LP];unfold FL;rw[v]
 ·have m:k=l.length:=by rw[o] at g;simp at g;omega
  rw[m,Og (Ob _)];have e:iP .u32 ((pO l).toNat:Int) (4294967295:Int)=((fR l).toNat:Int):=by
   rw[show (4294967295:Int)=((BitVec.allOnes 32).toNat:Int) from rfl,pL,BitVec.xor_comm];congr 2
  rw[e];exact p
theorem IW:∀inf z,N5.info? fx=some inf->inf.zero=some z->z.cells.toList=EB.enc 0:=by
 intro inf z h1 a;have h:((N5.info? fx).bind λi=>i.zero)=some (.int .u8 0):=by kernel_rfl
 rw[h1,Option.bind_some,a] at h;cases h;rfl
theorem C6:N5.underlying ib=some (.int .i64):=by kernel_rfl
theorem sv {kind:UInt8}{s:Sl}{l:List UInt8}{H:aa}{K:Sl×Int->aa->Prop}(a:bL H s l)(hlen:l.length<=504)
  (I:∀s' H',az EB fx H' s' (cI kind l)->Ext H H'->(∀b,ag s' b->H.size<=b)->K (s',0) H'):Er.sp (kind.toNat:Int) s H K:=by
 refine Er.of ?_;unfold Er.vc;have p:=a.n;refine aC (by simp;omega) ?_;have v4:O5.wrap (Pq (s.n:Int) 256)=((OQ l.length).toNat:Int):=by
  have:Pq (s.n:Int) 256=((l.length%256:Nat):Int):=by rw[p];rfl
  rw[this,oF];congr 1;rw[Q0,Q0];omega
 have v5:O5.wrap (N6.wrap (Int.tdiv (s.n:Int) 256))=((OQ (l.length/256)).toNat:Int):=by
  have:Int.tdiv (s.n:Int) 256=((l.length/256:Nat):Int):=by rw[p];rfl
  rw[this,wrap64 (by omega) (by omega),oF]
 rw[v4,v5];refine ax λH1 s1 J r=>?_;have L:bL H1 s l:=a.keep λad _ hl=>r.same _ hl id;have M:az EB fx H1 (Sl.mk (some ⟨H.size,0,none⟩) 4 4) [OQ l.length,OQ (l.length/256),kind,157]:=
  ⟨rfl,.inr ⟨H.size,4,_,rfl,Oz _,J,Ob _,by unfold maxLen;omega,rfl,rfl⟩⟩
 refine az.append (E:=EB) jo (s:=Sl.mk (some ⟨H.size,0,none⟩) 4 4) (x:=s) M (by rw[bP,iH];exact L.cells) p (by simp;omega) (by simp;omega) λrest R D g2 _=>?_;have t:=D.n (by decide);have F:rest.n=4+l.length:=by simp at t;omega
 have hw:N6.wrap ((508:Int) - (rest.n:Int))=((504 - l.length:Nat):Int):=by rw[wrap64 (by omega) (by omega)];omega
 rw[hw];refine az.HE (E:=EB) (x0:=0) jo C6 IW D (by decide) (by simp;omega) λc u v g3=>?_;have f:[OQ l.length,OQ (l.length/256),kind,157]++l++List.replicate (504 - l.length) 0=cV kind l:=rfl;rw[f] at v;have h:=jV (kind:=kind) hlen;have S:=r.size;have z2:=g2.1.size;have z3:=g3.1.size;have f2:∀b,ag rest b->H.size<=b:=λb a=>by
  rcases g2.2 b a with ⟨ad,w,y⟩|q
  ·cases w;have:H.size=b:=y;omega
  ·omega
 have f3:∀b,ag c b->H.size<=b:=λb a=>by
  rcases g3.2 b a with q|q
  ·exact f2 b q
  ·omega
 have z:Ext H u:=⟨by omega,λb a _=>(g3.1.same b (by omega) λj=>by have:=f2 b j;omega).trans ((g2.1.same b (by omega) (by rintro⟨ad,w,y⟩;cases w;have:H.size=b:=y;omega)).trans (r.same b a id))⟩;refine Hg (bV v) (by omega) ?_;refine ar 4 (λk x o=>x.2=(k:Int)/\az EB fx o x.1 ((pw (fR (cV kind l))).take k)/\Mod (λ_=>False) u o/\∀b,ag x.1 b->u.size<=b) ⟨rfl,az.nil _ _ _,.refl _ _,by rintro b ⟨ad,q,_⟩;cases q⟩ ?_;rintro k ⟨out,i⟩ o next hk ⟨hi,A,m5,f5⟩ d
 simp only at hi;subst hi;simp only at A f5 d ⊢;have z5:=m5.size;have T:(pw (fR (cV kind l))).length=4:=rfl;refine ah (λB=>?_) (λB=>?_)
 ·have g:k<4:=by simp at B;omega
  have C:N6.wrap ((8:Int)*(k:Int))=((8*k:Nat):Int):=by rw[wrap64 (by omega) (by omega)];omega
  rw[C];refine⟨by omega,?_⟩;have N:(pw (fR (cV kind l)))[k]?=some (OQ ((fR (cV kind l)).toNat/2^(8*k))):=by
   have:k=0\/k=1\/k=2\/k=3:=by omega
   rcases this with rfl|rfl|rfl|rfl<;>simp[pw]
  rw[sE _ (8*k) (by omega),oF];refine az.push (E:=EB) jo (x:=OQ ((fR (cV kind l)).toNat/2^(8*k))) A rfl (by simp;omega) (by simp;omega) λG U O g7 _=>?_;have V:=g7.1.size;refine d g _ _ ⟨aD k (by omega),?_,⟨by omega,λb a _=>(g7.1.same b (by omega) λj=>by have:=f5 b j;omega).trans (m5.same b a id)⟩,λb a=>?_⟩
  ·have e:(pw (fR (cV kind l))).take (k+1)=(pw (fR (cV kind l))).take k++[OQ ((fR (cV kind l)).toNat/2^(8*k))]:=by
    rw[UQ,N];rfl
   rw[e];exact O
  ·rcases g7.2 b a with q|q
   ·exact f5 b q
   ·omega
 ·have g:k=4:=by simp at B;omega
  subst g;have m:az EB fx o c (cV kind l):=v.ext m5;refine az.append (E:=EB) jo (s:=out) (x:=c) A m.rd (m.n (by decide)) (by simp[h];omega) (by simp[h];omega) λn P Q g8 _=>?_;have W:=g8.1.size;refine I n P Q ⟨by omega,λb a _=>(g8.1.same b (by omega) λj=>by have:=f5 b j;omega).trans ((m5.same b (by omega) id).trans (z.same b a id))⟩ λb a=>?_;rcases g8.2 b a with q|q
  ·have:=f5 b q;omega
  ·omega
theorem FY {s:Sl}{l:List UInt8}{H:aa}{K:(Int×Sl×Int)->aa->Prop}(a:bL H s l)(f:s.n<=s.c)(c:l.length=512)
  (u:iE l=none->∀H',Ext H H'->K (0,Sl.mk none 0 0,20) H')
  (A:∀k b s' H',iE l=some (k,b)->b.length<=504->az EB fx H' s' b->Ext H H'->(∀b,ag s' b->H.size<=b)->K ((k.toNat:Int),s',0) H'):Gx.sp s H K:=by
 refine Gx.of ?_;unfold Gx.vc;have J:=a.n;refine aC (by simp;omega) ?_;refine dY a (i:=4) (by omega) rfl λB C=>?_;refine dY a (i:=5) (by omega) rfl λD F=>?_;have L:(l[4]).toNat<256:=(l[4]).toNat_lt;have M:(l[5]).toNat<256:=(l[5]).toNat_lt;have hs:bK l=(l[4]).toNat+256*(l[5]).toNat:=by
  unfold bK;simp[Pn,c]
 have hw:N6.wrap ((N6.wrap ((l[4]).toNat:Int))+(N6.wrap ((256:Int)*(N6.wrap ((l[5]).toNat:Int)))))=(bK l:Int):=by
  rw[wrap64 (x:=((l[4]).toNat:Int)) (by omega) (by omega),wrap64 (x:=((l[5]).toNat:Int)) (by omega) (by omega),wrap64 (x:=(256:Int)*((l[5]).toNat:Int)) (by omega) (by omega),wrap64 (by omega) (by omega)];omega
 rw[hw];refine ah (λj=>?_) (λj=>?_)
 ·have G:504<bK l:=by simp at j;omega
  exact u (by unfold iE;rw[if_neg (by omega)]) H (.refl _ _)
 have hle:bK l<=504:=by simp at j;omega
 have m:N6.wrap ((8:Int)+(bK l:Int))=((8+bK l:Nat):Int):=by rw[wrap64 (by omega) (by omega)];omega
 rw[m];refine⟨⟨by omega,by omega⟩,⟨by omega,by omega⟩,?_⟩;have hd:=(a.drop f 8).take (bK l) (by simp only;omega) (s.c - 8);have ex:(((8+bK l:Nat):Int).toNat - (8:Int).toNat)=bK l:=by omega
 rw[ex];have d:((l.drop 8).take (bK l)).length=bK l:=by simp;omega
 refine az.append (E:=EB) jo (s:=Sl.mk none 0 0) (x:=Sl.mk (cA s.a s.c 8 1) (bK l) (s.c - 8)) (l:=[]) (az.nil _ _ _) (by rw[bP,iH];exact hd.cells) (by rw[d]) (by simp;omega) (by simp;omega) λs1 H1 n g1 _=>?_;simp only[Qd] at n;have h:Ext H H1:=g1.1.mono λb _ a=>by obtain⟨ad,q,_⟩:=a;cases q
 have f1:∀b,ag s1 b->H.size<=b:=λb a=>(g1.2 b a).resolve_left (by rintro⟨ad,q,_⟩;cases q);have v:bL H1 s l:=a.keep λad _ hl=>h.same _ hl id;refine dY v (i:=6) (by omega) rfl λo p=>?_;refine sv (bV n) (by rw[d];exact hle) λw r I e2 f2=>?_;have y:bL r s l:=v.keep λad _ hl=>e2.same _ hl id;have N:=h.size;have z2:=e2.size;have z:l.getD 6 0=l[6]:=by simp[Pn,c]
 refine kF (bV I) ?_;refine kF y ?_;have g:((cD (cI l[6] ((l.drop 8).take (bK l)))).toList==(cD l).toList)=decide (cI l[6] ((l.drop 8).take (bK l))=l):=by
  rw[pQ,pQ,Bool.eq_iff_iff,beq_iff_eq,decide_eq_true_iff]
 rw[g];refine ah (λt=>?_) (λt=>?_)
 ·have e:¬cI l[6] ((l.drop 8).take (bK l))=l:=by simpa using t
  exact u (by unfold iE;rw[z,if_neg (by rintro⟨_,q⟩;exact e q)]) r (h.trans e2)
 ·have e:cI l[6] ((l.drop 8).take (bK l))=l:=by simpa using t
  refine dY y (i:=6) (by omega) rfl λo p=>?_;exact A l[6] _ s1 r (by unfold iE;rw[z,if_pos ⟨hle,e⟩]) (by rw[d];exact hle) (n.ext e2) (h.trans e2) f1
def oX (i:Option Nat):Int:=match i with|some i=>(i:Int)|none=>-1
theorem lh (i:Option Nat):decide (oX i<0)=i.isNone:=by
 cases i with
 |none=>rfl
 |some i=>exact decide_eq_false (by simp only[oX];omega)
theorem ye (i:Option Nat):decide (oX i>=0)=i.isSome:=by
 cases i with
 |none=>rfl
 |some i=>exact decide_eq_true (by simp only[oX];omega)
theorem gu {b:Nat}:¬ag (Sl.mk none 0 0) b:=by rintro⟨ad,q,_⟩;cases q
theorem wc {H:aa}{sl:Sl}{l:List Int}(h:az EI ib H sl l){j:Nat}(d:j<l.length){K:Int->Prop}(e:K l[j]):ae sl.a λa=>(0<=(j:Int)/\(j:Int)<(sl.n:Int))/\ld (ab .i64) H (a.add ((j:Int).toNat*1)) K:=by
 obtain⟨ad,b⟩:=bP.addr h.rd (by decide) (by omega);have f:=h.n (by decide);rw[b];refine⟨⟨by omega,by omega⟩,?_⟩;simp only[Od];exact az.one (c:=ab .i64) h (N8 d) rfl rfl b e
section
variable {ll:Sl}{zs:List RZ}{D:Nat->Prop}{H:aa}{p dp:Nat}{s:Pl}
theorem uk {n:ByteArray}{g:Int}{K:Int->aa->Prop}(h:bw ll zs H p dp s)(t:K (oX (s.find n g)) H):Ho.sp (aE p) n g H K:=by
 refine Ho.of ?_;unfold Ho.vc;simp only[al];have w:=h.n;have hlen:=h.wf.len;have u:=h.wf.most;refine ar s.fs.length (λk x H1=>x=(k:Int)/\H1=H/\∀j (m:j<s.fs.length),j<k->(s.fs[j].name.toList==n.toList&&decide ((s.fs[j].page:Int)=g))=false) ⟨rfl,rfl,λj _ h=>by omega⟩ ?_;rintro k _ H1 next hk ⟨rfl,rfl,b⟩ d
 refine h.head.ld (c:=ak) (i:=2) (x:=ll) rfl ?_;refine ah (λr=>?_) (λr=>?_)
 ·have e:k<s.fs.length:=by rw[w] at r;simpa using r
  obtain⟨C,z⟩:=h.at (N8 e);have a:(s.fs[k].name.toList==n.toList&&decide ((s.fs[k].page:Int)=g))=false->next (N6.wrap ((k:Int)+(1:Int))) H1:=λo=>by
   refine d e _ _ ⟨aD k (by omega),rfl,λj m A=>?_⟩;rcases OV j k with q|q
   ·exact b j m q
   ·have:j=k:=by omega
    subst this;exact o
  refine h.head.ld (c:=ak) (i:=2) (x:=ll) rfl ?_;refine h.frames.ld z (j:=0) (c:=aK) (y:=s.fs[k].name) rfl ?_;refine ah (λo=>?_) (λo=>a (by rw[o];rfl));refine h.head.ld (c:=ak) (i:=2) (x:=ll) rfl ?_;refine h.frames.ld z (j:=1) (c:=ab .i64) (y:=(s.fs[k].page:Int)) rfl ?_;refine ah (λl=>?_) (λl=>a (by rw[o];simpa using l));have:s.find n g=some k:=by
   unfold Pl.find;rw[P3];exact⟨e,by rw[o];simpa using l,λj m=>by simpa using b j (by omega) m⟩
  rw[this] at t;exact t
 ·have B:k=s.fs.length:=by rw[w] at r;simp at r;omega
  have:s.find n g=none:=by
   unfold Pl.find;rw[Qj];intro f v;obtain⟨j,m,rfl⟩:=PQ v;exact b j m (by omega)
  rw[this] at t;exact t
theorem pY {c:Int}{K:Int->aa->Prop}(h:bw ll zs H p dp s)(P:s.next<9223372036854775807)(z:K (oX (s.held c)) H):GL.sp (aE p) c H K:=by
 refine GL.of ?_;unfold GL.vc;simp only[al];have M:=h.n;have hlen:=h.wf.len;have A:=h.wf.most;have B:=h.wf.tick;refine ar s.fs.length (λk x H1=>x=(k:Int)/\H1=H/\∀j (t:j<s.fs.length),j<k->s.fs[j].pins.contains c=false) ⟨rfl,rfl,λj _ h=>by omega⟩ ?_;rintro k _ H1 next hk ⟨rfl,rfl,g⟩ l
 refine h.head.ld (c:=ak) (i:=2) (x:=ll) rfl ?_;refine ah (λu=>?_) (λu=>?_)
 ·have m:k<s.fs.length:=by rw[M] at u;simpa using u
  have v:s.fs[k]?=some s.fs[k]:=N8 m;obtain⟨N,C⟩:=h.at v;have E:=h.frames.ent _ (N9 C);have Q:s.fs[k].pins.length<=s.pins:=kX (λf:Fr=>f.pins.length) s.fs k _ v;have n:=E.n (by decide);simp only at E n;refine ar s.fs[k].pins.length (λj x O=>x=(j:Int)/\O=H1/\∀q (o:q<s.fs[k].pins.length),q<j->s.fs[k].pins[q]≠c) ⟨rfl,rfl,λj _ h=>by omega⟩ ?_;rintro j _ O F t ⟨rfl,rfl,d⟩ b;refine h.head.ld (c:=ak) (i:=2) (x:=ll) rfl ?_;refine h.frames.ld C (j:=5) (c:=ak) (y:=N) rfl ?_;have hw:N6.wrap ((j:Int)+1)=((j+1:Nat):Int):=by rw[wrap64 (by omega) (by omega)];omega
  refine ah (λa=>?_) (λa=>?_)
  ·have w:j<s.fs[k].pins.length:=by rw[n] at a;simpa using a
   refine h.head.ld (c:=ak) (i:=2) (x:=ll) rfl ?_;refine h.frames.ld C (j:=5) (c:=ak) (y:=N) rfl ?_;refine wc E w ?_;refine ah (λo=>?_) (λo=>?_)
   ·have G:s.fs[k].pins[j]=c:=by simpa using o
    have:s.held c=some k:=by
     unfold Pl.held;rw[P3];exact⟨m,by rw[RO,<-G];exact List.getElem_mem _,λj t=>by simpa using g j (by omega) t⟩
    rw[this] at z;exact z
   ·refine b w _ _ ⟨hw,rfl,λq I R=>?_⟩;rcases OV q j with r|r
    ·exact d q I r
    ·have:q=j:=by omega
     subst this;simpa using o
  ·have J:j=s.fs[k].pins.length:=by rw[n] at a;simp at a;omega
   refine l m _ _ ⟨aD k (by omega),rfl,λq o S=>?_⟩;rcases OV q k with r|r
   ·exact g q o r
   ·have:q=k:=by omega
    subst this;rw[VR];intro hm;rw[RO] at hm;obtain⟨i,hi,e⟩:=PQ hm;exact d i hi (by omega) e
 ·have J:k=s.fs.length:=by rw[M] at u;simp at u;omega
  have:s.held c=none:=by
   unfold Pl.held;rw[Qj];intro f L;obtain⟨j,t,rfl⟩:=PQ L;exact g j t (by omega)
  rw[this] at z;exact z
theorem om {e:Int}{K:Int->aa->Prop}(h:bp ll zs D H p dp s)
  (c:∀H',bp ll zs D H' p dp (s.met e)->Step (λb=>D b\/fD ll zs p b) (λb=>D b\/fD ll zs p b) H H'->K e H'):nq.sp (aE p) e H K:=by
 refine nq.of ?_;unfold nq.vc;simp only[al];have hw:=h.pool.wf.met e;refine ah (λa=>?_) (λa=>?_)
 ·have em:s.met e={s with wrong:=e}:=by unfold Pl.met bad;rw[if_pos a]
  refine h.pool.head.st (i:=6) (by decide:6<7) (by rfl) λH' r m z=>?_;have d:bw ll zs H' p dp (s.met e):=h.pool.sb (by rw[em];exact r) m (by rw[em]) hw;obtain⟨f,g⟩:=h.iV d (by rw[em]) (m.mono λb _ q=>.inl q) (λb q=>.inl q);exact c H' f g
 ·have em:s.met e=s:=by unfold Pl.met bad;rw[a];rfl
  exact c H (by rw[em];exact h) (.refl _ _)
theorem pb.erase {H':aa}{d:Sl}{i:Nat}(h:pb H ll zs)(e:az mv tN H' d (zs.eraseIdx i))(hm:∀u∈zs,∀b,ag u.2 b->b<H.size->H'[b]?=H[b]?):pb H' d (zs.eraseIdx i):=by
 refine⟨e,λz j=>?_,?_⟩
 ·have f:=Pz j;exact(h.ent z f).keep λb k hl=>hm z f b k hl
 ·intro a c u v h1 g l;rw[List.getElem?_eraseIdx] at h1 g;split at h1<;>split at g<;>exact h.apart _ _ u v h1 g (by omega)
theorem pb.push {H':aa}{a:Sl}{f:Fr}(h:pb H ll zs)(k:f.pins=[])(c:az mv tN H' a (zs++[(f,Sl.mk none 0 0)]))(hm:∀u∈zs,∀b,ag u.2 b->b<H.size->H'[b]?=H[b]?):pb H' a (zs++[(f,Sl.mk none 0 0)]):=by
 refine⟨c,λz l=>?_,?_⟩
 ·rcases Oe.1 l with q|q
  ·exact(h.ent z q).keep λb m hl=>hm z q b m hl
  ·simp at q;subst q;simp only[k];exact az.nil _ _ _
 ·intro i j u v h1 n g b d e;have ex:∀(i:Nat) (u:RZ),(zs++[(f,Sl.mk none 0 0)])[i]?=some u->(zs[i]?=some u)\/(i=zs.length/\u=(f,Sl.mk none 0 0)):=by
   intro i u h1;by_cases hi:i<zs.length
   ·rw[OB hi] at h1;exact .inl h1
   ·rw[O9 (by omega)] at h1;have:i=zs.length:=by
     have:=(N7.1 h1).1;simp at this;omega
    subst this;simp at h1;exact .inr ⟨rfl,h1.symm⟩
  rcases ex i u h1 with o|⟨t,rfl⟩<;>rcases ex j v n with r|⟨e2,rfl⟩
  ·exact h.apart i j u v o r g b d e
  ·exact gu e
  ·exact gu d
  ·omega
theorem BW (i:Nat):CM (zs.eraseIdx i)=(CM zs).eraseIdx i:=mc _ _ _
theorem vp {i:Nat}{K:Unit->aa->Prop}(h:bp ll zs D H p dp s)(hi:i<s.fs.length)
  (v:∀d H',bp d (zs.eraseIdx i) D H' p dp (s.drop i)->Step (λb=>D b\/fD ll zs p b) (λb=>D b\/fD d (zs.eraseIdx i) p b) H H'->K () H'):IX.sp (aE p) i H K:=by
 refine IX.of ?_;unfold IX.vc;simp only[al];have hlen:=h.pool.wf.len;have f:=h.pool.wf.most;have J:=h.pool.n;have w:=h.pool.len;have n:=h.pool.frames.arr.cap;refine h.pool.head.ld (c:=ak) (i:=2) (x:=ll) rfl ?_;refine⟨⟨by omega,by omega⟩,?_⟩;have t1:bP mv H (cA ll.a ll.c 0 7) (zs.take i):=by rw[pX];exact h.pool.frames.arr.rd.take
 refine az.append (E:=mv) IA (s:=Sl.mk none 0 0) (x:=⟨cA ll.a ll.c 0 7,(i:Int).toNat - 0,ll.c - 0⟩) (l:=[]) (az.nil _ _ _) t1 (by simp;omega) (by simp;omega) (by simp;omega) λo H1 y g1 _=>?_;have f1:∀b,ag o b->H.size<=b:=λb a=>(g1.2 b a).resolve_left gu;have m1:Ext H H1:=g1.1.mono λb _ a=>gu a;have h1:=h.ext m1;refine h1.pool.head.ld (c:=ak) (i:=2) (x:=ll) rfl ?_;have hw:N6.wrap ((i:Int)+1)=((i+1:Nat):Int):=aD i (by omega);simp only[hw];refine⟨⟨by omega,by omega⟩,?_⟩;have t2:bP mv H1 (cA ll.a ll.c (i+1) 7) (zs.drop (i+1)):=bP.drop h1.pool.frames.arr.rd (by omega);simp only[Od];refine az.append (E:=mv) IA (s:=o) (x:=⟨cA ll.a ll.c (i+1) 7,ll.n - (i+1),ll.c - (i+1)⟩) y t2 (by simp;omega) (by simp;omega) (by simp;omega) λg z r g2 _=>?_;have L:=m1.size;have z2:=g2.1.size;have f2:∀b,ag g b->H.size<=b:=λb a=>by
  rcases g2.2 b a with q|q
  ·exact f1 b q
  ·omega
 have m2:Ext H z:=⟨by omega,λb a _=>(g2.1.same b (by omega) λA=>by have:=f1 b A;omega).trans (m1.same b a id)⟩;have t:=h.ext m2;refine t.pool.head.st (i:=2) (by decide:2<7) (by rfl) λj B m3 M=>?_;have C:=aA h.pool.head;have off:=bw.off h.pool.head h.pool.frames;have k:bw g (zs.eraseIdx i) j p dp (s.drop i):=by
  refine⟨B,?_,?_,h.pool.wf.drop i⟩
  ·refine t.pool.frames.erase ?_ (λu hu b a hl=>m3.same b hl λe=>off (e▸.inr ⟨u,hu,a⟩));rw[List.eraseIdx_eq_take_drop_succ];simp only[Qd] at r;exact r.keep λb a hl=>m3.same b hl λe=>by have:=f2 b a;omega
  ·show s.fs.eraseIdx i=_;rw[BW,h.pool.fs]
 have F:Mod (fD ll zs p) H j:=⟨by omega,λb a m=>(m3.same b (by omega) λe=>m (.inl e)).trans (m2.same b a id)⟩;obtain⟨G,I⟩:=h.iV k rfl F (by
  rintro b (q|⟨u,hu,q⟩)
  ·exact .inr (f2 b q)
  ·exact .inl (.inr ⟨u,Pz hu,q⟩))
 exact v g j G I
theorem ku (h:az mv tN H ll zs){i j:Nat}{z z':RZ}{v:Value}(b:zs[i]?=some z)(d:j<7)(e:jl v=true)(f:mv.enc z'=(mv.enc z).set j v){K:aa->Prop}
  (g:∀H',az mv tN H' ll (zs.set i z')->Mod (ag ll) H H'->H'.size=H.size->K H'):
  ae ll.a λa=>(0<=(i:Int)/\(i:Int)<(ll.n:Int))/\Go.Proofs.YtmkbhnholcaghaaGreatDoor.st H ((a.add ((i:Int).toNat*7)).add j) v K:=by
 have hi:=(N7.1 b).1;obtain⟨ad,c⟩:=bP.addr h.rd (by decide) (by omega);rw[c];refine⟨⟨by omega,by rw[h.n (by decide)];omega⟩,?_⟩;exact az.st (E:=mv) h c b d e f (by simp[mv]) g
theorem vD (h:az mv tN H ll zs){i j:Nat}{z:RZ}(b:zs[i]?=some z){c:eO}{y:c.α}(d:(mv.enc z)[j]?=some (c.enc y)){ad:Addr}(e:ll.a=some ad):cK H ((ad.add ((i:Int).toNat*7)).add j)=some (c.enc y):=by
 obtain⟨f,a,g⟩:=bP.cell h.rd b d;rw[e] at a;cases a;rw[add_add];exact g
theorem bp.yp {H':aa}{i:Nat}{f f':Fr}{g:Sl}{s':Pl}(h:bp ll zs D H p dp s)(j:zs[i]?=some (f,g))(c:az mv tN H' ll (zs.set i (f',g)))(hm:Mod (ag ll) H H')
  (a:f'.pins=f.pins) (hs:s'.fs=s.fs.modify i λ_=>f') (hw:s'.WF) (hd:s'.d=s.d) (l:dH dp ll s'=dH dp ll s):
  bp ll (zs.set i (f',g)) D H' p dp s'/\Step (λb=>D b\/fD ll zs p b) (λb=>D b\/fD ll (zs.set i (f',g)) p b) H H':=by
 have d:=N9 j;have k:s.fs[i]?=some f:=by rw[h.pool.fs];simp[CM,j]
 obtain⟨t1,t2⟩:=h.pool.frames.set j c (z':=(f',g)) (by
  have:=h.pool.frames.ent _ d;simp only at this ⊢;rw[a];exact this.keep λb e hl=>hm.same b hl (h.pool.frames.gr d b e)) (λu hu b e _ hl=>hm.same b hl (h.pool.frames.gr hu b e)) (λb e=>.inl e)
 have m:bw ll (zs.set i (f',g)) H' p dp s':=by
  refine⟨?_,t1,?_,hw⟩
  ·rw[l];exact hm.at h.pool.head λq=>bw.off h.pool.head h.pool.frames (.inl q)
  ·rw[hs,aZ k,h.pool.fs];simp[CM,Pv]
 exact h.iV m hd (hm.mono λb _ q=>.inr (.inl q)) t2
theorem tC {i:Nat}{f:Fr}{g:Sl}{K:Int->aa->Prop}(h:bp ll zs D H p dp s)(e:zs[i]?=some (f,g))(k:s.d.aB+1<68719476736)
  (n:∀o m H',bp ll o m H' p dp (s.put i).1->Step (λb=>D b\/fD ll zs p b) (λb=>m b\/fD ll o p b) H H'->K (s.put i).2 H'):HX.sp (aE p) i H K:=by
 refine HX.of ?_;unfold HX.vc;simp only[al];have L:=N9 e;have a:s.fs[i]?=some f:=by rw[h.pool.fs];simp[CM,e]
 have M:=(N7.1 a).1;have z:=Pl.fF a;have G:=h.pool.wf.room f (N9 a);have W:=h.pool.n;have N:=h.pool.len;obtain⟨ad,u⟩:=bP.addr h.pool.frames.arr.rd (by decide) (by omega);have B:=h.lt;refine⟨λA=>aj A p ry (dH dp ll s)/\az mv tN A ll zs,⟨h.pool.head,h.pool.frames.arr⟩,?_⟩;refine⟨ll,λA C=>by rw[bk];exact C.1.cell rfl,?_⟩;simp only[u,al];refine⟨⟨by omega,by omega⟩,?_⟩;refine⟨(f.kind.toNat:Int),λA C=>vD (c:=ab .u8) C.2 e (j:=2) (y:=(f.kind.toNat:Int)) rfl u,?_⟩;refine h.pool.head.ld (c:=ak) (i:=2) (x:=ll) rfl ?_;refine h.pool.frames.ld e (j:=3) (c:=aK) (y:=cD f.b) rfl ?_;refine AE λX H1 O E f1=>?_;have h1:=h.ext E;refine⟨⟨h1.pool.head,h1.pool.frames.arr⟩,?_⟩;refine sv O G λr Y P e2 f2=>?_;have l:=h1.ext e2;have Z:=E.size;have z2:=e2.size;refine l.pool.head.ld (c:=av) (i:=0) (x:=aE dp) rfl ?_;refine l.pool.head.ld (c:=ak) (i:=2) (x:=ll) rfl ?_;refine l.pool.frames.ld e (j:=0) (c:=aK) (y:=f.name) rfl ?_;refine l.pool.head.ld (c:=ak) (i:=2) (x:=ll) rfl ?_;refine l.pool.frames.ld e (j:=1) (c:=ab .i64) (y:=(f.page:Int)) rfl ?_;refine uC l.cv (bV P) (λad u Q=>?_) k λm I a3 R=>?_
 ·have:=f2 ad.block ⟨ad,u,rfl⟩;have:=B _ (.inl Q);omega
 have q:s.put i=if (s.d.write f.name f.page f.dV).2=0 then ((s.bE (s.d.write f.name f.page f.dV).1).dj i Fr.clean,0) else (s.bE (s.d.write f.name f.page f.dV).1,(s.d.write f.name f.page f.dV).2):=by
  unfold Pl.put;rw[z]
 rw[q] at n;obtain⟨w,S⟩:=l.jP a3 R;have t:Step (λb=>D b\/fD ll zs p b) (λb=>m b\/fD ll zs p b) H I:=S.ahead (E.trans e2);show br ((s.d.write f.name f.page f.dV).2==0) _ _;refine ah (λF=>?_) (λF=>?_)
 ·have d:(s.d.write f.name f.page f.dV).2=0:=by simpa using F
  rw[if_pos d] at n;refine w.pool.head.ld (c:=ak) (i:=2) (x:=ll) rfl ?_;refine ku w.pool.frames.arr e (j:=4) (z':=(f.clean,g)) (v:=.bool false) (by decide) rfl rfl λJ T m4 s4=>?_;obtain⟨U,V⟩:=w.yp (i:=i) (s':=(s.bE (s.d.write f.name f.page f.dV).1).dj i Fr.clean) e T m4 rfl (by
   show s.fs.modify i Fr.clean=s.fs.modify i λ_=>f.clean;rw[aZ a,aZ a]) ((h.pool.wf.bE _).dj a rfl rfl rfl G) rfl rfl
  have:=n _ m J U (t.trans V);show K (s.d.write f.name f.page f.dV).2 J;rw[d];exact this
 ·have d:(s.d.write f.name f.page f.dV).2≠0:=by simpa using F
  rw[if_neg d] at n;exact n zs m I w t
theorem rU (f:Fr):∀(l:List Fr) (i:Nat) (b:Option (Nat×Int)),fV (l++[f]) i b=if f.pins.isEmpty&&l8 f (fV l i b) then some (i+l.length,f.left) else fV l i b
 |[],i,b=>by simp[fV]
 |a::l,i,b=>by
   rw[List.cons_append];unfold fV;rw[rU f l (i+1)];simp only[List.length_cons,Nat.add_assoc,Nat.add_comm 1]
theorem uf {K:Int->aa->Prop}(h:bp ll zs D H p dp s)(r:s.d.aB+1<68719476736)
  (m:∀C o E H',bp C o E H' p dp s.room.1->Step (λb=>D b\/fD ll zs p b) (λb=>E b\/fD C o p b) H H'->K s.room.2 H'):GI.sp (aE p) H K:=by
 refine GI.of ?_;unfold GI.vc;simp only[al];have hn:=h.pool.n;have hlen:=h.pool.wf.len;have P:=h.pool.wf.most;refine h.pool.head.ld (c:=ak) (i:=2) (x:=ll) rfl ?_;refine h.pool.head.ld (c:=ab .i64) (i:=1) (x:=(s.most:Int)) rfl ?_;refine ah (λq=>?_) (λq=>?_)
 ·have l:s.fs.length<s.most:=by simp at q;omega
  have e:s.room=(s,0):=by unfold Pl.room;rw[if_pos l]
  rw[e] at m;exact m ll zs D H h (.refl _ _)
 have Q:¬s.fs.length<s.most:=by simp at q;omega
 refine ar s.fs.length (λk x H1=>H1=H/\x.1=oX ((fV (s.fs.take k) 0 none).map (·.1))/\x.2=(k:Int)) ⟨rfl,rfl,rfl⟩ ?_;rintro k ⟨bi,i⟩ H1 next hk ⟨rfl,F,hi⟩ a
 simp only at F hi a ⊢;subst F;subst hi;refine h.pool.head.ld (c:=ak) (i:=2) (x:=ll) rfl ?_;refine ah (λq=>?_) (λq=>?_)
 ·have l:k<s.fs.length:=by rw[hn] at q;simpa using q
  have R:s.fs[k]?=some s.fs[k]:=N8 l;obtain⟨gg,A⟩:=h.pool.at R;have d:fV (s.fs.take (k+1)) 0 none=if s.fs[k].pins.isEmpty&&l8 s.fs[k] (fV (s.fs.take k) 0 none) then some (k,s.fs[k].left) else fV (s.fs.take k) 0 none:=by
   rw[Oc l,rU];simp[Nat.min_eq_left (Nat.le_of_lt l)]
  have G:sx (s.fs.take k) (fV (s.fs.take k) 0 none):=by
   have:=ta (s.fs.take k) [] none (by intro f I;cases I);simpa using this
  have hw:=aD k (by omega);rw[hw];refine h.pool.head.ld (c:=ak) (i:=2) (x:=ll) rfl ?_;refine h.pool.frames.ld A (j:=5) (c:=ak) (y:=gg) rfl ?_;have J:=(h.pool.frames.ent _ (N9 A)).n (by decide);simp only at J;have S:(((gg.n:Int)==(0:Int))==true)=s.fs[k].pins.isEmpty:=by
   rw[J];cases s.fs[k].pins<;>simp;omega
  rw[S];cases L:s.fs[k].pins.isEmpty with
  |false=>
    rw[L,Bool.false_and,if_neg (by simp)] at d;exact aC rfl (a l _ _ ⟨rfl,by rw[d],rfl⟩)
  |true=>
    refine aP rfl ?_;rw[L,Bool.true_and] at d;rw[lh];cases B:fV (s.fs.take k) 0 none with
    |none=>
      rw[B] at d;refine aP rfl (a l _ _ ⟨rfl,?_,rfl⟩);rw[d];rfl
    |some jt=>
      obtain⟨j,t⟩:=jt;rw[B] at d G;obtain⟨fj,h1,O,h3,h4⟩:=G;have T:j<k:=by have:=(N7.1 h1).1;simp at this;omega
      have U:s.fs[j]?=some fj:=by rw[List.getElem?_take,if_pos T] at h1;exact h1
      obtain⟨gj,V⟩:=h.pool.at U;refine aC rfl ?_;refine h.pool.head.ld (c:=ak) (i:=2) (x:=ll) rfl ?_;refine h.pool.frames.ld A (j:=6) (c:=ab .i64) (y:=s.fs[k].left) rfl ?_;refine h.pool.head.ld (c:=ak) (i:=2) (x:=ll) rfl ?_;refine h.pool.frames.ld V (j:=6) (c:=ab .i64) (y:=fj.left) rfl ?_;rw[h3];refine ah (λu=>?_) (λu=>?_)
      ·have:l8 s.fs[k] (some (j,t))=true:=u;rw[this,if_pos rfl] at d;exact a l _ _ ⟨rfl,by rw[d];rfl,rfl⟩
      ·have:l8 s.fs[k] (some (j,t))=false:=u;rw[this,if_neg (by simp)] at d;exact a l _ _ ⟨rfl,by rw[d],rfl⟩
 ·have W:k=s.fs.length:=by rw[hn] at q;simp at q;omega
  rw[W,Og (Ob _)];have v:(fV s.fs 0 none).map (·.1)=s.jS:=rfl;rw[v];unfold Pl.room at m;rw[if_neg Q] at m;rw[lh];cases B:s.jS with
  |none=>
    rw[B] at m;exact m ll zs D _ h (.refl _ _)
  |some i=>
    rw[B] at m;simp only at m;refine aC rfl ?_;obtain⟨f,I,af,_⟩:=Pl.jA B;obtain⟨g,A⟩:=h.pool.at I;have X:=Pl.fF I;have M:=(N7.1 I).1;rw[X] at m;refine h.pool.head.ld (c:=ak) (i:=2) (x:=ll) rfl ?_;refine h.pool.frames.ld A (j:=4) (c:=ay) (y:=f.dirty) rfl ?_;cases N:f.dirty with
    |true=>
      rw[N,if_pos rfl] at m;refine aP rfl ?_;refine tC h A r λo E H' h' S'=>?_;refine ah (λu=>?_) (λu=>?_)
      ·have w:¬(s.put i).2=0:=by simpa using u
       rw[if_neg w] at m;exact m ll o E H' h' S'
      ·have w:(s.put i).2=0:=by simpa using u
       rw[if_pos w] at m;refine vp h' (by rw[Pl.wj];exact M) λz Y O Z=>?_;exact m z _ E Y O (S'.trans Z)
    |false=>
      rw[N,if_neg (by simp)] at m;refine aC rfl ?_;exact vp h M λz Y O Z=>m z _ D Y O Z
theorem uh {t:Pl}{i:Nat}{f:Fr}{g:Sl}{K:Int->aa->Prop}(hd:aj H p ry (dH dp ll t))(a:pb H ll zs)(m:zs[i]?=some (f,g))(N:zs.length<=4097)(O:f.pins.length<1099511627775)(P:0<=t.next)(Q:t.next<9223372036854775807)
  (R:∀g' H',aj H' p ry (dH dp ll {t with next:=fw (t.next+1)})->pb H' ll (zs.set i (Fr.bt t.next f,g'))->Mod (fD ll zs p) H H'->(∀b,Cy ll (zs.set i (Fr.bt t.next f,g')) b->Cy ll zs b\/H.size<=b)->K t.next H'):GG.sp (aE p) i H K:=by
 refine GG.of ?_;unfold GG.vc;simp only[al];have h:=N9 m;have S:=(N7.1 m).1;have V:=a.arr.n (by decide);have L:=a.ent _ h;simp only at L;obtain⟨ad,z⟩:=bP.addr a.arr.rd (by decide) (by omega);have off:=bw.off hd a;have k:=a.gr h;simp only at k;refine⟨λA=>aj A p ry (dH dp ll t)/\az mv tN A ll zs,⟨hd,a.arr⟩,?_⟩;refine⟨ll,λA n=>by rw[bk];exact n.1.cell rfl,?_⟩;refine⟨ll,λA n=>by rw[bk];exact n.1.cell rfl,?_⟩;simp only[z,al];refine⟨⟨by omega,by omega⟩,?_⟩;refine⟨g,λA n=>vD (c:=ak) n.2 m (j:=5) (y:=g) rfl z,?_⟩;refine hd.ld (c:=ab .i64) (i:=3) (x:=t.next) rfl ?_;refine az.AW (E:=EI) Fv (x:=t.next) L rfl (by omega) (by omega) _ (λH1 s1 m1=>⟨hd.ext m1,a.arr.ext m1⟩) λs2 M B g2 _=>?_;have d2:aj M p ry (dH dp ll t):=hd.mod g2.1 λd=>off (.inr ⟨_,h,d⟩);have a2:az mv tN M ll zs:=a.arr.keep λb d hl=>g2.1.same b hl λT=>k b T d;refine⟨⟨d2,a2⟩,?_⟩;have o:=ku a2 m (j:=5) (z':=(Fr.bt t.next f,s2)) (v:=s2.v) (by decide) rfl rfl (K:=λw=>ld (ab .i64) w (OR ⟨p,0,none⟩ 3) λ(C:Int)=>st w (OR ⟨p,0,none⟩ 3) (.int .i64 (N6.wrap (C+(1:Int)))) λl=>ld (ab .i64) l (OR ⟨p,0,none⟩ 3) λ(F:Int)=>K (N6.wrap (F - (1:Int))) l) λw U m3 W=>?_
 ·simp only[z,al] at o;exact o
 have d3:aj w p ry (dH dp ll t):=d2.mod m3 λd=>off (.inl d);refine d3.ld (c:=ab .i64) (i:=3) (x:=t.next) rfl ?_;refine d3.st (i:=3) (by decide:3<7) (by rfl) λl d4 m4 X=>?_;have r:aj l p ry (dH dp ll {t with next:=fw (t.next+1)}):=d4;refine r.ld (c:=ab .i64) (i:=3) (x:=fw (t.next+1)) rfl ?_;have hw:N6.wrap (fw (t.next+1) - 1)=t.next:=by
  unfold fw;rw[wrap64 (x:=t.next+1) (by omega) (by omega),wrap64 (by omega) (by omega)];omega
 rw[hw];have z2:=g2.1.size;have G:∀b,ag s2 b->b≠p:=λb d e=>by
  obtain⟨c,q⟩:=B.obj b d;rw[e] at q;exact absurd (aF d2 q) (by decide)
 have I:∀b,ag s2 b->¬ag ll b:=B.apart a2 (by decide);obtain⟨t1,t2⟩:=a.set (H':=l) m (z':=(Fr.bt t.next f,s2)) (U.keep λb d hl=>m4.same b hl λe=>off (e▸.inl d))
  (B.keep λb d hl=>(m4.same b (by omega) (G b d)).trans (m3.same b hl (I b d)))
  (λu hu b d J hl=>(m4.same b (by omega) λe=>off (e▸.inr ⟨u,hu,d⟩)).trans ((m3.same b (by omega) (a.gr hu b d)).trans (g2.1.same b hl J)))
  (λb d=>g2.2 b d)
 refine R s2 l r t1 ?_ t2;exact((g2.1.mono λb _ q=>.inr (.inr ⟨_,h,q⟩)).trans (m3.mono λb _ q=>.inr (.inl q))).trans (m4.mono λb _ q=>.inl q)
theorem D9 {i:Nat}{f:Fr}{g:Sl}{K:Int->aa->Prop}(h:bp ll zs D H p dp s)(e:zs[i]?=some (f,g))(j:s.next<1099511627775)
  (k:∀c H',bp ll c D H' p dp (s.gZ i)->Step (λb=>D b\/fD ll zs p b) (λb=>D b\/fD ll c p b) H H'->K s.next H'):GG.sp (aE p) i H K:=by
 have a:s.fs[i]?=some f:=by rw[h.pool.fs];simp[CM,e]
 have l:f.pins.length<=s.pins:=kX (λf:Fr=>f.pins.length) s.fs i f a;have w:=h.pool.wf.tick;have hlen:=h.pool.wf.len;have d:=h.pool.wf.most;have m:=h.pool.len;refine uh (t:=s) h.pool.head h.pool.frames e (by omega) (by omega) (by omega) (by omega) λg' H' n r' o q=>?_;have r:bw ll (zs.set i (Fr.bt s.next f,g')) H' p dp (s.gZ i):=by
  refine⟨n,r',?_,h.pool.wf.gZ a (by omega)⟩;show s.fs.modify i (Fr.bt s.next)=_;rw[aZ a,h.pool.fs];simp[CM,Pv]
 obtain⟨u,v⟩:=h.iV r rfl o q;exact k _ H' u v
theorem uJ {f:Fr}{K:Int->aa->Prop}(h:bp ll zs D H p dp s)(hl:s.fs.length<s.most)(U:s.next<1099511627775)(hk:s.find f.name f.page=none)(d:f.b.length<=504)(F:f.page<1048577)(G:f.name.size<=9223372036854775807)(I:f.pins=[])(k:f.left=0)(J:f.dirty=false)
  (V:∀l m H',bp l m D H' p dp (s.take f)->Step (λb=>D b\/fD ll zs p b) (λb=>D b\/fD l m p b) H H'->K s.next H'):
  BT.sp (aE p) f.name (f.page:Int) (f.kind.toNat:Int) (cD f.b) false (Sl.mk none 0 0) (0:Int) H K:=by
 refine BT.of ?_;unfold BT.vc;simp only[al];have ht:=h.pool.wf.tick;have hlen:=h.pool.wf.len;have L:=h.pool.wf.most;have M:=h.pool.len;have hn:=h.pool.n;have N:=h.pool.wf.take hl (by omega) hk d F G I k;refine ax λH1 s1 W C=>?_;have h1:=h.ext C;refine⟨λA=>aj A p ry (dH dp ll s),h1.pool.head,?_⟩;refine⟨ll,λA X=>by rw[bk];exact X.cell rfl,?_⟩;refine aj.c8 (x:=(f.name,(f.page:Int),(f.kind.toNat:Int),cD f.b,false,Sl.mk none 0 0,(0:Int))) W rfl rfl ?_;refine az.AW (E:=mv) IA (x:=(f,Sl.mk none 0 0)) h1.pool.frames.arr (by simp[mv,k,J]) (by omega) (by omega) (λA=>aj A p ry (dH dp ll s)) (λH2 s2 m2=>h1.pool.head.ext m2) λa Y O g3 _=>?_;have off:=bw.off h.pool.head h.pool.frames;have d3:aj Y p ry (dH dp ll s):=h1.pool.head.mod g3.1 λq=>off (.inl q);refine d3.st (i:=2) (by decide:2<7) (by rfl) λZ d4 m4 s4=>?_;have j:aj Z p ry (dH dp a s):=d4;refine j.ld (c:=ab .i64) (i:=5) (x:=(s.peak:Int)) rfl ?_;refine j.ld (c:=ak) (i:=2) (x:=a) rfl ?_;have P:=O.n (by decide);have g:a.n=s.fs.length+1:=by rw[P];simp;omega
 have ep:(if (a.n:Int)>(s.peak:Int) then (a.n:Int) else (s.peak:Int))=((max s.peak (s.fs.length+1):Nat):Int):=by
  rw[g];split<;>omega
 simp only[ep];refine j.st (i:=5) (by decide:5<7) (by rfl) λn d5 m5 s5=>?_;have o:aj n p ry (dH dp a (s.add f)):=d5;refine o.ld (c:=ak) (i:=2) (x:=a) rfl ?_;have Q:N6.wrap ((a.n:Int) - 1)=(s.fs.length:Int):=by rw[g,wrap64 (by omega) (by omega)];omega
 rw[Q];have z1:=C.size;have z3:=g3.1.size;have v:∀b,ag a b->b≠p:=λb d e=>by
  obtain⟨c,q⟩:=O.obj b d;rw[e] at q;exact absurd (aF d3 q) (by decide)
 have w:Mod (fD ll zs p) H n:=(((Ext.mod C).trans (g3.1.mono λb _ q=>.inr (.inl q))).trans (m4.mono λb _ q=>.inl q)).trans (m5.mono λb _ q=>.inl q);have o5:az mv tN n a (zs++[(f,Sl.mk none 0 0)]):=O.keep λb d hl=>(m5.same b (by omega) (v b d)).trans (m4.same b hl (v b d));have R:pb n a (zs++[(f,Sl.mk none 0 0)]):=by
  refine h.pool.frames.push I o5 λu hu b d hl=>?_;have y:b≠p:=λe=>off (e▸.inr ⟨u,hu,d⟩);exact(m5.same b (by omega) y).trans ((m4.same b (by omega) y).trans ((g3.1.same b (by omega) (h.pool.frames.gr hu b d)).trans (C.same b hl id)))
 have S:(zs++[((f,Sl.mk none 0 0):RZ)])[s.fs.length]?=some (f,Sl.mk none 0 0):=by rw[M];simp
 refine uh (t:=s.add f) o R S (by simp;omega) (by rw[I];simp) (by show 0<=s.next;omega) (by show s.next<_;omega) λg' H' d' r' m' o'=>?_;have T:bw a ((zs++[(f,Sl.mk none 0 0)]).set s.fs.length (Fr.bt s.next f,g')) H' p dp (s.take f):=by
  refine⟨d',r',?_,N⟩;show (s.fs++[f]).modify s.fs.length (Fr.bt s.next)=_;have z:(s.fs++[f])[s.fs.length]?=some f:=by simp
  rw[aZ z,h.pool.fs];simp[CM,Pv]
 have B:∀b,Cy a (zs++[(f,Sl.mk none 0 0)]) b->Cy ll zs b\/H.size<=b:=by
  rintro b (q|⟨u,hu,q⟩)
  ·rcases g3.2 b q with r|r
   ·exact .inl (.inl r)
   ·exact .inr (by omega)
  ·rcases Oe.1 hu with r|r
   ·exact .inl (.inr ⟨u,r,q⟩)
   ·simp at r;subst r;exact absurd q gu
 have zz:H.size<=n.size:=w.size;obtain⟨q1,q2⟩:=h.iV T rfl (w.trans' m' (by
  rintro b d (q|q)
  ·exact .inl q
  ·rcases B b q with r|r
   ·exact .inr r
   ·omega)) (λb d=>by
  rcases o' b d with q|q
  ·exact B b q
  ·exact .inr (by omega))
 exact V _ _ H' q1 q2
end
section
variable {F:Nat->Prop}{H:aa}{p dp:Nat}{s:Pl}{n:ByteArray}
theorem Fq {D:Nat->Prop}{d:Dk}{m:Nat}{K:(Option Addr×Int)->aa->Prop}(hd:cp D H dp d)(f:8<=m)(hm:m<=4096)
  (g:∀F p H',ao F H' p dp (rL d m)->Ext H H'->(∀b,F b->D b\/H.size<=b)->K (aE p,0) H'):JO.sp (aE dp) (m:Int) H K:=by
 refine JO.of ?_;unfold JO.vc;refine aC rfl ?_;refine aC (by simp;omega) ?_;refine aC (by simp;omega) ?_;refine ax λH1 s1 k e=>?_;have a:=hd.lt;have l:bw (Sl.mk none 0 0) [] H1 H.size dp (rL d m):=⟨k,⟨az.nil _ _ _,by simp,by intro i j z z' h;simp at h⟩,rfl,EP f hm⟩;refine g (λb=>D b\/fD (Sl.mk none 0 0) [] H.size b) H.size H1 ⟨Sl.mk none 0 0,[],D,⟨l,hd.keep λb _ hl=>e.same b hl id,?_⟩,λ_=>Iff.rfl⟩ e ?_
 ·rintro b o (q|q|⟨z,c,_⟩)
  ·have:=a b o;omega
  ·exact gu q
  ·cases c
 ·rintro b (q|q|q|⟨z,c,_⟩)
  ·exact .inl q
  ·exact .inr (by omega)
  ·exact absurd q gu
  ·cases c
theorem xg {k:Int}{K:(Int×Int)->aa->Prop}(h:ao F H p dp s)(V:n.size<=9223372036854775807)(O:s.d.aB+2<68719476736)(B:s.next<1099511627775)
  (W:∀F' H',ao F' H' p dp (s.bt n k).1->Step F F' H H'->K ((s.bt n k).2.1,(s.bt n k).2.2) H'):Hw.sp (aE p) n k H K:=by
 obtain⟨ll,zs,D,g,X⟩:=h;refine Hw.of ?_;unfold Hw.vc;simp only[al];have out:∀{m:Sl} {j:List RZ} {y:Nat->Prop} {A:aa} {t:Pl} {a e:Int},bp m j y A p dp t->Step (λb=>D b\/fD ll zs p b) (λb=>y b\/fD m j p b) H A->s.bt n k=(t,a,e)->K (a,e) A:=by
  intro m j y A t a e h1 C he;obtain⟨F',Y,Z⟩:=h1.out X C;have:=W F' A (by rw[he];exact Y) Z;rw[he] at this;exact this
 have fin:∀{m:Sl} {j:List RZ} {y:Nat->Prop} {A:aa} {t:Pl} {e:Int},bp m j y A p dp t->Step (λb=>D b\/fD ll zs p b) (λb=>y b\/fD m j p b) H A->s.bt n k=(t.met e,0,e)->
   nq.sp (aE p) e A λr H'=>K (0,r) H':=by
  intro m j y A t e h1 C he;exact om h1 λA' h2 S2=>out h2 (C.trans S2) he
 refine g.pool.head.ld (c:=ab .i64) (i:=6) (x:=s.wrong) rfl ?_;refine ah (λhw=>?_) (λhw=>?_)
 ·have v:s.wrong≠0:=by simpa using hw
  refine g.pool.head.ld (c:=ab .i64) (i:=6) (x:=s.wrong) rfl ?_;exact out g (.refl _ _) (by unfold Pl.bt;rw[if_pos v])
 have v:¬s.wrong≠0:=by simpa using hw
 refine uk g.pool ?_;rw[ye];cases hi:s.find n k with
 |some i=>
   obtain⟨f,hf,_,_⟩:=Pl.mK hi;obtain⟨gg,hz⟩:=g.pool.at hf;exact aP rfl (D9 g hz B λj A h1 C=>out h1 C (by unfold Pl.bt;rw[if_neg v,hi]))
 |none=>
   refine aC rfl ?_;refine g.pool.head.ld (c:=av) (i:=0) (x:=aE dp) rfl ?_;refine mZ g.cv (by omega) λH3 U=>?_;have g3:=g.ext U;have P:Step (λb=>D b\/fD ll zs p b) (λb=>D b\/fD ll zs p b) H H3:=Step.ext U;have u:s.bt n k=match s.load n k with|(q,some f,_)=>(q.take f,q.next,0)|(q,none,e)=>(q.met e,0,e):=by unfold Pl.bt;rw[if_neg v,hi];rfl
   have l:∀{t:Pl} {e:Int},s.load n k=(t,none,e)->s.bt n k=(t.met e,0,e):=λhe=>by rw[u,he]
   have L:=Dk.jX g.cv.wf n;by_cases hl:(s.d.len n).2=0
   ·by_cases E:k<0\/k>=(s.d.len n).1
    ·refine aP (by simp[hl];omega) (aC rfl (aP rfl (fin g3 P (l ?_))));unfold Pl.load;rw[if_neg (by simp[hl]),if_pos E]
    ·refine aC (by simp[hl];omega) (aP (by simp[hl]) ?_);refine uf g3 (by omega) λaf an D4 H4 M S4=>?_;have w:=P.trans S4;have a1:=s.jM;by_cases z:s.room.2=0
     ·refine aC (by simp[z]) ?_;refine M.pool.head.ld (c:=av) (i:=0) (x:=aE dp) rfl ?_;refine uw M.cv (by omega) λr H5 b5 N f5 c5=>?_;have Q:=M.ext N;by_cases o:(s.room.1.d.read n k).2=0
      ·refine aC (by simp[o]) ?_;have G:=(Dk.x9 s.room.1.d n k).2 o;refine FY b5 c5 G (λR H6 I=>?_) (λkd b sl H6 R S o6 I f6=>?_)
       ·refine aP rfl (fin (Q.ext I) ((w.behind N).behind I) (l ?_));unfold Pl.load;rw[if_neg (by simp[hl]),if_neg E,if_neg (by simp[z]),if_neg (by simp[o]),R]
       ·refine aC rfl ?_;refine kF (bV o6) ?_;obtain⟨pg,rfl⟩:∃pg:Nat,k=pg:=⟨k.toNat,by omega⟩;have J:=s.ct;have T:=g.pool.wf.wJ;refine uJ (f:=⟨n,pg,kd,b,false,[],0⟩) (Q.ext I) (by rw[J.1];exact T.2 z) (by rw[J.2.1];exact B) (Pl.mX hi) S (by show pg<_;omega) V rfl rfl rfl λa6 a7 H7 h7 S7=>?_;refine out h7 (((w.behind N).behind I).trans S7) ?_;rw[u];unfold Pl.load;rw[if_neg (by simp[hl]),if_neg E,if_neg (by simp[z]),if_neg (by simp[o]),R];simp
      ·refine aP (by simp[o]) (fin Q (w.behind N) (l ?_));unfold Pl.load;rw[if_neg (by simp[hl]),if_neg E,if_neg (by simp[z]),if_pos (by simpa using o)]
     ·refine aP (by simp[z]) (fin M w (l ?_));unfold Pl.load;rw[if_neg (by simp[hl]),if_neg E,if_pos (by simpa using z)]
   ·refine aC (by simp[hl]) (aC (by simp[hl]) (aP (by simp[hl]) (fin g3 P (l ?_))));unfold Pl.load;rw[if_pos (by simpa using hl)]
theorem AH {K:(Int×Int×Int)->aa->Prop}(h:ao F H p dp s)(S:n.size<=9223372036854775807)(E:s.d.aB+2<68719476736)(G:s.next<1099511627775)(v:s.Fit)
  (T:∀F' H',ao F' H' p dp (s.fresh n).1->Step F F' H H'->K ((s.fresh n).2.1,(s.fresh n).2.2.1,(s.fresh n).2.2.2) H'):Kw.sp (aE p) n H K:=by
 obtain⟨ll,zs,D,g,U⟩:=h;refine Kw.of ?_;unfold Kw.vc;simp only[al];have out:∀{j:Sl} {k:List RZ} {q:Nat->Prop} {A:aa} {t:Pl} {a b e:Int},bp j k q A p dp t->Step (λb=>D b\/fD ll zs p b) (λb=>q b\/fD j k p b) H A->s.fresh n=(t,a,b,e)->K (a,b,e) A:=by
  intro j k q A t a b e h1 I he;obtain⟨F',B,J⟩:=h1.out U I;have:=T F' A (by rw[he];exact B) J;rw[he] at this;exact this
 have fin:∀{j:Sl} {k:List RZ} {q:Nat->Prop} {A:aa} {t:Pl} {e:Int},bp j k q A p dp t->Step (λb=>D b\/fD ll zs p b) (λb=>q b\/fD j k p b) H A->s.fresh n=(t.met e,0,0,e)->
   nq.sp (aE p) e A λr H'=>K (0,0,r) H':=by
  intro j k q A t e h1 I he;exact om h1 λA' V W=>out V (I.trans W) he
 refine g.pool.head.ld (c:=ab .i64) (i:=6) (x:=s.wrong) rfl ?_;refine ah (λhw=>?_) (λhw=>?_)
 ·have m:s.wrong≠0:=by simpa using hw
  refine g.pool.head.ld (c:=ab .i64) (i:=6) (x:=s.wrong) rfl ?_;exact out g (.refl _ _) (by unfold Pl.fresh;rw[if_pos m])
 have m:¬s.wrong≠0:=by simpa using hw
 refine g.pool.head.ld (c:=av) (i:=0) (x:=aE dp) rfl ?_;refine mZ g.cv (by omega) λX P=>?_;have g3:=g.ext P;have Q:Step (λb=>D b\/fD ll zs p b) (λb=>D b\/fD ll zs p b) H X:=Step.ext P;have C:=Dk.jX g.cv.wf n;by_cases hl:(s.d.len n).2=0
 ·refine aP (by simp[hl]) ?_;refine uf g3 (by omega) λY Z D4 H4 L S4=>?_;have w:=Q.trans S4;have af:=s.jM;by_cases u:s.room.2=0
  ·refine aC (by simp[u]) ?_;refine sv (kind:=0) (l:=[]) (bL.nil _) (by simp) λr H5 o5 R f5=>?_;have M:=L.ext R;refine M.pool.head.ld (c:=av) (i:=0) (x:=aE dp) rfl ?_;have N:=L.lt;refine uC M.cv (bV o5) (λad ha hD=>?_) (by omega) λD6 H6 a6 S6=>?_
   ·have:=f5 ad.block ⟨ad,ha,rfl⟩;have:=N _ (.inl hD);omega
   obtain⟨B,J⟩:=M.jP a6 S6;have y:=(w.behind R).trans J;by_cases o:(s.room.1.d.write n (s.d.len n).1 (cI 0 [])).2=0
   ·refine aC (by simp[o]) ?_;have z:=s.ct;have O:=g.pool.wf.wJ;refine uJ (f:=⟨n,(s.d.len n).1,0,[],false,[],0⟩) B (by show s.room.1.fs.length<s.room.1.most;rw[z.1];exact O.2 u) (by show s.room.1.next<_;rw[z.2.1];exact G) (Pl.mX (v.new hl)) (by simp) (by show (s.d.len n).1<_;omega) S rfl rfl rfl λan a1 H7 h7 S7=>?_;refine out h7 (y.trans S7) ?_;unfold Pl.fresh;rw[if_neg m,if_neg (by simp[hl]),if_neg (by simp[u]),if_neg (by simp[o])];rfl
   ·refine aP (by simp[o]) (fin B y ?_);unfold Pl.fresh;rw[if_neg m,if_neg (by simp[hl]),if_neg (by simp[u]),if_pos (by simpa using o)]
  ·refine aP (by simp[u]) (fin L w ?_);unfold Pl.fresh;rw[if_neg m,if_neg (by simp[hl]),if_pos (by simpa using u)]
 ·refine aC (by simp[hl]) (aP (by simp[hl]) (fin g3 Q ?_));unfold Pl.fresh;rw[if_neg m,if_pos (by simpa using hl)]
theorem Cu {c:Int}{K:(Int×Sl×Int)->aa->Prop}(h:ao F H p dp s)(d:s.next<9223372036854775807)
  (k:∀sl H',bL H' sl (s.get c).2.1->Ext H H'->(∀b,ag sl b->H.size<=b)->sl.n<=sl.c->K (((s.get c).1.toNat:Int),sl,(s.get c).2.2) H'):Jl.sp (aE p) c H K:=by
 obtain⟨ll,zs,D,g,B⟩:=h;refine Jl.of ?_;unfold Jl.vc;simp only[al];have none_:∀e:Int,s.get c=(0,[],e)->K (0,Sl.mk none 0 0,e) H:=by
  intro e he;have:=k (Sl.mk none 0 0) H (by rw[he];exact bL.nil _) (.refl _ _) (λb q=>absurd q gu) (Ob _);rw[he] at this;exact this
 refine pY g.pool d ?_;refine g.pool.head.ld (c:=ab .i64) (i:=6) (x:=s.wrong) rfl ?_;refine ah (λhw=>?_) (λhw=>?_)
 ·have a:s.wrong≠0:=by simpa using hw
  refine g.pool.head.ld (c:=ab .i64) (i:=6) (x:=s.wrong) rfl ?_;exact none_ _ (by unfold Pl.get;rw[if_pos a])
 have a:¬s.wrong≠0:=by simpa using hw
 rw[lh];cases hi:s.held c with
 |none=>exact aP rfl (none_ _ (by unfold Pl.get;rw[if_neg a,hi]))
 |some i=>
   refine aC rfl ?_;obtain⟨f,l,_⟩:=Pl.iv hi;obtain⟨C,r⟩:=g.pool.at l;have u:=(N7.1 l).1;have E:=g.pool.n;have v:=g.pool.len;obtain⟨ad,t⟩:=bP.addr g.pool.frames.arr.rd (by decide) (by omega);have he:s.get c=(f.kind,f.b,0):=by unfold Pl.get;rw[if_neg a,hi];simp only;rw[Pl.fF l]
   rw[he] at k;refine⟨λA=>aj A p ry (dH dp ll s)/\az mv tN A ll zs,⟨g.pool.head,g.pool.frames.arr⟩,?_⟩;refine⟨ll,λA m=>by rw[bk];exact m.1.cell rfl,?_⟩;simp only[t,al];refine⟨⟨by simp only[oX];omega,by simp only[oX];omega⟩,?_⟩;refine⟨(f.kind.toNat:Int),λA m=>vD (c:=ab .u8) m.2 r (j:=2) (y:=(f.kind.toNat:Int)) rfl t,?_⟩;refine g.pool.head.ld (c:=ak) (i:=2) (x:=ll) rfl ?_;refine g.pool.frames.ld r (j:=3) (c:=aK) (y:=cD f.b) rfl ?_;refine l9 λw H1 z o f1 c1=>?_;exact⟨⟨g.pool.head.ext o,g.pool.frames.arr.ext o⟩,k w H1 z o f1 c1⟩
theorem xu {c:Int}{kd:UInt8}{b:Sl}{l:List UInt8}{K:Int->aa->Prop}(h:ao F H p dp s)(o:s.next<9223372036854775807)(C:bL H b l)(r:∀ad,b.a=some ad->¬F ad.block)
  (t:∀F' H',ao F' H' p dp (s.set c kd l).1->Step F F' H H'->K (s.set c kd l).2 H'):I9.sp (aE p) c (kd.toNat:Int) b H K:=by
 have u:=h;obtain⟨ll,zs,D,g,E⟩:=h;refine I9.of ?_;unfold I9.vc;simp only[al];have stay:∀e:Int,s.set c kd l=(s,e)->K e H:=by
  intro e he;have:=t F H (by rw[he];exact u) (.refl _ _);rw[he] at this;exact this
 refine pY g.pool o ?_;refine g.pool.head.ld (c:=ab .i64) (i:=6) (x:=s.wrong) rfl ?_;refine ah (λhw=>?_) (λhw=>?_)
 ·have a:s.wrong≠0:=by simpa using hw
  refine g.pool.head.ld (c:=ab .i64) (i:=6) (x:=s.wrong) rfl ?_;exact stay _ (by unfold Pl.set;rw[if_pos a])
 have a:¬s.wrong≠0:=by simpa using hw
 rw[lh];cases hi:s.held c with
 |none=>exact aP rfl (stay _ (by unfold Pl.set;rw[if_neg a,hi]))
 |some i=>
   refine aC rfl ?_;have J:=C.n;refine ah (λw=>?_) (λw=>?_)
   ·have y:l.length>504:=by simp at w;omega
    exact stay _ (by unfold Pl.set;rw[if_neg a,hi];simp only;rw[if_pos y])
   have hle:¬l.length>504:=by simp at w;omega
   have he:s.set c kd l=(s.dj i (Fr.set kd l),0):=by unfold Pl.set;rw[if_neg a,hi];simp only;rw[if_neg hle]
   rw[he] at t;obtain⟨f,m,_⟩:=Pl.iv hi;obtain⟨k,z⟩:=g.pool.at m;have L:=(N7.1 m).1;have d:=(N7.1 z).1;have off:=bw.off g.pool.head g.pool.frames;refine g.pool.head.ld (c:=ak) (i:=2) (x:=ll) rfl ?_;refine ku g.pool.frames.arr z (j:=2) (z':=({f with kind:=kd},k)) (v:=.int .u8 (kd.toNat:Int)) (by decide) rfl rfl λH1 M m1 s1=>?_;have d1:aj H1 p ry (dH dp ll s):=g.pool.head.mod m1 λq=>off (.inl q);refine d1.ld (c:=ak) (i:=2) (x:=ll) rfl ?_;have N:bL H1 b l:=C.keep λad O hl=>m1.same _ hl λq=>r ad O ((E _).2 (.inr (.inr (.inl q))));refine kF N ?_;have A:(zs.set i ({f with kind:=kd},k))[i]?=some ({f with kind:=kd},k):=by simp[d]
   refine ku M A (j:=3) (z':=({f with kind:=kd,b:=l},k)) (v:=.string (cD l)) (by decide) rfl rfl λP G m2 s2=>?_;have d2:aj P p ry (dH dp ll s):=d1.mod m2 λq=>off (.inl q);refine d2.ld (c:=ak) (i:=2) (x:=ll) rfl ?_;rw[Us] at G;have B:(zs.set i ({f with kind:=kd,b:=l},k))[i]?=some ({f with kind:=kd,b:=l},k):=by simp[d]
   refine ku G B (j:=4) (z':=(Fr.set kd l f,k)) (v:=.bool true) (by decide) rfl rfl λQ I m3 V=>?_;rw[Us] at I;obtain⟨R,S⟩:=g.yp (i:=i) (s':=s.dj i (Fr.set kd l)) z I ((m1.trans m2).trans m3) rfl (by
    show s.fs.modify i (Fr.set kd l)=s.fs.modify i λ_=>Fr.set kd l f;rw[aZ m,aZ m]) (g.pool.wf.dj m rfl rfl rfl (by simp only[Fr.set];omega)) rfl rfl
   obtain⟨F',T,U⟩:=R.out E S;exact t F' Q T U
theorem j8 {c:Int}{K:Int->aa->Prop}(h:ao F H p dp s)(a1:s.next<1099511627775)
  (Q:∀F' H',ao F' H' p dp (s.aY c).1->Step F F' H H'->K (s.aY c).2 H'):EW.sp (aE p) c H K:=by
 have R:=h;obtain⟨ll,zs,D,g,hF⟩:=h;have J:=g.pool.wf.aY c (by omega);refine EW.of ?_;unfold EW.vc;simp only[al];have stay:∀e:Int,s.aY c=(s,e)->K e H:=by
  intro e he;have:=Q F H (by rw[he];exact R) (.refl _ _);rw[he] at this;exact this
 refine pY g.pool (by omega) ?_;refine g.pool.head.ld (c:=ab .i64) (i:=6) (x:=s.wrong) rfl ?_;refine ah (λhw=>?_) (λhw=>?_)
 ·have r:s.wrong≠0:=by simpa using hw
  refine g.pool.head.ld (c:=ab .i64) (i:=6) (x:=s.wrong) rfl ?_;exact stay _ (by unfold Pl.aY;rw[if_pos r])
 have r:¬s.wrong≠0:=by simpa using hw
 rw[lh];cases hi:s.held c with
 |none=>exact aP rfl (stay _ (by unfold Pl.aY;rw[if_neg r,hi]))
 |some i=>
   refine aC rfl ?_;have he:s.aY c=({s with fs:=s.fs.modify i (Fr.aY c (fw (s.tick+1))),tick:=fw (s.tick+1)},0):=by unfold Pl.aY;rw[if_neg r,hi]
   rw[he] at Q J;obtain⟨f,P,_⟩:=Pl.iv hi;obtain⟨S,B⟩:=g.pool.at P;have T:=N9 B;have a6:=(N7.1 P).1;have L:=(N7.1 B).1;have off:=bw.off g.pool.head g.pool.frames;have a7:f.pins.length<=s.pins:=kX (λf:Fr=>f.pins.length) s.fs i f P;have ht:=g.pool.wf.tick;have w:=g.pool.frames.ent _ T;simp only at w;have M:=w.n (by decide);refine ar f.pins.length (λk x U=>x.2=(k:Int)/\az EI ib U x.1 ((f.pins.take k).filter λx=>decide (x≠c))/\Ext H U/\∀b,ag x.1 b->H.size<=b) ⟨rfl,az.nil _ _ _,.refl _ _,λb q=>absurd q gu⟩ ?_;rintro k ⟨o,j⟩ U next hk ⟨hj,I,e2,f2⟩ d
   simp only at hj I f2 d ⊢;subst hj;have g2:=g.ext e2;have z2:=e2.size;refine g2.pool.head.ld (c:=ak) (i:=2) (x:=ll) rfl ?_;refine g2.pool.frames.ld B (j:=5) (c:=ak) (y:=S) rfl ?_;refine ah (λN=>?_) (λN=>?_)
   ·have m:k<f.pins.length:=by rw[M] at N;simpa using N
    refine g2.pool.head.ld (c:=ak) (i:=2) (x:=ll) rfl ?_;refine g2.pool.frames.ld B (j:=5) (c:=ak) (y:=S) rfl ?_;refine wc (w.ext e2) m ?_;have z:(f.pins.take (k+1)).filter (λx=>decide (x≠c))=(f.pins.take k).filter (λx=>decide (x≠c))++if f.pins[k]≠c then [f.pins[k]] else []:=by
     rw[Oc m,PD];congr 1;by_cases q:f.pins[k]=c<;>simp[q]
    have A:N6.wrap ((k:Int)+1)=((k+1:Nat):Int):=aD k (by omega);refine ah (λV=>?_) (λV=>?_)
    ·have C:f.pins[k]≠c:=by simpa using V
     rw[if_pos C] at z;refine g2.pool.head.ld (c:=ak) (i:=2) (x:=ll) rfl ?_;refine g2.pool.frames.ld B (j:=5) (c:=ak) (y:=S) rfl ?_;refine wc (w.ext e2) m ?_;have W:=Q3 (λx=>decide (x≠c)) (f.pins.take k);simp only[OW] at W;refine az.push (E:=EI) Fv (x:=f.pins[k]) I rfl (by omega) (by omega) λl3 H3 X g3 _=>?_;have z3:=g3.1.size;refine d m _ _ ⟨A,by rw[z];exact X,⟨by omega,λb a _=>(g3.1.same b (by omega) λhh=>by have:=f2 b hh;omega).trans (e2.same b a id)⟩,λb a=>?_⟩;rcases g3.2 b a with q|q
     ·exact f2 b q
     ·omega
    ·have C:¬f.pins[k]≠c:=by simpa using V
     rw[if_neg C,List.append_nil] at z;exact d m _ _ ⟨A,by rw[z];exact I,e2,f2⟩
   ·have Y:k=f.pins.length:=by rw[M] at N;simp at N;omega
    rw[Y,Og (Ob _)] at I;refine g2.pool.head.ld (c:=ak) (i:=2) (x:=ll) rfl ?_;refine ku g2.pool.frames.arr B (j:=5) (z':=({f with pins:=f.pins.filter λx=>decide (x≠c)},o)) (v:=o.v) (by decide) rfl rfl λH3 X m3 s3=>?_;have d3:aj H3 p ry (dH dp ll s):=g2.pool.head.mod m3 λq=>off (.inl q);refine d3.ld (c:=ab .i64) (i:=4) (x:=s.tick) rfl ?_;refine d3.st (i:=4) (by decide:4<7) (by rfl) λH4 d4 m4 s4=>?_;obtain⟨t,l⟩:∃t:Pl,t={s with fs:=s.fs.modify i (Fr.aY c (fw (s.tick+1))),tick:=fw (s.tick+1)}:=⟨_,rfl⟩;have G:aj H4 p ry (dH dp ll t):=by rw[l];exact d4
    refine G.ld (c:=ak) (i:=2) (x:=ll) rfl ?_;refine G.ld (c:=ab .i64) (i:=4) (x:=fw (s.tick+1)) (by rw[l];rfl) ?_;have o4:az mv tN H4 ll (zs.set i ({f with pins:=f.pins.filter λx=>decide (x≠c)},o)):=X.keep λb a hl=>m4.same b hl λe=>off (e▸.inl a);have Z:(zs.set i (({f with pins:=f.pins.filter λx=>decide (x≠c)},o):RZ))[i]?=some ({f with pins:=f.pins.filter λx=>decide (x≠c)},o):=by simp[L]
    refine ku o4 Z (j:=6) (z':=(Fr.aY c (fw (s.tick+1)) f,o)) (v:=.int .i64 (fw (s.tick+1))) (by decide) rfl rfl λH5 o5 m5 s5=>?_;rw[Us] at o5;have af:∀b,ag o b->b≠p:=λb a e=>by have:=f2 b a;have:=aA g.pool.head;omega
    have O:∀b,ag o b->¬ag ll b:=I.apart g2.pool.frames.arr (by decide);obtain⟨t1,t2⟩:=g.pool.frames.set (H':=H5) B (z':=(Fr.aY c (fw (s.tick+1)) f,o)) o5
     (I.keep λb a hl=>(m5.same b (by omega) (O b a)).trans ((m4.same b (by omega) (af b a)).trans (m3.same b hl (O b a))))
     (λu hu b a _ hl=>(m5.same b (by omega) (g.pool.frames.gr hu b a)).trans ((m4.same b (by omega) λe=>off (e▸.inr ⟨u,hu,a⟩)).trans ((m3.same b (by omega) (g.pool.frames.gr hu b a)).trans (e2.same b hl id))))
     (λb a=>.inr (f2 b a))
    have an:bw ll (zs.set i (Fr.aY c (fw (s.tick+1)) f,o)) H5 p dp t:=by
     refine⟨G.mod m5 λq=>off (.inl q),t1,?_,by rw[l];exact J⟩;rw[l];show s.fs.modify i (Fr.aY c (fw (s.tick+1)))=_;rw[aZ P,g.pool.fs];simp[CM,Pv]
    obtain⟨q1,q2⟩:=g.iV an (by rw[l]) ((((Ext.mod e2).trans (m3.mono λb _ q=>.inr (.inl q))).trans (m4.mono λb _ q=>.inl q)).trans (m5.mono λb _ q=>.inr (.inl q))) t2;obtain⟨F',r1,r2⟩:=q1.out hF q2;rw[l] at r1;exact Q F' H5 r1 r2
theorem xZ {K:Int->aa->Prop}(h:ao F H p dp s)(B:K (s.pinned:Int) H):JE.sp (aE p) H K:=by
 obtain⟨ll,zs,D,g,G⟩:=h;refine JE.of ?_;unfold JE.vc;simp only[al];have z:=g.pool.n;have hlen:=g.pool.wf.len;have t:=g.pool.wf.most;refine ar s.fs.length (λk x H1=>x.1=(((s.fs.take k).filter λf=>!f.pins.isEmpty).length:Int)/\x.2=(k:Int)/\H1=H) ⟨rfl,rfl,rfl⟩ ?_;rintro k ⟨c,i⟩ H1 next hk ⟨m,hi,rfl⟩ b
 simp only at m hi b ⊢;subst m;subst hi;refine g.pool.head.ld (c:=ak) (i:=2) (x:=ll) rfl ?_;refine ah (λo=>?_) (λo=>?_)
 ·have d:k<s.fs.length:=by rw[z] at o;simpa using o
  obtain⟨C,A⟩:=g.pool.at (N8 d);have l:=(g.pool.frames.ent _ (N9 A)).n (by decide);simp only at l;have u:=Q3 (λf:Fr=>!f.pins.isEmpty) (s.fs.take k);simp only[OW] at u;have e:((s.fs.take (k+1)).filter λf=>!f.pins.isEmpty).length=((s.fs.take k).filter λf=>!f.pins.isEmpty).length+if s.fs[k].pins.isEmpty then 0 else 1:=by
   rw[Oc d,PD,OG];congr 1;cases q:s.fs[k].pins.isEmpty<;>simp[q]
  refine g.pool.head.ld (c:=ak) (i:=2) (x:=ll) rfl ?_;refine g.pool.frames.ld A (j:=5) (c:=ak) (y:=C) rfl ?_;refine ah (λq=>?_) (λq=>?_)
  ·have v:s.fs[k].pins.isEmpty=false:=by
    cases E:s.fs[k].pins with
    |nil=>rw[E] at l;simp at l q;omega
    |cons a r=>rfl
   rw[v] at e;refine b d _ _ ⟨?_,aD k (by omega),rfl⟩;rw[e,wrap64 (by omega) (by omega)];simp
  ·have he:s.fs[k].pins.isEmpty=true:=by
    rw[Qi];exact Oy (by simp at q;omega)
   rw[he] at e;exact b d _ _ ⟨by rw[e];simp,aD k (by omega),rfl⟩
 ·have w:k=s.fs.length:=by rw[z] at o;simp at o;omega
  rw[w,Og (Ob _)];exact B
end
section
variable {F:Nat->Prop}{H:aa}{p dp:Nat}{s:Pl}{n:ByteArray}
theorem zh {K:Int->aa->Prop}(h:ao F H p dp s)(L:s.d.aB<68717000000)(z:s.Fit)
  (hK:∀F' H',ao F' H' p dp (s.flush n).1->Step F F' H H'->K (s.flush n).2 H'):Jv.sp (aE p) n H K:=by
 obtain⟨ll,zs,D,g,hF⟩:=h;refine Jv.of ?_;unfold Jv.vc;simp only[al];have out:∀{l:Sl} {a:List RZ} {m:Nat->Prop} {A:aa} {t:Pl} {e:Int},bp l a m A p dp t->Step (λb=>D b\/fD ll zs p b) (λb=>m b\/fD l a p b) H A->s.flush n=(t,e)->K e A:=by
  intro l a m A t e h1 M he;obtain⟨F',O,P⟩:=h1.out hF M;have:=hK F' A (by rw[he];exact O) P;rw[he] at this;exact this
 have fin:∀{l:Sl} {a:List RZ} {m:Nat->Prop} {A:aa} {t:Pl} {e:Int},bp l a m A p dp t->Step (λb=>D b\/fD ll zs p b) (λb=>m b\/fD l a p b) H A->s.flush n=Pl.out (t,e)->
   nq.sp (aE p) e A λr H'=>K r H':=by
  intro l a m A t e h1 M he;exact om h1 λA' G I=>out G (M.trans I) he
 refine g.pool.head.ld (c:=ab .i64) (i:=6) (x:=s.wrong) rfl ?_;refine ah (λhw=>?_) (λhw=>?_)
 ·have o:s.wrong≠0:=by simpa using hw
  refine g.pool.head.ld (c:=ab .i64) (i:=6) (x:=s.wrong) rfl ?_;exact out g (.refl _ _) (by unfold Pl.flush;rw[if_pos o])
 have o:¬s.wrong≠0:=by simpa using hw
 refine g.pool.head.ld (c:=av) (i:=0) (x:=aE dp) rfl ?_;refine mZ g.cv (by omega) λH3 V=>?_;have g3:=g.ext V;have W:Step (λb=>D b\/fD ll zs p b) (λb=>D b\/fD ll zs p b) H H3:=Step.ext V;have J:=Dk.jX g.cv.wf n;by_cases hl:(s.d.len n).2=0
 ·refine aC (by simp[hl]) ?_;have w:=Pl.vq g.pool.wf z hl;generalize hN:(s.d.len n).1=N at*;obtain⟨R,X⟩:∃R,R=Pl.bg n (Pk N) s:=⟨_,rfl⟩;rw[<-X] at w;refine⟨Nat,λk x A=>x=(k:Int)/\k<=N/\∃(a:List RZ) (m:Nat->Prop) (t:Pl),bp ll a m A p dp t/\Step (λb=>D b\/fD ll zs p b) (λb=>m b\/fD ll a p b) H A/\Pl.bg n ((Pk N).drop k) t=R/\t.d.aB<=s.d.aB+k,λk=>N - k,⟨0,rfl,Oz _,zs,D,s,g3,W,by rw[List.drop_zero,X],Ob _⟩,?_⟩;rintro k _ A ⟨rfl,hk,a,m,t,u,B,d,af⟩;refine ah (λQ=>?_) (λQ=>?_)
  ·have v:k<N:=by simpa using Q
   have S:(Pk N).drop k=k::(Pk N).drop (k+1):=by
    rw[List.drop_eq_getElem_cons (by simpa using v)];simp
   rw[S] at d;unfold Pl.bg at d;have q:=aD k (by omega);refine uk u.pool ?_;rw[ye];cases hi:t.find n k with
   |none=>
     rw[hi] at d;simp only at d;refine aC rfl ?_;rw[q];exact⟨k+1,⟨rfl,v,a,m,t,u,B,d,by omega⟩,by show N - (k+1)<N - k;omega⟩
   |some i=>
     rw[hi] at d;refine aP rfl ?_;obtain⟨f,Y,_,_⟩:=Pl.mK hi;obtain⟨gg,Z⟩:=u.pool.at Y;refine u.pool.head.ld (c:=ak) (i:=2) (x:=ll) rfl ?_;refine u.pool.frames.ld Z (j:=4) (c:=ay) (y:=f.dirty) rfl ?_;simp only[Pl.fF Y] at d;cases C:f.dirty with
     |false=>
       rw[C,if_neg (by simp)] at d;refine aC rfl ?_;rw[q];exact⟨k+1,⟨rfl,v,a,m,t,u,B,d,by omega⟩,by show N - (k+1)<N - k;omega⟩
     |true=>
       rw[C,if_pos rfl] at d;refine aP rfl ?_;have an:=t.lS i;refine tC u Z (by omega) λT D2 A2 G I=>?_;by_cases E:(t.put i).2=0
       ·rw[if_pos E] at d;refine aC (by simp[E]) ?_;rw[q];exact⟨k+1,⟨rfl,v,T,D2,(t.put i).1,G,B.trans I,d,by omega⟩,by show N - (k+1)<N - k;omega⟩
       ·rw[if_neg E] at d;refine aP (by simp[E]) ?_;refine fin G (B.trans I) ?_;unfold Pl.flush;rw[if_neg o,if_neg (by simp[hl]),w,<-d,if_pos E]
  ·have U:k=N:=by simp at Q;omega
   subst U;rw[List.drop_of_length_le (by simp)] at d;unfold Pl.bg at d;refine u.pool.head.ld (c:=av) (i:=0) (x:=aE dp) rfl ?_;refine FT u.cv (by omega) λD5 H5 a5 S5=>?_;obtain⟨O,P⟩:=u.jP a5 S5;refine fin O (B.trans P) ?_;unfold Pl.flush;rw[if_neg o,if_neg (by simp[hl]),w,<-d,if_neg (by simp)]
 ·refine aP (by simp[hl]) (fin g3 W ?_);unfold Pl.flush;rw[if_neg o,if_pos (by simpa using hl)]
def LQ (z z':RZ):Prop:=∀b,ag z.2 b->¬ag z'.2 b
theorem sq {zs:List RZ}:(∀(i j:Nat) (z z':RZ),zs[i]?=some z->zs[j]?=some z'->i≠j->∀b,ag z.2 b->¬ag z'.2 b)↔zs.Pairwise LQ:=by
 rw[Qk];constructor
 ·intro h i j hi d a;exact h i j _ _ (N8 hi) (N8 d) (by omega)
 ·intro h i j z z' g e a b f c;obtain⟨hi,rfl⟩:=N7.1 g;obtain⟨d,rfl⟩:=N7.1 e;rcases Nat.lt_or_gt_of_ne a with q|q
  ·exact h i j hi d q b f c
  ·exact h j i d hi q b c f
theorem pb.sub {H':aa}{ll c:Sl}{zs a:List RZ}(h:pb H ll zs)(hs:a.Sublist zs)(d:az mv tN H' c a)(hm:∀u∈zs,∀b,ag u.2 b->b<H.size->H'[b]?=H[b]?):pb H' c a:=
 ⟨d,λz e=>(h.ent z (hs.subset e)).keep λb f hl=>hm z (hs.subset e) b f hl,sq.2 ((sq.1 h.apart).sublist hs)⟩
def rZ (n:ByteArray)(z:RZ):Bool:=!(z.1.name.toList==n.toList)
theorem Dc {K:Int->aa->Prop}(h:ao F H p dp s)(X:s.d.aB<68719476736)
  (hK:∀F' H',ao F' H' p dp (s.cT n).1->Step F F' H H'->K (s.cT n).2 H'):G6.sp (aE p) n H K:=by
 obtain⟨ll,zs,D,g,hF⟩:=h;refine G6.of ?_;unfold G6.vc;simp only[al];have out:∀{d:Sl} {l:List RZ} {B:Nat->Prop} {A:aa} {t:Pl} {e:Int},bp d l B A p dp t->Step (λb=>D b\/fD ll zs p b) (λb=>B b\/fD d l p b) H A->s.cT n=(t,e)->K e A:=by
  intro d l B A t e h1 Y he;obtain⟨F',N,Z⟩:=h1.out hF Y;have:=hK F' A (by rw[he];exact N) Z;rw[he] at this;exact this
 have fin:∀{d:Sl} {l:List RZ} {B:Nat->Prop} {A:aa} {t:Pl} {e:Int},bp d l B A p dp t->Step (λb=>D b\/fD ll zs p b) (λb=>B b\/fD d l p b) H A->s.cT n=Pl.out (t,e)->
   nq.sp (aE p) e A λr H'=>K r H':=by
  intro d l B A t e h1 Y he;exact om h1 λA' h2 S2=>out h2 (Y.trans S2) he
 refine g.pool.head.ld (c:=ab .i64) (i:=6) (x:=s.wrong) rfl ?_;refine ah (λhw=>?_) (λhw=>?_)
 ·have o:s.wrong≠0:=by simpa using hw
  refine g.pool.head.ld (c:=ab .i64) (i:=6) (x:=s.wrong) rfl ?_;exact out g (.refl _ _) (by unfold Pl.cT;rw[if_pos o])
 have o:¬s.wrong≠0:=by simpa using hw
 refine g.pool.head.ld (c:=av) (i:=0) (x:=aE dp) rfl ?_;refine mZ g.cv (by omega) λH3 e3=>?_;have g3:=g.ext e3;have S3:Step (λb=>D b\/fD ll zs p b) (λb=>D b\/fD ll zs p b) H H3:=Step.ext e3;by_cases hl:(s.d.len n).2=0
 ·refine aC (by simp[hl]) ?_;have hn:=g.pool.n;have hlen:=g.pool.wf.len;have af:=g.pool.wf.most;have bb:=g.pool.len;refine ar s.fs.length (λk x A=>x.2=(k:Int)/\az mv tN A x.1 ((zs.take k).filter (rZ n))/\Ext H A/\(∀b,ag x.1 b->H.size<=b)/\((s.fs.take k).any λf=>f.name.toList==n.toList&&!f.pins.isEmpty)=false) ⟨rfl,az.nil _ _ _,e3,λb q=>absurd q gu,rfl⟩ ?_;rintro k ⟨l1,j⟩ H4 next hk ⟨hj,O,C,f4,v⟩ m
  simp only at hj O f4 m ⊢;subst hj;have g4:=g.ext C;have z4:=C.size;refine g4.pool.head.ld (c:=ak) (i:=2) (x:=ll) rfl ?_;refine ah (λP=>?_) (λP=>?_)
  ·have w:k<s.fs.length:=by rw[hn] at P;simpa using P
   have Q:s.fs[k]?=some s.fs[k]:=N8 w;obtain⟨M,R⟩:=g4.pool.at Q;have S:zs.take (k+1)=zs.take k++[(s.fs[k],M)]:=by
    rw[UQ,R];rfl
   have T:s.fs.take (k+1)=s.fs.take k++[s.fs[k]]:=by
    rw[Oc w]
   have z:=aD k (by omega);refine g4.pool.head.ld (c:=ak) (i:=2) (x:=ll) rfl ?_;refine g4.pool.frames.ld R (j:=0) (c:=aK) (y:=s.fs[k].name) rfl ?_;refine ah (λU=>?_) (λU=>?_)
   ·have G:rZ n (s.fs[k],M)=true:=U;have an:(s.fs[k].name.toList==n.toList)=false:=by simpa using U
    refine g4.pool.head.ld (c:=ak) (i:=2) (x:=ll) rfl ?_;obtain⟨ad,ha⟩:=bP.addr g4.pool.frames.arr.rd (by decide) (by omega);rw[ha];refine⟨⟨by omega,by omega⟩,?_⟩;refine bP.c8 (E:=mv) (c:=bQ [aK,(ab .i64),(ab .u8),aK,ay,ak,(ab .i64)]) (y:=(s.fs[k].name,(s.fs[k].page:Int),(s.fs[k].kind.toNat:Int),cD s.fs[k].b,s.fs[k].dirty,M,s.fs[k].left)) g4.pool.frames.arr.rd ha R rfl (by simp[mv]) rfl ?_;have a1:=Q3 (rZ n) (zs.take k);simp only[OW] at a1;refine az.push (E:=mv) IA (x:=(s.fs[k],M)) O rfl (by omega) (by omega) λl5 H5 o5 g5 _=>?_;have z5:=g5.1.size;refine m w _ _ ⟨z,?_,⟨by omega,λb I _=>(g5.1.same b (by omega) λhh=>by have:=f4 b hh;omega).trans (C.same b I id)⟩,λb I=>?_,?_⟩
    ·rw[S,PD,Qf,if_pos G];exact o5
    ·rcases g5.2 b I with q|q
     ·exact f4 b q
     ·omega
    ·rw[T,Q9,v];simp[an]
   ·have G:rZ n (s.fs[k],M)=false:=U;have heq:(s.fs[k].name.toList==n.toList)=true:=by simpa using U
    refine g4.pool.head.ld (c:=ak) (i:=2) (x:=ll) rfl ?_;refine g4.pool.frames.ld R (j:=5) (c:=ak) (y:=M) rfl ?_;have J:=(g4.pool.frames.ent _ (N9 R)).n (by decide);simp only at J;refine ah (λhp=>?_) (λhp=>?_)
    ·have L:s.fs[k].pins.isEmpty=false:=by
      cases a6:s.fs[k].pins with
      |nil=>rw[a6] at J;simp at J hp;omega
      |cons a r=>rfl
     have V:(s.fs.any λf=>f.name.toList==n.toList&&!f.pins.isEmpty)=true:=List.any_eq_true.2 ⟨_,N9 Q,by rw[heq,L];rfl⟩;refine out g4 (Step.ext C) ?_;unfold Pl.cT;rw[if_neg o,if_neg (by simp[hl]),if_pos V]
    ·have L:s.fs[k].pins.isEmpty=true:=by
      rw[Qi];exact Oy (by simp at hp;omega)
     refine m w _ _ ⟨z,?_,C,f4,?_⟩
     ·rw[S,PD,Qf,G];simpa using O
     ·rw[T,Q9,v];simp[L]
  ·have W:k=s.fs.length:=by rw[hn] at P;simp at P;omega
   rw[W,Og (by omega)] at O;rw[W,Og (Ob _)] at v;refine g4.pool.head.st (i:=2) (by decide:2<7) (by rfl) λH6 d6 m6 s6=>?_;have off:=bw.off g.pool.head g.pool.frames;have bd:=aA g.pool.head;have a8:bw l1 (zs.filter (rZ n)) H6 p dp (s.forget n):=by
    refine⟨d6,?_,?_,g.pool.wf.forget n⟩
    ·refine g.pool.frames.sub List.filter_sublist (O.keep λb I hl=>m6.same b hl λe=>by have:=f4 b I;omega) λu hu b I hl=>(m6.same b (by omega) λe=>off (e▸.inr ⟨u,hu,I⟩)).trans (C.same b hl id)
    ·show (s.fs.filter λf=>!(f.name.toList==n.toList))=_;rw[g.pool.fs];unfold CM;rw[List.filter_map];rfl
   obtain⟨N,Z⟩:=g.iV a8 rfl ((Ext.mod C).trans (m6.mono λb _ q=>.inl q)) (by
    rintro b (q|⟨u,hu,q⟩)
    ·exact .inr (f4 b q)
    ·exact .inl (.inr ⟨u,(List.mem_filter.1 hu).1,q⟩))
   refine N.pool.head.ld (c:=av) (i:=0) (x:=aE dp) rfl ?_;refine AD N.cv λD7 H7 a7 S7=>?_;obtain⟨r1,r2⟩:=N.jP a7 S7;refine fin r1 (Z.trans r2) ?_;unfold Pl.cT;rw[if_neg o,if_neg (by simp[hl]),if_neg (by rw[v];simp)];rfl
 ·refine aP (by simp[hl]) (fin g3 S3 ?_);unfold Pl.cT;rw[if_neg o,if_pos (by simpa using hl)]
end
open Go.MapKept
def dq (p:Nat)(b:Rb):List Value:=[.pointer (aE p),.string b.name,.int .i64 b.width,.int .i64 b.wrong,.bool b.closed]
abbrev bG (H:aa)(k:Nat)(t:TypeId)(p:Nat)(b:Rb)(rest:List Value):Prop:=aj H k t (dq p b++rest).toArray
theorem ao.wf {F:Nat->Prop}{H:aa}{p dp:Nat}{s:Pl}(h:ao F H p dp s):s.WF:=by
 obtain⟨_,_,_,g,_⟩:=h;exact g.pool.wf
section
variable {H:aa}{k p dp:Nat}{t:TypeId}{b:Rb}{rest:List Value}{F:Nat->Prop}{s:Pl}
theorem bG.get (i:Nat)(v:Value)(h:(dq p b)[i]?=some v):(dq p b++rest).toArray[i]?=some v:=by
 rw[RT,OB (N7.1 h).1];exact h
theorem bG.tail {j:Nat}{v:Value}(h:rest[j]?=some v):(dq p b++rest).toArray[5+j]?=some v:=by
 rw[RT,O9 (by simp[dq])];simpa[dq] using h
theorem pT {K:Int->aa->Prop}(h:bG H k t p b rest)(a:K b.ready H):G1.sp (aE k) H K:=by
 refine G1.of ?_;unfold G1.vc;unfold Rb.ready at a;simp only[al,aE];refine aj.ld (c:=ab .i64) (i:=3) (x:=b.wrong) h (bG.get 3 _ rfl) ?_;refine ah (λe=>?_) (λe=>?_)
 ·refine aj.ld (c:=ab .i64) (i:=3) (x:=b.wrong) h (bG.get 3 _ rfl) ?_;rw[if_pos (by simpa using e)] at a;exact a
 ·rw[if_neg (by simpa using e)] at a;refine aj.ld (c:=ay) (i:=4) (x:=b.closed) h (bG.get 4 _ rfl) ?_;cases d:b.closed with
  |true=>rw[d,if_pos rfl] at a;exact a
  |false=>rw[d,if_neg (by simp)] at a;exact a
theorem zM (e:Int):(dq p b++rest).toArray.setIfInBounds 3 (.int .i64 e)=(dq p {b with wrong:=e}++rest).toArray:=by
 simp[dq]
theorem xD:(dq p b++rest).toArray.setIfInBounds 4 (.bool true)=(dq p {b with closed:=true}++rest).toArray:=by
 simp[dq]
theorem qa {e:Int}{K:Int->aa->Prop}(h:bG H k t p b rest)(hw:b.wrong=0)(a:∀H',bG H' k t p (b.cr e) rest->Mod (λq=>q=k) H H'->H'.size=H.size->K e H'):Cl.sp (aE k) e H K:=by
 refine Cl.of ?_;unfold Cl.vc;unfold Rb.cr at a;simp only[al,aE];refine ah (λd=>?_) (λd=>?_)
 ·rw[if_pos (by simpa using d)] at a;refine aj.ld (c:=ab .i64) (i:=3) (x:=b.wrong) h (bG.get 3 _ rfl) ?_;refine aP (by rw[hw];rfl) ?_;refine aj.st h (i:=3) (by simp[dq]) rfl λH' f m hs=>?_;rw[zM] at f;exact a H' f m hs
 ·rw[if_neg (by simpa using d)] at a;exact a H h (.refl _ _) rfl
theorem Br {kd:UInt8}{sl:Sl}{l:List UInt8}{K:Int->aa->Prop}(h:bG H k t p b rest)(I:ao F H p dp s)(hk:¬F k)(J:bL H sl l)(hsl:∀ad,sl.a=some ad->¬F ad.block/\ad.block<H.size)
  (L:b.name.size<=9223372036854775807) (v:s.d.aB<68719470000) (M:s.next<1099511620000) (N:0<=s.next) (f:s.Fit)
  (a:∀F' H',ao F' H' p dp (s.more b.name kd l).1->Step F F' H H'->K (s.more b.name kd l).2 H'):I3.sp (aE k) (kd.toNat:Int) sl H K:=by
 have O:=aA h;refine I3.of ?_;unfold I3.vc;simp only[al,aE];refine aj.ld (c:=av) (i:=0) (x:=aE p) h (bG.get 0 _ rfl) ?_;refine aj.ld (c:=aK) (i:=1) (x:=b.name) h (bG.get 1 _ rfl) ?_;refine AH I L (by omega) (by omega) f λw H1 p1 d=>?_;have h1:bG H1 k t p b rest:=h.mod d.mod hk;have y:¬w k:=λq=>(d.own k q).elim hk λr=>by omega
 have z:bL H1 sl l:=J.keep λad m hl=>d.mod.same _ hl (hsl ad m).1;have g:∀ad,sl.a=some ad->¬w ad.block:=λad m q=>by
  have:=(hsl ad m).2;rcases d.own _ q with r|r
  ·exact(hsl ad m).1 r
  ·omega
 unfold Pl.more at a;have G:(s.fresh b.name).1.next<=s.next+1:=s.nJ N (by omega)
 generalize P:(s.fresh b.name).1=s1 at*;generalize W:(s.fresh b.name).2.1=hd at*;generalize he:(s.fresh b.name).2.2.2=e at*;by_cases o:e=0
 ·subst o;rw[if_neg (by simp)] at a;by_cases A:kd=0
  ·subst A;rw[if_pos rfl] at a;refine aC (by simp) ?_;refine aP (by simp) ?_;refine aj.ld (c:=av) (i:=0) (x:=aE p) h1 (bG.get 0 _ rfl) ?_;refine j8 p1 (by omega) λB u p2 j=>?_;have el:Pl.leave (s1,0) hd=s1.aY hd:=if_pos rfl;rw[el] at a;exact a B u p2 (d.trans j)
  ·have C:((kd.toNat:Int)!=0)=true:=by
    have:kd.toNat≠0:=λq=>A (UInt8.toNat_inj.1 q);simp;omega
   rw[if_neg A] at a;refine aP (by rw[C];rfl) ?_;refine aj.ld (c:=av) (i:=0) (x:=aE p) h1 (bG.get 0 _ rfl) ?_;refine xu p1 (by omega) z g λB u p2 j=>?_;have Q:bG u k t p b rest:=h1.mod j.mod y;have R:(s1.set hd kd l).1.next=s1.next:=s1.jB hd kd l
   generalize S:s1.set hd kd l=s2 at*;refine ah (λE=>?_) (λE=>?_)
   ·have e2:s2.2=0:=by simpa using E
    refine aj.ld (c:=av) (i:=0) (x:=aE p) Q (bG.get 0 _ rfl) ?_;refine j8 p2 (by omega) λT U p3 V=>?_;have el:Pl.leave s2 hd=s2.1.aY hd:=if_pos e2;rw[el] at a;exact a T U p3 ((d.trans j).trans V)
   ·have e2:s2.2≠0:=by simpa using E
    have el:Pl.leave s2 hd=s2:=if_neg e2;rw[el] at a;exact a B u p2 (d.trans j)
 ·rw[if_pos o] at a;refine aC (by simp[o]) ?_;refine aC (by simpa using o) ?_;exact a w H1 p1 d
theorem xR {g:Int}{K:(Int×Sl×Int)->aa->Prop}(h:bG H k t p b rest)(J:ao F H p dp s)(hk:¬F k)
  (L:b.name.size<=9223372036854775807) (u:s.d.aB<68719470000) (M:s.next<1099511620000) (N:0<=s.next)
  (a:∀F' H' sl,ao F' H' p dp (s.look b.name g).1->Step F F' H H'->bL H' sl (s.look b.name g).2.2.1->(∀q,ag sl q->H.size<=q)->(s.look b.name g).2.2.1.length<=504->sl.n<=sl.c->K (((s.look b.name g).2.1.toNat:Int),sl,(s.look b.name g).2.2.2) H'):HD.sp (aE k) g H K:=by
 have O:=aA h;refine HD.of ?_;unfold HD.vc;simp only[al,aE];refine aj.ld (c:=av) (i:=0) (x:=aE p) h (bG.get 0 _ rfl) ?_;refine aj.ld (c:=aK) (i:=1) (x:=b.name) h (bG.get 1 _ rfl) ?_;refine xg J L (by omega) (by omega) λv H1 p1 m=>?_;have h1:bG H1 k t p b rest:=h.mod m.mod hk;have E:(s.bt b.name g).1.next<=s.next+1:=s.lv N (by omega)
 unfold Pl.look at a;generalize P:(s.bt b.name g).1=s1 at*;generalize X:(s.bt b.name g).2.1=hd at*;generalize he:(s.bt b.name g).2.2=e at*;refine ah (λw=>?_) (λw=>?_)
 ·have y:e≠0:=by simpa using w
  rw[if_pos y] at a;exact a v H1 _ p1 m ⟨rfl,Reads.nil _ _⟩ (λq ⟨ad,f,_⟩=>by cases f) (by simp) (Ob _)
 ·have y:¬e≠0:=by simpa using w
  rw[if_neg y] at a;refine aj.ld (c:=av) (i:=0) (x:=aE p) h1 (bG.get 0 _ rfl) ?_;refine Cu p1 (by omega) λsl z Q e2 f2 c2=>?_;have p2:=p1.ext e2;have R:bG z k t p b rest:=h1.ext e2;have G:Step F v H z:=m.trans ⟨e2.mod,λb S=>.inl S⟩;have A:=Pl.Bm p1.wf hd;have j:(s1.get hd).2.2≠0->s1.get hd=(0,[],(s1.get hd).2.2):=by
   unfold Pl.get;split
   ·intro _;rfl
   ·split
    ·intro q;exact absurd rfl q
    ·intro _;rfl
  generalize T:s1.get hd=r at*;refine ah (λd=>?_) (λd=>?_)
  ·have o:r.2.2≠0:=by simpa using d
   rw[if_pos o] at a;have l:=j o;have B:r.1=0:=by rw[l]
   have C:r.2.1=[]:=by rw[l]
   simp only[B,C] at a;exact a v z _ p2 G ⟨rfl,Reads.nil _ _⟩ (λq ⟨ad,f,_⟩=>by cases f) (by simp) (Ob _)
  ·have o:¬r.2.2≠0:=by simpa using d
   rw[if_neg o] at a;refine aj.ld (c:=av) (i:=0) (x:=aE p) R (bG.get 0 _ rfl) ?_;refine j8 p2 (by omega) λU V p3 I=>?_;have Y:=m.size;refine a U V sl p3 (G.trans I) (Q.keep λad f hl=>I.mod.same _ hl λr=>by have:=p1.lt _ r;have:=f2 _ ⟨ad,f,rfl⟩;omega) (λq W=>by have:=f2 q W;omega) A c2
end
structure qX (H:aa)(k p:Nat)(w:RW)(sw sl:Sl):Prop where
 row:bG H k Iw p w.b [sw.v,.int .i64 (w.n:Int),sl.v,.int .i64 (w.rows:Int)]
 wait:az EB fx H sw w.wait
 last:aM H 0 gS 1 sl (w.last.map (Value.int .u64))
section
variable {H:aa}{k p dp:Nat}{w:RW}{sw sl:Sl}{F:Nat->Prop}{s:Pl}
theorem qX.jG (h:qX H k p w sw sl):¬ag sw k:=λq=>by
 obtain⟨cur,a⟩:=h.wait.obj k q;exact absurd (aF a h.row) (by decide)
theorem qX.yV (h:qX H k p w sw sl):¬ag sl k:=λq=>by
 obtain⟨cur,a⟩:=h.last.obj k q;exact absurd (aF a h.row) (by decide)
theorem qX.lt (h:qX H k p w sw sl):∀b,dt k sw sl b->b<H.size:=by
 rintro b (rfl|q|q)
 ·exact aA h.row
 ·exact h.wait.lt b q
 ·exact h.last.lt b q
theorem qX.keep {H':aa}(h:qX H k p w sw sl)(e:∀b,dt k sw sl b->b<H.size->H'[b]?=H[b]?):qX H' k p w sw sl:=
 ⟨(e k (.inl rfl) (aA h.row)).trans h.row,h.wait.keep λb a hl=>e b (.inr (.inl a)) hl,h.last.keep λb a hl=>e b (.inr (.inr a)) hl⟩
theorem qX.mod {G:Nat->Prop}{H':aa}(h:qX H k p w sw sl)(m:Mod G H H')(a:∀b,dt k sw sl b->¬G b):qX H' k p w sw sl:=h.keep λb c hl=>m.same b hl (a b c)
theorem Ints.LI {F:Nat->Prop}{k:IntKind}{H H':aa}{s:Sl}{l:List Int}(h:Ints k H s l)(hm:Mod F H H')(a:∀ad,s.a=some ad->l≠[]->¬F ad.block):Ints k H' s l:=by
 by_cases e:l=[]
 ·subst e;exact⟨h.len,λi v c=>by simp at c⟩
 ·exact h.mod hm λad d=>a ad d e
theorem Rb.kZ {b:Rb}(h:¬b.ready≠0):b.wrong=0/\b.closed=false:=by
 unfold Rb.ready at h;split at h
 ·rename_i q;exact absurd q h
 ·rename_i q;refine⟨Decidable.of_not_not q,?_⟩;split at h
  ·exact absurd (by decide) h
  ·rename_i a;exact VR.2 a
theorem Bh {K:Int->aa->Prop}(h:qX H k p w sw sl)(J:ao F H p dp s)(hd:∀b,F b->¬dt k sw sl b)(z:w.b.wrong=0)
  (O:w.b.name.size<=9223372036854775807) (a:s.d.aB<68719470000) (A:s.next<1099511620000) (P:0<=s.next) (f:s.Fit)
  (o:∀F' g H',ao F' H' p dp (w.out s).1->qX H' k p (w.out s).2.1 g sl->(∀b,ag g b->ag sw b)->Mod (λb=>F b\/b=k) H H'->(∀b,F' b->F b\/H.size<=b)->K (w.out s).2.2 H'):Iy.sp (aE k) H K:=by
 refine Iy.of ?_;unfold Iy.vc;simp only[al,aE];refine aj.ld (c:=ab .i64) (i:=6) (x:=(w.n:Int)) h.row (bG.tail (j:=1) rfl) ?_;refine ah (λu=>?_) (λu=>?_)
 ·have B:w.n=0:=by
   have:(w.n:Int)=0:=by simpa using u
   omega
  have C:w.out s=(s,w,0):=if_pos B;rw[C] at o;exact o F sw H J h (λb q=>q) (.refl _ _) (λb q=>.inl q)
 ·have B:¬w.n=0:=λq=>by rw[q] at u;simp at u
  have C:w.out s=((s.more w.b.name 1 w.wait).1,{w with b:=w.b.cr (s.more w.b.name 1 w.wait).2,wait:=[],n:=0},(s.more w.b.name 1 w.wait).2):=if_neg B;rw[C] at o;have l:¬F k:=λq=>hd k q (.inl rfl);refine aj.ld (c:=ak) (i:=5) (x:=sw) h.row (bG.tail (j:=0) rfl) ?_;refine Br (kd:=1) h.row J l (bV h.wait) (λad L=>⟨λq=>hd _ q (.inr (.inl ⟨ad,L,rfl⟩)),h.wait.lt _ ⟨ad,L,rfl⟩⟩) O a A P f λM H1 p1 y=>?_;have h1:=h.mod y.mod λb d q=>hd b q d;have Q:=aA h.row;have m:¬M k:=λq=>(y.own k q).elim l λr=>by omega
  generalize (s.more w.b.name 1 w.wait).1=s1 at*;generalize (s.more w.b.name 1 w.wait).2=e at*;refine aj.st h1.row (i:=5) (by simp[dq]) rfl λT r2 m2 z2=>?_;refine aj.st r2 (i:=6) (by simp[dq]) rfl λR N m3 z3=>?_;have E:bG R k Iw p w.b [(Sl.mk none 0 0).v,.int .i64 ((0:Nat):Int),sl.v,.int .i64 (w.rows:Int)]:=by
   have e:((dq p w.b++[sw.v,.int .i64 (w.n:Int),sl.v,.int .i64 (w.rows:Int)]).toArray.setIfInBounds 5 (.slice none 0 0)).setIfInBounds 6 (.int .i64 0)=(dq p w.b++[(Sl.mk none 0 0).v,.int .i64 ((0:Nat):Int),sl.v,.int .i64 (w.rows:Int)]).toArray:=by simp[dq]
   rw[e] at N;exact N
  refine qa E z λG S m4 z4=>?_;have m14:Mod (λq=>q=k) H1 G:=(m2.trans m3).trans m4;have I:Mod (λb=>F b\/b=k) H G:=(y.mod.mono λb _ q=>.inl q).trans' m14 λb d q=>.inr q;refine o M (Sl.mk none 0 0) G (p1.keep λb d hl=>m14.same b hl λq=>m (q▸d)) ⟨S,az.nil _ _ _,h1.last.keep λb d hl=>m14.same b hl λq=>h1.yV (q▸d)⟩ (by rintro b ⟨ad,q,_⟩;cases q) I y.own
set_option maxHeartbeats 1000000 in
theorem BH {l:Sl}{ll:List Int}{K:Int->aa->Prop}(h:qX H k p w sw sl)(T:ao F H p dp s)(hd:∀b,F b->¬dt k sw sl b)
  (hl:Ints .u64 H l ll) (U:∀ad,l.a=some ad->ll≠[]->¬dt k sw sl ad.block) (hlen:(ll.length:Int)=w.b.width->ll.length<=1000000) (a8:w.wait.length<=1000000) (bb:w.rows<1099511627776) (bd:w.n<1099511627776)
  (hn:w.b.name.size<=9223372036854775807) (L:s.d.aB<68719470000) (Z:s.next<1099511620000) (h0:0<=s.next) (V:s.Fit)
  (g:∀F' d M H',ao F' H' p dp (w.add s ll).1->qX H' k p (w.add s ll).2.1 d M->(∀b,F' b->¬dt k d M b)->Step (λb=>F b\/dt k sw sl b) (λb=>F' b\/dt k d M b) H H'->K (w.add s ll).2.2 H'):AP.sp (aE k) l H K:=by
 refine AP.of ?_;unfold AP.vc;simp only[al,aE];have N:=hl.len;unfold RW.add at g;refine pT h.row ?_;refine⟨λ_ A=>A=H/\¬w.b.ready≠0/\¬((ll.length:Int)≠w.b.width)/\¬(0<w.rows/\aT ll w.last<=0),?_,?_⟩
 ·refine ah (λf=>?_) (λf=>?_)
  ·have E:w.b.ready≠0:=by simpa using f
   rw[if_pos E] at g;exact g F sw sl H T h hd (.refl _ _)
  have E:¬w.b.ready≠0:=by simpa using f
  rw[if_neg E] at g;refine aj.ld (c:=ab .i64) (i:=2) (x:=w.b.width) h.row (bG.get 2 _ rfl) ?_;refine ah (λf=>?_) (λf=>?_)
  ·have O:(ll.length:Int)≠w.b.width:=by rw[<-N];simpa using f
   rw[if_pos O] at g;exact g F sw sl H T h hd (.refl _ _)
  have O:¬((ll.length:Int)≠w.b.width):=by rw[<-N];simpa using f
  rw[if_neg O] at g;have hlen:=hlen (by omega);refine aj.ld (c:=ab .i64) (i:=8) (x:=(w.rows:Int)) h.row (bG.tail (j:=3) rfl) ?_;refine ah (λf=>?_) (λf=>?_)
  ·have e2:0<w.rows:=by
    have:(w.rows:Int)>0:=by simpa using f
    omega
   refine aj.ld (c:=ak) (i:=7) (x:=sl) h.row (bG.tail (j:=2) rfl) ?_;refine jL hl h.last.ints (by omega) ?_;refine ah (λf=>?_) (λf=>?_)
   ·have P:aT ll w.last<=0:=by simpa using f
    rw[if_pos ⟨e2,P⟩] at g;exact g F sw sl H T h hd (.refl _ _)
   ·have P:¬aT ll w.last<=0:=by simpa using f
    exact⟨rfl,E,O,λq=>P q.2⟩
  ·have e2:¬0<w.rows:=by
    have:¬(w.rows:Int)>0:=by simpa using f
    omega
   exact⟨rfl,E,O,λq=>e2 q.1⟩
 rintro _ A ⟨rfl,E,O,e2⟩;rw[if_neg E,if_neg O,if_neg e2] at g;have hlen:=hlen (by omega);obtain⟨af,_⟩:=Rb.kZ E;refine⟨λA=>bG A k Iw p w.b [sw.v,.int .i64 (w.n:Int),sl.v,.int .i64 (w.rows:Int)],h.row,?_⟩;refine aj.dw (c:=ak) (i:=5) (x:=sw) (cs:=λ_=>_) (λ_ q=>q) (λ_ _=>bG.tail (j:=0) rfl) ?_;refine vg hl hlen λr A1 o1 X=>?_;have h1:=h.mod X λ_ _=>id;refine⟨h1.row,?_⟩;have bl:(eL ll).length<=8*1000000+1:=by have:=pK ll;omega
 have an:bP EB A1 r.a (cO (eL ll)):=by
  unfold bP;rw[iH,j9 (kz ll)];exact o1.reads
 have rn:r.n=(cO (eL ll)).length:=by have:=o1.1;simpa using this.symm
 refine az.append jo h1.wait an rn (by rw[cd];omega) (by rw[cd];omega) λs' Y o2 g2 _=>?_;have bn:=aA h.row;have z1:=X.size;have z2:=g2.1.size;have r2:bG Y k Iw p w.b [sw.v,.int .i64 (w.n:Int),sl.v,.int .i64 (w.rows:Int)]:=h1.row.mod g2.1 h.jG;have l2:Ints .u64 Y l ll:=(hl.ext X).LI g2.1 λad ha Q q=>U ad ha Q (.inr (.inl q));have G:¬ag s' k:=λq=>by
  rcases g2.2 k q with u|u
  ·exact h.jG u
  ·omega
 refine aj.st r2 (i:=5) (by simp[dq]) rfl λA3 r3 m3 z3=>?_;refine aj.ld (c:=ab .i64) (i:=6) (x:=(w.n:Int)) r3 (by simp[dq]) ?_;refine aj.st r3 (i:=6) (by simp[dq]) rfl λA4 r4 m4 z4=>?_;refine aj.ld (c:=ab .i64) (i:=8) (x:=(w.rows:Int)) r4 (by simp[dq]) ?_;refine aj.st r4 (i:=8) (by simp[dq]) rfl λA5 r5 m5 z5=>?_;refine aj.st r5 (i:=7) (by simp[dq]) rfl λR r6 m6 z6=>?_;refine aj.ld (c:=ak) (i:=7) (x:=Sl.mk none 0 0) r6 (by simp[dq]) ?_;have o:Mod (λq=>q=k) Y R:=((m3.trans m4).trans m5).trans m6;have l6:Ints .u64 R l ll:=l2.LI o λad ha Q q=>U ad ha Q (.inl q);have o6:az EB fx R s' (w.wait++cO (eL ll)):=o2.mod o λb a q=>G (q▸a);refine oc.append (base:=R.size) (s:=Sl.mk none 0 0) (x:=l) (aM.nil _ _ _ _) (by rw[OT];exact N.symm) l6.reads (nc _ _) (by simp;omega) (by simp;omega) (Ob _) λc A7 n7 o7 m7 f7 _=>?_;have x7:Ext R A7:=⟨m7.size,λb a _=>m7.same b a (by rintro⟨ad,q,_⟩;cases q)⟩;have v:∀b,ag c b->R.size<=b:=λb a=>by
  rcases f7 b a with ⟨ad,q,_⟩|q
  ·cases q
  ·exact q
 have a6:¬ag c k:=λq=>by have:=v k q;have:=o.size;omega
 refine aj.st (r6.ext x7) (i:=7) (by simp[dq]) rfl λI r8 m8 z8=>?_;rw[aD w.rows (by omega),aD w.n (by omega)] at r8;have C:bG I k Iw p w.b [s'.v,.int .i64 ((w.n+1:Nat):Int),c.v,.int .i64 ((w.rows+1:Nat):Int)]:=by
  have e:(((((dq p w.b++[sw.v,.int .i64 (w.n:Int),sl.v,.int .i64 (w.rows:Int)]).toArray.setIfInBounds 5 s'.v).setIfInBounds 6 (.int .i64 ((w.n+1:Nat):Int))).setIfInBounds 8 (.int .i64 ((w.rows+1:Nat):Int))).setIfInBounds 7 (.slice none 0 0)).setIfInBounds 7 c.v=(dq p w.b++[s'.v,.int .i64 ((w.n+1:Nat):Int),c.v,.int .i64 ((w.rows+1:Nat):Int)]).toArray:=by
   simp[dq]
  rw[e] at r8;exact r8
 have W:qX I k p (w.push ll) s' c:=⟨C,(o6.ext x7).mod m8 λb a q=>G (q▸a),(by
  have:=o7.w5;rw[Qd] at this;exact this.mod m8 λb a q=>a6 (q▸a))⟩
 have S:Mod (λb=>b=k\/ag sw b) A I:=by
  have a1:Mod (λb=>b=k\/ag sw b) A Y:=X.mod.trans' g2.1 λb _ q=>.inr q;have a2:Mod (λb=>b=k\/ag sw b) A R:=a1.trans' o λb _ q=>.inl q;have a3:Mod (λb=>b=k\/ag sw b) A A7:=a2.trans' x7 λb _ q=>q.elim;exact a3.trans' m8 λb _ q=>.inl q
 have y:∀b,ag s' b->ag sw b\/A.size<=b:=λb a=>(g2.2 b a).imp_right λq=>by omega
 have J:∀b,ag c b->A.size<=b:=λb a=>by have:=v b a;have:=o.size;omega
 have p8:ao F I p dp s:=T.keep λb a a7=>S.same b a7 λq=>hd b a (q.imp_right .inl);have z:∀b,F b->¬dt k s' c b:=by
  rintro b a (q|q|q)
  ·exact hd b a (.inl q)
  ·rcases y b q with u|u
   ·exact hd b a (.inr (.inl u))
   ·have:=T.lt b a;omega
  ·have:=J b q;have:=T.lt b a;omega
 have S8:∀(F':Nat->Prop) (d:Sl) (H':aa),(∀b,ag d b->ag s' b)->Mod (λb=>F b\/b=k) I H'->(∀b,F' b->F b\/I.size<=b)->Step (λb=>F b\/dt k sw sl b) (λb=>F' b\/dt k d c b) A H':=by
  intro F' d H' h1 h2 h3;have bs:=S.size;refine⟨(S.mono λb _ q=>.inr (q.imp_right .inl)).trans' h2 λb _ q=>q.imp_right .inl,λb a=>?_⟩;rcases a with q|q|q|q
  ·rcases h3 b q with u|u
   ·exact .inl (.inl u)
   ·right;omega
  ·exact .inl (.inr (.inl q))
  ·rcases y b (h1 b q) with u|u
   ·exact .inl (.inr (.inr (.inl u)))
   ·exact .inr u
  ·exact .inr (J b q)
 refine⟨λA=>bG A k Iw p w.b [s'.v,.int .i64 ((w.n+1:Nat):Int),c.v,.int .i64 ((w.rows+1:Nat):Int)],C,?_⟩;refine aj.dw (c:=ab .i64) (i:=6) (x:=((w.n+1:Nat):Int)) (cs:=λ_=>_) (λ_ q=>q) (λ_ _=>bG.tail (j:=1) rfl) ?_;refine aj.ld (c:=ab .i64) (i:=2) (x:=w.b.width) C (bG.get 2 _ rfl) ?_;refine eY ⟨C,?_⟩;refine ah (λf=>?_) (λf=>?_)
 ·have P:((w.n+1:Nat):Int)<aH w.b.width:=by simpa using f
  rw[if_pos P] at g;exact g F s' c I p8 W z (S8 F s' I (λ_ q=>q) (.refl _ _) λb q=>.inl q)
 ·have P:¬((w.n+1:Nat):Int)<aH w.b.width:=by simpa using f
  rw[if_neg P] at g;refine Bh W p8 z af hn L Z h0 V λF' d H' p9 h9 B m9 m=>g F' d c H' p9 h9 ?_ (S8 F' d H' B m9 m);rintro b a (q|q|q)
  ·rcases m b a with u|u
   ·exact z b u (.inl q)
   ·have:=W.lt b (.inl q);omega
  ·rcases m b a with u|u
   ·exact z b u (.inr (.inl (B b q)))
   ·have:=W.lt b (.inr (.inl (B b q)));omega
  ·rcases m b a with u|u
   ·exact z b u (.inr (.inr q))
   ·have:=W.lt b (.inr (.inr q));omega
end
theorem Hi {H:aa}{z:Sl}{ws:List Wr}(h:az yB yP H z ws){i:Nat}{w:Wr}(hw:ws[i]?=some w){K:(Int×Int×ByteArray)->Prop}(e:K (w.no,(w.page:Int),cD w.b.1)):
  ae z.a λa=>(0<=(i:Int)/\(i:Int)<(z.n:Int))/\c8 (bQ [(ab .i64),(ab .i64),aK]) 3 H (a.add ((i:Int).toNat*3)) K:=by
 have f:=h.n (by decide);have hi:=(N7.1 hw).1;obtain⟨ad,d⟩:=bP.addr h.rd (by decide) (by omega);rw[d];refine⟨⟨by omega,by omega⟩,?_⟩;exact bP.c8 (E:=yB) (c:=bQ [(ab .i64),(ab .i64),aK]) (y:=(w.no,(w.page:Int),cD w.b.1)) h.rd d hw rfl (by simp[yB]) rfl e
theorem Ic {H:aa}{z:Sl}{ws:List Wr}(h:az yB yP H z ws){i:Nat}{w:Wr}(hw:ws[i]?=some w){K:Int->Prop}(e:K w.no):
  ae z.a λa=>(0<=(i:Int)/\(i:Int)<(z.n:Int))/\ld (ab .i64) H ((a.add ((i:Int).toNat*3)).add 0) K:=by
 have f:=h.n (by decide);have hi:=(N7.1 hw).1;obtain⟨ad,d⟩:=bP.addr h.rd (by decide) (by omega);rw[d];refine⟨⟨by omega,by omega⟩,?_⟩;exact bP.ld (E:=yB) (c:=ab .i64) (y:=w.no) h.rd d (j:=0) hw rfl (by simp[yB]) e
theorem HT {fl:Sl}{gs:List (Sl×Sl)}{d:Nat}{cs:Array Value}{s:Dk}{no:Int}{H:aa}{K:Int->aa->Prop}(hd:aj H d wP cs)(A:cs[0]?=some fl.v)(P:aJ H fl gs s.files)(af:s.files.length<=4096)(Q:s.aB<68719476736)
  (V:K (s.xC no:Nat) H):J4.sp (aE d) no H K:=by
 refine J4.of ?_;unfold J4.vc;simp only[al];have W:=P.n;obtain⟨cnt,g⟩:∃cnt:List Int->Nat,cnt=λl=>(l.filter λx=>decide (x<no)).length:=⟨_,rfl⟩;obtain⟨pre,m⟩:∃pre:Nat->List Int,pre=λk=>(s.files.take k).flatMap λf=>f.log.map (·.no):=⟨_,rfl⟩;have r:∀l,cnt l<=l.length:=λl=>by rw[g];exact Q3 _ _
 have B:∀k,(pre k).length<=s.aB:=λk=>by
  rw[<-Dk.ka];unfold Dk.G3;rw[m];simp only
  conv=>rhs;rw[<-Qq k s.files,SH,OG]
  omega
 refine ar s.files.length (λk x H1=>x=(((cnt (pre k):Nat):Int),(k:Int))/\H1=H) ⟨by rw[g,m];rfl,rfl⟩ ?_;rintro k _ H1 next hk ⟨rfl,rfl⟩ C
 refine hd.ld (c:=ak) (i:=0) (x:=fl) A ?_;refine ah (λJ=>?_) (λJ=>?_)
 ·have E:k<s.files.length:=by rw[W] at J;simpa using J
  have u:s.files[k]?=some s.files[k]:=N8 E;obtain⟨f,L⟩:∃f,f=s.files[k]:=⟨_,rfl⟩;rw[<-L] at u;obtain⟨X,Y,_,Z⟩:=P.BG u;have M:=Z.n (by decide);have an:=Dk.j6 u;have N:pre (k+1)=pre k++f.log.map (·.no):=by
   rw[m];simp only;rw[Oc E,<-L,SH];simp
  have o:∀a b,cnt (a++b)=cnt a+cnt b:=λa b=>by rw[g];simp
  have R:=B (k+1);have a1:=r (pre k);refine ar f.log.length (λj x H2=>x=(((cnt (pre k)+cnt ((f.log.take j).map (·.no)):Nat):Int),(j:Int))/\H2=H1) ⟨by rw[g];simp,rfl⟩ ?_;rintro j _ H2 S hj ⟨rfl,rfl⟩ q;refine hd.ld (c:=ak) (i:=0) (x:=fl) A ?_;refine P.ld1 u Y (j:=2) (c:=ak) (y:=X.2) rfl ?_;refine ah (λv=>?_) (λv=>?_)
  ·have z:j<f.log.length:=by rw[M] at v;simpa using v
   refine hd.ld (c:=ak) (i:=0) (x:=fl) A ?_;refine P.ld1 u Y (j:=2) (c:=ak) (y:=X.2) rfl ?_;refine Ic Z (N8 z) ?_;have O:cnt ((f.log.take (j+1)).map (·.no))=cnt ((f.log.take j).map (·.no))+(if f.log[j].no<no then 1 else 0):=by
    rw[Oc z,OO,o];congr 1;rw[g];simp only[Ox,QR,Qf,List.filter_nil];split<;>rename_i h<;>simp at h<;>simp[h]
   have T:=r ((f.log.take j).map (·.no));simp only[OT,OW] at T;rw[N,OG,OT] at R;refine ah (λU=>?_) (λU=>?_)
   ·have G:f.log[j].no<no:=by simpa using U
    refine q z _ _ ⟨?_,rfl⟩;rw[O,if_pos G,aD j (by omega),wrap64 (by omega) (by omega)];simp only[Prod.mk.injEq,and_true];omega
   ·have G:¬f.log[j].no<no:=by simpa using U
    refine q z _ _ ⟨?_,rfl⟩;rw[O,if_neg G,aD j (by omega)];simp
  ·have I:j=f.log.length:=by rw[M] at v;simp at v;omega
   rw[I,Og (Ob _)];refine C E _ _ ⟨?_,rfl⟩;rw[N,o,aD k (by omega)]
 ·have I:k=s.files.length:=by rw[W] at J;simp at J;omega
  have e:s.xC no=cnt (pre k):=by
   unfold Dk.xC Dk.G3;rw[g,m,I];simp
  rw[e] at V;exact V
set_option maxHeartbeats 1000000 in
theorem xe {F:Nat->Prop}{d:Nat}{s:Dk}{H:aa}{K:Unit->aa->Prop}(h:cp F H d s)(T:s.aB<68719476736)
  (hK:∀F' H',cp F' H' d s.cS->Step F F' H H'->K () H'):J7.sp (aE d) H K:=by
 have h0:=h;obtain⟨fl,gs,cin,kp,g,hF⟩:=h;refine J7.of ?_;unfold J7.vc;simp only[al];refine g.head.ld (c:=ay) (i:=8) (x:=s.down) rfl ?_;refine ah (λhd=>?_) (λhd=>?_)
 ·have Q:s.down=false:=by simpa using hd
  have e:s.cS=s:=by unfold Dk.cS;rw[Q];rfl
  rw[e] at hK;exact hK F H h0 (.refl _ _)
 have Q:s.down=true:=by simpa using hd
 obtain⟨ci,kk,af⟩:∃ci kk,s.crash=some (ci,kk):=by
  have:=g.wf.down Q;cases I:s.crash with
  |none=>rw[I] at this;cases this
  |some p=>exact⟨p.1,p.2,rfl⟩
 obtain⟨rfl,rfl⟩:=g.crash ci kk af;have U:s.keep=kp:=by unfold Dk.keep;rw[af]
 have hn:=g.files.n;have an:=g.wf.files;have w1:=g.wf.used;have w2:=g.wf.most;have w3:=g.wf.quota;refine ar s.files.length (λk x H1=>x.2=(k:Int)/\Mod (λ_=>False) H H1/\(∀b,ag x.1 b->H.size<=b)/\∃l,aJ H1 x.1 l ((s.files.take k).map s.after)/\(∀u∈l,(∀b,ag u.1 b->AZ fl gs b\/H.size<=b)/\u.2=Sl.mk none 0 0))
  ⟨rfl,.refl _ _,(by rintro b ⟨ad,q,_⟩;cases q),[],⟨az.nil _ _ _,rfl,by intro i f g h;simp at h,by intro i j g g' h;simp at h⟩,by simp⟩ ?_
 rintro k ⟨z,i⟩ H1 next hk ⟨hi,m1,f1,l,R1,J⟩ L
 simp only at hi;subst hi;simp only at f1 R1 L ⊢;have d1:=g.head.ext m1;have F1:aJ H1 fl gs s.files:=g.files.keep λb a hl=>m1.same b hl id;refine d1.ld (c:=ak) (i:=0) (x:=fl) rfl ?_;refine ah (λI=>?_) (λI=>?_)
 ·have V:k<s.files.length:=by rw[hn] at I;simpa using I
  have m:s.files[k]?=some s.files[k]:=N8 V;obtain⟨f,a1⟩:∃f,f=s.files[k]:=⟨_,rfl⟩;rw[<-a1] at m;obtain⟨u,hg,q1,q2⟩:=F1.BG m;have M:=mu _ _ k f u m hg;have a6:=q2.n (by decide);have b3:=Dk.eQ m;have b4:=Dk.j6 m;have bn:=N9 hg;obtain⟨ad,ha⟩:=bP.addr F1.arr.rd (by decide) (by have:=(N7.1 M).1;omega);refine⟨λA=>aj A d wP (db fl s.most s.quota s.ops s.next s.crash.isSome cin kp s.down)/\az pN ub A fl (ql s.files gs),⟨d1,F1.arr⟩,?_⟩;refine⟨fl,λA R=>by rw[bk];exact R.1.cell rfl,?_⟩;refine aX ad ha ⟨⟨by omega,by omega⟩,?_⟩;refine⟨f.name,λA R=>?_,?_⟩
  ·obtain⟨bs,e1,I⟩:=bP.cell R.2.rd M (j:=0) (v:=.string f.name) rfl;rw[ha] at e1;cases e1;rw[add_add];exact I
  refine⟨fl,λA R=>by rw[bk];exact R.1.cell rfl,?_⟩;refine aX ad ha ⟨⟨by omega,by omega⟩,?_⟩;refine⟨u.1,λA R=>?_,?_⟩
  ·obtain⟨bs,e1,I⟩:=bP.cell R.2.rd M (j:=1) (v:=u.1.v) rfl;rw[ha] at e1;cases e1;rw[add_add];exact I
  refine ax λH2 s2 r2 m2=>⟨⟨d1.ext m2,F1.arr.ext m2⟩,?_⟩;refine r2.iF (cs:=#[.string f.name,u.1.v,.slice none 0 0]) (by kernel_rfl) (by kernel_rfl) (by intro v hv;simp at hv;rcases hv with rfl|rfl|rfl<;>rfl) λH3 r3 m3 s3=>?_;obtain⟨p,hp⟩:∃p,p=H1.size:=⟨_,rfl⟩;rw[<-hp] at r3 m3;rw[<-hp];have z1:=m1.size;have z2:=m2.size;have m13:Mod (λ_=>False) H1 H3:=⟨by omega,λb a _=>(m3.same b (by omega) (by omega)).trans (m2.same b a id)⟩;obtain⟨q,hq⟩:∃q:Wr->Bool,q=λw=>jd s.keep (s.xC w.no):=⟨_,rfl⟩;have N:s.after f=⟨f.name,(f.log.filter q).foldl dN f.synced,[]⟩:=by rw[hq];rfl
  have bx:az jn dI H3 u.1 f.synced:=q1.ext m13
  -- the writes, one by one
  refine ar f.log.length (λj x B=>x=(j:Int)/\Mod (λb=>b=p) H3 B/\∃C,aj B p ub #[.string f.name,C.v,.slice none 0 0]/\az jn dI B C (((f.log.take j).filter q).foldl dN f.synced)/\(∀b,ag C b->AZ fl gs b\/H.size<=b)/\(∀b,ag C b->b≠p))
   ⟨rfl,.refl _ _,u.1,r3,by simpa using bx,λb a=>.inl (.inr ⟨u,bn,.inl a⟩),λb a=>by have:=q1.lt b a;omega⟩ ?_
  rintro j _ B bA hj ⟨rfl,m4,C,r4,o4,fy,ny⟩ r;have m14:Mod (λ_=>False) H1 B:=⟨by have:=m4.size;omega,λb a _=>(m4.same b (by omega) (by omega)).trans (m13.same b a id)⟩;have d4:=d1.ext m14;have F4:aJ B fl gs s.files:=F1.keep λb a hl=>m14.same b hl id;obtain⟨_,bB⟩:=F4.ent k f u m hg;have z4:=m14.size;refine d4.ld (c:=ak) (i:=0) (x:=fl) rfl ?_;refine F4.ld1 m hg (j:=2) (c:=ak) (y:=u.2) rfl ?_;refine ah (λO=>?_) (λO=>?_)
  ·have S:j<f.log.length:=by rw[a6] at O;simpa using O
   obtain⟨w,a7⟩:∃w,w=f.log[j]:=⟨_,rfl⟩;have hw:f.log[j]?=some w:=by rw[a7];exact N8 S
   refine d4.ld (c:=ak) (i:=0) (x:=fl) rfl ?_;refine F4.ld1 m hg (j:=2) (c:=ak) (y:=u.2) rfl ?_;refine Hi bB hw ?_;refine ax λH5 s5 r5 m5=>?_;refine r5.iF (cs:=#[.int .i64 w.no,.int .i64 w.page,.string (cD w.b.1)]) (by kernel_rfl) (by kernel_rfl) (by intro v hv;simp at hv;rcases hv with rfl|rfl|rfl<;>rfl) λH6 r6 m6 s6=>?_;have G:Mod (λ_=>False) B H6:=⟨by omega,λb a _=>(m6.same b (by omega) (by omega)).trans (m5.same b a id)⟩;have d6:=d4.ext G;have F6:aJ H6 fl gs s.files:=F4.keep λb a hl=>G.same b hl id;refine⟨λA=>aj A d wP (db fl s.most s.quota s.ops s.next s.crash.isSome cin kp s.down),d6,?_⟩;refine⟨kp,λA R=>by rw[bk];exact R.cell rfl,?_⟩;refine r6.ld (c:=ab .i64) (i:=0) (x:=w.no) rfl ?_;refine HT d6 rfl F6 an T ⟨d6,?_⟩;refine⟨Int.tmod_nonneg _ (by omega),?_⟩;have a8:q w=((lJ .u64 (dG .u64 kp (Pq ((s.xC w.no:Nat):Int) 64)) 1)==1):=by rw[hq,U];rfl
   have bb:(f.log.take (j+1)).filter q=(f.log.take j).filter q++(if q w then [w] else []):=by
    rw[Oc S,PD,<-a7];cases bC:q w<;>simp[bC]
   have W:=r4.ext G;have bd:az jn dI H6 C (((f.log.take j).filter q).foldl dN f.synced):=o4.ext G;refine ah (λa=>?_) (λa=>?_)
   ·have X:q w=true:=by rw[a8];exact a
    refine W.ld (c:=ak) (i:=1) (x:=C) rfl ?_;refine r6.c8 (c:=bQ [(ab .i64),(ab .i64),aK]) (x:=(w.no,(w.page:Int),cD w.b.1)) rfl rfl ?_;have b5:=mV f.log f.synced w (N9 hw);have hle:=mS f.log q j f.synced;have b6:(f.log.foldl dN f.synced).length=f.aq.length:=rfl;refine Bt (w:=w) bd (by omega) (by omega) λs7 H7 o7 m7 f7=>?_;have bD:=W.ext m7;refine bD.st (i:=1) (by simp) (by rfl) λH8 r8 m8 s8=>?_;have z7:=m7.size;have b2:=aA r4;refine r S _ _ ⟨aD j (by omega),((m4.trans (Ext.mod G)).trans (Ext.mod m7)).trans m8,s7,(show aj H8 p ub #[.string f.name,s7.v,.slice none 0 0] from r8),?_,λb a=>by have:=f7 b a;right;omega,λb a=>by have:=f7 b a;omega⟩;rw[bb,if_pos X,List.foldl_append];exact o7.keep λb a hl=>m8.same b hl (by have:=f7 b a;omega)
   ·have X:q w=false:=by rw[a8];exact a
    refine r S _ _ ⟨aD j (by omega),m4.trans (Ext.mod G),C,W,?_,fy,ny⟩;rw[bb,X];simpa using bd
  ·have Y:j=f.log.length:=by rw[a6] at O;simp at O;omega
   rw[Y,Og (Ob _)] at o4;refine r4.c8 (c:=bQ [aK,ak,ak]) (x:=(f.name,C,Sl.mk none 0 0)) rfl rfl ?_;have R4:aJ B z l ((s.files.take k).map s.after):=R1.keep λb a hl=>m14.same b hl id;have b7:(ql ((s.files.take k).map s.after) l).length=k:=by
    rw[eZ _ _ R4.len];simp;omega
   refine az.push (E:=pN) IY (x:=(f.name,C,Sl.mk none 0 0)) R4.arr rfl (by omega) (by omega) λz5 H5 o5 g5 _=>?_;have b9:=g5.1.size;have bM:∀b,ag C b->¬ag z b:=o4.apart R4.arr (by decide);have m15:Mod (λ_=>False) H H5:=⟨by omega,λb a _=>(g5.1.same b (by omega) λhh=>by have:=f1 b hh;omega).trans ((m14.same b (by omega) id).trans (m1.same b a id))⟩;have R5:=R4.push (H':=H5) (fl':=z5) (f:=s.after f) (g:=(C,Sl.mk none 0 0)) (by rw[N];exact o5) (by rw[N];exact o4.keep λb a hl=>g5.1.same b hl (bM b a)) (by rw[N];exact az.nil _ _ _)
    (λb a hl=>g5.1.same b hl λhh=>by
     obtain⟨Z,o,a⟩:=a;obtain⟨i2,bO⟩:=List.mem_iff_getElem?.1 o;exact R4.gr bO b a hh) (by rintro b ⟨ad,q,_⟩;cases q)
   refine L V _ _ ⟨aD k (by omega),m15,λb a=>?_,l++[(C,Sl.mk none 0 0)],?_,?_⟩
   ·rcases g5.2 b a with h|h
    ·exact f1 b h
    ·omega
   ·rw[Oc V,<-a1,OO];exact R5
   ·intro g' b0;rcases Oe.1 b0 with h|h
    ·exact J g' h
    ·simp at h;subst h;exact⟨fy,rfl⟩
 ·have Y:k=s.files.length:=by rw[hn] at I;simp at I;omega
  rw[Y,Og (Ob _)] at R1;have cb:=aA g.head;refine d1.st (i:=0) (by simp[db]) (by rfl) λH2 r2 m2 s2=>?_;refine r2.st (i:=8) (by simp[db]) (by rfl) λH3 r3 m3 s3=>?_;refine r3.st (i:=5) (by simp[db]) (by rfl) λB r4 m4 s4=>?_;have m14:Mod (λb=>b=d) H1 B:=(m2.trans m3).trans m4;have off:¬AZ z l d:=by
   rintro(q|⟨Z,o,q|q⟩)
   ·have:=f1 d q;omega
   ·rcases (J Z o).1 d q with h|h
    ·exact il.off g.head g.files h
    ·omega
   ·rw[(J Z o).2] at q;obtain⟨ad,q,_⟩:=q;cases q
  have P:s.cS={s with files:=s.files.map s.after,down:=false,crash:=none}:=by unfold Dk.cS;rw[Q];rfl
  have bl:s.cS.used<=s.used:=by
   rw[P];show ((s.files.map s.after).map λf=>f.aq.length).sum<=s.used;rw[Py];exact nE _ _ _ λf _=>s.yz f
  have gG:il z l cin kp B d s.cS:=by
   refine⟨?_,?_,?_,?_⟩
   ·rw[P];exact r4
   ·rw[P];intro i k q;cases q
   ·rw[P];exact R1.keep λb a hl=>m14.same b hl λe=>off (e▸a)
   ·refine⟨?_,Nat.le_trans bl (by rw[P];exact w1),by rw[P];exact w2,by rw[P];exact w3,by rw[P];simp;exact an,(by rw[P];intro h;cases h),(by rw[P];intro i k q;cases q)⟩;rw[P];simp only[Py];exact g.wf.nodup
  have b1:Mod F H B:=(Ext.mod m1).trans (m14.mono λb _ e=>(hF b).2 (.inl e));obtain⟨F',t1,t2⟩:=gG.out (fl:=fl) (gs:=gs) (F:=F) (H:=H) hF b1 (by
   rintro b (q|⟨Z,o,q|q⟩)
   ·exact .inr (f1 b q)
   ·exact(J Z o).1 b q
   ·rw[(J Z o).2] at q;obtain⟨ad,q,_⟩:=q;cases q)
  exact hK F' B t1 t2
end Go.Proofs.YtmkbhnholcaghaaGreatDoor
