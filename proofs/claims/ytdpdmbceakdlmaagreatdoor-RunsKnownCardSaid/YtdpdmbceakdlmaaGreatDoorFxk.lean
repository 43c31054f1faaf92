/-
 Ground, eleventh text: rows with their type, slices of elements of several cells, stores of aggregates; what stays is told by single blocks.
-/
import Derived.Test.YtdpdmbceakdlmaaGreatDoorFxj
import Derived.Test.YtdpdmbceakdlmaaGreatDoorFxi
open Array renaming getElem?_eq_getElem->K2
open Bool renaming and_eq_true->KR
open Go.Addr renaming add->La
open Go.Builtin renaming append_->KM
open Go.Instr renaming storeAt->Li,buildSlice->Lx,fill->MP
open Go.Result renaming andThen->Mr
open Go.Sem renaming run->L4
open Go.Value.slice renaming injEq->Ld
open List renaming getElem?_eq_some_iff->KI,getElem?_eq_getElem->KJ,length_append->Lj,flatMap_cons->Lk,length_cons->Ln,append_assoc->LG,drop_of_length_le->LK,take_length_add_append->QC
open Nat renaming le_refl->KN,eq_of_beq_eq_true->KX,beq->K6,zero_le->Lh,mul_le_mul_right->Ly,zero_add->LV,succ_mul->L7,succ_le_of_lt->Nt,zero_mul->Rr
open Option.some renaming inj->K1
namespace Go.Proofs.YtdpdmbceakdlmaaGreatDoor
theorem aG {H:Heap}{b:Nat}{o:Obj}(h:H[b]?=some o):b<H.size:=(Array.getElem?_eq_some_iff.1 h).1
theorem Mod.at {F:Nat->Prop}{H H':Heap}(hm:Mod F H H'){b:Nat}{o:Obj}(h:H[b]?=some o)(hn:¬F b):H'[b]?=some o:=(hm.same b (aG h) hn).trans h
theorem aX (b n:Nat):(⟨b,0,none⟩:Addr).add n=⟨b,n,none⟩:=by rw[add_lit,LV]
abbrev aj (H:Heap)(b:Nat)(t:TypeId)(cs:Array Value):Prop:=H[b]?=some (.cells cs t (0,0))
theorem aj.mod {F:Nat->Prop}{H H':Heap}{b:Nat}{t:TypeId}{cs:Array Value}(h:aj H b t cs)(hm:Mod F H H')(hn:¬F b):aj H' b t cs:=hm.at h hn
theorem aj.ext {H H':Heap}{b:Nat}{t:TypeId}{cs:Array Value}(h:aj H b t cs)(hm:Mod (λ_=>False) H H'):aj H' b t cs:=hm.at h id
theorem aj.cell {H:Heap}{b:Nat}{t:TypeId}{cs:Array Value}(h:aj H b t cs){i:Nat}{v:Value}(hi:cs[i]?=some v):de H ⟨b,i,none⟩=some v:=cW h hi
theorem aj.ld {c:eN}{H:Heap}{b:Nat}{t:TypeId}{cs:Array Value}(h:aj H b t cs){i:Nat}{x:c.α}(hi:cs[i]?=some (c.enc x)){K:c.α->Prop}(hK:K x):Go.Proofs.YtdpdmbceakdlmaaGreatDoor.ld c H (La ⟨b,0,none⟩ i) K:=
 ⟨x,by rw[aX];exact h.cell hi,hK⟩
theorem aj.eP {c:eN}{G:Heap->Prop}{b:Nat}{t:TypeId}{cs:Heap->Array Value}(h:∀H,G H->aj H b t (cs H)){i:Nat}{x:c.α}(hi:∀H,G H->(cs H)[i]?=some (c.enc x)){K:c.α->Prop}(hK:K x):Go.Proofs.YtdpdmbceakdlmaaGreatDoor.eP c G (La ⟨b,0,none⟩ i) K:=
 ⟨x,λH' hg=>by rw[aX];exact(h H' hg).cell (hi H' hg),hK⟩
theorem aj.kT {H:Heap}{b:Nat}{t:TypeId}{cs:Array Value}(h:aj H b t cs){o n:Nat}{ds:Array Value}(hn:ds.size=n)(hd:∀i,i<n->cs[o+i]?=ds[i]?):Go.Proofs.YtdpdmbceakdlmaaGreatDoor.kT H ⟨b,o,none⟩ n (.agg ds):=by
 refine⟨ds,rfl,hn,λi hi=>?_⟩
 have h1:=hd i hi
 rw[add_lit]
 rw[<-h1]
 have:ds[i]?=some ds[i]:=K2 (by omega)
 rw[h1,this]
 exact h.cell (h1.trans this)
theorem aj.dI {c:eN}{H:Heap}{b:Nat}{t:TypeId}{cs:Array Value}(h:aj H b t cs){n:Nat}{x:c.α}(hx:c.enc x=.agg cs)(hn:cs.size=n){K:c.α->Prop}(hK:K x):Go.Proofs.YtdpdmbceakdlmaaGreatDoor.dI c n H ⟨b,0,none⟩ K:=
 ⟨x,by rw[hx];exact h.kT hn (λi _=>by rw[LV]),hK⟩
theorem aj.st {H:Heap}{b:Nat}{t:TypeId}{cs:Array Value}{v:Value}{K:Heap->Prop}(h:aj H b t cs){i:Nat}(hi:i<cs.size)(hp:jN v=true)
  (hK:∀H',aj H' b t (cs.setIfInBounds i v)->Mod (λx=>x=b) H H'->H'.size=H.size->K H'):Go.Proofs.YtdpdmbceakdlmaaGreatDoor.st H (La ⟨b,0,none⟩ i) v K:=by
 rw[aX]
 exact⟨hp,⟨_,h.cell (K2 hi)⟩,dR h,hK _ (nE (a:=⟨b,i,none⟩) h rfl) (Mod.set rfl) (gY _ _ _)⟩
theorem ao {H:Heap}{cs:Array Value}{t:TypeId}{K:Addr->Heap->Prop}(hK:∀H',H'.size=H.size+1->aj H' H.size t cs->Mod (λ_=>False) H H'->K ⟨H.size,0,none⟩ H'):aF H cs t K:=
 hK _ (by simp) (by simp[aj]) (Mod.push _ _ _)
theorem xI {P:Program}{ty:TypeId}{n:Nat}(hi:nV P ty n=true):∃i,P.info? ty=some i/\i.size=n:=by
 unfold nV at hi
 split at hi
 ·rename_i i he;exact⟨i,he,KX hi⟩
 ·cases hi
theorem iR {P:Program}{ty:TypeId}{H:Heap}{b o:Nat}{t:TypeId}{cur cs:Array Value}{K:Heap->Prop}(h:aj H b t cur)(hi:nV P ty cs.size=true)(hfit:o+cs.size<=cur.size)(h1:∀v∈cs.toList,v.oneCell'=true)
  (hK:∀H',aj H' b t (cur.toList.take o++cs.toList++cur.toList.drop (o+cs.size)).toArray->Mod (λx=>x=b) H H'->H'.size=H.size->K H'):lQ P (Li ty (.pointer (some ⟨b,o,none⟩)) (.agg cs)) H K:=by
 intro w hw
 subst hw
 obtain⟨i,he,hs⟩:=xI hi
 have hr:=run_storeCells_at (P:=P) b o t cs.toList 0 cur w h (by simpa using hfit) h1
 have hq:(Li ty (.pointer (some ⟨b,o,none⟩)) (.agg cs)).run P w=.ok () (w.setRow b (cur.toList.take o++cs.toList++cur.toList.drop (o+cs.size)).toArray):=by
  have hsz:(sizeOf ty).run P w=.ok cs.size w:=by simp[sizeOf,typeInfo,he,hs]
  simp only[Li,Instr.sureAddr,Sem.run_bind,Sem.run_pure,Result.andThen_ok,storeVar,hsz,Value.cells]
  simpa using hr
 exact⟨(),_,hq,hK _ (setRow_heap w b cur _ t _ h) ⟨by simp,λk _ hk=>setRow_other w b k _ hk⟩ (by simp),(.of_le rfl (KN _))⟩
theorem aj.iH {P:Program}{ty:TypeId}{H:Heap}{b:Nat}{t:TypeId}{cur cs:Array Value}{K:Heap->Prop}(h:aj H b t cur)(hi:nV P ty cs.size=true)(ho:cur.size=cs.size)(h1:∀v∈cs.toList,v.oneCell'=true)
  (hK:∀H',aj H' b t cs->Mod (λx=>x=b) H H'->H'.size=H.size->K H'):lQ P (Li ty (.pointer (some ⟨b,0,none⟩)) (.agg cs)) H K:=
 iR h hi (by omega) h1 λH' h2=>hK H' (by
  have e:(cur.toList.take 0++cs.toList++cur.toList.drop (0+cs.size)).toArray=cs:=by
   rw[LK (by simp;omega)];simp
  rw[e] at h2;exact h2)
theorem aq {α:Type}(a:α)(K:α->Prop):ab (some a) K=K a:=rfl
theorem aP {b:Bool}{A B:Prop}(h:b=true)(k:A):br b A B:=by subst h;exact k
theorem aw {b:Bool}{A B:Prop}(h:b=false)(k:B):br b A B:=by subst h;exact k
theorem qM {d:TypeDesc}{H:Heap}{K:Nat->Heap->Prop}(hK:∀H',H'.size=H.size+1->cd d H' H.size #[] 0->Mod (λ_=>False) H H'->K H.size H'):C4 H K:=
 hK _ (by simp) (cd.new d H) (Mod.push _ _ _)
def C3 (P:Program)(t kt:TypeId)(d:TypeDesc):Prop:=∃(et:TypeId) (inf:TypeInfo),P.underlying t=some (.map kt et)/\P.underlying kt=some d/\P.info? et=some inf/\inf.zero=some (.pointer none)
def DK (P:Program)(t kt:TypeId):Bool:=
 match P.underlying t with|some (.map kt' et)=>K6 kt' kt&&(match P.info? et with|some inf=>(match inf.zero with|some (.pointer none)=>true|_=>false)|none=>false)|_=>false
theorem qY {P:Program}{t kt:TypeId}{d:TypeDesc}(h:DK P t kt=true)(hd:P.underlying kt=some d):C3 P t kt d:=by
 unfold DK at h
 split at h
 ·rename_i kt' et q
  simp only[KR] at h
  obtain⟨h1,h2⟩:=h
  have:=KX h1
  subst this
  split at h2
  ·rename_i inf q2
   split at h2
   ·rename_i q3;exact⟨et,inf,q,hd,q2,q3⟩
   ·cases h2
  ·cases h2
 ·cases h
theorem aT.ak {H H':Heap}{base:Nat}{e:TypeId}{size:Nat}{s:Sl}{xs:List Value}(h:aT H base e size s xs)(k:∀b,al s b->b<H.size->H'[b]?=H[b]?):aT H' base e size s xs:=by
 refine⟨h.1,h.2.imp id ?_⟩
 rintro⟨g,cap,cur,e1,hb,hg,h3⟩
 refine⟨g,cap,cur,e1,hb,?_,h3⟩
 have hs:al s g:=by
  cases s;simp only[Sl.v,Ld] at e1
  exact⟨_,e1.1,rfl⟩
 exact(k g hs (h.block g hs).2).trans hg
theorem aT.lt {H:Heap}{base:Nat}{e:TypeId}{size:Nat}{s:Sl}{xs:List Value}(h:aT H base e size s xs):∀b,al s b->b<H.size:=λb hb=>(h.block b hb).2
theorem aT.vE {H:Heap}{base:Nat}{e:TypeId}{size:Nat}{s:Sl}{xs:List Value}(h:aT H base e size s xs):aT H 0 e size s xs:=
 ⟨h.1,h.2.imp id λ⟨g,cap,cur,e1,_,h3⟩=>⟨g,cap,cur,e1,Lh _,h3⟩⟩
theorem cd.ak {d:TypeDesc}{H H':Heap}{r:Nat}{es:Array MapEntry}{clk:Nat}(h:cd d H r es clk)(k:H'[r]?=H[r]?):cd d H' r es clk:=⟨k.trans h.obj,h.stamped,h.keys⟩
structure fN (α:Type) where
 size:Nat
 enc:α->List Value
 len:∀x,(enc x).length=size
 one:∀x,∀u∈enc x,u.oneCell'=true
def fN.all {α:Type}(E:fN α)(l:List α):List Value:=l.flatMap E.enc
theorem fN.bU {α:Type}(E:fN α):∀l:List α,(E.all l).length=l.length*E.size
 |[]=>by simp[fN.all]
 |x::l=>by
   have:=fN.bU E l
   simp only[fN.all,Lk,Lj,E.len,Ln] at this ⊢
   rw[this,L7];omega
theorem fN.yR {α:Type}(E:fN α)(l:List α):∀u∈E.all l,u.oneCell'=true:=by
 intro u hu
 obtain⟨x,_,hx⟩:=List.mem_flatMap.1 hu
 exact E.one x u hx
theorem fN.all_append {α:Type}(E:fN α)(l r:List α):E.all (l++r)=E.all l++E.all r:=by simp[fN.all]
theorem fN.uh {α:Type}(E:fN α):∀(l:List α) (i j:Nat),j<E.size->(E.all l)[i*E.size+j]?=(l[i]?).bind λx=>(E.enc x)[j]?
 |[],i,j,_=>by simp[fN.all]
 |x::l,0,j,hj=>by
   simp only[fN.all,Lk,Rr,LV,List.getElem?_cons_zero,Option.bind_some]
   rw[List.getElem?_append_left (by rw[E.len];exact hj)]
 |x::l,i+1,j,hj=>by
   have:=fN.uh E l i j hj
   simp only[fN.all,Lk,List.getElem?_cons_succ] at this ⊢
   rw[List.getElem?_append_right (by rw[E.len,L7];omega),E.len,<-this]
   congr 1
   rw[L7];omega
theorem fN.ue {α:Type}(E:fN α)(l:List α)(i:Nat)(y:α)(hi:i<l.length):E.all (l.set i y)=(E.all l).take (i*E.size)++E.enc y++(E.all l).drop (i*E.size+E.size):=by
 induction l generalizing i with
 |nil=>simp at hi
 |cons x l ih=>
   cases i with
   |zero=>
     simp only[fN.all,List.set_cons_zero,Lk,Rr,List.take_zero,List.nil_append,LV]
     rw[List.drop_append_of_le_length (by rw[E.len];exact KN _),LK (by rw[E.len];exact KN _)]
     simp
   |succ i=>
     have h1:=ih i (by simpa using hi)
     simp only[fN.all,List.set_cons_succ,Lk] at h1 ⊢
     rw[h1,L7]
     have e1:i*E.size+E.size=(E.enc x).length+i*E.size:=by rw[E.len];omega
     have e2:i*E.size+E.size+E.size=(E.enc x).length+(i*E.size+E.size):=by rw[E.len];omega
     rw[e2,List.drop_length_add_append,e1,QC]
     simp
theorem fN.wN {α:Type}(E:fN α):∀(l:List α) (i:Nat),(E.all l).drop (i*E.size)=E.all (l.drop i)
 |l,0=>by simp
 |[],i+1=>by simp[fN.all]
 |x::l,i+1=>by
   have:=fN.wN E l i
   simp only[fN.all,Lk,List.drop_succ_cons] at this ⊢
   rw[<-this,show (i+1)*E.size=(E.enc x).length+i*E.size by rw[E.len,L7];omega,<-List.drop_drop,List.drop_left]
theorem fN.uU {α:Type}(E:fN α):∀(l:List α) (i:Nat),(E.all l).take (i*E.size)=E.all (l.take i)
 |l,0=>by simp[fN.all]
 |[],i+1=>by simp[fN.all]
 |x::l,i+1=>by
   have:=fN.uU E l i
   simp only[fN.all,Lk,List.take_succ_cons] at this ⊢
   rw[<-this,show (i+1)*E.size=(E.enc x).length+i*E.size by rw[E.len,L7];omega,QC]
abbrev cS {α:Type}(E:fN α)(H:Heap)(a:Option Addr)(l:List α):Prop:=Reads H a (E.all l)
abbrev aK {α:Type}(E:fN α)(e:TypeId)(H:Heap)(s:Sl)(l:List α):Prop:=aT H 0 e E.size s (E.all l)
section
variable {α:Type}{E:fN α}{e:TypeId}{H:Heap}{s:Sl}{l:List α}
theorem aK.nil (E:fN α)(e:TypeId)(H:Heap):aK E e H (Sl.mk none 0 0) []:=aT.nil H 0 e E.size
theorem aK.n (h:aK E e H s l)(hs:0<E.size):s.n=l.length:=by
 have h1:=h.1
 rw[fN.bU] at h1
 exact(Nat.eq_of_mul_eq_mul_right hs h1).symm
theorem aK.Jq (h:aK E e H s l)(hs:0<E.size)(ha:s.a=none):l=[]:=by
 have h1:=aT.Jv h ha
 have h2:=aK.n h hs
 exact List.eq_nil_of_length_eq_zero (by omega)
theorem cS.cell {a:Option Addr}(h:cS E H a l){i j:Nat}{x:α}{v:Value}(hi:l[i]?=some x)(hv:(E.enc x)[j]?=some v):∃ad,a=some ad/\de H (ad.add (i*E.size+j))=some v:=by
 have hj:j<E.size:=by have:=(KI.1 hv).1;rwa [E.len] at this
 exact h _ v (by rw[E.uh l i j hj,hi];exact hv)
theorem cS.ld {c:eN}{a:Option Addr}{ad:Addr}(h:cS E H a l)(ha:a=some ad){i j:Nat}{x:α}{y:c.α}(hi:l[i]?=some x)(hv:(E.enc x)[j]?=some (c.enc y)){n:Nat}(hn:n=i*E.size){K:c.α->Prop}(hK:K y):ld c H ((ad.add n).add j) K:=by
 obtain⟨ad',e1,hc⟩:=h.cell hi hv
 rw[ha] at e1;cases e1
 subst hn
 exact⟨y,by rw[add_add];exact hc,hK⟩
theorem cS.row {a:Option Addr}{ad:Addr}(h:cS E H a l)(ha:a=some ad){i:Nat}{x:α}(hi:l[i]?=some x):kT H (ad.add (i*E.size)) E.size (.agg (E.enc x).toArray):=by
 refine⟨_,rfl,by simp[E.len],λj hj=>?_⟩
 have hv:(E.enc x)[j]?=some ((E.enc x)[j]'(by rw[E.len];exact hj)):=KJ _
 obtain⟨ad',e1,hc⟩:=h.cell hi hv
 rw[ha] at e1;cases e1
 rw[add_add,hc]
 simp
theorem cS.dI {c:eN}{a:Option Addr}{ad:Addr}(h:cS E H a l)(ha:a=some ad){i:Nat}{x:α}{y:c.α}(hi:l[i]?=some x)(hv:c.enc y=.agg (E.enc x).toArray){n m:Nat}(hn:n=i*E.size)(hm:m=E.size){K:c.α->Prop}(hK:K y):dI c m H (ad.add n) K:=by
 subst hn;subst hm
 exact⟨y,by rw[hv];exact h.row ha hi,hK⟩
theorem cS.addr {a:Option Addr}(h:cS E H a l)(hs:0<E.size)(hl:0<l.length):∃ad,a=some ad:=by
 have h0:0<(E.all l).length:=by rw[E.bU];exact Nat.mul_pos hl hs
 obtain⟨ad,e1,_⟩:=h.at h0
 exact⟨ad,e1⟩
theorem cS.drop {c i:Nat}{a:Option Addr}(h:cS E H a l)(hc:l.length<=c):cS E H (fP a c i E.size) (l.drop i):=by
 unfold fP
 split
 ·rename_i hci
  have hci':c=i:=by simpa using hci
  rw[LK (by omega)]
  exact Reads.nil _ _
 ·intro j v hv
  rw[<-E.wN,List.getElem?_drop] at hv
  obtain⟨ad,e1,hc1⟩:=h _ v hv
  refine⟨ad.add (i*E.size),by rw[e1];rfl,?_⟩
  rw[add_add];exact hc1
theorem cS.take {i:Nat}{a:Option Addr}(h:cS E H a l):cS E H a (l.take i):=by
 have:=Reads.take h (i*E.size)
 rwa [E.uU] at this
theorem cS.ak {H':Heap}{a:Option Addr}(h:cS E H a l)(k:∀ad,a=some ad->ad.block<H.size->H'[ad.block]?=H[ad.block]?):cS E H' a l:=by
 intro i v hv
 obtain⟨ad,ha,hc⟩:=h i v hv
 have hlt:=fK hc
 rw[cO] at hlt
 exact⟨ad,ha,(dV (by rw[cO];exact k ad ha hlt)).trans hc⟩
theorem aK.rd (h:aK E e H s l):cS E H s.a l:=aT.reads h
def uy (P:Program)(t e:TypeId)(size bytes:Nat):Prop:=∃(inf:TypeInfo) (z:Value),P.underlying t=some (.slice e)/\P.info? e=some inf/\inf.zero=some z/\z.cells.size=inf.size/\inf.size=size/\inf.bytes=bytes/\0<size
def Jf (P:Program)(t e:TypeId)(size bytes:Nat):Bool:=
 (match P.underlying t with|some (.slice e')=>K6 e' e|_=>false)&&
 (match P.info? e with|some inf=>(match inf.zero with|some v=>K6 v.cells.size inf.size|none=>false)&&(K6 inf.size size&&(K6 inf.bytes bytes&&Nat.blt 0 size))|none=>false)
theorem ic {P:Program}{t e:TypeId}{size bytes:Nat}(h:Jf P t e size bytes=true):uy P t e size bytes:=by
 unfold Jf at h
 simp only[KR] at h
 obtain⟨h1,h2⟩:=h
 split at h1
 ·rename_i e' he
  split at h2
  ·rename_i inf hi
   simp only[KR] at h2
   obtain⟨h3,h4,h5,h6⟩:=h2
   split at h3
   ·rename_i v hv
    have:=KX h1
    subst this
    exact⟨inf,v,he,hi,hv,KX h3,KX h4,KX h5,by simp[Nat.blt] at h6;omega⟩
   ·cases h3
  ·cases h2
 ·cases h1
variable {P:Program}{t:TypeId}{bytes:Nat}
abbrev Grown (s s':Sl)(H H':Heap):Prop:=Mod (al s) H H'/\(∀b,al s' b->al s b\/H.size<=b)
theorem aK.append (he:uy P t e E.size bytes){ty:TypeId}{x:Sl}{r:List α}{K:Sl->Heap->Prop}(h:aK E e H s l)(hx:cS E H x.a r)(hn:x.n=r.length)
  (hl:l.length+r.length<=1099511627776) (hb:(l.length+r.length)*bytes<=140737488355328)
  (hK:∀(s':Sl) (H':Heap),aK E e H' s' (l++r)->Grown s s' H H'->(s'.a=none↔s.a=none/\r.length=0)->K s' H'):bt av P (KM #[t,t] ty #[s.v,x.v]) H K:=by
 obtain⟨inf,z,ht,hi,hz,hzs,hs,hbt,h0⟩:=he
 have hsn:=aK.n h h0
 refine mv (base:=0) (xs:=E.all l) (ws:=E.all r) ht hi hz hzs (by omega) (by rw[hs];exact h) (by rw[E.bU,hn,hs]) hx (E.yR r) (by omega) (by rw[hbt,hsn,hn];exact hb) (Lh _) ?_
 intro s' H' h1 h2 h3 h4 h5
 refine hK s' H' ?_ ⟨h3,h4⟩ (by rw[h5,hn])
 rw[hs,<-E.all_append] at h2
 exact h2
theorem aK.push (he:uy P t e E.size bytes){ty:TypeId}{x:α}{cs:Array Value}{K:Sl->Heap->Prop}(h:aK E e H s l)(hcs:cs.toList=E.enc x)
  (hl:l.length+1<=1099511627776) (hb:(l.length+1)*bytes<=140737488355328)
  (hK:∀(s':Sl) (H':Heap),aK E e H' s' (l++[x])->Grown s s' H H'->s'.a≠none->K s' H'):
  aF H cs e λp H1=>bt av P (KM #[t,t] ty #[s.v,.slice (some p) 1 1]) H1 K:=by
 have hm:Mod (λ_=>False) H (H.push (.cells cs e)):=Mod.push _ _ _
 refine aK.append he (s:=s) (x:=⟨some ⟨H.size,0,none⟩,1,1⟩) (r:=[x]) (aT.ext h hm) ?_ rfl (by simpa using hl) (by simpa using hb) ?_
 ·intro i v hv
  simp only[fN.all,Lk,List.flatMap_nil,List.append_nil] at hv
  exact⟨_,rfl,by rw[aX];exact cW (c:=cs) (t:=e) (fz:=(0,0)) (by simp) (by rw[<-hcs] at hv;simpa using hv)⟩
 ·intro s' H' h1 h2 h3
  refine hK s' H' h1 ⟨(Ext.mod hm).trans h2.1,λb hb=>(h2.2 b hb).imp id λq=>?_⟩ (λq=>by have:=(h3.1 q).2;simp at this)
  simp at q;omega
theorem aK.DU (he:uy P t e E.size bytes){ty:TypeId}{x:α}{cs:Array Value}{K:Sl->Heap->Prop}(h:aK E e H s l)(hcs:cs.toList=E.enc x)
  (hl:l.length+1<=1099511627776) (hb:(l.length+1)*bytes<=140737488355328) (J:Heap->Prop) (hJ:∀H1,H1.size=H.size+1->Mod (λ_=>False) H H1->J H1)
  (hK:∀(s':Sl) (H':Heap),aK E e H' s' (l++[x])->Grown s s' H H'->s'.a≠none->K s' H'):
  aF H cs e λp H1=>J H1/\bt av P (KM #[t,t] ty #[s.v,.slice (some p) 1 1]) H1 K:=
 ⟨hJ _ (by simp) (Mod.push _ _ _),aK.push he h hcs hl hb hK⟩
theorem xV (off:Nat)(v:List Value):∀(o:Nat) (cs:Array Value),off+o+v.length<=cs.size->(v.zipIdx o).foldl (λcs (p:Value×Nat)=>cs.setIfInBounds (off+p.2) p.1) cs=(cs.toList.take (off+o)++v++cs.toList.drop (off+o+v.length)).toArray:=by
 induction v with
 |nil=>intro o cs _;simp
 |cons a v ih=>
   intro o cs h
   simp only[Ln] at h
   rw[List.zipIdx_cons,List.foldl_cons,ih (o+1) _ (by simp;omega)]
   have e:=list_seg_step cs.toList (off+o) a v (by simp;omega)
   simpa[Nat.add_assoc] using e
theorem lq {place:Nat->Option (Nat×Nat)}{cells:Array Value}{i off n:Nat}{v:Value}{rest:List (Nat×Value)}(hp:place i=some (off,n))(hn:v.cells.size=n)(hf:off+n<=cells.size):
  MP place cells ((i,v)::rest)=MP place (cells.toList.take off++v.cells.toList++cells.toList.drop (off+n)).toArray rest:=by
 have e1:=xV off v.cells.toList 0 cells (by simp;omega)
 simp only[MP,hp]
 rw[if_neg (by simp;omega),<-Array.foldl_toList,Array.toList_zipIdx]
 rw[e1]
 simp[hn]
theorem yF {n:Nat}{cs base:Array Value}(hb:base.size=n)(hc:cs.size=n):MP (λi=>some (i*n,n)) base [(0,.agg cs)]=some cs:=by
 rw[lq (off:=0) (n:=n) (v:=.agg cs) (by simp) hc (by omega)]
 simp only[MP]
 rw[LK (by simp;omega)]
 have:(Value.agg cs).cells=cs:=rfl
 simp[this]
theorem aK.CQ (he:uy P t e E.size bytes){ty:TypeId}{x:α}{cs:Array Value}{K:Sl->Heap->Prop}(h:aK E e H s l)(hcs:cs.toList=E.enc x)(hsz:E.size<=16777216)
  (hl:l.length+1<=1099511627776) (hb:(l.length+1)*bytes<=140737488355328) (J:Heap->Prop)
  (hJ:∀H1,H1.size=H.size+1->Mod (λ_=>False) H H1->J H1)
  (hK:∀(s':Sl) (H':Heap),aK E e H' s' (l++[x])->Grown s s' H H'->s'.a≠none->K s' H'):
  bt av P (Lx t 1 #[(0,.agg cs)]) H λsl H1=>J H1/\bt av P (KM #[t,t] ty #[s.v,sl.v]) H1 K:=by
 obtain⟨inf,z,ht,hi,hz,hzs,hs,hbt,h0⟩:=id he
 have hcl:cs.size=E.size:=by rw[<-E.len x,<-hcs];simp
 intro w hw
 subst hw
 have hfill:=yF (n:=inf.size) (cs:=cs) (base:=(Array.range (1*inf.size)).map (z.cells[·%z.cells.size]!)) (by simp) (by omega)
 have hrun:(Lx t 1 #[(0,.agg cs)]).run P w=.ok (.slice (some ⟨w.heap.size,0,none⟩) 1 1) {w with heap:=w.heap.push (.cells cs e)}:=by
  have hne:¬(1*inf.size>2^24):=by omega
  have hne0:inf.size≠0:=by omega
  simp[Lx,run_underlying ht,sizeOf,typeInfo,hi,hne0,zeroValue,hz,newRow,newObj,Mr]
  rw[if_neg (by omega)]
  simp[Nat.one_mul] at hfill
  simp[hfill,L4,Mr]
 refine⟨_,_,hrun,⟨⟨some ⟨w.heap.size,0,none⟩,1,1⟩,rfl,hJ _ (by simp) (Mod.push _ _ _),?_⟩,(.of_le rfl (KN _))⟩
 exact aK.push he h hcs hl hb hK
theorem bt.mono {c:eN}{q:Sem Value}{K K':c.α->Heap->Prop}(h:bt c P q H K)(hk:∀x H',K x H'->K' x H'):bt c P q H K':=λw hw=>by
 obtain⟨v,w',h1,⟨x,h2,h3⟩,h4⟩:=h w hw
 exact⟨v,w',h1,⟨x,h2,hk _ _ h3⟩,h4⟩
theorem aK.zy (he:uy P t e E.size bytes){ty:TypeId}{x:α}{cs:Array Value}{K:Sl->Heap->Prop}(h:aK E e H s l)(hcs:cs.toList=E.enc x)(hsz:E.size<=16777216)
  (hl:l.length+1<=1099511627776) (hb:(l.length+1)*bytes<=140737488355328)
  (hK:∀(s':Sl) (H':Heap),aK E e H' s' (l++[x])->Grown s s' H H'->s'.a≠none->K s' H'):
  bt av P (Lx t 1 #[(0,.agg cs)]) H λsl H1=>bt av P (KM #[t,t] ty #[s.v,sl.v]) H1 K:=
 (aK.CQ he h hcs hsz hl hb (λ_=>True) (λ_ _ _=>trivial) hK).mono λ_ _ h=>h.2
theorem HF (he:uy P t e E.size bytes){K:Sl->Heap->Prop}(hK:∀(s':Sl) (H':Heap),aK E e H' s' []->Mod (λ_=>False) H H'->(∀b,al s' b->H.size<=b)->s'.a≠none->K s' H'):bt av P (Lx t 0 #[]) H K:=by
 obtain⟨inf,z,ht,hi,hz,hzs,hs,hbt,h0⟩:=he
 intro w hw
 subst hw
 have hrun:(Lx t 0 #[]).run P w=.ok (.slice (some ⟨w.heap.size,0,none⟩) 0 0) {w with heap:=w.heap.push (.cells #[] e)}:=by
  simp[Lx,run_underlying ht,sizeOf,typeInfo,hi,newRow,newObj,MP,Mr,L4]
  congr 2
  exact Array.eq_empty_of_size_eq_zero (by simp)
 refine⟨_,_,hrun,⟨⟨some ⟨w.heap.size,0,none⟩,0,0⟩,rfl,hK _ _ ?_ (Mod.push _ _ _) ?_ (by simp)⟩,(.of_le rfl (KN _))⟩
 ·exact aT.fresh (Lh _) (KN _) (by unfold maxLen;omega) (by simp) (by simp[fN.all]) (by simp[fN.all])
 ·rintro b ⟨ad,e1,e2⟩;cases e1;have:w.heap.size=b:=e2;omega
theorem aK.st {K:Heap->Prop}(h:aK E e H s l){ad:Addr}(ha:s.a=some ad){i j:Nat}{x y:α}{v:Value}(hi:l[i]?=some x)(hj:j<E.size)(hp:jN v=true)(hy:E.enc y=(E.enc x).set j v){n:Nat}(hn:n=i*E.size)
  (hK:∀H',aK E e H' s (l.set i y)->Mod (al s) H H'->H'.size=H.size->K H'):Go.Proofs.YtdpdmbceakdlmaaGreatDoor.st H ((ad.add n).add j) v K:=by
 subst hn
 have hil:i<l.length:=(KI.1 hi).1
 have hlen:=E.bU l
 have hij:i*E.size+j<l.length*E.size:=by
  have:=Ly E.size (Nt hil);rw[L7] at this;omega
 rcases h.2 with ⟨e1,e2⟩|⟨g,cap,cur,e1,hb,hg,h4,h5,h6,h7⟩
 ·cases s;simp only[Sl.v,Ld] at e1 ha;rw[e1.1] at ha;cases ha
 ·have ea:s.a=some ⟨g,0,none⟩:=by
   cases s;simp only[Sl.v,Ld] at e1;exact e1.1
  rw[ea] at ha;cases ha
  have hl1:=h.1
  have hc2:i*E.size+j<cur.size:=by
   have:=Ly E.size h4
   rw[h6];omega
  rw[add_add,aX]
  refine⟨hp,⟨_,cW hg (K2 hc2)⟩,dR hg,hK _ ?_ (Mod.set ⟨_,ea,rfl⟩) (gY _ _ _)⟩
  have hset:(E.all l).set (i*E.size+j) v=E.all (l.set i y):=by
   rw[E.ue l i y hil,hy]
   have hx:(E.all l)=(E.all l).take (i*E.size)++E.enc x++(E.all l).drop (i*E.size+E.size):=by
    have:=E.ue l i x hil
    have hx':l[i]=x:=by rw[KJ hil] at hi;exact K1 hi
    rwa [<-hx',List.set_getElem_self,hx'] at this
   have hA:((E.all l).take (i*E.size)).length=i*E.size:=by
    rw[List.length_take,hlen]
    have:=Ly E.size (Nat.le_of_lt hil);omega
   conv=>lhs;rw[hx]
   rw[LG,List.set_append_right _ _ (by omega),hA,Nat.add_sub_cancel_left,List.set_append_left _ _ (by rw[E.len];exact hj),LG]
  refine⟨by rw[<-hset];simpa using h.1,.inr ⟨g,cap,cur.setIfInBounds (i*E.size+j) v,e1,hb,nE (a:=⟨g,i*E.size+j,none⟩) hg rfl,h4,h5,by simpa using h6,?_⟩⟩
  rw[<-hset,<-h7]
  simp[List.take_set]
theorem aK.Js {ty:TypeId}{cs:Array Value}{K:Heap->Prop}(h:aK E e H s l){ad:Addr}(ha:s.a=some ad){i:Nat}{y:α}(hil:i<l.length)(hcs:cs.toList=E.enc y)(hi:nV P ty E.size=true){n:Nat}(hn:n=i*E.size)
  (hK:∀H',aK E e H' s (l.set i y)->Mod (al s) H H'->H'.size=H.size->K H'):lQ P (Li ty (.pointer (some (ad.add n))) (.agg cs)) H K:=by
 subst hn
 have hlen:=E.bU l
 have hcl:cs.size=E.size:=by rw[<-E.len y,<-hcs];simp
 have hij:i*E.size+E.size<=l.length*E.size:=by
  have:=Ly E.size (Nt hil);rw[L7] at this;omega
 rcases h.2 with ⟨e1,e2⟩|⟨g,cap,cur,e1,hb,hg,h4,h5,h6,h7⟩
 ·cases s;simp only[Sl.v,Ld] at e1 ha;rw[e1.1] at ha;cases ha
 ·have ea:s.a=some ⟨g,0,none⟩:=by
   cases s;simp only[Sl.v,Ld] at e1;exact e1.1
  rw[ea] at ha;cases ha
  have hl1:=h.1
  have hc2:i*E.size+E.size<=cur.size:=by
   have:=Ly E.size h4
   rw[h6];omega
  rw[aX]
  refine iR (b:=g) (o:=i*E.size) (cur:=cur) (t:=e) hg (by rw[hcl];exact hi) (by omega) (by rw[hcs];exact E.one y) λH' r1 r2 r3=>hK H' ?_ (r2.mono λb _ hb=>⟨_,ea,hb.symm⟩) r3
  refine⟨by simpa[E.bU] using h.1,.inr ⟨g,cap,_,e1,hb,r1,h4,h5,?_,?_⟩⟩
  ·simp[hcl];omega
  ·rw[E.ue l i y hil,<-h7,hcs]
   simp only[hcl]
   have hT:(cur.toList.take (i*E.size)).length=i*E.size:=by simp;omega
   have hsn:i*E.size+E.size<=s.n*E.size:=by omega
   rw[List.take_append,List.take_of_length_le (by simp[hT,E.len];omega),List.take_take,Nat.min_eq_left (by omega)]
   congr 1
   rw[Lj,hT,E.len,List.take_drop]
   congr 2
   omega
end
end Go.Proofs.YtdpdmbceakdlmaaGreatDoor
