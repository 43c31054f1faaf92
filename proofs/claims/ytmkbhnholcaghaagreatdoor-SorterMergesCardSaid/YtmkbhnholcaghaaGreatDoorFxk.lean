/-
 Ground, eleventh text: rows with their type, slices of elements of several cells, stores of aggregates; what stays is told by single blocks.
-/
import Derived.Test.YtmkbhnholcaghaaGreatDoorFxj
import Derived.Test.YtmkbhnholcaghaaGreatDoorFxi
open Array renaming getElem?_eq_getElem->OX
open Bool renaming and_eq_true->OB
open Go.Addr renaming add->O4
open Go.Builtin renaming append_->Oq
open Go.Instr renaming storeAt->OI,buildSlice->PH,fill->QY
open Go.Result renaming andThen->Qm
open Go.Sem renaming run->PY
open Go.Value.slice renaming injEq->ON
open List renaming getElem?_eq_some_iff->Om,getElem?_eq_getElem->On,length_append->OU,length_cons->O3,flatMap_cons->Pk,append_assoc->Pm,drop_of_length_le->Ps,take_length_add_append->UU
open Nat renaming le_refl->Ot,eq_of_beq_eq_true->OD,zero_le->OL,beq->OQ,mul_le_mul_right->OZ,succ_mul->Px,zero_add->PI,succ_le_of_lt->Rq,zero_mul->VQ
open Option.some renaming inj->OS
namespace Go.Proofs.YtmkbhnholcaghaaGreatDoor
theorem aA {H:aa}{b:Nat}{o:Obj}(h:H[b]?=some o):b<H.size:=(Array.getElem?_eq_some_iff.1 h).1
theorem Mod.at {F:Nat->Prop}{H H':aa}(hm:Mod F H H'){b:Nat}{o:Obj}(h:H[b]?=some o)(a:¬F b):H'[b]?=some o:=(hm.same b (aA h) a).trans h
theorem bk (b n:Nat):(⟨b,0,none⟩:Addr).add n=⟨b,n,none⟩:=by rw[add_lit,PI]
abbrev aj (H:aa)(b:Nat)(t:TypeId)(cs:Array Value):Prop:=H[b]?=some (.cells cs t (0,0))
theorem aj.mod {F:Nat->Prop}{H H':aa}{b:Nat}{t:TypeId}{cs:Array Value}(h:aj H b t cs)(hm:Mod F H H')(a:¬F b):aj H' b t cs:=hm.at h a
theorem aj.ext {H H':aa}{b:Nat}{t:TypeId}{cs:Array Value}(h:aj H b t cs)(hm:Mod (λ_=>False) H H'):aj H' b t cs:=hm.at h id
theorem aj.cell {H:aa}{b:Nat}{t:TypeId}{cs:Array Value}(h:aj H b t cs){i:Nat}{v:Value}(hi:cs[i]?=some v):cI H ⟨b,i,none⟩=some v:=cC h hi
theorem aj.ld {c:eM}{H:aa}{b:Nat}{t:TypeId}{cs:Array Value}(h:aj H b t cs){i:Nat}{x:c.α}(hi:cs[i]?=some (c.enc x)){K:c.α->Prop}(a:K x):Go.Proofs.YtmkbhnholcaghaaGreatDoor.ld c H (O4 ⟨b,0,none⟩ i) K:=
 ⟨x,by rw[bk];exact h.cell hi,a⟩
theorem aj.dt {c:eM}{G:aa->Prop}{b:Nat}{t:TypeId}{cs:aa->Array Value}(h:∀H,G H->aj H b t (cs H)){i:Nat}{x:c.α}(hi:∀H,G H->(cs H)[i]?=some (c.enc x)){K:c.α->Prop}(d:K x):Go.Proofs.YtmkbhnholcaghaaGreatDoor.dt c G (O4 ⟨b,0,none⟩ i) K:=
 ⟨x,λH' a=>by rw[bk];exact(h H' a).cell (hi H' a),d⟩
theorem aj.lT {H:aa}{b:Nat}{t:TypeId}{cs:Array Value}(h:aj H b t cs){o n:Nat}{ds:Array Value}(a:ds.size=n)(hd:∀i,i<n->cs[o+i]?=ds[i]?):Go.Proofs.YtmkbhnholcaghaaGreatDoor.lT H ⟨b,o,none⟩ n (.agg ds):=by
 refine⟨ds,rfl,a,λi hi=>?_⟩;have h1:=hd i hi;rw[add_lit];rw[<-h1];have:ds[i]?=some ds[i]:=OX (by omega);rw[h1,this];exact h.cell (h1.trans this)
theorem aj.c9 {c:eM}{H:aa}{b:Nat}{t:TypeId}{cs:Array Value}(h:aj H b t cs){n:Nat}{x:c.α}(a:c.enc x=.agg cs)(d:cs.size=n){K:c.α->Prop}(e:K x):Go.Proofs.YtmkbhnholcaghaaGreatDoor.c9 c n H ⟨b,0,none⟩ K:=
 ⟨x,by rw[a];exact h.lT d (λi _=>by rw[PI]),e⟩
theorem aj.st {H:aa}{b:Nat}{t:TypeId}{cs:Array Value}{v:Value}{K:aa->Prop}(h:aj H b t cs){i:Nat}(hi:i<cs.size)(c:jq v=true)
  (d:∀H',aj H' b t (cs.setIfInBounds i v)->Mod (λx=>x=b) H H'->H'.size=H.size->K H'):Go.Proofs.YtmkbhnholcaghaaGreatDoor.st H (O4 ⟨b,0,none⟩ i) v K:=by
 rw[bk];exact⟨c,⟨_,h.cell (OX hi)⟩,dx h,d _ (oy (a:=⟨b,i,none⟩) h rfl) (Mod.set rfl) (iA _ _ _)⟩
theorem av {H:aa}{cs:Array Value}{t:TypeId}{K:Addr->aa->Prop}(a:∀H',H'.size=H.size+1->aj H' H.size t cs->Mod (λ_=>False) H H'->K ⟨H.size,0,none⟩ H'):aJ H cs t K:=
 a _ (by simp) (by simp[aj]) (Mod.push _ _ _)
theorem zj {P:Program}{ty:TypeId}{n:Nat}(hi:nJ P ty n=true):∃i,P.info? ty=some i/\i.size=n:=by
 unfold nJ at hi;split at hi
 ·rename_i i he;exact⟨i,he,OD hi⟩
 ·cases hi
theorem je {P:Program}{ty:TypeId}{H:aa}{b o:Nat}{t:TypeId}{cur cs:Array Value}{K:aa->Prop}(h:aj H b t cur)(hi:nJ P ty cs.size=true)(a:o+cs.size<=cur.size)(h1:∀v∈cs.toList,v.oneCell'=true)
  (d:∀H',aj H' b t (cur.toList.take o++cs.toList++cur.toList.drop (o+cs.size)).toArray->Mod (λx=>x=b) H H'->H'.size=H.size->K H'):jo P (OI ty (.pointer (some ⟨b,o,none⟩)) (.agg cs)) H K:=by
 intro w hw;subst hw;obtain⟨i,he,hs⟩:=zj hi;have e:=run_storeCells_at (P:=P) b o t cs.toList 0 cur w h (by simpa using a) h1;have f:(OI ty (.pointer (some ⟨b,o,none⟩)) (.agg cs)).run P w=.ok () (w.setRow b (cur.toList.take o++cs.toList++cur.toList.drop (o+cs.size)).toArray):=by
  have c:(sizeOf ty).run P w=.ok cs.size w:=by simp[sizeOf,typeInfo,he,hs]
  simp only[OI,Instr.sureAddr,Sem.run_bind,Sem.run_pure,Result.andThen_ok,storeVar,c,Value.cells];simpa using e
 exact⟨(),_,f,d _ (setRow_heap w b cur _ t _ h) ⟨by simp,λk _ hk=>setRow_other w b k _ hk⟩ (by simp),(.of_le rfl (Ot _))⟩
theorem aj.iI {P:Program}{ty:TypeId}{H:aa}{b:Nat}{t:TypeId}{cur cs:Array Value}{K:aa->Prop}(h:aj H b t cur)(hi:nJ P ty cs.size=true)(d:cur.size=cs.size)(h1:∀v∈cs.toList,v.oneCell'=true)
  (c:∀H',aj H' b t cs->Mod (λx=>x=b) H H'->H'.size=H.size->K H'):jo P (OI ty (.pointer (some ⟨b,0,none⟩)) (.agg cs)) H K:=
 je h hi (by omega) h1 λH' a=>c H' (by
  have e:(cur.toList.take 0++cs.toList++cur.toList.drop (0+cs.size)).toArray=cs:=by
   rw[Ps (by simp;omega)];simp
  rw[e] at a;exact a)
theorem al {α:Type}(a:α)(K:α->Prop):ae (some a) K=K a:=rfl
theorem aP {b:Bool}{A B:Prop}(h:b=true)(k:A):br b A B:=by subst h;exact k
theorem aC {b:Bool}{A B:Prop}(h:b=false)(k:B):br b A B:=by subst h;exact k
theorem rR {d:TypeDesc}{H:aa}{K:Nat->aa->Prop}(a:∀H',H'.size=H.size+1->cc d H' H.size #[] 0->Mod (λ_=>False) H H'->K H.size H'):Fx H K:=
 a _ (by simp) (cc.new d H) (Mod.push _ _ _)
def FC (P:Program)(t kt:TypeId)(d:TypeDesc):Prop:=∃(a:TypeId) (inf:TypeInfo),P.underlying t=some (.map kt a)/\P.underlying kt=some d/\P.info? a=some inf/\inf.zero=some (.pointer none)
def Ei (P:Program)(t kt:TypeId):Bool:=
 match P.underlying t with|some (.map a b)=>OQ a kt&&(match P.info? b with|some inf=>(match inf.zero with|some (.pointer none)=>true|_=>false)|none=>false)|_=>false
theorem sf {P:Program}{t kt:TypeId}{d:TypeDesc}(h:Ei P t kt=true)(hd:P.underlying kt=some d):FC P t kt d:=by
 unfold Ei at h;split at h
 ·rename_i b c q;simp only[OB] at h;obtain⟨h1,a⟩:=h;have:=OD h1;subst this;split at a
  ·rename_i inf e;split at a
   ·rename_i f;exact⟨c,inf,q,hd,e,f⟩
   ·cases a
  ·cases a
 ·cases h
theorem aO.keep {H H':aa}{base:Nat}{e:TypeId}{size:Nat}{s:Sl}{xs:List Value}(h:aO H base e size s xs)(k:∀b,ah s b->b<H.size->H'[b]?=H[b]?):aO H' base e size s xs:=by
 refine⟨h.1,h.2.imp id ?_⟩;rintro⟨g,cap,cur,a,c,d,f⟩;refine⟨g,cap,cur,a,c,?_,f⟩;have hs:ah s g:=by
  cases s;simp only[Sl.v,ON] at a;exact⟨_,a.1,rfl⟩
 exact(k g hs (h.block g hs).2).trans d
theorem aO.lt {H:aa}{base:Nat}{e:TypeId}{size:Nat}{s:Sl}{xs:List Value}(h:aO H base e size s xs):∀b,ah s b->b<H.size:=λb a=>(h.block b a).2
theorem aO.xh {H:aa}{base:Nat}{e:TypeId}{size:Nat}{s:Sl}{xs:List Value}(h:aO H base e size s xs):aO H 0 e size s xs:=
 ⟨h.1,h.2.imp id λ⟨g,cap,cur,a,_,b⟩=>⟨g,cap,cur,a,OL _,b⟩⟩
theorem cc.keep {d:TypeDesc}{H H':aa}{r:Nat}{es:Array MapEntry}{clk:Nat}(h:cc d H r es clk)(k:H'[r]?=H[r]?):cc d H' r es clk:=⟨k.trans h.obj,h.stamped,h.keys⟩
structure eK (α:Type) where
 size:Nat
 enc:α->List Value
 len:∀x,(enc x).length=size
 one:∀x,∀u∈enc x,u.oneCell'=true
def eK.all {α:Type}(E:eK α)(l:List α):List Value:=l.flatMap E.enc
theorem eK.bX {α:Type}(E:eK α):∀l:List α,(E.all l).length=l.length*E.size
 |[]=>by simp[eK.all]
 |x::l=>by
   have:=eK.bX E l;simp only[eK.all,Pk,OU,E.len,O3] at this ⊢;rw[this,Px];omega
theorem eK.Cc {α:Type}(E:eK α)(l:List α):∀u∈E.all l,u.oneCell'=true:=by
 intro u hu;obtain⟨x,_,a⟩:=List.mem_flatMap.1 hu;exact E.one x u a
theorem eK.all_append {α:Type}(E:eK α)(l r:List α):E.all (l++r)=E.all l++E.all r:=by simp[eK.all]
theorem eK.vP {α:Type}(E:eK α):∀(l:List α) (i j:Nat),j<E.size->(E.all l)[i*E.size+j]?=(l[i]?).bind λx=>(E.enc x)[j]?
 |[],i,j,_=>by simp[eK.all]
 |x::l,0,j,a=>by
   simp only[eK.all,Pk,VQ,PI,List.getElem?_cons_zero,Option.bind_some];rw[List.getElem?_append_left (by rw[E.len];exact a)]
 |x::l,i+1,j,a=>by
   have:=eK.vP E l i j a;simp only[eK.all,Pk,List.getElem?_cons_succ] at this ⊢;rw[List.getElem?_append_right (by rw[E.len,Px];omega),E.len,<-this];congr 1;rw[Px];omega
theorem eK.wF {α:Type}(E:eK α)(l:List α)(i:Nat)(y:α)(hi:i<l.length):E.all (l.set i y)=(E.all l).take (i*E.size)++E.enc y++(E.all l).drop (i*E.size+E.size):=by
 induction l generalizing i with
 |nil=>simp at hi
 |cons x l a=>
   cases i with
   |zero=>
     simp only[eK.all,List.set_cons_zero,Pk,VQ,List.take_zero,List.nil_append,PI];rw[List.drop_append_of_le_length (by rw[E.len];exact Ot _),Ps (by rw[E.len];exact Ot _)];simp
   |succ i=>
     have h1:=a i (by simpa using hi);simp only[eK.all,List.set_cons_succ,Pk] at h1 ⊢;rw[h1,Px];have b:i*E.size+E.size=(E.enc x).length+i*E.size:=by rw[E.len];omega
     have e2:i*E.size+E.size+E.size=(E.enc x).length+(i*E.size+E.size):=by rw[E.len];omega
     rw[e2,List.drop_length_add_append,b,UU];simp
theorem eK.xw {α:Type}(E:eK α):∀(l:List α) (i:Nat),(E.all l).drop (i*E.size)=E.all (l.drop i)
 |l,0=>by simp
 |[],i+1=>by simp[eK.all]
 |x::l,i+1=>by
   have:=eK.xw E l i;simp only[eK.all,Pk,List.drop_succ_cons] at this ⊢;rw[<-this,show (i+1)*E.size=(E.enc x).length+i*E.size by rw[E.len,Px];omega,<-List.drop_drop,List.drop_left]
theorem eK.ti {α:Type}(E:eK α):∀(l:List α) (i:Nat),(E.all l).take (i*E.size)=E.all (l.take i)
 |l,0=>by simp[eK.all]
 |[],i+1=>by simp[eK.all]
 |x::l,i+1=>by
   have:=eK.ti E l i;simp only[eK.all,Pk,List.take_succ_cons] at this ⊢;rw[<-this,show (i+1)*E.size=(E.enc x).length+i*E.size by rw[E.len,Px];omega,UU]
abbrev bQ {α:Type}(E:eK α)(H:aa)(a:Option Addr)(l:List α):Prop:=Reads H a (E.all l)
abbrev az {α:Type}(E:eK α)(e:TypeId)(H:aa)(s:Sl)(l:List α):Prop:=aO H 0 e E.size s (E.all l)
section
variable {α:Type}{E:eK α}{e:TypeId}{H:aa}{s:Sl}{l:List α}
theorem az.nil (E:eK α)(e:TypeId)(H:aa):az E e H (Sl.mk none 0 0) []:=aO.nil H 0 e E.size
theorem az.n (h:az E e H s l)(hs:0<E.size):s.n=l.length:=by
 have h1:=h.1;rw[eK.bX] at h1;exact(Nat.eq_of_mul_eq_mul_right hs h1).symm
theorem az.Mw (h:az E e H s l)(hs:0<E.size)(a:s.a=none):l=[]:=by
 have h1:=aO.Mu h a;have b:=az.n h hs;exact List.eq_nil_of_length_eq_zero (by omega)
theorem bQ.cell {a:Option Addr}(h:bQ E H a l){i j:Nat}{x:α}{v:Value}(hi:l[i]?=some x)(b:(E.enc x)[j]?=some v):∃ad,a=some ad/\cI H (ad.add (i*E.size+j))=some v:=by
 have c:j<E.size:=by have:=(Om.1 b).1;rwa [E.len] at this
 exact h _ v (by rw[E.vP l i j c,hi];exact b)
theorem bQ.ld {c:eM}{a:Option Addr}{ad:Addr}(h:bQ E H a l)(d:a=some ad){i j:Nat}{x:α}{y:c.α}(hi:l[i]?=some x)(f:(E.enc x)[j]?=some (c.enc y)){n:Nat}(g:n=i*E.size){K:c.α->Prop}(k:K y):ld c H ((ad.add n).add j) K:=by
 obtain⟨m,b,o⟩:=h.cell hi f;rw[d] at b;cases b;subst g;exact⟨y,by rw[add_add];exact o,k⟩
theorem bQ.row {a:Option Addr}{ad:Addr}(h:bQ E H a l)(c:a=some ad){i:Nat}{x:α}(hi:l[i]?=some x):lT H (ad.add (i*E.size)) E.size (.agg (E.enc x).toArray):=by
 refine⟨_,rfl,by simp[E.len],λj d=>?_⟩;have f:(E.enc x)[j]?=some ((E.enc x)[j]'(by rw[E.len];exact d)):=On _;obtain⟨g,b,k⟩:=h.cell hi f;rw[c] at b;cases b;rw[add_add,k];simp
theorem bQ.c9 {c:eM}{a:Option Addr}{ad:Addr}(h:bQ E H a l)(b:a=some ad){i:Nat}{x:α}{y:c.α}(hi:l[i]?=some x)(d:c.enc y=.agg (E.enc x).toArray){n m:Nat}(f:n=i*E.size)(hm:m=E.size){K:c.α->Prop}(g:K y):c9 c m H (ad.add n) K:=by
 subst f;subst hm;exact⟨y,by rw[d];exact h.row b hi,g⟩
theorem bQ.addr {a:Option Addr}(h:bQ E H a l)(hs:0<E.size)(hl:0<l.length):∃ad,a=some ad:=by
 have b:0<(E.all l).length:=by rw[E.bX];exact Nat.mul_pos hl hs
 obtain⟨ad,c,_⟩:=h.at b;exact⟨ad,c⟩
theorem bQ.drop {c i:Nat}{a:Option Addr}(h:bQ E H a l)(m:l.length<=c):bQ E H (cE a c i E.size) (l.drop i):=by
 unfold cE;split
 ·rename_i b;have f:c=i:=by simpa using b
  rw[Ps (by omega)];exact Reads.nil _ _
 ·intro j v g;rw[<-E.xw,List.getElem?_drop] at g;obtain⟨ad,k,d⟩:=h _ v g;refine⟨ad.add (i*E.size),by rw[k];rfl,?_⟩;rw[add_add];exact d
theorem bQ.take {i:Nat}{a:Option Addr}(h:bQ E H a l):bQ E H a (l.take i):=by
 have:=Reads.take h (i*E.size)
 rwa [E.ti] at this
theorem bQ.keep {H':aa}{a:Option Addr}(h:bQ E H a l)(k:∀ad,a=some ad->ad.block<H.size->H'[ad.block]?=H[ad.block]?):bQ E H' a l:=by
 intro i v f;obtain⟨ad,c,d⟩:=h i v f;have b:=jG d;rw[dE] at b;exact⟨ad,c,(gL (by rw[dE];exact k ad c b)).trans d⟩
theorem az.rd (h:az E e H s l):bQ E H s.a l:=aO.reads h
def rq (P:Program)(t e:TypeId)(size bytes:Nat):Prop:=∃(inf:TypeInfo) (z:Value),P.underlying t=some (.slice e)/\P.info? e=some inf/\inf.zero=some z/\z.cells.size=inf.size/\inf.size=size/\inf.bytes=bytes/\0<size
def L7 (P:Program)(t e:TypeId)(size bytes:Nat):Bool:=
 (match P.underlying t with|some (.slice a)=>OQ a e|_=>false)&&
 (match P.info? e with|some inf=>(match inf.zero with|some v=>OQ v.cells.size inf.size|none=>false)&&(OQ inf.size size&&(OQ inf.bytes bytes&&Nat.blt 0 size))|none=>false)
theorem eL {P:Program}{t e:TypeId}{size bytes:Nat}(h:L7 P t e size bytes=true):rq P t e size bytes:=by
 unfold L7 at h;simp only[OB] at h;obtain⟨h1,a⟩:=h;split at h1
 ·rename_i i he;split at a
  ·rename_i inf hi;simp only[OB] at a;obtain⟨b,c,d,f⟩:=a;split at b
   ·rename_i v g;have:=OD h1;subst this;exact⟨inf,v,he,hi,g,OD b,OD c,OD d,by simp[Nat.blt] at f;omega⟩
   ·cases b
  ·cases a
 ·cases h1
variable {P:Program}{t:TypeId}{bytes:Nat}
abbrev Grown (s s':Sl)(H H':aa):Prop:=Mod (ah s) H H'/\(∀b,ah s' b->ah s b\/H.size<=b)
theorem az.append (he:rq P t e E.size bytes){ty:TypeId}{x:Sl}{r:List α}{K:Sl->aa->Prop}(h:az E e H s l)(g:bQ E H x.a r)(a:x.n=r.length)
  (hl:l.length+r.length<=1099511627776) (i:(l.length+r.length)*bytes<=140737488355328)
  (j:∀(s':Sl) (H':aa),az E e H' s' (l++r)->Grown s s' H H'->(s'.a=none↔s.a=none/\r.length=0)->K s' H'):bf ak P (Oq #[t,t] ty #[s.v,x.v]) H K:=by
 obtain⟨inf,z,k,hi,m,b,hs,c,n⟩:=he;have d:=az.n h n;refine nK (base:=0) (xs:=E.all l) (ws:=E.all r) k hi m b (by omega) (by rw[hs];exact h) (by rw[E.bX,a,hs]) g (E.Cc r) (by omega) (by rw[c,d,a];exact i) (OL _) ?_;intro s' H' h1 f o p q;refine j s' H' ?_ ⟨o,p⟩ (by rw[q,a]);rw[hs,<-E.all_append] at f;exact f
theorem az.push (he:rq P t e E.size bytes){ty:TypeId}{x:α}{cs:Array Value}{K:Sl->aa->Prop}(h:az E e H s l)(a:cs.toList=E.enc x)
  (hl:l.length+1<=1099511627776) (d:(l.length+1)*bytes<=140737488355328)
  (j:∀(s':Sl) (H':aa),az E e H' s' (l++[x])->Grown s s' H H'->s'.a≠none->K s' H'):
  aJ H cs e λp H1=>bf ak P (Oq #[t,t] ty #[s.v,.slice (some p) 1 1]) H1 K:=by
 have hm:Mod (λ_=>False) H (H.push (.cells cs e)):=Mod.push _ _ _;refine az.append he (s:=s) (x:=⟨some ⟨H.size,0,none⟩,1,1⟩) (r:=[x]) (aO.ext h hm) ?_ rfl (by simpa using hl) (by simpa using d) ?_
 ·intro i v f;simp only[eK.all,Pk,List.flatMap_nil,List.append_nil] at f;exact⟨_,rfl,by rw[bk];exact cC (c:=cs) (t:=e) (fz:=(0,0)) (by simp) (by rw[<-a] at f;simpa using f)⟩
 ·intro s' H' h1 g k;refine j s' H' h1 ⟨(Ext.mod hm).trans g.1,λb d=>(g.2 b d).imp id λq=>?_⟩ (λq=>by have:=(k.1 q).2;simp at this);simp at q;omega
theorem az.Bj (he:rq P t e E.size bytes){ty:TypeId}{x:α}{cs:Array Value}{K:Sl->aa->Prop}(h:az E e H s l)(a:cs.toList=E.enc x)
  (hl:l.length+1<=1099511627776) (b:(l.length+1)*bytes<=140737488355328) (J:aa->Prop) (c:∀H1,H1.size=H.size+1->Mod (λ_=>False) H H1->J H1)
  (d:∀(s':Sl) (H':aa),az E e H' s' (l++[x])->Grown s s' H H'->s'.a≠none->K s' H'):
  aJ H cs e λp H1=>J H1/\bf ak P (Oq #[t,t] ty #[s.v,.slice (some p) 1 1]) H1 K:=
 ⟨c _ (by simp) (Mod.push _ _ _),az.push he h a hl b d⟩
theorem AA (off:Nat)(v:List Value):∀(o:Nat) (cs:Array Value),off+o+v.length<=cs.size->(v.zipIdx o).foldl (λcs (p:Value×Nat)=>cs.setIfInBounds (off+p.2) p.1) cs=(cs.toList.take (off+o)++v++cs.toList.drop (off+o+v.length)).toArray:=by
 induction v with
 |nil=>intro o cs _;simp
 |cons a v b=>
   intro o cs h;simp only[O3] at h;rw[List.zipIdx_cons,List.foldl_cons,b (o+1) _ (by simp;omega)];have e:=list_seg_step cs.toList (off+o) a v (by simp;omega);simpa[Nat.add_assoc] using e
theorem ni {place:Nat->Option (Nat×Nat)}{cells:Array Value}{i off n:Nat}{v:Value}{rest:List (Nat×Value)}(a:place i=some (off,n))(b:v.cells.size=n)(d:off+n<=cells.size):
  QY place cells ((i,v)::rest)=QY place (cells.toList.take off++v.cells.toList++cells.toList.drop (off+n)).toArray rest:=by
 have c:=AA off v.cells.toList 0 cells (by simp;omega);simp only[QY,a];rw[if_neg (by simp;omega),<-Array.foldl_toList,Array.toList_zipIdx];rw[c];simp[b]
theorem Ba {n:Nat}{cs base:Array Value}(b:base.size=n)(a:cs.size=n):QY (λi=>some (i*n,n)) base [(0,.agg cs)]=some cs:=by
 rw[ni (off:=0) (n:=n) (v:=.agg cs) (by simp) a (by omega)];simp only[QY];rw[Ps (by simp;omega)];have:(Value.agg cs).cells=cs:=rfl;simp[this]
theorem az.Gu (he:rq P t e E.size bytes){ty:TypeId}{x:α}{cs:Array Value}{K:Sl->aa->Prop}(h:az E e H s l)(b:cs.toList=E.enc x)(f:E.size<=16777216)
  (hl:l.length+1<=1099511627776) (g:(l.length+1)*bytes<=140737488355328) (J:aa->Prop)
  (i:∀H1,H1.size=H.size+1->Mod (λ_=>False) H H1->J H1)
  (j:∀(s':Sl) (H':aa),az E e H' s' (l++[x])->Grown s s' H H'->s'.a≠none->K s' H'):
  bf ak P (PH t 1 #[(0,.agg cs)]) H λsl H1=>J H1/\bf ak P (Oq #[t,t] ty #[s.v,sl.v]) H1 K:=by
 obtain⟨inf,z,k,hi,m,o,hs,p,u⟩:=id he;have q:cs.size=E.size:=by rw[<-E.len x,<-b];simp
 intro w hw;subst hw;have a:=Ba (n:=inf.size) (cs:=cs) (base:=(Array.range (1*inf.size)).map (z.cells[·%z.cells.size]!)) (by simp) (by omega);have c:(PH t 1 #[(0,.agg cs)]).run P w=.ok (.slice (some ⟨w.heap.size,0,none⟩) 1 1) {w with heap:=w.heap.push (.cells cs e)}:=by
  have r:¬(1*inf.size>2^24):=by omega
  have d:inf.size≠0:=by omega
  simp[PH,run_underlying k,sizeOf,typeInfo,hi,d,zeroValue,m,newRow,newObj,Qm];rw[if_neg (by omega)];simp[Nat.one_mul] at a;simp[a,PY,Qm]
 refine⟨_,_,c,⟨⟨some ⟨w.heap.size,0,none⟩,1,1⟩,rfl,i _ (by simp) (Mod.push _ _ _),?_⟩,(.of_le rfl (Ot _))⟩;exact az.push he h b hl g j
theorem bf.mono {c:eM}{q:Sem Value}{K K':c.α->aa->Prop}(h:bf c P q H K)(hk:∀x H',K x H'->K' x H'):bf c P q H K':=λw hw=>by
 obtain⟨v,w',h1,⟨x,a,b⟩,d⟩:=h w hw;exact⟨v,w',h1,⟨x,a,hk _ _ b⟩,d⟩
theorem az.L8 (he:rq P t e E.size bytes){ty:TypeId}{x:α}{cs:Array Value}{K:Sl->aa->Prop}(h:az E e H s l)(a:cs.toList=E.enc x)(b:E.size<=16777216)
  (hl:l.length+1<=1099511627776) (c:(l.length+1)*bytes<=140737488355328)
  (d:∀(s':Sl) (H':aa),az E e H' s' (l++[x])->Grown s s' H H'->s'.a≠none->K s' H'):
  bf ak P (PH t 1 #[(0,.agg cs)]) H λsl H1=>bf ak P (Oq #[t,t] ty #[s.v,sl.v]) H1 K:=
 (az.Gu he h a b hl c (λ_=>True) (λ_ _ _=>trivial) d).mono λ_ _ h=>h.2
theorem KH (he:rq P t e E.size bytes){K:Sl->aa->Prop}(c:∀(s':Sl) (H':aa),az E e H' s' []->Mod (λ_=>False) H H'->(∀b,ah s' b->H.size<=b)->s'.a≠none->K s' H'):bf ak P (PH t 0 #[]) H K:=by
 obtain⟨inf,z,d,hi,i,f,hs,g,j⟩:=he;intro w hw;subst hw;have a:(PH t 0 #[]).run P w=.ok (.slice (some ⟨w.heap.size,0,none⟩) 0 0) {w with heap:=w.heap.push (.cells #[] e)}:=by
  simp[PH,run_underlying d,sizeOf,typeInfo,hi,newRow,newObj,QY,Qm,PY];congr 2;exact Array.eq_empty_of_size_eq_zero (by simp)
 refine⟨_,_,a,⟨⟨some ⟨w.heap.size,0,none⟩,0,0⟩,rfl,c _ _ ?_ (Mod.push _ _ _) ?_ (by simp)⟩,(.of_le rfl (Ot _))⟩
 ·exact aO.fresh (OL _) (Ot _) (by unfold maxLen;omega) (by simp) (by simp[eK.all]) (by simp[eK.all])
 ·rintro b ⟨ad,h,e2⟩;cases h;have:w.heap.size=b:=e2;omega
theorem az.st {K:aa->Prop}(h:az E e H s l){ad:Addr}(f:s.a=some ad){i j:Nat}{x y:α}{v:Value}(hi:l[i]?=some x)(u:j<E.size)(w:jq v=true)(z:E.enc y=(E.enc x).set j v){n:Nat}(A:n=i*E.size)
  (B:∀H',az E e H' s (l.set i y)->Mod (ah s) H H'->H'.size=H.size->K H'):Go.Proofs.YtmkbhnholcaghaaGreatDoor.st H ((ad.add n).add j) v K:=by
 subst A;have b:i<l.length:=(Om.1 hi).1;have hlen:=E.bX l;have C:i*E.size+j<l.length*E.size:=by
  have:=OZ E.size (Rq b);rw[Px] at this;omega
 rcases h.2 with ⟨d,e2⟩|⟨g,cap,cur,d,D,m,p,F,q,G⟩
 ·cases s;simp only[Sl.v,ON] at d f;rw[d.1] at f;cases f
 ·have r:s.a=some ⟨g,0,none⟩:=by
   cases s;simp only[Sl.v,ON] at d;exact d.1
  rw[r] at f;cases f;have I:=h.1;have o:i*E.size+j<cur.size:=by
   have:=OZ E.size p;rw[q];omega
  rw[add_add,bk];refine⟨w,⟨_,cC m (OX o)⟩,dx m,B _ ?_ (Mod.set ⟨_,r,rfl⟩) (iA _ _ _)⟩;have c:(E.all l).set (i*E.size+j) v=E.all (l.set i y):=by
   rw[E.wF l i y b,z];have J:(E.all l)=(E.all l).take (i*E.size)++E.enc x++(E.all l).drop (i*E.size+E.size):=by
    have:=E.wF l i x b;have k:l[i]=x:=by rw[On b] at hi;exact OS hi
    rwa [<-k,List.set_getElem_self,k] at this
   have L:((E.all l).take (i*E.size)).length=i*E.size:=by
    rw[List.length_take,hlen];have:=OZ E.size (Nat.le_of_lt b);omega
   conv=>lhs;rw[J]
   rw[Pm,List.set_append_right _ _ (by omega),L,Nat.add_sub_cancel_left,List.set_append_left _ _ (by rw[E.len];exact u),Pm]
  refine⟨by rw[<-c];simpa using h.1,.inr ⟨g,cap,cur.setIfInBounds (i*E.size+j) v,d,D,oy (a:=⟨g,i*E.size+j,none⟩) m rfl,p,F,by simpa using q,?_⟩⟩;rw[<-c,<-G];simp[List.take_set]
theorem az.LX {ty:TypeId}{cs:Array Value}{K:aa->Prop}(h:az E e H s l){ad:Addr}(f:s.a=some ad){i:Nat}{y:α}(j:i<l.length)(a:cs.toList=E.enc y)(hi:nJ P ty E.size=true){n:Nat}(r:n=i*E.size)
  (u:∀H',az E e H' s (l.set i y)->Mod (ah s) H H'->H'.size=H.size->K H'):jo P (OI ty (.pointer (some (ad.add n))) (.agg cs)) H K:=by
 subst r;have hlen:=E.bX l;have c:cs.size=E.size:=by rw[<-E.len y,<-a];simp
 have v:i*E.size+E.size<=l.length*E.size:=by
  have:=OZ E.size (Rq j);rw[Px] at this;omega
 rcases h.2 with ⟨d,e2⟩|⟨g,cap,cur,d,k,w,m,x,z,A⟩
 ·cases s;simp only[Sl.v,ON] at d f;rw[d.1] at f;cases f
 ·have p:s.a=some ⟨g,0,none⟩:=by
   cases s;simp only[Sl.v,ON] at d;exact d.1
  rw[p] at f;cases f;have B:=h.1;have C:i*E.size+E.size<=cur.size:=by
   have:=OZ E.size m;rw[z];omega
  rw[bk];refine je (b:=g) (o:=i*E.size) (cur:=cur) (t:=e) w (by rw[c];exact hi) (by omega) (by rw[a];exact E.one y) λH' D r2 F=>u H' ?_ (r2.mono λb _ k=>⟨_,p,k.symm⟩) F;refine⟨by simpa[E.bX] using h.1,.inr ⟨g,cap,_,d,k,D,m,x,?_,?_⟩⟩
  ·simp[c];omega
  ·rw[E.wF l i y j,<-A,a];simp only[c];have q:(cur.toList.take (i*E.size)).length=i*E.size:=by simp;omega
   have G:i*E.size+E.size<=s.n*E.size:=by omega
   rw[List.take_append,List.take_of_length_le (by simp[q,E.len];omega),List.take_take,Nat.min_eq_left (by omega)];congr 1;rw[OU,q,E.len,List.take_drop];congr 2;omega
end
end Go.Proofs.YtmkbhnholcaghaaGreatDoor
