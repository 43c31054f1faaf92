/-
 Ground, eleventh text: rows with their type, slices of elements of several cells, stores of aggregates; what stays is told by single blocks.
-/
import Derived.Test.YtmkbhnholcaghaaGreatDoorFxj
import Derived.Test.YtmkbhnholcaghaaGreatDoorFxi
open Array renaming getElem?_eq_getElem->OJ
open Bool renaming and_eq_true->Oj
open Go.Addr renaming add->OR
open Go.Builtin renaming append_->Oa
open Go.Instr renaming storeAt->Ot,buildSlice->Ps,fill->QL
open Go.Result renaming andThen->P8
open Go.Sem renaming run->PJ
open Go.Value.slice renaming injEq->Ov
open List renaming getElem?_eq_some_iff->N7,getElem?_eq_getElem->N8,length_append->OG,length_cons->ON,flatMap_cons->O1,append_assoc->O3,drop_of_length_le->Pa,take_length_add_append->UD
open Nat renaming le_refl->Ob,eq_of_beq_eq_true->Om,zero_le->Oz,beq->OC,mul_le_mul_right->OL,succ_mul->Pf,zero_add->Pt,succ_le_of_lt->Ra,zero_mul->VC
open Option.some renaming inj->OE
namespace Go.Proofs.YtmkbhnholcaghaaGreatDoor
theorem aA {H:aa}{b:Nat}{o:Obj}(h:H[b]?=some o):b<H.size:=(Array.getElem?_eq_some_iff.1 h).1
theorem Mod.at {F:Nat->Prop}{H H':aa}(hm:Mod F H H'){b:Nat}{o:Obj}(h:H[b]?=some o)(a:¬F b):H'[b]?=some o:=(hm.same b (aA h) a).trans h
theorem bk (b n:Nat):(⟨b,0,none⟩:Addr).add n=⟨b,n,none⟩:=by rw[add_lit,Pt]
abbrev aj (H:aa)(b:Nat)(t:TypeId)(cs:Array Value):Prop:=H[b]?=some (.cells cs t (0,0))
theorem aj.mod {F:Nat->Prop}{H H':aa}{b:Nat}{t:TypeId}{cs:Array Value}(h:aj H b t cs)(hm:Mod F H H')(a:¬F b):aj H' b t cs:=hm.at h a
theorem aj.ext {H H':aa}{b:Nat}{t:TypeId}{cs:Array Value}(h:aj H b t cs)(hm:Mod (λ_=>False) H H'):aj H' b t cs:=hm.at h id
theorem aj.cell {H:aa}{b:Nat}{t:TypeId}{cs:Array Value}(h:aj H b t cs){i:Nat}{v:Value}(hi:cs[i]?=some v):cK H ⟨b,i,none⟩=some v:=cq h hi
theorem aj.ld {c:eO}{H:aa}{b:Nat}{t:TypeId}{cs:Array Value}(h:aj H b t cs){i:Nat}{x:c.α}(hi:cs[i]?=some (c.enc x)){K:c.α->Prop}(a:K x):Go.Proofs.YtmkbhnholcaghaaGreatDoor.ld c H (OR ⟨b,0,none⟩ i) K:=
 ⟨x,by rw[bk];exact h.cell hi,a⟩
theorem aj.dw {c:eO}{G:aa->Prop}{b:Nat}{t:TypeId}{cs:aa->Array Value}(h:∀H,G H->aj H b t (cs H)){i:Nat}{x:c.α}(hi:∀H,G H->(cs H)[i]?=some (c.enc x)){K:c.α->Prop}(d:K x):Go.Proofs.YtmkbhnholcaghaaGreatDoor.dw c G (OR ⟨b,0,none⟩ i) K:=
 ⟨x,λH' a=>by rw[bk];exact(h H' a).cell (hi H' a),d⟩
theorem aj.lM {H:aa}{b:Nat}{t:TypeId}{cs:Array Value}(h:aj H b t cs){o n:Nat}{ds:Array Value}(a:ds.size=n)(hd:∀i,i<n->cs[o+i]?=ds[i]?):Go.Proofs.YtmkbhnholcaghaaGreatDoor.lM H ⟨b,o,none⟩ n (.agg ds):=by
 refine⟨ds,rfl,a,λi hi=>?_⟩;have h1:=hd i hi;rw[add_lit];rw[<-h1];have:ds[i]?=some ds[i]:=OJ (by omega);rw[h1,this];exact h.cell (h1.trans this)
theorem aj.c8 {c:eO}{H:aa}{b:Nat}{t:TypeId}{cs:Array Value}(h:aj H b t cs){n:Nat}{x:c.α}(a:c.enc x=.agg cs)(d:cs.size=n){K:c.α->Prop}(e:K x):Go.Proofs.YtmkbhnholcaghaaGreatDoor.c8 c n H ⟨b,0,none⟩ K:=
 ⟨x,by rw[a];exact h.lM d (λi _=>by rw[Pt]),e⟩
theorem aj.st {H:aa}{b:Nat}{t:TypeId}{cs:Array Value}{v:Value}{K:aa->Prop}(h:aj H b t cs){i:Nat}(hi:i<cs.size)(c:jl v=true)
  (d:∀H',aj H' b t (cs.setIfInBounds i v)->Mod (λx=>x=b) H H'->H'.size=H.size->K H'):Go.Proofs.YtmkbhnholcaghaaGreatDoor.st H (OR ⟨b,0,none⟩ i) v K:=by
 rw[bk];exact⟨c,⟨_,h.cell (OJ hi)⟩,dv h,d _ (ot (a:=⟨b,i,none⟩) h rfl) (Mod.set rfl) (iy _ _ _)⟩
theorem ax {H:aa}{cs:Array Value}{t:TypeId}{K:Addr->aa->Prop}(a:∀H',H'.size=H.size+1->aj H' H.size t cs->Mod (λ_=>False) H H'->K ⟨H.size,0,none⟩ H'):aI H cs t K:=
 a _ (by simp) (by simp[aj]) (Mod.push _ _ _)
theorem yX {P:Program}{ty:TypeId}{n:Nat}(hi:nv P ty n=true):∃i,P.info? ty=some i/\i.size=n:=by
 unfold nv at hi;split at hi
 ·rename_i i he;exact⟨i,he,Om hi⟩
 ·cases hi
theorem ja {P:Program}{ty:TypeId}{H:aa}{b o:Nat}{t:TypeId}{cur cs:Array Value}{K:aa->Prop}(h:aj H b t cur)(hi:nv P ty cs.size=true)(a:o+cs.size<=cur.size)(h1:∀v∈cs.toList,v.oneCell'=true)
  (d:∀H',aj H' b t (cur.toList.take o++cs.toList++cur.toList.drop (o+cs.size)).toArray->Mod (λx=>x=b) H H'->H'.size=H.size->K H'):jk P (Ot ty (.pointer (some ⟨b,o,none⟩)) (.agg cs)) H K:=by
 intro w hw;subst hw;obtain⟨i,he,hs⟩:=yX hi;have e:=run_storeCells_at (P:=P) b o t cs.toList 0 cur w h (by simpa using a) h1;have f:(Ot ty (.pointer (some ⟨b,o,none⟩)) (.agg cs)).run P w=.ok () (w.setRow b (cur.toList.take o++cs.toList++cur.toList.drop (o+cs.size)).toArray):=by
  have c:(sizeOf ty).run P w=.ok cs.size w:=by simp[sizeOf,typeInfo,he,hs]
  simp only[Ot,Instr.sureAddr,Sem.run_bind,Sem.run_pure,Result.andThen_ok,storeVar,c,Value.cells];simpa using e
 exact⟨(),_,f,d _ (setRow_heap w b cur _ t _ h) ⟨by simp,λk _ hk=>setRow_other w b k _ hk⟩ (by simp),(.of_le rfl (Ob _))⟩
theorem aj.iF {P:Program}{ty:TypeId}{H:aa}{b:Nat}{t:TypeId}{cur cs:Array Value}{K:aa->Prop}(h:aj H b t cur)(hi:nv P ty cs.size=true)(d:cur.size=cs.size)(h1:∀v∈cs.toList,v.oneCell'=true)
  (c:∀H',aj H' b t cs->Mod (λx=>x=b) H H'->H'.size=H.size->K H'):jk P (Ot ty (.pointer (some ⟨b,0,none⟩)) (.agg cs)) H K:=
 ja h hi (by omega) h1 λH' a=>c H' (by
  have e:(cur.toList.take 0++cs.toList++cur.toList.drop (0+cs.size)).toArray=cs:=by
   rw[Pa (by simp;omega)];simp
  rw[e] at a;exact a)
theorem al {α:Type}(a:α)(K:α->Prop):ae (some a) K=K a:=rfl
theorem aP {b:Bool}{A B:Prop}(h:b=true)(k:A):br b A B:=by subst h;exact k
theorem aC {b:Bool}{A B:Prop}(h:b=false)(k:B):br b A B:=by subst h;exact k
theorem rF {d:TypeDesc}{H:aa}{K:Nat->aa->Prop}(a:∀H',H'.size=H.size+1->ca d H' H.size #[] 0->Mod (λ_=>False) H H'->K H.size H'):Fi H K:=
 a _ (by simp) (ca.new d H) (Mod.push _ _ _)
def Fo (P:Program)(t kt:TypeId)(d:TypeDesc):Prop:=∃(a:TypeId) (inf:TypeInfo),P.underlying t=some (.map kt a)/\P.underlying kt=some d/\P.info? a=some inf/\inf.zero=some (.pointer none)
def DZ (P:Program)(t kt:TypeId):Bool:=
 match P.underlying t with|some (.map a b)=>OC a kt&&(match P.info? b with|some inf=>(match inf.zero with|some (.pointer none)=>true|_=>false)|none=>false)|_=>false
theorem rT {P:Program}{t kt:TypeId}{d:TypeDesc}(h:DZ P t kt=true)(hd:P.underlying kt=some d):Fo P t kt d:=by
 unfold DZ at h;split at h
 ·rename_i b c q;simp only[Oj] at h;obtain⟨h1,a⟩:=h;have:=Om h1;subst this;split at a
  ·rename_i inf e;split at a
   ·rename_i f;exact⟨c,inf,q,hd,e,f⟩
   ·cases a
  ·cases a
 ·cases h
theorem aM.keep {H H':aa}{base:Nat}{e:TypeId}{size:Nat}{s:Sl}{xs:List Value}(h:aM H base e size s xs)(k:∀b,ag s b->b<H.size->H'[b]?=H[b]?):aM H' base e size s xs:=by
 refine⟨h.1,h.2.imp id ?_⟩;rintro⟨g,cap,cur,a,c,d,f⟩;refine⟨g,cap,cur,a,c,?_,f⟩;have hs:ag s g:=by
  cases s;simp only[Sl.v,Ov] at a;exact⟨_,a.1,rfl⟩
 exact(k g hs (h.block g hs).2).trans d
theorem aM.lt {H:aa}{base:Nat}{e:TypeId}{size:Nat}{s:Sl}{xs:List Value}(h:aM H base e size s xs):∀b,ag s b->b<H.size:=λb a=>(h.block b a).2
theorem aM.w5 {H:aa}{base:Nat}{e:TypeId}{size:Nat}{s:Sl}{xs:List Value}(h:aM H base e size s xs):aM H 0 e size s xs:=
 ⟨h.1,h.2.imp id λ⟨g,cap,cur,a,_,b⟩=>⟨g,cap,cur,a,Oz _,b⟩⟩
theorem ca.keep {d:TypeDesc}{H H':aa}{r:Nat}{es:Array MapEntry}{clk:Nat}(h:ca d H r es clk)(k:H'[r]?=H[r]?):ca d H' r es clk:=⟨k.trans h.obj,h.stamped,h.keys⟩
structure eJ (α:Type) where
 size:Nat
 enc:α->List Value
 len:∀x,(enc x).length=size
 one:∀x,∀u∈enc x,u.oneCell'=true
def eJ.all {α:Type}(E:eJ α)(l:List α):List Value:=l.flatMap E.enc
theorem eJ.bW {α:Type}(E:eJ α):∀l:List α,(E.all l).length=l.length*E.size
 |[]=>by simp[eJ.all]
 |x::l=>by
   have:=eJ.bW E l;simp only[eJ.all,O1,OG,E.len,ON] at this ⊢;rw[this,Pf];omega
theorem eJ.BP {α:Type}(E:eJ α)(l:List α):∀u∈E.all l,u.oneCell'=true:=by
 intro u hu;obtain⟨x,_,a⟩:=List.mem_flatMap.1 hu;exact E.one x u a
theorem eJ.all_append {α:Type}(E:eJ α)(l r:List α):E.all (l++r)=E.all l++E.all r:=by simp[eJ.all]
theorem eJ.vH {α:Type}(E:eJ α):∀(l:List α) (i j:Nat),j<E.size->(E.all l)[i*E.size+j]?=(l[i]?).bind λx=>(E.enc x)[j]?
 |[],i,j,_=>by simp[eJ.all]
 |x::l,0,j,a=>by
   simp only[eJ.all,O1,VC,Pt,List.getElem?_cons_zero,Option.bind_some];rw[List.getElem?_append_left (by rw[E.len];exact a)]
 |x::l,i+1,j,a=>by
   have:=eJ.vH E l i j a;simp only[eJ.all,O1,List.getElem?_cons_succ] at this ⊢;rw[List.getElem?_append_right (by rw[E.len,Pf];omega),E.len,<-this];congr 1;rw[Pf];omega
theorem eJ.wk {α:Type}(E:eJ α)(l:List α)(i:Nat)(y:α)(hi:i<l.length):E.all (l.set i y)=(E.all l).take (i*E.size)++E.enc y++(E.all l).drop (i*E.size+E.size):=by
 induction l generalizing i with
 |nil=>simp at hi
 |cons x l a=>
   cases i with
   |zero=>
     simp only[eJ.all,List.set_cons_zero,O1,VC,List.take_zero,List.nil_append,Pt];rw[List.drop_append_of_le_length (by rw[E.len];exact Ob _),Pa (by rw[E.len];exact Ob _)];simp
   |succ i=>
     have h1:=a i (by simpa using hi);simp only[eJ.all,List.set_cons_succ,O1] at h1 ⊢;rw[h1,Pf];have b:i*E.size+E.size=(E.enc x).length+i*E.size:=by rw[E.len];omega
     have e2:i*E.size+E.size+E.size=(E.enc x).length+(i*E.size+E.size):=by rw[E.len];omega
     rw[e2,List.drop_length_add_append,b,UD];simp
theorem eJ.xj {α:Type}(E:eJ α):∀(l:List α) (i:Nat),(E.all l).drop (i*E.size)=E.all (l.drop i)
 |l,0=>by simp
 |[],i+1=>by simp[eJ.all]
 |x::l,i+1=>by
   have:=eJ.xj E l i;simp only[eJ.all,O1,List.drop_succ_cons] at this ⊢;rw[<-this,show (i+1)*E.size=(E.enc x).length+i*E.size by rw[E.len,Pf];omega,<-List.drop_drop,List.drop_left]
theorem eJ.sX {α:Type}(E:eJ α):∀(l:List α) (i:Nat),(E.all l).take (i*E.size)=E.all (l.take i)
 |l,0=>by simp[eJ.all]
 |[],i+1=>by simp[eJ.all]
 |x::l,i+1=>by
   have:=eJ.sX E l i;simp only[eJ.all,O1,List.take_succ_cons] at this ⊢;rw[<-this,show (i+1)*E.size=(E.enc x).length+i*E.size by rw[E.len,Pf];omega,UD]
abbrev bP {α:Type}(E:eJ α)(H:aa)(a:Option Addr)(l:List α):Prop:=Reads H a (E.all l)
abbrev az {α:Type}(E:eJ α)(e:TypeId)(H:aa)(s:Sl)(l:List α):Prop:=aM H 0 e E.size s (E.all l)
section
variable {α:Type}{E:eJ α}{e:TypeId}{H:aa}{s:Sl}{l:List α}
theorem az.nil (E:eJ α)(e:TypeId)(H:aa):az E e H (Sl.mk none 0 0) []:=aM.nil H 0 e E.size
theorem az.n (h:az E e H s l)(hs:0<E.size):s.n=l.length:=by
 have h1:=h.1;rw[eJ.bW] at h1;exact(Nat.eq_of_mul_eq_mul_right hs h1).symm
theorem az.Mn (h:az E e H s l)(hs:0<E.size)(a:s.a=none):l=[]:=by
 have h1:=aM.Ml h a;have b:=az.n h hs;exact List.eq_nil_of_length_eq_zero (by omega)
theorem bP.cell {a:Option Addr}(h:bP E H a l){i j:Nat}{x:α}{v:Value}(hi:l[i]?=some x)(b:(E.enc x)[j]?=some v):∃ad,a=some ad/\cK H (ad.add (i*E.size+j))=some v:=by
 have c:j<E.size:=by have:=(N7.1 b).1;rwa [E.len] at this
 exact h _ v (by rw[E.vH l i j c,hi];exact b)
theorem bP.ld {c:eO}{a:Option Addr}{ad:Addr}(h:bP E H a l)(d:a=some ad){i j:Nat}{x:α}{y:c.α}(hi:l[i]?=some x)(f:(E.enc x)[j]?=some (c.enc y)){n:Nat}(g:n=i*E.size){K:c.α->Prop}(k:K y):ld c H ((ad.add n).add j) K:=by
 obtain⟨m,b,o⟩:=h.cell hi f;rw[d] at b;cases b;subst g;exact⟨y,by rw[add_add];exact o,k⟩
theorem bP.row {a:Option Addr}{ad:Addr}(h:bP E H a l)(c:a=some ad){i:Nat}{x:α}(hi:l[i]?=some x):lM H (ad.add (i*E.size)) E.size (.agg (E.enc x).toArray):=by
 refine⟨_,rfl,by simp[E.len],λj d=>?_⟩;have f:(E.enc x)[j]?=some ((E.enc x)[j]'(by rw[E.len];exact d)):=N8 _;obtain⟨g,b,k⟩:=h.cell hi f;rw[c] at b;cases b;rw[add_add,k];simp
theorem bP.c8 {c:eO}{a:Option Addr}{ad:Addr}(h:bP E H a l)(b:a=some ad){i:Nat}{x:α}{y:c.α}(hi:l[i]?=some x)(d:c.enc y=.agg (E.enc x).toArray){n m:Nat}(f:n=i*E.size)(hm:m=E.size){K:c.α->Prop}(g:K y):c8 c m H (ad.add n) K:=by
 subst f;subst hm;exact⟨y,by rw[d];exact h.row b hi,g⟩
theorem bP.addr {a:Option Addr}(h:bP E H a l)(hs:0<E.size)(hl:0<l.length):∃ad,a=some ad:=by
 have b:0<(E.all l).length:=by rw[E.bW];exact Nat.mul_pos hl hs
 obtain⟨ad,c,_⟩:=h.at b;exact⟨ad,c⟩
theorem bP.drop {c i:Nat}{a:Option Addr}(h:bP E H a l)(m:l.length<=c):bP E H (cA a c i E.size) (l.drop i):=by
 unfold cA;split
 ·rename_i b;have f:c=i:=by simpa using b
  rw[Pa (by omega)];exact Reads.nil _ _
 ·intro j v g;rw[<-E.xj,List.getElem?_drop] at g;obtain⟨ad,k,d⟩:=h _ v g;refine⟨ad.add (i*E.size),by rw[k];rfl,?_⟩;rw[add_add];exact d
theorem bP.take {i:Nat}{a:Option Addr}(h:bP E H a l):bP E H a (l.take i):=by
 have:=Reads.take h (i*E.size)
 rwa [E.sX] at this
theorem bP.keep {H':aa}{a:Option Addr}(h:bP E H a l)(k:∀ad,a=some ad->ad.block<H.size->H'[ad.block]?=H[ad.block]?):bP E H' a l:=by
 intro i v f;obtain⟨ad,c,d⟩:=h i v f;have b:=jC d;rw[dz] at b;exact⟨ad,c,(gI (by rw[dz];exact k ad c b)).trans d⟩
theorem az.rd (h:az E e H s l):bP E H s.a l:=aM.reads h
def qZ (P:Program)(t e:TypeId)(size bytes:Nat):Prop:=∃(inf:TypeInfo) (z:Value),P.underlying t=some (.slice e)/\P.info? e=some inf/\inf.zero=some z/\z.cells.size=inf.size/\inf.size=size/\inf.bytes=bytes/\0<size
def LU (P:Program)(t e:TypeId)(size bytes:Nat):Bool:=
 (match P.underlying t with|some (.slice a)=>OC a e|_=>false)&&
 (match P.info? e with|some inf=>(match inf.zero with|some v=>OC v.cells.size inf.size|none=>false)&&(OC inf.size size&&(OC inf.bytes bytes&&Nat.blt 0 size))|none=>false)
theorem eK {P:Program}{t e:TypeId}{size bytes:Nat}(h:LU P t e size bytes=true):qZ P t e size bytes:=by
 unfold LU at h;simp only[Oj] at h;obtain⟨h1,a⟩:=h;split at h1
 ·rename_i i he;split at a
  ·rename_i inf hi;simp only[Oj] at a;obtain⟨b,c,d,f⟩:=a;split at b
   ·rename_i v g;have:=Om h1;subst this;exact⟨inf,v,he,hi,g,Om b,Om c,Om d,by simp[Nat.blt] at f;omega⟩
   ·cases b
  ·cases a
 ·cases h1
variable {P:Program}{t:TypeId}{bytes:Nat}
abbrev Grown (s s':Sl)(H H':aa):Prop:=Mod (ag s) H H'/\(∀b,ag s' b->ag s b\/H.size<=b)
theorem az.append (he:qZ P t e E.size bytes){ty:TypeId}{x:Sl}{r:List α}{K:Sl->aa->Prop}(h:az E e H s l)(g:bP E H x.a r)(a:x.n=r.length)
  (hl:l.length+r.length<=1099511627776) (i:(l.length+r.length)*bytes<=140737488355328)
  (j:∀(s':Sl) (H':aa),az E e H' s' (l++r)->Grown s s' H H'->(s'.a=none↔s.a=none/\r.length=0)->K s' H'):ba ak P (Oa #[t,t] ty #[s.v,x.v]) H K:=by
 obtain⟨inf,z,k,hi,m,b,hs,c,n⟩:=he;have d:=az.n h n;refine nw (base:=0) (xs:=E.all l) (ws:=E.all r) k hi m b (by omega) (by rw[hs];exact h) (by rw[E.bW,a,hs]) g (E.BP r) (by omega) (by rw[c,d,a];exact i) (Oz _) ?_;intro s' H' h1 f o p q;refine j s' H' ?_ ⟨o,p⟩ (by rw[q,a]);rw[hs,<-E.all_append] at f;exact f
theorem az.push (he:qZ P t e E.size bytes){ty:TypeId}{x:α}{cs:Array Value}{K:Sl->aa->Prop}(h:az E e H s l)(a:cs.toList=E.enc x)
  (hl:l.length+1<=1099511627776) (d:(l.length+1)*bytes<=140737488355328)
  (j:∀(s':Sl) (H':aa),az E e H' s' (l++[x])->Grown s s' H H'->s'.a≠none->K s' H'):
  aI H cs e λp H1=>ba ak P (Oa #[t,t] ty #[s.v,.slice (some p) 1 1]) H1 K:=by
 have hm:Mod (λ_=>False) H (H.push (.cells cs e)):=Mod.push _ _ _;refine az.append he (s:=s) (x:=⟨some ⟨H.size,0,none⟩,1,1⟩) (r:=[x]) (aM.ext h hm) ?_ rfl (by simpa using hl) (by simpa using d) ?_
 ·intro i v f;simp only[eJ.all,O1,List.flatMap_nil,List.append_nil] at f;exact⟨_,rfl,by rw[bk];exact cq (c:=cs) (t:=e) (fz:=(0,0)) (by simp) (by rw[<-a] at f;simpa using f)⟩
 ·intro s' H' h1 g k;refine j s' H' h1 ⟨(Ext.mod hm).trans g.1,λb d=>(g.2 b d).imp id λq=>?_⟩ (λq=>by have:=(k.1 q).2;simp at this);simp at q;omega
theorem az.AW (he:qZ P t e E.size bytes){ty:TypeId}{x:α}{cs:Array Value}{K:Sl->aa->Prop}(h:az E e H s l)(a:cs.toList=E.enc x)
  (hl:l.length+1<=1099511627776) (b:(l.length+1)*bytes<=140737488355328) (J:aa->Prop) (c:∀H1,H1.size=H.size+1->Mod (λ_=>False) H H1->J H1)
  (d:∀(s':Sl) (H':aa),az E e H' s' (l++[x])->Grown s s' H H'->s'.a≠none->K s' H'):
  aI H cs e λp H1=>J H1/\ba ak P (Oa #[t,t] ty #[s.v,.slice (some p) 1 1]) H1 K:=
 ⟨c _ (by simp) (Mod.push _ _ _),az.push he h a hl b d⟩
theorem An (off:Nat)(v:List Value):∀(o:Nat) (cs:Array Value),off+o+v.length<=cs.size->(v.zipIdx o).foldl (λcs (p:Value×Nat)=>cs.setIfInBounds (off+p.2) p.1) cs=(cs.toList.take (off+o)++v++cs.toList.drop (off+o+v.length)).toArray:=by
 induction v with
 |nil=>intro o cs _;simp
 |cons a v b=>
   intro o cs h;simp only[ON] at h;rw[List.zipIdx_cons,List.foldl_cons,b (o+1) _ (by simp;omega)];have e:=list_seg_step cs.toList (off+o) a v (by simp;omega);simpa[Nat.add_assoc] using e
theorem mU {place:Nat->Option (Nat×Nat)}{cells:Array Value}{i off n:Nat}{v:Value}{rest:List (Nat×Value)}(a:place i=some (off,n))(b:v.cells.size=n)(d:off+n<=cells.size):
  QL place cells ((i,v)::rest)=QL place (cells.toList.take off++v.cells.toList++cells.toList.drop (off+n)).toArray rest:=by
 have c:=An off v.cells.toList 0 cells (by simp;omega);simp only[QL,a];rw[if_neg (by simp;omega),<-Array.foldl_toList,Array.toList_zipIdx];rw[c];simp[b]
theorem AO {n:Nat}{cs base:Array Value}(b:base.size=n)(a:cs.size=n):QL (λi=>some (i*n,n)) base [(0,.agg cs)]=some cs:=by
 rw[mU (off:=0) (n:=n) (v:=.agg cs) (by simp) a (by omega)];simp only[QL];rw[Pa (by simp;omega)];have:(Value.agg cs).cells=cs:=rfl;simp[this]
theorem az.Gj (he:qZ P t e E.size bytes){ty:TypeId}{x:α}{cs:Array Value}{K:Sl->aa->Prop}(h:az E e H s l)(b:cs.toList=E.enc x)(f:E.size<=16777216)
  (hl:l.length+1<=1099511627776) (g:(l.length+1)*bytes<=140737488355328) (J:aa->Prop)
  (i:∀H1,H1.size=H.size+1->Mod (λ_=>False) H H1->J H1)
  (j:∀(s':Sl) (H':aa),az E e H' s' (l++[x])->Grown s s' H H'->s'.a≠none->K s' H'):
  ba ak P (Ps t 1 #[(0,.agg cs)]) H λsl H1=>J H1/\ba ak P (Oa #[t,t] ty #[s.v,sl.v]) H1 K:=by
 obtain⟨inf,z,k,hi,m,o,hs,p,u⟩:=id he;have q:cs.size=E.size:=by rw[<-E.len x,<-b];simp
 intro w hw;subst hw;have a:=AO (n:=inf.size) (cs:=cs) (base:=(Array.range (1*inf.size)).map (z.cells[·%z.cells.size]!)) (by simp) (by omega);have c:(Ps t 1 #[(0,.agg cs)]).run P w=.ok (.slice (some ⟨w.heap.size,0,none⟩) 1 1) {w with heap:=w.heap.push (.cells cs e)}:=by
  have r:¬(1*inf.size>2^24):=by omega
  have d:inf.size≠0:=by omega
  simp[Ps,run_underlying k,sizeOf,typeInfo,hi,d,zeroValue,m,newRow,newObj,P8];rw[if_neg (by omega)];simp[Nat.one_mul] at a;simp[a,PJ,P8]
 refine⟨_,_,c,⟨⟨some ⟨w.heap.size,0,none⟩,1,1⟩,rfl,i _ (by simp) (Mod.push _ _ _),?_⟩,(.of_le rfl (Ob _))⟩;exact az.push he h b hl g j
theorem ba.mono {c:eO}{q:Sem Value}{K K':c.α->aa->Prop}(h:ba c P q H K)(hk:∀x H',K x H'->K' x H'):ba c P q H K':=λw hw=>by
 obtain⟨v,w',h1,⟨x,a,b⟩,d⟩:=h w hw;exact⟨v,w',h1,⟨x,a,hk _ _ b⟩,d⟩
theorem az.BA (he:qZ P t e E.size bytes){ty:TypeId}{x:α}{cs:Array Value}{K:Sl->aa->Prop}(h:az E e H s l)(a:cs.toList=E.enc x)(b:E.size<=16777216)
  (hl:l.length+1<=1099511627776) (c:(l.length+1)*bytes<=140737488355328)
  (d:∀(s':Sl) (H':aa),az E e H' s' (l++[x])->Grown s s' H H'->s'.a≠none->K s' H'):
  ba ak P (Ps t 1 #[(0,.agg cs)]) H λsl H1=>ba ak P (Oa #[t,t] ty #[s.v,sl.v]) H1 K:=
 (az.Gj he h a b hl c (λ_=>True) (λ_ _ _=>trivial) d).mono λ_ _ h=>h.2
theorem KB (he:qZ P t e E.size bytes){K:Sl->aa->Prop}(c:∀(s':Sl) (H':aa),az E e H' s' []->Mod (λ_=>False) H H'->(∀b,ag s' b->H.size<=b)->s'.a≠none->K s' H'):ba ak P (Ps t 0 #[]) H K:=by
 obtain⟨inf,z,d,hi,i,f,hs,g,j⟩:=he;intro w hw;subst hw;have a:(Ps t 0 #[]).run P w=.ok (.slice (some ⟨w.heap.size,0,none⟩) 0 0) {w with heap:=w.heap.push (.cells #[] e)}:=by
  simp[Ps,run_underlying d,sizeOf,typeInfo,hi,newRow,newObj,QL,P8,PJ];congr 2;exact Array.eq_empty_of_size_eq_zero (by simp)
 refine⟨_,_,a,⟨⟨some ⟨w.heap.size,0,none⟩,0,0⟩,rfl,c _ _ ?_ (Mod.push _ _ _) ?_ (by simp)⟩,(.of_le rfl (Ob _))⟩
 ·exact aM.fresh (Oz _) (Ob _) (by unfold maxLen;omega) (by simp) (by simp[eJ.all]) (by simp[eJ.all])
 ·rintro b ⟨ad,h,e2⟩;cases h;have:w.heap.size=b:=e2;omega
theorem az.st {K:aa->Prop}(h:az E e H s l){ad:Addr}(f:s.a=some ad){i j:Nat}{x y:α}{v:Value}(hi:l[i]?=some x)(u:j<E.size)(w:jl v=true)(z:E.enc y=(E.enc x).set j v){n:Nat}(A:n=i*E.size)
  (B:∀H',az E e H' s (l.set i y)->Mod (ag s) H H'->H'.size=H.size->K H'):Go.Proofs.YtmkbhnholcaghaaGreatDoor.st H ((ad.add n).add j) v K:=by
 subst A;have b:i<l.length:=(N7.1 hi).1;have hlen:=E.bW l;have C:i*E.size+j<l.length*E.size:=by
  have:=OL E.size (Ra b);rw[Pf] at this;omega
 rcases h.2 with ⟨d,e2⟩|⟨g,cap,cur,d,D,m,p,F,q,G⟩
 ·cases s;simp only[Sl.v,Ov] at d f;rw[d.1] at f;cases f
 ·have r:s.a=some ⟨g,0,none⟩:=by
   cases s;simp only[Sl.v,Ov] at d;exact d.1
  rw[r] at f;cases f;have I:=h.1;have o:i*E.size+j<cur.size:=by
   have:=OL E.size p;rw[q];omega
  rw[add_add,bk];refine⟨w,⟨_,cq m (OJ o)⟩,dv m,B _ ?_ (Mod.set ⟨_,r,rfl⟩) (iy _ _ _)⟩;have c:(E.all l).set (i*E.size+j) v=E.all (l.set i y):=by
   rw[E.wk l i y b,z];have J:(E.all l)=(E.all l).take (i*E.size)++E.enc x++(E.all l).drop (i*E.size+E.size):=by
    have:=E.wk l i x b;have k:l[i]=x:=by rw[N8 b] at hi;exact OE hi
    rwa [<-k,List.set_getElem_self,k] at this
   have L:((E.all l).take (i*E.size)).length=i*E.size:=by
    rw[List.length_take,hlen];have:=OL E.size (Nat.le_of_lt b);omega
   conv=>lhs;rw[J]
   rw[O3,List.set_append_right _ _ (by omega),L,Nat.add_sub_cancel_left,List.set_append_left _ _ (by rw[E.len];exact u),O3]
  refine⟨by rw[<-c];simpa using h.1,.inr ⟨g,cap,cur.setIfInBounds (i*E.size+j) v,d,D,ot (a:=⟨g,i*E.size+j,none⟩) m rfl,p,F,by simpa using q,?_⟩⟩;rw[<-c,<-G];simp[List.take_set]
theorem az.LN {ty:TypeId}{cs:Array Value}{K:aa->Prop}(h:az E e H s l){ad:Addr}(f:s.a=some ad){i:Nat}{y:α}(j:i<l.length)(a:cs.toList=E.enc y)(hi:nv P ty E.size=true){n:Nat}(r:n=i*E.size)
  (u:∀H',az E e H' s (l.set i y)->Mod (ag s) H H'->H'.size=H.size->K H'):jk P (Ot ty (.pointer (some (ad.add n))) (.agg cs)) H K:=by
 subst r;have hlen:=E.bW l;have c:cs.size=E.size:=by rw[<-E.len y,<-a];simp
 have v:i*E.size+E.size<=l.length*E.size:=by
  have:=OL E.size (Ra j);rw[Pf] at this;omega
 rcases h.2 with ⟨d,e2⟩|⟨g,cap,cur,d,k,w,m,x,z,A⟩
 ·cases s;simp only[Sl.v,Ov] at d f;rw[d.1] at f;cases f
 ·have p:s.a=some ⟨g,0,none⟩:=by
   cases s;simp only[Sl.v,Ov] at d;exact d.1
  rw[p] at f;cases f;have B:=h.1;have C:i*E.size+E.size<=cur.size:=by
   have:=OL E.size m;rw[z];omega
  rw[bk];refine ja (b:=g) (o:=i*E.size) (cur:=cur) (t:=e) w (by rw[c];exact hi) (by omega) (by rw[a];exact E.one y) λH' D r2 F=>u H' ?_ (r2.mono λb _ k=>⟨_,p,k.symm⟩) F;refine⟨by simpa[E.bW] using h.1,.inr ⟨g,cap,_,d,k,D,m,x,?_,?_⟩⟩
  ·simp[c];omega
  ·rw[E.wk l i y j,<-A,a];simp only[c];have q:(cur.toList.take (i*E.size)).length=i*E.size:=by simp;omega
   have G:i*E.size+E.size<=s.n*E.size:=by omega
   rw[List.take_append,List.take_of_length_le (by simp[q,E.len];omega),List.take_take,Nat.min_eq_left (by omega)];congr 1;rw[OG,q,E.len,List.take_drop];congr 2;omega
end
end Go.Proofs.YtmkbhnholcaghaaGreatDoor
