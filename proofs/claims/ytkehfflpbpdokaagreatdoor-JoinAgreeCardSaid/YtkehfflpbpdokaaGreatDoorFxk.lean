/-
 Ground, eleventh text: rows with their type, slices of elements of several cells, stores of aggregates; what stays is told by single blocks.
-/
import Derived.Test.YtkehfflpbpdokaaGreatDoorFxj
import Derived.Test.YtkehfflpbpdokaaGreatDoorFxi
open Array renaming getElem?_eq_getElem->Q8
open Bool renaming and_eq_true->Qz
open Go.Addr renaming add->QS
open Go.Builtin renaming append_->Qo
open Go.Instr renaming storeAt->RL,buildSlice->Sh,fill->Ts
open Go.Result renaming andThen->SG
open Go.Value.slice renaming injEq->Q3
open List renaming getElem?_eq_getElem->Qg,getElem?_eq_some_iff->Qk,length_append->Qt,length_cons->QJ,flatMap_cons->Q5,append_assoc->Rg,drop_of_length_le->Rj
open Nat renaming le_refl->Qm,eq_of_beq_eq_true->QH,zero_le->QN,beq->QQ,mul_le_mul_right->Ra,zero_add->Ry,succ_mul->RX,succ_le_of_lt->T9,zero_mul->Yr
open Option.some renaming inj->Qq
namespace Go.Proofs.YtkehfflpbpdokaaGreatDoor
theorem aI {H:aa}{b:Nat}{o:Obj}(h:H[b]?=some o):b<H.size:=(Array.getElem?_eq_some_iff.1 h).1
theorem Mod.at {F:Nat->Prop}{H H':aa}(hm:Mod F H H'){b:Nat}{o:Obj}(h:H[b]?=some o)(a:¬F b):H'[b]?=some o:=(hm.same b (aI h) a).trans h
theorem bJ (b n:Nat):(⟨b,0,none⟩:Addr).add n=⟨b,n,none⟩:=by rw[add_lit,Ry]
abbrev ab (H:aa)(b:Nat)(t:TypeId)(cs:Array Value):Prop:=H[b]?=some (.cells cs t (0,0))
theorem ab.mod {F:Nat->Prop}{H H':aa}{b:Nat}{t:TypeId}{cs:Array Value}(h:ab H b t cs)(hm:Mod F H H')(a:¬F b):ab H' b t cs:=hm.at h a
theorem ab.ext {H H':aa}{b:Nat}{t:TypeId}{cs:Array Value}(h:ab H b t cs)(hm:Mod (λ_=>False) H H'):ab H' b t cs:=hm.at h id
theorem ab.cell {H:aa}{b:Nat}{t:TypeId}{cs:Array Value}(h:ab H b t cs){i:Nat}{v:Value}(hi:cs[i]?=some v):cg H ⟨b,i,none⟩=some v:=dh h hi
theorem ab.ld {c:gz}{H:aa}{b:Nat}{t:TypeId}{cs:Array Value}(h:ab H b t cs){i:Nat}{x:c.α}(hi:cs[i]?=some (c.enc x)){K:c.α->Prop}(a:K x):Go.Proofs.YtkehfflpbpdokaaGreatDoor.ld c H (QS ⟨b,0,none⟩ i) K:=
 ⟨x,by rw[bJ];exact h.cell hi,a⟩
theorem ab.bW {c:gz}{G:aa->Prop}{b:Nat}{t:TypeId}{cs:aa->Array Value}(h:∀H,G H->ab H b t (cs H)){i:Nat}{x:c.α}(hi:∀H,G H->(cs H)[i]?=some (c.enc x)){K:c.α->Prop}(d:K x):Go.Proofs.YtkehfflpbpdokaaGreatDoor.bW c G (QS ⟨b,0,none⟩ i) K:=
 ⟨x,λH' a=>by rw[bJ];exact(h H' a).cell (hi H' a),d⟩
theorem ab.nJ {H:aa}{b:Nat}{t:TypeId}{cs:Array Value}(h:ab H b t cs){o n:Nat}{ds:Array Value}(a:ds.size=n)(hd:∀i,i<n->cs[o+i]?=ds[i]?):Go.Proofs.YtkehfflpbpdokaaGreatDoor.nJ H ⟨b,o,none⟩ n (.agg ds):=by
 refine⟨ds,rfl,a,λi hi=>?_⟩;have h1:=hd i hi;rw[add_lit];rw[<-h1];have:ds[i]?=some ds[i]:=Q8 (by omega);rw[h1,this];exact h.cell (h1.trans this)
theorem ab.kN {c:gz}{H:aa}{b:Nat}{t:TypeId}{cs:Array Value}(h:ab H b t cs){n:Nat}{x:c.α}(a:c.enc x=.agg cs)(d:cs.size=n){K:c.α->Prop}(e:K x):Go.Proofs.YtkehfflpbpdokaaGreatDoor.kN c n H ⟨b,0,none⟩ K:=
 ⟨x,by rw[a];exact h.nJ d (λi _=>by rw[Ry]),e⟩
theorem ab.st {H:aa}{b:Nat}{t:TypeId}{cs:Array Value}{v:Value}{K:aa->Prop}(h:ab H b t cs){i:Nat}(hi:i<cs.size)(c:mU v=true)
  (d:∀H',ab H' b t (cs.setIfInBounds i v)->Mod (λx=>x=b) H H'->H'.size=H.size->K H'):Go.Proofs.YtkehfflpbpdokaaGreatDoor.st H (QS ⟨b,0,none⟩ i) v K:=by
 rw[bJ];exact⟨c,⟨_,h.cell (Q8 hi)⟩,fV h,d _ (oI (a:=⟨b,i,none⟩) h rfl) (Mod.set rfl) (ji _ _ _)⟩
theorem aj {H:aa}{cs:Array Value}{t:TypeId}{K:Addr->aa->Prop}(a:∀H',H'.size=H.size+1->ab H' H.size t cs->Mod (λ_=>False) H H'->K ⟨H.size,0,none⟩ H'):aB H cs t K:=
 a _ (by simp) (by simp[ab]) (Mod.push _ _ _)
theorem BN {P:Program}{ty:TypeId}{n:Nat}(hi:oW P ty n=true):∃i,P.info? ty=some i/\i.size=n:=by
 unfold oW at hi;split at hi
 ·rename_i i he;exact⟨i,he,QH hi⟩
 ·cases hi
theorem rH {P:Program}{ty:TypeId}{H:aa}{b o:Nat}{t:TypeId}{cur cs:Array Value}{K:aa->Prop}(h:ab H b t cur)(hi:oW P ty cs.size=true)(a:o+cs.size<=cur.size)(h1:∀v∈cs.toList,v.oneCell'=true)
  (d:∀H',ab H' b t (cur.toList.take o++cs.toList++cur.toList.drop (o+cs.size)).toArray->Mod (λx=>x=b) H H'->H'.size=H.size->K H'):xJ P (RL ty (.pointer (some ⟨b,o,none⟩)) (.agg cs)) H K:=by
 intro w hw;subst hw;obtain⟨i,he,hs⟩:=BN hi;have hr:=run_storeCells_at (P:=P) b o t cs.toList 0 cur w h (by simpa using a) h1;have e:(RL ty (.pointer (some ⟨b,o,none⟩)) (.agg cs)).run P w=.ok () (w.setRow b (cur.toList.take o++cs.toList++cur.toList.drop (o+cs.size)).toArray):=by
  have c:(sizeOf ty).run P w=.ok cs.size w:=by simp[sizeOf,typeInfo,he,hs]
  simp only[RL,Instr.sureAddr,Sem.run_bind,Sem.run_pure,Result.andThen_ok,storeVar,c,Value.cells];simpa using hr
 exact⟨(),_,e,d _ (setRow_heap w b cur _ t _ h) ⟨by simp,λk _ hk=>setRow_other w b k _ hk⟩ (by simp),(.of_le rfl (Qm _))⟩
theorem ab.zV {P:Program}{ty:TypeId}{H:aa}{b:Nat}{t:TypeId}{cur cs:Array Value}{K:aa->Prop}(h:ab H b t cur)(hi:oW P ty cs.size=true)(d:cur.size=cs.size)(h1:∀v∈cs.toList,v.oneCell'=true)
  (c:∀H',ab H' b t cs->Mod (λx=>x=b) H H'->H'.size=H.size->K H'):xJ P (RL ty (.pointer (some ⟨b,0,none⟩)) (.agg cs)) H K:=
 rH h hi (by omega) h1 λH' a=>c H' (by
  have e:(cur.toList.take 0++cs.toList++cur.toList.drop (0+cs.size)).toArray=cs:=by
   rw[Rj (by simp;omega)];simp
  rw[e] at a;exact a)
theorem aw {α:Type}(a:α)(K:α->Prop):ah (some a) K=K a:=rfl
theorem aT {b:Bool}{A B:Prop}(h:b=true)(k:A):br b A B:=by subst h;exact k
theorem az {b:Bool}{A B:Prop}(h:b=false)(k:B):br b A B:=by subst h;exact k
theorem tV {d:TypeDesc}{H:aa}{K:Nat->aa->Prop}(a:∀H',H'.size=H.size+1->eU d H' H.size #[] 0->Mod (λ_=>False) H H'->K H.size H'):FL H K:=
 a _ (by simp) (eU.new d H) (Mod.push _ _ _)
def GV (P:Program)(t kt:TypeId)(d:TypeDesc):Prop:=∃(a:TypeId) (inf:TypeInfo),P.underlying t=some (.map kt a)/\P.underlying kt=some d/\P.info? a=some inf/\inf.zero=some (.pointer none)
def G4 (P:Program)(t kt:TypeId):Bool:=
 match P.underlying t with|some (.map a b)=>QQ a kt&&(match P.info? b with|some inf=>(match inf.zero with|some (.pointer none)=>true|_=>false)|none=>false)|_=>false
theorem uS {P:Program}{t kt:TypeId}{d:TypeDesc}(h:G4 P t kt=true)(hd:P.underlying kt=some d):GV P t kt d:=by
 unfold G4 at h;split at h
 ·rename_i b c q;simp only[Qz] at h;obtain⟨h1,a⟩:=h;have:=QH h1;subst this;split at a
  ·rename_i inf e;split at a
   ·rename_i f;exact⟨c,inf,q,hd,e,f⟩
   ·cases a
  ·cases a
 ·cases h
theorem aA.aE {H H':aa}{base:Nat}{e:TypeId}{size:Nat}{s:Sl}{xs:List Value}(h:aA H base e size s xs)(k:∀b,al s b->b<H.size->H'[b]?=H[b]?):aA H' base e size s xs:=by
 refine⟨h.1,h.2.imp id ?_⟩;rintro⟨g,cap,cur,a,c,d,f⟩;refine⟨g,cap,cur,a,c,?_,f⟩;have hs:al s g:=by
  cases s;simp only[Sl.v,Q3] at a;exact⟨_,a.1,rfl⟩
 exact(k g hs (h.block g hs).2).trans d
theorem aA.lt {H:aa}{base:Nat}{e:TypeId}{size:Nat}{s:Sl}{xs:List Value}(h:aA H base e size s xs):∀b,al s b->b<H.size:=λb a=>(h.block b a).2
theorem aA.Lh {H:aa}{base:Nat}{e:TypeId}{size:Nat}{s:Sl}{xs:List Value}(h:aA H base e size s xs):aA H 0 e size s xs:=
 ⟨h.1,h.2.imp id λ⟨g,cap,cur,a,_,b⟩=>⟨g,cap,cur,a,QN _,b⟩⟩
theorem eU.aE {d:TypeDesc}{H H':aa}{r:Nat}{es:Array MapEntry}{clk:Nat}(h:eU d H r es clk)(k:H'[r]?=H[r]?):eU d H' r es clk:=⟨k.trans h.obj,h.stamped,h.keys⟩
structure kK (α:Type) where
 size:Nat
 enc:α->List Value
 len:∀x,(enc x).length=size
 one:∀x,∀u∈enc x,u.oneCell'=true
def kK.all {α:Type}(E:kK α)(l:List α):List Value:=l.flatMap E.enc
theorem kK.gh {α:Type}(E:kK α):∀l:List α,(E.all l).length=l.length*E.size
 |[]=>by simp[kK.all]
 |x::l=>by
   have:=kK.gh E l;simp only[kK.all,Q5,Qt,E.len,QJ] at this ⊢;rw[this,RX];omega
theorem kK.IY {α:Type}(E:kK α)(l:List α):∀u∈E.all l,u.oneCell'=true:=by
 intro u hu;obtain⟨x,_,a⟩:=List.mem_flatMap.1 hu;exact E.one x u a
theorem kK.all_append {α:Type}(E:kK α)(l r:List α):E.all (l++r)=E.all l++E.all r:=by simp[kK.all]
theorem kK.C3 {α:Type}(E:kK α):∀(l:List α) (i j:Nat),j<E.size->(E.all l)[i*E.size+j]?=(l[i]?).bind λx=>(E.enc x)[j]?
 |[],i,j,_=>by simp[kK.all]
 |x::l,0,j,a=>by
   simp only[kK.all,Q5,Yr,Ry,List.getElem?_cons_zero,Option.bind_some];rw[List.getElem?_append_left (by rw[E.len];exact a)]
 |x::l,i+1,j,a=>by
   have:=kK.C3 E l i j a;simp only[kK.all,Q5,List.getElem?_cons_succ] at this ⊢;rw[List.getElem?_append_right (by rw[E.len,RX];omega),E.len,<-this];congr 1;rw[RX];omega
theorem kK.yd {α:Type}(E:kK α)(l:List α)(i:Nat)(y:α)(hi:i<l.length):E.all (l.set i y)=(E.all l).take (i*E.size)++E.enc y++(E.all l).drop (i*E.size+E.size):=by
 induction l generalizing i with
 |nil=>simp at hi
 |cons x l a=>
   cases i with
   |zero=>
     simp only[kK.all,List.set_cons_zero,Q5,Yr,List.take_zero,List.nil_append,Ry];rw[List.drop_append_of_le_length (by rw[E.len];exact Qm _),Rj (by rw[E.len];exact Qm _)];simp
   |succ i=>
     have h1:=a i (by simpa using hi);simp only[kK.all,List.set_cons_succ,Q5] at h1 ⊢;rw[h1,RX];have b:i*E.size+E.size=(E.enc x).length+i*E.size:=by rw[E.len];omega
     have e2:i*E.size+E.size+E.size=(E.enc x).length+(i*E.size+E.size):=by rw[E.len];omega
     rw[e2,List.drop_length_add_append,b,List.take_length_add_append];simp
theorem kK.yS {α:Type}(E:kK α):∀(l:List α) (i:Nat),(E.all l).drop (i*E.size)=E.all (l.drop i)
 |l,0=>by simp
 |[],i+1=>by simp[kK.all]
 |x::l,i+1=>by
   have:=kK.yS E l i;simp only[kK.all,Q5,List.drop_succ_cons] at this ⊢;rw[<-this,show (i+1)*E.size=(E.enc x).length+i*E.size by rw[E.len,RX];omega,<-List.drop_drop,List.drop_left]
abbrev tM {α:Type}(E:kK α)(H:aa)(a:Option Addr)(l:List α):Prop:=Reads H a (E.all l)
abbrev dm {α:Type}(E:kK α)(e:TypeId)(H:aa)(s:Sl)(l:List α):Prop:=aA H 0 e E.size s (E.all l)
section
variable {α:Type}{E:kK α}{e:TypeId}{H:aa}{s:Sl}{l:List α}
theorem dm.nil (E:kK α)(e:TypeId)(H:aa):dm E e H (Sl.mk none 0 0) []:=aA.nil H 0 e E.size
theorem dm.n (h:dm E e H s l)(hs:0<E.size):s.n=l.length:=by
 have h1:=h.1;rw[kK.gh] at h1;exact(Nat.eq_of_mul_eq_mul_right hs h1).symm
theorem tM.cell {a:Option Addr}(h:tM E H a l){i j:Nat}{x:α}{v:Value}(hi:l[i]?=some x)(b:(E.enc x)[j]?=some v):∃ad,a=some ad/\cg H (ad.add (i*E.size+j))=some v:=by
 have c:j<E.size:=by have:=(Qk.1 b).1;rwa [E.len] at this
 exact h _ v (by rw[E.C3 l i j c,hi];exact b)
theorem tM.ld {c:gz}{a:Option Addr}{ad:Addr}(h:tM E H a l)(d:a=some ad){i j:Nat}{x:α}{y:c.α}(hi:l[i]?=some x)(f:(E.enc x)[j]?=some (c.enc y)){n:Nat}(g:n=i*E.size){K:c.α->Prop}(k:K y):ld c H ((ad.add n).add j) K:=by
 obtain⟨m,b,o⟩:=h.cell hi f;rw[d] at b;cases b;subst g;exact⟨y,by rw[add_add];exact o,k⟩
theorem tM.row {a:Option Addr}{ad:Addr}(h:tM E H a l)(c:a=some ad){i:Nat}{x:α}(hi:l[i]?=some x):nJ H (ad.add (i*E.size)) E.size (.agg (E.enc x).toArray):=by
 refine⟨_,rfl,by simp[E.len],λj d=>?_⟩;have f:(E.enc x)[j]?=some ((E.enc x)[j]'(by rw[E.len];exact d)):=Qg _;obtain⟨g,b,k⟩:=h.cell hi f;rw[c] at b;cases b;rw[add_add,k];simp
theorem tM.addr {a:Option Addr}(h:tM E H a l)(hs:0<E.size)(b:0<l.length):∃ad,a=some ad:=by
 have c:0<(E.all l).length:=by rw[E.gh];exact Nat.mul_pos b hs
 obtain⟨ad,d,_⟩:=h.at c;exact⟨ad,d⟩
theorem tM.drop {c i:Nat}{a:Option Addr}(h:tM E H a l)(m:l.length<=c):tM E H (bF a c i E.size) (l.drop i):=by
 unfold bF;split
 ·rename_i b;have f:c=i:=by simpa using b
  rw[Rj (by omega)];exact Reads.nil _ _
 ·intro j v g;rw[<-E.yS,List.getElem?_drop] at g;obtain⟨ad,k,d⟩:=h _ v g;refine⟨ad.add (i*E.size),by rw[k];rfl,?_⟩;rw[add_add];exact d
theorem dm.rd (h:dm E e H s l):tM E H s.a l:=aA.reads h
def IG (P:Program)(t e:TypeId)(size bytes:Nat):Prop:=∃(inf:TypeInfo) (z:Value),P.underlying t=some (.slice e)/\P.info? e=some inf/\inf.zero=some z/\z.cells.size=inf.size/\inf.size=size/\inf.bytes=bytes/\0<size
def NZ (P:Program)(t e:TypeId)(size bytes:Nat):Bool:=
 (match P.underlying t with|some (.slice a)=>QQ a e|_=>false)&&
 (match P.info? e with|some inf=>(match inf.zero with|some v=>QQ v.cells.size inf.size|none=>false)&&(QQ inf.size size&&(QQ inf.bytes bytes&&Nat.blt 0 size))|none=>false)
theorem tH {P:Program}{t e:TypeId}{size bytes:Nat}(h:NZ P t e size bytes=true):IG P t e size bytes:=by
 unfold NZ at h;simp only[Qz] at h;obtain⟨h1,a⟩:=h;split at h1
 ·rename_i i he;split at a
  ·rename_i inf hi;simp only[Qz] at a;obtain⟨b,c,d,f⟩:=a;split at b
   ·rename_i v g;have:=QH h1;subst this;exact⟨inf,v,he,hi,g,QH b,QH c,QH d,by simp[Nat.blt] at f;omega⟩
   ·cases b
  ·cases a
 ·cases h1
variable {P:Program}{t:TypeId}{bytes:Nat}
abbrev Grown (s a:Sl)(H H':aa):Prop:=Mod (al s) H H'/\(∀b,al a b->al s b\/H.size<=b)
theorem dm.append (he:IG P t e E.size bytes){ty:TypeId}{x:Sl}{r:List α}{K:Sl->aa->Prop}(h:dm E e H s l)(i:tM E H x.a r)(b:x.n=r.length)
  (u:l.length+r.length<=1099511627776) (j:(l.length+r.length)*bytes<=140737488355328)
  (k:∀(a:Sl) (H':aa),dm E e H' a (l++r)->Grown s a H H'->(a.a=none↔s.a=none/\r.length=0)->K a H'):bI au P (Qo #[t,t] ty #[s.v,x.v]) H K:=by
 obtain⟨inf,z,m,hi,hz,c,hs,d,n⟩:=he;have f:=dm.n h n;refine lC (base:=0) (xs:=E.all l) (ws:=E.all r) m hi hz c (by omega) (by rw[hs];exact h) (by rw[E.gh,b,hs]) i (E.IY r) (by omega) (by rw[d,f,b];exact j) (QN _) ?_;intro a H' h1 g o p q;refine k a H' ?_ ⟨o,p⟩ (by rw[q,b]);rw[hs,<-E.all_append] at g;exact g
theorem dm.push (he:IG P t e E.size bytes){ty:TypeId}{x:α}{cs:Array Value}{K:Sl->aa->Prop}(h:dm E e H s l)(d:cs.toList=E.enc x)
  (k:l.length+1<=1099511627776) (f:(l.length+1)*bytes<=140737488355328)
  (m:∀(a:Sl) (H':aa),dm E e H' a (l++[x])->Grown s a H H'->a.a≠none->K a H'):
  aB H cs e λp H1=>bI au P (Qo #[t,t] ty #[s.v,.slice (some p) 1 1]) H1 K:=by
 have hm:Mod (λ_=>False) H (H.push (.cells cs e)):=Mod.push _ _ _;refine dm.append he (s:=s) (x:=⟨some ⟨H.size,0,none⟩,1,1⟩) (r:=[x]) (aA.ext h hm) ?_ rfl (by simpa using k) (by simpa using f) ?_
 ·intro i v g;simp only[kK.all,Q5,List.flatMap_nil,List.append_nil] at g;exact⟨_,rfl,by rw[bJ];exact dh (c:=cs) (t:=e) (fz:=(0,0)) (by simp) (by rw[<-d] at g;simpa using g)⟩
 ·intro a H' h1 j n;refine m a H' h1 ⟨(Ext.mod hm).trans j.1,λb f=>(j.2 b f).imp id λq=>?_⟩ (λq=>by have:=(n.1 q).2;simp at this);simp at q;omega
theorem Bc (off:Nat)(v:List Value):∀(o:Nat) (cs:Array Value),off+o+v.length<=cs.size->(v.zipIdx o).foldl (λcs (p:Value×Nat)=>cs.setIfInBounds (off+p.2) p.1) cs=(cs.toList.take (off+o)++v++cs.toList.drop (off+o+v.length)).toArray:=by
 induction v with
 |nil=>intro o cs _;simp
 |cons a v b=>
   intro o cs h;simp only[QJ] at h;rw[List.zipIdx_cons,List.foldl_cons,b (o+1) _ (by simp;omega)];have e:=list_seg_step cs.toList (off+o) a v (by simp;omega);simpa[Nat.add_assoc] using e
theorem nG {place:Nat->Option (Nat×Nat)}{cells:Array Value}{i off n:Nat}{v:Value}{rest:List (Nat×Value)}(a:place i=some (off,n))(b:v.cells.size=n)(d:off+n<=cells.size):
  Ts place cells ((i,v)::rest)=Ts place (cells.toList.take off++v.cells.toList++cells.toList.drop (off+n)).toArray rest:=by
 have c:=Bc off v.cells.toList 0 cells (by simp;omega);simp only[Ts,a];rw[if_neg (by simp;omega),<-Array.foldl_toList,Array.toList_zipIdx];rw[c];simp[b]
theorem Bt {n:Nat}{cs base:Array Value}(b:base.size=n)(a:cs.size=n):Ts (λi=>some (i*n,n)) base [(0,.agg cs)]=some cs:=by
 rw[nG (off:=0) (n:=n) (v:=.agg cs) (by simp) a (by omega)];simp only[Ts];rw[Rj (by simp;omega)];have:(Value.agg cs).cells=cs:=rfl;simp[this]
theorem dm.GM (he:IG P t e E.size bytes){ty:TypeId}{x:α}{cs:Array Value}{K:Sl->aa->Prop}(h:dm E e H s l)(b:cs.toList=E.enc x)(g:E.size<=16777216)
  (i:l.length+1<=1099511627776) (j:(l.length+1)*bytes<=140737488355328) (J:aa->Prop)
  (k:∀H1,H1.size=H.size+1->Mod (λ_=>False) H H1->J H1)
  (m:∀(f:Sl) (H':aa),dm E e H' f (l++[x])->Grown s f H H'->f.a≠none->K f H'):
  bI au P (Sh t 1 #[(0,.agg cs)]) H λsl H1=>J H1/\bI au P (Qo #[t,t] ty #[s.v,sl.v]) H1 K:=by
 obtain⟨inf,z,o,hi,hz,p,hs,q,v⟩:=id he;have r:cs.size=E.size:=by rw[<-E.len x,<-b];simp
 intro w hw;subst hw;have a:=Bt (n:=inf.size) (cs:=cs) (base:=(Array.range (1*inf.size)).map (z.cells[·%z.cells.size]!)) (by simp) (by omega);have c:(Sh t 1 #[(0,.agg cs)]).run P w=.ok (.slice (some ⟨w.heap.size,0,none⟩) 1 1) {w with heap:=w.heap.push (.cells cs e)}:=by
  have u:¬(1*inf.size>2^24):=by omega
  have d:inf.size≠0:=by omega
  simp[Sh,run_underlying o,sizeOf,typeInfo,hi,d,zeroValue,hz,newRow,newObj,SG];rw[if_neg (by omega)];simp[Nat.one_mul] at a;simp[a,Sem.run,SG]
 refine⟨_,_,c,⟨⟨some ⟨w.heap.size,0,none⟩,1,1⟩,rfl,k _ (by simp) (Mod.push _ _ _),?_⟩,(.of_le rfl (Qm _))⟩;exact dm.push he h b i j m
theorem bI.mono {c:gz}{q:Sem Value}{K K':c.α->aa->Prop}(h:bI c P q H K)(hk:∀x H',K x H'->K' x H'):bI c P q H K':=λw hw=>by
 obtain⟨v,w',h1,⟨x,a,b⟩,d⟩:=h w hw;exact⟨v,w',h1,⟨x,a,hk _ _ b⟩,d⟩
theorem dm.Ob (he:IG P t e E.size bytes){ty:TypeId}{x:α}{cs:Array Value}{K:Sl->aa->Prop}(h:dm E e H s l)(b:cs.toList=E.enc x)(c:E.size<=16777216)
  (d:l.length+1<=1099511627776) (f:(l.length+1)*bytes<=140737488355328)
  (g:∀(a:Sl) (H':aa),dm E e H' a (l++[x])->Grown s a H H'->a.a≠none->K a H'):
  bI au P (Sh t 1 #[(0,.agg cs)]) H λsl H1=>bI au P (Qo #[t,t] ty #[s.v,sl.v]) H1 K:=
 (dm.GM he h b c d f (λ_=>True) (λ_ _ _=>trivial) g).mono λ_ _ h=>h.2
theorem dm.st {K:aa->Prop}(h:dm E e H s l){ad:Addr}(f:s.a=some ad){i j:Nat}{x y:α}{v:Value}(hi:l[i]?=some x)(u:j<E.size)(w:mU v=true)(z:E.enc y=(E.enc x).set j v){n:Nat}(A:n=i*E.size)
  (B:∀H',dm E e H' s (l.set i y)->Mod (al s) H H'->H'.size=H.size->K H'):Go.Proofs.YtkehfflpbpdokaaGreatDoor.st H ((ad.add n).add j) v K:=by
 subst A;have b:i<l.length:=(Qk.1 hi).1;have hlen:=E.gh l;have C:i*E.size+j<l.length*E.size:=by
  have:=Ra E.size (T9 b);rw[RX] at this;omega
 rcases h.2 with ⟨d,e2⟩|⟨g,cap,cur,d,D,m,p,F,q,G⟩
 ·cases s;simp only[Sl.v,Q3] at d f;rw[d.1] at f;cases f
 ·have r:s.a=some ⟨g,0,none⟩:=by
   cases s;simp only[Sl.v,Q3] at d;exact d.1
  rw[r] at f;cases f;have I:=h.1;have o:i*E.size+j<cur.size:=by
   have:=Ra E.size p;rw[q];omega
  rw[add_add,bJ];refine⟨w,⟨_,dh m (Q8 o)⟩,fV m,B _ ?_ (Mod.set ⟨_,r,rfl⟩) (ji _ _ _)⟩;have c:(E.all l).set (i*E.size+j) v=E.all (l.set i y):=by
   rw[E.yd l i y b,z];have J:(E.all l)=(E.all l).take (i*E.size)++E.enc x++(E.all l).drop (i*E.size+E.size):=by
    have:=E.yd l i x b;have k:l[i]=x:=by rw[Qg b] at hi;exact Qq hi
    rwa [<-k,List.set_getElem_self,k] at this
   have L:((E.all l).take (i*E.size)).length=i*E.size:=by
    rw[List.length_take,hlen];have:=Ra E.size (Nat.le_of_lt b);omega
   conv=>lhs;rw[J]
   rw[Rg,List.set_append_right _ _ (by omega),L,Nat.add_sub_cancel_left,List.set_append_left _ _ (by rw[E.len];exact u),Rg]
  refine⟨by rw[<-c];simpa using h.1,.inr ⟨g,cap,cur.setIfInBounds (i*E.size+j) v,d,D,oI (a:=⟨g,i*E.size+j,none⟩) m rfl,p,F,by simpa using q,?_⟩⟩;rw[<-c,<-G];simp[List.take_set]
theorem dm.OT {ty:TypeId}{cs:Array Value}{K:aa->Prop}(h:dm E e H s l){ad:Addr}(f:s.a=some ad){i:Nat}{y:α}(j:i<l.length)(a:cs.toList=E.enc y)(hi:oW P ty E.size=true){n:Nat}(r:n=i*E.size)
  (u:∀H',dm E e H' s (l.set i y)->Mod (al s) H H'->H'.size=H.size->K H'):xJ P (RL ty (.pointer (some (ad.add n))) (.agg cs)) H K:=by
 subst r;have hlen:=E.gh l;have c:cs.size=E.size:=by rw[<-E.len y,<-a];simp
 have v:i*E.size+E.size<=l.length*E.size:=by
  have:=Ra E.size (T9 j);rw[RX] at this;omega
 rcases h.2 with ⟨d,e2⟩|⟨g,cap,cur,d,k,w,m,x,z,A⟩
 ·cases s;simp only[Sl.v,Q3] at d f;rw[d.1] at f;cases f
 ·have p:s.a=some ⟨g,0,none⟩:=by
   cases s;simp only[Sl.v,Q3] at d;exact d.1
  rw[p] at f;cases f;have B:=h.1;have C:i*E.size+E.size<=cur.size:=by
   have:=Ra E.size m;rw[z];omega
  rw[bJ];refine rH (b:=g) (o:=i*E.size) (cur:=cur) (t:=e) w (by rw[c];exact hi) (by omega) (by rw[a];exact E.one y) λH' D r2 F=>u H' ?_ (r2.mono λb _ k=>⟨_,p,k.symm⟩) F;refine⟨by simpa[E.gh] using h.1,.inr ⟨g,cap,_,d,k,D,m,x,?_,?_⟩⟩
  ·simp[c];omega
  ·rw[E.yd l i y j,<-A,a];simp only[c];have q:(cur.toList.take (i*E.size)).length=i*E.size:=by simp;omega
   have G:i*E.size+E.size<=s.n*E.size:=by omega
   rw[List.take_append,List.take_of_length_le (by simp[q,E.len];omega),List.take_take,Nat.min_eq_left (by omega)];congr 1;rw[Qt,q,E.len,List.take_drop];congr 2;omega
end
end Go.Proofs.YtkehfflpbpdokaaGreatDoor
