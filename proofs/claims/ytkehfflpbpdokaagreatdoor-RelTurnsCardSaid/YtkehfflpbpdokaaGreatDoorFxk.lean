/-
 Ground, eleventh text: rows with their type, slices of elements of several cells, stores of aggregates; what stays is told by single blocks.
-/
import Derived.Test.YtkehfflpbpdokaaGreatDoorFxj
import Derived.Test.YtkehfflpbpdokaaGreatDoorFxi
open Array renaming getElem?_eq_getElem->Lb
open Bool renaming and_eq_true->KD
open Go.Addr renaming add->K0
open Go.Builtin renaming append_->Ks
open Go.Instr renaming storeAt->LD,buildSlice->Me,fill->M0
open Go.Result renaming andThen->Mu
open Go.Value.slice renaming injEq->K5
open List renaming getElem?_eq_getElem->Kg,getElem?_eq_some_iff->Kj,length_append->Kv,length_cons->K1,flatMap_cons->K6,append_assoc->Lk,drop_of_length_le->Lz
open Nat renaming le_refl->Kl,eq_of_beq_eq_true->KR,zero_le->KU,mul_le_mul_right->K2,beq->K3,zero_add->LB,succ_mul->LU,succ_le_of_lt->ND,zero_mul->RS
open Option.some renaming inj->Kq
namespace Go.Proofs.YtkehfflpbpdokaaGreatDoor
theorem aG {H:aa}{b:Nat}{o:Obj}(h:H[b]?=some o):b<H.size:=(Array.getElem?_eq_some_iff.1 h).1
theorem Mod.at {F:Nat->Prop}{H H':aa}(hm:Mod F H H'){b:Nat}{o:Obj}(h:H[b]?=some o)(hn:¬F b):H'[b]?=some o:=(hm.same b (aG h) hn).trans h
theorem bq (b n:Nat):(⟨b,0,none⟩:Addr).add n=⟨b,n,none⟩:=by rw[add_lit,LB]
abbrev ag (H:aa)(b:Nat)(t:TypeId)(cs:Array Value):Prop:=H[b]?=some (.cells cs t (0,0))
theorem ag.mod {F:Nat->Prop}{H H':aa}{b:Nat}{t:TypeId}{cs:Array Value}(h:ag H b t cs)(hm:Mod F H H')(hn:¬F b):ag H' b t cs:=hm.at h hn
theorem ag.ext {H H':aa}{b:Nat}{t:TypeId}{cs:Array Value}(h:ag H b t cs)(hm:Mod (λ_=>False) H H'):ag H' b t cs:=hm.at h id
theorem ag.cell {H:aa}{b:Nat}{t:TypeId}{cs:Array Value}(h:ag H b t cs){i:Nat}{v:Value}(hi:cs[i]?=some v):bI H ⟨b,i,none⟩=some v:=cv h hi
theorem ag.ld {c:eJ}{H:aa}{b:Nat}{t:TypeId}{cs:Array Value}(h:ag H b t cs){i:Nat}{x:c.α}(hi:cs[i]?=some (c.enc x)){K:c.α->Prop}(hK:K x):Go.Proofs.YtkehfflpbpdokaaGreatDoor.ld c H (K0 ⟨b,0,none⟩ i) K:=
 ⟨x,by rw[bq];exact h.cell hi,hK⟩
theorem ag.cP {c:eJ}{G:aa->Prop}{b:Nat}{t:TypeId}{cs:aa->Array Value}(h:∀H,G H->ag H b t (cs H)){i:Nat}{x:c.α}(hi:∀H,G H->(cs H)[i]?=some (c.enc x)){K:c.α->Prop}(hK:K x):Go.Proofs.YtkehfflpbpdokaaGreatDoor.cP c G (K0 ⟨b,0,none⟩ i) K:=
 ⟨x,λH' hg=>by rw[bq];exact(h H' hg).cell (hi H' hg),hK⟩
theorem ag.kL {H:aa}{b:Nat}{t:TypeId}{cs:Array Value}(h:ag H b t cs){o n:Nat}{ds:Array Value}(hn:ds.size=n)(hd:∀i,i<n->cs[o+i]?=ds[i]?):Go.Proofs.YtkehfflpbpdokaaGreatDoor.kL H ⟨b,o,none⟩ n (.agg ds):=by
 refine⟨ds,rfl,hn,λi hi=>?_⟩
 have h1:=hd i hi
 rw[add_lit]
 rw[<-h1]
 have:ds[i]?=some ds[i]:=Lb (by omega)
 rw[h1,this]
 exact h.cell (h1.trans this)
theorem ag.jq {c:eJ}{H:aa}{b:Nat}{t:TypeId}{cs:Array Value}(h:ag H b t cs){n:Nat}{x:c.α}(hx:c.enc x=.agg cs)(hn:cs.size=n){K:c.α->Prop}(hK:K x):Go.Proofs.YtkehfflpbpdokaaGreatDoor.jq c n H ⟨b,0,none⟩ K:=
 ⟨x,by rw[hx];exact h.kL hn (λi _=>by rw[LB]),hK⟩
theorem ag.st {H:aa}{b:Nat}{t:TypeId}{cs:Array Value}{v:Value}{K:aa->Prop}(h:ag H b t cs){i:Nat}(hi:i<cs.size)(hp:ka v=true)
  (hK:∀H',ag H' b t (cs.setIfInBounds i v)->Mod (λx=>x=b) H H'->H'.size=H.size->K H'):Go.Proofs.YtkehfflpbpdokaaGreatDoor.st H (K0 ⟨b,0,none⟩ i) v K:=by
 rw[bq]
 exact⟨hp,⟨_,h.cell (Lb hi)⟩,dV h,hK _ (lO (a:=⟨b,i,none⟩) h rfl) (Mod.set rfl) (gB _ _ _)⟩
theorem ar {H:aa}{cs:Array Value}{t:TypeId}{K:Addr->aa->Prop}(hK:∀H',H'.size=H.size+1->ag H' H.size t cs->Mod (λ_=>False) H H'->K ⟨H.size,0,none⟩ H'):aM H cs t K:=
 hK _ (by simp) (by simp[ag]) (Mod.push _ _ _)
theorem xg {P:Program}{ty:TypeId}{n:Nat}(hi:mF P ty n=true):∃i,P.info? ty=some i/\i.size=n:=by
 unfold mF at hi
 split at hi
 ·rename_i i he;exact⟨i,he,KR hi⟩
 ·cases hi
theorem nK {P:Program}{ty:TypeId}{H:aa}{b o:Nat}{t:TypeId}{cur cs:Array Value}{K:aa->Prop}(h:ag H b t cur)(hi:mF P ty cs.size=true)(hfit:o+cs.size<=cur.size)(h1:∀v∈cs.toList,v.oneCell'=true)
  (hK:∀H',ag H' b t (cur.toList.take o++cs.toList++cur.toList.drop (o+cs.size)).toArray->Mod (λx=>x=b) H H'->H'.size=H.size->K H'):ur P (LD ty (.pointer (some ⟨b,o,none⟩)) (.agg cs)) H K:=by
 intro w hw
 subst hw
 obtain⟨i,he,hs⟩:=xg hi
 have hr:=run_storeCells_at (P:=P) b o t cs.toList 0 cur w h (by simpa using hfit) h1
 have hq:(LD ty (.pointer (some ⟨b,o,none⟩)) (.agg cs)).run P w=.ok () (w.setRow b (cur.toList.take o++cs.toList++cur.toList.drop (o+cs.size)).toArray):=by
  have hsz:(sizeOf ty).run P w=.ok cs.size w:=by simp[sizeOf,typeInfo,he,hs]
  simp only[LD,Instr.sureAddr,Sem.run_bind,Sem.run_pure,Result.andThen_ok,storeVar,hsz,Value.cells]
  simpa using hr
 exact⟨(),_,hq,hK _ (setRow_heap w b cur _ t _ h) ⟨by simp,λk _ hk=>setRow_other w b k _ hk⟩ (by simp),(.of_le rfl (Kl _))⟩
theorem ag.wb {P:Program}{ty:TypeId}{H:aa}{b:Nat}{t:TypeId}{cur cs:Array Value}{K:aa->Prop}(h:ag H b t cur)(hi:mF P ty cs.size=true)(ho:cur.size=cs.size)(h1:∀v∈cs.toList,v.oneCell'=true)
  (hK:∀H',ag H' b t cs->Mod (λx=>x=b) H H'->H'.size=H.size->K H'):ur P (LD ty (.pointer (some ⟨b,0,none⟩)) (.agg cs)) H K:=
 nK h hi (by omega) h1 λH' h2=>hK H' (by
  have e:(cur.toList.take 0++cs.toList++cur.toList.drop (0+cs.size)).toArray=cs:=by
   rw[Lz (by simp;omega)];simp
  rw[e] at h2;exact h2)
theorem aq {α:Type}(a:α)(K:α->Prop):ae (some a) K=K a:=rfl
theorem aT {b:Bool}{A B:Prop}(h:b=true)(k:A):br b A B:=by subst h;exact k
theorem ax {b:Bool}{A B:Prop}(h:b=false)(k:B):br b A B:=by subst h;exact k
theorem pV {d:TypeDesc}{H:aa}{K:Nat->aa->Prop}(hK:∀H',H'.size=H.size+1->dq d H' H.size #[] 0->Mod (λ_=>False) H H'->K H.size H'):CD H K:=
 hK _ (by simp) (dq.new d H) (Mod.push _ _ _)
def AV (P:Program)(t kt:TypeId)(d:TypeDesc):Prop:=∃(et:TypeId) (inf:TypeInfo),P.underlying t=some (.map kt et)/\P.underlying kt=some d/\P.info? et=some inf/\inf.zero=some (.pointer none)
def AY (P:Program)(t kt:TypeId):Bool:=
 match P.underlying t with|some (.map kt' et)=>K3 kt' kt&&(match P.info? et with|some inf=>(match inf.zero with|some (.pointer none)=>true|_=>false)|none=>false)|_=>false
theorem qh {P:Program}{t kt:TypeId}{d:TypeDesc}(h:AY P t kt=true)(hd:P.underlying kt=some d):AV P t kt d:=by
 unfold AY at h
 split at h
 ·rename_i kt' et q
  simp only[KD] at h
  obtain⟨h1,h2⟩:=h
  have:=KR h1
  subst this
  split at h2
  ·rename_i inf q2
   split at h2
   ·rename_i q3;exact⟨et,inf,q,hd,q2,q3⟩
   ·cases h2
  ·cases h2
 ·cases h
theorem az.aA {H H':aa}{base:Nat}{e:TypeId}{size:Nat}{s:Sl}{xs:List Value}(h:az H base e size s xs)(k:∀b,ai s b->b<H.size->H'[b]?=H[b]?):az H' base e size s xs:=by
 refine⟨h.1,h.2.imp id ?_⟩
 rintro⟨g,cap,cur,e1,hb,hg,h3⟩
 refine⟨g,cap,cur,e1,hb,?_,h3⟩
 have hs:ai s g:=by
  cases s;simp only[Sl.v,K5] at e1
  exact⟨_,e1.1,rfl⟩
 exact(k g hs (h.block g hs).2).trans hg
theorem az.lt {H:aa}{base:Nat}{e:TypeId}{size:Nat}{s:Sl}{xs:List Value}(h:az H base e size s xs):∀b,ai s b->b<H.size:=λb hb=>(h.block b hb).2
theorem az.FQ {H:aa}{base:Nat}{e:TypeId}{size:Nat}{s:Sl}{xs:List Value}(h:az H base e size s xs):az H 0 e size s xs:=
 ⟨h.1,h.2.imp id λ⟨g,cap,cur,e1,_,h3⟩=>⟨g,cap,cur,e1,KU _,h3⟩⟩
theorem dq.aA {d:TypeDesc}{H H':aa}{r:Nat}{es:Array MapEntry}{clk:Nat}(h:dq d H r es clk)(k:H'[r]?=H[r]?):dq d H' r es clk:=⟨k.trans h.obj,h.stamped,h.keys⟩
structure ja (α:Type) where
 size:Nat
 enc:α->List Value
 len:∀x,(enc x).length=size
 one:∀x,∀u∈enc x,u.oneCell'=true
def ja.all {α:Type}(E:ja α)(l:List α):List Value:=l.flatMap E.enc
theorem ja.dS {α:Type}(E:ja α):∀l:List α,(E.all l).length=l.length*E.size
 |[]=>by simp[ja.all]
 |x::l=>by
   have:=ja.dS E l
   simp only[ja.all,K6,Kv,E.len,K1] at this ⊢
   rw[this,LU];omega
theorem ja.Ee {α:Type}(E:ja α)(l:List α):∀u∈E.all l,u.oneCell'=true:=by
 intro u hu
 obtain⟨x,_,hx⟩:=List.mem_flatMap.1 hu
 exact E.one x u hx
theorem ja.all_append {α:Type}(E:ja α)(l r:List α):E.all (l++r)=E.all l++E.all r:=by simp[ja.all]
theorem ja.yw {α:Type}(E:ja α):∀(l:List α) (i j:Nat),j<E.size->(E.all l)[i*E.size+j]?=(l[i]?).bind λx=>(E.enc x)[j]?
 |[],i,j,_=>by simp[ja.all]
 |x::l,0,j,hj=>by
   simp only[ja.all,K6,RS,LB,List.getElem?_cons_zero,Option.bind_some]
   rw[List.getElem?_append_left (by rw[E.len];exact hj)]
 |x::l,i+1,j,hj=>by
   have:=ja.yw E l i j hj
   simp only[ja.all,K6,List.getElem?_cons_succ] at this ⊢
   rw[List.getElem?_append_right (by rw[E.len,LU];omega),E.len,<-this]
   congr 1
   rw[LU];omega
theorem ja.tP {α:Type}(E:ja α)(l:List α)(i:Nat)(y:α)(hi:i<l.length):E.all (l.set i y)=(E.all l).take (i*E.size)++E.enc y++(E.all l).drop (i*E.size+E.size):=by
 induction l generalizing i with
 |nil=>simp at hi
 |cons x l ih=>
   cases i with
   |zero=>
     simp only[ja.all,List.set_cons_zero,K6,RS,List.take_zero,List.nil_append,LB]
     rw[List.drop_append_of_le_length (by rw[E.len];exact Kl _),Lz (by rw[E.len];exact Kl _)]
     simp
   |succ i=>
     have h1:=ih i (by simpa using hi)
     simp only[ja.all,List.set_cons_succ,K6] at h1 ⊢
     rw[h1,LU]
     have e1:i*E.size+E.size=(E.enc x).length+i*E.size:=by rw[E.len];omega
     have e2:i*E.size+E.size+E.size=(E.enc x).length+(i*E.size+E.size):=by rw[E.len];omega
     rw[e2,List.drop_length_add_append,e1,List.take_length_add_append]
     simp
theorem ja.vo {α:Type}(E:ja α):∀(l:List α) (i:Nat),(E.all l).drop (i*E.size)=E.all (l.drop i)
 |l,0=>by simp
 |[],i+1=>by simp[ja.all]
 |x::l,i+1=>by
   have:=ja.vo E l i
   simp only[ja.all,K6,List.drop_succ_cons] at this ⊢
   rw[<-this,show (i+1)*E.size=(E.enc x).length+i*E.size by rw[E.len,LU];omega,<-List.drop_drop,List.drop_left]
abbrev ql {α:Type}(E:ja α)(H:aa)(a:Option Addr)(l:List α):Prop:=Reads H a (E.all l)
abbrev cw {α:Type}(E:ja α)(e:TypeId)(H:aa)(s:Sl)(l:List α):Prop:=az H 0 e E.size s (E.all l)
section
variable {α:Type}{E:ja α}{e:TypeId}{H:aa}{s:Sl}{l:List α}
theorem cw.nil (E:ja α)(e:TypeId)(H:aa):cw E e H (Sl.mk none 0 0) []:=az.nil H 0 e E.size
theorem cw.n (h:cw E e H s l)(hs:0<E.size):s.n=l.length:=by
 have h1:=h.1
 rw[ja.dS] at h1
 exact(Nat.eq_of_mul_eq_mul_right hs h1).symm
theorem ql.cell {a:Option Addr}(h:ql E H a l){i j:Nat}{x:α}{v:Value}(hi:l[i]?=some x)(hv:(E.enc x)[j]?=some v):∃ad,a=some ad/\bI H (ad.add (i*E.size+j))=some v:=by
 have hj:j<E.size:=by have:=(Kj.1 hv).1;rwa [E.len] at this
 exact h _ v (by rw[E.yw l i j hj,hi];exact hv)
theorem ql.ld {c:eJ}{a:Option Addr}{ad:Addr}(h:ql E H a l)(ha:a=some ad){i j:Nat}{x:α}{y:c.α}(hi:l[i]?=some x)(hv:(E.enc x)[j]?=some (c.enc y)){n:Nat}(hn:n=i*E.size){K:c.α->Prop}(hK:K y):ld c H ((ad.add n).add j) K:=by
 obtain⟨ad',e1,hc⟩:=h.cell hi hv
 rw[ha] at e1;cases e1
 subst hn
 exact⟨y,by rw[add_add];exact hc,hK⟩
theorem ql.row {a:Option Addr}{ad:Addr}(h:ql E H a l)(ha:a=some ad){i:Nat}{x:α}(hi:l[i]?=some x):kL H (ad.add (i*E.size)) E.size (.agg (E.enc x).toArray):=by
 refine⟨_,rfl,by simp[E.len],λj hj=>?_⟩
 have hv:(E.enc x)[j]?=some ((E.enc x)[j]'(by rw[E.len];exact hj)):=Kg _
 obtain⟨ad',e1,hc⟩:=h.cell hi hv
 rw[ha] at e1;cases e1
 rw[add_add,hc]
 simp
theorem ql.addr {a:Option Addr}(h:ql E H a l)(hs:0<E.size)(hl:0<l.length):∃ad,a=some ad:=by
 have h0:0<(E.all l).length:=by rw[E.dS];exact Nat.mul_pos hl hs
 obtain⟨ad,e1,_⟩:=h.at h0
 exact⟨ad,e1⟩
theorem ql.drop {c i:Nat}{a:Option Addr}(h:ql E H a l)(hc:l.length<=c):ql E H (bw a c i E.size) (l.drop i):=by
 unfold bw
 split
 ·rename_i hci
  have hci':c=i:=by simpa using hci
  rw[Lz (by omega)]
  exact Reads.nil _ _
 ·intro j v hv
  rw[<-E.vo,List.getElem?_drop] at hv
  obtain⟨ad,e1,hc1⟩:=h _ v hv
  refine⟨ad.add (i*E.size),by rw[e1];rfl,?_⟩
  rw[add_add];exact hc1
theorem cw.rd (h:cw E e H s l):ql E H s.a l:=az.reads h
def Dq (P:Program)(t e:TypeId)(size bytes:Nat):Prop:=∃(inf:TypeInfo) (z:Value),P.underlying t=some (.slice e)/\P.info? e=some inf/\inf.zero=some z/\z.cells.size=inf.size/\inf.size=size/\inf.bytes=bytes/\0<size
def Hz (P:Program)(t e:TypeId)(size bytes:Nat):Bool:=
 (match P.underlying t with|some (.slice e')=>K3 e' e|_=>false)&&
 (match P.info? e with|some inf=>(match inf.zero with|some v=>K3 v.cells.size inf.size|none=>false)&&(K3 inf.size size&&(K3 inf.bytes bytes&&Nat.blt 0 size))|none=>false)
theorem qg {P:Program}{t e:TypeId}{size bytes:Nat}(h:Hz P t e size bytes=true):Dq P t e size bytes:=by
 unfold Hz at h
 simp only[KD] at h
 obtain⟨h1,h2⟩:=h
 split at h1
 ·rename_i e' he
  split at h2
  ·rename_i inf hi
   simp only[KD] at h2
   obtain⟨h3,h4,h5,h6⟩:=h2
   split at h3
   ·rename_i v hv
    have:=KR h1
    subst this
    exact⟨inf,v,he,hi,hv,KR h3,KR h4,KR h5,by simp[Nat.blt] at h6;omega⟩
   ·cases h3
  ·cases h2
 ·cases h1
variable {P:Program}{t:TypeId}{bytes:Nat}
abbrev Grown (s s':Sl)(H H':aa):Prop:=Mod (ai s) H H'/\(∀b,ai s' b->ai s b\/H.size<=b)
theorem cw.append (he:Dq P t e E.size bytes){ty:TypeId}{x:Sl}{r:List α}{K:Sl->aa->Prop}(h:cw E e H s l)(hx:ql E H x.a r)(hn:x.n=r.length)
  (hl:l.length+r.length<=1099511627776) (hb:(l.length+r.length)*bytes<=140737488355328)
  (hK:∀(s':Sl) (H':aa),cw E e H' s' (l++r)->Grown s s' H H'->(s'.a=none↔s.a=none/\r.length=0)->K s' H'):bo ao P (Ks #[t,t] ty #[s.v,x.v]) H K:=by
 obtain⟨inf,z,ht,hi,hz,hzs,hs,hbt,h0⟩:=he
 have hsn:=cw.n h h0
 refine jd (base:=0) (xs:=E.all l) (ws:=E.all r) ht hi hz hzs (by omega) (by rw[hs];exact h) (by rw[E.dS,hn,hs]) hx (E.Ee r) (by omega) (by rw[hbt,hsn,hn];exact hb) (KU _) ?_
 intro s' H' h1 h2 h3 h4 h5
 refine hK s' H' ?_ ⟨h3,h4⟩ (by rw[h5,hn])
 rw[hs,<-E.all_append] at h2
 exact h2
theorem cw.push (he:Dq P t e E.size bytes){ty:TypeId}{x:α}{cs:Array Value}{K:Sl->aa->Prop}(h:cw E e H s l)(hcs:cs.toList=E.enc x)
  (hl:l.length+1<=1099511627776) (hb:(l.length+1)*bytes<=140737488355328)
  (hK:∀(s':Sl) (H':aa),cw E e H' s' (l++[x])->Grown s s' H H'->s'.a≠none->K s' H'):
  aM H cs e λp H1=>bo ao P (Ks #[t,t] ty #[s.v,.slice (some p) 1 1]) H1 K:=by
 have hm:Mod (λ_=>False) H (H.push (.cells cs e)):=Mod.push _ _ _
 refine cw.append he (s:=s) (x:=⟨some ⟨H.size,0,none⟩,1,1⟩) (r:=[x]) (az.ext h hm) ?_ rfl (by simpa using hl) (by simpa using hb) ?_
 ·intro i v hv
  simp only[ja.all,K6,List.flatMap_nil,List.append_nil] at hv
  exact⟨_,rfl,by rw[bq];exact cv (c:=cs) (t:=e) (fz:=(0,0)) (by simp) (by rw[<-hcs] at hv;simpa using hv)⟩
 ·intro s' H' h1 h2 h3
  refine hK s' H' h1 ⟨(Ext.mod hm).trans h2.1,λb hb=>(h2.2 b hb).imp id λq=>?_⟩ (λq=>by have:=(h3.1 q).2;simp at this)
  simp at q;omega
theorem xL (off:Nat)(v:List Value):∀(o:Nat) (cs:Array Value),off+o+v.length<=cs.size->(v.zipIdx o).foldl (λcs (p:Value×Nat)=>cs.setIfInBounds (off+p.2) p.1) cs=(cs.toList.take (off+o)++v++cs.toList.drop (off+o+v.length)).toArray:=by
 induction v with
 |nil=>intro o cs _;simp
 |cons a v ih=>
   intro o cs h
   simp only[K1] at h
   rw[List.zipIdx_cons,List.foldl_cons,ih (o+1) _ (by simp;omega)]
   have e:=list_seg_step cs.toList (off+o) a v (by simp;omega)
   simpa[Nat.add_assoc] using e
theorem kz {place:Nat->Option (Nat×Nat)}{cells:Array Value}{i off n:Nat}{v:Value}{rest:List (Nat×Value)}(hp:place i=some (off,n))(hn:v.cells.size=n)(hf:off+n<=cells.size):
  M0 place cells ((i,v)::rest)=M0 place (cells.toList.take off++v.cells.toList++cells.toList.drop (off+n)).toArray rest:=by
 have e1:=xL off v.cells.toList 0 cells (by simp;omega)
 simp only[M0,hp]
 rw[if_neg (by simp;omega),<-Array.foldl_toList,Array.toList_zipIdx]
 rw[e1]
 simp[hn]
theorem xm {n:Nat}{cs base:Array Value}(hb:base.size=n)(hc:cs.size=n):M0 (λi=>some (i*n,n)) base [(0,.agg cs)]=some cs:=by
 rw[kz (off:=0) (n:=n) (v:=.agg cs) (by simp) hc (by omega)]
 simp only[M0]
 rw[Lz (by simp;omega)]
 have:(Value.agg cs).cells=cs:=rfl
 simp[this]
theorem cw.Cx (he:Dq P t e E.size bytes){ty:TypeId}{x:α}{cs:Array Value}{K:Sl->aa->Prop}(h:cw E e H s l)(hcs:cs.toList=E.enc x)(hsz:E.size<=16777216)
  (hl:l.length+1<=1099511627776) (hb:(l.length+1)*bytes<=140737488355328) (J:aa->Prop)
  (hJ:∀H1,H1.size=H.size+1->Mod (λ_=>False) H H1->J H1)
  (hK:∀(s':Sl) (H':aa),cw E e H' s' (l++[x])->Grown s s' H H'->s'.a≠none->K s' H'):
  bo ao P (Me t 1 #[(0,.agg cs)]) H λsl H1=>J H1/\bo ao P (Ks #[t,t] ty #[s.v,sl.v]) H1 K:=by
 obtain⟨inf,z,ht,hi,hz,hzs,hs,hbt,h0⟩:=id he
 have hcl:cs.size=E.size:=by rw[<-E.len x,<-hcs];simp
 intro w hw
 subst hw
 have hfill:=xm (n:=inf.size) (cs:=cs) (base:=(Array.range (1*inf.size)).map (z.cells[·%z.cells.size]!)) (by simp) (by omega)
 have hrun:(Me t 1 #[(0,.agg cs)]).run P w=.ok (.slice (some ⟨w.heap.size,0,none⟩) 1 1) {w with heap:=w.heap.push (.cells cs e)}:=by
  have hne:¬(1*inf.size>2^24):=by omega
  have hne0:inf.size≠0:=by omega
  simp[Me,run_underlying ht,sizeOf,typeInfo,hi,hne0,zeroValue,hz,newRow,newObj,Mu]
  rw[if_neg (by omega)]
  simp[Nat.one_mul] at hfill
  simp[hfill,Sem.run,Mu]
 refine⟨_,_,hrun,⟨⟨some ⟨w.heap.size,0,none⟩,1,1⟩,rfl,hJ _ (by simp) (Mod.push _ _ _),?_⟩,(.of_le rfl (Kl _))⟩
 exact cw.push he h hcs hl hb hK
theorem bo.mono {c:eJ}{q:Sem Value}{K K':c.α->aa->Prop}(h:bo c P q H K)(hk:∀x H',K x H'->K' x H'):bo c P q H K':=λw hw=>by
 obtain⟨v,w',h1,⟨x,h2,h3⟩,h4⟩:=h w hw
 exact⟨v,w',h1,⟨x,h2,hk _ _ h3⟩,h4⟩
theorem cw.Ij (he:Dq P t e E.size bytes){ty:TypeId}{x:α}{cs:Array Value}{K:Sl->aa->Prop}(h:cw E e H s l)(hcs:cs.toList=E.enc x)(hsz:E.size<=16777216)
  (hl:l.length+1<=1099511627776) (hb:(l.length+1)*bytes<=140737488355328)
  (hK:∀(s':Sl) (H':aa),cw E e H' s' (l++[x])->Grown s s' H H'->s'.a≠none->K s' H'):
  bo ao P (Me t 1 #[(0,.agg cs)]) H λsl H1=>bo ao P (Ks #[t,t] ty #[s.v,sl.v]) H1 K:=
 (cw.Cx he h hcs hsz hl hb (λ_=>True) (λ_ _ _=>trivial) hK).mono λ_ _ h=>h.2
theorem cw.st {K:aa->Prop}(h:cw E e H s l){ad:Addr}(ha:s.a=some ad){i j:Nat}{x y:α}{v:Value}(hi:l[i]?=some x)(hj:j<E.size)(hp:ka v=true)(hy:E.enc y=(E.enc x).set j v){n:Nat}(hn:n=i*E.size)
  (hK:∀H',cw E e H' s (l.set i y)->Mod (ai s) H H'->H'.size=H.size->K H'):Go.Proofs.YtkehfflpbpdokaaGreatDoor.st H ((ad.add n).add j) v K:=by
 subst hn
 have hil:i<l.length:=(Kj.1 hi).1
 have hlen:=E.dS l
 have hij:i*E.size+j<l.length*E.size:=by
  have:=K2 E.size (ND hil);rw[LU] at this;omega
 rcases h.2 with ⟨e1,e2⟩|⟨g,cap,cur,e1,hb,hg,h4,h5,h6,h7⟩
 ·cases s;simp only[Sl.v,K5] at e1 ha;rw[e1.1] at ha;cases ha
 ·have ea:s.a=some ⟨g,0,none⟩:=by
   cases s;simp only[Sl.v,K5] at e1;exact e1.1
  rw[ea] at ha;cases ha
  have hl1:=h.1
  have hc2:i*E.size+j<cur.size:=by
   have:=K2 E.size h4
   rw[h6];omega
  rw[add_add,bq]
  refine⟨hp,⟨_,cv hg (Lb hc2)⟩,dV hg,hK _ ?_ (Mod.set ⟨_,ea,rfl⟩) (gB _ _ _)⟩
  have hset:(E.all l).set (i*E.size+j) v=E.all (l.set i y):=by
   rw[E.tP l i y hil,hy]
   have hx:(E.all l)=(E.all l).take (i*E.size)++E.enc x++(E.all l).drop (i*E.size+E.size):=by
    have:=E.tP l i x hil
    have hx':l[i]=x:=by rw[Kg hil] at hi;exact Kq hi
    rwa [<-hx',List.set_getElem_self,hx'] at this
   have hA:((E.all l).take (i*E.size)).length=i*E.size:=by
    rw[List.length_take,hlen]
    have:=K2 E.size (Nat.le_of_lt hil);omega
   conv=>lhs;rw[hx]
   rw[Lk,List.set_append_right _ _ (by omega),hA,Nat.add_sub_cancel_left,List.set_append_left _ _ (by rw[E.len];exact hj),Lk]
  refine⟨by rw[<-hset];simpa using h.1,.inr ⟨g,cap,cur.setIfInBounds (i*E.size+j) v,e1,hb,lO (a:=⟨g,i*E.size+j,none⟩) hg rfl,h4,h5,by simpa using h6,?_⟩⟩
  rw[<-hset,<-h7]
  simp[List.take_set]
theorem cw.IL {ty:TypeId}{cs:Array Value}{K:aa->Prop}(h:cw E e H s l){ad:Addr}(ha:s.a=some ad){i:Nat}{y:α}(hil:i<l.length)(hcs:cs.toList=E.enc y)(hi:mF P ty E.size=true){n:Nat}(hn:n=i*E.size)
  (hK:∀H',cw E e H' s (l.set i y)->Mod (ai s) H H'->H'.size=H.size->K H'):ur P (LD ty (.pointer (some (ad.add n))) (.agg cs)) H K:=by
 subst hn
 have hlen:=E.dS l
 have hcl:cs.size=E.size:=by rw[<-E.len y,<-hcs];simp
 have hij:i*E.size+E.size<=l.length*E.size:=by
  have:=K2 E.size (ND hil);rw[LU] at this;omega
 rcases h.2 with ⟨e1,e2⟩|⟨g,cap,cur,e1,hb,hg,h4,h5,h6,h7⟩
 ·cases s;simp only[Sl.v,K5] at e1 ha;rw[e1.1] at ha;cases ha
 ·have ea:s.a=some ⟨g,0,none⟩:=by
   cases s;simp only[Sl.v,K5] at e1;exact e1.1
  rw[ea] at ha;cases ha
  have hl1:=h.1
  have hc2:i*E.size+E.size<=cur.size:=by
   have:=K2 E.size h4
   rw[h6];omega
  rw[bq]
  refine nK (b:=g) (o:=i*E.size) (cur:=cur) (t:=e) hg (by rw[hcl];exact hi) (by omega) (by rw[hcs];exact E.one y) λH' r1 r2 r3=>hK H' ?_ (r2.mono λb _ hb=>⟨_,ea,hb.symm⟩) r3
  refine⟨by simpa[E.dS] using h.1,.inr ⟨g,cap,_,e1,hb,r1,h4,h5,?_,?_⟩⟩
  ·simp[hcl];omega
  ·rw[E.tP l i y hil,<-h7,hcs]
   simp only[hcl]
   have hT:(cur.toList.take (i*E.size)).length=i*E.size:=by simp;omega
   have hsn:i*E.size+E.size<=s.n*E.size:=by omega
   rw[List.take_append,List.take_of_length_le (by simp[hT,E.len];omega),List.take_take,Nat.min_eq_left (by omega)]
   congr 1
   rw[Kv,hT,E.len,List.take_drop]
   congr 2
   omega
end
end Go.Proofs.YtkehfflpbpdokaaGreatDoor
