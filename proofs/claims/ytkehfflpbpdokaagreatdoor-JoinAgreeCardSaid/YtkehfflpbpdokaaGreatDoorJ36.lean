/-
 Trees of rows in pages, in plain words.
-/
import Derived.Test.YtkehfflpbpdokaaGreatDoorRows
import Derived.Test.YtkehfflpbpdokaaGreatDoorVc
import Derived.Test.YtkehfflpbpdokaaGreatDoorFxk
import Derived.Test.YtkehfflpbpdokaaGreatDoorFxh
import Derived.Test.YtkehfflpbpdokaaGreatDoorFxo
import Derived.Test.YtkehfflpbpdokaaGreatDoorJ30
import Derived.Test.YtkehfflpbpdokaaGreatDoorJ33
import Derived.Test.YtkehfflpbpdokaaGreatDoorFxw
open And renaming intro->WD
open BitVec renaming ofInt->R9,toNat_ofNat->Ss,ofInt_natCast->Th
open Bool renaming and_eq_true->Qz,or_eq_true->Rm,or_eq_false_iff->Tf,false_eq_true->TO,true_and->TY,eq_iff_iff->UC,false_or->VC,false_and->XW
open Go.Addr renaming add->QS
open Go.Builtin renaming append_->Qo
open Go.Extern.SlicesOverlaps renaming overlaps->Ug
open Go.Instr renaming makeSlice->Rn
open Go.IntKind renaming i64->Qe,u64->Q0,wrap_u64->Ve,wrap_u8->Wp
open Go.Proofs.Tryz renaming prog->Qf,func185->ZY,func187->ZZ
open Go.Value renaming int->Ql
open Go.Value.slice renaming injEq->Q3
open Int renaming tdiv->Qy,toNat_natCast->QD,ofNat->Td,fdiv_eq_ediv_of_nonneg->Tt,natCast_pow->Xr,toNat_zero->Y4
open List renaming getElem?_eq_getElem->Qg,mem_of_getElem?->Qi,mem_append->Qj,getElem?_eq_some_iff->Qk,getElem_mem->Qn,mem_cons_self->Qp,mem_iff_getElem?->Qr,mem_cons->Qs,length_append->Qt,mem_cons_of_mem->Qu,length_take->Qw,take_succ_eq_append_getElem->QA,mem_map->QB,getElem?_map->QC,replicate->QE,length_drop->QG,length_map->QI,length_cons->QJ,mem_filter->QL,getD->QM,take_of_length_le->QO,getElem?_append_left->QR,eq_nil_of_length_eq_zero->QW,nodup_append->QY,map_append->Q4,flatMap_cons->Q5,mem_range->Q7,getElem?_take->Rb,getElem?_append_right->Re,pairwise_cons->Rf,append_assoc->Rg,drop_of_length_le->Rj,mem_of_mem_take->Rl,nodup_cons->Rp,mem_of_mem_drop->Rq,getElem?_drop->Rr,mem_iff_getElem->Rz,getElem?_cons_succ->RD,map_map->RE,drop_eq_getElem_cons->RG,range->RI,take_append_drop->RP,filter_eq_self->RQ,filter_append->RU,mem_of_mem_eraseIdx->RW,getElem?_eraseIdx->R5,length_nil->R7,takeWhile_cons->Si,getElem?_eq_none->Sm,filter_congr->Sp,filter_cons->Su,any_eq_true->Sv,pairwise_iff_getElem->Ta,length_pos_iff->To,getElem_map->Tu,getElem_drop->TE,mem_flatten->TM,flatten_cons->Ua,length->Uc,ext_getElem->Uq,flatMap_append->Uu,map_take->Uy,getElem_range->UH,any_eq_false->UM,getElem_take->UP,drop_drop->UR,flatten_append->Vf,set_eq_take_append_cons_drop->Vy,getD_cons_zero->V6,flatMap_def->Xa,getElem?_set_self->XN,drop_left->XR,pairwise_flatten->X6,getElem?_set_ne->Yh,map_drop->Yj,take_sublist->YD,drop_sublist->YE,map->Zn
open List.Pairwise renaming imp->UO
open List.Sublist renaming length_le->ZX
open Nat renaming le_refl->Qm,zero_le->QN,lt_of_lt_of_le->QP,le_trans->QZ,lt_or_ge->Q6,mul_one->Q9,mul_le_mul_right->Ra,le_succ->Ri,zero_add->Ry,succ_mul->RX,eq_zero_or_pos->R4,mul_le_mul_left->Sk,min_eq_left->SL,add_mul->TN,add_sub_cancel->TT,mul_le_mul->Uj,mod_eq_of_lt->Um,le_mul_of_pos_right->Uv,sub_self->UT,add_zero->UU,succ_pos->UW,lt_succ_self->U7,sub_zero->Vj,lt_irrefl->Yk,lt_two_pow_self->Yn
open Ne renaming symm->SI
open Option renaming getD_some->Sw
open Option.some renaming inj->Qq,injEq->Rv
open UInt8 renaming ofNat->Qx,toNat_ofNat'->SM,toNat_lt->UX
namespace Go.Proofs.YtkehfflpbpdokaaGreatDoor
structure Nd where
 kids:List Nat
 rows:List (List Int)
structure Span where
 low:Option (List Int)
 high:Option (List Int)
def fL:Span:=⟨none,none⟩
def jE (ls:List (List Int)):Bool:=(RI (ls.length - 1)).all λi=>decide (aL (ls.getD i []) (ls.getD (i+1) [])<0)
def Span.ge (s:Span)(l:List Int):Bool:=match s.low with|none=>true|some a=>decide (aL l a>=0)
def Span.lt (s:Span)(l:List Int):Bool:=match s.high with|none=>true|some a=>decide (aL l a<0)
def Span.holds (s:Span)(ls:List (List Int)):Bool:=jE ls&&(ls.isEmpty||(s.ge (ls.getD 0 [])&&s.lt (ls.getD (ls.length - 1) [])))
def Span.of (s:Span)(n:Nd)(i:Nat):Span:=
 ⟨if 0<i then some (n.rows.getD (i - 1) []) else s.low,if i<n.rows.length then some (n.rows.getD i []) else s.high⟩
def vC (n:Nat):List UInt8:=[Qx (n/16777216),Qx (n/65536),Qx (n/256),Qx n]
def Le (b:List UInt8):Nat:=(((b.getD 0 0).toNat*256+(b.getD 1 0).toNat)*256+(b.getD 2 0).toNat)*256+(b.getD 3 0).toNat
def gF (b:List UInt8)(k:Nat):List Nat:=(RI k).map λi=>Le (b.drop (2+4*i))
def jV (b:List UInt8):Nat:=(b.getD 0 0).toNat*256+(b.getD 1 0).toNat
def dI (w:Int)(depth:Nat)(s:Span)(kids:List Nat)(b:List UInt8):Option Nd:=
 if eY (fm b) w=false\/(kids≠[]/\(fQ (fm b) w).length+1≠kids.length) then none
 else if s.holds (fQ (fm b) w)=false\/(fQ (fm b) w=[]/\1<depth) then none
 else some ⟨kids,fQ (fm b) w⟩
def gY (w:Int)(depth above:Nat)(s:Span)(a:UInt8×List UInt8):Option Nd:=
 if a.1=3/\above=0 then dI w depth s [] a.2
 else if a.1=4/\0<above/\2<=a.2.length then
  if jV a.2<2\/a.2.length<2+4*jV a.2 then none else dI w depth s (gF a.2 (jV a.2)) (a.2.drop (2+4*jV a.2))
 else none
structure St where
 N:Nat
 T:Nat->UInt8×List UInt8
def St.node (x:St)(w:Int)(depth above ag:Nat)(s:Span):Option Nd:=if ag<x.N then gY w depth above s (x.T ag) else none
def sameAt (ls:List (List Int))(l:List Int):Bool:=decide (below l ls<ls.length)&&decide (ls.getD (below l ls) []=l)
def Nd.child (n:Nd)(l:List Int):Nat:=if sameAt n.rows l then below l n.rows+1 else below l n.rows
def lY (f:Nat->Nat×Option (Option (List Int))):Nat->Nat->Nat×Option (Option (List Int))
 |_,0=>(0,some none)
 |i,k+1=>if (f i).2=some none then ((f i).1+(lY f (i+1) k).1,(lY f (i+1) k).2) else f i
def kT (ls:List (List Int))(low:List Int)(strict:Bool):Option (List Int):=ls[below low ls+(if sameAt ls low&&strict then 1 else 0)]?
def St.find (x:St)(w:Int)(depth:Nat)(low:List Int)(strict:Bool):Nat->Nat->Span->Nat×Option (Option (List Int))
 |0,ag,s=>match x.node w depth 0 ag s with
   |none=>(1,none)
   |some n=>(1,some (kT n.rows low strict))
 |a+1,ag,s=>match x.node w depth (a+1) ag s with
   |none=>(1,none)
   |some n=>
     (1+(lY (λi=>x.find w depth low strict a (n.kids.getD i 0) (s.of n i)) (n.child low) (n.kids.length - n.child low)).1,
      (lY (λi=>x.find w depth low strict a (n.kids.getD i 0) (s.of n i)) (n.child low) (n.kids.length - n.child low)).2)
def Nd.bytes (n:Nd):List UInt8:=(if n.kids=[] then [] else Qx (n.kids.length/256)::Qx n.kids.length::n.kids.flatMap vC)++n.rows.flatMap λl=>iO (gd l)
def Nd.ag (n:Nd):UInt8×List UInt8:=(if n.kids=[] then 3 else 4,n.bytes)
def St.put (x:St)(ag:Nat)(n:Nd):St:={x with T:=iQ x.T ag n.ag}
def St.more (x:St)(n:Nd):St:=⟨x.N+1,iQ x.T x.N n.ag⟩
def xO (w:Int):Int:=Qy (502+aK w) (4+aK w)
def Nd.full (n:Nd)(w:Int)(above:Nat):Bool:=(decide (above=0)&&decide ((n.rows.length:Int)>mw w))||decide ((n.kids.length:Int)>xO w)
inductive MH where
 |store
 |quota
 |ok (fresh:Bool) (m:Option (Nat×List Int)) (x:St)
def Nd.left (n:Nd):Nd:=⟨n.kids.take (n.rows.length/2+1),n.rows.take (n.rows.length/2)⟩
def Nd.right (n:Nd):Nd:=if n.kids=[] then ⟨[],n.rows.drop (n.rows.length/2)⟩ else ⟨n.kids.drop (n.rows.length/2+1),n.rows.drop (n.rows.length/2+1)⟩
def Nd.up (n:Nd):List Int:=n.rows.getD (n.rows.length/2) []
def St.fin (x:St)(w:Int)(q above ag:Nat)(n:Nd):MH:=
 if n.full w above then (if x.N<q then .ok true (some (x.N,n.up)) ((x.more n.right).put ag n.left) else .quota) else .ok true none (x.put ag n)
def St.add (x:St)(w:Int)(q depth:Nat)(l:List Int):Nat->Nat->Span->MH
 |0,ag,s=>match x.node w depth 0 ag s with
   |none=>.store
   |some n=>if sameAt n.rows l then .ok false none x else x.fin w q 0 ag ⟨n.kids,bj (below l n.rows) l n.rows⟩
 |a+1,ag,s=>match x.node w depth (a+1) ag s with
   |none=>.store
   |some n=>match x.add w q depth l a (n.kids.getD (n.child l) 0) (s.of n (n.child l)) with
     |.ok _ (some m) x'=>x'.fin w q (a+1) ag ⟨bj (n.child l+1) m.1 n.kids,bj (n.child l) m.2 n.rows⟩
     |r=>r
theorem kO {w:Int}{depth:Nat}{s:Span}{kids:List Nat}{b:List UInt8}{n:Nd}(h:dI w depth s kids b=some n):
  n.kids=kids/\n.rows=fQ (fm b) w/\eY (fm b) w=true/\(kids≠[]->n.rows.length+1=kids.length)/\s.holds n.rows=true/\(1<depth->n.rows≠[]):=by
 unfold dI at h;split at h
 ·cases h
 ·rename_i h1;split at h
  ·cases h
  ·rename_i c;cases h;refine⟨rfl,rfl,?_,λhk=>?_,?_,λhd e=>c (.inr ⟨e,hd⟩)⟩
   ·cases a:eY (fm b) w with
    |true=>rfl
    |false=>exact absurd (.inl a) h1
   ·apply Decidable.byContradiction;exact λq=>h1 (.inr ⟨hk,q⟩)
   ·cases a:s.holds (fQ (fm b) w) with
    |true=>rfl
    |false=>exact absurd (.inl a) c
structure Nd.Ok (n:Nd)(w:Int)(depth above:Nat)(s:Span):Prop where
 leaf:above=0->n.kids=[]
 inner:0<above->n.kids.length=n.rows.length+1/\1<=n.rows.length/\2+4*n.kids.length<=504
 holds:s.holds n.rows=true
 some_:1<depth->n.rows≠[]
 cols:∀l∈n.rows,l.length=w.toNat
 size:n.rows.length<=504
 kids:∀k∈n.kids,k<4294967296
 fit:(2+4*n.kids.length)*(if n.kids=[] then 0 else 1)+n.rows.length*(aK w).toNat<=504
 width:aK w≠0
theorem MD (b:List UInt8):Le b<4294967296:=by
 have a:=(b.getD 0 0).toNat_lt;have h1:=(b.getD 1 0).toNat_lt;have c:=(b.getD 2 0).toNat_lt;have d:=(b.getD 3 0).toNat_lt;unfold Le;omega
theorem oL {b:List Int}{w:Int}(h:eY b w=true):(fQ b w).length*(aK w).toNat=b.length/\aK w≠0/\∀l∈fQ b w,l.length=w.toNat:=by
 have a:=h;unfold eY at h;simp only[Qz,decide_eq_true_eq] at h;obtain⟨⟨h1,e⟩,_⟩:=h;have hs:=cq w;obtain⟨m,hm⟩:∃m:Nat,aK w=(m:Int):=⟨(aK w).toNat,by omega⟩;have c:0<m:=by omega
 have he:fQ b w=rowsOf b w (b.length/(aK w).toNat):=by unfold fQ;rw[if_pos a]
 refine⟨?_,h1,λl d=>?_⟩
 ·rw[he];unfold rowsOf;rw[QI,List.length_range];rw[hm] at e ⊢;rw[QD];exact(tmod_zero c e).symm
 ·rw[he] at d;unfold rowsOf at d;obtain⟨k,_,rfl⟩:=QB.1 d;exact ph _ _
theorem DS {w:Int}{depth above:Nat}{s:Span}{a:UInt8×List UInt8}{n:Nd}(u:a.2.length<=504)(h:gY w depth above s a=some n):n.Ok w depth above s:=by
 unfold gY at h;split at h
 ·rename_i p;obtain⟨c,e2,e,_,f,g⟩:=kO h;obtain⟨g1,g2,g3⟩:=oL e;rw[<-e2,fT] at g1;rw[<-e2] at g3;have hs:=cq w;have j:0<(aK w).toNat:=by omega
  have hm:n.rows.length*1<=n.rows.length*(aK w).toNat:=Sk _ j;refine⟨λ_=>c,λq=>by omega,f,g,g3,by omega,by rw[c];simp,?_,g2⟩;rw[if_pos c];omega
 ·split at h
  ·rename_i p;split at h
   ·cases h
   ·rename_i m;obtain⟨c,e2,e,l,f,g⟩:=kO h;obtain⟨g1,g2,g3⟩:=oL e;rw[<-e2,fT,QG] at g1;rw[<-e2] at g3;have hs:=cq w;have j:0<(aK w).toNat:=by omega
    have hm:n.rows.length*1<=n.rows.length*(aK w).toNat:=Sk _ j;have b:(gF a.2 (jV a.2)).length=jV a.2:=by simp[gF]
    have d:gF a.2 (jV a.2)≠[]:=λq=>by rw[q] at b;simp at b;omega
    have l:=l d;rw[b] at l;have o:n.kids.length=jV a.2:=by rw[c,b]
    have r:¬jV a.2<2:=λq=>m (.inl q);have t:¬a.2.length<2+4*jV a.2:=λq=>m (.inr q);refine⟨λq=>by omega,λ_=>⟨by omega,by omega,by omega⟩,f,g,g3,by omega,?_,?_,g2⟩
    ·rw[c];intro k hk;obtain⟨i,_,rfl⟩:=QB.1 hk;exact MD _
    ·rw[if_neg (by rw[c];exact d)];omega
  ·cases h
theorem jh (l:List Int)(ls:List (List Int)):below l ls<=ls.length:=ZX (List.takeWhile_sublist _)
theorem ko {n:Nd}{l:List Int}:n.child l<=n.rows.length:=by
 unfold Nd.child;split
 ·rename_i h;unfold sameAt at h;simp only[Qz,decide_eq_true_eq] at h;omega
 ·exact jh _ _
def Pl.over (p:Pl)(n:ByteArray)(k:Int)(kd:UInt8)(b:List UInt8):Pl×Int:=
 if (p.cK n k).2.2≠0 then ((p.cK n k).1,(p.cK n k).2.2) else Pl.leave ((p.cK n k).1.set (p.cK n k).2.1 kd b) (p.cK n k).2.1
structure jQ (n:ByteArray)(q:Nat)(I:Pl->St->Nat->Prop)(B C:Pl->Int->Prop):Prop where
 name:n.size<=9223372036854775807
 small:q<=1048576
 pre:∀{s x m},I s x m->s.d.bt<=2*m/\0<=s.next/\s.next<=m/\s.Fit/\x.N<=1048576/\∀k,(x.T k).2.length<=504
 look:∀{s x m k},I s x m->m<30000000000->k<x.N->((s.look n (k:Int)).2=((x.T k).1,(x.T k).2,0)/\I (s.look n (k:Int)).1 x (m+1))\/C (s.look n (k:Int)).1 (s.look n (k:Int)).2.2.2
 Oq:∀{s x m k},I s x m->m<30000000000->x.N<=k->((s.look n (k:Int)).2.2.2=12/\I (s.look n (k:Int)).1 x (m+1))\/C (s.look n (k:Int)).1 (s.look n (k:Int)).2.2.2
 more:∀{s x m kd b},I s x m->m<30000000000->b.length<=504->kd≠0->x.N<q->
  ((s.more n kd b).2=0/\(s.fresh n).2.2.1=x.N/\I (s.more n kd b).1 ⟨x.N+1,iQ x.T x.N (kd,b)⟩ (m+1))\/C (s.more n kd b).1 (s.more n kd b).2
 full:∀{s x m kd b},I s x m->m<30000000000->b.length<=504->kd≠0->¬x.N<q->B (s.more n kd b).1 (s.more n kd b).2\/C (s.more n kd b).1 (s.more n kd b).2
 over:∀{s x m k kd b},I s x m->m<30000000000->b.length<=504->k<x.N->((s.over n (k:Int) kd b).2=0/\I (s.over n (k:Int) kd b).1 {x with T:=iQ x.T k (kd,b)} (m+1))\/C (s.over n (k:Int) kd b).1 (s.over n (k:Int) kd b).2
 up:∀{s x m k},I s x m->m<=k->I s x k
 errB:∀{s e},B s e->e≠0/\e≠12
 errC:∀{s e},C s e->e≠0/\e≠12
theorem Pl.Av (r:Pl×Int)(h:Int):(Pl.leave r h).1.d=r.1.d:=by
 unfold Pl.leave;split
 ·exact Pl.CE _ _
 ·rfl
section
variable {s:Pl}{n:ByteArray}{g:Int}{k:UInt8}{b:List UInt8}
theorem Pl.Ct:(s.look n g).1.d.bt<=s.d.bt+1:=by
 have a:=s.zi n g;unfold Pl.look;split
 ·exact a
 ·split
  ·exact a
  ·rw[Pl.CE];exact a
theorem Pl.BJ:(s.more n k b).1.d.bt<=s.d.bt+2:=by
 have a:=s.Cf n;unfold Pl.more;split
 ·exact a
 ·rw[Pl.Av];split
  ·exact a
  ·rw[Pl.Lm];exact a
theorem Pl.AR:(s.over n g k b).1.d.bt<=s.d.bt+1:=by
 have a:=s.zi n g;unfold Pl.over;split
 ·exact a
 ·rw[Pl.Av,Pl.Lm];exact a
end
theorem wU {T:Nat->UInt8×List UInt8}(h:∀k,(T k).2.length<=504){j:Nat}{v:UInt8×List UInt8}(a:v.2.length<=504):∀k,(iQ T j v k).2.length<=504:=by
 intro k;by_cases e:k=j
 ·subst e;rw[dJ];exact a
 ·rw[cd e];exact h k
abbrev bd:=ByteArray->Option St
open Classical in
noncomputable def fS (M:bd) (n:ByteArray) (x:Option St):bd:=λm=>if m=n then x else M m
theorem bo (M:bd)(n:ByteArray)(x:Option St):fS M n x n=x:=by unfold fS;rw[if_pos rfl]
theorem aU {M:bd}{n m:ByteArray}{x:Option St}(h:m≠n):fS M n x m=M m:=by unfold fS;rw[if_neg h]
theorem tz (M:bd)(n:ByteArray)(x y:Option St):fS (fS M n x) n y=fS M n y:=by
 funext m;by_cases h:m=n
 ·subst h;rw[bo,bo]
 ·rw[aU h,aU h,aU h]
theorem xT {M:bd}{n:ByteArray}{x:Option St}(h:M n=x):fS M n x=M:=by
 funext m;by_cases e:m=n
 ·subst e;rw[bo,h]
 ·rw[aU e]
def Cl (l:List Fr)(n:ByteArray)(k:Nat):Prop:=∀g∈l,g.name=n->g.ag=k->g.dirty=false
structure bh (p:Pl)(M:bd)(Q U:Nat):Prop where
 wrong:p.wrong=0
 up:p.d.down=false
 calm:p.d.crash=none
 quota:p.d.quota=Q
 used:p.d.used=U
 nodup:(p.d.files.map λf=>f.name.toList).Nodup
 file:∀(i:Nat) (f:Fl),p.d.files[i]?=some f->∃x,M f.name=some x/\f.aG.length=x.N/\∀(k:Nat) (b:Pg),f.aG[k]?=some b->Cl p.fs f.name k->gV b.1=some (x.T k)
 there:∀n x,M n=some x->∃(i:Nat) (f:Fl),p.d.files[i]?=some f/\f.name=n
 mine:∀g∈p.fs,∃x,M g.name=some x/\g.ag<x.N/\x.T g.ag=(g.kind,g.b)
theorem xk {d:Dk}(h:(d.files.map λf=>f.name.toList).Nodup){i:Nat}{f:Fl}(a:d.files[i]?=some f):d.idx f.name=some i:=by
 unfold Dk.idx;refine lz a (by simp) λj y c m=>?_;have e:y.name.toList=f.name.toList:=by simpa using m
 have hi:=(Qk.1 a).1;have o:=(Qk.1 c).1;refine((List.getElem?_inj (l:=d.files.map λf=>f.name.toList) (by simpa using hi) h).1 ?_).symm;rw[QC,QC,a,c];simp[e]
theorem zW {d:Dk}(hu:d.down=false)(l:d.crash=none){n:ByteArray}{i:Nat}{f:Fl}(o:d.idx n=some i)(m:d.files[i]?=some f){k:Nat}{b:List UInt8}(a:b.length=512)(hk:k<=f.aG.length)(p:k=f.aG.length->d.used<d.quota):
  ∃d',d.write n k b=(d',0)/\d'.down=false/\d'.crash=none/\d'.quota=d.quota/\d'.files=d.files.modify i (λf=>{f with log:=f.log++[⟨d.next,k,⟨b,a⟩⟩]})/\d'.used=d.used+(if k=f.aG.length then 1 else 0):=by
 have h:d.change=({d with ops:=gQ (d.ops+1)},0):=by unfold Dk.change;rw[l]
 have j:d.file i=f:=Dk.iX m;have e:d.write n k b=d.step λt=>(t.tj i ⟨t.next,k,⟨b,a⟩⟩).ni (max t.most (t.tj i ⟨t.next,k,⟨b,a⟩⟩).used):=by
  unfold Dk.write;rw[if_neg (by rw[hu];simp),dif_pos a,o];simp only[j];rw[if_neg (by omega),if_neg (by rintro⟨r,u⟩;have:=p (by omega);omega),QD]
 have c:∀F:Dk->Dk,d.step F=(F {d with ops:=gQ (d.ops+1)},0):=λF=>by unfold Dk.step;rw[h,if_pos rfl]
 rw[e,c];refine⟨_,rfl,hu,l,rfl,rfl,?_⟩;have q:({f with log:=f.log++[⟨d.next,k,⟨b,a⟩⟩]}:Fl).aG.length=max f.aG.length (k+1):=by rw[Fl.jx];exact nh _ _
 have hs:((d.files.modify i (λf=>{f with log:=f.log++[⟨d.next,k,⟨b,a⟩⟩]})).map (λf:Fl=>f.aG.length)).sum+f.aG.length=(d.files.map (λf:Fl=>f.aG.length)).sum+max f.aG.length (k+1):=by
  rw[<-q];exact gZ (λf:Fl=>f.aG.length) _ d.files i f m
 show ((d.files.modify i (λf=>{f with log:=f.log++[⟨d.next,k,⟨b,a⟩⟩]})).map (λf:Fl=>f.aG.length)).sum=(d.files.map (λf:Fl=>f.aG.length)).sum+(if k=f.aG.length then 1 else 0);generalize ((d.files.modify i (λf=>{f with log:=f.log++[⟨d.next,k,⟨b,a⟩⟩]})).map (λf:Fl=>f.aG.length)).sum=S at*;generalize (d.files.map (λf:Fl=>f.aG.length)).sum=v at*;split
 ·omega
 ·omega
section
variable {p p':Pl}{M:bd}{Q U:Nat}{n:ByteArray}{x:St}
theorem bh.at (h:bh p M Q U)(a:M n=some x):∃(i:Nat) (f:Fl),p.d.idx n=some i/\p.d.files[i]?=some f/\f.name=n/\f.aG.length=x.N/\∀(k:Nat) (b:Pg),f.aG[k]?=some b->Cl p.fs n k->gV b.1=some (x.T k):=by
 obtain⟨i,f,h1,d⟩:=h.there n x a;subst d;obtain⟨y,c,e,j⟩:=h.file i f h1;rw[a] at c;cases c;exact⟨i,f,xk h.nodup h1,h1,rfl,e,j⟩
theorem bh.len (h:bh p M Q U)(a:M n=some x):p.d.len n=(x.N,0):=by
 obtain⟨i,f,h1,c,e,d,_⟩:=h.at a;unfold Dk.len Dk.open;rw[if_neg (by rw[h.up];simp),h1];simp only[Dk.iX c,d]
theorem bh.size (h:bh p M Q U)(a:M n=some x):p.d.size n=x.N:=by
 obtain⟨i,f,h1,c,e,d,_⟩:=h.at a;unfold Dk.size;rw[h1];simp only[Dk.iX c,d]
theorem bh.fit (h:bh p M Q U):p.Fit:=by
 intro f a;obtain⟨x,h1,c,_⟩:=h.mine f a;rw[h.size h1];exact c
theorem bh.OC (h:bh p M Q U)(hd:p'.d=p.d)(hw:p'.wrong=p.wrong)(hm:∀g∈p'.fs,∃x,M g.name=some x/\g.ag<x.N/\x.T g.ag=(g.kind,g.b))(j:∀n k,Cl p'.fs n k->Cl p.fs n k):bh p' M Q U:=
 ⟨by rw[hw];exact h.wrong,by rw[hd];exact h.up,by rw[hd];exact h.calm,by rw[hd];exact h.quota,by rw[hd];exact h.used,by rw[hd];exact h.nodup,λi f e=>by
  rw[hd] at e;obtain⟨x,a,b,c⟩:=h.file i f e;exact⟨x,a,b,λk b hk d=>c k b hk (j _ _ d)⟩,λn x l=>by rw[hd];exact h.there n x l,hm⟩
theorem bh.put (h:bh p M Q U)(hw:p.WF){i:Nat}{g:Fr}(w:p.fs[i]?=some g):
  (p.put i).2=0/\(p.put i).1.fs=p.fs.modify i Fr.clean/\bh (p.put i).1 M Q U:=by
 have l:=Qi w;obtain⟨x,h1,P,G⟩:=h.mine g l;have D:=hw.room g l;have hs:g.gT.length=512:=iW D;obtain⟨j,f,E,a2,a3,a4,a5⟩:=h.at h1;obtain⟨d',H,I,J,K,A,L⟩:=zW h.up h.calm E a2 (k:=g.ag) hs (by omega) (by omega);have e:p.put i=((p.dH d').fP i Fr.clean,0):=by
  unfold Pl.put;rw[Pl.ky w,H,if_pos rfl]
 rw[e];have t:∀m k,(m≠g.name\/k≠g.ag)->Cl (p.fs.modify i Fr.clean) m k->Cl p.fs m k:=by
  intro m k B v g' c F e2;obtain⟨d,o⟩:=Qr.1 c;by_cases q:i=d
  ·subst q;rw[w] at o;cases o;rcases B with u|u
   ·exact absurd F.symm u
   ·exact absurd e2.symm u
  ·exact v g' (Qi (by rw[bw q];exact o)) F e2
 refine⟨rfl,rfl,h.wrong,I,J,K.trans h.quota,?_,?_,λd f' a=>?_,λm y N=>?_,λg' c=>?_⟩
 ·show d'.used=U;rw[L,if_neg (by omega),h.used,UU]
 ·show (d'.files.map _).Nodup;rw[A,jm (λf:Fl=>f.name.toList) (λf=>{f with log:=f.log++[⟨p.d.next,g.ag,⟨g.gT,hs⟩⟩]}) (λ_=>rfl)];exact h.nodup
 ·have a:d'.files[d]?=some f':=a;rw[A] at a;by_cases q:j=d
  ·subst q;rw[bL a2] at a;cases a;refine⟨x,by show M f.name=_;rw[a3];exact h1,?_,λk b hk v=>?_⟩
   ·rw[Fl.jx];show (putAt f.aG g.ag ⟨g.gT,hs⟩).length=_;rw[pQ];omega
   ·rw[Fl.jx] at hk;have hk:(putAt f.aG g.ag ⟨g.gT,hs⟩)[k]?=some b:=hk;rw[vS (by omega)] at hk;split at hk
    ·rename_i C;cases hk;subst C;rw[G];exact ry D
    ·rename_i C;exact a5 k b hk (t g.name k (.inr C) (by rw[<-a3];exact v))
  ·rw[bw q] at a;obtain⟨y,z,b2,O⟩:=h.file d f' a;refine⟨y,z,b2,λk b hk v=>O k b hk (t _ k (.inl λe=>q ?_) v)⟩;have:=xk h.nodup a;rw[e,E] at this;exact Qq this
 ·obtain⟨d,f',z,b2⟩:=h.there m y N;show ∃(i:Nat) (f:Fl),d'.files[i]?=some f/\f.name=m;rw[A];by_cases q:j=d
  ·subst q;exact⟨j,_,bL z,b2⟩
  ·exact⟨d,f',by rw[bw q];exact z,b2⟩
 ·have c:g'∈p.fs.modify i Fr.clean:=c;rcases mem_modify w c with r|r
  ·exact h.mine g' r
  ·subst r;exact h.mine g l
theorem bh.erase (h:bh p M Q U){i:Nat}{g:Fr}(d:p.fs[i]?=some g)(hd:g.dirty=false):bh (p.drop i) M Q U:=by
 refine h.OC rfl rfl (λg' a=>h.mine g' (RW a)) λm k f g' a l e2=>?_;obtain⟨j,c⟩:=Qr.1 a;by_cases e:j=i
 ·subst e;rw[d] at c;cases c;exact hd
 ·exact f g' (mem_erase.2 ⟨j,e,c⟩) l e2
theorem bh.make (h:bh p M Q U)(hw:p.WF)(l:¬p.fs.length<p.most){g:Fr}(m:g∈p.fs)(a:g.pins=[]):
  ∃i f,p.fs[i]?=some f/\f.pins=[]/\p.room.2=0/\p.room.1.fs=p.fs.eraseIdx i/\bh p.room.1 M Q U:=by
 cases c:p.mT with
 |none=>exact absurd a (Pl.wM c g m)
 |some i=>
   obtain⟨f,h1,d,_⟩:=Pl.kz c;have e:p.room=if (p.frame i).dirty then (if (p.put i).2=0 then ((p.put i).1.drop i,0) else p.put i) else (p.drop i,0):=by
    unfold Pl.room;rw[if_neg l,c]
   rw[e,Pl.ky h1];cases hd:f.dirty with
   |true=>
     obtain⟨o,j,q⟩:=h.put hw h1;rw[if_pos rfl,if_pos o];refine⟨i,f,h1,d,rfl,?_,q.erase (g:=f.clean) (by rw[j];exact bL h1) rfl⟩;show (p.put i).1.fs.eraseIdx i=_;rw[j,pH]
   |false=>
     rw[if_neg (by simp)];exact⟨i,f,h1,d,rfl,rfl,h.erase h1 hd⟩
theorem bh.roomy (h:bh p M Q U)(hw:p.WF)(r:p.fs.length<p.most\/∃g∈p.fs,g.pins=[]):
  p.room.2=0/\bh p.room.1 M Q U/\(∀g∈p.room.1.fs,g∈p.fs)/\(∀g∈p.fs,g.pins≠[]->g∈p.room.1.fs):=by
 by_cases c:p.fs.length<p.most
 ·rw[Pl.Dw c];exact⟨rfl,h,λ_ q=>q,λ_ q _=>q⟩
 ·obtain⟨g,d,e⟩:=r.resolve_left c;obtain⟨i,f,h1,t,u,o,v⟩:=h.make hw c d e;refine⟨u,v,λx a=>by rw[o] at a;exact RW a,λx a l=>?_⟩;rw[o];obtain⟨j,m⟩:=Qr.1 a;refine mem_erase.2 ⟨j,?_,m⟩;rintro rfl;rw[h1] at m;cases m;exact l t
theorem bh.take (h:bh p M Q U){f:Fr}(c:M f.name=some x)(d:f.ag<x.N)(e:x.T f.ag=(f.kind,f.b)):bh (p.take f) M Q U:=by
 refine h.OC rfl rfl (λg a=>?_) λm k i g a j e2=>i g (by rw[Pl.si];exact List.mem_append_left _ a) j e2;rw[Pl.si] at a;rcases Qj.1 a with r|r
 ·exact h.mine g r
 ·simp at r;subst r;exact⟨x,c,d,e⟩
end
theorem wQ {d:Dk}(a:d.crash=none):d.change=({d with ops:=gQ (d.ops+1)},0):=by unfold Dk.change;rw[a]
section
variable {p p':Pl}{M:bd}{Q U:Nat}{n:ByteArray}{x:St}
theorem bh.fresh (h:bh p M Q U)(v:M n=some x)(hw:p.WF)(w:p.fs.length<p.most\/∃g∈p.fs,g.pins=[])(V:U<Q):
  (p.fresh n).2=(p.next,(x.N:Int),0)/\(p.fresh n).1.fs=p.room.1.fs++[⟨n,x.N,0,[],false,[p.next],0⟩]/\(p.fresh n).1.next=gQ (p.next+1)/\(p.fresh n).1.most=p.most/\(p.fresh n).1.tick=p.tick/\
  bh (p.fresh n).1 (fS M n (some ⟨x.N+1,iQ x.T x.N (0,[])⟩)) Q (U+1)/\(x.N<1048577->n.size<=9223372036854775807->p.next<9223372036854775807->(p.fresh n).1.WF):=by
 obtain⟨h1,c,W,_⟩:=h.roomy hw w;have hs:(cD 0 []).length=512:=iW (by simp);obtain⟨j,f,I,a2,a3,a4,a5⟩:=c.at v;obtain⟨d',J,K,L,N,D,O⟩:=zW c.up c.calm I a2 (k:=x.N) hs (by omega) (by rw[c.used,c.quota];omega);have l:=p.fI;have hlen:=h.len v;have e:p.fresh n=((p.room.1.dH d').take ⟨n,x.N,0,[],false,[],0⟩,p.room.1.next,(x.N:Int),0):=by
  unfold Pl.fresh;rw[if_neg (by rw[h.wrong];simp),hlen];simp only;rw[if_neg (by simp),if_neg (by rw[h1];simp),if_neg (by rw[J];simp),J]
 rw[e];have z:(p.room.1.dH d').next=p.next:=l.2.1
 have A:∀g∈p.room.1.fs,g.name=n->g.ag<x.N:=λg w r=>by
  obtain⟨y,o,b2,_⟩:=c.mine g w;rw[r,v] at o;cases o;exact b2
 have P:bh (p.room.1.dH d') (fS M n (some ⟨x.N+1,iQ x.T x.N (0,[])⟩)) Q (U+1):=by
  refine⟨c.wrong,K,L,N.trans c.quota,?_,?_,λu f' a=>?_,λm y B=>?_,λg t=>?_⟩
  ·show d'.used=U+1;rw[O,if_pos a4.symm,c.used]
  ·show (d'.files.map _).Nodup;rw[D,jm (λf:Fl=>f.name.toList) (λf=>{f with log:=f.log++[⟨p.room.1.d.next,x.N,⟨cD 0 [],hs⟩⟩]}) (λ_=>rfl)];exact c.nodup
  ·have a:d'.files[u]?=some f':=a;rw[D] at a;by_cases q:j=u
   ·subst q;rw[bL a2] at a;cases a;refine⟨_,by show fS M n _ f.name=_;rw[a3,bo],?_,λk b hk R=>?_⟩
    ·rw[Fl.jx];show (putAt f.aG x.N ⟨cD 0 [],hs⟩).length=x.N+1;rw[pQ];omega
    ·rw[Fl.jx] at hk;have hk:(putAt f.aG x.N ⟨cD 0 [],hs⟩)[k]?=some b:=hk;rw[vS (by omega)] at hk;show gV b.1=some (iQ x.T x.N (0,[]) k);split at hk
     ·rename_i E;cases hk;subst E;rw[dJ];exact ry (by simp)
     ·rename_i E;rw[cd E];exact a5 k b hk (by rw[<-a3];exact R)
   ·rw[bw q] at a;obtain⟨y,o,b2,C⟩:=c.file u f' a;have F:f'.name≠n:=λe=>q (by
     have:=xk c.nodup a;rw[e,I] at this;exact Qq this)
    exact⟨y,by rw[aU F];exact o,b2,C⟩
  ·have key:∀m y,M m=some y->∃(i:Nat) (f:Fl),d'.files[i]?=some f/\f.name=m:=λm y B=>by
    obtain⟨u,f',o,b2⟩:=c.there m y B;rw[D];by_cases q:j=u
    ·subst q;exact⟨j,_,bL o,b2⟩
    ·exact⟨u,f',by rw[bw q];exact o,b2⟩
   by_cases q:m=n
   ·subst q;exact key m x v
   ·rw[aU q] at B;exact key m y B
  ·have t:g∈p.room.1.fs:=t;obtain⟨y,o,b2,C⟩:=c.mine g t;by_cases q:g.name=n
   ·rw[q,v] at o;cases o;exact⟨_,by rw[q,bo],by show g.ag<x.N+1;omega,by show iQ x.T x.N (0,[]) g.ag=_;rw[cd (by omega)];exact C⟩
   ·exact⟨y,by rw[aU q];exact o,b2,C⟩
 refine⟨by rw[l.2.1],?_,?_,l.1,l.2.2.1,P.take (f:=⟨n,x.N,0,[],false,[],0⟩) (bo _ _ _) (U7 _) (dJ _ _ _),λS G T=>?_⟩
 ·rw[Pl.si,z];rfl
 ·show gQ ((p.room.1.dH d').next+1)=_;rw[z]
 ·obtain⟨v1,v2⟩:=hw.yy;have H:p.room.1.find n (x.N:Int)=none:=Pl.iZ λg w r=>by have:=A g w r;omega
  exact(v1.dH _).take (by show p.room.1.fs.length<p.room.1.most;rw[l.1];exact v2 h1) (by show p.room.1.next<_;rw[l.2.1];exact T) H (by simp) S G rfl rfl
theorem bh.fP (h:bh p M Q U){i:Nat}{f:Fr}{u:Fr->Fr}(c:p.fs[i]?=some f)(hd:p'.d=p.d)(hw:p'.wrong=p.wrong)(a:p'.fs=p.fs.modify i u)
  (hu:(u f).name=f.name/\(u f).ag=f.ag/\(u f).kind=f.kind/\(u f).b=f.b/\(u f).dirty=f.dirty):bh p' M Q U:=by
 obtain⟨o,q,w,y,z⟩:=hu;refine h.OC hd hw (λg d=>?_) λm k t g d v e2=>?_
 ·rw[a] at d;rcases mem_modify c d with r|r
  ·exact h.mine g r
  ·subst r;rw[o,q,w,y];exact h.mine f (Qi c)
 ·obtain⟨j,l⟩:=Qr.1 d;by_cases e:i=j
  ·subst e;rw[c] at l;cases l;rw[<-z];exact t (u f) (by rw[a];exact Qi (bL c)) (by rw[o];exact v) (by rw[q];exact e2)
  ·exact t g (by rw[a];exact Qi (by rw[bw e];exact l)) v e2
theorem bh.M0 (h:bh p M Q U){k:Nat}{i:Nat}{f:Fr}(hi:p.find n k=some i)(a:p.fs[i]?=some f):
  p.cK n k=(p.lO i,p.next,0)/\bh (p.lO i) M Q U:=by
 refine⟨?_,h.fP a rfl rfl rfl ⟨rfl,rfl,rfl,rfl,rfl⟩⟩;unfold Pl.cK;rw[if_neg (by rw[h.wrong];simp),hi]
theorem bh.KN (h:bh p M Q U)(o:M n=some x)(hw:p.WF){k:Nat}(hi:p.find n k=none)(hk:k<x.N)(q:p.fs.length<p.most\/∃g∈p.fs,g.pins=[]):
  (p.cK n k).2=(p.next,0)/\(p.cK n k).1.fs=p.room.1.fs++[⟨n,k,(x.T k).1,(x.T k).2,false,[p.next],0⟩]/\(p.cK n k).1.next=gQ (p.next+1)/\(p.cK n k).1.most=p.most/\bh (p.cK n k).1 M Q U/\
  (x.N<=1048576->n.size<=9223372036854775807->p.next<9223372036854775807->(p.cK n k).1.WF):=by
 obtain⟨h1,r,y,_⟩:=h.roomy hw q;have a:=p.fI;have hlen:=h.len o;have m:∀g∈p.room.1.fs,g.name=n->g.ag≠k:=λg i c e=>Pl.nB hi g (y g i) c (by omega);obtain⟨j,f,z,a2,a3,a4,a5⟩:=r.at o;obtain⟨b,v⟩:∃b,f.aG[k]?=some b:=⟨_,Qg (by omega)⟩;have w:=a5 k b v λg i c e=>absurd e (m g i c);have t:p.room.1.d.read n k=(b.1,0):=by
  unfold Dk.read Dk.open;rw[if_neg (by rw[r.up];simp),z];simp only[Dk.iX a2];rw[if_neg (by omega),QD,v]
 have el:p.load n k=(p.room.1,some ⟨n,k,(x.T k).1,(x.T k).2,false,[],0⟩,0):=by
  unfold Pl.load;rw[hlen];simp only;rw[if_neg (by simp),if_neg (by omega),if_neg (by rw[h1];simp),t];simp only;rw[if_neg (by simp),w];simp
 have e:p.cK n k=(p.room.1.take ⟨n,k,(x.T k).1,(x.T k).2,false,[],0⟩,p.room.1.next,0):=by
  unfold Pl.cK;rw[if_neg (by rw[h.wrong];simp),hi,el]
 rw[e];refine⟨by rw[a.2.1],?_,?_,a.1,r.take (f:=⟨n,k,(x.T k).1,(x.T k).2,false,[],0⟩) o hk rfl,λA u B=>?_⟩
 ·rw[Pl.si,a.2.1];rfl
 ·show gQ (p.room.1.next+1)=_;rw[a.2.1]
 ·obtain⟨v1,v2⟩:=hw.yy;have l:p.room.1.find n (k:Int)=none:=Pl.iZ λg q c=>by have:=m g q c;omega
  exact v1.take (by rw[a.1];exact v2 h1) (by rw[a.2.1];omega) l (Ci w) (by simp only;omega) u rfl rfl
theorem bh.get (h:bh p M Q U)(hw:p.WF){f:Fr}{c:Int}(a:f∈p.fs)(e:M f.name=some x)(j:c∈f.pins):p.get c=((x.T f.ag).1,(x.T f.ag).2,0):=by
 obtain⟨i,hi⟩:=Qr.1 a;obtain⟨y,d,b2,l⟩:=h.mine f a;rw[e] at d;cases d;unfold Pl.get;rw[if_neg (by rw[h.wrong];simp),Pl.so hw hi j];simp only[Pl.ky hi,l]
theorem bh.set (h:bh p M Q U)(hw:p.WF){i:Nat}{f:Fr}{c:Int}(v:p.fs[i]?=some f)(B:M f.name=some x)(H:c∈f.pins){k:UInt8}{b:List UInt8}(I:b.length<=504):
  p.set c k b=(p.fP i (Fr.set k b),0)/\bh (p.fP i (Fr.set k b)) (fS M f.name (some {x with T:=iQ x.T f.ag (k,b)})) Q U:=by
 constructor
 ·unfold Pl.set;rw[if_neg (by rw[h.wrong];simp),Pl.so hw v H];simp only;rw[if_neg (by omega)]
 ·have w:∀m j,(m≠f.name\/j≠f.ag)->Cl (p.fs.modify i (Fr.set k b)) m j->Cl p.fs m j:=by
   intro m j t z g o E e2;obtain⟨a,C⟩:=Qr.1 o;by_cases q:i=a
   ·subst q;rw[v] at C;cases C;rcases t with u|u
    ·exact absurd E.symm u
    ·exact absurd e2.symm u
   ·exact z g (Qi (by rw[bw q];exact C)) E e2
  refine⟨h.wrong,h.up,h.calm,h.quota,h.used,h.nodup,λj g o=>?_,λm y F=>?_,λg o=>?_⟩
  ·obtain⟨y,d,b2,A⟩:=h.file j g o;by_cases q:g.name=f.name
   ·rw[q,B] at d;cases d;refine⟨{x with T:=iQ x.T f.ag (k,b)},by rw[q,bo],b2,λa c z l=>?_⟩;show gV c.1=some (iQ x.T f.ag (k,b) a);by_cases e:a=f.ag
    ·subst e;have:=l (Fr.set k b f) (Qi (bL v)) q.symm rfl;cases this
    ·rw[cd e];exact A a c z (w _ _ (.inr e) l)
   ·exact⟨y,by rw[aU q];exact d,b2,λa c z l=>A a c z (w _ _ (.inl q) l)⟩
  ·by_cases q:m=f.name
   ·subst q;exact h.there _ x B
   ·rw[aU q] at F;exact h.there m y F
  ·have o:g∈p.fs.modify i (Fr.set k b):=o;rw[cT v] at o;rcases mz o with ⟨j,D,G⟩|r
   ·obtain⟨y,d,b2,A⟩:=h.mine g (Qi G);by_cases q:g.name=f.name
    ·rw[q,B] at d;cases d;have t:g.ag≠f.ag:=λe=>D (key_inj hw.keys G v q e);exact⟨{x with T:=iQ x.T f.ag (k,b)},by rw[q,bo],b2,by show iQ x.T f.ag (k,b) g.ag=_;rw[cd t];exact A⟩
    ·exact⟨y,by rw[aU q];exact d,b2,A⟩
   ·subst r;obtain⟨y,d,b2,_⟩:=h.mine f (Qi v);rw[B] at d;cases d;exact⟨_,bo _ _ _,b2,dJ _ _ _⟩
theorem bh.bK (h:bh p M Q U)(hw:p.WF){i:Nat}{f:Fr}{c:Int}(a:p.fs[i]?=some f)(d:c∈f.pins):
  p.bK c=({p with fs:=p.fs.modify i (Fr.bK c (gQ (p.tick+1))),tick:=gQ (p.tick+1)},0)/\bh (p.bK c).1 M Q U:=by
 have e:p.bK c=({p with fs:=p.fs.modify i (Fr.bK c (gQ (p.tick+1))),tick:=gQ (p.tick+1)},0):=by
  unfold Pl.bK;rw[if_neg (by rw[h.wrong];simp),Pl.so hw a d]
 refine⟨e,?_⟩;rw[e];exact h.fP a rfl rfl rfl ⟨rfl,rfl,rfl,rfl,rfl⟩
theorem bh.create (h:bh p M Q U)(o:M n=none)(w:named n=true)(D:p.d.files.length<4096)(z:Nat->UInt8×List UInt8):
  (p.d.create n).2=0/\bh (p.dH (p.d.create n).1) (fS M n (some ⟨0,z⟩)) Q U/\(p.d.create n).1.files.length=p.d.files.length+1/\(p.d.create n).1.bt=p.d.bt:=by
 have A:p.d.idx n=none:=by
  unfold Dk.idx;rw[List.findIdx?_eq_none_iff];intro f d;obtain⟨i,hi⟩:=Qr.1 d;obtain⟨x,a,_⟩:=h.file i f hi;have:¬f.name.toList=n.toList:=λq=>by
   have e:f.name=n:=ka q;rw[e,o] at a;cases a
  simpa using this
 have r:=wQ h.calm;have e:p.d.create n=({p.d with files:=p.d.files++[⟨n,[],[]⟩],ops:=gQ (p.d.ops+1)},0):=by
  unfold Dk.create;rw[if_neg (by rw[h.up];simp),if_neg (by rw[w];simp),if_neg (by rw[A];simp),if_neg (by omega)];unfold Dk.step;rw[r,if_pos rfl]
 rw[e];have j:∀f∈p.d.files,f.name≠n:=λf d q=>by
  obtain⟨i,hi⟩:=Qr.1 d;obtain⟨x,a,_⟩:=h.file i f hi;rw[q,o] at a;cases a
 have t:∀m x,M m=some x->m≠n:=λm x l q=>by subst q;rw[o] at l;cases l
 refine⟨rfl,⟨h.wrong,h.up,h.calm,h.quota,?_,?_,λi f d=>?_,λm y v=>?_,λg B=>?_⟩,by simp,by simp[Dk.bt]⟩
 ·have:=h.used;show ((p.d.files++[(⟨n,[],[]⟩:Fl)]).map λf:Fl=>f.aG.length).sum=U;unfold Dk.used at this;rw[Q4,List.sum_append,this];simp[Fl.aG]
 ·show ((p.d.files++[(⟨n,[],[]⟩:Fl)]).map λf:Fl=>f.name.toList).Nodup;rw[Q4,QY];refine⟨h.nodup,by simp,λa C b u=>?_⟩;obtain⟨f,d,rfl⟩:=QB.1 C;have u:b=n.toList:=by simpa using u
  rw[u];exact λq=>j f d (ka q)
 ·have d:(p.d.files++[(⟨n,[],[]⟩:Fl)])[i]?=some f:=d;rw[List.getElem?_append] at d;split at d
  ·obtain⟨x,a,b,c⟩:=h.file i f d;exact⟨x,by rw[aU (j f (Qi d))];exact a,b,c⟩
  ·have:i - p.d.files.length=0:=by
    have:=(Qk.1 d).1;simp at this;omega
   rw[this] at d;have d:f=⟨n,[],[]⟩:=by simpa using d.symm
   subst d;exact⟨_,bo _ _ _,rfl,λk b hk=>by simp[Fl.aG] at hk⟩
 ·show ∃(i:Nat) (f:Fl),(p.d.files++[(⟨n,[],[]⟩:Fl)])[i]?=some f/\f.name=m;by_cases q:m=n
  ·subst q;exact⟨p.d.files.length,⟨m,[],[]⟩,by simp,rfl⟩
  ·rw[aU q] at v;obtain⟨i,f,a,b⟩:=h.there m y v;exact⟨i,f,by rw[QR (Qk.1 a).1];exact a,b⟩
 ·obtain⟨y,a,b⟩:=h.mine g B;exact⟨y,by rw[aU (t _ _ a)];exact a,b⟩
end
structure dw (p:Pl)(M:bd)(Q U:Nat):Prop where
 told:bh p M Q U
 wf:p.WF
 free:∀f∈p.fs,f.pins=[]
section
variable {p:Pl}{M:bd}{Q U:Nat}{n:ByteArray}{x:St}
theorem dw.roomy (h:dw p M Q U):p.fs.length<p.most\/∃g∈p.fs,g.pins=[]:=by
 by_cases a:p.fs.length<p.most
 ·exact .inl a
 ·right;have:=h.wf.most
  match c:p.fs with
  |[]=>rw[c] at a;simp at a;omega
  |f::_=>exact⟨f,Qp,h.free f (by rw[c];exact Qp)⟩
theorem dw.Mw (hw:p.WF)(t:bh p M Q U){i:Nat}{f:Fr}{c:Int}(h:p.fs[i]?=some f)(l:f.pins=[c])(m:∀j g,j≠i->p.fs[j]?=some g->g.pins=[])(o:p.next<9223372036854775807):
  (p.bK c).2=0/\dw (p.bK c).1 M Q U/\(p.bK c).1.next=p.next/\(p.bK c).1.most=p.most:=by
 obtain⟨d,r⟩:=t.bK hw h (c:=c) (by rw[l];simp);refine⟨by rw[d],⟨r,hw.bK c o,?_⟩,by rw[d],by rw[d]⟩;rw[d];intro g u;obtain⟨j,a⟩:=Qr.1 u;have a:(p.fs.modify i (Fr.bK c (gQ (p.tick+1))))[j]?=some g:=a;by_cases e:i=j
 ·subst e;rw[bL h] at a;cases a;simp[Fr.bK,l]
 ·rw[bw e] at a;exact m j g (λq=>e q.symm) a
theorem qD {l:List Fr}{f:Fr}{fs:List Fr}(e:fs=l++[f])(h:∀g∈l,g.pins=[]):fs[l.length]?=some f/\∀j g,j≠l.length->fs[j]?=some g->g.pins=[]:=by
 subst e;refine⟨by simp,λj g i a=>?_⟩;rcases Q6 j l.length with c|d
 ·rw[QR c] at a;exact h g (Qi a)
 ·rw[Re d] at a;obtain⟨m,hm⟩:∃m,j - l.length=m+1:=⟨j - l.length - 1,by omega⟩;rw[hm] at a;simp at a
theorem dw.more (h:dw p M Q U)(r:M n=some x)(t:U<Q)(o:x.N<1048577)(hs:n.size<=9223372036854775807)(u:0<=p.next)(h1:p.next<1099511627776){k:UInt8}{b:List UInt8}(v:b.length<=504)(hk:k≠0):
  (p.more n k b).2=0/\(p.fresh n).2.2.1=x.N/\dw (p.more n k b).1 (fS M n (some ⟨x.N+1,iQ x.T x.N (k,b)⟩)) Q (U+1)/\(p.more n k b).1.next=p.next+1/\(p.more n k b).1.most=p.most:=by
 obtain⟨w,r2,y,z,_,A,B⟩:=h.told.fresh r h.wf h.roomy t;obtain⟨_,_,d,_⟩:=h.told.roomy h.wf h.roomy;have a:∀g∈p.room.1.fs,g.pins=[]:=λg C=>h.free g (d g C);have q:(p.fresh n).1.next=p.next+1:=by rw[y];exact xo u h1
 have f:(p.fresh n).1.WF:=B o hs (by omega);generalize p.room.1.fs=l at r2 a;unfold Pl.more;rw[w];generalize (p.fresh n).1=s at*;simp only;rw[if_neg (by simp),if_neg hk];obtain⟨hi,H⟩:=qD r2 a;obtain⟨s1,s2⟩:=A.set f hi (c:=p.next) (k:=k) (b:=b) (bo _ _ _) (by simp) v;have i:=f.set p.next k b;rw[s1] at i ⊢;have e2:(s.fP l.length (Fr.set k b)).fs=l++[⟨n,x.N,k,b,true,[p.next],0⟩]:=by
  show s.fs.modify _ _=_;rw[r2,rO];rfl
 have D:iQ (iQ x.T x.N (0,[])) x.N (k,b)=iQ x.T x.N (k,b):=by
  funext j;by_cases e:j=x.N
  ·subst e;rw[dJ,dJ]
  ·rw[cd e,cd e,cd e]
 rw[tz] at s2;have m:bh (s.fP l.length (Fr.set k b)) (fS M n (some ⟨x.N+1,iQ (iQ x.T x.N (0,[])) x.N (k,b)⟩)) Q (U+1):=s2;rw[D] at m;obtain⟨i2,l2⟩:=qD e2 a;obtain⟨E,b2,F,G⟩:=dw.Mw (c:=p.next) i m i2 rfl l2 (by show s.next<_;omega);exact⟨E,by first|trivial|rfl,b2,F.trans q,G.trans z⟩
theorem dw.cK (h:dw p M Q U)(r:M n=some x)(m:x.N<=1048576)(hs:n.size<=9223372036854775807)(u:0<=p.next)(h1:p.next<1099511627776){k:Nat}(hk:k<x.N):
  (p.cK n k).2=(p.next,0)/\(p.cK n k).1.WF/\bh (p.cK n k).1 M Q U/\(p.cK n k).1.next=p.next+1/\(p.cK n k).1.most=p.most/\
  ∃(i:Nat) (f:Fr),(p.cK n k).1.fs[i]?=some f/\f.pins=[p.next]/\f.name=n/\f.ag=k/\∀j g,j≠i->(p.cK n k).1.fs[j]?=some g->g.pins=[]:=by
 have t:=h.told;have c:gQ (p.next+1)=p.next+1:=xo u h1;cases hi:p.find n (k:Int) with
 |some i=>
   obtain⟨f,l,o,v⟩:=Pl.wT hi;obtain⟨q,r2⟩:=t.M0 hi l;rw[q];refine⟨rfl,h.wf.lO l (by omega),r2,c,rfl,i,Fr.cK p.next f,bL l,?_,o,by show f.ag=k;omega,λj g w a=>?_⟩
   ·show f.pins++[p.next]=_;rw[h.free f (Qi l)];rfl
   ·have a:(p.fs.modify i (Fr.cK p.next))[j]?=some g:=a;rw[bw (λe=>w e.symm)] at a;exact h.free g (Qi a)
 |none=>
   obtain⟨q,r2,y,z,A,B⟩:=t.KN r h.wf hi hk h.roomy;obtain⟨_,_,d,_⟩:=t.roomy h.wf h.roomy;obtain⟨i2,l2⟩:=qD r2 λg a=>h.free g (d g a);exact⟨q,B m hs (by omega),A,y.trans c,z,_,_,i2,rfl,rfl,rfl,l2⟩
theorem dw.look (h:dw p M Q U)(d:M n=some x)(a:x.N<=1048576)(hs:n.size<=9223372036854775807)(l:0<=p.next)(h1:p.next<1099511627776){k:Nat}(hk:k<x.N):
  (p.look n k).2=((x.T k).1,(x.T k).2,0)/\dw (p.look n k).1 M Q U/\(p.look n k).1.next=p.next+1/\(p.look n k).1.most=p.most:=by
 obtain⟨m,r2,t,o,q,i,f,e,j,rn,r,u⟩:=h.cK d a hs l h1 hk;unfold Pl.look;rw[m];generalize (p.cK n k).1=s at*;have g1:=t.get r2 (c:=p.next) (Qi e) (by rw[rn];exact d) (by rw[j];simp);obtain⟨v,b2,w,y⟩:=dw.Mw r2 t e j u (by omega);simp only;rw[if_neg (by simp),g1];simp only;rw[if_neg (by simp),v,r];exact⟨rfl,b2,w.trans o,y.trans q⟩
theorem dw.over (h:dw p M Q U)(m:M n=some x)(l:x.N<=1048576)(hs:n.size<=9223372036854775807)(u:0<=p.next)(h1:p.next<1099511627776){k:Nat}(hk:k<x.N){kd:UInt8}{b:List UInt8}(v:b.length<=504):
  (p.over n (k:Int) kd b).2=0/\dw (p.over n (k:Int) kd b).1 (fS M n (some {x with T:=iQ x.T k (kd,b)})) Q U/\(p.over n (k:Int) kd b).1.next=p.next+1/\(p.over n (k:Int) kd b).1.most=p.most:=by
 obtain⟨w,r2,t,y,z,i,f,o,q,rn,A,B⟩:=h.cK m l hs u h1 hk;unfold Pl.over;rw[w];simp only;rw[if_neg (by simp)];generalize (p.cK n k).1=s at*;obtain⟨s1,s2⟩:=t.set r2 o (c:=p.next) (k:=kd) (b:=b) (by rw[rn];exact m) (by rw[q];simp) v;have a:=r2.set p.next kd b;rw[s1] at a ⊢;rw[A,rn] at s2;have C:Pl.leave (s.fP i (Fr.set kd b),0) p.next=(s.fP i (Fr.set kd b)).bK p.next:=if_pos rfl;rw[C];have D:(s.fP i (Fr.set kd b)).fs[i]?=some (Fr.set kd b f):=bL o;obtain⟨E,b2,F,G⟩:=dw.Mw (c:=p.next) a s2 D (by simpa[Fr.set] using q) (λj g r d=>B j g r (by
  have d:(s.fs.modify i (Fr.set kd b))[j]?=some g:=d;rw[bw (λe=>r e.symm)] at d;exact d)) (by show s.next<_;omega)
 exact⟨E,b2,F.trans y,G.trans z⟩
theorem dw.Oq (h:dw p M Q U)(c:M n=some x){k:Nat}(hk:x.N<=k):p.look n (k:Int)=(p,0,[],12):=by
 have t:=h.told;have f:p.find n (k:Int)=none:=Pl.iZ λg i a=>by
  obtain⟨y,d,b2,_⟩:=t.mine g i;rw[a,c] at d;cases d;omega
 have j:p.load n (k:Int)=(p,none,12):=by
  unfold Pl.load;rw[t.len c];simp only;rw[if_neg (by simp),if_pos (by omega)]
 have e:p.cK n (k:Int)=(p,0,12):=by
  unfold Pl.cK;rw[if_neg (by rw[t.wrong];simp),f];simp only[j];rfl
 unfold Pl.look;rw[e];simp only;rw[if_pos (by decide)]
theorem dw.full (h:dw p M Q U)(l:M n=some x)(o:U=Q){k:UInt8}{b:List UInt8}:(p.more n k b).2=5:=by
 obtain⟨h1,c,q,_⟩:=h.told.roomy h.wf h.roomy;have i:(cD 0 []).length=512:=iW (by simp);obtain⟨j,f,m,a2,a3,a4,a5⟩:=c.at l;have a:p.room.1.d.write n (x.N:Int) (cD 0 [])=(p.room.1.d,5):=by
  unfold Dk.write;rw[if_neg (by rw[c.up];simp),dif_pos i,m];simp only[Dk.iX a2];rw[if_neg (by omega),if_pos (by rw[c.used,c.quota];omega)]
 have e:p.fresh n=((p.room.1.dH p.room.1.d).met 5,0,0,5):=by
  unfold Pl.fresh;rw[if_neg (by rw[h.told.wrong];simp),h.told.len l];simp only;rw[if_neg (by simp),if_neg (by rw[h1];simp),if_pos (by rw[a];simp),a]
 unfold Pl.more;rw[e];simp only;rw[if_pos (by decide)]
end
structure zz (n:ByteArray)(Mo:bd)(Q R most:Nat)(s:Pl)(x:St)(m:Nat):Prop where
 calm:dw s (fS Mo n (some x)) Q (x.N+R)
 lo:0<=s.next
 hi:s.next<=m
 bt:s.d.bt<=2*m
 le:x.N+R<=Q
 room:∀k,(x.T k).2.length<=504
 most:s.most=most
theorem lq {n:ByteArray}{Mo:bd}{Q R most:Nat}(d:n.size<=9223372036854775807)(i:Q<=1048576):jQ n (Q - R) (zz n Mo Q R most) (λ_ e=>e=5) (λ_ _=>False) where
 name:=d
 small:=by omega
 pre {s x m} h:=⟨h.bt,h.lo,h.hi,h.calm.told.fit,by have:=h.le;omega,h.room⟩
 look {s x m k} h hm hk:=by
  have lo:=h.lo;have hi:=h.hi;have le:=h.le;obtain⟨c,a2,a3,a4⟩:=h.calm.look (bo _ _ _) (by omega) d lo (by omega) hk;exact .inl ⟨c,a2,by omega,by omega,by have:=Pl.Ct (s:=s) (n:=n) (g:=(k:Int));have:=h.bt;omega,le,h.room,a4.trans h.most⟩
 Oq {s x m k} h hm hk:=by
  have e:=h.calm.Oq (bo _ _ _) hk;rw[e];exact .inl ⟨rfl,h.calm,h.lo,by have:=h.hi;show s.next<=_;omega,by have:=h.bt;show s.d.bt<=_;omega,h.le,h.room,h.most⟩
 more {s x m kd b} h hm a hk f:=by
  have lo:=h.lo;have hi:=h.hi;have le:=h.le;obtain⟨c,a2,a3,a4,a5⟩:=h.calm.more (bo _ _ _) (by omega) (by omega) d lo (by omega) (k:=kd) (b:=b) a hk;rw[tz] at a3;exact .inl ⟨c,a2,⟨by show dw _ _ _ (x.N+1+R);rw[show x.N+1+R=x.N+R+1 by omega];exact a3,by omega,by omega,by have:=Pl.BJ (s:=s) (n:=n) (k:=kd) (b:=b);have:=h.bt;omega,by show x.N+1+R<=Q;omega,wU h.room a,a5.trans h.most⟩⟩
 full {s x m kd b} h hm a hk f:=.inl (h.calm.full (bo _ _ _) (by have:=h.le;omega))
 over {s x m k kd b} h hm a hk:=by
  have lo:=h.lo;have hi:=h.hi;have le:=h.le;obtain⟨c,a2,a3,a4⟩:=h.calm.over (bo _ _ _) (by omega) d lo (by omega) hk (kd:=kd) (b:=b) a;rw[tz] at a2;have j:=Pl.AR (s:=s) (n:=n) (g:=(k:Int)) (k:=kd) (b:=b);have l:=h.bt;exact .inl ⟨c,a2,by omega,by omega,by omega,le,wU h.room a,a4.trans h.most⟩
 up {s x m k} h hk:=⟨h.calm,h.lo,by have:=h.hi;omega,by have:=h.bt;omega,h.le,h.room,h.most⟩
 errB h:=by rw[h];decide
 errC h:=h.elim
theorem ig {α:Type}:∀{A B:List α},A.Nodup->(∀a∈A,a∈B)->A.length<=B.length
 |[],_,_,_=>QN _
 |a::A,B,h,hs=>by
   have e:=hs a Qp;obtain⟨C,D,rfl⟩:=List.append_of_mem e;obtain⟨h1,f⟩:=Rp.1 h;have:=ig (A:=A) (B:=C++D) f λb d=>by
    have c:=hs b (Qu _ d);rcases Qj.1 c with u|u
    ·exact Qj.2 (.inl u)
    ·rcases Qs.1 u with v|v
     ·subst v;exact absurd d h1
     ·exact Qj.2 (.inr v)
   simp only[Qt,QJ] at this ⊢;omega
theorem CG {α:Type}(w:α->Nat):∀{l:List α} {a:α},a∈l->w a<=(l.map w).sum
 |b::l,a,h=>by
   rw[List.map_cons,List.sum_cons];rcases Qs.1 h with u|u
   ·subst u;omega
   ·have:=CG w u;omega
section
variable {p:Pl}{M:bd}{Q U:Nat}{n:ByteArray}{x:St}
theorem bh.Js (h:bh p M Q U)(a:M n=some x):x.N<=U:=by
 obtain⟨i,f,_,c,_,d,_⟩:=h.at a;have:=CG (λf:Fl=>f.aG.length) (Qi c);have hu:=h.used;unfold Dk.used at hu;omega
theorem bh.Hw (h:bh p M Q U){ns:List ByteArray}(hs:∀n x,M n=some x->n∈ns):p.d.files.length<=ns.length:=by
 have d:(p.d.files.map (·.name)).Nodup:=by
  have:=h.nodup;have e:(p.d.files.map λf=>f.name.toList)=(p.d.files.map (·.name)).map ByteArray.toList:=by rw[RE];rfl
  rw[e] at this;exact UO (λ{a b} c e=>c (by rw[e])) (List.pairwise_map.1 this)
 have:=ig d (B:=ns) λa j=>by
  obtain⟨f,l,rfl⟩:=QB.1 j;obtain⟨i,hi⟩:=Qr.1 l;obtain⟨y,m,_⟩:=h.file i f hi;exact hs _ _ m
 rwa [QI] at this
end
section
variable {p p':Pl}{M:bd}{Q U:Nat}{n:ByteArray}{x:St}
theorem Dk.Jq {d:Dk}{i:Nat}(h:d.idx n=some i):d.drop n={d with files:=d.files.eraseIdx i}:=by unfold Dk.drop;rw[h]
theorem dw.kr (h:dw p M Q U)(E:M n=some x):(p.kr n).2=0/\dw (p.kr n).1 (fS M n none) Q (U - x.N)/\(p.kr n).1.most=p.most/\(p.kr n).1.next=p.next:=by
 obtain⟨i,f,i1,i2,i3,i4,_⟩:=h.told.at E;have hr:p.d.remove n=({{p.d with ops:=gQ (p.d.ops+1)} with files:=p.d.files.eraseIdx i},0):=by
  unfold Dk.remove;rw[if_neg (by rw[h.told.up];simp),if_neg (by rw[i1];simp)];unfold Dk.step;rw[wQ h.told.calm,if_pos rfl];exact congrArg (λd:Dk=>(d,(0:Int))) (Dk.Jq (d:={p.d with ops:=gQ (p.d.ops+1)}) i1)
 have e:p.kr n=((p.forget n).dH (p.d.remove n).1,0):=by
  unfold Pl.kr;rw[if_neg (by rw[h.told.wrong];simp),h.told.len E];simp only;rw[if_neg (by simp),if_neg (by
   rw[Sv];rintro⟨g,t,o⟩;rw[h.free g t] at o;simp at o),hr]
  rfl
 rw[e];refine⟨rfl,⟨?_,(h.wf.forget n).dH _,λg t=>h.free g (QL.1 t).1⟩,rfl,rfl⟩;rw[hr];have F:=(Qk.1 i2).1;have u:∀(j:Nat) (g:Fl),p.d.files[j]?=some g->g.name=n->j=i:=λj g r t=>by
  have:=xk h.told.nodup r;rw[t,i1] at this;exact(Qq this).symm
 have v:∀j g,(p.d.files.eraseIdx i)[j]?=some g->∃w,w≠i/\p.d.files[w]?=some g:=λj g r=>by
  rw[R5] at r;split at r
  ·rename_i q;exact⟨j,by omega,r⟩
  ·rename_i q;exact⟨j+1,by omega,r⟩
 refine⟨h.told.wrong,h.told.up,h.told.calm,h.told.quota,?_,?_,λj g r=>?_,λm y A=>?_,λg t=>?_⟩
 ·have:=jg (λf:Fl=>f.aG.length) p.d.files i f i2;have hu:=h.told.used;unfold Dk.used at hu;show ((p.d.files.eraseIdx i).map λf:Fl=>f.aG.length).sum=_;rw[<-i4];omega
 ·exact h.told.nodup.sublist ((List.eraseIdx_sublist _ _).map _)
 ·obtain⟨w,h1,o⟩:=v j g r;obtain⟨y,a,b,c⟩:=h.told.file w g o;have l:g.name≠n:=λq=>h1 (u w g o q);refine⟨y,by rw[aU l];exact a,b,λk bb hk B=>c k bb hk λf' C z D=>B f' (QL.2 ⟨C,?_⟩) z D⟩;have:¬f'.name.toList=n.toList:=λq=>l (by rw[<-z];exact ka q);simpa using this
 ·have l:m≠n:=λq=>by rw[q,bo] at A;cases A
  rw[aU l] at A;obtain⟨j,g,h1,o⟩:=h.told.there m y A;have G:j≠i:=λq=>by subst q;rw[i2] at h1;cases h1;exact l (o.symm.trans i3)
  rcases Q6 j i with q|q
  ·exact⟨j,g,by show (p.d.files.eraseIdx i)[j]?=_;rw[R5,if_pos q];exact h1,o⟩
  ·exact⟨j - 1,g,by show (p.d.files.eraseIdx i)[j - 1]?=_;rw[R5,if_neg (by omega),show j - 1+1=j by omega];exact h1,o⟩
 ·obtain⟨g1,g2⟩:=QL.1 t;obtain⟨y,a,b,c⟩:=h.told.mine g g1;have l:g.name≠n:=λq=>by rw[q] at g2;simp at g2
  exact⟨y,by rw[aU l];exact a,b,c⟩
end
open Go.MapKept
structure aM (H0 A:aa)(F:Nat->Prop)(p dp:Nat)(s:Pl)(M:bd)(Q U most m:Nat):Prop where
 ext:Ext H0 A
 ar:ax F A p dp s
 old:∀b,F b->H0.size<=b
 calm:dw s M Q U
 lo:0<=s.next
 hi:s.next<=m
 bt:s.d.bt<=2*m
 le:U<=Q
 room:∀n x,M n=some x->∀k,(x.T k).2.length<=504
 most:s.most=most
section
variable {H0 A B:aa}{F F':Nat->Prop}{p dp Q U most m:Nat}{s s':Pl}{M M':bd}{n:ByteArray}{x x':St}
theorem aM.gl (h:aM H0 A F p dp s M Q U most m)(a:Gl H0):Gl A:=a.mod h.ext id
theorem aM.many (h:aM H0 A F p dp s M Q U most m)(a:M n=some x):zz n M Q (U - x.N) most s x m:=by
 have c:=h.calm.told.Js a;have e:x.N+(U - x.N)=U:=by omega
 exact⟨by rw[xT a,e];exact h.calm,h.lo,h.hi,h.bt,by rw[e];exact h.le,h.room n x a,h.most⟩
theorem aM.goes {R f:Nat}{Y i:Nat->Prop}(h:aM H0 A F p dp s M Q U most m)(c:zz n M Q R most s' x' f)(l:ax F' B p dp s')(S:Step Y i A B)(h1:∀b,Y b->H0.size<=b)(o:∀b,F' b->i b):aM H0 B F' p dp s' (fS M n (some x')) Q (x'.N+R) most f:=by
 have hz:=h.ext.size;refine⟨⟨QZ hz S.mod.size,λb e _=>(S.mod.same b (by omega) λu=>by have:=h1 b u;omega).trans (h.ext.same b e id)⟩,l,λb e=>?_,c.calm,c.lo,c.hi,c.bt,c.le,λa y d j=>?_,c.most⟩
 ·rcases S.own b (o b e) with u|u
  ·exact h1 b u
  ·omega
 ·by_cases q:a=n
  ·subst q;rw[bo] at d;cases d;exact c.room j
  ·rw[aU q] at d;exact h.room a y d j
theorem aM.grow (h:aM H0 A F p dp s M Q U most m)(e:Ext A B):aM H0 B F p dp s M Q U most m:=
 ⟨h.ext.trans e,h.ar.ext e,h.old,h.calm,h.lo,h.hi,h.bt,h.le,h.room,h.most⟩
theorem aM.later {a:Nat}(h:aM H0 A F p dp s M Q U most m)(hm:m<=a):aM H0 A F p dp s M Q U most a:=
 ⟨h.ext,h.ar,h.old,h.calm,h.lo,by have:=h.hi;omega,by have:=h.bt;omega,h.le,h.room,h.most⟩
theorem aM.aside (h:aM H0 A F p dp s M Q U most m)(e:Ext H0 B)(hs:∀b,F b->B[b]?=A[b]?):aM H0 B F p dp s M Q U most m:=
 ⟨e,h.ar.aE λb a _=>hs b a,h.old,h.calm,h.lo,h.hi,h.bt,h.le,h.room,h.most⟩
end
end Go.Proofs.YtkehfflpbpdokaaGreatDoor
namespace Go.Proofs.YtkehfflpbpdokaaGreatDoor
open Go.ChangeShapes Go.WideShapes Go.ChangeAt Go.RowKit
end Go.Proofs.YtkehfflpbpdokaaGreatDoor
namespace Go.Proofs.YtkehfflpbpdokaaGreatDoor
theorem gp (n:Int)(k:Nat)(d:Int)(hd:(2:Int)^(min (56 - 8*(k:Int)).toNat Q0.bits)=d)(a:0<=d):iU n k=n/d%256:=by
 unfold iU bm;rw[Wp,hd,Tt _ a]
theorem yN {n:Int}(j:0<=n)(h1:n<18446744073709551616):∃a c b2 d e f h i:Int,gU n=[a,c,b2,d,e,f,h,i]/\
  (0<=a/\a<256)/\(0<=c/\c<256)/\(0<=b2/\b2<256)/\(0<=d/\d<256)/\(0<=e/\e<256)/\(0<=f/\f<256)/\(0<=h/\h<256)/\(0<=i/\i<256)/\
  n=a*72057594037927936+c*281474976710656+b2*1099511627776+d*4294967296+e*16777216+f*65536+h*256+i:=by
 refine⟨iU n 0,iU n 1,iU n 2,iU n 3,iU n 4,iU n 5,iU n 6,iU n 7,rfl,dy n 0,dy n 1,dy n 2,dy n 3,dy n 4,dy n 5,dy n 6,dy n 7,?_⟩;rw[gp n 0 72057594037927936 (by decide) (by decide),gp n 1 281474976710656 (by decide) (by decide),gp n 2 1099511627776 (by decide) (by decide),gp n 3 4294967296 (by decide) (by decide),
  gp n 4 16777216 (by decide) (by decide),gp n 5 65536 (by decide) (by decide),gp n 6 256 (by decide) (by decide),gp n 7 1 (by decide) (by decide)]
 omega
theorem dQ {w b:Int}(a:0<=w)(h1:w<72057594037927936)(c:0<=b)(d:b<256):oT w b=w*256+b:=by
 unfold oT;simp only[um];omega
theorem xN {n:Int}(l:0<=n)(h1:n<18446744073709551616):lH (gU n)=n:=by
 obtain⟨o,q,b2,r,t,u,v,y,e,a,c,r2,d,f,h,i,j,hs⟩:=yN l h1;rw[e];unfold lH;simp only[List.foldl_cons,List.foldl_nil];rw[dQ (w:=0) (by omega) (by omega) a.1 a.2,dQ (by omega) (by omega) c.1 c.2,dQ (by omega) (by omega) r2.1 r2.2,dQ (by omega) (by omega) d.1 d.2,
  dQ (by omega) (by omega) f.1 f.2,dQ (by omega) (by omega) h.1 h.2,dQ (by omega) (by omega) i.1 i.2,dQ (by omega) (by omega) j.1 j.2]
 omega
def cO (l:List Int):Prop:=∀x∈l,0<=x/\x<18446744073709551616
theorem oc {n:Nat}:∀(L:List (List Int)),(∀l∈L,l.length=n)->∀k (hk:k<L.length),((L.flatten).drop (k*n)).take n=L[k]
 |[],_,k,hk=>by simp at hk
 |l::L,h,0,_=>by
   have:=h l Qp;simp[<-this]
 |l::L,h,k+1,hk=>by
   have h1:=h l Qp;have a:=oc L (λx c=>h x (Qu _ c)) k (by simpa using hk);rw[Ua,RX,Nat.add_comm,List.drop_append,Rj (by omega),List.nil_append];have:n+k*n - l.length=k*n:=by omega
   rw[this];simpa using a
theorem Ap {n:Nat}:∀(L:List (List Int)),(∀l∈L,l.length=n)->L.flatten.length=L.length*n
 |[],_=>by simp
 |l::L,h=>by
   rw[Ua,Qt,h l Qp,Ap L (λx a=>h x (Qu _ a))];simp[RX];omega
theorem EC {l:List Int}{w:Nat}(a:l.length=w)(d:cO l):rowOf (gd l) w=l:=by
 by_cases h:l=[]
 ·subst h;simp at a;subst a;rfl
 ·unfold gd;rw[if_neg h];apply Uq
  ·simp[rowOf,a]
  ·intro j h1 c;simp only[rowOf,Tu,UH];have:=oc (n:=8) (l.map gU) (by intro x e;obtain⟨y,_,rfl⟩:=QB.1 e;exact bZ y) j (by simpa using c);rw[<-Xa] at this;rw[Nat.mul_comm,this];simp only[Tu];exact xN (d _ (Qn c)).1 (d _ (Qn c)).2
theorem lA {l:List Int}{w:Nat}(a:l.length=w)(hw:w<=16):(gd l).length=(aK w).toNat/\0<(aK w).toNat:=by
 unfold gd aK;by_cases h:l=[]
 ·subst h;simp at a;subst a;simp
 ·have:0<l.length:=To.2 h;rw[if_neg h,if_neg (by omega),if_neg (by omega),qW];omega
theorem BD {L:List (List Int)}{w:Nat}(hw:w<=16)(d:∀l∈L,l.length=w)(q:∀l∈L,cO l):fQ (L.flatMap gd) w=L/\BV (L.flatMap gd) w=0:=by
 have hlen:∀l∈L.map gd,l.length=(aK w).toNat:=by
  intro l h;obtain⟨x,f,rfl⟩:=QB.1 h;exact(lA (d x f) hw).1
 have i:0<(aK w).toNat:=(lA (l:=QE w 0) (by simp) hw).2;have a:(L.flatMap gd).length=L.length*(aK w).toNat:=by
  rw[Xa,Ap _ hlen];simp
 have j:eY (L.flatMap gd) w=true:=by
  refine uF (by omega) ?_ ?_
  ·have e:aK w=(((aK w).toNat:Nat):Int):=by omega
   rw[e,a,<-Int.ofNat_tmod,Nat.mul_mod_left];rfl
  ·intro r k hk;have o:w=0:=by omega
   subst o;have:∀x∈L.flatMap gd,x=0:=by
    intro x f;obtain⟨l,h1,c⟩:=List.mem_flatMap.1 f;have:l=[]:=QW (d l h1);subst this;simpa[gd] using c
   simp only[QM,Qg hk,Sw];exact this _ (Qn hk)
 unfold fQ BV;rw[j,if_pos rfl,if_pos rfl,a,Nat.mul_div_cancel _ i];refine⟨?_,rfl⟩;apply Uq
 ·simp[rowsOf]
 ·intro k h1 c;simp only[rowsOf,Tu,UH];have:=oc (L.map gd) hlen k (by simpa using c);rw[<-Xa] at this;unfold cQ;rw[this];simp only[Tu,QD];exact EC (d _ (Qn c)) (q _ (Qn c))
theorem B4:∀{a b c:List Int},aL a b<0->aL b c<0->aL a c<0
 |[],[],_,h,_=>by simp[aL] at h
 |[],_::_,[],_,h=>by simp[aL] at h
 |[],_::_,_::_,_,_=>by simp[aL]
 |_::_,[],_,h,_=>by simp[aL] at h
 |_::_,_::_,[],_,h=>by simp[aL] at h
 |x::a,y::b,z::c,h1,d=>by
   simp only[aL] at h1 d ⊢;have e:=@B4 a b c;split at h1
   ·split at d
    ·rw[if_pos (by omega)];decide
    ·split at d
     ·omega
     ·rw[if_pos (by omega)];decide
   ·split at h1
    ·omega
    ·split at d
     ·rw[if_pos (by omega)];decide
     ·split at d
      ·omega
      ·rw[if_neg (by omega),if_neg (by omega)];exact e h1 d
theorem yQ {a b:List Int}:0<aL a b↔aL b a<0:=by rw[qh b a];omega
theorem Cz (a:List Int):aL a a=0:=dM.2 rfl
theorem Bu {a b c:List Int}(h:aL a b>=0)(k:aL c b<0):aL c a<0:=by
 rcases kR a b with q|q|q
 ·omega
 ·rw[dM.1 q];exact k
 ·exact B4 k (yQ.1 (by omega))
theorem cN {ls:List (List Int)}{i:Nat}(h:i<ls.length):ls.getD i []=ls[i]:=by rw[QM,Qg h];rfl
theorem nD {ls:List (List Int)}:jE ls=true↔∀i,i+1<ls.length->aL (ls.getD i []) (ls.getD (i+1) [])<0:=by
 unfold jE;rw[List.all_eq_true];constructor
 ·intro h i hi;simpa using h i (Q7.2 (by omega))
 ·intro h i hi;have:=Q7.1 hi;simpa using h i (by omega)
theorem dv {ls:List (List Int)}(h:jE ls=true):∀{i j:Nat},i<j->j<ls.length->aL (ls.getD i []) (ls.getD j [])<0:=by
 have h':=nD.1 h;intro i j c
 induction j with
 |zero=>omega
 |succ j d=>
   intro a;by_cases e:i=j
   ·subst e;exact h' i a
   ·exact B4 (d (by omega) (by omega)) (h' j a)
def Oo (ll:List Int)(ls:List (List Int)):Prop:=∀i j,i<=j->j<ls.length->aL (ls.getD j []) ll<0->aL (ls.getD i []) ll<0
theorem ta {ls:List (List Int)}(h:jE ls=true)(ll:List Int):Oo ll ls:=by
 intro i j a c d;rcases Q6 i j with q|q
 ·exact B4 (dv h q c) d
 ·rwa [show i=j by omega]
theorem Cp {ll:List Int}:∀{ls:List (List Int)} {n:Nat},n<=ls.length->(∀x,x<n->aL (ls.getD x []) ll<0)->(n<ls.length->¬aL (ls.getD n []) ll<0)->below ll ls=n
 |[],n,h,_,_=>by simp at h;subst h;rfl
 |a::ls,0,_,_,c=>by
   have:=c (by simp);unfold below;rw[Si,if_neg (by simpa using this)];rfl
 |a::ls,n+1,h1,d,c=>by
   have i:aL a ll<0:=d 0 (by omega);have e:=@Cp ll ls n (by simpa using h1) (λx f=>d (x+1) (by omega)) (λf=>c (by simpa using f));unfold below at e ⊢;rw[Si,if_pos (by simpa using i),QJ,e]
theorem nc {ll:List Int}:∀{ls:List (List Int)} {x:Nat},x<below ll ls->aL (ls.getD x []) ll<0
 |[],x,h=>by simp[below] at h
 |a::ls,x,h=>by
   unfold below at h;rw[Si] at h;split at h
   ·rename_i c;cases x with
    |zero=>simpa using c
    |succ x=>exact @nc ll ls x (by unfold below;simpa using h)
   ·simp at h
theorem mn {ll:List Int}:∀{ls:List (List Int)},below ll ls<ls.length->¬aL (ls.getD (below ll ls) []) ll<0
 |[],h=>by simp[below] at h
 |a::ls,h=>by
   by_cases c:aL a ll<0
   ·have e:below ll (a::ls)=below ll ls+1:=by
     unfold below;rw[Si,if_pos (by simpa using c)];rfl
    rw[e] at h ⊢;exact @mn ll ls (by simpa using h)
   ·have e:below ll (a::ls)=0:=by
     unfold below;rw[Si,if_neg (by simpa using c)];rfl
    rw[e];exact c
theorem cS {ls:List (List Int)}{l:List Int}:sameAt ls l=true↔below l ls<ls.length/\ls.getD (below l ls) []=l:=by
 unfold sameAt;simp
theorem uh {n:Nd}{l:List Int}(h:jE n.rows=true){j:Nat}(h1:n.child l<=j)(c:j<n.rows.length):aL l (n.rows.getD j [])<0:=by
 unfold Nd.child at h1;split at h1
 ·rename_i hs;obtain⟨e,d⟩:=cS.1 hs;have:=dv h (i:=below l n.rows) (j:=j) (by omega) c
  rwa [d] at this
 ·rename_i hs;have key:aL l (n.rows.getD (below l n.rows) [])<0:=by
   have a:below l n.rows<n.rows.length:=by omega
   have f:=mn a;rcases kR (n.rows.getD (below l n.rows) []) l with q|q|q
   ·omega
   ·exact absurd (cS.2 ⟨a,dM.1 q⟩) hs
   ·exact yQ.1 (by omega)
  rcases Q6 (below l n.rows) j with q|q
  ·exact B4 key (dv h q c)
  ·rwa [show j=below l n.rows by omega]
theorem te {n:Nd}{l:List Int}(h:∀j,j<n.rows.length->aL l (n.rows.getD j [])<0):below l n.rows=0/\sameAt n.rows l=false/\n.child l=0:=by
 have a:below l n.rows=0:=Cp (QN _) (λx i=>by omega) λc q=>by
  have:=h 0 c;have:=yQ.2 this;omega
 have hs:sameAt n.rows l=false:=by
  cases d:sameAt n.rows l with
  |false=>rfl
  |true=>
    obtain⟨e,f⟩:=cS.1 d;have:=h _ e;rw[f,Cz] at this;omega
 refine⟨a,hs,?_⟩;unfold Nd.child;rw[hs,a];rfl
theorem tJ {s:Span}{ls:List (List Int)}(h:s.holds ls=true){a:List Int}(d:s.low=some a){j:Nat}(c:j<ls.length):aL (ls.getD j []) a>=0:=by
 unfold Span.holds at h;simp only[Qz,Rm] at h;obtain⟨h1,e⟩:=h;have f:aL (ls.getD 0 []) a>=0:=by
  rcases e with q|⟨q,_⟩
  ·have:ls=[]:=by simpa using q
   rw[this] at c;simp at c
  ·unfold Span.ge at q;rw[d] at q;simpa using q
 rcases R4 j with q|q
 ·rwa [q]
 ·have:=dv h1 q c;rcases kR (ls.getD j []) a with r|r|r
  ·have:=Bu f (show aL (ls.getD j []) a<0 by omega);have i:=yQ.2 ‹aL (ls.getD 0 []) (ls.getD j [])<0›;omega
  ·omega
  ·omega
theorem bP {s:Span}{ls:List (List Int)}(h:s.holds ls=true):jE ls=true:=by
 unfold Span.holds at h;simp only[Qz] at h;exact h.1
section
variable {x:St}{w:Int}{depth:Nat}{low:List Int}{strict:Bool}
theorem jS (a:∀k,(x.T k).2.length<=504){above ag:Nat}{s:Span}{n:Nd}(h:x.node w depth above ag s=some n):n.Ok w depth above s:=by
 unfold St.node at h;split at h
 ·exact DS (a _) h
 ·cases h
theorem tW (e:∀k,(x.T k).2.length<=504)(hd:1<depth):∀(a ag:Nat) (s:Span) (b:List Int),s.low=some b->aL low b<0->
  (x.find w depth low strict a ag s).1<=a+1/\(x.find w depth low strict a ag s).2≠some none
 |0,ag,s,b,c,d=>by
   unfold St.find;cases f:x.node w depth 0 ag s with
   |none=>exact⟨Qm _,by simp⟩
   |some n=>
     have ok:=jS e f;have h:=ok.some_ hd;have q:0<n.rows.length:=To.2 h;obtain⟨o,z2,z3⟩:=te (n:=n) (l:=low) λj i=>Bu (tJ ok.holds c i) d;refine⟨Qm _,?_⟩;show some (kT n.rows low strict)≠some none;unfold kT;rw[o,z2];simp only[XW,TO,if_false,UU];rw[Qg q];simp
 |a+1,ag,s,b,c,d=>by
   unfold St.find;cases f:x.node w depth (a+1) ag s with
   |none=>exact⟨by simp,by simp⟩
   |some n=>
     have ok:=jS e f;obtain⟨i1,i2,i3⟩:=ok.inner (UW _);obtain⟨o,z2,z3⟩:=te (n:=n) (l:=low) λj i=>Bu (tJ ok.holds c i) d;have hs:(s.of n 0).low=some b:=by unfold Span.of;simp[c]
     obtain⟨r,r2⟩:=tW e hd a (n.kids.getD 0 0) (s.of n 0) b hs d;simp only;rw[z3,Vj,i1];unfold lY;rw[if_neg r2];exact⟨by omega,r2⟩
theorem w8 (d:∀k,(x.T k).2.length<=504):∀(a ag:Nat) (s:Span),a<depth->(x.find w depth low strict a ag s).1<=(a+1)*(a+1)
 |0,ag,s,_=>by
   unfold St.find;cases x.node w depth 0 ag s<;>exact Qm _
 |a+1,ag,s,f=>by
   unfold St.find;cases e:x.node w depth (a+1) ag s with
   |none=>exact QZ (Nat.le_add_left 1 (a+1)) (Uv _ (by omega))
   |some n=>
     have ok:=jS d e;obtain⟨i1,i2,i3⟩:=ok.inner (UW _);have h:=ko (n:=n) (l:=low);have i:=w8 d a (n.kids.getD (n.child low) 0) (s.of n (n.child low)) (by omega);simp only;have e2:(a+1+1)*(a+1+1)=(a+1)*(a+1)+(2*a+3):=by
      rw[Nat.mul_add,TN,TN];omega
     have hk:n.kids.length - n.child low=(n.rows.length - n.child low)+1:=by omega
     rw[hk];unfold lY;split
     ·rcases R4 (n.rows.length - n.child low) with q|q
      ·rw[q];unfold lY;simp only;omega
      ·obtain⟨m,hm⟩:∃m,n.rows.length - n.child low=m+1:=⟨n.rows.length - n.child low - 1,by omega⟩;rw[hm];have c:(s.of n (n.child low+1)).low=some (n.rows.getD (n.child low) []):=by unfold Span.of;simp
       obtain⟨j,r2⟩:=tW (strict:=strict) d (show 1<depth by omega) a (n.kids.getD (n.child low+1) 0) (s.of n (n.child low+1)) _ c (uh (bP ok.holds) (Qm _) (by omega));unfold lY;rw[if_neg r2];simp only;omega
     ·omega
theorem DM {f:Nat->Nat×Option (Option (List Int))}{i k:Nat}(h:(f i).2=some none):lY f i (k+1)=((f i).1+(lY f (i+1) k).1,(lY f (i+1) k).2):=by
 conv=>lhs;unfold lY
 rw[if_pos h]
theorem C8 {f:Nat->Nat×Option (Option (List Int))}{i k:Nat}(h:(f i).2≠some none):lY f i (k+1)=f i:=by
 unfold lY;rw[if_neg h]
theorem Fz {f:Nat->Nat×Option (Option (List Int))}{y:List Int}:∀(k i:Nat),(lY f i k).2=some (some y)->∃j,(f j).2=some (some y)
 |0,i,h=>by unfold lY at h;cases h
 |k+1,i,h=>by
   unfold lY at h;split at h
   ·exact Fz k (i+1) h
   ·exact⟨i,h⟩
theorem sS {ll:List Int}(d:∀k,(x.T k).2.length<=504):∀(a ag:Nat) (s:Span) {y:List Int},(x.find w depth ll strict a ag s).2=some (some y)->y.length=w.toNat
 |0,ag,s,y,h=>by
   unfold St.find at h;cases c:x.node w depth 0 ag s with
   |none=>rw[c] at h;cases h
   |some n=>
     rw[c] at h;simp only[Rv] at h;unfold kT at h;exact(jS d c).cols y (Qi h)
 |a+1,ag,s,y,h=>by
   unfold St.find at h;cases c:x.node w depth (a+1) ag s with
   |none=>rw[c] at h;cases h
   |some n=>
     rw[c] at h;obtain⟨j,e⟩:=Fz _ _ h;exact sS d a _ _ e
end
theorem ic (n:Nat):(vC n).length=4:=rfl
theorem JA {n:Nat}(h:n<4294967296)(r:List UInt8):Le (vC n++r)=n:=by
 have e:∀k:Nat,(Qx k).toNat=k%256:=λk=>SM;show (((Qx (n/16777216)).toNat*256+(Qx (n/65536)).toNat)*256+(Qx (n/256)).toNat)*256+(Qx n).toNat=n;rw[e,e,e,e];omega
theorem gD:∀(l:List Nat),(l.flatMap vC).length=4*l.length
 |[]=>rfl
 |a::l=>by rw[Q5,Qt,ic,gD l];simp;omega
theorem zF {r:List UInt8}:∀{l:List Nat} {i:Nat},(∀k∈l,k<4294967296)->i<l.length->Le ((l.flatMap vC++r).drop (4*i))=l.getD i 0
 |[],i,_,h=>by simp at h
 |a::l,0,h,_=>by
   rw[Q5,Rg];exact JA (h a Qp) _
 |a::l,i+1,h,hi=>by
   have e:4*(i+1)=(vC a).length+4*i:=by rw[ic];omega
   rw[Q5,Rg,e,<-UR,XR];exact zF (λk hk=>h k (Qu _ hk)) (by simpa using hi)
theorem sI (a b:List UInt8):fm (a++b)=fm a++fm b:=by simp[fm]
def dF (ls:List (List Int)):List UInt8:=ls.flatMap λl=>iO (gd l)
theorem vU:∀(ls:List (List Int)),fm (dF ls)=ls.flatMap gd
 |[]=>rfl
 |a::ls=>by
   unfold dF;rw[Q5,sI,og (nW a),Q5];exact congrArg _ (vU ls)
theorem Dz {l:List Int}{W:Nat}(a:l.length=W)(c:W<=16):(gd l).length=(aK W).toNat:=(lA a c).1
theorem p7 {W:Nat}(c:W<=16):∀{ls:List (List Int)},(∀l∈ls,l.length=W)->(dF ls).length=ls.length*(aK W).toNat
 |[],_=>by simp[dF]
 |a::ls,h=>by
   have d:=p7 c (ls:=ls) λl f=>h l (Qu _ f);have e:dF (a::ls)=iO (gd a)++dF ls:=by unfold dF;rw[Q5]
   rw[e,Qt,j0,Dz (h a Qp) c,d,QJ,TN];omega
theorem qO {W:Nat}(a:W<=16):aK (W:Int)≠0/\(aK (W:Int)).toNat=(if W=0 then 1 else 8*W):=by
 unfold aK;rw[if_neg (by omega)];by_cases h:W=0
 ·subst h;exact⟨by decide,rfl⟩
 ·rw[if_neg (by omega),if_neg h];omega
theorem mH {W:Nat}(a:W<=16):
  (∀k:Nat,¬((k:Int)>xO W)↔2+4*k+(k - 1)*(aK W).toNat<=504\/k<=1)/\(∀k:Nat,¬((k:Int)>mw W)↔k*(aK W).toNat<=504)/\3<=mw (W:Int)/\4<=xO (W:Int):=by
 have h:∀W:Nat,W<=16->W=0\/W=1\/W=2\/W=3\/W=4\/W=5\/W=6\/W=7\/W=8\/W=9\/W=10\/W=11\/W=12\/W=13\/W=14\/W=15\/W=16:=by omega
 have key:∀(s f r:Nat),aK (W:Int)=s->xO (W:Int)=f->mw (W:Int)=r->(∀k:Nat,¬(k>f)↔2+4*k+(k - 1)*s<=504\/k<=1)->(∀k:Nat,¬(k>r)↔k*s<=504)->3<=r->4<=f->
   (∀k:Nat,¬((k:Int)>xO W)↔2+4*k+(k - 1)*(aK W).toNat<=504\/k<=1)/\(∀k:Nat,¬((k:Int)>mw W)↔k*(aK W).toNat<=504)/\3<=mw (W:Int)/\4<=xO (W:Int):=by
  intro s f r h1 c d i j l o;rw[h1,c,d];refine⟨λk=>?_,λk=>?_,by omega,by omega⟩
  ·rw[QD,<-i k];omega
  ·rw[QD,<-j k];omega
 rcases h W a with e|e|e|e|e|e|e|e|e|e|e|e|e|e|e|e|e<;>subst e
 ·exact key 1 100 504 (by decide) (by decide) (by decide) (by omega) (by omega) (by decide) (by decide)
 ·exact key 8 42 63 (by decide) (by decide) (by decide) (by omega) (by omega) (by decide) (by decide)
 ·exact key 16 25 31 (by decide) (by decide) (by decide) (by omega) (by omega) (by decide) (by decide)
 ·exact key 24 18 21 (by decide) (by decide) (by decide) (by omega) (by omega) (by decide) (by decide)
 ·exact key 32 14 15 (by decide) (by decide) (by decide) (by omega) (by omega) (by decide) (by decide)
 ·exact key 40 12 12 (by decide) (by decide) (by decide) (by omega) (by omega) (by decide) (by decide)
 ·exact key 48 10 10 (by decide) (by decide) (by decide) (by omega) (by omega) (by decide) (by decide)
 ·exact key 56 9 9 (by decide) (by decide) (by decide) (by omega) (by omega) (by decide) (by decide)
 ·exact key 64 8 7 (by decide) (by decide) (by decide) (by omega) (by omega) (by decide) (by decide)
 ·exact key 72 7 7 (by decide) (by decide) (by decide) (by omega) (by omega) (by decide) (by decide)
 ·exact key 80 6 6 (by decide) (by decide) (by decide) (by omega) (by omega) (by decide) (by decide)
 ·exact key 88 6 5 (by decide) (by decide) (by decide) (by omega) (by omega) (by decide) (by decide)
 ·exact key 96 5 5 (by decide) (by decide) (by decide) (by omega) (by omega) (by decide) (by decide)
 ·exact key 104 5 4 (by decide) (by decide) (by decide) (by omega) (by omega) (by decide) (by decide)
 ·exact key 112 5 4 (by decide) (by decide) (by decide) (by omega) (by omega) (by decide) (by decide)
 ·exact key 120 5 4 (by decide) (by decide) (by decide) (by omega) (by omega) (by decide) (by decide)
 ·exact key 128 4 3 (by decide) (by decide) (by decide) (by omega) (by omega) (by decide) (by decide)
theorem Nd.da {n:Nd}{W:Nat}(a:W<=16)(h:∀l∈n.rows,l.length=W):n.bytes.length=(2+4*n.kids.length)*(if n.kids=[] then 0 else 1)+n.rows.length*(aK (W:Int)).toNat:=by
 have hr:=p7 a h;unfold Nd.bytes;rw[Qt];change _+(dF n.rows).length=_;rw[hr];by_cases hk:n.kids=[]
 ·rw[if_pos hk,if_pos hk];simp
 ·rw[if_neg hk,if_neg hk,QJ,QJ,gD];omega
structure Nd.pO (n:Nd)(W depth above:Nat)(s:Span):Prop where
 leaf:above=0->n.kids=[]
 inner:0<above->n.kids.length=n.rows.length+1/\1<=n.rows.length
 holds:s.holds n.rows=true
 some_:1<depth->n.rows≠[]
 cols:∀l∈n.rows,l.length=W/\cO l
 kids:∀k∈n.kids,k<4294967296
 fit:n.bytes.length<=504
theorem Nd.pO.read {n:Nd}{W depth above:Nat}{s:Span}(t:W<=16)(h:n.pO W depth above s):gY W depth above s n.ag=some n:=by
 obtain⟨ks,rs⟩:=n;obtain⟨v,r2⟩:=BD t (λl a=>(h.cols l a).1) λl a=>(h.cols l a).2;have f:eY (rs.flatMap gd) W=true:=by
  unfold BV at r2;cases y:eY (rs.flatMap gd) W with
  |true=>rfl
  |false=>rw[y] at r2;simp at r2
 have fin:∀kids,(kids≠[]->rs.length+1=kids.length)->dI W depth s kids (dF rs)=some ⟨kids,rs⟩:=by
  intro kids hk;unfold dI;rw[vU,v,f];rw[if_neg (by
   rintro(q|⟨j,o⟩)
   ·cases q
   ·exact o (hk j))]
  rw[if_neg (by
   rintro(q|⟨j,o⟩)
   ·rw[h.holds] at q;cases q
   ·exact h.some_ o j)]
 unfold Nd.ag Nd.bytes;by_cases hk:ks=[]
 ·subst hk;have d:above=0:=by
   rcases R4 above with q|q
   ·exact q
   ·have:=(h.inner q).1;simp at this
  simp only[if_pos];unfold gY;rw[if_pos ⟨rfl,d⟩];exact fin [] (λq=>absurd rfl q)
 ·have d:0<above:=by
   rcases R4 above with q|q
   ·exact absurd (h.leaf q) hk
   ·exact q
  obtain⟨i1,i2⟩:=h.inner d;simp only at i1 i2;have c:=h.fit;rw[Nd.da t λl a=>(h.cols l a).1,if_neg hk] at c;simp only at c;have z:jV (Qx (ks.length/256)::Qx ks.length::ks.flatMap vC++dF rs)=ks.length:=by
   have e:∀k:Nat,(Qx k).toNat=k%256:=λk=>SM;show (Qx (ks.length/256)).toNat*256+(Qx ks.length).toNat=_;rw[e,e];omega
  have a:(Qx (ks.length/256)::Qx ks.length::ks.flatMap vC++dF rs).length=2+4*ks.length+(dF rs).length:=by
   rw[Qt,QJ,QJ,gD];omega
  have hd:(Qx (ks.length/256)::Qx ks.length::ks.flatMap vC++dF rs).drop (2+4*ks.length)=dF rs:=by
   rw[<-UR];show ((ks.flatMap vC++dF rs).drop (4*ks.length))=_;rw[<-gD,XR]
  have r:gF (Qx (ks.length/256)::Qx ks.length::ks.flatMap vC++dF rs) ks.length=ks:=by
   unfold gF;apply Uq
   ·simp
   ·intro i h1 u;rw[Tu,UH,<-UR];show Le ((ks.flatMap vC++dF rs).drop (4*i))=_;rw[zF h.kids u,QM,Qg u];rfl
  simp only[if_neg hk];change gY W depth above s (4,Qx (ks.length/256)::Qx ks.length::ks.flatMap vC++dF rs)=_;unfold gY;simp only;rw[if_neg (by rintro⟨q,_⟩;revert q;decide),if_pos ⟨by first|rfl|trivial,d,by rw[a];omega⟩,z,if_neg (by rw[a];omega),hd,r];exact fin ks (λ_=>i1.symm)
def gO (a b:List Int):Prop:=aL a b<0
theorem bQ (a:List Int):¬gO a a:=by unfold gO;rw[Cz];omega
theorem bp {a b c:List Int}(h:gO a b)(k:gO b c):gO a c:=B4 h k
theorem iw (a b:List Int):gO a b\/a=b\/gO b a:=by
 rcases kR a b with q|q|q
 ·exact .inl (by unfold gO;omega)
 ·exact .inr (.inl (dM.1 q))
 ·exact .inr (.inr (yQ.1 (by omega)))
theorem Od {a b c:List Int}(h:¬gO b a)(k:gO b c):gO a c:=by
 rcases iw a b with q|q|q
 ·exact bp q k
 ·subst q;exact k
 ·exact absurd q h
theorem CC {a b c:List Int}(h:gO a b)(k:¬gO c b):gO a c:=by
 rcases iw b c with q|q|q
 ·exact bp h q
 ·subst q;exact h
 ·exact absurd q k
theorem GD {a b:List Int}:aL a b>=0↔¬gO a b:=by unfold gO;omega
def dG (L:List (List Int)):Prop:=L.Pairwise gO
theorem wL {L:List (List Int)}:jE L=true↔dG L:=by
 unfold dG;rw[Ta];constructor
 ·intro h i j hi c a;have:=dv h a c;rw[cN hi,cN c] at this;exact this
 ·intro h;rw[nD];intro i hi;rw[cN (by omega),cN hi];exact h i (i+1) (by omega) hi (by omega)
def Span.Has (s:Span)(l:List Int):Prop:=(∀a,s.low=some a->¬gO l a)/\∀a,s.high=some a->gO l a
theorem du {s:Span}{L:List (List Int)}:s.holds L=true↔dG L/\∀l∈L,s.Has l:=by
 constructor
 ·intro h;have hr:=bP h;refine⟨wL.1 hr,λl c=>?_⟩;obtain⟨i,hi,rfl⟩:=Rz.1 c;refine⟨λa d=>?_,λa d=>?_⟩
  ·have:=tJ h d hi;rw[cN hi] at this;exact GD.1 this
  ·unfold Span.holds at h;simp only[Qz,Rm] at h;rcases h.2 with q|⟨_,q⟩
   ·have:L=[]:=by simpa using q
    rw[this] at hi;simp at hi
   ·unfold Span.lt at q;rw[d] at q;have q:aL (L.getD (L.length - 1) []) a<0:=by simpa using q
    rw[cN (by omega)] at q;rcases Q6 i (L.length - 1) with u|u
    ·have:=dv hr u (by omega);rw[cN hi,cN (by omega)] at this;exact B4 this q
    ·have:i=L.length - 1:=by omega
     subst this;exact q
 ·rintro⟨h1,e⟩;unfold Span.holds;rw[wL.2 h1,TY];rcases R4 L.length with q|q
  ·rw[QW q];rfl
  ·rw[Rm,Qz];right;constructor
   ·unfold Span.ge;cases c:s.low with
    |none=>rfl
    |some a=>
      rw[cN q];have:=(e _ (Qn q)).1 a c;simp only[decide_eq_true_eq];exact GD.2 this
   ·unfold Span.lt;cases c:s.high with
    |none=>rfl
    |some a=>
      rw[cN (by omega)];have:=(e _ (Qn (show L.length - 1<L.length by omega))).2 a c;simpa[gO] using this
def IK (R:Nat->Span->List (List Int)->List Nat->Prop)(s:Span)(n:Nd)(Ls:List (List (List Int)))(Ps:List (List Nat)):Prop:=
 n.kids.length=n.rows.length+1/\Ls.length=n.kids.length/\Ps.length=n.kids.length/\∀i,i<n.kids.length->R (n.kids.getD i 0) (s.of n i) (Ls.getD i []) (Ps.getD i [])
def Tn (x:St)(W depth:Nat):Nat->Nat->Span->List (List Int)->List Nat->Prop
 |0,ag,s,L,P=>∃n,x.node W depth 0 ag s=some n/\n.pO W depth 0 s/\L=n.rows/\P=[ag]
 |a+1,ag,s,L,P=>∃n Ls Ps,x.node W depth (a+1) ag s=some n/\n.pO W depth (a+1) s/\IK (Tn x W depth a) s n Ls Ps/\L=Ls.flatten/\P=ag::Ps.flatten
def Body (x:St)(W depth:Nat):Nat->Span->Nd->List (List Int)->List Nat->Prop
 |0,_,n,L,Q=>n.kids=[]/\L=n.rows/\Q=[]
 |a+1,s,n,L,Q=>∃Ls Ps,IK (Tn x W depth a) s n Ls Ps/\L=Ls.flatten/\Q=Ps.flatten
theorem Gq {x:St}{W depth a ag:Nat}{s:Span}{L:List (List Int)}{P:List Nat}:Tn x W depth a ag s L P↔∃n Q,x.node W depth a ag s=some n/\n.pO W depth a s/\Body x W depth a s n L Q/\P=ag::Q:=by
 cases a with
 |zero=>
   constructor
   ·rintro⟨n,h1,c,d,e⟩;exact⟨n,[],h1,c,⟨c.leaf rfl,d,rfl⟩,e⟩
   ·rintro⟨n,Q,h1,c,⟨_,d,e⟩,f⟩;exact⟨n,h1,c,d,by rw[f,e]⟩
 |succ a=>
   constructor
   ·rintro⟨n,Ls,Ps,h1,c,d,e,f⟩;exact⟨n,_,h1,c,⟨Ls,Ps,d,e,rfl⟩,f⟩
   ·rintro⟨n,Q,h1,c,⟨Ls,Ps,d,e,f⟩,h⟩;exact⟨n,Ls,Ps,h1,c,d,e,by rw[h,f]⟩
section
variable {x x':St}{W depth:Nat}
theorem Tn.ag {a ag:Nat}{s:Span}{L:List (List Int)}{P:List Nat}(h:Tn x W depth a ag s L P):ag∈P/\ag<x.N:=by
 obtain⟨n,Q,h1,_,_,c⟩:=Gq.1 h;refine⟨by rw[c];exact Qp,?_⟩;unfold St.node at h1;split at h1
 ·assumption
 ·cases h1
theorem oh {a ag:Nat}{s:Span}{w:Int}(d:x.N<=x'.N)(c:x'.T ag=x.T ag){n:Nd}(h:x.node w depth a ag s=some n):x'.node w depth a ag s=some n:=by
 unfold St.node at h ⊢;split at h
 ·rw[if_pos (by omega),c];exact h
 ·cases h
theorem oV {α:Type}{Ls:List (List α)}{i:Nat}{a:α}(h:a∈Ls.getD i []):a∈Ls.flatten:=by
 by_cases hi:i<Ls.length
 ·rw[QM,Qg hi] at h;exact TM.2 ⟨_,Qn hi,h⟩
 ·rw[QM,Sm (by omega)] at h;cases h
theorem Tn.congr:∀{a ag:Nat} {s:Span} {L:List (List Int)} {P:List Nat},Tn x W depth a ag s L P->x.N<=x'.N->(∀p∈P,x'.T p=x.T p)->Tn x' W depth a ag s L P
 |0,ag,s,L,P,⟨n,h1,h,c,d⟩,e,f=>⟨n,oh e (f ag (by rw[d];exact Qp)) h1,h,c,d⟩
 |a+1,ag,s,L,P,⟨n,Ls,Ps,h1,h,c,d,j⟩,e,f=>⟨n,Ls,Ps,oh e (f ag (by rw[j];exact Qp)) h1,h,
     ⟨c.1,c.2.1,c.2.2.1,λi hi=>Tn.congr (c.2.2.2 i hi) e λp l=>f p (by rw[j];exact Qu _ (oV l))⟩,d,j⟩
theorem Hc {s:Span}{n:Nd}{i:Nat}{l:List Int}(r:s.holds n.rows=true)(hi:i<=n.rows.length)(h:(s.of n i).Has l):s.Has l:=by
 obtain⟨h1,o⟩:=du.1 r;refine⟨λa d=>?_,λa d=>?_⟩
 ·by_cases c:0<i
  ·have e:(s.of n i).low=some (n.rows.getD (i - 1) []):=if_pos c;have f:=h.1 _ e;have j:=(o (n.rows.getD (i - 1) []) (by rw[cN (by omega)];exact Qn _)).1 a d;intro q;exact f (CC q j)
  ·have e:(s.of n i).low=s.low:=if_neg c;exact h.1 a (e.trans d)
 ·by_cases c:i<n.rows.length
  ·have e:(s.of n i).high=some (n.rows.getD i []):=if_pos c;have f:=h.2 _ e;have j:=(o (n.rows.getD i []) (by rw[cN c];exact Qn _)).2 a d;exact bp f j
  ·have e:(s.of n i).high=s.high:=if_neg c;exact h.2 a (e.trans d)
theorem sN {s:Span}{n:Nd}{i j:Nat}{a b:List Int}(d:s.holds n.rows=true)(e:i<j)(o:j<=n.rows.length)(f:(s.of n i).Has a)(h:(s.of n j).Has b):gO a b:=by
 have l:(s.of n i).high=some (n.rows.getD i []):=if_pos (by omega);have e2:(s.of n j).low=some (n.rows.getD (j - 1) []):=if_pos (by omega);have h1:=f.2 _ l;have c:=h.1 _ e2;have hr:=bP d;rcases Q6 i (j - 1) with q|q
 ·exact CC (bp h1 (dv hr q (by omega))) c
 ·have:j - 1=i:=by omega
  rw[this] at c;exact CC h1 c
theorem Gc {Ls:List (List (List Int))}(h1:∀i,i<Ls.length->dG (Ls.getD i []))(e:∀i j,i<j->j<Ls.length->∀a∈Ls.getD i [],∀b∈Ls.getD j [],gO a b):dG Ls.flatten:=by
 unfold dG;rw[X6];refine⟨λl f=>?_,?_⟩
 ·obtain⟨i,hi,rfl⟩:=Rz.1 f;have:=h1 i hi
  rwa [QM,Qg hi] at this
 ·rw[Ta];intro i j hi d c a h b o;refine e i j c d a ?_ b ?_
  ·rw[QM,Qg hi];exact h
  ·rw[QM,Qg d];exact o
theorem nq {α:Type}{Ls:List (List α)}{a:α}(h:a∈Ls.flatten):∃i,i<Ls.length/\a∈Ls.getD i []:=by
 obtain⟨l,c,d⟩:=TM.1 h;obtain⟨i,hi,rfl⟩:=Rz.1 c;exact⟨i,hi,by rw[QM,Qg hi];exact d⟩
theorem Tn.rows:∀{a ag:Nat} {s:Span} {L:List (List Int)} {P:List Nat},Tn x W depth a ag s L P->dG L/\∀l∈L,s.Has l/\l.length=W/\cO l
 |0,ag,s,L,P,⟨n,h1,c,o,h⟩=>by
   subst o;obtain⟨q,r⟩:=du.1 c.holds;exact⟨q,λl d=>⟨r l d,c.cols l d⟩⟩
 |a+1,ag,s,L,P,⟨n,Ls,Ps,h1,c,⟨y,z,C,t⟩,h,D⟩=>by
   subst h;have e:∀i,i<n.kids.length->_:=λi hi=>Tn.rows (t i hi);refine⟨Gc (λi hi=>(e i (by omega)).1) λi j f E a u b v=>?_,λl d=>?_⟩
   ·exact sN c.holds f (by omega) ((e i (by omega)).2 a u).1 ((e j (by omega)).2 b v).1
   ·obtain⟨i,hi,hm⟩:=nq d;have:=(e i (by omega)).2 l hm;exact⟨Hc c.holds (by omega) this.1,this.2⟩
theorem uR:∀{Ps:List (List Nat)} {Ls:List (List (List Int))} {m:Nat},Ps.length=Ls.length->(∀i,i<Ps.length->(Ps.getD i []).length+1<=2*(Ls.getD i []).length/\m<=(Ls.getD i []).length)->Ps.flatten.length+Ps.length<=2*Ls.flatten.length/\Ls.length*m<=Ls.flatten.length
 |[],[],m,_,_=>by simp
 |[],_::_,_,h,_=>by simp at h
 |_::_,[],_,h,_=>by simp at h
 |P::Ps,L::Ls,m,h,hk=>by
   have a:=hk 0 (by simp);have c:=uR (Ps:=Ps) (Ls:=Ls) (m:=m) (by simpa using h) λi hi=>by simpa using hk (i+1) (by simpa using hi)
   simp only[V6] at a;simp only[Ua,Qt,QJ,TN];omega
theorem Tn.Gh (hd:1<depth):∀{a ag:Nat} {s:Span} {L:List (List Int)} {P:List Nat},Tn x W depth a ag s L P->P.length+1<=2*L.length/\2^a<=L.length
 |0,ag,s,L,P,⟨n,h1,c,e,d⟩=>by
   subst e;subst d;have:=To.2 (c.some_ hd);simp;omega
 |a+1,ag,s,L,P,⟨n,Ls,Ps,h1,c,⟨j,l,o,f⟩,d,h⟩=>by
   subst d;subst h;have i2:=(c.inner (UW _)).2;obtain⟨q,r⟩:=uR (Ps:=Ps) (Ls:=Ls) (m:=2^a) (by omega) λi hi=>Tn.Gh hd (f i (by omega));have t:2*2^a<=Ls.length*2^a:=Ra _ (by omega);rw[QJ,Nat.pow_succ];omega
end
def pq (low:List Int)(strict:Bool)(r:List Int):Bool:=if strict then decide (aL low r<0) else !decide (aL r low<0)
theorem oU {low r:List Int}{strict:Bool}(h:gO r low):pq low strict r=false:=by
 unfold pq;cases strict with
 |true=>
   have:¬aL low r<0:=λq=>bQ r (bp h q);simpa using this
 | false => have : aL r low < 0 := h
            simp[this]
theorem sZ {low r:List Int}{strict:Bool}(h:gO low r):pq low strict r=true:=by
 unfold pq;cases strict with
 | true => have : aL low r < 0 := h
           simp[this]
 |false=>
   have:¬aL r low<0:=λq=>bQ r (bp q h);simpa using this
theorem head_drop {p:List Int->Bool}:∀{l:List (List Int)} {j:Nat},j<=l.length->(∀i,i<j->p (l.getD i [])=false)->(∀i,j<=i->i<l.length->p (l.getD i [])=true)->l.filter p=l.drop j
 |[],j,h,_,_=>by simp
 |a::l,0,_,_,d=>by
   have c:=d 0 (Qm _) (by simp);have e:=head_drop (p:=p) (l:=l) (j:=0) (QN _) (λi hi=>by omega) λi _ hi=>by simpa using d (i+1) (by omega) (by simpa using hi)
   simp only[V6] at c;rw[Su,c,if_pos rfl,e];rfl
 |a::l,j+1,h,f,d=>by
   have c:=f 0 (by omega);simp only[V6] at c;have e:=head_drop (p:=p) (l:=l) (j:=j) (by simpa using h) (λi hi=>by simpa using f (i+1) (by omega)) λi hi o=>by simpa using d (i+1) (by omega) (by simpa using o)
   rw[Su,c,if_neg (by simp),e];rfl
theorem C9 {rows:List (List Int)}{low:List Int}{strict:Bool}(h:jE rows=true):kT rows low strict=(rows.filter (pq low strict)).head?:=by
 have t:=jh low rows;have key:∀j:Nat,below low rows+(if sameAt rows low&&strict then 1 else 0)=j->rows.filter (pq low strict)=rows.drop j:=by
  intro j a;refine head_drop ?_ (λi hi=>?_) λi hi d=>?_
  ·cases hs:sameAt rows low with
   |false=>rw[hs] at a;simp at a;omega
   |true=>
     have:=(cS.1 hs).1;split at a<;>omega
  ·by_cases q:i<below low rows
   ·exact oU (nc q)
   ·cases hs:sameAt rows low with
    |false=>rw[hs] at a;simp at a;omega
    |true=>
      cases c:strict with
      |false=>rw[hs,c] at a;simp at a;omega
      |true=>
        rw[hs,c] at a;have f:i=below low rows:=by simp at a;omega
        rw[f,(cS.1 hs).2];unfold pq;have:¬aL low low<0:=bQ low;simpa using this
  ·have r:below low rows<=i:=by omega
   have h1:¬gO (rows.getD i []) low:=by
    intro q;rcases Q6 (below low rows) i with u|u
    ·have:=ta h low (below low rows) i (by omega) d q;exact mn (ll:=low) (ls:=rows) (by omega) this
    ·have:i=below low rows:=by omega
     rw[this] at q;exact mn (ll:=low) (ls:=rows) (by omega) q
   cases c:strict with
   |false=>
     unfold pq;have:¬aL (rows.getD i []) low<0:=h1;simpa using this
   |true=>
     refine sZ ?_;rcases iw low (rows.getD i []) with u|u|u
     ·exact u
     ·exfalso;cases hs:sameAt rows low with
      |true=>
        rw[hs,c] at a;have o:below low rows<i:=by simp at a;omega
        have:=dv h o d;rw[(cS.1 hs).2,<-u] at this;exact bQ low this
      |false=>
        rcases Q6 (below low rows) i with v|v
        ·have:=dv h v d;rw[<-u] at this;exact mn (ll:=low) (ls:=rows) (by omega) this
        ·have e:i=below low rows:=by omega
         have:=(cS (ls:=rows) (l:=low)).2 ⟨by omega,by rw[<-e];exact u.symm⟩;rw[this] at hs;cases hs
     ·exact absurd u h1
 unfold kT;rw[key _ rfl,List.head?_drop]
theorem yG {f:Nat->Nat×Option (Option (List Int))}{p:List Int->Bool}{Ls:List (List (List Int))}:∀(k i:Nat),i+k=Ls.length->(∀j,i<=j->j<Ls.length->(f j).2=some (((Ls.getD j []).filter p).head?))->(lY f i k).2=some (((Ls.drop i).flatten.filter p).head?)
 |0,i,h,_=>by
   unfold lY;rw[Rj (by omega)];rfl
 |k+1,i,h,d=>by
   have c:=d i (Qm _) (by omega);have e:Ls.drop i=Ls.getD i []::Ls.drop (i+1):=by
    rw[RG (by omega),QM,Qg (by omega)];rfl
   rw[e,Ua,RU,List.head?_append];by_cases a:(f i).2=some none
   ·rw[DM a,yG k (i+1) (by omega) λj q l=>d j (by omega) l];rw[c] at a;have:((Ls.getD i []).filter p).head?=none:=by simpa using a
    rw[this];rfl
   ·rw[C8 a,c];rw[c] at a;cases o:((Ls.getD i []).filter p).head? with
    |none=>rw[o] at a;exact absurd rfl a
    |some y=>rfl
theorem Tn.find {x:St}{W depth:Nat}{low:List Int}{strict:Bool}:∀{a ag:Nat} {s:Span} {L:List (List Int)} {P:List Nat},Tn x W depth a ag s L P->(x.find W depth low strict a ag s).2=some ((L.filter (pq low strict)).head?)
 |0,ag,s,L,P,⟨n,h1,d,o,f⟩=>by
   unfold St.find;rw[h1,o];show some (kT n.rows low strict)=_;rw[C9 (bP d.holds)]
 |a+1,ag,s,L,P,⟨n,Ls,Ps,h1,d,⟨D,E,G,h⟩,f,H⟩=>by
   unfold St.find;rw[h1];show (lY _ _ _).2=_;have I:=ko (n:=n) (l:=low);have hr:=bP d.holds;rw[yG (p:=pq low strict) (Ls:=Ls) (n.kids.length - n.child low) (n.child low) (by omega) λj J K=>Tn.find (h j (by omega)),f];have r:Ls.flatten=(Ls.take (n.child low)).flatten++(Ls.drop (n.child low)).flatten:=by rw[<-Vf,RP]
   rw[r,RU];have t:((Ls.take (n.child low)).flatten).filter (pq low strict)=[]:=by
    rw[List.filter_eq_nil_iff];intro y e;obtain⟨i,hi,hm⟩:=nq e;rw[Qw] at hi;have hm:y∈Ls.getD i []:=by
     rw[QM,Rb,if_pos (by omega)] at hm;exact hm
    have e:=((h i (by omega)).rows.2 y hm).1;have u:(s.of n i).high=some (n.rows.getD i []):=if_pos (by omega);have v:=e.2 _ u;have z:¬gO low (n.rows.getD i []):=by
     intro q;by_cases C:i<below low n.rows
     ·exact bQ low (bp q (nc C))
     ·have c:i<n.child low:=by omega
      unfold Nd.child at c;split at c
      ·rename_i hs;obtain⟨s1,s2⟩:=cS.1 hs;have:i=below low n.rows:=by omega
       rw[this,s2] at q;exact bQ low q
      ·omega
    rw[oU (CC v z)];simp
   rw[t];rfl
open Go.MapKept
theorem JQ (n k:Nat)(hk:k<=64):bm .i64 (n:Int) (k:Int)=((n/2^k:Nat):Int):=by
 unfold bm;have:min (k:Int).toNat Qe.bits=k:=by
  show min (k:Int).toNat 64=k;omega
 rw[this,Tt _ (Int.pow_nonneg (by decide)),Int.natCast_ediv,Xr];rfl
theorem Oz {k r b:Nat}(d:b<2^k)(h:2^k*r+b<9223372036854775808):nL .i64 ((2^k*r:Nat):Int) (b:Int)=((2^k*r+b:Nat):Int):=by
 unfold nL;have c:=Nat.two_pow_add_eq_or_of_lt (i:=k) (b:=b) d r;have a:Qe.bits=64:=rfl;have e:(R9 Qe.bits ((2^k*r:Nat):Int)|||R9 Qe.bits ((b:Nat):Int)).toNat=2^k*r+b:=by
  rw[Th,Th,BitVec.toNat_or,Ss,Ss,a,Um (by omega),Um (by omega)];exact c.symm
 rw[e];exact wrap64 (by omega) (by omega)
theorem Jc {x k:Nat}(hk:k<=24)(d:x<256):eZ .i64 (Qe.wrap (x:Int)) (k:Int)=((2^k*x:Nat):Int):=by
 unfold eZ;have:min (k:Int).toNat Qe.bits=k:=by
  show min (k:Int).toNat 64=k;omega
 have a:2^k<=2^24:=Nat.pow_le_pow_right (by decide) hk;have hm:2^k*x<=2^24*255:=Uj a (by omega);have c:((x:Int)*2^k)=((2^k*x:Nat):Int):=by rw[Int.natCast_mul,Xr,Int.mul_comm];rfl
 rw[this,wrap64 (x:=(x:Int)) (by omega) (by omega),c];exact wrap64 (by omega) (by omega)
theorem FE {a b c d:Nat}(j:a<256)(l:b<256)(o:c<256)(hd:d<256):
  nL .i64 (nL .i64 (nL .i64 (eZ .i64 (Qe.wrap (a:Int)) 24) (eZ .i64 (Qe.wrap (b:Int)) 16)) (eZ .i64 (Qe.wrap (c:Int)) 8)) (Qe.wrap (d:Int))=((((a*256+b)*256+c)*256+d:Nat):Int):=by
 have s1:=Jc (k:=24) (by decide) j;have s2:=Jc (k:=16) (by decide) l;have i:=Jc (k:=8) (by decide) o;have q:Qe.wrap (d:Int)=(d:Int):=wrap64 (by omega) (by omega);have e:(2:Nat)^24=16777216:=by decide
 have f:(2:Nat)^16=65536:=by decide
 have h:(2:Nat)^8=256:=by decide
 rw[e] at s1;rw[f] at s2;rw[h] at i;rw[show ((24:Int))=((24:Nat):Int) from rfl,show ((16:Int))=((16:Nat):Int) from rfl,show ((8:Int))=((8:Nat):Int) from rfl,s1,s2,i,q];have o1:=Oz (k:=24) (r:=a) (b:=65536*b) (by rw[e];omega) (by rw[e];omega);rw[e] at o1;rw[o1];have o2:=Oz (k:=16) (r:=256*a+b) (b:=256*c) (by rw[f];omega) (by rw[f];omega);rw[f] at o2;rw[show (16777216*a+65536*b:Nat)=65536*(256*a+b) by omega,o2];have o3:=Oz (k:=8) (r:=65536*a+256*b+c) (b:=d) (by rw[h];omega) (by rw[h];omega);rw[h] at o3;rw[show (65536*(256*a+b)+256*c:Nat)=256*(65536*a+256*b+c) by omega,o3];congr 1;omega
theorem Jz {a b:Nat}(d:a<256)(e:b<256):nL .i64 (eZ .i64 (Qe.wrap (a:Int)) 8) (Qe.wrap (b:Int))=((a*256+b:Nat):Int):=by
 have c:(2:Nat)^8=256:=by decide
 have s1:=Jc (k:=8) (by decide) d;rw[c] at s1;have o3:=Oz (k:=8) (r:=a) (b:=b) (by rw[c];omega) (by rw[c];omega);rw[c] at o3;rw[show ((8:Int))=((8:Nat):Int) from rfl,s1,wrap64 (x:=(b:Int)) (by omega) (by omega),o3];congr 1;omega
theorem EE (b:List UInt8)(i:Nat):(fm b).getD i 0=((b.getD i 0).toNat:Int):=by
 unfold fm;simp only[QM,QC];cases b[i]?<;>rfl
theorem Ch {sl:Sl}{b:List UInt8}{H:aa}{K:Int->aa->Prop}(h:dA H sl b)(i:4<=b.length)(a:K (Le b:Int) H):LF.sp sl H K:=by
 refine LF.of ?_;unfold LF.vc;have hu:(fm b).length=b.length:=fT b;refine bM h (j:=0) rfl (by omega) λc a0=>?_;refine bM h (j:=1) rfl (by omega) λd l=>?_;refine bM h (j:=2) rfl (by omega) λe a2=>?_;refine bM h (j:=3) rfl (by omega) λf a3=>?_;rw[EE,EE,EE,EE,FE (UX _) (UX _) (UX _) (UX _)];exact a
theorem qi {n:Nat}{H:aa}{K:Sl->aa->Prop}(f:∀p H',dA H' ⟨some p,4,4⟩ (vC n)->Ext H H'->p.block=H.size->K ⟨some p,4,4⟩ H'):IC.sp (n:Int) H K:=by
 refine IC.of ?_;unfold IC.vc;have c:bm .i64 (n:Int) 24=((n/16777216:Nat):Int):=JQ n 24 (by decide);have d:bm .i64 (n:Int) 16=((n/65536:Nat):Int):=JQ n 16 (by decide);have h:bm .i64 (n:Int) 8=((n/256:Nat):Int):=JQ n 8 (by decide);rw[c,d,h,lN,lN,lN,lN];have i:#[Ql .u8 ((Qx (n/16777216)).toNat:Int),Ql .u8 ((Qx (n/65536)).toNat:Int),Ql .u8 ((Qx (n/256)).toNat:Int),Ql .u8 ((Qx n).toNat:Int)]=((fm (vC n)).map (Ql .u8)).toArray:=rfl;rw[i];exact kC _ λp H' z q a e=>f p H' (a 4) e q
structure Tr where
 name:ByteArray
 width:Int
 root:Int
 depth:Int
 count:Int
 wrong:Int
 gone:Bool
def mS (p:Nat)(t:Tr):List Value:=[.pointer (av p),.string t.name,.int .i64 t.width,.int .i64 t.root,.int .i64 t.depth,.int .i64 t.count,.int .i64 t.wrong,.bool t.gone]
abbrev aV (H:aa)(k p:Nat)(t:Tr):Prop:=ab H k OR (mS p t).toArray
section
variable {H:aa}{k p dp:Nat}{t:Tr}{F:Nat->Prop}{s:Pl}{n:ByteArray}{q:Nat}{I:Pl->St->Nat->Prop}{B C:Pl->Int->Prop}{x:St}{m:Nat}
set_option maxHeartbeats 1000000 in
theorem Dv {g:Int}{K:(Int×Sl×Int)->aa->Prop}(O:Gl H)(h:aV H k p t)(P:ax F H p dp s)(hk:¬F k)(o:0<=g/\g<=9223372036854775807)
  (T:t.name.size<=9223372036854775807) (u:s.d.bt<68719470000) (v:s.next<1099511627776) (V:0<=s.next)
  (a:∀F' H' sl,ax F' H' p dp (s.look t.name g).1->Step F F' H H'->dm EB kJ H' sl (s.look t.name g).2.2.1->(∀q,al sl q->H.size<=q/\¬F' q)->K (((s.look t.name g).2.1.toNat:Int),sl,(s.look t.name g).2.2.2) H'):Ks.sp (av k) g H K:=by
 have X:=aI h;refine Ks.of ?_;unfold Ks.vc;simp only[aw,av];refine ab.ld (c:=aq) (i:=0) (x:=av p) h rfl ?_;refine ab.ld (c:=dN) (i:=1) (x:=t.name) h rfl ?_;refine Bv O P T (by omega) o.2 (by omega) (by omega) λy H1 p1 j=>?_;have z:Gl H1:=O.mod j.mod P.eV;have h1:aV H1 k p t:=h.mod j.mod hk;have R:(s.cK t.name g).1.next<=s.next+1:=s.ua V v
 unfold Pl.look at a;generalize Y:(s.cK t.name g).1=s1 at*;generalize hr:(s.cK t.name g).2.1=hd at*;generalize he:(s.cK t.name g).2.2=e at*;refine ao (λD=>?_) (λD=>?_)
 ·have E:e≠0:=by simpa using D
  rw[if_pos E] at a;exact a y H1 _ p1 j (dm.nil _ _ _) (λq ⟨ad,Z,_⟩=>by cases Z)
 ·have E:¬e≠0:=by simpa using D
  rw[if_neg E] at a;refine ab.ld (c:=aq) (i:=0) (x:=av p) h1 rfl ?_;refine MZ p1 λsl l o2 e2 f2=>?_;have p2:=p1.ext e2;have G:Gl l:=z.mod e2 id;have h2:aV l k p t:=h1.ext e2;have S:Step F y H l:=j.trans ⟨e2.mod,λb hb=>.inl hb⟩;have ae:=j.mod.size;generalize af:s1.get hd=r at*;refine ao (λd=>?_) (λd=>?_)
  ·have J:¬r.2.2≠0:=by simpa using d
   rw[if_neg J] at a;refine ab.ld (c:=aq) (i:=0) (x:=av p) h2 rfl ?_;refine uf G p2 (by omega) λF3 H3 p3 L=>?_;have N:=o2.lt;refine a F3 H3 sl p3 (S.trans L) (o2.aE λq f hl=>L.mod.same q hl λr=>by have:=p1.lt q r;have:=f2 q f;omega) (λq f=>?_);have q1:=f2 q f;refine⟨by omega,λr=>?_⟩;rcases L.own q r with r|r
   ·have:=p1.lt q r;omega
   ·have:=N q f;omega
  ·have J:r.2.2≠0:=by simpa using d
   rw[if_pos J] at a;refine a y l sl p2 S o2 (λq f=>?_);have q1:=f2 q f;exact⟨by omega,λr=>by have:=p1.lt q r;omega⟩
theorem HN {g:Nat}{K:(Int×Sl×Int)->aa->Prop}(S:jQ t.name q I B C)(i:I s x m)(hm:m<30000000000)(r:Gl H)(h:aV H k p t)(u:ax F H p dp s)(hk:¬F k)(y:g<=1000000000000)
  (j:g<x.N->∀F' H' s' sl,ax F' H' p dp s'->Step F F' H H'->I s' x (m+1)->dm EB kJ H' sl (x.T g).2->(∀q,al sl q->H.size<=q/\¬F' q)->K (((x.T g).1.toNat:Int),sl,0) H')
  (l:x.N<=g->∀F' H' s' v sl,ax F' H' p dp s'->Step F F' H H'->I s' x (m+1)->K (v,sl,12) H')
  (d:∀F' H' s' v sl e,ax F' H' p dp s'->Step F F' H H'->C s' e->K (v,sl,e) H'):Ks.sp (av k) (g:Int) H K:=by
 obtain⟨z,b2,D,E,G,J⟩:=S.pre i;refine Dv r h u hk (by omega) S.name (by omega) (by omega) b2 λF' H' sl p1 f o1 f1=>?_;rcases Q6 g x.N with a|a
 ·rcases S.look i hm a with ⟨e,c⟩|o
  ·rw[e] at o1 ⊢;exact j a F' H' _ sl p1 f c o1 f1
  ·exact d F' H' _ _ sl _ p1 f o
 ·rcases S.Oq i hm a with ⟨e,c⟩|o
  ·rw[e];exact l a F' H' _ _ sl p1 f c
  ·exact d F' H' _ _ sl _ p1 f o
end
theorem O2 {i j:Nat}(h:i+j<4611686018427387904):Qe.wrap (bm .u64 (Q0.wrap (Qe.wrap ((i:Int)+(j:Int)))) 1)=(((i+j)/2:Nat):Int):=by
 have a:Qe.wrap ((i:Int)+(j:Int))=((i+j:Nat):Int):=by rw[wrap64 (by omega) (by omega)];omega
 have e2:Q0.wrap ((i+j:Nat):Int)=((i+j:Nat):Int):=by rw[Ve];omega
 rw[a,e2];have c:bm .u64 ((i+j:Nat):Int) 1=(((i+j)/2:Nat):Int):=by
  unfold bm;rw[show (min (1:Int).toNat Q0.bits)=1 from rfl,Tt _ (by decide)];rfl
 rw[c,wrap64 (by omega) (by omega)]
def iL (F:Nat->Prop)(H:aa)(s:Sl):Prop:=∀ad,s.a=some ad->ad.block<H.size/\¬F ad.block
theorem iL.step {F F':Nat->Prop}{H H':aa}{s:Sl}(h:iL F H s)(S:Step F F' H H'):iL F' H' s:=λad a=>by
 obtain⟨h1,c⟩:=h ad a;refine⟨QP h1 S.mod.size,λq=>?_⟩;rcases S.own _ q with r|r
 ·exact c r
 ·omega
theorem Step.bX {F:Nat->Prop}{H H':aa}(e:Ext H H'):Step F F H H':=⟨e.mod,λ_ h=>.inl h⟩
theorem Step.with {F F':Nat->Prop}{H H':aa}(S:Step F F' H H')(nb:Nat):Step (λb=>F b\/b=nb) (λb=>F' b\/b=nb) H H':=
 ⟨S.mod.mono λ_ _ h=>.inl h,λb a=>by
  rcases a with q|q
  ·exact(S.own b q).imp .inl id
  ·exact .inl (.inr q)⟩
theorem iL.ints {F F':Nat->Prop}{H H':aa}{s:Sl}{k:IntKind}{l:List Int}(h:iL F H s)(hi:Ints k H s l)(S:Step F F' H H'):Ints k H' s l:=hi.mod S.mod λad a=>(h ad a).2
theorem iL.mono {F G:Nat->Prop}{H:aa}{s:Sl}(h:iL F H s)(hs:∀b,b<H.size->G b->F b):iL G H s:=λad a=>⟨(h ad a).1,λq=>(h ad a).2 (hs _ (h ad a).1 q)⟩
def uv (F:Nat->Prop)(H:aa)(s:Sl)(l:List Int):Prop:=l≠[]->iL F H s
theorem iL.O7 {F:Nat->Prop}{H:aa}{s:Sl}(h:iL F H s)(l:List Int):uv F H s l:=λ_=>h
theorem uv.step {F F':Nat->Prop}{H H':aa}{s:Sl}{l:List Int}(h:uv F H s l)(S:Step F F' H H'):uv F' H' s l:=λu=>(h u).step S
theorem uv.ints {F F':Nat->Prop}{H H':aa}{s:Sl}{k:IntKind}{l:List Int}(h:uv F H s l)(hi:Ints k H s l)(S:Step F F' H H'):Ints k H' s l:=by
 by_cases e:l=[]
 ·subst e;exact⟨hi.len,Reads.nil _ _⟩
 ·exact(h e).ints hi S
structure dC (F:Nat->Prop)(H:aa)(s:Sl)(ls:List (List Int)):Prop where
 len:s.n=ls.length
 off:iL F H s
 at':∀i (h:i<ls.length),∃ad r,s.a=some ad/\cg H (ad.add i)=some (Sl.v r)/\iL F H r/\Ints .u64 H r ls[i]
theorem dC.step {F F':Nat->Prop}{H H':aa}{s:Sl}{ls:List (List Int)}(h:dC F H s ls)(S:Step F F' H H'):dC F' H' s ls:=⟨h.len,h.off.step S,λi hi=>by
 obtain⟨ad,r,a,d,c,e⟩:=h.at' i hi;exact⟨ad,r,a,S.mod.cell d (by rw[cj];exact(h.off ad a).2),c.step S,c.ints e S⟩⟩
theorem dC.mono {F G:Nat->Prop}{H:aa}{s:Sl}{ls:List (List Int)}(h:dC F H s ls)(hs:∀b,b<H.size->G b->F b):dC G H s ls:=⟨h.len,h.off.mono hs,λi hi=>by
 obtain⟨ad,r,a,c,d,e⟩:=h.at' i hi;exact⟨ad,r,a,c,d.mono hs,e⟩⟩
theorem aZ.NA {F:Nat->Prop}{H:aa}{base:Nat}{s:Sl}{rs:List Sl}{ls:List (List Int)}(h:aZ H base s rs ls)(f:∀b,base<=b->¬F b):dC F H s ls:=by
 obtain⟨j,b2⟩:=h.block;refine⟨h.n,λad c=>?_,λi hi=>?_⟩
 ·have:=j _ ⟨ad,c,rfl⟩;exact⟨this.2,f _ this.1⟩
 ·have a:i<rs.length:=by rw[h.len];exact hi
  obtain⟨ad,c,l⟩:=h.out.reads.at (i:=i) (by simpa using a);exact⟨ad,rs[i],c,by simpa using l,λd e=>by
   have:=b2 _ (Qn a) _ ⟨d,e,rfl⟩;exact⟨this.2,f _ this.1⟩,(h.row i _ _ (Qg a) (Qg hi)).ints⟩
theorem dC.ld {F:Nat->Prop}{H:aa}{s:Sl}{ls:List (List Int)}(h:dC F H s ls){i:Nat}(hi:i<ls.length){K:Addr->Sl->Prop}(c:∀ad r,s.a=some ad->iL F H r->Ints .u64 H r (ls.getD i [])->K ad r):
  ah s.a λa=>(0<=(i:Int)/\(i:Int)<(s.n:Int))/\ld au H (a.add ((i:Int).toNat*1)) λx=>K a x:=by
 obtain⟨ad,r,e,d,f,hr⟩:=h.at' i hi;rw[cN hi] at c;refine aY ad e ⟨⟨by omega,by rw[h.len];omega⟩,r,?_,c ad r e f hr⟩;simp only[QD,Q9];exact d
theorem dC.Pk {F:Nat->Prop}{H A:aa}{s:Sl}{ls:List (List Int)}(h:dC F H s ls)(f:Ext H A){i:Nat}(hi:i<ls.length){K:Addr->Sl->Prop}(c:∀ad r,s.a=some ad->cg H (ad.add i)=some (Sl.v r)->iL F H r->Ints .u64 H r (ls.getD i [])->K ad r):
  ah s.a λa=>(0<=(i:Int)/\(i:Int)<(s.n:Int))/\Go.Proofs.YtkehfflpbpdokaaGreatDoor.ld au A (a.add ((i:Int).toNat*1)) λx=>K a x:=by
 obtain⟨ad,r,e,d,j,hr⟩:=h.at' i hi;rw[cN hi] at c;refine aY ad e ⟨⟨by omega,by rw[h.len];omega⟩,r,?_,c ad r e d j hr⟩;simp only[QD,Q9];exact f.cell d id
def lZ (F:Nat->Prop)(H:aa)(a:Sl)(o:Option (List Int)):Prop:=match o with|none=>a.a=none|some l=>a.a≠none/\iL F H a/\Ints .u64 H a l
structure fY (F:Nat->Prop)(H:aa)(a b:Sl)(sp:Span):Prop where
 low:lZ F H a sp.low
 high:lZ F H b sp.high
theorem lZ.step {F F':Nat->Prop}{H H':aa}{a:Sl}{o:Option (List Int)}(h:lZ F H a o)(S:Step F F' H H'):lZ F' H' a o:=by
 unfold lZ at h ⊢;cases o with
 |none=>exact h
 |some l=>exact⟨h.1,h.2.1.step S,h.2.1.ints h.2.2 S⟩
theorem fY.step {F F':Nat->Prop}{H H':aa}{a b:Sl}{sp:Span}(h:fY F H a b sp)(S:Step F F' H H'):fY F' H' a b sp:=⟨h.low.step S,h.high.step S⟩
section
variable {F:Nat->Prop}{H:aa}{a b sl:Sl}{sp:Span}{ls:List (List Int)}
theorem HL {pb:Nat}{t:TypeId}{K:Bool->aa->Prop}(u:ab H pb t #[a.v,b.v]) (d:lZ F H b sp.high) (hr:dC F H sl ls) (y:∀l∈ls,l.length<=16) (E:0<ls.length) (G:ls.length<=1000000) (e:K (sp.lt (ls.getD (ls.length - 1) [])) H):
  ld au H (QS ⟨pb,0,none⟩ 1) λ(f:Sl)=>br f.a.isNone (K true H) (ah sl.a λh=>(0<=(Qe.wrap ((sl.n:Int) - (1:Int)))/\(Qe.wrap ((sl.n:Int) - (1:Int)))<(sl.n:Int))/\ld au H (h.add ((Qe.wrap ((sl.n:Int) - (1:Int))).toNat*1)) λ(j:Sl)=>ld au H (QS ⟨pb,0,none⟩ 1) λ(o:Sl)=>tN.sp j o H λ(r:Int) z=>K (decide (r<(0:Int))) z):=by
 refine ab.ld (c:=au) (i:=1) (x:=b) u rfl ?_;unfold lZ at d;unfold Span.lt at e;cases v:sp.high with
 |none=>
   rw[v] at d e;exact aT (by rw[d];rfl) e
 |some l=>
   rw[v] at d e;refine az (by cases q:b.a with|none=>exact absurd q d.1|some _=>rfl) ?_;have D:Qe.wrap ((sl.n:Int) - 1)=((ls.length - 1:Nat):Int):=by rw[hr.len,wrap64 (by omega) (by omega)];omega
   rw[D];refine hr.ld (by omega) λad x J L hi=>?_;refine ab.ld (c:=au) (i:=1) (x:=b) u rfl ?_;have hlen:(ls.getD (ls.length - 1) []).length<=16:=by rw[cN (by omega)];exact y _ (Qn _)
   exact dK hi d.2.2 (by omega) e
theorem DF {K:Bool->aa->Prop}(hs:fY F H a b sp)(hr:dC F H sl ls)(O:∀l∈ls,l.length<=16)(V:ls.length<=1000000)(e:∀H',Ext H H'->K (sp.holds ls) H'):Lx.sp a b sl H K:=by
 refine Lx.of ?_;unfold Lx.vc;refine aj λH1 z1 N P=>?_;have u:=hs.step (.bX P);have h:=hr.step (.bX P);have r:∀i,i<ls.length->(ls.getD i []).length<=16:=λi hi=>by rw[cN hi];exact O _ (Qn _)
 have Y:=hr.len;unfold Span.holds at e;have e:=e H1 P;refine ay ls.length (λm z A=>A=H1/\z=((m+1:Nat):Int)/\∀j,j+1<=m->j+1<ls.length->aL (ls.getD j []) (ls.getD (j+1) [])<0) ⟨rfl,rfl,λj Z=>by omega⟩ ?_;rintro m z A next hm ⟨rfl,rfl,E⟩ v
 refine ao (λy=>?_) (λy=>?_)
 ·have G:m+1<ls.length:=by
   have:((m+1:Nat):Int)<(sl.n:Int):=by simpa using y
   omega
  have e2:Qe.wrap (((m+1:Nat):Int) - 1)=(m:Int):=by rw[wrap64 (by omega) (by omega)];omega
  rw[e2];refine h.ld (by omega) λad x ha ho hi=>?_;refine h.ld G λae x2 af a1 R=>?_;refine dK hi R (by have:=r m (by omega);omega) ?_;refine ao (λf=>?_) (λf=>?_)
  ·have S:aL (ls.getD m []) (ls.getD (m+1) [])>=0:=by simpa using f
   have hf:jE ls=false:=by
    cases q:jE ls with
    |false=>rfl
    |true=>have:=nD.1 q m G;omega
   rw[hf] at e;exact e
  ·have J:aL (ls.getD m []) (ls.getD (m+1) [])<0:=by
    have:¬aL (ls.getD m []) (ls.getD (m+1) [])>=0:=by simpa using f
    omega
   refine v (by omega) _ _ ⟨rfl,by rw[aH _ (by omega)],λj Z T=>?_⟩;rcases Q6 (j+1) (m+1) with q|q
   ·exact E j (by omega) T
   ·rw[show j=m by omega];exact J
 ·have S:¬m+1<ls.length:=by
   have:¬((m+1:Nat):Int)<(sl.n:Int):=by simpa using y
   omega
  have ht:jE ls=true:=nD.2 λi hi=>E i (by omega) hi;rw[ht,TY] at e;refine ao (λf=>?_) (λf=>?_)
  ·have e0:ls=[]:=QW (by
    have:(sl.n:Int)=0:=by simpa using f
    omega)
   subst e0;exact e
  ·have L:0<ls.length:=by
    have:¬(sl.n:Int)=0:=by simpa using f
    omega
   have he:ls.isEmpty=false:=by cases ls with|nil=>simp at L|cons _ _=>rfl
   rw[he,VC] at e;refine ab.ld (c:=au) (i:=0) (x:=a) N rfl ?_;have d:=u.low;unfold lZ at d;unfold Span.ge at e;cases X:sp.low with
   |none=>
     rw[X] at d e;refine aT (by rw[d];rfl) ?_;exact HL N u.high h O L V e
   |some l=>
     rw[X] at d e;refine az (by cases q:a.a with|none=>exact absurd q d.1|some _=>rfl) ?_;refine h.ld (i:=0) L λad x ha ho hi=>?_;refine ab.ld (c:=au) (i:=0) (x:=a) N rfl ?_;refine dK hi d.2.2 (by have:=r 0 L;omega) ?_;refine ao (λD=>?_) (λD=>?_)
     ·have o:aL (ls.getD 0 []) l>=0:=by simpa using D
      simp only[o,decide_true,TY] at e;exact HL N u.high h O L V e
     ·have o:¬aL (ls.getD 0 []) l>=0:=by simpa using D
      simp only[o,decide_false,XW] at e;exact e
structure dn (F:Nat->Prop)(H:aa)(nb:Nat)(ag:Int)(sk sr:Sl)(n:Nd):Prop where
 row:ab H nb rq #[.int .i64 ag,sk.v,sr.v]
 off:¬F nb
 kids:Ints .i64 H sk (n.kids.map Td)
 kidsO:iL (λb=>F b\/b=nb) H sk
 rows:dC (λb=>F b\/b=nb) H sr n.rows
theorem dn.step {F F':Nat->Prop}{H H':aa}{nb:Nat}{ag:Int}{sk sr:Sl}{n:Nd}(h:dn F H nb ag sk sr n)(S:Step F F' H H'):dn F' H' nb ag sk sr n:=
 ⟨h.row.mod S.mod h.off,λq=>(S.own _ q).elim h.off λr=>by have:=aI h.row;omega,h.kidsO.ints h.kids (S.with nb),h.kidsO.step (S.with nb),h.rows.step (S.with nb)⟩
theorem J0:zc Qf AP=#[.slice none 0 0,.slice none 0 0]:=by kernel_rfl
theorem DH:oW Qf AP 2=true:=by kernel_rfl
set_option maxHeartbeats 1000000 in
theorem Gw {nb:Nat}{ag:Int}{sk sr:Sl}{n:Nd}{i:Nat}{K:Sl×Sl->aa->Prop}(hs:fY F H a b sp)(u:dn F H nb ag sk sr n)(v:∀j,j<n.rows.length->∀ad r,sr.a=some ad->cg H (ad.add j)=some (Sl.v r)->r.a≠none)(hi:i<=n.rows.length)(P:n.rows.length<=1000000)
  (X:∀x y H',Ext H H'->fY F H' x y (sp.of n i)->K (x,y) H'):Ke.sp a b (av nb) (i:Int) H K:=by
 refine Ke.of ?_;unfold Ke.vc;rw[J0];refine aj λH1 z1 Y Z=>?_;refine aj λH2 z2 r2 e2=>?_;simp only[aw,av];have e:=Z.trans e2;have n2:=u.row.ext e;have z:=Y.ext e2;have ae:H.size≠H1.size:=by omega
 refine⟨λ_ A=>∃x,ab A H.size AP #[x.v,b.v]/\Mod (λq=>q=H.size) H2 A/\lZ F H x (sp.of n i).low,?_,?_⟩
 ·refine ao (λf=>?_) (λf=>?_)
  ·have d:0<i:=by
    have:(i:Int)>0:=by simpa using f
    omega
   refine ab.ld (c:=au) (i:=2) (x:=sr) n2 rfl ?_;have e3:Qe.wrap ((i:Int) - 1)=((i - 1:Nat):Int):=by rw[wrap64 (by omega) (by omega)];omega
   rw[e3];refine u.rows.Pk e (by omega) λad x D hx E h=>?_;refine ab.st z (i:=0) (by simp) rfl λH4 G m4 z4=>?_;refine⟨x,G,m4,?_⟩;have el:(sp.of n i).low=some (n.rows.getD (i - 1) []):=if_pos d;rw[el];exact⟨v _ (by omega) _ _ D hx,E.mono λ_ _ q=>.inl q,h⟩
  ·have d:¬0<i:=by
    have:¬(i:Int)>0:=by simpa using f
    omega
   refine⟨a,z,.refl _ _,?_⟩;have el:(sp.of n i).low=sp.low:=if_neg d;rw[el];exact hs.low
 ·rintro _ J ⟨x,R,m3,l3⟩;have l:Ext H J:=((Ext.mod (F:=λq=>q=H.size) e).trans m3).ext λq S=>by omega
  have T:=u.row.ext l;have L:ab J H1.size AP #[.slice none 0 0,.slice none 0 0]:=r2.mod m3 (by omega);refine⟨λ_ A=>∃y,ab A H.size AP #[x.v,y.v]/\Mod (λq=>q=H.size) J A/\lZ F H y (sp.of n i).high,?_,?_⟩
  ·refine ab.ld (c:=au) (i:=2) (x:=sr) T rfl ?_;have af:=u.rows.len;refine ao (λf=>?_) (λf=>?_)
   ·have d:i<n.rows.length:=by
     have:(i:Int)<(sr.n:Int):=by simpa using f
     omega
    refine ab.ld (c:=au) (i:=2) (x:=sr) T rfl ?_;refine u.rows.Pk l d λad y D hy E h=>?_;refine ab.st R (i:=1) (by simp) rfl λH4 G m4 z4=>?_;refine⟨y,G,m4,?_⟩;have el:(sp.of n i).high=some (n.rows.getD i []):=if_pos d;rw[el];exact⟨v _ d _ _ D hy,E.mono λ_ _ q=>.inl q,h⟩
   ·have d:¬i<n.rows.length:=by
     have:¬(i:Int)<(sr.n:Int):=by simpa using f
     omega
    refine⟨b,R,.refl _ _,?_⟩;have el:(sp.of n i).high=sp.high:=if_neg d;rw[el];exact hs.high
  ·rintro _ H5 ⟨y,r5,m5,l5⟩;have N:Ext H H5:=((Ext.mod (F:=λq=>q=H.size) l).trans m5).ext λq S=>by omega
   have O:=L.mod m5 (by omega);refine ab.kN (c:=iD [au,au]) (x:=(x,y)) r5 rfl rfl ?_;refine ab.zV O DH rfl (by simp[Value.oneCell',Sl.v]) λV r7 m7 z7=>?_;have o:Ext H V:=((Ext.mod (F:=λq=>q=H1.size) N).trans m7).ext λq S=>by omega
   refine ab.kN (c:=iD [au,au]) (x:=(x,y)) r7 rfl rfl ?_;exact X x y V o ⟨l3.step (.bX o),l5.step (.bX o)⟩
theorem x9 {low:Sl}{ll:List Int}{K:(Int×Bool)->aa->Prop}(h:dC F H sl ls)(P:Ints .u64 H low ll)(hd:jE ls=true)(R:∀l∈ls,l.length<=16)(hn:ls.length<=1000000)
  (N:K ((below ll ls:Int),sameAt ls ll) H):Io.sp sl low H K:=by
 refine Io.of ?_;unfold Io.vc;have hd:=ta hd ll;refine ay ls.length (λm z A=>A=H/\∃i j:Nat,z=((i:Int),(j:Int))/\i<=j/\j<=ls.length/\j - i+m<=ls.length/\(∀x,x<i->aL (ls.getD x []) ll<0)/\∀x,j<=x->x<ls.length->¬aL (ls.getD x []) ll<0) ?_ ?_
 ·refine⟨rfl,0,ls.length,?_,QN _,Qm _,by omega,λx v=>by omega,λx h1 S=>by omega⟩;rw[h.len];rfl
 rintro m _ A next hm ⟨rfl,i,j,rfl,T,D,V,E,G⟩ f
 refine ao (λu=>?_) (λu=>?_)
 ·have X:i<j:=by
   have:(i:Int)<(j:Int):=by simpa using u
   omega
  have J:=O2 (i:=i) (j:=j) (by omega);simp only;rw[J];have r:(i+j)/2<ls.length:=by omega
  refine h.ld r λad x Y _ v=>?_;have o:=R _ (Qn r);rw[<-cN r] at o;refine dK v P (by omega) ?_;refine ao (λc=>?_) (λc=>?_)
  ·have e:aL (ls.getD ((i+j)/2) []) ll<0:=by simpa using c
   refine f (by omega) _ _ ⟨rfl,(i+j)/2+1,j,?_,by omega,D,by omega,λy hy=>hd y ((i+j)/2) (by omega) r e,G⟩;rw[aH _ (by omega)]
  ·have e:¬aL (ls.getD ((i+j)/2) []) ll<0:=by simpa using c
   exact f (by omega) _ _ ⟨rfl,i,(i+j)/2,rfl,by omega,by omega,by omega,E,λy h1 S q=>e (hd ((i+j)/2) y h1 S q)⟩
 ·have Z:¬i<j:=by
   have:¬(i:Int)<(j:Int):=by simpa using u
   omega
  have O:i=j:=by omega
  subst O;have L:below ll ls=i:=Cp D E λv=>G i (Qm _) v;refine ao (λc=>?_) (λc=>?_)
  ·have d:i<ls.length:=by
    have:(i:Int)<(sl.n:Int):=by simpa using c
    rw[h.len] at this;omega
   refine h.ld d λad x Y _ v=>?_;have o:=R _ (Qn d);rw[<-cN d] at o;refine dK v P (by omega) ?_;have es:sameAt ls ll=(aL (ls.getD i []) ll==0):=by
    unfold sameAt;rw[L,UC];simp[d,dM]
   rw[<-es,<-L];exact N
  ·have d:¬i<ls.length:=by
    have:¬(i:Int)<(sl.n:Int):=by simpa using c
    rw[h.len] at this;omega
   have es:sameAt ls ll=false:=by
    unfold sameAt;rw[L];simp[d]
   rw[es,L] at N;exact N
theorem wj {nb:Nat}{ag:Int}{sk sr low:Sl}{n:Nd}{ll:List Int}{K:Int->aa->Prop}(f:dn F H nb ag sk sr n)(h:Ints .u64 H low ll)(hd:jE n.rows=true)(j:∀l∈n.rows,l.length<=16)(d:n.rows.length<=1000000)
  (e:K (n.child ll:Int) H):KH.sp (av nb) low H K:=by
 refine KH.of ?_;unfold KH.vc;simp only[aw,av];refine ab.ld (c:=au) (i:=2) (x:=sr) f.row rfl ?_;refine x9 f.rows h hd j d ?_;unfold Nd.child at e;have:=jh ll n.rows;cases hs:sameAt n.rows ll with
 |true=>
   rw[hs,if_pos rfl] at e;refine aT rfl ?_;rw[aH _ (by omega)];exact e
 |false=>
   rw[hs,if_neg (by simp)] at e;exact az rfl e
end
structure gS (F:Nat->Prop)(H:aa)(base nb:Nat)(ag:Int)(sk sr:Sl)(rs:List Sl)(n:Nd):Prop where
 row:ab H nb rq #[.int .i64 ag,sk.v,sr.v]
 kids:aA H 0 bT 1 sk ((n.kids.map Td).map (Ql .i64))
 rows:aZ H 0 sr rs n.rows
 nn:∀x∈rs,x.a≠none
 nb:base<=nb/\¬F nb
 sk:∀b,al sk b->base<=b/\¬F b
 sr:∀b,al sr b->base<=b/\¬F b
 rs:∀x∈rs,∀b,al x b->base<=b/\¬F b
section
variable {F:Nat->Prop}{H:aa}{base nb:Nat}{ag:Int}{sk sr:Sl}{rs:List Sl}{n:Nd}
theorem gS.OI (h:gS F H base nb ag sk sr rs n):¬al sk nb:=λq=>by
 obtain⟨cur,c⟩:=h.kids.obj _ q;exact absurd (aR c h.row) (by decide)
theorem gS.O3 (h:gS F H base nb ag sk sr rs n):¬al sr nb:=λq=>by
 obtain⟨cur,c⟩:=h.rows.out.obj _ q;exact absurd (aR c h.row) (by decide)
theorem gS.OQ (h:gS F H base nb ag sk sr rs n):∀x∈rs,¬al x nb:=λx c q=>by
 obtain⟨l,d⟩:=h.rows.rowAt c;obtain⟨cur,e⟩:=d.obj _ q;exact absurd (aR e h.row) (by decide)
theorem gS.read (h:gS F H base nb ag sk sr rs n):dn F H nb ag sk sr n:=by
 refine⟨h.row,h.nb.2,h.kids.ints,λad d=>⟨(h.kids.block _ ⟨ad,d,rfl⟩).2,λq=>?_⟩,⟨h.rows.n,λad d=>⟨(h.rows.block.1 _ ⟨ad,d,rfl⟩).2,λq=>?_⟩,λi hi=>?_⟩⟩
 ·rcases q with q|q
  ·exact(h.sk _ ⟨ad,d,rfl⟩).2 q
  ·exact h.OI ⟨ad,d,q⟩
 ·rcases q with q|q
  ·exact(h.sr _ ⟨ad,d,rfl⟩).2 q
  ·exact h.O3 ⟨ad,d,q⟩
 ·have c:i<rs.length:=by rw[h.rows.len];exact hi
  obtain⟨ad,d,j⟩:=h.rows.out.reads.at (i:=i) (by simpa using c);refine⟨ad,rs[i],d,by simpa using j,λe f=>?_,(h.rows.row i _ _ (Qg c) (Qg hi)).ints⟩;refine⟨(h.rows.block.2 _ (Qn c) _ ⟨e,f,rfl⟩).2,λq=>?_⟩;rcases q with q|q
  ·exact(h.rs _ (Qn c) _ ⟨e,f,rfl⟩).2 q
  ·exact h.OQ _ (Qn c) ⟨e,f,q⟩
theorem gS.Ny (h:gS F H base nb ag sk sr rs n):∀j,j<n.rows.length->∀ad r,sr.a=some ad->cg H (ad.add j)=some (Sl.v r)->r.a≠none:=by
 intro j f ad r l o;have d:j<rs.length:=by rw[h.rows.len];exact f
 obtain⟨u,e,c⟩:=h.rows.out.reads.at (i:=j) (by simpa using d);rw[l] at e;cases e;rw[o] at c;simp only[Tu,Rv,Sl.v,Q3] at c;rw[c.1];exact h.nn _ (Qn d)
theorem gS.step {F':Nat->Prop}{H':aa}(h:gS F H base nb ag sk sr rs n)(S:Step F F' H H'):gS F' H' base nb ag sk sr rs n:=by
 have e:∀b,b<H.size->¬F b->¬F' b:=λb c f q=>(S.own b q).elim f λr=>by omega
 refine⟨h.row.mod S.mod h.nb.2,h.kids.mod S.mod λb c=>(h.sk b c).2,h.rows.mod S.mod (λb c=>(h.sr b c).2) λx d b c=>(h.rs x d b c).2,h.nn,⟨h.nb.1,e _ (aI h.row) h.nb.2⟩,λb c=>⟨(h.sk b c).1,e b (h.kids.block b c).2 (h.sk b c).2⟩,λb c=>⟨(h.sr b c).1,e b (h.rows.block.1 b c).2 (h.sr b c).2⟩,λx d b c=>⟨(h.rs x d b c).1,e b (h.rows.block.2 x d b c).2 (h.rs x d b c).2⟩⟩
end
def lV:Sl:=⟨none,0,0⟩
theorem tB (b:Nat):¬al lV b:=λ⟨_,h,_⟩=>by cases h
theorem nQ (b:List UInt8)(k:Nat):(gF b k).length=k:=by simp[gF]
theorem zR (b:List UInt8)(k:Nat):gF b (k+1)=gF b k++[Le (b.drop (2+4*k))]:=by
 unfold gF;rw[List.range_succ,Q4];rfl
theorem ER {b:List Int}{w:Int}(h:eY b w=true):∀l∈fQ b w,l.length<=16:=by
 obtain⟨h1,c,d⟩:=oL h;intro l e;rw[d l e];unfold aK at c;split at c
 ·exact absurd rfl c
 ·omega
section
variable {H:aa}{k p dp:Nat}{t:Tr}{F:Nat->Prop}{s:Pl}{q:Nat}{I:Pl->St->Nat->Prop}{B C:Pl->Int->Prop}{x:St}{m:Nat}{a b:Sl}{sp:Span}
set_option maxHeartbeats 2000000 in
theorem pT {ag above depth:Nat}{K:(Option Addr×Int)->aa->Prop}(S:jQ t.name q I B C)(hI:I s x m)(hm:m<30000000000)(hg:Gl H)(h:aV H k p t)(hp:ax F H p dp s)(hk:¬F k)(c0:ag<=1000000000000)
  (hs:fY F H a b sp) (hd:t.depth=(depth:Int))
  (bl:∀n,x.node t.width depth above ag sp=some n->∀F' H' s' nb sk sr rs,ax F' H' p dp s'->Step F F' H H'->I s' x (m+1)->gS F' H' H.size nb (ag:Int) sk sr rs n->K (av nb,0) H')
  (R:x.node t.width depth above ag sp=none->∀F' H' s',ax F' H' p dp s'->Step F F' H H'->I s' x (m+1)->K (none,280) H')
  (c4:∀F' H' s' e,ax F' H' p dp s'->Step F F' H H'->C s' e->K (none,e) H'):JF.sp (av k) (ag:Int) (above:Int) a b H K:=by
 refine JF.of ?_;unfold JF.vc;refine aj λH1 z1 r1 e1=>?_;have b3:∀b,F b->b<H.size:=λb hb=>hp.lt b hb;have bs:=aI h;have T1:Step F F H H1:=.bX e1;refine HN S hI hm (hg.mod e1 id) (h.ext e1) (hp.ext e1) hk c0 (λb4 F' o s' sl p2 S2 I2 o2 f2=>?_) (λb4 F' o s' v sl p2 S2 I2=>?_) (λF' o s' v sl e p2 S2 hC=>?_)
 rotate_left
 ·refine aT rfl ?_;exact R (by unfold St.node;rw[if_neg (by omega)]) F' o s' p2 (T1.trans S2) I2
 ·obtain⟨c1,c2⟩:=S.errC hC;refine az (by simpa using c2) ?_;refine aT (by simpa using c1) ?_;exact c4 F' o s' e p2 (T1.trans S2) hC
 have T2:=T1.trans S2;refine az rfl ?_;refine az rfl ?_;dsimp only;have hx:x.node t.width depth above ag sp=gY t.width depth above sp (x.T ag):=by unfold St.node;rw[if_pos b4]
 rw[hx] at bl R;have hlen:(x.T ag).2.length<=504:=(S.pre hI).2.2.2.2.2 ag;generalize x.T ag=d at*;refine aj λH3 z3 T e3=>?_;have eo:=S2.mod.size;have c5:¬F H.size:=λu=>by have:=b3 _ u;omega
 have c6:ab o H.size AP #[a.v,b.v]:=r1.mod S2.mod c5;have V:∀c,o.size<=c->¬F' c:=λc E u=>by have:=p2.lt c u;omega
 have c7:fY F' o a b sp:=hs.step T2;have b5:aV o k p t:=(h.ext e1).mod S2.mod hk;have ep:sl.n=d.2.length:=dm.n o2 (by decide);have X:=o2.cap;have bA:dA o sl d.2:=mR o2;have b6:∀v:UInt8,((d.1.toNat:Int)==(v.toNat:Int))=decide (d.1=v):=λv=>by
  rw[UC];simp only[beq_iff_eq,decide_eq_true_eq];exact⟨λe=>UInt8.toNat_inj.1 (by omega),λe=>by rw[e]⟩
 refine⟨λz A=>∃kids bb sk,gY t.width depth above sp d=dI t.width depth sp kids bb/\dA A z bb/\z.n<=z.c/\bb.length<=504/\kids.length<=126/\ab A o.size rq #[.int .i64 (ag:Int),sk.v,.slice none 0 0]/\
  aA A 0 bT 1 sk ((kids.map Td).map (Ql .i64))/\Ext o A/\∀c,al sk c->o.size<c,?_,?_⟩
 ·have h3:((d.1.toNat:Int)==3)=decide (d.1=3):=b6 3;have h4:((d.1.toNat:Int)==4)=decide (d.1=4):=b6 4;unfold gY;refine ao (λE=>?_) (λE=>?_)
  ·rw[h3] at E;simp only[Qz,decide_eq_true_eq,beq_iff_eq] at E;exact⟨[],d.2,lV,if_pos ⟨E.1,by omega⟩,bA.aE λad _ hl=>e3.same _ hl id,X,hlen,by simp,T,aA.nil _ _ _ _,e3,λc u=>absurd u (tB c)⟩
  ·rw[h3] at E;have bB:¬(d.1=3/\above=0):=λu=>by simp[u.1,u.2] at E
   rw[if_neg bB];refine ao (λr=>?_) (λr=>?_)
   ·rw[h4] at r;simp only[Qz,decide_eq_true_eq] at r;obtain⟨⟨c1,c2⟩,c3⟩:=r;have c8:2<=d.2.length:=by omega
    have a6:d.1=4/\0<above/\2<=d.2.length:=⟨c1,by omega,c8⟩;rw[if_pos a6];have b7:dA H3 sl d.2:=bA.aE λad _ hl=>e3.same _ hl id;have hu:(fm d.2).length=d.2.length:=fT _;refine bM b7 (j:=0) rfl (by omega) λer a0=>?_;refine bM b7 (j:=1) rfl (by omega) λet a1=>?_;rw[EE,EE,Jz (UX _) (UX _)];have en:(d.2.getD 0 0).toNat*256+(d.2.getD 1 0).toNat=jV d.2:=rfl;rw[en];have eu:=(d.2.getD 0 0).toNat_lt;have J:=(d.2.getD 1 0).toNat_lt;have b8:jV d.2<=65535:=by unfold jV;omega
    have ew:∀i:Nat,i<=65535->Qe.wrap ((2:Int)+(Qe.wrap ((4:Int)*(i:Int))))=((2+4*i:Nat):Int):=λi hi=>by
     rw[wrap64 (x:=4*(i:Int)) (by omega) (by omega),wrap64 (by omega) (by omega)];omega
    rw[ew _ b8];refine ao (λbC=>?_) (λbC=>?_)
    ·have:jV d.2<2\/d.2.length<2+4*jV d.2:=by
      simp only[Rm,decide_eq_true_eq] at bC;omega
     refine R ?_ F' H3 s' (p2.ext e3) (T2.trans (.bX e3)) I2;unfold gY;rw[if_neg bB,if_pos a6,if_pos this]
    ·have c9:¬(jV d.2<2\/d.2.length<2+4*jV d.2):=λu=>by
      simp only[Tf,decide_eq_false_iff_not] at bC;omega
     have ev:2<=jV d.2:=by omega
     have ey:2+4*jV d.2<=d.2.length:=by omega
     rw[if_neg c9];generalize jV d.2=N at*;refine ay N (λi z A=>z=(i:Int)/\∃sk,ab A o.size rq #[.int .i64 (ag:Int),sk.v,.slice none 0 0]/\aA A 0 bT 1 sk (((gF d.2 i).map Td).map (Ql .i64))/\Ext o A/\∀c,al sk c->o.size<c) ⟨rfl,lV,T,aA.nil _ _ _ _,e3,λc u=>absurd u (tB c)⟩ ?_;rintro i z A next hi ⟨rfl,sk,rA,oA,eA,fA⟩ bD
     have b9:dA A sl d.2:=bA.aE λad _ hl=>eA.same _ hl id;have cm:¬al sk o.size:=λu=>by have:=fA _ u;omega
     refine ao (λbE=>?_) (λbE=>?_)
     ·have dk:i<N:=by simpa using bE
      rw[ew i (by omega)];refine⟨λD=>ab D o.size rq #[.int .i64 (ag:Int),sk.v,.slice none 0 0],rA,?_⟩;refine ab.bW (c:=au) (i:=1) (x:=sk) (cs:=λ_=>#[.int .i64 (ag:Int),sk.v,.slice none 0 0]) (λ_ hG=>hG) (λ_ _=>rfl) ?_;refine⟨by omega,?_⟩;have dt:dA A (Sl.mk (bF sl.a sl.c (((2+4*i:Nat):Int)).toNat 1) (sl.n - (((2+4*i:Nat):Int)).toNat) (sl.c - (((2+4*i:Nat):Int)).toNat)) (d.2.drop (2+4*i)):=b9.drop X (2+4*i);refine Ch dt (by rw[QG];omega) ?_;have bs:(gF d.2 i).length=i:=nQ _ _;have Y:sk.n=i:=by have:=oA.1;simp[bs] at this;omega
      refine⟨rA,?_,?_⟩
      ·exact rA.ext (Mod.push _ _ _)
      refine Gt.push (base:=0) oA rfl (by omega) (by omega) (QN _) λcA A2 n2 dT m2 b2 _=>?_;have ea:ab A2 o.size rq #[.int .i64 (ag:Int),sk.v,.slice none 0 0]:=rA.mod m2 cm;refine ab.st ea (i:=1) (by simp) rfl λA3 eb m3 eB=>?_;have hz:=eA.size;have f3:∀c,al cA c->o.size<c:=λc u=>by
       rcases b2 c u with v|v
       ·exact fA c v
       ·have:=aI rA;omega
      refine bD dk _ _ ⟨aH i (by omega),cA,eb,?_,?_,f3⟩
      ·rw[zR,Q4,Q4];exact dT.mod m3 λc u=>by have:=f3 c u;omega
      ·have:Mod (λc=>al sk c\/c=o.size) o A3:=((Ext.mod eA).trans (m2.mono λ_ _ u=>.inl u)).trans (m3.mono λ_ _ u=>.inr u);exact this.ext λc u=>by
        rcases u with v|v
        ·have:=fA c v;omega
        ·omega
     ·have ec:i=N:=by
       have:¬i<N:=by simpa using bE
       omega
      subst ec;refine⟨by omega,gF d.2 i,d.2.drop (2+4*i),sk,rfl,b9.drop X (2+4*i),?_,by rw[QG];omega,by rw[nQ];omega,rA,oA,eA,fA⟩;show sl.n - _<=sl.c - _;omega
   ·rw[h4] at r;have a6:¬(d.1=4/\0<above/\2<=d.2.length):=λ⟨u1,u2,u3⟩=>by
     have:¬(decide (d.1=4)&&decide ((above:Int)>0)&&decide ((sl.n:Int)>=2))=true:=by rw[r];simp
     apply this;simp only[Qz,decide_eq_true_eq];exact⟨⟨u1,by omega⟩,by omega⟩
    refine R ?_ F' H3 s' (p2.ext e3) (T2.trans (.bX e3)) I2;unfold gY;rw[if_neg bB,if_neg a6]
 ·rintro z A ⟨kids,bb,sk,ed,ee,eg,eC,bs,rA,oA,eA,fA⟩;rw[ed] at bl R;unfold av;simp only[aw];have tA:aV A k p t:=b5.ext eA;have O:∀L,Ext o L->dI t.width depth sp kids bb=none->K (none,280) L:=λL Z cB=>R cB F' L s' (p2.ext Z) (T2.trans (.bX Z)) I2;have Y:sk.n=kids.length:=by have:=oA.1;simp at this;omega
  refine⟨λ_ L=>∃sr rs,eY (fm bb) t.width=true/\(kids≠[]->(fQ (fm bb) t.width).length+1=kids.length)/\ab L o.size rq #[.int .i64 (ag:Int),sk.v,sr.v]/\aA L 0 bT 1 sk ((kids.map Td).map (Ql .i64))/\
   aZ L A.size sr rs (fQ (fm bb) t.width)/\(∀x∈rs,x.a≠none)/\Ext o L,?_,?_⟩
  ·refine ab.ld (c:=ai .i64) (i:=2) (x:=t.width) tA rfl ?_;refine EG ee eg (λx hx=>?_) (by rw[fT];omega) λsr rs A2 ro e2 nn=>?_
   ·unfold fm at hx;obtain⟨c,_,rfl⟩:=QB.1 hx;have:=c.toNat_lt;omega
   have ei:=eA.trans e2;refine ab.st (rA.ext e2) (i:=2) (by simp) rfl λA3 T m3 z3=>?_;have ej:=eA.size;have eD:=aI rA;have G:Ext o A3:=((Ext.mod (F:=λc=>c=o.size) ei).trans m3).ext λc u=>by omega
   have ba:=ro.block;have f:aZ A3 A.size sr rs (fQ (fm bb) t.width):=ro.mod m3 (λc u v=>by have:=(ba.1 c u).1;omega) λy hy c u v=>by have:=(ba.2 y hy c u).1;omega
   have a7:aA A3 0 bT 1 sk ((kids.map Td).map (Ql .i64)):=(oA.ext e2).mod m3 λc u v=>by have:=fA c u;omega
   unfold BV;cases ae:eY (fm bb) t.width with
   |false=>
     refine aT rfl ?_;refine O A3 G ?_;unfold dI;rw[if_pos (.inl ae)]
   |true=>
     refine az rfl ?_;refine ab.ld (c:=au) (i:=1) (x:=sk) T rfl ?_;refine ao (λE=>?_) (λE=>?_)
     ·have a8:kids≠[]:=λu=>by subst u;simp[Y] at E
      refine ab.ld (c:=au) (i:=2) (x:=sr) T rfl ?_;refine ab.ld (c:=au) (i:=1) (x:=sk) T rfl ?_;have eE:0<kids.length:=To.2 a8;rw[Y,ro.n];have ew:Qe.wrap ((kids.length:Int) - 1)=((kids.length - 1:Nat):Int):=by rw[wrap64 (by omega) (by omega)];omega
      rw[ew];refine ao (λr=>?_) (λr=>?_)
      ·have eF:((fQ (fm bb) t.width).length:Int)≠((kids.length - 1:Nat):Int):=by simpa using r
       refine O A3 G ?_;unfold dI;rw[if_pos (.inr ⟨a8,by omega⟩)]
      ·have heq:((fQ (fm bb) t.width).length:Int)=((kids.length - 1:Nat):Int):=by simpa using r
       exact⟨sr,rs,rfl,λ_=>by omega,T,a7,f,nn,G⟩
     ·have a8:kids=[]:=QW (by
       have:¬((sk.n:Int)>0):=by simpa using E
       omega)
      exact⟨sr,rs,rfl,λu=>absurd a8 u,T,a7,f,nn,G⟩
  ·rintro _ A3 ⟨sr,rs,ae,cF,T,a7,f,nn,G⟩;obtain⟨g1,g2,g3⟩:=oL ae;have bG:=ER ae;rw[fT] at g1;have eG:=cq t.width;have eH:(fQ (fm bb) t.width).length<=504:=by
    have eI:(fQ (fm bb) t.width).length*1<=(fQ (fm bb) t.width).length*(aK t.width).toNat:=Sk _ (by omega);omega
   refine ab.kN (c:=iD [au,au]) (x:=(a,b)) (c6.ext G) rfl rfl ?_;refine ab.ld (c:=au) (i:=2) (x:=sr) T rfl ?_;have ej:=eA.size;have rN:dC F' A3 sr (fQ (fm bb) t.width):=f.NA λc E=>V c (by omega);refine DF (c7.step (.bX G)) rN bG (by omega) λA4 e4=>?_;have af:=G.trans e4;have P:∀b1,(sp.holds (fQ (fm bb) t.width)=b1)->dI t.width depth sp kids bb=if b1=false\/(fQ (fm bb) t.width=[]/\1<depth) then none else some ⟨kids,fQ (fm bb) t.width⟩:=λb1 J=>by
    unfold dI;rw[if_neg (by
     rintro(u|⟨u1,u2⟩)
     ·rw[ae] at u;cases u
     ·exact u2 (cF u1)),J]
   have bg:∀L,Ext o L->L=A4->dI t.width depth sp kids bb=some ⟨kids,fQ (fm bb) t.width⟩->K (some ⟨o.size,0,none⟩,0) L:=λL Z ek b0=>by
    subst ek;refine bl _ b0 F' L s' o.size sk sr rs (p2.ext Z) (T2.trans (.bX Z)) I2 ⟨T.ext e4,a7.ext e4,?_,nn,⟨by omega,V _ (by omega)⟩,λc u=>?_,λc u=>?_,λy hy c u=>?_⟩
    ·exact⟨(f.ext e4).out.Lh,f.len,λi y l q1 q2=>((f.ext e4).row i y l q1 q2).Lh,f.apart⟩
    ·have:=fA c u;exact⟨by omega,V c (by omega)⟩
    ·have:=(f.block.1 c u).1;exact⟨by omega,V c (by omega)⟩
    ·have:=(f.block.2 y hy c u).1;exact⟨by omega,V c (by omega)⟩
   cases J:sp.holds (fQ (fm bb) t.width) with
   |false=>
     refine aT rfl ?_;refine O A4 af ?_;rw[P _ J,if_pos (.inl rfl)]
   |true=>
     refine az rfl ?_;refine ab.ld (c:=au) (i:=2) (x:=sr) (T.ext e4) rfl ?_;rw[f.n];refine ao (λE=>?_) (λE=>?_)
     ·have eL:((fQ (fm bb) t.width).length:Int)=0:=by simpa using E
      have h0:fQ (fm bb) t.width=[]:=QW (by omega);refine ab.ld (c:=ai .i64) (i:=4) (x:=t.depth) (b5.ext af) rfl ?_;rw[hd];refine ao (λr=>?_) (λr=>?_)
      ·refine O A4 af ?_;rw[P _ J,if_pos (.inr ⟨h0,by
        have:(depth:Int)>1:=by simpa using r
        omega⟩)]
      ·refine bg A4 af rfl ?_;rw[P _ J,if_neg (by
        rintro(u|⟨_,u⟩)
        ·cases u
        ·have:¬(depth:Int)>1:=by simpa using r
         omega)]
     ·refine bg A4 af rfl ?_;rw[P _ J,if_neg (by
       rintro(u|⟨u,_⟩)
       ·cases u
       ·rw[u] at E;simp at E)]
end
def nN (K:Sl×Int->aa->Prop)(base:Nat)(F:Nat->Prop)(H:aa):Option (Option (List Int))->Prop
 |none=>K (lV,280) H
 |some none=>K (lV,0) H
 |some (some l)=>∀sl,sl.a≠none->aA H 0 gM 1 sl (l.map (Ql .u64))->(∀b,al sl b->base<=b/\¬F b)->K (sl,0) H
theorem Ic {f:Nat->Nat×Option (Option (List Int))}{i k:Nat}:(f i).1<=(lY f i (k+1)).1:=by
 unfold lY;split
 ·exact Nat.le_add_right _ _
 ·exact Qm _
theorem G8 {f:Nat->Nat×Option (Option (List Int))}{i k:Nat}(h:(f i).2=some none):lY f i (k+1)=((f i).1+(lY f (i+1) k).1,(lY f (i+1) k).2):=by
 conv=>lhs;unfold lY
 rw[if_pos h]
theorem zt {f:Nat->Nat×Option (Option (List Int))}{i k:Nat}(h:(f i).2≠some none):lY f i (k+1)=f i:=by
 unfold lY;rw[if_neg h]
section
variable {k p dp:Nat}{t:Tr}{q:Nat}{I:Pl->St->Nat->Prop}{B C:Pl->Int->Prop}{x:St}{low:Sl}{ll:List Int}{strict:Bool}
theorem G6 {d:aa}{F:Nat->Prop}{sr:Sl}{ls:List (List Int)}{nb:Nat}{ag:Value}{sk:Value}{i W:Nat}{K:Sl×Int->aa->Prop}(hr:dC F d sr ls)(V:ab d nb rq #[ag,sk,sr.v]) (X:aV d k p t) (hw:t.width=(W:Int)) (hW:W<=16)
  (hi:i<ls.length) (P:(ls.getD i []).length<=16)
  (Y:∀sl A,sl.a≠none->aA A 0 gM 1 sl ((ls.getD i []).map (Ql .u64))->Ext d A->(∀b,al sl b->d.size<=b)->K (sl,0) A):
  ∃G:aa->Prop,G d/\ah (some (⟨k,0,none⟩:Addr)) λh=>ld (ai .i64) d (h.add 2) λ(j:Int)=>bI au Qf (Rn cv (.int .i64 (0:Int)) (.int .i64 (Qe.wrap (j+(1:Int))))) d λ(sl:Sl) l=>G l/\ah (some (⟨nb,0,none⟩:Addr)) λo=>bW au G (o.add 2) λ(e:Sl)=>ah e.a λv=>(0<=(i:Int)/\(i:Int)<(e.n:Int))/\bW au G (v.add ((i:Int).toNat*1)) λ(y:Sl)=>bI au Qf (Qo #[cv,cv] cv #[sl.v,y.v]) l λ(s:Sl) Z=>K (s,(0:Int)) Z:=by
 refine⟨λD=>Ext d D,.refl _ _,?_⟩;simp only[aw];refine ab.ld (c:=ai .i64) (i:=2) (x:=t.width) X rfl ?_;rw[hw];have ew:Qe.wrap ((W:Int)+1)=((W+1:Nat):Int):=aH W (by omega);rw[ew];refine jB.make (base:=0) (by omega) (by omega) (by omega) (by omega) (QN _) ?_;intro sl l R o4 f S z;refine⟨f,?_⟩;refine ab.bW (c:=au) (i:=2) (x:=sr) (cs:=λ_=>#[ag,sk,sr.v]) (λD E=>V.ext E) (λ_ _=>rfl) ?_;obtain⟨ad,r,q1,q2,q4,J⟩:=hr.at' i hi;refine aY ad q1 ⟨⟨by omega,by rw[hr.len];omega⟩,r,λD E=>?_,?_⟩
 ·simp only[QD,Q9];exact E.cell q2 id
 rw[<-cN hi] at J;have L:=(J.ext f);have N:=J.len;refine jB.append (base:=0) (s:=sl) (x:=r) (ws:=(ls.getD i []).map (Ql .u64)) o4 (by rw[QI];exact N.symm) L.reads (iy _ _) (by simp only[Y4] at R;omega) (by simp only[Y4] at R;omega) (QN _) ?_;intro s' T n6 o6 m6 b6 O;have e6:Ext d T:=((Ext.mod (F:=al sl) f).trans m6).ext S;refine Y s' T (λu=>z (O.1 u).1) (by simpa using o6) e6 λc P=>?_;rcases b6 c P with u|u
 ·exact S c u
 ·have:=f.size;omega
set_option maxHeartbeats 2000000 in
theorem zl {W depth:Nat}(S:jQ t.name q I B C)(hw:t.width=(W:Int))(hW:W<=16)(hd:t.depth=(depth:Int)):∀(above ag:Nat) (sp:Span) (a b:Sl) (F:Nat->Prop) (H:aa) (s:Pl) (m:Nat) (K:(Sl×Int)->aa->Prop),
  I s x m->m+(x.find t.width depth ll strict above ag sp).1<=30000000000->above<=1000000->Gl H->aV H k p t->ax F H p dp s->¬F k->ag<=1000000000000->fY F H a b sp->Ints .u64 H low ll->uv F H low ll->
  (∀F' H' s',ax F' H' p dp s'->Step F F' H H'->I s' x (m+(x.find t.width depth ll strict above ag sp).1)->nN K H.size F' H' (x.find t.width depth ll strict above ag sp).2)->
  (∀F' H' s' e,ax F' H' p dp s'->Step F F' H H'->C s' e->K (lV,e) H')->E4.sp (av k) (ag:Int) (above:Int) a b low strict H K:=by
 intro above
 induction above with
 |zero=>
   intro ag sp a b F H s m K hI hm _ hg ht hp hk bg hs hl ae d af;refine E4.of ?_;unfold E4.vc;have hT:=(S.pre hI).2.2.2.2.2;refine aj λH1 z1 r1 V=>?_;have b3:=aI ht;have T1:Step F F H H1:=.bX V;refine ab.kN (c:=iD [au,au]) (x:=(a,b)) r1 rfl rfl ?_;unfold St.find at hm d;have bl:m<30000000000:=by
    cases R:x.node t.width depth 0 ag sp<;>rw[R] at hm<;>simp only at hm<;>omega
   refine pT (above:=0) S hI bl (hg.mod V id) (ht.ext V) (hp.ext V) hk bg (hs.step T1) hd (λn R F' y s' nb sk sr rs p2 O I2 o2=>?_) (λR F' y s' p2 O I2=>?_) (λF' y s' e p2 O hC=>?_)
   rotate_left
   ·refine aT rfl ?_;rw[R] at d;exact d F' y s' p2 (T1.trans O) I2
   ·obtain⟨c1,c2⟩:=S.errC hC;refine aT (by simpa using c1) ?_;exact af F' y s' e p2 (T1.trans O) hC
   refine az rfl ?_;refine aT rfl ?_;rw[R] at d;have T:=T1.trans O;have Z:=o2.read;have ok:=jS hT R;have hlen:=ok.size;have E:∀l∈n.rows,l.length<=16:=λl J=>by rw[ok.cols l J,hw];simpa using hW
   have t2:aV y k p t:=(ht.ext V).mod O.mod hk;unfold av;simp only[aw];refine ab.ld (c:=au) (i:=2) (x:=sr) Z.row rfl ?_;have J:Ints .u64 y low ll:=ae.ints hl T;refine x9 Z.rows J (bP ok.holds) E (by omega) ?_;have a1:=d F' y s' p2 T I2;have c9:=jh ll n.rows;have dt:=Z.rows.len;have a6:∀i:Nat,below ll n.rows+(if sameAt n.rows ll&&strict then 1 else 0)=i->br ((i:Int)==(sr.n:Int)) (K (lV,(0:Int)) y) (∃G:aa->Prop,G y/\ah (some (⟨k,0,none⟩:Addr)) λb4=>ld (ai .i64) y (b4.add 2) λ(b5:Int)=>bI au Qf (Rn cv (.int .i64 (0:Int)) (.int .i64 (Qe.wrap (b5+(1:Int))))) y λ(sl:Sl) H4=>G H4/\ah (some (⟨nb,0,none⟩:Addr)) λb6=>bW au G (b6.add 2) λ(bB:Sl)=>ah bB.a λb7=>(0<=(i:Int)/\(i:Int)<(bB.n:Int))/\bW au G (b7.add ((i:Int).toNat*1)) λ(b8:Sl)=>bI au Qf (Qo #[cv,cv] cv #[sl.v,b8.v]) H4 λ(s:Sl) H5=>K (s,(0:Int)) H5):=by
    intro i hi;have dk:i<=n.rows.length:=by
     cases X:sameAt n.rows ll with
     |false=>rw[X] at hi;simp at hi;omega
     |true=>
       have:=(cS.1 X).1;split at hi<;>omega
    have bs:kT n.rows ll strict=n.rows[i]?:=by unfold kT;rw[hi]
    simp only at d a1;rw[bs] at d a1;refine ao (λL=>?_) (λL=>?_)
    ·have e0:i=n.rows.length:=by
      have:(i:Int)=(sr.n:Int):=by simpa using L
      omega
     rw[e0,Sm (Qm _)] at a1;exact a1
    ·have e0:i<n.rows.length:=by
      have:¬(i:Int)=(sr.n:Int):=by simpa using L
      omega
     rw[Qg e0] at d;refine G6 Z.rows Z.row t2 hw hW e0 (by rw[cN e0];exact E _ (Qn _)) λsl A nn o e bb=>?_;refine d F' A s' (p2.ext e) (T.trans (.bX e)) I2 sl nn (by rw[<-cN e0];exact o) λc L=>?_;have:=bb c L;have b9:=T.mod.size;exact⟨by omega,λu=>by have:=p2.lt c u;omega⟩
   refine ao (λL=>?_) (λL=>?_)
   ·have X:sameAt n.rows ll=true:=by simp only[Qz] at L;exact L.1
    have cm:strict=true:=by simp only[Qz] at L;exact L.2
    have dT:=(cS.1 X).1;refine ab.ld (c:=au) (i:=2) (x:=sr) Z.row rfl ?_;simp only;rw[aH _ (by omega)];exact a6 (below ll n.rows+1) (by rw[X,cm];rfl)
   ·refine ab.ld (c:=au) (i:=2) (x:=sr) Z.row rfl ?_;exact a6 (below ll n.rows) (by rw[L];rfl)
 |succ above ih=>
   intro ag sp a b F H s m K hI hm ea hg ht hp hk bg hs hl ae d af;refine E4.of ?_;unfold E4.vc;have hT:=(S.pre hI).2.2.2.2.2;refine aj λH1 z1 r1 V=>?_;have b3:=aI ht;have T1:Step F F H H1:=.bX V;refine ab.kN (c:=iD [au,au]) (x:=(a,b)) r1 rfl rfl ?_;unfold St.find at hm d;have bl:m<30000000000:=by
    cases R:x.node t.width depth (above+1) ag sp<;>rw[R] at hm<;>simp only at hm<;>omega
   refine pT (above:=above+1) S hI bl (hg.mod V id) (ht.ext V) (hp.ext V) hk bg (hs.step T1) hd (λn R F' y s' nb sk sr rs p2 O I2 o2=>?_) (λR F' y s' p2 O I2=>?_) (λF' y s' e p2 O hC=>?_)
   rotate_left
   ·refine aT rfl ?_;rw[R] at d;exact d F' y s' p2 (T1.trans O) I2
   ·obtain⟨c1,c2⟩:=S.errC hC;refine aT (by simpa using c1) ?_;exact af F' y s' e p2 (T1.trans O) hC
   refine az rfl ?_;refine az (by simp only[beq_eq_false_iff_ne,ne_eq];omega) ?_;rw[R] at d hm;simp only at d hm;have T:=T1.trans O;have Z:=o2.read;have ok:=jS hT R;have hlen:=ok.size;obtain⟨i1,i2,i3⟩:=ok.inner (UW _);have E:∀l∈n.rows,l.length<=16:=λl J=>by rw[ok.cols l J,hw];simpa using hW
   have t2:aV y k p t:=(ht.ext V).mod O.mod hk;unfold av;simp only[aw];have J:Ints .u64 y low ll:=ae.ints hl T;refine wj Z J (bP ok.holds) E (by omega) ?_;have eb:=ko (n:=n) (l:=ll);have cA:fY F' y a b sp:=hs.step T;have cB:ab y H.size AP #[a.v,b.v]:=r1.mod O.mod λu=>by have:=hp.lt _ u;omega
   have cF:¬F' H.size:=λu=>(O.own _ u).elim (λv=>by have:=hp.lt _ v;omega) λv=>by omega
   have bC:¬F' k:=λu=>(T.own _ u).elim hk λv=>by omega
   have c3:Gl y:=hg.mod T.mod hp.eV;have a7:uv F' y low ll:=ae.step T;generalize ec:n.child ll=h at*;obtain⟨g,Y⟩:∃g,g=λi=>x.find t.width depth ll strict above (n.kids.getD i 0) (sp.of n i):=⟨_,rfl⟩;rw[<-Y] at d hm;obtain⟨N,hN⟩:∃N,n.kids.length=h+N:=⟨n.kids.length - h,by omega⟩;have bD:n.kids.length - h=N:=by omega
   rw[bD] at d hm;refine ay N (λj z A=>z=((h+j:Nat):Int)/\j<=N/\∃F1 s1 cost,ax F1 A p dp s1/\Step F' F1 y A/\I s1 x (m+1+cost)/\lY g h N=(cost+(lY g (h+j) (N - j)).1,(lY g (h+j) (N - j)).2)) ⟨rfl,QN _,F',s',0,p2,.refl _ _,I2,by simp⟩ ?_;rintro j z A next hj ⟨rfl,_,F1,s1,cost,pA,SA,IA,r⟩ bA
   have nA:=Z.step SA;refine ab.ld (c:=au) (i:=1) (x:=sk) nA.row rfl ?_;have ed:sk.n=h+N:=by have:=nA.kids.len;simp at this;omega
   refine ao (λL=>?_) (λL=>?_)
   ·have c4:j<N:=by
     have:((h+j:Nat):Int)<(sk.n:Int):=by simpa using L
     omega
    refine⟨λD=>Ext A D,.refl _ _,?_⟩;refine ab.bW (c:=au) (i:=1) (x:=sk) (cs:=λ_=>#[.int .i64 (ag:Int),sk.v,sr.v]) (λD hD=>nA.row.ext hD) (λ_ _=>rfl) ?_;obtain⟨ad,q1,q2⟩:=nA.kids.at (i:=h+j) (by simp;omega);have bE:(Zn Td n.kids)[h+j]'(by simp;omega)=((n.kids.getD (h+j) 0:Nat):Int):=by
     simp[QM,Qg (show h+j<n.kids.length by omega)]
    rw[bE] at q2;refine aY ad q1 ⟨⟨by omega,by omega⟩,((n.kids.getD (h+j) 0:Nat):Int),λD hD=>?_,?_⟩
    ·simp only[QD,Q9];exact hD.cell q2 id
    refine ab.kN (c:=iD [au,au]) (x:=(a,b)) (cB.mod SA.mod cF) rfl rfl ?_;refine Gw (cA.step SA) nA (o2.step SA).Ny (by omega) (by omega) λu v A2 e2 s2=>?_;refine⟨e2,?_⟩;have c5:Qe.wrap (((above+1:Nat):Int) - 1)=(above:Int):=by rw[wrap64 (by omega) (by omega)];omega
    rw[c5];obtain⟨M,hM⟩:∃M,N - j=M+1:=⟨N - j - 1,by omega⟩;have c6:N - (j+1)=M:=by omega
    rw[hM] at r;have c7:=Ic (f:=g) (i:=h+j) (k:=M);have bG:g (h+j)=x.find t.width depth ll strict above (n.kids.getD (h+j) 0) (sp.of n (h+j)):=by rw[Y]
    have a8:(lY g h N).1=cost+(lY g (h+j) (M+1)).1:=by rw[r]
    have TA:=T.trans SA;have b0:Step F F1 H A2:=TA.trans (.bX e2);have P:Step F' F1 y A2:=SA.trans (.bX e2);have ee:=P.mod.size;have b9:=T.mod.size;refine ih (n.kids.getD (h+j) 0) (sp.of n (h+j)) u v F1 A2 s1 (m+1+cost) _ IA (by rw[<-bG];omega) (by omega) (c3.mod P.mod p2.eV) (t2.mod P.mod bC) (pA.ext e2) (λw=>(P.own _ w).elim bC λw=>by omega) ?_ s2 (a7.ints J P) (a7.step P) (λF3 A3 s3 p3 S3 I3=>?_) (λF3 A3 s3 e p3 S3 hC=>?_)
    ·have:n.kids.getD (h+j) 0<4294967296:=by
      have ba:h+j<n.kids.length:=by omega
      simp only[QM,Qg ba,Sw];exact ok.kids _ (Qn ba)
     omega
    ·rw[<-bG] at I3 ⊢;have T3:=b0.trans S3;cases hr:(g (h+j)).2 with
     |none=>
       unfold nN;dsimp only;refine aT rfl ?_;have e5:=zt (f:=g) (i:=h+j) (k:=M) (by rw[hr];simp);rw[e5] at r a8;have:=d F3 A3 s3 p3 T3 (by
        rw[r];simp only;have e6:m+(1+(cost+(g (h+j)).1))=m+1+cost+(g (h+j)).1:=by omega
        rw[e6];exact I3)
       rw[r,hr] at this;exact this
     |some o=>
       cases o with
       |none=>
         unfold nN;dsimp only;refine az rfl ?_;rw[G8 hr] at r;refine bA c4 _ _ ⟨aH _ (by omega),by omega,F3,s3,cost+(g (h+j)).1,p3,P.trans S3,?_,?_⟩
         ·have e6:m+1+(cost+(g (h+j)).1)=m+1+cost+(g (h+j)).1:=by omega
          rw[e6];exact I3
         ·rw[r,c6];simp only[Nat.add_assoc]
       |some l=>
         unfold nN;intro sl nn o5 f5;dsimp only;refine aT (by cases q9:sl.a with|none=>exact absurd q9 nn|some _=>rfl) ?_;have e5:=zt (f:=g) (i:=h+j) (k:=M) (by rw[hr];simp);rw[e5] at r a8;have:=d F3 A3 s3 p3 T3 (by
          rw[r];simp only;have e6:m+(1+(cost+(g (h+j)).1))=m+1+cost+(g (h+j)).1:=by omega
          rw[e6];exact I3)
         rw[r,hr] at this;exact this sl nn o5 λc b1=>⟨by have:=(f5 c b1).1;omega,(f5 c b1).2⟩
    ·refine aT (by have:=(S.errC hC).1;simp[lV,this]) ?_;exact af F3 A3 s3 e p3 (b0.trans S3) hC
   ·have c8:j=N:=by
     have:¬((h+j:Nat):Int)<(sk.n:Int):=by simpa using L
     omega
    subst c8;have e5:lY g (h+j) (j - j)=(0,some none):=by rw[UT];unfold lY;rfl
    rw[e5] at r;have:=d F1 A s1 pA (T.trans SA) (by
     rw[r];simp only;have e6:m+(1+(cost+0))=m+1+cost:=by omega
     rw[e6];exact IA)
    rw[r] at this;exact this
end
theorem aA.FR {H:aa}{t:TypeId}{K:Addr->aa->Prop}(c:∀H',aA H' 0 t 1 ⟨some ⟨H.size,0,none⟩,0,0⟩ []->Ext H H'->K ⟨H.size,0,none⟩ H'):aB H #[] t K:=
 c _ (aA.fresh (QN _) (Qm _) (by unfold maxLen;omega) rfl rfl rfl) (Mod.push _ _ _)
def Nd.pre (n:Nd):List UInt8:=if n.kids=[] then [] else Qx (n.kids.length/256)::Qx n.kids.length::n.kids.flatMap vC
theorem Nd.vH (n:Nd):n.bytes=n.pre++dF n.rows:=rfl
theorem DI {H:aa}{s x:Sl}{bb cc:List UInt8}{K:Sl->aa->Prop}(h:aA H 0 kJ 1 s ((fm bb).map (Ql .u8)))(d:dA H x cc)(j:bb.length+cc.length<=1000000)
  (e:∀(s':Sl) (H':aa),aA H' 0 kJ 1 s' ((fm (bb++cc)).map (Ql .u8))->Mod (al s) H H'->(∀b,al s' b->al s b\/H.size<=b)->K s' H'):
  bI au Qf (Qo #[jX,jX] jX #[s.v,x.v]) H K:=by
 have c:=h.1;simp only[Q9,QI,fT] at c;have f:=d.n;refine ML.append (base:=0) (s:=s) (x:=x) (ws:=(fm cc).map (Ql .u8)) h (by simp;omega) d.reads (iy _ _) (by omega) (by omega) (QN _) ?_;intro s' H' l o1 m1 i _;refine e s' H' ?_ m1 i;rw[sI,Q4];exact o1
section
variable {H:aa}{k p dp:Nat}{t:Tr}{F:Nat->Prop}{s:Pl}{q:Nat}{I:Pl->St->Nat->Prop}{B C:Pl->Int->Prop}{x:St}{m:Nat}{nb:Nat}{ag:Int}{sk sr:Sl}{n:Nd}
set_option maxHeartbeats 2000000 in
theorem uU {K:Int->aa->Prop}(hg:Gl H)(h:aV H k p t)(hp:ax F H p dp s)(hk:¬F k)(bB:k≠nb)(hn:dn F H nb ag sk sr n)(V:n.bytes.length<=504)(cA:n.kids.length<=504)(cB:n.rows.length<=504)(ae:∀l∈n.rows,l.length<=16)
  (bC:ag=-1\/(0<=ag/\ag<=1000000000000))
  (a8:t.name.size<=9223372036854775807) (bD:s.d.bt<68719470000) (ba:s.next<1099511627776) (h0:0<=s.next) (bE:s.Fit)
  (y:ag=-1->∀F' H',ax F' H' p dp (s.more t.name n.ag.1 n.ag.2).1->Step (λb=>F b\/b=nb) (λb=>F' b\/b=nb) H H'->dn F' H' nb (s.fresh t.name).2.2.1 sk sr n->K (s.more t.name n.ag.1 n.ag.2).2 H')
  (D:ag≠-1->∀F' H',ax F' H' p dp (s.over t.name ag n.ag.1 n.ag.2).1->Step (λb=>F b\/b=nb) (λb=>F' b\/b=nb) H H'->dn F' H' nb ag sk sr n->K (s.over t.name ag n.ag.1 n.ag.2).2 H'):yD.sp (av k) (av nb) H K:=by
 refine yD.of ?_;unfold yD.vc;have b6:=aI h;refine⟨λz A=>∃j s1 pg,ax j A p dp s1/\dn j A nb pg sk sr n/\aV A k p t/\¬j k/\Gl A/\s1.next<9223372036854775807/\(z.2≠0->K z.2 A)/\
  (z.2=0->∀F' H',ax F' H' p dp (Pl.leave (s1.set z.1 n.ag.1 n.ag.2) z.1).1->Step j F' A H'->dn F' H' nb pg sk sr n->K (Pl.leave (s1.set z.1 n.ag.1 n.ag.2) z.1).2 H'),?_,?_⟩
 ·simp only[aw,av];refine ab.ld (c:=ai .i64) (i:=0) (x:=ag) hn.row rfl ?_;refine ao (λP=>?_) (λP=>?_)
  ·have e0:ag=-1:=by
    have:ag<0:=by simpa using P
    omega
   refine ab.ld (c:=aq) (i:=0) (x:=av p) h rfl ?_;refine ab.ld (c:=dN) (i:=1) (x:=t.name) h rfl ?_;refine zx hg hp a8 (by omega) (by omega) bE λj H1 p1 L=>?_;have f:=hn.step L;have y:=y e0;unfold Pl.more at y;have X:(s.fresh t.name).1.next<=s.next+1:=s.tP h0 ba
   generalize (s.fresh t.name).1=s1 at*;generalize (s.fresh t.name).2.1=hd at*;generalize (s.fresh t.name).2.2.1=pg at*;generalize (s.fresh t.name).2.2.2=e at*;refine ab.st f.row (i:=0) (by simp) rfl λS r2 m2 z2=>?_;have E:¬j k:=λu=>(L.own _ u).elim hk λu=>by omega
   have mN:Step (λb=>j b\/b=nb) (λb=>j b\/b=nb) H1 S:=⟨m2.mono λ_ _ u=>.inr u,λ_ u=>.inl u⟩;have n2:dn j S nb pg sk sr n:=⟨r2,f.off,f.kidsO.ints f.kids mN,f.kidsO.step mN,f.rows.step mN⟩;have p2:ax j S p dp s1:=p1.aE λb hb hl=>m2.same b hl λu=>f.off (u▸hb);have t2:aV S k p t:=(h.mod L.mod hk).mod m2 bB;have g2:Gl S:=(hg.mod L.mod hp.eV).aE (m2.same _ (hg.mod L.mod hp.eV).lt λu=>by
    have q1:=f.row;have q2:=(hg.mod L.mod hp.eV) 0 (by decide);rw[u] at q2;have:=dh (o:=0) q1 (v:=.int .i64 ag) rfl;rw[this] at q2;cases q2)
   have Y:Step (λb=>F b\/b=nb) (λb=>j b\/b=nb) H S:=(L.with nb).trans mN;refine⟨j,s1,pg,p2,n2,t2,E,g2,by omega,λhe=>?_,λhe F' H' p3 S3 n3=>?_⟩
   ·have he:e≠0:=he;rw[if_pos he] at y;exact y j S p2 Y n2
   ·have he:¬e≠0:=by simpa using he
    have bG:n.ag.1≠0:=by unfold Nd.ag;simp only;split<;>decide
    rw[if_neg he,if_neg bG] at y;exact y F' H' p3 (Y.trans (S3.with nb)) n3
  ·have e0:ag≠-1:=λu=>by subst u;simp at P
   have e1:0<=ag/\ag<=1000000000000:=bC.resolve_left e0;refine ab.ld (c:=aq) (i:=0) (x:=av p) h rfl ?_;refine ab.ld (c:=dN) (i:=1) (x:=t.name) h rfl ?_;refine ab.ld (c:=ai .i64) (i:=0) (x:=ag) hn.row rfl ?_;refine Bv hg hp a8 (by omega) (by omega) (by omega) (by omega) λj H1 p1 L=>?_;have f:=hn.step L;have D:=D e0;unfold Pl.over at D;have X:(s.cK t.name ag).1.next<=s.next+1:=s.ua h0 ba
   generalize (s.cK t.name ag).1=s1 at*;generalize (s.cK t.name ag).2.1=hd at*;generalize (s.cK t.name ag).2.2=e at*;have E:¬j k:=λu=>(L.own _ u).elim hk λu=>by omega
   refine⟨j,s1,ag,p1,f,h.mod L.mod hk,E,hg.mod L.mod hp.eV,by omega,λhe=>?_,λhe F' H' p3 S3 n3=>?_⟩
   ·have he:e≠0:=he;rw[if_pos he] at D;exact D j H1 p1 (L.with nb) f
   ·have he:¬e≠0:=by simpa using he
    rw[if_neg he] at D;exact D F' H' p3 ((L.with nb).trans (S3.with nb)) n3
 ·rintro⟨hd,e⟩ H1 ⟨j,s1,pg,p1,f,t1,E,g1,X,c1,c2⟩;dsimp only at c1 c2 ⊢;refine ao (λP=>c1 (by simpa using P)) (λP=>?_);have c2:=c2 (by simpa using P);clear c1 y D;refine aA.FR λH5 o5 e5=>?_;have N:sk.n=n.kids.length:=by have:=f.kids.len;simpa using this
  refine⟨λz A=>z.1=(n.ag.1.toNat:Int)/\aA A 0 kJ 1 z.2 ((fm n.pre).map (Ql .u8))/\Ext H1 A/\∀c,al z.2 c->H1.size<=c,?_,?_⟩
  ·simp only[aw,av];refine ab.ld (c:=au) (i:=1) (x:=sk) (f.row.ext e5) rfl ?_;have f5:∀c,al (Sl.mk (some ⟨H1.size,0,none⟩) 0 0) c->H1.size<=c:=by
    rintro c ⟨ad,ha,rfl⟩;cases ha;exact Qm _
   refine ao (λP=>?_) (λP=>?_)
   ·have R:n.kids≠[]:=λu=>by rw[u] at N;simp[N] at P
    refine ab.ld (c:=au) (i:=1) (x:=sk) (f.row.ext e5) rfl ?_;refine ab.ld (c:=au) (i:=1) (x:=sk) (f.row.ext e5) rfl ?_;have e8:bm .i64 (sk.n:Int) 8=((n.kids.length/256:Nat):Int):=by rw[N];exact JQ _ 8 (by decide)
    rw[e8,N,lN,lN];have ev:#[Ql .u8 ((Qx (n.kids.length/256)).toNat:Int),Ql .u8 ((Qx n.kids.length).toNat:Int)]=((fm [Qx (n.kids.length/256),Qx n.kids.length]).map (Ql .u8)).toArray:=rfl;rw[ev];refine kC _ λpp H7 z7 q7 a7 e7=>?_;refine DI (s:=⟨some ⟨H1.size,0,none⟩,0,0⟩) (bb:=[]) (x:=⟨some pp,2,2⟩) (o5.ext e7) (a7 2) (by simp) λb8 H8 o8 m8 f8=>?_;have bg:Ext H1 H8:=((Ext.mod (e5.trans e7)).trans m8).ext f5;have hz:=(e5.trans e7).size;have g8:∀c,al b8 c->H1.size<=c:=λc u=>by
     rcases f8 c u with v|v
     ·exact f5 c v
     ·omega
    refine ab.ld (c:=au) (i:=1) (x:=sk) (f.row.ext bg) rfl ?_;refine ay n.kids.length (λi z A=>z.2=(i:Int)/\aA A 0 kJ 1 z.1 ((fm ([Qx (n.kids.length/256),Qx n.kids.length]++(n.kids.take i).flatMap vC)).map (Ql .u8))/\Ext H1 A/\∀c,al z.1 c->H1.size<=c)
     ⟨rfl,by simpa using o8,bg,g8⟩ ?_
    rintro i ⟨bs,_⟩ A next hi ⟨rfl,T,O,Z⟩ G
    dsimp only at T Z ⊢;refine ao (λJ=>?_) (λJ=>?_)
    ·have d:i<n.kids.length:=by
      have:(i:Int)<(sk.n:Int):=by simpa using J
      omega
     refine bM (f.kids.ext O) rfl (by simpa using d) λad _=>?_;have bl:(Zn Td n.kids).getD i 0=((n.kids.getD i 0:Nat):Int):=by
      simp[QM,Qg d]
     rw[bl];refine qi λpq H9 b9 e9 q9=>?_;have cF:([Qx (n.kids.length/256),Qx n.kids.length]++(n.kids.take i).flatMap vC).length<=10000:=by
      rw[Qt,gD];simp;omega
     refine DI (T.ext e9) b9 (by rw[ic];omega) λb0 b1 af m10 f10=>?_;have b3:=O.size;have b4:=e9.size;refine G d _ _ ⟨aH i (by omega),?_,((Ext.mod (O.trans e9)).trans m10).ext Z,λc u=>?_⟩
     ·have et:n.kids.take (i+1)=n.kids.take i++[n.kids.getD i 0]:=by
       rw[QA d];simp[QM,Qg d]
      rw[et,Uu,<-Rg];simpa using af
     ·rcases f10 c u with v|v
      ·exact Z c v
      ·omega
    ·have a1:i=n.kids.length:=by
      have:¬(i:Int)<(sk.n:Int):=by simpa using J
      omega
     subst a1;rw[QO (Qm _)] at T;refine⟨?_,?_,O,Z⟩
     ·unfold Nd.ag;simp only;rw[if_neg R];rfl
     ·unfold Nd.pre;rw[if_neg R];exact T
   ·have R:n.kids=[]:=QW (by
     have:¬((sk.n:Int)>0):=by simpa using P
     omega)
    refine⟨?_,?_,e5,f5⟩
    ·unfold Nd.ag;simp only;rw[if_pos R];rfl
    ·unfold Nd.pre;rw[if_pos R];exact o5
  ·rintro⟨kd,bs⟩ H6 ⟨rfl,o6,e6,f6⟩;dsimp only at o6 f6 ⊢;simp only[aw,av];refine ab.ld (c:=au) (i:=2) (x:=sr) (f.row.ext e6) rfl ?_;have b7:=f.rows.len;have cm:n.pre.length+(dF n.rows).length<=504:=by
    rw[Nd.vH,Qt] at V;exact V
   refine ay n.rows.length (λi z A=>z.2=(i:Int)/\aA A 0 kJ 1 z.1 ((fm (n.pre++dF (n.rows.take i))).map (Ql .u8))/\Ext H1 A/\∀c,al z.1 c->H1.size<=c)
    ⟨rfl,by simpa[dF] using o6,e6,f6⟩ ?_
   rintro i ⟨c0,_⟩ A next hi ⟨rfl,T,O,Z⟩ G
   dsimp only at T Z ⊢;refine ao (λJ=>?_) (λJ=>?_)
   ·have d:i<n.rows.length:=by
     have:(i:Int)<(sr.n:Int):=by simpa using J
     omega
    refine(f.rows.step (.bX O)).ld d λad r _ _ hr=>?_;have c3:(n.rows.getD i []).length<=16:=by rw[cN d];exact ae _ (Qn _)
    have et:n.rows.take (i+1)=n.rows.take i++[n.rows.getD i []]:=by
     rw[QA d,cN d]
    have ey:dF (n.rows.take (i+1))=dF (n.rows.take i)++iO (gd (n.rows.getD i [])):=by
     rw[et];unfold dF;rw[Uu];simp
    have bA:(dF (n.rows.take (i+1))).length<=(dF n.rows).length:=by
     have:n.rows=n.rows.take (i+1)++n.rows.drop (i+1):=(RP _ _).symm
     conv=>rhs;rw[this]
     unfold dF;rw[Uu,Qt];omega
    rw[ey,Qt] at bA;refine qq hr (by omega) λsb H9 o9 e9=>?_;have b9:dA H9 sb (iO (gd (n.rows.getD i []))):=by
     have:=o9.ints;unfold dA;rw[og (nW _)];exact this
    refine DI (T.ext e9) b9 (by rw[Qt];omega) λb0 b1 af m10 f10=>?_;have b3:=O.size;have b4:=e9.size;refine G d _ _ ⟨aH i (by omega),?_,((Ext.mod (O.trans e9)).trans m10).ext Z,λc u=>?_⟩
    ·rw[ey,<-Rg];exact af
    ·rcases f10 c u with v|v
     ·exact Z c v
     ·omega
   ·have a1:i=n.rows.length:=by
     have:¬(i:Int)<(sr.n:Int):=by simpa using J
     omega
    subst a1;rw[QO (Qm _),<-Nd.vH] at T;have SA:Step j j H1 A:=.bX O;refine ab.ld (c:=aq) (i:=0) (x:=av p) (t1.ext O) rfl ?_;refine Hi (l:=n.ag.2) (kd:=n.ag.1) (g1.mod O id) (p1.ext O) T.ints λF2 S p2 Y=>?_;have b5:Gl S:=(g1.mod O id).mod Y.mod p1.eV;have c4:(s1.set hd n.ag.1 n.ag.2).1.next=s1.next:=s1.zv hd n.ag.1 n.ag.2
    have n2:=(f.step SA).step Y;generalize s1.set hd n.ag.1 n.ag.2=s2 at*;refine ao (λa6=>?_) (λa6=>?_)
    ·have e2:s2.2=0:=by simpa using a6
     refine ab.ld (c:=aq) (i:=0) (x:=av p) ((t1.ext O).mod Y.mod E) rfl ?_;refine uf b5 p2 (by omega) λF3 H3 p3 S3=>?_;have el:Pl.leave s2 hd=s2.1.bK hd:=if_pos e2;rw[el] at c2;exact c2 F3 H3 p3 ((SA.trans Y).trans S3) (n2.step S3)
    ·have e2:s2.2≠0:=by simpa using a6
     have el:Pl.leave s2 hd=s2:=if_neg e2;rw[el] at c2;exact c2 F2 S p2 (SA.trans Y) n2
theorem nZ {K:Int->aa->Prop}(S:jQ t.name q I B C)(v:I s x m)(hm:m<30000000000)(L:Gl H)(h:aV H k p t)(N:ax F H p dp s)(hk:¬F k)(y:k≠nb)(O:dn F H nb (-1) sk sr n)(c:n.bytes.length<=504)(z:n.kids.length<=504)(D:n.rows.length<=504)(d:∀l∈n.rows,l.length<=16)
  (E:x.N<q->∀F' H' s',ax F' H' p dp s'->Step (λb=>F b\/b=nb) (λb=>F' b\/b=nb) H H'->I s' (x.more n) (m+1)->dn F' H' nb (x.N:Int) sk sr n->K 0 H')
  (G:¬x.N<q->∀F' H' s' e,ax F' H' p dp s'->Step (λb=>F b\/b=nb) (λb=>F' b\/b=nb) H H'->¬F' nb->B s' e->K e H')
  (f:∀F' H' s' e,ax F' H' p dp s'->Step (λb=>F b\/b=nb) (λb=>F' b\/b=nb) H H'->¬F' nb->C s' e->K e H'):yD.sp (av k) (av nb) H K:=by
 obtain⟨V,b2,X,P,Y,Z⟩:=S.pre v;have i:n.ag.1≠0:=by unfold Nd.ag;simp only;split<;>decide
 refine uU L h N hk y O c z D d (.inl rfl) S.name (by omega) (by omega) b2 P (λ_ F' H' p1 o j=>?_) λu=>absurd rfl u;by_cases r:x.N<q
 ·rcases S.more v hm c i r with ⟨R,a2,a3⟩|J
  ·rw[a2] at j;change K (s.more t.name n.ag.1 n.bytes).2 H';rw[R];exact E r F' H' _ p1 o a3 j
  ·exact f F' H' _ _ p1 o j.off J
 ·rcases S.full v hm c i r with T|J
  ·exact G r F' H' _ _ p1 o j.off T
  ·exact f F' H' _ _ p1 o j.off J
theorem uN {K:Int->aa->Prop}{g:Nat}(S:jQ t.name q I B C)(y:I s x m)(hm:m<30000000000)(E:Gl H)(h:aV H k p t)(G:ax F H p dp s)(hk:¬F k)(f:k≠nb)(J:dn F H nb (g:Int) sk sr n)(i:g<x.N)(c:n.bytes.length<=504)(j:n.kids.length<=504)(o:n.rows.length<=504)(d:∀l∈n.rows,l.length<=16)
  (r:∀F' H' s',ax F' H' p dp s'->Step (λb=>F b\/b=nb) (λb=>F' b\/b=nb) H H'->I s' (x.put g n) (m+1)->dn F' H' nb (g:Int) sk sr n->K 0 H')
  (v:∀F' H' s' e,ax F' H' p dp s'->Step (λb=>F b\/b=nb) (λb=>F' b\/b=nb) H H'->¬F' nb->C s' e->K e H'):yD.sp (av k) (av nb) H K:=by
 obtain⟨P,b2,R,L,T,V⟩:=S.pre y;refine uU E h G hk f J c j o d (.inr ⟨by omega,by omega⟩) S.name (by omega) (by omega) b2 L (λu=>by omega) λ_ F' H' p1 z D=>?_;rcases S.over y hm c i (kd:=n.ag.1) with ⟨N,a3⟩|O
 ·change K (s.over t.name (g:Int) n.ag.1 n.bytes).2 H';rw[N];exact r F' H' _ p1 z a3 D
 ·exact v F' H' _ _ p1 z D.off O
end
theorem Step.or {F F':Nat->Prop}{H H':aa}(S:Step F F' H H')(X:Nat->Prop):Step (λb=>F b\/X b) (λb=>F' b\/X b) H H':=
 ⟨S.mod.mono λ_ _ h=>.inl h,λb c=>by
  rcases c with q|q
  ·exact(S.own b q).imp .inl id
  ·exact .inl (.inr q)⟩
theorem Step.Of {F F' G c:Nat->Prop}{H H':aa}(S:Step F F' H H')(h1:∀b,b<H.size->F b->G b)(d:∀b,c b->F' b\/G b\/H.size<=b):Step G c H H':=
 ⟨S.mod.mono h1,λb e=>by
  rcases d b e with q|q|q
  ·rcases S.own b q with r|r
   ·rcases Q6 b H.size with u|u
    ·exact .inl (h1 b u r)
    ·exact .inr u
   ·exact .inr r
  ·exact .inl q
  ·exact .inr q⟩
structure fJ (F:Nat->Prop)(H:aa)(r:Sl)(l:List Int):Prop where
 off:iL F H r
 ints:Ints .u64 H r l
theorem fJ.step {F F':Nat->Prop}{H H':aa}{r:Sl}{l:List Int}(h:fJ F H r l)(S:Step F F' H H'):fJ F' H' r l:=⟨h.off.step S,h.off.ints h.ints S⟩
theorem fJ.mono {F G:Nat->Prop}{H:aa}{r:Sl}{l:List Int}(h:fJ F H r l)(hs:∀b,b<H.size->G b->F b):fJ G H r l:=⟨h.off.mono hs,h.ints⟩
theorem Cc {a:Option Addr}{c i n:Nat}{ad:Addr}(h:bF a c i n=some ad):∃a0,a=some a0/\a0.block=ad.block:=by
 unfold bF at h;split at h
 ·exact⟨ad,h,rfl⟩
 ·cases a with
  |none=>simp at h
  |some a0=>
    simp at h;exact⟨a0,rfl,by rw[<-h,cj]⟩
theorem iL.cut {F:Nat->Prop}{H:aa}{s:Sl}(h:iL F H s){c i n m k:Nat}:iL F H ⟨bF s.a c i n,m,k⟩:=λad d=>by
 obtain⟨a0,e,f⟩:=Cc d;have:=h a0 e;rw[f] at this;exact this
theorem dC.drop {F:Nat->Prop}{H:aa}{s:Sl}{ls:List (List Int)}(h:dC F H s ls)(u:s.n<=s.c){i:Nat}(hi:i<=ls.length):dC F H ⟨bF s.a s.c i 1,s.n - i,s.c - i⟩ (ls.drop i):=by
 have c:=h.len;refine⟨by rw[QG];show s.n - i=_;omega,h.off.cut,λj d=>?_⟩;rw[QG] at d;obtain⟨ad,r,e,f,l,o⟩:=h.at' (i+j) (by omega);refine⟨ad.add i,r,?_,by rw[add_add];exact f,l,?_⟩
 ·show bF s.a s.c i 1=_;unfold bF;rw[if_neg (by omega),e,Q9];rfl
 ·rw[TE];exact o
theorem dC.take {F:Nat->Prop}{H:aa}{s:Sl}{ls:List (List Int)}(h:dC F H s ls){i c d:Nat}(hi:i<=ls.length):dC F H ⟨bF s.a d 0 1,i,c⟩ (ls.take i):=by
 refine⟨by rw[Qw];show i=_;omega,h.off.cut,λj e=>?_⟩;rw[Qw] at e;obtain⟨ad,r,f,l,o,u⟩:=h.at' j (by omega);refine⟨ad,r,by show bF s.a d 0 1=_;rw[iE,f],l,o,?_⟩;rw[UP];exact u
theorem NM {k:IntKind}{H:aa}{s:Sl}{l:List Int}(h:Ints k H s l)(o:s.n<=s.c){i:Nat}(hi:i<=l.length):Ints k H ⟨bF s.a s.c i 1,s.n - i,s.c - i⟩ (l.drop i):=by
 have d:=h.len;refine⟨by rw[QG];show s.n - i=_;omega,λj v c=>?_⟩;rw[Yj,Rr] at c;obtain⟨ad,e,f⟩:=h.reads _ v c;have r:i+j<l.length:=by have:=(Qk.1 c).1;simpa using this
 refine⟨ad.add i,?_,by rw[add_add];exact f⟩;show bF s.a s.c i 1=_;unfold bF;rw[if_neg (by omega),e,Q9];rfl
theorem Oj {k:IntKind}{H:aa}{s:Sl}{l:List Int}(h:Ints k H s l){i c d:Nat}(hi:i<=l.length):Ints k H ⟨bF s.a d 0 1,i,c⟩ (l.take i):=by
 refine⟨by rw[Qw];show i=_;omega,?_⟩;show Reads H (bF s.a d 0 1) _;rw[iE,Uy];exact h.reads.take i
section
variable {H:aa}{k p dp:Nat}{t:Tr}{F:Nat->Prop}{s:Pl}{q:Nat}{I:Pl->St->Nat->Prop}{B C:Pl->Int->Prop}{x:St}{m:Nat}{nb:Nat}{ag:Int}{sk sr:Sl}{n:Nd}{W:Nat}
theorem J6 {K:Int->aa->Prop}(h:aV H k p t)(hw:t.width=(W:Int))(e:W<=16)(f:∀H',Ext H H'->K (xO W) H'):E3.sp (av k) H K:=by
 refine E3.of ?_;unfold E3.vc;simp only[aw,av];refine ab.ld (c:=ai .i64) (i:=2) (x:=t.width) h rfl ?_;rw[hw];refine jB.make (base:=0) (by omega) (Int.le_refl _) (by omega) (by omega) (QN _) ?_;intro sl H1 z o1 j D _;have d:aA H1 0 gM 1 sl ((QE W (0:Int)).map (Ql .u64)):=by
  rw[List.map_replicate];simpa using o1
 refine qq d.ints (by simp;omega) λsb o o2 e2=>?_;obtain⟨p1,p2⟩:=lA (l:=QE W (0:Int)) (w:=W) (by simp) e;have hs:=cq (W:Int);have r:(sb.n:Int)=aK W:=by
  have:=o2.ints.len;rw[p1] at this;omega
 rw[r];have u:Qe.wrap ((4:Int)+aK W)=4+aK W:=wrap64 (by omega) (by omega);have v:Qe.wrap ((502:Int)+aK W)=502+aK W:=wrap64 (by omega) (by omega);rw[u,v];refine⟨by omega,?_⟩;have y:Qe.wrap (Qy (502+aK W) (4+aK W))=xO W:=by
  have h1:=Int.tdiv_nonneg (a:=502+aK (W:Int)) (b:=4+aK W) (by omega) (by omega);have E:=Int.tdiv_le_self (a:=502+aK (W:Int)) (4+aK W) (by omega);unfold xO;exact wrap64 (by omega) (by omega)
 rw[y];exact f o (j.trans e2)
theorem dn.mono {F G:Nat->Prop}(h:dn F H nb ag sk sr n)(hs:∀b,b<H.size->G b->F b):dn G H nb ag sk sr n:=
 ⟨h.row,λu=>h.off (hs _ (aI h.row) u),h.kids,h.kidsO.mono λb c u=>u.imp (hs b c) id,h.rows.mono λb c u=>u.imp (hs b c) id⟩
set_option maxHeartbeats 2000000 in
theorem Ej {X:Nat->Prop}{K:(Option Addr×Sl×Int)->aa->Prop}(S:jQ t.name q I B C)(hI:I s x m)(hm:m<30000000000)(hg:Gl H)(h:aV H k p t)(hp:ax F H p dp s)(hk:¬F k)(bE:k≠nb)
  (L:dn (λb=>F b\/X b) H nb ag sk sr n) (bG:sk.n<=sk.c) (R:sr.n<=sr.c) (h1:1<=n.rows.length) (b0:n.kids=[]\/n.kids.length=n.rows.length+1)
  (a1:n.right.bytes.length<=504) (c3:n.kids.length<=504) (c4:n.rows.length<=600) (a6:n.right.rows.length<=504) (ae:∀l∈n.rows,l.length<=16)
  (b1:x.N<q->∀F' H' s' mb v1 v2 up b3 b4,ax F' H' p dp s'->Step (λb=>F b\/b=nb) (λb=>F' b\/b=nb) H H'->I s' (x.more n.right) (m+1)->dn (λb=>F' b\/X b) H' nb ag b3 b4 n.left->
   ab H' mb rq #[.int .i64 (x.N:Int),v1,v2]->¬F' mb->mb≠nb->H.size<=mb->fJ (λb=>(F' b\/X b)\/b=nb) H' up n.up->K (some ⟨mb,0,none⟩,up,0) H')
  (b5:¬x.N<q->∀F' H' s' e o up,ax F' H' p dp s'->Step (λb=>F b\/b=nb) (λb=>F' b\/b=nb) H H'->B s' e->K (o,up,e) H')
  (b6:∀F' H' s' e o up,ax F' H' p dp s'->Step (λb=>F b\/b=nb) (λb=>F' b\/b=nb) H H'->C s' e->K (o,up,e) H'):Be.sp (av k) (av nb) H K:=by
 refine Be.of ?_;unfold Be.vc;simp only[aw,av];have a7:=L.rows.len;have Y:sk.n=n.kids.length:=by have:=L.kids.len;simpa using this
 have c5:=aI h;have c0:=aI L.row;refine ab.ld (c:=au) (i:=2) (x:=sr) L.row rfl ?_;have af:Qe.wrap (Qy (sr.n:Int) 2)=((n.rows.length/2:Nat):Int):=by
  rw[a7,show (2:Int)=((2:Nat):Int) from rfl,<-Int.ofNat_tdiv,wrap64 (by omega) (by omega)]
 rw[af];refine aj λH1 z1 r1 N=>?_;have n1:=L.step (.bX N);refine ab.ld (c:=au) (i:=2) (x:=sr) n1.row rfl ?_;have b7:=L.rows.at' (n.rows.length/2) (by omega);obtain⟨ad,up,q1,q2,q4,q5⟩:=b7;refine aY ad q1 ⟨⟨by omega,by omega⟩,up,?_,?_⟩
 ·simp only[QD,Q9];exact N.cell q2 id
 have a8:n.up=n.rows[n.rows.length/2]'(by omega):=by unfold Nd.up;rw[cN]
 have ba:fJ (λb=>(F b\/X b)\/b=nb) H up n.up:=⟨q4,by rw[a8];exact q5⟩;have b8:∀F':Nat->Prop,(∀b,F' b->F b)->¬F' H.size:=λF' hF u=>by have:=hp.lt _ (hF _ u);omega
 have j:H.size≠nb:=by omega
 have bg:k≠H.size:=by omega
 -- the step that makes the new node one of those that may be written
 have SX:Step (λb=>F b\/X b) (λb=>(F b\/X b)\/b=H.size) H H1:=⟨Ext.mod N,λb u=>u.elim .inl λv=>.inr (by omega)⟩;have O:=L.step SX;have b9:=ba.step (SX.with nb);have fin:∀(d:aa) (y E G T:Sl),Mod (λb=>b=nb\/b=H.size) H1 d->d.size=H1.size->ab d H.size rq #[.int .i64 (-1),G.v,T.v]->ab d nb rq #[.int .i64 ag,y.v,E.v]->
   Ints .i64 H1 G (n.right.kids.map Td)->iL (λb=>((F b\/X b)\/b=H.size)\/b=nb) H1 G->dC (λb=>((F b\/X b)\/b=H.size)\/b=nb) H1 T n.right.rows->
   Ints .i64 H1 y (n.left.kids.map Td)->iL (λb=>((F b\/X b)\/b=H.size)\/b=nb) H1 y->dC (λb=>((F b\/X b)\/b=H.size)\/b=nb) H1 E n.left.rows->
   yD.sp (some ⟨k,0,none⟩) (some ⟨H.size,0,none⟩) d λ(r:Int) Z=>K (some ⟨H.size,0,none⟩,up,r) Z:=by
  intro d y E G T m5 z5 rm rn km bl cm kl bs cA;have S5:Step (λb=>((F b\/X b)\/b=H.size)\/b=nb) (λb=>((F b\/X b)\/b=H.size)\/b=nb) H1 d:=⟨m5.mono λb _ u=>u.elim .inr λv=>.inl (.inr v),λb u=>.inl u⟩;have p5:ax F d p dp s:=(hp.ext N).aE λb hb hl=>m5.same b hl λu=>by
   rcases u with u|u
   ·exact L.off (.inl (u▸hb))
   ·have:=hp.lt b hb;omega
  have t5:aV d k p t:=(h.ext N).mod m5 λu=>u.elim bE bg;have c6:=hg.lt;have g5:Gl d:=(Gl.mod hg N id).aE (m5.same _ (Gl.mod hg N id).lt λu=>by
   rcases u with u|u
   ·have w2:=hg 0 (by decide);rw[u] at w2;have:=dh (o:=0) L.row (v:=.int .i64 ag) rfl;rw[this] at w2;cases w2
   ·omega)
  have nm:dn F d H.size (-1) G T n.right:=⟨rm,b8 F λ_ u=>u,bl.ints km S5,(bl.step S5).mono λb _ u=>u.elim (λv=>.inl (.inl (.inl v))) λv=>.inl (.inr v),(cm.step S5).mono λb _ u=>u.elim (λv=>.inl (.inl (.inl v))) λv=>.inl (.inr v)⟩;have nl:dn (λb=>(F b\/X b)\/b=H.size) d nb ag y E n.left:=⟨rn,λu=>u.elim L.off λv=>j v.symm,bs.ints kl S5,bs.step S5,cA.step S5⟩;have cB:Step (λb=>F b\/b=nb) (λb=>F b\/b=nb) H d:=⟨⟨by have:=N.size;omega,λb hb V=>by
   rw[m5.same b (by omega) (λu=>by
    rcases u with u|u
    ·exact V (.inr u)
    ·omega)]
   exact N.same b hb id⟩,λb u=>.inl u⟩
  have bA:n.right.kids.length<=504:=by
   unfold Nd.right;split
   ·simp
   ·show (n.kids.drop _).length<=_;rw[QG];omega
  have R:∀l∈n.right.rows,l.length<=16:=λl hl=>ae l (by
   unfold Nd.right at hl;split at hl<;>exact Rq hl)
  have T2:∀{F':Nat->Prop} {H':aa},¬F' H.size->Step (λb=>F b\/b=H.size) (λb=>F' b\/b=H.size) d H'->Step (λb=>F b\/b=nb) (λb=>F' b\/b=nb) H H':=λ{F' H'} c7 P=>by
   have hz:=N.size;refine⟨⟨by have:=P.mod.size;omega,λb hb V=>?_⟩,λb hb=>?_⟩
   ·rw[P.mod.same b (by omega) λu=>by
     rcases u with u|u
     ·exact V (.inl u)
     ·omega]
    exact cB.mod.same b hb V
   ·rcases hb with u|u
    ·rcases P.own b (.inl u) with v|v
     ·rcases v with v|v
      ·exact .inl (.inl v)
      ·exact .inr (by omega)
     ·exact .inr (by omega)
    ·exact .inl (.inr u)
  refine nZ S hI hm g5 t5 p5 hk bg nm a1 bA a6 R (λhN F' Z s' p6 P I6 n6=>?_) (λhN F' Z s' e p6 P z hB=>b5 hN F' Z s' e _ _ p6 (T2 z P) hB) (λF' Z s' e p6 P z hC=>b6 F' Z s' e _ _ p6 (T2 z P) hC);have z:¬F' H.size:=n6.off;have bB:Step (λb=>(F b\/X b)\/b=H.size) (λb=>(F' b\/X b)\/b=H.size) d Z:=P.Of (λb _ u=>u.elim (λv=>.inl (.inl v)) .inr) λb u=>by
   rcases u with (u|u)|u
   ·exact .inl (.inl u)
   ·exact .inr (.inl (.inl (.inr u)))
   ·exact .inl (.inr u)
  refine b1 hN F' Z s' H.size _ _ up y E p6 (T2 z P) I6 ((nl.step bB).mono λb _ u=>.inl u) n6.row z j (Qm _) ?_;exact((b9.step S5).step (bB.with nb)).mono λb _ u=>u.elim (λv=>.inl (.inl v)) .inr
 have cF:Qe.wrap (((n.rows.length/2:Nat):Int)+1)=((n.rows.length/2+1:Nat):Int):=aH _ (by omega);rw[cF];simp only[QD,Vj];have hh:n.rows.length/2<n.rows.length:=by omega
 clear q2 q5 a8;generalize f:n.rows.length/2=half at*;refine ab.ld (c:=au) (i:=1) (x:=sk) n1.row rfl ?_;refine ao (λhc=>?_) (λhc=>?_)
 ·have D:n.kids≠[]:=λu=>by rw[u] at Y;simp[Y] at hc
  have bA:=b0.resolve_left D;refine ab.ld (c:=au) (i:=2) (x:=sr) n1.row rfl ?_;refine⟨by omega,?_⟩;refine ab.ld (c:=au) (i:=1) (x:=sk) n1.row rfl ?_;refine⟨by omega,?_⟩;refine ab.st r1 (i:=2) (by simp) rfl λH2 r2 m2 z2=>?_;refine ab.st r2 (i:=1) (by simp) rfl λH3 r3 m3 z3=>?_;have bC:ab H3 nb rq #[.int .i64 ag,sk.v,sr.v]:=(n1.row.mod m2 (SI j)).mod m3 (SI j);refine ab.ld (c:=au) (i:=1) (x:=sk) bC rfl ?_;refine⟨by omega,by omega,?_⟩;refine ab.st bC (i:=1) (by simp) rfl λH4 r4 m4 z4=>?_;refine ab.ld (c:=au) (i:=2) (x:=sr) r4 rfl ?_;refine⟨by omega,by omega,?_⟩;refine ab.st r4 (i:=2) (by simp) rfl λd r5 m5 z5=>?_;have J:Mod (λb=>b=nb\/b=H.size) H1 d:=(((m2.mono λ_ _ u=>.inr u).trans (m3.mono λ_ _ u=>.inr u)).trans (m4.mono λ_ _ u=>.inl u)).trans (m5.mono λ_ _ u=>.inl u);have er:n.right=⟨n.kids.drop (half+1),n.rows.drop (half+1)⟩:=by unfold Nd.right;rw[if_neg D,f]
  have el:n.left=⟨n.kids.take (half+1),n.rows.take half⟩:=by unfold Nd.left;rw[f]
  refine fin d ⟨bF sk.a (half+1) 0 1,half+1,half+1⟩ ⟨bF sr.a half 0 1,half,half⟩ ⟨bF sk.a sk.c (half+1) 1,sk.n - (half+1),sk.c - (half+1)⟩ ⟨bF sr.a sr.c (half+1) 1,sr.n - (half+1),sr.c - (half+1)⟩ J (by omega) (((r3.mod m4 j).mod m5 j)) r5 ?_ O.kidsO.cut ?_ ?_ O.kidsO.cut ?_
  ·rw[er];simp only[Yj];exact NM O.kids bG (by simp;omega)
  ·rw[er];exact O.rows.drop R (by omega)
  ·rw[el];simp only[Uy];exact Oj O.kids (by simp;omega)
  ·rw[el];exact O.rows.take (by omega)
 ·have D:n.kids=[]:=QW (by
   have:¬((sk.n:Int)>0):=by simpa using hc
   omega)
  refine ab.ld (c:=au) (i:=2) (x:=sr) n1.row rfl ?_;refine⟨by omega,?_⟩;refine ab.st r1 (i:=2) (by simp) rfl λH2 r2 m2 z2=>?_;have bD:ab H2 nb rq #[.int .i64 ag,sk.v,sr.v]:=n1.row.mod m2 (SI j);refine ab.ld (c:=au) (i:=2) (x:=sr) bD rfl ?_;refine⟨by omega,by omega,?_⟩;refine ab.st bD (i:=2) (by simp) rfl λd r5 m5 z5=>?_;have J:Mod (λb=>b=nb\/b=H.size) H1 d:=(m2.mono λ_ _ u=>.inr u).trans (m5.mono λ_ _ u=>.inl u);have er:n.right=⟨[],n.rows.drop half⟩:=by unfold Nd.right;rw[if_pos D,f]
  have el:n.left=⟨[],n.rows.take half⟩:=by unfold Nd.left;rw[f,D];rfl
  refine fin d sk ⟨bF sr.a half 0 1,half,half⟩ ⟨none,0,0⟩ ⟨bF sr.a sr.c half 1,sr.n - half,sr.c - half⟩ J (by omega) (r2.mod m5 j) r5 ?_ (λad u=>by cases u) ?_ ?_ O.kidsO ?_
  ·rw[er];exact⟨rfl,Reads.nil _ _⟩
  ·rw[er];exact O.rows.drop R (by omega)
  ·rw[el];have:=O.kids;rw[D] at this;exact this
  ·rw[el];exact O.rows.take (by omega)
end
theorem zo:Qf.underlying bT=some (.int .i64):=by kernel_rfl
theorem FX (args:Array Value)(w:World):(callFunc 185 args).run Qf w=((Ug #[cW,cW] #[4] args).run Qf w).andThen λv w'=>.ok (.value v) w':=
 run_callFunc_extern ZY (by kernel_rfl) (by kernel_rfl) (by kernel_rfl) (by kernel_rfl) args w
theorem HZ (args:Array Value)(w:World):(callFunc 187 args).run Qf w=((Ug #[dX,dX] #[4] args).run Qf w).andThen λv w'=>.ok (.value v) w':=
 run_callFunc_extern ZZ (by kernel_rfl) (by kernel_rfl) (by kernel_rfl) (by kernel_rfl) args w
theorem BA {H:aa}{s:Sl}{i:Nat}{l:Sl}{p:Addr}{xs:List Value}{K:Sl->aa->Prop}(h:aA H 0 cv 1 s xs)(h1:∀u∈xs,u.oneCell'=true)(f:dV H p cv l.v)(e:¬al s p.block)(hi:i<=xs.length)(j:xs.length<=1000000)
  (o:∀(s':Sl) (H':aa),s'.n=xs.length+1->aA H' 0 cv 1 s' (bj i l.v xs)->Mod (al s) H H'->(∀b,al s' b->al s b\/H.size<=b)->K s' H'):
  IF.sp s (i:Int) ⟨some p,1,1⟩ H K:=by
 refine IF.of ?_;exact Hr (ovl:=185) (rot:=λa b c d=>O9.sp a b c d) wE (by decide) zo FX h h1 rfl f e hi j (QN _) o
theorem BT {H:aa}{s:Sl}{i:Nat}{x:Int}{p:Addr}{xs:List Value}{K:Sl->aa->Prop}(h:aA H 0 bT 1 s xs)(h1:∀u∈xs,u.oneCell'=true)(f:dV H p bT (.int .i64 x))(e:¬al s p.block)(hi:i<=xs.length)(j:xs.length<=1000000)
  (l:∀(s':Sl) (H':aa),s'.n=xs.length+1->aA H' 0 bT 1 s' (bj i (.int .i64 x) xs)->Mod (al s) H H'->(∀b,al s' b->al s b\/H.size<=b)->K s' H'):
  MF.sp s (i:Int) ⟨some p,1,1⟩ H K:=by
 refine MF.of ?_;exact Hr (ovl:=187) (rot:=λa b c d=>Pe.sp a b c d) Gt (by decide) zo HZ h h1 rfl f e hi j (QN _) l
section
variable {α:Type}
theorem aX (i:Nat)(a:α)(l:List α):(bj i a l).length=l.length+1:=by
 unfold bj;rw[Qt,QJ,Qw,QG];omega
theorem wR {i:Nat}{a:α}{l:List α}(hi:i<=l.length)(j:Nat):(bj i a l)[j]?=if j<i then l[j]? else if j=i then some a else l[j - 1]?:=by
 unfold bj;have e:(l.take i).length=i:=by simp;omega
 by_cases h1:j<i
 ·rw[if_pos h1,QR (by omega),Rb,if_pos h1]
 ·rw[if_neg h1,Re (by omega),e];by_cases c:j=i
  ·subst c;simp
  ·rw[if_neg c];obtain⟨d,hd⟩:∃d,j - i=d+1:=⟨j - i - 1,by omega⟩;rw[hd,RD,Rr];congr 1;omega
theorem qI {β:Type}(f:α->β)(i:Nat)(a:α)(l:List α):bj i (f a) (l.map f)=(bj i a l).map f:=by
 unfold bj;simp
theorem fu {i:Nat}{a b:α}{l:List α}:b∈bj i a l↔b∈l\/b=a:=by
 unfold bj;rw[Qj,Qs];constructor
 ·rintro(h|h|h)
  ·exact .inl (Rl h)
  ·exact .inr h
  ·exact .inl (Rq h)
 ·rintro(h|h)
  ·rw[<-RP i l,Qj] at h;exact h.imp id .inr
  ·exact .inr (.inl h)
end
structure vG (F:Nat->Prop)(H:aa)(s:Sl)(rs:List Sl)(ls:List (List Int)):Prop where
 out:aA H 0 cv 1 s (rs.map Sl.v)
 outF:∀b,al s b->¬F b
 len:rs.length=ls.length
 row:∀(i:Nat) (r:Sl) (l:List Int),rs[i]?=some r->ls[i]?=some l->fJ (λb=>F b\/al s b) H r l
theorem vG.Pn {F:Nat->Prop}{H:aa}{s:Sl}{rs:List Sl}{ls:List (List Int)}(h:vG F H s rs ls):dC F H s ls:=by
 have e:=h.out.1;have j:=h.len;simp only[QI,Q9] at e;refine⟨by omega,λad d=>⟨(h.out.block _ ⟨ad,d,rfl⟩).2,h.outF _ ⟨ad,d,rfl⟩⟩,λi hi=>?_⟩;have c:i<rs.length:=by omega
 obtain⟨ad,d,f⟩:=h.out.reads.at (i:=i) (by simpa using c);have hr:=h.row i _ _ (Qg c) (Qg hi);exact⟨ad,rs[i],d,by simpa using f,hr.off.mono λ_ _ u=>.inl u,hr.ints⟩
theorem gS.q {F X:Nat->Prop}{H:aa}{base nb:Nat}{ag:Int}{sk sr:Sl}{rs:List Sl}{n:Nd}(h:gS F H base nb ag sk sr rs n)(d:∀b,X b->b<base\/b=nb):vG (λb=>F b\/X b) H sr rs n.rows:=by
 refine⟨h.rows.out,λb e u=>?_,h.rows.len,λi r l h1 f=>⟨λad c=>⟨?_,λu=>?_⟩,(h.rows.row i r l h1 f).ints⟩⟩
 ·have:=h.sr b e;rcases u with u|u
  ·exact this.2 u
  ·rcases d b u with v|v
   ·omega
   ·subst v;exact h.O3 e
 ·exact(h.rows.block.2 r (Qi h1) _ ⟨ad,c,rfl⟩).2
 ·have hr:=Qi h1;have:=h.rs r hr _ ⟨ad,c,rfl⟩;rcases u with (u|u)|u
  ·exact this.2 u
  ·rcases d _ u with v|v
   ·omega
   ·exact h.OQ r hr ⟨ad,c,v⟩
  ·exact(h.rows.row i r l h1 f).apart h.rows.out (by decide) _ ⟨ad,c,rfl⟩ u
theorem vG.ins {F:Nat->Prop}{H:aa}{s:Sl}{rs:List Sl}{ls:List (List Int)}{i:Nat}{l:Sl}{ll:List Int}{K:Sl->aa->Prop}(h:vG F H s rs ls)(E:fJ (λb=>F b\/al s b) H l ll)(G:∀b,F b->b<H.size)(hi:i<=ls.length)(N:ls.length<=1000000)
  (J:∀s' H',vG F H' s' (bj i l rs) (bj i ll ls)->Mod (al s) H H'->(∀b,al s' b->al s b\/H.size<=b)->K s' H'):
  aB H #[l.v] cv λp H1=>IF.sp s (i:Int) ⟨some p,1,1⟩ H1 K:=by
 refine eO λp H1 O P v1 D=>?_;have hlen:=h.len;refine BA (h.out.ext D) (by
  intro u hu;obtain⟨r,_,rfl⟩:=QB.1 hu;rfl) v1 (λu=>by have:=(h.out.block _ u).2;omega) (by simp;omega) (by simp;omega) λs' H' R o1 m1 L=>?_
 rw[qI] at o1;have c:∀b,al s' b->al s b\/H.size<=b:=λb o=>(L b o).imp id λu=>by omega
 have d:Mod (al s) H H':=(Ext.mod D).trans m1;refine J s' H' ⟨o1,λb o u=>?_,by rw[aX,aX,hlen],λj r y h1 e=>?_⟩ d c
 ·rcases c b o with v|v
  ·exact h.outF b v u
  ·have:=G b u;omega
 ·have key:fJ (λb=>F b\/al s b) H r y:=by
   rw[wR (by omega)] at h1 e;split at h1
   ·rename_i z;rw[if_pos z] at e;exact h.row j r y h1 e
   ·rename_i z;rw[if_neg z] at e;split at h1
    ·rename_i f;rw[if_pos f] at e;cases h1;cases e;exact E
    ·rename_i f;rw[if_neg f] at e;exact h.row (j - 1) r y h1 e
  exact key.step ⟨d.mono λ_ _ u=>.inr u,λb o=>by
   rcases o with u|u
   ·exact .inl (.inl u)
   ·exact(c b u).imp .inr id⟩
theorem vJ {W:Nat}{n:Nd}(d:W<=16)(i:∀l∈n.rows,l.length=W)(h1:1<=n.rows.length)
  (h:(n.kids=[]/\(n.rows.length - 1)*(aK (W:Int)).toNat<=504)\/(n.kids.length=n.rows.length+1/\2+4*(n.kids.length - 1)+(n.rows.length - 1)*(aK (W:Int)).toNat<=504)):
  (∀above,(0<above->n.kids≠[])->(above=0->n.kids=[])->n.full W above=false->n.bytes.length<=504)/\(∀above,n.full W above=true->2<=n.rows.length->n.left.bytes.length<=504/\n.right.bytes.length<=504):=by
 obtain⟨f1,f2,f3,f4⟩:=mH d;obtain⟨s1,s2⟩:=qO d;have hs:=cq (W:Int);have r:1<=(aK (W:Int)).toNat:=by omega
 generalize hz:(aK (W:Int)).toNat=z at*;refine⟨λabove v y f=>?_,λabove f J=>?_⟩
 ·rw[Nd.da d i,hz];unfold Nd.full at f;simp only[Tf,Bool.and_eq_false_iff,decide_eq_false_iff_not] at f;obtain⟨g1,g2⟩:=f;by_cases hk:n.kids=[]
  ·rw[if_pos hk];have D:above=0:=by
    rcases R4 above with u|u
    ·exact u
    ·exact absurd hk (v u)
   have:=(f2 n.rows.length).1 (g1.resolve_left (by omega));omega
  ·rw[if_neg hk];have hr:=(h.resolve_left λu=>hk u.1).1;rcases (f1 n.kids.length).1 g2 with u|u
   ·have e:n.kids.length - 1=n.rows.length:=by omega
    rw[e] at u;omega
   ·omega
 ·have E:∀l∈n.left.rows,l.length=W:=λl hm=>i l (Rl hm);have hr:∀l∈n.right.rows,l.length=W:=λl hm=>i l (by
   unfold Nd.right at hm;split at hm<;>exact Rq hm)
  rw[Nd.da d E,Nd.da d hr,hz];have j:1<=n.rows.length/2:=by omega
  have c:n.rows.length/2<=n.rows.length - 1:=by omega
  have hmul:n.rows.length/2*z<=(n.rows.length - 1)*z:=Ra _ c;by_cases hk:n.kids=[]
  ·have G:n.left=⟨[],n.rows.take (n.rows.length/2)⟩:=by unfold Nd.left;rw[hk];rfl
   have e2:n.right=⟨[],n.rows.drop (n.rows.length/2)⟩:=by unfold Nd.right;rw[if_pos hk]
   have o:(n.rows.length - n.rows.length/2)*z<=(n.rows.length - 1)*z:=Ra _ (by omega);have K:(n.rows.length - 1)*z<=504:=by
    rcases h with u|u
    ·exact u.2
    ·rw[hk] at u;simp at u
   rw[G,e2];simp only[if_pos,Qw,QG,Nat.mul_zero,Ry];rw[SL (by omega)];omega
  ·obtain⟨L,N⟩:=h.resolve_left λu=>hk u.1;have e2:n.right=⟨n.kids.drop (n.rows.length/2+1),n.rows.drop (n.rows.length/2+1)⟩:=by unfold Nd.right;rw[if_neg hk]
   have o:(n.rows.length - (n.rows.length/2+1))*z<=(n.rows.length - 1)*z:=Ra _ (by omega);rw[e2];unfold Nd.left;simp only[Qw,QG];rw[SL (by omega),SL (by omega)];constructor<;>split<;>omega
end Go.Proofs.YtkehfflpbpdokaaGreatDoor
namespace Go.Proofs.YtkehfflpbpdokaaGreatDoor
section
variable {x x':St}{W depth:Nat}
theorem Tn.lt:∀{a ag:Nat} {s:Span} {L:List (List Int)} {P:List Nat},Tn x W depth a ag s L P->∀p∈P,p<x.N
 |0,ag,s,L,P,h=>by
   have h':=h.ag;obtain⟨n,h1,e,l,d⟩:=h;rw[d];intro p c;rw[List.mem_singleton] at c;rw[c];exact h'.2
 |a+1,ag,s,L,P,h=>by
   have h':=h.ag;obtain⟨n,Ls,Ps,h1,e,⟨o,r,u,f⟩,d,j⟩:=h;rw[j];intro p c;rcases Qs.1 c with q|q
   ·rw[q];exact h'.2
   ·obtain⟨i,hi,hm⟩:=nq q;exact Tn.lt (f i (by omega)) p hm
theorem wN {x:St}{a ag d d':Nat}{s:Span}{w:Int}{n:Nd}(h:x.node w d a ag s=some n)(hr:n.rows≠[]):x.node w d' a ag s=some n:=by
 unfold St.node at h ⊢;split at h
 ·rename_i j;rw[if_pos j];unfold gY at h ⊢;have key:∀(kids:List Nat) (b:List UInt8),dI w d s kids b=some n->dI w d' s kids b=some n:=by
   intro kids b c;have e2:=(kO c).2.1;unfold dI at c ⊢;split at c
   ·cases c
   ·rename_i h1;rw[if_neg h1];split at c
    ·cases c
    ·rename_i l;rw[if_neg]
     ·exact c
     ·rintro(q|⟨q,_⟩)
      ·exact l (.inl q)
      ·exact hr (e2.trans q)
  split at h
  ·rename_i e;rw[if_pos e];exact key _ _ h
  ·rename_i e;rw[if_neg e];split at h
   ·rename_i f;rw[if_pos f];split at h
    ·cases h
    ·rename_i i;rw[if_neg i];exact key _ _ h
   ·cases h
 ·cases h
theorem Nd.pO.deep {n:Nd}{W d d' a:Nat}{s:Span}(h:n.pO W d a s)(hr:n.rows≠[]):n.pO W d' a s:=⟨h.leaf,h.inner,h.holds,λ_=>hr,h.cols,h.kids,h.fit⟩
theorem Tn.deep {d d':Nat}:∀{a ag:Nat} {s:Span} {L:List (List Int)} {P:List Nat},Tn x W d a ag s L P->(1<d\/(a=0/\L≠[]))->Tn x W d' a ag s L P
 |0,ag,s,L,P,⟨n,h1,c,h,f⟩,hd=>by
   have hr:n.rows≠[]:=by
    rcases hd with q|⟨_,q⟩
    ·exact c.some_ q
    ·rw[<-h];exact q
   exact⟨n,wN h1 hr,c.deep hr,h,f⟩
 |a+1,ag,s,L,P,⟨n,Ls,Ps,h1,c,⟨j,l,o,r⟩,f,u⟩,hd=>by
   have e:1<d:=by rcases hd with q|⟨q,_⟩<;>omega
   have hr:n.rows≠[]:=c.some_ e;exact⟨n,Ls,Ps,wN h1 hr,c.deep hr,⟨j,l,o,λi hi=>(r i hi).deep (.inl e)⟩,f,u⟩
end
theorem uq {α:Type}{k:Nat}{v d:α}{l:List α}(h:k<=l.length)(i:Nat):(bj k v l).getD i d=if i<k then l.getD i d else if i=k then v else l.getD (i - 1) d:=by
 simp only[QM];rw[wR h];split
 ·rfl
 ·split<;>rfl
theorem wB {k:Nat}{v:List Int}{l:List (List Int)}(h:dG l)(hk:k<=l.length)(h1:∀i,i<k->gO (l.getD i []) v)(d:∀i,k<=i->i<l.length->gO v (l.getD i [])):dG (bj k v l):=by
 unfold bj dG;rw[List.pairwise_append];refine⟨h.sublist (YD _ _),Rf.2 ⟨λb c=>?_,h.sublist (YE _ _)⟩,λa e b c=>?_⟩
 ·obtain⟨i,hi,rfl⟩:=Rz.1 c;rw[QG] at hi;have:=d (k+i) (by omega) (by omega);rw[cN (by omega)] at this;rw[TE];exact this
 ·obtain⟨i,hi,rfl⟩:=Rz.1 e;rw[Qw] at hi;have g1:=h1 i (by omega);rw[cN (by omega)] at g1;rw[UP];rcases Qs.1 c with q|q
  ·rw[q];exact g1
  ·obtain⟨j,f,rfl⟩:=Rz.1 q;rw[QG] at f;have g2:=d (k+j) (by omega) (by omega);rw[cN (by omega)] at g2;rw[TE];exact bp g1 g2
theorem getD_take {α:Type}{l:List α}{n i:Nat}{d:α}(h:i<n):(l.take n).getD i d=l.getD i d:=by
 simp only[QM];rw[Rb,if_pos h]
theorem ki {α:Type}{l:List α}{n i:Nat}{d:α}:(l.drop n).getD i d=l.getD (n+i) d:=by
 simp only[QM];rw[Rr]
def nK (l:List Int)(L L':List (List Int)):Prop:=∀y,y∈L'↔y=l\/y∈L
theorem nK.frame {l:List Int}{L L' A B:List (List Int)}(h:nK l L L'):nK l (A++(L++B)) (A++(L'++B)):=by
 intro y;have:=h y;simp only[Qj]
 grind
structure lP (x x':St)(P P':List Nat):Prop where
 le:x.N<=x'.N
 aE:∀p,p<x.N->p∉P->x'.T p=x.T p
 nodup:P'.Nodup
 mem:∀p∈P',p∈P\/(x.N<=p/\p<x'.N)
 len:P'.length+x.N=P.length+x'.N
theorem lP.trans {x x' c:St}{P P' d:List Nat}(h:lP x x' P P')(k:lP x' c P' d):lP x c P d where
 le:=QZ h.le k.le
 aE p e f:=(k.aE p (QP e h.le) λq=>by
  rcases h.mem p q with u|u
  ·exact f u
  ·omega).trans (h.aE p e f)
 nodup:=k.nodup
 mem p e:=by
  have h1:=h.le;have i:=k.le;rcases k.mem p e with u|u
  ·rcases h.mem p u with v|v
   ·exact .inl v
   ·exact .inr (by omega)
  ·exact .inr (by omega)
 len:=by have:=h.len;have:=k.len;omega
theorem lP.frame {x x':St}{P P' X Y:List Nat}(h:lP x x' P P')(j:(X++(P++Y)).Nodup)(l:∀p∈X++(P++Y),p<x.N):lP x x' (X++(P++Y)) (X++(P'++Y)) where
 le:=h.le
 aE p c i:=h.aE p c λu=>i (by simp[u])
 nodup:=by
  have key:∀p∈P',p∉P->x.N<=p:=λp c i=>by
   rcases h.mem p c with u|u
   ·exact absurd u i
   ·exact u.1
  rw[QY] at j ⊢;obtain⟨v,o,r⟩:=j;rw[QY] at o;obtain⟨y,n5,n6⟩:=o;refine⟨v,QY.2 ⟨h.nodup,n5,λa d b f=>?_⟩,λa d b f=>?_⟩
  ·intro e;subst e;by_cases q:a∈P
   ·exact n6 a q a f rfl
   ·have:=key a d q;have:=l a (by simp[f]);omega
  ·intro e;subst e;rcases Qj.1 f with u|u
   ·by_cases q:a∈P
    ·exact r a d a (by simp[q]) rfl
    ·have:=key a u q;have:=l a (by simp[d]);omega
   ·exact r a d a (by simp[u]) rfl
 mem p c:=by
  have:=h.mem p;simp only[Qj] at c ⊢
  grind
 len:=by
  have:=h.len;simp only[Qt];omega
theorem lP.cons {x x':St}{P P':List Nat}{p:Nat}(h:lP x x' P P')(c:(p::P).Nodup)(d:∀y∈p::P,y<x.N):lP x x' (p::P) (p::P'):=by
 have:=lP.frame (X:=[p]) (Y:=[]) h (by simpa using c) (by simpa using d);simpa using this
structure Nd.vz (n:Nd)(W above:Nat)(s:Span):Prop where
 leaf:above=0->n.kids=[]
 inner:0<above->n.kids.length=n.rows.length+1
 one:1<=n.rows.length
 holds:s.holds n.rows=true
 cols:∀l∈n.rows,l.length=W/\cO l
 kids:∀k∈n.kids,k<4294967296
 near:(n.kids=[]/\(n.rows.length - 1)*(aK (W:Int)).toNat<=504)\/(n.kids.length=n.rows.length+1/\2+4*(n.kids.length - 1)+(n.rows.length - 1)*(aK (W:Int)).toNat<=504)
theorem Tn.mk {x:St}{W depth a ag:Nat}{s:Span}{n:Nd}{L:List (List Int)}{Q:List Nat}(d:W<=16)(e:ag<x.N)(f:x.T ag=n.ag)(c:n.pO W depth a s)(h:Body x W depth a s n L Q):Tn x W depth a ag s L (ag::Q):=by
 refine Gq.2 ⟨n,Q,?_,c,h,rfl⟩;unfold St.node;rw[if_pos e,f];exact c.read d
theorem Body.congr {x x':St}{W depth a:Nat}{s:Span}{n:Nd}{L:List (List Int)}{Q:List Nat}(h:Body x W depth a s n L Q)(d:x.N<=x'.N)(e:∀p∈Q,x'.T p=x.T p):Body x' W depth a s n L Q:=by
 cases a with
 |zero=>exact h
 |succ a=>
   obtain⟨Ls,Ps,⟨f,j,l,o⟩,r,c⟩:=h;exact⟨Ls,Ps,⟨f,j,l,λi hi=>(o i hi).congr d λp u=>e p (by rw[c];exact oV u)⟩,r,c⟩
theorem Jp {s:Span}{n:Nd}{i:Nat}(hi:i<=n.rows.length/2)(e:1<=n.rows.length):Span.of ⟨s.low,some n.up⟩ n.left i=s.of n i:=by
 have c:n.left.rows=n.rows.take (n.rows.length/2):=rfl;have d:n.left.rows.length=n.rows.length/2:=by rw[c,Qw];omega
 unfold Span.of;rw[d];congr 1
 ·split
  ·rw[c,getD_take (by omega)]
  ·rfl
 ·rw[if_pos (show i<n.rows.length by omega)];split
  ·rw[c,getD_take (by omega)]
  ·rw[show i=n.rows.length/2 by omega];rfl
theorem Gi {s:Span}{n:Nd}{i:Nat}(hk:n.kids≠[])(e:1<=n.rows.length):Span.of ⟨some n.up,s.high⟩ n.right i=s.of n (n.rows.length/2+1+i):=by
 have c:n.right.rows=n.rows.drop (n.rows.length/2+1):=by unfold Nd.right;rw[if_neg hk]
 have d:n.right.rows.length=n.rows.length - (n.rows.length/2+1):=by rw[c,QG]
 unfold Span.of;rw[d];congr 1
 ·rw[if_pos (show 0<n.rows.length/2+1+i by omega)];split
  ·rw[c,ki,show n.rows.length/2+1+(i - 1)=n.rows.length/2+1+i - 1 by omega]
  ·rw[show i=0 by omega];rfl
 ·by_cases q:i<n.rows.length - (n.rows.length/2+1)
  ·rw[if_pos q,if_pos (by omega),c,ki]
  ·rw[if_neg q,if_neg (by omega)]
theorem Body.cut {x:St}{W depth a:Nat}{s:Span}{n:Nd}{L:List (List Int)}{Q:List Nat}(h:Body x W depth a s n L Q)(u:n.vz W a s)(v:2<=n.rows.length):
  ∃L1 L2 j l,Body x W depth a ⟨s.low,some n.up⟩ n.left L1 j/\Body x W depth a ⟨some n.up,s.high⟩ n.right L2 l/\L=L1++L2/\Q=j++l/\(a=0->L1≠[]/\L2≠[]):=by
 cases a with
 |zero=>
   obtain⟨h1,e,f⟩:=h;have d:n.right=⟨[],n.rows.drop (n.rows.length/2)⟩:=by unfold Nd.right;rw[if_pos h1]
   refine⟨n.rows.take (n.rows.length/2),n.rows.drop (n.rows.length/2),[],[],⟨by unfold Nd.left;rw[h1];simp,rfl,rfl⟩,?_,by rw[e,RP],f,λ_=>⟨?_,?_⟩⟩
   ·rw[d];exact⟨rfl,rfl,rfl⟩
   ·intro q;have:=congrArg Uc q;rw[Qw,R7] at this;omega
   ·intro q;have:=congrArg Uc q;rw[QG,R7] at this;omega
 |succ a=>
   obtain⟨Ls,Ps,⟨o,y,z,r⟩,e,f⟩:=h;have hk:n.kids≠[]:=by intro q;rw[q] at o;simp at o
   have d:n.right=⟨n.kids.drop (n.rows.length/2+1),n.rows.drop (n.rows.length/2+1)⟩:=by unfold Nd.right;rw[if_neg hk]
   have el:n.left=⟨n.kids.take (n.rows.length/2+1),n.rows.take (n.rows.length/2)⟩:=rfl;refine⟨(Ls.take (n.rows.length/2+1)).flatten,(Ls.drop (n.rows.length/2+1)).flatten,(Ps.take (n.rows.length/2+1)).flatten,(Ps.drop (n.rows.length/2+1)).flatten,⟨_,_,⟨?_,?_,?_,λi hi=>?_⟩,rfl,rfl⟩,⟨_,_,⟨?_,?_,?_,λi hi=>?_⟩,rfl,rfl⟩,?_,?_,λq=>by omega⟩
   ·rw[el];simp only[Qw];omega
   ·rw[el];simp only[Qw];omega
   ·rw[el];simp only[Qw];omega
   ·have c:i<n.rows.length/2+1:=by
     rw[el] at hi;simp only[Qw] at hi;omega
    rw[Jp (by omega) (by omega),getD_take c,getD_take c];have:=r i (by omega);rw[el]
    rwa [getD_take c]
   ·rw[d];simp only[QG];omega
   ·rw[d];simp only[QG];omega
   ·rw[d];simp only[QG];omega
   ·have c:n.rows.length/2+1+i<n.kids.length:=by
     rw[d] at hi;simp only[QG] at hi;omega
    rw[Gi hk (by omega),ki,ki];have:=r _ c;rw[d]
    rwa [ki]
   ·rw[e,<-Vf,RP]
   ·rw[f,<-Vf,RP]
theorem ze {x:St}{p:Nat}{c d:List Nat}(f:(p::(c++d)).Nodup)(h:∀y∈p::(c++d),y<x.N):((p::c)++(x.N::d)).Nodup:=by
 have e:((p::c)++(x.N::d)).Perm (x.N::(p::(c++d))):=List.perm_middle;refine e.nodup_iff.2 (Rp.2 ⟨λq=>?_,f⟩);have:=h _ q;omega
theorem MI {n:Nd}{W a:Nat}{s:Span}(c:n.vz W a s)(l:2<=n.rows.length):s.Has n.up/\(∀b,s.low=some b->gO b n.up)/\n.up.length=W/\cO n.up:=by
 obtain⟨o,d⟩:=du.1 c.holds;have hk:n.rows.length/2<n.rows.length:=by omega
 have e:n.up=n.rows[n.rows.length/2]:=cN hk;have hm:n.up∈n.rows:=by rw[e];exact Qn _
 refine⟨d _ hm,λb f=>?_,c.cols _ hm⟩;have h:=(d _ (Qn (show 0<n.rows.length by omega))).1 b f;have h1:=dv (bP c.holds) (i:=0) (j:=n.rows.length/2) (by omega) hk;rw[cN (by omega)] at h1;exact Od h h1
inductive zf (x:St)(W depth a ag:Nat)(s:Span)(l:List Int)(L:List (List Int))(P:List Nat)(N1:Nat):MH->Prop
 |put {x':St} {L':List (List Int)} {P':List Nat}:Tn x' W depth a ag s L' P'->nK l L L'->lP x x' P P'->x'.N<=N1->zf x W depth a ag s l L P N1 (.ok true none x')
 |cut {x':St} {g:Nat} {up:List Int} {L1 L2:List (List Int)} {P1 P2:List Nat}:Tn x' W depth a ag ⟨s.low,some up⟩ L1 P1->Tn x' W depth a g ⟨some up,s.high⟩ L2 P2->nK l L (L1++L2)->lP x x' P (P1++P2)->s.Has up->(∀b,s.low=some b->gO b up)->up.length=W->cO up->(a=0->L1≠[]/\L2≠[])->x'.N<=N1+1->zf x W depth a ag s l L P N1 (.ok true (some (g,up)) x')
theorem Nd.vz.Mb {n:Nd}{W depth a:Nat}{s:Span}(h:n.vz W a s)(c:n.bytes.length<=504):n.pO W depth a s:=
 ⟨h.leaf,λq=>⟨h.inner q,h.one⟩,h.holds,λ_ q=>by have:=h.one;rw[q] at this;simp at this,h.cols,h.kids,c⟩
theorem Ar {l:List (List Int)}(h:dG l)(k:Nat):dG (l.take k):=h.sublist (YD _ _)
theorem zk {l:List (List Int)}(h:dG l)(k:Nat):dG (l.drop k):=h.sublist (YE _ _)
theorem ED {n:Nd}{W depth a:Nat}{s:Span}(h:n.vz W a s)(y:2<=n.rows.length)(r:n.left.bytes.length<=504):n.left.pO W depth a ⟨s.low,some n.up⟩:=by
 have f:n.left.rows=n.rows.take (n.rows.length/2):=rfl;have c:n.left.rows.length=n.rows.length/2:=by rw[f,Qw];omega
 have o:n.left.kids=n.kids.take (n.rows.length/2+1):=rfl;obtain⟨u,v⟩:=du.1 h.holds;refine⟨λq=>by rw[o,h.leaf q];rfl,λq=>⟨by rw[o,c,Qw,h.inner q];omega,by rw[c];omega⟩,du.2 ⟨Ar u _,λl d=>⟨(v l (Rl d)).1,λb e=>?_⟩⟩,λ_ q=>by rw[q] at c;simp at c;omega,λl d=>h.cols l (Rl d),λk hk=>h.kids k (Rl hk),r⟩;have e:n.up=b:=Qq e;rw[<-e];obtain⟨i,hi,rfl⟩:=Rz.1 d;rw[c] at hi;have:=dv (bP h.holds) (i:=i) (j:=n.rows.length/2) hi (by omega);rw[cN (by omega)] at this;simp only[f,UP];exact this
theorem Cq {n:Nd}{W depth a:Nat}{s:Span}(h:n.vz W a s)(z:2<=n.rows.length)(o:0<a->3<=n.rows.length)(d:n.right.bytes.length<=504):n.right.pO W depth a ⟨some n.up,s.high⟩:=by
 obtain⟨r,v⟩:=du.1 h.holds;have above:∀i,n.rows.length/2<=i->i<n.rows.length->¬gO (n.rows.getD i []) n.up:=λi hi c q=>by
  rcases Q6 (n.rows.length/2) i with u|u
  ·exact bQ _ (bp q (dv (bP h.holds) u c))
  ·rw[show i=n.rows.length/2 by omega] at q;exact bQ _ q
 have sub:∀k,n.rows.length/2<=k->∀l∈n.rows.drop k,l∈n.rows/\¬gO l n.up:=λk hk l c=>by
  refine⟨Rq c,?_⟩;obtain⟨i,hi,rfl⟩:=Rz.1 c;rw[QG] at hi;have:=above (k+i) (by omega) (by omega);rw[cN (by omega)] at this;rw[TE];exact this
 have mk:∀k,n.rows.length/2<=k->Span.holds ⟨some n.up,s.high⟩ (n.rows.drop k)=true:=λk hk=>du.2 ⟨zk r _,λl c=>⟨λb e=>by
  have e:n.up=b:=Qq e;rw[<-e];exact(sub k hk l c).2,(v l (sub k hk l c).1).2⟩⟩
 by_cases hk:n.kids=[]
 ·have f:a=0:=by
   rcases R4 a with u|u
   ·exact u
   ·have:=h.inner u;rw[hk] at this;simp at this
  have j:n.right=⟨[],n.rows.drop (n.rows.length/2)⟩:=by unfold Nd.right;rw[if_pos hk]
  rw[j] at d ⊢;refine⟨λ_=>rfl,λq=>by omega,mk _ (Qm _),λ_ q=>?_,λl c=>h.cols l (Rq c),λk hk=>(by cases hk),d⟩;have:=congrArg Uc q;simp only[QG,R7] at this;omega
 ·have f:0<a:=by
   rcases R4 a with u|u
   ·exact absurd (h.leaf u) hk
   ·exact u
  have y:=h.inner f;have o:=o f;have j:n.right=⟨n.kids.drop (n.rows.length/2+1),n.rows.drop (n.rows.length/2+1)⟩:=by unfold Nd.right;rw[if_neg hk]
  rw[j] at d ⊢;refine⟨λq=>by omega,λq=>⟨by simp only[QG];omega,by simp only[QG];omega⟩,mk _ (by omega),λ_ q=>?_,λl c=>h.cols l (Rq c),λk hk=>h.kids k (Rq hk),d⟩;have:=congrArg Uc q;simp only[QG,R7] at this;omega
theorem Df {n:Nd}{W a:Nat}{s:Span}(d:W<=16)(h:n.vz W a s)(c:n.full W a=true):4<=n.rows.length:=by
 obtain⟨_,_,f3,f4⟩:=mH d;unfold Nd.full at c;simp only[Rm,Qz,decide_eq_true_eq] at c;rcases c with ⟨_,q⟩|q
 ·omega
 ·rcases R4 a with u|u
  ·rw[h.leaf u] at q;simp at q;omega
  ·have:=h.inner u;omega
theorem FC {x:St}{W q depth a ag:Nat}{s:Span}{n:Nd}{l:List Int}{L0 L:List (List Int)}{Q:List Nat}(j:W<=16)(d:n.vz W a s)(K:Body x W depth a s n L Q)(f:(ag::Q).Nodup)(h:∀p∈ag::Q,p<x.N)(N:x.N<q)(c:nK l L0 L):
  zf x W depth a ag s l L0 (ag::Q) x.N (x.fin W q a ag n):=by
 have i:ag<x.N:=h _ Qp;have o:ag∉Q:=(Rp.1 f).1;obtain⟨O,b2⟩:=vJ j (λl P=>(d.cols l P).1) d.one d.near;unfold St.fin;cases D:n.full W a with
 |false=>
   rw[if_neg (by simp)];have fit:=O a (λu v=>by have:=d.inner u;rw[v] at this;simp at this) d.leaf D;refine .put (L':=L) (P':=ag::Q) (Tn.mk j i (by unfold St.put;exact dJ _ _ _) (d.Mb fit) (K.congr (Qm _) λp c=>?_)) c ⟨Qm _,λp _ c=>?_,f,λp c=>.inl c,rfl⟩ (Qm _)
   ·unfold St.put;exact cd λe=>o (e▸c)
   ·unfold St.put;exact cd λe=>c (e▸Qp)
 |true=>
   rw[if_pos rfl,if_pos N];have Y:=Df j d D;obtain⟨c1,c2⟩:=b2 a D (by omega);obtain⟨L1,L2,y,z,g1,g2,rfl,rfl,g5⟩:=K.cut d (by omega);obtain⟨R,S,V,X⟩:=MI d (by omega);have E:∀p,p≠ag->p≠x.N->((x.more n.right).put ag n.left).T p=x.T p:=λp h1 G=>by
    unfold St.put St.more;exact(cd h1).trans (cd G)
   have r:∀p∈y++z,p≠ag/\p≠x.N:=λp c=>⟨λe=>o (e▸c),λe=>by have:=h p (Qu _ c);omega⟩;refine .cut (L1:=L1) (L2:=L2) (P1:=ag::y) (P2:=x.N::z) (Tn.mk j (by show ag<x.N+1;omega) (by unfold St.put;exact dJ _ _ _) (ED d (by omega) c1) (g1.congr (Ri _) λp c=>?_)) (Tn.mk j (U7 _) ?_ (Cq d (by omega) (λ_=>by omega) c2) (g2.congr (Ri _) λp c=>?_)) c ⟨Ri _,λp h1 G=>?_,ze f h,λp c=>?_,?_⟩ R S V X g5 (Qm _)
   ·obtain⟨J,e2⟩:=r p (Qj.2 (.inl c));exact E p J e2
   ·unfold St.put St.more;exact(cd (by omega)).trans (dJ _ _ _)
   ·obtain⟨J,e2⟩:=r p (Qj.2 (.inr c));exact E p J e2
   ·exact E p (λe=>G (e▸Qp)) (by omega)
   ·rcases Qj.1 c with u|u
    ·refine .inl ?_;rcases Qs.1 u with v|v
     ·rw[v];exact Qp
     ·exact Qu _ (Qj.2 (.inl v))
    ·rcases Qs.1 u with v|v
     ·exact .inr ⟨by omega,by show p<x.N+1;omega⟩
     ·exact .inl (Qu _ (Qj.2 (.inr v)))
   ·show (ag::y++x.N::z).length+x.N=(ag::(y++z)).length+(x.N+1);simp only[Qt,QJ];omega
theorem Eg {n:Nd}{W depth:Nat}{s:Span}{l:List Int}(o:W<=16)(h:n.pO W depth 0 s)(d:l.length=W/\cO l)(hs:s.Has l)(r:sameAt n.rows l=false):l∉n.rows/\(Nd.mk n.kids (bj (below l n.rows) l n.rows)).vz W 0 s:=by
 have hk:=h.leaf rfl;obtain⟨v,z⟩:=du.1 h.holds;have D:=jh l n.rows;have hr:=bP h.holds;have lo:∀i,i<below l n.rows->gO (n.rows.getD i []) l:=λi hi=>nc hi;have hi:∀i,below l n.rows<=i->i<n.rows.length->gO l (n.rows.getD i []):=by
  intro i h1 E;have e:n.child l=below l n.rows:=by unfold Nd.child;rw[r];rfl
  exact uh hr (by omega) E
 have c:l∉n.rows:=by
  intro hm;obtain⟨i,h1,e⟩:=Rz.1 hm;have e:n.rows.getD i []=l:=(cN h1).trans e;rcases Q6 i (below l n.rows) with u|u
  ·have:=lo i u;rw[e] at this;exact bQ _ this
  ·have:=hi i u h1;rw[e] at this;exact bQ _ this
 refine⟨c,λ_=>hk,λq=>by omega,by rw[aX];omega,du.2 ⟨wB v D lo hi,λy f=>?_⟩,λy f=>?_,λk j=>h.kids k j,.inl ⟨hk,?_⟩⟩
 ·rcases fu.1 f with u|u
  ·exact z y u
  ·rw[u];exact hs
 ·rcases fu.1 f with u|u
  ·exact h.cols y u
  ·rw[u];exact d
 ·rw[aX];have:=h.fit;rw[Nd.da o λl d=>(h.cols l d).1,if_pos hk] at this;simp only[TT];omega
theorem DL {n:Nd}{s:Span}{l:List Int}(hr:jE n.rows=true)(hs:s.Has l):(s.of n (n.child l)).Has l:=by
 have f:=ko (n:=n) (l:=l);constructor
 ·intro a c;unfold Span.of at c;simp only at c;split at c
  ·rename_i e;have c:n.rows.getD (n.child l - 1) []=a:=Qq c;rw[<-c];intro q;unfold Nd.child at q e;split at q
   ·rename_i d;rw[TT,(cS.1 d).2] at q;exact bQ _ q
   ·rename_i d;rw[if_neg d] at e;exact bQ _ (bp q (nc (by omega)))
  ·exact hs.1 a c
 ·intro a c;unfold Span.of at c;simp only at c;split at c
  ·rename_i e;have c:n.rows.getD (n.child l) []=a:=Qq c;rw[<-c];exact uh hr (Qm _) e
  ·exact hs.2 a c
theorem sJ {α:Type}{Ls:List (List α)}{c:Nat}(h:c<Ls.length):Ls.flatten=(Ls.take c).flatten++(Ls.getD c []++(Ls.drop (c+1)).flatten):=by
 conv=>lhs;rw[<-RP c Ls]
 rw[Vf,RG h,Ua,QM,Qg h];rfl
theorem wV {α:Type}{Ps:List (List α)}(c:Ps.flatten.Nodup){i j:Nat}(hi:i<Ps.length)(d:j<Ps.length)(h:i≠j){p:α}(h1:p∈Ps.getD i [])(e:p∈Ps.getD j []):False:=by
 unfold List.Nodup at c;rw[X6] at c;have f:=Ta.1 c.2;rw[QM,Qg hi] at h1;rw[QM,Qg d] at e;rcases Q6 i j with u|u
 ·exact f i j hi d u p h1 p e rfl
 ·exact f j i d hi (by omega) p e p h1 rfl
section
variable {x:St}{W depth:Nat}
theorem IK.one {x x':St}{a c:Nat}{s:Span}{n:Nd}{Ls:List (List (List Int))}{Ps:List (List Nat)}{L':List (List Int)}{P':List Nat}(h:IK (Tn x W depth a) s n Ls Ps)(z:c<n.kids.length)(d:Ps.flatten.Nodup)(g:lP x x' (Ps.getD c []) P')(l:Tn x' W depth a (n.kids.getD c 0) (s.of n c) L' P'):
  IK (Tn x' W depth a) s n (Ls.take c++L'::Ls.drop (c+1)) (Ps.take c++P'::Ps.drop (c+1)):=by
 obtain⟨o,D,E,f⟩:=h;refine⟨o,by simp only[Qt,Qw,QJ,QG];omega,by simp only[Qt,Qw,QJ,QG];omega,λi hi=>?_⟩;have r:Ls.take c++L'::Ls.drop (c+1)=Ls.set c L':=(Vy ..).trans (if_pos (by omega)) |>.symm;have v:Ps.take c++P'::Ps.drop (c+1)=Ps.set c P':=(Vy ..).trans (if_pos (by omega)) |>.symm;rw[r,v];by_cases e:i=c
 ·subst e;simp only[QM,XN (show i<Ls.length by omega),XN (show i<Ps.length by omega),Sw];exact l
 ·have y:(Ls.set c L').getD i []=Ls.getD i []:=by simp only[QM,Yh (SI e)]
  have e2:(Ps.set c P').getD i []=Ps.getD i []:=by simp only[QM,Yh (SI e)]
  rw[y,e2];refine(f i hi).congr g.le λp j=>g.aE p ((f i hi).lt p j) λu=>?_;exact wV d (show i<Ps.length by omega) (show c<Ps.length by omega) e j u
theorem yI {α:Type}{l:List α}{c:Nat}{u v d:α}(h:c<l.length)(i:Nat):(l.take c++u::v::l.drop (c+1)).getD i d=if i<c then l.getD i d else if i=c then u else if i=c+1 then v else l.getD (i - 1) d:=by
 simp only[QM];split
 ·rename_i hi;rw[QR (by rw[Qw];omega),Rb,if_pos hi]
 ·rename_i hi;rw[Re (by rw[Qw];omega),Qw,SL (by omega)];split
  ·rename_i e;subst e;rw[UT];rfl
  ·rename_i e;split
   ·rename_i e2;subst e2;rw[show c+1 - c=1 by omega];rfl
   ·obtain⟨j,f⟩:∃j,i - c=j+1+1:=⟨i - c - 2,by omega⟩;rw[f,RD,RD,Rr,show c+1+j=i - 1 by omega]
theorem MA {s:Span}{n:Nd}{c g:Nat}{up:List Int}(r:c<=n.rows.length)(i:Nat)(hi:i<=n.rows.length+1):
  s.of ⟨bj (c+1) g n.kids,bj c up n.rows⟩ i=if i<c then s.of n i else if i=c then ⟨(s.of n c).low,some up⟩ else if i=c+1 then ⟨some up,(s.of n c).high⟩ else s.of n (i - 1):=by
 unfold Span.of;simp only[aX,uq r];by_cases h1:i<c
 ·have d:i - 1<c:=by omega
  have e2:i<n.rows.length+1:=by omega
  have e:i<n.rows.length:=by omega
  simp only[h1,d,e2,e,if_true]
 ·by_cases h:i=c
  ·subst h;have e2:i<n.rows.length+1:=by omega
   simp only[h1,e2,if_true,if_false,Span.mk.injEq,and_true];split
   ·rw[if_pos (by omega)]
   ·rfl
  ·by_cases l:i=c+1
   ·subst l;have d:0<c+1:=by omega
    have e2:¬c+1 - 1<c:=by omega
    have e:c+1 - 1=c:=by omega
    by_cases j:c<n.rows.length
    ·have f:c+1<n.rows.length+1:=by omega
     simp only[h1,h,d,e,j,f,Yk,if_true,if_false]
    ·have f:¬c+1<n.rows.length+1:=by omega
     simp only[h1,h,d,e,j,f,Yk,if_true,if_false]
   ·have d:0<i:=by omega
    have e2:0<i - 1:=by omega
    have e:¬i - 1<c:=by omega
    have f:¬i - 1=c:=by omega
    by_cases j:i - 1<n.rows.length
    ·have o:i<n.rows.length+1:=by omega
     simp only[h1,h,l,d,e2,e,f,o,j,if_true,if_false]
    ·have o:¬i<n.rows.length+1:=by omega
     simp only[h1,h,l,d,e2,e,f,o,j,if_true,if_false]
theorem IK.two {x x':St}{a c g:Nat}{s:Span}{n:Nd}{Ls:List (List (List Int))}{Ps:List (List Nat)}{L1 L2:List (List Int)}{P1 P2:List Nat}{up:List Int}(h:IK (Tn x W depth a) s n Ls Ps)(D:c<n.kids.length)(o:Ps.flatten.Nodup)(gr:lP x x' (Ps.getD c []) (P1++P2))
  (h1:Tn x' W depth a (n.kids.getD c 0) ⟨(s.of n c).low,some up⟩ L1 P1) (z:Tn x' W depth a g ⟨some up,(s.of n c).high⟩ L2 P2):
  IK (Tn x' W depth a) s ⟨bj (c+1) g n.kids,bj c up n.rows⟩ (Ls.take c++L1::L2::Ls.drop (c+1)) (Ps.take c++P1::P2::Ps.drop (c+1)):=by
 obtain⟨E,G,J,r⟩:=h;refine⟨by simp only[aX];omega,by simp only[Qt,Qw,QJ,QG,aX];omega,by simp only[Qt,Qw,QJ,QG,aX];omega,λi hi=>?_⟩;simp only[aX] at hi;rw[MA (by omega) i (by omega),yI (by omega),yI (by omega)];simp only[uq (show c+1<=n.kids.length by omega)];have old:∀j,j<n.kids.length->j≠c->Tn x' W depth a (n.kids.getD j 0) (s.of n j) (Ls.getD j []) (Ps.getD j []):=λj v e=>by
  refine(r j v).congr gr.le λp y=>gr.aE p ((r j v).lt p y) λu=>?_;exact wV o (show j<Ps.length by omega) (show c<Ps.length by omega) e y u
 by_cases f:i<c
 ·rw[if_pos f,if_pos f,if_pos f,if_pos (show i<c+1 by omega)];exact old i (by omega) (by omega)
 ·rw[if_neg f,if_neg f,if_neg f];by_cases l:i=c
  ·subst l;rw[if_pos rfl,if_pos rfl,if_pos rfl,if_pos (show i<i+1 by omega)];exact h1
  ·rw[if_neg l,if_neg l,if_neg l,if_neg (show ¬i<c+1 by omega)];by_cases d:i=c+1
   ·rw[if_pos d,if_pos d,if_pos d,if_pos d];exact z
   ·rw[if_neg d,if_neg d,if_neg d,if_neg d];exact old (i - 1) (by omega) (by omega)
theorem Hk {q:Nat}{l:List Int}(T:W<=16)(hl:l.length=W/\cO l):∀{a:Nat} {x:St} {ag:Nat} {s:Span} {L:List (List Int)} {P:List Nat},Tn x W depth a ag s L P->P.Nodup->s.Has l->x.N+a<q->x.N+a<4294967296->
  (l∈L/\x.add W q depth l a ag s=.ok false none x)\/(l∉L/\zf x W depth a ag s l L P (x.N+a) (x.add W q depth l a ag s))
 |0,x,ag,s,L,P,K,o,hs,hq,hN=>by
   have j:=K.lt;have V:=K.ag;obtain⟨n,h1,f,h3,h4⟩:=K;subst h3;subst h4;unfold St.add;rw[h1];cases E:sameAt n.rows l with
   |true=>
     refine .inl ⟨?_,if_pos E⟩;obtain⟨u1,u2⟩:=cS.1 E;rw[cN u1] at u2;exact u2▸Qn _
   |false=>
     obtain⟨z,near⟩:=Eg T f hl hs E;refine .inr ⟨z,?_⟩;simp only[E,TO,if_false];refine FC (q:=q) (L0:=n.rows) (L:=bj (below l n.rows) l n.rows) (Q:=[]) T near ⟨f.leaf rfl,rfl,rfl⟩ o j (by omega) λy=>?_;rw[fu];exact Or.comm
 |a+1,x,ag,s,L,P,K,o,hs,hq,hN=>by
   have j:=K.lt;have V:=K.ag;obtain⟨n,Ls,Ps,h1,f,hk,h4,h5⟩:=K;obtain⟨k1,k2,k3,k4⟩:=hk;subst h4;subst h5;have d:=Rp.1 o;have hr:=bP f.holds;have G:=ko (n:=n) (l:=l);generalize hc:n.child l=c at G;have N:c<n.kids.length:=by omega
   have a6:=k4 c N;have O:(s.of n c).Has l:=hc▸DL hr hs;have eP:=sJ (Ls:=Ps) (c:=c) (by omega);have eL:=sJ (Ls:=Ls) (c:=c) (by omega);have a7:(Ps.getD c []).Nodup:=by
    have:=d.2;rw[eP] at this;exact(QY.1 (QY.1 this).2.1).1
   have ih:=Hk (q:=q) T hl a6 a7 O (by omega) (by omega);have z:l∉Ls.getD c []->l∉Ls.flatten:=by
    intro a8 hm;obtain⟨i,hi,Z⟩:=nq hm;have ae:=((k4 i (by omega)).rows.2 l Z).1;rcases Q6 i c with u|u
    ·exact bQ _ (sN f.holds u G ae O)
    ·rcases Q6 c i with v|v
     ·exact bQ _ (sN f.holds v (by omega) O ae)
     ·exact a8 (by rw[show c=i by omega];exact Z)
   have af:x.add W q depth l (a+1) ag s=match x.add W q depth l a (n.kids.getD c 0) (s.of n c) with
    |.ok _ (some m) x'=>x'.fin W q (a+1) ag ⟨bj (c+1) m.1 n.kids,bj c m.2 n.rows⟩
    |r=>r:=by
    conv=>lhs;unfold St.add
    rw[h1];simp only[hc]
    first|done|(generalize x.add W q depth l a (n.kids.getD c 0) (s.of n c)=r;rcases r with _|_|⟨_,_|_,_⟩<;>rfl)
   rw[af];have h:∀{x' P'},lP x x' (Ps.getD c []) P'->lP x x' Ps.flatten ((Ps.take c).flatten++(P'++(Ps.drop (c+1)).flatten)):=λ{x' P'} g=>by
    have:=lP.frame (X:=(Ps.take c).flatten) (Y:=(Ps.drop (c+1)).flatten) g (by rw[<-eP];exact d.2) (by rw[<-eP];exact λp hp=>j p (Qu _ hp))
    rwa [<-eP] at this
   have D:∀{L'},nK l (Ls.getD c []) L'->nK l Ls.flatten ((Ls.take c).flatten++(L'++(Ls.drop (c+1)).flatten)):=λ{L'} g=>by
    have:=nK.frame (A:=(Ls.take c).flatten) (B:=(Ls.drop (c+1)).flatten) g
    rwa [<-eL] at this
   have ba:ag∉Ps.getD c []:=λu=>d.1 (oV u);rcases ih with ⟨i1,i2⟩|⟨i1,i2⟩
   ·rw[i2];exact .inl ⟨oV i1,rfl⟩
   ·refine .inr ⟨z i1,?_⟩;generalize bA:x.add W q depth l a (n.kids.getD c 0) (s.of n c)=r at i2;cases i2 with
    |put t1 p1 g1 n1=>
      rename_i x' L' P';have S:=(h g1).cons o j;have R:=IK.one ⟨k1,k2,k3,k4⟩ N d.2 g1 t1;refine .put (L':=(Ls.take c).flatten++(L'++(Ls.drop (c+1)).flatten)) (P':=ag::((Ps.take c).flatten++(P'++(Ps.drop (c+1)).flatten))) ?_ (D p1) S (by omega);exact⟨n,_,_,oh g1.le (g1.aE ag V.2 ba) h1,f,R,by simp,by simp⟩
    |cut t1 t2 p1 g1 u1 u2 u3 u4 u5 n1=>
      rename_i x' g up L1 L2 P1 P2;have S:=(h g1).cons o j;have R:=IK.two ⟨k1,k2,k3,k4⟩ N d.2 g1 t1 t2;have bB:=f.inner (UW _);obtain⟨q1,q2⟩:=du.1 f.holds;have bg:s.Has up:=Hc f.holds G u1;have near:(Nd.mk (bj (c+1) g n.kids) (bj c up n.rows)).vz W (a+1) s:=by
       refine⟨λu=>by omega,λ_=>by simp only[aX];omega,by simp only[aX];omega,du.2 ⟨wB q1 G (λi hi=>?_) (λi h6 h7=>?_),λy hy=>?_⟩,λy hy=>?_,λk hk=>?_,.inr ⟨by simp only[aX];omega,?_⟩⟩
       ·have e:(s.of n c).low=some (n.rows.getD (c - 1) []):=if_pos (by omega);have h8:=u2 _ e;rcases Q6 i (c - 1) with v|v
        ·exact bp (dv hr v (by omega)) h8
        ·rwa [show i=c - 1 by omega]
       ·have e:(s.of n c).high=some (n.rows.getD c []):=if_pos (by omega);have h8:=u1.2 _ e;rcases Q6 c i with v|v
        ·exact bp h8 (dv hr v h7)
        ·rwa [show i=c by omega]
       ·rcases fu.1 hy with v|v
        ·exact q2 y v
        ·rw[v];exact bg
       ·rcases fu.1 hy with v|v
        ·exact f.cols y v
        ·rw[v];exact⟨u3,u4⟩
       ·rcases fu.1 hk with v|v
        ·exact f.kids k v
        ·rw[v];have:=t2.ag.2;omega
       ·have hf:=f.fit;have bl:n.kids≠[]:=by intro v;rw[v] at k1;simp at k1
        rw[Nd.da T λl hl=>(f.cols l hl).1,if_neg bl] at hf;simp only[aX,TT];omega
      have bs:=S.nodup;have a1:∀p∈ag::((Ps.take c).flatten++((P1++P2)++(Ps.drop (c+1)).flatten)),p<x'.N:=λp hp=>by
       rcases S.mem p hp with v|v
       ·have:=j p v;have:=g1.le;omega
       ·exact v.2
      have hb:Body x' W depth (a+1) s ⟨bj (c+1) g n.kids,bj c up n.rows⟩ ((Ls.take c).flatten++((L1++L2)++(Ls.drop (c+1)).flatten)) ((Ps.take c).flatten++((P1++P2)++(Ps.drop (c+1)).flatten)):=⟨_,_,R,by simp,by simp⟩;have J:=FC (q:=q) (l:=l) (L0:=Ls.flatten) T near hb bs a1 (by omega) (D p1);show zf x W depth (a+1) ag s l Ls.flatten (ag::Ps.flatten) (x.N+(a+1)) (x'.fin W q (a+1) ag ⟨bj (c+1) g n.kids,bj c up n.rows⟩);generalize x'.fin W q (a+1) ag ⟨bj (c+1) g n.kids,bj c up n.rows⟩=r2 at J;cases J with
      |put f1 f2 f3 f4=>exact .put f1 f2 (S.trans f3) (by omega)
      |cut f1 f2 f3 f4 f5 f6 f7 f8 f9 f10=>exact .cut f1 f2 f3 (S.trans f4) f5 f6 f7 f8 f9 (by omega)
end
open Go.MapKept
theorem St.La {x:St}{w:Int}{q above ag:Nat}{n:Nd}{f:Bool}{o:Option (Nat×List Int)}{x':St}(h:x.fin w q above ag n=.ok f o x'):x.N<=x'.N:=by
 unfold St.fin at h;split at h
 ·split at h
  ·cases h;exact Ri _
  ·cases h
 ·cases h;exact Qm _
theorem St.Ih {x:St}{w:Int}{q depth:Nat}{l:List Int}:∀{above ag:Nat} {s:Span} {f:Bool} {o:Option (Nat×List Int)} {x':St},x.add w q depth l above ag s=.ok f o x'->x.N<=x'.N
 |0,ag,s,f,o,x',h=>by
   unfold St.add at h;split at h
   ·cases h
   ·split at h
    ·cases h;exact Qm _
    ·exact St.La h
 |above+1,ag,s,f,o,x',h=>by
   unfold St.add at h;split at h
   ·cases h
   ·split at h
    ·rename_i hr;exact QZ (St.Ih hr) (St.La h)
    ·exact St.Ih h
theorem Step.drop {F d e:Nat->Prop}{H A B:aa}{nb:Nat}(S:Step F d H A)(h:H.size<=nb)(T:Step (λb=>d b\/b=nb) (λb=>e b\/b=nb) A B):Step F e H B:=by
 have hz:=S.mod.size;refine⟨⟨by have:=T.mod.size;omega,λb c f=>?_⟩,λb c=>?_⟩
 ·rw[T.mod.same b (by omega) λu=>by
   rcases u with u|u
   ·rcases S.own b u with v|v
    ·exact f v
    ·omega
   ·omega]
  exact S.mod.same b c f
 ·rcases T.own b (.inl c) with u|u
  ·rcases u with u|u
   ·exact S.own b u
   ·exact .inr (by omega)
  ·exact .inr (by omega)
def uj (l:Sl)(b:Nat):Prop:=∃ad,l.a=some ad/\ad.block=b
section
variable {k p dp:Nat}{t:Tr}{q:Nat}{I:Pl->St->Nat->Prop}{B C:Pl->Int->Prop}{ll:List Int}{l:Sl}
def Ey (K:(Bool×Option Addr×Sl×Int)->aa->Prop)(W base:Nat)(l:Sl)(F:Nat->Prop)(H:aa)(fresh:Bool):Option (Nat×List Int)->Prop
 |none=>K (fresh,none,lV,0) H
 |some (pg,ul)=>ul.length=W->∀mb v1 v2 up,ab H mb rq #[.int .i64 (pg:Int),v1,v2]->¬F mb->base<=mb->fJ (λb=>F b\/(b<base/\¬uj l b)) H up ul->K (fresh,some ⟨mb,0,none⟩,up,0) H
set_option maxHeartbeats 4000000 in
theorem C5 {W above ag base:Nat}{F:Nat->Prop}{H:aa}{s:Pl}{x:St}{m nb:Nat}{sk sr:Sl}{n:Nd}{K:(Bool×Option Addr×Sl×Int)->aa->Prop}(S:jQ t.name q I B C)(hw:t.width=(W:Int))(hW:W<=16)
  (hI:I s x m) (hm:m+2<=30000000000) (hg:Gl H) (ht:aV H k p t) (hp:ax F H p dp s) (hk:¬F k) (eu:k<base) (ev:base<=nb) (ew:base<=H.size)
  (hn:dn (λb=>F b\/(b<base/\¬uj l b)) H nb (ag:Int) sk sr n) (c8:sk.n<=sk.c) (c9:sr.n<=sr.c) (dk:ag<x.N) (G:∀r∈n.rows,r.length=W) (h1:1<=n.rows.length)
  (d:(above=0/\n.kids=[]/\(n.rows.length - 1)*(aK (W:Int)).toNat<=504)\/(0<above/\n.kids.length=n.rows.length+1/\2+4*(n.kids.length - 1)+(n.rows.length - 1)*(aK (W:Int)).toNat<=504))
  (bg:∀fresh o x',x.fin t.width q above ag n=.ok fresh o x'->∀F' H' s',ax F' H' p dp s'->Step (λb=>F b\/b=nb) (λb=>F' b\/b=nb) H H'->I s' x' (m+2)->Ey K W base l F' H' fresh o)
  (bB:x.fin t.width q above ag n=.quota->∀F' H' s' e f o up,ax F' H' p dp s'->Step (λb=>F b\/b=nb) (λb=>F' b\/b=nb) H H'->B s' e->K (f,o,up,e) H')
  (bC:∀F' H' s' e f o up,ax F' H' p dp s'->Step (λb=>F b\/b=nb) (λb=>F' b\/b=nb) H H'->C s' e->K (f,o,up,e) H'):
  cut (Option Addr×Sl) (λZ=>∃O:aa->Prop,O H/\br ((above:Int)==(0:Int)) (ah (av nb) λb5=>bW au O (b5.add 2) λ(dt:Sl)=>ah (av k) λb6=>ld (ai .i64) H (b6.add 2) λ(b7:Int)=>HX.sp b7 H λ(dT:Int) bD=>O bD/\br (decide ((dt.n:Int)>dT)) (Be.sp (av k) (av nb) bD λ(L:(Option Addr×Sl×Int)) ae=>br (L.2.2!=(0:Int)) (K (false,none,(Sl.mk none 0 0),L.2.2) ae) (Z (L.1,L.2.1) ae)) (ah (av nb) λaf=>bW au O (af.add 1) λ(a1:Sl)=>E3.sp (av k) bD λ(bE:Int) P=>O P/\br (decide ((a1.n:Int)>bE)) (Be.sp (av k) (av nb) P λ(h:(Option Addr×Sl×Int)) a6=>br (h.2.2!=(0:Int)) (K (false,none,(Sl.mk none 0 0),h.2.2) a6) (Z (h.1,h.2.1) a6)) (Z (none,(Sl.mk none 0 0)) P))) (ah (av nb) λb8=>bW au O (b8.add 1) λ(b9:Sl)=>E3.sp (av k) H λ(cm:Int) bG=>O bG/\br (decide ((b9.n:Int)>cm)) (Be.sp (av k) (av nb) bG λ(V:(Option Addr×Sl×Int)) cA=>br (V.2.2!=(0:Int)) (K (false,none,(Sl.mk none 0 0),V.2.2) cA) (Z (V.1,V.2.1) cA)) (Z (none,(Sl.mk none 0 0)) bG))) λ(cB:(Option Addr×Sl)) ea=>yD.sp (av k) (av nb) ea λ(cF:Int) eb=>K (true,cB.1,cB.2,cF) eb:=by
 have bs:=hn.rows.len;have bA:sk.n=n.kids.length:=by have:=hn.kids.len;simpa using this
 have a7:k≠nb:=by omega
 have ey:=cq (W:Int);obtain⟨f1,f2,f3,f4⟩:=mH hW;obtain⟨s1,s2⟩:=qO hW;have hmul:n.rows.length - 1<=(n.rows.length - 1)*(aK (W:Int)).toNat:=Uv _ (by omega);have ec:n.rows.length<=505:=by rcases d with ⟨_,_,u⟩|⟨_,_,u⟩<;>omega
 have a8:n.kids.length<=504:=by
  rcases d with ⟨_,u,_⟩|⟨_,_,u⟩
  ·rw[u];simp
  ·omega
 have b0:n.kids=[]\/n.kids.length=n.rows.length+1:=by rcases d with ⟨_,u,_⟩|⟨_,u,_⟩;exact .inl u;exact .inr u
 have c0:(0<above->n.kids≠[])/\(above=0->n.kids=[]):=by
  rcases d with ⟨u,v,_⟩|⟨u,v,_⟩
  ·exact⟨λw=>by omega,λ_=>v⟩
  ·exact⟨λ_ w=>by rw[w] at v;simp at v,λw=>by omega⟩
 obtain⟨ed,c6⟩:=vJ hW G h1 (by rcases d with ⟨_,u⟩|⟨_,u⟩;exact .inl u;exact .inr u);have N:∀r∈n.rows,r.length<=16:=λr hr=>by rw[G r hr];exact hW
 unfold St.fin at bg bB;rw[hw] at bg bB
 -- the new node, cut off
 have Y:∀(J:Option Addr×Sl->aa->Prop) (A:aa),Ext H A->n.full W above=true->
   (x.N<q->∀F' H' s' mb v1 v2 up y E,ax F' H' p dp s'->Step (λb=>F b\/b=nb) (λb=>F' b\/b=nb) H H'->I s' (x.more n.right) (m+1)->dn (λb=>F' b\/(b<base/\¬uj l b)) H' nb (ag:Int) y E n.left->
    ab H' mb rq #[.int .i64 (x.N:Int),v1,v2]->¬F' mb->mb≠nb->base<=mb->fJ (λb=>(F' b\/(b<base/\¬uj l b))\/b=nb) H' up n.up->J (some ⟨mb,0,none⟩,up) H')->
   Be.sp (av k) (av nb) A λ(L:(Option Addr×Sl×Int)) ae=>br (L.2.2!=(0:Int)) (K (false,none,(Sl.mk none 0 0),L.2.2) ae) (J (L.1,L.2.1) ae):=by
  intro J A R j hJ;have h2:2<=n.rows.length:=by
   unfold Nd.full at j;simp only[Rm,Qz,decide_eq_true_eq] at j;rcases j with ⟨_,u⟩|u
   ·omega
   ·rcases b0 with v|v
    ·rw[v] at u;simp at u;omega
    ·omega
  have hq:=c6 above j h2;have ee:n.right.rows.length<=504:=by
   unfold Nd.right;split
   ·show (n.rows.drop _).length<=_;rw[QG];omega
   ·show (n.rows.drop _).length<=_;rw[QG];omega
  have eB:=R.size;have SA:Step (λb=>F b\/b=nb) (λb=>F b\/b=nb) H A:=.bX R;refine Ej (X:=λb=>b<base/\¬uj l b) S hI (by omega) (hg.mod R id) (ht.ext R) (hp.ext R) hk a7 (hn.step (.bX R)) c8 c9 h1 b0 hq.2 a8 (by omega) ee N (λhN F' H' s' mb v1 v2 up y E p1 T I1 n1 r1 c1 c2 c3 u1=>?_) (λhN F' H' s' e o up p1 T hB=>?_) (λF' H' s' e o up p1 T hC=>?_)
  ·refine az rfl ?_;exact hJ hN F' H' s' mb v1 v2 up y E p1 (SA.trans T) I1 n1 r1 c1 c2 (by omega) u1
  ·refine aT (by have:=(S.errB hB).1;simpa using this) ?_;refine bB ?_ F' H' s' e _ _ _ p1 (SA.trans T) hB;rw[if_pos j,if_neg hN]
  ·refine aT (by have:=(S.errC hC).1;simpa using this) ?_;exact bC F' H' s' e _ _ _ p1 (SA.trans T) hC
 obtain⟨JJ,bl⟩:∃JJ:Option Addr×Sl->aa->Prop,∀z A,JJ z A↔((n.full W above=true/\x.N<q/\∃F' s' mb v1 v2 up y E,z=(some (⟨mb,0,none⟩:Addr),up)/\ax F' A p dp s'/\Step (λb=>F b\/b=nb) (λb=>F' b\/b=nb) H A/\I s' (x.more n.right) (m+1)/\dn (λb=>F' b\/(b<base/\¬uj l b)) A nb (ag:Int) y E n.left/\
    ab A mb rq #[.int .i64 (x.N:Int),v1,v2]/\¬F' mb/\mb≠nb/\base<=mb/\fJ (λb=>(F' b\/(b<base/\¬uj l b))\/b=nb) A up n.up)\/(n.full W above=false/\z=(none,lV)/\Ext H A)):=⟨_,λ_ _=>Iff.rfl⟩
 refine⟨JJ,?_,?_⟩
 ·refine⟨λD=>Ext H D,.refl _ _,?_⟩;have ba:∀(A:aa),Ext H A->(decide (above=0)&&decide ((n.rows.length:Int)>mw W))=false->
    ah (av nb) λaf=>bW au (λD=>Ext H D) (af.add 1) λ(a1:Sl)=>E3.sp (av k) A λ(bE:Int) P=>Ext H P/\br (decide ((a1.n:Int)>bE)) (Be.sp (av k) (av nb) P λ(h:(Option Addr×Sl×Int)) a6=>br (h.2.2!=(0:Int)) (K (false,none,(Sl.mk none 0 0),h.2.2) a6) (JJ (h.1,h.2.1) a6)) (JJ (none,(Sl.mk none 0 0)) P):=by
   intro A R hr;unfold av;simp only[aw];refine ab.bW (c:=au) (i:=1) (x:=sk) (cs:=λ_=>#[.int .i64 (ag:Int),sk.v,sr.v]) (λD hD=>hn.row.ext hD) (λ_ _=>rfl) ?_;refine J6 (ht.ext R) hw hW λA2 e2=>?_;have b1:=R.trans e2;refine⟨b1,?_⟩;refine ao (λhc=>?_) (λhc=>?_)
   ·have j:n.full W above=true:=by
     unfold Nd.full;rw[hr,VC,<-bA];exact hc
    exact Y JJ A2 b1 j λhN F' H' s' mb v1 v2 up y E p1 T I1 n1 r1 c1 c2 c3 u1=>(bl _ _).2 (.inl ⟨j,hN,F',s',mb,v1,v2,up,y,E,rfl,p1,T,I1,n1,r1,c1,c2,c3,u1⟩)
   ·have j:n.full W above=false:=by
     unfold Nd.full;rw[hr,VC,<-bA];exact hc
    exact(bl _ _).2 (.inr ⟨j,rfl,b1⟩)
  refine ao (λhc=>?_) (λhc=>?_)
  ·have b3:above=0:=by
    have:(above:Int)=0:=by simpa using hc
    omega
   unfold av;simp only[aw];refine ab.bW (c:=au) (i:=2) (x:=sr) (cs:=λ_=>#[.int .i64 (ag:Int),sk.v,sr.v]) (λD hD=>hn.row.ext hD) (λ_ _=>rfl) ?_;refine ab.ld (c:=ai .i64) (i:=2) (x:=t.width) ht rfl ?_;rw[hw];refine oH ?_;refine⟨.refl _ _,?_⟩;refine ao (λb4=>?_) (λb4=>?_)
   ·have j:n.full W above=true:=by
     unfold Nd.full;rw[b3,<-bs,b4];rfl
    exact Y JJ H (.refl _ _) j λhN F' H' s' mb v1 v2 up y E p1 T I1 n1 r1 c1 c2 c3 u1=>(bl _ _).2 (.inl ⟨j,hN,F',s',mb,v1,v2,up,y,E,rfl,p1,T,I1,n1,r1,c1,c2,c3,u1⟩)
   ·exact ba H (.refl _ _) (by rw[<-bs,b4];simp)
  ·have b3:above≠0:=λu=>by subst u;simp at hc
   exact ba H (.refl _ _) (by simp[b3])
 ·intro z A hz;rcases (bl z A).1 hz with (⟨j,hN,F',s',mb,v1,v2,up,y,E,rfl,p1,T,I1,n1,r1,c1,c2,c3,u1⟩|⟨j,rfl,R⟩)
  ·have h2:2<=n.rows.length:=by
    unfold Nd.full at j;simp only[Rm,Qz,decide_eq_true_eq] at j;rcases j with ⟨_,u⟩|u
    ·omega
    ·rcases b0 with v|v
     ·rw[v] at u;simp at u;omega
     ·omega
   have hq:=c6 above j h2;have eg:¬F' k:=λu=>by
    rcases T.own k (.inl u) with v|v
    ·rcases v with v|v
     ·exact hk v
     ·exact a7 v
    ·omega
   have ei:aV A k p t:=ht.mod T.mod λu=>u.elim hk a7;have ej:Gl A:=hg.mod T.mod λu=>u.elim hp.eV λv=>by
    have q2:=hg 0 (by decide);rw[v] at q2;have:=dh (o:=0) hn.row (v:=.int .i64 (ag:Int)) rfl;rw[this] at q2;cases q2
   have ek:n.left.kids.length<=504:=by show (n.kids.take _).length<=_;rw[Qw];omega
   have en:n.left.rows.length<=504:=by show (n.rows.take _).length<=_;rw[Qw];omega
   refine uN S I1 (by omega) ej ei p1 eg a7 (n1.mono λb _ u=>.inl u) (by show ag<x.N+1;omega) hq.1 ek en (λr hr=>N r (Rl hr)) (λF3 H3 s3 p3 S3 I3 n3=>?_) (λF3 H3 s3 e p3 S3 c4 hC=>?_)
   ·have:=bg true (some (x.N,n.up)) ((x.more n.right).put ag n.left) (by rw[if_pos j,if_pos hN]) F3 H3 s3 p3 (T.trans S3) I3;have eo:n.up.length=W:=by
     unfold Nd.up;rw[cN (by omega)];exact G _ (Qn _)
    have r3:ab H3 mb rq #[.int .i64 (x.N:Int),v1,v2]:=r1.mod S3.mod λu=>u.elim c1 c2;have c5:¬F3 mb:=λu=>by
     rcases S3.own mb (.inl u) with v|v
     ·exact v.elim c1 c2
     ·have:=aI r1;omega
    have ep:Step (λb=>(F' b\/(b<base/\¬uj l b))\/b=nb) (λb=>(F3 b\/(b<base/\¬uj l b))\/b=nb) A H3:=S3.Of (λb _ u=>u.elim (λv=>.inl (.inl v)) .inr) λb u=>by
     rcases u with (u|u)|u
     ·exact .inl (.inl u)
     ·exact .inr (.inl (.inl (.inr u)))
     ·exact .inl (.inr u)
    exact this eo mb v1 v2 up r3 c5 c3 ((u1.step ep).mono λb _ u=>.inl u)
   ·exact bC F3 H3 s3 e _ _ _ p3 (T.trans S3) hC
  ·have SA:Step (λb=>F b\/b=nb) (λb=>F b\/b=nb) H A:=.bX R;have c7:=ed above c0.1 c0.2 j;have er:n.rows.length<=504:=by
    have hb:=Nd.da hW G;have et:n.rows.length<=n.rows.length*(aK (W:Int)).toNat:=Uv _ (by omega);omega
   refine uN S hI (by omega) (hg.mod R id) (ht.ext R) (hp.ext R) hk a7 ((hn.step (.bX R)).mono λb _ u=>.inl u) dk c7 a8 er N (λF3 H3 s3 p3 S3 I3 n3=>?_) (λF3 H3 s3 e p3 S3 c4 hC=>?_)
   ·exact bg true none (x.put ag n) (by rw[if_neg (by rw[j];simp)]) F3 H3 s3 p3 (SA.trans S3) (S.up I3 (by omega))
   ·exact bC F3 H3 s3 e _ _ _ p3 (SA.trans S3) hC
end
section
variable {k p dp:Nat}{t:Tr}{q:Nat}{I:Pl->St->Nat->Prop}{B C:Pl->Int->Prop}{x:St}{ll:List Int}{l:Sl}
theorem uc {W depth above:Nat}{w:Int}{n:Nd}{s:Span}(hw:w=(W:Int))(ok:n.Ok w depth above s):n.kids=[]/\above=0/\n.rows.length*(aK (W:Int)).toNat<=504\/0<above/\n.kids.length=n.rows.length+1/\2+4*n.kids.length+n.rows.length*(aK (W:Int)).toNat<=504:=by
 have c:=ok.fit;rw[hw] at c;rcases R4 above with h|h
 ·have hk:=ok.leaf h;rw[if_pos hk] at c;exact .inl ⟨hk,h,by omega⟩
 ·obtain⟨i1,i2,i3⟩:=ok.inner h;have hk:n.kids≠[]:=λu=>by rw[u] at i1;simp at i1
  rw[if_neg hk] at c;exact .inr ⟨h,i1,by omega⟩
set_option maxHeartbeats 1000000 in
theorem gS.Hs {F:Nat->Prop}{H:aa}{base z nb i:Nat}{ag:Int}{sk sr l0 J:Sl}{y:List Int}{rs:List Sl}{n:Nd}{Q:aa->Prop}(o:gS F H base nb ag sk sr rs n)(hz:z<=base)(hF:∀b,F b->b<H.size)(bs:z<=H.size)
  (L:fJ (λc=>F c\/(c<z/\¬uj l0 c)) H J y) (N:∀ad,J.a=some ad->¬al sr ad.block/\ad.block≠nb/\¬al sk ad.block) (hi:i<=n.rows.length) (R:n.rows.length<=1000000)
  (hQ:∀A f,ab A nb rq #[.int .i64 ag,sk.v,f.v]->dC (λc=>((F c\/(c<z/\¬uj l0 c))\/c=nb)\/al sk c) A f (bj i y n.rows)->f.n<=f.c->aA A 0 bT 1 sk ((n.kids.map Td).map (Ql .i64))->Mod (λc=>al sr c\/c=nb) H A->Q A):
  aB H #[J.v] cv λae H5=>IF.sp sr (i:Int) (Sl.mk (some ae) 1 1) H5 λ(af:Sl) H6=>st H6 (QS ⟨nb,0,none⟩ 2) af.v λH7=>Q H7:=by
 have bA:=o.nb;have hX:∀c,(c<z/\¬uj l0 c)->c<base\/c=nb:=λc u=>.inl (by omega);have qr:=o.q (X:=λc=>c<z/\¬uj l0 c) hX;have a1:fJ (λc=>(F c\/(c<z/\¬uj l0 c))\/al sr c) H J y:=by
  refine⟨λad D=>⟨(L.off ad D).1,λu=>?_⟩,L.ints⟩;rcases u with u|u
  ·exact(L.off ad D).2 u
  ·exact(N ad D).1 u
 refine qr.ins a1 (λc u=>?_) hi R λf A O S ba=>?_
 ·rcases u with u|u
  ·exact hF c u
  ·omega
 have a6:¬al sr nb:=o.O3;have rA:ab A nb rq #[.int .i64 ag,sk.v,sr.v]:=o.row.mod S a6;refine ab.st rA (i:=2) (by simp) rfl λA2 a7 E bB=>?_;have bC:=S.size;have qn:=O.Pn;have T:=O.out.cap;have K:∀c,al sk c->¬al sr c:=o.kids.apart o.rows.out (by decide);have G:aA A2 0 bT 1 sk ((n.kids.map Td).map (Ql .i64)):=(o.kids.mod S K).mod E λc u v=>o.OI (v▸u);have h:∀c,al f c->c≠nb:=λc u v=>by
  obtain⟨cur,V⟩:=O.out.obj _ u;rw[v] at V;exact absurd (aR V rA) (by decide)
 have Y:∀j (Z:j<(bj i y n.rows).length),∃ad r,f.a=some ad/\cg A (ad.add j)=some (Sl.v r)/\iL (λc=>((F c\/(c<z/\¬uj l0 c))\/c=nb)\/al sk c) A r/\Ints .u64 A r ((bj i y n.rows)[j]):=by
  intro j Z;have P:j<(bj i J rs).length:=by rw[O.len];exact Z
  obtain⟨ad,D,a8⟩:=O.out.reads.at (i:=j) (by simpa using P);have hr:=O.row j _ _ (Qg P) (Qg Z);refine⟨ad,_,D,by simpa using a8,λe d=>⟨(hr.off e d).1,λu=>?_⟩,hr.ints⟩;have hm:(bj i J rs)[j]∈rs\/(bj i J rs)[j]=J:=fu.1 (Qn P);rcases u with (u|u)|u
  ·exact(hr.off e d).2 (.inl u)
  ·rcases hm with v|v
   ·exact o.OQ _ v ⟨e,d,u⟩
   ·rw[v] at d;exact(N e d).2.1 u
  ·rcases hm with v|v
   ·obtain⟨lv,bg⟩:=o.rows.rowAt v;exact bg.apart o.kids (by decide) _ ⟨e,d,rfl⟩ u
   ·rw[v] at d;exact(N e d).2.2 u
 have bl:dC (λc=>((F c\/(c<z/\¬uj l0 c))\/c=nb)\/al sk c) A2 f (bj i y n.rows):=by
  refine⟨qn.len,λad D=>⟨by have:=(qn.off ad D).1;omega,λu=>?_⟩,λj Z=>?_⟩
  ·rcases u with (u|u)|u
   ·exact(qn.off ad D).2 u
   ·exact h _ ⟨ad,D,rfl⟩ u
   ·exact O.out.apart (o.kids.mod S K) (by decide) _ ⟨ad,D,rfl⟩ u
  ·obtain⟨ad,r,w1,w2,w3,w4⟩:=Y j Z;refine⟨ad,r,w1,E.cell w2 (by rw[cj];exact h _ ⟨ad,w1,rfl⟩),λe d=>⟨by have:=(w3 e d).1;omega,(w3 e d).2⟩,w4.mod E λe d u=>(w3 e d).2 (.inl (.inr u))⟩
 exact hQ A2 f a7 bl T G ((S.mono λ_ _ u=>.inl u).trans (E.mono λ_ _ u=>.inr u))
set_option maxHeartbeats 4000000 in
theorem J7 {W depth:Nat}(S:jQ t.name q I B C)(hw:t.width=(W:Int))(hW:W<=16)(hd:t.depth=(depth:Int))(c7:ll.length=W):∀(above ag:Nat) (sp:Span) (a b:Sl) (F:Nat->Prop) (H:aa) (s:Pl) (m:Nat) (K:(Bool×Option Addr×Sl×Int)->aa->Prop),
  I s x m->m+3*(above+1)<=30000000000->above<=1000000->Gl H->aV H k p t->ax F H p dp s->¬F k->ag<=1000000000000->fY F H a b sp->fJ F H l ll->
  (∀fresh o x',x.add t.width q depth ll above ag sp=.ok fresh o x'->∀F' H' s',ax F' H' p dp s'->Step F F' H H'->I s' x' (m+3*(above+1))->Ey K W H.size l F' H' fresh o)->
  (x.add t.width q depth ll above ag sp=.store->∀F' H' s',ax F' H' p dp s'->Step F F' H H'->I s' x (m+3*(above+1))->K (false,none,lV,280) H')->
  (x.add t.width q depth ll above ag sp=.quota->∀F' H' s' e f o up,ax F' H' p dp s'->Step F F' H H'->B s' e->K (f,o,up,e) H')->
  (∀F' H' s' e f o up,ax F' H' p dp s'->Step F F' H H'->C s' e->K (f,o,up,e) H')->GR.sp (av k) (ag:Int) (above:Int) a b l H K:=by
 intro above
 induction above with
 |zero=>
   intro ag sp a b F H s m K hI hm _ hg ht hp hk bs hs hl d J y af;refine GR.of ?_;unfold GR.vc;have hT:=(S.pre hI).2.2.2.2.2;refine aj λH1 z1 r1 e1=>?_;have bA:=aI ht;have T1:Step F F H H1:=.bX e1;refine ab.kN (c:=iD [au,au]) (x:=(a,b)) r1 rfl rfl ?_;unfold St.add at d J y;refine pT (above:=0) S hI (by omega) (hg.mod e1 id) (ht.ext e1) (hp.ext e1) hk bs (hs.step T1) hd (λn X G N s2 nb sk sr rs p2 S2 I2 o2=>?_) (λX G N s2 p2 S2 I2=>?_) (λG N s2 e p2 S2 hC=>?_)
   rotate_left
   ·refine aT rfl ?_;rw[X] at J;exact J rfl G N s2 p2 (T1.trans S2) (S.up I2 (by omega))
   ·refine aT (by have:=(S.errC hC).1;simpa using this) ?_;exact af G N s2 e _ _ _ p2 (T1.trans S2) hC
   refine az rfl ?_;rw[X] at d y;simp only at d y;have T2:=T1.trans S2;have hx:ag<x.N:=by
    unfold St.node at X;split at X
    ·assumption
    ·cases X
   have ok:=jS hT X;have bB:=ok.size;have c8:=ok.leaf rfl;have Y:∀r∈n.rows,r.length<=16:=λr hr=>by rw[ok.cols r hr,hw];simpa using hW
   have t2:aV N k p t:=(ht.ext e1).mod S2.mod hk;have cA:Gl N:=hg.mod T2.mod hp.eV;have bC:¬G k:=λu=>(T2.own _ u).elim hk λv=>by omega
   have c9:=T2.mod.size;have bD:=o2.nb;have l2:fJ G N l ll:=hl.step T2;have nr:=o2.read;refine⟨λ_ A=>sameAt n.rows ll=false/\∃E h,dn (λb=>G b\/(b<H.size/\¬uj l b)) A nb (ag:Int) E h ⟨n.kids,bj (below ll n.rows) ll n.rows⟩/\E.n<=E.c/\h.n<=h.c/\Step F G H A/\ax G A p dp s2,?_,?_⟩
   ·refine aT rfl ?_;unfold av;simp only[aw];refine ab.ld (c:=au) (i:=2) (x:=sr) nr.row rfl ?_;refine x9 nr.rows l2.ints (bP ok.holds) Y (by omega) ?_;refine ao (λhc=>?_) (λhc=>?_)
    ·have hc:sameAt n.rows ll=true:=hc;have:=d false none x (by rw[if_pos hc]) G N s2 p2 T2 (S.up I2 (by omega));exact this
    ·have hc:sameAt n.rows ll=false:=hc;refine ab.ld (c:=au) (i:=2) (x:=sr) nr.row rfl ?_;have dk:fJ (λc=>G c\/(c<H.size/\¬uj l c)) N l ll:=⟨λad P=>⟨(l2.off ad P).1,λu=>u.elim (l2.off ad P).2 λv=>v.2 ⟨ad,P,rfl⟩⟩,l2.ints⟩;refine o2.Hs (z:=H.size) (l0:=l) (by omega) (λc u=>p2.lt c u) (by omega) dk (λad P=>?_) (jh _ _) (by omega) λA h rA qA a1 kA mA=>?_
     ·have:=(hl.off ad P).1;exact⟨λu=>by have:=(o2.sr _ u).1;omega,by omega,λu=>by have:=(o2.sk _ u).1;omega⟩
     have a6:∀c,al sr c\/c=nb->H.size<=c/\¬G c:=λc u=>by
      rcases u with u|u
      ·have:=o2.sr c u;exact⟨by omega,this.2⟩
      ·subst u;exact⟨by omega,bD.2⟩
     have dt:=mA.size;have pA:ax G A p dp s2:=p2.aE λc L Z=>mA.same c Z λu=>(a6 c u).2 L;have V:Step F G H A:=⟨⟨by omega,λc L bE=>(mA.same c (by omega) λu=>by have:=(a6 c u).1;omega).trans (T2.mod.same c L bE)⟩,T2.own⟩;refine⟨hc,sk,h,⟨rA,λu=>?_,kA.ints,λad P=>⟨(kA.block _ ⟨ad,P,rfl⟩).2,λu=>?_⟩,qA.mono λ_ _ u=>.inl u⟩,kA.cap,a1,V,pA⟩
     ·rcases u with u|u
      ·exact bD.2 u
      ·have:=u.1;omega
     ·rcases u with (u|u)|u
      ·exact(o2.sk _ ⟨ad,P,rfl⟩).2 u
      ·have:=(o2.sk _ ⟨ad,P,rfl⟩).1;have:=u.1;omega
      ·exact o2.OI ⟨ad,P,u⟩
   ·rintro _ A ⟨dT,E,h,nA,bG,b0,V,pA⟩;rw[if_neg (by rw[dT];simp)] at d y;have b1:¬G k:=bC;have b3:=uc hw ok;refine C5 (above:=0) (base:=H.size) (l:=l) S hw hW I2 (by omega) (hg.mod V.mod hp.eV) (ht.mod V.mod hk) pA b1 bA (by omega) V.mod.size nA bG b0 hx (λr hr=>?_) ?_ ?_ (λfresh o x' hf j H3 O p3 S3 I3=>?_) (λhf j H3 O e f o up p3 S3 hB=>?_) (λj H3 O e f o up p3 S3 hC=>?_)
    ·rcases fu.1 hr with u|u
     ·rw[ok.cols r u,hw];simp
     ·rw[u];exact c7
    ·show 1<=(bj _ _ _).length;rw[aX];omega
    ·refine .inl ⟨rfl,c8,?_⟩;show ((bj _ _ _).length - 1)*_<=_;rw[aX,TT];rcases b3 with ⟨_,_,u⟩|⟨u,_⟩
     ·exact u
     ·omega
    ·exact d fresh o x' hf j H3 O p3 (V.drop (by omega) S3) (S.up I3 (by omega))
    ·exact y hf j H3 O e f o up p3 (V.drop (by omega) S3) hB
    ·exact af j H3 O e f o up p3 (V.drop (by omega) S3) hC
 |succ above ih=>
   intro ag sp a b F H s m K hI hm et hg ht hp hk bs hs hl d J y af;refine GR.of ?_;unfold GR.vc;have hT:=(S.pre hI).2.2.2.2.2;refine aj λH1 z1 r1 e1=>?_;have bA:=aI ht;have T1:Step F F H H1:=.bX e1;refine ab.kN (c:=iD [au,au]) (x:=(a,b)) r1 rfl rfl ?_;unfold St.add at d J y;refine pT (above:=above+1) S hI (by omega) (hg.mod e1 id) (ht.ext e1) (hp.ext e1) hk bs (hs.step T1) hd (λn X G N s2 nb sk sr rs p2 S2 I2 o2=>?_) (λX G N s2 p2 S2 I2=>?_) (λG N s2 e p2 S2 hC=>?_)
   rotate_left
   ·refine aT rfl ?_;rw[X] at J;exact J rfl G N s2 p2 (T1.trans S2) (S.up I2 (by omega))
   ·refine aT (by have:=(S.errC hC).1;simpa using this) ?_;exact af G N s2 e _ _ _ p2 (T1.trans S2) hC
   refine az rfl ?_;rw[X] at d J y;simp only at d J y;have T2:=T1.trans S2;have hx:ag<x.N:=by
    unfold St.node at X;split at X
    ·assumption
    ·cases X
   have ok:=jS hT X;have bB:=ok.size;obtain⟨i1,i2,i3⟩:=ok.inner (UW _);have Y:∀r∈n.rows,r.length<=16:=λr hr=>by rw[ok.cols r hr,hw];simpa using hW
   have t2:aV N k p t:=(ht.ext e1).mod S2.mod hk;have cA:Gl N:=hg.mod T2.mod hp.eV;have bC:¬G k:=λu=>(T2.own _ u).elim hk λv=>by omega
   have c9:=T2.mod.size;have bD:=o2.nb;have l2:fJ G N l ll:=hl.step T2;have nr:=o2.read;have ea:=ko (n:=n) (l:=ll);have eb:fY G N a b sp:=hs.step T2;have ec:ab N H.size AP #[a.v,b.v]:=r1.mod S2.mod λu=>by have:=hp.lt _ u;omega
   generalize ed:n.child ll=c0 at*;generalize T:x.add t.width q depth ll above (n.kids.getD c0 0) (sp.of n c0)=r at*;refine⟨λ_ A=>∃f pg ul x',r=.ok f (some (pg,ul)) x'/\ul.length=W/\∃j O E h,dn (λb=>j b\/(b<H.size/\¬uj l b)) A nb (ag:Int) E h ⟨bj (c0+1) pg n.kids,bj c0 ul n.rows⟩/\E.n<=E.c/\h.n<=h.c/\Step F j H A/\ax j A p dp O/\I O x' (m+1+3*(above+1)),?_,?_⟩
   ·refine az (by simp only[beq_eq_false_iff_ne,ne_eq];omega) ?_;refine wj nr l2.ints (bP ok.holds) Y (by omega) ?_;rw[ed];unfold av;simp only[aw];refine⟨λD=>Ext N D,.refl _ _,?_⟩;refine ab.bW (c:=au) (i:=1) (x:=sk) (cs:=λ_=>#[.int .i64 (ag:Int),sk.v,sr.v]) (λD hD=>nr.row.ext hD) (λ_ _=>rfl) ?_;have eu:sk.n=n.kids.length:=by have:=nr.kids.len;simpa using this
    obtain⟨ad,q1,q2⟩:=nr.kids.at (i:=c0) (by simp;omega);have cB:(Zn Td n.kids)[c0]'(by simp;omega)=((n.kids.getD c0 0:Nat):Int):=by
     simp[QM,Qg (show c0<n.kids.length by omega)]
    rw[cB] at q2;refine aY ad q1 ⟨⟨by omega,by omega⟩,((n.kids.getD c0 0:Nat):Int),λD hD=>?_,?_⟩
    ·simp only[QD,Q9];exact hD.cell q2 id
    refine ab.kN (c:=iD [au,au]) (x:=(a,b)) ec rfl rfl ?_;refine Gw eb nr o2.Ny (by omega) (by omega) λu v A2 e2 ee=>?_;refine⟨e2,?_⟩;have eg:Qe.wrap (((above+1:Nat):Int) - 1)=(above:Int):=by rw[wrap64 (by omega) (by omega)];omega
    rw[eg];have dt:=e2.size;have a8:Step F G H A2:=T2.trans (.bX e2);have ba:n.kids.getD c0 0<=1000000000000:=by
     have:n.kids.getD c0 0<4294967296:=by
      have bg:c0<n.kids.length:=by omega
      simp only[QM,Qg bg,Sw];exact ok.kids _ (Qn bg)
     omega
    refine ih (n.kids.getD c0 0) (sp.of n c0) u v G A2 s2 (m+1) _ I2 (by omega) (by omega) (cA.mod e2 id) (t2.ext e2) (p2.ext e2) bC ba ee (l2.step (.bX e2)) (λf o x' hr j A3 O p3 S3 I3=>?_) (λhr j A3 O p3 S3 I3=>?_) (λhr j A3 O e f o up p3 S3 hB=>?_) (λj A3 O e f o up p3 S3 hC=>?_)
    rotate_left
    ·refine aT rfl ?_;rw[T] at hr;rw[hr] at J;exact J rfl j A3 O p3 (a8.trans S3) (S.up I3 (by omega))
    ·refine aT (by have:=(S.errB hB).1;simpa using this) ?_;rw[T] at hr;rw[hr] at y;exact y rfl j A3 O e _ _ _ p3 (a8.trans S3) hB
    ·refine aT (by have:=(S.errC hC).1;simpa using this) ?_;exact af j A3 O e _ _ _ p3 (a8.trans S3) hC
    rw[T] at hr;have T3:=a8.trans S3;cases o with
    |none=>
      unfold Ey;dsimp only;refine az rfl ?_;refine aT rfl ?_;rw[hr] at d;exact d f none x' rfl j A3 O p3 T3 (S.up I3 (by omega))
    |some pu=>
      obtain⟨pg,ul⟩:=pu;unfold Ey;intro b4 mb v1 v2 up ei eo ep bl;dsimp only;refine az rfl ?_;refine az rfl ?_;have cF:Step G j N A3:=(Step.bX e2).trans S3;have o3:=o2.step cF;have ev:=cF.mod.size;refine ab.ld (c:=au) (i:=2) (x:=sr) o3.row rfl ?_;have c3:fJ (λc=>j c\/(c<H.size/\¬uj l c)) A3 up ul:=bl.mono λc _ u=>u.imp id λv=>⟨by omega,v.2⟩;have b6:∀c,uj l c->c<H.size:=λc ⟨ad,P,hb⟩=>by have:=(hl.off ad P).1;omega
      refine o3.Hs (z:=H.size) (l0:=l) (by omega) (λc u=>p3.lt c u) (by omega) c3 (λad P=>?_) ea (by omega) λA h rA qA a1 kA mA=>?_
      ·have b7:=(bl.off ad P).2;refine⟨λu=>?_,λu=>?_,λu=>?_⟩
       ·have h1:=(o2.sr _ u).1;have h2:=(o2.rows.out.block _ u).2;exact b7 (.inr ⟨by omega,λw=>by have:=b6 _ w;omega⟩)
       ·have h2:=aI o2.row;exact b7 (.inr ⟨by omega,λw=>by have:=b6 _ w;omega⟩)
       ·have h1:=(o2.sk _ u).1;have h2:=(o2.kids.block _ u).2;exact b7 (.inr ⟨by omega,λw=>by have:=b6 _ w;omega⟩)
      have c4:mb≠nb:=λu=>by have:=aI o2.row;omega
      have b8:¬al sr mb:=λu=>by have:=(o2.rows.out.block _ u).2;omega
      have c5:=ei.mod mA λu=>u.elim b8 c4;refine⟨λD=>Ext A D,.refl _ _,?_⟩;refine ab.bW (c:=au) (i:=1) (x:=sk) (cs:=λ_=>#[.int .i64 (ag:Int),sk.v,h.v]) (λD hD=>rA.ext hD) (λ_ _=>rfl) ?_;refine ab.ld (c:=ai .i64) (i:=0) (x:=(pg:Int)) c5 rfl ?_;rw[aH _ (by omega)];refine eO λpp A4 ew z4 v4 e4=>?_;refine⟨e4,?_⟩;have er:=(kA.block);refine BT (kA.ext e4) (iy _ _) v4 (λu=>by have:=(kA.block _ u).2;omega) (by simp;omega) (by simp;omega) λE A5 n5 o5 m5 b5=>?_;have b9:¬al sk nb:=λu=>by
       obtain⟨cur,hc⟩:=kA.obj _ u;exact absurd (aR hc rA) (by decide)
      have c6:ab A5 nb rq #[.int .i64 (ag:Int),sk.v,h.v]:=(rA.ext e4).mod m5 b9;refine ab.st c6 (i:=1) (by simp) rfl λA6 r6 m6 z6=>?_;have ey:=mA.size;have eA:=e4.size;have eB:=m5.size
      -- what lies where
      have a6:∀c,al sr c\/c=nb->H.size<=c/\¬j c:=λc u=>by
       rcases u with u|u
       ·have:=o3.sr c u;exact⟨by omega,this.2⟩
       ·subst u;exact⟨by omega,o3.nb.2⟩
      have cm:∀c,al sk c->H.size<=c/\¬j c:=λc u=>by
       have:=o3.sk c u;exact⟨by omega,this.2⟩
      have pA:ax j A p dp O:=p3.aE λc L Z=>mA.same c Z λu=>(a6 c u).2 L;have ej:ax j A5 p dp O:=(pA.ext e4).aE λc L Z=>m5.same c Z λu=>(cm c u).2 L;have ek:ax j A6 p dp O:=ej.aE λc L Z=>m6.same c Z λu=>o3.nb.2 (u▸L);have S6:Step F j H A6:=⟨⟨by have:=T3.mod.size;omega,λc L bE=>by
       have eC:=T3.mod.size;rw[m6.same c (by omega) (by omega),m5.same c (by omega) (λu=>by have:=(cm c u).1;omega),e4.same c (by omega) id,mA.same c (by omega) λu=>by have:=(a6 c u).1;omega];exact T3.mod.same c L bE⟩,T3.own⟩
      have ae:∀c,al E c->c≠nb:=λc u v=>by
       obtain⟨cur,hc⟩:=o5.obj _ u;rw[v] at hc;exact absurd (aR hc c6) (by decide)
      have a7:∀c,al E c->H.size<=c/\¬j c:=λc u=>by
       rcases b5 c u with w|w
       ·exact cm c w
       ·exact⟨by have:=T3.mod.size;omega,λw2=>by have:=pA.lt c w2;omega⟩
      have en:Step (λc=>((j c\/(c<H.size/\¬uj l c))\/c=nb)\/al sk c) (λc=>((j c\/(c<H.size/\¬uj l c))\/c=nb)\/al sk c) A A6:=⟨(((Ext.mod e4).trans (m5.mono λ_ _ u=>.inr u)).trans (m6.mono λ_ _ u=>.inl (.inr u))),λc u=>.inl u⟩;have R:aA A6 0 bT 1 E (((bj (c0+1) pg n.kids).map Td).map (Ql .i64)):=by
       rw[<-qI,<-qI];exact o5.mod m6 λc u v=>ae c u v
      refine⟨f,pg,ul,x',hr,b4,j,O,E,h,⟨r6,λu=>?_,R.ints,λad P=>⟨(R.block _ ⟨ad,P,rfl⟩).2,λu=>?_⟩,(qA.step en).mono λ_ _ u=>.inl u⟩,R.cap,a1,S6,ek,I3⟩
      ·rcases u with u|u
       ·exact o3.nb.2 u
       ·have:=u.1;omega
      ·rcases u with (u|u)|u
       ·exact(a7 _ ⟨ad,P,rfl⟩).2 u
       ·have:=(a7 _ ⟨ad,P,rfl⟩).1;have:=u.1;omega
       ·exact ae _ ⟨ad,P,rfl⟩ u
   ·rintro _ A ⟨f,pg,ul,x',hr,b4,j,O,E,h,nA,bG,b0,V,pA,IA⟩;rw[hr] at d y;simp only at d y;have b1:¬j k:=λu=>(V.own _ u).elim hk λv=>by omega
    have eD:x.N<=x'.N:=by
     rw[hr] at T;exact St.Ih T
    have b3:=uc hw ok;refine C5 (above:=above+1) (base:=H.size) (l:=l) S hw hW IA (by omega) (hg.mod V.mod hp.eV) (ht.mod V.mod hk) pA b1 bA (by omega) V.mod.size nA bG b0 (by omega) (λr hr=>?_) ?_ ?_ (λfresh o x2 hf F4 H4 s4 p4 S4 I4=>?_) (λhf F4 H4 s4 e f o up p4 S4 hB=>?_) (λF4 H4 s4 e f o up p4 S4 hC=>?_)
    ·rcases fu.1 hr with u|u
     ·rw[ok.cols r u,hw];simp
     ·rw[u];exact b4
    ·show 1<=(bj _ _ _).length;rw[aX];omega
    ·refine .inr ⟨UW _,?_,?_⟩
     ·show (bj _ _ _).length=(bj _ _ _).length+1;rw[aX,aX];omega
     ·show 2+4*((bj _ _ _).length - 1)+((bj _ _ _).length - 1)*_<=_;rw[aX,aX,TT,TT];rcases b3 with ⟨u,_⟩|⟨_,_,u⟩
      ·rw[u] at i1;simp at i1
      ·exact u
    ·exact d fresh o x2 hf F4 H4 s4 p4 (V.drop (by omega) S4) (S.up I4 (by omega))
    ·exact y hf F4 H4 s4 e f o up p4 (V.drop (by omega) S4) hB
    ·exact af F4 H4 s4 e f o up p4 (V.drop (by omega) S4) hC
end
end Go.Proofs.YtkehfflpbpdokaaGreatDoor
namespace Go.Proofs.YtkehfflpbpdokaaGreatDoor
open Go.MapKept
def Tr.ready (t:Tr):Int:=if t.wrong≠0 then t.wrong else if t.gone then 2 else 0
def Tr.mv (t:Tr)(e:Int):Tr:={t with wrong:=e}
def Tr.up (t:Tr)(f:Bool):Tr:=if f then {t with count:=t.count+1} else t
inductive Gj where
 |store
 |quota
 |ok (fresh:Bool) (t:Tr) (x:St)
def Tr.grown (t:Tr)(root depth:Nat):Tr:={t with root:=(root:Int),depth:=(depth:Int)}
def St.ins (x:St)(q:Nat)(t:Tr)(root depth:Nat)(ll:List Int):Gj:=
 match x.add t.width q depth ll (depth - 1) root fL with
 |.store=>.store
 |.quota=>.quota
 |.ok f none x'=>.ok f (t.up f) x'
 |.ok f (some m) x'=>if x'.N<q then .ok f ((t.grown x'.N (depth+1)).up f) (x'.more ⟨[root,m.1],[m.2]⟩) else .quota
section
variable {H:aa}{k p dp:Nat}{t:Tr}{F:Nat->Prop}{s:Pl}{q:Nat}{I:Pl->St->Nat->Prop}{B C:Pl->Int->Prop}{x:St}{m:Nat}{W root depth:Nat}{ll:List Int}{l:Sl}
theorem nj {K:Int->aa->Prop}(h:aV H k p t)(d:K t.ready H):GL.sp (av k) H K:=by
 refine GL.of ?_;unfold GL.vc;unfold Tr.ready at d;refine az rfl ?_;simp only[aw,av];refine ab.ld (c:=ai .i64) (i:=6) (x:=t.wrong) h rfl ?_;refine ao (λe=>?_) (λe=>?_)
 ·rw[if_pos (by simpa using e)] at d;exact ab.ld (c:=ai .i64) (i:=6) (x:=t.wrong) h rfl d
 ·rw[if_neg (by simpa using e)] at d;refine ab.ld (c:=aC) (i:=7) (x:=t.gone) h rfl ?_;cases f:t.gone with
  |true=>rw[f,if_pos rfl] at d;exact d
  |false=>rw[f,if_neg (by simp)] at d;exact d
theorem xV {e:Int}{K:Int->aa->Prop}(h:aV H k p t)(he:e≠0)(c:∀A,aV A k p (t.mv e)->Mod (λb=>b=k) H A->A.size=H.size->K e A):wO.sp (av k) e H K:=by
 refine wO.of ?_;unfold wO.vc;refine aT (by simpa using he) ?_;simp only[aw,av];exact ab.st h (i:=6) (by simp[mS]) rfl λA r m z=>c A r m z
theorem vE {K:Int->aa->Prop}(c:K 0 H):wO.sp (av k) 0 H K:=by
 refine wO.of ?_;unfold wO.vc;exact az rfl c
theorem kD {H:aa}{s:Sl}{l:List Int}{K:Sl->aa->Prop}(h:Ints .u64 H s l)(z:l.length<=17592186044416)
  (j:∀s' H',aA H' 0 gM 1 s' (l.map (Ql .u64))->Ext H H'->(∀b,al s' b->H.size<=b)->K s' H'):AO.sp s H K:=by
 refine AO.of ?_;unfold AO.vc;have D:=h.len;refine ao (λc=>?_) (λc=>?_)
 ·have d:l=[]:=by
   cases l with
   |nil=>rfl
   |cons x r=>
     obtain⟨ad,e,_⟩:=h.at (i:=0) (by simp);rw[e] at c;simp at c
  subst d;exact j lV H (aA.nil _ _ _ _) (.refl _ _) λb u=>absurd u (tB b)
 ·refine aA.FR λH1 o1 f=>?_;refine jB.EF (base:=0) (s:=⟨some ⟨H.size,0,none⟩,0,0⟩) (x:=s) (ws:=l.map (Ql .u64)) o1 (by simp;omega) (h.ext f).reads (iy _ _) (by simp only;omega) (by simp only;omega) (QN _) ?_;intro s' o E o2 m2 b2 _;have f1:∀b,al (Sl.mk (some ⟨H.size,0,none⟩) 0 0) b->H.size<=b:=by
   rintro b ⟨ad,y,rfl⟩;cases y;exact Qm _
  refine j s' o (by simpa using o2) (((Ext.mod f).trans m2).ext f1) λb u=>?_;rcases b2 b u with v|v
  ·exact f1 b v
  ·have:=f.size;omega
theorem Step.all {F:Nat->Prop}{A B:aa}{k:Nat}(m:Mod (λb=>b=k) A B):Step (λb=>F b\/b=k) (λb=>F b\/b=k) A B:=⟨m.mono λ_ _ u=>.inr u,λ_ u=>.inl u⟩
theorem ax.iP {F:Nat->Prop}{A B:aa}{k p dp:Nat}{s:Pl}(h:ax F A p dp s)(m:Mod (λb=>b=k) A B)(hk:¬F k):ax F B p dp s:=h.aE λb c d=>m.same b d λu=>hk (u▸c)
set_option maxHeartbeats 4000000 in
theorem Ba {K:(Bool×Int)->aa->Prop}(S:jQ t.name q I B C)(hw:t.width=(W:Int))(hW:W<=16)(hr:t.root=(root:Int))(hd:t.depth=(depth:Int))(eo:1<=depth/\depth<=1000)(b0:root<=1000000000000)(bE:0<=t.count/\t.count<=1000000000000)
  (hI:I s x m) (hm:m+4000<=30000000000) (hg:Gl H) (ht:aV H k p t) (hp:ax F H p dp s) (hk:¬F k) (hl:Ints .u64 H l ll)
  (cA:t.ready≠0->K (false,t.ready) H) (cB:t.ready=0->ll.length≠W->K (false,60) H)
  (Y:t.ready=0->ll.length=W->∀f t' x',x.ins q t root depth ll=.ok f t' x'->∀F' A s',ax F' A p dp s'->Step (λb=>F b\/b=k) (λb=>F' b\/b=k) H A->¬F' k->aV A k p t'->I s' x' (m+4000)->K (f,0) A)
  (a8:t.ready=0->ll.length=W->x.ins q t root depth ll=.store->∀F' A s',ax F' A p dp s'->Step (λb=>F b\/b=k) (λb=>F' b\/b=k) H A->¬F' k->aV A k p (t.mv 280)->I s' x (m+4000)->K (false,280) A)
  (P:t.ready=0->ll.length=W->x.ins q t root depth ll=.quota->∀F' A s' e,ax F' A p dp s'->Step (λb=>F b\/b=k) (λb=>F' b\/b=k) H A->¬F' k->aV A k p (t.mv e)->B s' e->K (false,e) A)
  (cF:∀F' A s' e,ax F' A p dp s'->Step (λb=>F b\/b=k) (λb=>F' b\/b=k) H A->¬F' k->aV A k p (t.mv e)->C s' e->K (false,e) A):Iy.sp (av k) l H K:=by
 refine Iy.of ?_;unfold Iy.vc;refine nj ht ?_;refine ao (λhc=>cA (by simpa using hc)) (λhc=>?_);have bs:t.ready=0:=by simpa using hc
 clear cA;unfold av;simp only[aw];refine ab.ld (c:=ai .i64) (i:=2) (x:=t.width) ht rfl ?_;have ep:=hl.len;rw[hw];refine ao (λb1=>cB bs (by
  have:(l.n:Int)≠(W:Int):=by simpa using b1
  omega)) (λb1=>?_)
 have bA:ll.length=W:=by
  have:(l.n:Int)=(W:Int):=by simpa using b1
  omega
 clear cB;have Y:=Y bs bA;have a8:=a8 bs bA;have P:=P bs bA;have er:=aI ht;refine⟨λD=>Ext H D,.refl _ _,?_⟩;refine ab.bW (c:=ai .i64) (i:=3) (x:=t.root) (cs:=λ_=>(mS p t).toArray) (λD hD=>ht.ext hD) (λ_ _=>rfl) ?_;refine ab.bW (c:=ai .i64) (i:=4) (x:=t.depth) (cs:=λ_=>(mS p t).toArray) (λD hD=>ht.ext hD) (λ_ _=>rfl) ?_;refine kD hl (by omega) λcl H2 o2 e2 f2=>?_;refine⟨e2,?_⟩;rw[hr,hd];have ed:Qe.wrap ((depth:Int) - 1)=((depth - 1:Nat):Int):=by rw[wrap64 (by omega) (by omega)];omega
 rw[ed];have T2:Step F F H H2:=.bX e2;have p2:=hp.ext e2;have c6:fJ F H2 cl ll:=⟨λad Z=>⟨(o2.block _ ⟨ad,Z,rfl⟩).2,λu=>by have:=hp.lt _ u;have:=f2 _ ⟨ad,Z,rfl⟩;omega⟩,o2.ints⟩
 -- the ends
 have ba:∀(f:Bool) (t1:Tr) (A:aa) (K':(Bool×Int)->aa->Prop),aV A k p t1->(0<=t1.count/\t1.count<=1000000000000)->(∀L,aV L k p (t1.up f)->Mod (λb=>b=k) A L->K' (f,0) L)->
   br ((0:Int)!=(0:Int)) (wO.sp (av k) 0 A λ(b3:Int) b4=>K' (false,b3) b4) (br f (ld (ai .i64) A (QS ⟨k,0,none⟩ 5) λ(c7:Int)=>st A (QS ⟨k,0,none⟩ 5) (.int .i64 (Qe.wrap (c7+(1:Int)))) λc8=>K' (f,(0:Int)) c8) (K' (f,(0:Int)) A)):=by
  intro f t1 A K' h1 eu bB;refine az rfl ?_;cases f with
  |true=>
    refine aT rfl ?_;refine ab.ld (c:=ai .i64) (i:=5) (x:=t1.count) h1 rfl ?_;rw[wrap64 (x:=t1.count+1) (by omega) (by omega)];refine ab.st h1 (i:=5) (by simp[mS]) rfl λL r m' z=>bB L r m'
  |false=>exact az rfl (bB A h1 (.refl _ _))
 have R:∀(f:Bool) (e:Int) (A:aa) (M:Prop),e≠0->aV A k p t->(∀L,aV L k p (t.mv e)->Mod (λb=>b=k) A L->K (false,e) L)->
   br (e !=(0:Int)) (wO.sp (av k) e A λ(b3:Int) b4=>K (false,b3) b4) M:=by
  intro f e A M he h1 bB;exact aT (by simpa using he) (xV h1 he λL r m' _=>bB L r m')
 have j:∀{N:Nat->Prop} {O:aa},Step F N H2 O->Step (λb=>F b\/b=k) (λb=>N b\/b=k) H O:=λE=>(T2.trans E).with k;have iP:∀{N:Nat->Prop} {O:aa},Step F N H2 O->¬N k:=λE u=>(E.own _ u).elim hk λv=>by have:=e2.size;omega
 have span:fY F H2 (Sl.mk none 0 0) (Sl.mk none 0 0) fL:=⟨rfl,rfl⟩;unfold St.ins at Y a8 P;refine J7 (l:=cl) (ll:=ll) S hw hW hd bA (depth - 1) root fL _ _ F H2 s m _ hI (by omega) (by omega) (hg.mod e2 id) (ht.ext e2) p2 hk b0 span c6 (λf o x' bg N O s3 p3 E I3=>?_) (λbg N O s3 p3 E I3=>?_) (λbg N O s3 e f o up p3 E hB=>?_) (λN O s3 e f o up p3 E hC=>?_)
 rotate_left
 ·have t3:aV O k p t:=(ht.ext e2).mod E.mod hk;refine⟨λz A=>z=280/\A=O,az rfl ⟨rfl,rfl⟩,?_⟩;rintro _ A ⟨rfl,rfl⟩;refine R false 280 A _ (by decide) t3 λL tA T=>?_;rw[bg] at a8;exact a8 rfl N L s3 (p3.iP T (iP E)) ((j E).trans (Step.all (F:=N) T)) (iP E) tA (S.up I3 (by omega))
 ·have t3:aV O k p t:=(ht.ext e2).mod E.mod hk;have he:=(S.errB hB).1;refine⟨λz A=>z=e/\A=O,az (by simpa using he) ⟨rfl,rfl⟩,?_⟩;rintro _ A ⟨rfl,rfl⟩;refine R f _ A _ he t3 λL tA T=>?_;rw[bg] at P;exact P rfl N L s3 _ (p3.iP T (iP E)) ((j E).trans (Step.all (F:=N) T)) (iP E) tA hB
 ·have t3:aV O k p t:=(ht.ext e2).mod E.mod hk;have he:=(S.errC hC).1;refine⟨λz A=>z=e/\A=O,az (by simpa using he) ⟨rfl,rfl⟩,?_⟩;rintro _ A ⟨rfl,rfl⟩;refine R f _ A _ he t3 λL tA T=>?_;exact cF N L s3 _ (p3.iP T (iP E)) ((j E).trans (Step.all (F:=N) T)) (iP E) tA hC
 rw[bg] at Y P;have t3:aV O k p t:=(ht.ext e2).mod E.mod hk;cases o with
 |none=>
   unfold Ey;dsimp only;refine⟨λz A=>z=0/\A=O,aT rfl (az rfl ⟨rfl,rfl⟩),?_⟩;rintro _ A ⟨rfl,rfl⟩;refine ba f t A K t3 bE λL tA T=>?_;exact Y f (t.up f) x' rfl N L s3 (p3.iP T (iP E)) ((j E).trans (Step.all (F:=N) T)) (iP E) tA (S.up I3 (by omega))
 |some pu=>
   obtain⟨pg,ul⟩:=pu;unfold Ey;intro c0 mb v1 v2 up c9 ei ej a1;dsimp only at Y P ⊢;have dk:Gl O:=(hg.mod e2 id).mod E.mod p2.eV;have a7:=iP E;have ev:=E.mod.size;have ew:=e2.size;have en:mb≠k:=by omega
   -- the new root
   have bG:∀(J:Int->aa->Prop) (H7:aa) (tb:Nat) (sk sr:Sl),Ext O H7->ab H7 tb rq #[.int .i64 (-1),sk.v,sr.v]->O.size<=tb->¬N tb->
     Ints .i64 H7 sk ([root,pg].map Td)->iL (λb=>N b\/b=tb) H7 sk->dC (λb=>N b\/b=tb) H7 sr [ul]->
     (x'.N<q->∀d A h,ax d A p dp h->Step (λb=>F b\/b=k) (λb=>d b\/b=k) H A->¬d k->aV A k p (t.grown x'.N (depth+1))->I h (x'.more ⟨[root,pg],[ul]⟩) (m+4000)->J 0 A)->
     (∀d A h e,ax d A p dp h->Step (λb=>F b\/b=k) (λb=>d b\/b=k) H A->¬d k->aV A k p t->(B h e/\¬x'.N<q)\/C h e->J e A)->
     yD.sp (some ⟨k,0,none⟩) (some ⟨tb,0,none⟩) H7 λ(b5:Int) H8=>br (b5==(0:Int)) (ld (ai .i64) H8 (QS ⟨tb,0,none⟩ 0) λ(dt:Int)=>st H8 (QS ⟨k,0,none⟩ 3) (.int .i64 dt) λH9=>ld (ai .i64) H9 (QS ⟨k,0,none⟩ 4) λ(dT:Int)=>st H9 (QS ⟨k,0,none⟩ 4) (.int .i64 (Qe.wrap (dT+(1:Int)))) λb6=>J b5 b6) (J b5 H8):=by
    intro J H7 tb sk sr e7 ea ey c3 eb ec b7 bC bl;have t7:aV H7 k p t:=t3.ext e7;have bD:k≠tb:=by omega
    have nt:dn N H7 tb (-1) sk sr ⟨[root,pg],[ul]⟩:=⟨ea,c3,eb,ec,b7⟩;have hs:=cq (W:Int);have ee:(Nd.bytes ⟨[root,pg],[ul]⟩).length<=504:=by
     rw[Nd.da hW (by intro y hy;simp at hy;subst hy;exact c0)];simp;omega
    have S7:Step F N H2 H7:=E.trans (.bX e7);have ae:∀{d:Nat->Prop} {A:aa},Step (λb=>N b\/b=tb) (λb=>d b\/b=tb) H7 A->Step F d H2 A:=λX=>S7.drop (by omega) X;have eg:=(S.pre I3).2.2.2.2.1;refine nZ S I3 (by omega) (dk.mod e7 id) t7 (p3.ext e7) a7 bD nt ee (by simp) (by simp) (by intro y hy;simp at hy;subst hy;rw[c0];exact hW) (λhN d H8 h p8 X I8 n8=>?_) (λhN d H8 h e p8 X G hB=>?_) (λd H8 h e p8 X G hC=>?_)
    ·refine aT rfl ?_;have t8:aV H8 k p t:=t7.mod X.mod λu=>u.elim a7 bD;refine ab.ld (c:=ai .i64) (i:=0) (x:=(x'.N:Int)) n8.row rfl ?_;refine ab.st t8 (i:=3) (by simp[mS]) rfl λH9 r9 m9 z9=>?_;refine ab.ld (c:=ai .i64) (i:=4) (x:=t.depth) r9 (by simp[mS]) ?_;rw[hd,aH _ (by omega)];refine ab.st r9 (i:=4) (by simp[mS]) rfl λb6 c4 m10 eB=>?_;have mm:=m9.trans m10;have V:=ae X;refine bC hN d b6 h (p8.iP mm (iP V)) ((j V).trans (Step.all (F:=d) mm)) (iP V) ?_ (S.up I8 (by omega));have et:((mS p t).toArray.setIfInBounds 3 (.int .i64 (x'.N:Int))).setIfInBounds 4 (.int .i64 ((depth+1:Nat):Int))=(mS p (t.grown x'.N (depth+1))).toArray:=by
      simp[mS,Tr.grown]
     rw[et] at c4;exact c4
    ·have V:=ae X;refine az (by have:=(S.errB hB).1;simpa using this) ?_;exact bl d H8 h e p8 (j V) (iP V) (t7.mod X.mod λu=>u.elim a7 bD) (.inl ⟨hB,hN⟩)
    ·have V:=ae X;refine az (by have:=(S.errC hC).1;simpa using this) ?_;exact bl d H8 h e p8 (j V) (iP V) (t7.mod X.mod λu=>u.elim a7 bD) (.inr hC)
   obtain⟨JJ,b8⟩:∃JJ:Int->aa->Prop,∀z A,JJ z A↔∃d h,ax d A p dp h/\Step (λb=>F b\/b=k) (λb=>d b\/b=k) H A/\¬d k/\((z=0/\x'.N<q/\aV A k p (t.grown x'.N (depth+1))/\I h (x'.more ⟨[root,pg],[ul]⟩) (m+4000))\/(aV A k p t/\((B h z/\¬x'.N<q)\/C h z))):=⟨_,λ_ _=>Iff.rfl⟩;have bC:x'.N<q->∀d A h,ax d A p dp h->Step (λb=>F b\/b=k) (λb=>d b\/b=k) H A->¬d k->aV A k p (t.grown x'.N (depth+1))->I h (x'.more ⟨[root,pg],[ul]⟩) (m+4000)->JJ 0 A:=λhN d A h p8 X G t8 I8=>(b8 0 A).2 ⟨d,h,p8,X,G,.inl ⟨rfl,hN,t8,I8⟩⟩;have bl:∀d A h e,ax d A p dp h->Step (λb=>F b\/b=k) (λb=>d b\/b=k) H A->¬d k->aV A k p t->(B h e/\¬x'.N<q)\/C h e->JJ e A:=λd A h e p8 X G t8 hb=>(b8 e A).2 ⟨d,h,p8,X,G,.inr ⟨t8,hb⟩⟩;have c5:∀A,Ext O A->∀ad,up.a=some ad->ad.block<O.size/\¬N ad.block:=λA eA ad Z=>⟨(a1.off ad Z).1,λu=>(a1.off ad Z).2 (.inl u)⟩;refine⟨JJ,?_,?_⟩
   ·refine aT rfl (aT rfl ?_);refine⟨λD=>Ext O D,.refl _ _,?_⟩;refine ab.bW (c:=ai .i64) (i:=3) (x:=t.root) (cs:=λ_=>(mS p t).toArray) (λD hD=>t3.ext hD) (λ_ _=>rfl) ?_;simp only[aw];refine ab.bW (c:=ai .i64) (i:=0) (x:=(pg:Int)) (cs:=λ_=>#[.int .i64 (pg:Int),v1,v2]) (λD hD=>c9.ext hD) (λ_ _=>rfl) ?_;rw[hr];have ek:#[Ql .i64 (root:Int),Ql .i64 (pg:Int)]=(([root,pg].map Td).map (Ql .i64)).toArray:=rfl;rw[ek]
    -- both orders
    constructor
    ·refine kC _ λpk H5 z5 q5 a5 e5=>⟨e5,?_⟩;refine eO λpr H6 q6 z6 v6 e6=>⟨e5.trans e6,?_⟩;refine aj λH7 z7 r7 e7=>⟨(e5.trans e6).trans e7,?_⟩;have af:=(e5.trans e6).trans e7;have v7:=v6.ext e7;refine bG JJ H7 H6.size ⟨some pk,2,2⟩ ⟨some pr,1,1⟩ af r7 (by omega) (λu=>by have:=p3.lt _ u;omega) (((a5 2).ext e6).ext e7) (λad Z=>?_) ⟨rfl,λad Z=>?_,λi hi=>?_⟩ bC bl
     ·cases Z;exact⟨by omega,λu=>u.elim (λw=>by have:=p3.lt _ w;omega) λw=>by omega⟩
     ·cases Z;exact⟨by omega,λu=>u.elim (λw=>by have:=p3.lt _ w;omega) λw=>by omega⟩
     ·have b9:i=0:=by simp at hi;omega
      subst b9;refine⟨pr,up,rfl,v7.var.cell,λad Z=>?_,a1.ints.ext af⟩;have:=c5 H7 af ad Z;exact⟨by omega,λu=>u.elim this.2 λw=>by omega⟩
    ·refine eO λpr H5 q5 z5 v5 e5=>⟨e5,?_⟩;refine kC _ λpk H6 z6 q6 a6 e6=>⟨e5.trans e6,?_⟩;refine aj λH7 z7 r7 e7=>⟨(e5.trans e6).trans e7,?_⟩;have af:=(e5.trans e6).trans e7;have v7:=(v5.ext e6).ext e7;refine bG JJ H7 H6.size ⟨some pk,2,2⟩ ⟨some pr,1,1⟩ af r7 (by omega) (λu=>by have:=p3.lt _ u;omega) ((a6 2).ext e7) (λad Z=>?_) ⟨rfl,λad Z=>?_,λi hi=>?_⟩ bC bl
     ·cases Z;exact⟨by omega,λu=>u.elim (λw=>by have:=p3.lt _ w;omega) λw=>by omega⟩
     ·cases Z;exact⟨by omega,λu=>u.elim (λw=>by have:=p3.lt _ w;omega) λw=>by omega⟩
     ·have b9:i=0:=by simp at hi;omega
      subst b9;refine⟨pr,up,rfl,v7.var.cell,λad Z=>?_,a1.ints.ext af⟩;have:=c5 H7 af ad Z;exact⟨by omega,λu=>u.elim this.2 λw=>by omega⟩
   ·intro z A hz;obtain⟨d,h,p8,X,G,cm⟩:=(b8 z A).1 hz;rcases cm with ⟨rfl,hN,t8,I8⟩|⟨t8,hb⟩
    ·rw[if_pos hN] at Y;refine ba f _ A K t8 bE λL tA T=>?_;exact Y f _ _ rfl d L h (p8.iP T G) (X.trans (Step.all (F:=d) T)) G tA I8
    ·have he:z≠0:=by
      rcases hb with hb|hb
      ·exact(S.errB hb.1).1
      ·exact(S.errC hb).1
     refine R f z A _ he t8 λL tA T=>?_;rcases hb with ⟨hb,hN⟩|hb
     ·rw[if_neg hN] at P;exact P rfl d L h z (p8.iP T G) (X.trans (Step.all (F:=d) T)) G tA hb
     ·exact cF d L h z (p8.iP T G) (X.trans (Step.all (F:=d) T)) G tA hb
end
section
variable {H:aa}{k p dp:Nat}{t:Tr}{F:Nat->Prop}{s:Pl}{q:Nat}{I:Pl->St->Nat->Prop}{B C:Pl->Int->Prop}{x:St}{m:Nat}{W root depth:Nat}{ll:List Int}{l:Sl}
def St.E7 (x:St)(t:Tr)(root depth:Nat)(ll:List Int)(strict:Bool):Option (Option (List Int)):=(x.find t.width depth ll strict (depth - 1) root fL).2
theorem zX (S:jQ t.name q I B C)(c:I s x m)(d:1<=depth/\depth<=1000){strict:Bool}:(x.find t.width depth ll strict (depth - 1) root fL).1<=1000000:=by
 have h:=w8 (x:=x) (w:=t.width) (low:=ll) (strict:=strict) (S.pre c).2.2.2.2.2 (depth - 1) root fL (show depth - 1<depth by omega);have e:(depth - 1+1)*(depth - 1+1)<=1000*1000:=Uj (by omega) (by omega);omega
set_option maxHeartbeats 1000000 in
theorem Kv {K:(Bool×Int)->aa->Prop}(S:jQ t.name q I B C)(hw:t.width=(W:Int))(hW:W<=16)(hr:t.root=(root:Int))(hd:t.depth=(depth:Int))(Y:1<=depth/\depth<=1000)(J:root<=1000000000000)
  (Z:I s x m) (hm:m+1000000<=30000000000) (hg:Gl H) (G:aV H k p t) (hp:ax F H p dp s) (hk:¬F k) (hl:Ints .u64 H l ll) (P:uv F H l ll)
  (ae:t.ready≠0->K (false,t.ready) H) (af:t.ready=0->ll.length≠W->K (false,60) H)
  (z:t.ready=0->ll.length=W->∀o,x.E7 t root depth ll false=some o->∀F' A s',ax F' A p dp s'->Step (λb=>F b\/b=k) (λb=>F' b\/b=k) H A->Step F F' H A->¬F' k->aV A k p t->I s' x (m+1000000)->K ((match o with|none=>false|some y=>decide (aL y ll=0)),0) A)
  (R:t.ready=0->ll.length=W->x.E7 t root depth ll false=none->∀F' A s',ax F' A p dp s'->Step (λb=>F b\/b=k) (λb=>F' b\/b=k) H A->¬F' k->aV A k p (t.mv 280)->I s' x (m+1000000)->K (false,280) A)
  (a1:∀F' A s' e,ax F' A p dp s'->Step (λb=>F b\/b=k) (λb=>F' b\/b=k) H A->¬F' k->aV A k p (t.mv e)->C s' e->K (false,e) A):Kh.sp (av k) l H K:=by
 refine Kh.of ?_;unfold Kh.vc;refine nj G ?_;refine ao (λhc=>ae (by simpa using hc)) (λhc=>?_);have L:t.ready=0:=by simpa using hc
 unfold av;simp only[aw];refine ab.ld (c:=ai .i64) (i:=2) (x:=t.width) G rfl ?_;have ba:=hl.len;rw[hw];refine ao (λN=>af L (by
  have:(l.n:Int)≠(W:Int):=by simpa using N
  omega)) (λN=>?_)
 have T:ll.length=W:=by
  have:(l.n:Int)=(W:Int):=by simpa using N
  omega
 have bg:=aI G;refine ab.ld (c:=ai .i64) (i:=3) (x:=t.root) G rfl ?_;refine ab.ld (c:=ai .i64) (i:=4) (x:=t.depth) G rfl ?_;rw[hr,hd];have ed:Qe.wrap ((depth:Int) - 1)=((depth - 1:Nat):Int):=by rw[wrap64 (by omega) (by omega)];omega
 rw[ed];have a6:=zX (root:=root) (ll:=ll) (strict:=false) S Z Y;have span:fY F H (Sl.mk none 0 0) (Sl.mk none 0 0) fL:=⟨rfl,rfl⟩;have f:∀(d:Nat->Prop) (j:aa) (D:Pl) (e:Int) (M:Prop),e≠0->ax d j p dp D->Step F d H j->(∀A,ax d A p dp D->Step (λb=>F b\/b=k) (λb=>d b\/b=k) H A->¬d k->aV A k p (t.mv e)->K (false,e) A)->
   br (e !=(0:Int)) (wO.sp (some ⟨k,0,none⟩) e j λ(a7:Int) j=>K (false,a7) j) M:=by
  intro d j D e M he p3 h a8;have V:¬d k:=λu=>(h.own _ u).elim hk λv=>by omega
  refine aT (by simpa using he) (xV (G.mod h.mod hk) he λA r mA _=>?_);exact a8 A (p3.iP mA V) ((h.with k).trans (Step.all mA)) V r
 refine zl (ll:=ll) (strict:=false) S hw hW hd (depth - 1) root fL _ _ F H s m _ Z (by omega) (by omega) hg G hp hk J span hl P (λd j D p3 h I3=>?_) (λd j D e p3 h hC=>?_)
 ·have V:¬d k:=λu=>(h.own _ u).elim hk λv=>by omega
  have t3:aV j k p t:=G.mod h.mod hk;have I4:=S.up I3 (k:=m+1000000) (by omega);unfold St.E7 at z R;cases E:(x.find t.width depth ll false (depth - 1) root fL).2 with
  |none=>
    unfold nN;dsimp only;refine f d j D 280 _ (by decide) p3 h λA pA SA kA tA=>?_;exact R L T E d A D pA SA kA tA I4
  |some o=>
    have z:=z L T o E;cases o with
    |none=>
      unfold nN;dsimp only;refine az rfl (az rfl ?_);exact z d j D p3 (h.with k) h V t3 I4
    |some y=>
      unfold nN;intro sl nn o5 f5;dsimp only;refine az rfl ?_;refine aT (by cases q9:sl.a with|none=>exact absurd q9 nn|some _=>rfl) ?_;have bl:=o5.ints.len;have X:y.length<1099511627776:=by
       have O:=sS (ll:=ll) (strict:=false) (S.pre Z).2.2.2.2.2 (depth - 1) root fL E;rw[O,hw];simp;omega
      refine dK o5.ints (P.ints hl h) X ?_;have:=z d j D p3 (h.with k) h V t3 I4;have e0:(aL y ll==0)=decide (aL y ll=0):=by rw[UC];simp
      rw[e0];exact this
 ·refine f d j D e _ (S.errC hC).1 p3 h λA pA SA kA tA=>?_;exact a1 d A D e pA SA kA tA hC
structure jZ (H:aa)(F:Nat->Prop)(k cb:Nat)(lo:Sl)(ll:List Int)(strict:Bool):Prop where
 row:ab H cb Pa #[.pointer (av k),lo.v,.bool strict]
 ints:Ints .u64 H lo ll
 off:iL (λb=>F b\/b=k\/b=cb) H lo
 cb:¬F cb/\cb≠k
set_option maxHeartbeats 1000000 in
theorem Ht {K:(Sl×Bool×Int)->aa->Prop}{cb:Nat}{lo:Sl}{strict:Bool}(S:jQ t.name q I B C)(hw:t.width=(W:Int))(hW:W<=16)(hr:t.root=(root:Int))(hd:t.depth=(depth:Int))(a6:1<=depth/\depth<=1000)(N:root<=1000000000000)
  (hI:I s x m) (hm:m+1000000<=30000000000) (hg:Gl H) (O:aV H k p t) (hp:ax F H p dp s) (hk:¬F k) (j:jZ H F k cb lo ll strict)
  (a7:t.ready≠0->K (lV,false,t.ready) H)
  (ae:t.ready=0->x.E7 t root depth ll strict=some none->∀F' A s',ax F' A p dp s'->Step (λb=>F b\/b=k\/b=cb) (λb=>F' b\/b=k\/b=cb) H A->¬F' k->aV A k p t->jZ A F' k cb lo ll strict->I s' x (m+1000000)->K (lV,false,0) A)
  (af:t.ready=0->∀y,x.E7 t root depth ll strict=some (some y)->∀F' A s' sl P,ax F' A p dp s'->Step (λb=>F b\/b=k\/b=cb) (λb=>F' b\/b=k\/b=cb) H A->¬F' k->aV A k p t->jZ A F' k cb P y true->I s' x (m+1000000)->
   aA A 0 gM 1 sl (y.map (Ql .u64))->(∀b,al sl b->H.size<=b/\¬F' b/\b≠k/\b≠cb/\¬al P b)/\(∀b,al P b->H.size<=b)->K (sl,true,0) A)
  (a1:t.ready=0->x.E7 t root depth ll strict=none->∀F' A s',ax F' A p dp s'->Step (λb=>F b\/b=k\/b=cb) (λb=>F' b\/b=k\/b=cb) H A->¬F' k->aV A k p (t.mv 280)->jZ A F' k cb lo ll strict->I s' x (m+1000000)->K (lV,false,280) A)
  (a8:∀F' A s' e,ax F' A p dp s'->Step (λb=>F b\/b=k\/b=cb) (λb=>F' b\/b=k\/b=cb) H A->¬F' k->aV A k p (t.mv e)->C s' e->K (lV,false,e) A):Is.sp (some ⟨cb,0,none⟩) H K:=by
 refine Is.of ?_;unfold Is.vc;refine az rfl ?_;simp only[aw];refine ab.ld (c:=aq) (i:=0) (x:=av k) j.row rfl ?_;refine nj O ?_;refine ao (λR=>a7 (by simpa using R)) (λR=>?_);have T:t.ready=0:=by simpa using R
 have bC:=aI O;have bD:=aI j.row;unfold av;simp only[aw];refine ab.ld (c:=ai .i64) (i:=3) (x:=t.root) O rfl ?_;refine ab.ld (c:=ai .i64) (i:=4) (x:=t.depth) O rfl ?_;refine ab.ld (c:=au) (i:=1) (x:=lo) j.row rfl ?_;refine ab.ld (c:=aC) (i:=2) (x:=strict) j.row rfl ?_;rw[hr,hd];have ed:Qe.wrap ((depth:Int) - 1)=((depth - 1:Nat):Int):=by rw[wrap64 (by omega) (by omega)];omega
 rw[ed];have ba:=zX (root:=root) (ll:=ll) (strict:=strict) S hI a6;have span:fY F H (Sl.mk none 0 0) (Sl.mk none 0 0) fL:=⟨rfl,rfl⟩;have E:∀{d:Nat->Prop} {f:aa},Step F d H f->¬d k/\¬d cb:=λh=>⟨λu=>(h.own _ u).elim hk λv=>by omega,λu=>(h.own _ u).elim j.cb.1 λv=>by omega⟩;have G:∀{d:Nat->Prop} {f:aa},Step F d H f->jZ f d k cb lo ll strict:=λ{d f} h=>by
  have J:Step (λb=>F b\/b=k\/b=cb) (λb=>d b\/b=k\/b=cb) H f:=h.or (λb=>b=k\/b=cb);exact⟨j.row.mod h.mod j.cb.1,j.off.ints j.ints J,j.off.step J,(E h).2,j.cb.2⟩
 have z:∀(d:Nat->Prop) (f:aa) (L:Pl) (e:Int) (M:Prop),e≠0->ax d f p dp L->Step F d H f->(∀A,ax d A p dp L->Step (λb=>F b\/b=k\/b=cb) (λb=>d b\/b=k\/b=cb) H A->¬d k->aV A k p (t.mv e)->jZ A d k cb lo ll strict->K (lV,false,e) A)->
   br (e !=(0:Int)) (wO.sp (some ⟨k,0,none⟩) e f λ(bg:Int) f=>K ((Sl.mk none 0 0),false,bg) f) M:=by
  intro d f L e M he p3 h bl;obtain⟨k3,c3⟩:=E h;refine aT (by simpa using he) (xV (O.mod h.mod hk) he λA r mA _=>?_);have V:=G h;have X:Step (λb=>d b\/b=k\/b=cb) (λb=>d b\/b=k\/b=cb) f A:=⟨mA.mono λ_ _ u=>.inr (.inl u),λ_ u=>.inl u⟩;refine bl A (p3.iP mA k3) ((h.or (λb=>b=k\/b=cb)).trans X) k3 r ⟨V.row.mod mA j.cb.2,V.off.ints V.ints X,V.off.step X,V.cb⟩
 refine zl (ll:=ll) (strict:=strict) S hw hW hd (depth - 1) root fL _ _ F H s m _ hI (by omega) (by omega) hg O hp hk N span j.ints ((j.off.mono λ_ _ u=>.inl u).O7 _) (λd f L p3 h I3=>?_) (λd f L e p3 h hC=>?_)
 ·obtain⟨k3,c3⟩:=E h;have t3:aV f k p t:=O.mod h.mod hk;have I4:=S.up I3 (k:=m+1000000) (by omega);have J:Step (λb=>F b\/b=k\/b=cb) (λb=>d b\/b=k\/b=cb) H f:=h.or (λb=>b=k\/b=cb);unfold St.E7 at ae a1 af;cases D:(x.find t.width depth ll strict (depth - 1) root fL).2 with
  |none=>
    unfold nN;dsimp only;refine z d f L 280 _ (by decide) p3 h λA pA X kA tA cA=>?_;exact a1 T D d A L pA X kA tA cA I4
  |some o=>
    cases o with
    |none=>
      unfold nN;dsimp only;refine az rfl (aT rfl (vE ?_));exact ae T D d f L p3 J k3 t3 (G h) I4
    |some y=>
      unfold nN;intro sl nn o5 f5;dsimp only;refine az rfl ?_;refine az (by cases q9:sl.a with|none=>exact absurd q9 nn|some _=>rfl) ?_;have bE:y.length<=16:=by
       have Y:=sS (ll:=ll) (strict:=strict) (S.pre hI).2.2.2.2.2 (depth - 1) root fL D;rw[Y,hw];simpa using hW
      refine kD o5.ints (by omega) λcl A1 o1 Z f1=>?_;have V:=G h;refine ab.st (V.row.ext Z) (i:=1) (by simp) rfl λA2 r2 m2 z2=>?_;refine ab.st r2 (i:=2) (by simp) rfl λA3 r3 m3 z3=>?_;have m23:=m2.trans m3;have bG:=Z.size;have b0:=h.mod.size;have bs:∀b,al cl b->b≠cb:=λb u v=>by have:=f1 b u;omega
      have Nh:∀b,al sl b->b≠cb:=λb u v=>by have:=(f5 b u).1;omega
      have bA:Step (λb=>d b\/b=k\/b=cb) (λb=>d b\/b=k\/b=cb) f A3:=⟨(Ext.mod Z).trans (m23.mono λ_ _ u=>.inr (.inr u)),λ_ u=>.inl u⟩;have bB:=o1.block;refine af T y D d A3 L sl cl ((p3.ext Z).iP m23 c3) (J.trans bA) k3 ((t3.ext Z).mod m23 (SI j.cb.2)) ⟨r3,(o1.mod m23 λb u v=>bs b u v).ints,λad ha=>?_,c3,j.cb.2⟩ I4 ((o5.ext Z).mod m23 λb u v=>Nh b u v) ⟨λb u=>?_,λb u=>by have:=f1 b u;omega⟩
      ·have h1:=bB _ ⟨ad,ha,rfl⟩;have h2:=f1 _ ⟨ad,ha,rfl⟩;refine⟨by omega,λw=>?_⟩;rcases w with w|w|w
       ·have:=p3.lt _ w;omega
       ·omega
       ·omega
      ·have h1:=f5 b u;have h2:=(o5.block b u).2;exact⟨h1.1,h1.2,by omega,by omega,λw=>by have:=f1 b w;omega⟩
 ·refine z d f L e _ (S.errC hC).1 p3 h λA pA X kA tA cA=>?_;exact a8 d A L e pA X kA tA hC
theorem Dd {K:Int->aa->Prop}(e:aV H k p t)(d:K (if t.gone then 0 else t.count) H):IU.sp (av k) H K:=by
 refine IU.of ?_;unfold IU.vc;refine az rfl ?_;simp only[aw,av];refine ab.ld (c:=aC) (i:=7) (x:=t.gone) e rfl ?_;cases f:t.gone with
 |true=>rw[f] at d;exact aT rfl d
 |false=>
   rw[f] at d;refine az rfl ?_;exact ab.ld (c:=ai .i64) (i:=5) (x:=t.count) e rfl d
end
theorem Gd {H:aa}{z:FZ}{K:Bool->aa->Prop}(d:ez H z.2 z.1)(f:K (!z.1.pins.isEmpty) H):GX.sp (av z.2.p) H K:=by
 refine GX.of ?_;unfold GX.vc;simp only[aw];refine d.row.ld (c:=ai .i64) (i:=5) (x:=(z.1.pins.length:Int)) rfl ?_;have e:decide ((z.1.pins.length:Int)>0)=!z.1.pins.isEmpty:=by
  cases z.1.pins with
  |nil=>rfl
  |cons a l=>simp
 rw[e];exact f
theorem xM {H:aa}{s:Sl}{l:List FZ}{K:Int->aa->Prop}(h:dm gW uX H s (l.map λz=>z.2.p))(v:∀z∈l,ez H z.2 z.1)(y:l.length<=1048576)
  (u:∀r:Int,decide (r>=0)=(l.any λz=>!z.1.pins.isEmpty)->K r H):Kc.sp s H K:=by
 refine Kc.of ?_;unfold Kc.vc;have f:=h.n (by decide);rw[QI] at f;refine ay l.length (λk x H1=>H=H1/\x=(k:Int)/\∀z∈l.take k,z.1.pins.isEmpty=true) ⟨rfl,rfl,by simp⟩ ?_;rintro k _ _ next hk ⟨rfl,rfl,j⟩ d
 refine ao (λe=>?_) (λe=>?_)
 ·have c:k<l.length:=by rw[f] at e;simpa using e
  refine yq h (i:=k) (q:=l[k].2.p) (by simp[c]) rfl λad D=>?_;refine Gd (v _ (Qn c)) ?_;cases hs:l[k].1.pins.isEmpty with
  |false=>
    refine aT rfl (u _ ?_);rw[decide_eq_true (by omega)];exact(Sv.2 ⟨l[k],Qn c,by rw[hs];rfl⟩).symm
  |true=>
    refine az rfl (d c _ _ ⟨rfl,aH k (by omega),?_⟩);intro z hz;rw[QA c] at hz;rcases Qj.1 hz with q|q
    ·exact j z q
    ·simp at q;subst q;exact hs
 ·have o:k=l.length:=by rw[f] at e;simp at e;omega
  rw[o,QO (Qm _)] at j;refine u _ ?_;have:(l.any λz=>!z.1.pins.isEmpty)=false:=by
   rw[UM];intro z hz;rw[j z hz];simp
  rw[this];rfl
theorem rZ {H:aa}{s:Sl}{l:List FZ}{K:Bool->aa->Prop}(h:dm gW uX H s (l.map λz=>z.2.p))(c:∀z∈l,ez H z.2 z.1)(d:l.length<=1048576)
  (e:K (l.any λz=>!z.1.pins.isEmpty) H):K9.sp s H K:=by
 refine K9.of ?_;unfold K9.vc;exact xM h c d λr hr=>by rw[hr];exact e
theorem erase_filter:∀{l:List FZ} {i:Nat} {a:FZ},(∀(i j:Nat) (z z':FZ),l[i]?=some z->l[j]?=some z'->z.2.p=z'.2.p->i=j)->l[i]?=some a->l.eraseIdx i=l.filter λz=>!(z.2.p==a.2.p)
 |[],i,a,_,h=>by simp at h
 |b::l,0,a,hu,h=>by
   simp at h;subst h;rw[List.eraseIdx_cons_zero,Su,if_neg (by simp)];refine(RQ.2 λz hz=>?_).symm;obtain⟨j,d⟩:=Qr.1 hz;have:z.2.p≠b.2.p:=λe=>by have:=hu (j+1) 0 z b (by simpa using d) rfl e;omega
   simpa using this
 |b::l,i+1,a,hu,h=>by
   simp only[RD] at h;have c:b.2.p≠a.2.p:=λe=>by have:=hu 0 (i+1) b a rfl (by simpa using h) e;omega
   rw[List.eraseIdx_cons_succ,Su,if_pos (by simpa using c)];rw[erase_filter (λi j z z' h1 f e=>by have:=hu (i+1) (j+1) z z' (by simpa using h1) (by simpa using f) e;omega) h]
def jO (zs w:List FZ):List FZ:=zs.filter λz=>!(w.any λu=>u.2.p==z.2.p)
theorem B5 (zs w:List FZ)(a:FZ):jO zs (w++[a])=(jO zs w).filter λz=>!(z.2.p==a.2.p):=by
 unfold jO;rw[List.filter_filter];refine Sp λz _=>?_;rw[List.any_append,List.any_cons,List.any_nil,Bool.or_false,Bool.not_or,Bool.and_comm];congr 2;exact Bool.beq_comm
theorem KF {F:Nat->Prop}{H:aa}{p dp:Nat}{s:Pl}{n:ByteArray}{K:Int->aa->Prop}(hg:Gl H)(h:ax F H p dp s)
  (E:∀F' H',ax F' H' p dp (s.kr n).1->Step F F' H H'->K (s.kr n).2 H'):Jl.sp (av p) n H K:=by
 have a8:=h;obtain⟨x,D,hd,hF⟩:=h;refine Jl.of ?_;unfold Jl.vc;simp only[aw];refine kM hd.ar ?_;unfold Pl.kr at E;refine ao (λhw=>?_) (λhw=>?_)
 ·have P:s.wrong≠0:=by simpa using hw
  rw[if_pos P] at E;exact E F H a8 (.refl _ _)
 have P:¬s.wrong≠0:=by simpa using hw
 rw[if_neg P] at E;refine hd.ar.head.ld (c:=aq) (i:=0) (x:=av dp) rfl ?_;refine Br hd.jI ?_;have fin:∀(e:Int) (x':PG) (D':Nat->Prop) (H1:aa) (t:Pl),bU x' D' H1 p dp t->Step (λb=>D b\/x.all p b) (λb=>D' b\/x'.all p b) H H1->(∀F' H',ax F' H' p dp (Pl.out (t,e)).1->Step F F' H H'->K (Pl.out (t,e)).2 H')->
   AM.sp (av p) e H1 λr V=>K r V:=by
  intro e x' D' H1 t h1 S1 hk;refine Bh (hd.gl hg S1.mod) h1 λV X Y=>?_;obtain⟨F',G,J⟩:=X.out (x:=x) (D:=D) (F:=F) (H:=H) hF (S1.trans Y);exact hk F' V G J
 refine ao (λhz=>?_) (λhz=>?_)
 ·have R:(s.d.len n).2≠0:=by simpa using hz
  rw[if_pos R] at E;exact fin _ x D H s hd (.refl _ _) E
 have R:¬(s.d.len n).2≠0:=by simpa using hz
 rw[if_neg R] at E;refine NU hd.ar λsl H1 o1 e1 f1=>?_;have N:=hd.ext e1;have o:=o1.n (by decide);rw[QI] at o;have bs:(x.of n).length<=4096:=by
  have h1:=PG.Hq hd.ar.fs n;have X:=s.uQ n;rw[<-h1,QI] at X;have:=hd.ar.wf.len;have:=hd.ar.wf.most;omega
 have L:((x.of n).any λz=>!z.1.pins.isEmpty)=s.fs.any (λf=>f.name.toList==n.toList&&!f.pins.isEmpty):=by
  rw[UC,Sv,Sv];constructor
  ·rintro⟨z,hz,e⟩;obtain⟨G,J⟩:=PG.gG.1 hz;refine⟨z.1,by rw[hd.ar.fs];exact QB.2 ⟨z,G,rfl⟩,?_⟩;rw[J,e];simp
  ·rintro⟨f,hf,e⟩;rw[hd.ar.fs] at hf;obtain⟨z,hz,rfl⟩:=QB.1 hf;simp only[Qz] at e;exact⟨z,PG.gG.2 ⟨hz,ka (by simpa using e.1)⟩,e.2⟩
 refine rZ o1 (λz hz=>N.ar.aD.each z (PG.gG.1 hz).1) (by omega) ?_;rw[L];cases Z:s.fs.any (λf=>f.name.toList==n.toList&&!f.pins.isEmpty) with
 |true=>
   rw[Z,if_pos rfl] at E;obtain⟨F',G,J⟩:=N.out (x:=x) (D:=D) (F:=F) (H:=H) hF (Step.ext e1);exact aT rfl (E F' H1 G J)
 |false=>
   rw[Z,if_neg (by simp)] at E;refine az rfl ?_;have S:∀z∈x.of n,z.1.pins=[]:=by
    intro z hz;rw[Z] at L;have:=(UM.1 L) z hz;simpa using this
   refine ay (x.of n).length (λk z A=>z=(k:Int)/\∃y,bU y D A p dp {s with fs:=(jO x.zs ((x.of n).take k)).map (·.1)}/\y.zs=jO x.zs ((x.of n).take k)/\Step (λb=>D b\/x.all p b) (λb=>D b\/y.all p b) H1 A/\dm gW uX A sl ((x.of n).map λz=>z.2.p)) ⟨rfl,x,?_,?_,.refl _ _,o1⟩ ?_
   ·have e:(jO x.zs ((x.of n).take 0)).map (·.1)=s.fs:=by
     rw[hd.ar.fs];unfold jO PG.fs;rw[RQ.2 (λ_ _=>by simp)]
    rw[e];exact N
   ·unfold jO;rw[RQ.2 (λ_ _=>by simp)]
   rintro k _ A next hk ⟨rfl,y,d,hy,SA,oA⟩ T
   have ae:Gl A:=N.gl (hg.mod e1 id) SA.mod;refine ao (λhc=>?_) (λhc=>?_)
   ·have O:k<(x.of n).length:=by rw[o] at hc;simpa using hc
    have af:(x.of n)[k]∈x.of n:=Qn O;obtain⟨a1,bA⟩:=PG.gG.1 af;have a6:(x.of n)[k]∈y.zs:=by
     rw[hy];unfold jO;rw[QL];refine⟨a1,?_⟩;rw[Bool.not_eq_true',UM];intro u hu e;obtain⟨j,hj,rfl⟩:=List.getElem_of_mem hu;simp only[Qw] at hj;simp only[UP,beq_iff_eq] at e;have ba:(x.of n)[j]∈x.of n:=Qn (by omega);have e2:=hd.ar.aD.ptr (PG.gG.1 ba).1 a1 e;have bg:(x.of n).Nodup:=by
      have hz:x.zs.Nodup:=by
       have:=hd.ar.wf.keys;rw[hd.ar.fs] at this;unfold PG.fs at this;rw[RE] at this;exact kP _ this
      unfold PG.of;exact(List.mergeSort_perm _ _).symm.nodup (hz.filter _)
     have:=(List.getElem_inj bg).1 e2;omega
    obtain⟨i,hi⟩:=Qr.1 a6;refine yq oA (i:=k) (q:=(x.of n)[k].2.p) (by simp[O]) rfl λad ha=>?_;refine d.ar.head.ld (c:=dB) (i:=2) (x:=some y.mf) rfl ?_;simp only[aw];refine ez.CJ (d.ar.aD.each _ a6) ?_;refine BE ae d hi (S _ af) λbB v A2 X Y m2=>?_;have e2:y.zs.eraseIdx i=jO x.zs ((x.of n).take (k+1)):=by
     rw[QA O,B5,<-hy];refine erase_filter (λa c z z' G J e=>?_) hi;by_cases a7:a=c
     ·exact a7
     ·exact absurd (.inl e) (d.ar.aD.apart a c z z' G J a7 z.2.p (.inl rfl))
    refine T O _ _ ⟨aH k (by omega),_,?_,e2,SA.trans Y,?_⟩
    ·have e3:(Pl.drop {s with fs:=(jO x.zs ((x.of n).take k)).map (·.1)} i)={s with fs:=(jO x.zs ((x.of n).take (k+1))).map (·.1)}:=by
      unfold Pl.drop;simp only;rw[<-qJ,<-e2,hy]
     rw[<-e3];exact X
    ·refine oA.aE λb Z hl=>m2.same b hl ?_;intro e;obtain⟨c,q⟩:=oA.obj b Z;rw[e,d.ar.aD.fmap.obj] at q;cases q
   ·have bl:k=(x.of n).length:=by rw[o] at hc;simp at hc;omega
    have e4:({s with fs:=(jO x.zs ((x.of n).take k)).map (·.1)}:Pl)=s.forget n:=by
     unfold Pl.forget;rw[bl,QO (Qm _),hd.ar.fs];unfold jO PG.fs;rw[List.filter_map];congr 2;refine Sp λz hz=>?_;show (!_)=!(z.1.name.toList==n.toList);congr 1;rw[UC,Sv,beq_iff_eq];constructor
     ·rintro⟨u,hu,e⟩;obtain⟨G,J⟩:=PG.gG.1 hu;have:=hd.ar.aD.ptr G hz (by simpa using e);rw[<-this,J]
     ·intro e;exact⟨z,PG.gG.2 ⟨hz,ka e⟩,by simp⟩
    rw[e4] at d;refine d.ar.head.ld (c:=aq) (i:=0) (x:=av dp) rfl ?_;refine Em d.jI λD2 V a2 Y=>?_;obtain⟨G,J⟩:=d.vR ae a2 Y;exact fin _ y D2 V _ G ((SA.trans J).ahead e1) E
end Go.Proofs.YtkehfflpbpdokaaGreatDoor
namespace Go.Proofs.YtkehfflpbpdokaaGreatDoor
def v0 (j:Nat)(l:List Int):Prop:=l=[(j:Int)+1]
open Go.MapKept
def TP (H A:aa)(p dp:Nat)(s:Pl):Prop:=Ext H A/\∃F,ax F A p dp s/\∀b,F b->H.size<=b
variable {H A:aa}{p dp:Nat}{s:Pl}{n:ByteArray}
theorem TP.new {D:Nat->Prop}{d:Dk}{m:Nat}{K:(Option Addr×Int)->aa->Prop}(c:Gl H)(e:Ext H A)(hd:cC D A dp d)(f:∀b,D b->H.size<=b)(h:8<=m)(hm:m<=4096)
  (i:∀p B,TP H B p dp (vY d m)->K (av p,0) B):It.sp (av dp) (m:Int) A K:=by
 refine BP (c.mod e id) hd (λq=>by have:=f _ q;have:=c.lt;omega) h hm λF p B h1 j f1=>?_;refine i p B ⟨e.trans j,F,h1,λb o=>?_⟩;rcases f1 b o with q|q
 ·exact f b q
 ·exact QZ e.size q
end Go.Proofs.YtkehfflpbpdokaaGreatDoor
namespace Go.Proofs.YtkehfflpbpdokaaGreatDoor
open Go.MapKept
def gJ (W depth root count:Nat):List UInt8:=Qx W::Qx depth::vC root++iO (gd [(count:Int)])
theorem GK (c:Int):(gd [c]).length=8:=by simp[gd,gU]
theorem yh (W depth root count:Nat):(gJ W depth root count).length=14:=by
 unfold gJ;rw[Qt,QJ,QJ,ic,j0,GK]
theorem tF {H:aa}{t:TypeId}(n:Nat)(l:List UInt8){cs:Array Value}(c:cs=((fm l).map (Ql .u8)).toArray)(d:l.length=n)(h:n<=1000){K:Addr->aa->Prop}
  (f:∀H',aA H' 0 t 1 ⟨some ⟨H.size,0,none⟩,n,n⟩ ((fm l).map (Ql .u8))->Ext H H'->K ⟨H.size,0,none⟩ H'):aB H cs t K:=by
 subst c;subst d;refine f _ (aA.fresh (n:=l.length) (cap:=l.length) (QN _) (Qm _) (by unfold maxLen;omega) (by simp) (by simp) ?_) (Mod.push _ _ _);have e:l.length*1=((fm l).map (Ql .u8)).length:=by simp
 rw[e];exact List.take_length
section
variable {H:aa}{k p dp:Nat}{t:Tr}{F:Nat->Prop}{s:Pl}{q:Nat}{I:Pl->St->Nat->Prop}{B C:Pl->Int->Prop}{x:St}{m:Nat}{W root depth count:Nat}
set_option maxHeartbeats 2000000 in
theorem DU {fr:Bool}{K:Int->aa->Prop}(hg:Gl H)(h:aV H k p t)(hp:ax F H p dp s)(hk:¬F k)(hw:t.width=(W:Int))(hr:t.root=(root:Int))(hd:t.depth=(depth:Int))(hc:t.count=(count:Int))(bE:count<18446744073709551616)
  (S:t.name.size<=9223372036854775807) (af:s.d.bt<68719470000) (T:s.next<1099511627776) (h0:0<=s.next) (a1:s.Fit)
  (d:fr=true->∀F' H',ax F' H' p dp (s.more t.name 5 (gJ W depth root count)).1->Step F F' H H'->K (s.more t.name 5 (gJ W depth root count)).2 H')
  (f:fr=false->∀F' H',ax F' H' p dp (s.over t.name 0 5 (gJ W depth root count)).1->Step F F' H H'->K (s.over t.name 0 5 (gJ W depth root count)).2 H'):LO.sp (av k) fr H K:=by
 refine LO.of ?_;unfold LO.vc;have bD:=aI h;refine⟨λz A=>∃r s1,ax r A p dp s1/\aV A k p t/\¬r k/\Gl A/\s1.next<9223372036854775807/\(z.2≠0->K z.2 A)/\
  (z.2=0->∀F' H',ax F' H' p dp (Pl.leave (s1.set z.1 5 (gJ W depth root count)) z.1).1->Step r F' A H'->K (Pl.leave (s1.set z.1 5 (gJ W depth root count)) z.1).2 H'),?_,?_⟩
 ·simp only[aw,av];cases fr with
  |true=>
    refine aT rfl ?_;refine ab.ld (c:=aq) (i:=0) (x:=av p) h rfl ?_;refine ab.ld (c:=dN) (i:=1) (x:=t.name) h rfl ?_;refine zx hg hp S (by omega) (by omega) a1 λr H1 p1 y=>?_;have d:=d rfl;unfold Pl.more at d;have L:(s.fresh t.name).1.next<=s.next+1:=s.tP h0 T
    generalize (s.fresh t.name).1=s1 at*;generalize (s.fresh t.name).2.1=hd at*;generalize (s.fresh t.name).2.2.2=e at*;have j:¬r k:=λu=>(y.own _ u).elim hk λu=>by omega
    refine⟨r,s1,p1,h.mod y.mod hk,j,hg.mod y.mod hp.eV,by omega,λhe=>?_,λhe F' H' p3 V=>?_⟩
    ·have he:e≠0:=he;rw[if_pos he] at d;exact d r H1 p1 y
    ·have he:¬e≠0:=by simpa using he
     rw[if_neg he,if_neg (by decide)] at d;exact d F' H' p3 (y.trans V)
  |false=>
    refine az rfl ?_;refine ab.ld (c:=aq) (i:=0) (x:=av p) h rfl ?_;refine ab.ld (c:=dN) (i:=1) (x:=t.name) h rfl ?_;refine Bv hg hp S (by decide) (by decide) (by omega) (by omega) λr H1 p1 y=>?_;have f:=f rfl;unfold Pl.over at f;have L:(s.cK t.name 0).1.next<=s.next+1:=s.ua h0 T
    generalize (s.cK t.name 0).1=s1 at*;generalize (s.cK t.name 0).2.1=hd at*;generalize (s.cK t.name 0).2.2=e at*;have j:¬r k:=λu=>(y.own _ u).elim hk λu=>by omega
    refine⟨r,s1,p1,h.mod y.mod hk,j,hg.mod y.mod hp.eV,by omega,λhe=>?_,λhe F' H' p3 V=>?_⟩
    ·have he:e≠0:=he;rw[if_pos he] at f;exact f r H1 p1 y
    ·have he:¬e≠0:=by simpa using he
     rw[if_neg he] at f;exact f F' H' p3 (y.trans V)
 ·rintro⟨o,e⟩ H1 ⟨r,s1,p1,t1,j,g1,L,c1,c2⟩;dsimp only at c1 c2 ⊢;refine ao (λhc=>c1 (by simpa using hc)) (λa6=>?_);have c2:=c2 (by simpa using a6);clear c1 d f;refine⟨λD=>Ext H1 D,.refl _ _,?_⟩;simp only[aw,av];refine ab.bW (c:=ai .i64) (i:=2) (x:=t.width) (cs:=λ_=>(mS p t).toArray) (λD N=>t1.ext N) (λ_ _=>rfl) ?_;refine ab.bW (c:=ai .i64) (i:=4) (x:=t.depth) (cs:=λ_=>(mS p t).toArray) (λD N=>t1.ext N) (λ_ _=>rfl) ?_;refine ab.bW (c:=ai .i64) (i:=3) (x:=t.root) (cs:=λ_=>(mS p t).toArray) (λD N=>t1.ext N) (λ_ _=>rfl) ?_;rw[hw,hd,hr,lN,lN];have ev:#[Ql .u8 ((Qx W).toNat:Int),Ql .u8 ((Qx depth).toNat:Int)]=((fm [Qx W,Qx depth]).map (Ql .u8)).toArray:=rfl
  -- the bytes' end
  have tail:∀(A:aa) (b:Sl),Ext H1 A->aA A 0 kJ 1 b ((fm ([Qx W,Qx depth]++vC root)).map (Ql .u8))->(∀c,al b c->H1.size<=c)->
    ∃E:aa->Prop,E A/\bW aq E (QS ⟨k,0,none⟩ 0) λ(a8:Option Addr)=>ld (ai .i64) A (QS ⟨k,0,none⟩ 5) λ(ba:Int)=>aB A #[(.int .u64 (Q0.wrap ba))] gM λbg H7=>E H7/\E9.sp (Sl.mk (some bg) 1 1) H7 λ(bl:Sl) H8=>E H8/\bI au Qf (Qo #[jX,jX] jX #[b.v,bl.v]) H8 λ(s:Sl) X=>E X/\Hd.sp a8 o (5:Int) s X λ(e:Int) O=>br (e==(0:Int)) (ld aq O (QS ⟨k,0,none⟩ 0) λ(bs:Option Addr)=>Fh.sp bs o O λ(bA:Int) bB=>K bA bB) (K e O):=by
   intro A b Y ob fb;refine⟨λD=>Ext H1 D,Y,?_⟩;refine ab.bW (c:=aq) (i:=0) (x:=av p) (cs:=λ_=>(mS p t).toArray) (λD N=>t1.ext N) (λ_ _=>rfl) ?_;refine ab.ld (c:=ai .i64) (i:=5) (x:=t.count) (t1.ext Y) rfl ?_;have ew:Q0.wrap t.count=(count:Int):=by rw[hc,Ve];omega
   rw[ew];have eo:#[Ql .u64 (count:Int)]=(([(count:Int)]).map (Ql .u64)).toArray:=rfl;rw[eo];refine kC _ λpq H7 z7 q7 a7 Z=>⟨Y.trans Z,?_⟩;refine qq (a7 1) (by simp) λsb H8 o8 e8=>⟨(Y.trans Z).trans e8,?_⟩;have b8:dA H8 sb (iO (gd [(count:Int)])):=by
    unfold dA;rw[og (nW _)];exact o8.ints
   have bG:=(Z.trans e8).size;refine DI (s:=b) (x:=sb) ((ob.ext Z).ext e8) b8 (by rw[j0,GK];show 6+8<=1000000;omega) λb9 X o9 m9 f9=>?_;have R:Ext H1 X:=((Ext.mod ((Y.trans Z).trans e8)).trans m9).ext fb;refine⟨R,?_⟩;have eb:[Qx W,Qx depth]++vC root++iO (gd [(count:Int)])=gJ W depth root count:=rfl;rw[eb] at o9;have SA:Step r r H1 X:=.bX R;refine Hi (kd:=5) (l:=gJ W depth root count) (g1.mod R id) (p1.ext R) o9.ints λF2 H2 p2 S2=>?_;have bC:Gl H2:=(g1.mod R id).mod S2.mod p1.eV;have b0:(s1.set o 5 (gJ W depth root count)).1.next=s1.next:=s1.zv _ _ _
   generalize s1.set o 5 (gJ W depth root count)=s2 at*;refine ao (λP=>?_) (λP=>?_)
   ·have e2:s2.2=0:=by simpa using P
    refine ab.ld (c:=aq) (i:=0) (x:=av p) ((t1.ext R).mod S2.mod j) rfl ?_;refine uf bC p2 (by omega) λF3 H3 p3 V=>?_;have el:Pl.leave s2 o=s2.1.bK o:=if_pos e2;rw[el] at c2;exact c2 F3 H3 p3 ((SA.trans S2).trans V)
   ·have e2:s2.2≠0:=by simpa using P
    have el:Pl.leave s2 o=s2:=if_neg e2;rw[el] at c2;exact c2 F2 H2 p2 (SA.trans S2)
  have f5:∀{A:aa},H1.size<=A.size->∀c,al (Sl.mk (some ⟨A.size,0,none⟩) 2 2) c->H1.size<=c:=by
   rintro A hA c ⟨ad,ha,rfl⟩;cases ha;exact hA
  refine⟨?_,?_⟩
  ·refine tF 2 [Qx W,Qx depth] ev rfl (by decide) λH4 o4 G=>WD G ?_;refine qi λpb H5 b5 J q5=>WD (G.trans J) ?_;have hz:=(G.trans J).size;refine DI (s:=⟨some ⟨H1.size,0,none⟩,2,2⟩) (x:=⟨some pb,4,4⟩) (o4.ext J) b5 (by rw[ic];show 2+4<=1000000;omega) λb6 H6 o6 m6 g6=>?_;have e6:Ext H1 H6:=((Ext.mod (G.trans J)).trans m6).ext (f5 (Qm _));refine WD e6 (tail H6 b6 e6 o6 λc u=>?_);rcases g6 c u with v|v
   ·exact f5 (Qm _) c v
   ·omega
  ·refine qi λpb H4 b4 G q4=>WD G ?_;refine tF 2 [Qx W,Qx depth] ev rfl (by decide) λH5 o5 J=>WD (G.trans J) ?_;have ae:=G.size;have hz:=(G.trans J).size;refine DI (s:=⟨some ⟨H4.size,0,none⟩,2,2⟩) (x:=⟨some pb,4,4⟩) o5 (b4.aE λad _ hl=>J.same _ hl id) (by rw[ic];show 2+4<=1000000;omega) λb6 H6 o6 m6 g6=>?_;have e6:Ext H1 H6:=((Ext.mod (G.trans J)).trans m6).ext (f5 ae);refine WD e6 (tail H6 b6 e6 o6 λc u=>?_);rcases g6 c u with v|v
   ·exact f5 ae c v
   ·omega
def NK (n:ByteArray)(W:Nat):Tr:=⟨n,W,1,1,0,0,false⟩
def St.made (x:St)(W:Nat):St:=St.more ⟨x.N+1,iQ x.T x.N (5,gJ W 1 1 0)⟩ ⟨[],[]⟩
set_option maxHeartbeats 1000000 in
theorem Ka {n:ByteArray}{x0:St}{K:(Option Addr×Int)->aa->Prop}(S:jQ n q I B C)(hW:W<=16)(hg:Gl H)(hp:ax F H p dp s)(hm:m+2<=30000000000)
  (T:(s.d.create n).2=0->I (s.dH (s.d.create n).1) x0 m)
  (V:(s.d.create n).2≠0->∀F' A,ax F' A p dp (s.dH (s.d.create n).1)->Step F F' H A->K (none,(s.d.create n).2) A)
  (y:(s.d.create n).2=0->x0.N+1<q->∀F' A s' k,ax F' A p dp s'->Step F F' H A->aV A k p (NK n W)->¬F' k->H.size<=k->I s' (x0.made W) (m+2)->K (av k,0) A)
  (E:(s.d.create n).2=0->¬x0.N+1<q->∀F' A s' e,ax F' A p dp s'->Step F F' H A->B s' e->K (none,e) A)
  (ae:∀F' A s' e,ax F' A p dp s'->Step F F' H A->C s' e->K (none,e) A):Iv.sp (av p) n W H K:=by
 refine Iv.of ?_;unfold Iv.vc;obtain⟨_,_,af,_⟩:=mH hW;refine az rfl ?_;refine oH ?_;refine az (by simp only[beq_eq_false_iff_ne,ne_eq];omega) ?_;refine HG hp ?_;obtain⟨D,d1,_,d3⟩:=ax.jI hg hp;refine DR d1 λD' d d4 S4=>?_;obtain⟨F3,p3,T3⟩:=d3 D' d _ d4 S4;refine ao (λhc=>V (by simpa using hc) F3 d p3 T3) (λhc=>?_);have G:(s.d.create n).2=0:=by simpa using hc
 have T:=T G;have y:=y G;have E:=E G;clear V;generalize s.dH (s.d.create n).1=s3 at*;have X:Gl d:=hg.mod T3.mod hp.eV;refine aj λH4 z4 r4 e4=>?_;have t4:aV H4 d.size p (NK n W):=r4;have k4:¬F3 d.size:=λu=>by have:=p3.lt _ u;omega
 have T4:Step F F3 H H4:=T3.trans (.bX e4);have a6:=T3.mod.size;obtain⟨b1,b2,b3,b4,b5,b6⟩:=S.pre T;have hlen:(gJ W 1 1 0).length<=504:=by rw[yh];omega
 refine DU (fr:=true) (W:=W) (depth:=1) (root:=1) (count:=0) (X.mod e4 id) t4 (p3.ext e4) k4 rfl rfl rfl rfl (by decide) S.name (by omega) (by omega) b2 b4 (λ_ h j P Y=>?_) (λu=>by cases u);have T5:=T4.trans Y;have k5:¬h d.size:=λu=>by
  rcases Y.own _ u with v|v
  ·exact k4 v
  ·omega
 have t5:aV j d.size p (NK n W):=t4.mod Y.mod k4;have bg:=Y.mod.size;refine⟨λz A=>∃F' s',ax F' A p dp s'/\Step F F' H A/\((z=0/\x0.N+1<q/\aV A d.size p (NK n W)/\¬F' d.size/\I s' (x0.made W) (m+2))\/(B s' z/\¬x0.N+1<q)\/C s' z),?_,?_⟩
 ·change br ((s3.more n 5 (gJ W 1 1 0)).2==0) _ _;have ba:∀e:Int,e≠0->∀(J:Int->aa->Prop) (M:Prop),J e j->br (e==(0:Int)) M (J e j):=λe he J M hj=>az (by simpa using he) hj;by_cases R:x0.N<q
  ·rcases S.more (kd:=5) (b:=gJ W 1 1 0) T (by omega) hlen (by decide) R with ⟨a1,a2,a3⟩|f
   ·change ax h j p dp (s3.more n 5 (gJ W 1 1 0)).1 at P;rw[a1];refine aT rfl ?_;refine aj λH7 z7 r7 Z=>?_;have a7:¬h j.size:=λu=>by have:=P.lt _ u;omega
    have nd:dn h H7 j.size (-1) (Sl.mk none 0 0) (Sl.mk none 0 0) ⟨[],[]⟩:=⟨r7,a7,⟨rfl,Reads.nil _ _⟩,(λad u=>by cases u),⟨rfl,(λad u=>by cases u),λi hi=>by simp at hi⟩⟩;have T7:Step F h H H7:=T5.trans (.bX Z);have a8:Gl H7:=((X.mod e4 id).mod Y.mod p3.eV).mod Z id;have L:d.size≠j.size:=by omega
    have c:∀{r:Nat->Prop} {A:aa},Step (λb=>h b\/b=j.size) (λb=>r b\/b=j.size) H7 A->Step F r H A:=λo=>T7.drop (by omega) o;refine nZ (t:=NK n W) S a3 (by omega) a8 (t5.ext Z) (P.ext Z) k5 L nd (by decide) (by simp) (by simp) (by simp) (λN r A s8 p8 o I8 n8=>?_) (λN r A s8 e p8 o h8 O=>?_) (λr A s8 e p8 o h8 f=>?_)
    ·refine⟨r,s8,p8,c o,.inl ⟨rfl,N,(t5.ext Z).mod o.mod λu=>u.elim k5 L,λu=>?_,I8⟩⟩;rcases o.own _ (.inl u) with v|v
     ·exact v.elim k5 L
     ·omega
    ·exact⟨r,s8,p8,c o,.inr (.inl ⟨O,N⟩)⟩
    ·exact⟨r,s8,p8,c o,.inr (.inr f)⟩
   ·exact az (by have:=(S.errC f).1;simpa using this) ⟨h,_,P,T5,.inr (.inr f)⟩
  ·rcases S.full (kd:=5) (b:=gJ W 1 1 0) T (by omega) hlen (by decide) R with O|f
   ·exact az (by have:=(S.errB O).1;simpa using this) ⟨h,_,P,T5,.inr (.inl ⟨O,by omega⟩)⟩
   ·exact az (by have:=(S.errC f).1;simpa using this) ⟨h,_,P,T5,.inr (.inr f)⟩
 ·rintro z A ⟨F',s',pA,SA,hA⟩;rcases hA with ⟨rfl,R,tA,kA,IA⟩|⟨O,R⟩|f
  ·exact az rfl (y R F' A s' d.size pA SA tA kA a6 IA)
  ·exact aT (by have:=(S.errB O).1;simpa using this) (E R F' A s' z pA SA O)
  ·exact aT (by have:=(S.errC f).1;simpa using this) (ae F' A s' z pA SA f)
end
end Go.Proofs.YtkehfflpbpdokaaGreatDoor
namespace Go.Proofs.YtkehfflpbpdokaaGreatDoor
structure ie (x:St)(W root depth:Nat)(L:List (List Int))(P:List Nat):Prop where
 tn:Tn x W depth (depth - 1) root fL L P
 nodup:P.Nodup
 deep:1<=depth
 head:0∉P
 aG:P.length+1=x.N
theorem vT (l:List Int):fL.Has l:=⟨λa h=>(by cases h),λa h=>(by cases h)⟩
theorem AD {T:Nat->UInt8×List UInt8}{W:Nat}(c:W<=16):ie (St.made ⟨0,T⟩ W) W 1 1 [] [1]:=by
 refine⟨?_,by simp,Qm _,by simp,rfl⟩;refine Tn.mk (n:=⟨[],[]⟩) (Q:=[]) c (by show 1<2;decide) (by exact dJ (iQ T 0 (5,gJ W 1 1 0)) 1 _) ⟨λ_=>rfl,λq=>by omega,by decide,λq=>by omega,λl d=>(by cases d),λk hk=>(by cases hk),by decide⟩ ⟨rfl,rfl,rfl⟩
theorem gq {L:List (List Int)}(h:dG L):L.Nodup:=UO (λ{a b} h e=>by subst e;exact bQ _ h) h
theorem nK.length {l:List Int}{L L':List (List Int)}(h:nK l L L')(h1:dG L)(c:dG L')(d:l∉L):L'.length=L.length+1:=by
 have p:L'.Perm (l::L):=(List.perm_ext_iff_of_nodup (gq c) (Rp.2 ⟨d,gq h1⟩)).2 λa=>by
  rw[h a,Qs]
 simpa using p.length_eq
theorem tw:∀{A B:List (List Int)},dG A->dG B->(∀y,y∈A↔y∈B)->A=B
 |[],[],_,_,_=>rfl
 |[],b::B,_,_,h=>by have:=(h b).2 Qp;cases this
 |a::A,[],_,_,h=>by have:=(h a).1 Qp;cases this
 |a::A,b::B,h1,i,h=>by
   obtain⟨d,a2⟩:=Rf.1 h1;obtain⟨f,b2⟩:=Rf.1 i;have e:a=b:=by
    rcases Qs.1 ((h a).1 Qp) with q|q
    ·exact q
    ·rcases Qs.1 ((h b).2 Qp) with r|r
     ·exact r.symm
     ·exact absurd (bp (f a q) (d b r)) (bQ b)
   subst e;rw[tw a2 b2 λy=>?_];constructor
   ·intro c;rcases Qs.1 ((h y).1 (Qu _ c)) with q|q
    ·subst q;exact absurd (d y c) (bQ _)
    ·exact q
   ·intro c;rcases Qs.1 ((h y).2 (Qu _ c)) with q|q
    ·subst q;exact absurd (f y c) (bQ _)
    ·exact q
section
variable {x:St}{W root depth:Nat}{L:List (List Int)}{P:List Nat}
theorem ie.pS (h:ie x W root depth L P):dG L:=h.tn.rows.1
theorem ie.bounds (h:ie x W root depth L P)(d:L.length<=400):depth<=401/\x.N<=802/\root<x.N/\root≠0:=by
 have c:=h.tn.ag;have hr:root≠0:=λe=>h.head (e▸c.1);have h1:=h.aG;rcases Q6 1 depth with q|q
 ·obtain⟨s1,s2⟩:=h.tn.Gh q;have:=Yn (n:=depth - 1);refine⟨by omega,by omega,c.2,hr⟩
 ·have hd:depth=1:=by have:=h.deep;omega
  subst hd;obtain⟨n,f,a2,a3,a4⟩:=h.tn;rw[a4] at h1;simp at h1;exact⟨by omega,by omega,c.2,hr⟩
theorem ie.ins {l:List Int}{q:Nat}(h:ie x W root depth L P)(G:W<=16)(S:l.length=W/\cO l)(V:L.length<=400)(n:ByteArray)(hq:x.N+depth<q):
  (l∈L/\x.ins q ⟨n,W,root,depth,L.length,0,false⟩ root depth l=.ok false ⟨n,W,root,depth,L.length,0,false⟩ x)\/
  (l∉L/\∃x' d c L' P',x.ins q ⟨n,W,root,depth,L.length,0,false⟩ root depth l=.ok true ⟨n,W,(d:Nat),(c:Nat),L'.length,0,false⟩ x'/\ie x' W d c L' P'/\nK l L L'/\L'.length=L.length+1):=by
 obtain⟨b1,b2,b3,b4⟩:=h.bounds V;have hd:=h.deep;have o:=Hk (q:=q) G S h.tn h.nodup (vT l) (by omega) (by omega);unfold St.ins;show (l∈L/\(match x.add W q depth l (depth - 1) root fL with
  |.store=>Gj.store
  |.quota=>.quota
  |.ok f none x'=>.ok f (Tr.up ⟨n,W,root,depth,L.length,0,false⟩ f) x'
  |.ok f (some m) x'=>if x'.N<q then .ok f ((Tr.grown ⟨n,W,root,depth,L.length,0,false⟩ x'.N (depth+1)).up f) (x'.more ⟨[root,m.1],[m.2]⟩) else .quota)=_)\/(l∉L/\∃x' d c L' P',(match x.add W q depth l (depth - 1) root fL with
  |.store=>Gj.store
  |.quota=>.quota
  |.ok f none x'=>.ok f (Tr.up ⟨n,W,root,depth,L.length,0,false⟩ f) x'
  |.ok f (some m) x'=>if x'.N<q then .ok f ((Tr.grown ⟨n,W,root,depth,L.length,0,false⟩ x'.N (depth+1)).up f) (x'.more ⟨[root,m.1],[m.2]⟩) else .quota)=_/\_)
 rcases o with ⟨i1,i2⟩|⟨i1,i2⟩
 ·left;rw[i2];exact⟨i1,rfl⟩
 ·right;refine⟨i1,?_⟩;generalize x.add W q depth l (depth - 1) root fL=r at i2;have X:=h.aG;cases i2 with
  |put t1 p1 g1 Y=>
    rename_i x' L' P';have hlen:=p1.length h.pS t1.rows.1 i1;have gl:=g1.len;refine⟨x',root,depth,L',P',?_,⟨t1,g1.nodup,hd,λq=>?_,by omega⟩,p1,hlen⟩
    ·show Gj.ok true _ _=_;unfold Tr.up;rw[if_pos rfl,hlen];rfl
    ·rcases g1.mem 0 q with v|v
     ·exact h.head v
     ·omega
  |cut t1 t2 p1 g1 u1 u2 O Z R Y=>
    rename_i x' g up L1 L2 P1 P2;have z:=t1.lt;have D:=t2.lt;have gl:=g1.len;have ae:=g1.le;have e:∀p∈P1++P2,p<x'.N:=λp j=>by
     rcases Qj.1 j with v|v
     ·exact z p v
     ·exact D p v
    have J:1<depth\/(depth - 1=0/\L1≠[]):=by
     rcases Q6 1 depth with q|q
     ·exact .inl q
     ·exact .inr ⟨by omega,(R (by omega)).1⟩
    have K:1<depth\/(depth - 1=0/\L2≠[]):=by
     rcases Q6 1 depth with q|q
     ·exact .inl q
     ·exact .inr ⟨by omega,(R (by omega)).2⟩
    have E:∀p∈P1++P2,(x'.more ⟨[root,g],[up]⟩).T p=x'.T p:=λp j=>by
     have:=e p j;exact cd (by omega)
    have c1:=(t1.deep (d':=depth+1) J).congr (x':=x'.more ⟨[root,g],[up]⟩) (Ri _) λp j=>E p (Qj.2 (.inl j));have c2:=(t2.deep (d':=depth+1) K).congr (x':=x'.more ⟨[root,g],[up]⟩) (Ri _) λp j=>E p (Qj.2 (.inr j));have af:Nd.bytes ⟨[root,g],[up]⟩=Nd.bytes ⟨[root,g],[up]⟩:=rfl;have Mb:Nd.pO ⟨[root,g],[up]⟩ W (depth+1) (depth - 1+1) fL:=by
     refine⟨λq=>by omega,λ_=>⟨rfl,Qm _⟩,du.2 ⟨List.pairwise_singleton _ _,λy _=>vT y⟩,λ_ q=>(by cases q),λy N=>?_,λk hk=>?_,?_⟩
     ·have:y=up:=by simpa using N
      rw[this];exact⟨O,Z⟩
     ·have:k=root\/k=g:=by simpa using hk
      have hg:=t2.ag.2;rcases this with v|v
      ·omega
      ·omega
     ·rw[Nd.da G λy N=>by
       have:y=up:=by simpa using N
       rw[this];exact O]
      rw[if_neg (by simp),(qO G).2];simp only[QJ,R7];split<;>omega
    have tree:Tn (x'.more ⟨[root,g],[up]⟩) W (depth+1) (depth - 1+1) x'.N fL (L1++L2) (x'.N::(P1++P2)):=by
     refine Tn.mk G (U7 _) (dJ _ _ _) Mb ⟨[L1,L2],[P1,P2],⟨rfl,rfl,rfl,λi hi=>?_⟩,by simp,by simp⟩;have:i=0\/i=1:=by
      have:i<2:=hi;omega
     rcases this with v|v
     ·subst v;exact c1
     ·subst v;exact c2
    rw[show depth - 1+1=depth+1 - 1 by omega] at tree;have hlen:=p1.length h.pS tree.rows.1 i1;refine⟨x'.more ⟨[root,g],[up]⟩,x'.N,depth+1,L1++L2,x'.N::(P1++P2),?_,⟨tree,Rp.2 ⟨λq=>by have:=e _ q;omega,g1.nodup⟩,by omega,λq=>?_,?_⟩,p1,hlen⟩
    ·show (if x'.N<q then Gj.ok true _ _ else .quota)=_;rw[if_pos (by omega)];unfold Tr.up;rw[if_pos rfl,hlen];rfl
    ·rcases Qs.1 q with v|v
     ·omega
     ·rcases g1.mem 0 v with u|u
      ·exact h.head u
      ·omega
    ·show (x'.N::(P1++P2)).length+1=x'.N+1;rw[QJ];omega
theorem ie.E7 {low:List Int}{strict:Bool}{t:Tr}(h:ie x W root depth L P)(hw:t.width=(W:Int)):x.E7 t root depth low strict=some ((L.filter (pq low strict)).head?):=by
 unfold St.E7;rw[hw];exact h.tn.find
end
theorem Oh {low:List Int}{strict:Bool}(a b:List Int)(h:gO a b)(c:pq low strict a=true):pq low strict b=true:=by
 rcases iw a low with q|q|q
 ·rw[oU q] at c;cases c
 ·subst q;exact sZ h
 ·exact sZ (bp q h)
open Go.MapKept
structure dg (A:aa)(p:Nat)(M:bd)(k:Nat)(n:ByteArray)(W:Nat)(L:List (List Int)):Prop where
 at_:∃(x:St) (root depth:Nat) (P:List Nat),aV A k p ⟨n,W,root,depth,L.length,0,false⟩/\M n=some x/\ie x W root depth L P
section
variable {H0 A B:aa}{F F':Nat->Prop}{p dp k W Q U most m:Nat}{s s':Pl}{M M':bd}{n:ByteArray}{L:List (List Int)}{x x':St}{l:Sl}{ll:List Int}
theorem dg.aE (h:dg A p M k n W L)(hk:B[k]?=A[k]?)(d:M' n=M n):dg B p M' k n W L:=by
 obtain⟨x,root,depth,P,a,b,c⟩:=h.at_;exact⟨x,root,depth,P,hk.trans a,by rw[d];exact b,c⟩
theorem dg.lt (h:dg A p M k n W L):k<A.size:=by obtain⟨x,root,depth,P,a,b,c⟩:=h.at_;exact aI a
theorem dg.pS (h:dg A p M k n W L):dG L:=by obtain⟨x,root,depth,P,a,b,c⟩:=h.at_;exact c.pS
theorem dg.there (h:dg A p M k n W L):∃x,M n=some x:=by obtain⟨x,root,depth,P,a,b,c⟩:=h.at_;exact⟨x,b⟩
theorem dg.rows (h:dg A p M k n W L):∀y∈L,y.length=W/\cO y:=by
 obtain⟨x,root,depth,P,a,b,c⟩:=h.at_;exact λy d=>(c.tn.rows.2 y d).2
theorem ie.small {root depth:Nat}{P:List Nat}(h:ie x W root depth L P):depth<=L.length+1/\x.N<=2*L.length+2:=by
 have h1:=h.aG;rcases Q6 1 depth with q|q
 ·obtain⟨s1,s2⟩:=h.tn.Gh q;have:=Yn (n:=depth - 1);omega
 ·have hd:depth=1:=by have:=h.deep;omega
  subst hd;obtain⟨n,c,a2,a3,a4⟩:=h.tn;rw[a4] at h1;simp at h1;omega
theorem dg.count {K:Int->aa->Prop}(h:dg A p M k n W L)(d:K (L.length:Int) A):IU.sp (av k) A K:=by
 obtain⟨x,root,depth,P,a,b,c⟩:=h.at_;exact Dd a d
theorem dg.insert {K:(Bool×Int)->aa->Prop}(h:dg A p M k n W L)(o:aM H0 A F p dp s M Q U most m)(X:Gl H0)(hk:¬F k/\H0.size<=k)(Y:n.size<=9223372036854775807)(G:W<=16)(J:L.length<=400)(Z:Q<=1048576)(hq:U+L.length+1<Q)(hm:m+4000<=30000000000)
  (hl:Ints .u64 A l ll) (r:ll.length=W/\cO ll)
  (N:∀f L' F' s' M' O B,aM H0 B F' p dp s' M' Q O most (m+4000)->dg B p M' k n W L'->(f=true↔ll∉L)->nK ll L L'->(f=false->L'=L)->L'.length<=L.length+1->(∀a,a≠n->M' a=M a)->Step (λb=>F b\/b=k) (λb=>F' b\/b=k) A B->¬F' k->O<=U+2*L.length+4->K (f,0) B):Iy.sp (av k) l A K:=by
 obtain⟨x,root,depth,P,ht,S,on⟩:=h.at_;obtain⟨b1,b2,b3,b4⟩:=on.bounds J;obtain⟨c1,c2⟩:=on.small;have hN:=o.calm.told.Js S;have i:=on.ins (q:=Q - (U - x.N)) G r J n (by omega);have own:∀b,F b\/b=k->H0.size<=b:=λb u=>u.elim (o.old b) λv=>v▸hk.2;refine Ba (W:=W) (root:=root) (depth:=depth) (t:=⟨n,W,root,depth,L.length,0,false⟩) (lq (R:=U - x.N) (Mo:=M) (most:=most) Y Z) rfl G rfl rfl ⟨on.deep,by omega⟩ (by omega) ⟨by show (0:Int)<=(L.length:Int);omega,by show (L.length:Int)<=_;omega⟩ (o.many S) hm (o.gl X) ht o.ar hk.1 hl (λu=>absurd rfl u) (λ_ u=>absurd r.1 u) (λ_ _ f t' x' hi F' B s' p1 D T t1 I1=>?_) (λ_ _ hi=>?_) (λ_ _ hi=>?_) (λ_ _ _ _ _ _ _ _ hC=>hC.elim)
 ·have z:=o.goes I1 p1 D own (λb hb=>.inl hb);rcases i with ⟨i1,i2⟩|⟨i1,V,d,c,L',P',i2,j,pl,len⟩
  ·rw[i2] at hi;cases hi;exact N false L F' s' _ _ B z ⟨x,root,depth,P,t1,bo _ _ _,on⟩ ⟨λu=>(by cases u),λu=>absurd i1 u⟩ (λy=>⟨.inr,λu=>u.elim (λe=>e▸i1) id⟩) (λ_=>rfl) (Ri _) (λa E=>aU E) D T (by omega)
  ·rw[i2] at hi;cases hi;have ae:=j.small.2;exact N true L' F' s' _ _ B z ⟨x',d,c,P',t1,bo _ _ _,j⟩ ⟨λ_=>i1,λ_=>rfl⟩ pl (λu=>(by cases u)) (Nat.le_of_eq len) (λa E=>aU E) D T (by omega)
 ·exfalso;rcases i with ⟨i1,i2⟩|⟨i1,V,d,c,L',P',i2,j,pl,len⟩<;>(rw[i2] at hi;cases hi)
 ·exfalso;rcases i with ⟨i1,i2⟩|⟨i1,V,d,c,L',P',i2,j,pl,len⟩<;>(rw[i2] at hi;cases hi)
theorem Kz (h:dG L):((L.filter (pq ll false)).head?=none->decide (ll∈L)=false)/\∀y,(L.filter (pq ll false)).head?=some y->decide (aL y ll=0)=decide (ll∈L):=by
 have i:pq ll false ll=true:=by
  unfold pq;have:¬aL ll ll<0:=bQ ll;simpa using this
 have j:dG (L.filter (pq ll false)):=h.sublist List.filter_sublist;have d:∀y∈L.filter (pq ll false),¬gO y ll:=λy f q=>by
  have:=(QL.1 f).2;rw[oU q] at this;cases this
 have c:ll∈L↔ll∈L.filter (pq ll false):=⟨λu=>QL.2 ⟨u,i⟩,λu=>(QL.1 u).1⟩;generalize L.filter (pq ll false)=N at*;refine⟨λo=>decide_eq_false λu=>?_,λy f=>decide_eq_decide.2 ?_⟩
 ·rw[c] at u;cases N with
  |nil=>cases u
  |cons a N=>cases o
 ·rw[c,dM];cases N with
  |nil=>cases f
  |cons a N=>
    obtain rfl:a=y:=Qq f;rw[Qs];constructor
    ·exact λe=>.inl e.symm
    ·rintro(e|e)
     ·exact e.symm
     ·exact absurd ((Rf.1 j).1 ll e) (d a Qp)
theorem dg.has {K:(Bool×Int)->aa->Prop}(h:dg A p M k n W L)(c:aM H0 A F p dp s M Q U most m)(D:Gl H0)(hk:¬F k/\H0.size<=k)(E:n.size<=9223372036854775807)(G:W<=16)(J:L.length<=400)(N:Q<=1048576)(hm:m+1000000<=30000000000)
  (O:Ints .u64 A l ll) (i:uv F A l ll) (j:ll.length=W)
  (S:∀F' s' B,aM H0 B F' p dp s' M Q U most (m+1000000)->dg B p M k n W L->Step (λb=>F b\/b=k) (λb=>F' b\/b=k) A B->Step F F' A B->¬F' k->K (decide (ll∈L),0) B):Kh.sp (av k) l A K:=by
 obtain⟨x,root,depth,P,T,f,on⟩:=h.at_;obtain⟨b1,b2,b3,b4⟩:=on.bounds J;have hN:=c.calm.told.Js f;have r:=on.E7 (low:=ll) (strict:=false) (t:=⟨n,W,root,depth,L.length,0,false⟩) rfl;have own:∀b,F b\/b=k->H0.size<=b:=λb u=>u.elim (c.old b) λv=>v▸hk.2;refine Kv (W:=W) (root:=root) (depth:=depth) (t:=⟨n,W,root,depth,L.length,0,false⟩) (lq (R:=U - x.N) (Mo:=M) (most:=most) E N) rfl G rfl rfl ⟨on.deep,by omega⟩ (by omega) (c.many f) hm (c.gl D) T c.ar hk.1 O i (λu=>absurd rfl u) (λ_ u=>absurd j u) (λ_ _ o d F' B s' p1 z V X t1 Y=>?_) (λ_ _ u=>by rw[r] at u;cases u) (λ_ _ _ _ _ _ _ _ Z=>Z.elim);rw[r] at d;have d:(L.filter (pq ll false)).head?=o:=Qq d;have e:=c.goes Y p1 z own (λb hb=>.inl hb);rw[xT f,show x.N+(U - x.N)=U by omega] at e;have key:=S F' s' B e ⟨x,root,depth,P,t1,f,on⟩ z V X;obtain⟨e1,e2⟩:=Kz (ll:=ll) on.pS;cases o with
 |none=>rw[e1 d] at key;exact key
 |some y=>rw[<-e2 y d] at key;exact key
theorem dg.next {K:(Sl×Bool×Int)->aa->Prop}{cb:Nat}{lo:Sl}{strict:Bool}(h:dg A p M k n W L)(e:aM H0 A F p dp s M Q U most m)(J:Gl H0)(hk:¬F k/\H0.size<=k)(r:H0.size<=cb)(N:n.size<=9223372036854775807)(O:W<=16)(S:L.length<=400)(T:Q<=1048576)(hm:m+1000000<=30000000000)(V:jZ A F k cb lo ll strict)
  (v:(L.filter (pq ll strict)).head?=none->∀F' s' B,aM H0 B F' p dp s' M Q U most (m+1000000)->dg B p M k n W L->Step (λb=>F b\/b=k\/b=cb) (λb=>F' b\/b=k\/b=cb) A B->¬F' k->jZ B F' k cb lo ll strict->K (lV,false,0) B)
  (z:∀y,(L.filter (pq ll strict)).head?=some y->∀F' s' B sl c,aM H0 B F' p dp s' M Q U most (m+1000000)->dg B p M k n W L->Step (λb=>F b\/b=k\/b=cb) (λb=>F' b\/b=k\/b=cb) A B->¬F' k->jZ B F' k cb c y true->aA B 0 gM 1 sl (y.map (Ql .u64))->(∀b,al sl b->A.size<=b/\¬F' b/\b≠k/\b≠cb/\¬al c b)/\(∀b,al c b->A.size<=b)->K (sl,true,0) B):Is.sp (some ⟨cb,0,none⟩) A K:=by
 obtain⟨x,root,depth,P,X,f,on⟩:=h.at_;obtain⟨b1,b2,b3,b4⟩:=on.bounds S;have hN:=e.calm.told.Js f;have D:=on.E7 (low:=ll) (strict:=strict) (t:=⟨n,W,root,depth,L.length,0,false⟩) rfl;have own:∀b,F b\/b=k\/b=cb->H0.size<=b:=λb u=>by
  rcases u with u|u|u
  ·exact e.old b u
  ·rw[u];exact hk.2
  ·rw[u];exact r
 have pm:∀{F':Nat->Prop} {s':Pl} {B:aa},zz n M Q (U - x.N) most s' x (m+1000000)->ax F' B p dp s'->Step (λb=>F b\/b=k\/b=cb) (λb=>F' b\/b=k\/b=cb) A B->aM H0 B F' p dp s' M Q U most (m+1000000):=λi p1 d=>by
  have j:=e.goes i p1 d own (λb Y=>.inl Y);rw[xT f,show x.N+(U - x.N)=U by omega] at j;exact j
 refine Ht (W:=W) (root:=root) (depth:=depth) (t:=⟨n,W,root,depth,L.length,0,false⟩) (lq (R:=U - x.N) (Mo:=M) (most:=most) N T) rfl O rfl rfl ⟨on.deep,by omega⟩ (by omega) (e.many f) hm (e.gl J) X e.ar hk.1 V (λu=>absurd rfl u) (λ_ o F' B s' p1 d E t1 c1 i=>?_) (λ_ y G F' B s' sl c p1 d E t1 c1 i o1 f1=>?_) (λ_ u=>by rw[D] at u;cases u) (λ_ _ _ _ _ _ _ _ Z=>Z.elim)
 ·rw[D] at o;exact v (Qq o) F' s' B (pm i p1 d) ⟨x,root,depth,P,t1,f,on⟩ d E c1
 ·rw[D] at G;exact z y (Qq G) F' s' B sl c (pm i p1 d) ⟨x,root,depth,P,t1,f,on⟩ d E c1 o1 f1
theorem aM.yj {K:(Option Addr×Int)->aa->Prop}{ns:List ByteArray}(c:aM H0 A F p dp s M Q U most m)(o:Gl H0)(r:n.size<=9223372036854775807)(e:named n=true)(i:W<=16)(v:Q<=1048576)(Y:U+2<Q)(hm:m+2<=30000000000)(z:M n=none)(f:∀a y,M a=some y->a∈ns)(D:ns.length<4096)
  (E:∀F' s' x' k B,aM H0 B F' p dp s' (fS M n (some x')) Q (U+2) most (m+2)->dg B p (fS M n (some x')) k n W []->Step F F' A B->¬F' k->A.size<=k->k<B.size->K (av k,0) B):Iv.sp (av p) n (W:Int) A K:=by
 have G:=c.calm.told.Hw f;obtain⟨c1,c2,Z,J⟩:=c.calm.told.create z e (by omega) (λ_=>(0,[]));have O:zz n M Q U most (s.dH (s.d.create n).1) ⟨0,λ_=>(0,[])⟩ m:=⟨by show dw _ _ _ (0+U);rw[Ry];exact⟨c2,c.calm.wf.dH _,c.calm.free⟩,c.lo,c.hi,by show (s.d.create n).1.bt<=_;rw[J];exact c.bt,by show 0+U<=Q;have:=c.le;omega,λ_=>by show ([]:List UInt8).length<=504;decide,c.most⟩;refine Ka (W:=W) (m:=m) (x0:=⟨0,λ_=>(0,[])⟩) (lq (R:=U) (Mo:=M) (most:=most) r v) i (c.gl o) c.ar hm (λ_=>O) (λu=>absurd c1 u) (λ_ _ F' B s' k p1 j t1 S h T=>?_) (λ_ u=>absurd (show (0+1:Nat)<Q - U by omega) u) (λ_ _ _ _ _ _ V=>V.elim);have d:=c.goes T p1 j c.old (λb X=>X);have e2:(St.made ⟨0,λ_=>(0,[])⟩ W).N+U=U+2:=by show 2+U=U+2;omega
 rw[e2] at d;exact E F' s' _ k B d ⟨_,1,1,[1],t1,bo _ _ _,AD i⟩ j S h (aI t1)
end
theorem GF {P:Program}{g:FuncId}{pK:Array Value}{args:List Value}{H:aa}{K:Bool->aa->Prop}(arr:Array Value)(c:(args++pK.toList).toArray=arr)(d:cI P g=true)(h:an aC P g arr H K):Gz P (.func (.func g) #[] pK) args H K:=by
 unfold Gz;simp only[d,cond_true];subst c;simpa using h
theorem iI {c:gz}{P:Program}{g:FuncId}{pK:Array Value}{args:List Value}{H:aa}{K:c.α->aa->Prop}(arr:Array Value)(d:(args++pK.toList).toArray=arr)(e:cI P g=true)(h:an c P g arr H K):pW c P (.func (.func g) #[] pK) args H K:=by
 unfold pW;simp only[e,cond_true];subst d;simpa using h
section
variable {P:Program}{t kt et:TypeId}{d:TypeDesc}{H:aa}{r:Nat}{es:Array MapEntry}{clk:Nat}{k:Value}
end
structure jR (X:Nat->Prop)(H:aa)(s:Sl)(ls:List (List Int)):Prop where
 len:s.n=ls.length
 off:∀ad,s.a=some ad->ad.block<H.size/\¬X ad.block
 at':∀i (h:i<ls.length),∃ad r,s.a=some ad/\cg H (ad.add i)=some (Sl.v r)/\(∀a,r.a=some a->a.block<H.size/\¬X a.block)/\Ints .u64 H r ls[i]
theorem jR.mod {X:Nat->Prop}{H B:aa}{s:Sl}{ls:List (List Int)}(h:jR X H s ls)(m:Mod X H B):jR X B s ls:=
 ⟨h.len,λad c=>⟨by have:=(h.off ad c).1;have:=m.size;omega,(h.off ad c).2⟩,λi hi=>by
  obtain⟨ad,r,f,j,e,o⟩:=h.at' i hi;exact⟨ad,r,f,m.cell j (by rw[cj];exact(h.off ad f).2),λa c=>⟨by have:=(e a c).1;have:=m.size;omega,(e a c).2⟩,o.mod m λa c=>(e a c).2⟩⟩
theorem jR.drop {X:Nat->Prop}{H:aa}{s:Sl}{ls:List (List Int)}(h:jR X H s ls)(D:s.n<=s.c){i:Nat}(hi:i<=ls.length):jR X H ⟨bF s.a s.c i 1,s.n - i,s.c - i⟩ (ls.drop i):=by
 have f:=h.len;refine⟨by rw[QG];show s.n - i=_;omega,λad c=>?_,λj o=>?_⟩
 ·have c:bF s.a s.c i 1=some ad:=c;unfold bF at c;split at c
  ·exact h.off ad c
  ·cases e:s.a with
   |none=>rw[e] at c;simp at c
   |some a0=>
     rw[e] at c;simp at c;subst c;rw[cj];exact h.off a0 e
 ·rw[QG] at o;obtain⟨ad,r,u,v,y,z⟩:=h.at' (i+j) (by omega);refine⟨ad.add i,r,?_,by rw[add_add];exact v,y,?_⟩
  ·show bF s.a s.c i 1=_;unfold bF;rw[if_neg (by omega),u,Q9];rfl
  ·rw[TE];exact z
theorem CX {H:aa}{t:TypeId}{K:Addr->aa->Prop}(c:∀H',aA H' 0 t 1 ⟨some ⟨H.size,0,none⟩,0,0⟩ []->Ext H H'->K ⟨H.size,0,none⟩ H'):aB H #[] t K:=
 c _ ⟨rfl,.inr ⟨H.size,0,#[],rfl,QN _,by simp,by simp,QN _,by simp,by simp⟩⟩ (Mod.push _ _ _)
theorem NQ:El Qf dX bT 8 (.int .i64 0):=re (zb:=qt .i64) nI rfl (by kernel_rfl)
theorem Dt {H:aa}{s:Sl}{l:List Int}{K:Sl->aa->Prop}(h:Ints .u64 H s l)(D:l.length<=1000000)
  (y:∀s' H',aA H' 0 gM 1 s' (l.map (Ql .u64))->Ext H H'->(∀b,al s' b->H.size<=b)->K s' H'):AO.sp s H K:=by
 refine AO.of ?_;unfold AO.vc;have E:=h.len;refine ao (λc=>?_) (λc=>?_)
 ·have f:l=[]:=by
   cases l with
   |nil=>rfl
   |cons x r=>
     obtain⟨ad,e,_⟩:=h.at (i:=0) (by simp);rw[e] at c;simp at c
  subst f;exact y _ H (aA.nil _ _ _ _) (.refl _ _) λb u=>by obtain⟨ad,j,_⟩:=u;cases j
 ·refine CX λH1 o1 o=>?_;refine jB.append (base:=0) (s:=⟨some ⟨H.size,0,none⟩,0,0⟩) (x:=s) (xs:=[]) (ws:=l.map (Ql .u64)) o1 (by simp;omega) (h.ext o).reads (iy _ _) (by simp only;omega) (by simp only;omega) (QN _) ?_;intro s' z G o2 m2 b2 _;have f1:∀b,al (Sl.mk (some ⟨H.size,0,none⟩) 0 0) b->H.size<=b:=by
   rintro b ⟨ad,j,rfl⟩;cases j;exact Qm _
  refine y s' z (by simpa using o2) (((Ext.mod o).trans m2).ext f1) λb u=>?_;rcases b2 b u with v|v
  ·exact f1 b v
  ·have:=o.size;omega
theorem dE {H:aa}{s:Sl}{l:List Int}{K:Sl->aa->Prop}(h:Ints .i64 H s l)(D:l.length<=1000000)
  (y:∀s' H',aA H' 0 bT 1 s' (l.map (Ql .i64))->Ext H H'->(∀b,al s' b->H.size<=b)->K s' H'):DP.sp s H K:=by
 refine DP.of ?_;unfold DP.vc;have E:=h.len;refine ao (λc=>?_) (λc=>?_)
 ·have f:l=[]:=by
   cases l with
   |nil=>rfl
   |cons x r=>
     obtain⟨ad,e,_⟩:=h.at (i:=0) (by simp);rw[e] at c;simp at c
  subst f;exact y _ H (aA.nil _ _ _ _) (.refl _ _) λb u=>by obtain⟨ad,j,_⟩:=u;cases j
 ·refine CX λH1 o1 o=>?_;refine NQ.append (base:=0) (s:=⟨some ⟨H.size,0,none⟩,0,0⟩) (x:=s) (xs:=[]) (ws:=l.map (Ql .i64)) o1 (by simp;omega) (h.ext o).reads (iy _ _) (by simp only;omega) (by simp only;omega) (QN _) ?_;intro s' z G o2 m2 b2 _;have f1:∀b,al (Sl.mk (some ⟨H.size,0,none⟩) 0 0) b->H.size<=b:=by
   rintro b ⟨ad,j,rfl⟩;cases j;exact Qm _
  refine y s' z (by simpa using o2) (((Ext.mod o).trans m2).ext f1) λb u=>?_;rcases b2 b u with v|v
  ·exact f1 b v
  ·have:=o.size;omega
end Go.Proofs.YtkehfflpbpdokaaGreatDoor
