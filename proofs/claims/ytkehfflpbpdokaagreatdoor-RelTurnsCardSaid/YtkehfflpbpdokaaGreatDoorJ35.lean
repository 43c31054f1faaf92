/-
 Trees of rows in pages, in plain words.
-/
import Derived.Test.YtkehfflpbpdokaaGreatDoorRows
import Derived.Test.YtkehfflpbpdokaaGreatDoorFxh
import Derived.Test.YtkehfflpbpdokaaGreatDoorJ32
import Derived.Test.YtkehfflpbpdokaaGreatDoorFxw
open BitVec renaming ofInt->Mc,toNat_ofNat->Mm,ofInt_natCast->MS
open Bool renaming and_eq_true->KD,or_eq_true->Lo,true_and->Nz,eq_iff_iff->N4,false_and->Rq
open Go.Addr renaming add->K0
open Go.Builtin renaming append_->Ks
open Go.Instr renaming makeSlice->Ll
open Go.IntKind renaming i64->Ke,u64->K7,wrap_u64->OE,wrap_u8->ON
open Go.Proofs.Tryz renaming prog->Kf
open Go.Value renaming int->Km
open Go.Value.slice renaming injEq->K5
open Int renaming tdiv->KE,toNat_natCast->KI,ofNat->MO,fdiv_eq_ediv_of_nonneg->M4,natCast_pow->QT,toNat_zero->SH
open List renaming getElem?_eq_getElem->Kg,mem_of_getElem?->Ki,getElem?_eq_some_iff->Kj,mem_append->Kk,mem_iff_getElem?->Ko,getElem_mem->Kt,mem_cons->Ku,length_append->Kv,mem_cons_self->Kw,mem_map->Kz,take_succ_eq_append_getElem->KB,getElem?_map->KC,length_take->KF,replicate->KG,length_map->KM,mem_cons_of_mem->KO,mem_filter->KP,getD->KQ,length_drop->KS,getElem?_append_left->KT,take_of_length_le->KV,map_append->KX,eq_nil_of_length_eq_zero->KY,length_cons->K1,flatMap_cons->K6,mem_range->Lg,append_assoc->Lk,drop_of_length_le->Lz,filter_append->LI,mem_of_mem_eraseIdx->LS,take_append_drop->LW,range->L7,mem_iff_getElem->L8,getElem?_eraseIdx->Ma,takeWhile_cons->Mf,getElem?_eq_none->Mh,flatten_cons->MH,pairwise_iff_getElem->ML,filter_cons->MN,length_pos_iff->MX,getElem_map->M6,ext_getElem->NR,flatMap_append->NU,map_take->NZ,getElem_range->Oa,drop_drop->Oj,mem_flatten->Oz,getD_cons_zero->PA,flatMap_def->QC,drop_left->Rk,map_drop->RJ,map->Td
open List.Pairwise renaming imp->OY
open List.Sublist renaming length_le->TU
open Nat renaming le_refl->Kl,zero_le->KU,le_trans->K4,lt_or_ge->K8,mul_one->Ld,mul_le_mul_left->LM,succ_mul->LU,eq_zero_or_pos->L9,add_mul->MZ,mod_eq_of_lt->NO,succ_pos->Om,add_zero->OM,sub_zero->Pu
open Ne renaming symm->M7
open Option renaming getD_some->Mn
open Option.some renaming inj->Kq,injEq->Lr
open UInt8 renaming ofNat->Ky,toNat_ofNat'->My,toNat_lt->On
namespace Go.Proofs.YtkehfflpbpdokaaGreatDoor
structure Nd where
 kids:List Nat
 rows:List (List Int)
structure Span where
 low:Option (List Int)
 high:Option (List Int)
def dK:Span:=⟨none,none⟩
def gR (ls:List (List Int)):Bool:=(L7 (ls.length - 1)).all λi=>decide (aP (ls.getD i []) (ls.getD (i+1) [])<0)
def Span.ge (s:Span)(l:List Int):Bool:=match s.low with|none=>true|some a=>decide (aP l a>=0)
def Span.lt (s:Span)(l:List Int):Bool:=match s.high with|none=>true|some a=>decide (aP l a<0)
def Span.holds (s:Span)(ls:List (List Int)):Bool:=gR ls&&(ls.isEmpty||(s.ge (ls.getD 0 [])&&s.lt (ls.getD (ls.length - 1) [])))
def Span.of (s:Span)(n:Nd)(i:Nat):Span:=
 ⟨if 0<i then some (n.rows.getD (i - 1) []) else s.low,if i<n.rows.length then some (n.rows.getD i []) else s.high⟩
def qS (n:Nat):List UInt8:=[Ky (n/16777216),Ky (n/65536),Ky (n/256),Ky n]
def FV (b:List UInt8):Nat:=(((b.getD 0 0).toNat*256+(b.getD 1 0).toNat)*256+(b.getD 2 0).toNat)*256+(b.getD 3 0).toNat
def eY (b:List UInt8)(k:Nat):List Nat:=(L7 k).map λi=>FV (b.drop (2+4*i))
def im (b:List UInt8):Nat:=(b.getD 0 0).toNat*256+(b.getD 1 0).toNat
def cU (w:Int)(depth:Nat)(s:Span)(kids:List Nat)(b:List UInt8):Option Nd:=
 if dy (dz b) w=false\/(kids≠[]/\(dL (dz b) w).length+1≠kids.length) then none
 else if s.holds (dL (dz b) w)=false\/(dL (dz b) w=[]/\1<depth) then none
 else some ⟨kids,dL (dz b) w⟩
def fJ (w:Int)(depth above:Nat)(s:Span)(kb:UInt8×List UInt8):Option Nd:=
 if kb.1=3/\above=0 then cU w depth s [] kb.2
 else if kb.1=4/\0<above/\2<=kb.2.length then
  if im kb.2<2\/kb.2.length<2+4*im kb.2 then none else cU w depth s (eY kb.2 (im kb.2)) (kb.2.drop (2+4*im kb.2))
 else none
structure St where
 N:Nat
 T:Nat->UInt8×List UInt8
def St.node (x:St)(w:Int)(depth above ab:Nat)(s:Span):Option Nd:=if ab<x.N then fJ w depth above s (x.T ab) else none
def sameAt (ls:List (List Int))(l:List Int):Bool:=decide (below l ls<ls.length)&&decide (ls.getD (below l ls) []=l)
def Nd.child (n:Nd)(l:List Int):Nat:=if sameAt n.rows l then below l n.rows+1 else below l n.rows
def jX (f:Nat->Nat×Option (Option (List Int))):Nat->Nat->Nat×Option (Option (List Int))
 |_,0=>(0,some none)
 |i,k+1=>if (f i).2=some none then ((f i).1+(jX f (i+1) k).1,(jX f (i+1) k).2) else f i
def jz (ls:List (List Int))(low:List Int)(strict:Bool):Option (List Int):=ls[below low ls+(if sameAt ls low&&strict then 1 else 0)]?
def St.find (x:St)(w:Int)(depth:Nat)(low:List Int)(strict:Bool):Nat->Nat->Span->Nat×Option (Option (List Int))
 |0,ab,s=>match x.node w depth 0 ab s with
   |none=>(1,none)
   |some n=>(1,some (jz n.rows low strict))
 |a+1,ab,s=>match x.node w depth (a+1) ab s with
   |none=>(1,none)
   |some n=>
     (1+(jX (λi=>x.find w depth low strict a (n.kids.getD i 0) (s.of n i)) (n.child low) (n.kids.length - n.child low)).1,
      (jX (λi=>x.find w depth low strict a (n.kids.getD i 0) (s.of n i)) (n.child low) (n.kids.length - n.child low)).2)
def Nd.bytes (n:Nd):List UInt8:=(if n.kids=[] then [] else Ky (n.kids.length/256)::Ky n.kids.length::n.kids.flatMap qS)++n.rows.flatMap λl=>fT (dU l)
def Nd.ab (n:Nd):UInt8×List UInt8:=(if n.kids=[] then 3 else 4,n.bytes)
def St.put (x:St)(ab:Nat)(n:Nd):St:={x with T:=fW x.T ab n.ab}
def St.more (x:St)(n:Nd):St:=⟨x.N+1,fW x.T x.N n.ab⟩
def uk (w:Int):Int:=KE (502+aF w) (4+aF w)
def Nd.full (n:Nd)(w:Int)(above:Nat):Bool:=(decide (above=0)&&decide ((n.rows.length:Int)>lV w))||decide ((n.kids.length:Int)>uk w)
inductive Hf where
 |store
 |quota
 |ok (fresh:Bool) (m:Option (Nat×List Int)) (x:St)
def Nd.left (n:Nd):Nd:=⟨n.kids.take (n.rows.length/2+1),n.rows.take (n.rows.length/2)⟩
def Nd.right (n:Nd):Nd:=if n.kids=[] then ⟨[],n.rows.drop (n.rows.length/2)⟩ else ⟨n.kids.drop (n.rows.length/2+1),n.rows.drop (n.rows.length/2+1)⟩
def Nd.up (n:Nd):List Int:=n.rows.getD (n.rows.length/2) []
def St.fin (x:St)(w:Int)(q above ab:Nat)(n:Nd):Hf:=
 if n.full w above then (if x.N<q then .ok true (some (x.N,n.up)) ((x.more n.right).put ab n.left) else .quota) else .ok true none (x.put ab n)
def St.add (x:St)(w:Int)(q depth:Nat)(l:List Int):Nat->Nat->Span->Hf
 |0,ab,s=>match x.node w depth 0 ab s with
   |none=>.store
   |some n=>if sameAt n.rows l then .ok false none x else x.fin w q 0 ab ⟨n.kids,aY (below l n.rows) l n.rows⟩
 |a+1,ab,s=>match x.node w depth (a+1) ab s with
   |none=>.store
   |some n=>match x.add w q depth l a (n.kids.getD (n.child l) 0) (s.of n (n.child l)) with
     |.ok _ (some m) x'=>x'.fin w q (a+1) ab ⟨aY (n.child l+1) m.1 n.kids,aY (n.child l) m.2 n.rows⟩
     |r=>r
theorem jl {w:Int}{depth:Nat}{s:Span}{kids:List Nat}{b:List UInt8}{n:Nd}(h:cU w depth s kids b=some n):
  n.kids=kids/\n.rows=dL (dz b) w/\dy (dz b) w=true/\(kids≠[]->n.rows.length+1=kids.length)/\s.holds n.rows=true/\(1<depth->n.rows≠[]):=by
 unfold cU at h
 split at h
 ·cases h
 ·rename_i h1
  split at h
  ·cases h
  ·rename_i h2
   cases h
   refine⟨rfl,rfl,?_,λhk=>?_,?_,λhd e=>h2 (.inr ⟨e,hd⟩)⟩
   ·cases hq:dy (dz b) w with
    |true=>rfl
    |false=>exact absurd (.inl hq) h1
   ·apply Decidable.byContradiction
    exact λq=>h1 (.inr ⟨hk,q⟩)
   ·cases hq:s.holds (dL (dz b) w) with
    |true=>rfl
    |false=>exact absurd (.inl hq) h2
structure Nd.Ok (n:Nd)(w:Int)(depth above:Nat)(s:Span):Prop where
 leaf:above=0->n.kids=[]
 inner:0<above->n.kids.length=n.rows.length+1/\1<=n.rows.length/\2+4*n.kids.length<=504
 holds:s.holds n.rows=true
 some_:1<depth->n.rows≠[]
 cols:∀l∈n.rows,l.length=w.toNat
 size:n.rows.length<=504
 kids:∀k∈n.kids,k<4294967296
 fit:(2+4*n.kids.length)*(if n.kids=[] then 0 else 1)+n.rows.length*(aF w).toNat<=504
 width:aF w≠0
theorem Gt (b:List UInt8):FV b<4294967296:=by
 have h0:=(b.getD 0 0).toNat_lt;have h1:=(b.getD 1 0).toNat_lt;have h2:=(b.getD 2 0).toNat_lt;have h3:=(b.getD 3 0).toNat_lt
 unfold FV;omega
theorem lI {b:List Int}{w:Int}(h:dy b w=true):(dL b w).length*(aF w).toNat=b.length/\aF w≠0/\∀l∈dL b w,l.length=w.toNat:=by
 have hok:=h
 unfold dy at h
 simp only[KD,decide_eq_true_eq] at h
 obtain⟨⟨h1,h2⟩,_⟩:=h
 have hs:=bL w
 obtain⟨m,hm⟩:∃m:Nat,aF w=(m:Int):=⟨(aF w).toNat,by omega⟩
 have hm0:0<m:=by omega
 have he:dL b w=rowsOf b w (b.length/(aF w).toNat):=by unfold dL;rw[if_pos hok]
 refine⟨?_,h1,λl hl=>?_⟩
 ·rw[he]
  unfold rowsOf
  rw[KM,List.length_range]
  rw[hm] at h2 ⊢
  rw[KI]
  exact(tmod_zero hm0 h2).symm
 ·rw[he] at hl
  unfold rowsOf at hl
  obtain⟨k,_,rfl⟩:=Kz.1 hl
  exact mI _ _
theorem y7 {w:Int}{depth above:Nat}{s:Span}{kb:UInt8×List UInt8}{n:Nd}(hb:kb.2.length<=504)(h:fJ w depth above s kb=some n):n.Ok w depth above s:=by
 unfold fJ at h
 split at h
 ·rename_i hc
  obtain⟨e1,e2,e3,_,e5,e6⟩:=jl h
  obtain⟨g1,g2,g3⟩:=lI e3
  rw[<-e2,dN] at g1
  rw[<-e2] at g3
  have hs:=bL w
  have h0:0<(aF w).toNat:=by omega
  have hm:n.rows.length*1<=n.rows.length*(aF w).toNat:=LM _ h0
  refine⟨λ_=>e1,λq=>by omega,e5,e6,g3,by omega,by rw[e1];simp,?_,g2⟩
  rw[if_pos e1];omega
 ·split at h
  ·rename_i hc
   split at h
   ·cases h
   ·rename_i hn
    obtain⟨e1,e2,e3,e4,e5,e6⟩:=jl h
    obtain⟨g1,g2,g3⟩:=lI e3
    rw[<-e2,dN,KS] at g1
    rw[<-e2] at g3
    have hs:=bL w
    have h0:0<(aF w).toNat:=by omega
    have hm:n.rows.length*1<=n.rows.length*(aF w).toNat:=LM _ h0
    have hkl:(eY kb.2 (im kb.2)).length=im kb.2:=by simp[eY]
    have hk0:eY kb.2 (im kb.2)≠[]:=λq=>by rw[q] at hkl;simp at hkl;omega
    have e4:=e4 hk0
    rw[hkl] at e4
    have hkl2:n.kids.length=im kb.2:=by rw[e1,hkl]
    have hn2:¬im kb.2<2:=λq=>hn (.inl q)
    have hn3:¬kb.2.length<2+4*im kb.2:=λq=>hn (.inr q)
    refine⟨λq=>by omega,λ_=>⟨by omega,by omega,by omega⟩,e5,e6,g3,by omega,?_,?_,g2⟩
    ·rw[e1]
     intro k hk
     obtain⟨i,_,rfl⟩:=Kz.1 hk
     exact Gt _
    ·rw[if_neg (by rw[e1];exact hk0)];omega
  ·cases h
theorem gF (l:List Int)(ls:List (List Int)):below l ls<=ls.length:=TU (List.takeWhile_sublist _)
theorem iO {n:Nd}{l:List Int}:n.child l<=n.rows.length:=by
 unfold Nd.child
 split
 ·rename_i h
  unfold sameAt at h
  simp only[KD,decide_eq_true_eq] at h
  omega
 ·exact gF _ _
def Pl.over (p:Pl)(n:ByteArray)(k:Int)(kd:UInt8)(b:List UInt8):Pl×Int:=
 if (p.bR n k).2.2≠0 then ((p.bR n k).1,(p.bR n k).2.2) else Pl.leave ((p.bR n k).1.set (p.bR n k).2.1 kd b) (p.bR n k).2.1
structure ib (n:ByteArray)(q:Nat)(I:Pl->St->Nat->Prop)(B C:Pl->Int->Prop):Prop where
 name:n.size<=9223372036854775807
 small:q<=1048576
 pre:∀{s x m},I s x m->s.d.bf<=2*m/\0<=s.next/\s.next<=m/\s.Fit/\x.N<=1048576/\∀k,(x.T k).2.length<=504
 look:∀{s x m k},I s x m->m<30000000000->k<x.N->((s.look n (k:Int)).2=((x.T k).1,(x.T k).2,0)/\I (s.look n (k:Int)).1 x (m+1))\/C (s.look n (k:Int)).1 (s.look n (k:Int)).2.2.2
 IH:∀{s x m k},I s x m->m<30000000000->x.N<=k->((s.look n (k:Int)).2.2.2=12/\I (s.look n (k:Int)).1 x (m+1))\/C (s.look n (k:Int)).1 (s.look n (k:Int)).2.2.2
 more:∀{s x m kd b},I s x m->m<30000000000->b.length<=504->kd≠0->x.N<q->
  ((s.more n kd b).2=0/\(s.fresh n).2.2.1=x.N/\I (s.more n kd b).1 ⟨x.N+1,fW x.T x.N (kd,b)⟩ (m+1))\/C (s.more n kd b).1 (s.more n kd b).2
 full:∀{s x m kd b},I s x m->m<30000000000->b.length<=504->kd≠0->¬x.N<q->B (s.more n kd b).1 (s.more n kd b).2\/C (s.more n kd b).1 (s.more n kd b).2
 over:∀{s x m k kd b},I s x m->m<30000000000->b.length<=504->k<x.N->((s.over n (k:Int) kd b).2=0/\I (s.over n (k:Int) kd b).1 {x with T:=fW x.T k (kd,b)} (m+1))\/C (s.over n (k:Int) kd b).1 (s.over n (k:Int) kd b).2
 up:∀{s x m k},I s x m->m<=k->I s x k
 errB:∀{s e},B s e->e≠0/\e≠12
 errC:∀{s e},C s e->e≠0/\e≠12
theorem Pl.vk (r:Pl×Int)(h:Int):(Pl.leave r h).1.d=r.1.d:=by
 unfold Pl.leave;split
 ·exact Pl.yr _ _
 ·rfl
section
variable {s:Pl}{n:ByteArray}{g:Int}{k:UInt8}{b:List UInt8}
theorem Pl.xw:(s.look n g).1.d.bf<=s.d.bf+1:=by
 have a:=s.wm n g
 unfold Pl.look
 split
 ·exact a
 ·split
  ·exact a
  ·rw[Pl.yr];exact a
theorem Pl.xd:(s.more n k b).1.d.bf<=s.d.bf+2:=by
 have a:=s.wT n
 unfold Pl.more
 split
 ·exact a
 ·rw[Pl.vk]
  split
  ·exact a
  ·rw[Pl.FU];exact a
theorem Pl.xR:(s.over n g k b).1.d.bf<=s.d.bf+1:=by
 have a:=s.wm n g
 unfold Pl.over
 split
 ·exact a
 ·rw[Pl.vk,Pl.FU];exact a
end
theorem rX {T:Nat->UInt8×List UInt8}(h:∀k,(T k).2.length<=504){j:Nat}{v:UInt8×List UInt8}(hv:v.2.length<=504):∀k,(fW T j v k).2.length<=504:=by
 intro k
 by_cases e:k=j
 ·subst e;rw[cW];exact hv
 ·rw[bH e];exact h k
abbrev aU:=ByteArray->Option St
open Classical in
noncomputable def dP (M:aU) (n:ByteArray) (x:Option St):aU:=λm=>if m=n then x else M m
theorem bd (M:aU)(n:ByteArray)(x:Option St):dP M n x n=x:=by unfold dP;rw[if_pos rfl]
theorem aQ {M:aU}{n m:ByteArray}{x:Option St}(h:m≠n):dP M n x m=M m:=by unfold dP;rw[if_neg h]
theorem pM (M:aU)(n:ByteArray)(x y:Option St):dP (dP M n x) n y=dP M n y:=by
 funext m
 by_cases h:m=n
 ·subst h;rw[bd,bd]
 ·rw[aQ h,aQ h,aQ h]
theorem tB {M:aU}{n:ByteArray}{x:Option St}(h:M n=x):dP M n x=M:=by
 funext m
 by_cases e:m=n
 ·subst e;rw[bd,h]
 ·rw[aQ e]
def Cl (l:List Fr)(n:ByteArray)(k:Nat):Prop:=∀g∈l,g.name=n->g.ab=k->g.dirty=false
structure aV (p:Pl)(M:aU)(Q U:Nat):Prop where
 wrong:p.wrong=0
 up:p.d.down=false
 calm:p.d.crash=none
 quota:p.d.quota=Q
 used:p.d.used=U
 nodup:(p.d.files.map λf=>f.name.toList).Nodup
 file:∀(i:Nat) (f:Fl),p.d.files[i]?=some f->∃x,M f.name=some x/\f.aB.length=x.N/\∀(k:Nat) (b:Pg),f.aB[k]?=some b->Cl p.fs f.name k->fm b.1=some (x.T k)
 there:∀n x,M n=some x->∃(i:Nat) (f:Fl),p.d.files[i]?=some f/\f.name=n
 mine:∀g∈p.fs,∃x,M g.name=some x/\g.ab<x.N/\x.T g.ab=(g.kind,g.b)
theorem tE {d:Dk}(hn:(d.files.map λf=>f.name.toList).Nodup){i:Nat}{f:Fl}(hf:d.files[i]?=some f):d.idx f.name=some i:=by
 unfold Dk.idx
 refine jv hf (by simp) λj y hj hy=>?_
 have e:y.name.toList=f.name.toList:=by simpa using hy
 have hi:=(Kj.1 hf).1
 have hj':=(Kj.1 hj).1
 refine((List.getElem?_inj (l:=d.files.map λf=>f.name.toList) (by simpa using hi) hn).1 ?_).symm
 rw[KC,KC,hf,hj]
 simp[e]
theorem vw {d:Dk}(hu:d.down=false)(hc:d.crash=none){n:ByteArray}{i:Nat}{f:Fl}(hx:d.idx n=some i)(hf:d.files[i]?=some f){k:Nat}{b:List UInt8}(hb:b.length=512)(hk:k<=f.aB.length)(hq:k=f.aB.length->d.used<d.quota):
  ∃d',d.write n k b=(d',0)/\d'.down=false/\d'.crash=none/\d'.quota=d.quota/\d'.files=d.files.modify i (λf=>{f with log:=f.log++[⟨d.next,k,⟨b,hb⟩⟩]})/\d'.used=d.used+(if k=f.aB.length then 1 else 0):=by
 have hch:d.change=({d with ops:=ff (d.ops+1)},0):=by unfold Dk.change;rw[hc]
 have hfi:d.file i=f:=Dk.gu hf
 have e:d.write n k b=d.step λt=>(t.qF i ⟨t.next,k,⟨b,hb⟩⟩).kF (max t.most (t.qF i ⟨t.next,k,⟨b,hb⟩⟩).used):=by
  unfold Dk.write
  rw[if_neg (by rw[hu];simp),dif_pos hb,hx]
  simp only[hfi]
  rw[if_neg (by omega),if_neg (by rintro⟨q1,q2⟩;have:=hq (by omega);omega),KI]
 have hstep:∀F:Dk->Dk,d.step F=(F {d with ops:=ff (d.ops+1)},0):=λF=>by unfold Dk.step;rw[hch,if_pos rfl]
 rw[e,hstep]
 refine⟨_,rfl,hu,hc,rfl,rfl,?_⟩
 have hp:({f with log:=f.log++[⟨d.next,k,⟨b,hb⟩⟩]}:Fl).aB.length=max f.aB.length (k+1):=by rw[Fl.gJ];exact jW _ _
 have hs:((d.files.modify i (λf=>{f with log:=f.log++[⟨d.next,k,⟨b,hb⟩⟩]})).map (λf:Fl=>f.aB.length)).sum+f.aB.length=(d.files.map (λf:Fl=>f.aB.length)).sum+max f.aB.length (k+1):=by
  rw[<-hp];exact fq (λf:Fl=>f.aB.length) _ d.files i f hf
 show ((d.files.modify i (λf=>{f with log:=f.log++[⟨d.next,k,⟨b,hb⟩⟩]})).map (λf:Fl=>f.aB.length)).sum=(d.files.map (λf:Fl=>f.aB.length)).sum+(if k=f.aB.length then 1 else 0)
 generalize ((d.files.modify i (λf=>{f with log:=f.log++[⟨d.next,k,⟨b,hb⟩⟩]})).map (λf:Fl=>f.aB.length)).sum=S at*
 generalize (d.files.map (λf:Fl=>f.aB.length)).sum=S0 at*
 split
 ·omega
 ·omega
section
variable {p p':Pl}{M:aU}{Q U:Nat}{n:ByteArray}{x:St}
theorem aV.at (h:aV p M Q U)(hM:M n=some x):∃(i:Nat) (f:Fl),p.d.idx n=some i/\p.d.files[i]?=some f/\f.name=n/\f.aB.length=x.N/\∀(k:Nat) (b:Pg),f.aB[k]?=some b->Cl p.fs n k->fm b.1=some (x.T k):=by
 obtain⟨i,f,h1,h2⟩:=h.there n x hM
 subst h2
 obtain⟨y,y1,y2,y3⟩:=h.file i f h1
 rw[hM] at y1
 cases y1
 exact⟨i,f,tE h.nodup h1,h1,rfl,y2,y3⟩
theorem aV.len (h:aV p M Q U)(hM:M n=some x):p.d.len n=(x.N,0):=by
 obtain⟨i,f,h1,h2,h3,h4,_⟩:=h.at hM
 unfold Dk.len Dk.open
 rw[if_neg (by rw[h.up];simp),h1]
 simp only[Dk.gu h2,h4]
theorem aV.size (h:aV p M Q U)(hM:M n=some x):p.d.size n=x.N:=by
 obtain⟨i,f,h1,h2,h3,h4,_⟩:=h.at hM
 unfold Dk.size;rw[h1];simp only[Dk.gu h2,h4]
theorem aV.fit (h:aV p M Q U):p.Fit:=by
 intro f hf
 obtain⟨x,h1,h2,_⟩:=h.mine f hf
 rw[h.size h1];exact h2
theorem aV.IX (h:aV p M Q U)(hd:p'.d=p.d)(hw:p'.wrong=p.wrong)(hm:∀g∈p'.fs,∃x,M g.name=some x/\g.ab<x.N/\x.T g.ab=(g.kind,g.b))(hc:∀n k,Cl p'.fs n k->Cl p.fs n k):aV p' M Q U:=
 ⟨by rw[hw];exact h.wrong,by rw[hd];exact h.up,by rw[hd];exact h.calm,by rw[hd];exact h.quota,by rw[hd];exact h.used,by rw[hd];exact h.nodup,λi f hf=>by
  rw[hd] at hf
  obtain⟨x,a,b,c⟩:=h.file i f hf
  exact⟨x,a,b,λk b hk hcl=>c k b hk (hc _ _ hcl)⟩,λn x hx=>by rw[hd];exact h.there n x hx,hm⟩
theorem aV.put (h:aV p M Q U)(hw:p.WF){i:Nat}{g:Fr}(hg:p.fs[i]?=some g):
  (p.put i).2=0/\(p.put i).1.fs=p.fs.modify i Fr.clean/\aV (p.put i).1 M Q U:=by
 have hgm:=Ki hg
 obtain⟨x,h1,h2,h3⟩:=h.mine g hgm
 have hb:=hw.room g hgm
 have hs:g.fh.length=512:=gx hb
 obtain⟨j,f,a1,a2,a3,a4,a5⟩:=h.at h1
 obtain⟨d',w1,w2,w3,w4,w5,w6⟩:=vw h.up h.calm a1 a2 (k:=g.ab) hs (by omega) (by omega)
 have e:p.put i=((p.cT d').dB i Fr.clean,0):=by
  unfold Pl.put;rw[Pl.iK hg,w1,if_pos rfl]
 rw[e]
 have hcl:∀m k,(m≠g.name\/k≠g.ab)->Cl (p.fs.modify i Fr.clean) m k->Cl p.fs m k:=by
  intro m k hne hc g' hg' e1 e2
  obtain⟨j',hj'⟩:=Ko.1 hg'
  by_cases q:i=j'
  ·subst q
   rw[hg] at hj';cases hj'
   rcases hne with u|u
   ·exact absurd e1.symm u
   ·exact absurd e2.symm u
  ·exact hc g' (Ki (by rw[bh q];exact hj')) e1 e2
 refine⟨rfl,rfl,h.wrong,w2,w3,w4.trans h.quota,?_,?_,λj' f' hf'=>?_,λm y hy=>?_,λg' hg'=>?_⟩
 ·show d'.used=U
  rw[w6,if_neg (by omega),h.used,OM]
 ·show (d'.files.map _).Nodup
  rw[w5,gP (λf:Fl=>f.name.toList) (λf=>{f with log:=f.log++[⟨p.d.next,g.ab,⟨g.fh,hs⟩⟩]}) (λ_=>rfl)]
  exact h.nodup
 ·have hf':d'.files[j']?=some f':=hf'
  rw[w5] at hf'
  by_cases q:j=j'
  ·subst q
   rw[bt a2] at hf'
   cases hf'
   refine⟨x,by show M f.name=_;rw[a3];exact h1,?_,λk b hk hc=>?_⟩
   ·rw[Fl.gJ]
    show (putAt f.aB g.ab ⟨g.fh,hs⟩).length=_
    rw[mr];omega
   ·rw[Fl.gJ] at hk
    have hk:(putAt f.aB g.ab ⟨g.fh,hs⟩)[k]?=some b:=hk
    rw[rU (by omega)] at hk
    split at hk
    ·rename_i ek;cases hk;subst ek
     rw[h3];exact nM hb
    ·rename_i ek
     exact a5 k b hk (hcl g.name k (.inr ek) (by rw[<-a3];exact hc))
  ·rw[bh q] at hf'
   obtain⟨y,b1,b2,b3⟩:=h.file j' f' hf'
   refine⟨y,b1,b2,λk b hk hc=>b3 k b hk (hcl _ k (.inl λe=>q ?_) hc)⟩
   have:=tE h.nodup hf'
   rw[e,a1] at this
   exact Kq this
 ·obtain⟨j',f',b1,b2⟩:=h.there m y hy
  show ∃(i:Nat) (f:Fl),d'.files[i]?=some f/\f.name=m
  rw[w5]
  by_cases q:j=j'
  ·subst q
   exact⟨j,_,bt b1,b2⟩
  ·exact⟨j',f',by rw[bh q];exact b1,b2⟩
 ·have hg':g'∈p.fs.modify i Fr.clean:=hg'
  rcases mem_modify hg hg' with r|r
  ·exact h.mine g' r
  ·subst r;exact h.mine g hgm
theorem aV.erase (h:aV p M Q U){i:Nat}{g:Fr}(hg:p.fs[i]?=some g)(hd:g.dirty=false):aV (p.drop i) M Q U:=by
 refine h.IX rfl rfl (λg' hg'=>h.mine g' (LS hg')) λm k hc g' hg' e1 e2=>?_
 obtain⟨j,hj⟩:=Ko.1 hg'
 by_cases e:j=i
 ·subst e;rw[hg] at hj;cases hj;exact hd
 ·exact hc g' (mem_erase.2 ⟨j,e,hj⟩) e1 e2
theorem aV.make (h:aV p M Q U)(hw:p.WF)(hl:¬p.fs.length<p.most){g:Fr}(hg:g∈p.fs)(hgp:g.pins=[]):
  ∃i f,p.fs[i]?=some f/\f.pins=[]/\p.room.2=0/\p.room.1.fs=p.fs.eraseIdx i/\aV p.room.1 M Q U:=by
 cases hb:p.j6 with
 |none=>exact absurd hgp (Pl.sY hb g hg)
 |some i=>
   obtain⟨f,h1,h2,_⟩:=Pl.iH hb
   have e:p.room=if (p.frame i).dirty then (if (p.put i).2=0 then ((p.put i).1.drop i,0) else p.put i) else (p.drop i,0):=by
    unfold Pl.room;rw[if_neg hl,hb]
   rw[e,Pl.iK h1]
   cases hd:f.dirty with
   |true=>
     obtain⟨w1,w2,w4⟩:=h.put hw h1
     rw[if_pos rfl,if_pos w1]
     refine⟨i,f,h1,h2,rfl,?_,w4.erase (g:=f.clean) (by rw[w2];exact bt h1) rfl⟩
     show (p.put i).1.fs.eraseIdx i=_
     rw[w2,mu]
   |false=>
     rw[if_neg (by simp)]
     exact⟨i,f,h1,h2,rfl,rfl,h.erase h1 hd⟩
theorem aV.roomy (h:aV p M Q U)(hw:p.WF)(hg:p.fs.length<p.most\/∃g∈p.fs,g.pins=[]):
  p.room.2=0/\aV p.room.1 M Q U/\(∀g∈p.room.1.fs,g∈p.fs)/\(∀g∈p.fs,g.pins≠[]->g∈p.room.1.fs):=by
 by_cases hl:p.fs.length<p.most
 ·rw[Pl.zv hl];exact⟨rfl,h,λ_ q=>q,λ_ q _=>q⟩
 ·obtain⟨g,hgm,hgp⟩:=hg.resolve_left hl
  obtain⟨i,f,h1,h2,h3,h4,h5⟩:=h.make hw hl hgm hgp
  refine⟨h3,h5,λx hx=>by rw[h4] at hx;exact LS hx,λx hx hxp=>?_⟩
  rw[h4]
  obtain⟨j,hj⟩:=Ko.1 hx
  refine mem_erase.2 ⟨j,?_,hj⟩
  rintro rfl
  rw[h1] at hj;cases hj;exact hxp h2
theorem aV.take (h:aV p M Q U){f:Fr}(hM:M f.name=some x)(hp:f.ab<x.N)(hT:x.T f.ab=(f.kind,f.b)):aV (p.take f) M Q U:=by
 refine h.IX rfl rfl (λg hg=>?_) λm k hc g hg e1 e2=>hc g (by rw[Pl.oK];exact List.mem_append_left _ hg) e1 e2
 rw[Pl.oK] at hg
 rcases Kk.1 hg with r|r
 ·exact h.mine g r
 ·simp at r;subst r;exact⟨x,hM,hp,hT⟩
end
theorem sD {d:Dk}(hc:d.crash=none):d.change=({d with ops:=ff (d.ops+1)},0):=by unfold Dk.change;rw[hc]
section
variable {p p':Pl}{M:aU}{Q U:Nat}{n:ByteArray}{x:St}
theorem aV.fresh (h:aV p M Q U)(hM:M n=some x)(hw:p.WF)(hg:p.fs.length<p.most\/∃g∈p.fs,g.pins=[])(hN:U<Q):
  (p.fresh n).2=(p.next,(x.N:Int),0)/\(p.fresh n).1.fs=p.room.1.fs++[⟨n,x.N,0,[],false,[p.next],0⟩]/\(p.fresh n).1.next=ff (p.next+1)/\(p.fresh n).1.most=p.most/\(p.fresh n).1.tick=p.tick/\
  aV (p.fresh n).1 (dP M n (some ⟨x.N+1,fW x.T x.N (0,[])⟩)) Q (U+1)/\(x.N<1048577->n.size<=9223372036854775807->p.next<9223372036854775807->(p.fresh n).1.WF):=by
 obtain⟨h1,h2,h3,_⟩:=h.roomy hw hg
 have hs:(bP 0 []).length=512:=gx (by simp)
 obtain⟨j,f,a1,a2,a3,a4,a5⟩:=h2.at hM
 obtain⟨d',w1,w2,w3,w4,w5,w6⟩:=vw h2.up h2.calm a1 a2 (k:=x.N) hs (by omega) (by rw[h2.used,h2.quota];omega)
 have hrs:=p.dC
 have hlen:=h.len hM
 have e:p.fresh n=((p.room.1.cT d').take ⟨n,x.N,0,[],false,[],0⟩,p.room.1.next,(x.N:Int),0):=by
  unfold Pl.fresh
  rw[if_neg (by rw[h.wrong];simp),hlen]
  simp only
  rw[if_neg (by simp),if_neg (by rw[h1];simp),if_neg (by rw[w1];simp),w1]
 rw[e]
 have hnx:(p.room.1.cT d').next=p.next:=hrs.2.1
 have nocl:∀g∈p.room.1.fs,g.name=n->g.ab<x.N:=λg hg hgn=>by
  obtain⟨y,b1,b2,_⟩:=h2.mine g hg
  rw[hgn,hM] at b1;cases b1;exact b2
 have ht:aV (p.room.1.cT d') (dP M n (some ⟨x.N+1,fW x.T x.N (0,[])⟩)) Q (U+1):=by
  refine⟨h2.wrong,w2,w3,w4.trans h2.quota,?_,?_,λj' f' hf'=>?_,λm y hy=>?_,λg hgm=>?_⟩
  ·show d'.used=U+1
   rw[w6,if_pos a4.symm,h2.used]
  ·show (d'.files.map _).Nodup
   rw[w5,gP (λf:Fl=>f.name.toList) (λf=>{f with log:=f.log++[⟨p.room.1.d.next,x.N,⟨bP 0 [],hs⟩⟩]}) (λ_=>rfl)]
   exact h2.nodup
  ·have hf':d'.files[j']?=some f':=hf'
   rw[w5] at hf'
   by_cases q:j=j'
   ·subst q
    rw[bt a2] at hf'
    cases hf'
    refine⟨_,by show dP M n _ f.name=_;rw[a3,bd],?_,λk b hk hc=>?_⟩
    ·rw[Fl.gJ]
     show (putAt f.aB x.N ⟨bP 0 [],hs⟩).length=x.N+1
     rw[mr];omega
    ·rw[Fl.gJ] at hk
     have hk:(putAt f.aB x.N ⟨bP 0 [],hs⟩)[k]?=some b:=hk
     rw[rU (by omega)] at hk
     show fm b.1=some (fW x.T x.N (0,[]) k)
     split at hk
     ·rename_i ek;cases hk;subst ek
      rw[cW];exact nM (by simp)
     ·rename_i ek
      rw[bH ek]
      exact a5 k b hk (by rw[<-a3];exact hc)
   ·rw[bh q] at hf'
    obtain⟨y,b1,b2,b3⟩:=h2.file j' f' hf'
    have hne:f'.name≠n:=λe=>q (by
     have:=tE h2.nodup hf'
     rw[e,a1] at this
     exact Kq this)
    exact⟨y,by rw[aQ hne];exact b1,b2,b3⟩
  ·have key:∀m y,M m=some y->∃(i:Nat) (f:Fl),d'.files[i]?=some f/\f.name=m:=λm y hy=>by
    obtain⟨j',f',b1,b2⟩:=h2.there m y hy
    rw[w5]
    by_cases q:j=j'
    ·subst q
     exact⟨j,_,bt b1,b2⟩
    ·exact⟨j',f',by rw[bh q];exact b1,b2⟩
   by_cases q:m=n
   ·subst q;exact key m x hM
   ·rw[aQ q] at hy
    exact key m y hy
  ·have hgm:g∈p.room.1.fs:=hgm
   obtain⟨y,b1,b2,b3⟩:=h2.mine g hgm
   by_cases q:g.name=n
   ·rw[q,hM] at b1;cases b1
    exact⟨_,by rw[q,bd],by show g.ab<x.N+1;omega,by show fW x.T x.N (0,[]) g.ab=_;rw[bH (by omega)];exact b3⟩
   ·exact⟨y,by rw[aQ q];exact b1,b2,b3⟩
 refine⟨by rw[hrs.2.1],?_,?_,hrs.1,hrs.2.2.1,ht.take (f:=⟨n,x.N,0,[],false,[],0⟩) (bd _ _ _) (Nat.lt_succ_self _) (cW _ _ _),λhb hsz hx=>?_⟩
 ·rw[Pl.oK,hnx];rfl
 ·show ff ((p.room.1.cT d').next+1)=_
  rw[hnx]
 ·obtain⟨v1,v2⟩:=hw.tK
  have hno:p.room.1.find n (x.N:Int)=none:=Pl.gw λg hg hgn=>by have:=nocl g hg hgn;omega
  exact(v1.cT _).take (by show p.room.1.fs.length<p.room.1.most;rw[hrs.1];exact v2 h1) (by show p.room.1.next<_;rw[hrs.2.1];exact hx) hno (by simp) hb hsz rfl rfl
theorem aV.dB (h:aV p M Q U){i:Nat}{f:Fr}{u:Fr->Fr}(hf:p.fs[i]?=some f)(hd:p'.d=p.d)(hw:p'.wrong=p.wrong)(hfs:p'.fs=p.fs.modify i u)
  (hu:(u f).name=f.name/\(u f).ab=f.ab/\(u f).kind=f.kind/\(u f).b=f.b/\(u f).dirty=f.dirty):aV p' M Q U:=by
 obtain⟨u1,u2,u3,u4,u5⟩:=hu
 refine h.IX hd hw (λg hg=>?_) λm k hc g hg e1 e2=>?_
 ·rw[hfs] at hg
  rcases mem_modify hf hg with r|r
  ·exact h.mine g r
  ·subst r;rw[u1,u2,u3,u4];exact h.mine f (Ki hf)
 ·obtain⟨j,hj⟩:=Ko.1 hg
  by_cases e:i=j
  ·subst e
   rw[hf] at hj;cases hj
   rw[<-u5]
   exact hc (u f) (by rw[hfs];exact Ki (bt hf)) (by rw[u1];exact e1) (by rw[u2];exact e2)
  ·exact hc g (by rw[hfs];exact Ki (by rw[bh e];exact hj)) e1 e2
theorem aV.GP (h:aV p M Q U){k:Nat}{i:Nat}{f:Fr}(hi:p.find n k=some i)(hf:p.fs[i]?=some f):
  p.bR n k=(p.jI i,p.next,0)/\aV (p.jI i) M Q U:=by
 refine⟨?_,h.dB hf rfl rfl rfl ⟨rfl,rfl,rfl,rfl,rfl⟩⟩
 unfold Pl.bR
 rw[if_neg (by rw[h.wrong];simp),hi]
theorem aV.DF (h:aV p M Q U)(hM:M n=some x)(hw:p.WF){k:Nat}(hi:p.find n k=none)(hk:k<x.N)(hg:p.fs.length<p.most\/∃g∈p.fs,g.pins=[]):
  (p.bR n k).2=(p.next,0)/\(p.bR n k).1.fs=p.room.1.fs++[⟨n,k,(x.T k).1,(x.T k).2,false,[p.next],0⟩]/\(p.bR n k).1.next=ff (p.next+1)/\(p.bR n k).1.most=p.most/\aV (p.bR n k).1 M Q U/\
  (x.N<=1048576->n.size<=9223372036854775807->p.next<9223372036854775807->(p.bR n k).1.WF):=by
 obtain⟨h1,h2,h3,_⟩:=h.roomy hw hg
 have hrs:=p.dC
 have hlen:=h.len hM
 have hno:∀g∈p.room.1.fs,g.name=n->g.ab≠k:=λg hgm hgn e=>Pl.kC hi g (h3 g hgm) hgn (by omega)
 obtain⟨j,f,a1,a2,a3,a4,a5⟩:=h2.at hM
 obtain⟨b,hb⟩:∃b,f.aB[k]?=some b:=⟨_,Kg (by omega)⟩
 have ho:=a5 k b hb λg hgm hgn e=>absurd e (hno g hgm hgn)
 have hrd:p.room.1.d.read n k=(b.1,0):=by
  unfold Dk.read Dk.open
  rw[if_neg (by rw[h2.up];simp),a1]
  simp only[Dk.gu a2]
  rw[if_neg (by omega),KI,hb]
 have el:p.load n k=(p.room.1,some ⟨n,k,(x.T k).1,(x.T k).2,false,[],0⟩,0):=by
  unfold Pl.load
  rw[hlen]
  simp only
  rw[if_neg (by simp),if_neg (by omega),if_neg (by rw[h1];simp),hrd]
  simp only
  rw[if_neg (by simp),ho]
  simp
 have e:p.bR n k=(p.room.1.take ⟨n,k,(x.T k).1,(x.T k).2,false,[],0⟩,p.room.1.next,0):=by
  unfold Pl.bR
  rw[if_neg (by rw[h.wrong];simp),hi,el]
 rw[e]
 refine⟨by rw[hrs.2.1],?_,?_,hrs.1,h2.take (f:=⟨n,k,(x.T k).1,(x.T k).2,false,[],0⟩) hM hk rfl,λhN hsz hx=>?_⟩
 ·rw[Pl.oK,hrs.2.1];rfl
 ·show ff (p.room.1.next+1)=_
  rw[hrs.2.1]
 ·obtain⟨v1,v2⟩:=hw.tK
  have hfind:p.room.1.find n (k:Int)=none:=Pl.gw λg hg hgn=>by have:=hno g hg hgn;omega
  exact v1.take (by rw[hrs.1];exact v2 h1) (by rw[hrs.2.1];omega) hfind (xD ho) (by simp only;omega) hsz rfl rfl
theorem aV.get (h:aV p M Q U)(hw:p.WF){f:Fr}{c:Int}(hf:f∈p.fs)(hM:M f.name=some x)(hx:c∈f.pins):p.get c=((x.T f.ab).1,(x.T f.ab).2,0):=by
 obtain⟨i,hi⟩:=Ko.1 hf
 obtain⟨y,b1,b2,b3⟩:=h.mine f hf
 rw[hM] at b1;cases b1
 unfold Pl.get
 rw[if_neg (by rw[h.wrong];simp),Pl.oz hw hi hx]
 simp only[Pl.iK hi,b3]
theorem aV.set (h:aV p M Q U)(hw:p.WF){i:Nat}{f:Fr}{c:Int}(hf:p.fs[i]?=some f)(hM:M f.name=some x)(hx:c∈f.pins){k:UInt8}{b:List UInt8}(hb:b.length<=504):
  p.set c k b=(p.dB i (Fr.set k b),0)/\aV (p.dB i (Fr.set k b)) (dP M f.name (some {x with T:=fW x.T f.ab (k,b)})) Q U:=by
 constructor
 ·unfold Pl.set
  rw[if_neg (by rw[h.wrong];simp),Pl.oz hw hf hx]
  simp only
  rw[if_neg (by omega)]
 ·have hcl:∀m j,(m≠f.name\/j≠f.ab)->Cl (p.fs.modify i (Fr.set k b)) m j->Cl p.fs m j:=by
   intro m j hne hc g hg e1 e2
   obtain⟨a,ha⟩:=Ko.1 hg
   by_cases q:i=a
   ·subst q
    rw[hf] at ha;cases ha
    rcases hne with u|u
    ·exact absurd e1.symm u
    ·exact absurd e2.symm u
   ·exact hc g (Ki (by rw[bh q];exact ha)) e1 e2
  refine⟨h.wrong,h.up,h.calm,h.quota,h.used,h.nodup,λj g hg=>?_,λm y hy=>?_,λg hg=>?_⟩
  ·obtain⟨y,b1,b2,b3⟩:=h.file j g hg
   by_cases q:g.name=f.name
   ·rw[q,hM] at b1;cases b1
    refine⟨{x with T:=fW x.T f.ab (k,b)},by rw[q,bd],b2,λa c hc hcc=>?_⟩
    show fm c.1=some (fW x.T f.ab (k,b) a)
    by_cases e:a=f.ab
    ·subst e
     have:=hcc (Fr.set k b f) (Ki (bt hf)) q.symm rfl
     cases this
    ·rw[bH e]
     exact b3 a c hc (hcl _ _ (.inr e) hcc)
   ·exact⟨y,by rw[aQ q];exact b1,b2,λa c hc hcc=>b3 a c hc (hcl _ _ (.inl q) hcc)⟩
  ·by_cases q:m=f.name
   ·subst q;exact h.there _ x hM
   ·rw[aQ q] at hy;exact h.there m y hy
  ·have hg:g∈p.fs.modify i (Fr.set k b):=hg
   rw[bY hf] at hg
   rcases jR hg with ⟨j,hji,hj⟩|r
   ·obtain⟨y,b1,b2,b3⟩:=h.mine g (Ki hj)
    by_cases q:g.name=f.name
    ·rw[q,hM] at b1;cases b1
     have hne:g.ab≠f.ab:=λe=>hji (key_inj hw.keys hj hf q e)
     exact⟨{x with T:=fW x.T f.ab (k,b)},by rw[q,bd],b2,by show fW x.T f.ab (k,b) g.ab=_;rw[bH hne];exact b3⟩
    ·exact⟨y,by rw[aQ q];exact b1,b2,b3⟩
   ·subst r
    obtain⟨y,b1,b2,_⟩:=h.mine f (Ki hf)
    rw[hM] at b1;cases b1
    exact⟨_,bd _ _ _,b2,cW _ _ _⟩
theorem aV.bm (h:aV p M Q U)(hw:p.WF){i:Nat}{f:Fr}{c:Int}(hf:p.fs[i]?=some f)(hx:c∈f.pins):
  p.bm c=({p with fs:=p.fs.modify i (Fr.bm c (ff (p.tick+1))),tick:=ff (p.tick+1)},0)/\aV (p.bm c).1 M Q U:=by
 have e:p.bm c=({p with fs:=p.fs.modify i (Fr.bm c (ff (p.tick+1))),tick:=ff (p.tick+1)},0):=by
  unfold Pl.bm
  rw[if_neg (by rw[h.wrong];simp),Pl.oz hw hf hx]
 refine⟨e,?_⟩
 rw[e]
 exact h.dB hf rfl rfl rfl ⟨rfl,rfl,rfl,rfl,rfl⟩
theorem aV.create (h:aV p M Q U)(hM:M n=none)(hn:named n=true)(hl:p.d.files.length<4096)(T0:Nat->UInt8×List UInt8):
  (p.d.create n).2=0/\aV (p.cT (p.d.create n).1) (dP M n (some ⟨0,T0⟩)) Q U/\(p.d.create n).1.files.length=p.d.files.length+1/\(p.d.create n).1.bf=p.d.bf:=by
 have hx:p.d.idx n=none:=by
  unfold Dk.idx
  rw[List.findIdx?_eq_none_iff]
  intro f hf
  obtain⟨i,hi⟩:=Ko.1 hf
  obtain⟨x,a,_⟩:=h.file i f hi
  have:¬f.name.toList=n.toList:=λq=>by
   have e:f.name=n:=iP q
   rw[e,hM] at a;cases a
  simpa using this
 have hch:=sD h.calm
 have e:p.d.create n=({p.d with files:=p.d.files++[⟨n,[],[]⟩],ops:=ff (p.d.ops+1)},0):=by
  unfold Dk.create
  rw[if_neg (by rw[h.up];simp),if_neg (by rw[hn];simp),if_neg (by rw[hx];simp),if_neg (by omega)]
  unfold Dk.step
  rw[hch,if_pos rfl]
 rw[e]
 have hne:∀f∈p.d.files,f.name≠n:=λf hf q=>by
  obtain⟨i,hi⟩:=Ko.1 hf
  obtain⟨x,a,_⟩:=h.file i f hi
  rw[q,hM] at a;cases a
 have hnx:∀m x,M m=some x->m≠n:=λm x hx2 q=>by subst q;rw[hM] at hx2;cases hx2
 refine⟨rfl,⟨h.wrong,h.up,h.calm,h.quota,?_,?_,λi f hf=>?_,λm y hy=>?_,λg hg=>?_⟩,by simp,by simp[Dk.bf]⟩
 ·have:=h.used
  show ((p.d.files++[(⟨n,[],[]⟩:Fl)]).map λf:Fl=>f.aB.length).sum=U
  unfold Dk.used at this
  rw[KX,List.sum_append,this]
  simp[Fl.aB]
 ·show ((p.d.files++[(⟨n,[],[]⟩:Fl)]).map λf:Fl=>f.name.toList).Nodup
  rw[KX,List.nodup_append]
  refine⟨h.nodup,by simp,λa ha b hb=>?_⟩
  obtain⟨f,hf,rfl⟩:=Kz.1 ha
  have hb:b=n.toList:=by simpa using hb
  rw[hb]
  exact λq=>hne f hf (iP q)
 ·have hf:(p.d.files++[(⟨n,[],[]⟩:Fl)])[i]?=some f:=hf
  rw[List.getElem?_append] at hf
  split at hf
  ·obtain⟨x,a,b,c⟩:=h.file i f hf
   exact⟨x,by rw[aQ (hne f (Ki hf))];exact a,b,c⟩
  ·have:i - p.d.files.length=0:=by
    have:=(Kj.1 hf).1
    simp at this;omega
   rw[this] at hf
   have hf:f=⟨n,[],[]⟩:=by simpa using hf.symm
   subst hf
   exact⟨_,bd _ _ _,rfl,λk b hk=>by simp[Fl.aB] at hk⟩
 ·show ∃(i:Nat) (f:Fl),(p.d.files++[(⟨n,[],[]⟩:Fl)])[i]?=some f/\f.name=m
  by_cases q:m=n
  ·subst q
   exact⟨p.d.files.length,⟨m,[],[]⟩,by simp,rfl⟩
  ·rw[aQ q] at hy
   obtain⟨i,f,a,b⟩:=h.there m y hy
   exact⟨i,f,by rw[KT (Kj.1 a).1];exact a,b⟩
 ·obtain⟨y,a,b⟩:=h.mine g hg
  exact⟨y,by rw[aQ (hnx _ _ a)];exact a,b⟩
end
structure cK (p:Pl)(M:aU)(Q U:Nat):Prop where
 told:aV p M Q U
 wf:p.WF
 free:∀f∈p.fs,f.pins=[]
section
variable {p:Pl}{M:aU}{Q U:Nat}{n:ByteArray}{x:St}
theorem cK.roomy (h:cK p M Q U):p.fs.length<p.most\/∃g∈p.fs,g.pins=[]:=by
 by_cases hl:p.fs.length<p.most
 ·exact .inl hl
 ·right
  have:=h.wf.most
  match hf:p.fs with
  |[]=>rw[hf] at hl;simp at hl;omega
  |f::_=>exact⟨f,Kw,h.free f (by rw[hf];exact Kw)⟩
theorem cK.Hi (hw:p.WF)(t:aV p M Q U){i:Nat}{f:Fr}{c:Int}(hf:p.fs[i]?=some f)(hx:f.pins=[c])(hl:∀j g,j≠i->p.fs[j]?=some g->g.pins=[])(hn:p.next<9223372036854775807):
  (p.bm c).2=0/\cK (p.bm c).1 M Q U/\(p.bm c).1.next=p.next/\(p.bm c).1.most=p.most:=by
 obtain⟨u1,u2⟩:=t.bm hw hf (c:=c) (by rw[hx];simp)
 refine⟨by rw[u1],⟨u2,hw.bm c hn,?_⟩,by rw[u1],by rw[u1]⟩
 rw[u1]
 intro g hg
 obtain⟨j,hj⟩:=Ko.1 hg
 have hj:(p.fs.modify i (Fr.bm c (ff (p.tick+1))))[j]?=some g:=hj
 by_cases e:i=j
 ·subst e
  rw[bt hf] at hj
  cases hj;simp[Fr.bm,hx]
 ·rw[bh e] at hj
  exact hl j g (λq=>e q.symm) hj
theorem na {l:List Fr}{f:Fr}{fs:List Fr}(hf:fs=l++[f])(hl:∀g∈l,g.pins=[]):fs[l.length]?=some f/\∀j g,j≠l.length->fs[j]?=some g->g.pins=[]:=by
 subst hf
 refine⟨by simp,λj g hj hg=>?_⟩
 rcases K8 j l.length with hlt|hge
 ·rw[KT hlt] at hg
  exact hl g (Ki hg)
 ·rw[List.getElem?_append_right hge] at hg
  obtain⟨m,hm⟩:∃m,j - l.length=m+1:=⟨j - l.length - 1,by omega⟩
  rw[hm] at hg;simp at hg
theorem cK.more (h:cK p M Q U)(hM:M n=some x)(hN:U<Q)(hb0:x.N<1048577)(hs:n.size<=9223372036854775807)(h0:0<=p.next)(h1:p.next<1099511627776){k:UInt8}{b:List UInt8}(hb:b.length<=504)(hk:k≠0):
  (p.more n k b).2=0/\(p.fresh n).2.2.1=x.N/\cK (p.more n k b).1 (dP M n (some ⟨x.N+1,fW x.T x.N (k,b)⟩)) Q (U+1)/\(p.more n k b).1.next=p.next+1/\(p.more n k b).1.most=p.most:=by
 obtain⟨r1,r2,r3,r4,_,r6,r7⟩:=h.told.fresh hM h.wf h.roomy hN
 obtain⟨_,_,hsub,_⟩:=h.told.roomy h.wf h.roomy
 have hfree:∀g∈p.room.1.fs,g.pins=[]:=λg hg=>h.free g (hsub g hg)
 have hnx:(p.fresh n).1.next=p.next+1:=by rw[r3];exact tq h0 h1
 have hwf:(p.fresh n).1.WF:=r7 hb0 hs (by omega)
 generalize p.room.1.fs=l at r2 hfree
 unfold Pl.more
 rw[r1]
 generalize (p.fresh n).1=s at*
 simp only
 rw[if_neg (by simp),if_neg hk]
 obtain⟨hi,hl⟩:=na r2 hfree
 obtain⟨s1,s2⟩:=r6.set hwf hi (c:=p.next) (k:=k) (b:=b) (bd _ _ _) (by simp) hb
 have hw2:=hwf.set p.next k b
 rw[s1] at hw2 ⊢
 have e2:(s.dB l.length (Fr.set k b)).fs=l++[⟨n,x.N,k,b,true,[p.next],0⟩]:=by
  show s.fs.modify _ _=_
  rw[r2,nQ];rfl
 have et:fW (fW x.T x.N (0,[])) x.N (k,b)=fW x.T x.N (k,b):=by
  funext j
  by_cases e:j=x.N
  ·subst e;rw[cW,cW]
  ·rw[bH e,bH e,bH e]
 rw[pM] at s2
 have s2':aV (s.dB l.length (Fr.set k b)) (dP M n (some ⟨x.N+1,fW (fW x.T x.N (0,[])) x.N (k,b)⟩)) Q (U+1):=s2
 rw[et] at s2'
 obtain⟨i2,l2⟩:=na e2 hfree
 obtain⟨b1,b2,b3,b4⟩:=cK.Hi (c:=p.next) hw2 s2' i2 rfl l2 (by show s.next<_;omega)
 exact⟨b1,by first|trivial|rfl,b2,b3.trans hnx,b4.trans r4⟩
theorem cK.bR (h:cK p M Q U)(hM:M n=some x)(hb0:x.N<=1048576)(hs:n.size<=9223372036854775807)(h0:0<=p.next)(h1:p.next<1099511627776){k:Nat}(hk:k<x.N):
  (p.bR n k).2=(p.next,0)/\(p.bR n k).1.WF/\aV (p.bR n k).1 M Q U/\(p.bR n k).1.next=p.next+1/\(p.bR n k).1.most=p.most/\
  ∃(i:Nat) (f:Fr),(p.bR n k).1.fs[i]?=some f/\f.pins=[p.next]/\f.name=n/\f.ab=k/\∀j g,j≠i->(p.bR n k).1.fs[j]?=some g->g.pins=[]:=by
 have t:=h.told
 have hnx:ff (p.next+1)=p.next+1:=tq h0 h1
 cases hi:p.find n (k:Int) with
 |some i=>
   obtain⟨f,hf,hfn,hfk⟩:=Pl.sj hi
   obtain⟨r1,r2⟩:=t.GP hi hf
   rw[r1]
   refine⟨rfl,h.wf.jI hf (by omega),r2,hnx,rfl,i,Fr.bR p.next f,bt hf,?_,hfn,by show f.ab=k;omega,λj g hj hg=>?_⟩
   ·show f.pins++[p.next]=_
    rw[h.free f (Ki hf)];rfl
   ·have hg:(p.fs.modify i (Fr.bR p.next))[j]?=some g:=hg
    rw[bh (λe=>hj e.symm)] at hg
    exact h.free g (Ki hg)
 |none=>
   obtain⟨r1,r2,r3,r4,r5,r6⟩:=t.DF hM h.wf hi hk h.roomy
   obtain⟨_,_,hsub,_⟩:=t.roomy h.wf h.roomy
   obtain⟨i2,l2⟩:=na r2 λg hg=>h.free g (hsub g hg)
   exact⟨r1,r6 hb0 hs (by omega),r5,r3.trans hnx,r4,_,_,i2,rfl,rfl,rfl,l2⟩
theorem cK.look (h:cK p M Q U)(hM:M n=some x)(hb0:x.N<=1048576)(hs:n.size<=9223372036854775807)(h0:0<=p.next)(h1:p.next<1099511627776){k:Nat}(hk:k<x.N):
  (p.look n k).2=((x.T k).1,(x.T k).2,0)/\cK (p.look n k).1 M Q U/\(p.look n k).1.next=p.next+1/\(p.look n k).1.most=p.most:=by
 obtain⟨r1,r2,t,r4,r5,i,f,r6,r7,rn,r8,r9⟩:=h.bR hM hb0 hs h0 h1 hk
 unfold Pl.look
 rw[r1]
 generalize (p.bR n k).1=s at*
 have g1:=t.get r2 (c:=p.next) (Ki r6) (by rw[rn];exact hM) (by rw[r7];simp)
 obtain⟨b1,b2,b3,b4⟩:=cK.Hi r2 t r6 r7 r9 (by omega)
 simp only
 rw[if_neg (by simp),g1]
 simp only
 rw[if_neg (by simp),b1,r8]
 exact⟨rfl,b2,b3.trans r4,b4.trans r5⟩
theorem cK.over (h:cK p M Q U)(hM:M n=some x)(hb0:x.N<=1048576)(hs:n.size<=9223372036854775807)(h0:0<=p.next)(h1:p.next<1099511627776){k:Nat}(hk:k<x.N){kd:UInt8}{b:List UInt8}(hb:b.length<=504):
  (p.over n (k:Int) kd b).2=0/\cK (p.over n (k:Int) kd b).1 (dP M n (some {x with T:=fW x.T k (kd,b)})) Q U/\(p.over n (k:Int) kd b).1.next=p.next+1/\(p.over n (k:Int) kd b).1.most=p.most:=by
 obtain⟨r1,r2,t,r4,r5,i,f,r6,r7,rn,r8,r9⟩:=h.bR hM hb0 hs h0 h1 hk
 unfold Pl.over
 rw[r1]
 simp only
 rw[if_neg (by simp)]
 generalize (p.bR n k).1=s at*
 obtain⟨s1,s2⟩:=t.set r2 r6 (c:=p.next) (k:=kd) (b:=b) (by rw[rn];exact hM) (by rw[r7];simp) hb
 have hw2:=r2.set p.next kd b
 rw[s1] at hw2 ⊢
 rw[r8,rn] at s2
 have e1:Pl.leave (s.dB i (Fr.set kd b),0) p.next=(s.dB i (Fr.set kd b)).bm p.next:=if_pos rfl
 rw[e1]
 have e6:(s.dB i (Fr.set kd b)).fs[i]?=some (Fr.set kd b f):=bt r6
 obtain⟨b1,b2,b3,b4⟩:=cK.Hi (c:=p.next) hw2 s2 e6 (by simpa[Fr.set] using r7) (λj g hj hg=>r9 j g hj (by
  have hg:(s.fs.modify i (Fr.set kd b))[j]?=some g:=hg
  rw[bh (λe=>hj e.symm)] at hg;exact hg)) (by show s.next<_;omega)
 exact⟨b1,b2,b3.trans r4,b4.trans r5⟩
theorem cK.IH (h:cK p M Q U)(hM:M n=some x){k:Nat}(hk:x.N<=k):p.look n (k:Int)=(p,0,[],12):=by
 have t:=h.told
 have hf:p.find n (k:Int)=none:=Pl.gw λg hg hgn=>by
  obtain⟨y,b1,b2,_⟩:=t.mine g hg
  rw[hgn,hM] at b1;cases b1
  omega
 have hl:p.load n (k:Int)=(p,none,12):=by
  unfold Pl.load
  rw[t.len hM]
  simp only
  rw[if_neg (by simp),if_pos (by omega)]
 have e:p.bR n (k:Int)=(p,0,12):=by
  unfold Pl.bR
  rw[if_neg (by rw[t.wrong];simp),hf]
  simp only[hl]
  rfl
 unfold Pl.look
 rw[e]
 simp only
 rw[if_pos (by decide)]
theorem cK.full (h:cK p M Q U)(hM:M n=some x)(hN:U=Q){k:UInt8}{b:List UInt8}:(p.more n k b).2=5:=by
 obtain⟨h1,h2,h3,_⟩:=h.told.roomy h.wf h.roomy
 have hs5:(bP 0 []).length=512:=gx (by simp)
 obtain⟨j,f,a1,a2,a3,a4,a5⟩:=h2.at hM
 have hwr:p.room.1.d.write n (x.N:Int) (bP 0 [])=(p.room.1.d,5):=by
  unfold Dk.write
  rw[if_neg (by rw[h2.up];simp),dif_pos hs5,a1]
  simp only[Dk.gu a2]
  rw[if_neg (by omega),if_pos (by rw[h2.used,h2.quota];omega)]
 have e:p.fresh n=((p.room.1.cT p.room.1.d).met 5,0,0,5):=by
  unfold Pl.fresh
  rw[if_neg (by rw[h.told.wrong];simp),h.told.len hM]
  simp only
  rw[if_neg (by simp),if_neg (by rw[h1];simp),if_pos (by rw[hwr];simp),hwr]
 unfold Pl.more
 rw[e]
 simp only
 rw[if_pos (by decide)]
end
structure uK (n:ByteArray)(Mo:aU)(Q R most:Nat)(s:Pl)(x:St)(m:Nat):Prop where
 calm:cK s (dP Mo n (some x)) Q (x.N+R)
 lo:0<=s.next
 hi:s.next<=m
 bf:s.d.bf<=2*m
 le:x.N+R<=Q
 room:∀k,(x.T k).2.length<=504
 most:s.most=most
theorem jw {n:ByteArray}{Mo:aU}{Q R most:Nat}(hn:n.size<=9223372036854775807)(hq:Q<=1048576):ib n (Q - R) (uK n Mo Q R most) (λ_ e=>e=5) (λ_ _=>False) where
 name:=hn
 small:=by omega
 pre {s x m} h:=⟨h.bf,h.lo,h.hi,h.calm.told.fit,by have:=h.le;omega,h.room⟩
 look {s x m k} h hm hk:=by
  have lo:=h.lo;have hi:=h.hi;have le:=h.le
  obtain⟨a1,a2,a3,a4⟩:=h.calm.look (bd _ _ _) (by omega) hn lo (by omega) hk
  exact .inl ⟨a1,a2,by omega,by omega,by have:=Pl.xw (s:=s) (n:=n) (g:=(k:Int));have:=h.bf;omega,le,h.room,a4.trans h.most⟩
 IH {s x m k} h hm hk:=by
  have e:=h.calm.IH (bd _ _ _) hk
  rw[e]
  exact .inl ⟨rfl,h.calm,h.lo,by have:=h.hi;show s.next<=_;omega,by have:=h.bf;show s.d.bf<=_;omega,h.le,h.room,h.most⟩
 more {s x m kd b} h hm hb hk hN:=by
  have lo:=h.lo;have hi:=h.hi;have le:=h.le
  obtain⟨a1,a2,a3,a4,a5⟩:=h.calm.more (bd _ _ _) (by omega) (by omega) hn lo (by omega) (k:=kd) (b:=b) hb hk
  rw[pM] at a3
  exact .inl ⟨a1,a2,⟨by show cK _ _ _ (x.N+1+R);rw[show x.N+1+R=x.N+R+1 by omega];exact a3,by omega,by omega,by have:=Pl.xd (s:=s) (n:=n) (k:=kd) (b:=b);have:=h.bf;omega,by show x.N+1+R<=Q;omega,rX h.room hb,a5.trans h.most⟩⟩
 full {s x m kd b} h hm hb hk hN:=.inl (h.calm.full (bd _ _ _) (by have:=h.le;omega))
 over {s x m k kd b} h hm hb hk:=by
  have lo:=h.lo;have hi:=h.hi;have le:=h.le
  obtain⟨a1,a2,a3,a4⟩:=h.calm.over (bd _ _ _) (by omega) hn lo (by omega) hk (kd:=kd) (b:=b) hb
  rw[pM] at a2
  have hl:=Pl.xR (s:=s) (n:=n) (g:=(k:Int)) (k:=kd) (b:=b)
  have hg:=h.bf
  exact .inl ⟨a1,a2,by omega,by omega,by omega,le,rX h.room hb,a4.trans h.most⟩
 up {s x m k} h hk:=⟨h.calm,h.lo,by have:=h.hi;omega,by have:=h.bf;omega,h.le,h.room,h.most⟩
 errB h:=by rw[h];decide
 errC h:=h.elim
theorem gz {α:Type}:∀{A B:List α},A.Nodup->(∀a∈A,a∈B)->A.length<=B.length
 |[],_,_,_=>KU _
 |a::A,B,h,hs=>by
   have ha:=hs a Kw
   obtain⟨C,D,rfl⟩:=List.append_of_mem ha
   obtain⟨h1,h2⟩:=List.nodup_cons.1 h
   have:=gz (A:=A) (B:=C++D) h2 λb hb=>by
    have hb2:=hs b (KO _ hb)
    rcases Kk.1 hb2 with u|u
    ·exact Kk.2 (.inl u)
    ·rcases Ku.1 u with v|v
     ·subst v;exact absurd hb h1
     ·exact Kk.2 (.inr v)
   simp only[Kv,K1] at this ⊢
   omega
theorem yA {α:Type}(w:α->Nat):∀{l:List α} {a:α},a∈l->w a<=(l.map w).sum
 |b::l,a,h=>by
   rw[List.map_cons,List.sum_cons]
   rcases Ku.1 h with u|u
   ·subst u;omega
   ·have:=yA w u;omega
section
variable {p:Pl}{M:aU}{Q U:Nat}{n:ByteArray}{x:St}
theorem aV.DO (h:aV p M Q U)(hM:M n=some x):x.N<=U:=by
 obtain⟨i,f,_,h2,_,h4,_⟩:=h.at hM
 have:=yA (λf:Fl=>f.aB.length) (Ki h2)
 have hu:=h.used
 unfold Dk.used at hu
 omega
theorem aV.Bp (h:aV p M Q U){ns:List ByteArray}(hs:∀n x,M n=some x->n∈ns):p.d.files.length<=ns.length:=by
 have hn:(p.d.files.map (·.name)).Nodup:=by
  have:=h.nodup
  have e:(p.d.files.map λf=>f.name.toList)=(p.d.files.map (·.name)).map ByteArray.toList:=by rw[List.map_map];rfl
  rw[e] at this
  exact OY (λ{a b} hne e=>hne (by rw[e])) (List.pairwise_map.1 this)
 have:=gz hn (B:=ns) λa ha=>by
  obtain⟨f,hf,rfl⟩:=Kz.1 ha
  obtain⟨i,hi⟩:=Ko.1 hf
  obtain⟨y,b1,_⟩:=h.file i f hi
  exact hs _ _ b1
 rwa [KM] at this
end
section
variable {p p':Pl}{M:aU}{Q U:Nat}{n:ByteArray}{x:St}
theorem Dk.ES {d:Dk}{i:Nat}(h:d.idx n=some i):d.drop n={d with files:=d.files.eraseIdx i}:=by unfold Dk.drop;rw[h]
theorem cK.iQ (h:cK p M Q U)(hM:M n=some x):(p.iQ n).2=0/\cK (p.iQ n).1 (dP M n none) Q (U - x.N)/\(p.iQ n).1.most=p.most/\(p.iQ n).1.next=p.next:=by
 obtain⟨i,f,i1,i2,i3,i4,_⟩:=h.told.at hM
 have hr:p.d.remove n=({{p.d with ops:=ff (p.d.ops+1)} with files:=p.d.files.eraseIdx i},0):=by
  unfold Dk.remove
  rw[if_neg (by rw[h.told.up];simp),if_neg (by rw[i1];simp)]
  unfold Dk.step
  rw[sD h.told.calm,if_pos rfl]
  exact congrArg (λd:Dk=>(d,(0:Int))) (Dk.ES (d:={p.d with ops:=ff (p.d.ops+1)}) i1)
 have e:p.iQ n=((p.forget n).cT (p.d.remove n).1,0):=by
  unfold Pl.iQ
  rw[if_neg (by rw[h.told.wrong];simp),h.told.len hM]
  simp only
  rw[if_neg (by simp),if_neg (by
   rw[List.any_eq_true]
   rintro⟨g,hg,h2⟩
   rw[h.free g hg] at h2
   simp at h2),hr]
  rfl
 rw[e]
 refine⟨rfl,⟨?_,(h.wf.forget n).cT _,λg hg=>h.free g (KP.1 hg).1⟩,rfl,rfl⟩
 rw[hr]
 have hil:=(Kj.1 i2).1
 have hname:∀(j:Nat) (g:Fl),p.d.files[j]?=some g->g.name=n->j=i:=λj g hj hg=>by
  have:=tE h.told.nodup hj
  rw[hg,i1] at this
  exact(Kq this).symm
 have hget:∀j g,(p.d.files.eraseIdx i)[j]?=some g->∃j',j'≠i/\p.d.files[j']?=some g:=λj g hj=>by
  rw[Ma] at hj
  split at hj
  ·rename_i q;exact⟨j,by omega,hj⟩
  ·rename_i q;exact⟨j+1,by omega,hj⟩
 refine⟨h.told.wrong,h.told.up,h.told.calm,h.told.quota,?_,?_,λj g hj=>?_,λm y hy=>?_,λg hg=>?_⟩
 ·have:=gA (λf:Fl=>f.aB.length) p.d.files i f i2
  have hu:=h.told.used
  unfold Dk.used at hu
  show ((p.d.files.eraseIdx i).map λf:Fl=>f.aB.length).sum=_
  rw[<-i4]
  omega
 ·exact h.told.nodup.sublist ((List.eraseIdx_sublist _ _).map _)
 ·obtain⟨j',h1,h2⟩:=hget j g hj
  obtain⟨y,a,b,c⟩:=h.told.file j' g h2
  have hne:g.name≠n:=λq=>h1 (hname j' g h2 q)
  refine⟨y,by rw[aQ hne];exact a,b,λk bb hk hcl=>c k bb hk λf' hf' hn' hp'=>hcl f' (KP.2 ⟨hf',?_⟩) hn' hp'⟩
  have:¬f'.name.toList=n.toList:=λq=>hne (by rw[<-hn'];exact iP q)
  simpa using this
 ·have hne:m≠n:=λq=>by rw[q,bd] at hy;cases hy
  rw[aQ hne] at hy
  obtain⟨j,g,h1,h2⟩:=h.told.there m y hy
  have hji:j≠i:=λq=>by subst q;rw[i2] at h1;cases h1;exact hne (h2.symm.trans i3)
  rcases K8 j i with q|q
  ·exact⟨j,g,by show (p.d.files.eraseIdx i)[j]?=_;rw[Ma,if_pos q];exact h1,h2⟩
  ·exact⟨j - 1,g,by show (p.d.files.eraseIdx i)[j - 1]?=_;rw[Ma,if_neg (by omega),show j - 1+1=j by omega];exact h1,h2⟩
 ·obtain⟨g1,g2⟩:=KP.1 hg
  obtain⟨y,a,b,c⟩:=h.told.mine g g1
  have hne:g.name≠n:=λq=>by rw[q] at g2;simp at g2
  exact⟨y,by rw[aQ hne];exact a,b,c⟩
end
open Go.MapKept
structure aJ (H0 A:aa)(F:Nat->Prop)(p dp:Nat)(s:Pl)(M:aU)(Q U most m:Nat):Prop where
 ext:Ext H0 A
 al:an F A p dp s
 old:∀b,F b->H0.size<=b
 calm:cK s M Q U
 lo:0<=s.next
 hi:s.next<=m
 bf:s.d.bf<=2*m
 le:U<=Q
 room:∀n x,M n=some x->∀k,(x.T k).2.length<=504
 most:s.most=most
section
variable {H0 A B:aa}{F F':Nat->Prop}{p dp Q U most m:Nat}{s s':Pl}{M M':aU}{n:ByteArray}{x x':St}
theorem aJ.gl (h:aJ H0 A F p dp s M Q U most m)(hg:Gl H0):Gl A:=hg.mod h.ext id
theorem aJ.many (h:aJ H0 A F p dp s M Q U most m)(hM:M n=some x):uK n M Q (U - x.N) most s x m:=by
 have hN:=h.calm.told.DO hM
 have e:x.N+(U - x.N)=U:=by omega
 exact⟨by rw[tB hM,e];exact h.calm,h.lo,h.hi,h.bf,by rw[e];exact h.le,h.room n x hM,h.most⟩
theorem aJ.goes {R m':Nat}{Y Y':Nat->Prop}(h:aJ H0 A F p dp s M Q U most m)(hI:uK n M Q R most s' x' m')(hp:an F' B p dp s')(S:Step Y Y' A B)(h1:∀b,Y b->H0.size<=b)(h2:∀b,F' b->Y' b):aJ H0 B F' p dp s' (dP M n (some x')) Q (x'.N+R) most m':=by
 have hz:=h.ext.size
 refine⟨⟨K4 hz S.mod.size,λb hb _=>(S.mod.same b (by omega) λu=>by have:=h1 b u;omega).trans (h.ext.same b hb id)⟩,hp,λb hb=>?_,hI.calm,hI.lo,hI.hi,hI.bf,hI.le,λa y hy j=>?_,hI.most⟩
 ·rcases S.own b (h2 b hb) with u|u
  ·exact h1 b u
  ·omega
 ·by_cases q:a=n
  ·subst q
   rw[bd] at hy
   cases hy
   exact hI.room j
  ·rw[aQ q] at hy
   exact h.room a y hy j
theorem aJ.grow (h:aJ H0 A F p dp s M Q U most m)(e:Ext A B):aJ H0 B F p dp s M Q U most m:=
 ⟨h.ext.trans e,h.al.ext e,h.old,h.calm,h.lo,h.hi,h.bf,h.le,h.room,h.most⟩
theorem aJ.later {m':Nat}(h:aJ H0 A F p dp s M Q U most m)(hm:m<=m'):aJ H0 A F p dp s M Q U most m':=
 ⟨h.ext,h.al,h.old,h.calm,h.lo,by have:=h.hi;omega,by have:=h.bf;omega,h.le,h.room,h.most⟩
theorem aJ.aside (h:aJ H0 A F p dp s M Q U most m)(e:Ext H0 B)(hs:∀b,F b->B[b]?=A[b]?):aJ H0 B F p dp s M Q U most m:=
 ⟨e,h.al.aA λb hb _=>hs b hb,h.old,h.calm,h.lo,h.hi,h.bf,h.le,h.room,h.most⟩
end
end Go.Proofs.YtkehfflpbpdokaaGreatDoor
namespace Go.Proofs.YtkehfflpbpdokaaGreatDoor
open Go.ChangeShapes Go.WideShapes Go.ChangeAt Go.RowKit
end Go.Proofs.YtkehfflpbpdokaaGreatDoor
namespace Go.Proofs.YtkehfflpbpdokaaGreatDoor
theorem eF (n:Int)(k:Nat)(d:Int)(hd:(2:Int)^(min (56 - 8*(k:Int)).toNat K7.bits)=d)(h0:0<=d):gi n k=n/d%256:=by
 unfold gi aZ
 rw[ON,hd,M4 _ h0]
theorem vP {n:Int}(h0:0<=n)(h1:n<18446744073709551616):∃b0 b1 b2 b3 b4 b5 b6 b7:Int,fk n=[b0,b1,b2,b3,b4,b5,b6,b7]/\
  (0<=b0/\b0<256)/\(0<=b1/\b1<256)/\(0<=b2/\b2<256)/\(0<=b3/\b3<256)/\(0<=b4/\b4<256)/\(0<=b5/\b5<256)/\(0<=b6/\b6<256)/\(0<=b7/\b7<256)/\
  n=b0*72057594037927936+b1*281474976710656+b2*1099511627776+b3*4294967296+b4*16777216+b5*65536+b6*256+b7:=by
 refine⟨gi n 0,gi n 1,gi n 2,gi n 3,gi n 4,gi n 5,gi n 6,gi n 7,rfl,cH n 0,cH n 1,cH n 2,cH n 3,cH n 4,cH n 5,cH n 6,cH n 7,?_⟩
 rw[eF n 0 72057594037927936 (by decide) (by decide),eF n 1 281474976710656 (by decide) (by decide),eF n 2 1099511627776 (by decide) (by decide),eF n 3 4294967296 (by decide) (by decide),
  eF n 4 16777216 (by decide) (by decide),eF n 5 65536 (by decide) (by decide),eF n 6 256 (by decide) (by decide),eF n 7 1 (by decide) (by decide)]
 omega
theorem da {w b:Int}(h0:0<=w)(h1:w<72057594037927936)(h2:0<=b)(h3:b<256):mK w b=w*256+b:=by
 unfold mK
 simp only[qq]
 omega
theorem uz {n:Int}(h0:0<=n)(h1:n<18446744073709551616):jk (fk n)=n:=by
 obtain⟨b0,b1,b2,b3,b4,b5,b6,b7,e,r0,r1,r2,r3,r4,r5,r6,r7,hs⟩:=vP h0 h1
 rw[e]
 unfold jk
 simp only[List.foldl_cons,List.foldl_nil]
 rw[da (w:=0) (by omega) (by omega) r0.1 r0.2,da (by omega) (by omega) r1.1 r1.2,da (by omega) (by omega) r2.1 r2.2,da (by omega) (by omega) r3.1 r3.2,
  da (by omega) (by omega) r4.1 r4.2,da (by omega) (by omega) r5.1 r5.2,da (by omega) (by omega) r6.1 r6.2,da (by omega) (by omega) r7.1 r7.2]
 omega
def bQ (l:List Int):Prop:=∀x∈l,0<=x/\x<18446744073709551616
theorem lk {n:Nat}:∀(L:List (List Int)),(∀l∈L,l.length=n)->∀k (hk:k<L.length),((L.flatten).drop (k*n)).take n=L[k]
 |[],_,k,hk=>by simp at hk
 |l::L,h,0,_=>by
   have:=h l Kw
   simp[<-this]
 |l::L,h,k+1,hk=>by
   have h1:=h l Kw
   have ih:=lk L (λx hx=>h x (KO _ hx)) k (by simpa using hk)
   rw[MH,LU,Nat.add_comm,List.drop_append,Lz (by omega),List.nil_append]
   have:n+k*n - l.length=k*n:=by omega
   rw[this]
   simpa using ih
theorem vq {n:Nat}:∀(L:List (List Int)),(∀l∈L,l.length=n)->L.flatten.length=L.length*n
 |[],_=>by simp
 |l::L,h=>by
   rw[MH,Kv,h l Kw,vq L (λx hx=>h x (KO _ hx))]
   simp[LU];omega
theorem zt {l:List Int}{w:Nat}(hl:l.length=w)(hf:bQ l):rowOf (dU l) w=l:=by
 by_cases h:l=[]
 ·subst h;simp at hl;subst hl;rfl
 ·unfold dU
  rw[if_neg h]
  apply NR
  ·simp[rowOf,hl]
  ·intro j h1 h2
   simp only[rowOf,M6,Oa]
   have:=lk (n:=8) (l.map fk) (by intro x hx;obtain⟨y,_,rfl⟩:=Kz.1 hx;exact bF y) j (by simpa using h2)
   rw[<-QC] at this
   rw[Nat.mul_comm,this]
   simp only[M6]
   exact uz (hf _ (Kt h2)).1 (hf _ (Kt h2)).2
theorem jg {l:List Int}{w:Nat}(hl:l.length=w)(hw:w<=16):(dU l).length=(aF w).toNat/\0<(aF w).toNat:=by
 unfold dU aF
 by_cases h:l=[]
 ·subst h;simp at hl;subst hl;simp
 ·have:0<l.length:=MX.2 h
  rw[if_neg h,if_neg (by omega),if_neg (by omega),nO]
  omega
theorem wH {L:List (List Int)}{w:Nat}(hw:w<=16)(hl:∀l∈L,l.length=w)(hf:∀l∈L,bQ l):dL (L.flatMap dU) w=L/\xT (L.flatMap dU) w=0:=by
 have hlen:∀l∈L.map dU,l.length=(aF w).toNat:=by
  intro l h
  obtain⟨x,hx,rfl⟩:=Kz.1 h
  exact(jg (hl x hx) hw).1
 have hn0:0<(aF w).toNat:=(jg (l:=KG w 0) (by simp) hw).2
 have htot:(L.flatMap dU).length=L.length*(aF w).toNat:=by
  rw[QC,vq _ hlen];simp
 have hok:dy (L.flatMap dU) w=true:=by
  refine oP (by omega) ?_ ?_
  ·have e:aF w=(((aF w).toNat:Nat):Int):=by omega
   rw[e,htot,<-Int.ofNat_tmod,Nat.mul_mod_left];rfl
  ·intro h0 k hk
   have h0':w=0:=by omega
   subst h0'
   have:∀x∈L.flatMap dU,x=0:=by
    intro x hx
    obtain⟨l,h1,h2⟩:=List.mem_flatMap.1 hx
    have:l=[]:=KY (hl l h1)
    subst this
    simpa[dU] using h2
   simp only[KQ,Kg hk,Mn]
   exact this _ (Kt hk)
 unfold dL xT
 rw[hok,if_pos rfl,if_pos rfl,htot,Nat.mul_div_cancel _ hn0]
 refine⟨?_,rfl⟩
 apply NR
 ·simp[rowsOf]
 ·intro k h1 h2
  simp only[rowsOf,M6,Oa]
  have:=lk (L.map dU) hlen k (by simpa using h2)
  rw[<-QC] at this
  unfold bT
  rw[this]
  simp only[M6,KI]
  exact zt (hl _ (Kt h2)) (hf _ (Kt h2))
theorem w7:∀{a b c:List Int},aP a b<0->aP b c<0->aP a c<0
 |[],[],_,h,_=>by simp[aP] at h
 |[],_::_,[],_,h=>by simp[aP] at h
 |[],_::_,_::_,_,_=>by simp[aP]
 |_::_,[],_,h,_=>by simp[aP] at h
 |_::_,_::_,[],_,h=>by simp[aP] at h
 |x::a,y::b,z::c,h1,h2=>by
   simp only[aP] at h1 h2 ⊢
   have ih:=@w7 a b c
   split at h1
   ·split at h2
    ·rw[if_pos (by omega)];decide
    ·split at h2
     ·omega
     ·rw[if_pos (by omega)];decide
   ·split at h1
    ·omega
    ·split at h2
     ·rw[if_pos (by omega)];decide
     ·split at h2
      ·omega
      ·rw[if_neg (by omega),if_neg (by omega)];exact ih h1 h2
theorem uU {a b:List Int}:0<aP a b↔aP b a<0:=by rw[sG b a];omega
theorem yB (a:List Int):aP a a=0:=fu.2 rfl
theorem xE {a b c:List Int}(h:aP a b>=0)(k:aP c b<0):aP c a<0:=by
 rcases jr a b with q|q|q
 ·omega
 ·rw[fu.1 q];exact k
 ·exact w7 k (uU.1 (by omega))
theorem bU {ls:List (List Int)}{i:Nat}(h:i<ls.length):ls.getD i []=ls[i]:=by rw[KQ,Kg h];rfl
theorem kE {ls:List (List Int)}:gR ls=true↔∀i,i+1<ls.length->aP (ls.getD i []) (ls.getD (i+1) [])<0:=by
 unfold gR
 rw[List.all_eq_true]
 constructor
 ·intro h i hi
  simpa using h i (Lg.2 (by omega))
 ·intro h i hi
  have:=Lg.1 hi
  simpa using h i (by omega)
theorem cM {ls:List (List Int)}(h:gR ls=true):∀{i j:Nat},i<j->j<ls.length->aP (ls.getD i []) (ls.getD j [])<0:=by
 have h':=kE.1 h
 intro i j hij
 induction j with
 |zero=>omega
 |succ j ih=>
   intro hj
   by_cases e:i=j
   ·subst e;exact h' i hj
   ·exact w7 (ih (by omega) (by omega)) (h' j hj)
def HL (ll:List Int)(ls:List (List Int)):Prop:=∀i j,i<=j->j<ls.length->aP (ls.getD j []) ll<0->aP (ls.getD i []) ll<0
theorem o7 {ls:List (List Int)}(h:gR ls=true)(ll:List Int):HL ll ls:=by
 intro i j hij hj hc
 rcases K8 i j with q|q
 ·exact w7 (cM h q hj) hc
 ·rwa [show i=j by omega]
theorem xB {ll:List Int}:∀{ls:List (List Int)} {n:Nat},n<=ls.length->(∀x,x<n->aP (ls.getD x []) ll<0)->(n<ls.length->¬aP (ls.getD n []) ll<0)->below ll ls=n
 |[],n,h,_,_=>by simp at h;subst h;rfl
 |a::ls,0,_,_,h3=>by
   have:=h3 (by simp)
   unfold below
   rw[Mf,if_neg (by simpa using this)];rfl
 |a::ls,n+1,h1,h2,h3=>by
   have h0:aP a ll<0:=h2 0 (by omega)
   have ih:=@xB ll ls n (by simpa using h1) (λx hx=>h2 (x+1) (by omega)) (λhx=>h3 (by simpa using hx))
   unfold below at ih ⊢
   rw[Mf,if_pos (by simpa using h0),K1,ih]
theorem j3 {ll:List Int}:∀{ls:List (List Int)} {x:Nat},x<below ll ls->aP (ls.getD x []) ll<0
 |[],x,h=>by simp[below] at h
 |a::ls,x,h=>by
   unfold below at h
   rw[Mf] at h
   split at h
   ·rename_i ha
    cases x with
    |zero=>simpa using ha
    |succ x=>exact @j3 ll ls x (by unfold below;simpa using h)
   ·simp at h
theorem jZ {ll:List Int}:∀{ls:List (List Int)},below ll ls<ls.length->¬aP (ls.getD (below ll ls) []) ll<0
 |[],h=>by simp[below] at h
 |a::ls,h=>by
   by_cases ha:aP a ll<0
   ·have e:below ll (a::ls)=below ll ls+1:=by
     unfold below
     rw[Mf,if_pos (by simpa using ha)];rfl
    rw[e] at h ⊢
    exact @jZ ll ls (by simpa using h)
   ·have e:below ll (a::ls)=0:=by
     unfold below
     rw[Mf,if_neg (by simpa using ha)];rfl
    rw[e];exact ha
theorem bV {ls:List (List Int)}{l:List Int}:sameAt ls l=true↔below l ls<ls.length/\ls.getD (below l ls) []=l:=by
 unfold sameAt;simp
theorem qH {n:Nd}{l:List Int}(h:gR n.rows=true){j:Nat}(h1:n.child l<=j)(h2:j<n.rows.length):aP l (n.rows.getD j [])<0:=by
 unfold Nd.child at h1
 split at h1
 ·rename_i hs
  obtain⟨q1,q2⟩:=bV.1 hs
  have:=cM h (i:=below l n.rows) (j:=j) (by omega) h2
  rwa [q2] at this
 ·rename_i hs
  have key:aP l (n.rows.getD (below l n.rows) [])<0:=by
   have hlt:below l n.rows<n.rows.length:=by omega
   have h3:=jZ hlt
   rcases jr (n.rows.getD (below l n.rows) []) l with q|q|q
   ·omega
   ·exact absurd (bV.2 ⟨hlt,fu.1 q⟩) hs
   ·exact uU.1 (by omega)
  rcases K8 (below l n.rows) j with q|q
  ·exact w7 key (cM h q h2)
  ·rwa [show j=below l n.rows by omega]
theorem pL {n:Nd}{l:List Int}(h:∀j,j<n.rows.length->aP l (n.rows.getD j [])<0):below l n.rows=0/\sameAt n.rows l=false/\n.child l=0:=by
 have hb:below l n.rows=0:=xB (KU _) (λx hx=>by omega) λh0 q=>by
  have:=h 0 h0
  have:=uU.2 this
  omega
 have hs:sameAt n.rows l=false:=by
  cases hq:sameAt n.rows l with
  |false=>rfl
  |true=>
    obtain⟨q1,q2⟩:=bV.1 hq
    have:=h _ q1
    rw[q2,yB] at this;omega
 refine⟨hb,hs,?_⟩
 unfold Nd.child
 rw[hs,hb];rfl
theorem qe {s:Span}{ls:List (List Int)}(h:s.holds ls=true){a:List Int}(ha:s.low=some a){j:Nat}(hj:j<ls.length):aP (ls.getD j []) a>=0:=by
 unfold Span.holds at h
 simp only[KD,Lo] at h
 obtain⟨h1,h2⟩:=h
 have h0:aP (ls.getD 0 []) a>=0:=by
  rcases h2 with q|⟨q,_⟩
  ·have:ls=[]:=by simpa using q
   rw[this] at hj;simp at hj
  ·unfold Span.ge at q
   rw[ha] at q;simpa using q
 rcases L9 j with q|q
 ·rwa [q]
 ·have:=cM h1 q hj
  rcases jr (ls.getD j []) a with r|r|r
  ·have:=xE h0 (show aP (ls.getD j []) a<0 by omega)
   have h3:=uU.2 ‹aP (ls.getD 0 []) (ls.getD j [])<0›
   omega
  ·omega
  ·omega
theorem bx {s:Span}{ls:List (List Int)}(h:s.holds ls=true):gR ls=true:=by
 unfold Span.holds at h
 simp only[KD] at h
 exact h.1
section
variable {x:St}{w:Int}{depth:Nat}{low:List Int}{strict:Bool}
theorem ij (hT:∀k,(x.T k).2.length<=504){above ab:Nat}{s:Span}{n:Nd}(h:x.node w depth above ab s=some n):n.Ok w depth above s:=by
 unfold St.node at h
 split at h
 ·exact y7 (hT _) h
 ·cases h
theorem px (hT:∀k,(x.T k).2.length<=504)(hd:1<depth):∀(a ab:Nat) (s:Span) (b:List Int),s.low=some b->aP low b<0->
  (x.find w depth low strict a ab s).1<=a+1/\(x.find w depth low strict a ab s).2≠some none
 |0,ab,s,b,hb,hc=>by
   unfold St.find
   cases hn:x.node w depth 0 ab s with
   |none=>exact⟨Kl _,by simp⟩
   |some n=>
     have ok:=ij hT hn
     have hne:=ok.some_ hd
     have h0:0<n.rows.length:=MX.2 hne
     obtain⟨z1,z2,z3⟩:=pL (n:=n) (l:=low) λj hj=>xE (qe ok.holds hb hj) hc
     refine⟨Kl _,?_⟩
     show some (jz n.rows low strict)≠some none
     unfold jz
     rw[z1,z2]
     simp only[Rq,Bool.false_eq_true,if_false,OM]
     rw[Kg h0]
     simp
 |a+1,ab,s,b,hb,hc=>by
   unfold St.find
   cases hn:x.node w depth (a+1) ab s with
   |none=>exact⟨by simp,by simp⟩
   |some n=>
     have ok:=ij hT hn
     obtain⟨i1,i2,i3⟩:=ok.inner (Om _)
     obtain⟨z1,z2,z3⟩:=pL (n:=n) (l:=low) λj hj=>xE (qe ok.holds hb hj) hc
     have hs:(s.of n 0).low=some b:=by unfold Span.of;simp[hb]
     obtain⟨r1,r2⟩:=px hT hd a (n.kids.getD 0 0) (s.of n 0) b hs hc
     simp only
     rw[z3,Pu,i1]
     unfold jX
     rw[if_neg r2]
     exact⟨by omega,r2⟩
theorem rM (hT:∀k,(x.T k).2.length<=504):∀(a ab:Nat) (s:Span),a<depth->(x.find w depth low strict a ab s).1<=(a+1)*(a+1)
 |0,ab,s,_=>by
   unfold St.find
   cases x.node w depth 0 ab s<;>exact Kl _
 |a+1,ab,s,ha=>by
   unfold St.find
   cases hn:x.node w depth (a+1) ab s with
   |none=>exact K4 (Nat.le_add_left 1 (a+1)) (Nat.le_mul_of_pos_right _ (by omega))
   |some n=>
     have ok:=ij hT hn
     obtain⟨i1,i2,i3⟩:=ok.inner (Om _)
     have hc:=iO (n:=n) (l:=low)
     have ih:=rM hT a (n.kids.getD (n.child low) 0) (s.of n (n.child low)) (by omega)
     simp only
     have e2:(a+1+1)*(a+1+1)=(a+1)*(a+1)+(2*a+3):=by
      rw[Nat.mul_add,MZ,MZ];omega
     have hk:n.kids.length - n.child low=(n.rows.length - n.child low)+1:=by omega
     rw[hk]
     unfold jX
     split
     ·rcases L9 (n.rows.length - n.child low) with q|q
      ·rw[q]
       unfold jX
       simp only
       omega
      ·obtain⟨m,hm⟩:∃m,n.rows.length - n.child low=m+1:=⟨n.rows.length - n.child low - 1,by omega⟩
       rw[hm]
       have hlow:(s.of n (n.child low+1)).low=some (n.rows.getD (n.child low) []):=by unfold Span.of;simp
       obtain⟨r1,r2⟩:=px (strict:=strict) hT (show 1<depth by omega) a (n.kids.getD (n.child low+1) 0) (s.of n (n.child low+1)) _ hlow (qH (bx ok.holds) (Kl _) (by omega))
       unfold jX
       rw[if_neg r2]
       simp only
       omega
     ·omega
theorem zf {f:Nat->Nat×Option (Option (List Int))}{i k:Nat}(h:(f i).2=some none):jX f i (k+1)=((f i).1+(jX f (i+1) k).1,(jX f (i+1) k).2):=by
 conv=>lhs;unfold jX
 rw[if_pos h]
theorem zw {f:Nat->Nat×Option (Option (List Int))}{i k:Nat}(h:(f i).2≠some none):jX f i (k+1)=f i:=by
 unfold jX
 rw[if_neg h]
theorem AS {f:Nat->Nat×Option (Option (List Int))}{y:List Int}:∀(k i:Nat),(jX f i k).2=some (some y)->∃j,(f j).2=some (some y)
 |0,i,h=>by unfold jX at h;cases h
 |k+1,i,h=>by
   unfold jX at h
   split at h
   ·exact AS k (i+1) h
   ·exact⟨i,h⟩
theorem qo {ll:List Int}(hT:∀k,(x.T k).2.length<=504):∀(a ab:Nat) (s:Span) {y:List Int},(x.find w depth ll strict a ab s).2=some (some y)->y.length=w.toNat
 |0,ab,s,y,h=>by
   unfold St.find at h
   cases hn:x.node w depth 0 ab s with
   |none=>rw[hn] at h;cases h
   |some n=>
     rw[hn] at h
     simp only[Lr] at h
     unfold jz at h
     exact(ij hT hn).cols y (Ki h)
 |a+1,ab,s,y,h=>by
   unfold St.find at h
   cases hn:x.node w depth (a+1) ab s with
   |none=>rw[hn] at h;cases h
   |some n=>
     rw[hn] at h
     obtain⟨j,hj⟩:=AS _ _ h
     exact qo hT a _ _ hj
end
theorem fx (n:Nat):(qS n).length=4:=rfl
theorem EW {n:Nat}(h:n<4294967296)(r:List UInt8):FV (qS n++r)=n:=by
 have e:∀k:Nat,(Ky k).toNat=k%256:=λk=>My
 show (((Ky (n/16777216)).toNat*256+(Ky (n/65536)).toNat)*256+(Ky (n/256)).toNat)*256+(Ky n).toNat=n
 rw[e,e,e,e]
 omega
theorem fe:∀(l:List Nat),(l.flatMap qS).length=4*l.length
 |[]=>rfl
 |a::l=>by rw[K6,Kv,fx,fe l];simp;omega
theorem we {r:List UInt8}:∀{l:List Nat} {i:Nat},(∀k∈l,k<4294967296)->i<l.length->FV ((l.flatMap qS++r).drop (4*i))=l.getD i 0
 |[],i,_,h=>by simp at h
 |a::l,0,h,_=>by
   rw[K6,Lk]
   exact EW (h a Kw) _
 |a::l,i+1,h,hi=>by
   have e:4*(i+1)=(qS a).length+4*i:=by rw[fx];omega
   rw[K6,Lk,e,<-Oj,Rk]
   exact we (λk hk=>h k (KO _ hk)) (by simpa using hi)
theorem pT (a b:List UInt8):dz (a++b)=dz a++dz b:=by simp[dz]
def cR (ls:List (List Int)):List UInt8:=ls.flatMap λl=>fT (dU l)
theorem sL:∀(ls:List (List Int)),dz (cR ls)=ls.flatMap dU
 |[]=>rfl
 |a::ls=>by
   unfold cR
   rw[K6,pT,lA (lg a),K6]
   exact congrArg _ (sL ls)
theorem Ac {l:List Int}{W:Nat}(hl:l.length=W)(hW:W<=16):(dU l).length=(aF W).toNat:=(jg hl hW).1
theorem mv {W:Nat}(hW:W<=16):∀{ls:List (List Int)},(∀l∈ls,l.length=W)->(cR ls).length=ls.length*(aF W).toNat
 |[],_=>by simp[cR]
 |a::ls,h=>by
   have ih:=mv hW (ls:=ls) λl hl=>h l (KO _ hl)
   have e:cR (a::ls)=fT (dU a)++cR ls:=by unfold cR;rw[K6]
   rw[e,Kv,iq,Ac (h a Kw) hW,ih,K1,MZ]
   omega
theorem nE {W:Nat}(hW:W<=16):aF (W:Int)≠0/\(aF (W:Int)).toNat=(if W=0 then 1 else 8*W):=by
 unfold aF
 rw[if_neg (by omega)]
 by_cases h:W=0
 ·subst h;exact⟨by decide,rfl⟩
 ·rw[if_neg (by omega),if_neg h];omega
theorem jV {W:Nat}(hW:W<=16):
  (∀k:Nat,¬((k:Int)>uk W)↔2+4*k+(k - 1)*(aF W).toNat<=504\/k<=1)/\(∀k:Nat,¬((k:Int)>lV W)↔k*(aF W).toNat<=504)/\3<=lV (W:Int)/\4<=uk (W:Int):=by
 have h:∀W:Nat,W<=16->W=0\/W=1\/W=2\/W=3\/W=4\/W=5\/W=6\/W=7\/W=8\/W=9\/W=10\/W=11\/W=12\/W=13\/W=14\/W=15\/W=16:=by omega
 have key:∀(s f r:Nat),aF (W:Int)=s->uk (W:Int)=f->lV (W:Int)=r->(∀k:Nat,¬(k>f)↔2+4*k+(k - 1)*s<=504\/k<=1)->(∀k:Nat,¬(k>r)↔k*s<=504)->3<=r->4<=f->
   (∀k:Nat,¬((k:Int)>uk W)↔2+4*k+(k - 1)*(aF W).toNat<=504\/k<=1)/\(∀k:Nat,¬((k:Int)>lV W)↔k*(aF W).toNat<=504)/\3<=lV (W:Int)/\4<=uk (W:Int):=by
  intro s f r h1 h2 h3 h4 h5 h6 h7
  rw[h1,h2,h3]
  refine⟨λk=>?_,λk=>?_,by omega,by omega⟩
  ·rw[KI,<-h4 k];omega
  ·rw[KI,<-h5 k];omega
 rcases h W hW with e|e|e|e|e|e|e|e|e|e|e|e|e|e|e|e|e<;>subst e
 ·exact key 1 100 504 (by decide) (by decide) (by decide) (by omega) (by omega) (by decide) (by decide)
 ·exact key 8 42 63 (by decide) (by decide) (by decide) (by omega) (by omega) (by decide) (by decide)
 ·exact key 16 25 31 (by decide) (by decide) (by decide) (by omega) (by omega) (by decide) (by decide)
 ·exact key 24 18 21 (by decide) (by decide) (by decide) (by omega) (by omega) (by decide) (by decide)
 ·exact key 32 14 15 (by decide) (by decide) (by decide) (by omega) (by omega) (by decide) (by decide)
 ·exact key 40 12 12 (by decide) (by decide) (by decide) (by omega) (by omega) (by decide) (by decide)
 ·exact key 48 10 10 (by decide) (by decide) (by decide) (by omega) (by omega) (by decide) (by decide)
 ·exact key 56 9 9 (by decide) (by decide) (by decide) (by omega) (by omega) (by decide) (by decide)
 ·exact key 64 8 7 (by decide) (by decide) (by decide) (by omega) (by omega) (by decide) (by decide)
 ·exact key 72 7 7 (by decide) (by decide) (by decide) (by omega) (by omega) (by decide) (by decide)
 ·exact key 80 6 6 (by decide) (by decide) (by decide) (by omega) (by omega) (by decide) (by decide)
 ·exact key 88 6 5 (by decide) (by decide) (by decide) (by omega) (by omega) (by decide) (by decide)
 ·exact key 96 5 5 (by decide) (by decide) (by decide) (by omega) (by omega) (by decide) (by decide)
 ·exact key 104 5 4 (by decide) (by decide) (by decide) (by omega) (by omega) (by decide) (by decide)
 ·exact key 112 5 4 (by decide) (by decide) (by decide) (by omega) (by omega) (by decide) (by decide)
 ·exact key 120 5 4 (by decide) (by decide) (by decide) (by omega) (by omega) (by decide) (by decide)
 ·exact key 128 4 3 (by decide) (by decide) (by decide) (by omega) (by omega) (by decide) (by decide)
theorem Nd.cd {n:Nd}{W:Nat}(hW:W<=16)(h:∀l∈n.rows,l.length=W):n.bytes.length=(2+4*n.kids.length)*(if n.kids=[] then 0 else 1)+n.rows.length*(aF (W:Int)).toNat:=by
 have hr:=mv hW h
 unfold Nd.bytes
 rw[Kv]
 change _+(cR n.rows).length=_
 rw[hr]
 by_cases hk:n.kids=[]
 ·rw[if_pos hk,if_pos hk];simp
 ·rw[if_neg hk,if_neg hk,K1,K1,fe];omega
structure Nd.my (n:Nd)(W depth above:Nat)(s:Span):Prop where
 leaf:above=0->n.kids=[]
 inner:0<above->n.kids.length=n.rows.length+1/\1<=n.rows.length
 holds:s.holds n.rows=true
 some_:1<depth->n.rows≠[]
 cols:∀l∈n.rows,l.length=W/\bQ l
 kids:∀k∈n.kids,k<4294967296
 fit:n.bytes.length<=504
theorem Nd.my.read {n:Nd}{W depth above:Nat}{s:Span}(hW:W<=16)(h:n.my W depth above s):fJ W depth above s n.ab=some n:=by
 obtain⟨ks,rs⟩:=n
 obtain⟨r1,r2⟩:=wH hW (λl hl=>(h.cols l hl).1) λl hl=>(h.cols l hl).2
 have hok:dy (rs.flatMap dU) W=true:=by
  unfold xT at r2
  cases hq:dy (rs.flatMap dU) W with
  |true=>rfl
  |false=>rw[hq] at r2;simp at r2
 have fin:∀kids,(kids≠[]->rs.length+1=kids.length)->cU W depth s kids (cR rs)=some ⟨kids,rs⟩:=by
  intro kids hk
  unfold cU
  rw[sL,r1,hok]
  rw[if_neg (by
   rintro(q|⟨q1,q2⟩)
   ·cases q
   ·exact q2 (hk q1))]
  rw[if_neg (by
   rintro(q|⟨q1,q2⟩)
   ·rw[h.holds] at q;cases q
   ·exact h.some_ q2 q1)]
 unfold Nd.ab Nd.bytes
 by_cases hk:ks=[]
 ·subst hk
  have ha:above=0:=by
   rcases L9 above with q|q
   ·exact q
   ·have:=(h.inner q).1;simp at this
  simp only[if_pos]
  unfold fJ
  rw[if_pos ⟨rfl,ha⟩]
  exact fin [] (λq=>absurd rfl q)
 ·have ha:0<above:=by
   rcases L9 above with q|q
   ·exact absurd (h.leaf q) hk
   ·exact q
  obtain⟨i1,i2⟩:=h.inner ha
  simp only at i1 i2
  have hfit:=h.fit
  rw[Nd.cd hW λl hl=>(h.cols l hl).1,if_neg hk] at hfit
  simp only at hfit
  have hb:im (Ky (ks.length/256)::Ky ks.length::ks.flatMap qS++cR rs)=ks.length:=by
   have e:∀k:Nat,(Ky k).toNat=k%256:=λk=>My
   show (Ky (ks.length/256)).toNat*256+(Ky ks.length).toNat=_
   rw[e,e];omega
  have hl:(Ky (ks.length/256)::Ky ks.length::ks.flatMap qS++cR rs).length=2+4*ks.length+(cR rs).length:=by
   rw[Kv,K1,K1,fe];omega
  have hd:(Ky (ks.length/256)::Ky ks.length::ks.flatMap qS++cR rs).drop (2+4*ks.length)=cR rs:=by
   rw[<-Oj]
   show ((ks.flatMap qS++cR rs).drop (4*ks.length))=_
   rw[<-fe,Rk]
  have hks:eY (Ky (ks.length/256)::Ky ks.length::ks.flatMap qS++cR rs) ks.length=ks:=by
   unfold eY
   apply NR
   ·simp
   ·intro i h1 h2
    rw[M6,Oa,<-Oj]
    show FV ((ks.flatMap qS++cR rs).drop (4*i))=_
    rw[we h.kids h2,KQ,Kg h2];rfl
  simp only[if_neg hk]
  change fJ W depth above s (4,Ky (ks.length/256)::Ky ks.length::ks.flatMap qS++cR rs)=_
  unfold fJ
  simp only
  rw[if_neg (by rintro⟨q,_⟩;revert q;decide),if_pos ⟨by first|rfl|trivial,ha,by rw[hl];omega⟩,hb,if_neg (by rw[hl];omega),hd,hks]
  exact fin ks (λ_=>i1.symm)
def je (a b:List Int):Prop:=aP a b<0
theorem bM (a:List Int):¬je a a:=by unfold je;rw[yB];omega
theorem bJ {a b c:List Int}(h:je a b)(k:je b c):je a c:=w7 h k
theorem mg (a b:List Int):je a b\/a=b\/je b a:=by
 rcases jr a b with q|q|q
 ·exact .inl (by unfold je;omega)
 ·exact .inr (.inl (fu.1 q))
 ·exact .inr (.inr (uU.1 (by omega)))
theorem HZ {a b c:List Int}(h:¬je b a)(k:je b c):je a c:=by
 rcases mg a b with q|q|q
 ·exact bJ q k
 ·subst q;exact k
 ·exact absurd q h
theorem yF {a b c:List Int}(h:je a b)(k:¬je c b):je a c:=by
 rcases mg b c with q|q|q
 ·exact bJ h q
 ·subst q;exact h
 ·exact absurd q k
theorem Cd {a b:List Int}:aP a b>=0↔¬je a b:=by unfold je;omega
def gS (L:List (List Int)):Prop:=L.Pairwise je
theorem sx {L:List (List Int)}:gR L=true↔gS L:=by
 unfold gS
 rw[ML]
 constructor
 ·intro h i j hi hj hij
  have:=cM h hij hj
  rw[bU hi,bU hj] at this;exact this
 ·intro h
  rw[kE]
  intro i hi
  rw[bU (by omega),bU hi]
  exact h i (i+1) (by omega) hi (by omega)
def Span.Has (s:Span)(l:List Int):Prop:=(∀a,s.low=some a->¬je l a)/\∀a,s.high=some a->je l a
theorem cD {s:Span}{L:List (List Int)}:s.holds L=true↔gS L/\∀l∈L,s.Has l:=by
 constructor
 ·intro h
  have hr:=bx h
  refine⟨sx.1 hr,λl hl=>?_⟩
  obtain⟨i,hi,rfl⟩:=L8.1 hl
  refine⟨λa ha=>?_,λa ha=>?_⟩
  ·have:=qe h ha hi
   rw[bU hi] at this
   exact Cd.1 this
  ·unfold Span.holds at h
   simp only[KD,Lo] at h
   rcases h.2 with q|⟨_,q⟩
   ·have:L=[]:=by simpa using q
    rw[this] at hi;simp at hi
   ·unfold Span.lt at q
    rw[ha] at q
    have q:aP (L.getD (L.length - 1) []) a<0:=by simpa using q
    rw[bU (by omega)] at q
    rcases K8 i (L.length - 1) with u|u
    ·have:=cM hr u (by omega)
     rw[bU hi,bU (by omega)] at this
     exact w7 this q
    ·have:i=L.length - 1:=by omega
     subst this;exact q
 ·rintro⟨h1,h2⟩
  unfold Span.holds
  rw[sx.2 h1,Nz]
  rcases L9 L.length with q|q
  ·rw[KY q];rfl
  ·rw[Lo,KD]
   right
   constructor
   ·unfold Span.ge
    cases hl:s.low with
    |none=>rfl
    |some a=>
      rw[bU q]
      have:=(h2 _ (Kt q)).1 a hl
      simp only[decide_eq_true_eq]
      exact Cd.2 this
   ·unfold Span.lt
    cases hl:s.high with
    |none=>rfl
    |some a=>
      rw[bU (by omega)]
      have:=(h2 _ (Kt (show L.length - 1<L.length by omega))).2 a hl
      simpa[je] using this
def Df (R:Nat->Span->List (List Int)->List Nat->Prop)(s:Span)(n:Nd)(Ls:List (List (List Int)))(Ps:List (List Nat)):Prop:=
 n.kids.length=n.rows.length+1/\Ls.length=n.kids.length/\Ps.length=n.kids.length/\∀i,i<n.kids.length->R (n.kids.getD i 0) (s.of n i) (Ls.getD i []) (Ps.getD i [])
def Tn (x:St)(W depth:Nat):Nat->Nat->Span->List (List Int)->List Nat->Prop
 |0,ab,s,L,P=>∃n,x.node W depth 0 ab s=some n/\n.my W depth 0 s/\L=n.rows/\P=[ab]
 |a+1,ab,s,L,P=>∃n Ls Ps,x.node W depth (a+1) ab s=some n/\n.my W depth (a+1) s/\Df (Tn x W depth a) s n Ls Ps/\L=Ls.flatten/\P=ab::Ps.flatten
def Body (x:St)(W depth:Nat):Nat->Span->Nd->List (List Int)->List Nat->Prop
 |0,_,n,L,Q=>n.kids=[]/\L=n.rows/\Q=[]
 |a+1,s,n,L,Q=>∃Ls Ps,Df (Tn x W depth a) s n Ls Ps/\L=Ls.flatten/\Q=Ps.flatten
theorem BM {x:St}{W depth a ab:Nat}{s:Span}{L:List (List Int)}{P:List Nat}:Tn x W depth a ab s L P↔∃n Q,x.node W depth a ab s=some n/\n.my W depth a s/\Body x W depth a s n L Q/\P=ab::Q:=by
 cases a with
 |zero=>
   constructor
   ·rintro⟨n,h1,h2,h3,h4⟩
    exact⟨n,[],h1,h2,⟨h2.leaf rfl,h3,rfl⟩,h4⟩
   ·rintro⟨n,Q,h1,h2,⟨_,h3,h4⟩,h5⟩
    exact⟨n,h1,h2,h3,by rw[h5,h4]⟩
 |succ a=>
   constructor
   ·rintro⟨n,Ls,Ps,h1,h2,h3,h4,h5⟩
    exact⟨n,_,h1,h2,⟨Ls,Ps,h3,h4,rfl⟩,h5⟩
   ·rintro⟨n,Q,h1,h2,⟨Ls,Ps,h3,h4,h5⟩,h6⟩
    exact⟨n,Ls,Ps,h1,h2,h3,h4,by rw[h6,h5]⟩
section
variable {x x':St}{W depth:Nat}
theorem Tn.ab {a ab:Nat}{s:Span}{L:List (List Int)}{P:List Nat}(h:Tn x W depth a ab s L P):ab∈P/\ab<x.N:=by
 obtain⟨n,Q,h1,_,_,h4⟩:=BM.1 h
 refine⟨by rw[h4];exact Kw,?_⟩
 unfold St.node at h1
 split at h1
 ·assumption
 ·cases h1
theorem k0 {a ab:Nat}{s:Span}{w:Int}(hN:x.N<=x'.N)(hp:x'.T ab=x.T ab){n:Nd}(h:x.node w depth a ab s=some n):x'.node w depth a ab s=some n:=by
 unfold St.node at h ⊢
 split at h
 ·rw[if_pos (by omega),hp];exact h
 ·cases h
theorem mz {α:Type}{Ls:List (List α)}{i:Nat}{a:α}(h:a∈Ls.getD i []):a∈Ls.flatten:=by
 by_cases hi:i<Ls.length
 ·rw[KQ,Kg hi] at h
  exact Oz.2 ⟨_,Kt hi,h⟩
 ·rw[KQ,Mh (by omega)] at h
  cases h
theorem Tn.congr:∀{a ab:Nat} {s:Span} {L:List (List Int)} {P:List Nat},Tn x W depth a ab s L P->x.N<=x'.N->(∀p∈P,x'.T p=x.T p)->Tn x' W depth a ab s L P
 |0,ab,s,L,P,⟨n,h1,h2,h3,h4⟩,hN,hp=>⟨n,k0 hN (hp ab (by rw[h4];exact Kw)) h1,h2,h3,h4⟩
 |a+1,ab,s,L,P,⟨n,Ls,Ps,h1,h2,h3,h4,h5⟩,hN,hp=>⟨n,Ls,Ps,k0 hN (hp ab (by rw[h5];exact Kw)) h1,h2,
     ⟨h3.1,h3.2.1,h3.2.2.1,λi hi=>Tn.congr (h3.2.2.2 i hi) hN λp hpm=>hp p (by rw[h5];exact KO _ (mz hpm))⟩,h4,h5⟩
theorem Cr {s:Span}{n:Nd}{i:Nat}{l:List Int}(hn:s.holds n.rows=true)(hi:i<=n.rows.length)(h:(s.of n i).Has l):s.Has l:=by
 obtain⟨h1,h2⟩:=cD.1 hn
 refine⟨λa ha=>?_,λa ha=>?_⟩
 ·by_cases h0:0<i
  ·have e:(s.of n i).low=some (n.rows.getD (i - 1) []):=if_pos h0
   have h3:=h.1 _ e
   have h4:=(h2 (n.rows.getD (i - 1) []) (by rw[bU (by omega)];exact Kt _)).1 a ha
   intro q
   exact h3 (yF q h4)
  ·have e:(s.of n i).low=s.low:=if_neg h0
   exact h.1 a (e.trans ha)
 ·by_cases h0:i<n.rows.length
  ·have e:(s.of n i).high=some (n.rows.getD i []):=if_pos h0
   have h3:=h.2 _ e
   have h4:=(h2 (n.rows.getD i []) (by rw[bU h0];exact Kt _)).2 a ha
   exact bJ h3 h4
  ·have e:(s.of n i).high=s.high:=if_neg h0
   exact h.2 a (e.trans ha)
theorem oR {s:Span}{n:Nd}{i j:Nat}{a b:List Int}(hn:s.holds n.rows=true)(hij:i<j)(hj:j<=n.rows.length)(ha:(s.of n i).Has a)(hb:(s.of n j).Has b):je a b:=by
 have e1:(s.of n i).high=some (n.rows.getD i []):=if_pos (by omega)
 have e2:(s.of n j).low=some (n.rows.getD (j - 1) []):=if_pos (by omega)
 have h1:=ha.2 _ e1
 have h2:=hb.1 _ e2
 have hr:=bx hn
 rcases K8 i (j - 1) with q|q
 ·exact yF (bJ h1 (cM hr q (by omega))) h2
 ·have:j - 1=i:=by omega
  rw[this] at h2
  exact yF h1 h2
theorem BO {Ls:List (List (List Int))}(h1:∀i,i<Ls.length->gS (Ls.getD i []))(h2:∀i j,i<j->j<Ls.length->∀a∈Ls.getD i [],∀b∈Ls.getD j [],je a b):gS Ls.flatten:=by
 unfold gS
 rw[List.pairwise_flatten]
 refine⟨λl hl=>?_,?_⟩
 ·obtain⟨i,hi,rfl⟩:=L8.1 hl
  have:=h1 i hi
  rwa [KQ,Kg hi] at this
 ·rw[ML]
  intro i j hi hj hij a ha b hb
  refine h2 i j hij hj a ?_ b ?_
  ·rw[KQ,Kg hi];exact ha
  ·rw[KQ,Kg hj];exact hb
theorem kH {α:Type}{Ls:List (List α)}{a:α}(h:a∈Ls.flatten):∃i,i<Ls.length/\a∈Ls.getD i []:=by
 obtain⟨l,hl,ha⟩:=Oz.1 h
 obtain⟨i,hi,rfl⟩:=L8.1 hl
 exact⟨i,hi,by rw[KQ,Kg hi];exact ha⟩
theorem Tn.rows:∀{a ab:Nat} {s:Span} {L:List (List Int)} {P:List Nat},Tn x W depth a ab s L P->gS L/\∀l∈L,s.Has l/\l.length=W/\bQ l
 |0,ab,s,L,P,⟨n,h1,h2,h3,h4⟩=>by
   subst h3
   obtain⟨q1,q2⟩:=cD.1 h2.holds
   exact⟨q1,λl hl=>⟨q2 l hl,h2.cols l hl⟩⟩
 |a+1,ab,s,L,P,⟨n,Ls,Ps,h1,h2,⟨k1,k2,k3,k4⟩,h4,h5⟩=>by
   subst h4
   have ih:∀i,i<n.kids.length->_:=λi hi=>Tn.rows (k4 i hi)
   refine⟨BO (λi hi=>(ih i (by omega)).1) λi j hij hj a ha b hb=>?_,λl hl=>?_⟩
   ·exact oR h2.holds hij (by omega) ((ih i (by omega)).2 a ha).1 ((ih j (by omega)).2 b hb).1
   ·obtain⟨i,hi,hm⟩:=kH hl
    have:=(ih i (by omega)).2 l hm
    exact⟨Cr h2.holds (by omega) this.1,this.2⟩
theorem pX:∀{Ps:List (List Nat)} {Ls:List (List (List Int))} {m:Nat},Ps.length=Ls.length->(∀i,i<Ps.length->(Ps.getD i []).length+1<=2*(Ls.getD i []).length/\m<=(Ls.getD i []).length)->Ps.flatten.length+Ps.length<=2*Ls.flatten.length/\Ls.length*m<=Ls.flatten.length
 |[],[],m,_,_=>by simp
 |[],_::_,_,h,_=>by simp at h
 |_::_,[],_,h,_=>by simp at h
 |P::Ps,L::Ls,m,h,hk=>by
   have h0:=hk 0 (by simp)
   have ih:=pX (Ps:=Ps) (Ls:=Ls) (m:=m) (by simpa using h) λi hi=>by simpa using hk (i+1) (by simpa using hi)
   simp only[PA] at h0
   simp only[MH,Kv,K1,MZ]
   omega
theorem Tn.AR (hd:1<depth):∀{a ab:Nat} {s:Span} {L:List (List Int)} {P:List Nat},Tn x W depth a ab s L P->P.length+1<=2*L.length/\2^a<=L.length
 |0,ab,s,L,P,⟨n,h1,h2,h3,h4⟩=>by
   subst h3;subst h4
   have:=MX.2 (h2.some_ hd)
   simp;omega
 |a+1,ab,s,L,P,⟨n,Ls,Ps,h1,h2,⟨k1,k2,k3,k4⟩,h4,h5⟩=>by
   subst h4;subst h5
   have i2:=(h2.inner (Om _)).2
   obtain⟨q1,q2⟩:=pX (Ps:=Ps) (Ls:=Ls) (m:=2^a) (by omega) λi hi=>Tn.AR hd (k4 i (by omega))
   have q3:2*2^a<=Ls.length*2^a:=Nat.mul_le_mul_right _ (by omega)
   rw[K1,Nat.pow_succ]
   omega
end
def pq (low:List Int)(strict:Bool)(r:List Int):Bool:=if strict then decide (aP low r<0) else !decide (aP r low<0)
theorem lT {low r:List Int}{strict:Bool}(h:je r low):pq low strict r=false:=by
 unfold pq
 cases strict with
 |true=>
   have:¬aP low r<0:=λq=>bM r (bJ h q)
   simpa using this
 | false => have : aP r low < 0 := h
            simp[this]
theorem pP {low r:List Int}{strict:Bool}(h:je low r):pq low strict r=true:=by
 unfold pq
 cases strict with
 | true => have : aP low r < 0 := h
           simp[this]
 |false=>
   have:¬aP r low<0:=λq=>bM r (bJ q h)
   simpa using this
theorem head_drop {p:List Int->Bool}:∀{l:List (List Int)} {j:Nat},j<=l.length->(∀i,i<j->p (l.getD i [])=false)->(∀i,j<=i->i<l.length->p (l.getD i [])=true)->l.filter p=l.drop j
 |[],j,h,_,_=>by simp
 |a::l,0,_,_,h3=>by
   have h0:=h3 0 (Kl _) (by simp)
   have ih:=head_drop (p:=p) (l:=l) (j:=0) (KU _) (λi hi=>by omega) λi _ hi=>by simpa using h3 (i+1) (by omega) (by simpa using hi)
   simp only[PA] at h0
   rw[MN,h0,if_pos rfl,ih];rfl
 |a::l,j+1,h,h2,h3=>by
   have h0:=h2 0 (by omega)
   simp only[PA] at h0
   have ih:=head_drop (p:=p) (l:=l) (j:=j) (by simpa using h) (λi hi=>by simpa using h2 (i+1) (by omega)) λi hi hl=>by simpa using h3 (i+1) (by omega) (by simpa using hl)
   rw[MN,h0,if_neg (by simp),ih];rfl
theorem yP {rows:List (List Int)}{low:List Int}{strict:Bool}(h:gR rows=true):jz rows low strict=(rows.filter (pq low strict)).head?:=by
 have hb:=gF low rows
 have key:∀j:Nat,below low rows+(if sameAt rows low&&strict then 1 else 0)=j->rows.filter (pq low strict)=rows.drop j:=by
  intro j hj
  refine head_drop ?_ (λi hi=>?_) λi hi hl=>?_
  ·cases hs:sameAt rows low with
   |false=>rw[hs] at hj;simp at hj;omega
   |true=>
     have:=(bV.1 hs).1
     split at hj<;>omega
  ·by_cases q:i<below low rows
   ·exact lT (j3 q)
   ·cases hs:sameAt rows low with
    |false=>rw[hs] at hj;simp at hj;omega
    |true=>
      cases hst:strict with
      |false=>rw[hs,hst] at hj;simp at hj;omega
      |true=>
        rw[hs,hst] at hj
        have hib:i=below low rows:=by simp at hj;omega
        rw[hib,(bV.1 hs).2]
        unfold pq
        have:¬aP low low<0:=bM low
        simpa using this
  ·have hbi:below low rows<=i:=by omega
   have h1:¬je (rows.getD i []) low:=by
    intro q
    rcases K8 (below low rows) i with u|u
    ·have:=o7 h low (below low rows) i (by omega) hl q
     exact jZ (ll:=low) (ls:=rows) (by omega) this
    ·have:i=below low rows:=by omega
     rw[this] at q
     exact jZ (ll:=low) (ls:=rows) (by omega) q
   cases hst:strict with
   |false=>
     unfold pq
     have:¬aP (rows.getD i []) low<0:=h1
     simpa using this
   |true=>
     refine pP ?_
     rcases mg low (rows.getD i []) with u|u|u
     ·exact u
     ·exfalso
      cases hs:sameAt rows low with
      |true=>
        rw[hs,hst] at hj
        have hlt:below low rows<i:=by simp at hj;omega
        have:=cM h hlt hl
        rw[(bV.1 hs).2,<-u] at this
        exact bM low this
      |false=>
        rcases K8 (below low rows) i with v|v
        ·have:=cM h v hl
         rw[<-u] at this
         exact jZ (ll:=low) (ls:=rows) (by omega) this
        ·have e:i=below low rows:=by omega
         have:=(bV (ls:=rows) (l:=low)).2 ⟨by omega,by rw[<-e];exact u.symm⟩
         rw[this] at hs;cases hs
     ·exact absurd u h1
 unfold jz
 rw[key _ rfl,List.head?_drop]
theorem vi {f:Nat->Nat×Option (Option (List Int))}{p:List Int->Bool}{Ls:List (List (List Int))}:∀(k i:Nat),i+k=Ls.length->(∀j,i<=j->j<Ls.length->(f j).2=some (((Ls.getD j []).filter p).head?))->(jX f i k).2=some (((Ls.drop i).flatten.filter p).head?)
 |0,i,h,_=>by
   unfold jX
   rw[Lz (by omega)];rfl
 |k+1,i,h,hf=>by
   have h0:=hf i (Kl _) (by omega)
   have ed:Ls.drop i=Ls.getD i []::Ls.drop (i+1):=by
    rw[List.drop_eq_getElem_cons (by omega),KQ,Kg (by omega)];rfl
   rw[ed,MH,LI,List.head?_append]
   by_cases hn:(f i).2=some none
   ·rw[zf hn,vi k (i+1) (by omega) λj hj hl=>hf j (by omega) hl]
    rw[h0] at hn
    have:((Ls.getD i []).filter p).head?=none:=by simpa using hn
    rw[this];rfl
   ·rw[zw hn,h0]
    rw[h0] at hn
    cases hq:((Ls.getD i []).filter p).head? with
    |none=>rw[hq] at hn;exact absurd rfl hn
    |some y=>rfl
theorem Tn.find {x:St}{W depth:Nat}{low:List Int}{strict:Bool}:∀{a ab:Nat} {s:Span} {L:List (List Int)} {P:List Nat},Tn x W depth a ab s L P->(x.find W depth low strict a ab s).2=some ((L.filter (pq low strict)).head?)
 |0,ab,s,L,P,⟨n,h1,h2,h3,h4⟩=>by
   unfold St.find
   rw[h1,h3]
   show some (jz n.rows low strict)=_
   rw[yP (bx h2.holds)]
 |a+1,ab,s,L,P,⟨n,Ls,Ps,h1,h2,⟨k1,k2,k3,k4⟩,h4,h5⟩=>by
   unfold St.find
   rw[h1]
   show (jX _ _ _).2=_
   have hc:=iO (n:=n) (l:=low)
   have hr:=bx h2.holds
   rw[vi (p:=pq low strict) (Ls:=Ls) (n.kids.length - n.child low) (n.child low) (by omega) λj hj hl=>Tn.find (k4 j (by omega)),h4]
   have ed:Ls.flatten=(Ls.take (n.child low)).flatten++(Ls.drop (n.child low)).flatten:=by rw[<-List.flatten_append,LW]
   rw[ed,LI]
   have e0:((Ls.take (n.child low)).flatten).filter (pq low strict)=[]:=by
    rw[List.filter_eq_nil_iff]
    intro y hy
    obtain⟨i,hi,hm⟩:=kH hy
    rw[KF] at hi
    have hm:y∈Ls.getD i []:=by
     rw[KQ,List.getElem?_take,if_pos (by omega)] at hm
     exact hm
    have hy:=((k4 i (by omega)).rows.2 y hm).1
    have e1:(s.of n i).high=some (n.rows.getD i []):=if_pos (by omega)
    have h6:=hy.2 _ e1
    have h7:¬je low (n.rows.getD i []):=by
     intro q
     by_cases hb:i<below low n.rows
     ·exact bM low (bJ q (j3 hb))
     ·have hci:i<n.child low:=by omega
      unfold Nd.child at hci
      split at hci
      ·rename_i hs
       obtain⟨s1,s2⟩:=bV.1 hs
       have:i=below low n.rows:=by omega
       rw[this,s2] at q
       exact bM low q
      ·omega
    rw[lT (yF h6 h7)];simp
   rw[e0];rfl
open Go.MapKept
theorem D8 (n k:Nat)(hk:k<=64):aZ .i64 (n:Int) (k:Int)=((n/2^k:Nat):Int):=by
 unfold aZ
 have:min (k:Int).toNat Ke.bits=k:=by
  show min (k:Int).toNat 64=k
  omega
 rw[this,M4 _ (Int.pow_nonneg (by decide)),Int.natCast_ediv,QT]
 rfl
theorem IB {k r b:Nat}(hb:b<2^k)(h:2^k*r+b<9223372036854775808):kO .i64 ((2^k*r:Nat):Int) (b:Int)=((2^k*r+b:Nat):Int):=by
 unfold kO
 have hor:=Nat.two_pow_add_eq_or_of_lt (i:=k) (b:=b) hb r
 have hb64:Ke.bits=64:=rfl
 have e3:(Mc Ke.bits ((2^k*r:Nat):Int)|||Mc Ke.bits ((b:Nat):Int)).toNat=2^k*r+b:=by
  rw[MS,MS,BitVec.toNat_or,Mm,Mm,hb64,NO (by omega),NO (by omega)]
  exact hor.symm
 rw[e3]
 exact wrap64 (by omega) (by omega)
theorem DB {x k:Nat}(hk:k<=24)(hx:x<256):dw .i64 (Ke.wrap (x:Int)) (k:Int)=((2^k*x:Nat):Int):=by
 unfold dw
 have:min (k:Int).toNat Ke.bits=k:=by
  show min (k:Int).toNat 64=k
  omega
 have hp:2^k<=2^24:=Nat.pow_le_pow_right (by decide) hk
 have hm:2^k*x<=2^24*255:=Nat.mul_le_mul hp (by omega)
 have e1:((x:Int)*2^k)=((2^k*x:Nat):Int):=by rw[Int.natCast_mul,QT,Int.mul_comm];rfl
 rw[this,wrap64 (x:=(x:Int)) (by omega) (by omega),e1]
 exact wrap64 (by omega) (by omega)
theorem CW {a b c d:Nat}(ha:a<256)(hb:b<256)(hc:c<256)(hd:d<256):
  kO .i64 (kO .i64 (kO .i64 (dw .i64 (Ke.wrap (a:Int)) 24) (dw .i64 (Ke.wrap (b:Int)) 16)) (dw .i64 (Ke.wrap (c:Int)) 8)) (Ke.wrap (d:Int))=((((a*256+b)*256+c)*256+d:Nat):Int):=by
 have s1:=DB (k:=24) (by decide) ha
 have s2:=DB (k:=16) (by decide) hb
 have s3:=DB (k:=8) (by decide) hc
 have s4:Ke.wrap (d:Int)=(d:Int):=wrap64 (by omega) (by omega)
 have h24:(2:Nat)^24=16777216:=by decide
 have h16:(2:Nat)^16=65536:=by decide
 have h8:(2:Nat)^8=256:=by decide
 rw[h24] at s1;rw[h16] at s2;rw[h8] at s3
 rw[show ((24:Int))=((24:Nat):Int) from rfl,show ((16:Int))=((16:Nat):Int) from rfl,show ((8:Int))=((8:Nat):Int) from rfl,s1,s2,s3,s4]
 have o1:=IB (k:=24) (r:=a) (b:=65536*b) (by rw[h24];omega) (by rw[h24];omega)
 rw[h24] at o1
 rw[o1]
 have o2:=IB (k:=16) (r:=256*a+b) (b:=256*c) (by rw[h16];omega) (by rw[h16];omega)
 rw[h16] at o2
 rw[show (16777216*a+65536*b:Nat)=65536*(256*a+b) by omega,o2]
 have o3:=IB (k:=8) (r:=65536*a+256*b+c) (b:=d) (by rw[h8];omega) (by rw[h8];omega)
 rw[h8] at o3
 rw[show (65536*(256*a+b)+256*c:Nat)=256*(65536*a+256*b+c) by omega,o3]
 congr 1
 omega
theorem DZ {a b:Nat}(ha:a<256)(hb:b<256):kO .i64 (dw .i64 (Ke.wrap (a:Int)) 8) (Ke.wrap (b:Int))=((a*256+b:Nat):Int):=by
 have h8:(2:Nat)^8=256:=by decide
 have s1:=DB (k:=8) (by decide) ha
 rw[h8] at s1
 have o3:=IB (k:=8) (r:=a) (b:=b) (by rw[h8];omega) (by rw[h8];omega)
 rw[h8] at o3
 rw[show ((8:Int))=((8:Nat):Int) from rfl,s1,wrap64 (x:=(b:Int)) (by omega) (by omega),o3]
 congr 1;omega
theorem Aa (b:List UInt8)(i:Nat):(dz b).getD i 0=((b.getD i 0).toNat:Int):=by
 unfold dz
 simp only[KQ,KC]
 cases b[i]?<;>rfl
theorem xU {sl:Sl}{b:List UInt8}{H:aa}{K:Int->aa->Prop}(h:cG H sl b)(hl:4<=b.length)(hK:K (FV b:Int) H):Gh.sp sl H K:=by
 refine Gh.of ?_
 unfold Gh.vc
 have hu:(dz b).length=b.length:=dN b
 refine bB h (j:=0) rfl (by omega) λad0 a0=>?_
 refine bB h (j:=1) rfl (by omega) λad1 a1=>?_
 refine bB h (j:=2) rfl (by omega) λad2 a2=>?_
 refine bB h (j:=3) rfl (by omega) λad3 a3=>?_
 rw[Aa,Aa,Aa,Aa,CW (On _) (On _) (On _) (On _)]
 exact hK
theorem nf {n:Nat}{H:aa}{K:Sl->aa->Prop}(hK:∀p H',cG H' ⟨some p,4,4⟩ (qS n)->Ext H H'->p.block=H.size->K ⟨some p,4,4⟩ H'):C5.sp (n:Int) H K:=by
 refine C5.of ?_
 unfold C5.vc
 have e24:aZ .i64 (n:Int) 24=((n/16777216:Nat):Int):=D8 n 24 (by decide)
 have e16:aZ .i64 (n:Int) 16=((n/65536:Nat):Int):=D8 n 16 (by decide)
 have e8:aZ .i64 (n:Int) 8=((n/256:Nat):Int):=D8 n 8 (by decide)
 rw[e24,e16,e8,jF,jF,jF,jF]
 have ev:#[Km .u8 ((Ky (n/16777216)).toNat:Int),Km .u8 ((Ky (n/65536)).toNat:Int),Km .u8 ((Ky (n/256)).toNat:Int),Km .u8 ((Ky n).toNat:Int)]=((dz (qS n)).map (Km .u8)).toArray:=rfl
 rw[ev]
 exact iG _ λp H' z q a e=>hK p H' (a 4) e q
structure Tr where
 name:ByteArray
 width:Int
 root:Int
 depth:Int
 count:Int
 wrong:Int
 gone:Bool
def j4 (p:Nat)(t:Tr):List Value:=[.pointer (aD p),.string t.name,.int .i64 t.width,.int .i64 t.root,.int .i64 t.depth,.int .i64 t.count,.int .i64 t.wrong,.bool t.gone]
abbrev aR (H:aa)(k p:Nat)(t:Tr):Prop:=ag H k IW (j4 p t).toArray
section
variable {H:aa}{k p dp:Nat}{t:Tr}{F:Nat->Prop}{s:Pl}{n:ByteArray}{q:Nat}{I:Pl->St->Nat->Prop}{B C:Pl->Int->Prop}{x:St}{m:Nat}
set_option maxHeartbeats 1000000 in
theorem zi {g:Int}{K:(Int×Sl×Int)->aa->Prop}(hg:Gl H)(h:aR H k p t)(hp:an F H p dp s)(hk:¬F k)(hg0:0<=g/\g<=9223372036854775807)
  (hn:t.name.size<=9223372036854775807) (hlogs:s.d.bf<68719470000) (hnx:s.next<1099511627776) (h0:0<=s.next)
  (hK:∀F' H' sl,an F' H' p dp (s.look t.name g).1->Step F F' H H'->cw EB kN H' sl (s.look t.name g).2.2.1->(∀q,ai sl q->H.size<=q/\¬F' q)->K (((s.look t.name g).2.1.toNat:Int),sl,(s.look t.name g).2.2.2) H'):EM.sp (aD k) g H K:=by
 have hkl:=aG h
 refine EM.of ?_
 unfold EM.vc
 simp only[aq,aD]
 refine ag.ld (c:=au) (i:=0) (x:=aD p) h rfl ?_
 refine ag.ld (c:=cX) (i:=1) (x:=t.name) h rfl ?_
 refine xf hg hp hn (by omega) hg0.2 (by omega) (by omega) λF1 H1 p1 S1=>?_
 have hg1:Gl H1:=hg.mod S1.mod hp.du
 have h1:aR H1 k p t:=h.mod S1.mod hk
 have hnx1:(s.bR t.name g).1.next<=s.next+1:=s.qk h0 hnx
 unfold Pl.look at hK
 generalize hs1:(s.bR t.name g).1=s1 at*
 generalize hr:(s.bR t.name g).2.1=hd at*
 generalize he:(s.bR t.name g).2.2=e at*
 refine ak (λhc=>?_) (λhc=>?_)
 ·have e0:e≠0:=by simpa using hc
  rw[if_pos e0] at hK
  exact hK F1 H1 _ p1 S1 (cw.nil _ _ _) (λq ⟨ad,ha,_⟩=>by cases ha)
 ·have e0:¬e≠0:=by simpa using hc
  rw[if_neg e0] at hK
  refine ag.ld (c:=au) (i:=0) (x:=aD p) h1 rfl ?_
  refine Gs p1 λsl H2 o2 e2 f2=>?_
  have p2:=p1.ext e2
  have hg2:Gl H2:=hg1.mod e2 id
  have h2:aR H2 k p t:=h1.ext e2
  have S2:Step F F1 H H2:=S1.trans ⟨e2.mod,λb hb=>.inl hb⟩
  have hz1:=S1.mod.size
  generalize hs2:s1.get hd=r at*
  refine ak (λhc2=>?_) (λhc2=>?_)
  ·have e3:¬r.2.2≠0:=by simpa using hc2
   rw[if_neg e3] at hK
   refine ag.ld (c:=au) (i:=0) (x:=aD p) h2 rfl ?_
   refine pO hg2 p2 (by omega) λF3 H3 p3 S3=>?_
   have hlt:=o2.lt
   refine hK F3 H3 sl p3 (S2.trans S3) (o2.aA λq hq hl=>S3.mod.same q hl λr=>by have:=p1.lt q r;have:=f2 q hq;omega) (λq hq=>?_)
   have q1:=f2 q hq
   refine⟨by omega,λr=>?_⟩
   rcases S3.own q r with r|r
   ·have:=p1.lt q r;omega
   ·have:=hlt q hq;omega
  ·have e3:r.2.2≠0:=by simpa using hc2
   rw[if_pos e3] at hK
   refine hK F1 H2 sl p2 S2 o2 (λq hq=>?_)
   have q1:=f2 q hq
   exact⟨by omega,λr=>by have:=p1.lt q r;omega⟩
theorem Bs {g:Nat}{K:(Int×Sl×Int)->aa->Prop}(S:ib t.name q I B C)(hI:I s x m)(hm:m<30000000000)(hg:Gl H)(h:aR H k p t)(hp:an F H p dp s)(hk:¬F k)(hg0:g<=1000000000000)
  (hK1:g<x.N->∀F' H' s' sl,an F' H' p dp s'->Step F F' H H'->I s' x (m+1)->cw EB kN H' sl (x.T g).2->(∀q,ai sl q->H.size<=q/\¬F' q)->K (((x.T g).1.toNat:Int),sl,0) H')
  (hK2:x.N<=g->∀F' H' s' v sl,an F' H' p dp s'->Step F F' H H'->I s' x (m+1)->K (v,sl,12) H')
  (hK3:∀F' H' s' v sl e,an F' H' p dp s'->Step F F' H H'->C s' e->K (v,sl,e) H'):EM.sp (aD k) (g:Int) H K:=by
 obtain⟨b1,b2,b3,b4,b5,b6⟩:=S.pre hI
 refine zi hg h hp hk (by omega) S.name (by omega) (by omega) b2 λF' H' sl p1 S1 o1 f1=>?_
 rcases K8 g x.N with hgn|hgn
 ·rcases S.look hI hm hgn with ⟨e,hI'⟩|hC
  ·rw[e] at o1 ⊢
   exact hK1 hgn F' H' _ sl p1 S1 hI' o1 f1
  ·exact hK3 F' H' _ _ sl _ p1 S1 hC
 ·rcases S.IH hI hm hgn with ⟨e,hI'⟩|hC
  ·rw[e]
   exact hK2 hgn F' H' _ _ sl p1 S1 hI'
  ·exact hK3 F' H' _ _ sl _ p1 S1 hC
end
theorem IP {i j:Nat}(h:i+j<4611686018427387904):Ke.wrap (aZ .u64 (K7.wrap (Ke.wrap ((i:Int)+(j:Int)))) 1)=(((i+j)/2:Nat):Int):=by
 have e1:Ke.wrap ((i:Int)+(j:Int))=((i+j:Nat):Int):=by rw[wrap64 (by omega) (by omega)];omega
 have e2:K7.wrap ((i+j:Nat):Int)=((i+j:Nat):Int):=by rw[OE];omega
 rw[e1,e2]
 have e3:aZ .u64 ((i+j:Nat):Int) 1=(((i+j)/2:Nat):Int):=by
  unfold aZ
  rw[show (min (1:Int).toNat K7.bits)=1 from rfl,M4 _ (by decide)]
  rfl
 rw[e3,wrap64 (by omega) (by omega)]
def fL (F:Nat->Prop)(H:aa)(s:Sl):Prop:=∀ad,s.a=some ad->ad.block<H.size/\¬F ad.block
theorem fL.step {F F':Nat->Prop}{H H':aa}{s:Sl}(h:fL F H s)(S:Step F F' H H'):fL F' H' s:=λad ha=>by
 obtain⟨h1,h2⟩:=h ad ha
 refine⟨Nat.lt_of_lt_of_le h1 S.mod.size,λq=>?_⟩
 rcases S.own _ q with r|r
 ·exact h2 r
 ·omega
theorem Step.bp {F:Nat->Prop}{H H':aa}(e:Ext H H'):Step F F H H':=⟨e.mod,λ_ h=>.inl h⟩
theorem Step.with {F F':Nat->Prop}{H H':aa}(S:Step F F' H H')(nb:Nat):Step (λb=>F b\/b=nb) (λb=>F' b\/b=nb) H H':=
 ⟨S.mod.mono λ_ _ h=>.inl h,λb hb=>by
  rcases hb with q|q
  ·exact(S.own b q).imp .inl id
  ·exact .inl (.inr q)⟩
theorem fL.ints {F F':Nat->Prop}{H H':aa}{s:Sl}{k:IntKind}{l:List Int}(h:fL F H s)(hi:Ints k H s l)(S:Step F F' H H'):Ints k H' s l:=hi.mod S.mod λad ha=>(h ad ha).2
theorem fL.mono {F G:Nat->Prop}{H:aa}{s:Sl}(h:fL F H s)(hs:∀b,b<H.size->G b->F b):fL G H s:=λad ha=>⟨(h ad ha).1,λq=>(h ad ha).2 (hs _ (h ad ha).1 q)⟩
def qz (F:Nat->Prop)(H:aa)(s:Sl)(l:List Int):Prop:=l≠[]->fL F H s
theorem fL.Jv {F:Nat->Prop}{H:aa}{s:Sl}(h:fL F H s)(l:List Int):qz F H s l:=λ_=>h
theorem qz.step {F F':Nat->Prop}{H H':aa}{s:Sl}{l:List Int}(h:qz F H s l)(S:Step F F' H H'):qz F' H' s l:=λu=>(h u).step S
theorem qz.ints {F F':Nat->Prop}{H H':aa}{s:Sl}{k:IntKind}{l:List Int}(h:qz F H s l)(hi:Ints k H s l)(S:Step F F' H H'):Ints k H' s l:=by
 by_cases e:l=[]
 ·subst e;exact⟨hi.len,Reads.nil _ _⟩
 ·exact(h e).ints hi S
structure cJ (F:Nat->Prop)(H:aa)(s:Sl)(ls:List (List Int)):Prop where
 len:s.n=ls.length
 off:fL F H s
 at':∀i (h:i<ls.length),∃ad r,s.a=some ad/\bI H (ad.add i)=some (Sl.v r)/\fL F H r/\Ints .u64 H r ls[i]
theorem cJ.step {F F':Nat->Prop}{H H':aa}{s:Sl}{ls:List (List Int)}(h:cJ F H s ls)(S:Step F F' H H'):cJ F' H' s ls:=⟨h.len,h.off.step S,λi hi=>by
 obtain⟨ad,r,q1,q2,q4,q5⟩:=h.at' i hi
 exact⟨ad,r,q1,S.mod.cell q2 (by rw[bO];exact(h.off ad q1).2),q4.step S,q4.ints q5 S⟩⟩
theorem cJ.mono {F G:Nat->Prop}{H:aa}{s:Sl}{ls:List (List Int)}(h:cJ F H s ls)(hs:∀b,b<H.size->G b->F b):cJ G H s ls:=⟨h.len,h.off.mono hs,λi hi=>by
 obtain⟨ad,r,q1,q2,q4,q5⟩:=h.at' i hi
 exact⟨ad,r,q1,q2,q4.mono hs,q5⟩⟩
theorem bl.Io {F:Nat->Prop}{H:aa}{base:Nat}{s:Sl}{rs:List Sl}{ls:List (List Int)}(h:bl H base s rs ls)(hF:∀b,base<=b->¬F b):cJ F H s ls:=by
 obtain⟨b1,b2⟩:=h.block
 refine⟨h.n,λad ha=>?_,λi hi=>?_⟩
 ·have:=b1 _ ⟨ad,ha,rfl⟩
  exact⟨this.2,hF _ this.1⟩
 ·have hir:i<rs.length:=by rw[h.len];exact hi
  obtain⟨ad,ha,hc⟩:=h.out.reads.at (i:=i) (by simpa using hir)
  exact⟨ad,rs[i],ha,by simpa using hc,λad' ha'=>by
   have:=b2 _ (Kt hir) _ ⟨ad',ha',rfl⟩
   exact⟨this.2,hF _ this.1⟩,(h.row i _ _ (Kg hir) (Kg hi)).ints⟩
theorem cJ.ld {F:Nat->Prop}{H:aa}{s:Sl}{ls:List (List Int)}(h:cJ F H s ls){i:Nat}(hi:i<ls.length){K:Addr->Sl->Prop}(hK:∀ad r,s.a=some ad->fL F H r->Ints .u64 H r (ls.getD i [])->K ad r):
  ae s.a λa=>(0<=(i:Int)/\(i:Int)<(s.n:Int))/\ld ao H (a.add ((i:Int).toNat*1)) λx=>K a x:=by
 obtain⟨ad,r,e,hc,ho,hr⟩:=h.at' i hi
 rw[bU hi] at hK
 refine cg ad e ⟨⟨by omega,by rw[h.len];omega⟩,r,?_,hK ad r e ho hr⟩
 simp only[KI,Ld]
 exact hc
theorem cJ.Jq {F:Nat->Prop}{H A:aa}{s:Sl}{ls:List (List Int)}(h:cJ F H s ls)(e':Ext H A){i:Nat}(hi:i<ls.length){K:Addr->Sl->Prop}(hK:∀ad r,s.a=some ad->bI H (ad.add i)=some (Sl.v r)->fL F H r->Ints .u64 H r (ls.getD i [])->K ad r):
  ae s.a λa=>(0<=(i:Int)/\(i:Int)<(s.n:Int))/\Go.Proofs.YtkehfflpbpdokaaGreatDoor.ld ao A (a.add ((i:Int).toNat*1)) λx=>K a x:=by
 obtain⟨ad,r,e,hc,ho,hr⟩:=h.at' i hi
 rw[bU hi] at hK
 refine cg ad e ⟨⟨by omega,by rw[h.len];omega⟩,r,?_,hK ad r e hc ho hr⟩
 simp only[KI,Ld]
 exact e'.cell hc id
def kj (F:Nat->Prop)(H:aa)(a:Sl)(o:Option (List Int)):Prop:=match o with|none=>a.a=none|some l=>a.a≠none/\fL F H a/\Ints .u64 H a l
structure dQ (F:Nat->Prop)(H:aa)(a b:Sl)(sp:Span):Prop where
 low:kj F H a sp.low
 high:kj F H b sp.high
theorem kj.step {F F':Nat->Prop}{H H':aa}{a:Sl}{o:Option (List Int)}(h:kj F H a o)(S:Step F F' H H'):kj F' H' a o:=by
 unfold kj at h ⊢
 cases o with
 |none=>exact h
 |some l=>exact⟨h.1,h.2.1.step S,h.2.1.ints h.2.2 S⟩
theorem dQ.step {F F':Nat->Prop}{H H':aa}{a b:Sl}{sp:Span}(h:dQ F H a b sp)(S:Step F F' H H'):dQ F' H' a b sp:=⟨h.low.step S,h.high.step S⟩
section
variable {F:Nat->Prop}{H:aa}{a b sl:Sl}{sp:Span}{ls:List (List Int)}
theorem C4 {pb:Nat}{t:TypeId}{K:Bool->aa->Prop}(hp:ag H pb t #[a.v,b.v]) (hb:kj F H b sp.high) (hr:cJ F H sl ls) (hc:∀l∈ls,l.length<=16) (h0:0<ls.length) (hn:ls.length<=1000000) (hK:K (sp.lt (ls.getD (ls.length - 1) [])) H):
  ld ao H (K0 ⟨pb,0,none⟩ 1) λ(x_3:Sl)=>br x_3.a.isNone (K true H) (ae sl.a λa_2=>(0<=(Ke.wrap ((sl.n:Int) - (1:Int)))/\(Ke.wrap ((sl.n:Int) - (1:Int)))<(sl.n:Int))/\ld ao H (a_2.add ((Ke.wrap ((sl.n:Int) - (1:Int))).toNat*1)) λ(x_4:Sl)=>ld ao H (K0 ⟨pb,0,none⟩ 1) λ(x_5:Sl)=>rR.sp x_4 x_5 H λ(r_1:Int) H4=>K (decide (r_1<(0:Int))) H4):=by
 refine ag.ld (c:=ao) (i:=1) (x:=b) hp rfl ?_
 unfold kj at hb
 unfold Span.lt at hK
 cases hh:sp.high with
 |none=>
   rw[hh] at hb hK
   exact aT (by rw[hb];rfl) hK
 |some l=>
   rw[hh] at hb hK
   refine ax (by cases q:b.a with|none=>exact absurd q hb.1|some _=>rfl) ?_
   have e1:Ke.wrap ((sl.n:Int) - 1)=((ls.length - 1:Nat):Int):=by rw[hr.len,wrap64 (by omega) (by omega)];omega
   rw[e1]
   refine hr.ld (by omega) λad x ha ho hi=>?_
   refine ag.ld (c:=ao) (i:=1) (x:=b) hp rfl ?_
   have hlen:(ls.getD (ls.length - 1) []).length<=16:=by rw[bU (by omega)];exact hc _ (Kt _)
   exact dW hi hb.2.2 (by omega) hK
theorem yT {K:Bool->aa->Prop}(hs:dQ F H a b sp)(hr:cJ F H sl ls)(hc:∀l∈ls,l.length<=16)(hn:ls.length<=1000000)(hK:∀H',Ext H H'->K (sp.holds ls) H'):FC.sp a b sl H K:=by
 refine FC.of ?_
 unfold FC.vc
 refine ar λH1 z1 r1 e1=>?_
 have hs1:=hs.step (.bp e1)
 have hr1:=hr.step (.bp e1)
 have hcol:∀i,i<ls.length->(ls.getD i []).length<=16:=λi hi=>by rw[bU hi];exact hc _ (Kt _)
 have hln:=hr.len
 unfold Span.holds at hK
 have hK:=hK H1 e1
 refine av ls.length (λm z A=>A=H1/\z=((m+1:Nat):Int)/\∀j,j+1<=m->j+1<ls.length->aP (ls.getD j []) (ls.getD (j+1) [])<0) ⟨rfl,rfl,λj hj=>by omega⟩ ?_
 rintro m z A next hm ⟨rfl,rfl,hlo⟩ hnext
 refine ak (λhcc=>?_) (λhcc=>?_)
 ·have hlt:m+1<ls.length:=by
   have:((m+1:Nat):Int)<(sl.n:Int):=by simpa using hcc
   omega
  have e2:Ke.wrap (((m+1:Nat):Int) - 1)=(m:Int):=by rw[wrap64 (by omega) (by omega)];omega
  rw[e2]
  refine hr1.ld (by omega) λad x ha ho hi=>?_
  refine hr1.ld hlt λad2 x2 ha2 ho2 hi2=>?_
  refine dW hi hi2 (by have:=hcol m (by omega);omega) ?_
  refine ak (λhc2=>?_) (λhc2=>?_)
  ·have hge:aP (ls.getD m []) (ls.getD (m+1) [])>=0:=by simpa using hc2
   have hf:gR ls=false:=by
    cases q:gR ls with
    |false=>rfl
    |true=>have:=kE.1 q m hlt;omega
   rw[hf] at hK
   exact hK
  ·have hlt2:aP (ls.getD m []) (ls.getD (m+1) [])<0:=by
    have:¬aP (ls.getD m []) (ls.getD (m+1) [])>=0:=by simpa using hc2
    omega
   refine hnext (by omega) _ _ ⟨rfl,by rw[aK _ (by omega)],λj hj hj2=>?_⟩
   rcases K8 (j+1) (m+1) with q|q
   ·exact hlo j (by omega) hj2
   ·rw[show j=m by omega];exact hlt2
 ·have hge:¬m+1<ls.length:=by
   have:¬((m+1:Nat):Int)<(sl.n:Int):=by simpa using hcc
   omega
  have ht:gR ls=true:=kE.2 λi hi=>hlo i (by omega) hi
  rw[ht,Nz] at hK
  refine ak (λhc2=>?_) (λhc2=>?_)
  ·have e0:ls=[]:=KY (by
    have:(sl.n:Int)=0:=by simpa using hc2
    omega)
   subst e0
   exact hK
  ·have h0:0<ls.length:=by
    have:¬(sl.n:Int)=0:=by simpa using hc2
    omega
   have he:ls.isEmpty=false:=by cases ls with|nil=>simp at h0|cons _ _=>rfl
   rw[he,Bool.false_or] at hK
   refine ag.ld (c:=ao) (i:=0) (x:=a) r1 rfl ?_
   have hlow:=hs1.low
   unfold kj at hlow
   unfold Span.ge at hK
   cases hl:sp.low with
   |none=>
     rw[hl] at hlow hK
     refine aT (by rw[hlow];rfl) ?_
     exact C4 r1 hs1.high hr1 hc h0 hn hK
   |some l=>
     rw[hl] at hlow hK
     refine ax (by cases q:a.a with|none=>exact absurd q hlow.1|some _=>rfl) ?_
     refine hr1.ld (i:=0) h0 λad x ha ho hi=>?_
     refine ag.ld (c:=ao) (i:=0) (x:=a) r1 rfl ?_
     refine dW hi hlow.2.2 (by have:=hcol 0 h0;omega) ?_
     refine ak (λhc3=>?_) (λhc3=>?_)
     ·have hge2:aP (ls.getD 0 []) l>=0:=by simpa using hc3
      simp only[hge2,decide_true,Nz] at hK
      exact C4 r1 hs1.high hr1 hc h0 hn hK
     ·have hge2:¬aP (ls.getD 0 []) l>=0:=by simpa using hc3
      simp only[hge2,decide_false,Rq] at hK
      exact hK
structure cz (F:Nat->Prop)(H:aa)(nb:Nat)(ab:Int)(sk sr:Sl)(n:Nd):Prop where
 row:ag H nb nU #[.int .i64 ab,sk.v,sr.v]
 off:¬F nb
 kids:Ints .i64 H sk (n.kids.map MO)
 kidsO:fL (λb=>F b\/b=nb) H sk
 rows:cJ (λb=>F b\/b=nb) H sr n.rows
theorem cz.step {F F':Nat->Prop}{H H':aa}{nb:Nat}{ab:Int}{sk sr:Sl}{n:Nd}(h:cz F H nb ab sk sr n)(S:Step F F' H H'):cz F' H' nb ab sk sr n:=
 ⟨h.row.mod S.mod h.off,λq=>(S.own _ q).elim h.off λr=>by have:=aG h.row;omega,h.kidsO.ints h.kids (S.with nb),h.kidsO.step (S.with nb),h.rows.step (S.with nb)⟩
theorem E6:zc Kf wG=#[.slice none 0 0,.slice none 0 0]:=by kernel_rfl
theorem Ag:mF Kf wG 2=true:=by kernel_rfl
set_option maxHeartbeats 1000000 in
theorem BF {nb:Nat}{ab:Int}{sk sr:Sl}{n:Nd}{i:Nat}{K:Sl×Sl->aa->Prop}(hs:dQ F H a b sp)(hn:cz F H nb ab sk sr n)(hnn:∀j,j<n.rows.length->∀ad r,sr.a=some ad->bI H (ad.add j)=some (Sl.v r)->r.a≠none)(hi:i<=n.rows.length)(hbig:n.rows.length<=1000000)
  (hK:∀x y H',Ext H H'->dQ F H' x y (sp.of n i)->K (x,y) H'):Ep.sp a b (aD nb) (i:Int) H K:=by
 refine Ep.of ?_
 unfold Ep.vc
 rw[E6]
 refine ar λH1 z1 r1 e1=>?_
 refine ar λH2 z2 r2 e2=>?_
 simp only[aq,aD]
 have e02:=e1.trans e2
 have n2:=hn.row.ext e02
 have r12:=r1.ext e2
 have hne:H.size≠H1.size:=by omega
 refine⟨λ_ A=>∃x,ag A H.size wG #[x.v,b.v]/\Mod (λq=>q=H.size) H2 A/\kj F H x (sp.of n i).low,?_,?_⟩
 ·refine ak (λhc=>?_) (λhc=>?_)
  ·have h0:0<i:=by
    have:(i:Int)>0:=by simpa using hc
    omega
   refine ag.ld (c:=ao) (i:=2) (x:=sr) n2 rfl ?_
   have e3:Ke.wrap ((i:Int) - 1)=((i - 1:Nat):Int):=by rw[wrap64 (by omega) (by omega)];omega
   rw[e3]
   refine hn.rows.Jq e02 (by omega) λad x ha hx ho hi2=>?_
   refine ag.st r12 (i:=0) (by simp) rfl λH4 r4 m4 z4=>?_
   refine⟨x,r4,m4,?_⟩
   have el:(sp.of n i).low=some (n.rows.getD (i - 1) []):=if_pos h0
   rw[el]
   exact⟨hnn _ (by omega) _ _ ha hx,ho.mono λ_ _ q=>.inl q,hi2⟩
  ·have h0:¬0<i:=by
    have:¬(i:Int)>0:=by simpa using hc
    omega
   refine⟨a,r12,.refl _ _,?_⟩
   have el:(sp.of n i).low=sp.low:=if_neg h0
   rw[el];exact hs.low
 ·rintro _ H3 ⟨x,r3,m3,l3⟩
  have e03:Ext H H3:=((Ext.mod (F:=λq=>q=H.size) e02).trans m3).ext λq hq=>by omega
  have n3:=hn.row.ext e03
  have r23:ag H3 H1.size wG #[.slice none 0 0,.slice none 0 0]:=r2.mod m3 (by omega)
  refine⟨λ_ A=>∃y,ag A H.size wG #[x.v,y.v]/\Mod (λq=>q=H.size) H3 A/\kj F H y (sp.of n i).high,?_,?_⟩
  ·refine ag.ld (c:=ao) (i:=2) (x:=sr) n3 rfl ?_
   have hln:=hn.rows.len
   refine ak (λhc=>?_) (λhc=>?_)
   ·have h0:i<n.rows.length:=by
     have:(i:Int)<(sr.n:Int):=by simpa using hc
     omega
    refine ag.ld (c:=ao) (i:=2) (x:=sr) n3 rfl ?_
    refine hn.rows.Jq e03 h0 λad y ha hy ho hi2=>?_
    refine ag.st r3 (i:=1) (by simp) rfl λH4 r4 m4 z4=>?_
    refine⟨y,r4,m4,?_⟩
    have el:(sp.of n i).high=some (n.rows.getD i []):=if_pos h0
    rw[el]
    exact⟨hnn _ h0 _ _ ha hy,ho.mono λ_ _ q=>.inl q,hi2⟩
   ·have h0:¬i<n.rows.length:=by
     have:¬(i:Int)<(sr.n:Int):=by simpa using hc
     omega
    refine⟨b,r3,.refl _ _,?_⟩
    have el:(sp.of n i).high=sp.high:=if_neg h0
    rw[el];exact hs.high
  ·rintro _ H5 ⟨y,r5,m5,l5⟩
   have e05:Ext H H5:=((Ext.mod (F:=λq=>q=H.size) e03).trans m5).ext λq hq=>by omega
   have r25:=r23.mod m5 (by omega)
   refine ag.jq (c:=fQ [ao,ao]) (x:=(x,y)) r5 rfl rfl ?_
   refine ag.wb r25 Ag rfl (by simp[Value.oneCell',Sl.v]) λH7 r7 m7 z7=>?_
   have e07:Ext H H7:=((Ext.mod (F:=λq=>q=H1.size) e05).trans m7).ext λq hq=>by omega
   refine ag.jq (c:=fQ [ao,ao]) (x:=(x,y)) r7 rfl rfl ?_
   exact hK x y H7 e07 ⟨l3.step (.bp e07),l5.step (.bp e07)⟩
theorem ua {low:Sl}{ll:List Int}{K:(Int×Bool)->aa->Prop}(h:cJ F H sl ls)(hl:Ints .u64 H low ll)(hd:gR ls=true)(hc:∀l∈ls,l.length<=16)(hn:ls.length<=1000000)
  (hK:K ((below ll ls:Int),sameAt ls ll) H):C8.sp sl low H K:=by
 refine C8.of ?_
 unfold C8.vc
 have hd:=o7 hd ll
 refine av ls.length (λm z A=>A=H/\∃i j:Nat,z=((i:Int),(j:Int))/\i<=j/\j<=ls.length/\j - i+m<=ls.length/\(∀x,x<i->aP (ls.getD x []) ll<0)/\∀x,j<=x->x<ls.length->¬aP (ls.getD x []) ll<0) ?_ ?_
 ·refine⟨rfl,0,ls.length,?_,KU _,Kl _,by omega,λx hx=>by omega,λx h1 h2=>by omega⟩
  rw[h.len];rfl
 rintro m _ A next hm ⟨rfl,i,j,rfl,hij,hjN,hmn,hlo,hhi⟩ hnext
 refine ak (λhcc=>?_) (λhcc=>?_)
 ·have hlt:i<j:=by
   have:(i:Int)<(j:Int):=by simpa using hcc
   omega
  have hmid:=IP (i:=i) (j:=j) (by omega)
  simp only
  rw[hmid]
  have hh2:(i+j)/2<ls.length:=by omega
  refine h.ld hh2 λad x ha _ hx=>?_
  have hcol:=hc _ (Kt hh2)
  rw[<-bU hh2] at hcol
  refine dW hx hl (by omega) ?_
  refine ak (λhc2=>?_) (λhc2=>?_)
  ·have e:aP (ls.getD ((i+j)/2) []) ll<0:=by simpa using hc2
   refine hnext (by omega) _ _ ⟨rfl,(i+j)/2+1,j,?_,by omega,hjN,by omega,λy hy=>hd y ((i+j)/2) (by omega) hh2 e,hhi⟩
   rw[aK _ (by omega)]
  ·have e:¬aP (ls.getD ((i+j)/2) []) ll<0:=by simpa using hc2
   exact hnext (by omega) _ _ ⟨rfl,i,(i+j)/2,rfl,by omega,by omega,by omega,hlo,λy h1 h2 q=>e (hd ((i+j)/2) y h1 h2 q)⟩
 ·have hge:¬i<j:=by
   have:¬(i:Int)<(j:Int):=by simpa using hcc
   omega
  have eij:i=j:=by omega
  subst eij
  have eb:below ll ls=i:=xB hjN hlo λhx=>hhi i (Kl _) hx
  refine ak (λhc2=>?_) (λhc2=>?_)
  ·have hil:i<ls.length:=by
    have:(i:Int)<(sl.n:Int):=by simpa using hc2
    rw[h.len] at this;omega
   refine h.ld hil λad x ha _ hx=>?_
   have hcol:=hc _ (Kt hil)
   rw[<-bU hil] at hcol
   refine dW hx hl (by omega) ?_
   have es:sameAt ls ll=(aP (ls.getD i []) ll==0):=by
    unfold sameAt
    rw[eb,N4]
    simp[hil,fu]
   rw[<-es,<-eb]
   exact hK
  ·have hil:¬i<ls.length:=by
    have:¬(i:Int)<(sl.n:Int):=by simpa using hc2
    rw[h.len] at this;omega
   have es:sameAt ls ll=false:=by
    unfold sameAt
    rw[eb]
    simp[hil]
   rw[es,eb] at hK
   exact hK
theorem sV {nb:Nat}{ab:Int}{sk sr low:Sl}{n:Nd}{ll:List Int}{K:Int->aa->Prop}(hn:cz F H nb ab sk sr n)(hl:Ints .u64 H low ll)(hd:gR n.rows=true)(hc:∀l∈n.rows,l.length<=16)(hbig:n.rows.length<=1000000)
  (hK:K (n.child ll:Int) H):Er.sp (aD nb) low H K:=by
 refine Er.of ?_
 unfold Er.vc
 simp only[aq,aD]
 refine ag.ld (c:=ao) (i:=2) (x:=sr) hn.row rfl ?_
 refine ua hn.rows hl hd hc hbig ?_
 unfold Nd.child at hK
 have:=gF ll n.rows
 cases hs:sameAt n.rows ll with
 |true=>
   rw[hs,if_pos rfl] at hK
   refine aT rfl ?_
   rw[aK _ (by omega)]
   exact hK
 |false=>
   rw[hs,if_neg (by simp)] at hK
   exact ax rfl hK
end
structure fl (F:Nat->Prop)(H:aa)(base nb:Nat)(ab:Int)(sk sr:Sl)(rs:List Sl)(n:Nd):Prop where
 row:ag H nb nU #[.int .i64 ab,sk.v,sr.v]
 kids:az H 0 dA 1 sk ((n.kids.map MO).map (Km .i64))
 rows:bl H 0 sr rs n.rows
 nn:∀x∈rs,x.a≠none
 nb:base<=nb/\¬F nb
 sk:∀b,ai sk b->base<=b/\¬F b
 sr:∀b,ai sr b->base<=b/\¬F b
 rs:∀x∈rs,∀b,ai x b->base<=b/\¬F b
section
variable {F:Nat->Prop}{H:aa}{base nb:Nat}{ab:Int}{sk sr:Sl}{rs:List Sl}{n:Nd}
theorem fl.IV (h:fl F H base nb ab sk sr rs n):¬ai sk nb:=λq=>by
 obtain⟨cur,hc⟩:=h.kids.obj _ q
 exact absurd (aW hc h.row) (by decide)
theorem fl.IY (h:fl F H base nb ab sk sr rs n):¬ai sr nb:=λq=>by
 obtain⟨cur,hc⟩:=h.rows.out.obj _ q
 exact absurd (aW hc h.row) (by decide)
theorem fl.Jf (h:fl F H base nb ab sk sr rs n):∀x∈rs,¬ai x nb:=λx hx q=>by
 obtain⟨l,hl⟩:=h.rows.rowAt hx
 obtain⟨cur,hc⟩:=hl.obj _ q
 exact absurd (aW hc h.row) (by decide)
theorem fl.read (h:fl F H base nb ab sk sr rs n):cz F H nb ab sk sr n:=by
 refine⟨h.row,h.nb.2,h.kids.ints,λad ha=>⟨(h.kids.block _ ⟨ad,ha,rfl⟩).2,λq=>?_⟩,⟨h.rows.n,λad ha=>⟨(h.rows.block.1 _ ⟨ad,ha,rfl⟩).2,λq=>?_⟩,λi hi=>?_⟩⟩
 ·rcases q with q|q
  ·exact(h.sk _ ⟨ad,ha,rfl⟩).2 q
  ·exact h.IV ⟨ad,ha,q⟩
 ·rcases q with q|q
  ·exact(h.sr _ ⟨ad,ha,rfl⟩).2 q
  ·exact h.IY ⟨ad,ha,q⟩
 ·have hir:i<rs.length:=by rw[h.rows.len];exact hi
  obtain⟨ad,ha,hc⟩:=h.rows.out.reads.at (i:=i) (by simpa using hir)
  refine⟨ad,rs[i],ha,by simpa using hc,λad' ha'=>?_,(h.rows.row i _ _ (Kg hir) (Kg hi)).ints⟩
  refine⟨(h.rows.block.2 _ (Kt hir) _ ⟨ad',ha',rfl⟩).2,λq=>?_⟩
  rcases q with q|q
  ·exact(h.rs _ (Kt hir) _ ⟨ad',ha',rfl⟩).2 q
  ·exact h.Jf _ (Kt hir) ⟨ad',ha',q⟩
theorem fl.HQ (h:fl F H base nb ab sk sr rs n):∀j,j<n.rows.length->∀ad r,sr.a=some ad->bI H (ad.add j)=some (Sl.v r)->r.a≠none:=by
 intro j hj ad r ha hc
 have hjr:j<rs.length:=by rw[h.rows.len];exact hj
 obtain⟨ad',ha',hc'⟩:=h.rows.out.reads.at (i:=j) (by simpa using hjr)
 rw[ha] at ha';cases ha'
 rw[hc] at hc'
 simp only[M6,Lr,Sl.v,K5] at hc'
 rw[hc'.1]
 exact h.nn _ (Kt hjr)
theorem fl.step {F':Nat->Prop}{H':aa}(h:fl F H base nb ab sk sr rs n)(S:Step F F' H H'):fl F' H' base nb ab sk sr rs n:=by
 have k1:∀b,b<H.size->¬F b->¬F' b:=λb hb hF q=>(S.own b q).elim hF λr=>by omega
 refine⟨h.row.mod S.mod h.nb.2,h.kids.mod S.mod λb hb=>(h.sk b hb).2,h.rows.mod S.mod (λb hb=>(h.sr b hb).2) λx hx b hb=>(h.rs x hx b hb).2,h.nn,⟨h.nb.1,k1 _ (aG h.row) h.nb.2⟩,λb hb=>⟨(h.sk b hb).1,k1 b (h.kids.block b hb).2 (h.sk b hb).2⟩,λb hb=>⟨(h.sr b hb).1,k1 b (h.rows.block.1 b hb).2 (h.sr b hb).2⟩,λx hx b hb=>⟨(h.rs x hx b hb).1,k1 b (h.rows.block.2 x hx b hb).2 (h.rs x hx b hb).2⟩⟩
end
def jJ:Sl:=⟨none,0,0⟩
theorem pZ (b:Nat):¬ai jJ b:=λ⟨_,h,_⟩=>by cases h
theorem kS (b:List UInt8)(k:Nat):(eY b k).length=k:=by simp[eY]
theorem uX (b:List UInt8)(k:Nat):eY b (k+1)=eY b k++[FV (b.drop (2+4*k))]:=by
 unfold eY
 rw[List.range_succ,KX];rfl
theorem zg {b:List Int}{w:Int}(h:dy b w=true):∀l∈dL b w,l.length<=16:=by
 obtain⟨h1,h2,h3⟩:=lI h
 intro l hl
 rw[h3 l hl]
 unfold aF at h2
 split at h2
 ·exact absurd rfl h2
 ·omega
section
variable {H:aa}{k p dp:Nat}{t:Tr}{F:Nat->Prop}{s:Pl}{q:Nat}{I:Pl->St->Nat->Prop}{B C:Pl->Int->Prop}{x:St}{m:Nat}{a b:Sl}{sp:Span}
set_option maxHeartbeats 2000000 in
theorem lY {ab above depth:Nat}{K:(Option Addr×Int)->aa->Prop}(S:ib t.name q I B C)(hI:I s x m)(hm:m<30000000000)(hg:Gl H)(h:aR H k p t)(hp:an F H p dp s)(hk:¬F k)(hpg:ab<=1000000000000)
  (hs:dQ F H a b sp) (hd:t.depth=(depth:Int))
  (hK1:∀n,x.node t.width depth above ab sp=some n->∀F' H' s' nb sk sr rs,an F' H' p dp s'->Step F F' H H'->I s' x (m+1)->fl F' H' H.size nb (ab:Int) sk sr rs n->K (aD nb,0) H')
  (hK2:x.node t.width depth above ab sp=none->∀F' H' s',an F' H' p dp s'->Step F F' H H'->I s' x (m+1)->K (none,280) H')
  (hK3:∀F' H' s' e,an F' H' p dp s'->Step F F' H H'->C s' e->K (none,e) H'):DY.sp (aD k) (ab:Int) (above:Int) a b H K:=by
 refine DY.of ?_
 unfold DY.vc
 refine ar λH1 z1 r1 e1=>?_
 have hFlt:∀b,F b->b<H.size:=λb hb=>hp.lt b hb
 have hkl:=aG h
 have T1:Step F F H H1:=.bp e1
 refine Bs S hI hm (hg.mod e1 id) (h.ext e1) (hp.ext e1) hk hpg (λhgn F' H2 s' sl p2 S2 I2 o2 f2=>?_) (λhgn F' H2 s' v sl p2 S2 I2=>?_) (λF' H2 s' v sl e p2 S2 hC=>?_)
 rotate_left
 ·refine aT rfl ?_
  exact hK2 (by unfold St.node;rw[if_neg (by omega)]) F' H2 s' p2 (T1.trans S2) I2
 ·obtain⟨c1,c2⟩:=S.errC hC
  refine ax (by simpa using c2) ?_
  refine aT (by simpa using c1) ?_
  exact hK3 F' H2 s' e p2 (T1.trans S2) hC
 have T2:=T1.trans S2
 refine ax rfl ?_
 refine ax rfl ?_
 dsimp only
 have hx:x.node t.width depth above ab sp=fJ t.width depth above sp (x.T ab):=by unfold St.node;rw[if_pos hgn]
 rw[hx] at hK1 hK2
 have hlen:(x.T ab).2.length<=504:=(S.pre hI).2.2.2.2.2 ab
 generalize x.T ab=kb at*
 refine ar λH3 z3 r3 e3=>?_
 have hz2:=S2.mod.size
 have hFp:¬F H.size:=λu=>by have:=hFlt _ u;omega
 have rp2:ag H2 H.size wG #[a.v,b.v]:=r1.mod S2.mod hFp
 have hF':∀c,H2.size<=c->¬F' c:=λc hc u=>by have:=p2.lt c u;omega
 have hs2:dQ F' H2 a b sp:=hs.step T2
 have ht2:aR H2 k p t:=(h.ext e1).mod S2.mod hk
 have hsn:sl.n=kb.2.length:=cw.n o2 (by decide)
 have hcap:=o2.cap
 have by2:cG H2 sl kb.2:=jT o2
 have hkd:∀v:UInt8,((kb.1.toNat:Int)==(v.toNat:Int))=decide (kb.1=v):=λv=>by
  rw[N4]
  simp only[beq_iff_eq,decide_eq_true_eq]
  exact⟨λe=>UInt8.toNat_inj.1 (by omega),λe=>by rw[e]⟩
 refine⟨λz A=>∃kids bb sk,fJ t.width depth above sp kb=cU t.width depth sp kids bb/\cG A z bb/\z.n<=z.c/\bb.length<=504/\kids.length<=126/\ag A H2.size nU #[.int .i64 (ab:Int),sk.v,.slice none 0 0]/\
  az A 0 dA 1 sk ((kids.map MO).map (Km .i64))/\Ext H2 A/\∀c,ai sk c->H2.size<c,?_,?_⟩
 ·have h3:((kb.1.toNat:Int)==3)=decide (kb.1=3):=hkd 3
  have h4:((kb.1.toNat:Int)==4)=decide (kb.1=4):=hkd 4
  unfold fJ
  refine ak (λhc=>?_) (λhc=>?_)
  ·rw[h3] at hc
   simp only[KD,decide_eq_true_eq,beq_iff_eq] at hc
   exact⟨[],kb.2,jJ,if_pos ⟨hc.1,by omega⟩,by2.aA λad _ hl=>e3.same _ hl id,hcap,hlen,by simp,r3,az.nil _ _ _ _,e3,λc u=>absurd u (pZ c)⟩
  ·rw[h3] at hc
   have hc1:¬(kb.1=3/\above=0):=λu=>by simp[u.1,u.2] at hc
   rw[if_neg hc1]
   refine ak (λhc2=>?_) (λhc2=>?_)
   ·rw[h4] at hc2
    simp only[KD,decide_eq_true_eq] at hc2
    obtain⟨⟨c1,c2⟩,c3⟩:=hc2
    have hl2:2<=kb.2.length:=by omega
    have hc5:kb.1=4/\0<above/\2<=kb.2.length:=⟨c1,by omega,hl2⟩
    rw[if_pos hc5]
    have by3:cG H3 sl kb.2:=by2.aA λad _ hl=>e3.same _ hl id
    have hu:(dz kb.2).length=kb.2.length:=dN _
    refine bB by3 (j:=0) rfl (by omega) λad0 a0=>?_
    refine bB by3 (j:=1) rfl (by omega) λad1 a1=>?_
    rw[Aa,Aa,DZ (On _) (On _)]
    have en:(kb.2.getD 0 0).toNat*256+(kb.2.getD 1 0).toNat=im kb.2:=rfl
    rw[en]
    have hb0:=(kb.2.getD 0 0).toNat_lt
    have hb1:=(kb.2.getD 1 0).toNat_lt
    have hnum:im kb.2<=65535:=by unfold im;omega
    have ew:∀i:Nat,i<=65535->Ke.wrap ((2:Int)+(Ke.wrap ((4:Int)*(i:Int))))=((2+4*i:Nat):Int):=λi hi=>by
     rw[wrap64 (x:=4*(i:Int)) (by omega) (by omega),wrap64 (by omega) (by omega)];omega
    rw[ew _ hnum]
    refine ak (λhc6=>?_) (λhc6=>?_)
    ·have:im kb.2<2\/kb.2.length<2+4*im kb.2:=by
      simp only[Lo,decide_eq_true_eq] at hc6
      omega
     refine hK2 ?_ F' H3 s' (p2.ext e3) (T2.trans (.bp e3)) I2
     unfold fJ
     rw[if_neg hc1,if_pos hc5,if_pos this]
    ·have hn6:¬(im kb.2<2\/kb.2.length<2+4*im kb.2):=λu=>by
      simp only[Bool.or_eq_false_iff,decide_eq_false_iff_not] at hc6
      omega
     have hn7:2<=im kb.2:=by omega
     have hn8:2+4*im kb.2<=kb.2.length:=by omega
     rw[if_neg hn6]
     generalize im kb.2=N at*
     refine av N (λi z A=>z=(i:Int)/\∃sk,ag A H2.size nU #[.int .i64 (ab:Int),sk.v,.slice none 0 0]/\az A 0 dA 1 sk (((eY kb.2 i).map MO).map (Km .i64))/\Ext H2 A/\∀c,ai sk c->H2.size<c) ⟨rfl,jJ,r3,az.nil _ _ _ _,e3,λc u=>absurd u (pZ c)⟩ ?_
     rintro i z A next hi ⟨rfl,sk,rA,oA,eA,fA⟩ hnext
     have byA:cG A sl kb.2:=by2.aA λad _ hl=>eA.same _ hl id
     have hskN:¬ai sk H2.size:=λu=>by have:=fA _ u;omega
     refine ak (λhc7=>?_) (λhc7=>?_)
     ·have hlt:i<N:=by simpa using hc7
      rw[ew i (by omega)]
      refine⟨λD=>ag D H2.size nU #[.int .i64 (ab:Int),sk.v,.slice none 0 0],rA,?_⟩
      refine ag.cP (c:=ao) (i:=1) (x:=sk) (cs:=λ_=>#[.int .i64 (ab:Int),sk.v,.slice none 0 0]) (λ_ hG=>hG) (λ_ _=>rfl) ?_
      refine⟨by omega,?_⟩
      have hdr:cG A (Sl.mk (bw sl.a sl.c (((2+4*i:Nat):Int)).toNat 1) (sl.n - (((2+4*i:Nat):Int)).toNat) (sl.c - (((2+4*i:Nat):Int)).toNat)) (kb.2.drop (2+4*i)):=byA.drop hcap (2+4*i)
      refine xU hdr (by rw[KS];omega) ?_
      have hkl:(eY kb.2 i).length=i:=kS _ _
      have hskn:sk.n=i:=by have:=oA.1;simp[hkl] at this;omega
      refine⟨rA,?_,?_⟩
      ·exact rA.ext (Mod.push _ _ _)
      refine CA.push (base:=0) oA rfl (by omega) (by omega) (KU _) λsk' A2 n2 o2' m2 b2 _=>?_
      have rA2:ag A2 H2.size nU #[.int .i64 (ab:Int),sk.v,.slice none 0 0]:=rA.mod m2 hskN
      refine ag.st rA2 (i:=1) (by simp) rfl λA3 rA3 m3 z3'=>?_
      have hz:=eA.size
      have f3:∀c,ai sk' c->H2.size<c:=λc u=>by
       rcases b2 c u with v|v
       ·exact fA c v
       ·have:=aG rA;omega
      refine hnext hlt _ _ ⟨aK i (by omega),sk',rA3,?_,?_,f3⟩
      ·rw[uX,KX,KX]
       exact o2'.mod m3 λc u=>by have:=f3 c u;omega
      ·have:Mod (λc=>ai sk c\/c=H2.size) H2 A3:=((Ext.mod eA).trans (m2.mono λ_ _ u=>.inl u)).trans (m3.mono λ_ _ u=>.inr u)
       exact this.ext λc u=>by
        rcases u with v|v
        ·have:=fA c v;omega
        ·omega
     ·have hge:i=N:=by
       have:¬i<N:=by simpa using hc7
       omega
      subst hge
      refine⟨by omega,eY kb.2 i,kb.2.drop (2+4*i),sk,rfl,byA.drop hcap (2+4*i),?_,by rw[KS];omega,by rw[kS];omega,rA,oA,eA,fA⟩
      show sl.n - _<=sl.c - _
      omega
   ·rw[h4] at hc2
    have hc5:¬(kb.1=4/\0<above/\2<=kb.2.length):=λ⟨u1,u2,u3⟩=>by
     have:¬(decide (kb.1=4)&&decide ((above:Int)>0)&&decide ((sl.n:Int)>=2))=true:=by rw[hc2];simp
     apply this
     simp only[KD,decide_eq_true_eq]
     exact⟨⟨u1,by omega⟩,by omega⟩
    refine hK2 ?_ F' H3 s' (p2.ext e3) (T2.trans (.bp e3)) I2
    unfold fJ
    rw[if_neg hc1,if_neg hc5]
 ·rintro z A ⟨kids,bb,sk,hno,hby,hzc,hbl,hkl,rA,oA,eA,fA⟩
  rw[hno] at hK1 hK2
  unfold aD
  simp only[aq]
  have tA:aR A k p t:=ht2.ext eA
  have hnil:∀A',Ext H2 A'->cU t.width depth sp kids bb=none->K (none,280) A':=λA' eA' hno'=>hK2 hno' F' A' s' (p2.ext eA') (T2.trans (.bp eA')) I2
  have hskn:sk.n=kids.length:=by have:=oA.1;simp at this;omega
  refine⟨λ_ A'=>∃sr rs,dy (dz bb) t.width=true/\(kids≠[]->(dL (dz bb) t.width).length+1=kids.length)/\ag A' H2.size nU #[.int .i64 (ab:Int),sk.v,sr.v]/\az A' 0 dA 1 sk ((kids.map MO).map (Km .i64))/\
   bl A' A.size sr rs (dL (dz bb) t.width)/\(∀x∈rs,x.a≠none)/\Ext H2 A',?_,?_⟩
  ·refine ag.ld (c:=af .i64) (i:=2) (x:=t.width) tA rfl ?_
   refine Ay hby hzc (λx hx=>?_) (by rw[dN];omega) λsr rs A2 ro e2 nn=>?_
   ·unfold dz at hx
    obtain⟨c,_,rfl⟩:=Kz.1 hx
    have:=c.toNat_lt;omega
   have eA2:=eA.trans e2
   refine ag.st (rA.ext e2) (i:=2) (by simp) rfl λA3 r3 m3 z3=>?_
   have hzA:=eA.size
   have hAn:=aG rA
   have eA3:Ext H2 A3:=((Ext.mod (F:=λc=>c=H2.size) eA2).trans m3).ext λc u=>by omega
   have hbl2:=ro.block
   have roA3:bl A3 A.size sr rs (dL (dz bb) t.width):=ro.mod m3 (λc u v=>by have:=(hbl2.1 c u).1;omega) λy hy c u v=>by have:=(hbl2.2 y hy c u).1;omega
   have oA3:az A3 0 dA 1 sk ((kids.map MO).map (Km .i64)):=(oA.ext e2).mod m3 λc u v=>by have:=fA c u;omega
   unfold xT
   cases hok:dy (dz bb) t.width with
   |false=>
     refine aT rfl ?_
     refine hnil A3 eA3 ?_
     unfold cU
     rw[if_pos (.inl hok)]
   |true=>
     refine ax rfl ?_
     refine ag.ld (c:=ao) (i:=1) (x:=sk) r3 rfl ?_
     refine ak (λhc=>?_) (λhc=>?_)
     ·have hk0:kids≠[]:=λu=>by subst u;simp[hskn] at hc
      refine ag.ld (c:=ao) (i:=2) (x:=sr) r3 rfl ?_
      refine ag.ld (c:=ao) (i:=1) (x:=sk) r3 rfl ?_
      have hkp:0<kids.length:=MX.2 hk0
      rw[hskn,ro.n]
      have ew:Ke.wrap ((kids.length:Int) - 1)=((kids.length - 1:Nat):Int):=by rw[wrap64 (by omega) (by omega)];omega
      rw[ew]
      refine ak (λhc2=>?_) (λhc2=>?_)
      ·have hne:((dL (dz bb) t.width).length:Int)≠((kids.length - 1:Nat):Int):=by simpa using hc2
       refine hnil A3 eA3 ?_
       unfold cU
       rw[if_pos (.inr ⟨hk0,by omega⟩)]
      ·have heq:((dL (dz bb) t.width).length:Int)=((kids.length - 1:Nat):Int):=by simpa using hc2
       exact⟨sr,rs,rfl,λ_=>by omega,r3,oA3,roA3,nn,eA3⟩
     ·have hk0:kids=[]:=KY (by
       have:¬((sk.n:Int)>0):=by simpa using hc
       omega)
      exact⟨sr,rs,rfl,λu=>absurd hk0 u,r3,oA3,roA3,nn,eA3⟩
  ·rintro _ A3 ⟨sr,rs,hok,hkl2,r3,oA3,roA3,nn,eA3⟩
   obtain⟨g1,g2,g3⟩:=lI hok
   have hfits:=zg hok
   rw[dN] at g1
   have hs0:=bL t.width
   have hlr:(dL (dz bb) t.width).length<=504:=by
    have hm1:(dL (dz bb) t.width).length*1<=(dL (dz bb) t.width).length*(aF t.width).toNat:=LM _ (by omega)
    omega
   refine ag.jq (c:=fQ [ao,ao]) (x:=(a,b)) (rp2.ext eA3) rfl rfl ?_
   refine ag.ld (c:=ao) (i:=2) (x:=sr) r3 rfl ?_
   have hzA:=eA.size
   have rN:cJ F' A3 sr (dL (dz bb) t.width):=roA3.Io λc hc=>hF' c (by omega)
   refine yT (hs2.step (.bp eA3)) rN hfits (by omega) λA4 e4=>?_
   have eA4:=eA3.trans e4
   have fin1:∀b1,(sp.holds (dL (dz bb) t.width)=b1)->cU t.width depth sp kids bb=if b1=false\/(dL (dz bb) t.width=[]/\1<depth) then none else some ⟨kids,dL (dz bb) t.width⟩:=λb1 hb1=>by
    unfold cU
    rw[if_neg (by
     rintro(u|⟨u1,u2⟩)
     ·rw[hok] at u;cases u
     ·exact u2 (hkl2 u1)),hb1]
   have good:∀A',Ext H2 A'->A'=A4->cU t.width depth sp kids bb=some ⟨kids,dL (dz bb) t.width⟩->K (some ⟨H2.size,0,none⟩,0) A':=λA' eA' hA' hsome=>by
    subst hA'
    refine hK1 _ hsome F' A' s' H2.size sk sr rs (p2.ext eA') (T2.trans (.bp eA')) I2 ⟨r3.ext e4,oA3.ext e4,?_,nn,⟨by omega,hF' _ (by omega)⟩,λc u=>?_,λc u=>?_,λy hy c u=>?_⟩
    ·exact⟨(roA3.ext e4).out.FQ,roA3.len,λi y l q1 q2=>((roA3.ext e4).row i y l q1 q2).FQ,roA3.apart⟩
    ·have:=fA c u;exact⟨by omega,hF' c (by omega)⟩
    ·have:=(roA3.block.1 c u).1;exact⟨by omega,hF' c (by omega)⟩
    ·have:=(roA3.block.2 y hy c u).1;exact⟨by omega,hF' c (by omega)⟩
   cases hb1:sp.holds (dL (dz bb) t.width) with
   |false=>
     refine aT rfl ?_
     refine hnil A4 eA4 ?_
     rw[fin1 _ hb1,if_pos (.inl rfl)]
   |true=>
     refine ax rfl ?_
     refine ag.ld (c:=ao) (i:=2) (x:=sr) (r3.ext e4) rfl ?_
     rw[roA3.n]
     refine ak (λhc=>?_) (λhc=>?_)
     ·have h00:((dL (dz bb) t.width).length:Int)=0:=by simpa using hc
      have h0:dL (dz bb) t.width=[]:=KY (by omega)
      refine ag.ld (c:=af .i64) (i:=4) (x:=t.depth) (ht2.ext eA4) rfl ?_
      rw[hd]
      refine ak (λhc2=>?_) (λhc2=>?_)
      ·refine hnil A4 eA4 ?_
       rw[fin1 _ hb1,if_pos (.inr ⟨h0,by
        have:(depth:Int)>1:=by simpa using hc2
        omega⟩)]
      ·refine good A4 eA4 rfl ?_
       rw[fin1 _ hb1,if_neg (by
        rintro(u|⟨_,u⟩)
        ·cases u
        ·have:¬(depth:Int)>1:=by simpa using hc2
         omega)]
     ·refine good A4 eA4 rfl ?_
      rw[fin1 _ hb1,if_neg (by
       rintro(u|⟨u,_⟩)
       ·cases u
       ·rw[u] at hc;simp at hc)]
end
def kT (K:Sl×Int->aa->Prop)(base:Nat)(F:Nat->Prop)(H:aa):Option (Option (List Int))->Prop
 |none=>K (jJ,280) H
 |some none=>K (jJ,0) H
 |some (some l)=>∀sl,sl.a≠none->az H 0 iB 1 sl (l.map (Km .u64))->(∀b,ai sl b->base<=b/\¬F b)->K (sl,0) H
theorem BJ {f:Nat->Nat×Option (Option (List Int))}{i k:Nat}:(f i).1<=(jX f i (k+1)).1:=by
 unfold jX
 split
 ·exact Nat.le_add_right _ _
 ·exact Kl _
theorem CF {f:Nat->Nat×Option (Option (List Int))}{i k:Nat}(h:(f i).2=some none):jX f i (k+1)=((f i).1+(jX f (i+1) k).1,(jX f (i+1) k).2):=by
 conv=>lhs;unfold jX
 rw[if_pos h]
theorem wo {f:Nat->Nat×Option (Option (List Int))}{i k:Nat}(h:(f i).2≠some none):jX f i (k+1)=f i:=by
 unfold jX
 rw[if_neg h]
section
variable {k p dp:Nat}{t:Tr}{q:Nat}{I:Pl->St->Nat->Prop}{B C:Pl->Int->Prop}{x:St}{low:Sl}{ll:List Int}{strict:Bool}
theorem Cw {H3:aa}{F:Nat->Prop}{sr:Sl}{ls:List (List Int)}{nb:Nat}{ab:Value}{sk:Value}{i W:Nat}{K:Sl×Int->aa->Prop}(hr:cJ F H3 sr ls)(hn:ag H3 nb nU #[ab,sk,sr.v]) (ht:aR H3 k p t) (hw:t.width=(W:Int)) (hW:W<=16)
  (hi:i<ls.length) (hc:(ls.getD i []).length<=16)
  (hK:∀sl A,sl.a≠none->az A 0 iB 1 sl ((ls.getD i []).map (Km .u64))->Ext H3 A->(∀b,ai sl b->H3.size<=b)->K (sl,0) A):
  ∃G:aa->Prop,G H3/\ae (some (⟨k,0,none⟩:Addr)) λa_2=>ld (af .i64) H3 (a_2.add 2) λ(x_3:Int)=>bo ao Kf (Ll dn (.int .i64 (0:Int)) (.int .i64 (Ke.wrap (x_3+(1:Int))))) H3 λ(sl:Sl) H4=>G H4/\ae (some (⟨nb,0,none⟩:Addr)) λa_3=>cP ao G (a_3.add 2) λ(x_4:Sl)=>ae x_4.a λa_4=>(0<=(i:Int)/\(i:Int)<(x_4.n:Int))/\cP ao G (a_4.add ((i:Int).toNat*1)) λ(x_5:Sl)=>bo ao Kf (Ks #[dn,dn] dn #[sl.v,x_5.v]) H4 λ(s:Sl) H5=>K (s,(0:Int)) H5:=by
 refine⟨λD=>Ext H3 D,.refl _ _,?_⟩
 simp only[aq]
 refine ag.ld (c:=af .i64) (i:=2) (x:=t.width) ht rfl ?_
 rw[hw]
 have ew:Ke.wrap ((W:Int)+1)=((W+1:Nat):Int):=aK W (by omega)
 rw[ew]
 refine iY.make (base:=0) (by omega) (by omega) (by omega) (by omega) (KU _) ?_
 intro sl H4 n4 o4 e4 b4 nn4
 refine⟨e4,?_⟩
 refine ag.cP (c:=ao) (i:=2) (x:=sr) (cs:=λ_=>#[ab,sk,sr.v]) (λD hD=>hn.ext hD) (λ_ _=>rfl) ?_
 obtain⟨ad,r,q1,q2,q4,q5⟩:=hr.at' i hi
 refine cg ad q1 ⟨⟨by omega,by rw[hr.len];omega⟩,r,λD hD=>?_,?_⟩
 ·simp only[KI,Ld]
  exact hD.cell q2 id
 rw[<-bU hi] at q5
 have hr4:=(q5.ext e4)
 have hrl:=q5.len
 refine iY.append (base:=0) (s:=sl) (x:=r) (ws:=(ls.getD i []).map (Km .u64)) o4 (by rw[KM];exact hrl.symm) hr4.reads (ic _ _) (by simp only[SH] at n4;omega) (by simp only[SH] at n4;omega) (KU _) ?_
 intro s' H6 n6 o6 m6 b6 nn6
 have e6:Ext H3 H6:=((Ext.mod (F:=ai sl) e4).trans m6).ext b4
 refine hK s' H6 (λu=>nn4 (nn6.1 u).1) (by simpa using o6) e6 λc hc=>?_
 rcases b6 c hc with u|u
 ·exact b4 c u
 ·have:=e4.size;omega
set_option maxHeartbeats 2000000 in
theorem vE {W depth:Nat}(S:ib t.name q I B C)(hw:t.width=(W:Int))(hW:W<=16)(hd:t.depth=(depth:Int)):∀(above ab:Nat) (sp:Span) (a b:Sl) (F:Nat->Prop) (H:aa) (s:Pl) (m:Nat) (K:(Sl×Int)->aa->Prop),
  I s x m->m+(x.find t.width depth ll strict above ab sp).1<=30000000000->above<=1000000->Gl H->aR H k p t->an F H p dp s->¬F k->ab<=1000000000000->dQ F H a b sp->Ints .u64 H low ll->qz F H low ll->
  (∀F' H' s',an F' H' p dp s'->Step F F' H H'->I s' x (m+(x.find t.width depth ll strict above ab sp).1)->kT K H.size F' H' (x.find t.width depth ll strict above ab sp).2)->
  (∀F' H' s' e,an F' H' p dp s'->Step F F' H H'->C s' e->K (jJ,e) H')->AB.sp (aD k) (ab:Int) (above:Int) a b low strict H K:=by
 intro above
 induction above with
 |zero=>
   intro ab sp a b F H s m K hI hm _ hg ht hp hk hpg hs hl hlo hK1 hK3
   refine AB.of ?_
   unfold AB.vc
   have hT:=(S.pre hI).2.2.2.2.2
   refine ar λH1 z1 r1 e1=>?_
   have hkl:=aG ht
   have T1:Step F F H H1:=.bp e1
   refine ag.jq (c:=fQ [ao,ao]) (x:=(a,b)) r1 rfl rfl ?_
   unfold St.find at hm hK1
   have hm1:m<30000000000:=by
    cases hn:x.node t.width depth 0 ab sp<;>rw[hn] at hm<;>simp only at hm<;>omega
   refine lY (above:=0) S hI hm1 (hg.mod e1 id) (ht.ext e1) (hp.ext e1) hk hpg (hs.step T1) hd (λn hn F' H2 s' nb sk sr rs p2 S2 I2 o2=>?_) (λhn F' H2 s' p2 S2 I2=>?_) (λF' H2 s' e p2 S2 hC=>?_)
   rotate_left
   ·refine aT rfl ?_
    rw[hn] at hK1
    exact hK1 F' H2 s' p2 (T1.trans S2) I2
   ·obtain⟨c1,c2⟩:=S.errC hC
    refine aT (by simpa using c1) ?_
    exact hK3 F' H2 s' e p2 (T1.trans S2) hC
   refine ax rfl ?_
   refine aT rfl ?_
   rw[hn] at hK1
   have T2:=T1.trans S2
   have nr:=o2.read
   have ok:=ij hT hn
   have hlen:=ok.size
   have hcols:∀l∈n.rows,l.length<=16:=λl hl2=>by rw[ok.cols l hl2,hw];simpa using hW
   have t2:aR H2 k p t:=(ht.ext e1).mod S2.mod hk
   unfold aD
   simp only[aq]
   refine ag.ld (c:=ao) (i:=2) (x:=sr) nr.row rfl ?_
   have hl2:Ints .u64 H2 low ll:=hlo.ints hl T2
   refine ua nr.rows hl2 (bx ok.holds) hcols (by omega) ?_
   have hK2:=hK1 F' H2 s' p2 T2 I2
   have hble:=gF ll n.rows
   have hln:=nr.rows.len
   have good:∀i:Nat,below ll n.rows+(if sameAt n.rows ll&&strict then 1 else 0)=i->br ((i:Int)==(sr.n:Int)) (K (jJ,(0:Int)) H2) (∃G:aa->Prop,G H2/\ae (some (⟨k,0,none⟩:Addr)) λa_2=>ld (af .i64) H2 (a_2.add 2) λ(x_3:Int)=>bo ao Kf (Ll dn (.int .i64 (0:Int)) (.int .i64 (Ke.wrap (x_3+(1:Int))))) H2 λ(sl:Sl) H4=>G H4/\ae (some (⟨nb,0,none⟩:Addr)) λa_3=>cP ao G (a_3.add 2) λ(x_4:Sl)=>ae x_4.a λa_4=>(0<=(i:Int)/\(i:Int)<(x_4.n:Int))/\cP ao G (a_4.add ((i:Int).toNat*1)) λ(x_5:Sl)=>bo ao Kf (Ks #[dn,dn] dn #[sl.v,x_5.v]) H4 λ(s:Sl) H5=>K (s,(0:Int)) H5):=by
    intro i hi
    have hile:i<=n.rows.length:=by
     cases hsa:sameAt n.rows ll with
     |false=>rw[hsa] at hi;simp at hi;omega
     |true=>
       have:=(bV.1 hsa).1
       split at hi<;>omega
    have hleaf:jz n.rows ll strict=n.rows[i]?:=by unfold jz;rw[hi]
    simp only at hK1 hK2
    rw[hleaf] at hK1 hK2
    refine ak (λhc=>?_) (λhc=>?_)
    ·have e0:i=n.rows.length:=by
      have:(i:Int)=(sr.n:Int):=by simpa using hc
      omega
     rw[e0,Mh (Kl _)] at hK2
     exact hK2
    ·have e0:i<n.rows.length:=by
      have:¬(i:Int)=(sr.n:Int):=by simpa using hc
      omega
     rw[Kg e0] at hK1
     refine Cw nr.rows nr.row t2 hw hW e0 (by rw[bU e0];exact hcols _ (Kt _)) λsl A nn o e bb=>?_
     refine hK1 F' A s' (p2.ext e) (T2.trans (.bp e)) I2 sl nn (by rw[<-bU e0];exact o) λc hc=>?_
     have:=bb c hc
     have hz1:=T2.mod.size
     exact⟨by omega,λu=>by have:=p2.lt c u;omega⟩
   refine ak (λhc=>?_) (λhc=>?_)
   ·have hsa:sameAt n.rows ll=true:=by simp only[KD] at hc;exact hc.1
    have hst:strict=true:=by simp only[KD] at hc;exact hc.2
    have hbl:=(bV.1 hsa).1
    refine ag.ld (c:=ao) (i:=2) (x:=sr) nr.row rfl ?_
    simp only
    rw[aK _ (by omega)]
    exact good (below ll n.rows+1) (by rw[hsa,hst];rfl)
   ·refine ag.ld (c:=ao) (i:=2) (x:=sr) nr.row rfl ?_
    exact good (below ll n.rows) (by rw[hc];rfl)
 |succ above ih=>
   intro ab sp a b F H s m K hI hm hab hg ht hp hk hpg hs hl hlo hK1 hK3
   refine AB.of ?_
   unfold AB.vc
   have hT:=(S.pre hI).2.2.2.2.2
   refine ar λH1 z1 r1 e1=>?_
   have hkl:=aG ht
   have T1:Step F F H H1:=.bp e1
   refine ag.jq (c:=fQ [ao,ao]) (x:=(a,b)) r1 rfl rfl ?_
   unfold St.find at hm hK1
   have hm1:m<30000000000:=by
    cases hn:x.node t.width depth (above+1) ab sp<;>rw[hn] at hm<;>simp only at hm<;>omega
   refine lY (above:=above+1) S hI hm1 (hg.mod e1 id) (ht.ext e1) (hp.ext e1) hk hpg (hs.step T1) hd (λn hn F' H2 s' nb sk sr rs p2 S2 I2 o2=>?_) (λhn F' H2 s' p2 S2 I2=>?_) (λF' H2 s' e p2 S2 hC=>?_)
   rotate_left
   ·refine aT rfl ?_
    rw[hn] at hK1
    exact hK1 F' H2 s' p2 (T1.trans S2) I2
   ·obtain⟨c1,c2⟩:=S.errC hC
    refine aT (by simpa using c1) ?_
    exact hK3 F' H2 s' e p2 (T1.trans S2) hC
   refine ax rfl ?_
   refine ax (by simp only[beq_eq_false_iff_ne,ne_eq];omega) ?_
   rw[hn] at hK1 hm
   simp only at hK1 hm
   have T2:=T1.trans S2
   have nr:=o2.read
   have ok:=ij hT hn
   have hlen:=ok.size
   obtain⟨i1,i2,i3⟩:=ok.inner (Om _)
   have hcols:∀l∈n.rows,l.length<=16:=λl hl2=>by rw[ok.cols l hl2,hw];simpa using hW
   have t2:aR H2 k p t:=(ht.ext e1).mod S2.mod hk
   unfold aD
   simp only[aq]
   have hl2:Ints .u64 H2 low ll:=hlo.ints hl T2
   refine sV nr hl2 (bx ok.holds) hcols (by omega) ?_
   have hcl:=iO (n:=n) (l:=ll)
   have hs2:dQ F' H2 a b sp:=hs.step T2
   have rp2:ag H2 H.size wG #[a.v,b.v]:=r1.mod S2.mod λu=>by have:=hp.lt _ u;omega
   have hnp:¬F' H.size:=λu=>(S2.own _ u).elim (λv=>by have:=hp.lt _ v;omega) λv=>by omega
   have hkF:¬F' k:=λu=>(T2.own _ u).elim hk λv=>by omega
   have hg2:Gl H2:=hg.mod T2.mod hp.du
   have hlo2:qz F' H2 low ll:=hlo.step T2
   generalize hc0:n.child ll=c0 at*
   obtain⟨g,hgdef⟩:∃g,g=λi=>x.find t.width depth ll strict above (n.kids.getD i 0) (sp.of n i):=⟨_,rfl⟩
   rw[<-hgdef] at hK1 hm
   obtain⟨N,hN⟩:∃N,n.kids.length=c0+N:=⟨n.kids.length - c0,by omega⟩
   have hsub:n.kids.length - c0=N:=by omega
   rw[hsub] at hK1 hm
   refine av N (λj z A=>z=((c0+j:Nat):Int)/\j<=N/\∃F1 s1 cost,an F1 A p dp s1/\Step F' F1 H2 A/\I s1 x (m+1+cost)/\jX g c0 N=(cost+(jX g (c0+j) (N - j)).1,(jX g (c0+j) (N - j)).2)) ⟨rfl,KU _,F',s',0,p2,.refl _ _,I2,by simp⟩ ?_
   rintro j z A next hj ⟨rfl,_,F1,s1,cost,pA,SA,IA,hgo⟩ hnext
   have nA:=nr.step SA
   refine ag.ld (c:=ao) (i:=1) (x:=sk) nA.row rfl ?_
   have hkn:sk.n=c0+N:=by have:=nA.kids.len;simp at this;omega
   refine ak (λhc=>?_) (λhc=>?_)
   ·have hlt:j<N:=by
     have:((c0+j:Nat):Int)<(sk.n:Int):=by simpa using hc
     omega
    refine⟨λD=>Ext A D,.refl _ _,?_⟩
    refine ag.cP (c:=ao) (i:=1) (x:=sk) (cs:=λ_=>#[.int .i64 (ab:Int),sk.v,sr.v]) (λD hD=>nA.row.ext hD) (λ_ _=>rfl) ?_
    obtain⟨ad,q1,q2⟩:=nA.kids.at (i:=c0+j) (by simp;omega)
    have hkid:(Td MO n.kids)[c0+j]'(by simp;omega)=((n.kids.getD (c0+j) 0:Nat):Int):=by
     simp[KQ,Kg (show c0+j<n.kids.length by omega)]
    rw[hkid] at q2
    refine cg ad q1 ⟨⟨by omega,by omega⟩,((n.kids.getD (c0+j) 0:Nat):Int),λD hD=>?_,?_⟩
    ·simp only[KI,Ld]
     exact hD.cell q2 id
    refine ag.jq (c:=fQ [ao,ao]) (x:=(a,b)) (rp2.mod SA.mod hnp) rfl rfl ?_
    refine BF (hs2.step SA) nA (o2.step SA).HQ (by omega) (by omega) λu v A2 e2 s2=>?_
    refine⟨e2,?_⟩
    have eab:Ke.wrap (((above+1:Nat):Int) - 1)=(above:Int):=by rw[wrap64 (by omega) (by omega)];omega
    rw[eab]
    obtain⟨M,hM⟩:∃M,N - j=M+1:=⟨N - j - 1,by omega⟩
    have hM2:N - (j+1)=M:=by omega
    rw[hM] at hgo
    have hcost:=BJ (f:=g) (i:=c0+j) (k:=M)
    have hgj:g (c0+j)=x.find t.width depth ll strict above (n.kids.getD (c0+j) 0) (sp.of n (c0+j)):=by rw[hgdef]
    have htot:(jX g c0 N).1=cost+(jX g (c0+j) (M+1)).1:=by rw[hgo]
    have TA:=T2.trans SA
    have TA2:Step F F1 H A2:=TA.trans (.bp e2)
    have S2A:Step F' F1 H2 A2:=SA.trans (.bp e2)
    have hz2:=S2A.mod.size
    have hz1:=T2.mod.size
    refine ih (n.kids.getD (c0+j) 0) (sp.of n (c0+j)) u v F1 A2 s1 (m+1+cost) _ IA (by rw[<-hgj];omega) (by omega) (hg2.mod S2A.mod p2.du) (t2.mod S2A.mod hkF) (pA.ext e2) (λw=>(S2A.own _ w).elim hkF λw=>by omega) ?_ s2 (hlo2.ints hl2 S2A) (hlo2.step S2A) (λF3 A3 s3 p3 S3 I3=>?_) (λF3 A3 s3 e p3 S3 hC=>?_)
    ·have:n.kids.getD (c0+j) 0<4294967296:=by
      have hlt2:c0+j<n.kids.length:=by omega
      simp only[KQ,Kg hlt2,Mn]
      exact ok.kids _ (Kt hlt2)
     omega
    ·rw[<-hgj] at I3 ⊢
     have T3:=TA2.trans S3
     cases hr:(g (c0+j)).2 with
     |none=>
       unfold kT
       dsimp only
       refine aT rfl ?_
       have e5:=wo (f:=g) (i:=c0+j) (k:=M) (by rw[hr];simp)
       rw[e5] at hgo htot
       have:=hK1 F3 A3 s3 p3 T3 (by
        rw[hgo];simp only;have e6:m+(1+(cost+(g (c0+j)).1))=m+1+cost+(g (c0+j)).1:=by omega
        rw[e6];exact I3)
       rw[hgo,hr] at this
       exact this
     |some o=>
       cases o with
       |none=>
         unfold kT
         dsimp only
         refine ax rfl ?_
         rw[CF hr] at hgo
         refine hnext hlt _ _ ⟨aK _ (by omega),by omega,F3,s3,cost+(g (c0+j)).1,p3,S2A.trans S3,?_,?_⟩
         ·have e6:m+1+(cost+(g (c0+j)).1)=m+1+cost+(g (c0+j)).1:=by omega
          rw[e6];exact I3
         ·rw[hgo,hM2]
          simp only[Nat.add_assoc]
       |some l=>
         unfold kT
         intro sl nn o5 f5
         dsimp only
         refine aT (by cases q9:sl.a with|none=>exact absurd q9 nn|some _=>rfl) ?_
         have e5:=wo (f:=g) (i:=c0+j) (k:=M) (by rw[hr];simp)
         rw[e5] at hgo htot
         have:=hK1 F3 A3 s3 p3 T3 (by
          rw[hgo];simp only;have e6:m+(1+(cost+(g (c0+j)).1))=m+1+cost+(g (c0+j)).1:=by omega
          rw[e6];exact I3)
         rw[hgo,hr] at this
         exact this sl nn o5 λc hc5=>⟨by have:=(f5 c hc5).1;omega,(f5 c hc5).2⟩
    ·refine aT (by have:=(S.errC hC).1;simp[jJ,this]) ?_
     exact hK3 F3 A3 s3 e p3 (TA2.trans S3) hC
   ·have hge:j=N:=by
     have:¬((c0+j:Nat):Int)<(sk.n:Int):=by simpa using hc
     omega
    subst hge
    have e5:jX g (c0+j) (j - j)=(0,some none):=by rw[Nat.sub_self];unfold jX;rfl
    rw[e5] at hgo
    have:=hK1 F1 A s1 pA (T2.trans SA) (by
     rw[hgo];simp only;have e6:m+(1+(cost+0))=m+1+cost:=by omega
     rw[e6];exact IA)
    rw[hgo] at this
    exact this
end
theorem az.Bl {H:aa}{t:TypeId}{K:Addr->aa->Prop}(hK:∀H',az H' 0 t 1 ⟨some ⟨H.size,0,none⟩,0,0⟩ []->Ext H H'->K ⟨H.size,0,none⟩ H'):aM H #[] t K:=
 hK _ (az.fresh (KU _) (Kl _) (by unfold maxLen;omega) rfl rfl rfl) (Mod.push _ _ _)
def Nd.pre (n:Nd):List UInt8:=if n.kids=[] then [] else Ky (n.kids.length/256)::Ky n.kids.length::n.kids.flatMap qS
theorem Nd.rT (n:Nd):n.bytes=n.pre++cR n.rows:=rfl
theorem y4 {H:aa}{s x:Sl}{bb cc:List UInt8}{K:Sl->aa->Prop}(h:az H 0 kN 1 s ((dz bb).map (Km .u8)))(hx:cG H x cc)(hb:bb.length+cc.length<=1000000)
  (hK:∀(s':Sl) (H':aa),az H' 0 kN 1 s' ((dz (bb++cc)).map (Km .u8))->Mod (ai s) H H'->(∀b,ai s' b->ai s b\/H.size<=b)->K s' H'):
  bo ao Kf (Ks #[iy,iy] iy #[s.v,x.v]) H K:=by
 have hsn:=h.1
 simp only[Ld,KM,dN] at hsn
 have hxn:=hx.n
 refine GD.append (base:=0) (s:=s) (x:=x) (ws:=(dz cc).map (Km .u8)) h (by simp;omega) hx.reads (ic _ _) (by omega) (by omega) (KU _) ?_
 intro s' H' n1 o1 m1 b1 _
 refine hK s' H' ?_ m1 b1
 rw[pT,KX];exact o1
section
variable {H:aa}{k p dp:Nat}{t:Tr}{F:Nat->Prop}{s:Pl}{q:Nat}{I:Pl->St->Nat->Prop}{B C:Pl->Int->Prop}{x:St}{m:Nat}{nb:Nat}{ab:Int}{sk sr:Sl}{n:Nd}
set_option maxHeartbeats 2000000 in
theorem oW {K:Int->aa->Prop}(hg:Gl H)(h:aR H k p t)(hp:an F H p dp s)(hk:¬F k)(hkn:k≠nb)(hn:cz F H nb ab sk sr n)(hfit:n.bytes.length<=504)(hkl:n.kids.length<=504)(hrl:n.rows.length<=504)(hcols:∀l∈n.rows,l.length<=16)
  (hpg:ab=-1\/(0<=ab/\ab<=1000000000000))
  (hnm:t.name.size<=9223372036854775807) (hlogs:s.d.bf<68719470000) (hnx:s.next<1099511627776) (h0:0<=s.next) (hft:s.Fit)
  (hK1:ab=-1->∀F' H',an F' H' p dp (s.more t.name n.ab.1 n.ab.2).1->Step (λb=>F b\/b=nb) (λb=>F' b\/b=nb) H H'->cz F' H' nb (s.fresh t.name).2.2.1 sk sr n->K (s.more t.name n.ab.1 n.ab.2).2 H')
  (hK2:ab≠-1->∀F' H',an F' H' p dp (s.over t.name ab n.ab.1 n.ab.2).1->Step (λb=>F b\/b=nb) (λb=>F' b\/b=nb) H H'->cz F' H' nb ab sk sr n->K (s.over t.name ab n.ab.1 n.ab.2).2 H'):uE.sp (aD k) (aD nb) H K:=by
 refine uE.of ?_
 unfold uE.vc
 have hkl0:=aG h
 refine⟨λz A=>∃F1 s1 pg,an F1 A p dp s1/\cz F1 A nb pg sk sr n/\aR A k p t/\¬F1 k/\Gl A/\s1.next<9223372036854775807/\(z.2≠0->K z.2 A)/\
  (z.2=0->∀F' H',an F' H' p dp (Pl.leave (s1.set z.1 n.ab.1 n.ab.2) z.1).1->Step F1 F' A H'->cz F' H' nb pg sk sr n->K (Pl.leave (s1.set z.1 n.ab.1 n.ab.2) z.1).2 H'),?_,?_⟩
 ·simp only[aq,aD]
  refine ag.ld (c:=af .i64) (i:=0) (x:=ab) hn.row rfl ?_
  refine ak (λhc=>?_) (λhc=>?_)
  ·have e0:ab=-1:=by
    have:ab<0:=by simpa using hc
    omega
   refine ag.ld (c:=au) (i:=0) (x:=aD p) h rfl ?_
   refine ag.ld (c:=cX) (i:=1) (x:=t.name) h rfl ?_
   refine uO hg hp hnm (by omega) (by omega) hft λF1 H1 p1 S1=>?_
   have n1:=hn.step S1
   have hK1:=hK1 e0
   unfold Pl.more at hK1
   have hnx1:(s.fresh t.name).1.next<=s.next+1:=s.qG h0 hnx
   generalize (s.fresh t.name).1=s1 at*
   generalize (s.fresh t.name).2.1=hd at*
   generalize (s.fresh t.name).2.2.1=pg at*
   generalize (s.fresh t.name).2.2.2=e at*
   refine ag.st n1.row (i:=0) (by simp) rfl λH2 r2 m2 z2=>?_
   have hkF1:¬F1 k:=λu=>(S1.own _ u).elim hk λu=>by omega
   have mN:Step (λb=>F1 b\/b=nb) (λb=>F1 b\/b=nb) H1 H2:=⟨m2.mono λ_ _ u=>.inr u,λ_ u=>.inl u⟩
   have n2:cz F1 H2 nb pg sk sr n:=⟨r2,n1.off,n1.kidsO.ints n1.kids mN,n1.kidsO.step mN,n1.rows.step mN⟩
   have p2:an F1 H2 p dp s1:=p1.aA λb hb hl=>m2.same b hl λu=>n1.off (u▸hb)
   have t2:aR H2 k p t:=(h.mod S1.mod hk).mod m2 hkn
   have g2:Gl H2:=(hg.mod S1.mod hp.du).aA (m2.same _ (hg.mod S1.mod hp.du).lt λu=>by
    have q1:=n1.row
    have q2:=(hg.mod S1.mod hp.du) 0 (by decide)
    rw[u] at q2
    have:=cv (o:=0) q1 (v:=.int .i64 ab) rfl
    rw[this] at q2;cases q2)
   have S2:Step (λb=>F b\/b=nb) (λb=>F1 b\/b=nb) H H2:=(S1.with nb).trans mN
   refine⟨F1,s1,pg,p2,n2,t2,hkF1,g2,by omega,λhe=>?_,λhe F' H' p3 S3 n3=>?_⟩
   ·have he:e≠0:=he
    rw[if_pos he] at hK1
    exact hK1 F1 H2 p2 S2 n2
   ·have he:¬e≠0:=by simpa using he
    have hkd:n.ab.1≠0:=by unfold Nd.ab;simp only;split<;>decide
    rw[if_neg he,if_neg hkd] at hK1
    exact hK1 F' H' p3 (S2.trans (S3.with nb)) n3
  ·have e0:ab≠-1:=λu=>by subst u;simp at hc
   have e1:0<=ab/\ab<=1000000000000:=hpg.resolve_left e0
   refine ag.ld (c:=au) (i:=0) (x:=aD p) h rfl ?_
   refine ag.ld (c:=cX) (i:=1) (x:=t.name) h rfl ?_
   refine ag.ld (c:=af .i64) (i:=0) (x:=ab) hn.row rfl ?_
   refine xf hg hp hnm (by omega) (by omega) (by omega) (by omega) λF1 H1 p1 S1=>?_
   have n1:=hn.step S1
   have hK2:=hK2 e0
   unfold Pl.over at hK2
   have hnx1:(s.bR t.name ab).1.next<=s.next+1:=s.qk h0 hnx
   generalize (s.bR t.name ab).1=s1 at*
   generalize (s.bR t.name ab).2.1=hd at*
   generalize (s.bR t.name ab).2.2=e at*
   have hkF1:¬F1 k:=λu=>(S1.own _ u).elim hk λu=>by omega
   refine⟨F1,s1,ab,p1,n1,h.mod S1.mod hk,hkF1,hg.mod S1.mod hp.du,by omega,λhe=>?_,λhe F' H' p3 S3 n3=>?_⟩
   ·have he:e≠0:=he
    rw[if_pos he] at hK2
    exact hK2 F1 H1 p1 (S1.with nb) n1
   ·have he:¬e≠0:=by simpa using he
    rw[if_neg he] at hK2
    exact hK2 F' H' p3 ((S1.with nb).trans (S3.with nb)) n3
 ·rintro⟨hd,e⟩ H1 ⟨F1,s1,pg,p1,n1,t1,hkF1,g1,hnx1,c1,c2⟩
  dsimp only at c1 c2 ⊢
  refine ak (λhc=>c1 (by simpa using hc)) (λhc=>?_)
  have c2:=c2 (by simpa using hc)
  clear c1 hK1 hK2
  refine az.Bl λH5 o5 e5=>?_
  have hkln:sk.n=n.kids.length:=by have:=n1.kids.len;simpa using this
  refine⟨λz A=>z.1=(n.ab.1.toNat:Int)/\az A 0 kN 1 z.2 ((dz n.pre).map (Km .u8))/\Ext H1 A/\∀c,ai z.2 c->H1.size<=c,?_,?_⟩
  ·simp only[aq,aD]
   refine ag.ld (c:=ao) (i:=1) (x:=sk) (n1.row.ext e5) rfl ?_
   have f5:∀c,ai (Sl.mk (some ⟨H1.size,0,none⟩) 0 0) c->H1.size<=c:=by
    rintro c ⟨ad,ha,rfl⟩
    cases ha;exact Kl _
   refine ak (λhc=>?_) (λhc=>?_)
   ·have hk0:n.kids≠[]:=λu=>by rw[u] at hkln;simp[hkln] at hc
    refine ag.ld (c:=ao) (i:=1) (x:=sk) (n1.row.ext e5) rfl ?_
    refine ag.ld (c:=ao) (i:=1) (x:=sk) (n1.row.ext e5) rfl ?_
    have e8:aZ .i64 (sk.n:Int) 8=((n.kids.length/256:Nat):Int):=by rw[hkln];exact D8 _ 8 (by decide)
    rw[e8,hkln,jF,jF]
    have ev:#[Km .u8 ((Ky (n.kids.length/256)).toNat:Int),Km .u8 ((Ky n.kids.length).toNat:Int)]=((dz [Ky (n.kids.length/256),Ky n.kids.length]).map (Km .u8)).toArray:=rfl
    rw[ev]
    refine iG _ λpp H7 z7 q7 a7 e7=>?_
    refine y4 (s:=⟨some ⟨H1.size,0,none⟩,0,0⟩) (bb:=[]) (x:=⟨some pp,2,2⟩) (o5.ext e7) (a7 2) (by simp) λb8 H8 o8 m8 f8=>?_
    have e18:Ext H1 H8:=((Ext.mod (e5.trans e7)).trans m8).ext f5
    have hz:=(e5.trans e7).size
    have g8:∀c,ai b8 c->H1.size<=c:=λc u=>by
     rcases f8 c u with v|v
     ·exact f5 c v
     ·omega
    refine ag.ld (c:=ao) (i:=1) (x:=sk) (n1.row.ext e18) rfl ?_
    refine av n.kids.length (λi z A=>z.2=(i:Int)/\az A 0 kN 1 z.1 ((dz ([Ky (n.kids.length/256),Ky n.kids.length]++(n.kids.take i).flatMap qS)).map (Km .u8))/\Ext H1 A/\∀c,ai z.1 c->H1.size<=c)
     ⟨rfl,by simpa using o8,e18,g8⟩ ?_
    rintro i ⟨bs,_⟩ A next hi ⟨rfl,oA,eA,fA⟩ hnext
    dsimp only at oA fA ⊢
    refine ak (λhc2=>?_) (λhc2=>?_)
    ·have hlt:i<n.kids.length:=by
      have:(i:Int)<(sk.n:Int):=by simpa using hc2
      omega
     refine bB (n1.kids.ext eA) rfl (by simpa using hlt) λad _=>?_
     have hkid:(Td MO n.kids).getD i 0=((n.kids.getD i 0:Nat):Int):=by
      simp[KQ,Kg hlt]
     rw[hkid]
     refine nf λpq H9 b9 e9 q9=>?_
     have hfl:([Ky (n.kids.length/256),Ky n.kids.length]++(n.kids.take i).flatMap qS).length<=10000:=by
      rw[Kv,fe];simp;omega
     refine y4 (oA.ext e9) b9 (by rw[fx];omega) λb10 H10 o10 m10 f10=>?_
     have hzA:=eA.size
     have hz9:=e9.size
     refine hnext hlt _ _ ⟨aK i (by omega),?_,((Ext.mod (eA.trans e9)).trans m10).ext fA,λc u=>?_⟩
     ·have et:n.kids.take (i+1)=n.kids.take i++[n.kids.getD i 0]:=by
       rw[KB hlt];simp[KQ,Kg hlt]
      rw[et,NU,<-Lk]
      simpa using o10
     ·rcases f10 c u with v|v
      ·exact fA c v
      ·omega
    ·have hge:i=n.kids.length:=by
      have:¬(i:Int)<(sk.n:Int):=by simpa using hc2
      omega
     subst hge
     rw[KV (Kl _)] at oA
     refine⟨?_,?_,eA,fA⟩
     ·unfold Nd.ab;simp only;rw[if_neg hk0];rfl
     ·unfold Nd.pre;rw[if_neg hk0];exact oA
   ·have hk0:n.kids=[]:=KY (by
     have:¬((sk.n:Int)>0):=by simpa using hc
     omega)
    refine⟨?_,?_,e5,f5⟩
    ·unfold Nd.ab;simp only;rw[if_pos hk0];rfl
    ·unfold Nd.pre;rw[if_pos hk0];exact o5
  ·rintro⟨kd,bs⟩ H6 ⟨rfl,o6,e6,f6⟩
   dsimp only at o6 f6 ⊢
   simp only[aq,aD]
   refine ag.ld (c:=ao) (i:=2) (x:=sr) (n1.row.ext e6) rfl ?_
   have hrln:=n1.rows.len
   have hpre:n.pre.length+(cR n.rows).length<=504:=by
    rw[Nd.rT,Kv] at hfit;exact hfit
   refine av n.rows.length (λi z A=>z.2=(i:Int)/\az A 0 kN 1 z.1 ((dz (n.pre++cR (n.rows.take i))).map (Km .u8))/\Ext H1 A/\∀c,ai z.1 c->H1.size<=c)
    ⟨rfl,by simpa[cR] using o6,e6,f6⟩ ?_
   rintro i ⟨bs2,_⟩ A next hi ⟨rfl,oA,eA,fA⟩ hnext
   dsimp only at oA fA ⊢
   refine ak (λhc2=>?_) (λhc2=>?_)
   ·have hlt:i<n.rows.length:=by
     have:(i:Int)<(sr.n:Int):=by simpa using hc2
     omega
    refine(n1.rows.step (.bp eA)).ld hlt λad r _ _ hr=>?_
    have hcl:(n.rows.getD i []).length<=16:=by rw[bU hlt];exact hcols _ (Kt _)
    have et:n.rows.take (i+1)=n.rows.take i++[n.rows.getD i []]:=by
     rw[KB hlt,bU hlt]
    have ey:cR (n.rows.take (i+1))=cR (n.rows.take i)++fT (dU (n.rows.getD i [])):=by
     rw[et];unfold cR;rw[NU];simp
    have hsum:(cR (n.rows.take (i+1))).length<=(cR n.rows).length:=by
     have:n.rows=n.rows.take (i+1)++n.rows.drop (i+1):=(LW _ _).symm
     conv=>rhs;rw[this]
     unfold cR
     rw[NU,Kv];omega
    rw[ey,Kv] at hsum
    refine nh hr (by omega) λsb H9 o9 e9=>?_
    have b9:cG H9 sb (fT (dU (n.rows.getD i []))):=by
     have:=o9.ints
     unfold cG
     rw[lA (lg _)]
     exact this
    refine y4 (oA.ext e9) b9 (by rw[Kv];omega) λb10 H10 o10 m10 f10=>?_
    have hzA:=eA.size
    have hz9:=e9.size
    refine hnext hlt _ _ ⟨aK i (by omega),?_,((Ext.mod (eA.trans e9)).trans m10).ext fA,λc u=>?_⟩
    ·rw[ey,<-Lk];exact o10
    ·rcases f10 c u with v|v
     ·exact fA c v
     ·omega
   ·have hge:i=n.rows.length:=by
     have:¬(i:Int)<(sr.n:Int):=by simpa using hc2
     omega
    subst hge
    rw[KV (Kl _),<-Nd.rT] at oA
    have SA:Step F1 F1 H1 A:=.bp eA
    refine ag.ld (c:=au) (i:=0) (x:=aD p) (t1.ext eA) rfl ?_
    refine Bi (l:=n.ab.2) (kd:=n.ab.1) (g1.mod eA id) (p1.ext eA) oA.ints λF2 H2 p2 S2=>?_
    have hg2:Gl H2:=(g1.mod eA id).mod S2.mod p1.du
    have hn2:(s1.set hd n.ab.1 n.ab.2).1.next=s1.next:=s1.uL hd n.ab.1 n.ab.2
    have n2:=(n1.step SA).step S2
    generalize s1.set hd n.ab.1 n.ab.2=s2 at*
    refine ak (λhc3=>?_) (λhc3=>?_)
    ·have e2:s2.2=0:=by simpa using hc3
     refine ag.ld (c:=au) (i:=0) (x:=aD p) ((t1.ext eA).mod S2.mod hkF1) rfl ?_
     refine pO hg2 p2 (by omega) λF3 H3 p3 S3=>?_
     have el:Pl.leave s2 hd=s2.1.bm hd:=if_pos e2
     rw[el] at c2
     exact c2 F3 H3 p3 ((SA.trans S2).trans S3) (n2.step S3)
    ·have e2:s2.2≠0:=by simpa using hc3
     have el:Pl.leave s2 hd=s2:=if_neg e2
     rw[el] at c2
     exact c2 F2 H2 p2 (SA.trans S2) n2
theorem lE {K:Int->aa->Prop}(S:ib t.name q I B C)(hI:I s x m)(hm:m<30000000000)(hg:Gl H)(h:aR H k p t)(hp:an F H p dp s)(hk:¬F k)(hkn:k≠nb)(hn:cz F H nb (-1) sk sr n)(hfit:n.bytes.length<=504)(hkl:n.kids.length<=504)(hrl:n.rows.length<=504)(hcols:∀l∈n.rows,l.length<=16)
  (hK1:x.N<q->∀F' H' s',an F' H' p dp s'->Step (λb=>F b\/b=nb) (λb=>F' b\/b=nb) H H'->I s' (x.more n) (m+1)->cz F' H' nb (x.N:Int) sk sr n->K 0 H')
  (hKB:¬x.N<q->∀F' H' s' e,an F' H' p dp s'->Step (λb=>F b\/b=nb) (λb=>F' b\/b=nb) H H'->¬F' nb->B s' e->K e H')
  (hKC:∀F' H' s' e,an F' H' p dp s'->Step (λb=>F b\/b=nb) (λb=>F' b\/b=nb) H H'->¬F' nb->C s' e->K e H'):uE.sp (aD k) (aD nb) H K:=by
 obtain⟨b1,b2,b3,b4,b5,b6⟩:=S.pre hI
 have hkd:n.ab.1≠0:=by unfold Nd.ab;simp only;split<;>decide
 refine oW hg h hp hk hkn hn hfit hkl hrl hcols (.inl rfl) S.name (by omega) (by omega) b2 b4 (λ_ F' H' p1 S1 n1=>?_) λu=>absurd rfl u
 by_cases hN:x.N<q
 ·rcases S.more hI hm hfit hkd hN with ⟨a1,a2,a3⟩|hC
  ·rw[a2] at n1
   change K (s.more t.name n.ab.1 n.bytes).2 H'
   rw[a1]
   exact hK1 hN F' H' _ p1 S1 a3 n1
  ·exact hKC F' H' _ _ p1 S1 n1.off hC
 ·rcases S.full hI hm hfit hkd hN with hB|hC
  ·exact hKB hN F' H' _ _ p1 S1 n1.off hB
  ·exact hKC F' H' _ _ p1 S1 n1.off hC
theorem oQ {K:Int->aa->Prop}{g:Nat}(S:ib t.name q I B C)(hI:I s x m)(hm:m<30000000000)(hg:Gl H)(h:aR H k p t)(hp:an F H p dp s)(hk:¬F k)(hkn:k≠nb)(hn:cz F H nb (g:Int) sk sr n)(hgN:g<x.N)(hfit:n.bytes.length<=504)(hkl:n.kids.length<=504)(hrl:n.rows.length<=504)(hcols:∀l∈n.rows,l.length<=16)
  (hK1:∀F' H' s',an F' H' p dp s'->Step (λb=>F b\/b=nb) (λb=>F' b\/b=nb) H H'->I s' (x.put g n) (m+1)->cz F' H' nb (g:Int) sk sr n->K 0 H')
  (hKC:∀F' H' s' e,an F' H' p dp s'->Step (λb=>F b\/b=nb) (λb=>F' b\/b=nb) H H'->¬F' nb->C s' e->K e H'):uE.sp (aD k) (aD nb) H K:=by
 obtain⟨b1,b2,b3,b4,b5,b6⟩:=S.pre hI
 refine oW hg h hp hk hkn hn hfit hkl hrl hcols (.inr ⟨by omega,by omega⟩) S.name (by omega) (by omega) b2 b4 (λu=>by omega) λ_ F' H' p1 S1 n1=>?_
 rcases S.over hI hm hfit hgN (kd:=n.ab.1) with ⟨a1,a3⟩|hC
 ·change K (s.over t.name (g:Int) n.ab.1 n.bytes).2 H'
  rw[a1]
  exact hK1 F' H' _ p1 S1 a3 n1
 ·exact hKC F' H' _ _ p1 S1 n1.off hC
end
theorem Step.or {F F':Nat->Prop}{H H':aa}(S:Step F F' H H')(X:Nat->Prop):Step (λb=>F b\/X b) (λb=>F' b\/X b) H H':=
 ⟨S.mod.mono λ_ _ h=>.inl h,λb hb=>by
  rcases hb with q|q
  ·exact(S.own b q).imp .inl id
  ·exact .inl (.inr q)⟩
theorem Step.HN {F F' G G':Nat->Prop}{H H':aa}(S:Step F F' H H')(h1:∀b,b<H.size->F b->G b)(h2:∀b,G' b->F' b\/G b\/H.size<=b):Step G G' H H':=
 ⟨S.mod.mono h1,λb hb=>by
  rcases h2 b hb with q|q|q
  ·rcases S.own b q with r|r
   ·rcases K8 b H.size with u|u
    ·exact .inl (h1 b u r)
    ·exact .inr u
   ·exact .inr r
  ·exact .inl q
  ·exact .inr q⟩
structure dH (F:Nat->Prop)(H:aa)(r:Sl)(l:List Int):Prop where
 off:fL F H r
 ints:Ints .u64 H r l
theorem dH.step {F F':Nat->Prop}{H H':aa}{r:Sl}{l:List Int}(h:dH F H r l)(S:Step F F' H H'):dH F' H' r l:=⟨h.off.step S,h.off.ints h.ints S⟩
theorem dH.mono {F G:Nat->Prop}{H:aa}{r:Sl}{l:List Int}(h:dH F H r l)(hs:∀b,b<H.size->G b->F b):dH G H r l:=⟨h.off.mono hs,h.ints⟩
theorem wL {a:Option Addr}{c i n:Nat}{ad:Addr}(h:bw a c i n=some ad):∃a0,a=some a0/\a0.block=ad.block:=by
 unfold bw at h
 split at h
 ·exact⟨ad,h,rfl⟩
 ·cases a with
  |none=>simp at h
  |some a0=>
    simp at h
    exact⟨a0,rfl,by rw[<-h,bO]⟩
theorem fL.cut {F:Nat->Prop}{H:aa}{s:Sl}(h:fL F H s){c i n m k:Nat}:fL F H ⟨bw s.a c i n,m,k⟩:=λad ha=>by
 obtain⟨a0,q1,q2⟩:=wL ha
 have:=h a0 q1
 rw[q2] at this;exact this
theorem cJ.drop {F:Nat->Prop}{H:aa}{s:Sl}{ls:List (List Int)}(h:cJ F H s ls)(hc:s.n<=s.c){i:Nat}(hi:i<=ls.length):cJ F H ⟨bw s.a s.c i 1,s.n - i,s.c - i⟩ (ls.drop i):=by
 have hln:=h.len
 refine⟨by rw[KS];show s.n - i=_;omega,h.off.cut,λj hj=>?_⟩
 rw[KS] at hj
 obtain⟨ad,r,q1,q2,q4,q5⟩:=h.at' (i+j) (by omega)
 refine⟨ad.add i,r,?_,by rw[add_add];exact q2,q4,?_⟩
 ·show bw s.a s.c i 1=_
  unfold bw
  rw[if_neg (by omega),q1,Ld];rfl
 ·rw[List.getElem_drop];exact q5
theorem cJ.take {F:Nat->Prop}{H:aa}{s:Sl}{ls:List (List Int)}(h:cJ F H s ls){i c d:Nat}(hi:i<=ls.length):cJ F H ⟨bw s.a d 0 1,i,c⟩ (ls.take i):=by
 refine⟨by rw[KF];show i=_;omega,h.off.cut,λj hj=>?_⟩
 rw[KF] at hj
 obtain⟨ad,r,q1,q2,q4,q5⟩:=h.at' j (by omega)
 refine⟨ad,r,by show bw s.a d 0 1=_;rw[fS,q1],q2,q4,?_⟩
 rw[List.getElem_take];exact q5
theorem HK {k:IntKind}{H:aa}{s:Sl}{l:List Int}(h:Ints k H s l)(hc:s.n<=s.c){i:Nat}(hi:i<=l.length):Ints k H ⟨bw s.a s.c i 1,s.n - i,s.c - i⟩ (l.drop i):=by
 have hln:=h.len
 refine⟨by rw[KS];show s.n - i=_;omega,λj v hv=>?_⟩
 rw[RJ,List.getElem?_drop] at hv
 obtain⟨ad,q1,q2⟩:=h.reads _ v hv
 have hj:i+j<l.length:=by have:=(Kj.1 hv).1;simpa using this
 refine⟨ad.add i,?_,by rw[add_add];exact q2⟩
 show bw s.a s.c i 1=_
 unfold bw
 rw[if_neg (by omega),q1,Ld];rfl
theorem Ii {k:IntKind}{H:aa}{s:Sl}{l:List Int}(h:Ints k H s l){i c d:Nat}(hi:i<=l.length):Ints k H ⟨bw s.a d 0 1,i,c⟩ (l.take i):=by
 refine⟨by rw[KF];show i=_;omega,?_⟩
 show Reads H (bw s.a d 0 1) _
 rw[fS,NZ]
 exact h.reads.take i
section
variable {H:aa}{k p dp:Nat}{t:Tr}{F:Nat->Prop}{s:Pl}{q:Nat}{I:Pl->St->Nat->Prop}{B C:Pl->Int->Prop}{x:St}{m:Nat}{nb:Nat}{ab:Int}{sk sr:Sl}{n:Nd}{W:Nat}
theorem Et {K:Int->aa->Prop}(h:aR H k p t)(hw:t.width=(W:Int))(hW:W<=16)(hK:∀H',Ext H H'->K (uk W) H'):AN.sp (aD k) H K:=by
 refine AN.of ?_
 unfold AN.vc
 simp only[aq,aD]
 refine ag.ld (c:=af .i64) (i:=2) (x:=t.width) h rfl ?_
 rw[hw]
 refine iY.make (base:=0) (by omega) (Int.le_refl _) (by omega) (by omega) (KU _) ?_
 intro sl H1 n1 o1 e1 b1 _
 have o1':az H1 0 iB 1 sl ((KG W (0:Int)).map (Km .u64)):=by
  rw[List.map_replicate];simpa using o1
 refine nh o1'.ints (by simp;omega) λsb H2 o2 e2=>?_
 obtain⟨p1,p2⟩:=jg (l:=KG W (0:Int)) (w:=W) (by simp) hW
 have hs:=bL (W:Int)
 have hn:(sb.n:Int)=aF W:=by
  have:=o2.ints.len
  rw[p1] at this;omega
 rw[hn]
 have w1:Ke.wrap ((4:Int)+aF W)=4+aF W:=wrap64 (by omega) (by omega)
 have w2:Ke.wrap ((502:Int)+aF W)=502+aF W:=wrap64 (by omega) (by omega)
 rw[w1,w2]
 refine⟨by omega,?_⟩
 have hf:Ke.wrap (KE (502+aF W) (4+aF W))=uk W:=by
  have h1:=Int.tdiv_nonneg (a:=502+aF (W:Int)) (b:=4+aF W) (by omega) (by omega)
  have h2:=Int.tdiv_le_self (a:=502+aF (W:Int)) (4+aF W) (by omega)
  unfold uk
  exact wrap64 (by omega) (by omega)
 rw[hf]
 exact hK H2 (e1.trans e2)
theorem cz.mono {F G:Nat->Prop}(h:cz F H nb ab sk sr n)(hs:∀b,b<H.size->G b->F b):cz G H nb ab sk sr n:=
 ⟨h.row,λu=>h.off (hs _ (aG h.row) u),h.kids,h.kidsO.mono λb hb u=>u.imp (hs b hb) id,h.rows.mono λb hb u=>u.imp (hs b hb) id⟩
set_option maxHeartbeats 2000000 in
theorem zd {X:Nat->Prop}{K:(Option Addr×Sl×Int)->aa->Prop}(S:ib t.name q I B C)(hI:I s x m)(hm:m<30000000000)(hg:Gl H)(h:aR H k p t)(hp:an F H p dp s)(hk:¬F k)(hkn:k≠nb)
  (hn:cz (λb=>F b\/X b) H nb ab sk sr n) (hck:sk.n<=sk.c) (hcr:sr.n<=sr.c) (h1:1<=n.rows.length) (hin:n.kids=[]\/n.kids.length=n.rows.length+1)
  (hfit:n.right.bytes.length<=504) (hkl:n.kids.length<=504) (hrl:n.rows.length<=600) (hrl2:n.right.rows.length<=504) (hcols:∀l∈n.rows,l.length<=16)
  (hK1:x.N<q->∀F' H' s' mb v1 v2 up skl srl,an F' H' p dp s'->Step (λb=>F b\/b=nb) (λb=>F' b\/b=nb) H H'->I s' (x.more n.right) (m+1)->cz (λb=>F' b\/X b) H' nb ab skl srl n.left->
   ag H' mb nU #[.int .i64 (x.N:Int),v1,v2]->¬F' mb->mb≠nb->H.size<=mb->dH (λb=>(F' b\/X b)\/b=nb) H' up n.up->K (some ⟨mb,0,none⟩,up,0) H')
  (hKB:¬x.N<q->∀F' H' s' e o up,an F' H' p dp s'->Step (λb=>F b\/b=nb) (λb=>F' b\/b=nb) H H'->B s' e->K (o,up,e) H')
  (hKC:∀F' H' s' e o up,an F' H' p dp s'->Step (λb=>F b\/b=nb) (λb=>F' b\/b=nb) H H'->C s' e->K (o,up,e) H'):wU.sp (aD k) (aD nb) H K:=by
 refine wU.of ?_
 unfold wU.vc
 simp only[aq,aD]
 have hrln:=hn.rows.len
 have hkln:sk.n=n.kids.length:=by have:=hn.kids.len;simpa using this
 have hkb:=aG h
 have hnbl:=aG hn.row
 refine ag.ld (c:=ao) (i:=2) (x:=sr) hn.row rfl ?_
 have ehalf:Ke.wrap (KE (sr.n:Int) 2)=((n.rows.length/2:Nat):Int):=by
  rw[hrln,show (2:Int)=((2:Nat):Int) from rfl,<-Int.ofNat_tdiv,wrap64 (by omega) (by omega)]
 rw[ehalf]
 refine ar λH1 z1 r1 e1=>?_
 have n1:=hn.step (.bp e1)
 refine ag.ld (c:=ao) (i:=2) (x:=sr) n1.row rfl ?_
 have hup:=hn.rows.at' (n.rows.length/2) (by omega)
 obtain⟨ad,up,q1,q2,q4,q5⟩:=hup
 refine cg ad q1 ⟨⟨by omega,by omega⟩,up,?_,?_⟩
 ·simp only[KI,Ld]
  exact e1.cell q2 id
 have eup:n.up=n.rows[n.rows.length/2]'(by omega):=by unfold Nd.up;rw[bU]
 have upOk:dH (λb=>(F b\/X b)\/b=nb) H up n.up:=⟨q4,by rw[eup];exact q5⟩
 have hmb:∀F':Nat->Prop,(∀b,F' b->F b)->¬F' H.size:=λF' hF u=>by have:=hp.lt _ (hF _ u);omega
 have hmn:H.size≠nb:=by omega
 have hkm:k≠H.size:=by omega
 -- the step that makes the new node one of those that may be written
 have SX:Step (λb=>F b\/X b) (λb=>(F b\/X b)\/b=H.size) H H1:=⟨Ext.mod e1,λb u=>u.elim .inl λv=>.inr (by omega)⟩
 have nX:=hn.step SX
 have upX:=upOk.step (SX.with nb)
 have fin:∀(H5:aa) (sk' sr' skm srm:Sl),Mod (λb=>b=nb\/b=H.size) H1 H5->H5.size=H1.size->ag H5 H.size nU #[.int .i64 (-1),skm.v,srm.v]->ag H5 nb nU #[.int .i64 ab,sk'.v,sr'.v]->
   Ints .i64 H1 skm (n.right.kids.map MO)->fL (λb=>((F b\/X b)\/b=H.size)\/b=nb) H1 skm->cJ (λb=>((F b\/X b)\/b=H.size)\/b=nb) H1 srm n.right.rows->
   Ints .i64 H1 sk' (n.left.kids.map MO)->fL (λb=>((F b\/X b)\/b=H.size)\/b=nb) H1 sk'->cJ (λb=>((F b\/X b)\/b=H.size)\/b=nb) H1 sr' n.left.rows->
   uE.sp (some ⟨k,0,none⟩) (some ⟨H.size,0,none⟩) H5 λ(r:Int) H6=>K (some ⟨H.size,0,none⟩,up,r) H6:=by
  intro H5 sk' sr' skm srm m5 z5 rm rn km kmo rmm kl klo rll
  have S5:Step (λb=>((F b\/X b)\/b=H.size)\/b=nb) (λb=>((F b\/X b)\/b=H.size)\/b=nb) H1 H5:=⟨m5.mono λb _ u=>u.elim .inr λv=>.inl (.inr v),λb u=>.inl u⟩
  have p5:an F H5 p dp s:=(hp.ext e1).aA λb hb hl=>m5.same b hl λu=>by
   rcases u with u|u
   ·exact hn.off (.inl (u▸hb))
   ·have:=hp.lt b hb;omega
  have t5:aR H5 k p t:=(h.ext e1).mod m5 λu=>u.elim hkn hkm
  have hgl:=hg.lt
  have g5:Gl H5:=(Gl.mod hg e1 id).aA (m5.same _ (Gl.mod hg e1 id).lt λu=>by
   rcases u with u|u
   ·have w2:=hg 0 (by decide)
    rw[u] at w2
    have:=cv (o:=0) hn.row (v:=.int .i64 ab) rfl
    rw[this] at w2;cases w2
   ·omega)
  have nm:cz F H5 H.size (-1) skm srm n.right:=⟨rm,hmb F λ_ u=>u,kmo.ints km S5,(kmo.step S5).mono λb _ u=>u.elim (λv=>.inl (.inl (.inl v))) λv=>.inl (.inr v),(rmm.step S5).mono λb _ u=>u.elim (λv=>.inl (.inl (.inl v))) λv=>.inl (.inr v)⟩
  have nl:cz (λb=>(F b\/X b)\/b=H.size) H5 nb ab sk' sr' n.left:=⟨rn,λu=>u.elim hn.off λv=>hmn v.symm,klo.ints kl S5,klo.step S5,rll.step S5⟩
  have S05:Step (λb=>F b\/b=nb) (λb=>F b\/b=nb) H H5:=⟨⟨by have:=e1.size;omega,λb hb hnF=>by
   rw[m5.same b (by omega) (λu=>by
    rcases u with u|u
    ·exact hnF (.inr u)
    ·omega)]
   exact e1.same b hb id⟩,λb u=>.inl u⟩
  have hkr:n.right.kids.length<=504:=by
   unfold Nd.right
   split
   ·simp
   ·show (n.kids.drop _).length<=_;rw[KS];omega
  have hcr:∀l∈n.right.rows,l.length<=16:=λl hl=>hcols l (by
   unfold Nd.right at hl
   split at hl<;>exact List.mem_of_mem_drop hl)
  have T2:∀{F':Nat->Prop} {H':aa},¬F' H.size->Step (λb=>F b\/b=H.size) (λb=>F' b\/b=H.size) H5 H'->Step (λb=>F b\/b=nb) (λb=>F' b\/b=nb) H H':=λ{F' H'} hF' S6=>by
   have hz:=e1.size
   refine⟨⟨by have:=S6.mod.size;omega,λb hb hnF=>?_⟩,λb hb=>?_⟩
   ·rw[S6.mod.same b (by omega) λu=>by
     rcases u with u|u
     ·exact hnF (.inl u)
     ·omega]
    exact S05.mod.same b hb hnF
   ·rcases hb with u|u
    ·rcases S6.own b (.inl u) with v|v
     ·rcases v with v|v
      ·exact .inl (.inl v)
      ·exact .inr (by omega)
     ·exact .inr (by omega)
    ·exact .inl (.inr u)
  refine lE S hI hm g5 t5 p5 hk hkm nm hfit hkr hrl2 hcr (λhN F' H6 s' p6 S6 I6 n6=>?_) (λhN F' H6 s' e p6 S6 hmF hB=>hKB hN F' H6 s' e _ _ p6 (T2 hmF S6) hB) (λF' H6 s' e p6 S6 hmF hC=>hKC F' H6 s' e _ _ p6 (T2 hmF S6) hC)
  have hmF:¬F' H.size:=n6.off
  have S6X:Step (λb=>(F b\/X b)\/b=H.size) (λb=>(F' b\/X b)\/b=H.size) H5 H6:=S6.HN (λb _ u=>u.elim (λv=>.inl (.inl v)) .inr) λb u=>by
   rcases u with (u|u)|u
   ·exact .inl (.inl u)
   ·exact .inr (.inl (.inl (.inr u)))
   ·exact .inl (.inr u)
  refine hK1 hN F' H6 s' H.size _ _ up sk' sr' p6 (T2 hmF S6) I6 ((nl.step S6X).mono λb _ u=>.inl u) n6.row hmF hmn (Kl _) ?_
  exact((upX.step S5).step (S6X.with nb)).mono λb _ u=>u.elim (λv=>.inl (.inl v)) .inr
 have hw1:Ke.wrap (((n.rows.length/2:Nat):Int)+1)=((n.rows.length/2+1:Nat):Int):=aK _ (by omega)
 rw[hw1]
 simp only[KI,Pu]
 have hh:n.rows.length/2<n.rows.length:=by omega
 clear q2 q5 eup
 generalize hhalf:n.rows.length/2=half at*
 refine ag.ld (c:=ao) (i:=1) (x:=sk) n1.row rfl ?_
 refine ak (λhc=>?_) (λhc=>?_)
 ·have hk0:n.kids≠[]:=λu=>by rw[u] at hkln;simp[hkln] at hc
  have hkr:=hin.resolve_left hk0
  refine ag.ld (c:=ao) (i:=2) (x:=sr) n1.row rfl ?_
  refine⟨by omega,?_⟩
  refine ag.ld (c:=ao) (i:=1) (x:=sk) n1.row rfl ?_
  refine⟨by omega,?_⟩
  refine ag.st r1 (i:=2) (by simp) rfl λH2 r2 m2 z2=>?_
  refine ag.st r2 (i:=1) (by simp) rfl λH3 r3 m3 z3=>?_
  have rn3:ag H3 nb nU #[.int .i64 ab,sk.v,sr.v]:=(n1.row.mod m2 (M7 hmn)).mod m3 (M7 hmn)
  refine ag.ld (c:=ao) (i:=1) (x:=sk) rn3 rfl ?_
  refine⟨by omega,by omega,?_⟩
  refine ag.st rn3 (i:=1) (by simp) rfl λH4 r4 m4 z4=>?_
  refine ag.ld (c:=ao) (i:=2) (x:=sr) r4 rfl ?_
  refine⟨by omega,by omega,?_⟩
  refine ag.st r4 (i:=2) (by simp) rfl λH5 r5 m5 z5=>?_
  have mall:Mod (λb=>b=nb\/b=H.size) H1 H5:=(((m2.mono λ_ _ u=>.inr u).trans (m3.mono λ_ _ u=>.inr u)).trans (m4.mono λ_ _ u=>.inl u)).trans (m5.mono λ_ _ u=>.inl u)
  have er:n.right=⟨n.kids.drop (half+1),n.rows.drop (half+1)⟩:=by unfold Nd.right;rw[if_neg hk0,hhalf]
  have el:n.left=⟨n.kids.take (half+1),n.rows.take half⟩:=by unfold Nd.left;rw[hhalf]
  refine fin H5 ⟨bw sk.a (half+1) 0 1,half+1,half+1⟩ ⟨bw sr.a half 0 1,half,half⟩ ⟨bw sk.a sk.c (half+1) 1,sk.n - (half+1),sk.c - (half+1)⟩ ⟨bw sr.a sr.c (half+1) 1,sr.n - (half+1),sr.c - (half+1)⟩ mall (by omega) (((r3.mod m4 hmn).mod m5 hmn)) r5 ?_ nX.kidsO.cut ?_ ?_ nX.kidsO.cut ?_
  ·rw[er];simp only[RJ];exact HK nX.kids hck (by simp;omega)
  ·rw[er];exact nX.rows.drop hcr (by omega)
  ·rw[el];simp only[NZ];exact Ii nX.kids (by simp;omega)
  ·rw[el];exact nX.rows.take (by omega)
 ·have hk0:n.kids=[]:=KY (by
   have:¬((sk.n:Int)>0):=by simpa using hc
   omega)
  refine ag.ld (c:=ao) (i:=2) (x:=sr) n1.row rfl ?_
  refine⟨by omega,?_⟩
  refine ag.st r1 (i:=2) (by simp) rfl λH2 r2 m2 z2=>?_
  have rn2:ag H2 nb nU #[.int .i64 ab,sk.v,sr.v]:=n1.row.mod m2 (M7 hmn)
  refine ag.ld (c:=ao) (i:=2) (x:=sr) rn2 rfl ?_
  refine⟨by omega,by omega,?_⟩
  refine ag.st rn2 (i:=2) (by simp) rfl λH5 r5 m5 z5=>?_
  have mall:Mod (λb=>b=nb\/b=H.size) H1 H5:=(m2.mono λ_ _ u=>.inr u).trans (m5.mono λ_ _ u=>.inl u)
  have er:n.right=⟨[],n.rows.drop half⟩:=by unfold Nd.right;rw[if_pos hk0,hhalf]
  have el:n.left=⟨[],n.rows.take half⟩:=by unfold Nd.left;rw[hhalf,hk0];rfl
  refine fin H5 sk ⟨bw sr.a half 0 1,half,half⟩ ⟨none,0,0⟩ ⟨bw sr.a sr.c half 1,sr.n - half,sr.c - half⟩ mall (by omega) (r2.mod m5 hmn) r5 ?_ (λad u=>by cases u) ?_ ?_ nX.kidsO ?_
  ·rw[er];exact⟨rfl,Reads.nil _ _⟩
  ·rw[er];exact nX.rows.drop hcr (by omega)
  ·rw[el];have:=nX.kids;rw[hk0] at this;exact this
  ·rw[el];exact nX.rows.take (by omega)
end
end Go.Proofs.YtkehfflpbpdokaaGreatDoor
