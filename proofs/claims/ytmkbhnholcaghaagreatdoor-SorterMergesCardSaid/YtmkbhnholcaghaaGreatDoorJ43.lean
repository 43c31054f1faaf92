/-
 Trees of rows in pages, in plain words.
-/
import Derived.Test.YtmkbhnholcaghaaGreatDoorJ35
import Derived.Test.YtmkbhnholcaghaaGreatDoorJ40
import Derived.Test.YtmkbhnholcaghaaGreatDoorFxw
open ByteArray renaming size_append->Sf
open Go.Builtin renaming append_->Oq
open Go.IntKind renaming i64->Ol
open Go.Proofs.Tryz renaming prog->Oj
open Go.Value renaming int->OF
open Int renaming toNat_natCast->Ov,le_of_eq->W3
open List renaming getElem?_eq_some_iff->Om,getElem?_eq_getElem->On,mem_of_getElem?->Oo,take_succ_eq_append_getElem->Ou,mem_append->Ox,getElem?_map->Oy,mem_map->OC,mem_cons->OG,mem_singleton->OH,map_cons->OJ,mem_cons_of_mem->OM,mem_cons_self->OO,getElem?_append_left->OP,replicate->OR,length_append->OU,length_cons->O3,getElem?_set->O6,length_map->O7,map_append->O8,getElem_mem->Pa,length_take->Pc,getElem?_take->Pd,drop_eq_getElem_cons->Pf,getElem?_append_right->Pr,mem_of_mem_take->Pu,getElem?_set_ne->Pv,sum_cons->Py,getElem?_set_self->Pz,map_set->PK,getElem?_drop->PU,ext_getElem?->Qa,nodup_cons->QJ,set_cons_zero->QL,drop_drop->Ri,take_length->RJ,drop_length->RK,take_set_of_le->S0,getElem?_replicate->S9,set_cons_succ->Tn,set_append_right->TI,mem_iff_getElem->TW,drop_set_of_lt->T2,length->Ui,length_set->Ws,drop->WI
open List.Pairwise renaming nil->Ss,imp->Zt
open Nat renaming le_refl->Ot,le_trans->OE,zero_le->OL,lt_or_ge->Pb,mul_one->Pq,lt_succ_self->RI,add_zero->RO,lt_trichotomy->Sp,sub_self->Ua,not_lt_zero->Vs,succ_pos->VY
open Ne renaming symm->PR
open Option.some renaming inj->OS
namespace Go.Proofs.YtmkbhnholcaghaaGreatDoor
structure St where
 N:Nat
 T:Nat->UInt8×List UInt8
section
variable {s:Pl}{n:ByteArray}{g:Int}{k:UInt8}{b:List UInt8}
end
abbrev nw:=ByteArray->Option St
section
variable {p p':Pl}{M:nw}{Q U:Nat}{n:ByteArray}{x:St}
end
section
variable {p p':Pl}{M:nw}{Q U:Nat}{n:ByteArray}{x:St}
end
section
variable {p:Pl}{M:nw}{Q U:Nat}{n:ByteArray}{x:St}
end
theorem vu {α:Type}:∀{A B:List α},A.Nodup->(∀a∈A,a∈B)->A.length<=B.length
 |[],_,_,_=>OL _
 |a::A,B,h,hs=>by
   have e:=hs a OO;obtain⟨C,D,rfl⟩:=List.append_of_mem e;obtain⟨h1,f⟩:=QJ.1 h;have:=vu (A:=A) (B:=C++D) f λb d=>by
    have c:=hs b (OM _ d);rcases Ox.1 c with u|u
    ·exact Ox.2 (.inl u)
    ·rcases OG.1 u with v|v
     ·subst v;exact absurd d h1
     ·exact Ox.2 (.inr v)
   simp only[OU,O3] at this ⊢;omega
section
variable {p:Pl}{M:nw}{Q U:Nat}{n:ByteArray}{x:St}
end
section
variable {p p':Pl}{M:nw}{Q U:Nat}{n:ByteArray}{x:St}
theorem tc {α β:Type}{f:α->β}:∀{l:List α},(l.map f).Nodup->∀{a b:α},a∈l->b∈l->f a=f b->a=b
 |c::l,h,a,b,i,d,e=>by
   rw[OJ,QJ] at h;obtain⟨h1,o⟩:=h;rcases OG.1 i with m|i
   ·rcases OG.1 d with j|d
    ·rw[m,j]
    ·exact absurd (OC.2 ⟨b,d,by rw[<-e,m]⟩) h1
   ·rcases OG.1 d with j|d
    ·exact absurd (OC.2 ⟨a,i,by rw[e,j]⟩) h1
    ·exact tc o i d e
end
section
variable {p:Pl}{M:nw}{Q U:Nat}{n:ByteArray}{x:St}
variable {w:RW}{W:Nat}{rs:List (List Int)}{i:Nat}
end
section
variable {p:Pl}{M:nw}{Q U:Nat}{n:ByteArray}{r:RR}{W:Nat}{rs:List (List Int)}
end
theorem j9:∀{hs:List (Option (List Int))},dL hs=none->∀(j:Nat) (y:List Int),hs[j]?≠some (some y)
 |[],_,j,y=>by simp
 |none::t,h,j,y=>by
   simp only[dL,Option.map_eq_none_iff] at h;cases j with
   |zero=>simp
   |succ j=>simpa using j9 h j y
 |some a::t,h,j,y=>by
   simp only[dL] at h;cases e:dL t with
   |none=>rw[e] at h;cases h
   |some q=>
     obtain⟨k,z⟩:=q;rw[e] at h;simp only at h;split at h<;>cases h
theorem gv:∀{hs:List (Option (List Int))} {i:Nat} {x:List Int},dL hs=some (i,x)->hs[i]?=some (some x)/\∀(j:Nat) (y:List Int),hs[j]?=some (some y)->aT x y<=0/\(j<i->aT x y<0)
 |[],i,x,h=>by simp[dL] at h
 |none::t,i,x,h=>by
   simp only[dL,Option.map_eq_some_iff] at h;obtain⟨⟨k,z⟩,h1,o⟩:=h;cases o;obtain⟨a,b⟩:=gv h1;refine⟨by simpa using a,λj y f=>?_⟩;cases j with
   |zero=>simp at f
   |succ j=>
     obtain⟨c,d⟩:=b j y (by simpa using f);exact⟨c,λq=>d (by simpa using q)⟩
 |some a::t,i,x,h=>by
   simp only[dL] at h;cases e:dL t with
   |none=>
     rw[e] at h;cases h;refine⟨rfl,λj y f=>?_⟩;cases j with
     |zero=>simp at f;subst f;exact⟨W3 (iw _),λq=>absurd q (Nat.lt_irrefl _)⟩
     |succ j=>exact absurd (by simpa using f) (j9 e j y)
   |some q=>
     obtain⟨k,z⟩:=q;rw[e] at h;obtain⟨u,v⟩:=gv e;simp only at h;split at h
     ·rename_i l;cases h;refine⟨by simpa using u,λj y f=>?_⟩;cases j with
      |zero=>simp at f;subst f;exact⟨Int.le_of_lt l,λ_=>l⟩
      |succ j=>
        obtain⟨c,d⟩:=v j y (by simpa using f);exact⟨c,λq=>d (by omega)⟩
     ·rename_i A;cases h;have m:aT a z<=0:=by have:=bY a z;omega
      refine⟨rfl,λj y f=>⟨?_,λq=>absurd q (Vs _)⟩⟩;cases j with
      |zero=>simp at f;subst f;exact W3 (iw _)
      |succ j=>exact jw m (v j y (by simpa using f)).1
structure MK where
 n:ByteArray
 L:List (List Int)
 rem:List (List Int)
 r:RR
 h:Option (List Int)
section
variable {M:nw}{W:Nat}{x:MK}{xs:List MK}
variable {p:Pl}{Q U:Nat}
end
open Go.MapKept
section
variable {L L':List Hx}{hs:List (Option (List Int))}
theorem cu.nil (k:Nat):cu [] (OR k none):=⟨Ss,λi y=>⟨λh=>by
 rw[S9] at h;split at h<;>simp at h,λ⟨x,h,_⟩=>by cases h⟩⟩
theorem cu.empty (h:cu [] hs):dL hs=none:=by
 cases e:dL hs with
 |none=>rfl
 |some q=>
   obtain⟨i,y⟩:=q;obtain⟨x,a,_⟩:=(h.mem i y).1 (gv e).1;cases a
theorem cu.one (h:cu L hs){x y:Hx}(a:x∈L)(c:y∈L)(e:x.no=y.no):x=y:=tc (f:=Hx.no) h.nodup a c e
theorem cu.top (h:cu L hs)(hO:Hp ahead L){top:Hx}(c:L[0]?=some top):dL hs=some (top.no,top.row):=by
 have mt:=Oo c;cases e:dL hs with
 |none=>exact absurd ((h.mem top.no top.row).2 ⟨top,mt,rfl,rfl⟩) (j9 e _ _)
 |some q=>
   obtain⟨i,y⟩:=q;obtain⟨l,m⟩:=gv e;obtain⟨x,d,hi,a⟩:=(h.mem i y).1 l;obtain⟨c1,c2⟩:=m top.no top.row ((h.mem _ _).2 ⟨top,mt,rfl,rfl⟩);obtain⟨j,o⟩:=List.mem_iff_getElem?.1 d;have f:=GJ fq hO c j x o;have e2:x.no=top.no:=by
    rcases Sp x.no top.no with u|u|u
    ·refine absurd ?_ f;rcases Int.lt_or_eq_of_le c1 with v|v
     ·exact .inl (by rw[a];exact v)
     ·exact .inr ⟨by rw[a];exact v,u⟩
    ·exact u
    ·exact absurd (.inl (by rw[a];exact c2 (by omega))) f
   have t:=h.one d mt e2;subst t;rw[<-hi,<-a]
theorem cu.pop (h:cu L hs){top:Hx}(f:L.Perm (top::L')):cu L' (hs.set top.no none)/\∀x∈L',x.no≠top.no:=by
 have a:=(f.map Hx.no).nodup_iff.1 h.nodup;rw[OJ,QJ] at a;have d:∀x∈L',x.no≠top.no:=λx c q=>a.1 (OC.2 ⟨x,c,q⟩);refine⟨⟨a.2,λi y=>?_⟩,d⟩;by_cases e:i=top.no
 ·subst e;refine⟨λq=>?_,λ⟨x,c,q,_⟩=>absurd q (d x c)⟩;rw[O6] at q;rw[if_pos rfl] at q;split at q<;>simp at q
 ·rw[Pv (PR e),h.mem];refine⟨λ⟨x,c,q,r⟩=>?_,λ⟨x,c,q⟩=>⟨x,f.mem_iff.2 (OM _ c),q⟩⟩;rcases OG.1 (f.mem_iff.1 c) with u|u
  ·subst u;exact absurd q.symm e
  ·exact⟨x,u,q,r⟩
theorem cu.push (h:cu L hs){x:Hx}(hi:x.no<hs.length)(j:∀y∈L,y.no≠x.no)(d:L'.Perm (L++[x])):cu L' (hs.set x.no (some x.row)):=by
 refine⟨?_,λi y=>?_⟩
 ·refine(d.map Hx.no).nodup_iff.2 ?_;rw[O8,List.nodup_append];refine⟨h.nodup,by simp,λa m c l=>?_⟩;simp at l;obtain⟨z,o,z2⟩:=OC.1 m;rw[l,<-z2];exact j z o
 ·by_cases e:i=x.no
  ·subst e;rw[Pz hi];refine⟨λq=>?_,λ⟨z,f,q,r⟩=>?_⟩
   ·simp at q;exact⟨x,d.mem_iff.2 (by simp),rfl,q⟩
   ·rcases Ox.1 (d.mem_iff.1 f) with u|u
    ·exact absurd q (j z u)
    ·rw[OH] at u;subst u;rw[r]
  ·rw[Pv (PR e),h.mem];refine⟨λ⟨z,f,q⟩=>⟨z,d.mem_iff.2 (List.mem_append_left _ f),q⟩,λ⟨z,f,q,r⟩=>?_⟩;rcases Ox.1 (d.mem_iff.1 f) with u|u
   ·exact⟨z,u,q,r⟩
   ·rw[OH] at u;subst u;exact absurd q.symm e
theorem cu.len (h:cu L hs):L.length<=hs.length:=by
 have:=vu h.nodup (B:=List.range hs.length) λa c=>by
  obtain⟨x,d,rfl⟩:=OC.1 c;have:=(h.mem x.no x.row).2 ⟨x,d,rfl,rfl⟩;exact List.mem_range.2 (Om.1 this).1
 simpa using this
end
structure me (w:RW)(nm:ByteArray)(c:Nat):Prop where
 wait:w.wait.length<=129*w.n
 n:w.n<=504
 rows:w.rows<=c
 width:0<=w.b.width/\w.b.width<=16
 name:w.b.name=nm
theorem gR {s:Pl}{n:ByteArray}{W:Int}:((bj s n W).2.1=none->(bj s n W).2.2≠0)/\∀w,(bj s n W).2.1=some w->(bj s n W).2.2=0/\w=wb n W/\0<=W/\W<=16:=by
 unfold bj;split
 ·exact⟨λ_=>(by simp),λw q=>(by cases q)⟩
 ·rename_i a;have c:0<=W/\W<=16:=by
   refine Classical.byContradiction λu=>a ?_;have:bz W=0:=by unfold bz;rw[if_pos (by omega)]
   unfold aF;rw[if_pos this]
  split
  ·rename_i h;exact⟨λ_=>h,λw q=>(by cases q)⟩
  ·split
   ·rename_i h;exact⟨λ_=>h,λw q=>(by cases q)⟩
   ·exact⟨λq=>(by cases q),λw q=>(by cases q;exact⟨rfl,rfl,c⟩)⟩
theorem me.mono {w:RW}{n:ByteArray}{c d:Nat}(h:me w n c)(hd:c<=d):me w n d:=⟨h.wait,h.n,OE h.rows hd,h.width,h.name⟩
theorem wW (n:ByteArray){W:Int}(h1:0<=W)(a:W<=16):me (wb n W) n 0:=⟨OL _,OL _,Ot _,⟨h1,a⟩,rfl⟩
theorem me.add {w:RW}{n:ByteArray}{c:Nat}(h:me w n c)(s:Pl)(l:List Int):me (w.add s l).2.1 n (c+1)/\((w.add s l).2.2=0->(w.add s l).2.1.last=l/\0<(w.add s l).2.1.rows):=by
 have m:=h.mono (Nat.le_succ c);unfold RW.add;split
 ·rename_i q;exact⟨m,λu=>absurd u q⟩
 ·split
  ·exact⟨m,λu=>by simp at u⟩
  ·rename_i hl;split
   ·exact⟨m,λu=>by simp at u⟩
   ·have hw:=h.width;have d:=pQ l;have a:(l.length:Int)=w.b.width:=Classical.not_not.1 hl;split
    ·rename_i e;have:=(c6 w.b);refine⟨⟨?_,?_,?_,h.width,h.name⟩,λ_=>⟨rfl,VY _⟩⟩
     ·show (w.wait++cQ (eN l)).length<=129*(w.n+1);have:=h.wait;rw[OU,cg];omega
     ·show w.n+1<=504;omega
     ·show w.rows+1<=c+1;have:=h.rows;omega
    ·unfold RW.out;rw[if_neg (by show w.n+1≠0;omega)];refine⟨⟨OL _,OL _,by show w.rows+1<=c+1;have:=h.rows;omega,?_,?_⟩,λ_=>⟨rfl,VY _⟩⟩
     ·show 0<=((w.push l).b.cr _).width/\((w.push l).b.cr _).width<=16;rw[(Rb.kP _ _).2.1];exact h.width
     ·show ((w.push l).b.cr _).name=n;rw[(Rb.kP _ _).2.2];exact h.name
section
variable {H0 A:aa}{F0 F:Nat->Prop}{col:Nat->Nat}{p dp:Nat}{s:Pl}{xs:List nv}{l:Sl}{kw:Nat}{w:RW}{sw sl:Sl}{kh:Nat}{hs:Sl}{L:List Hx}
theorem q8.add {K:Int->aa->Prop}{row:Sl}{y:List Int}{to:ByteArray}{c u v:Nat}(h:q8 H0 F0 col p dp F A s xs l kw w sw sl kh hs L)(E:Gl H0)(G:¬F0 bh)(ok:me w to c)(hc:c<1000000000000)(t:to.size<=9223372036854775807)(b:Bd s u v)(hu:u<1000000000000)(hv:v<68719460000)(hy:y.length<=16)
  (j:Ints .u64 A row y) (m:∀ad,row.a=some ad->col ad.block=3)
  (J:∀F' B col' e f,q8 H0 F0 col' p dp F' B (w.add s y).1 xs l kw (w.add s y).2.1 e f kh hs L->A.size<=B.size->(∀b,b<A.size->col b≠0->col b≠2->col' b=col b/\B[b]?=A[b]?)->K (w.add s y).2.2 B):y7.sp (aE kw) row A K:=by
 have z:=h.rds.gl E G;have N:=E.lt;have dis:∀b,F b->¬dv kw sw sl b:=λb d q=>by
  have:=(h.rds.cF b d).1;have:=(h.cW b q).1;omega
 have C:=b.lo;have O:=b.hi;have P:=b.aB;have o1:=ok.wait;have o2:=ok.n;have o3:=ok.rows;refine BD z (λq=>(h.cW _ q).2.elim G λu=>by omega) h.wr h.rds.pool dis j (λad R q=>by have:=m ad R;have:=(h.cW _ q).1;omega) (by omega) (by omega) (by omega) (by omega) (by rw[ok.name];exact t) (by omega) (by omega) C b.fit λF' e f B T V X S=>?_;have o:∃col':Nat->Nat,(∀b,F' b->col' b=0)/\(∀b,dv kw e f b->col' b=2)/\∀b,¬F' b->¬dv kw e f b->col' b=col b:=by
  classical
  refine⟨λb=>if F' b then 0 else if dv kw e f b then 2 else col b,λb d=>if_pos d,λb d=>?_,λb h1 Y=>?_⟩
  ·show (if F' b then _ else _)=_;rw[if_neg λq=>X b q d,if_pos d]
  ·show (if F' b then _ else _)=_;rw[if_neg h1,if_neg Y]
 obtain⟨col',c1,c2,Z⟩:=o;have z0:=h.rds.mod.size;have old:∀b,b<A.size->F' b\/dv kw e f b->col b=0\/col b=2:=λb d q=>by
  rcases (S.own b q).resolve_right (by omega) with u|u
  ·exact .inl (h.rds.cF b u).1
  ·exact .inr (h.cW b u).1
 have same:∀b,b<A.size->col b≠0->col b≠2->col' b=col b:=λb d H n2=>Z b (λq=>by rcases old b d (.inl q) with u|u<;>omega) λq=>by rcases old b d (.inr q) with u|u<;>omega
 have base:∀b,F' b\/dv kw e f b->F0 b\/H0.size<=b:=λb q=>by
  rcases S.own b q with (u|u)|u
  ·exact(h.rds.cF b u).2
  ·exact(h.cW b u).2
  ·exact .inr (by omega)
 have D:∀b,b<A.size->(F b\/dv kw sw sl b)->col b=0\/col b=2:=λb _ q=>q.imp (λu=>(h.rds.cF b u).1) λu=>(h.cW b u).1;refine J F' B col' e f ⟨h.rds.so T S.mod (λb d q=>by have:=D b d q;omega) (λb d q=>?_) (λb d=>⟨c1 b d,base b (.inl d)⟩) (λb d q=>same b d (by omega) (by omega)),V,h.Fo S.mod (λb d q=>by have:=D b d q;omega),λb d=>⟨c2 b d,base b (.inr d)⟩,λb d=>?_,λx I b d=>?_,h.ptr,h.ord⟩ S.mod.size λb d H n2=>⟨same b d H n2,S.mod.same b d λq=>by have:=D b d q;omega⟩
 ·rcases q with u|u
  ·exact(h.rds.cF b u).2.resolve_right (by omega)
  ·exact(h.cW b u).2.resolve_right (by omega)
 ·have a:=h.cH b d;rw[same b (h.heap.lt b d) (by omega) (by omega)];exact a
 ·have a:=h.cX x I b d;rw[same b ((h.heap.own x I).lt b d) (by omega) (by omega)];exact a
theorem ez.stop {K:Unit->aa->Prop}{i:Nat}{x:nv}(h:ez H0 F0 col p dp F A s xs l)(d:xs[i]?=some x)
  (u:∀B,ez H0 F0 col p dp F B s (xs.set i ⟨x.k,x.r.stop,x.si,x.srs⟩) l->Mod (λb=>b=x.k) A B->K () B):Iy.sp (aE x.k) A K:=by
 refine Iy.of ?_;unfold Iy.vc;unfold aE;refine aP rfl ?_;simp only[al,add_add,Nat.reduceAdd];have f:=h.rds i x d;have hi:=(Om.1 d).1;have t:∀b,b=x.k->col b=5+i/\H0.size<=b:=λb q=>h.cR i x d b (.inl q);refine aj.st f.row (i:=5) (by simp[bS]) rfl λB r m z=>?_;rw[pd] at r;have keep:∀(j:Nat) (y:nv),j≠i->xs[j]?=some y->∀b,y.own b->¬(b=x.k):=λj y v a b c q=>by
  have:=(h.cR j y a b c).1;have:=(t b q).1;omega
 refine u B ⟨h.pool.keep λb c hl=>m.same b hl λq=>?_,λj y a=>?_,λy a=>?_,?_,h.cF,λj y a b c=>?_,h.cL,?_⟩ m
 ·have:=(h.cF b c).1;have:=(t b q).1;omega
 ·by_cases q:j=i
  ·subst q;rw[Pz hi] at a;cases a;exact⟨r,f.ins.mod m (λb c q=>f.C9 (q▸c)) λy a b c q=>f.jz y a (q▸c)⟩
  ·rw[Pv (PR q)] at a;exact(h.rds j y a).mod m (keep j y q a)
 ·rcases List.mem_or_eq_of_mem_set a with q|q
  ·exact h.oks y q
  ·subst q;obtain⟨o,n⟩:=h.oks x (Oo d);exact⟨⟨o.room,o.at_,o.page,o.rows,o.cols⟩,n⟩
 ·have e:(xs.set i ⟨x.k,x.r.stop,x.si,x.srs⟩).map (·.k)=xs.map (·.k):=by
   rw[PK];apply Qa;intro j;rw[O6];split
   ·rename_i q;subst q;rw[Oy,d];simp[hi]
   ·rfl
  rw[e];exact h.list.mod m λb c q=>by
   have:=(h.cL b c).1;have:=(t b q).1;omega
 ·by_cases q:j=i
  ·subst q;rw[Pz hi] at a;cases a;exact h.cR j x d b c
  ·rw[Pv (PR q)] at a;exact h.cR j y a b c
 ·exact h.mod.trans' m λb c q=>by have:=(t b q).2;omega
end
theorem mY:∀{rs:List RR} {i:Nat} {r r':RR},rs[i]?=some r->bJ (rs.set i r')+(r.rows - r.at_)=bJ rs+(r'.rows - r'.at_)
 |[],i,r,r',h=>by simp at h
 |a::rs,0,r,r',h=>by
   simp at h;subst h;unfold bJ;simp only[QL,OJ,Py];omega
 |a::rs,i+1,r,r',h=>by
   have:=mY (rs:=rs) (i:=i) (r':=r') (by simpa using h);unfold bJ at this ⊢;simp only[Tn,OJ,Py];omega
theorem mK:∀{hs:List (Option (List Int))} {i:Nat} {a b:Option (List Int)},hs[i]?=some a->fU (hs.set i b)+(if a.isSome then 1 else 0)=fU hs+(if b.isSome then 1 else 0)
 |[],i,a,b,h=>by simp at h
 |c::hs,0,a,b,h=>by
   simp at h;subst h;unfold fU;simp only[QL,OJ,Py];omega
 |c::hs,i+1,a,b,h=>by
   have:=mK (hs:=hs) (i:=i) (b:=b) (by simpa using h);unfold fU at this ⊢;simp only[Tn,OJ,Py];omega
theorem Aw (k:Nat):fU (OR k none)=0:=by
 induction k with
 |zero=>rfl
 |succ k a=>
   unfold fU at a ⊢;rw[List.replicate_succ,OJ,Py,a];rfl
theorem RR.kE {r:RR}(h:r.Ok)(s:Pl):((r.next s).2.1.rows - (r.next s).2.1.at_)+(if (dQ (r.next s).2.2.1 (r.next s).2.2.2.1).isSome then 1 else 0)=r.rows - r.at_:=by
 obtain⟨_,_,a,c,d⟩:=RR.gh h s;have j:=h.at_;unfold dQ;cases e:(r.next s).2.2.2.1 with
 |true=>
   obtain⟨m,f,_⟩:=c e;rw[a,f];simp;omega
 |false=>
   rw[a,d e];simp
structure eV (xs0:List nv)(s0:Pl)(i:Nat)(s:Pl)(xs:List nv)(L:List Hx)(hs:List (Option (List Int))):Prop where
 len:xs.length=xs0.length
 hlen:hs.length=xs0.length
 later:xs.drop i=xs0.drop i
 rest:hs.drop i=OR (xs0.length - i) none
 kT:cu L hs
 eq:ba (xs0.map (·.r)) s0=((ba ((xs.drop i).map (·.r)) s).1,(xs.take i).map (·.r)++(ba ((xs.drop i).map (·.r)) s).2.1,hs.take i++(ba ((xs.drop i).map (·.r)) s).2.2.1,(ba ((xs.drop i).map (·.r)) s).2.2.2)
 count:bJ (xs.map (·.r))+fU hs<=bJ (xs0.map (·.r))
theorem eV.first (xs:List nv)(s:Pl):eV xs s 0 s xs [] (OR xs.length none):=
 ⟨rfl,List.length_replicate,rfl,by simp,.nil _,by simp,by rw[Aw];exact Ot _⟩
section
variable {xs0 xs:List nv}{s0 s:Pl}{i:Nat}{L L':List Hx}{hs:List (Option (List Int))}{y y':nv}
theorem eV.at_ (h:eV xs0 s0 i s xs L hs)(hi:i<xs0.length):∃y,xs[i]?=some y/\hs[i]?=some none/\(∀x∈L,x.no≠i)/\xs.drop i=y::xs.drop (i+1):=by
 have a:i<xs.length:=by rw[h.len];exact hi
 have c:hs[i]?=some none:=by
  have:(hs.drop i)[0]?=some none:=by rw[h.rest,S9,if_pos (by omega)]
  rwa [PU,RO] at this
 refine⟨xs[i],On a,c,λx d q=>?_,Pf a⟩;have:=(h.kT.mem i x.row).2 ⟨x,d,q,rfl⟩;rw[c] at this;simp at this
theorem eV.next (h:eV xs0 s0 i s xs L hs)(hi:i<xs0.length)(f:xs[i]?=some y)(ok:y.r.Ok)(a:y'.r=(y.r.next s).2.1)(he:(y.r.next s).2.2.2.2=0)
  (h1:(y.r.next s).2.2.2.1=true->∃row ptr,L'.Perm (L++[⟨i,row,ptr,(y.r.next s).2.2.1⟩])) (o:(y.r.next s).2.2.2.1=false->L'=L):
  eV xs0 s0 (i+1) (y.r.next s).1 (xs.set i y') L' (hs.set i (dQ (y.r.next s).2.2.1 (y.r.next s).2.2.2.1)):=by
 obtain⟨u,m,a2,a3,a4⟩:=h.at_ hi;rw[f] at m;cases m;have d:i<xs.length:=by rw[h.len];exact hi
 have c:i<hs.length:=by rw[h.hlen];exact hi
 have d1:(xs.set i y').drop (i+1)=xs.drop (i+1):=T2 (by omega);have t1:(xs.set i y').take (i+1)=xs.take i++[y']:=by
  rw[Ou (by simpa using d)];rw[S0 (Ot _)];simp
 have t2:∀v:Option (List Int),(hs.set i v).take (i+1)=hs.take i++[v]:=λv=>by
  rw[Ou (by simpa using c)];rw[S0 (Ot _)];simp
 have hd:cu L' (hs.set i (dQ (y.r.next s).2.2.1 (y.r.next s).2.2.2.1)):=by
  cases e:(y.r.next s).2.2.2.1 with
  |true=>
    obtain⟨row,ptr,t⟩:=h1 e;exact h.kT.push (x:=⟨i,row,ptr,(y.r.next s).2.2.1⟩) c a3 t
  |false=>
    rw[o e];have:hs.set i (dQ (y.r.next s).2.2.1 false)=hs:=by
     apply Qa;intro j;rw[O6];split
     ·rename_i q;subst q;rw[a2];rfl
     ·rfl
    rw[this];exact h.kT
 refine⟨by rw[Ws];exact h.len,by rw[Ws];exact h.hlen,?_,?_,hd,?_,?_⟩
 ·rw[d1];have:=congrArg (WI 1) h.later
  rwa [Ri,Ri] at this
 ·rw[T2 (by omega)];have:=congrArg (WI 1) h.rest;rw[Ri,List.drop_replicate] at this;rw[this];rfl
 ·rw[h.eq,a4,OJ,d1,t1,t2];simp only[ba];rw[if_neg (by rw[he];simp)];simp[a]
 ·have c1:=mY (rs:=xs.map (·.r)) (i:=i) (r:=y.r) (r':=y'.r) (by rw[Oy,f];rfl);have c2:=mK (i:=i) (b:=dQ (y.r.next s).2.2.1 (y.r.next s).2.2.2.1) a2;have z:=RR.kE ok s;have B:=h.count;rw[PK];rw[a] at c1 ⊢;simp only[Option.isSome_none] at c2;simp only[Bool.false_eq_true,if_false,RO] at c2;omega
theorem eV.bad (h:eV xs0 s0 i s xs L hs)(hi:i<xs0.length)(c:xs[i]?=some y)(he:(y.r.next s).2.2.2.2≠0):(ba (xs0.map (·.r)) s0).1=(y.r.next s).1/\(ba (xs0.map (·.r)) s0).2.2.2=(y.r.next s).2.2.2.2:=by
 obtain⟨d,a,a2,a3,a4⟩:=h.at_ hi;rw[c] at a;cases a;rw[h.eq,a4,OJ];simp only[ba];rw[if_pos he];exact⟨rfl,rfl⟩
theorem eV.done (h:eV xs0 s0 xs0.length s xs L hs):ba (xs0.map (·.r)) s0=(s,xs.map (·.r),hs,0):=by
 have e:=h.eq;rw[<-h.len,RK,RJ,h.len,<-h.hlen,RJ] at e;simpa[ba] using e
end
structure wM (H0:aa)(F0:Nat->Prop)(p dp:Nat)(A:aa)(l:Sl)(kw kh:Nat)(to:ByteArray)(f0 u v:Nat)(res:Pl×Nat×Int)(f:Nat)(z:Sl×Bool):Prop where
 ex:∃col F s xs w sw sl hs L hl,q8 H0 F0 col p dp F A s xs l kw w sw sl kh hs L/\cu L hl/\hl.length=xs.length/\xs.length<=1000000/\bJ (xs.map (·.r))+fU hl<f/\res=gi f s (xs.map (·.r)) hl w/\me w to (f0 - f)/\Bd s (u+2*(f0 - f)) (v+3*(f0 - f))/\f<=f0/\z.2=decide (w.rows=0)/\(w.rows≠0->aO A 0 iV 1 z.1 (w.last.map (OF .u64))/\w.last.length<=16/\∀b,ah z.1 b->col b=3)
theorem q8.Md {H0 A:aa}{F0 F:Nat->Prop}{col col':Nat->Nat}{p dp:Nat}{s:Pl}{xs:List nv}{l:Sl}{kw:Nat}{w:RW}{sw sl:Sl}{kh:Nat}{hs:Sl}{L:List Hx}(h:q8 H0 F0 col p dp F A s xs l kw w sw sl kh hs L)(c:∀b,b<A.size->col' b=col b):q8 H0 F0 col' p dp F A s xs l kw w sw sl kh hs L:=
 ⟨h.rds.so (G:=λ_=>False) h.rds.pool (.refl _ _) (λ_ _ q=>q.elim) (λ_ _ q=>q.elim) (λb a=>by rw[c b (h.rds.pool.lt b a)];exact h.rds.cF b a) (λb a _=>c b a),h.wr,h.heap,
  λb a=>by rw[c b (h.wr.lt b a)];exact h.cW b a,λb a=>by rw[c b (h.heap.lt b a)];exact h.cH b a,λx d b a=>by rw[c b ((h.heap.own x d).lt b a)];exact h.cX x d b a,h.ptr,h.ord⟩
section
variable {H:aa}{F:Nat->Prop}{p dp:Nat}{s:Pl}{names:Sl}{ns:List ByteArray}{to:ByteArray}{W:Int}
set_option maxHeartbeats 2000000 in
theorem Dn {K:(Int×Int)->aa->Prop}{A:aa}{l:Sl}{kw kh f0 f u v:Nat}{res:Pl×Nat×Int}(hg:Gl H)(h0:¬F bh)(bO:to.size<=9223372036854775807)(ey:f0<=20000000000)(hu:u+2*f0<990000000000)(hv:v+3*f0<68000000000)
  (h:wM H F p dp A l kw kh to f0 u v res f (Sl.mk none 0 0,true))
  (hK:∀F' B,au F' B p dp res.1->Step F F' H B->K ((res.2.1:Int),res.2.2) B):
  ax (Sl×Bool) ((Sl.mk none 0 0),true) A λan b0 H6=>ld ak H6 ((⟨kh,0,none⟩:Addr).add 0) λ(x:Sl)=>br (decide ((x.n:Int)>(0:Int))) (I6.sp (some ⟨kh,0,none⟩) H6 λ(bA:(Int×Sl×Option Addr)) H7=>aJ H7 (zc Oj jZ) jZ λR H8=>jo Oj (Instr.storeAt jZ (.pointer (some R)) (.agg #[(.int .i64 bA.1),bA.2.1.v,(.pointer bA.2.2)])) H8 λH9=>cut Unit (λJ=>br b0.2 (ld ak H9 (R.add 1) λ(c5:Sl)=>y7.sp (aE kw) c5 H9 λ(b1:Int) b2=>br (b1 !=(0:Int)) (K ((0:Int),b1) b2) (J () b2)) (ld ak H9 (R.add 1) λ(dc:Sl)=>w6.sp dc b0.1 H9 λ(dk:Int) bB=>br (dk !=(0:Int)) (ld ak bB (R.add 1) λ(dm:Sl)=>y7.sp (aE kw) dm bB λ(b3:Int) b4=>br (b3 !=(0:Int)) (K ((0:Int),b3) b4) (J () b4)) (J () bB))) λ(_:Unit) bC=>ld ak bC (R.add 1) λ(last:Sl)=>c9 (bR [(ab .i64),ak,aw]) 3 bC R λ(bD:(Int×Sl×Option Addr))=>G3.sp (some ⟨kh,0,none⟩) bD.1 bD.2.1 bD.2.2 bC λ(b5:Int) b6=>br (b5 !=(0:Int)) (K ((0:Int),b5) b6) (an (last,false) b6)) (ax Int (0:Int) H6 λa1 T bM=>br (decide (T<(l.n:Int))) (ae l.a λdn=>(0<=T/\T<(l.n:Int))/\ld aw bM (dn.add (T.toNat*1)) λ(dA:Option Addr)=>Iy.sp dA bM λ(_:Unit) dB=>a1 (Ol.wrap (T+(1:Int))) dB) (Fs.sp (aE kw) bM λ(b7:(Int×Int)) dD=>K (b7.1,b7.2) dD)):=by
 refine⟨Nat,λf z A=>wM H F p dp A l kw kh to f0 u v res f z,λf=>f,⟨f,h⟩,?_⟩;rintro f ⟨last,fst⟩ A ⟨col,F',s',xs,w,sw,sl,hs,L,hl,m,hT,hlen,dT,hf,a8,hw,bd,eA,V,X⟩;simp only at V X;cases f with
 |zero=>exact absurd hf (Vs _)
 |succ f=>
 have eB:=hg.lt;refine aj.ld (c:=ak) (i:=0) (x:=hs) m.heap.row rfl ?_;have hn:hs.n=L.length:=az.n m.heap.els (by decide);have eb:L.length<=1000000:=by have:=hT.len;omega
 cases a6:L with
 |nil=>
   rw[a6] at hn;refine aC (by rw[hn];rfl) ?_;have d:dL hl=none:=by rw[a6] at hT;exact hT.empty
   have er:res=((w.close s').1,(w.close s').2.2.1,(w.close s').2.2.2):=by
    rw[a8];unfold gi;rw[d]
   rw[er] at hK;refine ar xs.length (λi z B=>z=(i:Int)/\∃ys,ys.length=xs.length/\ez H F col p dp F' B s' ys l/\pv B kw p w sw sl) ⟨rfl,xs,rfl,m.rds,m.wr⟩ ?_;rintro i z B next hi ⟨rfl,ys,ec,Y,b9⟩ bN
   have ed:l.n=ys.length:=by rw[az.n Y.list (by decide)];simp
   refine ag (λhc=>?_) (λhc=>?_)
   ·have N:i<ys.length:=by
     have:(i:Int)<(l.n:Int):=by simpa using hc
     omega
    have hy:ys[i]?=some ys[i]:=On N;refine bQ.one (E:=dN) (c:=aw) (y:=aE ys[i].k) Y.list.rd (by rw[ed];simp) rfl (i:=i) (x:=ys[i].k) (by rw[Oy,hy];rfl) rfl ?_;refine Y.stop hy λC hC mC=>?_;rw[aD i (by omega)];exact bN (by omega) _ C ⟨rfl,_,by simp;exact ec,hC,b9.mod mC λb d q=>by
     have:=(m.cW b d).1;have:=(Y.cR i _ hy b (.inl q)).1;omega⟩
   ·have ee:=Y.gl hg h0;have q1:=bd.lo;have q2:=bd.hi;have q3:=bd.aB;have o:=bd.out (w:=w) (by omega);have o1:=o.hi;have o2:=o.aB;refine vk ee (λq=>(m.cW _ q).2.elim h0 λr=>by omega) b9 Y.pool (λb d q=>by have:=(Y.cF b d).1;have:=(m.cW b q).1;omega) (by have:=hw.rows;omega) hw.width.1 (by rw[hw.name];exact bO) (by omega) (by omega) q1 bd.fit (by omega) (by omega) (λx hd=>?_) λG eC C p2 w2 d2 S2=>?_
    ·rw[Pl.BC,Pl.Fp];have:=(w.out s').1.tH w.b.name 0;omega
    ·refine hK G C p2 ⟨Y.mod.trans' S2.mod λb d q=>?_,λb d=>?_⟩
     ·rcases q with r|r
      ·exact(Y.cF b r).2.resolve_right (by omega)
      ·exact(m.cW b r).2.resolve_right (by omega)
     ·rcases S2.own b (.inl d) with (r|r)|r
      ·exact(Y.cF b r).2
      ·exact(m.cW b r).2
      ·have:=Y.mod.size;exact .inr (by omega)
 |cons top L0=>
   have ht:L[0]?=some top:=by rw[a6];rfl
   have mt:=Oo ht;have d:=hT.top m.ord ht;refine aP (by rw[hn,a6];simp) ?_;obtain⟨y,hy,cb⟩:=m.ptr top mt;refine Iw m.heap m.ord ht eb λhs' L' A1 hA hO hP mA oA=>?_;have Z:∀x∈L',x∈L:=λx hx=>hP.mem_iff.2 (OM _ hx);obtain⟨bb,c1,eg⟩:=m.EV hA hO mA (λb d=>.inl (oA b d)) (λx hx b d=>⟨(m.heap.own x (Z x hx)).lt b d,m.cX x (Z x hx) b d⟩) λx hx=>m.ptr x (Z x hx);have bl:=m.heap.own top mt;have bn:∀b,col b=3->¬(b=kh\/ah hs b):=λb d q=>by have:=(m.cH b q).1;omega
   have af:aO A1 0 iV 1 top.sl (top.row.map (OF .u64)):=bl.mod mA λb d=>bn b (m.cX top mt b d);have ei:∀b,ah top.sl b->bb b=3:=λb d=>by rw[c1 b (bl.lt b d)];exact m.cX top mt b d
   refine av λA2 z2 r2 e2=>?_;refine aj.iI (cs:=(DO top).toArray) r2 nh wG (λx hx=>K6.one top x (show x∈DO top by simpa using hx)) λA3 r3 m3 z3=>?_;have e3:Ext A1 A3:=⟨by have:=m3.size;omega,λb d _=>(m3.same b (by omega) (by intro q;have:b=A1.size:=q;omega)).trans (e2.same b d id)⟩;obtain⟨bs,x1,x2⟩:=ij bb A1.size (λ_=>False) (λ_=>False) (λ_=>True) 1 1 3 (λ_ q=>q.elim) (λ_ q=>q.elim) λ_ q=>q.elim;have ck:=(eg.Md x1).ext e3;have a7:∀b,ah top.sl b->bs b=3:=λb d=>by rw[x1 b (af.lt b d)];exact ei b d
   have t:=af.ext e3;obtain⟨cm,ej⟩:=hT.pop hP;have f16:=m.heap.iF top mt;have ek:top.no<hl.length:=by
    have:=(hT.mem top.no top.row).2 ⟨top,mt,rfl,rfl⟩;exact(Om.1 this).1
   have er:res=if (aQ s' w top.row).2.2≠0 then ((aQ s' w top.row).1,0,(aQ s' w top.row).2.2)
    else if (y.r.next (aQ s' w top.row).1).2.2.2.2≠0 then ((y.r.next (aQ s' w top.row).1).1,0,(y.r.next (aQ s' w top.row).1).2.2.2.2)
    else gi f (y.r.next (aQ s' w top.row).1).1 ((xs.map (·.r)).set top.no (y.r.next (aQ s' w top.row).1).2.1) (hl.set top.no (dQ (y.r.next (aQ s' w top.row).1).2.2.1 (y.r.next (aQ s' w top.row).1).2.2.2.1)) (aQ s' w top.row).2.1:=by
    have en:(xs.map (·.r)).getD top.no default=y.r:=by rw[List.getD,Oy,hy];rfl
    rw[a8];show (match dL hl with|none=>_|some (i,x)=>_)=_;rw[d];simp only;rw[en]
   have eD:A.size<=A3.size:=by have:=mA.size;have:=e3.size;omega
   have cx:∀b,b<A.size->col b=3->A3[b]?=A[b]?:=λb d hc=>(e3.same b (by have:=mA.size;omega) id).trans (mA.same b d (bn b hc));refine⟨λ_ B=>(aQ s' w top.row).2.2=0/\∃j G O P,q8 H F j p dp G B (aQ s' w top.row).1 xs l kw (aQ s' w top.row).2.1 O P kh hs' L'/\me (aQ s' w top.row).2.1 to (f0 - f)/\(aQ s' w top.row).2.1.last=top.row/\0<(aQ s' w top.row).2.1.rows/\Bd (aQ s' w top.row).1 (u+2*(f0 - (f+1))+1) (v+3*(f0 - (f+1))+2)/\
    aj B A1.size jZ (DO top).toArray/\aO B 0 iV 1 top.sl (top.row.map (OF .u64))/\(∀b,ah top.sl b->j b=3)/\A3.size<=B.size,?_,?_⟩
   ·have added:∀(Kb:Int->aa->Prop),(aQ s' w top.row)=w.add s' top.row->(∀B,(w.add s' top.row).2.2≠0->(∃G,au G B p dp (w.add s' top.row).1/\Step F G H B)->Kb (w.add s' top.row).2.2 B)->
      (∀B,((aQ s' w top.row).2.2=0/\∃j G O P,q8 H F j p dp G B (aQ s' w top.row).1 xs l kw (aQ s' w top.row).2.1 O P kh hs' L'/\me (aQ s' w top.row).2.1 to (f0 - f)/\(aQ s' w top.row).2.1.last=top.row/\0<(aQ s' w top.row).2.1.rows/\Bd (aQ s' w top.row).1 (u+2*(f0 - (f+1))+1) (v+3*(f0 - (f+1))+2)/\
       aj B A1.size jZ (DO top).toArray/\aO B 0 iV 1 top.sl (top.row.map (OF .u64))/\(∀b,ah top.sl b->j b=3)/\A3.size<=B.size)->(w.add s' top.row).2.2=0->Kb (w.add s' top.row).2.2 B)->y7.sp (aE kw) top.sl A3 Kb:=by
     intro Kb ea k1 k2;refine ck.add hg h0 hw (by omega) bO bd (by omega) (by omega) f16 t.ints (λad ha=>a7 _ ⟨ad,ha,rfl⟩) λG B j O P hB zB oB=>?_;by_cases D:(w.add s' top.row).2.2=0
     ·have ra:=hw.add s' top.row;have eo:=oB A1.size (by omega) (by rw[(x2 A1.size (Ot _)).2.2 trivial];decide) (by rw[(x2 A1.size (Ot _)).2.2 trivial];decide);refine k2 B ?_ D;rw[ea];refine⟨D,j,G,O,P,hB,ra.1.mono (by omega),(ra.2 D).1,(ra.2 D).2,bd.add (by omega) _,eo.2.trans r3,t.keep λb d N=>?_,λb d=>?_,zB⟩
      ·have c:=a7 b d;exact(oB b N (by omega) (by omega)).2
      ·have c:=a7 b d;exact(oB b (t.lt b d) (by omega) (by omega)).1.trans c
     ·exact k1 B D ⟨G,hB.rds.pool,hB.rds.step⟩
    have bad:∀B,(aQ s' w top.row)=w.add s' top.row->(w.add s' top.row).2.2≠0->(∃G,au G B p dp (w.add s' top.row).1/\Step F G H B)->K ((0:Int),(w.add s' top.row).2.2) B:=λB ea D ⟨G,p2,S2⟩=>by
     have cy:=er;rw[ea,if_pos D] at cy;rw[cy] at hK;exact hK G B p2 S2
    by_cases S:w.rows=0
    ·have ea:aQ s' w top.row=w.add s' top.row:=by unfold aQ;rw[if_pos (.inl S)]
     refine aP (by rw[V];exact decide_eq_true S) ?_;refine aj.ld (c:=ak) (i:=1) (x:=top.sl) r3 rfl ?_;refine added _ ea (λB D q=>aP (by simpa using D) (bad B ea D q)) λB hJ D=>aC (by rw[D];rfl) hJ
    ·refine aC (by rw[V];exact decide_eq_false S) ?_;obtain⟨l1,l2,l3⟩:=X S;refine aj.ld (c:=ak) (i:=1) (x:=top.sl) r3 rfl ?_;have ep:Ints .u64 A3 last w.last:=(l1.keep λb d N=>cx b N (l3 b d)).ints;refine jI t.ints ep (by omega) ?_;by_cases I:aT top.row w.last=0
     ·have ea:aQ s' w top.row=(s',w,0):=by unfold aQ;rw[if_neg (by rintro(q|q);exact S q;exact q I)]
      refine aC (by rw[I];rfl) ?_;rw[ea];exact⟨rfl,bs,F',sw,sl,ck,hw.mono (by omega),(ca.1 I).symm,Nat.pos_of_ne_zero S,bd.mono (by omega) (by omega),r3,t,a7,Ot _⟩
     ·have ea:aQ s' w top.row=w.add s' top.row:=by unfold aQ;rw[if_pos (.inr I)]
      refine aP (by simpa using I) ?_;refine aj.ld (c:=ak) (i:=1) (x:=top.sl) r3 rfl ?_;refine added _ ea (λB D q=>aP (by simpa using D) (bad B ea D q)) λB hJ D=>aC (by rw[D];rfl) hJ
   ·rintro _ B ⟨D,j,G,O,P,hB,et,cz,eE,c0,rB,oB,cB,zB⟩;rw[if_neg (by rw[D];simp)] at er;generalize aQ s' w top.row=a at*;refine aj.ld (c:=ak) (i:=1) (x:=top.sl) rB rfl ?_;refine aj.c9 (x:=((top.no:Int),top.sl,top.ptr)) rB rfl rfl ?_;rw[cb];refine xD hB hg h0 hy c0 (by omega) (by omega) (by have:=hP.length_eq;simp at this;omega) λF3 C c4 y' eu L2 hC q2 q3 q4 q5 q6 q7=>?_;by_cases e1:(y.r.next a.1).2.2.2.2=0
    ·rw[if_neg (by rw[e1];simp)] at er;refine aC (by rw[e1];rfl) ?_;have ev:=c0.next (r:=y.r) (by omega);have bx:(hl.set top.no none).set top.no (dQ (y.r.next a.1).2.2.1 (y.r.next a.1).2.2.2.1)=hl.set top.no (dQ (y.r.next a.1).2.2.1 (y.r.next a.1).2.2.2.1):=List.set_set _;have hd:cu L2 (hl.set top.no (dQ (y.r.next a.1).2.2.1 (y.r.next a.1).2.2.2.1)):=by
      cases e:(y.r.next a.1).2.2.2.1 with
      |true=>
        obtain⟨row,ptr,ew⟩:=q3 e;rw[e] at bx;rw[<-bx];exact cm.push (x:=⟨top.no,row,ptr,(y.r.next a.1).2.2.1⟩) (by simpa using ek) ej ew
      |false=>
        rw[q4 e];exact cm
     have c1:=mY (rs:=xs.map (·.r)) (i:=top.no) (r:=y.r) (r':=y'.r) (by rw[Oy,hy];rfl);have c2:=mK (i:=top.no) (b:=dQ (y.r.next a.1).2.2.1 (y.r.next a.1).2.2.2.1) ((hT.mem top.no top.row).2 ⟨top,mt,rfl,rfl⟩);have c3:=RR.kE (m.rds.oks y (Oo hy)).1 a.1;rw[q2] at c1;simp only[Option.isSome_some,if_true] at c2;refine⟨f,⟨c4,F3,_,xs.set top.no y',a.2.1,O,P,eu,L2,_,hC,hd,by simp;exact hlen,by simp;exact dT,?_,?_,et,ev.mono (by omega) (by omega),by omega,(decide_eq_false (by omega)).symm,λ_=>⟨?_,by rw[cz];exact f16,λb d=>?_⟩⟩,RI _⟩
     ·rw[PK,q2];omega
     ·rw[er,PK,q2]
     ·rw[cz];exact oB.keep λb d N=>q7 b N (cB b d)
     ·rw[q5 b (oB.lt b d)];exact cB b d
    ·rw[if_pos e1] at er;rw[er] at hK;exact aP (by simpa using e1) (hK F3 C hC.rds.pool hC.rds.step)
end
theorem uR {W:Int}{ns:List ByteArray}{s:Pl}{x y:Nat}(b:Bd s x y)(hl:ns.length<=1000000)(a:x<900000000000):Bd (aW W ns s).1 (x+1000000) (y+1000000):=
 (rM (ns:=ns) (W:=W) b (by omega)).mono (by omega) (by omega)
theorem vg {rs:List RR}{m:Pl×Option RW×Int}{w:RW}(h:m.2.1=some w):lS rs m=zy (ba rs m.1) w:=by unfold lS;rw[h]
section
variable {H:aa}{F:Nat->Prop}{p dp:Nat}{s:Pl}{names:Sl}{ns:List ByteArray}{to:ByteArray}{W:Int}
set_option maxHeartbeats 2000000 in
theorem yg {K:(Int×Int)->aa->Prop}{x y N:Nat}(O:Gl H)(hp:au F H p dp s)(hn:names.n=ns.length)(an:∀A,Mod F H A->bQ jX A names.a ns)(a1:∀n∈ns,n.size<=9223372036854775807)(P:to.size<=9223372036854775807)(b:Bd s x y)(hl:ns.length<=1000000)(v:x<800000000000)(hy:y<50000000000)
  (hN:bJ (aW W ns s).2.1<=N) (bC:N<=10000000000) (bD:x+2*N<900000000000) (bN:y+3*N<67000000000)
  (d:∀F' A,au F' A p dp (cO s ns to W).1->Step F F' H A->K (((cO s ns to W).2.1:Int),(cO s ns to W).2.2) A):Ha.sp (aE p) names to W H K:=by
 refine Ha.of ?_;unfold Ha.vc;have D:=hp.eO;have b0:=O.lt;refine aC rfl ?_;unfold cO at d;by_cases o:ns=[]
 ·rw[if_pos o] at d;refine aP (by rw[hn,o];rfl) ?_;exact d F H hp (.refl _ _)
 rw[if_neg o] at d;have a6:names.n≠0:=by rw[hn];exact λq=>o (List.eq_nil_of_length_eq_zero q)
 refine aC (by simpa using a6) ?_;have R:=uR (W:=W) b hl (by omega);refine E6 O hp hn an a1 b hl (by omega) (by omega) (λe0 F1 A p1 S1=>?_) (λe0 F1 A col xs l m hr hlen=>?_)
 ·rw[if_pos e0] at d;exact aP (by simpa using e0) (d F1 A p1 S1)
 rw[if_neg (by rw[e0];simp)] at d;refine aC rfl ?_;rw[<-hr] at d hN;generalize (aW W ns s).1=s1 at*;have a7:=m.gl O D;have q1:=R.lo;have q2:=R.hi;have q3:=R.aB;have bM:=R.make (n:=to) (W:=W) (by omega);refine w8 a7 m.pool P (by omega) (by omega) q1 R.fit (λS B p2 T V=>?_) (λS B kw w p2 T V w2 k1 k2=>?_)
 ·have e1:=gR.1 V;have em:lS (xs.map (·.r)) (bj s1 to W)=((bj s1 to W).1,0,(bj s1 to W).2.2):=by unfold lS;rw[V]
  rw[em] at d;exact aP (by simpa using e1) (d S B p2 (m.step.trans T))
 obtain⟨e1,hw,W0,a8⟩:=gR.2 w V;subst hw;rw[vg V] at d;generalize (bj s1 to W).1=s2 at*;rw[e1];refine aC rfl ?_;refine av λC zC rC eC=>?_;have zR:=m.mod.size;have zS:=T.mod.size;have bb:∀b,dv kw bc bc b->b=kw:=by
  rintro b (q|q|q)
  ·exact q
  ·exact absurd q (aS b)
  ·exact absurd q (aS b)
 have b1:=w2.lt kw (.inl rfl);obtain⟨e,c1,c2⟩:=ij col A.size S (λb=>b=kw) (λb=>b=B.size) 0 2 1 (λb q r=>k2 (r▸q)) (λb q r=>by have:=p2.lt b q;omega) (λb q r=>by omega);have bd:=m.so (col':=e) p2 T.mod (λb G q=>by rw[(m.cF b q).1];decide) (λb G q=>(m.cF b q).2.resolve_right (by omega)) (λb q=>by
  rcases T.own b q with r|r
  ·rw[c1 b (m.pool.lt b r)];exact m.cF b r
  ·exact⟨(c2 b r).1 q,.inr (by omega)⟩) λb G _=>c1 b G
 have hM:q8 H F e p dp S C s2 xs l kw (wb to W) bc bc B.size bc []:=by
  refine⟨bd.ext eC,w2.mod eC λ_ _=>id,⟨rC,az.nil _ _ _,λx v=>(by cases v),λx v=>(by cases v)⟩,λb G=>?_,λb G=>?_,λx v=>(by cases v),λx v=>(by cases v),λi a b _ ha=>by simp at ha⟩
  ·have:=bb b G;subst this;exact⟨(c2 b k1).2.1 rfl,.inr (by omega)⟩
  ·rcases G with q|q
   ·subst q;exact⟨(c2 B.size (by omega)).2.2 rfl,by omega⟩
   ·exact absurd q (aS b)
 have bl:xs.length<=1000000:=by omega
 have bn:l.n=xs.length:=by rw[az.n m.list (by decide)];simp
 refine ar xs.length (λi z A=>z=(i:Int)/\∃F' s' col X L hs hsl,q8 H F col p dp F' A s' X l kw (wb to W) bc bc B.size hsl L/\eV xs s2 i s' X L hs/\Bd s' (x+1000001+i) (y+1000002+i)) ⟨rfl,S,s2,e,xs,[],_,bc,hM,.first xs s2,bM⟩ ?_;rintro i z A' next hi ⟨rfl,F3,s3,Y,f,L3,h,Z,t,hH,b3⟩ I
 refine ag (λhc=>?_) (λhc=>?_)
 ·have u:i<xs.length:=by
   have:(i:Int)<(l.n:Int):=by simpa using hc
   omega
  obtain⟨yx,j,_⟩:=hH.at_ u;have ok:=(t.rds.oks yx (Oo j)).1;refine bQ.one (E:=dN) (c:=aw) (y:=aE yx.k) t.rds.list.rd (by rw[bn];simp[hH.len]) rfl (i:=i) (x:=yx.k) (by rw[Oy,j];rfl) rfl ?_;refine xD t O D j b3 (by omega) (by omega) (by have:=hH.kT.len;have:=hH.hlen;omega) λF4 B4 af y4 bs L4 J r2 r3 r4 r5 r6 r7=>?_;by_cases ee:(yx.r.next s3).2.2.2.2=0
  ·refine aC (by rw[ee];rfl) ?_;rw[aD i (by omega)];exact I u _ B4 ⟨rfl,F4,_,af,_,L4,_,bs,J,hH.next u j ok r2 ee r3 r4,(b3.next (r:=yx.r) (by omega)).mono (by omega) (by omega)⟩
  ·obtain⟨d1,d2⟩:=hH.bad u j ee;unfold zy at d;rw[if_pos (by rw[d2];exact ee),d1,d2] at d;exact aP (by simpa using ee) (d F4 B4 J.rds.pool J.rds.step)
 ·have bx:i=xs.length:=by
   have:¬(i:Int)<(l.n:Int):=by simpa using hc
   omega
  subst bx;have hd:=hH.done;unfold zy at d;rw[hd] at d;simp only at d;rw[if_neg (by simp)] at d;have bB:=hH.count;have bA:wM H F p dp A' l kw B.size to (bJ (f.map (·.r))+fU h+1) (x+2000002) (y+2000004) (gi (bJ (f.map (·.r))+fU h+1) s3 (f.map (·.r)) h (wb to W)) (bJ (f.map (·.r))+fU h+1) (Sl.mk none 0 0,true):=
   ⟨Y,F3,s3,f,wb to W,bc,bc,Z,L3,h,t,hH.kT,by rw[hH.hlen,hH.len],by rw[hH.len];exact bl,RI _,rfl,by rw[Ua];exact wW to W0 a8,b3.mono (by omega) (by omega),Ot _,rfl,λq=>absurd rfl q⟩
  exact Dn O D P (by omega) (by omega) (by omega) bA d
end
theorem yb:∀{L:List (List Int)} {s:Pl} {w:RW} {x y:Nat},Bd s x y->x+L.length<1000000000000->Bd (kV L s w).1 (x+L.length) (y+2*L.length)
 |[],s,w,x,y,h,_=>h
 |l::L,s,w,x,y,h,a=>by
   rw[O3] at a ⊢;have h1:=h.add (w:=w) (by omega) l;simp only[kV];split
   ·exact h1.mono (by omega) (by omega)
   ·exact(yb (L:=L) h1 (by omega)).mono (by omega) (by omega)
section
variable {A0:aa}{F:Nat->Prop}{p dp:Nat}{s:Pl}{name:ByteArray}{W:Int}{l:Sl}{qs:List Qr}
set_option maxHeartbeats 1000000 in
theorem Gs {K:Int->aa->Prop}{x y:Nat}(hg:Gl A0)(hp:au F A0 p dp s)(E:lq A0 l qs)(an:∀b,ah l b->¬F b)(N:∀q∈qs,∀b,ah q.1 b->¬F b)(hl:qs.length<=1000000)(O:name.size<=9223372036854775807)(b:Bd s x y)(hx:x<800000000000)(hy:y<50000000000)
  (c:∀F' B,au F' B p dp (ie s name W (qs.map (·.2))).1->Step F F' A0 B->K (ie s name W (qs.map (·.2))).2 B):
  G4.sp (aE p) name W A0 λ(d:(Option Addr×Int)) H8=>br (d.2!=(0:Int)) (K d.2 H8) (ax Int (0:Int) H8 λnext z H9=>br (decide (z<(l.n:Int))) (ae l.a λa1=>(0<=z/\z<(l.n:Int))/\ld ak H9 (a1.add (z.toNat*1)) λ(a6:Sl)=>y7.sp d.1 a6 H9 λ(e:Int) P=>br (e !=(0:Int)) (K e P) (next (Ol.wrap (z+(1:Int))) P)) (Fs.sp d.1 H9 λ(a7:(Int×Int)) a8=>K a7.2 a8)):=by
 have q1:=b.lo;have q2:=b.hi;have q3:=b.aB;have bM:=b.make (n:=name) (W:=W) (by omega);have bs:=hg.lt;have R:=hp.eO;unfold ie at c;refine w8 hg hp O (by omega) (by omega) q1 b.fit (λF2 B p2 S2 G=>?_) (λF2 B kw w p2 S2 G w2 k1 k2=>?_)
 ·have e1:=gR.1 G;rw[G] at c;exact aP (by simpa using e1) (c F2 B p2 S2)
 obtain⟨e1,hw,W0,bb⟩:=gR.2 w G;subst hw;rw[G] at c;simp only at c;generalize (bj s name W).1=s1 at*;rw[e1];refine aC rfl ?_;have bx:l.n=qs.length:=az.n E.out (by decide);have S:∀b,dv kw bc bc b->b=kw:=by
  rintro b (q|q|q)
  ·exact q
  ·exact absurd q (aS b)
  ·exact absurd q (aS b)
 refine ar qs.length (λi z B=>z=(i:Int)/\∃F' s' w sw sl,au F' B p dp s'/\pv B kw p w sw sl/\(∀b,F' b->¬dv kw sw sl b)/\(∀b,F' b\/dv kw sw sl b->F b\/A0.size<=b)/\Mod F A0 B/\Bd s' (x+1+i) (y+2+2*i)/\me w name i/\
   kV (qs.map (·.2)) s1 (wb name W)=kV ((qs.map (·.2)).drop i) s' w) ⟨rfl,F2,s1,wb name W,bc,bc,p2,w2,λb I q=>k2 ((S b q)▸I),λb I=>?_,S2.mod,bM,wW name W0 bb,rfl⟩ ?_
 ·rcases I with q|q
  ·exact S2.own b q
  ·have:=S b q;exact .inr (by omega)
 rintro i z B next hi ⟨rfl,F',s',w,sw,sl,pB,wB,dB,J,m,t,v,f⟩ D
 have T:=hg.mod m R;have u1:=t.lo;have u2:=t.hi;have u3:=t.aB;have V:¬dv kw sw sl bh:=λq=>(J _ (.inr q)).elim R λr=>by omega
 have c1:=v.wait;have c2:=v.n;have c3:=v.rows;have X:∀b,b<A0.size->¬F b->¬(F' b\/dv kw sw sl b):=λb I O q=>by
  rcases J b q with r|r
  ·exact O r
  ·omega
 refine ag (λhc=>?_) (λhc=>?_)
 ·have j:i<qs.length:=by
   have:(i:Int)<(l.n:Int):=by simpa using hc
   omega
  obtain⟨q,gq⟩:∃q,qs[i]?=some q:=⟨_,On j⟩;have mq:=Oo gq;have Y:lq B l qs:=⟨E.out.mod m an,λa Z=>(E.own a Z).mod m (N a Z),E.iF⟩;refine Y.get gq ?_;have hd:(qs.map (·.2)).drop i=q.2::(qs.map (·.2)).drop (i+1):=by
   rw[Pf (by simpa using j)];congr 1;rw[On j] at gq;rw[List.getElem_map,OS gq]
  rw[hd] at f;simp only[kV] at f;have bd:=t.add (w:=w) (by omega) q.2;have bl:=(v.add s' q.2).1;refine BD T V wB pB dB (Y.ints mq) (λad Z r=>X ad.block ((E.own q mq).lt _ ⟨ad,Z,rfl⟩) (N q mq _ ⟨ad,Z,rfl⟩) (.inr r)) (by have:=E.iF q mq;omega) (by omega) (by omega) (by omega) (by rw[v.name];exact O) (by omega) (by omega) u1 t.fit λF3 af K9 C p3 w3 d3 S3=>?_;have o3:∀b,F3 b\/dv kw af K9 b->F b\/A0.size<=b:=λb r=>by
   rcases S3.own b r with u|u
   ·exact J b u
   ·have:=m.size;exact .inr (by omega)
  have m3:Mod F A0 C:=m.trans' S3.mod λb I r=>(J b r).resolve_right (by omega);by_cases e0:(w.add s' q.2).2.2=0
  ·rw[if_neg (by rw[e0];simp)] at f;rw[e0];refine aC rfl ?_;rw[aD i (by omega)];exact D j _ C ⟨rfl,F3,_,_,af,K9,p3,w3,d3,o3,m3,bd.mono (by omega) (by omega),bl,f⟩
  ·rw[if_pos e0] at f;rw[f] at c;unfold uY at c;rw[if_pos e0] at c;exact aP (by simpa using e0) (c F3 C p3 ⟨m3,λb r=>o3 b (.inl r)⟩)
 ·have bn:i=qs.length:=by
   have:¬(i:Int)<(l.n:Int):=by simpa using hc
   omega
  subst bn;have hd:(qs.map (·.2)).drop qs.length=[]:=List.drop_of_length_le (by simp);rw[hd] at f;simp only[kV] at f;rw[f] at c;unfold uY at c;rw[if_neg (by simp)] at c;have o:=t.out (w:=w) (by omega);have o1:=o.hi;have G:=o.aB;refine vk T V wB pB dB (by omega) v.width.1 (by rw[v.name];exact O) (by omega) (by omega) u1 t.fit (by omega) (by omega) (λh hd=>?_) λF3 bA C p3 w3 d3 S3=>?_
  ·rw[Pl.BC,Pl.Fp];have:=(w.out s').1.tH w.b.name 0;omega
  ·refine c F3 C p3 ⟨m.trans' S3.mod λb I r=>(J b r).resolve_right (by omega),λb r=>?_⟩;rcases S3.own b (.inl r) with u|u
   ·exact J b u
   ·have:=m.size;exact .inr (by omega)
end
end Go.Proofs.YtmkbhnholcaghaaGreatDoor
namespace Go.Proofs.YtmkbhnholcaghaaGreatDoor
section
variable {M:nw}{W:Nat}{p:Pl}{Q U:Nat}{to:ByteArray}{out:List (List Int)}{w:RW}{i:Nat}
theorem AF:∀(l:List (List Int)) (a:List Int),(dd a l).length<=l.length
 |[],_=>Ot _
 |b::l,a=>by
   simp only[dd];have h1:=AF l a;have c:=AF l b;split<;>simp only[O3]<;>omega
theorem jN (l:List (List Int)):(eQ (jR l)).length<=l.length:=by
 have h:=(pF l).length_eq;cases e:jR l with
 |nil=>exact OL _
 |cons a t=>
   rw[e] at h;simp only[eQ,O3] at h ⊢;have:=AF t a;omega
end
section
variable {M:nw}{W:Nat}{p:Pl}{Q U:Nat}{to:ByteArray}{out:List (List Int)}
end
theorem dU (n:ByteArray)(i:Nat):(bV n i).size=n.size+1+(mg i).size:=by
 unfold bV;rw[Sf,Sf];rfl
open Go.MapKept
def ir (p:Nat)(t:So)(sw ss:Sl):Array Value:=#[.pointer (aE p),.string t.name,.int .i64 t.width,.int .i64 t.frames,sw.v,ss.v,.int .i64 (t.next:Int),.int .i64 t.wrong,.bool t.closed]
structure Jn (H:aa)(k p:Nat)(t:So)(sw:Sl)(rs:List Sl)(ss:Sl):Prop where
 row:aj H k wc (ir p t sw ss)
 wait:aN H 0 sw rs t.wait
 names:bQ jX H ss.a t.side
 n:ss.n=t.side.length/\ss.n<=ss.c
 iF:∀l∈t.wait,l.length<=16
structure qt (H:aa)(k p:Nat)(t:So)(sw:Sl)(rs:List Sl)(ss:Sl):Prop where
 rd:Jn H k p t sw rs ss
 side:az jX dy H ss t.side
def cj (k:Nat)(sw:Sl)(rs:List Sl)(ss:Sl)(b:Nat):Prop:=b=k\/ah sw b\/(∃x∈rs,ah x b)\/ah ss b
structure vQ (t:So):Prop where
 name:t.name.size<=1000000
 wait:t.wait.length<=400000
 side:t.side.length<=1000
 sizes:∀n∈t.side,n.size<=9223372036854775807
 next:t.next<100
 frames:0<=t.frames/\t.frames<=1000000
section
variable {H:aa}{k p dp:Nat}{t:So}{sw ss:Sl}{rs:List Sl}{F:Nat->Prop}{s:Pl}
theorem qt.mk' (row:aj H k wc (ir p t sw ss))(wait:aN H 0 sw rs t.wait)(side:az jX dy H ss t.side)(iF:∀l∈t.wait,l.length<=16):qt H k p t sw rs ss:=
 ⟨⟨row,wait,side.rd,⟨az.n side (by decide),aO.cap side⟩,iF⟩,side⟩
theorem Jn.jK (h:Jn H k p t sw rs ss):¬ah sw k:=λq=>by
 obtain⟨cur,a⟩:=h.wait.out.obj k q;exact absurd (aG a h.row) (by decide)
theorem Jn.jz (h:Jn H k p t sw rs ss):∀x∈rs,¬ah x k:=λx a q=>by
 obtain⟨l,hl⟩:=h.wait.rowAt a;obtain⟨cur,c⟩:=hl.obj k q;exact absurd (aG c h.row) (by decide)
theorem qt.nU (h:qt H k p t sw rs ss):¬ah ss k:=λq=>by
 obtain⟨cur,a⟩:=h.side.obj k q;exact absurd (aG a h.rd.row) (by decide)
theorem qt.lt (h:qt H k p t sw rs ss):∀b,cj k sw rs ss b->b<H.size:=by
 rintro b (q|q|⟨x,a,q⟩|q)
 ·subst q;exact aA h.rd.row
 ·exact(h.rd.wait.block.1 b q).2
 ·exact(h.rd.wait.block.2 x a b q).2
 ·exact h.side.lt b q
theorem qt.mod {G:Nat->Prop}{H':aa}(h:qt H k p t sw rs ss)(m:Mod G H H')(c:∀b,cj k sw rs ss b->¬G b):qt H' k p t sw rs ss:=
 .mk' (h.rd.row.mod m (c k (.inl rfl))) (h.rd.wait.mod m (λb a=>c b (.inr (.inl a))) λx d b a=>c b (.inr (.inr (.inl ⟨x,d,a⟩)))) (h.side.mod m λb a=>c b (.inr (.inr (.inr a)))) h.rd.iF
theorem kz {K:Int->aa->Prop}(h:aj H k wc (ir p t sw ss))(a:K t.ready H):HG.sp (aE k) H K:=by
 refine HG.of ?_;unfold HG.vc;unfold So.ready at a;unfold aE;simp only[al];refine aC rfl ?_;refine h.ld (c:=ab .i64) (i:=7) (x:=t.wrong) rfl ?_;refine ag (λe=>?_) (λe=>?_)
 ·refine h.ld (c:=ab .i64) (i:=7) (x:=t.wrong) rfl ?_;rw[if_pos (by simpa using e)] at a;exact a
 ·rw[if_neg (by simpa using e)] at a;refine h.ld (c:=ay) (i:=8) (x:=t.closed) rfl ?_;cases d:t.closed with
  |true=>rw[d,if_pos rfl] at a;exact a
  |false=>rw[d,if_neg (by simp)] at a;exact a
theorem cN {n:Nat}(h:n<100):(mg n).size<=2:=(D0 n h).2
theorem qO {K:ByteArray->aa->Prop}(h:aj H k wc (ir p t sw ss))(d:t.next<100)(hs:t.name.size<=1000000)
  (f:∀H',aj H' k wc (ir p (t.to (t.next+1)) sw ss)->Mod (λb=>b=k) H H'->H'.size=H.size->K (bV t.name t.next) H'):It.sp (aE k) H K:=by
 refine It.of ?_;unfold It.vc;unfold aE;simp only[al];refine h.ld (c:=ab .i64) (i:=6) (x:=(t.next:Int)) rfl ?_;rw[aD t.next (by omega)];refine aj.st h (i:=6) (by simp[ir]) rfl λH1 j m1 m=>?_;have a:aj H1 k wc (ir p (t.to (t.next+1)) sw ss):=j;have h1:KZ.size=1:=rfl;refine⟨λA=>aj A k wc (ir p (t.to (t.next+1)) sw ss),a,?_⟩;refine aj.dt (c:=aH) (i:=1) (x:=t.name) (cs:=λ_=>_) (λ_ q=>q) (λ_ _=>rfl) ?_;have o:t.name.size+(ByteArray.mk #[126]).size<=1000001:=by show t.name.size+1<=_;omega
 refine⟨by omega,?_⟩;refine a.ld (c:=ab .i64) (i:=6) (x:=((t.next+1:Nat):Int)) rfl ?_;have e:Ol.wrap (((t.next+1:Nat):Int) - 1)=(t.next:Int):=by rw[wrap64 (by omega) (by omega)];omega
 rw[e];refine IP d ⟨a,?_,f H1 a m1 m⟩;have:=cN d;rw[Sf];omega
set_option maxHeartbeats 1000000 in
theorem xi {K:Int->aa->Prop}{x y:Nat}(hg:Gl H)(af:¬cj k sw rs ss bh)(h:qt H k p t sw rs ss)(hp:au F H p dp s)(dis:∀b,F b->¬cj k sw rs ss b)(I:vQ t)(b:Bd s x y)(m:x<800000000000)(hy:y<50000000000)
  (hK:∀F' e H',au F' H' p dp (t.aside s).1->qt H' k p (t.aside s).2.1 bc [] e->(∀b,F' b->¬cj k bc [] e b)->Step (λb=>F b\/cj k sw rs ss b) (λb=>F' b\/cj k bc [] e b) H H'->K (t.aside s).2.2 H'):Ee.sp (aE k) H K:=by
 refine Ee.of ?_;unfold Ee.vc;unfold aE;simp only[al];have an:=h.rd.wait.qr h.rd.iF;obtain⟨z1,z2⟩:=zN h.rd.wait.len;have bd:(rs.zip t.wait).length<=400000:=by
  have:=congrArg Ui z2;rw[O7] at this;have:=I.wait;omega
 have J:∀q∈rs.zip t.wait,∀b,ah q.1 b->∃x∈rs,ah x b:=λq N b d=>⟨q.1,by rw[<-z1];exact OC.2 ⟨q,N,rfl⟩,d⟩;have f:=h.rd.jK;have j:=h.nU;have hk:=aA h.rd.row;refine h.rd.row.ld (c:=ak) (i:=4) (x:=sw) rfl ?_;refine yF an (by omega) λv A hP T hA mA=>?_;have rA:=h.rd.row.mod mA f;refine rA.ld (c:=ak) (i:=4) (x:=sw) rfl ?_;have bl:=hP.length_eq;refine Ah hA (by omega) λn B hn hB mB=>?_;have z:Mod (ah sw) H B:=mA.trans mB;have rB:=h.rd.row.mod z f;refine qO rB I.next I.name λC rC mC zC=>?_;have O:∀b,ah ss b->¬ah sw b:=λb d=>h.side.apart h.rd.wait.out (by decide) b d;have sC:az jX dy C ss t.side:=(h.side.mod z O).mod mC λb d q=>j (q▸d);refine rC.ld (c:=ak) (i:=5) (x:=ss) rfl ?_;refine az.push (E:=jX) (x:=bV t.name t.next) Aj sC rfl (by have:=I.side;omega) (by have:=I.side;omega) λe D oD V _=>?_;have bn:=z.size;have G:¬ah e k:=λq=>by
  rcases V.2 k q with r|r
  ·exact j r
  ·omega
 have rD:=rC.mod V.1 j;refine aj.st rD (i:=4) (by simp[ir]) rfl λD1 r1 m1 bs=>?_;refine aj.st r1 (i:=5) (by simp[ir]) rfl λu r2 m2 bx=>?_;have m12:Mod (λq=>q=k) D u:=m1.trans m2;have X:aj u k wc (ir p t.iN bc e):=r2;have o2:az jX dy u e (t.side++[bV t.name t.next]):=oD.mod m12 λb d q=>G (q▸d);refine X.ld (c:=aw) (i:=0) (x:=aE p) rfl ?_;refine X.ld (c:=ab .i64) (i:=2) (x:=t.width) rfl ?_
 -- what was written so far
 have bA:=V.1.size;have bB:=m12.size;have mH:Mod (cj k sw rs ss) H u:=by
  have a1:Mod (cj k sw rs ss) H C:=(z.mono λb _ q=>.inr (.inl q)).trans' mC λb _ q=>.inl q;have a2:Mod (cj k sw rs ss) H D:=a1.trans' V.1 λb _ q=>.inr (.inr (.inr q));exact a2.trans' m12 λb _ q=>.inl q
 have pD:au F u p dp s:=hp.keep λb d hl=>mH.same b hl (dis b d);have a6:Gl u:=hg.mod mH af;have lB:∀b,ah (⟨sw.a,n,sw.c⟩:Sl) b->ah sw b:=λb d=>d;have P:∀q∈gQ v,q∈rs.zip t.wait:=λq N=>hP.mem_iff.1 (vd N);have a7:∀b,ah sw b->b<H.size:=λb d=>(h.rd.wait.block.1 b d).2;have Y:lq u ⟨sw.a,n,sw.c⟩ (gQ v):=by
  have o:∀b,b<H.size->¬ah ss b->b≠k->u[b]?=B[b]?:=λb d n1 n2=>by
   have a1:=mC.same b (by omega) n2;have a2:=V.1.same b (by omega) n1;have a3:=m12.same b (by omega) n2;rw[a3,a2,a1]
  refine⟨hB.out.keep λb d _=>o b (a7 b d) (λq=>O b q d) λq=>f (q▸d),λq N=>(hB.own q N).keep λb d _=>?_,hB.iF⟩;obtain⟨x,m,Z⟩:=J q (P q N) b d;obtain⟨l,hl⟩:=h.rd.wait.rowAt m;exact o b ((h.rd.wait.block.2 x m b Z).2) (λq=>h.side.apart hl (by decide) b q Z) λq=>h.rd.jz x m (q▸Z)
 have R:(gQ v).map (·.2)=eQ (jR t.wait):=by rw[CJ,T,z2]
 have bC:(gQ v).length<=400000:=by
  have a:=jN t.wait;have c:=congrArg Ui R;rw[O7] at c;have:=I.wait;omega
 unfold So.aside at hK;rw[<-R] at hK;refine Gs a6 pD Y (λb d q=>dis b q (.inr (.inl d))) (λq N b d r=>dis b r (.inr (.inr (.inl (J q (P q N) b d))))) (by omega) (by have:=cN I.next;have:=I.name;rw[dU];omega) b m hy λF' E pE SE=>?_;have S:∀b,cj k bc [] e b->¬F b:=by
  rintro b (q|q|⟨x,m,_⟩|q) d
  ·exact dis b d (.inl q)
  ·exact absurd q (aS b)
  ·cases m
  ·rcases V.2 b q with r|r
   ·exact dis b d (.inr (.inr (.inr r)))
   ·have:=hp.lt b d;omega
 have a8:∀b,cj k bc [] e b->b<u.size:=by
  rintro b (q|q|⟨x,m,_⟩|q)
  ·omega
  ·exact absurd q (aS b)
  ·cases m
  ·exact o2.lt b q
 have bb:qt u k p t.iN bc [] e:=.mk' X (aN.nil _ _) o2 λl hl=>(by cases hl);refine hK F' e E pE (bb.mod SE.mod S) (λb d q=>?_) ⟨(mH.mono λb _ q=>.inr q).trans' SE.mod λb _ q=>.inl q,λb d=>?_⟩
 ·rcases SE.own b d with r|r
  ·exact S b q r
  ·have:=a8 b q;omega
 ·rcases d with q|q|q|⟨x,m,_⟩|q
  ·rcases SE.own b q with r|r
   ·exact .inl (.inl r)
   ·exact .inr (by omega)
  ·exact .inl (.inr (.inl q))
  ·exact absurd q (aS b)
  ·cases m
  ·rcases V.2 b q with r|r
   ·exact .inl (.inr (.inr (.inr (.inr r))))
   ·exact .inr (by omega)
end
end Go.Proofs.YtmkbhnholcaghaaGreatDoor
namespace Go.Proofs.YtmkbhnholcaghaaGreatDoor
theorem uM:∀{rs:List RR} {s:Pl} {x y:Nat},Bd s x y->x+rs.length<1000000000000->Bd (ba rs s).1 (x+rs.length) (y+rs.length)
 |[],s,x,y,h,_=>h
 |r::rs,s,x,y,h,a=>by
   rw[O3] at a ⊢;have h1:=h.next (r:=r) (by omega);simp only[ba];split
   ·exact h1.mono (by omega) (by omega)
   ·exact(uM (rs:=rs) h1 (by omega)).mono (by omega) (by omega)
theorem Gv {s:Pl}{w:RW}{l:List Int}{x y:Nat}(h:Bd s x y)(a:x<1000000000000):Bd (aQ s w l).1 (x+1) (y+2):=by
 unfold aQ;split
 ·exact h.add a l
 ·exact h.mono (by omega) (by omega)
theorem uU:∀(f:Nat) {s:Pl} {rs:List RR} {hs:List (Option (List Int))} {w:RW} {x y:Nat},Bd s x y->x+2*f<999999999990->(gi f s rs hs w).1.fs.length<=4096->Bd (gi f s rs hs w).1 (x+2*f+2) (y+3*f+4200)
 |0,s,rs,hs,w,x,y,h,_,_=>h.mono (by omega) (by omega)
 |f+1,s,rs,hs,w,x,y,h,d,hw=>by
   unfold gi at hw ⊢;split at hw
   ·exact(h.close (by omega) hw).mono (by omega) (by omega)
   ·rename_i i l e;have h1:=Gv (w:=w) (l:=l) h (by omega);split at hw
    ·rename_i a;rw[if_pos a];exact h1.mono (by omega) (by omega)
    ·rename_i a;rw[if_neg a];have c:=h1.next (r:=rs.getD i default) (by omega);split at hw
     ·rename_i e2;rw[if_pos e2];exact c.mono (by omega) (by omega)
     ·rename_i e2;rw[if_neg e2];exact(uU f c (by omega) hw).mono (by omega) (by omega)
theorem uQ {W:Int}:∀{ns:List ByteArray} {s:Pl},(aW W ns s).2.1.length<=ns.length
 |[],s=>Ot _
 |n::ns,s=>by
   simp only[aW];split
   ·exact OL _
   ·simp only[O3];have:=uQ (W:=W) (ns:=ns) (s:=(rnOpen s n W).1);omega
theorem kB:∀{rs:List RR} {s:Pl},(∀r∈rs,r.Ok)->bJ (ba rs s).2.1+fU (ba rs s).2.2.1<=bJ rs
 |[],s,_=>Ot _
 |r::rs,s,h=>by
   simp only[ba];split
   ·exact OL _
   ·have a:=RR.kE (h r OO) s;have b:=kB (rs:=rs) (s:=(r.next s).1) λx c=>h x (OM _ c);simp only[bJ,fU,OJ,Py] at b ⊢;omega
theorem yB {W:Int}:∀{ns:List ByteArray} {s:Pl},∀r∈(aW W ns s).2.1,r.Ok
 |[],s,r,h=>by cases h
 |n::ns,s,r,h=>by
   simp only[aW] at h;split at h
   ·cases h
   ·rename_i q e;rcases OG.1 h with u|u
    ·subst u;exact(mN e).1
    ·exact yB (ns:=ns) r u
theorem mO {s:Pl}{ns:List ByteArray}{to:ByteArray}{W:Int}{x y N:Nat}(h:Bd s x y)(hl:ns.length<=1000)(j:x+2*N<900000000000)(m:bJ (aW W ns s).2.1<=N)(hw:(cO s ns to W).1.fs.length<=4096):Bd (cO s ns to W).1 (x+2*N+3000) (y+3*N+9000):=by
 unfold cO at hw ⊢;split at hw
 ·rename_i e;rw[if_pos e];exact h.mono (by omega) (by omega)
 ·rename_i e;rw[if_neg e];have h1:=rM (ns:=ns) (W:=W) h (by omega);split at hw
  ·rename_i a;rw[if_pos a];exact h1.mono (by omega) (by omega)
  ·rename_i a;rw[if_neg a];have d:=h1.make (n:=to) (W:=W) (by omega);unfold lS at hw ⊢;split at hw
   ·exact d.mono (by omega) (by omega)
   ·rename_i w e2;have o:=uQ (W:=W) (ns:=ns) (s:=s);have f:=uM (rs:=(aW W ns s).2.1) d (by omega);have q:=kB (s:=(bj (aW W ns s).1 to W).1) (yB (W:=W) (ns:=ns) (s:=s));unfold zy at hw ⊢;split at hw
    ·rename_i c;rw[if_pos c];exact f.mono (by omega) (by omega)
    ·rename_i c;rw[if_neg c];exact(uU _ f (by omega) hw).mono (by omega) (by omega)
theorem yG:∀{l:List ByteArray} {s:Pl} {x y:Nat},Bd s x y->Bd (jk l s).1 x y
 |[],s,x,y,h=>h
 |n::l,s,x,y,h=>by
   simp only[jk];split
   ·exact h.cV
   ·exact yG h.cV
theorem sx {s:Pl}{n:ByteArray}{W:Int}{L:List (List Int)}{x y:Nat}(h:Bd s x y)(d:x+L.length<900000000000)(hw:(ie s n W L).1.fs.length<=4096):Bd (ie s n W L).1 (x+L.length+10) (y+2*L.length+5000):=by
 have h1:=h.make (n:=n) (W:=W) (by omega);unfold ie at hw ⊢;split at hw
 ·exact h1.mono (by omega) (by omega)
 ·rename_i w e;have c:=yb (L:=L) (w:=w) h1 (by omega);unfold uY at hw ⊢;split at hw
  ·rename_i a;rw[if_pos a];exact c.mono (by omega) (by omega)
  ·rename_i a;rw[if_neg a];exact(c.close (by omega) hw).mono (by omega) (by omega)
open Go.MapKept
section
variable {H:aa}{k p dp:Nat}{t:So}{sw ss:Sl}{rs:List Sl}{F:Nat->Prop}{s:Pl}
theorem au.frames (h:au F H p dp s):s.fs.length<=4096:=OE h.wf.len h.wf.most.2
theorem xH {n:ByteArray}{W fr:Int}{K:(Option Addr×Int)->aa->Prop}(j:au F H p dp s)
  (a:(ig s n W fr).1=none->K (none,(ig s n W fr).2) H) (d:(ig s n W fr).1=some (GV n W fr)->(ig s n W fr).2=0->∀H',Ext H H'->qt H' H.size p (GV n W fr) bc [] bc->K (aE H.size,0) H'):Hr.sp (aE p) n W fr H K:=by
 refine Hr.of ?_;unfold Hr.vc;unfold ig at a d;have made:aF W≠0->¬(fr<3\/fr>s.most)->aJ H #[(.pointer (aE p)),(.string n),(.int .i64 W),(.int .i64 fr),(.slice none 0 0),(.slice none 0 0),(.int .i64 (0:Int)),(.int .i64 (0:Int)),(.bool false)] wc λf m=>K (some f,(0:Int)) m:=λh1 e=>by
  rw[if_neg h1,if_neg e] at d;refine av λH1 v o u=>?_;exact d rfl rfl H1 u (.mk' o (aN.nil _ _) (az.nil _ _ _) λl hl=>(by cases hl))
 refine aC rfl ?_;refine nX ?_;refine ag (λc=>?_) (λc=>?_)
 ·have h1:aF W=0:=by simpa using c
  rw[if_pos h1] at a;exact a rfl
 have h1:aF W≠0:=by simpa using c
 rw[if_neg h1] at a;refine ag (λc=>?_) (λc=>?_)
 ·have e:fr<3:=by simpa using c
  rw[if_pos (.inl e)] at a;exact aP c (a rfl)
 have e:¬fr<3:=by simpa using c
 refine Dz j ?_;refine ag (λc=>?_) (λc=>?_)
 ·have h:fr>s.most:=by simpa using c
  rw[if_pos (.inr h)] at a;exact a rfl
 have h:¬fr>s.most:=by simpa using c
 exact made h1 λq=>q.elim e h
set_option maxHeartbeats 1000000 in
theorem IT {K:Int->aa->Prop}{l:Sl}{ll:List Int}{x y:Nat}(hg:Gl H)(X:¬cj k sw rs ss bh)(h:qt H k p t sw rs ss)(hp:au F H p dp s)(dis:∀b,F b->¬cj k sw rs ss b)(V:vQ t)(bb:t.wait.length<400000)(hW:t.width<=16)(hl:Ints .u64 H l ll)(b:Bd s x y)(f:x<800000000000)(hy:y<50000000000)
  (j:∀F' O P R H',au F' H' p dp (t.add s ll).1->qt H' k p (t.add s ll).2.1 O P R->(∀b,F' b->¬cj k O P R b)->Step (λb=>F b\/cj k sw rs ss b) (λb=>F' b\/cj k O P R b) H H'->K (t.add s ll).2.2 H'):xv.sp (aE k) l H K:=by
 refine xv.of ?_;unfold xv.vc;unfold So.add at j;refine kz h.rd.row ?_;unfold aE;simp only[al];refine ag (λm=>?_) (λm=>?_)
 ·rw[if_pos (by simpa using m)] at j;exact j F sw rs ss H hp h dis (.refl _ _)
 rw[if_neg (by simpa using m)] at j;refine h.rd.row.ld (c:=ab .i64) (i:=2) (x:=t.width) rfl ?_;have Y:=hl.len;refine ag (λm=>?_) (λm=>?_)
 ·have e1:(ll.length:Int)≠t.width:=by rw[<-Y];simpa using m
  rw[if_pos e1] at j;exact j F sw rs ss H hp h dis (.refl _ _)
 have e1:¬(ll.length:Int)≠t.width:=by rw[<-Y];simpa using m
 rw[if_neg e1] at j;have af:ll.length<=16:=by omega
 refine⟨λA=>aj A k wc (ir p t sw ss),h.rd.row,?_⟩;refine aj.dt (c:=ak) (i:=4) (x:=sw) (cs:=λ_=>_) (λ_ q=>q) (λ_ _=>rfl) ?_;refine pG hl (by omega) λr A oA eA fA=>?_;have z:=h.mod eA λ_ _=>id;have hk:=aA h.rd.row;refine⟨z.rd.row,?_⟩;have bd:=h.rd.wait.n;show aj (A.push _) k _ _/\_;refine⟨z.rd.row.ext (Mod.push _ _ _),aN.Gn (base:=0) z.rd.wait oA (λx f b a an=>?_) (by omega) (OL _) λs' B n1 o1 m1 g1=>?_⟩
 ·have:=fA b a;have:=(h.rd.wait.block.2 x f b an).2;omega
 have o:=z.rd.jK;have zA:=eA.size;have G:¬ah s' k:=λq=>by
  rcases g1 k q with r|r
  ·exact o r
  ·omega
 refine aj.st (z.rd.row.mod m1 o) (i:=4) (by simp[ir]) rfl λC rC mC zC=>?_;obtain⟨t1,d⟩:∃t1:So,t1={t with wait:=t.wait++[ll]}:=⟨_,rfl⟩;rw[<-d] at j;have I:aj C k wc (ir p t1 s' ss):=by rw[d];exact rC
 have iL:∀x∈rs++[r],¬ah x k:=λx f q=>by
  rcases Ox.1 f with u|u
  ·exact z.rd.jz x u q
  ·rw[OH] at u;subst u;have:=fA k q;omega
 have hC:qt C k p t1 s' (rs++[r]) ss:=by
  refine .mk' I ?_ ?_ ?_
  ·rw[d];exact o1.mod mC (λb a q=>G (q▸a)) λx f b a q=>iL x f (q▸a)
  ·rw[d];exact(z.side.mod m1 λb a q=>z.side.apart z.rd.wait.out (by decide) b a q).mod mC λb a q=>z.nU (q▸a)
  ·rw[d];intro x f;rcases Ox.1 f with u|u
   ·exact h.rd.iF x u
   ·rw[OH] at u;subst u;exact af
 have z1:=m1.size;have v:Mod (λb=>b=k\/ah sw b) H C:=((Ext.mod eA).trans' m1 λb _ q=>.inr q).trans' mC λb _ q=>.inl q;have e:∀b,cj k s' (rs++[r]) ss b->cj k sw rs ss b\/H.size<=b:=by
  rintro b (q|q|⟨x,f,q⟩|q)
  ·exact .inl (.inl q)
  ·rcases g1 b q with u|u
   ·exact .inl (.inr (.inl u))
   ·exact .inr (by omega)
  ·rcases Ox.1 f with u|u
   ·exact .inl (.inr (.inr (.inl ⟨x,u,q⟩)))
   ·rw[OH] at u;subst u;exact .inr (fA b q)
  ·exact .inl (.inr (.inr (.inr q)))
 have N:∀b,F b->¬cj k s' (rs++[r]) ss b:=λb a q=>by
  rcases e b q with u|u
  ·exact dis b a u
  ·have:=hp.lt b a;omega
 have pC:au F C p dp s:=hp.keep λb a S=>v.same b S λq=>dis b a (q.imp_right .inl);refine⟨λA=>aj A k wc (ir p t1 s' ss),I,?_⟩;refine aj.dt (c:=ak) (i:=4) (x:=s') (cs:=λ_=>_) (λ_ q=>q) (λ_ _=>rfl) ?_;refine aj.dt (c:=ab .i64) (i:=3) (x:=t.frames) (cs:=λ_=>_) (λ_ q=>q) (λ_ _=>by rw[d];rfl) ?_;refine I.ld (c:=ab .i64) (i:=2) (x:=t.width) (by rw[d];rfl) ?_;refine nX ⟨I,?_⟩;obtain⟨a6,bl⟩:=c6 ⟨t.name,t.width,0,false⟩;simp only at a6;have hf:=V.frames;have p1:t.frames*aF t.width<=1000000*504:=Int.mul_le_mul hf.2 (by omega) (by omega) (by decide);have p0:0<=t.frames*aF t.width:=Int.mul_nonneg hf.1 (by omega);rw[wrap64 (by omega) (by omega)];have zH:=v.size;refine ag (λm=>?_) (λm=>?_)
 ·have e2:((t.wait.length+1:Nat):Int)<t.frames*aF t.width:=by
   have:(s'.n:Int)<t.frames*aF t.width:=by simpa using m
   omega
  rw[if_pos e2] at j;refine j F s' (rs++[r]) ss C pC hC N ⟨v.mono λb _ q=>.inr (q.imp_right .inl),λb a=>?_⟩;rcases a with u|u
  ·exact .inl (.inl u)
  ·exact(e b u).imp .inr id
 ·have e2:¬((t.wait.length+1:Nat):Int)<t.frames*aF t.width:=by
   have:¬(s'.n:Int)<t.frames*aF t.width:=by simpa using m
   omega
  rw[if_neg e2] at j;have a7:vQ t1:=by rw[d];exact⟨V.name,by simp;omega,V.side,V.sizes,V.next,V.frames⟩
  have gC:Gl C:=hg.mod v λq=>X (q.imp_right .inl);refine xi gC (λq=>(e _ q).elim X λu=>by have:=hg.lt;omega) hC pC N a7 b f hy λF2 J D pD hD dD SD=>?_;have a8:∀b,cj k bc [] J b->¬b=k->ah J b:=by
   rintro b (q|q|⟨x,f,_⟩|q) hn
   ·exact absurd q hn
   ·exact absurd q (aS b)
   ·cases f
   ·exact q
  refine aj.st hD.rd.row (i:=7) (by simp[ir]) rfl λE rE mE zE=>?_;have Z:aj E k wc (ir p {t1.iN with wrong:=(t1.aside s).2.2} bc J):=rE;refine Z.ld (c:=ab .i64) (i:=7) (x:=(t1.aside s).2.2) rfl ?_;have T:=hD.nU;refine j F2 bc [] J E (pD.keep λb a S=>mE.same b S λq=>dD b a (.inl q)) (.mk' Z (aN.nil _ _) (hD.side.mod mE λb a q=>T (q▸a)) λl hl=>(by cases hl)) dD ⟨?_,λb a=>?_⟩
  ·have a1:Mod (λb=>F b\/cj k sw rs ss b) H D:=(v.mono λb _ q=>.inr (q.imp_right .inl)).trans' SD.mod λb a q=>q.imp_right λu=>(e b u).resolve_right (by omega);exact a1.trans' mE λb _ q=>.inr (.inl q)
  ·rcases SD.own b a with (u|u)|u
   ·exact .inl (.inl u)
   ·exact(e b u).imp .inr id
   ·exact .inr (by omega)
end
def uZ (a b:List Int):Prop:=aT a b<0
theorem wH (a:List Int):¬uZ a a:=by unfold uZ;rw[iw];omega
theorem mS {a b c:List Int}(h:uZ a b)(k:uZ b c):uZ a c:=eY h k
theorem HW (a b:List Int):uZ a b\/a=b\/uZ b a:=by
 rcases Ai a b with q|q|q
 ·exact .inl (by unfold uZ;omega)
 ·exact .inr (.inl (ca.1 q))
 ·exact .inr (.inr (Ja.1 (by omega)))
def yw (L:List (List Int)):Prop:=L.Pairwise uZ
theorem Fv {L:List (List Int)}(h:yw L)(k:Nat):yw (L.take k):=h.sublist (List.take_sublist k L)
theorem FO {L:List (List Int)}(h:yw L)(k:Nat):yw (L.drop k):=h.sublist (List.drop_sublist k L)
theorem vT:∀{A B:List (List Int)},yw A->yw B->(∀y,y∈A↔y∈B)->A=B:=λ{A B} c d h=>by
 have f:∀{L:List (List Int)},yw L->L.Nodup:=λ{L} h=>Zt (λ{a b} h e=>by subst e;exact wH _ h) h;exact((List.perm_ext_iff_of_nodup (f c) (f d)).2 h).eq_of_pairwise (le:=uZ) (λa b _ _ h1 j=>absurd (mS h1 j) (wH a)) c d
structure eS (X:Nat->Prop)(A:aa)(s:Sl)(ls:List (List Int)):Prop where
 ex:∃rs:List Sl,aO A 0 fG 1 s (rs.map Sl.v)/\rs.length=ls.length/\∀(j:Nat) (r:Sl) (l:List Int),rs[j]?=some r->ls[j]?=some l->Ints .u64 A r l/\∀ad,r.a=some ad->ad.block<A.size/\¬X ad.block/\¬ah s ad.block
 off:∀b,ah s b->¬X b
section
variable {X X':Nat->Prop}{A B:aa}{s s':Sl}{ls:List (List Int)}{l:List Int}{r:Sl}
theorem eS.nil (X:Nat->Prop)(A:aa):eS X A (Sl.mk none 0 0) []:=⟨⟨[],aO.nil _ _ _ _,rfl,λj r l a=>by simp at a⟩,λb u=>by obtain⟨ad,h,_⟩:=u;cases h⟩
theorem eS.n (h:eS X A s ls):s.n=ls.length:=by
 obtain⟨rs,o,hl,_⟩:=h.ex;have:=o.1;rw[O7] at this;omega
theorem eS.step (h:eS X A s ls)(S:Step X X' A B):eS X' B s ls:=by
 obtain⟨rs,o,hl,f⟩:=h.ex;refine⟨⟨rs,o.mod S.mod h.off,hl,λj r l m a=>?_⟩,λb d u=>?_⟩
 ·obtain⟨q,e⟩:=f j r l m a;refine⟨q.mod S.mod λad c=>(e ad c).2.1,λad c=>?_⟩;obtain⟨z,C,D⟩:=e ad c;exact⟨Nat.lt_of_lt_of_le z S.mod.size,λv=>(S.own _ v).elim C λw=>by omega,D⟩
 ·exact(S.own b u).elim (h.off b d) λw=>by have:=(o.block b d).2;omega
theorem eS.lt (h:eS X A s ls):∀b,ah s b->b<A.size:=λb a=>by
 obtain⟨rs,o,_,_⟩:=h.ex;exact(o.block b a).2
theorem eS.rows (h:eS X A s ls):Rows A s ls:=by
 obtain⟨rs,o,hl,c⟩:=h.ex;refine⟨h.n,λi hi=>?_⟩;have a:i<rs.length:=by omega
 obtain⟨ad,d,e⟩:=o.reads.at (i:=i) (by rw[O7];exact a);exact⟨ad,rs[i],d,by simpa using e,(c i rs[i] ls[i] (On a) (On hi)).1⟩
end
structure Below (ls:List (List Int))(x:List Int)(k:Nat):Prop where
 le:k<=ls.length
 lo:∀j (h:j<ls.length),j<k->uZ ls[j] x
 hi:∀j (h:j<ls.length),k<=j->¬uZ ls[j] x
theorem Ac {ls:List (List Int)}(h:yw ls){i j:Nat}(hi:i<ls.length)(c:j<ls.length)(a:i<j):uZ ls[i] ls[j]:=List.pairwise_iff_getElem.1 h i j hi c a
theorem Below.mem {ls:List (List Int)}{x:List Int}{k:Nat}(h:Below ls x k)(d:yw ls):x∈ls↔∃hk:k<ls.length,ls[k]=x:=by
 constructor
 ·intro f;obtain⟨j,a,e⟩:=TW.1 f;rcases Sp j k with q|q|q
  ·have:=h.lo j a q;rw[e] at this;exact absurd this (wH _)
  ·subst q;exact⟨a,e⟩
  ·have h1:=h.hi k (by omega) (Ot _);have c:=Ac d (by omega) a q;rw[e] at c;exact absurd c h1
 ·rintro⟨hk,rfl⟩;exact Pa hk
theorem Below.ins {ls:List (List Int)}{x:List Int}{k:Nat}(h:Below ls x k)(f:yw ls)(m:x∉ls):yw (ls.take k++x::ls.drop k)/\∀y,y∈ls.take k++x::ls.drop k↔y=x\/y∈ls:=by
 have lo:∀y∈ls.take k,uZ y x:=λy c=>by
  obtain⟨j,d,rfl⟩:=TW.1 c;rw[Pc] at d;rw[List.getElem_take];exact h.lo j (by omega) (by omega)
 have hi:∀y∈ls.drop k,uZ x y:=λy c=>by
  obtain⟨j,d,rfl⟩:=TW.1 c;rw[List.length_drop] at d;rw[List.getElem_drop];rcases HW x ls[k+j] with q|q|q
  ·exact q
  ·exact absurd (q▸Pa _) m
  ·exact absurd q (h.hi (k+j) (by omega) (by omega))
 refine⟨List.pairwise_append.2 ⟨Fv f k,List.pairwise_cons.2 ⟨hi,FO f k⟩,λa h1 b o=>?_⟩,λy=>?_⟩
 ·rcases OG.1 o with e|e
  ·rw[e];exact lo a h1
  ·exact mS (lo a h1) (hi b e)
 ·rw[Ox,OG];constructor
  ·rintro(u|u|u)
   ·exact .inr (Pu u)
   ·exact .inl u
   ·exact .inr (List.mem_of_mem_drop u)
  ·rintro(u|u)
   ·exact .inr (.inl u)
   ·rw[<-List.take_append_drop k ls] at u;rcases Ox.1 u with v|v
    ·exact .inl v
    ·exact .inr (.inr v)
section
variable {X:Nat->Prop}{A:aa}{l s x:Sl}{ls:List (List Int)}{lx:List Int}
theorem FX {K:Int->aa->Prop}(h:Rows A l ls)(I:Ints .u64 A x lx)(E:yw ls)(P:ls.length<=1000)(hl:∀y∈ls,y.length<=1000)(J:∀k:Nat,Below ls lx k->K (k:Int) A):Jz.sp l x A K:=by
 refine Jz.of ?_;unfold Jz.vc;have v:=h.len;refine ar ls.length (λi z B=>A=B/\∃a b:Nat,z=((a:Int),(b:Int))/\a<=b/\b<=ls.length/\b - a+i<=ls.length/\(∀j (h:j<ls.length),j<a->uZ ls[j] lx)/\∀j (h:j<ls.length),b<=j->¬uZ ls[j] lx) ⟨rfl,0,ls.length,by rw[v];rfl,OL _,Ot _,by omega,λj _ h=>by omega,λj h1 R=>by omega⟩ ?_;rintro i _ B next hi ⟨rfl,a,b,rfl,N,G,S,lo,m⟩ c
 refine ag (λq=>?_) (λq=>?_)
 ·have q:(a:Int)<(b:Int):=of_decide_eq_true q;have hm:Ol.wrap (Int.tdiv (Ol.wrap ((a:Int)+(b:Int))) 2)=(((a+b)/2:Nat):Int):=by
   rw[wrap64 (x:=(a:Int)+b) (by omega) (by omega),Int.tdiv_eq_ediv_of_nonneg (by omega),wrap64 (by omega) (by omega)];omega
  simp only;rw[hm];obtain⟨mid,o⟩:∃mid,mid=(a+b)/2:=⟨_,rfl⟩;rw[<-o];have d:mid<ls.length:=by omega
  refine h.ld d λad r _ O=>?_;refine jP O I (by have:=hl _ (Pa d);omega) ?_;refine ag (λf=>?_) (λf=>?_)
  ·have f:uZ ls[mid] lx:=(of_decide_eq_true f:aT ls[mid] lx<0);refine c (by omega) _ _ ⟨rfl,mid+1,b,by rw[aD mid (by omega)],by omega,G,by omega,λj C D=>?_,m⟩;rcases Pb j mid with w|w
   ·exact mS (Ac E C d w) f
   ·have:j=mid:=by omega
    subst this;exact f
  ·have f:¬uZ ls[mid] lx:=(of_decide_eq_false f:¬aT ls[mid] lx<0);refine c (by omega) _ _ ⟨rfl,a,mid,rfl,by omega,by omega,by omega,lo,λj C D u=>?_⟩;rcases Pb mid j with w|w
   ·exact f (mS (Ac E d C w) u)
   ·have:j=mid:=by omega
    subst this;exact f u
 ·have q:¬(a:Int)<(b:Int):=of_decide_eq_false q;have e:a=b:=by omega
  subst e;exact J a ⟨G,lo,m⟩
theorem DY {α:Type}{rs:List α}{j:Nat}{y z:α}(a:j<rs.length)(c:rs[j]=z):(rs.take (j+1)++y::rs.drop (j+1)).set (j+1) z=rs.take j++z::rs.drop j:=by
 have hl:(rs.take (j+1)).length=j+1:=by rw[Pc];omega
 rw[TI _ _ (by omega),hl,Ua,QL,List.take_add_one,On a,c,Pf a,c];simp
theorem E7 {α:Type}{rs:List α}{j:Nat}{y z:α}(a:j<=rs.length):(rs.take j++y::rs.drop j).set j z=rs.take j++z::rs.drop j:=by
 have hl:(rs.take j).length=j:=by rw[Pc];omega
 rw[TI _ _ (by omega),hl,Ua,QL]
theorem ru {α:Type}{rs:List α}{k j:Nat}{z r:α}(hk:k<=rs.length)(h:(rs.take k++z::rs.drop k)[j]?=some r):j<k/\rs[j]?=some r\/j=k/\r=z\/k<j/\rs[j - 1]?=some r:=by
 have hl:(rs.take k).length=k:=by rw[Pc];omega
 rcases Sp j k with q|q|q
 ·rw[OP (by omega),Pd,if_pos q] at h;exact .inl ⟨q,h⟩
 ·subst q;rw[Pr (by omega),hl,Ua] at h;exact .inr (.inl ⟨rfl,(OS h).symm⟩)
 ·rw[Pr (by omega),hl] at h;obtain⟨i,hi⟩:∃i,j - k=i+1:=⟨j - k - 1,by omega⟩;rw[hi,List.getElem?_cons_succ,PU] at h;exact .inr (.inr ⟨q,by rw[show j - 1=k+i by omega];exact h⟩)
set_option maxHeartbeats 1000000 in
theorem Gk {k:Nat}{K:Sl->aa->Prop}(h:eS X A s ls)(E:Ints .u64 A x lx)(a8:lx.length<=1000)(hn:ls.length<=1000)(hk:k<=ls.length)(hX:∀b,X b->b<A.size)
  (hK:∀s' B,eS X B s' (ls.take k++lx::ls.drop k)->Mod (ah s) A B->(∀b,ah s' b->ah s b\/A.size<=b)->K s' B):
  bf ak Oj (Oq #[fG,fG] fG #[(.slice none 0 0),x.v]) A λ(own:Sl) Y=>aJ Y #[own.v] fG λp H4=>bf ak Oj (Oq #[fF,fF] fF #[s.v,(.slice (some p) 1 1)]) H4 λ(c:Sl) H5=>ax Int (Ol.wrap ((c.n:Int) - (1:Int))) H5 λnext i H6=>br (decide (i>(k:Int))) (ae c.a λaf=>(0<=(Ol.wrap (i - (1:Int)))/\(Ol.wrap (i - (1:Int)))<(c.n:Int))/\ld ak H6 (af.add ((Ol.wrap (i - (1:Int))).toNat*1)) λ(an:Sl)=>ae c.a λa1=>(0<=i/\i<(c.n:Int))/\st H6 (a1.add (i.toNat*1)) an.v λH7=>next (Ol.wrap (i - (1:Int))) H7) (ae c.a λa6=>(0<=(k:Int)/\(k:Int)<(c.n:Int))/\st H6 (a6.add ((k:Int).toNat*1)) own.v λH8=>K c H8):=by
 obtain⟨rs,o,hlen,hr⟩:=h.ex;have bb:=h.n;have ln:=E.len;refine uv.append (base:=A.size) (s:=Sl.mk none 0 0) (x:=x) (xs:=[]) (ws:=lx.map (OF .u64)) (aO.nil _ _ _ _) (by simp;omega) E.reads (ph _ _) (by simp only;omega) (by simp only;omega) (Ot _) λown Y n3 Z m3 b3 _=>?_;have e3:Ext A Y:=m3.ext (by rintro b ⟨ad,h,_⟩;cases h);have z3:=e3.size;have Z:aO Y A.size iV 1 own (lx.map (OF .u64)):=Z;have d:=Z.block;refine yQ.push (base:=0) (o.ext e3) rfl (by omega) (by omega) (OL _) λs' B n1 o1 m1 J _=>?_;have z1:=m1.size;have N:∀b,ah s b->b<A.size:=h.lt;have O:s'.n=ls.length+1:=by omega
 have P:rs.length=ls.length:=hlen;rw[show Ol.wrap ((s'.n:Int) - 1)=(ls.length:Int) by rw[O,wrap64 (by omega) (by omega)];omega];refine ar (ls.length - k) (λi z C=>z=((ls.length - i:Nat):Int)/\(∃y:Sl,aO C 0 fG 1 s' ((rs.take (ls.length - i)++y::rs.drop (ls.length - i)).map Sl.v))/\Mod (ah s') B C/\C.size=B.size) ⟨by simp,⟨own,?_⟩,.refl _ _,rfl⟩ ?_
 ·rw[Nat.sub_zero,<-P,RJ,RK,O8];exact o1
 rintro i _ C next hi ⟨rfl,⟨y,oC⟩,mC,zC⟩ G
 obtain⟨j,hj⟩:∃j,j=ls.length - i:=⟨_,rfl⟩;rw[<-hj] at oC ⊢;refine ag (λq=>?_) (λq=>?_)
 ·have q:(j:Int)>(k:Int):=of_decide_eq_true q;obtain⟨t,rfl⟩:∃t,j=t+1:=⟨j - 1,by omega⟩;have R:t<rs.length:=by omega
  have ew:Ol.wrap (((t+1:Nat):Int) - 1)=(t:Int):=by rw[wrap64 (by omega) (by omega)];omega
  rw[ew];obtain⟨ad,f,hc⟩:=oC.reads t (Sl.v rs[t]) (by rw[Oy,OP (by rw[Pc];omega),Pd,if_pos (by omega),On R];rfl);refine aV ad f ⟨⟨by omega,by omega⟩,rs[t],by rw[Ov,Pq];exact hc,?_⟩;refine oC.st (i:=((t+1:Nat):Int)) (by omega) (by omega) (by cases rs[t];rfl) λD oD mD zD=>?_;refine G (by omega) _ _ ⟨by omega,⟨rs[t],?_⟩,mC.trans mD,zD.trans zC⟩;rw[show ls.length - (i+1)=t by omega];have:=DY (y:=y) R rfl;rw[<-this,PK];exact oD
 ·have q:¬(j:Int)>(k:Int):=of_decide_eq_false q;have e:j=k:=by omega
  subst e;refine oC.st (i:=(j:Int)) (by omega) (by omega) (by cases own;rfl) λD oD mD zD=>?_;rw[Ov,<-PK,E7 (by omega)] at oD;have S:Mod (ah s) A D:=⟨by omega,λb m u=>by
   rw[mD.same b (by omega) λv=>(J b v).elim u λw=>by omega,mC.same b (by omega) λv=>(J b v).elim u λw=>by omega,m1.same b (by omega) u,e3.same b m id]⟩
  have old:∀{a:Sl} {y:List Int},Ints .u64 A a y->(∀ad,a.a=some ad->ad.block<A.size/\¬X ad.block/\¬ah s ad.block)->Ints .u64 D a y/\∀ad,a.a=some ad->ad.block<D.size/\¬X ad.block/\¬ah s' ad.block:=λhi E=>
   ⟨hi.mod S λad f=>(E ad f).2.2,λad f=>⟨by have:=(E ad f).1;omega,(E ad f).2.1,λv=>(J _ v).elim (E ad f).2.2 λw=>by have:=(E ad f).1;omega⟩⟩
  have T:Ints .u64 D own lx/\∀ad,own.a=some ad->ad.block<D.size/\¬X ad.block/\¬ah s' ad.block:=by
   have f1:∀b,ah own b->¬ah s' b:=λb m v=>by
    have:=d b m;rcases J b v with w|w
    ·have:=N b w;omega
    ·omega
   have f2:∀b,ah own b->¬ah s b:=λb m v=>by have:=d b m;have:=N b v;omega
   refine⟨(((Z.mod m1 f2).mod mC f1).mod mD f1).ints,λad f=>?_⟩;have:=d _ ⟨ad,f,rfl⟩;exact⟨by omega,λu=>by have:=hX _ u;omega,f1 _ ⟨ad,f,rfl⟩⟩
  refine hK s' D ⟨⟨rs.take j++own::rs.drop j,oD,by simp[P],λi2 r l a7 I=>?_⟩,λb m u=>?_⟩ S λb m=>(J b m).imp id λw=>by omega
  ·rcases ru (by omega) a7 with ⟨q1,q2⟩|⟨rfl,rfl⟩|⟨q1,q2⟩
   ·rcases ru hk I with ⟨_,q4⟩|⟨V,_⟩|⟨V,_⟩
    ·obtain⟨g1,g2⟩:=hr _ _ _ q2 q4;exact old g1 g2
    ·omega
    ·omega
   ·rcases ru hk I with ⟨V,_⟩|⟨_,rfl⟩|⟨V,_⟩
    ·omega
    ·exact T
    ·omega
   ·rcases ru hk I with ⟨V,_⟩|⟨V,_⟩|⟨_,q4⟩
    ·omega
    ·omega
    ·obtain⟨g1,g2⟩:=hr _ _ _ q2 q4;exact old g1 g2
  ·rcases J b m with v|v
   ·exact h.off b v u
   ·have:=hX b u;omega
theorem zn {K:Sl->aa->Prop}(h:eS X A s ls)(v:Ints .u64 A x lx)(j:yw ls)(z:lx.length<=1000)(N:ls.length<=1000)(hl:∀y∈ls,y.length<=1000)(P:∀b,X b->b<A.size)
  (O:∀s' c B,eS X B s' c->yw c->(∀y,y∈c↔y=lx\/y∈ls)->Mod (ah s) A B->(∀b,ah s' b->ah s b\/A.size<=b)->K s' B):J7.sp s x A K:=by
 refine J7.of ?_;unfold J7.vc;have R:=h.n;refine FX h.rows v j N hl λk o=>?_;have tail:lx∉ls->∀{Q:Prop},(bf ak Oj (Oq #[fG,fG] fG #[(.slice none 0 0),x.v]) A (λ(own:Sl) S=>aJ S #[own.v] fG λp T=>bf ak Oj (Oq #[fF,fF] fF #[s.v,(.slice (some p) 1 1)]) T λ(a:Sl) V=>ax Int (Ol.wrap ((a.n:Int) - (1:Int))) V λnext i C=>br (decide (i>(k:Int))) (ae a.a λD=>(0<=(Ol.wrap (i - (1:Int)))/\(Ol.wrap (i - (1:Int)))<(a.n:Int))/\ld ak C (D.add ((Ol.wrap (i - (1:Int))).toNat*1)) λ(E:Sl)=>ae a.a λG=>(0<=i/\i<(a.n:Int))/\st C (G.add (i.toNat*1)) E.v λY=>next (Ol.wrap (i - (1:Int))) Y) (ae a.a λI=>(0<=(k:Int)/\(k:Int)<(a.n:Int))/\st C (I.add ((k:Int).toNat*1)) own.v λZ=>K a Z))->Q)->Q:=λJ Q go=>by
  obtain⟨g1,g2⟩:=o.ins j J;exact go (Gk h v z N o.le P λs' B r m b=>O s' _ B r g1 g2 m b)
 refine ag (λq=>?_) (λq=>?_)
 ·have q:(k:Int)<(s.n:Int):=of_decide_eq_true q;have d:k<ls.length:=by omega
  refine h.rows.ld d λad r _ ri=>?_;refine jP ri v (by have:=hl _ (Pa d);omega) ?_;refine ag (λf=>?_) (λf=>?_)
  ·have f:aT ls[k] lx=0:=by simpa using f
   have hm:=(o.mem j).2 ⟨d,ca.1 f⟩;exact O s ls A h j (λy=>⟨.inr,λu=>u.elim (λe=>e▸hm) id⟩) (.refl _ _) λb hb=>.inl hb
  ·have f:¬aT ls[k] lx=0:=by simpa using f
   exact tail (λu=>f (ca.2 ((o.mem j).1 u).2)) id
 ·have q:¬(k:Int)<(s.n:Int):=of_decide_eq_false q;exact tail (λu=>by have:=((o.mem j).1 u).1;omega) id
end
section
variable {A:aa}{rows:Sl}{rl:List (List Int)}{X:Nat->Prop}
theorem tE (l:List (List Int)):yw (eQ (jR l)):=GB (BV l)
theorem mW {y:List Int}{l:List (List Int)}:y∈eQ (jR l)↔y∈l:=CC.trans (pF _).mem_iff
theorem Av {K:Sl->aa->Prop}(h:Rows A rows rl)(hn:rl.length<=900)(hl:∀y∈rl,y.length<=1000)(P:∀b,X b->b<A.size)
  (N:∀out B,eS X B out (eQ (jR rl))->Ext A B->(∀b,ah out b->A.size<=b)->K out B):Jl.sp rows A K:=by
 refine Jl.of ?_;unfold Jl.vc;have R:=h.len;refine ar rl.length (λi z B=>z.2=(i:Int)/\i<=rl.length/\Ext A B/\(∀b,ah z.1 b->A.size<=b)/\∃ls,eS X B z.1 ls/\yw ls/\∀y,y∈ls↔y∈rl.take i) ⟨rfl,OL _,.refl _ _,λb u=>(by obtain⟨ad,e,_⟩:=u;cases e),[],eS.nil _ _,Ss,λy=>by simp⟩ ?_;rintro i ⟨out,zi⟩ B next hi ⟨d,S,f,m,ls,o,v,hm⟩ c
 simp only at d m o ⊢;subst d;have hlen:ls.length<=i:=by
  have e:ls=eQ (jR (rl.take i)):=vT v (tE _) λy=>by rw[hm,mW]
  have:=jN (rl.take i);rw[<-e,Pc] at this;omega
 refine ag (λq=>?_) λq=>?_
 ·have q:(i:Int)<(rows.n:Int):=of_decide_eq_true q;have a:i<rl.length:=by omega
  obtain⟨ad,r,T,V,Y⟩:=h.at' i a;refine aV ad T ⟨⟨by omega,by omega⟩,r,by rw[Ov,Pq];exact(Ext.mod f (F:=λ_=>False)).cell V id,?_⟩;have zB:=f.size;refine zn o (Y.ext f) v (hl _ (Pa a)) (by omega) (λy Z=>hl y (Pu ((hm y).1 Z))) (λb j=>by have:=P b j;omega) λs' D C E G I O oC=>?_;have zC:=O.size;refine c a _ _ ⟨aD i (by omega),by omega,⟨by omega,λb j _=>(O.same b (by omega) λu=>by have:=m b u;omega).trans (f.same b j id)⟩,λb j=>(oC b j).elim (m b) λu=>by omega,D,E,G,λy=>?_⟩;rw[I,hm,Ou a,Ox,OH];exact or_comm
 ·have q:¬(i:Int)<(rows.n:Int):=of_decide_eq_false q;have J:i=rl.length:=by omega
  subst J;rw[RJ] at hm;have e:ls=eQ (jR rl):=vT v (tE rl) λy=>by rw[hm,mW]
  rw[<-e] at N;exact N out B o f m
end
end Go.Proofs.YtmkbhnholcaghaaGreatDoor
