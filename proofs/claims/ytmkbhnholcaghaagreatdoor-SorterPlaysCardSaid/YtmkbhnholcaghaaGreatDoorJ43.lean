/-
 Trees of rows in pages, in plain words.
-/
import Derived.Test.YtmkbhnholcaghaaGreatDoorJ35
import Derived.Test.YtmkbhnholcaghaaGreatDoorJ40
import Derived.Test.YtmkbhnholcaghaaGreatDoorFxw
open ByteArray renaming size_append->R0
open Go.Builtin renaming append_->Oa
open Go.IntKind renaming i64->N6
open Go.Proofs.Tryz renaming prog->N5
open Go.Value renaming int->On
open Int renaming toNat_natCast->Od,le_of_eq->WM
open List renaming getElem?_eq_some_iff->N7,getElem?_eq_getElem->N8,mem_of_getElem?->N9,take_succ_eq_append_getElem->Oc,mem_append->Oe,getElem?_map->Oi,mem_map->Ol,mem_cons->Oq,mem_cons_of_mem->Ou,mem_singleton->Ow,map_cons->Ox,mem_cons_self->OA,getElem?_append_left->OB,replicate->OD,length_append->OG,length_cons->ON,map_append->OO,getElem_mem->OP,getElem?_set->OS,length_map->OT,length_take->OW,drop_eq_getElem_cons->OY,getElem?_take->O2,getElem?_append_right->O9,getElem?_set_ne->Pd,sum_cons->Ph,getElem?_set_self->Pj,mem_of_mem_take->Pm,map_set->Pv,getElem?_drop->PE,ext_getElem?->PT,nodup_cons->Qv,set_cons_zero->Qx,drop_drop->Q1,take_length->Rw,drop_length->Rx,take_set_of_le->SJ,getElem?_replicate->SK,set_cons_succ->S0,set_append_right->Ts,mem_iff_getElem->TH,drop_set_of_lt->TN,length->T0,length_set->Wd,drop->Wu
open List.Pairwise renaming nil->Sd,imp->Zg
open Nat renaming le_refl->Ob,le_trans->Oo,zero_le->Oz,lt_or_ge->OV,mul_one->O7,lt_succ_self->Rv,add_zero->RB,lt_trichotomy->Sa,sub_self->TS,not_lt_zero->Vd,succ_pos->VK
open Ne renaming symm->PB
open Option.some renaming inj->OE
namespace Go.Proofs.YtmkbhnholcaghaaGreatDoor
structure St where
 N:Nat
 T:Nat->UInt8×List UInt8
section
variable {s:Pl}{n:ByteArray}{g:Int}{k:UInt8}{b:List UInt8}
end
abbrev nh:=ByteArray->Option St
section
variable {p p':Pl}{M:nh}{Q U:Nat}{n:ByteArray}{x:St}
end
section
variable {p p':Pl}{M:nh}{Q U:Nat}{n:ByteArray}{x:St}
end
section
variable {p:Pl}{M:nh}{Q U:Nat}{n:ByteArray}{x:St}
end
theorem vl {α:Type}:∀{A B:List α},A.Nodup->(∀a∈A,a∈B)->A.length<=B.length
 |[],_,_,_=>Oz _
 |a::A,B,h,hs=>by
   have e:=hs a OA;obtain⟨C,D,rfl⟩:=List.append_of_mem e;obtain⟨h1,f⟩:=Qv.1 h;have:=vl (A:=A) (B:=C++D) f λb d=>by
    have c:=hs b (Ou _ d);rcases Oe.1 c with u|u
    ·exact Oe.2 (.inl u)
    ·rcases Oq.1 u with v|v
     ·subst v;exact absurd d h1
     ·exact Oe.2 (.inr v)
   simp only[OG,ON] at this ⊢;omega
section
variable {p:Pl}{M:nh}{Q U:Nat}{n:ByteArray}{x:St}
end
section
variable {p p':Pl}{M:nh}{Q U:Nat}{n:ByteArray}{x:St}
theorem sQ {α β:Type}{f:α->β}:∀{l:List α},(l.map f).Nodup->∀{a b:α},a∈l->b∈l->f a=f b->a=b
 |c::l,h,a,b,i,d,e=>by
   rw[Ox,Qv] at h;obtain⟨h1,o⟩:=h;rcases Oq.1 i with m|i
   ·rcases Oq.1 d with j|d
    ·rw[m,j]
    ·exact absurd (Ol.2 ⟨b,d,by rw[<-e,m]⟩) h1
   ·rcases Oq.1 d with j|d
    ·exact absurd (Ol.2 ⟨a,i,by rw[e,j]⟩) h1
    ·exact sQ o i d e
end
section
variable {p:Pl}{M:nh}{Q U:Nat}{n:ByteArray}{x:St}
variable {w:RW}{W:Nat}{rs:List (List Int)}{i:Nat}
end
section
variable {p:Pl}{M:nh}{Q U:Nat}{n:ByteArray}{r:RR}{W:Nat}{rs:List (List Int)}
end
theorem jZ:∀{hs:List (Option (List Int))},dK hs=none->∀(j:Nat) (y:List Int),hs[j]?≠some (some y)
 |[],_,j,y=>by simp
 |none::t,h,j,y=>by
   simp only[dK,Option.map_eq_none_iff] at h;cases j with
   |zero=>simp
   |succ j=>simpa using jZ h j y
 |some a::t,h,j,y=>by
   simp only[dK] at h;cases e:dK t with
   |none=>rw[e] at h;cases h
   |some q=>
     obtain⟨k,z⟩:=q;rw[e] at h;simp only at h;split at h<;>cases h
theorem gn:∀{hs:List (Option (List Int))} {i:Nat} {x:List Int},dK hs=some (i,x)->hs[i]?=some (some x)/\∀(j:Nat) (y:List Int),hs[j]?=some (some y)->aT x y<=0/\(j<i->aT x y<0)
 |[],i,x,h=>by simp[dK] at h
 |none::t,i,x,h=>by
   simp only[dK,Option.map_eq_some_iff] at h;obtain⟨⟨k,z⟩,h1,o⟩:=h;cases o;obtain⟨a,b⟩:=gn h1;refine⟨by simpa using a,λj y f=>?_⟩;cases j with
   |zero=>simp at f
   |succ j=>
     obtain⟨c,d⟩:=b j y (by simpa using f);exact⟨c,λq=>d (by simpa using q)⟩
 |some a::t,i,x,h=>by
   simp only[dK] at h;cases e:dK t with
   |none=>
     rw[e] at h;cases h;refine⟨rfl,λj y f=>?_⟩;cases j with
     |zero=>simp at f;subst f;exact⟨WM (iu _),λq=>absurd q (Nat.lt_irrefl _)⟩
     |succ j=>exact absurd (by simpa using f) (jZ e j y)
   |some q=>
     obtain⟨k,z⟩:=q;rw[e] at h;obtain⟨u,v⟩:=gn e;simp only at h;split at h
     ·rename_i l;cases h;refine⟨by simpa using u,λj y f=>?_⟩;cases j with
      |zero=>simp at f;subst f;exact⟨Int.le_of_lt l,λ_=>l⟩
      |succ j=>
        obtain⟨c,d⟩:=v j y (by simpa using f);exact⟨c,λq=>d (by omega)⟩
     ·rename_i A;cases h;have m:aT a z<=0:=by have:=bX a z;omega
      refine⟨rfl,λj y f=>⟨?_,λq=>absurd q (Vd _)⟩⟩;cases j with
      |zero=>simp at f;subst f;exact WM (iu _)
      |succ j=>exact jr m (v j y (by simpa using f)).1
structure MC where
 n:ByteArray
 L:List (List Int)
 rem:List (List Int)
 r:RR
 h:Option (List Int)
section
variable {M:nh}{W:Nat}{x:MC}{xs:List MC}
variable {p:Pl}{Q U:Nat}
end
open Go.MapKept
section
variable {L L':List Hx}{hs:List (Option (List Int))}
theorem cu.nil (k:Nat):cu [] (OD k none):=⟨Sd,λi y=>⟨λh=>by
 rw[SK] at h;split at h<;>simp at h,λ⟨x,h,_⟩=>by cases h⟩⟩
theorem cu.empty (h:cu [] hs):dK hs=none:=by
 cases e:dK hs with
 |none=>rfl
 |some q=>
   obtain⟨i,y⟩:=q;obtain⟨x,a,_⟩:=(h.mem i y).1 (gn e).1;cases a
theorem cu.one (h:cu L hs){x y:Hx}(a:x∈L)(c:y∈L)(e:x.no=y.no):x=y:=sQ (f:=Hx.no) h.nodup a c e
theorem cu.top (h:cu L hs)(hO:Hp ahead L){top:Hx}(c:L[0]?=some top):dK hs=some (top.no,top.row):=by
 have mt:=N9 c;cases e:dK hs with
 |none=>exact absurd ((h.mem top.no top.row).2 ⟨top,mt,rfl,rfl⟩) (jZ e _ _)
 |some q=>
   obtain⟨i,y⟩:=q;obtain⟨l,m⟩:=gn e;obtain⟨x,d,hi,a⟩:=(h.mem i y).1 l;obtain⟨c1,c2⟩:=m top.no top.row ((h.mem _ _).2 ⟨top,mt,rfl,rfl⟩);obtain⟨j,o⟩:=List.mem_iff_getElem?.1 d;have f:=Gz fk hO c j x o;have e2:x.no=top.no:=by
    rcases Sa x.no top.no with u|u|u
    ·refine absurd ?_ f;rcases Int.lt_or_eq_of_le c1 with v|v
     ·exact .inl (by rw[a];exact v)
     ·exact .inr ⟨by rw[a];exact v,u⟩
    ·exact u
    ·exact absurd (.inl (by rw[a];exact c2 (by omega))) f
   have t:=h.one d mt e2;subst t;rw[<-hi,<-a]
theorem cu.pop (h:cu L hs){top:Hx}(f:L.Perm (top::L')):cu L' (hs.set top.no none)/\∀x∈L',x.no≠top.no:=by
 have a:=(f.map Hx.no).nodup_iff.1 h.nodup;rw[Ox,Qv] at a;have d:∀x∈L',x.no≠top.no:=λx c q=>a.1 (Ol.2 ⟨x,c,q⟩);refine⟨⟨a.2,λi y=>?_⟩,d⟩;by_cases e:i=top.no
 ·subst e;refine⟨λq=>?_,λ⟨x,c,q,_⟩=>absurd q (d x c)⟩;rw[OS] at q;rw[if_pos rfl] at q;split at q<;>simp at q
 ·rw[Pd (PB e),h.mem];refine⟨λ⟨x,c,q,r⟩=>?_,λ⟨x,c,q⟩=>⟨x,f.mem_iff.2 (Ou _ c),q⟩⟩;rcases Oq.1 (f.mem_iff.1 c) with u|u
  ·subst u;exact absurd q.symm e
  ·exact⟨x,u,q,r⟩
theorem cu.push (h:cu L hs){x:Hx}(hi:x.no<hs.length)(j:∀y∈L,y.no≠x.no)(d:L'.Perm (L++[x])):cu L' (hs.set x.no (some x.row)):=by
 refine⟨?_,λi y=>?_⟩
 ·refine(d.map Hx.no).nodup_iff.2 ?_;rw[OO,List.nodup_append];refine⟨h.nodup,by simp,λa m c l=>?_⟩;simp at l;obtain⟨z,o,z2⟩:=Ol.1 m;rw[l,<-z2];exact j z o
 ·by_cases e:i=x.no
  ·subst e;rw[Pj hi];refine⟨λq=>?_,λ⟨z,f,q,r⟩=>?_⟩
   ·simp at q;exact⟨x,d.mem_iff.2 (by simp),rfl,q⟩
   ·rcases Oe.1 (d.mem_iff.1 f) with u|u
    ·exact absurd q (j z u)
    ·rw[Ow] at u;subst u;rw[r]
  ·rw[Pd (PB e),h.mem];refine⟨λ⟨z,f,q⟩=>⟨z,d.mem_iff.2 (List.mem_append_left _ f),q⟩,λ⟨z,f,q,r⟩=>?_⟩;rcases Oe.1 (d.mem_iff.1 f) with u|u
   ·exact⟨z,u,q,r⟩
   ·rw[Ow] at u;subst u;exact absurd q.symm e
theorem cu.len (h:cu L hs):L.length<=hs.length:=by
 have:=vl h.nodup (B:=List.range hs.length) λa c=>by
  obtain⟨x,d,rfl⟩:=Ol.1 c;have:=(h.mem x.no x.row).2 ⟨x,d,rfl,rfl⟩;exact List.mem_range.2 (N7.1 this).1
 simpa using this
end
structure lV (w:RW)(nm:ByteArray)(c:Nat):Prop where
 wait:w.wait.length<=129*w.n
 n:w.n<=504
 rows:w.rows<=c
 width:0<=w.b.width/\w.b.width<=16
 name:w.b.name=nm
theorem gO {s:Pl}{n:ByteArray}{W:Int}:((bj s n W).2.1=none->(bj s n W).2.2≠0)/\∀w,(bj s n W).2.1=some w->(bj s n W).2.2=0/\w=vS n W/\0<=W/\W<=16:=by
 unfold bj;split
 ·exact⟨λ_=>(by simp),λw q=>(by cases q)⟩
 ·rename_i a;have c:0<=W/\W<=16:=by
   refine Classical.byContradiction λu=>a ?_;have:bz W=0:=by unfold bz;rw[if_pos (by omega)]
   unfold aH;rw[if_pos this]
  split
  ·rename_i h;exact⟨λ_=>h,λw q=>(by cases q)⟩
  ·split
   ·rename_i h;exact⟨λ_=>h,λw q=>(by cases q)⟩
   ·exact⟨λq=>(by cases q),λw q=>(by cases q;exact⟨rfl,rfl,c⟩)⟩
theorem lV.mono {w:RW}{n:ByteArray}{c d:Nat}(h:lV w n c)(hd:c<=d):lV w n d:=⟨h.wait,h.n,Oo h.rows hd,h.width,h.name⟩
theorem wN (n:ByteArray){W:Int}(h1:0<=W)(a:W<=16):lV (vS n W) n 0:=⟨Oz _,Oz _,Ob _,⟨h1,a⟩,rfl⟩
theorem lV.add {w:RW}{n:ByteArray}{c:Nat}(h:lV w n c)(s:Pl)(l:List Int):lV (w.add s l).2.1 n (c+1)/\((w.add s l).2.2=0->(w.add s l).2.1.last=l/\0<(w.add s l).2.1.rows):=by
 have m:=h.mono (Nat.le_succ c);unfold RW.add;split
 ·rename_i q;exact⟨m,λu=>absurd u q⟩
 ·split
  ·exact⟨m,λu=>by simp at u⟩
  ·rename_i hl;split
   ·exact⟨m,λu=>by simp at u⟩
   ·have hw:=h.width;have d:=pK l;have a:(l.length:Int)=w.b.width:=Classical.not_not.1 hl;split
    ·rename_i e;have:=(cZ w.b);refine⟨⟨?_,?_,?_,h.width,h.name⟩,λ_=>⟨rfl,VK _⟩⟩
     ·show (w.wait++cO (eL l)).length<=129*(w.n+1);have:=h.wait;rw[OG,cd];omega
     ·show w.n+1<=504;omega
     ·show w.rows+1<=c+1;have:=h.rows;omega
    ·unfold RW.out;rw[if_neg (by show w.n+1≠0;omega)];refine⟨⟨Oz _,Oz _,by show w.rows+1<=c+1;have:=h.rows;omega,?_,?_⟩,λ_=>⟨rfl,VK _⟩⟩
     ·show 0<=((w.push l).b.cr _).width/\((w.push l).b.cr _).width<=16;rw[(Rb.kH _ _).2.1];exact h.width
     ·show ((w.push l).b.cr _).name=n;rw[(Rb.kH _ _).2.2];exact h.name
section
variable {H0 A:aa}{F0 F:Nat->Prop}{col:Nat->Nat}{p dp:Nat}{s:Pl}{xs:List ng}{l:Sl}{kw:Nat}{w:RW}{sw sl:Sl}{kh:Nat}{hs:Sl}{L:List Hx}
theorem qS.add {K:Int->aa->Prop}{row:Sl}{y:List Int}{to:ByteArray}{c u v:Nat}(h:qS H0 F0 col p dp F A s xs l kw w sw sl kh hs L)(E:Gl H0)(G:¬F0 bh)(ok:lV w to c)(hc:c<1000000000000)(t:to.size<=9223372036854775807)(b:Bd s u v)(hu:u<1000000000000)(hv:v<68719460000)(hy:y.length<=16)
  (j:Ints .u64 A row y) (m:∀ad,row.a=some ad->col ad.block=3)
  (J:∀F' B col' e f,qS H0 F0 col' p dp F' B (w.add s y).1 xs l kw (w.add s y).2.1 e f kh hs L->A.size<=B.size->(∀b,b<A.size->col b≠0->col b≠2->col' b=col b/\B[b]?=A[b]?)->K (w.add s y).2.2 B):yQ.sp (aE kw) row A K:=by
 have z:=h.rds.gl E G;have N:=E.lt;have dis:∀b,F b->¬dt kw sw sl b:=λb d q=>by
  have:=(h.rds.cF b d).1;have:=(h.cW b q).1;omega
 have C:=b.lo;have O:=b.hi;have P:=b.aB;have o1:=ok.wait;have o2:=ok.n;have o3:=ok.rows;refine Bq z (λq=>(h.cW _ q).2.elim G λu=>by omega) h.wr h.rds.pool dis j (λad R q=>by have:=m ad R;have:=(h.cW _ q).1;omega) (by omega) (by omega) (by omega) (by omega) (by rw[ok.name];exact t) (by omega) (by omega) C b.fit λF' e f B T V X S=>?_;have o:∃col':Nat->Nat,(∀b,F' b->col' b=0)/\(∀b,dt kw e f b->col' b=2)/\∀b,¬F' b->¬dt kw e f b->col' b=col b:=by
  classical
  refine⟨λb=>if F' b then 0 else if dt kw e f b then 2 else col b,λb d=>if_pos d,λb d=>?_,λb h1 Y=>?_⟩
  ·show (if F' b then _ else _)=_;rw[if_neg λq=>X b q d,if_pos d]
  ·show (if F' b then _ else _)=_;rw[if_neg h1,if_neg Y]
 obtain⟨col',c1,c2,Z⟩:=o;have z0:=h.rds.mod.size;have old:∀b,b<A.size->F' b\/dt kw e f b->col b=0\/col b=2:=λb d q=>by
  rcases (S.own b q).resolve_right (by omega) with u|u
  ·exact .inl (h.rds.cF b u).1
  ·exact .inr (h.cW b u).1
 have same:∀b,b<A.size->col b≠0->col b≠2->col' b=col b:=λb d H n2=>Z b (λq=>by rcases old b d (.inl q) with u|u<;>omega) λq=>by rcases old b d (.inr q) with u|u<;>omega
 have base:∀b,F' b\/dt kw e f b->F0 b\/H0.size<=b:=λb q=>by
  rcases S.own b q with (u|u)|u
  ·exact(h.rds.cF b u).2
  ·exact(h.cW b u).2
  ·exact .inr (by omega)
 have D:∀b,b<A.size->(F b\/dt kw sw sl b)->col b=0\/col b=2:=λb _ q=>q.imp (λu=>(h.rds.cF b u).1) λu=>(h.cW b u).1;refine J F' B col' e f ⟨h.rds.rY T S.mod (λb d q=>by have:=D b d q;omega) (λb d q=>?_) (λb d=>⟨c1 b d,base b (.inl d)⟩) (λb d q=>same b d (by omega) (by omega)),V,h.E8 S.mod (λb d q=>by have:=D b d q;omega),λb d=>⟨c2 b d,base b (.inr d)⟩,λb d=>?_,λx I b d=>?_,h.ptr,h.ord⟩ S.mod.size λb d H n2=>⟨same b d H n2,S.mod.same b d λq=>by have:=D b d q;omega⟩
 ·rcases q with u|u
  ·exact(h.rds.cF b u).2.resolve_right (by omega)
  ·exact(h.cW b u).2.resolve_right (by omega)
 ·have a:=h.cH b d;rw[same b (h.heap.lt b d) (by omega) (by omega)];exact a
 ·have a:=h.cX x I b d;rw[same b ((h.heap.own x I).lt b d) (by omega) (by omega)];exact a
theorem dZ.stop {K:Unit->aa->Prop}{i:Nat}{x:ng}(h:dZ H0 F0 col p dp F A s xs l)(d:xs[i]?=some x)
  (u:∀B,dZ H0 F0 col p dp F B s (xs.set i ⟨x.k,x.r.stop,x.si,x.srs⟩) l->Mod (λb=>b=x.k) A B->K () B):Is.sp (aE x.k) A K:=by
 refine Is.of ?_;unfold Is.vc;unfold aE;refine aP rfl ?_;simp only[al,add_add,Nat.reduceAdd];have f:=h.rds i x d;have hi:=(N7.1 d).1;have t:∀b,b=x.k->col b=5+i/\H0.size<=b:=λb q=>h.cR i x d b (.inl q);refine aj.st f.row (i:=5) (by simp[bR]) rfl λB r m z=>?_;rw[oW] at r;have keep:∀(j:Nat) (y:ng),j≠i->xs[j]?=some y->∀b,y.own b->¬(b=x.k):=λj y v a b c q=>by
  have:=(h.cR j y a b c).1;have:=(t b q).1;omega
 refine u B ⟨h.pool.keep λb c hl=>m.same b hl λq=>?_,λj y a=>?_,λy a=>?_,?_,h.cF,λj y a b c=>?_,h.cL,?_⟩ m
 ·have:=(h.cF b c).1;have:=(t b q).1;omega
 ·by_cases q:j=i
  ·subst q;rw[Pj hi] at a;cases a;exact⟨r,f.ins.mod m (λb c q=>f.CU (q▸c)) λy a b c q=>f.jv y a (q▸c)⟩
  ·rw[Pd (PB q)] at a;exact(h.rds j y a).mod m (keep j y q a)
 ·rcases List.mem_or_eq_of_mem_set a with q|q
  ·exact h.oks y q
  ·subst q;obtain⟨o,n⟩:=h.oks x (N9 d);exact⟨⟨o.room,o.at_,o.page,o.rows,o.cols⟩,n⟩
 ·have e:(xs.set i ⟨x.k,x.r.stop,x.si,x.srs⟩).map (·.k)=xs.map (·.k):=by
   rw[Pv];apply PT;intro j;rw[OS];split
   ·rename_i q;subst q;rw[Oi,d];simp[hi]
   ·rfl
  rw[e];exact h.list.mod m λb c q=>by
   have:=(h.cL b c).1;have:=(t b q).1;omega
 ·by_cases q:j=i
  ·subst q;rw[Pj hi] at a;cases a;exact h.cR j x d b c
  ·rw[Pd (PB q)] at a;exact h.cR j y a b c
 ·exact h.mod.trans' m λb c q=>by have:=(t b q).2;omega
end
theorem mP:∀{rs:List RR} {i:Nat} {r r':RR},rs[i]?=some r->bN (rs.set i r')+(r.rows - r.at_)=bN rs+(r'.rows - r'.at_)
 |[],i,r,r',h=>by simp at h
 |a::rs,0,r,r',h=>by
   simp at h;subst h;unfold bN;simp only[Qx,Ox,Ph];omega
 |a::rs,i+1,r,r',h=>by
   have:=mP (rs:=rs) (i:=i) (r':=r') (by simpa using h);unfold bN at this ⊢;simp only[S0,Ox,Ph];omega
theorem me:∀{hs:List (Option (List Int))} {i:Nat} {a b:Option (List Int)},hs[i]?=some a->fQ (hs.set i b)+(if a.isSome then 1 else 0)=fQ hs+(if b.isSome then 1 else 0)
 |[],i,a,b,h=>by simp at h
 |c::hs,0,a,b,h=>by
   simp at h;subst h;unfold fQ;simp only[Qx,Ox,Ph];omega
 |c::hs,i+1,a,b,h=>by
   have:=me (hs:=hs) (i:=i) (b:=b) (by simpa using h);unfold fQ at this ⊢;simp only[S0,Ox,Ph];omega
theorem Aj (k:Nat):fQ (OD k none)=0:=by
 induction k with
 |zero=>rfl
 |succ k a=>
   unfold fQ at a ⊢;rw[List.replicate_succ,Ox,Ph,a];rfl
theorem RR.ks {r:RR}(h:r.Ok)(s:Pl):((r.next s).2.1.rows - (r.next s).2.1.at_)+(if (dO (r.next s).2.2.1 (r.next s).2.2.2.1).isSome then 1 else 0)=r.rows - r.at_:=by
 obtain⟨_,_,a,c,d⟩:=RR.fX h s;have j:=h.at_;unfold dO;cases e:(r.next s).2.2.2.1 with
 |true=>
   obtain⟨m,f,_⟩:=c e;rw[a,f];simp;omega
 |false=>
   rw[a,d e];simp
structure eU (xs0:List ng)(s0:Pl)(i:Nat)(s:Pl)(xs:List ng)(L:List Hx)(hs:List (Option (List Int))):Prop where
 len:xs.length=xs0.length
 hlen:hs.length=xs0.length
 later:xs.drop i=xs0.drop i
 rest:hs.drop i=OD (xs0.length - i) none
 kL:cu L hs
 eq:bc (xs0.map (·.r)) s0=((bc ((xs.drop i).map (·.r)) s).1,(xs.take i).map (·.r)++(bc ((xs.drop i).map (·.r)) s).2.1,hs.take i++(bc ((xs.drop i).map (·.r)) s).2.2.1,(bc ((xs.drop i).map (·.r)) s).2.2.2)
 count:bN (xs.map (·.r))+fQ hs<=bN (xs0.map (·.r))
theorem eU.first (xs:List ng)(s:Pl):eU xs s 0 s xs [] (OD xs.length none):=
 ⟨rfl,List.length_replicate,rfl,by simp,.nil _,by simp,by rw[Aj];exact Ob _⟩
section
variable {xs0 xs:List ng}{s0 s:Pl}{i:Nat}{L L':List Hx}{hs:List (Option (List Int))}{y y':ng}
theorem eU.at_ (h:eU xs0 s0 i s xs L hs)(hi:i<xs0.length):∃y,xs[i]?=some y/\hs[i]?=some none/\(∀x∈L,x.no≠i)/\xs.drop i=y::xs.drop (i+1):=by
 have a:i<xs.length:=by rw[h.len];exact hi
 have c:hs[i]?=some none:=by
  have:(hs.drop i)[0]?=some none:=by rw[h.rest,SK,if_pos (by omega)]
  rwa [PE,RB] at this
 refine⟨xs[i],N8 a,c,λx d q=>?_,OY a⟩;have:=(h.kL.mem i x.row).2 ⟨x,d,q,rfl⟩;rw[c] at this;simp at this
theorem eU.next (h:eU xs0 s0 i s xs L hs)(hi:i<xs0.length)(f:xs[i]?=some y)(ok:y.r.Ok)(a:y'.r=(y.r.next s).2.1)(he:(y.r.next s).2.2.2.2=0)
  (h1:(y.r.next s).2.2.2.1=true->∃row ptr,L'.Perm (L++[⟨i,row,ptr,(y.r.next s).2.2.1⟩])) (o:(y.r.next s).2.2.2.1=false->L'=L):
  eU xs0 s0 (i+1) (y.r.next s).1 (xs.set i y') L' (hs.set i (dO (y.r.next s).2.2.1 (y.r.next s).2.2.2.1)):=by
 obtain⟨y0,m,a2,a3,a4⟩:=h.at_ hi;rw[f] at m;cases m;have d:i<xs.length:=by rw[h.len];exact hi
 have c:i<hs.length:=by rw[h.hlen];exact hi
 have d1:(xs.set i y').drop (i+1)=xs.drop (i+1):=TN (by omega);have t1:(xs.set i y').take (i+1)=xs.take i++[y']:=by
  rw[Oc (by simpa using d)];rw[SJ (Ob _)];simp
 have t2:∀v:Option (List Int),(hs.set i v).take (i+1)=hs.take i++[v]:=λv=>by
  rw[Oc (by simpa using c)];rw[SJ (Ob _)];simp
 have hd:cu L' (hs.set i (dO (y.r.next s).2.2.1 (y.r.next s).2.2.2.1)):=by
  cases e:(y.r.next s).2.2.2.1 with
  |true=>
    obtain⟨row,ptr,t⟩:=h1 e;exact h.kL.push (x:=⟨i,row,ptr,(y.r.next s).2.2.1⟩) c a3 t
  |false=>
    rw[o e];have:hs.set i (dO (y.r.next s).2.2.1 false)=hs:=by
     apply PT;intro j;rw[OS];split
     ·rename_i q;subst q;rw[a2];rfl
     ·rfl
    rw[this];exact h.kL
 refine⟨by rw[Wd];exact h.len,by rw[Wd];exact h.hlen,?_,?_,hd,?_,?_⟩
 ·rw[d1];have:=congrArg (Wu 1) h.later
  rwa [Q1,Q1] at this
 ·rw[TN (by omega)];have:=congrArg (Wu 1) h.rest;rw[Q1,List.drop_replicate] at this;rw[this];rfl
 ·rw[h.eq,a4,Ox,d1,t1,t2];simp only[bc];rw[if_neg (by rw[he];simp)];simp[a]
 ·have c1:=mP (rs:=xs.map (·.r)) (i:=i) (r:=y.r) (r':=y'.r) (by rw[Oi,f];rfl);have c2:=me (i:=i) (b:=dO (y.r.next s).2.2.1 (y.r.next s).2.2.2.1) a2;have u:=RR.ks ok s;have z:=h.count;rw[Pv];rw[a] at c1 ⊢;simp only[Option.isSome_none] at c2;simp only[Bool.false_eq_true,if_false,RB] at c2;omega
theorem eU.bad (h:eU xs0 s0 i s xs L hs)(hi:i<xs0.length)(c:xs[i]?=some y)(he:(y.r.next s).2.2.2.2≠0):(bc (xs0.map (·.r)) s0).1=(y.r.next s).1/\(bc (xs0.map (·.r)) s0).2.2.2=(y.r.next s).2.2.2.2:=by
 obtain⟨y0,a,a2,a3,a4⟩:=h.at_ hi;rw[c] at a;cases a;rw[h.eq,a4,Ox];simp only[bc];rw[if_pos he];exact⟨rfl,rfl⟩
theorem eU.done (h:eU xs0 s0 xs0.length s xs L hs):bc (xs0.map (·.r)) s0=(s,xs.map (·.r),hs,0):=by
 have e:=h.eq;rw[<-h.len,Rx,Rw,h.len,<-h.hlen,Rw] at e;simpa[bc] using e
end
structure wz (H0:aa)(F0:Nat->Prop)(p dp:Nat)(A:aa)(l:Sl)(kw kh:Nat)(to:ByteArray)(f0 u v:Nat)(res:Pl×Nat×Int)(f:Nat)(z:Sl×Bool):Prop where
 ex:∃col F s xs w sw sl hs L hl,qS H0 F0 col p dp F A s xs l kw w sw sl kh hs L/\cu L hl/\hl.length=xs.length/\xs.length<=1000000/\bN (xs.map (·.r))+fQ hl<f/\res=fY f s (xs.map (·.r)) hl w/\lV w to (f0 - f)/\Bd s (u+2*(f0 - f)) (v+3*(f0 - f))/\f<=f0/\z.2=decide (w.rows=0)/\(w.rows≠0->aM A 0 gS 1 z.1 (w.last.map (On .u64))/\w.last.length<=16/\∀b,ag z.1 b->col b=3)
theorem qS.LZ {H0 A:aa}{F0 F:Nat->Prop}{col col':Nat->Nat}{p dp:Nat}{s:Pl}{xs:List ng}{l:Sl}{kw:Nat}{w:RW}{sw sl:Sl}{kh:Nat}{hs:Sl}{L:List Hx}(h:qS H0 F0 col p dp F A s xs l kw w sw sl kh hs L)(c:∀b,b<A.size->col' b=col b):qS H0 F0 col' p dp F A s xs l kw w sw sl kh hs L:=
 ⟨h.rds.rY (G:=λ_=>False) h.rds.pool (.refl _ _) (λ_ _ q=>q.elim) (λ_ _ q=>q.elim) (λb a=>by rw[c b (h.rds.pool.lt b a)];exact h.rds.cF b a) (λb a _=>c b a),h.wr,h.heap,
  λb a=>by rw[c b (h.wr.lt b a)];exact h.cW b a,λb a=>by rw[c b (h.heap.lt b a)];exact h.cH b a,λx d b a=>by rw[c b ((h.heap.own x d).lt b a)];exact h.cX x d b a,h.ptr,h.ord⟩
section
variable {H:aa}{F:Nat->Prop}{p dp:Nat}{s:Pl}{names:Sl}{ns:List ByteArray}{to:ByteArray}{W:Int}
set_option maxHeartbeats 2000000 in
theorem C7 {K:(Int×Int)->aa->Prop}{A:aa}{l:Sl}{kw kh f0 f u v:Nat}{res:Pl×Nat×Int}(hg:Gl H)(h0:¬F bh)(b0:to.size<=9223372036854775807)(eA:f0<=20000000000)(hu:u+2*f0<990000000000)(hv:v+3*f0<68000000000)
  (h:wz H F p dp A l kw kh to f0 u v res f (Sl.mk none 0 0,true))
  (hK:∀F' B,au F' B p dp res.1->Step F F' H B->K ((res.2.1:Int),res.2.2) B):
  aw (Sl×Bool) ((Sl.mk none 0 0),true) A λan b1 H6=>ld ak H6 ((⟨kh,0,none⟩:Addr).add 0) λ(x:Sl)=>br (decide ((x.n:Int)>(0:Int))) (IZ.sp (some ⟨kh,0,none⟩) H6 λ(bA:(Int×Sl×Option Addr)) H7=>aI H7 (zc N5 jU) jU λR H8=>jk N5 (Instr.storeAt jU (.pointer (some R)) (.agg #[(.int .i64 bA.1),bA.2.1.v,(.pointer bA.2.2)])) H8 λH9=>cut Unit (λJ=>br b1.2 (ld ak H9 (R.add 1) λ(dc:Sl)=>yQ.sp (aE kw) dc H9 λ(b2:Int) b3=>br (b2 !=(0:Int)) (K ((0:Int),b2) b3) (J () b3)) (ld ak H9 (R.add 1) λ(dk:Sl)=>wR.sp dk b1.1 H9 λ(dm:Int) bB=>br (dm !=(0:Int)) (ld ak bB (R.add 1) λ(dn:Sl)=>yQ.sp (aE kw) dn bB λ(b4:Int) b5=>br (b4 !=(0:Int)) (K ((0:Int),b4) b5) (J () b5)) (J () bB))) λ(_:Unit) bC=>ld ak bC (R.add 1) λ(last:Sl)=>c8 (bQ [(ab .i64),ak,av]) 3 bC R λ(bD:(Int×Sl×Option Addr))=>GY.sp (some ⟨kh,0,none⟩) bD.1 bD.2.1 bD.2.2 bC λ(b6:Int) b7=>br (b6 !=(0:Int)) (K ((0:Int),b6) b7) (an (last,false) b7)) (aw Int (0:Int) H6 λa1 T bM=>br (decide (T<(l.n:Int))) (ae l.a λdA=>(0<=T/\T<(l.n:Int))/\ld av bM (dA.add (T.toNat*1)) λ(dB:Option Addr)=>Is.sp dB bM λ(_:Unit) dD=>a1 (N6.wrap (T+(1:Int))) dD) (Fb.sp (aE kw) bM λ(b9:(Int×Int)) dT=>K (b9.1,b9.2) dT)):=by
 refine⟨Nat,λf z A=>wz H F p dp A l kw kh to f0 u v res f z,λf=>f,⟨f,h⟩,?_⟩;rintro f ⟨last,fst⟩ A ⟨col,F',s',xs,w,sw,sl,hs,L,hl,m,hT,hlen,eb,hf,a8,hw,bd,eB,V,X⟩;simp only at V X;cases f with
 |zero=>exact absurd hf (Vd _)
 |succ f=>
 have eC:=hg.lt;refine aj.ld (c:=ak) (i:=0) (x:=hs) m.heap.row rfl ?_;have hn:hs.n=L.length:=az.n m.heap.els (by decide);have ec:L.length<=1000000:=by have:=hT.len;omega
 cases a6:L with
 |nil=>
   rw[a6] at hn;refine aC (by rw[hn];rfl) ?_;have d:dK hl=none:=by rw[a6] at hT;exact hT.empty
   have er:res=((w.close s').1,(w.close s').2.2.1,(w.close s').2.2.2):=by
    rw[a8];unfold fY;rw[d]
   rw[er] at hK;refine ar xs.length (λi z B=>z=(i:Int)/\∃ys,ys.length=xs.length/\dZ H F col p dp F' B s' ys l/\pf B kw p w sw sl) ⟨rfl,xs,rfl,m.rds,m.wr⟩ ?_;rintro i z B next hi ⟨rfl,ys,ed,Y,cb⟩ bO
   have ee:l.n=ys.length:=by rw[az.n Y.list (by decide)];simp
   refine ah (λhc=>?_) (λhc=>?_)
   ·have N:i<ys.length:=by
     have:(i:Int)<(l.n:Int):=by simpa using hc
     omega
    have hy:ys[i]?=some ys[i]:=N8 N;refine bP.one (E:=dL) (c:=av) (y:=aE ys[i].k) Y.list.rd (by rw[ee];simp) rfl (i:=i) (x:=ys[i].k) (by rw[Oi,hy];rfl) rfl ?_;refine Y.stop hy λC hC mC=>?_;rw[aD i (by omega)];exact bO (by omega) _ C ⟨rfl,_,by simp;exact ed,hC,cb.mod mC λb d q=>by
     have:=(m.cW b d).1;have:=(Y.cR i _ hy b (.inl q)).1;omega⟩
   ·have eg:=Y.gl hg h0;have q1:=bd.lo;have q2:=bd.hi;have q3:=bd.aB;have o:=bd.out (w:=w) (by omega);have o1:=o.hi;have o2:=o.aB;refine u7 eg (λq=>(m.cW _ q).2.elim h0 λr=>by omega) cb Y.pool (λb d q=>by have:=(Y.cF b d).1;have:=(m.cW b q).1;omega) (by have:=hw.rows;omega) hw.width.1 (by rw[hw.name];exact b0) (by omega) (by omega) q1 bd.fit (by omega) (by omega) (λx hd=>?_) λG eD C p2 w2 d2 S2=>?_
    ·rw[Pl.Bp,Pl.E9];have:=(w.out s').1.tu w.b.name 0;omega
    ·refine hK G C p2 ⟨Y.mod.trans' S2.mod λb d q=>?_,λb d=>?_⟩
     ·rcases q with r|r
      ·exact(Y.cF b r).2.resolve_right (by omega)
      ·exact(m.cW b r).2.resolve_right (by omega)
     ·rcases S2.own b (.inl d) with (r|r)|r
      ·exact(Y.cF b r).2
      ·exact(m.cW b r).2
      ·have:=Y.mod.size;exact .inr (by omega)
 |cons top L0=>
   have ht:L[0]?=some top:=by rw[a6];rfl
   have mt:=N9 ht;have d:=hT.top m.ord ht;refine aP (by rw[hn,a6];simp) ?_;obtain⟨y,hy,ck⟩:=m.ptr top mt;refine Iq m.heap m.ord ht ec λhs' L' A1 hA hO hP mA oA=>?_;have Z:∀x∈L',x∈L:=λx hx=>hP.mem_iff.2 (Ou _ hx);obtain⟨bb,c1,ei⟩:=m.EF hA hO mA (λb d=>.inl (oA b d)) (λx hx b d=>⟨(m.heap.own x (Z x hx)).lt b d,m.cX x (Z x hx) b d⟩) λx hx=>m.ptr x (Z x hx);have bl:=m.heap.own top mt;have bn:∀b,col b=3->¬(b=kh\/ag hs b):=λb d q=>by have:=(m.cH b q).1;omega
   have af:aM A1 0 gS 1 top.sl (top.row.map (On .u64)):=bl.mod mA λb d=>bn b (m.cX top mt b d);have ej:∀b,ag top.sl b->bb b=3:=λb d=>by rw[c1 b (bl.lt b d)];exact m.cX top mt b d
   refine ax λA2 z2 r2 e2=>?_;refine aj.iF (cs:=(DA top).toArray) r2 mT wm (λx hx=>K0.one top x (show x∈DA top by simpa using hx)) λA3 r3 m3 z3=>?_;have e3:Ext A1 A3:=⟨by have:=m3.size;omega,λb d _=>(m3.same b (by omega) (by intro q;have:b=A1.size:=q;omega)).trans (e2.same b d id)⟩;obtain⟨bs,x1,x2⟩:=ie bb A1.size (λ_=>False) (λ_=>False) (λ_=>True) 1 1 3 (λ_ q=>q.elim) (λ_ q=>q.elim) λ_ q=>q.elim;have cm:=(ei.LZ x1).ext e3;have a7:∀b,ag top.sl b->bs b=3:=λb d=>by rw[x1 b (af.lt b d)];exact ej b d
   have t:=af.ext e3;obtain⟨cx,ek⟩:=hT.pop hP;have f16:=m.heap.iD top mt;have en:top.no<hl.length:=by
    have:=(hT.mem top.no top.row).2 ⟨top,mt,rfl,rfl⟩;exact(N7.1 this).1
   have er:res=if (aQ s' w top.row).2.2≠0 then ((aQ s' w top.row).1,0,(aQ s' w top.row).2.2)
    else if (y.r.next (aQ s' w top.row).1).2.2.2.2≠0 then ((y.r.next (aQ s' w top.row).1).1,0,(y.r.next (aQ s' w top.row).1).2.2.2.2)
    else fY f (y.r.next (aQ s' w top.row).1).1 ((xs.map (·.r)).set top.no (y.r.next (aQ s' w top.row).1).2.1) (hl.set top.no (dO (y.r.next (aQ s' w top.row).1).2.2.1 (y.r.next (aQ s' w top.row).1).2.2.2.1)) (aQ s' w top.row).2.1:=by
    have eo:(xs.map (·.r)).getD top.no default=y.r:=by rw[List.getD,Oi,hy];rfl
    rw[a8];show (match dK hl with|none=>_|some (i,x)=>_)=_;rw[d];simp only;rw[eo]
   have eE:A.size<=A3.size:=by have:=mA.size;have:=e3.size;omega
   have cy:∀b,b<A.size->col b=3->A3[b]?=A[b]?:=λb d hc=>(e3.same b (by have:=mA.size;omega) id).trans (mA.same b d (bn b hc));refine⟨λ_ B=>(aQ s' w top.row).2.2=0/\∃j G O P,qS H F j p dp G B (aQ s' w top.row).1 xs l kw (aQ s' w top.row).2.1 O P kh hs' L'/\lV (aQ s' w top.row).2.1 to (f0 - f)/\(aQ s' w top.row).2.1.last=top.row/\0<(aQ s' w top.row).2.1.rows/\Bd (aQ s' w top.row).1 (u+2*(f0 - (f+1))+1) (v+3*(f0 - (f+1))+2)/\
    aj B A1.size jU (DA top).toArray/\aM B 0 gS 1 top.sl (top.row.map (On .u64))/\(∀b,ag top.sl b->j b=3)/\A3.size<=B.size,?_,?_⟩
   ·have added:∀(Kb:Int->aa->Prop),(aQ s' w top.row)=w.add s' top.row->(∀B,(w.add s' top.row).2.2≠0->(∃G,au G B p dp (w.add s' top.row).1/\Step F G H B)->Kb (w.add s' top.row).2.2 B)->
      (∀B,((aQ s' w top.row).2.2=0/\∃j G O P,qS H F j p dp G B (aQ s' w top.row).1 xs l kw (aQ s' w top.row).2.1 O P kh hs' L'/\lV (aQ s' w top.row).2.1 to (f0 - f)/\(aQ s' w top.row).2.1.last=top.row/\0<(aQ s' w top.row).2.1.rows/\Bd (aQ s' w top.row).1 (u+2*(f0 - (f+1))+1) (v+3*(f0 - (f+1))+2)/\
       aj B A1.size jU (DA top).toArray/\aM B 0 gS 1 top.sl (top.row.map (On .u64))/\(∀b,ag top.sl b->j b=3)/\A3.size<=B.size)->(w.add s' top.row).2.2=0->Kb (w.add s' top.row).2.2 B)->yQ.sp (aE kw) top.sl A3 Kb:=by
     intro Kb ea k1 k2;refine cm.add hg h0 hw (by omega) b0 bd (by omega) (by omega) f16 t.ints (λad ha=>a7 _ ⟨ad,ha,rfl⟩) λG B j O P hB zB oB=>?_;by_cases D:(w.add s' top.row).2.2=0
     ·have ra:=hw.add s' top.row;have ep:=oB A1.size (by omega) (by rw[(x2 A1.size (Ob _)).2.2 trivial];decide) (by rw[(x2 A1.size (Ob _)).2.2 trivial];decide);refine k2 B ?_ D;rw[ea];refine⟨D,j,G,O,P,hB,ra.1.mono (by omega),(ra.2 D).1,(ra.2 D).2,bd.add (by omega) _,ep.2.trans r3,t.keep λb d N=>?_,λb d=>?_,zB⟩
      ·have c:=a7 b d;exact(oB b N (by omega) (by omega)).2
      ·have c:=a7 b d;exact(oB b (t.lt b d) (by omega) (by omega)).1.trans c
     ·exact k1 B D ⟨G,hB.rds.pool,hB.rds.step⟩
    have bad:∀B,(aQ s' w top.row)=w.add s' top.row->(w.add s' top.row).2.2≠0->(∃G,au G B p dp (w.add s' top.row).1/\Step F G H B)->K ((0:Int),(w.add s' top.row).2.2) B:=λB ea D ⟨G,p2,S2⟩=>by
     have cz:=er;rw[ea,if_pos D] at cz;rw[cz] at hK;exact hK G B p2 S2
    by_cases S:w.rows=0
    ·have ea:aQ s' w top.row=w.add s' top.row:=by unfold aQ;rw[if_pos (.inl S)]
     refine aP (by rw[V];exact decide_eq_true S) ?_;refine aj.ld (c:=ak) (i:=1) (x:=top.sl) r3 rfl ?_;refine added _ ea (λB D q=>aP (by simpa using D) (bad B ea D q)) λB hJ D=>aC (by rw[D];rfl) hJ
    ·refine aC (by rw[V];exact decide_eq_false S) ?_;obtain⟨l1,l2,l3⟩:=X S;refine aj.ld (c:=ak) (i:=1) (x:=top.sl) r3 rfl ?_;have et:Ints .u64 A3 last w.last:=(l1.keep λb d N=>cy b N (l3 b d)).ints;refine jE t.ints et (by omega) ?_;by_cases I:aT top.row w.last=0
     ·have ea:aQ s' w top.row=(s',w,0):=by unfold aQ;rw[if_neg (by rintro(q|q);exact S q;exact q I)]
      refine aC (by rw[I];rfl) ?_;rw[ea];exact⟨rfl,bs,F',sw,sl,cm,hw.mono (by omega),(b8.1 I).symm,Nat.pos_of_ne_zero S,bd.mono (by omega) (by omega),r3,t,a7,Ob _⟩
     ·have ea:aQ s' w top.row=w.add s' top.row:=by unfold aQ;rw[if_pos (.inr I)]
      refine aP (by simpa using I) ?_;refine aj.ld (c:=ak) (i:=1) (x:=top.sl) r3 rfl ?_;refine added _ ea (λB D q=>aP (by simpa using D) (bad B ea D q)) λB hJ D=>aC (by rw[D];rfl) hJ
   ·rintro _ B ⟨D,j,G,O,P,hB,eu,c0,eI,c4,rB,oB,cB,zB⟩;rw[if_neg (by rw[D];simp)] at er;generalize aQ s' w top.row=a at*;refine aj.ld (c:=ak) (i:=1) (x:=top.sl) rB rfl ?_;refine aj.c8 (x:=((top.no:Int),top.sl,top.ptr)) rB rfl rfl ?_;rw[ck];refine xr hB hg h0 hy c4 (by omega) (by omega) (by have:=hP.length_eq;simp at this;omega) λF3 C c5 y' ev L2 hC q2 q3 q4 q5 q6 q7=>?_;by_cases e1:(y.r.next a.1).2.2.2.2=0
    ·rw[if_neg (by rw[e1];simp)] at er;refine aC (by rw[e1];rfl) ?_;have ew:=c4.next (r:=y.r) (by omega);have bx:(hl.set top.no none).set top.no (dO (y.r.next a.1).2.2.1 (y.r.next a.1).2.2.2.1)=hl.set top.no (dO (y.r.next a.1).2.2.1 (y.r.next a.1).2.2.2.1):=List.set_set _;have hd:cu L2 (hl.set top.no (dO (y.r.next a.1).2.2.1 (y.r.next a.1).2.2.2.1)):=by
      cases e:(y.r.next a.1).2.2.2.1 with
      |true=>
        obtain⟨row,ptr,ey⟩:=q3 e;rw[e] at bx;rw[<-bx];exact cx.push (x:=⟨top.no,row,ptr,(y.r.next a.1).2.2.1⟩) (by simpa using en) ek ey
      |false=>
        rw[q4 e];exact cx
     have c1:=mP (rs:=xs.map (·.r)) (i:=top.no) (r:=y.r) (r':=y'.r) (by rw[Oi,hy];rfl);have c2:=me (i:=top.no) (b:=dO (y.r.next a.1).2.2.1 (y.r.next a.1).2.2.2.1) ((hT.mem top.no top.row).2 ⟨top,mt,rfl,rfl⟩);have c3:=RR.ks (m.rds.oks y (N9 hy)).1 a.1;rw[q2] at c1;simp only[Option.isSome_some,if_true] at c2;refine⟨f,⟨c5,F3,_,xs.set top.no y',a.2.1,O,P,ev,L2,_,hC,hd,by simp;exact hlen,by simp;exact eb,?_,?_,eu,ew.mono (by omega) (by omega),by omega,(decide_eq_false (by omega)).symm,λ_=>⟨?_,by rw[c0];exact f16,λb d=>?_⟩⟩,Rv _⟩
     ·rw[Pv,q2];omega
     ·rw[er,Pv,q2]
     ·rw[c0];exact oB.keep λb d N=>q7 b N (cB b d)
     ·rw[q5 b (oB.lt b d)];exact cB b d
    ·rw[if_pos e1] at er;rw[er] at hK;exact aP (by simpa using e1) (hK F3 C hC.rds.pool hC.rds.step)
end
theorem uH {W:Int}{ns:List ByteArray}{s:Pl}{x y:Nat}(b:Bd s x y)(hl:ns.length<=1000000)(a:x<900000000000):Bd (aV W ns s).1 (x+1000000) (y+1000000):=
 (ru (ns:=ns) (W:=W) b (by omega)).mono (by omega) (by omega)
theorem uZ {rs:List RR}{m:Pl×Option RW×Int}{w:RW}(h:m.2.1=some w):lL rs m=zn (bc rs m.1) w:=by unfold lL;rw[h]
section
variable {H:aa}{F:Nat->Prop}{p dp:Nat}{s:Pl}{names:Sl}{ns:List ByteArray}{to:ByteArray}{W:Int}
set_option maxHeartbeats 2000000 in
theorem Fx {K:(Int×Int)->aa->Prop}{x y N:Nat}(O:Gl H)(hp:au F H p dp s)(hn:names.n=ns.length)(an:∀A,Mod F H A->bP kS A names.a ns)(a1:∀n∈ns,n.size<=9223372036854775807)(P:to.size<=9223372036854775807)(b:Bd s x y)(hl:ns.length<=1000000)(v:x<800000000000)(hy:y<50000000000)
  (hN:bN (aV W ns s).2.1<=N) (bC:N<=10000000000) (bD:x+2*N<900000000000) (b0:y+3*N<67000000000)
  (d:∀F' A,au F' A p dp (cM s ns to W).1->Step F F' H A->K (((cM s ns to W).2.1:Int),(cM s ns to W).2.2) A):Kt.sp (aE p) names to W H K:=by
 refine Kt.of ?_;unfold Kt.vc;have D:=hp.eM;have b1:=O.lt;refine aC rfl ?_;unfold cM at d;by_cases o:ns=[]
 ·rw[if_pos o] at d;refine aP (by rw[hn,o];rfl) ?_;exact d F H hp (.refl _ _)
 rw[if_neg o] at d;have a6:names.n≠0:=by rw[hn];exact λq=>o (List.eq_nil_of_length_eq_zero q)
 refine aC (by simpa using a6) ?_;have R:=uH (W:=W) b hl (by omega);refine ER O hp hn an a1 b hl (by omega) (by omega) (λe0 F1 A p1 S1=>?_) (λe0 F1 A col xs l m hr hlen=>?_)
 ·rw[if_pos e0] at d;exact aP (by simpa using e0) (d F1 A p1 S1)
 rw[if_neg (by rw[e0];simp)] at d;refine aC rfl ?_;rw[<-hr] at d hN;generalize (aV W ns s).1=s1 at*;have a7:=m.gl O D;have q1:=R.lo;have q2:=R.hi;have q3:=R.aB;have bM:=R.make (n:=to) (W:=W) (by omega);refine wT a7 m.pool P (by omega) (by omega) q1 R.fit (λS B p2 T V=>?_) (λS B kw w p2 T V w2 k1 k2=>?_)
 ·have e1:=gO.1 V;have em:lL (xs.map (·.r)) (bj s1 to W)=((bj s1 to W).1,0,(bj s1 to W).2.2):=by unfold lL;rw[V]
  rw[em] at d;exact aP (by simpa using e1) (d S B p2 (m.step.trans T))
 obtain⟨e1,hw,W0,a8⟩:=gO.2 w V;subst hw;rw[uZ V] at d;generalize (bj s1 to W).1=s2 at*;rw[e1];refine aC rfl ?_;refine ax λC zC rC eC=>?_;have zR:=m.mod.size;have zS:=T.mod.size;have bb:∀b,dt kw bf bf b->b=kw:=by
  rintro b (q|q|q)
  ·exact q
  ·exact absurd q (aS b)
  ·exact absurd q (aS b)
 have b2:=w2.lt kw (.inl rfl);obtain⟨e,c1,c2⟩:=ie col A.size S (λb=>b=kw) (λb=>b=B.size) 0 2 1 (λb q r=>k2 (r▸q)) (λb q r=>by have:=p2.lt b q;omega) (λb q r=>by omega);have bd:=m.rY (col':=e) p2 T.mod (λb G q=>by rw[(m.cF b q).1];decide) (λb G q=>(m.cF b q).2.resolve_right (by omega)) (λb q=>by
  rcases T.own b q with r|r
  ·rw[c1 b (m.pool.lt b r)];exact m.cF b r
  ·exact⟨(c2 b r).1 q,.inr (by omega)⟩) λb G _=>c1 b G
 have hM:qS H F e p dp S C s2 xs l kw (vS to W) bf bf B.size bf []:=by
  refine⟨bd.ext eC,w2.mod eC λ_ _=>id,⟨rC,az.nil _ _ _,λx v=>(by cases v),λx v=>(by cases v)⟩,λb G=>?_,λb G=>?_,λx v=>(by cases v),λx v=>(by cases v),λi a b _ ha=>by simp at ha⟩
  ·have:=bb b G;subst this;exact⟨(c2 b k1).2.1 rfl,.inr (by omega)⟩
  ·rcases G with q|q
   ·subst q;exact⟨(c2 B.size (by omega)).2.2 rfl,by omega⟩
   ·exact absurd q (aS b)
 have bl:xs.length<=1000000:=by omega
 have bn:l.n=xs.length:=by rw[az.n m.list (by decide)];simp
 refine ar xs.length (λi z A=>z=(i:Int)/\∃F' s' col X L hs hsl,qS H F col p dp F' A s' X l kw (vS to W) bf bf B.size hsl L/\eU xs s2 i s' X L hs/\Bd s' (x+1000001+i) (y+1000002+i)) ⟨rfl,S,s2,e,xs,[],_,bf,hM,.first xs s2,bM⟩ ?_;rintro i z A' next hi ⟨rfl,F3,s3,Y,f,L3,h,Z,t,hH,b3⟩ I
 refine ah (λhc=>?_) (λhc=>?_)
 ·have u:i<xs.length:=by
   have:(i:Int)<(l.n:Int):=by simpa using hc
   omega
  obtain⟨yx,j,_⟩:=hH.at_ u;have ok:=(t.rds.oks yx (N9 j)).1;refine bP.one (E:=dL) (c:=av) (y:=aE yx.k) t.rds.list.rd (by rw[bn];simp[hH.len]) rfl (i:=i) (x:=yx.k) (by rw[Oi,j];rfl) rfl ?_;refine xr t O D j b3 (by omega) (by omega) (by have:=hH.kL.len;have:=hH.hlen;omega) λF4 B4 af y4 bs L4 J r2 r3 r4 r5 r6 r7=>?_;by_cases ee:(yx.r.next s3).2.2.2.2=0
  ·refine aC (by rw[ee];rfl) ?_;rw[aD i (by omega)];exact I u _ B4 ⟨rfl,F4,_,af,_,L4,_,bs,J,hH.next u j ok r2 ee r3 r4,(b3.next (r:=yx.r) (by omega)).mono (by omega) (by omega)⟩
  ·obtain⟨d1,d2⟩:=hH.bad u j ee;unfold zn at d;rw[if_pos (by rw[d2];exact ee),d1,d2] at d;exact aP (by simpa using ee) (d F4 B4 J.rds.pool J.rds.step)
 ·have bx:i=xs.length:=by
   have:¬(i:Int)<(l.n:Int):=by simpa using hc
   omega
  subst bx;have hd:=hH.done;unfold zn at d;rw[hd] at d;simp only at d;rw[if_neg (by simp)] at d;have bB:=hH.count;have bA:wz H F p dp A' l kw B.size to (bN (f.map (·.r))+fQ h+1) (x+2000002) (y+2000004) (fY (bN (f.map (·.r))+fQ h+1) s3 (f.map (·.r)) h (vS to W)) (bN (f.map (·.r))+fQ h+1) (Sl.mk none 0 0,true):=
   ⟨Y,F3,s3,f,vS to W,bf,bf,Z,L3,h,t,hH.kL,by rw[hH.hlen,hH.len],by rw[hH.len];exact bl,Rv _,rfl,by rw[TS];exact wN to W0 a8,b3.mono (by omega) (by omega),Ob _,rfl,λq=>absurd rfl q⟩
  exact C7 O D P (by omega) (by omega) (by omega) bA d
end
theorem xV:∀{L:List (List Int)} {s:Pl} {w:RW} {x y:Nat},Bd s x y->x+L.length<1000000000000->Bd (kN L s w).1 (x+L.length) (y+2*L.length)
 |[],s,w,x,y,h,_=>h
 |l::L,s,w,x,y,h,a=>by
   rw[ON] at a ⊢;have h1:=h.add (w:=w) (by omega) l;simp only[kN];split
   ·exact h1.mono (by omega) (by omega)
   ·exact(xV (L:=L) h1 (by omega)).mono (by omega) (by omega)
section
variable {A0:aa}{F:Nat->Prop}{p dp:Nat}{s:Pl}{name:ByteArray}{W:Int}{l:Sl}{qs:List Qr}
set_option maxHeartbeats 1000000 in
theorem Gh {K:Int->aa->Prop}{x y:Nat}(hg:Gl A0)(hp:au F A0 p dp s)(E:kY A0 l qs)(a1:∀b,ag l b->¬F b)(N:∀q∈qs,∀b,ag q.1 b->¬F b)(hl:qs.length<=1000000)(O:name.size<=9223372036854775807)(b:Bd s x y)(hx:x<800000000000)(hy:y<50000000000)
  (c:∀F' B,au F' B p dp (ia s name W (qs.map (·.2))).1->Step F F' A0 B->K (ia s name W (qs.map (·.2))).2 B):
  GZ.sp (aE p) name W A0 λ(d:(Option Addr×Int)) H8=>br (d.2!=(0:Int)) (K d.2 H8) (aw Int (0:Int) H8 λnext z H9=>br (decide (z<(l.n:Int))) (ae l.a λa6=>(0<=z/\z<(l.n:Int))/\ld ak H9 (a6.add (z.toNat*1)) λ(a7:Sl)=>yQ.sp d.1 a7 H9 λ(e:Int) P=>br (e !=(0:Int)) (K e P) (next (N6.wrap (z+(1:Int))) P)) (Fb.sp d.1 H9 λ(a8:(Int×Int)) bb=>K a8.2 bb)):=by
 have q1:=b.lo;have q2:=b.hi;have q3:=b.aB;have bM:=b.make (n:=name) (W:=W) (by omega);have bx:=hg.lt;have R:=hp.eM;unfold ia at c;refine wT hg hp O (by omega) (by omega) q1 b.fit (λF2 B p2 S2 G=>?_) (λF2 B kw w p2 S2 G w2 k1 k2=>?_)
 ·have e1:=gO.1 G;rw[G] at c;exact aP (by simpa using e1) (c F2 B p2 S2)
 obtain⟨e1,hw,W0,bd⟩:=gO.2 w G;subst hw;rw[G] at c;simp only at c;generalize (bj s name W).1=s1 at*;rw[e1];refine aC rfl ?_;have bA:l.n=qs.length:=az.n E.out (by decide);have S:∀b,dt kw bf bf b->b=kw:=by
  rintro b (q|q|q)
  ·exact q
  ·exact absurd q (aS b)
  ·exact absurd q (aS b)
 refine ar qs.length (λi z B=>z=(i:Int)/\∃F' s' w sw sl,au F' B p dp s'/\pf B kw p w sw sl/\(∀b,F' b->¬dt kw sw sl b)/\(∀b,F' b\/dt kw sw sl b->F b\/A0.size<=b)/\Mod F A0 B/\Bd s' (x+1+i) (y+2+2*i)/\lV w name i/\
   kN (qs.map (·.2)) s1 (vS name W)=kN ((qs.map (·.2)).drop i) s' w) ⟨rfl,F2,s1,vS name W,bf,bf,p2,w2,λb I q=>k2 ((S b q)▸I),λb I=>?_,S2.mod,bM,wN name W0 bd,rfl⟩ ?_
 ·rcases I with q|q
  ·exact S2.own b q
  ·have:=S b q;exact .inr (by omega)
 rintro i z B next hi ⟨rfl,F',s',w,sw,sl,pB,wB,dB,J,m,t,v,f⟩ D
 have T:=hg.mod m R;have u1:=t.lo;have u2:=t.hi;have u3:=t.aB;have V:¬dt kw sw sl bh:=λq=>(J _ (.inr q)).elim R λr=>by omega
 have c1:=v.wait;have c2:=v.n;have c3:=v.rows;have X:∀b,b<A0.size->¬F b->¬(F' b\/dt kw sw sl b):=λb I O q=>by
  rcases J b q with r|r
  ·exact O r
  ·omega
 refine ah (λhc=>?_) (λhc=>?_)
 ·have j:i<qs.length:=by
   have:(i:Int)<(l.n:Int):=by simpa using hc
   omega
  obtain⟨q,gq⟩:∃q,qs[i]?=some q:=⟨_,N8 j⟩;have mq:=N9 gq;have Y:kY B l qs:=⟨E.out.mod m a1,λa Z=>(E.own a Z).mod m (N a Z),E.iD⟩;refine Y.get gq ?_;have hd:(qs.map (·.2)).drop i=q.2::(qs.map (·.2)).drop (i+1):=by
   rw[OY (by simpa using j)];congr 1;rw[N8 j] at gq;rw[List.getElem_map,OE gq]
  rw[hd] at f;simp only[kN] at f;have bl:=t.add (w:=w) (by omega) q.2;have bn:=(v.add s' q.2).1;refine Bq T V wB pB dB (Y.ints mq) (λad Z r=>X ad.block ((E.own q mq).lt _ ⟨ad,Z,rfl⟩) (N q mq _ ⟨ad,Z,rfl⟩) (.inr r)) (by have:=E.iD q mq;omega) (by omega) (by omega) (by omega) (by rw[v.name];exact O) (by omega) (by omega) u1 t.fit λF3 af an C p3 w3 d3 S3=>?_;have o3:∀b,F3 b\/dt kw af an b->F b\/A0.size<=b:=λb r=>by
   rcases S3.own b r with u|u
   ·exact J b u
   ·have:=m.size;exact .inr (by omega)
  have m3:Mod F A0 C:=m.trans' S3.mod λb I r=>(J b r).resolve_right (by omega);by_cases e0:(w.add s' q.2).2.2=0
  ·rw[if_neg (by rw[e0];simp)] at f;rw[e0];refine aC rfl ?_;rw[aD i (by omega)];exact D j _ C ⟨rfl,F3,_,_,af,an,p3,w3,d3,o3,m3,bl.mono (by omega) (by omega),bn,f⟩
  ·rw[if_pos e0] at f;rw[f] at c;unfold uO at c;rw[if_pos e0] at c;exact aP (by simpa using e0) (c F3 C p3 ⟨m3,λb r=>o3 b (.inl r)⟩)
 ·have bs:i=qs.length:=by
   have:¬(i:Int)<(l.n:Int):=by simpa using hc
   omega
  subst bs;have hd:(qs.map (·.2)).drop qs.length=[]:=List.drop_of_length_le (by simp);rw[hd] at f;simp only[kN] at f;rw[f] at c;unfold uO at c;rw[if_neg (by simp)] at c;have o:=t.out (w:=w) (by omega);have o1:=o.hi;have G:=o.aB;refine u7 T V wB pB dB (by omega) v.width.1 (by rw[v.name];exact O) (by omega) (by omega) u1 t.fit (by omega) (by omega) (λh hd=>?_) λF3 bC C p3 w3 d3 S3=>?_
  ·rw[Pl.Bp,Pl.E9];have:=(w.out s').1.tu w.b.name 0;omega
  ·refine c F3 C p3 ⟨m.trans' S3.mod λb I r=>(J b r).resolve_right (by omega),λb r=>?_⟩;rcases S3.own b (.inl r) with u|u
   ·exact J b u
   ·have:=m.size;exact .inr (by omega)
end
end Go.Proofs.YtmkbhnholcaghaaGreatDoor
namespace Go.Proofs.YtmkbhnholcaghaaGreatDoor
section
variable {M:nh}{W:Nat}{p:Pl}{Q U:Nat}{to:ByteArray}{out:List (List Int)}{w:RW}{i:Nat}
theorem Ar:∀(l:List (List Int)) (a:List Int),(dd a l).length<=l.length
 |[],_=>Ob _
 |b::l,a=>by
   simp only[dd];have h1:=Ar l a;have c:=Ar l b;split<;>simp only[ON]<;>omega
theorem jJ (l:List (List Int)):(eP (jN l)).length<=l.length:=by
 have h:=(pr l).length_eq;cases e:jN l with
 |nil=>exact Oz _
 |cons a t=>
   rw[e] at h;simp only[eP,ON] at h ⊢;have:=Ar t a;omega
end
section
variable {M:nh}{W:Nat}{p:Pl}{Q U:Nat}{to:ByteArray}{out:List (List Int)}
end
theorem dR (n:ByteArray)(i:Nat):(bU n i).size=n.size+1+(lW i).size:=by
 unfold bU;rw[R0,R0];rfl
open Go.MapKept
def im (p:Nat)(t:So)(sw ss:Sl):Array Value:=#[.pointer (aE p),.string t.name,.int .i64 t.width,.int .i64 t.frames,sw.v,ss.v,.int .i64 (t.next:Int),.int .i64 t.wrong,.bool t.closed]
structure Ji (H:aa)(k p:Nat)(t:So)(sw:Sl)(rs:List Sl)(ss:Sl):Prop where
 row:aj H k vT (im p t sw ss)
 wait:aO H 0 sw rs t.wait
 names:bP kS H ss.a t.side
 n:ss.n=t.side.length/\ss.n<=ss.c
 iD:∀l∈t.wait,l.length<=16
structure qg (H:aa)(k p:Nat)(t:So)(sw:Sl)(rs:List Sl)(ss:Sl):Prop where
 rd:Ji H k p t sw rs ss
 side:az kS dI H ss t.side
def cg (k:Nat)(sw:Sl)(rs:List Sl)(ss:Sl)(b:Nat):Prop:=b=k\/ag sw b\/(∃x∈rs,ag x b)\/ag ss b
structure vI (t:So):Prop where
 name:t.name.size<=1000000
 wait:t.wait.length<=400000
 side:t.side.length<=1000
 sizes:∀n∈t.side,n.size<=9223372036854775807
 next:t.next<100
 frames:0<=t.frames/\t.frames<=1000000
section
variable {H:aa}{k p dp:Nat}{t:So}{sw ss:Sl}{rs:List Sl}{F:Nat->Prop}{s:Pl}
theorem qg.mk' (row:aj H k vT (im p t sw ss))(wait:aO H 0 sw rs t.wait)(side:az kS dI H ss t.side)(iD:∀l∈t.wait,l.length<=16):qg H k p t sw rs ss:=
 ⟨⟨row,wait,side.rd,⟨az.n side (by decide),aM.cap side⟩,iD⟩,side⟩
theorem Ji.jG (h:Ji H k p t sw rs ss):¬ag sw k:=λq=>by
 obtain⟨cur,a⟩:=h.wait.out.obj k q;exact absurd (aF a h.row) (by decide)
theorem Ji.jv (h:Ji H k p t sw rs ss):∀x∈rs,¬ag x k:=λx a q=>by
 obtain⟨l,hl⟩:=h.wait.rowAt a;obtain⟨cur,c⟩:=hl.obj k q;exact absurd (aF c h.row) (by decide)
theorem qg.nO (h:qg H k p t sw rs ss):¬ag ss k:=λq=>by
 obtain⟨cur,a⟩:=h.side.obj k q;exact absurd (aF a h.rd.row) (by decide)
theorem qg.lt (h:qg H k p t sw rs ss):∀b,cg k sw rs ss b->b<H.size:=by
 rintro b (q|q|⟨x,a,q⟩|q)
 ·subst q;exact aA h.rd.row
 ·exact(h.rd.wait.block.1 b q).2
 ·exact(h.rd.wait.block.2 x a b q).2
 ·exact h.side.lt b q
theorem qg.mod {G:Nat->Prop}{H':aa}(h:qg H k p t sw rs ss)(m:Mod G H H')(c:∀b,cg k sw rs ss b->¬G b):qg H' k p t sw rs ss:=
 .mk' (h.rd.row.mod m (c k (.inl rfl))) (h.rd.wait.mod m (λb a=>c b (.inr (.inl a))) λx d b a=>c b (.inr (.inr (.inl ⟨x,d,a⟩)))) (h.side.mod m λb a=>c b (.inr (.inr (.inr a)))) h.rd.iD
theorem ki {K:Int->aa->Prop}(h:aj H k vT (im p t sw ss))(a:K t.ready H):Hy.sp (aE k) H K:=by
 refine Hy.of ?_;unfold Hy.vc;unfold So.ready at a;unfold aE;simp only[al];refine aC rfl ?_;refine h.ld (c:=ab .i64) (i:=7) (x:=t.wrong) rfl ?_;refine ah (λe=>?_) (λe=>?_)
 ·refine h.ld (c:=ab .i64) (i:=7) (x:=t.wrong) rfl ?_;rw[if_pos (by simpa using e)] at a;exact a
 ·rw[if_neg (by simpa using e)] at a;refine h.ld (c:=ay) (i:=8) (x:=t.closed) rfl ?_;cases d:t.closed with
  |true=>rw[d,if_pos rfl] at a;exact a
  |false=>rw[d,if_neg (by simp)] at a;exact a
theorem cJ {n:Nat}(h:n<100):(lW n).size<=2:=(DN n h).2
theorem qF {K:ByteArray->aa->Prop}(h:aj H k vT (im p t sw ss))(d:t.next<100)(hs:t.name.size<=1000000)
  (f:∀H',aj H' k vT (im p (t.to (t.next+1)) sw ss)->Mod (λb=>b=k) H H'->H'.size=H.size->K (bU t.name t.next) H'):Im.sp (aE k) H K:=by
 refine Im.of ?_;unfold Im.vc;unfold aE;simp only[al];refine h.ld (c:=ab .i64) (i:=6) (x:=(t.next:Int)) rfl ?_;rw[aD t.next (by omega)];refine aj.st h (i:=6) (by simp[im]) rfl λH1 j m1 m=>?_;have a:aj H1 k vT (im p (t.to (t.next+1)) sw ss):=j;have h1:KU.size=1:=rfl;refine⟨λA=>aj A k vT (im p (t.to (t.next+1)) sw ss),a,?_⟩;refine aj.dw (c:=aK) (i:=1) (x:=t.name) (cs:=λ_=>_) (λ_ q=>q) (λ_ _=>rfl) ?_;have o:t.name.size+(ByteArray.mk #[126]).size<=1000001:=by show t.name.size+1<=_;omega
 refine⟨by omega,?_⟩;refine a.ld (c:=ab .i64) (i:=6) (x:=((t.next+1:Nat):Int)) rfl ?_;have e:N6.wrap (((t.next+1:Nat):Int) - 1)=(t.next:Int):=by rw[wrap64 (by omega) (by omega)];omega
 rw[e];refine II d ⟨a,?_,f H1 a m1 m⟩;have:=cJ d;rw[R0];omega
set_option maxHeartbeats 1000000 in
theorem w6 {K:Int->aa->Prop}{x y:Nat}(hg:Gl H)(af:¬cg k sw rs ss bh)(h:qg H k p t sw rs ss)(hp:au F H p dp s)(dis:∀b,F b->¬cg k sw rs ss b)(I:vI t)(b:Bd s x y)(m:x<800000000000)(hy:y<50000000000)
  (hK:∀F' e H',au F' H' p dp (t.aside s).1->qg H' k p (t.aside s).2.1 bf [] e->(∀b,F' b->¬cg k bf [] e b)->Step (λb=>F b\/cg k sw rs ss b) (λb=>F' b\/cg k bf [] e b) H H'->K (t.aside s).2.2 H'):DU.sp (aE k) H K:=by
 refine DU.of ?_;unfold DU.vc;unfold aE;simp only[al];have an:=h.rd.wait.qr h.rd.iD;obtain⟨z1,z2⟩:=zu h.rd.wait.len;have bd:(rs.zip t.wait).length<=400000:=by
  have:=congrArg T0 z2;rw[OT] at this;have:=I.wait;omega
 have J:∀q∈rs.zip t.wait,∀b,ag q.1 b->∃x∈rs,ag x b:=λq N b d=>⟨q.1,by rw[<-z1];exact Ol.2 ⟨q,N,rfl⟩,d⟩;have f:=h.rd.jG;have j:=h.nO;have hk:=aA h.rd.row;refine h.rd.row.ld (c:=ak) (i:=4) (x:=sw) rfl ?_;refine yq an (by omega) λv A hP T hA mA=>?_;have rA:=h.rd.row.mod mA f;refine rA.ld (c:=ak) (i:=4) (x:=sw) rfl ?_;have bl:=hP.length_eq;refine zV hA (by omega) λn B hn hB mB=>?_;have z:Mod (ag sw) H B:=mA.trans mB;have rB:=h.rd.row.mod z f;refine qF rB I.next I.name λC rC mC zC=>?_;have O:∀b,ag ss b->¬ag sw b:=λb d=>h.side.apart h.rd.wait.out (by decide) b d;have sC:az kS dI C ss t.side:=(h.side.mod z O).mod mC λb d q=>j (q▸d);refine rC.ld (c:=ak) (i:=5) (x:=ss) rfl ?_;refine az.push (E:=kS) (x:=bU t.name t.next) CH sC rfl (by have:=I.side;omega) (by have:=I.side;omega) λe D oD V _=>?_;have bn:=z.size;have G:¬ag e k:=λq=>by
  rcases V.2 k q with r|r
  ·exact j r
  ·omega
 have rD:=rC.mod V.1 j;refine aj.st rD (i:=4) (by simp[im]) rfl λD1 r1 m1 bs=>?_;refine aj.st r1 (i:=5) (by simp[im]) rfl λu r2 m2 bx=>?_;have m12:Mod (λq=>q=k) D u:=m1.trans m2;have X:aj u k vT (im p t.iK bf e):=r2;have o2:az kS dI u e (t.side++[bU t.name t.next]):=oD.mod m12 λb d q=>G (q▸d);refine X.ld (c:=av) (i:=0) (x:=aE p) rfl ?_;refine X.ld (c:=ab .i64) (i:=2) (x:=t.width) rfl ?_
 -- what was written so far
 have bA:=V.1.size;have bB:=m12.size;have mH:Mod (cg k sw rs ss) H u:=by
  have a1:Mod (cg k sw rs ss) H C:=(z.mono λb _ q=>.inr (.inl q)).trans' mC λb _ q=>.inl q;have a2:Mod (cg k sw rs ss) H D:=a1.trans' V.1 λb _ q=>.inr (.inr (.inr q));exact a2.trans' m12 λb _ q=>.inl q
 have pD:au F u p dp s:=hp.keep λb d hl=>mH.same b hl (dis b d);have a6:Gl u:=hg.mod mH af;have lB:∀b,ag (⟨sw.a,n,sw.c⟩:Sl) b->ag sw b:=λb d=>d;have P:∀q∈gN v,q∈rs.zip t.wait:=λq N=>hP.mem_iff.1 (uW N);have a7:∀b,ag sw b->b<H.size:=λb d=>(h.rd.wait.block.1 b d).2;have Y:kY u ⟨sw.a,n,sw.c⟩ (gN v):=by
  have o:∀b,b<H.size->¬ag ss b->b≠k->u[b]?=B[b]?:=λb d n1 n2=>by
   have a1:=mC.same b (by omega) n2;have a2:=V.1.same b (by omega) n1;have a3:=m12.same b (by omega) n2;rw[a3,a2,a1]
  refine⟨hB.out.keep λb d _=>o b (a7 b d) (λq=>O b q d) λq=>f (q▸d),λq N=>(hB.own q N).keep λb d _=>?_,hB.iD⟩;obtain⟨x,m,Z⟩:=J q (P q N) b d;obtain⟨l,hl⟩:=h.rd.wait.rowAt m;exact o b ((h.rd.wait.block.2 x m b Z).2) (λq=>h.side.apart hl (by decide) b q Z) λq=>h.rd.jv x m (q▸Z)
 have R:(gN v).map (·.2)=eP (jN t.wait):=by rw[Ct,T,z2]
 have bC:(gN v).length<=400000:=by
  have a:=jJ t.wait;have c:=congrArg T0 R;rw[OT] at c;have:=I.wait;omega
 unfold So.aside at hK;rw[<-R] at hK;refine Gh a6 pD Y (λb d q=>dis b q (.inr (.inl d))) (λq N b d r=>dis b r (.inr (.inr (.inl (J q (P q N) b d))))) (by omega) (by have:=cJ I.next;have:=I.name;rw[dR];omega) b m hy λF' E pE SE=>?_;have S:∀b,cg k bf [] e b->¬F b:=by
  rintro b (q|q|⟨x,m,_⟩|q) d
  ·exact dis b d (.inl q)
  ·exact absurd q (aS b)
  ·cases m
  ·rcases V.2 b q with r|r
   ·exact dis b d (.inr (.inr (.inr r)))
   ·have:=hp.lt b d;omega
 have a8:∀b,cg k bf [] e b->b<u.size:=by
  rintro b (q|q|⟨x,m,_⟩|q)
  ·omega
  ·exact absurd q (aS b)
  ·cases m
  ·exact o2.lt b q
 have bb:qg u k p t.iK bf [] e:=.mk' X (aO.nil _ _) o2 λl hl=>(by cases hl);refine hK F' e E pE (bb.mod SE.mod S) (λb d q=>?_) ⟨(mH.mono λb _ q=>.inr q).trans' SE.mod λb _ q=>.inl q,λb d=>?_⟩
 ·rcases SE.own b d with r|r
  ·exact S b q r
  ·have:=a8 b q;omega
 ·rcases d with q|q|q|⟨x,m,_⟩|q
  ·rcases SE.own b q with r|r
   ·exact .inl (.inl r)
   ·exact .inr (by omega)
  ·exact .inl (.inr (.inl q))
  ·exact absurd q (aS b)
  ·cases m
  ·rcases V.2 b q with r|r
   ·exact .inl (.inr (.inr (.inr (.inr r))))
   ·exact .inr (by omega)
end
end Go.Proofs.YtmkbhnholcaghaaGreatDoor
namespace Go.Proofs.YtmkbhnholcaghaaGreatDoor
theorem uB:∀{rs:List RR} {s:Pl} {x y:Nat},Bd s x y->x+rs.length<1000000000000->Bd (bc rs s).1 (x+rs.length) (y+rs.length)
 |[],s,x,y,h,_=>h
 |r::rs,s,x,y,h,a=>by
   rw[ON] at a ⊢;have h1:=h.next (r:=r) (by omega);simp only[bc];split
   ·exact h1.mono (by omega) (by omega)
   ·exact(uB (rs:=rs) h1 (by omega)).mono (by omega) (by omega)
theorem Gk {s:Pl}{w:RW}{l:List Int}{x y:Nat}(h:Bd s x y)(a:x<1000000000000):Bd (aQ s w l).1 (x+1) (y+2):=by
 unfold aQ;split
 ·exact h.add a l
 ·exact h.mono (by omega) (by omega)
theorem uK:∀(f:Nat) {s:Pl} {rs:List RR} {hs:List (Option (List Int))} {w:RW} {x y:Nat},Bd s x y->x+2*f<999999999990->(fY f s rs hs w).1.fs.length<=4096->Bd (fY f s rs hs w).1 (x+2*f+2) (y+3*f+4200)
 |0,s,rs,hs,w,x,y,h,_,_=>h.mono (by omega) (by omega)
 |f+1,s,rs,hs,w,x,y,h,d,hw=>by
   unfold fY at hw ⊢;split at hw
   ·exact(h.close (by omega) hw).mono (by omega) (by omega)
   ·rename_i i l e;have h1:=Gk (w:=w) (l:=l) h (by omega);split at hw
    ·rename_i a;rw[if_pos a];exact h1.mono (by omega) (by omega)
    ·rename_i a;rw[if_neg a];have c:=h1.next (r:=rs.getD i default) (by omega);split at hw
     ·rename_i e2;rw[if_pos e2];exact c.mono (by omega) (by omega)
     ·rename_i e2;rw[if_neg e2];exact(uK f c (by omega) hw).mono (by omega) (by omega)
theorem uG {W:Int}:∀{ns:List ByteArray} {s:Pl},(aV W ns s).2.1.length<=ns.length
 |[],s=>Ob _
 |n::ns,s=>by
   simp only[aV];split
   ·exact Oz _
   ·simp only[ON];have:=uG (W:=W) (ns:=ns) (s:=(rnOpen s n W).1);omega
theorem ko:∀{rs:List RR} {s:Pl},(∀r∈rs,r.Ok)->bN (bc rs s).2.1+fQ (bc rs s).2.2.1<=bN rs
 |[],s,_=>Ob _
 |r::rs,s,h=>by
   simp only[bc];split
   ·exact Oz _
   ·have a:=RR.ks (h r OA) s;have b:=ko (rs:=rs) (s:=(r.next s).1) λx c=>h x (Ou _ c);simp only[bN,fQ,Ox,Ph] at b ⊢;omega
theorem ym {W:Int}:∀{ns:List ByteArray} {s:Pl},∀r∈(aV W ns s).2.1,r.Ok
 |[],s,r,h=>by cases h
 |n::ns,s,r,h=>by
   simp only[aV] at h;split at h
   ·cases h
   ·rename_i q e;rcases Oq.1 h with u|u
    ·subst u;exact(mr e).1
    ·exact ym (ns:=ns) r u
theorem pt {s:Pl}{ns:List ByteArray}{to:ByteArray}{W:Int}{x y N:Nat}(h:Bd s x y)(hl:ns.length<=1000)(j:x+2*N<900000000000)(m:bN (aV W ns s).2.1<=N)(hw:(cM s ns to W).1.fs.length<=4096):Bd (cM s ns to W).1 (x+2*N+3000) (y+3*N+9000):=by
 unfold cM at hw ⊢;split at hw
 ·rename_i e;rw[if_pos e];exact h.mono (by omega) (by omega)
 ·rename_i e;rw[if_neg e];have h1:=ru (ns:=ns) (W:=W) h (by omega);split at hw
  ·rename_i a;rw[if_pos a];exact h1.mono (by omega) (by omega)
  ·rename_i a;rw[if_neg a];have d:=h1.make (n:=to) (W:=W) (by omega);unfold lL at hw ⊢;split at hw
   ·exact d.mono (by omega) (by omega)
   ·rename_i w e2;have o:=uG (W:=W) (ns:=ns) (s:=s);have f:=uB (rs:=(aV W ns s).2.1) d (by omega);have q:=ko (s:=(bj (aV W ns s).1 to W).1) (ym (W:=W) (ns:=ns) (s:=s));unfold zn at hw ⊢;split at hw
    ·rename_i c;rw[if_pos c];exact f.mono (by omega) (by omega)
    ·rename_i c;rw[if_neg c];exact(uK _ f (by omega) hw).mono (by omega) (by omega)
theorem yr:∀{l:List ByteArray} {s:Pl} {x y:Nat},Bd s x y->Bd (jg l s).1 x y
 |[],s,x,y,h=>h
 |n::l,s,x,y,h=>by
   simp only[jg];split
   ·exact h.cT
   ·exact yr h.cT
theorem se {s:Pl}{n:ByteArray}{W:Int}{L:List (List Int)}{x y:Nat}(h:Bd s x y)(d:x+L.length<900000000000)(hw:(ia s n W L).1.fs.length<=4096):Bd (ia s n W L).1 (x+L.length+10) (y+2*L.length+5000):=by
 have h1:=h.make (n:=n) (W:=W) (by omega);unfold ia at hw ⊢;split at hw
 ·exact h1.mono (by omega) (by omega)
 ·rename_i w e;have c:=xV (L:=L) (w:=w) h1 (by omega);unfold uO at hw ⊢;split at hw
  ·rename_i a;rw[if_pos a];exact c.mono (by omega) (by omega)
  ·rename_i a;rw[if_neg a];exact(c.close (by omega) hw).mono (by omega) (by omega)
open Go.MapKept
section
variable {H:aa}{k p dp:Nat}{t:So}{sw ss:Sl}{rs:List Sl}{F:Nat->Prop}{s:Pl}
theorem au.frames (h:au F H p dp s):s.fs.length<=4096:=Oo h.wf.len h.wf.most.2
theorem xw {n:ByteArray}{W fr:Int}{K:(Option Addr×Int)->aa->Prop}(j:au F H p dp s)
  (a:(iQ s n W fr).1=none->K (none,(iQ s n W fr).2) H) (d:(iQ s n W fr).1=some (GM n W fr)->(iQ s n W fr).2=0->∀H',Ext H H'->qg H' H.size p (GM n W fr) bf [] bf->K (aE H.size,0) H'):Hk.sp (aE p) n W fr H K:=by
 refine Hk.of ?_;unfold Hk.vc;unfold iQ at a d;have made:aH W≠0->¬(fr<3\/fr>s.most)->aI H #[(.pointer (aE p)),(.string n),(.int .i64 W),(.int .i64 fr),(.slice none 0 0),(.slice none 0 0),(.int .i64 (0:Int)),(.int .i64 (0:Int)),(.bool false)] vT λf m=>K (some f,(0:Int)) m:=λh1 e=>by
  rw[if_neg h1,if_neg e] at d;refine ax λH1 v o u=>?_;exact d rfl rfl H1 u (.mk' o (aO.nil _ _) (az.nil _ _ _) λl hl=>(by cases hl))
 refine aC rfl ?_;refine nQ ?_;refine ah (λc=>?_) (λc=>?_)
 ·have h1:aH W=0:=by simpa using c
  rw[if_pos h1] at a;exact a rfl
 have h1:aH W≠0:=by simpa using c
 rw[if_neg h1] at a;refine ah (λc=>?_) (λc=>?_)
 ·have e:fr<3:=by simpa using c
  rw[if_pos (.inl e)] at a;exact aP c (a rfl)
 have e:¬fr<3:=by simpa using c
 refine Dj j ?_;refine ah (λc=>?_) (λc=>?_)
 ·have h:fr>s.most:=by simpa using c
  rw[if_pos (.inr h)] at a;exact a rfl
 have h:¬fr>s.most:=by simpa using c
 exact made h1 λq=>q.elim e h
set_option maxHeartbeats 1000000 in
theorem IL {K:Int->aa->Prop}{l:Sl}{ll:List Int}{x y:Nat}(hg:Gl H)(X:¬cg k sw rs ss bh)(h:qg H k p t sw rs ss)(hp:au F H p dp s)(dis:∀b,F b->¬cg k sw rs ss b)(V:vI t)(bb:t.wait.length<400000)(hW:t.width<=16)(hl:Ints .u64 H l ll)(b:Bd s x y)(f:x<800000000000)(hy:y<50000000000)
  (j:∀F' O P R H',au F' H' p dp (t.add s ll).1->qg H' k p (t.add s ll).2.1 O P R->(∀b,F' b->¬cg k O P R b)->Step (λb=>F b\/cg k sw rs ss b) (λb=>F' b\/cg k O P R b) H H'->K (t.add s ll).2.2 H'):xi.sp (aE k) l H K:=by
 refine xi.of ?_;unfold xi.vc;unfold So.add at j;refine ki h.rd.row ?_;unfold aE;simp only[al];refine ah (λm=>?_) (λm=>?_)
 ·rw[if_pos (by simpa using m)] at j;exact j F sw rs ss H hp h dis (.refl _ _)
 rw[if_neg (by simpa using m)] at j;refine h.rd.row.ld (c:=ab .i64) (i:=2) (x:=t.width) rfl ?_;have Y:=hl.len;refine ah (λm=>?_) (λm=>?_)
 ·have e1:(ll.length:Int)≠t.width:=by rw[<-Y];simpa using m
  rw[if_pos e1] at j;exact j F sw rs ss H hp h dis (.refl _ _)
 have e1:¬(ll.length:Int)≠t.width:=by rw[<-Y];simpa using m
 rw[if_neg e1] at j;have af:ll.length<=16:=by omega
 refine⟨λA=>aj A k vT (im p t sw ss),h.rd.row,?_⟩;refine aj.dw (c:=ak) (i:=4) (x:=sw) (cs:=λ_=>_) (λ_ q=>q) (λ_ _=>rfl) ?_;refine pv hl (by omega) λr A oA eA fA=>?_;have z:=h.mod eA λ_ _=>id;have hk:=aA h.rd.row;refine⟨z.rd.row,?_⟩;have bd:=h.rd.wait.n;show aj (A.push _) k _ _/\_;refine⟨z.rd.row.ext (Mod.push _ _ _),aO.Gd (base:=0) z.rd.wait oA (λx f b a an=>?_) (by omega) (Oz _) λs' B n1 o1 m1 g1=>?_⟩
 ·have:=fA b a;have:=(h.rd.wait.block.2 x f b an).2;omega
 have o:=z.rd.jG;have zA:=eA.size;have G:¬ag s' k:=λq=>by
  rcases g1 k q with r|r
  ·exact o r
  ·omega
 refine aj.st (z.rd.row.mod m1 o) (i:=4) (by simp[im]) rfl λC rC mC zC=>?_;obtain⟨t1,d⟩:∃t1:So,t1={t with wait:=t.wait++[ll]}:=⟨_,rfl⟩;rw[<-d] at j;have I:aj C k vT (im p t1 s' ss):=by rw[d];exact rC
 have iI:∀x∈rs++[r],¬ag x k:=λx f q=>by
  rcases Oe.1 f with u|u
  ·exact z.rd.jv x u q
  ·rw[Ow] at u;subst u;have:=fA k q;omega
 have hC:qg C k p t1 s' (rs++[r]) ss:=by
  refine .mk' I ?_ ?_ ?_
  ·rw[d];exact o1.mod mC (λb a q=>G (q▸a)) λx f b a q=>iI x f (q▸a)
  ·rw[d];exact(z.side.mod m1 λb a q=>z.side.apart z.rd.wait.out (by decide) b a q).mod mC λb a q=>z.nO (q▸a)
  ·rw[d];intro x f;rcases Oe.1 f with u|u
   ·exact h.rd.iD x u
   ·rw[Ow] at u;subst u;exact af
 have z1:=m1.size;have v:Mod (λb=>b=k\/ag sw b) H C:=((Ext.mod eA).trans' m1 λb _ q=>.inr q).trans' mC λb _ q=>.inl q;have e:∀b,cg k s' (rs++[r]) ss b->cg k sw rs ss b\/H.size<=b:=by
  rintro b (q|q|⟨x,f,q⟩|q)
  ·exact .inl (.inl q)
  ·rcases g1 b q with u|u
   ·exact .inl (.inr (.inl u))
   ·exact .inr (by omega)
  ·rcases Oe.1 f with u|u
   ·exact .inl (.inr (.inr (.inl ⟨x,u,q⟩)))
   ·rw[Ow] at u;subst u;exact .inr (fA b q)
  ·exact .inl (.inr (.inr (.inr q)))
 have N:∀b,F b->¬cg k s' (rs++[r]) ss b:=λb a q=>by
  rcases e b q with u|u
  ·exact dis b a u
  ·have:=hp.lt b a;omega
 have pC:au F C p dp s:=hp.keep λb a S=>v.same b S λq=>dis b a (q.imp_right .inl);refine⟨λA=>aj A k vT (im p t1 s' ss),I,?_⟩;refine aj.dw (c:=ak) (i:=4) (x:=s') (cs:=λ_=>_) (λ_ q=>q) (λ_ _=>rfl) ?_;refine aj.dw (c:=ab .i64) (i:=3) (x:=t.frames) (cs:=λ_=>_) (λ_ q=>q) (λ_ _=>by rw[d];rfl) ?_;refine I.ld (c:=ab .i64) (i:=2) (x:=t.width) (by rw[d];rfl) ?_;refine nQ ⟨I,?_⟩;obtain⟨a6,bl⟩:=cZ ⟨t.name,t.width,0,false⟩;simp only at a6;have hf:=V.frames;have p1:t.frames*aH t.width<=1000000*504:=Int.mul_le_mul hf.2 (by omega) (by omega) (by decide);have p0:0<=t.frames*aH t.width:=Int.mul_nonneg hf.1 (by omega);rw[wrap64 (by omega) (by omega)];have zH:=v.size;refine ah (λm=>?_) (λm=>?_)
 ·have e2:((t.wait.length+1:Nat):Int)<t.frames*aH t.width:=by
   have:(s'.n:Int)<t.frames*aH t.width:=by simpa using m
   omega
  rw[if_pos e2] at j;refine j F s' (rs++[r]) ss C pC hC N ⟨v.mono λb _ q=>.inr (q.imp_right .inl),λb a=>?_⟩;rcases a with u|u
  ·exact .inl (.inl u)
  ·exact(e b u).imp .inr id
 ·have e2:¬((t.wait.length+1:Nat):Int)<t.frames*aH t.width:=by
   have:¬(s'.n:Int)<t.frames*aH t.width:=by simpa using m
   omega
  rw[if_neg e2] at j;have a7:vI t1:=by rw[d];exact⟨V.name,by simp;omega,V.side,V.sizes,V.next,V.frames⟩
  have gC:Gl C:=hg.mod v λq=>X (q.imp_right .inl);refine w6 gC (λq=>(e _ q).elim X λu=>by have:=hg.lt;omega) hC pC N a7 b f hy λF2 J D pD hD dD SD=>?_;have a8:∀b,cg k bf [] J b->¬b=k->ag J b:=by
   rintro b (q|q|⟨x,f,_⟩|q) hn
   ·exact absurd q hn
   ·exact absurd q (aS b)
   ·cases f
   ·exact q
  refine aj.st hD.rd.row (i:=7) (by simp[im]) rfl λE rE mE zE=>?_;have Z:aj E k vT (im p {t1.iK with wrong:=(t1.aside s).2.2} bf J):=rE;refine Z.ld (c:=ab .i64) (i:=7) (x:=(t1.aside s).2.2) rfl ?_;have T:=hD.nO;refine j F2 bf [] J E (pD.keep λb a S=>mE.same b S λq=>dD b a (.inl q)) (.mk' Z (aO.nil _ _) (hD.side.mod mE λb a q=>T (q▸a)) λl hl=>(by cases hl)) dD ⟨?_,λb a=>?_⟩
  ·have a1:Mod (λb=>F b\/cg k sw rs ss b) H D:=(v.mono λb _ q=>.inr (q.imp_right .inl)).trans' SD.mod λb a q=>q.imp_right λu=>(e b u).resolve_right (by omega);exact a1.trans' mE λb _ q=>.inr (.inl q)
  ·rcases SD.own b a with (u|u)|u
   ·exact .inl (.inl u)
   ·exact(e b u).imp .inr id
   ·exact .inr (by omega)
end
def uP (a b:List Int):Prop:=aT a b<0
theorem wo (a:List Int):¬uP a a:=by unfold uP;rw[iu];omega
theorem mF {a b c:List Int}(h:uP a b)(k:uP b c):uP a c:=eW h k
theorem HP (a b:List Int):uP a b\/a=b\/uP b a:=by
 rcases zW a b with q|q|q
 ·exact .inl (by unfold uP;omega)
 ·exact .inr (.inl (b8.1 q))
 ·exact .inr (.inr (I4.1 (by omega)))
def yi (L:List (List Int)):Prop:=L.Pairwise uP
theorem Ff {L:List (List Int)}(h:yi L)(k:Nat):yi (L.take k):=h.sublist (List.take_sublist k L)
theorem FE {L:List (List Int)}(h:yi L)(k:Nat):yi (L.drop k):=h.sublist (List.drop_sublist k L)
theorem vL:∀{A B:List (List Int)},yi A->yi B->(∀y,y∈A↔y∈B)->A=B:=λ{A B} c d h=>by
 have f:∀{L:List (List Int)},yi L->L.Nodup:=λ{L} h=>Zg (λ{a b} h e=>by subst e;exact wo _ h) h;exact((List.perm_ext_iff_of_nodup (f c) (f d)).2 h).eq_of_pairwise (le:=uP) (λa b _ _ h1 j=>absurd (mF h1 j) (wo a)) c d
structure eR (X:Nat->Prop)(A:aa)(s:Sl)(ls:List (List Int)):Prop where
 ex:∃rs:List Sl,aM A 0 ez 1 s (rs.map Sl.v)/\rs.length=ls.length/\∀(j:Nat) (r:Sl) (l:List Int),rs[j]?=some r->ls[j]?=some l->Ints .u64 A r l/\∀ad,r.a=some ad->ad.block<A.size/\¬X ad.block/\¬ag s ad.block
 off:∀b,ag s b->¬X b
section
variable {X X':Nat->Prop}{A B:aa}{s s':Sl}{ls:List (List Int)}{l:List Int}{r:Sl}
theorem eR.nil (X:Nat->Prop)(A:aa):eR X A (Sl.mk none 0 0) []:=⟨⟨[],aM.nil _ _ _ _,rfl,λj r l a=>by simp at a⟩,λb u=>by obtain⟨ad,h,_⟩:=u;cases h⟩
theorem eR.n (h:eR X A s ls):s.n=ls.length:=by
 obtain⟨rs,o,hl,_⟩:=h.ex;have:=o.1;rw[OT] at this;omega
theorem eR.step (h:eR X A s ls)(S:Step X X' A B):eR X' B s ls:=by
 obtain⟨rs,o,hl,f⟩:=h.ex;refine⟨⟨rs,o.mod S.mod h.off,hl,λj r l m a=>?_⟩,λb d u=>?_⟩
 ·obtain⟨q,e⟩:=f j r l m a;refine⟨q.mod S.mod λad c=>(e ad c).2.1,λad c=>?_⟩;obtain⟨z,C,D⟩:=e ad c;exact⟨Nat.lt_of_lt_of_le z S.mod.size,λv=>(S.own _ v).elim C λw=>by omega,D⟩
 ·exact(S.own b u).elim (h.off b d) λw=>by have:=(o.block b d).2;omega
theorem eR.lt (h:eR X A s ls):∀b,ag s b->b<A.size:=λb a=>by
 obtain⟨rs,o,_,_⟩:=h.ex;exact(o.block b a).2
theorem eR.rows (h:eR X A s ls):Rows A s ls:=by
 obtain⟨rs,o,hl,c⟩:=h.ex;refine⟨h.n,λi hi=>?_⟩;have a:i<rs.length:=by omega
 obtain⟨ad,d,e⟩:=o.reads.at (i:=i) (by rw[OT];exact a);exact⟨ad,rs[i],d,by simpa using e,(c i rs[i] ls[i] (N8 a) (N8 hi)).1⟩
end
structure Below (ls:List (List Int))(x:List Int)(k:Nat):Prop where
 le:k<=ls.length
 lo:∀j (h:j<ls.length),j<k->uP ls[j] x
 hi:∀j (h:j<ls.length),k<=j->¬uP ls[j] x
theorem zP {ls:List (List Int)}(h:yi ls){i j:Nat}(hi:i<ls.length)(c:j<ls.length)(a:i<j):uP ls[i] ls[j]:=List.pairwise_iff_getElem.1 h i j hi c a
theorem Below.mem {ls:List (List Int)}{x:List Int}{k:Nat}(h:Below ls x k)(d:yi ls):x∈ls↔∃hk:k<ls.length,ls[k]=x:=by
 constructor
 ·intro f;obtain⟨j,a,e⟩:=TH.1 f;rcases Sa j k with q|q|q
  ·have:=h.lo j a q;rw[e] at this;exact absurd this (wo _)
  ·subst q;exact⟨a,e⟩
  ·have h1:=h.hi k (by omega) (Ob _);have c:=zP d (by omega) a q;rw[e] at c;exact absurd c h1
 ·rintro⟨hk,rfl⟩;exact OP hk
theorem Below.ins {ls:List (List Int)}{x:List Int}{k:Nat}(h:Below ls x k)(f:yi ls)(m:x∉ls):yi (ls.take k++x::ls.drop k)/\∀y,y∈ls.take k++x::ls.drop k↔y=x\/y∈ls:=by
 have lo:∀y∈ls.take k,uP y x:=λy c=>by
  obtain⟨j,d,rfl⟩:=TH.1 c;rw[OW] at d;rw[List.getElem_take];exact h.lo j (by omega) (by omega)
 have hi:∀y∈ls.drop k,uP x y:=λy c=>by
  obtain⟨j,d,rfl⟩:=TH.1 c;rw[List.length_drop] at d;rw[List.getElem_drop];rcases HP x ls[k+j] with q|q|q
  ·exact q
  ·exact absurd (q▸OP _) m
  ·exact absurd q (h.hi (k+j) (by omega) (by omega))
 refine⟨List.pairwise_append.2 ⟨Ff f k,List.pairwise_cons.2 ⟨hi,FE f k⟩,λa h1 b o=>?_⟩,λy=>?_⟩
 ·rcases Oq.1 o with e|e
  ·rw[e];exact lo a h1
  ·exact mF (lo a h1) (hi b e)
 ·rw[Oe,Oq];constructor
  ·rintro(u|u|u)
   ·exact .inr (Pm u)
   ·exact .inl u
   ·exact .inr (List.mem_of_mem_drop u)
  ·rintro(u|u)
   ·exact .inr (.inl u)
   ·rw[<-List.take_append_drop k ls] at u;rcases Oe.1 u with v|v
    ·exact .inl v
    ·exact .inr (.inr v)
section
variable {X:Nat->Prop}{A:aa}{l s x:Sl}{ls:List (List Int)}{lx:List Int}
theorem FM {K:Int->aa->Prop}(h:Rows A l ls)(I:Ints .u64 A x lx)(E:yi ls)(P:ls.length<=1000)(hl:∀y∈ls,y.length<=1000)(J:∀k:Nat,Below ls lx k->K (k:Int) A):Ju.sp l x A K:=by
 refine Ju.of ?_;unfold Ju.vc;have v:=h.len;refine ar ls.length (λi z B=>A=B/\∃a b:Nat,z=((a:Int),(b:Int))/\a<=b/\b<=ls.length/\b - a+i<=ls.length/\(∀j (h:j<ls.length),j<a->uP ls[j] lx)/\∀j (h:j<ls.length),b<=j->¬uP ls[j] lx) ⟨rfl,0,ls.length,by rw[v];rfl,Oz _,Ob _,by omega,λj _ h=>by omega,λj h1 R=>by omega⟩ ?_;rintro i _ B next hi ⟨rfl,a,b,rfl,N,G,S,lo,m⟩ c
 refine ah (λq=>?_) (λq=>?_)
 ·have q:(a:Int)<(b:Int):=of_decide_eq_true q;have hm:N6.wrap (Int.tdiv (N6.wrap ((a:Int)+(b:Int))) 2)=(((a+b)/2:Nat):Int):=by
   rw[wrap64 (x:=(a:Int)+b) (by omega) (by omega),Int.tdiv_eq_ediv_of_nonneg (by omega),wrap64 (by omega) (by omega)];omega
  simp only;rw[hm];obtain⟨mid,o⟩:∃mid,mid=(a+b)/2:=⟨_,rfl⟩;rw[<-o];have d:mid<ls.length:=by omega
  refine h.ld d λad r _ O=>?_;refine jL O I (by have:=hl _ (OP d);omega) ?_;refine ah (λf=>?_) (λf=>?_)
  ·have f:uP ls[mid] lx:=(of_decide_eq_true f:aT ls[mid] lx<0);refine c (by omega) _ _ ⟨rfl,mid+1,b,by rw[aD mid (by omega)],by omega,G,by omega,λj C D=>?_,m⟩;rcases OV j mid with w|w
   ·exact mF (zP E C d w) f
   ·have:j=mid:=by omega
    subst this;exact f
  ·have f:¬uP ls[mid] lx:=(of_decide_eq_false f:¬aT ls[mid] lx<0);refine c (by omega) _ _ ⟨rfl,a,mid,rfl,by omega,by omega,by omega,lo,λj C D u=>?_⟩;rcases OV mid j with w|w
   ·exact f (mF (zP E d C w) u)
   ·have:j=mid:=by omega
    subst this;exact f u
 ·have q:¬(a:Int)<(b:Int):=of_decide_eq_false q;have e:a=b:=by omega
  subst e;exact J a ⟨G,lo,m⟩
theorem DL {α:Type}{rs:List α}{j:Nat}{y z:α}(a:j<rs.length)(c:rs[j]=z):(rs.take (j+1)++y::rs.drop (j+1)).set (j+1) z=rs.take j++z::rs.drop j:=by
 have hl:(rs.take (j+1)).length=j+1:=by rw[OW];omega
 rw[Ts _ _ (by omega),hl,TS,Qx,List.take_add_one,N8 a,c,OY a,c];simp
theorem ES {α:Type}{rs:List α}{j:Nat}{y z:α}(a:j<=rs.length):(rs.take j++y::rs.drop j).set j z=rs.take j++z::rs.drop j:=by
 have hl:(rs.take j).length=j:=by rw[OW];omega
 rw[Ts _ _ (by omega),hl,TS,Qx]
theorem q8 {α:Type}{rs:List α}{k j:Nat}{z r:α}(hk:k<=rs.length)(h:(rs.take k++z::rs.drop k)[j]?=some r):j<k/\rs[j]?=some r\/j=k/\r=z\/k<j/\rs[j - 1]?=some r:=by
 have hl:(rs.take k).length=k:=by rw[OW];omega
 rcases Sa j k with q|q|q
 ·rw[OB (by omega),O2,if_pos q] at h;exact .inl ⟨q,h⟩
 ·subst q;rw[O9 (by omega),hl,TS] at h;exact .inr (.inl ⟨rfl,(OE h).symm⟩)
 ·rw[O9 (by omega),hl] at h;obtain⟨i,hi⟩:∃i,j - k=i+1:=⟨j - k - 1,by omega⟩;rw[hi,List.getElem?_cons_succ,PE] at h;exact .inr (.inr ⟨q,by rw[show j - 1=k+i by omega];exact h⟩)
set_option maxHeartbeats 1000000 in
theorem Gb {k:Nat}{K:Sl->aa->Prop}(h:eR X A s ls)(E:Ints .u64 A x lx)(a8:lx.length<=1000)(hn:ls.length<=1000)(hk:k<=ls.length)(hX:∀b,X b->b<A.size)
  (hK:∀s' B,eR X B s' (ls.take k++lx::ls.drop k)->Mod (ag s) A B->(∀b,ag s' b->ag s b\/A.size<=b)->K s' B):
  ba ak N5 (Oa #[ez,ez] ez #[(.slice none 0 0),x.v]) A λ(own:Sl) Y=>aI Y #[own.v] ez λp H4=>ba ak N5 (Oa #[gh,gh] gh #[s.v,(.slice (some p) 1 1)]) H4 λ(c:Sl) H5=>aw Int (N6.wrap ((c.n:Int) - (1:Int))) H5 λnext i H6=>br (decide (i>(k:Int))) (ae c.a λaf=>(0<=(N6.wrap (i - (1:Int)))/\(N6.wrap (i - (1:Int)))<(c.n:Int))/\ld ak H6 (af.add ((N6.wrap (i - (1:Int))).toNat*1)) λ(an:Sl)=>ae c.a λa1=>(0<=i/\i<(c.n:Int))/\st H6 (a1.add (i.toNat*1)) an.v λH7=>next (N6.wrap (i - (1:Int))) H7) (ae c.a λa6=>(0<=(k:Int)/\(k:Int)<(c.n:Int))/\st H6 (a6.add ((k:Int).toNat*1)) own.v λH8=>K c H8):=by
 obtain⟨rs,o,hlen,hr⟩:=h.ex;have bb:=h.n;have ln:=E.len;refine oc.append (base:=A.size) (s:=Sl.mk none 0 0) (x:=x) (xs:=[]) (ws:=lx.map (On .u64)) (aM.nil _ _ _ _) (by simp;omega) E.reads (nc _ _) (by simp only;omega) (by simp only;omega) (Ob _) λown Y n3 Z m3 b3 _=>?_;have e3:Ext A Y:=m3.ext (by rintro b ⟨ad,h,_⟩;cases h);have z3:=e3.size;have Z:aM Y A.size gS 1 own (lx.map (On .u64)):=Z;have d:=Z.block;refine yF.push (base:=0) (o.ext e3) rfl (by omega) (by omega) (Oz _) λs' B n1 o1 m1 J _=>?_;have z1:=m1.size;have N:∀b,ag s b->b<A.size:=h.lt;have O:s'.n=ls.length+1:=by omega
 have P:rs.length=ls.length:=hlen;rw[show N6.wrap ((s'.n:Int) - 1)=(ls.length:Int) by rw[O,wrap64 (by omega) (by omega)];omega];refine ar (ls.length - k) (λi z C=>z=((ls.length - i:Nat):Int)/\(∃y:Sl,aM C 0 ez 1 s' ((rs.take (ls.length - i)++y::rs.drop (ls.length - i)).map Sl.v))/\Mod (ag s') B C/\C.size=B.size) ⟨by simp,⟨own,?_⟩,.refl _ _,rfl⟩ ?_
 ·rw[Nat.sub_zero,<-P,Rw,Rx,OO];exact o1
 rintro i _ C next hi ⟨rfl,⟨y,oC⟩,mC,zC⟩ G
 obtain⟨j,hj⟩:∃j,j=ls.length - i:=⟨_,rfl⟩;rw[<-hj] at oC ⊢;refine ah (λq=>?_) (λq=>?_)
 ·have q:(j:Int)>(k:Int):=of_decide_eq_true q;obtain⟨t,rfl⟩:∃t,j=t+1:=⟨j - 1,by omega⟩;have R:t<rs.length:=by omega
  have ew:N6.wrap (((t+1:Nat):Int) - 1)=(t:Int):=by rw[wrap64 (by omega) (by omega)];omega
  rw[ew];obtain⟨ad,f,hc⟩:=oC.reads t (Sl.v rs[t]) (by rw[Oi,OB (by rw[OW];omega),O2,if_pos (by omega),N8 R];rfl);refine aX ad f ⟨⟨by omega,by omega⟩,rs[t],by rw[Od,O7];exact hc,?_⟩;refine oC.st (i:=((t+1:Nat):Int)) (by omega) (by omega) (by cases rs[t];rfl) λD oD mD zD=>?_;refine G (by omega) _ _ ⟨by omega,⟨rs[t],?_⟩,mC.trans mD,zD.trans zC⟩;rw[show ls.length - (i+1)=t by omega];have:=DL (y:=y) R rfl;rw[<-this,Pv];exact oD
 ·have q:¬(j:Int)>(k:Int):=of_decide_eq_false q;have e:j=k:=by omega
  subst e;refine oC.st (i:=(j:Int)) (by omega) (by omega) (by cases own;rfl) λD oD mD zD=>?_;rw[Od,<-Pv,ES (by omega)] at oD;have S:Mod (ag s) A D:=⟨by omega,λb m u=>by
   rw[mD.same b (by omega) λv=>(J b v).elim u λw=>by omega,mC.same b (by omega) λv=>(J b v).elim u λw=>by omega,m1.same b (by omega) u,e3.same b m id]⟩
  have old:∀{a:Sl} {y:List Int},Ints .u64 A a y->(∀ad,a.a=some ad->ad.block<A.size/\¬X ad.block/\¬ag s ad.block)->Ints .u64 D a y/\∀ad,a.a=some ad->ad.block<D.size/\¬X ad.block/\¬ag s' ad.block:=λhi E=>
   ⟨hi.mod S λad f=>(E ad f).2.2,λad f=>⟨by have:=(E ad f).1;omega,(E ad f).2.1,λv=>(J _ v).elim (E ad f).2.2 λw=>by have:=(E ad f).1;omega⟩⟩
  have T:Ints .u64 D own lx/\∀ad,own.a=some ad->ad.block<D.size/\¬X ad.block/\¬ag s' ad.block:=by
   have f1:∀b,ag own b->¬ag s' b:=λb m v=>by
    have:=d b m;rcases J b v with w|w
    ·have:=N b w;omega
    ·omega
   have f2:∀b,ag own b->¬ag s b:=λb m v=>by have:=d b m;have:=N b v;omega
   refine⟨(((Z.mod m1 f2).mod mC f1).mod mD f1).ints,λad f=>?_⟩;have:=d _ ⟨ad,f,rfl⟩;exact⟨by omega,λu=>by have:=hX _ u;omega,f1 _ ⟨ad,f,rfl⟩⟩
  refine hK s' D ⟨⟨rs.take j++own::rs.drop j,oD,by simp[P],λi2 r l a7 I=>?_⟩,λb m u=>?_⟩ S λb m=>(J b m).imp id λw=>by omega
  ·rcases q8 (by omega) a7 with ⟨q1,q2⟩|⟨rfl,rfl⟩|⟨q1,q2⟩
   ·rcases q8 hk I with ⟨_,q4⟩|⟨V,_⟩|⟨V,_⟩
    ·obtain⟨g1,g2⟩:=hr _ _ _ q2 q4;exact old g1 g2
    ·omega
    ·omega
   ·rcases q8 hk I with ⟨V,_⟩|⟨_,rfl⟩|⟨V,_⟩
    ·omega
    ·exact T
    ·omega
   ·rcases q8 hk I with ⟨V,_⟩|⟨V,_⟩|⟨_,q4⟩
    ·omega
    ·omega
    ·obtain⟨g1,g2⟩:=hr _ _ _ q2 q4;exact old g1 g2
  ·rcases J b m with v|v
   ·exact h.off b v u
   ·have:=hX b u;omega
theorem y8 {K:Sl->aa->Prop}(h:eR X A s ls)(v:Ints .u64 A x lx)(j:yi ls)(z:lx.length<=1000)(N:ls.length<=1000)(hl:∀y∈ls,y.length<=1000)(P:∀b,X b->b<A.size)
  (O:∀s' c B,eR X B s' c->yi c->(∀y,y∈c↔y=lx\/y∈ls)->Mod (ag s) A B->(∀b,ag s' b->ag s b\/A.size<=b)->K s' B):J2.sp s x A K:=by
 refine J2.of ?_;unfold J2.vc;have R:=h.n;refine FM h.rows v j N hl λk o=>?_;have tail:lx∉ls->∀{Q:Prop},(ba ak N5 (Oa #[ez,ez] ez #[(.slice none 0 0),x.v]) A (λ(own:Sl) S=>aI S #[own.v] ez λp T=>ba ak N5 (Oa #[gh,gh] gh #[s.v,(.slice (some p) 1 1)]) T λ(a:Sl) V=>aw Int (N6.wrap ((a.n:Int) - (1:Int))) V λnext i C=>br (decide (i>(k:Int))) (ae a.a λD=>(0<=(N6.wrap (i - (1:Int)))/\(N6.wrap (i - (1:Int)))<(a.n:Int))/\ld ak C (D.add ((N6.wrap (i - (1:Int))).toNat*1)) λ(E:Sl)=>ae a.a λG=>(0<=i/\i<(a.n:Int))/\st C (G.add (i.toNat*1)) E.v λY=>next (N6.wrap (i - (1:Int))) Y) (ae a.a λI=>(0<=(k:Int)/\(k:Int)<(a.n:Int))/\st C (I.add ((k:Int).toNat*1)) own.v λZ=>K a Z))->Q)->Q:=λJ Q go=>by
  obtain⟨g1,g2⟩:=o.ins j J;exact go (Gb h v z N o.le P λs' B r m b=>O s' _ B r g1 g2 m b)
 refine ah (λq=>?_) (λq=>?_)
 ·have q:(k:Int)<(s.n:Int):=of_decide_eq_true q;have d:k<ls.length:=by omega
  refine h.rows.ld d λad r _ ri=>?_;refine jL ri v (by have:=hl _ (OP d);omega) ?_;refine ah (λf=>?_) (λf=>?_)
  ·have f:aT ls[k] lx=0:=by simpa using f
   have hm:=(o.mem j).2 ⟨d,b8.1 f⟩;exact O s ls A h j (λy=>⟨.inr,λu=>u.elim (λe=>e▸hm) id⟩) (.refl _ _) λb hb=>.inl hb
  ·have f:¬aT ls[k] lx=0:=by simpa using f
   exact tail (λu=>f (b8.2 ((o.mem j).1 u).2)) id
 ·have q:¬(k:Int)<(s.n:Int):=of_decide_eq_false q;exact tail (λu=>by have:=((o.mem j).1 u).1;omega) id
end
section
variable {A:aa}{rows:Sl}{rl:List (List Int)}{X:Nat->Prop}
theorem tk (l:List (List Int)):yi (eP (jN l)):=Gt (BI l)
theorem mN {y:List Int}{l:List (List Int)}:y∈eP (jN l)↔y∈l:=Co.trans (pr _).mem_iff
theorem Ai {K:Sl->aa->Prop}(h:Rows A rows rl)(hn:rl.length<=900)(hl:∀y∈rl,y.length<=1000)(P:∀b,X b->b<A.size)
  (N:∀out B,eR X B out (eP (jN rl))->Ext A B->(∀b,ag out b->A.size<=b)->K out B):Jg.sp rows A K:=by
 refine Jg.of ?_;unfold Jg.vc;have R:=h.len;refine ar rl.length (λi z B=>z.2=(i:Int)/\i<=rl.length/\Ext A B/\(∀b,ag z.1 b->A.size<=b)/\∃ls,eR X B z.1 ls/\yi ls/\∀y,y∈ls↔y∈rl.take i) ⟨rfl,Oz _,.refl _ _,λb u=>(by obtain⟨ad,e,_⟩:=u;cases e),[],eR.nil _ _,Sd,λy=>by simp⟩ ?_;rintro i ⟨out,zi⟩ B next hi ⟨d,S,f,m,ls,o,v,hm⟩ c
 simp only at d m o ⊢;subst d;have hlen:ls.length<=i:=by
  have e:ls=eP (jN (rl.take i)):=vL v (tk _) λy=>by rw[hm,mN]
  have:=jJ (rl.take i);rw[<-e,OW] at this;omega
 refine ah (λq=>?_) λq=>?_
 ·have q:(i:Int)<(rows.n:Int):=of_decide_eq_true q;have a:i<rl.length:=by omega
  obtain⟨ad,r,T,V,Y⟩:=h.at' i a;refine aX ad T ⟨⟨by omega,by omega⟩,r,by rw[Od,O7];exact(Ext.mod f (F:=λ_=>False)).cell V id,?_⟩;have zB:=f.size;refine y8 o (Y.ext f) v (hl _ (OP a)) (by omega) (λy Z=>hl y (Pm ((hm y).1 Z))) (λb j=>by have:=P b j;omega) λs' D C E G I O oC=>?_;have zC:=O.size;refine c a _ _ ⟨aD i (by omega),by omega,⟨by omega,λb j _=>(O.same b (by omega) λu=>by have:=m b u;omega).trans (f.same b j id)⟩,λb j=>(oC b j).elim (m b) λu=>by omega,D,E,G,λy=>?_⟩;rw[I,hm,Oc a,Oe,Ow];exact or_comm
 ·have q:¬(i:Int)<(rows.n:Int):=of_decide_eq_false q;have J:i=rl.length:=by omega
  subst J;rw[Rw] at hm;have e:ls=eP (jN rl):=vL v (tk rl) λy=>by rw[hm,mN]
  rw[<-e] at N;exact N out B o f m
end
end Go.Proofs.YtmkbhnholcaghaaGreatDoor
