/-
 AggTogether: for every input the law returns true, and its arguments read as before, whatever the table of the page's sum holds. No condition.
-/
import Derived.Test.YtacfhncgbgijhaaGreatPkt
import Derived.Test.YtacfhncgbgijhaaGreatFxt
import Derived.Test.YtacfhncgbgijhaaGreatJ43
/-
 Groups: what the counts, the sums, the least and the greatest of rows of three words are.
-/
namespace Go.Proofs.YtacfhncgbgijhaaGreat
theorem nO [Tab] {κ:List Int} (h:κ.length=1) (v:Int):(κ++[v]).getD 0 0=κ.getD 0 0∧(κ++[v]).getD 1 0=v∧(κ++[v]).length=2:=by
 match κ,h with
 |[a],_=>exact⟨rfl,rfl,rfl⟩
theorem Kw [Tab] {κ:List Int} (h:κ.length=2) (v:Int):(κ++[v]).getD 0 0=κ.getD 0 0∧(κ++[v]).getD 2 0=v∧(κ++[v]).length=3:=by
 match κ,h with
 |[a,b],_=>exact⟨rfl,rfl,rfl⟩
theorem nw [Tab] {r:List Int} (h:1≤r.length):r.take 1=[r.getD 0 0]:=by
 match r,h with
 |a::r,_=>rfl
theorem Jk [Tab] {κ:List Int} (h:κ.length=1):κ=[κ.getD 0 0]:=by
 match κ,h with
 |[a],_=>rfl
theorem Er [Tab] (r:List Int):aW 2 r=yv (r.getD 2 0):=by unfold aW;rw[if_pos (by decide)];rfl
section
variable {D:List (List Int)}
def Ad (D:List (List Int)):List (List Int):=(KL 1 D).map fun κ=>κ++[ja ((GL 1 D κ).length:Int)]
def GY (D:List (List Int)):List (List Int):=(KL 1 D).map fun κ=>κ++[ja (kH (aW 2) (GL 1 D κ))]
def I9 (D:List (List Int)):List (List Int):=(KL 1 D).map fun κ=>κ++[ja (comes gM (aW 2) (GL 1 D κ)).2]
def IS (D:List (List Int)):List (List Int):=(KL 1 D).map fun κ=>κ++[ja (comes gU (aW 2) (GL 1 D κ)).2]
def Dp (D:List (List Int)):List (List Int):=(KL 2 D).map fun x=>x++[ja (kH (aW 2) (GL 2 D x))]
theorem Gh [Tab] (hD:D.Pairwise (fun x y=>aF x y<0)) (h3:∀r∈D,r.length=3):jM (fU 9) (aW (-1)) (List.take 1) D=Ad D:=by
 rw[show fU 9=Ck from rfl,jn (map_le hD h3)]
 unfold Ad KL
 refine List.map_congr_left fun κ _=>?_
 rw[BB];rfl
theorem AZ [Tab] (n:Nat) (hD:D.Pairwise (fun x y=>aF x y<0)) (h3:∀r∈D,r.length=3):jM (fU 10) (aW 2) (List.take n) D=(KL n D).map fun κ=>κ++[ja (kH (aW 2) (GL n D κ))]:=by
 rw[show fU 10=CI from rfl,jn (map_le hD h3)]
 unfold KL
 refine List.map_congr_left fun κ _=>?_
 rw[B8];rfl
theorem GX [Tab] (hD:D.Pairwise (fun x y=>aF x y<0)) (h3:∀r∈D,r.length=3):jM (fU 11) (aW 2) (List.take 1) D=I9 D:=by
 rw[show fU 11=gM from rfl,jn (map_le hD h3)];rfl
theorem FX [Tab] (hD:D.Pairwise (fun x y=>aF x y<0)) (h3:∀r∈D,r.length=3):jM (fU 12) (aW 2) (List.take 1) D=IS D:=by
 rw[show fU 12=gU from rfl,jn (map_le hD h3)];rfl
theorem xe [Tab] (hD:D.Pairwise (fun x y=>aF x y<0)) (h3:∀r∈D,r.length=3):(KL 1 D).flatMap (BL D)=KL 2 D:=by
 have u2:=rV (n:=2) hD h3
 have h:=blocks (key:=List.take 1) (L:=KL 2 D) (map_le u2 (tg h3 (by omega)))
 rw[Lb hD h3] at h
 exact h
def sm (D:List (List Int)) (i:Nat):Nat:=(((KL 1 D).take i).flatMap (BL D)).length
theorem Dy {i:Nat} (hi:i<(KL 1 D).length):sm D (i+1)=sm D i+(BL D (KL 1 D)[i]).length:=by
 unfold sm
 rw[List.take_succ_eq_append_getElem hi,List.flatMap_append,List.length_append]
 simp
theorem Hy [Tab] (hD:D.Pairwise (fun x y=>aF x y<0)) (h3:∀r∈D,r.length=3):sm D (KL 1 D).length=(KL 2 D).length:=by
 unfold sm
 rw[List.take_length,xe hD h3]
theorem vz [Tab] (hD:D.Pairwise (fun x y=>aF x y<0)) (h3:∀r∈D,r.length=3) {i:Nat} (hi:i<(KL 1 D).length):KL 2 D=((KL 1 D).take i).flatMap (BL D)++(BL D (KL 1 D)[i]++((KL 1 D).drop (i+1)).flatMap (BL D)):=by
 conv=>lhs;rw[←xe hD h3,←List.take_append_drop i (KL 1 D),List.drop_eq_getElem_cons hi]
 rw[List.flatMap_append,List.flatMap_cons]
theorem KB [Tab] (hD:D.Pairwise (fun x y=>aF x y<0)) (h3:∀r∈D,r.length=3) {i m:Nat} (hi:i<(KL 1 D).length) (hm:m<(BL D (KL 1 D)[i]).length):(KL 2 D)[sm D i+m]?=(BL D (KL 1 D)[i])[m]?:=by
 conv=>lhs;rw[vz hD h3 hi]
 unfold sm
 rw[List.getElem?_append_right (by omega),Nat.add_sub_cancel_left,List.getElem?_append_left hm]
theorem J7 [Tab] (hD:D.Pairwise (fun x y=>aF x y<0)) (h3:∀r∈D,r.length=3) {i:Nat} (hi:i<(KL 1 D).length) {x:List Int} (hx:(KL 2 D)[sm D i+(BL D (KL 1 D)[i]).length]?=some x):x.take 1≠(KL 1 D)[i]:=by
 rw[vz hD h3 hi] at hx
 unfold sm at hx
 rw[List.getElem?_append_right (by omega),Nat.add_sub_cancel_left,List.getElem?_append_right (Nat.le_refl _),Nat.sub_self] at hx
 have hm:=List.mem_of_getElem? hx
 obtain⟨κ,hκ,hb⟩:=List.mem_flatMap.1 hm
 rw[(tf.1 hb).2]
 have up:=rV (n:=1) hD h3
 rw[←List.take_append_drop i (KL 1 D),List.drop_eq_getElem_cons hi] at up
 have:=(List.pairwise_cons.1 (List.pairwise_append.1 up).2.1).1 κ hκ
 intro q
 rw[q,cE] at this
 omega
theorem KC [Tab] (hD:D.Pairwise (fun x y=>aF x y<0)) (h3:∀r∈D,r.length=3) {κ:List Int}:∀x∈BL D κ,x.length=2∧x.take 1=κ:=fun x hx=>⟨tg h3 (by omega) x (tf.1 hx).1,(tf.1 hx).2⟩
theorem Am (a b:Int):ja (ja a+ja b)=ja (a+b):=by
 simp only[j4];omega
theorem DV (l:List Int) (x:Int):(l++[x]).sum=l.sum+x:=by rw[List.sum_append];simp
theorem xF (r:List Int) (c:Int):yv (ja (aW c r))=aW c r:=by
 unfold aW
 exact GF (Cc _)
theorem CG [Tab] {κ:List Int} (h:κ∈KL 1 D):(∀r∈GL 1 D κ,(comes gM (aW 2) (GL 1 D κ)).2≤aW 2 r)∧(∃r∈GL 1 D κ,aW 2 r=(comes gM (aW 2) (GL 1 D κ)).2)∧yv (ja (comes gM (aW 2) (GL 1 D κ)).2)=(comes gM (aW 2) (GL 1 D κ)).2:=by
 obtain⟨h1,r,hr,h2⟩:=(Cg (w:=aW 2) (GL 1 D κ)).2 (HJ h)
 exact⟨h1,⟨r,hr,h2.symm⟩,by rw[h2,xF]⟩
theorem BN [Tab] {κ:List Int} (h:κ∈KL 1 D):(∀r∈GL 1 D κ,aW 2 r≤(comes gU (aW 2) (GL 1 D κ)).2)∧(∃r∈GL 1 D κ,aW 2 r=(comes gU (aW 2) (GL 1 D κ)).2)∧yv (ja (comes gU (aW 2) (GL 1 D κ)).2)=(comes gU (aW 2) (GL 1 D κ)).2:=by
 obtain⟨h1,r,hr,h2⟩:=(Bj (w:=aW 2) (GL 1 D κ)).2 (HJ h)
 exact⟨h1,⟨r,hr,h2.symm⟩,by rw[h2,xF]⟩
def yH (D:List (List Int)) (i:Nat):Int:=ja ((((KL 1 D).take i).map fun κ=>(GL 1 D κ).length).sum:Nat)
theorem BQ {i:Nat} (hi:i<(KL 1 D).length):ja (yH D i+ja ((GL 1 D (KL 1 D)[i]).length:Int))=yH D (i+1):=by
 unfold yH
 rw[Am,List.take_succ_eq_append_getElem hi,List.map_append,List.sum_append]
 simp
theorem DO [Tab] (hD:D.Pairwise (fun x y=>aF x y<0)) (h3:∀r∈D,r.length=3):yH D (KL 1 D).length=ja (D.length:Int):=by
 unfold yH
 rw[List.take_length,BH hD h3]
end
open Go.MapKept
theorem E3 {i n:Int} {H:aa} {K:Int→aa→Prop} (h2:n≤9223372036854775807)
  (hK:K (if n<1 then 0 else i.emod n) H):HN.sp i n H K:=by
 refine HN.of ?_
 unfold HN.vc
 refine aj (fun h=>?_) (fun h=>?_)
 ·have:n<1:=by simpa using h
  simpa[this] using hK
 ·have hn:1≤n:=by simpa using h
  refine⟨by omega,?_⟩
  rw[if_neg (by omega)] at hK
  refine aj (fun h=>?_) (fun h=>?_)
  ·have hneg:i.tmod n<0:=by simpa using h
   have e:i.emod n=i.tmod n+n:=by
    rw[Int.tmod_eq_emod] at hneg ⊢
    split at hneg
    ·have:=Int.emod_nonneg i (show n≠0 by omega)
     omega
    ·rename_i h3
     rw[if_neg h3]
     have:(n.natAbs:Int)=n:=by omega
     have e2:i%n=i.emod n:=rfl
     omega
   have hb1:-n<i.tmod n:=by
    rw[Int.tmod_eq_emod]
    have:=Int.emod_nonneg i (show n≠0 by omega)
    split<;>omega
   rw[wrap64 (by omega) (by omega),←e]
   exact hK
  ·have hpos:0≤i.tmod n:=by simpa using h
   have e:i.emod n=i.tmod n:=by
    rw[Int.tmod_eq_emod] at hpos ⊢
    split
    ·simp;rfl
    ·rename_i h3
     rw[if_neg h3] at hpos
     have:=Int.emod_lt_of_pos i (show 0<n by omega)
     have:(n.natAbs:Int)=n:=by omega
     omega
   rw[←e];exact hK
section
variable {H:aa}
theorem cv [Tab] {s:Sl} {ls:List (List Int)} (h:Rows H s ls) {i j:Nat} (hi:i<ls.length) (hj:j<(ls[i]'hi).length) {ji:Int} (ej:ji=(j:Int)) {K:Addr→Sl→Addr→Int→Prop} (hK:∀a x b,K a x b ((ls[i]'hi).getD j 0)):
  ae s.a fun a=>(0≤(i:Int)∧(i:Int)<(s.n:Int))∧ld an H (a.add ((i:Int).toNat*1)) fun x=>ae x.a fun b=>(0≤ji∧ji<(x.n:Int))∧ld (ab .u64) H (b.add (ji.toNat*1)) fun w=>K a x b w:=by
 refine h.ld hi fun a x _ ix=>?_
 exact fN ix ej hj fun b _=>hK a x b
theorem ax.JI [Tab] {s:Sl} {rs:List Sl} {ls:List (List Int)} {base:Nat} (h:ax H base s rs ls) {i:Nat} (hi:i<ls.length) {K:Addr→Sl→Prop} (hK:∀a x,Ints .u64 H x (ls[i]'hi)→x.n≤x.c→K a x):
  ae s.a fun a=>(0≤(i:Int)∧(i:Int)<(s.n:Int))∧ld an H (a.add ((i:Int).toNat*1)) fun x=>K a x:=by
 have hir:i<rs.length:=by rw[h.len];exact hi
 obtain⟨ad,ha,hc⟩:=h.out.reads.at (i:=i) (by simpa using hir)
 have o:=h.row i _ _ (List.getElem?_eq_getElem hir) (List.getElem?_eq_getElem hi)
 refine bT ad ha ⟨⟨by omega,by rw[h.n];omega⟩,rs[i],?_,hK ad _ o.ints o.cap⟩
 rw[Int.toNat_natCast,Nat.mul_one,hc,List.getElem_map]
set_option maxHeartbeats 2000000 in
theorem GO [Tab] {l r5 r6:Sl} {L M5 M6:List (List Int)} {i:Nat} {k mn mx:Int} {R:Bool→aa→Prop} {K:Bool×Bool×Int→aa→Prop} (hl:Rows H l L) (h3:∀r∈L,r.length=3) (hL:L.length≤200) (h5:Rows H r5 M5) (h6:Rows H r6 M6) (i5:i<M5.length) (i6:i<M6.length) (l5:1<(M5[i]'i5).length) (l6:1<(M6[i]'i6).length)
  (e5:IntKind.i64.wrap ((M5[i]'i5).getD 1 0)=mn) (e6:IntKind.i64.wrap ((M6[i]'i6).getD 1 0)=mx) (hb:∀r∈L,r.getD 0 0=k→mn≤IntKind.i64.wrap (r.getD 2 0)∧IntKind.i64.wrap (r.getD 2 0)≤mx)
  (hn:∃r∈L,r.getD 0 0=k∧IntKind.i64.wrap (r.getD 2 0)=mn) (hx:∃r∈L,r.getD 0 0=k∧IntKind.i64.wrap (r.getD 2 0)=mx) (hK:K (true,true,(L.length:Int)) H):
  aC (Bool×Bool×Int) (false,false,(0:Int)) H fun next_4 z_6 H29=>br (decide (z_6.2.2<(l.n:Int))) (cut (Bool×Bool) (fun J_2=>ae l.a fun a_24=>(0≤z_6.2.2∧z_6.2.2<(l.n:Int))∧ld an H29 (a_24.add (z_6.2.2.toNat*1)) fun(x_24:Sl)=>ae x_24.a fun a_25=>(0≤(0:Int)∧(0:Int)<(x_24.n:Int))∧ld (ab .u64) H29 (a_25.add ((0:Int).toNat*1)) fun(x_25:Int)=>br (x_25 !=k) (J_2 (z_6.1,z_6.2.1) H29) (ae l.a fun a_26=>(0≤z_6.2.2∧z_6.2.2<(l.n:Int))∧ld an H29 (a_26.add (z_6.2.2.toNat*1)) fun(x_26:Sl)=>ae x_26.a fun a_27=>(0≤(2:Int)∧(2:Int)<(x_26.n:Int))∧ld (ab .u64) H29 (a_27.add ((2:Int).toNat*1)) fun(x_27:Int)=>cut (Int×Sl×Int×Option Addr×Sl×Option Addr×Int×Int×Bool) (fun J_3=>ae r5.a fun a_28=>(0≤(i:Int)∧(i:Int)<(r5.n:Int))∧ld an H29 (a_28.add ((i:Int).toNat*1)) fun(x_28:Sl)=>ae x_28.a fun a_29=>(0≤(1:Int)∧(1:Int)<(x_28.n:Int))∧ld (ab .u64) H29 (a_29.add ((1:Int).toNat*1)) fun(x_29:Int)=>br (decide ((IntKind.i64.wrap x_27)<(IntKind.i64.wrap x_29))) (R false H29) (ae r6.a fun a_30=>(0≤(i:Int)∧(i:Int)<(r6.n:Int))∧ld an H29 (a_30.add ((i:Int).toNat*1)) fun(x_30:Sl)=>ae x_30.a fun a_31=>(0≤(1:Int)∧(1:Int)<(x_30.n:Int))∧ld (ab .u64) H29 (a_31.add ((1:Int).toNat*1)) fun(x_31:Int)=>br (decide ((IntKind.i64.wrap x_27)>(IntKind.i64.wrap x_31))) (R false H29) (J_3 (IntKind.i64.wrap x_27,r6,(i:Int),some (a_30.add ((i:Int).toNat*1)),x_30,some (a_31.add ((1:Int).toNat*1)),x_31,IntKind.i64.wrap x_31,decide ((IntKind.i64.wrap x_27)>(IntKind.i64.wrap x_31))) H29))) fun(_:(Int×Sl×Int×Option Addr×Sl×Option Addr×Int×Int×Bool)) H31=>br z_6.1 (br z_6.2.1 (J_2 (true,true) H31) (ae r6.a fun a_32=>(0≤(i:Int)∧(i:Int)<(r6.n:Int))∧ld an H31 (a_32.add ((i:Int).toNat*1)) fun(x_32:Sl)=>ae x_32.a fun a_33=>(0≤(1:Int)∧(1:Int)<(x_32.n:Int))∧ld (ab .u64) H31 (a_33.add ((1:Int).toNat*1)) fun(x_33:Int)=>J_2 (true,(IntKind.i64.wrap x_27)==(IntKind.i64.wrap x_33)) H31)) (ae r5.a fun a_34=>(0≤(i:Int)∧(i:Int)<(r5.n:Int))∧ld an H31 (a_34.add ((i:Int).toNat*1)) fun(x_34:Sl)=>ae x_34.a fun a_35=>(0≤(1:Int)∧(1:Int)<(x_34.n:Int))∧ld (ab .u64) H31 (a_35.add ((1:Int).toNat*1)) fun(x_35:Int)=>br z_6.2.1 (J_2 ((IntKind.i64.wrap x_27)==(IntKind.i64.wrap x_35),true) H31) (ae r6.a fun a_36=>(0≤(i:Int)∧(i:Int)<(r6.n:Int))∧ld an H31 (a_36.add ((i:Int).toNat*1)) fun(x_36:Sl)=>ae x_36.a fun a_37=>(0≤(1:Int)∧(1:Int)<(x_36.n:Int))∧ld (ab .u64) H31 (a_37.add ((1:Int).toNat*1)) fun(x_37:Int)=>J_2 ((IntKind.i64.wrap x_27)==(IntKind.i64.wrap x_35),(IntKind.i64.wrap x_27)==(IntKind.i64.wrap x_37)) H31)))) fun(z_7:(Bool×Bool)) H30=>next_4 (z_7.1,z_7.2,IntKind.i64.wrap (z_6.2.2+(1:Int))) H30) (K z_6 H29):=by
 have hln:=hl.len
 refine aB L.length (fun j z A=>H=A∧z.2.2=(j:Int)∧((∃r∈L.take j,r.getD 0 0=k∧IntKind.i64.wrap (r.getD 2 0)=mn)→z.1=true)∧((∃r∈L.take j,r.getD 0 0=k∧IntKind.i64.wrap (r.getD 2 0)=mx)→z.2.1=true)) ⟨rfl,rfl,fun⟨r,hr,_⟩=>by simp at hr,fun⟨r,hr,_⟩=>by simp at hr⟩ ?_
 rintro j ⟨lo,hi,_⟩ _ next hj ⟨rfl,rfl,v1,v2⟩ hnext
 simp only at v1 v2 ⊢
 refine aj (fun hc=>?_) (fun hc=>?_)
 ·have hlt : j < L.length := by have : (j : Int) < (l.n : Int) := by simpa using hc
                                omega
  have hm:=List.getElem_mem hlt
  have h3j:=h3 _ hm
  refine⟨fun z A=>H=A∧((∃r∈L.take (j+1),r.getD 0 0=k∧IntKind.i64.wrap (r.getD 2 0)=mn)→z.1=true)∧((∃r∈L.take (j+1),r.getD 0 0=k∧IntKind.i64.wrap (r.getD 2 0)=mx)→z.2=true),?_,fun z A ⟨q1,q2,q3⟩=>hnext hlt _ _ ⟨q1,aP j (by omega),q2,q3⟩⟩
  have hsplit:∀{p:List Int→Prop},(∃r∈L.take (j+1),p r)→(∃r∈L.take j,p r)∨p L[j]:=fun {p} ⟨r,hr,hp⟩=>by
   rw[List.take_succ_eq_append_getElem hlt,List.mem_append,List.mem_singleton] at hr
   rcases hr with hr|hr
   ·exact .inl ⟨r,hr,hp⟩
   ·exact .inr (hr▸hp)
  refine cv hl hlt (j:=0) (by omega) rfl fun _ _ _=>?_
  refine aj (fun hk=>?_) (fun hk=>?_)
  ·have hk:L[j].getD 0 0≠k:=by simpa using hk
   exact⟨rfl,fun q=>(hsplit q).elim v1 fun q=>absurd q.1 hk,fun q=>(hsplit q).elim v2 fun q=>absurd q.1 hk⟩
  ·have hk:L[j].getD 0 0=k:=by simpa using hk
   obtain⟨b1,b2⟩:=hb _ hm hk
   refine cv hl hlt (j:=2) (by omega) rfl fun _ _ _=>?_
   refine⟨fun _ A=>H=A,?_,?_⟩
   ·refine cv h5 i5 (j:=1) l5 rfl fun _ _ _=>?_
    refine aA (by rw[e5];simpa using b1) ?_
    refine cv h6 i6 (j:=1) l6 rfl fun _ _ _=>?_
    exact aA (by rw[e6];simpa using b2) rfl
   rintro _ _ rfl
   have f1:∀{t:Bool},t=(IntKind.i64.wrap (L[j].getD 2 0)==mn)→∀q:(∃r∈L.take (j+1),r.getD 0 0=k∧IntKind.i64.wrap (r.getD 2 0)=mn),lo=false→t=true:=fun {t} ht q h=>by
    rcases hsplit q with q|q
    ·rw[v1 q] at h;cases h
    ·rw[ht,q.2];simp
   have f2:∀{t:Bool},t=(IntKind.i64.wrap (L[j].getD 2 0)==mx)→∀q:(∃r∈L.take (j+1),r.getD 0 0=k∧IntKind.i64.wrap (r.getD 2 0)=mx),hi=false→t=true:=fun {t} ht q h=>by
    rcases hsplit q with q|q
    ·rw[v2 q] at h;cases h
    ·rw[ht,q.2];simp
   cases lo with
   |true=>
     refine aZ rfl ?_
     cases hi with
     |true=>exact aZ rfl ⟨rfl,fun _=>rfl,fun _=>rfl⟩
     |false=>
       refine aA rfl ?_
       refine cv h6 i6 (j:=1) l6 rfl fun _ _ _=>?_
       rw[e6]
       exact⟨rfl,fun _=>rfl,fun q=>f2 rfl q rfl⟩
   |false=>
     refine aA rfl ?_
     refine cv h5 i5 (j:=1) l5 rfl fun _ _ _=>?_
     rw[e5]
     cases hi with
     |true=>exact aZ rfl ⟨rfl,fun q=>f1 rfl q rfl,fun _=>rfl⟩
     |false=>
       refine aA rfl ?_
       refine cv h6 i6 (j:=1) l6 rfl fun _ _ _=>?_
       rw[e6]
       exact⟨rfl,fun q=>f1 rfl q rfl,fun q=>f2 rfl q rfl⟩
 ·have hge : j = L.length := by have : ¬ (j : Int) < (l.n : Int) := by simpa using hc
                                omega
  subst hge
  rw[List.take_length] at v1 v2
  rw[v1 hn,v2 hx]
  exact hK
end
theorem ax.np [Tab] {A B:aa} {base:Nat} {s:Sl} {rs:List Sl} {ls:List (List Int)} (h:ax A base s rs ls) (e:Ext A B):ax B base s rs ls:=h.mod e (fun _ _ u=>u) fun _ _ _ _ u=>u
theorem AM [Tab] {κ:List Int} (h:κ.length=1) (v:Int):(κ++[v]).take 1=κ:=by
 match κ,h with
 |[a],_=>rfl
theorem BJ (l:List (List Int)):(ay l).length≤l.length:=by
 cases l with
 |nil=>exact Nat.le_refl _
 |cons a l=>have:=vr l a;show (a::dd a l).length≤_;rw[List.length_cons,List.length_cons];omega
theorem Iv [Tab] (n:Nat) (D:List (List Int)):(KL n D).length≤D.length:=by
 have:=BJ (D.map (List.take n));rw[List.length_map] at this;exact this
section
variable {H:aa}
set_option maxHeartbeats 4000000 in
set_option maxRecDepth 100000 in
theorem sL [Tab] {rows:Sl} {rl:List (List Int)} {af:Int} {K:Bool→aa→Prop} (hg:Gl H) (hr:Rows H rows rl) (hfit:∀l∈rl,fQ l) (hK:∀B,Ext H B→K true B):IL.sp rows af H K:=by
 refine IL.of ?_
 unfold IL.vc
 have hn:=hr.len
 refine aj (fun _=>hK H (.refl _ _)) (fun hc=>?_)
 have hl:rl.length≤200:=by
  have:¬(rows.n:Int)>200:=by simpa using hc
  omega
 refine Hv hr hl fun l u rs A oL hu eA=>?_
 simp only
 have hLl:(rl.map (cP 3)).length≤200:=by rw[List.length_map];exact hl
 have hLf:∀r∈rl.map (cP 3),r.length=3∧fQ r:=fun r h=>by
  obtain⟨y,hy,rfl⟩:=List.mem_map.1 h
  exact⟨pS 3 y,Bx (hfit y hy)⟩
 generalize rl.map (cP 3)=L at oL hu hLl hLf
 have hD:(ay (bp L)).Pairwise (fun x y=>aF x y<0):=dW (gI L)
 have h3:∀r∈ay (bp L),r.length=3:=fun r hr=>(hLf r (eR.1 hr)).1
 have hDL:∀r,r∈ay (bp L)↔r∈L:=fun r=>eR
 rw[Eg] at hu
 have hD200:(ay (bp L)).length≤200:=by have:=dz L;omega
 have e9:=Gh hD h3
 have e10:jM (fU 10) (aW 2) (List.take 1) (ay (bp L))=GY (ay (bp L)):=AZ 1 hD h3
 have e102:jM (fU 10) (aW 2) (List.take 2) (ay (bp L))=Dp (ay (bp L)):=AZ 2 hD h3
 have e11:=GX hD h3
 have e12:=FX hD h3
 refine E3 (by decide) ?_
 have hm0:(if (10:Int)<1 then 0 else af.emod 10)=af%10:=by rw[if_neg (by decide)];rfl
 rw[hm0]
 have hm1:=Int.emod_nonneg af (show (10:Int)≠0 by decide)
 have hm2:=Int.emod_lt_of_pos af (show (0:Int)<10 by decide)
 generalize af%10=m at hm1 hm2
 have hw:IntKind.i64.wrap ((3:Int)+m)=((3+m.toNat:Nat):Int):=by rw[wrap64 (by omega) (by omega)];omega
 rw[hw]
 have d0:∀c∈([0]:List Int),0≤c∧c<((3:Nat):Int):=by decide
 have d1:∀c∈([0,1]:List Int),0≤c∧c<((3:Nat):Int):=by decide
 refine ak fun A1 z1 r1 x1=>?_
 refine gv (cl:=-1) (fr:=3) (kN:=1) (hg.mod (eA.trans x1) id) (oL.np x1).rows hLl hLf (jD r1) d0 (by decide) (.inl rfl) (fun q=>absurd rfl q) (by decide) (by decide) (by decide) (by decide) (by decide) (by decide) (by decide) fun s1 ts1 b1 B1 o1 y1=>?_
 rw[e9] at o1
 refine ak fun A2 z2 r2 x2=>?_
 have eA2:=((eA.trans x1).trans y1).trans x2
 have f2:=(x1.trans y1).trans x2
 refine gv (cl:=-1) (fr:=3+m.toNat) (kN:=1) (hg.mod eA2 id) (oL.np f2).rows hLl hLf (jD r2) d0 (by decide) (.inl rfl) (fun q=>absurd rfl q) (by decide) (by decide) (by decide) (by decide) (by decide) (by decide) (by omega) fun s2 ts2 b2 B2 o2 y2=>?_
 rw[e9] at o2
 refine ak fun A3 z3 r3 x3=>?_
 have eA3:=(eA2.trans y2).trans x3
 have f3:=(f2.trans y2).trans x3
 refine gv (cl:=2) (fr:=3) (kN:=2) (hg.mod eA3 id) (oL.np f3).rows hLl hLf (Kl r3) d1 (by decide) (.inr (.inl rfl)) (fun _=>by decide) (by decide) (by decide) (by decide) (by decide) (by decide) (by decide) (by decide) fun s3 ts3 b3 B3 o3 y3=>?_
 rw[e102] at o3
 refine ak fun A4 z4 r4 x4=>?_
 have eA4:=(eA3.trans y3).trans x4
 have f4:=(f3.trans y3).trans x4
 refine gv (cl:=2) (fr:=3+m.toNat) (kN:=1) (hg.mod eA4 id) (oL.np f4).rows hLl hLf (jD r4) d0 (by decide) (.inr (.inl rfl)) (fun _=>by decide) (by decide) (by decide) (by decide) (by decide) (by decide) (by decide) (by omega) fun s4 ts4 b4 B4 o4 y4=>?_
 rw[e10] at o4
 refine ak fun A5 z5 r5 x5=>?_
 have eA5:=(eA4.trans y4).trans x5
 have f5:=(f4.trans y4).trans x5
 refine gv (cl:=2) (fr:=4) (kN:=1) (hg.mod eA5 id) (oL.np f5).rows hLl hLf (jD r5) d0 (by decide) (.inr (.inr (.inl rfl))) (fun _=>by decide) (by decide) (by decide) (by decide) (by decide) (by decide) (by decide) (by decide) fun s5 ts5 b5 B5 o5 y5=>?_
 rw[e11] at o5
 refine ak fun A6 z6 r6 x6=>?_
 have eA6:=(eA5.trans y5).trans x6
 have f6:=(f5.trans y5).trans x6
 refine gv (cl:=2) (fr:=4) (kN:=1) (hg.mod eA6 id) (oL.np f6).rows hLl hLf (jD r6) d0 (by decide) (.inr (.inr (.inr rfl))) (fun _=>by decide) (by decide) (by decide) (by decide) (by decide) (by decide) (by decide) (by decide) fun s6 ts6 b6 G o6 y6=>?_
 rw[e12] at o6
 have g5:=x6.trans y6
 have g4:=(y5.trans g5:Ext A5 G)
 have g4':=x5.trans g4
 have g3':=x4.trans (y4.trans g4')
 have g2':=x3.trans (y3.trans g3')
 have g1':=x2.trans (y2.trans g2')
 replace o1:=o1.np g1'
 replace o2:=o2.np g2'
 replace o3:=o3.np g3'
 replace o4:=o4.np g4'
 replace o5:=o5.np g5
 replace oL:=oL.np (f6.trans y6)
 have eG:=eA6.trans y6
 refine aA rfl ?_
 generalize ay (bp L)=D at*
 have lc:(Ad D).length=(KL 1 D).length:=List.length_map _
 have ls:(GY D).length=(KL 1 D).length:=List.length_map _
 have ln:(I9 D).length=(KL 1 D).length:=List.length_map _
 have lx:(IS D).length=(KL 1 D).length:=List.length_map _
 have lf:(Dp D).length=(KL 2 D).length:=List.length_map _
 have nk:=tg (n:=1) h3 (by decide)
 have hPl:=Iv 1 D
 have hPl2:=Iv 2 D
 refine wH o1.rows o2.rows (by omega) (fun x hx=>by
  obtain⟨κ,hκ,rfl⟩:=List.mem_map.1 hx
  rw[(nO (nk κ hκ) _).2.2];decide) ?_
 have n1:=o1.n
 have n3:s3.n=(Dp D).length:=o3.n
 have n4:s4.n=(GY D).length:=o4.n
 have n5:=o5.n
 have n6:=o6.n
 refine aA (by simp;omega) ?_
 refine aB (KL 1 D).length (fun i z C=>G=C∧z.1=yH D i∧z.2.1=(sm D i:Int)∧z.2.2=(i:Int)) ⟨rfl,by simp[yH,j4],rfl,rfl⟩ ?_
 rintro i ⟨_,_,_⟩ _ next hi ⟨rfl,rfl,rfl,rfl⟩ hnext
 simp only
 refine aj (fun hc2=>?_) (fun hc2=>?_)
 ·have hlt:i<(KL 1 D).length:=by
   have:(i:Int)<(s1.n:Int):=by simpa using hc2
   omega
  have hκm:=List.getElem_mem hlt
  have hκ:=nk _ hκm
  have c1:(Ad D)[i]'(by omega)=(KL 1 D)[i]++[ja ((GL 1 D (KL 1 D)[i]).length:Int)]:=List.getElem_map _
  have c4:(GY D)[i]'(by omega)=(KL 1 D)[i]++[ja (kH (aW 2) (GL 1 D (KL 1 D)[i]))]:=List.getElem_map _
  have c5:(I9 D)[i]'(by omega)=(KL 1 D)[i]++[ja (comes gM (aW 2) (GL 1 D (KL 1 D)[i])).2]:=List.getElem_map _
  have c6:(IS D)[i]'(by omega)=(KL 1 D)[i]++[ja (comes gU (aW 2) (GL 1 D (KL 1 D)[i])).2]:=List.getElem_map _
  have hone:=Jk hκ
  generalize eκ:(KL 1 D)[i]=κ at*
  have hi1:i<(Ad D).length:=by omega
  refine cv o1.rows hi1 (j:=0) (by rw[c1,(nO hκ _).2.2];decide) rfl fun _ _ _=>?_
  rw[c1,(nO hκ _).1]
  refine⟨fun _ C=>G=C,?_,?_⟩
  ·refine aj (fun hp=>?_) (fun hp=>?_)
   ·have hp:0<i:=by
     have:(i:Int)>0:=by simpa using hp
     omega
    have hw2:IntKind.i64.wrap ((i:Int) - (1:Int))=((i - 1:Nat):Int):=by rw[wrap64 (by omega) (by omega)];omega
    rw[hw2]
    have hi0:i - 1<(Ad D).length:=by omega
    have hκ0:=nk _ (List.getElem_mem (show i - 1<(KL 1 D).length by omega))
    have c0:(Ad D)[i - 1]'hi0=(KL 1 D)[i - 1]++[ja ((GL 1 D (KL 1 D)[i - 1]).length:Int)]:=List.getElem_map _
    refine o1.JI hi0 fun _ x ix cx=>?_
    rw[c0] at ix
    have nx:=ix.len
    rw[(nO hκ0 _).2.2] at nx
    refine⟨⟨by decide,by omega⟩,?_⟩
    refine o1.JI hi1 fun _ y iy cy=>?_
    rw[c1] at iy
    have ny:=iy.len
    rw[(nO hκ _).2.2] at ny
    refine⟨⟨by decide,by omega⟩,?_⟩
    rw[iW,iW]
    refine iE (ix.front (n:=1) (by rw[(nO hκ0 _).2.2];decide) _) (iy.front (n:=1) (by rw[(nO hκ _).2.2];decide) _) (by rw[List.length_take];omega) ?_
    rw[AM hκ0,AM hκ]
    have up:=rV (n:=1) hD h3
    have hlt2:=List.pairwise_iff_getElem.1 up (i - 1) i (by omega) hlt (by omega)
    rw[eκ] at hlt2
    refine aA (by simp;omega) ?_
    refine cv o4.rows (i:=i) (by omega) (j:=0) (by rw[c4,(nO hκ _).2.2];decide) rfl fun _ _ _=>?_
    refine aA (by rw[c4,(nO hκ _).1];simp) ?_
    refine cv o5.rows (i:=i) (by omega) (j:=0) (by rw[c5,(nO hκ _).2.2];decide) rfl fun _ _ _=>?_
    refine aA (by rw[c5,(nO hκ _).1];simp) ?_
    refine cv o6.rows (i:=i) (by omega) (j:=0) (by rw[c6,(nO hκ _).2.2];decide) rfl fun _ _ _=>?_
    exact aA (by rw[c6,(nO hκ _).1];simp) rfl
   ·refine cv o4.rows (i:=i) (by omega) (j:=0) (by rw[c4,(nO hκ _).2.2];decide) rfl fun _ _ _=>?_
    refine aA (by rw[c4,(nO hκ _).1];simp) ?_
    refine cv o5.rows (i:=i) (by omega) (j:=0) (by rw[c5,(nO hκ _).2.2];decide) rfl fun _ _ _=>?_
    refine aA (by rw[c5,(nO hκ _).1];simp) ?_
    refine cv o6.rows (i:=i) (by omega) (j:=0) (by rw[c6,(nO hκ _).2.2];decide) rfl fun _ _ _=>?_
    exact aA (by rw[c6,(nO hκ _).1];simp) rfl
  rintro _ _ rfl
  refine cv o1.rows hi1 (j:=1) (by rw[c1,(nO hκ _).2.2];decide) rfl fun _ _ _=>?_
  rw[c1,(nO hκ _).2.1]
  have hBn:=KC hD h3 (κ:=κ)
  have hat:=Dy hlt
  rw[eκ] at hat
  have hat1:sm D (i+1)≤(KL 2 D).length:=by
   have e:=vz hD h3 hlt
   rw[eκ] at e
   have:=congrArg List.length e
   rw[List.length_append,List.length_append] at this
   have:sm D i=(((KL 1 D).take i).flatMap (BL D)).length:=rfl
   omega
  obtain⟨mn1,mn2,mn3⟩:=CG hκm
  obtain⟨mx1,mx2,mx3⟩:=BN hκm
  have inG:∀r∈L,r.getD 0 0=κ.getD 0 0→r∈GL 1 D κ:=fun r hr hk=>lV.2 ⟨(hDL r).2 hr,by rw[nw (by have:=(hLf r hr).1;omega),hk,←hone]⟩
  have outG:∀r∈GL 1 D κ,r∈L∧r.getD 0 0=κ.getD 0 0:=fun r hr=>by
   obtain⟨g1,g2⟩:=lV.1 hr
   have hL:=(hDL r).1 g1
   refine⟨hL,?_⟩
   rw[nw (by have:=(hLf r hL).1;omega)] at g2
   rw[←g2];rfl
  have scan:∀{R:Bool→aa→Prop} {Kk:Bool×Bool×Int→aa→Prop},Kk (true,true,(L.length:Int)) G→_:=fun {R Kk} hk=>GO (R:=R) (K:=Kk) (i:=i) (k:=κ.getD 0 0) (mn:=(comes gM (aW 2) (GL 1 D κ)).2) (mx:=(comes gU (aW 2) (GL 1 D κ)).2) oL.rows (fun r hr=>(hLf r hr).1) hLl o5.rows o6.rows (by omega) (by omega) (by rw[c5,(nO hκ _).2.2];decide) (by rw[c6,(nO hκ _).2.2];decide) (by rw[c5,(nO hκ _).2.1];exact mn3) (by rw[c6,(nO hκ _).2.1];exact mx3)
   (fun r hr hk=>by
    have h:=inG r hr hk
    have h1:=mn1 r h
    have h2:=mx1 r h
    rw[Er] at h1 h2
    exact⟨h1,h2⟩)
   (by obtain ⟨r, hr, e⟩ := mn2
       obtain⟨g1,g2⟩:=outG r hr
       rw[Er] at e
       exact⟨r,g1,g2,e⟩)
   (by obtain ⟨r, hr, e⟩ := mx2
       obtain⟨g1,g2⟩:=outG r hr
       rw[Er] at e
       exact⟨r,g1,g2,e⟩) hk
  have hBsum:=Kh (w:=aW 2) hD h3 κ
  have hall:=BQ hlt
  rw[eκ] at hall
  refine aB (BL D κ).length (fun q z C=>G=C∧z.1=((sm D i+q:Nat):Int)∧z.2=ja (((BL D κ).take q).map fun x=>kH (aW 2) (GL 2 D x)).sum) ⟨rfl,rfl,by simp[j4]⟩ ?_
  rintro q ⟨_,_⟩ _ next2 hq ⟨rfl,rfl,rfl⟩ hnext2
  simp only
  refine aj (fun hc3=>?_) (fun hc3=>?_)
  ·have hqf:sm D i+q<(Dp D).length:=by
    have:((sm D i+q:Nat):Int)<(s3.n:Int):=by simpa using hc3
    omega
   have hqk:sm D i+q<(KL 2 D).length:=by omega
   have cf:(Dp D)[sm D i+q]'hqf=(KL 2 D)[sm D i+q]++[ja (kH (aW 2) (GL 2 D (KL 2 D)[sm D i+q]))]:=List.getElem_map _
   have hx2:=tg (n:=2) h3 (by decide) _ (List.getElem_mem hqk)
   refine cv o3.rows hqf (j:=0) (by rw[cf,(Kw hx2 _).2.2];decide) rfl fun _ _ _=>?_
   rw[cf,(Kw hx2 _).1]
   by_cases hqb:q<(BL D κ).length
   ·have hat2:=KB hD h3 hlt (m:=q) (by rw[eκ];exact hqb)
    rw[List.getElem?_eq_getElem hqk,List.getElem?_eq_getElem (by rw[eκ];exact hqb)] at hat2
    have hx3:(KL 2 D)[sm D i+q]=(BL D κ)[q]:=by
     have:=Option.some.inj hat2
     rw[this];congr 1;rw[eκ]
    obtain⟨_,hx4⟩:=hBn _ (List.getElem_mem hqb)
    rw[hx3] at cf hx2 ⊢
    have hx5:((BL D κ)[q]).getD 0 0=κ.getD 0 0:=by
     rw[nw (by omega)] at hx4
     have h:=congrArg (fun x:List Int=>x.getD 0 0) hx4
     exact h
    refine aZ (by rw[hx5];simp) ?_
    refine cv o3.rows hqf (j:=2) (by rw[cf,(Kw hx2 _).2.2];decide) rfl fun _ _ _=>?_
    rw[cf,(Kw hx2 _).2.1]
    refine hnext2 hqb _ _ ⟨rfl,by rw[aP _ (by omega)];rfl,?_⟩
    show ja (ja _+ja _)=_
    rw[Am,List.take_succ_eq_append_getElem hqb,List.map_append,List.map_cons,List.map_nil,DV]
   ·have hqe:q=(BL D κ).length:=by omega
    have hend:=J7 hD h3 hlt (x:=(KL 2 D)[sm D i+q]) (by rw[eκ,←hqe,List.getElem?_eq_getElem hqk])
    have hx5:((KL 2 D)[sm D i+q]).getD 0 0≠κ.getD 0 0:=fun h=>hend (by rw[nw (by omega),h,eκ];exact hone.symm)
    refine aA (by simpa using hx5) ?_
    refine scan ?_
    refine cv o4.rows (i:=i) (by omega) (j:=1) (by rw[c4,(nO hκ _).2.2];decide) rfl fun _ _ _=>?_
    rw[c4,(nO hκ _).2.1,hqe,List.take_length,hBsum]
    refine aA (by simp) ?_
    exact hnext hlt _ _ ⟨rfl,hall,by rw[hat],aP i (by omega)⟩
  ·have hqe:q=(BL D κ).length:=by
    have:¬((sm D i+q:Nat):Int)<(s3.n:Int):=by simpa using hc3
    omega
   refine scan ?_
   refine cv o4.rows (i:=i) (by omega) (j:=1) (by rw[c4,(nO hκ _).2.2];decide) rfl fun _ _ _=>?_
   rw[c4,(nO hκ _).2.1,hqe,List.take_length,hBsum]
   refine aA (by simp) ?_
   exact hnext hlt _ _ ⟨rfl,hall,by rw[hat],aP i (by omega)⟩
 ·have hie:i=(KL 1 D).length:=by
   have:¬(i:Int)<(s1.n:Int):=by simpa using hc2
   omega
  subst hie
  rw[DO hD h3,Hy hD h3]
  refine aZ ?_ ?_
  ·have h1:(ja (D.length:Int)==IntKind.u64.wrap (u.n:Int))=true:=by rw[hu];simp[ja]
   have h2:(((KL 2 D).length:Int)==(s3.n:Int))=true:=by rw[n3,lf];simp
   rw[h1,h2];rfl
  ·exact BG (hg.mod eG id) fun B eB=>hK B (eG.trans eB)
end
end Go.Proofs.YtacfhncgbgijhaaGreat
namespace Go.Proofs.YtacfhncgbgijhaaGreat
open Go.ChangeShapes Go.WideShapes Go.ChangeAt Go.RowKit
-- TABOFF
set_option maxRecDepth 100000 in
theorem mK (os:Os) (started:os.Started) (H:Type) (enc:TypeId×Value→H):
  ReturnsInHanded {} Tryz.checked os 4 .any (Rows.aggTogetherSpec.pre6 enc Tryz.prog Tryz.f4 Rows.aggTogetherRow.domain false) (Rows.aggTogetherSpec.post enc Tryz.prog Tryz.f4 false true false false):=by
 refine ql (C:=Tryz.checked) Ch started (by kernel_rfl) Tryz.func4
  (ChangeSpec.witness6 (enc:=enc) (C:=Tryz.checked) false ⟨#[],#[.slice none 0 0,.int .i64 0],[]⟩ 8 (by kernel_rfl) (by kernel_rfl) (by kernel_rfl) (by kernel_rfl)) ?_
 intro W base args ds gs before hsh hval0 hW
 have hval:∀(j:Nat) t v,Tryz.f4.params[j]?=some t→args[j]?=some v→Value.okWide Tryz.prog W .any base t v:=hval0
 have hW':=hW
 obtain⟨p,q,hA0,hV,rfl,hfz,hnd⟩:=hW
 have hA:DataW.TrodAll enc Tryz.prog W 0 (fun _=>true) true Tryz.f4.params.toList args.toList ds p:=hA0
 rw[Tryz.params4] at hA hval
 obtain⟨v0,v1,d0,d1,p0,p1,rfl,rfl,rfl,h0,h1⟩:=trodAll_two hA
 obtain⟨rfl,rfl⟩:=trodVars_none hV
 obtain⟨rows,rl,rfl,rn,_,ra⟩:=qo (k:=.u64) (e:=gw) (e2:=fx) (by kernel_rfl) (by kernel_rfl) (by kernel_rfl) (by kernel_rfl) (by kernel_rfl) (hval 0 fG v0 rfl rfl) h0
 obtain⟨af,rfl,rfl,rfl,_⟩:=open_int (k:=.i64) (t:=ig) (by kernel_rfl) (hval 1 ig v1 rfl rfl) h1
 have hfit:∀l∈rl,fQ l:=by
  intro l hl x hx
  obtain⟨i,hi,e⟩:=List.getElem_of_mem hl
  subst e
  obtain⟨_,_,_,_,_,_,q⟩:=ra i hi
  have:=q x hx
  simp only[Lit.wf,Bool.and_eq_true,decide_eq_true_eq] at this
  have h1:IntKind.u64.min=0:=rfl
  have h2:IntKind.u64.max=18446744073709551615:=rfl
  omega
 obtain⟨T,hT⟩:=wT hsh
 have hspec:=@sL W.heap T rows rl af (fun b H'=>b=true∧Ext W.heap H') hT ⟨rn,fun i hi=>by obtain⟨ad,rr,q1,q2,q3,_⟩:=ra i hi;exact⟨ad,rr,q1,q2,q3⟩⟩ hfit (fun H' e=>⟨rfl,e⟩)
 refine(hspec W rfl).mono fun e W' ⟨v,he,⟨x,hx,hb,hext⟩,hal⟩=>?_
 subst he;subst hx;subst hb
 exact⟨_,rfl,D6 tv (by decide+kernel) rfl (by kernel_rfl) rfl rfl rfl rfl hW' hext hal⟩
theorem aggTogether_holds:Rows.AggTogetherSaid:=
 OpenClaim.holds_of_wide 4 Tryz.f4 rfl rfl rfl rfl rfl rfl rfl ⟨rfl,rfl,rfl,rfl,rfl⟩ rfl rfl rfl rfl rfl (by kernel_rfl) Tryz.func4 (by kernel_rfl)
  (of_decide_eq_true (by kernel_rfl)) (by unfold Func.isWrapper;first|(rw[if_pos (by decide+kernel)];kernel_rfl)|(rw[if_neg (by decide+kernel)];exact⟨rfl,rfl⟩))
  (fun os started H enc _=>mK os started H enc)
#print axioms aggTogether_holds
end Go.Proofs.YtacfhncgbgijhaaGreat
