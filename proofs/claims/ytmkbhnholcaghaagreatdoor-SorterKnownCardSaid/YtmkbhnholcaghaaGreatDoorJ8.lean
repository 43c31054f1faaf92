/-
 SorterKnown: the whole walk.
-/
import Derived.Test.YtmkbhnholcaghaaGreatDoorJ7
open ByteArray renaming mk->Q4
open Go.IntKind renaming i64->QI
open Go.Proofs.Tryz renaming prog->QH
open List renaming mem_cons->QX,replicate->Q6,range->RI,not_mem_nil->Wk
open Go renaming Value->gp,Addr->hY
namespace Go.Proofs.YtmkbhnholcaghaaGreatDoor
section
open Go.MapKept
section
variable {A:aa}{R:Bool->aa->Prop}{K:aa->Prop}
theorem Bp (o:Gl A){s:Sl}{n:Nat}(N:n<=60)(p:Rows A s ((RI n).map (Cs n)))(he:oR n=true/\oM n=true/\oV n=true)(J:∀B,Ext A B->K B):
  aG A #[.int .i64 (3:Int),.int .i64 (4:Int),.int .i64 (8:Int)] jm λt L=>ay Int (0:Int) L λc b u=>br (decide (b<(3:Int))) ((0<=b/\b<(3:Int))/\ld (ab .i64) u (t.add (b.toNat*1)) λ(ag:Int)=>Ee.sp (200:Int) (0:Int) ag (16:Int) (-1:Int) (0:Int) s (-1:Int) u λ(r:Bool) g=>br (!r) (R false g) (Ee.sp (n:Int) (0:Int) ag (16:Int) (QI.wrap ((3:Int)*(n:Int))) (5:Int) s (QI.wrap (Int.tdiv (n:Int) (2:Int))) g λ(v:Bool) h=>br (!v) (R false h) (c (QI.wrap (b+(1:Int))) h))) (JF.sp s (n:Int) (n:Int) u λ(w:Bool) j=>br (!w) (R false j) (K j)):=by
 refine au λB z r e=>?_;refine av 3 (λk z C=>z=(k:Int)/\Ext B C) ⟨rfl,.refl _ _⟩ ?_;rintro k _ C next hk ⟨rfl,x⟩ d
 have a:=e.trans x;have len:∀l∈(RI n).map (Cs n),l.length<=17592186043904:=λl hl=>by
  obtain⟨i,_,q⟩:=List.mem_map.1 hl;subst q;show (Q6 15 (0:Int)).length+1<=_;rw[List.length_replicate];decide
 refine ah (λG=>?_) λG=>?_
 ·have y:k<3:=by simp at G;omega
  obtain⟨f,F⟩:∃f:Int,(#[.int .i64 (3:Int),.int .i64 (4:Int),.int .i64 (8:Int)]:Array gp)[k]?=some ((ab .i64).enc f):=by
   rcases (by omega:k=0\/k=1\/k=2) with rfl|rfl|rfl
   ·exact⟨3,rfl⟩
   ·exact⟨4,rfl⟩
   ·exact⟨8,rfl⟩
  refine⟨⟨by omega,by omega⟩,ao.I7 (r.ext x) F ?_⟩;refine jk (o.mod a id) (by decide) (by decide) (p.og a) len λD m=>aE rfl ?_;refine jk (o.mod (a.trans m) id) (by omega) (by rw[wrap64 (by omega) (by omega)];omega) (p.og (a.trans m)) len λE M=>aE rfl ?_;exact d y _ _ ⟨aD k (by omega),(x.trans m).trans M⟩
 ·obtain⟨h1,H,I⟩:=he;unfold oR vl at h1;unfold oM vl at H;unfold oV vl at I;refine tN (W:=n%17) (f:=n%10) (o.mod a id) (p.og a) (by simp;omega) rfl (by omega) rfl (by omega) h1 H I λD m=>aE rfl ?_;exact J D (a.trans m)
theorem GM:nk QH AS 6=true:=by kernel_rfl
theorem Nw:(zc QH AS).size=6:=by kernel_rfl
set_option maxHeartbeats 1000000 in
theorem HS (hg:Gl A){J:hY}{ls:List (List Int)}(L:Rows A (Sl.mk (some J) 3 3) ls)(hl:∀l∈ls,l.length<=16)(hK:∀B,Ext A B->K B):
  aG A #[.int .i64 (0:Int),.int .i64 (0:Int),.int .i64 (2:Int),.int .i64 (1:Int),.int .i64 (0:Int),.int .u64 (0:Int),.int .i64 (0:Int),.int .i64 (0:Int),.int .i64 (9:Int),.int .i64 (1:Int),.int .i64 (0:Int),.int .u64 (0:Int),.int .i64 (0:Int),.int .i64 (0:Int),.int .i64 (3:Int),.int .i64 (17:Int),.int .i64 (0:Int),.int .u64 (0:Int),.int .i64 (0:Int),.int .i64 (0:Int),.int .i64 (3:Int),.int .i64 (-1:Int),.int .i64 (0:Int),.int .u64 (0:Int),.int .i64 (0:Int),.int .i64 (0:Int),.int .i64 (-1:Int),.int .i64 (0:Int),.int .i64 (0:Int),.int .u64 (0:Int),.int .i64 (0:Int),.int .i64 (0:Int),.int .i64 (3:Int),.int .i64 (0:Int),.int .i64 (0:Int),.int .u64 (0:Int),.int .i64 (0:Int),.int .i64 (0:Int),.int .i64 (8:Int),.int .i64 (1:Int),.int .i64 (0:Int),.int .u64 (0:Int),.int .i64 (0:Int),.int .i64 (1:Int),.int .i64 (9:Int),.int .i64 (16:Int),.int .i64 (0:Int),.int .u64 (0:Int)] AS λM N=>ay Int (0:Int) N λj f s=>br (decide (f<(8:Int))) ((0<=f/\f<(8:Int))/\cN (bR [(ab .i64),(ab .i64),(ab .i64),(ab .i64),(ab .i64),(ab .u64)]) 6 s (M.add (f.toNat*6)) λ(x:(Int×Int×Int×Int×Int×Int))=>aG s (zc QH AS) AS λg O=>jo QH (Instr.storeAt AS (.pointer (some g)) (.agg #[.int .i64 x.1,.int .i64 x.2.1,.int .i64 x.2.2.1,.int .i64 x.2.2.2.1,.int .i64 x.2.2.2.2.1,.int .u64 x.2.2.2.2.2])) O λP=>st P (g.add 0) (.int .i64 (50:Int)) λQ=>st Q (g.add 4) (.int .i64 (-1:Int)) λy=>cN (bR [(ab .i64),(ab .i64),(ab .i64),(ab .i64),(ab .i64),(ab .u64)]) 6 y g λ(c:(Int×Int×Int×Int×Int×Int))=>Ee.sp c.1 c.2.1 c.2.2.1 c.2.2.2.1 c.2.2.2.2.1 c.2.2.2.2.2 (Sl.mk (some J) 3 3) (1:Int) y λ(S:Bool) t=>br (!S) (R false t) (cN (bR [(ab .i64),(ab .i64),(ab .i64),(ab .i64),(ab .i64),(ab .u64)]) 6 t g λ(d:(Int×Int×Int×Int×Int×Int))=>aG t #[.int .i64 (0:Int),.int .i64 (1:Int),.int .i64 (2:Int)] jm λT U=>DA.sp d.1 d.2.1 d.2.2.1 d.2.2.2.1 d.2.2.2.2.1 d.2.2.2.2.2 (Sl.mk (some J) 3 3) (Sl.mk none 0 0) (Sl.mk (some J) 3 3) (Sl.mk (some T) 3 3) U λ(V:Bool) D=>br (!V) (R false D) (j (QI.wrap (f+(1:Int))) D))) (K s):=by
 refine au λB z r e=>?_;refine av 8 (λk z C=>z=(k:Int)/\Ext B C) ⟨rfl,.refl _ _⟩ ?_;rintro k _ C next hk ⟨rfl,W⟩ u
 have H:=e.trans W;have len:∀l∈ls,l.length<=17592186043904:=λl h=>by have:=hl l h;omega
 refine ah (λhc=>?_) λhc=>hK C H;have Z:k<8:=by simp at hc;omega
 refine⟨⟨by omega,by omega⟩,?_⟩;obtain⟨n,o,q,hx⟩:∃n o q:Int,∀i,i<6->(#[.int .i64 (0:Int),.int .i64 (0:Int),.int .i64 (2:Int),.int .i64 (1:Int),.int .i64 (0:Int),.int .u64 (0:Int),.int .i64 (0:Int),.int .i64 (0:Int),.int .i64 (9:Int),.int .i64 (1:Int),.int .i64 (0:Int),.int .u64 (0:Int),.int .i64 (0:Int),.int .i64 (0:Int),.int .i64 (3:Int),.int .i64 (17:Int),.int .i64 (0:Int),.int .u64 (0:Int),.int .i64 (0:Int),.int .i64 (0:Int),.int .i64 (3:Int),.int .i64 (-1:Int),.int .i64 (0:Int),.int .u64 (0:Int),.int .i64 (0:Int),.int .i64 (0:Int),.int .i64 (-1:Int),.int .i64 (0:Int),.int .i64 (0:Int),.int .u64 (0:Int),.int .i64 (0:Int),.int .i64 (0:Int),.int .i64 (3:Int),.int .i64 (0:Int),.int .i64 (0:Int),.int .u64 (0:Int),.int .i64 (0:Int),.int .i64 (0:Int),.int .i64 (8:Int),.int .i64 (1:Int),.int .i64 (0:Int),.int .u64 (0:Int),.int .i64 (0:Int),.int .i64 (1:Int),.int .i64 (9:Int),.int .i64 (16:Int),.int .i64 (0:Int),.int .u64 (0:Int)]:Array gp)[k*6+i]?=(#[.int .i64 0,.int .i64 n,.int .i64 o,.int .i64 q,.int .i64 0,.int .u64 0]:Array gp)[i]?:=by
  have a:∀{p:Nat->Prop},p 0->p 1->p 2->p 3->p 4->p 5->∀i,i<6->p i:=λh0 h1 h2 h3 h4 h5 i hi=>by
   rcases (by omega:i=0\/i=1\/i=2\/i=3\/i=4\/i=5) with rfl|rfl|rfl|rfl|rfl|rfl<;>assumption
  rcases (by omega:k=0\/k=1\/k=2\/k=3\/k=4\/k=5\/k=6\/k=7) with rfl|rfl|rfl|rfl|rfl|rfl|rfl|rfl
  ·exact⟨0,2,1,a rfl rfl rfl rfl rfl rfl⟩
  ·exact⟨0,9,1,a rfl rfl rfl rfl rfl rfl⟩
  ·exact⟨0,3,17,a rfl rfl rfl rfl rfl rfl⟩
  ·exact⟨0,3,-1,a rfl rfl rfl rfl rfl rfl⟩
  ·exact⟨0,-1,0,a rfl rfl rfl rfl rfl rfl⟩
  ·exact⟨0,3,0,a rfl rfl rfl rfl rfl rfl⟩
  ·exact⟨0,8,1,a rfl rfl rfl rfl rfl rfl⟩
  ·exact⟨1,9,16,a rfl rfl rfl rfl rfl rfl⟩
 rw[Int.toNat_natCast,bg];refine⟨(0,n,o,q,0,0),ao.lX (r.ext W) (ds:=#[.int .i64 0,.int .i64 n,.int .i64 o,.int .i64 q,.int .i64 0,.int .u64 0]) rfl hx,?_⟩;refine au λD1 z1 r1 e1=>?_;refine ao.iE r1 (cs:=#[.int .i64 0,.int .i64 n,.int .i64 o,.int .i64 q,.int .i64 0,.int .u64 0]) GM Nw (by simp[Value.oneCell']) λD2 r2 m2 y2=>?_;refine r2.st (by simp) rfl λD3 r3 m3 y3=>?_;refine r3.st (by simp) rfl λD4 r4 m4 y4=>?_;have new:∀{X Y:aa},Ext C X->Mod (λb=>b=C.size) X Y->Ext C Y:=λh m=>h.pX m λb hb=>by omega
 have e4:Ext C D4:=new (new (new e1 m2) m3) m4;have I:ao D4 C.size AS #[.int .i64 50,.int .i64 n,.int .i64 o,.int .i64 q,.int .i64 (-1),.int .u64 0]:=r4;refine ao.cN (x:=(50,n,o,q,-1,0)) I rfl rfl ?_;have v:=H.trans e4;refine jk (hg.mod v id) (by show (50:Int)<=_;decide) (by show (-1:Int)<=_;decide) (L.og v) len λE eE=>aE rfl ?_;refine ao.cN (x:=(50,n,o,q,-1,0)) (I.ext eE) rfl rfl ?_;refine au λF zF rF eF=>?_;have w:=(v.trans eE).trans eF;refine iz (hg.mod w id) (by show (50:Int)<=_;decide) (by show (-1:Int)<=_;decide) (L.og w) (lb:=[]) ⟨rfl,λi hi=>by cases hi⟩ (L.og w) (dw rF [0,1,2] rfl rfl) λG eG=>aE rfl ?_;exact u Z _ _ ⟨aD k (by omega),(((W.trans e4).trans eE).trans eF).trans eG⟩
theorem Eo (L:Gl A){w x M:hY}{T lb:List (List Int)}{b:Nat}(y:M=⟨b,0,none⟩)(N:Rows A (Sl.mk (some w) 3 3) T)(O:Rows A (Sl.mk (some x) 2 2) lb){cs:Array gp}{t:TypeId}(r:ao A b t cs)(U:∀i,i<7->∃s l,cs[i]?=some (aq.enc s)/\Ints .i64 A s l)(V:∀B,Ext A B->K B):
  ay Int (0:Int) A λe c j=>br (decide (c<(7:Int))) ((0<=c/\c<(7:Int))/\ld aq j (M.add (c.toNat*1)) λ(d:Sl)=>ay Int (-1:Int) j λf g n=>br (decide (g<(30:Int))) (DA.sp (40:Int) (0:Int) (0:Int) (1:Int) g (9:Int) (Sl.mk (some w) 3 3) (Sl.mk (some x) 2 2) (Sl.mk none 0 0) d n λ(G:Bool) o=>br (!G) (R false o) (DA.sp g (0:Int) (0:Int) (1:Int) (-1:Int) (0:Int) (Sl.mk (some w) 3 3) (Sl.mk (some x) 2 2) (Sl.mk none 0 0) d o λ(H:Bool) p=>br (!H) (R false p) (f (QI.wrap (g+(3:Int))) p))) (e (QI.wrap (c+(1:Int))) n)) (K j):=by
 subst y;refine av 7 (λk z C=>z=(k:Int)/\Ext A C) ⟨rfl,.refl _ _⟩ ?_;rintro k _ C next hk ⟨rfl,I⟩ m
 refine ah (λP=>?_) λP=>V C I;have q:k<7:=by simp at P;omega
 obtain⟨s,l,hs,hl⟩:=U k q;refine⟨⟨by omega,by omega⟩,ao.I7 (r.ext I) hs ?_⟩;refine av 11 (λi z D=>z=3*(i:Int) - 1/\Ext C D) ⟨rfl,.refl _ _⟩ ?_;rintro i _ D X hi ⟨rfl,Q⟩ J;have a:=I.trans Q;refine ah (λu=>?_) λu=>?_
 ·have v:i<11:=by simp at u;omega
  refine iz (L.mod a id) (by decide) (by omega) (N.og a) (O.og a) (lc:=[]) ⟨rfl,λi hi=>by cases hi⟩ (hl.ext a) λE S=>aE rfl ?_;have h:=a.trans S;refine iz (L.mod h id) (by omega) (by decide) (N.og h) (O.og h) (lc:=[]) ⟨rfl,λi hi=>by cases hi⟩ (hl.ext h) λF W=>aE rfl ?_;refine J v _ _ ⟨?_,(Q.trans S).trans W⟩;rw[wrap64 (by omega) (by omega)];omega
 ·exact m q _ _ ⟨aD k (by omega),a⟩
set_option maxHeartbeats 1000000 in
theorem It (o:Gl A)(hK:∀B,Ext A B->R true B):
  ay ByteArray (Q4 #[120]) A λc a r=>br (decide ((a.size:Int)<(99:Int))) (((a.size+(Q4 #[120]).size:Nat):Int)<=9223372036854775807/\c (a++(Q4 #[120])) r) (Fj.sp (9:Int) r λ(d:Option hY) H=>Fp.sp d (8:Int) H λ(I:(Option hY×Int)) J=>zg.sp I.1 a (1:Int) (3:Int) J λ(e:(Option hY×Int)) L=>vU.sp e.1 L λ(M:(Int×Int)) s=>br ((e.2==(0:Int))&&(M.2==(2:Int))) (aG s #[.int .u64 (1:Int)] fM λt N=>so.sp e.1 (Sl.mk (some t) 1 1) N λ(v:Int) w=>br (v==(2:Int)) (JS.sp (1:Int) (3:Int) (Sl.mk none 0 0) w λ(y:Bool) D=>br y (yF.sp D λ(E:Bool) O=>R E O) (R false D)) (R false w)) (R false s)):=by
 refine av 98 (λk z C=>z.size=k+1/\C=A) ⟨rfl,rfl⟩ ?_;rintro k nm C next hk ⟨hz,rfl⟩ g
 refine ah (λQ=>?_) λQ=>?_
 ·have F:k<98:=by simp at Q;omega
  have j:(Q4 #[120]).size=1:=by decide
  exact⟨by rw[j];omega,g F _ _ ⟨by rw[ByteArray.size_append,hz,j],rfl⟩⟩
 have S:nm.size=99:=by simp at Q;omega
 have af:=o.lt;refine yk (by decide) λF1 d H1 a1 j f1=>?_;refine lr (m:=8) (o.mod j id) a1 (λq=>by have:=f1 _ q;omega) (by decide) (by decide) λP p l T x2 w2=>?_;have z1:=j.size;have h:bY C (λ_=>False) C l P (λ_=>False):=⟨j.trans x2,λb G=>(w2 b G).elim (f1 b) λu=>by omega,λ_ q=>q.elim,λ_ _ q=>q,λ_ q=>q.elim⟩;have l2:=T.lt;refine mO T (λn1=>absurd n1 (by unfold eY;rw[if_neg (by decide),if_neg (by decide)];simp)) λ_ _ W X s3=>?_;have z2:=h.ext.size;have Y:∀b,cc l.size aY [] aY b->b=l.size:=by
  rintro b (u|u|⟨x,hx,_⟩|u)
  ·exact u
  ·exact absurd u (aU b)
  ·cases hx
  ·exact absurd u (aU b)
 have S3:fY W d p l.size (λb=>P b\/cc l.size aY [] aY b) (me (oe 9) 8) (qJ nm 1 3):=⟨P,aY,[],aY,rfl,T.ext X,s3,λb G u=>by have:=Y b u;have:=l2 b G;omega⟩;have i:bY C (λ_=>False) C W (λb=>P b\/cc l.size aY [] aY b) (λ_=>False):=⟨h.ext.trans X,λb G=>G.elim (h.n1 b) λu=>by have:=Y b u;omega,λ_ q=>q.elim,λ_ _ q=>q,λ_ q=>q.elim⟩;have b0:Bd (me (oe 9) 8) 1 0:=⟨λf hf=>by simp[me] at hf,by decide,by decide,by decide⟩;have Z:tK (qJ nm 1 3) 1 3 0:=⟨by show nm.size<=100;omega,rfl,rfl,by simp[qJ],rfl,λn hn=>(by cases hn),rfl⟩;refine S3.done (o.mod i.ext id) (λq=>by have:=i.n1 _ q;omega) Z (by decide) (by decide) (by decide) (by decide) b0 (Z.xO (by decide) (by decide) (by decide)) (by decide) (by decide) λX4 H4 q4 S4 _=>?_;obtain⟨t1,t2,t3⟩:((qJ nm 1 3).done (me (oe 9) 8)).2.2.1=0/\((qJ nm 1 3).done (me (oe 9) 8)).2.2.2=2/\((qJ nm 1 3).done (me (oe 9) 8)).2.1.ready=2:=(DR S _).resolve_right (by decide);rw[t2];have U:=i.jE S4 λ_ u=>u.elim;refine aR rfl ?_;refine au λH5 z5 r5 e5=>?_;refine(q4.mod e5 λ_ _=>id).add (by rw[t3];decide) ?_;rw[t3];refine aR rfl ?_;have V:=U.ext.trans e5;refine uZ (o.mod V id) λH7 e7=>aR rfl ?_;exact jY (o.mod (V.trans e7) id) λH8 e8=>hK H8 ((V.trans e7).trans e8)
end
section
variable {H:aa}{R:Bool->aa->Prop}
set_option maxHeartbeats 4000000 in
theorem uD (q:Gl H)(hK:∀B,Ext H B->R true B):M9.sp H R:=by
 refine M9.of ?_;unfold M9.vc;refine au λA0 z0 r0 e0=>?_;refine av 12 (λk z C=>z=(k:Int)/\Ext A0 C) ⟨rfl,.refl _ _⟩ ?_;rintro k _ C next hk ⟨rfl,t⟩ b
 have c:=e0.trans t;refine ah (λU=>?_) λU=>?_
 ·have d:k<12:=by simp at U;omega
  obtain⟨n,hn,e,u⟩:∃n:Nat,(#[.int .i64 (0:Int),.int .i64 (1:Int),.int .i64 (8:Int),.int .i64 (9:Int),.int .i64 (10:Int),.int .i64 (18:Int),.int .i64 (19:Int),.int .i64 (27:Int),.int .i64 (28:Int),.int .i64 (30:Int),.int .i64 (45:Int),.int .i64 (60:Int)]:Array gp)[k]?=some ((ab .i64).enc (n:Int))/\n<=60/\oR n=true/\oM n=true/\oV n=true:=by
   rcases (by omega:k=0\/k=1\/k=2\/k=3\/k=4\/k=5\/k=6\/k=7\/k=8\/k=9\/k=10\/k=11) with rfl|rfl|rfl|rfl|rfl|rfl|rfl|rfl|rfl|rfl|rfl|rfl
   ·exact⟨0,rfl,by decide,N5,NU,Oz⟩
   ·exact⟨1,rfl,by decide,NO,NP,Oj⟩
   ·exact⟨8,rfl,by decide,Oi,Ov,OA⟩
   ·exact⟨9,rfl,by decide,N9,Od,N3⟩
   ·exact⟨10,rfl,by decide,Mo,MI,Mp⟩
   ·exact⟨18,rfl,by decide,Ns,Nc,Nn⟩
   ·exact⟨19,rfl,by decide,MC,NC,NB⟩
   ·exact⟨27,rfl,by decide,MB,MD,MR⟩
   ·exact⟨28,rfl,by decide,Nz,Ni,MF⟩
   ·exact⟨30,rfl,by decide,Np,MW,M5⟩
   ·exact⟨45,rfl,by decide,Mu,Ms,MO⟩
   ·exact⟨60,rfl,by decide,MQ,NA,MT⟩
  refine⟨⟨by omega,by omega⟩,ao.I7 (r0.ext t) hn ?_⟩;refine Ip e λs rs D ro r i=>?_;refine Bp (q.mod (c.trans r) id) e ro.rows u λE v=>?_;exact b d _ _ ⟨aD k (by omega),(t.trans r).trans v⟩
 ·have w:=q.mod c id;refine jR.make (base:=C.size) (by omega) (Int.le_refl _) (by omega) (by omega) (Nat.le_refl _) λsl A1 ln ol e1 af _=>?_;refine au λA2 z2 r2 V=>?_;refine au λA3 z3 r3 x=>?_;have y:=e1.trans V;have f:=y.trans x;have F:aO A3 C.size fM 1 sl ((Q6 16 0).map (Value.int .u64)):=(ol.ext V).ext x;have G:=tR r3 [(sl,Q6 16 0),(Sl.mk (some ⟨A1.size,0,none⟩) 1 1,[1]),(Sl.mk none 0 0,[])] rfl (λp a=>by
   simp only[QX,Wk,or_false] at a;rcases a with rfl|rfl|rfl
   ·exact F.ints
   ·exact dw (r2.ext x) [1] rfl rfl
   ·exact⟨rfl,Reads.nil _ _⟩) (n:=3) rfl
  refine HS (w.mod f id) G (λl hl=>?_) λB eB=>?_
  ·simp only[List.map_cons,List.map_nil,QX,Wk,or_false] at hl;rcases hl with rfl|rfl|rfl<;>simp
  refine au λB1 y1 q1 x1=>?_;refine au λB2 y2 q2 x2=>?_;refine au λB3 y3 q3 x3=>?_;refine au λB4 y4 q4 x4=>?_;refine au λB5 y5 q5 x5=>?_;refine au λB6 y6 q6 x6=>?_;refine au λB7 y7 q7 x7=>?_;refine au λB8 y8 q8 x8=>?_;refine au λB9 y9 q9 x9=>?_;refine au λal an I J=>?_;refine au λa1 a6 L M=>?_;refine au λa7 a8 N O=>?_;refine au λbb bd P Q=>?_;refine au λbh bl S T=>?_;have g:=T;have h:=Q.trans g;have j:=O.trans h;have m:=M.trans j;have W:=J.trans m;have u8:=x9.trans W;have X:=x8.trans u8;have Y:=x7.trans X;have Z:=x6.trans Y;have u4:=x5.trans Z;have u3:=x4.trans u4;have u2:=x3.trans u3;have u1:=x2.trans u2;have u0:=x1.trans u1;have eH:=(c.trans f).trans (eB.trans u0);have ra:=tR (q4.ext u4) [(Sl.mk (some ⟨B.size,0,none⟩) 1 1,[5]),(Sl.mk (some ⟨B1.size,0,none⟩) 1 1,[1]),(Sl.mk (some ⟨B2.size,0,none⟩) 1 1,[3])] rfl (λp a=>by
   simp only[QX,Wk,or_false] at a;rcases a with rfl|rfl|rfl
   ·exact dw (q1.ext u1) [5] rfl rfl
   ·exact dw (q2.ext u2) [1] rfl rfl
   ·exact dw (q3.ext u3) [3] rfl rfl) (n:=3) rfl
  have rb:=tR (q7.ext X) [(Sl.mk (some ⟨B4.size,0,none⟩) 1 1,[3]),(Sl.mk (some ⟨B5.size,0,none⟩) 1 1,[4])] rfl (λp a=>by
   simp only[QX,Wk,or_false] at a;rcases a with rfl|rfl
   ·exact dw (q5.ext Z) [3] rfl rfl
   ·exact dw (q6.ext Y) [4] rfl rfl) (n:=2) rfl
  refine Eo (q.mod eH id) rfl ra rb S (λi hi=>?_) λD r=>?_
  ·rcases (by omega:i=0\/i=1\/i=2\/i=3\/i=4\/i=5\/i=6) with rfl|rfl|rfl|rfl|rfl|rfl|rfl
   ·exact⟨Sl.mk none 0 0,[],rfl,rfl,Reads.nil _ _⟩
   ·exact⟨_,_,rfl,dw (q8.ext u8) [0] rfl rfl⟩
   ·exact⟨_,_,rfl,dw (q9.ext W) [0,0] rfl rfl⟩
   ·exact⟨_,_,rfl,dw (I.ext m) [0,1] rfl rfl⟩
   ·exact⟨_,_,rfl,dw (L.ext j) [1,0,2] rfl rfl⟩
   ·exact⟨_,_,rfl,dw (N.ext h) [3] rfl rfl⟩
   ·exact⟨_,_,rfl,dw (P.ext g) [0,3] rfl rfl⟩
  ·have o:=eH.trans r;exact It (q.mod o id) λE v=>hK E (o.trans v)
end
end
