/-
 JoinAgree: for every input the law returns true, and its arguments read as before; the tables are laid as the program's text lays them. No condition beside that.
-/
import Derived.Carry
import Derived.Test.YtkehfflpbpdokaaGreatDoorJ26
import Derived.Test.YtkehfflpbpdokaaGreatDoorFxn
import Derived.Test.YtkehfflpbpdokaaGreatDoorFxt
import Derived.Test.YtkehfflpbpdokaaGreatDoorJ33
import Derived.Test.YtkehfflpbpdokaaGreatDoorJ36
import Derived.Test.YtkehfflpbpdokaaGreatDoorJ40
/-
 Merge's next row: the walk.
-/
open Bool renaming and_eq_true->Qz
open Go.Builtin renaming append_->Qo,copy_->Rh
open Go.ChangeSpec renaming witness_shaped->Y5
open Go.IntKind renaming i64->Qe,u64->Q0
open Go.Lit renaming wf->Y6
open Go.OpenClaim renaming holds_of_wide->Zd
open Go.OpenSpec renaming ofChange->Z5
open Go.Proofs.Tryz renaming prog->Qf,f4->TF,checked->Vz,func4->V3,params4->XO
open Go.Value renaming int->Ql
open Iff renaming rfl->TW
open Int renaming tdiv->Qy,toNat_natCast->QD,tdiv_eq_ediv_of_nonneg->Vc
open List renaming getElem?_eq_getElem->Qg,mem_append->Qj,getElem?_eq_some_iff->Qk,getElem_mem->Qn,mem_cons_self->Qp,mem_cons->Qs,length_append->Qt,length_take->Qw,mem_map->QB,replicate->QE,length_map->QI,length_cons->QJ,getElem?_append_left->QR,not_mem_nil->QT,mem_singleton->QV,nodup_append->QY,map_append->Q4,getElem?_take->Rb,getElem?_append_right->Re,append_assoc->Rg,mem_of_mem_take->Rl,mem_of_mem_drop->Rq,mem_iff_getElem->Rz,append_nil->RA,nil_append->RB,take_add_one->RC,length_singleton->RF,drop_eq_getElem_cons->RG,length_nil->R7,take_length->Sc,filter_cons->Su,length_filter_le->SK,nodup_nil->Ti,map_set->Tq,set_cons_zero->TQ,set_append_right->US,getElem_of_mem->V7
open List.Pairwise renaming nil->Tj
open List.Perm renaming refl->Vp
open Nat renaming le_refl->Qm,zero_le->QN,lt_or_ge->Q6,sub_self->UT,lt_trichotomy->Vr,lt_of_le_of_lt->WE
open Option.some renaming inj->Qq
namespace Go.Proofs.YtkehfflpbpdokaaGreatDoor
open Go.MapKept
section
variable {H0 A B:aa}{q:CB}{Ia Ib:List (List Int)->Jg}{Fa Fb J1 J2:Jg}{X X1 X2 O E:Nat->Prop}{xg yg:Bool}{LX BY g la ls T:List (List Int)}{k:Nat}
theorem MP.aE {xs:Option (List Int)}{l:List Int}(h:MP T ls xs (l::la) g BY k)(a:yU xs g k=[])(hk:gk g l=true):MP T ls (some l) la g BY 0:=by
 obtain⟨m1,m2⟩:=h.mg.aE hk;refine⟨?_,m1,QN _,λe=>(by cases e),h.mg.ascL,h.mg.l2,h.few⟩;rw[h.tell,a,RB,kZ,m2];rfl
theorem MP.next {xs:Option (List Int)}{l:List Int}{D a:List (List Int)}(h:MP T ls xs (l::la) g (D++a) k)(b:yU xs g k=[])(hk:gk g l=false)(c:∀d∈D,bN d<=bN l)(f:∀y∈a,bN l<bN y):MP T ls (some l) la (cH D l) a 0:=by
 obtain⟨m1,m2⟩:=h.mg.next hk c f;have f1:=h.few.2;rw[Qt] at f1;have f2:(cH D l).length<=D.length:=SK _ _;refine⟨?_,m1,QN _,λe=>(by cases e),h.mg.ascL,h.mg.l2,by omega,by omega⟩;rw[h.tell,b,RB,kZ,m2];rfl
theorem wW (D:List (List Int))(y l:List Int):cH (D++[y]) l=if bN y=bN l then cH D l++[y] else cH D l:=by
 rw[uW];unfold cH;by_cases h:bN y=bN l
 ·rw[if_pos h,Su,if_pos (decide_eq_true h)];rfl
 ·rw[if_neg h,Su,if_neg (by simpa using h)];exact RA _
theorem D0 {x:Sl}{l:List Int}(h:Ints .u64 A x l)(a:l.length=2):Ints .u64 A ⟨bF x.a x.c 0 1,(1:Int).toNat - 0,x.c - 0⟩ [bN l]:=by
 have:=h.take (i:=1) (by omega);rw[EK a] at this;exact this
set_option maxHeartbeats 4000000 in
set_option maxRecDepth 10000 in
theorem rR {K:(Sl×Bool×Int)->aa->Prop}(Ga:im H0 q.a 2 Ia Fa)(Gb:im H0 q.b 2 Ib Fb)(h:qM q Ia Fa Ib Fb T ls A X E)
  (bA:ls=[]->∀B X',HC Fa Ib Fb B X' E->Step X X' A B->K (Sl.mk none 0 0,false,0) B)
  (bB:∀l r x B X',ls=l::r->qM q Ia Fa Ib Fb T r B X' E->Step X X' A B->aA B 0 gM 1 x (l.map (Ql .u64))->(∀b,al x b->A.size<=b/\¬X' b)->K (x,true,0) B):sq.sp (av q.sb) A K:=by
 obtain⟨a6,H,g0,a7,yg,k0,s,Y1,Y2,O0,hx,w0,Z⟩:=h;have S0:Step X (Ow Y1 Y2 O0) A A:=⟨.refl _ _,λb u=>.inl ((hx b).2 u)⟩;have G:∀bg L,dO H0 (vf Ia Fa bg L):=fw Ga.law Ga.fin;have U:∀bg L,dO H0 (vf Ib Fb bg L):=fw Gb.law Gb.fin;refine qP Z.base.row (iI q.pK rfl (by kernel_rfl) ?_);refine HH.of (cap:=⟨q.py,0,none⟩) (cap1:=⟨q.pa,0,none⟩) (cap2:=⟨q.pg,0,none⟩) (cap3:=⟨q.px,0,none⟩) (cap4:=⟨q.pk,0,none⟩) ?_;unfold HH.vc
 -- the right one's first step
 refine⟨λ_ B=>OG q Ia Fa Ib Fb T ls A X E a6 H g0 a7 k0 B,?_,?_⟩
 ·refine ft (c:=aq) (x:=av q.yb) Z.base.cy ?_;refine aY ⟨q.yb,0,none⟩ rfl ?_;obtain⟨yv,yr,t⟩:=Z.yr;refine ab.ld (c:=aC) (i:=3) (x:=yg) yr rfl ?_;cases yg with
  |false=>
    refine aT rfl ?_;refine ft (c:=aq) (x:=av q.yb) Z.base.cy ?_;refine Fv Gb (G _ _) w0 Z (.inl rfl) s.mg.ascB s.mg.b2 λae D w c S=>?_;refine az rfl ?_;exact⟨Y1,ae,O0,s,w,c,S0.trans S⟩
  |true=>
    refine az rfl ?_;exact⟨Y1,Y2,O0,s,w0,Z,S0⟩
 ·rintro _ o I1;clear s w0 Z hx S0;refine⟨λ_ B=>∃z la g BY k,k<g.length/\OG q Ia Fa Ib Fb T ls A X E (some z) la g BY k B,?_,?_⟩
  ·refine ay H.length (λi _ B=>∃xs la g BY k,la.length+i<=H.length/\OG q Ia Fa Ib Fb T ls A X E xs la g BY k B) ⟨a6,H,g0,a7,k0,Qm _,I1⟩ ?_;rintro i _ B next hi ⟨xs,la,g,BY,k,hlen,X1,X2,O,mp,w,c,S⟩ af
   clear I1
   -- is another left row asked for?
   refine⟨λ_ B'=>B'=B/\yU xs g k=[],?_,?_⟩
   ·refine ft (c:=ai .i64) (x:=(k:Int)) c.ca ?_;obtain⟨gs,gr,rc,go⟩:=c.gr;refine ft (c:=au) (x:=gs) gr ?_;have gn:=rc.p.n;refine ao (λe=>?_) (λe=>?_)
    ·have e:(k:Int)=(gs.n:Int):=by simpa using e
     refine⟨rfl,?_⟩;cases xs with
     |none=>rfl
     |some x=>show (g.drop k).map _=[];rw[List.drop_of_length_le (by omega)];rfl
    ·have e:¬(k:Int)=(gs.n:Int):=by simpa using e
     refine ft (c:=aq) (x:=av q.xb) c.base.cx ?_;refine aY ⟨q.xb,0,none⟩ rfl ?_;obtain⟨xv,xr,I⟩:=c.xr;refine ab.ld (c:=aC) (i:=3) (x:=xs.isSome) xr rfl ?_;cases xs with
     |none=>exact aT rfl ⟨rfl,rfl⟩
     |some z=>
       have:=mp.le;exact az rfl ⟨z,la,g,BY,k,by omega,X1,X2,O,mp,w,c,S⟩
   ·rintro _ B' ⟨rfl,ht⟩
    -- the left one's next step
    refine ft (c:=aq) (x:=av q.xb) c.base.cx ?_;refine NI Ga (U _ _) w c (by cases xs with|none=>exact .inl rfl|some x=>exact .inr (by simp[LM])) mp.pS mp.l2 λa8 D w1 c1 S1=>?_;rw[IT] at w1 c1;refine az rfl ?_;refine ft (c:=aq) (x:=av q.xb) c1.base.cx ?_;refine aY ⟨q.xb,0,none⟩ rfl ?_;obtain⟨xv,xr,I⟩:=c1.xr;refine ab.ld (c:=aC) (i:=2) (x:=true&&!la.isEmpty) xr rfl ?_
    match la,hlen,mp,w1,c1,I with
    |[],hlen,mp,w1,c1,I=>
      refine aT rfl ?_;refine dW.no c1.base.row λF mF=>?_;obtain⟨V,S3⟩:=w1.own (O':=O) (G _ _) (U _ _) (mF.mono λb _ u=>u▸c1.base.o1.1) λb u=>.inl u;refine bA (by rw[mp.tell,ht];rfl) F _ (ur.mk (C:=λ_ _ _=>True) ⟨V.j1,⟨true,BY,V.j2⟩,V.o⟩ trivial) ((S.trans S1).trans S3)
    |l::n,hlen,mp,w1,c1,I=>
      have a1:=mp.mg.l2 l Qp;have g2:=mp.mg.g2;rw[QJ] at hlen;refine az rfl ?_;refine ab.st (i:=0) c1.ca (by simp) rfl λD2 r2 m2 z2=>?_;have r2:ab D2 q.pa bT #[.int .i64 ((0:Nat):Int)]:=r2;obtain⟨w2,S2⟩:=w1.own (O':=O) (G _ _) (U _ _) (m2.mono λb _ u=>u▸c1.base.o1.2.2.1) λb u=>.inl u;have c2:=c1.Oi sf r2 m2 (Al.bz S2);have ba:=(S.trans S1).trans S2
      -- does the group fit?
      refine⟨λ_ B'=>B'=D2/\gk g l=false,?_,?_⟩
      ·obtain⟨gs,gr,rc,go⟩:=c2.gr;refine ft (c:=au) (x:=gs) gr ?_;have gn:=rc.p.n;refine ao (λe=>?_) (λe=>?_)
       ·have e:0<g.length:=by
         have:(gs.n:Int)>0:=of_decide_eq_true e;omega
        refine ft (c:=au) (x:=gs) gr ?_;refine rc.Iw e rfl λa x ix z=>?_;have y2:=g2 g[0] (Qn e);have xn:=ix.len;refine ft (c:=ai .i64) (x:=1) c2.base.ck ?_;refine⟨⟨by decide,by omega⟩,?_⟩;refine ft (c:=aq) (x:=av q.xb) c2.base.cx ?_;refine aY ⟨q.xb,0,none⟩ rfl ?_;obtain⟨xl,J,f⟩:=c2.xr;have f:=f l n rfl rfl;refine ab.ld (c:=au) (i:=1) (x:=xl) J rfl ?_;refine ft (c:=ai .i64) (x:=1) c2.base.ck ?_;have bC:=f.ints.len;have bD:=f.o.cap;refine⟨⟨by decide,by omega⟩,?_⟩;refine dK (D0 ix y2) (D0 f.ints a1) (WE (Qm 1) (by decide)) ?_;rw[xD];have M:gk g l=decide (bN g[0]=bN l):=by
         match g,e with
         |y::r,_=>rfl
        refine ao (λe2=>?_) (λe2=>?_)
        ·have e2:bN g[0]=bN l:=by
          have:=eq_of_beq e2;split at this
          ·omega
          ·split at this
           ·omega
           ·omega
         exact⟨l,n,g,BY,0,e,a8,X2,O,mp.aE ht (by rw[M];exact decide_eq_true e2),w2,c2,ba⟩
        ·refine⟨rfl,?_⟩;rw[M];refine decide_eq_false λe3=>?_;rw[e3,if_neg (by omega),if_neg (by omega)] at e2;exact absurd e2 (by decide)
       ·refine⟨rfl,?_⟩;have:g=[]:=by
         have:¬(gs.n:Int)>0:=of_decide_eq_false e;exact List.length_eq_zero_iff.1 (by omega)
        rw[this];rfl
      ·rintro _ b3 ⟨rfl,M⟩;obtain⟨gs,gr,rc,go⟩:=c2.gr;refine ab.st (i:=0) gr (by simp) rfl λD3 r3 m3 z3=>?_;have r3:ab D3 q.pg cW #[(Sl.mk none 0 0).v]:=r3;obtain⟨V,S3⟩:=w2.own (O':=O) (G _ _) (U _ _) (m3.mono λb _ u=>u▸c2.base.o1.2.2.2) λb u=>.inl u;have c3:=c2.OF sf r3 m3 (Al.bz S3);refine ay BY.length (λj _ B=>∃D o,BY=D++o/\(∀d∈D,bN d<=bN l)/\o.length+j<=BY.length/\∃X1 X2 O,Wk (vf Ia Fa true (l::n)) (vf Ib Fb true o) B X1 X2 O E/\de q true (l::n) true o 0 (cH D l) O (Al X1 X2 O E) B/\Step X (Ow X1 X2 O) A B)
        ⟨[],BY,rfl,λd hd=>(by cases hd),Qm _,a8,X2,O,V,c3,ba.trans S3⟩ ?_
       rintro j _ B N hj ⟨W,o,Y,hD,Q,Z1,Z2,P,w4,m,S4⟩ R;clear w c w1 c1 w2 c2 V c3 rc gr I xr;refine ft (c:=aq) (x:=av q.yb) m.base.cy ?_;refine aY ⟨q.yb,0,none⟩ rfl ?_;obtain⟨yl,yr,t⟩:=m.yr;refine ab.ld (c:=aC) (i:=2) (x:=true&&!o.isEmpty) yr rfl ?_;have fin:(∀y∈o,bN l<bN y)->next () B:=λhB=>by
        have bE:MP T ls xs (l::n) g (W++o) k:=Y▸mp;exact af (by omega) _ _ ⟨some l,n,cH W l,o,0,by omega,Z1,Z2,P,bE.next ht M hD hB,w4,m,S4⟩
       have few:=mp.few.2;have ascB:dG o:=by have:=mp.mg.ascB;rw[Y] at this;exact this.sublist (List.sublist_append_right _ _)
       have b2:∀y∈o,y.length=2:=λy hy=>mp.mg.b2 y (by rw[Y];exact Qj.2 (.inr hy));have p:BY.length=W.length+o.length:=by rw[Y,Qt]
       match o,Y,Q,w4,m,yr,t,fin,ascB,b2,p with
       |[],Y,Q,w4,m,yr,t,fin,ascB,b2,p=>exact az rfl (fin λy hy=>by cases hy)
       |y::r,Y,Q,w4,m,yr,t,fin,ascB,b2,p=>
         have t:=t y r rfl rfl;have y2:=b2 y Qp;have yn:=t.ints.len;have yc:=t.o.cap;obtain⟨xl,J,f⟩:=m.xr;have f:=f l n rfl rfl;have bC:=f.ints.len;have bD:=f.o.cap;rw[QJ] at Q p;have again:∀{X1 X2 O:Nat->Prop} {C:aa},Wk (vf Ia Fa true (l::n)) (vf Ib Fb true r) C X1 X2 O E->de q true (l::n) true r 0 (cH (W++[y]) l) O (Al X1 X2 O E) C->Step X (Ow X1 X2 O) A C->bN y<=bN l->N () C:=λ{X1 X2 O C} w c S hy=>by
          refine R (by omega) _ _ ⟨W++[y],r,by rw[Y,Rg];rfl,λd hd=>?_,by omega,X1,X2,O,w,c,S⟩;rcases Qj.1 hd with u|u
          ·exact hD d u
          ·rw[QV.1 u];exact hy
         refine aT rfl ?_;refine ft (c:=aq) (x:=av q.yb) m.base.cy ?_;refine aY ⟨q.yb,0,none⟩ rfl ?_;refine ab.ld (c:=au) (i:=1) (x:=yl) yr rfl ?_;refine ft (c:=ai .i64) (x:=1) m.base.ck ?_;refine⟨⟨by decide,by omega⟩,?_⟩;refine ft (c:=aq) (x:=av q.xb) m.base.cx ?_;refine aY ⟨q.xb,0,none⟩ rfl ?_;refine ab.ld (c:=au) (i:=1) (x:=xl) J rfl ?_;refine ft (c:=ai .i64) (x:=1) m.base.ck ?_;refine⟨⟨by decide,by omega⟩,?_⟩;refine dK (D0 t.ints y2) (D0 f.ints a1) (WE (Qm 1) (by decide)) ?_;rw[xD];refine ao (λe=>?_) (λe=>?_)
         ·have hle:bN y<=bN l:=by
           have e:=of_decide_eq_true e;split at e
           ·omega
           ·split at e<;>omega
          refine ft (c:=aq) (x:=av q.yb) m.base.cy ?_;refine aY ⟨q.yb,0,none⟩ rfl ?_;refine ab.ld (c:=au) (i:=1) (x:=yl) yr rfl ?_;refine ft (c:=ai .i64) (x:=1) m.base.ck ?_;refine⟨⟨by decide,by omega⟩,?_⟩;refine ft (c:=aq) (x:=av q.xb) m.base.cx ?_;refine aY ⟨q.xb,0,none⟩ rfl ?_;refine ab.ld (c:=au) (i:=1) (x:=xl) J rfl ?_;refine ft (c:=ai .i64) (x:=1) m.base.ck ?_;refine⟨⟨by decide,by omega⟩,?_⟩;refine dK (D0 t.ints y2) (D0 f.ints a1) (WE (Qm 1) (by decide)) ?_;rw[xD];refine ao (λe2=>?_) (λe2=>?_)
          ·have e2:bN y=bN l:=by
            have:=eq_of_beq e2;split at this
            ·omega
            ·split at this
             ·omega
             ·omega
           obtain⟨bl,bs,b4,b5⟩:=m.gr;refine⟨λH'=>Ext B H',.refl _ _,?_⟩;refine ab.bW (c:=au) (i:=0) (x:=bl) (cs:=λ_=>#[bl.v]) (λD hD=>bs.ext hD) (λ_ _=>rfl) ?_;refine ft (c:=aq) (x:=av q.yb) m.base.cy ?_;refine aY ⟨q.yb,0,none⟩ rfl ?_;refine ab.ld (c:=au) (i:=1) (x:=yl) yr rfl ?_;refine⟨Mod.push _ _ _,?_⟩;have bG:(cH W l).length<=1000:=by
            have:(cH W l).length<=W.length:=SK _ _;omega
           refine NF (G _ _) (U _ _) w4 m bs bG t λs' C b0 b1=>?_;refine ab.st (i:=0) b0 (by simp) (by cases s';rfl) λD5 r5 m5 z5=>?_;have r5:ab D5 q.pg cW #[s'.v]:=r5;obtain⟨O',w5,c5,S5⟩:=b1 D5 r5 m5;refine ft (c:=aq) (x:=av q.yb) c5.base.cy ?_;refine Fv Gb (G _ _) w5 c5 (.inr (by simp)) ascB b2 λae D6 w6 c6 S6=>?_;refine az rfl ?_;refine again w6 ?_ ((S4.trans S5).trans S6) hle;rw[wW,if_pos e2];exact c6
          ·have e2:bN y≠bN l:=λe3=>by
            rw[e3,if_neg (by omega),if_neg (by omega)] at e2;exact absurd e2 (by decide)
           refine ft (c:=aq) (x:=av q.yb) m.base.cy ?_;refine Fv Gb (G _ _) w4 m (.inr (by simp)) ascB b2 λae D6 w6 c6 S6=>?_;refine az rfl ?_;refine again w6 ?_ (S4.trans S6) hle;rw[wW,if_neg e2];exact c6
         ·refine fin (beyond ascB b2 ?_);have e:=of_decide_eq_false e;split at e
          ·omega
          ·split at e
           ·assumption
           ·omega
  ·-- a pair is told
   rintro _ B ⟨z,la,g,BY,k,hk,X1,X2,O,mp,w,c,S⟩;have few:=mp.few.1;refine ft (c:=ai .i64) (x:=(k:Int)) c.ca ?_;rw[aH k (by omega)];refine ab.st (i:=0) c.ca (by simp) rfl λD rD mD zD=>?_;have rD:ab D q.pa bT #[.int .i64 ((k+1:Nat):Int)]:=rD;obtain⟨w2,S2⟩:=w.own (O':=O) (G _ _) (U _ _) (mD.mono λb _ u=>u▸c.base.o1.2.2.1) λb u=>.inl u;have c2:=c.Oi sf rD mD (Al.bz S2);refine ft (c:=aq) (x:=av q.xb) c2.base.cx ?_;refine aY ⟨q.xb,0,none⟩ rfl ?_;obtain⟨xl,xr,I⟩:=c2.xr;have I:=I z la rfl rfl;have x2:=mp.l2 z Qp;refine ab.ld (c:=au) (i:=1) (x:=xl) xr rfl ?_;obtain⟨gs,gr,rc,go⟩:=c2.gr;refine ft (c:=au) (x:=gs) gr ?_;refine ft (c:=ai .i64) (x:=((k+1:Nat):Int)) rD ?_;have hw:Qe.wrap (((k+1:Nat):Int) - 1)=(k:Int):=by rw[wrap64 (by omega) (by omega)];omega
   rw[hw];refine rc.Iw hk rfl λa x ix _=>?_;have y2:=mp.mg.g2 g[k] (Qn hk);refine xp I.ints ix (by omega) (by omega) λout F oF eF fF=>?_;obtain⟨V,S3⟩:=w2.grow (G _ _) (U _ _) eF;have c3:=jb c2 eF.mod (Al.bz S3);have bb:=w2.nv (G _ _) (U _ _);have tell:ls=(z++g[k])::(yU (some z) g (k+1)++bO la T):=by
    rw[mp.tell];show (g.drop k).map _++_=_;rw[RG hk];rfl
   refine dW.ok c3.base.row (bB (z++g[k]) _ out F (Ow X1 X2 O) tell ⟨some z,la,g,BY,true,k+1,⟨rfl,mp.mg,hk,λe=>(by cases e),mp.pS,mp.l2,mp.few⟩,ur.mk V c3⟩ ((S.trans S2).trans S3) oF λb hb=>?_);have b6:=fF b hb;exact⟨by have:=(S.trans S2).mod.size;omega,λu=>by have:=(bb.x b u).1;omega⟩
end
structure Kd where
 a:Nat
 rb:Nat
 sb:Nat
 pL:Nat
 pR:Nat
 pX:Nat
 pY:Nat
 lc:Sl
 rc:Sl
 un:Sl
def Kd.pK (q:Kd):Array Value:=#[.pointer (av q.pL),.pointer (av q.pX),.pointer (av q.pR),.pointer (av q.pY)]
def Kd.fn (q:Kd):Value:=.func (.func AL.no) #[] q.pK
structure Ho (q:Kd)(O Y:Nat->Prop)(A:aa):Prop where
 o1:O q.sb/\O q.pL/\O q.pR
 o2:O q.pX/\O q.pY
 o3:(∀b,al q.lc b->O b)/\∀b,al q.rc b->O b
 row:ab A q.sb jJ (fh 2 q.fn q.un 0 .nilIface false false)
 cL:ab A q.pL yC #[.pointer (av q.a)]
 cR:ab A q.pR DD #[.pointer (av q.rb)]
 cX:ab A q.pX dX #[q.lc.v]
 cY:ab A q.pY dX #[q.rc.v]
 ol:aA A 0 bT 1 q.lc ([0].map (Ql .i64))
 or:aA A 0 bT 1 q.rc ([0].map (Ql .i64))
theorem uu (l:List Int)(r T:List (List Int)):cJ (l::r) T=if cH T l=[] then l::cJ r T else cJ r T:=by
 unfold cJ;rw[Su];cases h:cH T l<;>simp
section
variable {H0 A B:aa}{q:Kd}{n0:Nat}{So Sd Sn ls:List (List Int)}{X E:Nat->Prop}{Il:List (List Int)->Jg}{Fl:Jg}
theorem fk:qK (Ho q):=λ{O Y j A B} h m l=>by
 obtain⟨⟨o1,o2,o3⟩,⟨e,f⟩,⟨i,a⟩,r,cL,cR,cX,cY,ol,c⟩:=h;exact⟨⟨o1,o2,o3⟩,⟨e,f⟩,⟨i,a⟩,r.mod m λu=>u.2 o1,cL.mod m λu=>u.2 o2,cR.mod m λu=>u.2 o3,cX.mod m λu=>u.2 e,cY.mod m λu=>u.2 f,ol.mod m λb d u=>u.2 (i b d),c.mod m λb d u=>u.2 (a b d)⟩
def vF (H0:aa)(q:Kd)(Il:List (List Int)->Jg)(So Sd Sn:List (List Int))(n0:Nat)(ls:List (List Int)):Jg:=λA X E=>
 ∃r,(ls=cJ r (fH (So++Sd))/\∀y∈r,y.length=2)/\ur (Il r) (cE H0 q.rb So Sd Sn (r.length+n0)) (Ho q) A X E
theorem Dl (L:∀r,dO H0 (Il r)):dO H0 (vF H0 q Il So Sd Sn n0 ls):=by
 unfold vF;exact dO.ex λr=>dO.and (je (L r) aO fk)
def LI (H0:aa)(q:Kd)(Fl:Jg)(So Sd Sn:List (List Int))(n0:Nat):Jg:=ur Fl (cE H0 q.rb So Sd Sn n0) (λ_ _ _=>True)
set_option maxHeartbeats 2000000 in
set_option maxRecDepth 10000 in
theorem uG {K:(Sl×Bool×Int)->aa->Prop}(hg:Gl H0)(n:fe So Sd Sn)(G:im H0 q.a 2 Il Fl)(h:vF H0 q Il So Sd Sn n0 ls A X E)
  (W:ls=[]->∀B X',LI H0 q Fl So Sd Sn n0 B X' E->Step X X' A B->K (Sl.mk none 0 0,false,0) B)
  (Y:∀l r x B X',ls=l::r->vF H0 q Il So Sd Sn n0 r B X' E->Step X X' A B->aA B 0 gM 1 x (l.map (Ql .u64))->(∀b,al x b->A.size<=b/\¬X' b)->K (x,true,0) B):sq.sp (av q.sb) A K:=by
 obtain⟨T,N⟩:∃T,T=fH (So++Sd):=⟨_,rfl⟩;have T2:∀y∈T,y.length=2:=λy P=>by
  rw[N,(bR _).mem_iff] at P;exact(n.mem y (Qj.2 (.inl P))).1
 obtain⟨r0,⟨g1,g2⟩,Y1,Y2,O0,hx,w0,c0⟩:=h;refine qP c0.row (iI q.pK rfl (by kernel_rfl) ?_);refine AL.of (cap:=⟨q.pL,0,none⟩) (cap1:=⟨q.pX,0,none⟩) (cap2:=⟨q.pR,0,none⟩) (cap3:=⟨q.pY,0,none⟩) ?_;unfold AL.vc;refine ay r0.length (λi _ B=>∃r X1 X2 O,(ls=cJ r T/\(∀y∈r,y.length=2)/\r.length+i<=r0.length)/\Wk (Il r) (cE H0 q.rb So Sd Sn (r.length+n0)) B X1 X2 O E/\Ho q O (Al X1 X2 O E) B/\Step X (Ow X1 X2 O) A B) ⟨r0,Y1,Y2,O0,⟨by rw[N];exact g1,g2,Qm _⟩,w0,c0,.refl _ _,λb u=>.inl ((hx b).2 u)⟩ ?_;rintro i _ B next hi ⟨r,X1,X2,O,⟨s,e2,Q⟩,w,c,S⟩ o
 clear w0 c0 hx;refine ft (c:=aq) (x:=av q.a) c.cL ?_
 match r,s,e2,Q,w,c with
 |[],s,e2,Q,w,c=>
   refine G.stop w.j1 λC a j H=>?_;obtain⟨w',t⟩:=w.l aO G.fin j H;have v:=fk c (w.zr (G.law _) H.mod) (Al.bz t);refine aT rfl ?_;refine dW.no v.row λF mF=>?_;obtain⟨d,z⟩:=w'.own (O':=O) G.fin aO (mF.mono λb _ u=>u▸v.o1.1) λb u=>.inl u;have d:Wk Fl (cE H0 q.rb So Sd Sn n0) F a X2 O E:=⟨d.j1,by have:=d.j2;rwa [R7,Nat.zero_add] at this,d.o⟩;exact W s F _ (ur.mk d trivial) ((S.trans t).trans z)
 |l::r',s,e2,Q,w,c=>
   have ae:=e2 l Qp;have b0:=w.nv (G.law _) aO;have r2:∀y∈r',y.length=2:=λy P=>e2 y (List.mem_cons_of_mem _ P);rw[QJ] at Q;refine G.step w.j1 λx C a j H ox fx=>?_;obtain⟨w',t⟩:=w.l aO (G.law _) j H;have v:=fk c (w.zr (G.law _) H.mod) (Al.bz t);have xf:gP (Al a X2 O E) C x l:=⟨ox,λb R u=>by
    have af:=fx b R;rcases u with u|u|u|u
    ·have:=(b0.e b u).1;omega
    ·exact af.2 u
    ·have:=(b0.x b (.inr (.inl u))).1;omega
    ·have:=(b0.x b (.inr (.inr u))).1;omega⟩
   refine az rfl ?_;refine ft (c:=au) (x:=q.lc) v.cX ?_;refine fZ xf.ints v.ol.ints (by decide) λwd D1 o1 p=>?_;rw[qQ ae] at o1;obtain⟨d,z⟩:=w'.grow (G.law _) aO p;have I:=fk v p.mod (Al.bz z);have a1:gP (Al a X2 O E) D1 x l:=xf.step (Z:=λ_=>False) p (λb _ u=>u.elim) (Al.bz z);refine ft (c:=aq) (x:=av q.rb) I.cR ?_;refine ft (c:=au) (x:=q.rc) I.cY ?_;have d:Wk (Il r') (cE H0 q.rb So Sd Sn ((r'.length+n0)+1)) D1 a X2 O E:=⟨d.j1,by have:=d.j2;rwa [QJ,Nat.add_right_comm] at this,d.o⟩;refine sV (cl:=[0]) (wl:=[bN l]) n d.j2 (.inr ⟨bN l,rfl,rfl⟩) I.or.ints I.or.cap o1.ints λcb D2 a6 j2 S4 _ _=>?_;rw[<-N,Cv T2] at j2;obtain⟨J,f⟩:=d.r (G.law _) bY j2 S4;have c4:=fk I (d.ym aO S4.mod) (Al.bz f);have a7:gP (Al a a6 O E) D2 x l:=a1.step S4.mod (λb _ u=>.inr (.inr (.inl u))) (Al.bz f);refine ue hg n (by simp) (by simp) J.j2 (λe0 D3 U j3 D=>?_) (λm a8 y D3 U e0 hm j3 D oy fy=>?_)
   ·obtain⟨L,e⟩:=J.r (G.law _) aO j3 D;have V:=fk c4 (J.ym bY D.mod) (Al.bz e);have M:gP (Al a U O E) D3 x l:=a7.step D.mod (λb _ u=>.inr (.inr (.inl u))) (Al.bz e);refine aT rfl ?_;have SS:=((((S.trans t).trans z).trans f).trans e);refine dW.ok V.row (Y l (cJ r' T) x D3 (Ow a U O) (by rw[s,uu,if_pos e0]) ⟨r',⟨by rw[N],r2⟩,ur.mk L V⟩ SS M.o λb R=>⟨?_,λu=>M.off b R (.inr u)⟩);have:=(fx b R).1;have:=S.mod.size;omega
   ·obtain⟨L,e⟩:=J.r (G.law _) bY j3 D;have V:=fk c4 (J.ym bY D.mod) (Al.bz e);refine az rfl ?_;have SS:=((((S.trans t).trans z).trans f).trans e);exact o (by omega) _ _ ⟨r',a,U,O,⟨by rw[s,uu,if_neg (by rw[e0];simp)],r2,by omega⟩,⟨L.j1,L.j2.rest,L.o⟩,V,SS⟩
theorem DE (f:Gl H0)(a:fe So Sd Sn)(G:im H0 q.a 2 Il Fl):im H0 q.sb 2 (vF H0 q Il So Sd Sn n0) (LI H0 q Fl So Sd Sn n0) where
 law:=λls=>Dl G.law
 fin:=je G.fin aO qE
 row:=λh=>by
  obtain⟨r,_,X1,X2,O,p,w,c⟩:=h;exact⟨_,_,c.row⟩
 cols:=λ{ls A X E} h=>by
  obtain⟨r,⟨b,e2⟩,_⟩:=h;intro y i;rw[b] at i;exact e2 y (List.mem_filter.1 (show y∈List.filter _ r from i)).1
 step:=λ{A X E l r K} h d=>uG f a G h (λe=>by cases e) λm r' x B X' e j S n o=>by
  injection e with b e2;subst b;subst e2;exact d x B X' j S n o
 stop:=λ{A X E K} h d=>uG f a G h (λ_ B X' j S=>d B X' j S) λm r' x B X' e=>by cases e
end
theorem M4:zc Qf xz=#[.pointer none]:=by kernel_rfl
theorem IS:zc Qf bT=#[.int .i64 0]:=by kernel_rfl
def Nw (A B:aa)(b:Nat):Prop:=A.size<=b/\b<B.size
section
variable {H0 H:aa}{a b rb n0:Nat}{So Sd Sn r la T:List (List Int)}{X1 X2 E:Nat->Prop}{Il Ia Ib:List (List Int)->Jg}{Fl Fa Fb:Jg}{lcols rcols:Sl}
set_option maxHeartbeats 1000000 in
theorem BW {K:Option Addr->aa->Prop}(G:im H0 a 2 Il Fl)(w:Wk (Il r) (cE H0 rb So Sd Sn (r.length+n0)) H X1 X2 (λ_=>False) E)(hl:Ints .i64 H lcols [0])(hr:Ints .i64 H rcols [0])
  (hK:∀(q:Jr) B X',q.a=a->q.rb=rb->ug H0 q Il So Sd Sn n0 (bO r (fH (So++Sd))) B X' E->Step (Ow X1 X2 λ_=>False) X' H B->Ext H B->K (av q.sb) B):yz.sp (av a) (av rb) 1 lcols rcols H K:=by
 obtain⟨f,bl,ra⟩:=G.row w.j1;obtain⟨p,R,rr,hW,P⟩:=w.j2.row;subst P;refine yz.of ?_;unfold yz.vc;refine aj λH1 z1 r1 e1=>?_;refine aj λQ z2 r2 e2=>?_;refine aj λH3 z3 r3 S=>?_;have o:=(e1.trans e2).trans S;refine dE (hl.ext o) (by decide) λc1 H4 o4 U f4=>?_;refine dE ((hr.ext o).ext U) (by decide) λc2 v o5 V f5=>?_;refine aj λy z6 r6 W=>?_;refine aj λH7 z7 r7 N=>?_;rw[xG] at r6 r7;have s4:=U.size;have s5:=V.size;refine ab.st (i:=0) (r6.ext N) (by simp) (by cases c1;rfl) λH8 r8 m8 z8=>?_;refine ab.st (i:=0) (r7.mod m8 (by omega)) (by simp) (by cases c2;rfl) λY r9 m9 z9=>?_;refine aj λz bs C Z=>?_;refine aj λd bA F I=>?_;rw[GC] at C;rw[Bz] at F;have h:=Z.trans I;have m7:Mod (λb=>b=v.size\/b=y.size) H7 d:=((m8.mono λb _ u=>.inl u).trans (m9.mono λb _ u=>.inr u)).trans (Ext.mod h);have n:=((U.trans V).trans W).trans N;have s:Ext H H7:=o.trans n;have J:Ext H d:=⟨by have:=s.size;have:=m7.size;omega,λb j _=>by rw[m7.same b (by have:=s.size;omega) (by omega)];exact s.same b j id⟩;have q1:ab d H.size yC #[.pointer (av a)]:=((r1.ext (e2.trans S)).ext n).mod m7 (by omega);have q2:ab d H1.size DD #[.pointer (av R.rb)]:=((r2.ext S).ext n).mod m7 (by omega);have q3:ab d Q.size kJ #[.int .u8 1]:=(r3.ext n).mod m7 (by omega);have q6:ab d v.size dX #[c1.v]:=(ab.mod (show ab H8 v.size dX #[c1.v] from r8) m9 (by omega)).ext h;have q7:ab d y.size dX #[c2.v]:=(show ab Y y.size dX #[c2.v] from r9).ext h;have b4:=o4.block;have b5:=o5.block;have p4:aA d 0 bT 1 c1 ([0].map (Ql .i64)):=(((o4.ext V).ext W).ext N).mod m7 λb j u=>by have:=b4 b j;omega
 have p5:aA d 0 bT 1 c2 ([0].map (Ql .i64)):=((o5.ext W).ext N).mod m7 λb j u=>by have:=b5 b j;omega
 refine⟨Ext d,.refl _ _,?_⟩;refine ab.bW (c:=aq) (i:=0) (x:=av a) (cs:=λ_=>#[.pointer (av a)]) (λD t=>q1.ext t) (λ_ _=>rfl) ?_;refine ab.bW (c:=aq) (i:=0) (x:=av R.rb) (cs:=λ_=>#[.pointer (av R.rb)]) (λD t=>q2.ext t) (λ_ _=>rfl) ?_;refine ab.bW (c:=au) (i:=0) (x:=c1) (cs:=λ_=>#[c1.v]) (λD t=>q6.ext t) (λ_ _=>rfl) ?_;refine ft (c:=aq) (x:=av a) q1 ?_;refine eM (ra.ext J) ⟨.refl _ _,?_⟩;refine ab.bW (c:=aq) (i:=0) (x:=av R.rb) (cs:=λ_=>#[.pointer (av R.rb)]) (λD t=>q2.ext t) (λ_ _=>rfl) ?_;refine lW (rr.ext J) ⟨.refl _ _,?_⟩;rw[hW];refine sD (ra.ext J) p4.ints (by decide) (λc hc=>by simp at hc;subst hc;decide) λsb un B rB m ae=>?_;have sB:=m.size;have sH:=J.size;have eA:=J.trans m;obtain⟨w2,S2⟩:=w.own (O':=Nw H B) (G.law _) aO (Ext.mod eA) λb u=>.inr u;have af:Nw H B sb:=⟨by omega,ae.2⟩;have a1:Nw H B H.size:=⟨by omega,by omega⟩;have a6:Nw H B H1.size:=⟨by omega,by omega⟩;have a7:Nw H B Q.size:=⟨by omega,by omega⟩;have a8:Nw H B v.size:=⟨by omega,by omega⟩;have ba:Nw H B y.size:=⟨by omega,by omega⟩;have bg:Nw H B Y.size:=⟨by omega,by omega⟩;have L:Nw H B z.size:=⟨by omega,by omega⟩;have M:v.size≠y.size:=by omega
 refine hK ⟨a,R.rb,sb,H.size,H1.size,Q.size,v.size,y.size,Y.size,z.size,c1,c2,un⟩ B _ rfl rfl (.inl ⟨r,⟨rfl,G.cols w.j1⟩,ur.mk w2 ⟨⟨af,a1,a6,a7⟩,⟨a8,ba,bg,L⟩,⟨λb j=>?_,λb j=>?_⟩,rB,q1.ext m,q2.ext m,q3.ext m,q6.ext m,q7.ext m,⟨Sl.mk none 0 0,(C.ext I).ext m,λl e=>by cases e⟩,F.ext m,p4.ext m,p5.ext m,M⟩⟩) S2 eA
 ·have h1:=f4 b j;have h2:=(b4 b j).2;exact⟨by omega,by omega⟩
 ·have h1:=f5 b j;have h2:=(b5 b j).2;exact⟨by omega,by omega⟩
set_option maxHeartbeats 1000000 in
theorem Bk {K:Option Addr->aa->Prop}(G:im H0 a 2 Il Fl)(w:Wk (Il r) (cE H0 rb So Sd Sn (r.length+n0)) H X1 X2 (λ_=>False) E)(hl:Ints .i64 H lcols [0])(hr:Ints .i64 H rcols [0])
  (z:∀(q:Kd) B X',q.a=a->q.rb=rb->vF H0 q Il So Sd Sn n0 (cJ r (fH (So++Sd))) B X' E->Step (Ow X1 X2 λ_=>False) X' H B->Ext H B->K (av q.sb) B):xU.sp (av a) (av rb) lcols rcols H K:=by
 obtain⟨f,ae,V⟩:=G.row w.j1;refine xU.of ?_;unfold xU.vc;refine aj λH1 z1 r1 e1=>?_;refine aj λH3 z3 r3 W=>?_;have j:=e1.trans W;refine dE (hl.ext j) (by decide) λc1 H4 Y C f4=>?_;refine dE ((hr.ext j).ext C) (by decide) λc2 l Z F f5=>?_;refine aj λs z6 r6 I=>?_;refine aj λH7 z7 r7 v=>?_;rw[xG] at r6 r7;have s4:=C.size;have s5:=F.size;refine ab.st (i:=0) (r6.ext v) (by simp) (by cases c1;rfl) λH8 r8 m8 z8=>?_;refine ab.st (i:=0) (r7.mod m8 (by omega)) (by simp) (by cases c2;rfl) λd r9 m9 z9=>?_;have m7:Mod (λb=>b=l.size\/b=s.size) H7 d:=(m8.mono λb _ u=>.inl u).trans (m9.mono λb _ u=>.inr u);have m:=((C.trans F).trans I).trans v;have n:Ext H H7:=j.trans m;have y:Ext H d:=⟨by have:=n.size;have:=m7.size;omega,λb e _=>by rw[m7.same b (by have:=n.size;omega) (by omega)];exact n.same b e id⟩;have J:ab d H.size yC #[.pointer (av a)]:=((r1.ext W).ext m).mod m7 (by omega);have q2:ab d H1.size DD #[.pointer (av rb)]:=(r3.ext m).mod m7 (by omega);have q6:ab d l.size dX #[c1.v]:=ab.mod (show ab H8 l.size dX #[c1.v] from r8) m9 (by omega);have q7:ab d s.size dX #[c2.v]:=r9;have b4:=Y.block;have b5:=Z.block;have p4:aA d 0 bT 1 c1 ([0].map (Ql .i64)):=(((Y.ext F).ext I).ext v).mod m7 λb e u=>by have:=b4 b e;omega
 have p5:aA d 0 bT 1 c2 ([0].map (Ql .i64)):=((Z.ext I).ext v).mod m7 λb e u=>by have:=b5 b e;omega
 refine⟨Ext d,.refl _ _,?_⟩;refine ab.bW (c:=aq) (i:=0) (x:=av a) (cs:=λ_=>#[.pointer (av a)]) (λD t=>J.ext t) (λ_ _=>rfl) ?_;refine ab.bW (c:=aq) (i:=0) (x:=av rb) (cs:=λ_=>#[.pointer (av rb)]) (λD t=>q2.ext t) (λ_ _=>rfl) ?_;refine ab.bW (c:=au) (i:=0) (x:=c1) (cs:=λ_=>#[c1.v]) (λD t=>q6.ext t) (λ_ _=>rfl) ?_;refine ft (c:=aq) (x:=av a) J ?_;refine eM (V.ext y) ⟨.refl _ _,?_⟩;have o:∀{K:Option Addr->aa->Prop},(∀sb un A,ab A sb jJ (fh 2 (.func (.func AL.no) #[] #[.pointer (av H.size),.pointer (av l.size),.pointer (av H1.size),.pointer (av s.size)]) un 0 .nilIface false false)->Ext d A->d.size<=sb/\sb<A.size->K (av sb) A)->IJ.sp (av a) (av rb) c1 2 (.func AL.no) #[] #[.pointer (av H.size),.pointer (av l.size),.pointer (av H1.size),.pointer (av s.size)] d K:=by
  obtain⟨p,R,rr,hW,L⟩:=w.j2.row;subst L;intro K z;exact sD (V.ext y) p4.ints (by decide) (λc hc=>by simp at hc;subst hc;decide) z
 refine o λsb un B rB h M=>?_;have sB:=h.size;have sH:=y.size;have eA:=y.trans h;obtain⟨w2,S2⟩:=w.own (O':=Nw H B) (G.law _) aO (Ext.mod eA) λb u=>.inr u;have N:Nw H B sb:=⟨by omega,M.2⟩;have P:Nw H B H.size:=⟨by omega,by omega⟩;have Q:Nw H B H1.size:=⟨by omega,by omega⟩;have S:Nw H B l.size:=⟨by omega,by omega⟩;have U:Nw H B s.size:=⟨by omega,by omega⟩;refine z ⟨a,rb,sb,H.size,H1.size,l.size,s.size,c1,c2,un⟩ B _ rfl rfl ⟨r,⟨rfl,G.cols w.j1⟩,ur.mk w2 ⟨⟨N,P,Q⟩,⟨S,U⟩,⟨λb e=>?_,λb e=>?_⟩,rB,J.ext h,q2.ext h,q6.ext h,q7.ext h,p4.ext h,p5.ext h⟩⟩ S2 eA
 ·have h1:=f4 b e;have h2:=(b4 b e).2;exact⟨by omega,by omega⟩
 ·have h1:=f5 b e;have h2:=(b5 b e).2;exact⟨by omega,by omega⟩
set_option maxHeartbeats 1000000 in
theorem Az {K:Option Addr->aa->Prop}(L:im H0 a 2 Ia Fa)(M:im H0 b 2 Ib Fb)(w:Wk (Ia la) (Ib T) H X1 X2 (λ_=>False) E)(ascL:dG la)(o:dG T)(few:T.length<=40)
  (hK:∀(q:CB) B X',q.a=a->q.b=b->qM q Ia Fa Ib Fb T (bO la T) B X' E->Step (Ow X1 X2 λ_=>False) X' H B->Ext H B->K (av q.sb) B):JE.sp (av a) (av b) 1 H K:=by
 obtain⟨fa,a7,ra⟩:=L.row w.j1;obtain⟨fb,a8,rb⟩:=M.row w.j2;refine JE.of ?_;unfold JE.vc;refine aj λH1 z1 N P=>?_;refine⟨Ext H1,.refl _ _,?_⟩;refine ft (c:=ai .i64) (x:=1) N ?_;refine az rfl ?_;refine ab.bW (c:=ai .i64) (i:=0) (x:=1) (cs:=λ_=>#[.int .i64 1]) (λD hD=>N.ext hD) (λ_ _=>rfl) ?_;refine eM (ra.ext P) ⟨.refl _ _,?_⟩;refine eM (rb.ext P) ⟨.refl _ _,?_⟩;refine az (by decide) ?_;refine aj λn z2 r2 e2=>?_;refine aj λp z3 r3 e3=>?_;refine aj λs z4 r4 Q=>?_;refine aj λH5 z5 r5 I=>?_;rw[M4] at r4 r5;refine ab.st (i:=0) (r4.ext I) (by simp) rfl λH6 r6 m6 z6=>?_;refine ab.st (i:=0) (r5.mod m6 (by omega)) (by simp) rfl λt r7 m7 z7=>?_;refine aj λJ z8 r8 e8=>?_;refine aj λH9 z9 r9 e9=>?_;rw[CV] at r8;rw[IS] at r9;have y:=((e2.trans e3).trans Q).trans I;have j:=P.trans y;have R:Mod (λq=>q=p.size\/q=s.size) H5 t:=(m6.mono λq _ u=>.inl u).trans (m7.mono λq _ u=>.inr u);have m:=e8.trans e9;have d:=R.trans (Ext.mod m);have S:Ext H H9:=⟨by have:=j.size;have:=d.size;omega,λq hq _=>by rw[d.same q (by have:=j.size;omega) (by omega)];exact j.same q hq id⟩;refine eM (ra.ext S) ?_;refine eM (rb.ext S) ?_;refine aj λz ba U V=>?_;refine Ae (us:=[a,b]) (Kq U) (by simp) λB rB eB zB=>?_;have f:=V.trans eB;have eA:=S.trans f;have q1:ab B H.size bT #[.int .i64 1]:=((N.ext y).mod d (by omega)).ext f;have q2:ab B H1.size Dq (j7 a (Sl.mk none 0 0) false la):=(((r2.ext e3).ext (Q.trans I)).mod d (by omega)).ext f;have q3:ab B n.size Dq (j7 b (Sl.mk none 0 0) false T):=((r3.ext (Q.trans I)).mod d (by omega)).ext f;have q4:ab B p.size xz #[.pointer (av H1.size)]:=((ab.mod (show ab H6 p.size xz #[.pointer (av H1.size)] from r6) m7 (by omega)).ext m).ext f;have q5:ab B s.size xz #[.pointer (av n.size)]:=((show ab t s.size xz #[.pointer (av n.size)] from r7).ext m).ext f;have q8:ab B t.size cW #[(Sl.mk none 0 0).v]:=(r8.ext e9).ext f;have q9:ab B J.size bT #[.int .i64 ((0:Nat):Int)]:=r9.ext f;obtain⟨w2,S2⟩:=w.own (O':=Nw H B) (L.law _) (M.law _) (Ext.mod eA) λb u=>.inr u;have l2:=L.cols w.j1;have t2:=M.cols w.j2;have C:Nw H B z.size:=⟨by omega,by omega⟩;have W:Nw H B H.size:=⟨by omega,by omega⟩;have Y:Nw H B H1.size:=⟨by omega,by omega⟩;have Z:Nw H B n.size:=⟨by omega,by omega⟩;have ae:Nw H B p.size:=⟨by omega,by omega⟩;have af:Nw H B s.size:=⟨by omega,by omega⟩;have a1:Nw H B t.size:=⟨by omega,by omega⟩;have a6:Nw H B J.size:=⟨by omega,by omega⟩;have F:H1.size≠n.size:=by omega
 have G:J.size≠H.size:=by omega
 refine hK ⟨a,b,z.size,s.size,J.size,t.size,p.size,H.size,H1.size,n.size,⟨some ⟨H9.size,0,none⟩,2,2⟩⟩ B _ rfl rfl ⟨none,la,[],T,false,0,⟨rfl,Iz.start ascL o l2 t2,Qm _,λ_=>rfl,ascL,l2,by simp,few⟩,ur.mk w2 ⟨⟨⟨C,af,a6,a1⟩,⟨ae,W,Y,Z⟩,rB,q5,q4,q1,F,G⟩,q9,⟨_,q8,dz.nil _ _,λb u=>by obtain⟨ad,h,_⟩:=u;cases h⟩,⟨_,q2,λl r e=>by cases e⟩,⟨_,q3,λl r e=>by cases e⟩⟩⟩ S2 eA
end
theorem A9 {H0:aa}{q:CB}{Ia Ib:List (List Int)->Jg}{Fa Fb:Jg}{T:List (List Int)}(d:im H0 q.a 2 Ia Fa)(f:im H0 q.b 2 Ib Fb)(n:∀y∈T,y.length=2):im H0 q.sb 4 (qM q Ia Fa Ib Fb T) (HC Fa Ib Fb) where
 law:=λls=>Cd d f
 fin:=je d.fin (I7 f) qE
 row:=λh=>by
  obtain⟨xs,la,g,BY,yg,k,_,X1,X2,O,v,w,c⟩:=h;exact⟨_,_,c.base.row⟩
 cols:=λ{ls A X E} h=>by
  obtain⟨xs,la,g,BY,yg,k,mp,_⟩:=h;intro y m;rw[mp.tell] at m;rcases Qj.1 m with u|u
  ·match xs,u,mp with
   |some x,u,mp=>
     obtain⟨z,hz,rfl⟩:=QB.1 u;rw[Qt,mp.l2 x Qp,mp.mg.g2 z (Rq hz)]
  ·exact nC mp.mg.l2 n y u
 step:=λ{A X E l r K} h i=>rR d f h (λe=>by cases e) λo r' x B X' e j S p s=>by
  injection e with t e2;subst t;subst e2;exact i x B X' j S p s
 stop:=λ{A X E K} h i=>rR d f h (λ_ B X' j S=>i B X' j S) λo r' x B X' e=>by cases e
structure Below (ls:List (List Int))(x:List Int)(k:Nat):Prop where
 le:k<=ls.length
 lo:∀j (h:j<ls.length),j<k->gO ls[j] x
 hi:∀j (h:j<ls.length),k<=j->¬gO ls[j] x
theorem BX {ls:List (List Int)}(h:dG ls){i j:Nat}(hi:i<ls.length)(d:j<ls.length)(c:i<j):gO ls[i] ls[j]:=List.pairwise_iff_getElem.1 h i j hi d c
theorem Below.mem {ls:List (List Int)}{x:List Int}{k:Nat}(h:Below ls x k)(f:dG ls):x∈ls↔∃hk:k<ls.length,ls[k]=x:=by
 constructor
 ·intro i;obtain⟨j,c,e⟩:=Rz.1 i;rcases Vr j k with q|q|q
  ·have:=h.lo j c q;rw[e] at this;exact absurd this (bQ _)
  ·subst q;exact⟨c,e⟩
  ·have h1:=h.hi k (by omega) (Qm _);have d:=BX f (by omega) c q;rw[e] at d;exact absurd d h1
 ·rintro⟨hk,rfl⟩;exact Qn hk
theorem Below.ins {ls:List (List Int)}{x:List Int}{k:Nat}(h:Below ls x k)(f:dG ls)(i:x∉ls):dG (ls.take k++x::ls.drop k)/\∀y,y∈ls.take k++x::ls.drop k↔y=x\/y∈ls:=by
 have lo:∀y∈ls.take k,gO y x:=λy c=>by
  obtain⟨j,d,rfl⟩:=Rz.1 c;rw[Qw] at d;rw[List.getElem_take];exact h.lo j (by omega) (by omega)
 have hi:∀y∈ls.drop k,gO x y:=λy c=>by
  obtain⟨j,d,rfl⟩:=Rz.1 c;rw[List.length_drop] at d;rw[List.getElem_drop];rcases iw x ls[k+j] with q|q|q
  ·exact q
  ·exact absurd (q▸Qn _) i
  ·exact absurd q (h.hi (k+j) (by omega) (by omega))
 refine⟨List.pairwise_append.2 ⟨Ar f k,List.pairwise_cons.2 ⟨hi,zk f k⟩,λa h1 b l=>?_⟩,λy=>?_⟩
 ·rcases Qs.1 l with e|e
  ·rw[e];exact lo a h1
  ·exact bp (lo a h1) (hi b e)
 ·rw[Qj,Qs];constructor
  ·rintro(u|u|u)
   ·exact .inr (Rl u)
   ·exact .inl u
   ·exact .inr (Rq u)
  ·rintro(u|u)
   ·exact .inr (.inl u)
   ·rw[<-List.take_append_drop k ls] at u;rcases Qj.1 u with v|v
    ·exact .inl v
    ·exact .inr (.inr v)
section
variable {X:Nat->Prop}{A:aa}{l s x:Sl}{ls:List (List Int)}{lx:List Int}
theorem AB {K:Int->aa->Prop}(h:Rows A l ls)(D:Ints .u64 A x lx)(v:dG ls)(L:ls.length<=1000)(F:∀y∈ls,y.length<=1000)(G:∀k:Nat,Below ls lx k->K (k:Int) A):Km.sp l x A K:=by
 refine Km.of ?_;unfold Km.vc;have o:=h.len;refine ay ls.length (λi z B=>A=B/\∃a b:Nat,z=((a:Int),(b:Int))/\a<=b/\b<=ls.length/\b - a+i<=ls.length/\(∀j (h:j<ls.length),j<a->gO ls[j] lx)/\∀j (h:j<ls.length),b<=j->¬gO ls[j] lx) ⟨rfl,0,ls.length,by rw[o];rfl,QN _,Qm _,by omega,λj _ h=>by omega,λj h1 M=>by omega⟩ ?_;rintro i _ B next hi ⟨rfl,a,b,rfl,I,C,N,lo,m⟩ c
 refine ao (λq=>?_) (λq=>?_)
 ·have q:(a:Int)<(b:Int):=of_decide_eq_true q;have hm:Qe.wrap (Qy (Qe.wrap ((a:Int)+(b:Int))) 2)=(((a+b)/2:Nat):Int):=by
   rw[wrap64 (x:=(a:Int)+b) (by omega) (by omega),Vc (by omega),wrap64 (by omega) (by omega)];omega
  simp only;rw[hm];obtain⟨mid,n⟩:∃mid,mid=(a+b)/2:=⟨_,rfl⟩;rw[<-n];have d:mid<ls.length:=by omega
  refine h.ld d λad r _ J=>?_;refine qv J D (by have:=F _ (Qn d);omega) ?_;refine ao (λf=>?_) (λf=>?_)
  ·have f:gO ls[mid] lx:=(of_decide_eq_true f:aL ls[mid] lx<0);refine c (by omega) _ _ ⟨rfl,mid+1,b,by rw[aH mid (by omega)],by omega,C,by omega,λj p t=>?_,m⟩;rcases Q6 j mid with w|w
   ·exact bp (BX v p d w) f
   ·have:j=mid:=by omega
    subst this;exact f
  ·have f:¬gO ls[mid] lx:=(of_decide_eq_false f:¬aL ls[mid] lx<0);refine c (by omega) _ _ ⟨rfl,a,mid,rfl,by omega,by omega,by omega,lo,λj p t u=>?_⟩;rcases Q6 mid j with w|w
   ·exact f (bp (BX v d p w) u)
   ·have:j=mid:=by omega
    subst this;exact f u
 ·have q:¬(a:Int)<(b:Int):=of_decide_eq_false q;have e:a=b:=by omega
  subst e;exact G a ⟨C,lo,m⟩
theorem B7 {K:Bool->aa->Prop}(h:Rows A l ls)(j:Ints .u64 A x lx)(d:dG ls)(n:ls.length<=1000)(m:∀y∈ls,y.length<=1000)(f:K (decide (lx∈ls)) A):Ik.sp l x A K:=by
 refine Ik.of ?_;unfold Ik.vc;have o:=h.len;refine AB h j d n m λk i=>?_;refine ao (λq=>?_) (λq=>?_)
 ·have q:(k:Int)<(l.n:Int):=of_decide_eq_true q;have c:k<ls.length:=by omega
  refine h.ld c λad r _ p=>?_;refine qv p j (by have:=m _ (Qn c);omega) ?_;have e:(aL ls[k] lx==0)=decide (lx∈ls):=by
   by_cases w:aL ls[k] lx=0
   ·rw[w,decide_eq_true ((i.mem d).2 ⟨c,dM.1 w⟩)];rfl
   ·rw[decide_eq_false λu=>w (dM.2 ((i.mem d).1 u).2)];simpa using w
  rw[e];exact f
 ·have q:¬(k:Int)<(l.n:Int):=of_decide_eq_false q;rw[decide_eq_false λu=>by have:=((i.mem d).1 u).1;omega] at f;exact f
theorem Gs {α:Type}{rs:List α}{j:Nat}{y z:α}(c:j<rs.length)(hz:rs[j]=z):(rs.take (j+1)++y::rs.drop (j+1)).set (j+1) z=rs.take j++z::rs.drop j:=by
 have d:(rs.take (j+1)).length=j+1:=by rw[Qw];omega
 rw[US _ _ (by omega),d,UT,TQ,RC,Qg c,hz,RG c,hz];simp
theorem FI {α:Type}{rs:List α}{j:Nat}{y z:α}(d:j<=rs.length):(rs.take j++y::rs.drop j).set j z=rs.take j++z::rs.drop j:=by
 have c:(rs.take j).length=j:=by rw[Qw];omega
 rw[US _ _ (by omega),c,UT,TQ]
theorem sE {α:Type}{rs:List α}{k j:Nat}{z r:α}(hk:k<=rs.length)(h:(rs.take k++z::rs.drop k)[j]?=some r):j<k/\rs[j]?=some r\/j=k/\r=z\/k<j/\rs[j - 1]?=some r:=by
 have c:(rs.take k).length=k:=by rw[Qw];omega
 rcases Vr j k with q|q|q
 ·rw[QR (by omega),Rb,if_pos q] at h;exact .inl ⟨q,h⟩
 ·subst q;rw[Re (by omega),c,UT] at h;exact .inr (.inl ⟨rfl,(Qq h).symm⟩)
 ·rw[Re (by omega),c] at h;obtain⟨i,hi⟩:∃i,j - k=i+1:=⟨j - k - 1,by omega⟩;rw[hi,List.getElem?_cons_succ,List.getElem?_drop] at h;exact .inr (.inr ⟨q,by rw[show j - 1=k+i by omega];exact h⟩)
set_option maxHeartbeats 1000000 in
theorem HQ {k:Nat}{K:Sl->aa->Prop}(h:dR X A s ls)(G:Ints .u64 A x lx)(a8:lx.length<=1000)(hn:ls.length<=1000)(hk:k<=ls.length)(hX:∀b,X b->b<A.size)
  (hK:∀f B,dR X B f (ls.take k++lx::ls.drop k)->Mod (al s) A B->(∀b,al f b->al s b\/A.size<=b)->K f B):
  bI au Qf (Qo #[cv,cv] cv #[(.slice none 0 0),x.v]) A λ(own:Sl) W=>aB W #[own.v] cv λp H4=>bI au Qf (Qo #[cW,cW] cW #[s.v,(.slice (some p) 1 1)]) H4 λ(d:Sl) H5=>aF Int (Qe.wrap ((d.n:Int) - (1:Int))) H5 λnext i H6=>br (decide (i>(k:Int))) (ah d.a λae=>(0<=(Qe.wrap (i - (1:Int)))/\(Qe.wrap (i - (1:Int)))<(d.n:Int))/\ld au H6 (ae.add ((Qe.wrap (i - (1:Int))).toNat*1)) λ(af:Sl)=>ah d.a λa1=>(0<=i/\i<(d.n:Int))/\st H6 (a1.add (i.toNat*1)) af.v λH7=>next (Qe.wrap (i - (1:Int))) H7) (ah d.a λa6=>(0<=(k:Int)/\(k:Int)<(d.n:Int))/\st H6 (a6.add ((k:Int).toNat*1)) own.v λH8=>K d H8):=by
 obtain⟨rs,o,hlen,hr⟩:=h.ex;have ba:=h.n;have ln:=G.len;refine jB.append (base:=A.size) (s:=Sl.mk none 0 0) (x:=x) (xs:=[]) (ws:=lx.map (Ql .u64)) (aA.nil _ _ _ _) (by simp;omega) G.reads (iy _ _) (by simp only;omega) (by simp only;omega) (Qm _) λown W n3 o3 m3 b3 _=>?_;have e3:Ext A W:=m3.ext (by rintro b ⟨ad,h,_⟩;cases h);have z3:=e3.size;have o3:aA W A.size gM 1 own (lx.map (Ql .u64)):=o3;have m:=o3.block;refine wE.push (base:=0) (o.ext e3) rfl (by omega) (by omega) (QN _) λf B n1 o1 m1 L _=>?_;have z1:=m1.size;have N:∀b,al s b->b<A.size:=h.lt;have P:f.n=ls.length+1:=by omega
 have Q:rs.length=ls.length:=hlen;rw[show Qe.wrap ((f.n:Int) - 1)=(ls.length:Int) by rw[P,wrap64 (by omega) (by omega)];omega];refine ay (ls.length - k) (λi z C=>z=((ls.length - i:Nat):Int)/\(∃y:Sl,aA C 0 cv 1 f ((rs.take (ls.length - i)++y::rs.drop (ls.length - i)).map Sl.v))/\Mod (al f) B C/\C.size=B.size) ⟨by simp,⟨own,?_⟩,.refl _ _,rfl⟩ ?_
 ·rw[Nat.sub_zero,<-Q,Sc,List.drop_length,Q4];exact o1
 rintro i _ C next hi ⟨rfl,⟨y,M⟩,mC,zC⟩ I
 obtain⟨j,hj⟩:∃j,j=ls.length - i:=⟨_,rfl⟩;rw[<-hj] at M ⊢;refine ao (λq=>?_) (λq=>?_)
 ·have q:(j:Int)>(k:Int):=of_decide_eq_true q;obtain⟨t,rfl⟩:∃t,j=t+1:=⟨j - 1,by omega⟩;have R:t<rs.length:=by omega
  have ew:Qe.wrap (((t+1:Nat):Int) - 1)=(t:Int):=by rw[wrap64 (by omega) (by omega)];omega
  rw[ew];have sx:ja (λ_=>False) C f ((rs.take (t+1)++y::rs.drop (t+1)).map Sl.v):=⟨by have:=M.1;omega,λad n=>⟨(M.block _ ⟨ad,n,rfl⟩).2,id⟩,M.reads⟩;refine ja.ld (c:=au) (x:=rs[t]) (i:=t) sx ?_ rfl λad _=>?_
  ·rw[List.getElem?_map,QR (by rw[Qw];omega),Rb,if_pos (by omega),Qg R];rfl
  refine M.st (i:=((t+1:Nat):Int)) (by omega) (by omega) (by cases rs[t];rfl) λD Y Z zD=>?_;refine I (by omega) _ _ ⟨by omega,⟨rs[t],?_⟩,mC.trans Z,zD.trans zC⟩;rw[show ls.length - (i+1)=t by omega];have:=Gs (y:=y) R rfl;rw[<-this,Tq];exact Y
 ·have q:¬(j:Int)>(k:Int):=of_decide_eq_false q;have e:j=k:=by omega
  subst e;refine M.st (i:=(j:Int)) (by omega) (by omega) (by cases own;rfl) λD Y Z zD=>?_;rw[QD,<-Tq,FI (by omega)] at Y;have S:Mod (al s) A D:=⟨by omega,λb F u=>by
   rw[Z.same b (by omega) λv=>(L b v).elim u λw=>by omega,mC.same b (by omega) λv=>(L b v).elim u λw=>by omega,m1.same b (by omega) u,e3.same b F id]⟩
  have old:∀{a:Sl} {y:List Int},Ints .u64 A a y->(∀ad,a.a=some ad->ad.block<A.size/\¬X ad.block/\¬al s ad.block)->Ints .u64 D a y/\∀ad,a.a=some ad->ad.block<D.size/\¬X ad.block/\¬al f ad.block:=λhi G=>
   ⟨hi.mod S λad n=>(G ad n).2.2,λad n=>⟨by have:=(G ad n).1;omega,(G ad n).2.1,λv=>(L _ v).elim (G ad n).2.2 λw=>by have:=(G ad n).1;omega⟩⟩
  have U:Ints .u64 D own lx/\∀ad,own.a=some ad->ad.block<D.size/\¬X ad.block/\¬al f ad.block:=by
   have f1:∀b,al own b->¬al f b:=λb F v=>by
    have:=m b F;rcases L b v with w|w
    ·have:=N b w;omega
    ·omega
   have f2:∀b,al own b->¬al s b:=λb F v=>by have:=m b F;have:=N b v;omega
   refine⟨(((o3.mod m1 f2).mod mC f1).mod Z f1).ints,λad n=>?_⟩;have:=m _ ⟨ad,n,rfl⟩;exact⟨by omega,λu=>by have:=hX _ u;omega,f1 _ ⟨ad,n,rfl⟩⟩
  refine hK f D ⟨⟨rs.take j++own::rs.drop j,Y,by simp[Q],λi2 r l a7 J=>?_⟩,λb F u=>?_⟩ S λb F=>(L b F).imp id λw=>by omega
  ·rcases sE (by omega) a7 with ⟨q1,q2⟩|⟨rfl,rfl⟩|⟨q1,q2⟩
   ·rcases sE hk J with ⟨_,q4⟩|⟨V,_⟩|⟨V,_⟩
    ·obtain⟨g1,g2⟩:=hr _ _ _ q2 q4;exact old g1 g2
    ·omega
    ·omega
   ·rcases sE hk J with ⟨V,_⟩|⟨_,rfl⟩|⟨V,_⟩
    ·omega
    ·exact U
    ·omega
   ·rcases sE hk J with ⟨V,_⟩|⟨V,_⟩|⟨_,q4⟩
    ·omega
    ·omega
    ·obtain⟨g1,g2⟩:=hr _ _ _ q2 q4;exact old g1 g2
  ·rcases L b F with v|v
   ·exact h.off b v u
   ·have:=hX b u;omega
theorem tv {K:Sl->aa->Prop}(h:dR X A s ls)(v:Ints .u64 A x lx)(n:dG ls)(w:lx.length<=1000)(J:ls.length<=1000)(L:∀y∈ls,y.length<=1000)(N:∀b,X b->b<A.size)
  (M:∀o d B,dR X B o d->dG d->(∀y,y∈d↔y=lx\/y∈ls)->Mod (al s) A B->(∀b,al o b->al s b\/A.size<=b)->K o B):JN.sp s x A K:=by
 refine JN.of ?_;unfold JN.vc;have P:=h.n;refine AB h.rows v n J L λk t=>?_;have tail:lx∉ls->∀{Q:Prop},(bI au Qf (Qo #[cv,cv] cv #[(.slice none 0 0),x.v]) A (λ(own:Sl) R=>aB R #[own.v] cv λp S=>bI au Qf (Qo #[cW,cW] cW #[s.v,(.slice (some p) 1 1)]) S λ(c:Sl) U=>aF Int (Qe.wrap ((c.n:Int) - (1:Int))) U λnext i z=>br (decide (i>(k:Int))) (ah c.a λC=>(0<=(Qe.wrap (i - (1:Int)))/\(Qe.wrap (i - (1:Int)))<(c.n:Int))/\ld au z (C.add ((Qe.wrap (i - (1:Int))).toNat*1)) λ(D:Sl)=>ah c.a λF=>(0<=i/\i<(c.n:Int))/\st z (F.add (i.toNat*1)) D.v λV=>next (Qe.wrap (i - (1:Int))) V) (ah c.a λG=>(0<=(k:Int)/\(k:Int)<(c.n:Int))/\st z (G.add ((k:Int).toNat*1)) own.v λW=>K c W))->Q)->Q:=λI Q go=>by
  obtain⟨g1,g2⟩:=t.ins n I;exact go (HQ h v w J t.le N λo B r m b=>M o _ B r g1 g2 m b)
 refine ao (λq=>?_) (λq=>?_)
 ·have q:(k:Int)<(s.n:Int):=of_decide_eq_true q;have f:k<ls.length:=by omega
  refine h.rows.ld f λad r _ Y=>?_;refine qv Y v (by have:=L _ (Qn f);omega) ?_;refine ao (λj=>?_) (λj=>?_)
  ·have j:aL ls[k] lx=0:=by simpa using j
   have hm:=(t.mem n).2 ⟨f,dM.1 j⟩;exact M s ls A h n (λy=>⟨.inr,λu=>u.elim (λe=>e▸hm) id⟩) (.refl _ _) λb Z=>.inl Z
  ·have j:¬aL ls[k] lx=0:=by simpa using j
   exact tail (λu=>j (dM.2 ((t.mem n).1 u).2)) id
 ·have q:¬(k:Int)<(s.n:Int):=of_decide_eq_false q;exact tail (λu=>by have:=((t.mem n).1 u).1;omega) id
end
theorem D9 {A:aa}{l:Sl}{ll:List Int}{W:Nat}{K:Bool->aa->Prop}(h:Ints .i64 A l ll)(D:ll.length=W)(G:W<=100)(n:∀c:Nat,c<W->(c:Int)∈ll)(F:K true A):Lj.sp l (W:Int) A K:=by
 refine Lj.of ?_;unfold Lj.vc;have y:=h.len;refine az (by rw[y,D];simp) ?_;refine ay W (λi z B=>z=(i:Int)/\A=B) ⟨rfl,rfl⟩ ?_;rintro i _ _ next hi ⟨rfl,rfl⟩ d
 refine ao (λq=>?_) (λ_=>F);have q:(i:Int)<(W:Int):=of_decide_eq_true q;have o:i<W:=by omega
 refine ay W (λj z B=>z=(decide ((i:Int)∈ll.take j),(j:Int))/\A=B) ⟨by simp,rfl⟩ ?_;rintro j _ _ nx I ⟨rfl,rfl⟩ p;refine ao (λt=>?_) (λt=>?_)
 ·have t:(j:Int)<(W:Int):=of_decide_eq_true t;have m:j<ll.length:=by omega
  have C:ll.take (j+1)=ll.take j++[ll[j]]:=by rw[RC,Qg m];rfl
  refine ao (λf=>?_) (λf=>?_)
  ·have f:(i:Int)∈ll.take j:=of_decide_eq_true f;refine p (by omega) _ _ ⟨?_,rfl⟩;rw[aH j (by omega),decide_eq_true (by rw[C];exact Qj.2 (.inl f))]
  ·have f:¬(i:Int)∈ll.take j:=of_decide_eq_false f;refine bM h (i:=(j:Int)) (j:=j) rfl m λad _=>?_;refine p (by omega) _ _ ⟨?_,rfl⟩;have e:ll.getD j 0=ll[j]:=by rw[List.getD,Qg m];rfl
   rw[aH j (by omega),e];refine congrArg (·,_) ?_;by_cases w:ll[j]=(i:Int)
   ·rw[decide_eq_true (show (i:Int)∈ll.take (j+1) by rw[C];exact Qj.2 (.inr (by simp[w])))];simpa using w
   ·rw[decide_eq_false (show ¬(i:Int)∈ll.take (j+1) by
     rw[C];intro u;rcases Qj.1 u with v|v
     ·exact f v
     ·exact w (QV.1 v).symm)]
    simpa using w
 ·have t:¬(j:Int)<(W:Int):=of_decide_eq_false t;have e:ll.take j=ll:=List.take_of_length_le (by omega);refine az ?_ (d o _ _ ⟨aH i (by omega),rfl⟩);rw[e,decide_eq_true (n i o)];rfl
def vg (os f d e:Sl):Array Value:=#[.int .i64 2,os.v,f.v,d.v,e.v]
theorem HS {A:aa}{os:Sl}{ords:List (List Int)}{K:(Option Addr×Int)->aa->Prop}(n:jW (λ_=>False) A os ords)(h1:1<=ords.length)(u:ords.length<=16)(h:∀x∈ords,x.length=2/\(0:Int)∈x/\(1:Int)∈x)(p:ords[0]?=some [0,1])(v:∀B,ab B A.size MV (vg os (Sl.mk none 0 0) (Sl.mk none 0 0) (Sl.mk none 0 0))->Ext A B->B.size=A.size+1->K (av A.size,0) B):L4.sp 2 os A K:=by
 refine L4.of ?_;unfold L4.vc;have w:=n.len;refine B9 ?_;refine az (by decide) ?_;refine az (by simp;omega) ?_;refine ay ords.length (λi z B=>z=(i:Int)/\A=B) ⟨rfl,rfl⟩ ?_;rintro i _ _ next hi ⟨rfl,rfl⟩ f
 refine ao (λq=>?_) (λ_=>?_)
 ·have q:(i:Int)<(os.n:Int):=of_decide_eq_true q;have d:i<ords.length:=by omega
  refine n.ld d rfl λad x _ _ m _=>?_;obtain⟨g1,g2,g3⟩:=h _ (Qn d);refine D9 (W:=2) m g1 (by decide) (λc C=>?_) ?_
  ·have:c=0\/c=1:=by omega
   rcases this with rfl|rfl
   ·exact g2
   ·exact g3
  ·exact az rfl (f d _ _ ⟨aH i (by omega),rfl⟩)
 ·refine ay 2 (λj z B=>z=(j:Int)/\A=B) ⟨rfl,rfl⟩ ?_;rintro j _ _ nx D ⟨rfl,rfl⟩ o;refine ao (λt=>?_) (λ_=>?_)
  ·have t:(j:Int)<2:=of_decide_eq_true t;have d:0<ords.length:=by omega
   have y:ords[0]=[0,1]:=by rw[Qg d] at p;exact Qq p
   refine n.ld (i:=0) d rfl λad x _ _ m _=>?_;rw[y] at m;refine bM m (i:=(j:Int)) (j:=j) rfl (by simp;omega) λ_ _=>?_;refine az ?_ (o (by omega) _ _ ⟨aH j (by omega),rfl⟩);have:j=0\/j=1:=by omega
   rcases this with rfl|rfl<;>rfl
  ·exact aj λB z r e=>v B r e z
structure lD (Z:Nat->Prop)(A:aa)(mb:Nat)(os f d e:Sl)(lf ld le:List (List Int)):Prop where
 row:ab A mb MV (vg os f d e)
 nz:¬Z mb
 pf:dR (λb=>Z b\/b=mb\/al d b\/al e b) A f lf
 pd:dR (λb=>Z b\/b=mb\/al f b\/al e b) A d ld
 pe:dR (λb=>Z b\/b=mb\/al f b\/al d b) A e le
def jM (mb:Nat)(f d e:Sl)(b:Nat):Prop:=b=mb\/al f b\/al d b\/al e b
section
variable {Z Z':Nat->Prop}{A B:aa}{mb:Nat}{os f d e x:Sl}{lf ld le:List (List Int)}{lx:List Int}
theorem lD.lt (h:lD Z A mb os f d e lf ld le):∀b,jM mb f d e b->b<A.size:=by
 rintro b (rfl|u|u|u)
 ·exact aI h.row
 ·exact h.pf.lt b u
 ·exact h.pd.lt b u
 ·exact h.pe.lt b u
theorem lD.off (h:lD Z A mb os f d e lf ld le):∀b,jM mb f d e b->¬Z b:=by
 rintro b (rfl|u|u|u)
 ·exact h.nz
 ·exact λv=>h.pf.off b u (.inl v)
 ·exact λv=>h.pd.off b u (.inl v)
 ·exact λv=>h.pe.off b u (.inl v)
theorem lD.step (h:lD Z A mb os f d e lf ld le)(S:Step Z Z' A B):lD Z' B mb os f d e lf ld le:=by
 have w:∀{P:Nat->Prop},Step (λb=>Z b\/P b) (λb=>Z' b\/P b) A B:=λ{P}=>S.fK (λ_ u=>.inl u) λb u=>u.elim .inr λv=>.inl (.inr v);exact⟨h.row.mod S.mod h.nz,λu=>(S.own _ u).elim h.nz λv=>by have:=aI h.row;omega,h.pf.step w,h.pd.step w,h.pe.step w⟩
theorem mQ {l:List (List Int)}{L:List (List Int)}(h:dG l)(hm:∀y∈l,y∈L):l.length<=L.length:=ig (gq h) hm
set_option maxHeartbeats 1000000 in
theorem lD.add {K:(Bool×Int)->aa->Prop}(h:lD Z A mb os f d e lf ld le)(N:∀b,Z b->b<A.size)(P:dG lf)(ad:dG ld)(J:dG le)(nf:lf.length<=900)(nd:ld.length<=900)(ne:le.length<=900)(Q:∀y,y∈lf\/y∈ld\/y∈le->y.length=2)(t:Ints .u64 A x lx)(z:lx.length=2)
  (o:(lx∈lf\/lx∈ld\/lx∈le)->K (false,0) A)
  (D:¬(lx∈lf\/lx∈ld\/lx∈le)->∀n j B,lD Z B mb os f d n lf ld j->dG j->(∀y,y∈j↔y=lx\/y∈le)->Step (jM mb f d e) (jM mb f d n) A B->K (true,0) B):Lu.sp (av mb) x A K:=by
 refine Lu.of ?_;unfold Lu.vc;have l2:∀l:List (List Int),(∀y∈l,y∈lf\/y∈ld\/y∈le)->∀y∈l,y.length<=1000:=λl R y m=>by rw[Q y (R y m)];decide
 simp only[aw,av];refine ab.ld (c:=ai .i64) (i:=0) (x:=(2:Int)) h.row rfl ?_;refine az (by rw[t.len,z];rfl) ?_;refine ab.ld (c:=au) (i:=2) (x:=f) h.row rfl ?_;refine B7 h.pf.rows t P (by omega) (l2 lf λy m=>.inl m) ?_;refine ao (λq=>o (.inl (of_decide_eq_true q))) (λq=>?_);have S:¬lx∈lf:=of_decide_eq_false q;refine ab.ld (c:=au) (i:=3) (x:=d) h.row rfl ?_;refine B7 h.pd.rows t ad (by omega) (l2 ld λy m=>.inr (.inl m)) ?_;refine ao (λq=>o (.inr (.inl (of_decide_eq_true q)))) (λq=>?_);have U:¬lx∈ld:=of_decide_eq_false q;refine ab.ld (c:=au) (i:=4) (x:=e) h.row rfl ?_;refine B7 h.pe.rows t J (by omega) (l2 le λy m=>.inr (.inr m)) ?_;refine ao (λq=>o (.inr (.inr (of_decide_eq_true q)))) (λq=>?_);have V:¬lx∈le:=of_decide_eq_false q;refine ab.ld (c:=au) (i:=4) (x:=e) h.row rfl ?_;have W:∀b,(Z b\/b=mb\/al f b\/al d b)->b<A.size:=λb u=>by
  rcases u with u|rfl|u|u
  ·exact N b u
  ·exact aI h.row
  ·exact h.pf.lt b u
  ·exact h.pd.lt b u
 refine tv h.pe t J (by omega) (by omega) (l2 le λy m=>.inr (.inr m)) W λn j B r Y m' F G=>?_;have zB:=F.size;have rB:=h.row.mod F λu=>h.pe.off mb u (.inr (.inl rfl));refine ab.st (i:=4) rB (by simp[vg]) (by cases n;rfl) λC I L zC=>?_;have I:ab C mb MV (vg os f d n):=I;have a1:=aI h.row;have M:∀b,al e b->¬Z b/\¬b=mb/\¬al f b/\¬al d b:=λb w=>⟨λu=>h.pe.off b w (.inl u),λu=>h.pe.off b w (.inr (.inl u)),λu=>h.pe.off b w (.inr (.inr (.inl u))),λu=>h.pe.off b w (.inr (.inr (.inr u)))⟩;have p:Mod (λb=>b=mb\/al e b) A C:=(F.mono λb _ u=>.inr u).trans (L.mono λb _ u=>.inl u);have sC:C.size=B.size:=zC;have Sf:Step (λb=>Z b\/b=mb\/al d b\/al e b) (λb=>Z b\/b=mb\/al d b\/al n b) A C:=⟨p.mono λb _ u=>u.elim (λv=>.inr (.inl v)) λv=>.inr (.inr (.inr v)),λb u=>by
  rcases u with u|u|u|u
  ·exact .inl (.inl u)
  ·exact .inl (.inr (.inl u))
  ·exact .inl (.inr (.inr (.inl u)))
  ·exact(G b u).imp (λv=>.inr (.inr (.inr v))) id⟩
 have Sd:Step (λb=>Z b\/b=mb\/al f b\/al e b) (λb=>Z b\/b=mb\/al f b\/al n b) A C:=⟨p.mono λb _ u=>u.elim (λv=>.inr (.inl v)) λv=>.inr (.inr (.inr v)),λb u=>by
  rcases u with u|u|u|u
  ·exact .inl (.inl u)
  ·exact .inl (.inr (.inl u))
  ·exact .inl (.inr (.inr (.inl u)))
  ·exact(G b u).imp (λv=>.inr (.inr (.inr v))) id⟩
 have Se:Step (λb=>Z b\/b=mb\/al f b\/al d b) (λb=>Z b\/b=mb\/al f b\/al d b) B C:=⟨L.mono λb _ u=>.inr (.inl u),λb u=>.inl u⟩;refine D (λu=>u.elim S λv=>v.elim U V) n j C ⟨I,h.nz,h.pf.step Sf,h.pd.step Sd,r.step Se⟩ Y m' ⟨p.mono λb _ u=>u.elim .inl λv=>.inr (.inr (.inr v)),λb u=>?_⟩;rcases u with u|u|u|u
 ·exact .inl (.inl u)
 ·exact .inl (.inr (.inl u))
 ·exact .inl (.inr (.inr (.inl u)))
 ·exact(G b u).imp (λv=>.inr (.inr (.inr v))) id
set_option maxHeartbeats 1000000 in
theorem lD.fP {K:Int->aa->Prop}(h:lD Z A mb os f d e lf ld le)(U:∀b,Z b->b<A.size)(V:dG lf)(ad:dG ld)(hn:lf.length+ld.length<=900)(R:∀y,y∈lf\/y∈ld->y.length=2)
  (W:∀f' j B,lD Z B mb os f' e (Sl.mk none 0 0) j le []->dG j->(∀y,y∈j↔y∈lf\/y∈ld)->Step (jM mb f d e) (jM mb f' e (Sl.mk none 0 0)) A B->K (le.length:Int) B):Jw.sp (av mb) A K:=by
 refine Jw.of ?_;unfold Jw.vc;refine ay ld.length (λi z B=>z=(i:Int)/\∃f' j,lD Z B mb os f' d e j ld le/\dG j/\(∀y,y∈j↔y∈lf\/y∈ld.take i)/\Step (jM mb f d e) (jM mb f' d e) A B) ⟨rfl,f,lf,h,V,λy=>by simp,Step.refl _ _⟩ ?_;rintro i _ B next hi ⟨rfl,f1,t,h1,I,m1,J⟩ p
 have zB:=J.mod.size;simp only[aw,av];have Y:=h1.pd.n;refine ab.ld (c:=au) (i:=3) (x:=d) h1.row rfl ?_;refine ao (λq=>?_) (λq=>?_)
 ·have q:(i:Int)<(d.n:Int):=of_decide_eq_true q;have n:i<ld.length:=by omega
  refine ab.ld (c:=au) (i:=2) (x:=f1) h1.row rfl ?_;refine ab.ld (c:=au) (i:=3) (x:=d) h1.row rfl ?_;refine h1.pd.rows.ld n λae r _ ri=>?_;have a6:=R _ (.inr (Qn n));have S:t.length<=900:=by
   have:=mQ I (L:=lf++ld) λy M=>Qj.2 (((m1 y).1 M).imp id Rl);rw[Qt] at this;omega
  have hX:∀b,(Z b\/b=mb\/al d b\/al e b)->b<B.size:=λb u=>by
   rcases u with u|rfl|u|u
   ·have:=U b u;omega
   ·exact aI h1.row
   ·exact h1.pd.lt b u
   ·exact h1.pe.lt b u
  refine tv h1.pf ri I (by omega) (by omega) (λy M=>by rw[R y (((m1 y).1 M).imp id Rl)];decide) hX λf2 N C r2 a2 m2 F P=>?_;have w:=h1.row.mod F λu=>h1.pf.off mb u (.inr (.inl rfl));refine ab.st (i:=2) w (by simp[vg]) (by cases f2;rfl) λD o G zD=>?_;have o:ab D mb MV (vg os f2 d e):=o;have m:Mod (λb=>b=mb\/al f1 b) B D:=(F.mono λb _ u=>.inr u).trans (G.mono λb _ u=>.inl u);have Sd:Step (λb=>Z b\/b=mb\/al f1 b\/al e b) (λb=>Z b\/b=mb\/al f2 b\/al e b) B D:=⟨m.mono λb _ u=>u.elim (λv=>.inr (.inl v)) λv=>.inr (.inr (.inl v)),λb u=>by
   rcases u with u|u|u|u
   ·exact .inl (.inl u)
   ·exact .inl (.inr (.inl u))
   ·exact(P b u).imp (λv=>.inr (.inr (.inl v))) id
   ·exact .inl (.inr (.inr (.inr u)))⟩
  have Se:Step (λb=>Z b\/b=mb\/al f1 b\/al d b) (λb=>Z b\/b=mb\/al f2 b\/al d b) B D:=⟨m.mono λb _ u=>u.elim (λv=>.inr (.inl v)) λv=>.inr (.inr (.inl v)),λb u=>by
   rcases u with u|u|u|u
   ·exact .inl (.inl u)
   ·exact .inl (.inr (.inl u))
   ·exact(P b u).imp (λv=>.inr (.inr (.inl v))) id
   ·exact .inl (.inr (.inr (.inr u)))⟩
  have Sf:Step (λb=>Z b\/b=mb\/al d b\/al e b) (λb=>Z b\/b=mb\/al d b\/al e b) C D:=⟨G.mono λb _ u=>.inr (.inl u),λb u=>.inl u⟩;refine p n _ _ ⟨aH i (by omega),f2,N,⟨o,h1.nz,r2.step Sf,h1.pd.step Sd,h1.pe.step Se⟩,a2,λy=>?_,J.trans ⟨m.mono λb _ u=>u.elim .inl λv=>.inr (.inl v),λb u=>?_⟩⟩
  ·rw[m2 y,m1 y,RC,Qg n,Qj];simp only[Option.toList_some,QV];constructor
   ·rintro(u|u|u)
    ·exact .inr (.inr u)
    ·exact .inl u
    ·exact .inr (.inl u)
   ·rintro(u|u|u)
    ·exact .inr (.inl u)
    ·exact .inr (.inr u)
    ·exact .inl u
  ·rcases u with u|u|u|u
   ·exact .inl (.inl u)
   ·exact(P b u).imp (λv=>.inr (.inl v)) id
   ·exact .inl (.inr (.inr (.inl u)))
   ·exact .inl (.inr (.inr (.inr u)))
 ·have q:¬(i:Int)<(d.n:Int):=of_decide_eq_false q;have Q:i=ld.length:=by omega
  subst Q;rw[Sc] at m1;refine ab.ld (c:=au) (i:=4) (x:=e) h1.row rfl ?_;refine ab.st (i:=3) h1.row (by simp[vg]) (by cases e;rfl) λC w F zC=>?_;have w:ab C mb MV (vg os f1 e e):=w;refine ab.st (i:=4) w (by simp[vg]) rfl λD o G zD=>?_;have o:ab D mb MV (vg os f1 e (Sl.mk none 0 0)):=o;refine ab.ld (c:=au) (i:=3) (x:=e) o rfl ?_;have m:Mod (λb=>b=mb) B D:=F.trans G;have no:∀b,¬al (Sl.mk none 0 0) b:=λb u=>by obtain⟨ad,h,_⟩:=u;cases h
  have k1:Step (λb=>Z b\/b=mb\/al d b\/al e b) (λb=>Z b\/b=mb\/al d b\/al e b) B D:=⟨m.mono λb _ u=>.inr (.inl u),λb u=>.inl u⟩;have k2:Step (λb=>Z b\/b=mb\/al f1 b\/al d b) (λb=>Z b\/b=mb\/al f1 b\/al d b) B D:=⟨m.mono λb _ u=>.inr (.inl u),λb u=>.inl u⟩;rw[h1.pe.n];refine W f1 t D ⟨o,h1.nz,(h1.pf.step k1).mono λb _ u=>?_,(h1.pe.step k2).mono λb _ u=>?_,dR.nil _ _⟩ I m1 (J.trans ⟨m.mono λb _ u=>.inl u,λb u=>?_⟩)
  ·rcases u with u|u|u|u
   ·exact .inl u
   ·exact .inr (.inl u)
   ·exact .inr (.inr (.inr u))
   ·exact absurd u (no b)
  ·rcases u with u|u|u|u
   ·exact .inl u
   ·exact .inr (.inl u)
   ·exact .inr (.inr (.inl u))
   ·exact absurd u (no b)
  ·rcases u with u|u|u|u
   ·exact .inl (.inl u)
   ·exact .inl (.inr (.inl u))
   ·exact .inl (.inr (.inr (.inr u)))
   ·exact absurd u (no b)
end
theorem Mr {H A:aa}{F:Nat->Prop}{p dp:Nat}(e:Ext H A)(j:ax F A p dp (vY (AQ 100000) 12))(m:∀b,F b->H.size<=b):aM H A F p dp (vY (AQ 100000) 12) kV 100000 0 12 1:=
 ⟨e,j,m,⟨⟨rfl,rfl,rfl,by decide,by decide,Ti,λi f c=>(by cases c),λn x h=>(by cases h),λg o=>(by cases o)⟩,BU (by decide) (by decide),λf c=>(by cases c)⟩,by decide,by decide,by decide,by decide,λn x h=>(by cases h),rfl⟩
theorem Mk {R:ak}(f:R.f.ts=[])(d:R.d.ts=[])(e:R.e.ts=[]):zw R [] [] []:=by
 have k:∀(q:aP),q.ts=[]->∀i y,y∈q.aQ i↔∃x∈([]:List (List Int)),y=bk x (R.ords.getD i []):=λq c i y=>by
  unfold aP.aQ;rw[c];simp
 exact⟨λi _ y=>k _ f i y,λi _ y=>k _ d i y,λi _ y=>k _ e i y⟩
theorem NC {R:ak}{nm:ByteArray}{ords:List (List Int)}(n:HO nm 2 ords R)(h:nm.size<=90)(i:yp ords):iY R [] [] [] 0:=by
 refine⟨n.W,by rw[n.name];exact h,by rw[n.ords];exact i,n.ex,n.nb.trans n.next.symm,by rw[n.next];exact QN _,by rw[n.turns];exact Qm _,λq c=>.inl ?_,Mk n.f n.d n.e⟩;unfold ak.parts at c;simp only[Qs,QT,or_false] at c;rcases c with rfl|rfl|rfl
 ·exact n.f
 ·exact n.d
 ·exact n.e
def Ju (n i:Nat):Nat:=(if n/2<i then 1 else 0)+(if n*4/5<i then 1 else 0)
def Fw (V:Nat->Prop)(mb:Nat)(f d e:Sl)(b:Nat):Prop:=jM mb f d e b\/V b
def Pb (V:Nat->Prop)(H0 H h:aa)(rb mb wb n i:Nat)(os:Sl)(j:Array Value)(A:aa):Prop:=
 ∃F p dp s M U m R k f d e So Sd Sn lf c le,RS H0 A F (Fw V mb f d e) p dp s M U m R/\iY R So Sd Sn k/\R.rb=rb/\fe So Sd Sn/\lD (R.X F) A mb os f d e lf c le/\(dG lf/\dG c/\dG le)/\(∀y,(y∈lf↔y∈So)/\(y∈c↔y∈Sd)/\(y∈le↔y∈Sn))/\
   ab A wb K3 j/\(∀b,R.X F b\/jM mb f d e b->H.size<=b/\b≠wb)/\Ext H A/\h.size<=A.size/\So.length+Sd.length+Sn.length<=i/\k<=i+41*Ju n i/\m<=100000000*i+1
section
variable {H0 H A B:aa}{K:(Option Addr×Bool)->aa->Prop}{rows os:Sl}{rl ords:List (List Int)}
theorem iL.of {X:Nat->Prop}{A:aa}{x:Sl}(h:∀a,x.a=some a->a.block<A.size/\¬X a.block):iL X A x:=h
set_option maxHeartbeats 4000000 in
set_option maxRecDepth 20000 in
theorem yR {V:Nat->Prop}(hg:Gl H0)(b3:Pw H0)(e0:Ext H0 H)(hV:∀b,V b->b<H.size/\H0.size<=b)(hr:jR (λb=>H.size<=b) H rows rl)(hn:rl.length<=40)(h2:∀y∈rl,y.length=2/\cO y)(ho:jW (λ_=>False) H os ords)(o2:yp ords)
  (hK:∀wb p rb c X So Sd Sn B,cE H0 rb So Sd Sn 100 B X V->fe So Sd Sn->ab B wb K3 #[.pointer (av p),.pointer (av rb),c,.int .i64 0,.bool false]->¬X wb->H.size<=wb->(∀b,X b->H.size<=b)->Ext H B->K (av wb,true) B):Jd.sp rows 2 os H K:=by
 refine Jd.of ?_;unfold Jd.vc;have b4:=hr.len;have z0:=e0.size;have ec:Gl H:=hg.mod e0 id;refine FJ (by decide) λF1 d1 H1 a1 e1 f1=>?_;refine TP.new (m:=12) ec e1 a1 f1 (by decide) (by decide) λp H2 t2=>?_;obtain⟨e2,F,p2,f2⟩:=t2;have P2:=Mr (e0.trans e2) p2 λb hb=>by have:=f2 b hb;omega
 have b5:jW (λ_=>False) H2 os ords:=ho.step ⟨e2.mod,λ_ u=>u.elim⟩;obtain⟨b6,eF⟩:=o2.len;have P:ords[0]?=some [0,1]:=by rcases o2 with rfl|rfl<;>rfl
 refine wZ (F:=λb=>F b\/V b) (M:=kV) (p:=p) (H0:=H0) (W:=2) (by decide) b5 b6 (by omega) (λx hx=>?_) P (λb u=>u.elim (P2.ar.lt b) λv=>by have:=hV b v;have:=e2.size;omega) P2.ext.size (λ_=>rfl) λR H3 n3 q3 e3 o3=>?_
 ·rcases o2.mem hx with rfl|rfl
  ·exact⟨rfl,tt (Vp _)⟩
  ·exact⟨rfl,tt (List.isPerm_iff.1 (by decide))⟩
 have ed:jW (λ_=>False) H3 os ords:=b5.step ⟨e3.mod,λ_ u=>u.elim⟩;refine HS ed b6 (by omega) (λx hx=>?_) P λH4 r4 e4 z4=>?_
 ·rcases o2.mem hx with rfl|rfl<;>exact⟨rfl,by decide,by decide⟩
 refine az rfl ?_;refine aj λH5 z5 r5 e5=>?_;obtain⟨mb,ee⟩:∃mb,mb=H3.size:=⟨_,rfl⟩;obtain⟨wb,eg⟩:∃wb,wb=H4.size:=⟨_,rfl⟩;rw[<-eg] at r5 ⊢;rw[<-ee] at r4 r5 ⊢;have r5:ab H5 wb K3 #[.pointer (av p),.pointer (av R.rb),.pointer (av mb),.int .i64 0,.bool false]:=r5;have b7:=e4.trans e5;have b8:=e3.trans b7;have ei:=e2.trans b8;have P5:=P2.grow b8;have s2:=e2.size;have s3:=e3.size;have s5:=e5.size;have no:∀b,¬al (Sl.mk none 0 0) b:=λb u=>by obtain⟨ad,h,_⟩:=u;cases h
 have hO:∀b,jM mb (Sl.mk none 0 0) (Sl.mk none 0 0) (Sl.mk none 0 0) b->b=mb:=λb u=>by
  rcases u with u|u|u|u
  ·exact u
  all_goals exact absurd u (no b)
 have w:∀b,R.X F b->b<H3.size/\H.size<=b:=λb u=>by
  rcases u with u|u
  ·have:=P2.ar.lt b u;have:=f2 b u;omega
  ·have:=q3.lt b u;have:=o3 b u;omega
 have b9:RS H0 H5 F (Fw V mb (Sl.mk none 0 0) (Sl.mk none 0 0) (Sl.mk none 0 0)) p d1 (vY (AQ 100000) 12) kV 0 1 R:=by
  refine⟨P5,(q3.fresh (X:=jM mb (Sl.mk none 0 0) (Sl.mk none 0 0) (Sl.mk none 0 0)) b7 λb u=>by rw[hO b u];omega).congr λb=>⟨λu=>?_,λu=>?_⟩,λa y hy=>(by cases hy),λb u=>?_⟩
  ·rcases u with (u|u)|u
   ·exact .inl u
   ·exact .inr (.inr u)
   ·exact .inr (.inl u)
  ·rcases u with u|u|u
   ·exact .inl (.inl u)
   ·exact .inr u
   ·exact .inl (.inr u)
  rcases u with u|u
  ·rw[hO b u];exact⟨by omega,λv=>by have:=(w mb (.inl v)).1;omega,by omega⟩
  ·have:=hV b u;exact⟨by omega,λv=>by have:=(w b (.inl v)).2;omega,this.2⟩
 have start:Pb V H0 H H5 R.rb mb wb rl.length 0 os #[.pointer (av p),.pointer (av R.rb),.pointer (av mb),.int .i64 0,.bool false] H5:=by
  refine⟨F,p,d1,_,kV,0,1,R,0,Sl.mk none 0 0,Sl.mk none 0 0,Sl.mk none 0 0,[],[],[],[],[],[],b9,NC n3 (by decide) o2,rfl,⟨λx hx=>(by cases hx),Ti,QN _⟩,⟨r4.ext e5,λv=>by have:=(w mb v).1;omega,dR.nil _ _,dR.nil _ _,dR.nil _ _⟩,⟨Tj,Tj,Tj⟩,λy=>⟨TW,TW,TW⟩,r5,λb u=>?_,ei,Qm _,Qm _,QN _,by decide⟩;rcases u with u|u
  ·have:=w b u;omega
  ·rw[hO b u];omega
 obtain⟨q,hq⟩:∃q,q=2000000:=⟨_,rfl⟩;refine ay rl.length (λi z B=>z=(i:Int)/\Pb V H0 H H5 R.rb mb wb rl.length i os #[.pointer (av p),.pointer (av R.rb),.pointer (av mb),.int .i64 0,.bool false] B) ⟨rfl,start⟩ ?_;rintro i _ A next hi ⟨rfl,I⟩ ba
 clear start b9 P5 P2 q3 r4 r5 p2 w hO;obtain⟨F,p',dp,s,M,U,m,R1,k,f,d,e,So,Sd,Sn,lf,t,le,rs,ok,bs,L,rf,⟨af,ad,ae⟩,mem,bE,G,eA,zA,hlen,hk,hm⟩:=I;have few:=L.few;have lens:lf.length<=So.length/\t.length<=Sd.length/\le.length<=Sn.length:=⟨mQ af λy hy=>(mem y).1.1 hy,mQ ad λy hy=>(mem y).2.1.1 hy,mQ ae λy hy=>(mem y).2.2.1 hy⟩;have eG:Ju rl.length i<=2:=by unfold Ju;split<;>split<;>omega
 have eH:=aI bE;have bg:∀y,y∈lf\/y∈t\/y∈le->y.length=2:=λy hy=>by
  obtain⟨m1,m2,m3⟩:=mem y;refine(L.mem y ?_).1;rcases hy with u|u|u
  ·exact Qj.2 (.inl (Qj.2 (.inl (m1.1 u))))
  ·exact Qj.2 (.inl (Qj.2 (.inr (m2.1 u))))
  ·exact Qj.2 (.inr (m3.1 u))
 refine ao (λhc=>?_) (λ_=>?_)
 ·have bA:i<rl.length:=by
   have:(i:Int)<(rows.n:Int):=of_decide_eq_true hc;omega
  obtain⟨y2,yf⟩:=h2 _ (Qn bA);have ej:∀{B:aa},Ext H B->jR (λb=>H.size<=b) B rows rl:=λe=>hr.step ⟨e.mod,λ_ u=>.inl u⟩
  -- a row of the list
  have rowAt:∀{B:aa} {Q:Addr->Sl->Prop},Ext H B->(∀a x,Ints .u64 B x rl[i]->(∀a,x.a=some a->a.block<H.size)->Q a x)->ah rows.a λa=>(0<=(i:Int)/\(i:Int)<(rows.n:Int))/\ld au B (a.add ((i:Int).toNat*1)) λx=>Q a x:=λ{B Q} eB hQ=>by
   obtain⟨ad,r,q1,q2,q3,q4⟩:=(ej eB).at' i bA;exact aY ad q1 ⟨⟨by omega,by omega⟩,r,by rw[QD,Nat.mul_one];exact q2,hQ ad r q4 λa ha=>by have:=(q3 a ha).2;omega⟩
  have ym:∀{B:aa} {x:Sl} {Y:Nat->Prop},H.size<=B.size->(∀b,Y b->H.size<=b)->(∀a,x.a=some a->a.block<H.size)->iL Y B x:=λhz hY hx=>iL.of λa ha=>⟨by have:=hx a ha;omega,λu=>by have:=hY _ u;have:=hx a ha;omega⟩;refine rowAt eA λa1 x ix ox=>?_;rw[<-bs];have cm:m+4000000<=30000000000:=by omega
  -- behind both Adds
  have tail:∀{F' s' M' U' m' R' k' J j n B b'},RS H0 B F' (Fw V mb f d J) p' dp s' M' U' m' R'->iY R' So Sd j k'->R'.rb=R1.rb->fe So Sd j->lD (R'.X F') B mb os f d J lf t n->dG n->(∀y,y∈n↔y∈j)->Step (λb=>R1.X F b\/jM mb f d e b) (λb=>R'.X F' b\/jM mb f d J b) A B->So.length+Sd.length+j.length<=i+1->k'<=k+1->m'=m+4000000->
    br ((!((b':Bool)==b'))||((0:Int)!=0)) (K (none,false) B) (br (((i:Int)==(Qe.wrap (Qy (rows.n:Int) (2:Int))))||((i:Int)==(Qe.wrap (Qy (Qe.wrap ((rows.n:Int)*(4:Int))) (5:Int))))) (Cy.sp (av R1.rb) B λ(cA:(Int×Int)) H9=>br (cA.2!=(0:Int)) (K (none,false) H9) (Jw.sp (av mb) H9 λ(ek:Int) cB=>br (cA.1!=ek) (K (none,false) cB) (next (Qe.wrap ((i:Int)+(1:Int))) cB))) (next (Qe.wrap ((i:Int)+(1:Int))) B)):=by
   intro F' s' M' U' m' R' k' J j n B b' cF c0 bl o c3 bB a6 S en eI eL;have zB:=S.mod.size;have eB:Ext H B:=⟨by have:=eA.size;omega,λb hb _=>(S.mod.same b (by have:=eA.size;omega) λu=>by have:=(G b u).1;omega).trans (eA.same b hb id)⟩;have bG:=bE.mod S.mod λu=>(G wb u).2 rfl;have a7:∀b,R'.X F' b\/jM mb f d J b->H.size<=b/\b≠wb:=λb u=>by
    rcases S.own b u with v|v
    ·exact G b v
    ·have:=eA.size;exact⟨by omega,by omega⟩
   have eC:=o.few;have eb:n.length<=j.length:=mQ bB λy hy=>(a6 y).1 hy;have b0:n.length=j.length:=oR (gq bB) (QY.1 o.nodup).2.1 a6;refine az (by cases b'<;>rfl) ?_;have w1:Qe.wrap (Qy (rows.n:Int) 2)=((rl.length/2:Nat):Int):=by
    rw[b4,Vc (by omega),wrap64 (by omega) (by omega)];omega
   have w2:Qe.wrap (Qy (Qe.wrap ((rows.n:Int)*4)) 5)=((rl.length*4/5:Nat):Int):=by
    rw[b4,wrap64 (x:=(rl.length:Int)*4) (by omega) (by omega),Vc (by omega),wrap64 (by omega) (by omega)];omega
   rw[w1,w2];have tm:Ju rl.length i<=Ju rl.length (i+1):=by unfold Ju;split<;>split<;>split<;>split<;>omega
   refine ao (λht=>?_) (λht=>?_)
   ·have ht:i=rl.length/2\/i=rl.length*4/5:=by
     simp only[Bool.or_eq_true,beq_iff_eq] at ht;omega
    have eP:Ju rl.length i+1<=Ju rl.length (i+1):=by
     unfold Ju;rcases ht with ht|ht<;>(split<;>split<;>split<;>split<;>omega)
    have hmul:q*(Sd.length+2)<=q*42:=Nat.mul_le_mul_left _ (by omega);have eD:q*42=84000000:=by rw[hq]
    rw[<-bl];refine cF.fP c0 o hg b3 hq (by omega) (by omega) λF2 s2 M2 U2 R2 C t2 eo c4 S2=>?_;refine az rfl ?_;have zC:=S2.mod.size;have a8:lD (R2.X F2) C mb os f d J lf t n:=c3.step S2;refine a8.fP (λb u=>(t2.off u).1) af ad (by omega) (λy hy=>bg y (hy.imp id .inl)) λf3 ep D c5 er c6 S3=>?_;rw[b0];refine az (by simp) ?_;have eE:∀b,jM mb f d J b->b<C.size/\¬R2.X F2 b:=λb u=>⟨a8.lt b u,a8.off b u⟩;have t3:RS H0 D F2 (Fw V mb f3 J (Sl.mk none 0 0)) p' dp s2 M2 U2 (m'+q*(Sd.length+2)) R2:=by
     refine(t2.write (N:=λb=>jM mb f3 J (Sl.mk none 0 0) b/\C.size<=b) (S3.mod.mono λb _ u=>.inl u) λb u=>⟨u.2,c5.lt b u.1⟩).less λb u=>?_;rcases u with u|u
     ·rcases S3.own b u with v|v
      ·exact .inl (.inl v)
      ·exact .inr ⟨u,v⟩
     ·exact .inl (.inr u)
    have bC:Step (λb=>R'.X F' b\/jM mb f d J b) (λb=>R2.X F2 b\/jM mb f3 J (Sl.mk none 0 0) b) B D:=
     (S2.fK (X':=λb=>R2.X F2 b\/jM mb f d J b) (λb u=>.inl u) λb u=>u.elim .inr λv=>.inl (.inr v)).trans (S3.fK (λb u=>.inr u) λb u=>u.elim (λv=>.inl (.inl v)) .inr)
    have c7:fe (So++Sd) j []:=⟨by rw[RA];exact o.mem,by rw[RA];exact o.nodup,by rw[Qt,R7];omega⟩;have zD:=bC.mod.size;refine ba bA _ _ ⟨aH i (by omega),F2,p',dp,s2,M2,U2,_,R2,_,f3,J,_,So++Sd,j,[],ep,n,[],t3,eo,c4.trans (bl.trans bs),c7,c5,⟨er,bB,Tj⟩,λy=>⟨?_,a6 y,TW⟩,bG.mod bC.mod λu=>(a7 wb u).2 rfl,λb u=>?_,⟨by have:=eB.size;omega,λb hb _=>(bC.mod.same b (by have:=eB.size;omega) λu=>by have:=(a7 b u).1;omega).trans (eB.same b hb id)⟩,by omega,by rw[Qt,R7];omega,?_,?_⟩
    ·rw[c6 y,(mem y).1,(mem y).2.1,Qj]
    ·rcases bC.own b u with v|v
     ·exact a7 b v
     ·have:=eB.size;have:=aI bG;exact⟨by omega,by omega⟩
    ·omega
    ·omega
   ·refine ba bA _ _ ⟨aH i (by omega),F',p',dp,s',M',U',m',R',k',f,d,J,So,Sd,j,lf,t,n,cF,c0,bl.trans bs,o,c3,⟨af,ad,bB⟩,λy=>⟨(mem y).1,(mem y).2.1,a6 y⟩,bG,a7,eB,by omega,en,by omega,by omega⟩
  have eR:∀b,R1.X F b->b<A.size:=λb u=>(rs.off u).1;refine rs.add ok L hg b3 (by omega) cm ix (ym eA.size (λb u=>(G b (.inl u)).1) ox) ⟨y2,yf⟩ (λet F' s' B t1 S1=>?_) (λc8 F' s' M' U' R' B t1 eu c9 S1=>?_)
  ·have zB:=S1.mod.size;have eB:Ext H B:=⟨by have:=eA.size;omega,λb hb _=>(S1.mod.same b (by have:=eA.size;omega) λu=>by have:=(G b (.inl u)).1;omega).trans (eA.same b hb id)⟩;refine rowAt eB λa2 x2 b1 ev=>?_;have bD:lD (R1.X F') B mb os f d e lf t le:=rf.step S1;have dk:rl[i]∈lf\/rl[i]∈t\/rl[i]∈le:=by
    obtain⟨m1,m2,m3⟩:=mem rl[i];rw[m1,m2,m3];rcases Qj.1 et with u|u
    ·exact(Qj.1 u).imp id .inl
    ·exact .inr (.inr u)
   refine bD.add (λb u=>(t1.off u).1) af ad ae (by omega) (by omega) (by omega) bg b1 y2 (λ_=>?_) (λu=>absurd dk u);exact tail (b':=false) t1 ok rfl L bD ae (λy=>(mem y).2.2) (S1.fK (λb u=>.inl u) λb u=>u.elim .inr λv=>.inl (.inr v)) (by omega) (Nat.le_succ _) rfl
  ·have zB:=S1.mod.size;have eB:Ext H B:=⟨by have:=eA.size;omega,λb hb _=>(S1.mod.same b (by have:=eA.size;omega) λu=>by have:=(G b (.inl u)).1;omega).trans (eA.same b hb id)⟩;refine rowAt eB λa2 x2 b1 ev=>?_;have bD:lD (R'.X F') B mb os f d e lf t le:=rf.step S1;have dt:¬(rl[i]∈lf\/rl[i]∈t\/rl[i]∈le):=by
    obtain⟨m1,m2,m3⟩:=mem rl[i];rw[m1,m2,m3];intro u;refine c8 ?_;rcases u with u|u|u
    ·exact Qj.2 (.inl (Qj.2 (.inl u)))
    ·exact Qj.2 (.inl (Qj.2 (.inr u)))
    ·exact Qj.2 (.inr u)
   refine bD.add (λb u=>(t1.off u).1) af ad ae (by omega) (by omega) (by omega) bg b1 y2 (λu=>absurd u dt) (λ_ J n C a8 ew dT S2=>?_);have t2:RS H0 C F' (Fw V mb f d J) p' dp s' M' U' (m+4000000) R':=by
    refine(t1.write (N:=λb=>jM mb f d J b/\B.size<=b) (S2.mod.mono λb _ u=>.inl u) λb u=>⟨u.2,a8.lt b u.1⟩).less λb u=>?_;rcases u with u|u
    ·rcases S2.own b u with v|v
     ·exact .inl (.inl v)
     ·exact .inr ⟨u,v⟩
    ·exact .inl (.inr u)
   have ea:fe So Sd (Sn++[rl[i]]):=by
    refine⟨λz hz=>?_,?_,by rw[Qt,RF];omega⟩
    ·rw[<-Rg] at hz;rcases Qj.1 hz with u|u
     ·exact L.mem z u
     ·rw[QV.1 u];exact⟨y2,yf⟩
    ·rw[<-Rg];refine QY.2 ⟨L.nodup,by simp,λa ha b hb e=>?_⟩;rw[QV.1 hb] at e;exact c8 (e▸ha)
   refine tail (b':=true) t2 eu c9 ea a8 ew (λy=>?_) ((S1.fK (X':=λb=>R'.X F' b\/jM mb f d e b) (λb u=>.inl u) λb u=>u.elim .inr λv=>.inl (.inr v)).trans (S2.fK (λb u=>.inr u) λb u=>u.elim (λv=>.inl (.inl v)) .inr)) (by rw[Qt,RF];omega) (Qm _) rfl;rw[dT y,(mem y).2.2,Qj,QV,or_comm]
 ·have ey:Aa=123000000:=rfl;refine hK wb p R.rb (.pointer (av mb)) (R1.X F) So Sd Sn A ⟨F,p',dp,s,M,U,m,R1,k,rs.less λb u=>.inr u,ok,bs,by omega,by rw[ey];omega,λb u=>u,λb u=>?_,λb u=>⟨(rs.beside b (.inr u)).1,(hV b u).2⟩⟩ L bE (λu=>(G wb (.inl u)).2 rfl) (by omega) (λb u=>(G b (.inl u)).1) eA;obtain⟨g1,g2,g3⟩:=rs.off u;exact⟨g1,g2,λv=>g3 (.inr v)⟩
end
structure KpJ (u w:Nat)(cu cw:Array Value)(outs:List (Sl×List (List Int)))(Y:Nat->Prop)(A:aa):Prop where
 ru:ab A u K3 cu
 rw:ab A w K3 cw
 off:¬Y u/\¬Y w
 rows:∀o∈outs,dz Y A o.1 o.2
theorem KpJ.step {u w:Nat}{cu cw:Array Value}{outs:List (Sl×List (List Int))}{Y c:Nat->Prop}{A B:aa}(h:KpJ u w cu cw outs Y A)(S:Step Y c A B):KpJ u w cu cw outs c B:=
 ⟨h.ru.mod S.mod h.off.1,h.rw.mod S.mod h.off.2,⟨λv=>(S.own _ v).elim h.off.1 λg=>by have:=aI h.ru;omega,λv=>(S.own _ v).elim h.off.2 λg=>by have:=aI h.rw;omega⟩,λo i=>(h.rows o i).step S⟩
theorem KpJ.add {u w:Nat}{cu cw:Array Value}{outs:List (Sl×List (List Int))}{Y:Nat->Prop}{A:aa}{s:Sl}{ls:List (List Int)}(h:KpJ u w cu cw outs Y A)(r:dz Y A s ls):KpJ u w cu cw ((s,ls)::outs) Y A:=
 ⟨h.ru,h.rw,h.off,λo c=>by
  rcases Qs.1 c with rfl|c
  ·exact r
  ·exact h.rows o c⟩
structure JC where
 u:Nat
 w:Nat
 cu:Array Value
 cw:Array Value
 ub:Nat
 wb:Nat
 Uo:List (List Int)
 Ud:List (List Int)
 Un:List (List Int)
 Wo:List (List Int)
 Wd:List (List Int)
 Wn:List (List Int)
def JC.L (c:JC):List (List Int):=fH (c.Uo++c.Ud)
def JC.T (c:JC):List (List Int):=fH (c.Wo++c.Wd)
def JS (H0:aa)(c:JC)(h i:Nat)(outs:List (Sl×List (List Int)))(A:aa):Prop:=
 ∃X1 X2,Wk (cE H0 c.ub c.Uo c.Ud c.Un h) (cE H0 c.wb c.Wo c.Wd c.Wn i) A X1 X2 (λ_=>False) (λ_=>False)/\KpJ c.u c.w c.cu c.cw outs (Ow X1 X2 λ_=>False) A
def JR (H0:aa)(c:JC)(h i:Nat)(outs:List (Sl×List (List Int)))(sb pc pr pp:Nat)(A:aa):Prop:=
 ∃X1 X2,Wk (qT H0 c.ub c.Uo c.Ud c.Un h sb pc pr pp c.L) (cE H0 c.wb c.Wo c.Wd c.Wn i) A X1 X2 (λ_=>False) (λ_=>False)/\KpJ c.u c.w c.cu c.cw outs (Ow X1 X2 λ_=>False) A
def JG (c:JC)(A:aa):Prop:=ab A c.u K3 c.cu/\ab A c.w K3 c.cw
section
variable {H0 A B:aa}{c:JC}{nu nw sb pc pr pp:Nat}{outs:List (Sl×List (List Int))}
theorem KpJ.g {Y:Nat->Prop}(h:KpJ c.u c.w c.cu c.cw outs Y A):JG c A:=⟨h.ru,h.rw⟩
theorem JS.g (h:JS H0 c nu nw outs A):JG c A:=by obtain⟨_,_,_,k⟩:=h;exact k.g
theorem JR.g (h:JR H0 c nu nw outs sb pc pr pp A):JG c A:=by obtain⟨_,_,_,k⟩:=h;exact k.g
theorem JS.ext (h:JS H0 c nu nw outs A)(e:Ext A B):JS H0 c nu nw outs B:=by
 obtain⟨X1,X2,w,k⟩:=h;obtain⟨w',S⟩:=w.grow aO aO e;exact⟨X1,X2,w',k.step S⟩
theorem JR.ext (h:JR H0 c nu nw outs sb pc pr pp A)(e:Ext A B):JR H0 c nu nw outs sb pc pr pp B:=by
 obtain⟨X1,X2,w,k⟩:=h;obtain⟨w',S⟩:=w.grow l7 aO e;exact⟨X1,X2,w',k.step S⟩
theorem JS.rel {K:Option Addr->aa->Prop}(h:JS H0 c (nu+1) nw outs A)(i:∀sb pc pr pp B,JR H0 c nu nw outs sb pc pr pp B->Ext A B->K (av sb) B):uY.sp (av c.ub) 1 A K:=by
 obtain⟨X1,X2,w,k⟩:=h;refine wh w.j1 λsb pc pr pp B X' g S e=>?_;obtain⟨w',j⟩:=w.l aO l7 g S;exact i sb pc pr pp B ⟨X',X2,w',k.step j⟩ e
theorem iJ (h:fe c.Uo c.Ud c.Un):c.L.length<=40/\dG c.L/\∀y∈c.L,y.length=2:=by
 have j:=(QY.1 h.nodup).1;refine⟨?_,kE j,λy i=>?_⟩
 ·have:=h.few;show (fH _).length<=40;rw[(bR _).length_eq,Qt];omega
 ·have i:y∈fH (c.Uo++c.Ud):=i;rw[(bR _).mem_iff] at i;exact(h.mem y (Qj.2 (.inl i))).1
theorem qg (h:fe c.Wo c.Wd c.Wn):c.T.length<=40/\dG c.T/\∀y∈c.T,y.length=2:=by
 have j:=(QY.1 h.nodup).1;refine⟨?_,kE j,λy i=>?_⟩
 ·have:=h.few;show (fH _).length<=40;rw[(bR _).length_eq,Qt];omega
 ·have i:y∈fH (c.Wo++c.Wd):=i;rw[(bR _).mem_iff] at i;exact(h.mem y (Qj.2 (.inl i))).1
theorem tK (d1:fe c.Uo c.Ud c.Un)(d2:fe c.Wo c.Wd c.Wn):(bO c.L c.T).length<=1600:=by
 have h1:=(iJ d1).1;have h:=(qg d2).1;have:=y9 c.L c.T;have:=Nat.mul_le_mul h1 h;omega
theorem back {X' X1 X2 O:Nat->Prop}{rb:Nat}{So Sd Sn ls:List (List Int)}{n m:Nat}{out:Sl}(w:Wk (cE H0 c.ub c.Uo c.Ud c.Un n) (cE H0 rb So Sd Sn m) A X1 X2 O (λ_=>False))(i:∀b,X' b↔Ow X1 X2 O b)(k:KpJ c.u c.w c.cu c.cw outs X' A)(rc:dz (λb=>X' b\/False) A out ls):
  Wk (cE H0 c.ub c.Uo c.Ud c.Un n) (cE H0 rb So Sd Sn m) A X1 X2 (λ_=>False) (λ_=>False)/\KpJ c.u c.w c.cu c.cw ((out,ls)::outs) (Ow X1 X2 λ_=>False) A:=by
 obtain⟨w',_⟩:=w.own (O':=λ_=>False) aO aO (.refl _ _) λb u=>u.elim;have h:∀b,Ow X1 X2 (λ_=>False) b->X' b:=λb u=>(i b).2 (by
  rcases u with u|u|u
  ·exact .inl u
  ·exact .inr (.inl u)
  ·exact u.elim)
 exact⟨w',(k.step ⟨.refl _ _,λb u=>.inl (h b u)⟩).add (rc.mono λb _ u=>.inl (h b u))⟩
theorem JR.loop {G:aa->Prop}{J:(Sl×Bool)->aa->Prop}{p1 p2:Sl}(m:Gl H0)(d1:fe c.Uo c.Ud c.Un)(d2:fe c.Wo c.Wd c.Wn)(o:∀B,JG c B->G B)(h:JR H0 c nu (c.L.length+nw) outs sb pc pr pp A)(v:Ints .i64 A p1 [0])(hr:Ints .i64 A p2 [0])
  (y:∀out B,JS H0 c nu nw ((out,bO c.L c.T)::outs) B->J (out,true) B):yz.sp (av sb) (av c.wb) 1 p1 p2 A λr H'=>G H'/\qz.sp r H' λp i=>G i/\J (p.1,p.2) i:=by
 obtain⟨X1,X2,w,k⟩:=h;have S:=mV (sb:=sb) (n:=nu) (pc:=pc) (pr:=pr) (pp:=pp) (rb:=c.ub) m d1;refine BW S w v hr λq B X' z j g D e=>?_;have t:=k.step D;refine⟨o _ t.g,?_⟩;have F:im H0 q.a 2 (qT H0 c.ub c.Uo c.Ud c.Un nu sb pc pr pp) (cE H0 c.ub c.Uo c.Ud c.Un nu):=z▸S;refine sh (DX m d2 F) g (by have:=tK d1 d2;show (bO c.L c.T).length<=5000;omega) λout C I f L rc=>?_;have u:=t.step L;refine⟨o _ u.g,y out C ?_⟩;obtain⟨M,N,O,P,w',_⟩:=f;rw[j] at w';obtain⟨Q,R⟩:=back w' P u rc;exact⟨M,N,Q,R⟩
theorem JR.OS {G:aa->Prop}{J:(Sl×Bool)->aa->Prop}{p1 p2:Sl}(m:Gl H0)(d1:fe c.Uo c.Ud c.Un)(d2:fe c.Wo c.Wd c.Wn)(o:∀B,JG c B->G B)(h:JR H0 c nu (c.L.length+nw) outs sb pc pr pp A)(v:Ints .i64 A p1 [0])(hr:Ints .i64 A p2 [0])
  (y:∀out B,JS H0 c nu nw ((out,cJ c.L c.T)::outs) B->J (out,true) B):xU.sp (av sb) (av c.wb) p1 p2 A λr H'=>G H'/\qz.sp r H' λp i=>G i/\J (p.1,p.2) i:=by
 obtain⟨X1,X2,w,k⟩:=h;have S:=mV (sb:=sb) (n:=nu) (pc:=pc) (pr:=pr) (pp:=pp) (rb:=c.ub) m d1;refine Bk S w v hr λq B X' z j g D e=>?_;have t:=k.step D;refine⟨o _ t.g,?_⟩;have F:im H0 q.a 2 (qT H0 c.ub c.Uo c.Ud c.Un nu sb pc pr pp) (cE H0 c.ub c.Uo c.Ud c.Un nu):=z▸S;refine sh (DE m d2 F) g (by
  have h1:=(iJ d1).1;have U:(cJ c.L c.T).length<=c.L.length:=SK _ _;show (cJ c.L c.T).length<=5000;omega) λout C I f L rc=>?_
 have u:=t.step L;refine⟨o _ u.g,y out C ?_⟩;obtain⟨M,N,O,P,w',_⟩:=f;rw[j] at w';obtain⟨Q,R⟩:=back w' P u rc;exact⟨M,N,Q,R⟩
theorem Kj {rb n sb pc pr pp:Nat}{So Sd Sn:List (List Int)}{X E:Nat->Prop}:∀{i:Bool} {L:List (List Int)},vf (qT H0 rb So Sd Sn n sb pc pr pp) (cE H0 rb So Sd Sn n) i L A X E->∃X',cE H0 rb So Sd Sn n A X' E/\∀b,X' b->X b
 |false,_,h=>w7 h
 |true,[],h=>⟨X,h,λb u=>u⟩
 |true,_::_,h=>w7 h
theorem JR.merge {K:(Sl×Bool)->aa->Prop}(F:Gl H0)(d1:fe c.Uo c.Ud c.Un)(d2:fe c.Wo c.Wd c.Wn)(h:JR H0 c nu (nw+1) outs sb pc pr pp A)
  (J:∀out B,JS H0 c nu nw ((out,bO c.L c.T)::outs) B->K (out,true) B):uY.sp (av c.wb) 1 A λi o=>JE.sp (av sb) i 1 o λj p=>qz.sp j p K:=by
 obtain⟨X1,X2,w,k⟩:=h;have S:=mV (sb:=sb) (n:=nu) (pc:=pc) (pr:=pr) (pp:=pp) (rb:=c.ub) F d1;refine wh w.j2 λG tc tr I B X' g L e=>?_;obtain⟨M,t⟩:=w.r l7 l7 g L;have N:=k.step t;have ST:=mV (sb:=G) (n:=nw) (pc:=tc) (pr:=tr) (pp:=I) (rb:=c.wb) F d2;have h1:=iJ d1;have v:=qg d2;refine Az (la:=c.L) (T:=c.T) S ST M h1.2.1 v.2.1 v.1 λq C P Q R U V _=>?_;have W:=N.step V;have Sa:im H0 q.a 2 (qT H0 c.ub c.Uo c.Ud c.Un nu sb pc pr pp) (cE H0 c.ub c.Uo c.Ud c.Un nu):=Q▸S;have Sb:im H0 q.b 2 (qT H0 c.wb c.Wo c.Wd c.Wn nw G tc tr I) (cE H0 c.wb c.Wo c.Wd c.Wn nw):=R▸ST;refine sh (A9 Sa Sb v.2.2) U (by have:=tK d1 d2;omega) λout D Y f S3 rc=>?_;have k3:=W.step S3;refine J out D ?_;obtain⟨y,Y2,O,m,w',_⟩:=f;obtain⟨j1,⟨yg,BY,j2⟩,wo⟩:=w';obtain⟨Z,z,hz⟩:=Kj j2;have w2:Wk (cE H0 c.ub c.Uo c.Ud c.Un nu) (cE H0 c.wb c.Wo c.Wd c.Wn nw) D y Z O (λ_=>False):=⟨aO.less j1 λb u=>by
  rcases u with u|u|u
  ·exact .inl u
  ·exact .inr (.inl (hz b u))
  ·exact .inr (.inr u),z,wo⟩
 obtain⟨w3,k4⟩:=back w2 (X':=Ow y Z O) (λb=>TW) (k3.step ⟨.refl _ _,λb u=>.inl ((m b).2 (by
  rcases u with u|u|u
  ·exact .inl u
  ·exact .inr (.inl (hz b u))
  ·exact .inr (.inr u)))⟩) (rc.mono λb _ u=>by
  rcases u with (u|u|u)|u
  ·exact .inl ((m b).2 (.inl u))
  ·exact .inl ((m b).2 (.inr (.inl (hz b u))))
  ·exact .inl ((m b).2 (.inr (.inr u)))
  ·exact u.elim)
 exact⟨y,Z,w3,k4⟩
theorem JR.all {K:(Sl×Bool)->aa->Prop}(i:Gl H0)(d1:fe c.Uo c.Ud c.Un)(h:JR H0 c nu nw outs sb pc pr pp A)
  (j:∀out B,JS H0 c nu nw ((out,c.L)::outs) B->K (out,true) B):qz.sp (av sb) A K:=by
 obtain⟨X1,X2,w,k⟩:=h;have S:=mV (sb:=sb) (n:=nu) (pc:=pc) (pr:=pr) (pp:=pp) (rb:=c.ub) i d1;refine sh S w.j1 (by have:=(iJ d1).1;omega) λout B X' f m rc=>?_;obtain⟨w',o⟩:=w.l aO aO f m;have p:=k.step o;refine j out B ⟨X',X2,w',p.add (rc.mono λb _ u=>?_)⟩;rcases u with u|u|u
 ·exact .inl u
 ·exact .inr (.inr (.inl u))
 ·exact u.elim
end
theorem vZ {A:aa}{k a:Nat}(r:ab A k dX #[.slice (some ⟨a,0,none⟩) 2 2]) (j:ab A a bT #[.int .i64 0,.int .i64 1]):jW (λ_=>False) A ⟨some ⟨k,0,none⟩,1,1⟩ [[0,1]]:=by
 refine⟨rfl,λad h=>?_,λi hi=>?_⟩
 ·have:ad=⟨k,0,none⟩:=(Qq h).symm;subst this;exact⟨aI r,id⟩
 ·have hi:i=0:=by
   have:i<1:=hi;omega
  subst hi;exact⟨_,⟨some ⟨a,0,none⟩,2,2⟩,rfl,by rw[bJ];exact r.cell rfl,λad h=>⟨by have:=(Qq h).symm;subst this;exact aI j,id⟩,gy j,Qm _⟩
theorem Fp {x y:Int}(h:0<=x/\x<100)(i:0<=y/\y<100):bk [x,y] [0,1]=[x,y]/\cO [x,y]:=by
 refine⟨by simp[bk,gX],λz hz=>?_⟩;simp at hz;rcases hz with rfl|rfl<;>omega
theorem IP:dG [[2,7],[2,8]]:=by unfold dG;simp[gO,aL]
theorem BR {A:aa}{k:Nat}{x y z w:Int}(r:ab A k gM #[.int .u64 x,.int .u64 y,.int .u64 z,.int .u64 w]):Ints .u64 A ⟨some ⟨k,0,none⟩,4,4⟩ [x,y,z,w]:=by
 refine⟨rfl,λi u hu=>⟨_,rfl,?_⟩⟩;have hi:i=0\/i=1\/i=2\/i=3:=by have:=(Qk.1 hu).1;simp at this;omega
 rcases hi with rfl|rfl|rfl|rfl<;>
 ·simp at hu;subst hu;rw[bJ];exact r.cell rfl
set_option maxHeartbeats 4000000 in
set_option maxRecDepth 10000 in
theorem ES {H:aa}{K:Bool->aa->Prop}(hg:Gl H)(c0:Pw H)(hK:∀B,Ext H B->K true B):LU.sp H K:=by
 refine LU.of ?_;unfold LU.vc;refine FJ (by decide) λF1 d H1 a1 e1 f1=>?_;refine TP.new (m:=8) hg e1 a1 f1 (by decide) (by decide) λp H2 t2=>?_;obtain⟨e2,F2,p2,f2⟩:=t2;have P2:=Oc e2 p2 f2;refine aj λH3 z3 r3 e3=>?_;refine aj λH5 z5 r5 e5=>?_;have er:=e3.trans e5;have P5:=P2.grow er;have ho:=vZ r5 (r3.ext e5);refine wZ (F:=F2) (M:=kV) (p:=p) (H0:=H) (W:=2) (by decide) ho (by decide) (by decide) (λx hx=>?_) rfl P5.ar.lt P5.ext.size (λ_=>rfl) λR H6 n6 r6 e6 o6=>?_
 ·have:x=[0,1]:=by simpa using hx
  subst this;exact⟨rfl,tt (Vp _)⟩
 refine az rfl (az rfl ?_);have c3:gN H H6 F2 p d (vY (AQ 60) 8) kV 60 0 8 1 0 R:=⟨P5.grow e6,r6,⟨[],λa y hy=>(by cases hy),Qm _⟩⟩;have hW:R.W=2:=n6.W;have D:R.ords=[[0,1]]:=n6.ords;have z:R.ords.length=1:=by rw[D];rfl
 have b1:R.name.size<=90:=by rw[n6.name];decide
 have et:R.nb=R.next:=n6.nb.trans n6.next.symm;have eu:R.next=0:=n6.next;have ae:∀{x y:Int},(0<=x/\x<100)->(0<=y/\y<100)->∀i (hi:i<R.ords.length),R.ords[i].length<=1000/\(bk [x,y] R.ords[i]).length=R.W/\cO (bk [x,y] R.ords[i]):=by
  intro x y hx hy i hi;have ev:i=0:=by omega
  subst ev;obtain⟨q1,q2⟩:=Fp hx hy;have e:R.ords[0]=[0,1]:=by simp[D]
  rw[e,q1,hW];exact⟨by decide,rfl,q2⟩
 have af:∀i,R.e.aQ i=[]:=λi=>by unfold aP.aQ;rw[n6.e];simp
 have a6:∀{R':ak} {l:List Int},R'.f.ts=[]->R'.d.ts=[]->(∃q∈R'.parts,l∈q.rows)->l∈R'.e.rows:=λ{R' l} h1 h2 ⟨q,N,hm⟩=>by
  unfold ak.parts at N;simp only[Qs,QT,or_false] at N;rcases N with rfl|rfl|rfl
  ·unfold aP.rows at hm;rw[h1] at hm;cases hm
  ·unfold aP.rows at hm;rw[h2] at hm;cases hm
  ·exact hm
 refine aj λH7 z7 r7 e7=>?_;have ew:=c3.grow e7;refine qp (w:=0) ew hg c0 (FY hW b1 (by omega) n6.f n6.d n6.ex λi=>by rw[af];decide) (by decide) (by decide) (λi=>by show (R.e.aQ i).length<=0;rw[af];decide) (by decide) (by rw[z];decide) (by rw[z];decide) (by rw[z];decide) (.inl n6.e) n6.ex et (by omega) (gy r7) (CK c3.OU r7) (by rw[hW];rfl) (ae (by decide) (by decide)) (λhex=>?_) (λ_ F8 s8 M8 U8 q8 V H8 a7 I8 u8 gf S8 _ _=>?_)
 ·exfalso;have:=a6 n6.f n6.d hex;unfold aP.rows at this;rw[n6.e] at this;cases this
 have I8:Ins R.ords [2,7] R.e q8:=I8;obtain⟨G,C⟩:∃G,G=(R.put 2 q8).fO V V:=⟨_,rfl⟩;have a7:gN H H8 F8 p d s8 M8 60 U8 8 (1+4000000) (0+R.ords.length) ((R.put 2 q8).fO V V):=a7;rw[<-C] at a7 S8;have g1:G.rb=R.rb:=by rw[C];rfl
 have g2:G.ords=R.ords:=by rw[C];rfl
 have g3:G.f=R.f:=by rw[C];rfl
 have g4:G.d=R.d:=by rw[C];rfl
 have g5:G.e=q8:=by rw[C];rfl
 have g6:G.ex=R.ex:=by rw[C];rfl
 have g7:G.W=R.W:=by rw[C];rfl
 have g8:G.name=R.name:=by rw[C];rfl
 have g9:G.nb=V/\G.next=V/\G.turns=R.turns:=by rw[C];exact⟨rfl,rfl,rfl⟩
 have ey:q8.ts.length=1:=by rw[I8.len,z]
 have t27:bk [2,7] (R.ords.getD 0 [])=[2,7]/\bk [2,8] (R.ords.getD 0 [])=[2,8]:=by rw[D];exact⟨by decide,by decide⟩
 have len8:∀i,(q8.aQ i).length<=1:=λi=>by
  by_cases hi:i<1
  ·have:=(I8.rows i (by omega)).2;rw[af] at this;exact this
  ·rw[Bq (by omega)];exact QN _
 rw[<-g1];refine aj λH9 z9 r9 e9=>?_;have eA:=a7.grow e9;refine qp (w:=1) eA hg c0 (FY (by rw[g7];exact hW) (by rw[g8];exact b1) (by rw[g9.1];omega) (by rw[g3];exact n6.f) (by rw[g4];exact n6.d) (by rw[g6];exact n6.ex) λi=>by rw[g5];have:=len8 i;omega) (by decide) (by decide) (λi=>by show (G.e.aQ i).length<=1;rw[g5];exact len8 i) (by decide) (by rw[g2,z];rw[z] at u8;omega) (by rw[g2,z];decide) (by rw[g2,z];decide) (.inr (by show G.e.ts.length=_;rw[g5,g2,z];exact ey)) (by rw[g6];exact n6.ex) (by rw[g9.1,g9.2.1]) (by rw[g9.2.1,g2,z];omega) (gy r9) (CK a7.OU r9) (by rw[g7,hW];rfl) (λi hi=>by
   have:=ae (x:=2) (y:=8) (by decide) (by decide) i (by rw[<-g2];exact hi);simpa only[g2,g7] using this) (λhex=>?_) (λ_ eB eC eD eE J U gj a8 ba gm b3 eF _ _=>?_)
 ·exfalso;have hm:=a6 (by rw[g3];exact n6.f) (by rw[g4];exact n6.d) hex;rw[kW,g5] at hm;have:=((I8.rows 0 (by omega)).1 [2,8]).1 hm;rw[t27.1,af] at this;rcases this with u|u
  ·exact absurd u (by decide)
  ·cases u
 have ba:Ins G.ords [2,8] G.e J:=ba;rw[g2,g5] at ba;obtain⟨j,n⟩:∃j,j=(G.put 2 J).fO U U:=⟨_,rfl⟩;rw[<-n] at a8 eF;have k1:j.rb=G.rb:=by rw[n];rfl
 have k2:j.ords=R.ords:=by rw[n];exact g2
 have k3:j.f=R.f:=by rw[n];exact g3
 have k4:j.d=R.d:=by rw[n];exact g4
 have k5:j.e=J:=by rw[n];rfl
 have k6:j.ex=R.ex:=by rw[n];exact g6
 have k7:j.W=2:=by rw[n];exact g7.trans hW
 have k8:j.name=R.name:=by rw[n];exact g8
 have k9:j.nb=U/\j.turns=0:=by rw[n];exact⟨rfl,g9.2.2.trans n6.turns⟩
 have c4:J.ts.length=1:=by rw[ba.len,z]
 obtain⟨T,hT⟩:∃T,J.ts=[T]:=by
  match N:J.ts,c4 with
  |[T],_=>exact⟨T,rfl⟩
 have c5:J.ts[0]?=some T:=by rw[hT];rfl
 have c6:T.L=[[2,7],[2,8]]:=by
  rw[<-nV c5];refine tw ?_ IP λy=>?_
  ·rw[nV c5];exact(a8.rel.tr T (ak.dj (q:=J) (by rw[<-k5];simp[ak.parts]) T (by rw[hT];simp))).pS
  ·have h1:=(ba.rows 0 (by omega)).1 y;have h2:=(I8.rows 0 (by omega)).1 y;rw[af] at h2;rw[h1,h2,t27.1,t27.2];simp only[Qs,QT,or_false];exact⟨λu=>u.symm,λu=>u.symm⟩
 rw[<-k1];refine Bn a8 (by rw[k4];exact n6.d) (by rw[k9.2];decide) λnb bs L eG=>?_;obtain⟨h,o⟩:∃h,h=j.fg nb:=⟨_,rfl⟩;rw[<-o] at L eG;have m1:h.rb=j.rb:=by rw[o];rfl
 have m2:h.ords=[[0,1]]:=by rw[o];exact k2.trans D
 have m3:h.f.ts=[]:=by rw[o];show j.f.ts=[];rw[k3];exact n6.f
 have m4:h.d.ts=[T]:=by rw[o];show j.e.ts=[T];rw[k5];exact hT
 have m5:h.e.ts=[]:=by rw[o];rfl
 have m6:h.ex=[]:=by rw[o];show j.ex=[];rw[k6];exact n6.ex
 have m7:h.W=2:=by rw[o];exact k7
 have m8:h.name=R.name:=by rw[o];exact k8
 have m9:h.nb=U:=by rw[o];exact k9.1
 rw[<-m1];have c7:h.Fit:=by
  refine⟨by omega,by rw[m8];exact b1,by rw[m9];have:=g9.2.1;rw[g2,z] at b3;omega,λt ht=>?_⟩;unfold ak.all at ht;rw[m3,m4,m5,m6] at ht;have:t=T:=by simpa using ht
  rw[this,c6];decide
 have gg:(1+4000000+4000000:Nat)=8000001:=rfl;have eH:jH H bs eB (λ_=>False) p d eC eD 8000001 h T:=⟨⟨eE,L.ar⟩,L.rel.congr λb=>⟨.inl,λu=>u.elim id λv=>v.elim⟩,L.lQ.mono (by rw[g2,z];decide),λb u=>u.elim,c7,m7,m2,m3,m4,c6⟩
 -- the sources
 refine zm λa la wa c8 c9 na=>?_;refine zm λb lb wb eI dk b4=>?_;refine aj λgn ha eL eP=>?_;refine aj λeR z20 eT dt=>?_;obtain⟨hb,dT⟩:=na.src (λq=>bs.size<=q/\q<c8.size) λq h1 h2=>⟨h1,h2⟩;obtain⟨hc,ea⟩:=b4.src (λq=>c8.size<=q/\q<eI.size) λq h1 h2=>⟨h1,h2⟩;have I:=eP.trans dt;have P:=dk.trans I;have bg:=c9.trans P;have b5:ab bs h.rb Dj (jG p h):=L.rel.row;refine KJ (p:=p) (R:=h) (a:=a) (show ab eR a jJ (fh 2 (rK la wa) (Sl.mk none 0 0) 0 .nilIface false false) from dT.row.ext P) (b5.ext bg) m7 (gx (eL.ext dt)) (gx eT) λsl pL pR pP pX pY pl pc lc rc hf eW b6 eb=>?_;refine aj λhh z22 e0 ec=>?_;refine aj λe4 z23 e8 b7=>?_;have b8:=(b6.trans ec).trans b7;refine Ji (R:=h) (a:=b) (show ab e4 b jJ (fh 2 (rK lb wb) (Sl.mk none 0 0) 0 .nilIface false false) from (ea.row.ext I).ext b8) (gx (e0.ext b7)) (gx e8) λsm qL qR qX qY fa fb ff fi ed ee=>?_;refine az rfl (az rfl ?_);have Q:=(ec.trans b7).trans ed;have S:=b6.trans Q;have b9:=bg.trans S;have hj:=c9.size;have hl:=dk.size;have fj:=I.size;have z21:=b6.size;have fl:=Q.size;have fv:=ed.size;have fx:=eH.more (X:=λq=>bs.size<=q/\q<ff.size) b9 λq N=>N;have bA:=eW.grow Q;obtain⟨hn,bl⟩:=bA.row;have bB:=na.lo;have bC:=na.hi;have bD:=b4.lo;have bE:=b4.hi;obtain⟨⟨i1,i2,i3,i4⟩,⟨i5,i6,i7,i8⟩,_,_⟩:=id eb;have cm:=(P.trans S);have eg:=dT.aE (Y:=λ_=>False) cm (λb u=>u.elim) id id;have ei:=ea.aE (Y:=λ_=>False) (I.trans S) (λb u=>u.elim) id id;have ej:sl≠pl/\sl≠pc:=⟨λe=>absurd (aR (e▸bl) bA.cl) (by decide),λe=>absurd (aR (e▸bl) bA.cc) (by decide)⟩;refine Ao fx hg (by decide) bA (eb.mono λq N=>.inr ⟨by omega,by omega⟩) eg ⟨λq N=>.inr ⟨N.1,by omega⟩,⟨bB.1,bC.1⟩,⟨bB.2.1,bC.2.1⟩,λu=>by omega,λu=>by omega⟩ ej (λhp hv V2 out fy fA oo fo bG hA cA=>?_) bl;have ek:kk fy sm b h.rb qL qR qX qY fa fb:=fi.mod bG (ee.mono λq N u=>by
  rcases u with u|u|u|u
  ·exact u (.inr ⟨by omega,by omega⟩)
  ·omega
  ·omega
  ·omega)
 have en:=ei.aE bG (λq u=>by
  rcases u with u|u|u|u
  ·exact .inl λv=>u (.inr ⟨by omega,by omega⟩)
  ·exact .inl λv=>by omega
  ·exact .inl λv=>by omega
  ·exact .inl λv=>by omega) (λu=>by
  rcases u with u|u|u|u
  ·exact u (.inr ⟨by omega,by omega⟩)
  ·omega
  ·omega
  ·omega) (λu=>by
  rcases u with u|u|u|u
  ·exact u (.inr ⟨by omega,by omega⟩)
  ·omega
  ·omega
  ·omega)
 obtain⟨hB,eo⟩:=ek.row;refine y6 fA hg (by decide) ek (ee.mono λq N=>.inl (.inr ⟨by omega,by omega⟩)) en ⟨λq N=>.inl (.inr ⟨by omega,by omega⟩),⟨bD.1,bE.1⟩,⟨bD.2.1,bE.2.1⟩⟩ (λhC hD x fB hE ix b0 fD=>?_) eo;refine aT rfl ?_;have cB:ab fB sl jJ _:=cA.mod b0 λu=>u.elim (λv=>v (.inl (.inr ⟨by omega,by omega⟩))) λv=>by omega
 refine eM cB ?_;refine aT rfl ?_;refine aj λfE z28 fF cF=>?_;have fG:Ints .u64 fE out [1,2,2,7]:=(oo.mod b0 λq N u=>u.elim (λv=>v (.inr (fo q N).2)) λv=>by have:=(fo q N).1;omega).ints.ext cF;refine iq fG (BR fF) (by decide) ?_;refine aT (by decide) ?_;refine aj λga hF gb ep=>?_;refine iq ((ix.ext cF).ext ep) (gy gb) (by decide) ?_;rw[decide_eq_true rfl];exact hK ga ((fD.trans cF).trans ep)
theorem Rows.ext {H B:aa}{s:Sl}{ls:List (List Int)}(h:Rows H s ls)(e:Ext H B):Rows B s ls:=⟨h.len,λi hi=>by
 obtain⟨ad,r,j,m,n⟩:=h.at' i hi;exact⟨ad,r,j,e.cell m id,n.ext e⟩⟩
def qj (W:Nat)(r:List Int):List Int:=r.take W++QE (W - r.length) 0
theorem AF (W:Nat)(r:List Int):(qj W r).length=W:=by unfold qj;simp;omega
theorem Dn {W:Nat}{r:List Int}(h:cO r):cO (qj W r):=λx i=>by
 unfold qj at i;rcases Qj.1 i with q|q
 ·exact h x (Rl q)
 ·have:=(List.mem_replicate.1 q).2;omega
set_option maxHeartbeats 1000000 in
theorem HP {rows:Sl}{rl:List (List Int)}{W:Nat}{H:aa}{K:Sl×Int->aa->Prop}(hr:Rows H rows rl)(hn:rl.length<=300)(hW:W<=16)
  (S:∀l rs A,aZ A H.size l rs (rl.map (qj W))->Ext H A->K (l,(rl.length:Int)) A):
  aF (Sl×Int) ((Sl.mk none 0 0),(0:Int)) H λnext z L=>br (decide (z.2<(rows.n:Int))) (bI au Qf (Instr.makeSlice cv (.int .i64 (W:Int)) (.int .i64 (W:Int))) L λ(x:Sl) M=>ah rows.a λa=>(0<=z.2/\z.2<(rows.n:Int))/\ld au M (a.add (z.2.toNat*1)) λ(w:Sl)=>bI (ai .i64) Qf (Rh #[cv,cv] bT #[x.v,w.v]) M λ(_:Int) U=>aB U #[x.v] cv λp V=>bI au Qf (Qo #[cW,cW] cW #[z.1.v,(.slice (some p) 1 1)]) V λ(l:Sl) Y=>next (l,Qe.wrap (z.2+(1:Int))) Y) (K z L):=by
 have ae:=hr.len;refine ay rl.length (λi z A=>z.2=(i:Int)/\∃rs,aZ A H.size z.1 rs ((rl.take i).map (qj W))/\Ext H A) ⟨rfl,[],aZ.nil _ _,.refl _ _⟩ ?_;rintro i ⟨out,_⟩ A next hi ⟨rfl,rs,ro,n⟩ h
 simp only;refine ao (λC=>?_) (λC=>?_)
 ·have j:i<rl.length:=by
   have:(i:Int)<(rows.n:Int):=by simpa using C
   omega
  refine jB.make (base:=H.size) (by omega) (Int.le_refl _) (by omega) (by omega) n.size λx A1 N o1 u f1 af=>?_;rw[QD] at N o1;have z1:=u.size;refine(hr.ext (n.trans u)).ld j λad r _ P=>?_;have t:((rl[i].take W).map (Ql .u64)).length=Nat.min r.n x.n:=by
   rw[QI,Qw,N,P.len];show min _ _=min _ _;exact Nat.min_comm _ _
  have D:Reads A1 r.a ((rl[i].take W).map (Ql .u64)):=by
   have:=P.reads.take W
   rwa [<-List.map_take] at this
  refine aA.uB (o:=0) (s:=x) (dl:=x.n) (dc:=x.c) (by kernel_rfl) (by kernel_rfl) o1 (λ_=>?_) D t (by
   have:=Nat.min_le_right r.n x.n;rw[t];show 0+min r.n x.n<=x.n;omega) (λv hv=>?_) λA4 Q m4 s4=>?_
  ·cases R:x.a with
   |none=>rfl
   |some a=>rfl
  ·obtain⟨y,_,rfl⟩:=QB.1 hv;rfl
  have e4:(QE W (Ql .u64 0)).take 0++(rl[i].take W).map (Ql .u64)++(QE W (Ql .u64 0)).drop (0+((rl[i].take W).map (Ql .u64)).length)=(qj W rl[i]).map (Ql .u64):=by
   unfold qj;rw[List.take_zero,RB,Q4,List.map_replicate,List.drop_replicate,QI,Qw];congr 2;omega
  rw[e4] at Q;have z4:=m4.size;have zA:=n.size;have F:aZ A4 H.size out rs ((rl.take i).map (qj W)):=(ro.ext u).mod m4 (λb m q=>by have:=(ro.block.1 b m).2;have:=f1 b q;omega) λy hy b m q=>by have:=(ro.block.2 y hy b m).2;have:=f1 b q;omega
  refine F.push (ty:=cW) Q (λr' G b m I=>by have:=(ro.block.2 r' G b I).2;have:=f1 b m;omega) (by rw[ro.n,QI,Qw];omega) (by omega) λs' H' _ r5 m5=>?_;refine h j _ _ ⟨aH i (by omega),rs++[x],?_,⟨by have:=m5.size;omega,λb m _=>?_⟩⟩
  ·rw[RC,Qg j,Q4];exact r5
  ·exact(m5.same b (by omega) (λq=>by have:=(ro.block.1 b q).1;omega)).trans ((m4.same b (by omega) (λq=>by have:=f1 b q;omega)).trans ((u.same b (by omega) id).trans (n.same b m id)))
 ·have J:i=rl.length:=by
   have:¬(i:Int)<(rows.n:Int):=by simpa using C
   omega
  subst J;rw[Sc] at ro;exact S out rs A ro n
theorem CT {rows:Sl}{rl:List (List Int)}{H:aa}{K:Sl->aa->Prop}(hr:Rows H rows rl)(h:rl.length<=300)(i:∀l rs A,aZ A H.size l rs (rl.map (qj 2))->Ext H A->K l A):JV.sp rows H K:=by
 refine JV.of ?_;unfold JV.vc;exact HP (W:=2) (K:=λz A=>K z.1 A) hr h (by decide) i
theorem EH {A:aa}{k a b:Nat}(r:ab A k dX #[.slice (some ⟨a,0,none⟩) 2 2,.slice (some ⟨b,0,none⟩) 2 2]) (j:ab A a bT #[.int .i64 0,.int .i64 1]) (rb:ab A b bT #[.int .i64 1,.int .i64 0]):jW (λ_=>False) A ⟨some ⟨k,0,none⟩,2,2⟩ [[0,1],[1,0]]:=by
 refine⟨rfl,λad h=>?_,λi hi=>?_⟩
 ·have:ad=⟨k,0,none⟩:=(Qq h).symm;subst this;exact⟨aI r,id⟩
 ·have hi:i=0\/i=1:=by
   have:i<2:=hi;omega
  rcases hi with rfl|rfl
  ·exact⟨_,⟨some ⟨a,0,none⟩,2,2⟩,rfl,by rw[bJ];exact r.cell rfl,λad h=>⟨by have:=(Qq h).symm;subst this;exact aI j,id⟩,gy j,Qm _⟩
  ·exact⟨_,⟨some ⟨b,0,none⟩,2,2⟩,rfl,by rw[bJ];exact r.cell rfl,λad h=>⟨by have:=(Qq h).symm;subst this;exact aI rb,id⟩,gy rb,Qm _⟩
theorem AG {α:Type}{l:List α}{p:α->Bool}{k:Nat}(h:k<l.length):(l.take (k+1)).any p=((l.take k).any p||p l[k]):=by
 rw[RC,Qg h,List.any_append];simp
theorem wu {A B:aa}{s:Sl}{rs:List Sl}{ls:List (List Int)}{base:Nat}(o:aZ A base s rs (ls.map (qj 2)))(e:Ext A B):jR (λb=>B.size<=b) B s (ls.map (qj 2)):=by
 obtain⟨h,b2⟩:=o.block;refine vW (o.ext e) λb i u=>?_;have:=e.size;rcases i with v|⟨r,hr,v⟩
 ·have:=(h b v).2;omega
 ·have:=(b2 r hr b v).2;omega
theorem Cw {ls:List (List Int)}(h:∀l∈ls,cO l):∀y∈ls.map (qj 2),y.length=2/\cO y:=λy i=>by
 obtain⟨l,j,rfl⟩:=QB.1 i;exact⟨AF 2 l,Dn (h l j)⟩
set_option maxHeartbeats 4000000 in
set_option maxRecDepth 20000 in
theorem xK {rows left:Sl}{rl ll:List (List Int)}{H:aa}{K:Bool->aa->Prop}(hg:Gl H)(bC:Pw H)(hr:Rows H rows rl)(hl:Rows H left ll)(fr:∀l∈rl,cO l)(fl:∀l∈ll,cO l)(hK:∀B,Ext H B->K true B):Ml.sp rows left H K:=by
 refine Ml.of ?_;unfold Ml.vc;have ep:=hr.len;have er:=hl.len;refine ao (λ_=>hK H (.refl _ _)) λhb=>?_;have hb:rl.length<=40/\ll.length<=40:=by
  rw[Bool.or_eq_false_iff] at hb;have h1:=of_decide_eq_false hb.1;have h2:=of_decide_eq_false hb.2;omega
 refine CT hr (by omega) λs1 et H1 o1 e1=>?_;refine aj λH2 z2 r2 e2=>?_;refine aj λH3 z3 r3 e3=>?_;refine aj λH4 z4 r4 e4=>?_;have b0:=(e2.trans e3).trans e4;have b1:=e1.trans b0;refine yR (V:=λ_=>False) hg bC b1 (λb u=>u.elim) (wu o1 b0) (by rw[QI];omega) (Cw fr) (EH r4 ((r2.ext e3).ext e4) (r3.ext e4)) (.inr rfl) λwb p rb cm X So Sd Sn H5 j5 d5 U b3 eu ej e5=>?_;have b4:=b1.trans e5;refine CT (hl.ext b4) (by omega) λs2 ev H6 o6 e6=>?_;refine aj λH7 z7 r7 e7=>?_;refine aj λH8 z8 r8 e8=>?_;have b6:=e7.trans e8;have bD:=e6.trans b6;have c9:=b4.trans bD;have b5:=aO.nv j5;have ew:=bD.size;refine yR (V:=X) hg bC c9 (λb u=>⟨by have:=(b5.x b u).1;omega,(b5.x b u).2.1⟩) (wu o6 b6) (by rw[QI];omega) (Cw fl) (vZ r8 (r7.ext e8)) (.inl rfl) λub p2 b7 dk X2 Uo Ud Un H9 j9 d9 bl b8 dt bs e9=>?_;have cA:=bD.trans e9;refine az rfl (az rfl (az rfl ?_));obtain⟨c,hc⟩:∃c:JC,c=⟨ub,wb,#[.pointer (av p2),.pointer (av b7),dk,.int .i64 0,.bool false],#[.pointer (av p),.pointer (av rb),cm,.int .i64 0,.bool false],b7,rb,Uo,Ud,Un,So,Sd,Sn⟩:=⟨_,rfl⟩;have b9:=aO.nv j9;have ek:=aI U;have F:JS H c 4 (c.L.length+(c.L.length+1)) [] H9:=by
  have hL:c.L.length<=40:=(iJ (c:=c) (by rw[hc];exact d9)).1;subst hc;refine⟨X2,X,⟨(j9.GQ (by decide)).less λb u=>?_,aO.more (j5.GQ (by omega)) cA λb u=>?_,λb u=>u.elim⟩,bl,U.ext cA,⟨λu=>?_,λu=>?_⟩,λo ho=>by cases ho⟩
  ·rcases u with u|u|u
   ·exact u.elim
   ·exact u
   ·exact u.elim
  ·rcases u with u|u|u
   ·exact u.elim
   ·exact .inr ⟨by have:=bs b u;omega,(b9.x b u).1⟩
   ·exact u.elim
  ·rcases u with u|u|u
   ·exact b8 u
   ·have h1:H8.size<=ub:=dt;have:=(b5.x ub u).1;omega
   ·exact u
  ·rcases u with u|u|u
   ·have h1:=bs wb u;omega
   ·exact b3 u
   ·exact u
 have d1:fe c.Uo c.Ud c.Un:=by rw[hc];exact d9
 have d2:fe c.Wo c.Wd c.Wn:=by rw[hc];exact d5
 have hu:av ub=av c.u/\av wb=av c.w:=by rw[hc];exact⟨rfl,rfl⟩
 rw[hu.1,hu.2];have a8:c.cu[1]?=some (aq.enc (av c.ub)):=by rw[hc];rfl
 have bE:c.cw[1]?=some (aq.enc (av c.wb)):=by rw[hc];rfl
 obtain⟨n,hn⟩:∃n,n=c.L.length:=⟨_,rfl⟩;clear hc hu j5 j9 b5 b9 U bl b3 b8 r2 r3 r4 r7 r8 o1 o6;refine⟨λz A=>z.2=true/\JS H c 3 (c.L.length+1) [(z.1,bO c.L c.T)] A,?_,?_⟩
 ·refine⟨JG c,F.g,?_⟩;refine aY ⟨c.u,0,none⟩ rfl ?_;refine ab.bW (c:=aq) (i:=1) (x:=av c.ub) (cs:=λ_=>c.cu) (λD hD=>hD.1) (λ_ _=>a8) ?_;refine aY ⟨c.w,0,none⟩ rfl ?_;refine ab.bW (c:=aq) (i:=1) (x:=av c.wb) (cs:=λ_=>c.cw) (λD hD=>hD.2) (λ_ _=>bE) ?_;have fin:∀{A:aa} {sb pc pr pp k1 k2:Nat},JR H c 3 (c.L.length+(c.L.length+1)) [] sb pc pr pp A->ab A k1 bT #[.int .i64 0]->ab A k2 bT #[.int .i64 0]->
    yz.sp (av sb) (av c.wb) 1 ⟨some ⟨k1,0,none⟩,1,1⟩ ⟨some ⟨k2,0,none⟩,1,1⟩ A λr H'=>JG c H'/\qz.sp r H' λr6 W=>JG c W/\((r6.1,r6.2).2=true/\JS H c 3 (c.L.length+1) [((r6.1,r6.2).1,bO c.L c.T)] W):=λ{A sb pc pr pp k1 k2} j q1 q2=>
   j.loop (J:=λz A=>z.2=true/\JS H c 3 (c.L.length+1) [(z.1,bO c.L c.T)] A) hg d1 d2 (λ_ h=>h) (gx q1) (gx q2) λout B js=>⟨rfl,js⟩
  refine⟨?_,?_,?_,trivial⟩
  ·refine F.rel λsb pc pr pp B j e=>⟨j.g,?_,?_,trivial⟩
   ·refine aj λC zC M t=>⟨(j.ext t).g,?_⟩;refine aj λD Y v m=>⟨((j.ext t).ext m).g,?_⟩;exact fin ((j.ext t).ext m) (M.ext m) v
   ·refine aj λC zC M t=>⟨(j.ext t).g,?_⟩;refine aj λD Y v m=>⟨((j.ext t).ext m).g,?_⟩;exact fin ((j.ext t).ext m) v (M.ext m)
  ·refine aj λC zC M t=>⟨(F.ext t).g,?_,?_,trivial⟩
   ·refine(F.ext t).rel λsb pc pr pp B j e=>⟨j.g,?_⟩;refine aj λD Y v m=>⟨(j.ext m).g,?_⟩;exact fin (j.ext m) ((M.ext e).ext m) v
   ·refine aj λD Y v m=>⟨((F.ext t).ext m).g,?_⟩;refine((F.ext t).ext m).rel λsb pc pr pp B j e=>⟨j.g,?_⟩;exact fin j ((M.ext m).ext e) (v.ext e)
  ·refine aj λC zC M t=>⟨(F.ext t).g,?_,?_,trivial⟩
   ·refine(F.ext t).rel λsb pc pr pp B j e=>⟨j.g,?_⟩;refine aj λD Y v m=>⟨(j.ext m).g,?_⟩;exact fin (j.ext m) v ((M.ext e).ext m)
   ·refine aj λD Y v m=>⟨((F.ext t).ext m).g,?_⟩;refine((F.ext t).ext m).rel λsb pc pr pp B j e=>⟨j.g,?_⟩;exact fin j (v.ext e) ((M.ext m).ext e)
 ·rintro⟨G,cB⟩ dT ⟨hz,ae⟩;have hz:cB=true:=hz;subst hz;have ae:JS H c 3 (c.L.length+1) [(G,bO c.L c.T)] dT:=ae;refine⟨JG c,ae.g,?_⟩;refine aY ⟨c.u,0,none⟩ rfl ?_;refine ab.ld (c:=aq) (i:=1) (x:=av c.ub) ae.g.1 a8 ?_;refine ae.rel λsb pc pr pp ey j e=>⟨j.g,?_⟩;refine aY ⟨c.w,0,none⟩ rfl ?_;refine ab.bW (c:=aq) (i:=1) (x:=av c.wb) (cs:=λ_=>c.cw) (λD hD=>hD.2) (λ_ _=>bE) ?_;refine j.merge hg d1 d2 λP eA I=>?_;refine⟨λz A=>z.2=true/\JS H c 1 0 [(z.1,cJ c.L c.T),(P,bO c.L c.T),(G,bO c.L c.T)] A,?_,?_⟩
  ·refine⟨JG c,I.g,?_⟩;refine aY ⟨c.u,0,none⟩ rfl ?_;refine ab.bW (c:=aq) (i:=1) (x:=av c.ub) (cs:=λ_=>c.cu) (λD hD=>hD.1) (λ_ _=>a8) ?_;refine aY ⟨c.w,0,none⟩ rfl ?_;refine ab.bW (c:=aq) (i:=1) (x:=av c.wb) (cs:=λ_=>c.cw) (λD hD=>hD.2) (λ_ _=>bE) ?_;have fin:∀{A:aa} {sb pc pr pp k1 k2:Nat},JR H c 1 (c.L.length+0) [(P,bO c.L c.T),(G,bO c.L c.T)] sb pc pr pp A->ab A k1 bT #[.int .i64 0]->ab A k2 bT #[.int .i64 0]->
     xU.sp (av sb) (av c.wb) ⟨some ⟨k1,0,none⟩,1,1⟩ ⟨some ⟨k2,0,none⟩,1,1⟩ A λr H'=>JG c H'/\qz.sp r H' λr6 W=>JG c W/\((r6.1,r6.2).2=true/\JS H c 1 0 [((r6.1,r6.2).1,cJ c.L c.T),(P,bO c.L c.T),(G,bO c.L c.T)] W):=λ{A sb pc pr pp k1 k2} j q1 q2=>
    j.OS (J:=λz A=>z.2=true/\JS H c 1 0 [(z.1,cJ c.L c.T),(P,bO c.L c.T),(G,bO c.L c.T)] A) hg d1 d2 (λ_ h=>h) (gx q1) (gx q2) λout B js=>⟨rfl,js⟩
   refine⟨?_,?_,?_,trivial⟩
   ·refine I.rel λsb pc pr pp B j e=>⟨j.g,?_,?_,trivial⟩
    ·refine aj λC zC M t=>⟨(j.ext t).g,?_⟩;refine aj λD Y v m=>⟨((j.ext t).ext m).g,?_⟩;exact fin ((j.ext t).ext m) (M.ext m) v
    ·refine aj λC zC M t=>⟨(j.ext t).g,?_⟩;refine aj λD Y v m=>⟨((j.ext t).ext m).g,?_⟩;exact fin ((j.ext t).ext m) v (M.ext m)
   ·refine aj λC zC M t=>⟨(I.ext t).g,?_,?_,trivial⟩
    ·refine(I.ext t).rel λsb pc pr pp B j e=>⟨j.g,?_⟩;refine aj λD Y v m=>⟨(j.ext m).g,?_⟩;exact fin (j.ext m) ((M.ext e).ext m) v
    ·refine aj λD Y v m=>⟨((I.ext t).ext m).g,?_⟩;refine((I.ext t).ext m).rel λsb pc pr pp B j e=>⟨j.g,?_⟩;exact fin j ((M.ext m).ext e) (v.ext e)
   ·refine aj λC zC M t=>⟨(I.ext t).g,?_,?_,trivial⟩
    ·refine(I.ext t).rel λsb pc pr pp B j e=>⟨j.g,?_⟩;refine aj λD Y v m=>⟨(j.ext m).g,?_⟩;exact fin (j.ext m) v ((M.ext e).ext m)
    ·refine aj λD Y v m=>⟨((I.ext t).ext m).g,?_⟩;refine((I.ext t).ext m).rel λsb pc pr pp B j e=>⟨j.g,?_⟩;exact fin j (v.ext e) ((M.ext m).ext e)
  ·rintro⟨af,cF⟩ ea ⟨hz,ba⟩;have hz:cF=true:=hz;subst hz;have ba:JS H c 1 0 [(af,cJ c.L c.T),(P,bO c.L c.T),(G,bO c.L c.T)] ea:=ba;refine aY ⟨c.u,0,none⟩ rfl ?_;refine ab.ld (c:=aq) (i:=1) (x:=av c.ub) ba.g.1 a8 ?_;refine ba.rel λsb pc pr pp eE j e=>?_;refine j.all hg d1 λbg Q eb=>?_;refine az rfl ?_;obtain⟨X1,X2,w,kp⟩:=eb;have eH:Ext H Q:=aO.ext w.j1;have a1:dz (Ow X1 X2 λ_=>False) Q bg c.L:=kp.rows (bg,c.L) (by simp);have bA:dz (Ow X1 X2 λ_=>False) Q af (cJ c.L c.T):=kp.rows (af,cJ c.L c.T) (by simp);have c0:dz (Ow X1 X2 λ_=>False) Q P (bO c.L c.T):=kp.rows (P,bO c.L c.T) (by simp);have a6:dz (Ow X1 X2 λ_=>False) Q G (bO c.L c.T):=kp.rows (G,bO c.L c.T) (by simp);have l4:=nC (iJ d1).2.2 (qg d2).2.2;have eF:=(iJ d1).1;have l2:=(iJ d1).2.2;have few:=tK d1 d2;refine zS a6.p.rows c0.p.rows (by omega) (λl hl=>by rw[l4 l hl];decide) ?_;refine az (by simp) ?_;have eG:=a1.p.n;have n42:=bA.p.n;have n10:=a6.p.n;have en:(cJ c.L c.T).length<=c.L.length:=SK _ _;refine ay c.L.length (λi z B=>z=(((cJ (c.L.take i) c.T).length:Int),(i:Int))/\Q=B) ⟨rfl,rfl⟩ ?_;rintro i _ _ next hi ⟨rfl,rfl⟩ a7
   have eo:(cJ (c.L.take i) c.T).length<=i:=Nat.le_trans (SK _ _) (by rw[Qw];omega);refine ao (λL=>?_) (λec=>?_)
   ·have L:i<c.L.length:=by
     have:(i:Int)<(bg.n:Int):=of_decide_eq_true L;omega
    refine ay (bO c.L c.T).length (λk z B=>z=((((bO c.L c.T).take k).any λy=>decide (y.take 2=c.L[i])),(k:Int))/\Q=B) ⟨rfl,rfl⟩ ?_;rintro k _ _ c8 hk ⟨rfl,rfl⟩ R;refine ao (λN=>?_) (λed=>?_)
    ·have N:k<(bO c.L c.T).length:=by
      have:(k:Int)<(G.n:Int):=of_decide_eq_true N;omega
     refine ao (λS=>?_) (λS=>?_)
     ·refine R N _ _ ⟨?_,rfl⟩;rw[aH k (by omega),AG N];simp only at S;rw[S,Bool.true_or]
     ·simp only at S;refine a6.Iw N rfl λa x ix xc=>?_;have y4:=l4 _ (Qn N);have xn:=ix.len;refine⟨⟨by decide,by omega⟩,?_⟩;refine a1.Iw L rfl λa2 x2 bG _=>?_;have pre:=ix.take (i:=2) (by omega);refine iq pre bG (by rw[Qw];omega) ?_;refine R N _ _ ⟨?_,rfl⟩;rw[aH k (by omega),AG N,S,Bool.false_or]
    ·have ee:k=(bO c.L c.T).length:=by
      have:¬(k:Int)<(G.n:Int):=of_decide_eq_false ed;omega
     subst ee;rw[Sc];have fits:=AU (Rt:=c.T) l2 (Qn L);have bB:((bO c.L c.T).any λy=>decide (y.take 2=c.L[i]))=true↔cH c.T c.L[i]≠[]:=by
      rw[<-fits,List.any_eq_true];constructor
      ·rintro⟨y,h1,h2⟩;exact⟨y,h1,of_decide_eq_true h2⟩
      ·rintro⟨y,h1,h2⟩;exact⟨y,h1,decide_eq_true h2⟩
     have tk:=sP (Rt:=c.T) L;refine ao (λS=>?_) (λS=>?_)
     ·have eg:cH c.T c.L[i]=[]:=by
       apply Classical.byContradiction;intro u;have:=bB.2 u;simp only at S;rw[this] at S;cases S
      have c3:(cH c.T c.L[i]).isEmpty=true:=by rw[eg];rfl
      have c4:=Hf L c3;have c5:(cJ (c.L.take i) c.T).length<(cJ c.L c.T).length:=(Qk.1 c4).1;have c6:(cJ c.L c.T)[(cJ (c.L.take i) c.T).length]=c.L[i]:=(Qk.1 c4).2;refine az (by
       refine beq_eq_false_iff_ne.2 ?_;show ((cJ (c.L.take i) c.T).length:Int)≠(af.n:Int);omega) ?_
      refine bA.Iw c5 rfl λa x ix _=>?_;refine a1.Iw L rfl λa2 x2 bG _=>?_;have y2:=l2 _ (Qn L);rw[c6] at ix;refine iq ix bG (by omega) ?_;refine az (by simp) ?_;refine a7 L _ _ ⟨?_,rfl⟩;simp only;rw[aH i (by omega),aH _ (by omega),tk,c3,if_pos rfl,Qt,RF]
     ·have c7:(cH c.T c.L[i]).isEmpty=false:=by
       have h1:((bO c.L c.T).any λy=>decide (y.take 2=c.L[i]))=true:=by
        simp only at S;simpa using S
       have h2:=bB.1 h1;cases h:cH c.T c.L[i] with
       |nil=>exact absurd h h2
       |cons y r=>rfl
      refine a7 L _ _ ⟨?_,rfl⟩;simp only;rw[aH i (by omega),tk,c7,if_neg (by simp),RA]
   ·have ei:i=c.L.length:=by
     have:¬(i:Int)<(bg.n:Int):=of_decide_eq_false ec;omega
    subst ei;rw[Sc];refine aT (by
     refine beq_iff_eq.2 ?_;show ((cJ c.L c.T).length:Int)=(af.n:Int);omega) ?_
    exact ES (hg.mod eH id) (bC.ext eH) λB eB=>hK B (eH.trans eB)
end Go.Proofs.YtkehfflpbpdokaaGreatDoor
namespace Go.Proofs.YtkehfflpbpdokaaGreatDoor
open Go.ChangeShapes Go.WideShapes Go.ChangeAt Go.RowKit
set_option maxRecDepth 100000 in
theorem qS (os:Os)(started:os.Started)(H:Type)(enc:TypeId×Value->H):
  ReturnsInHanded {} Vz os 4 .any (λw args=>(Rows.joinAgreeSpec.pre enc Qf TF [] false w args/\laidMetH Qf wI w)/\sizedMet enc Qf TF (Z5 Rows.joinAgreeSpec) false w args)
   (Rows.joinAgreeSpec.post enc Qf TF false true false false):=by
 refine returnsInHanded_of_change_and (C:=Vz) (X:=λw _=>laidMetH Qf wI w) (λ_ _ _ V h=>h.of_heap V) EN started (by kernel_rfl) V3
  (Y5 (enc:=enc) (C:=Vz) (os:=os) (X:=λw _=>laidMetH Qf wI w) false (World.doorLaid Qf 400 os) #[.slice none 0 0,.slice none 0 0] 8 rfl (World.shaped_of_RefB (by kernel_rfl) (by kernel_rfl)) (by kernel_rfl) (by kernel_rfl) (by kernel_rfl) (HT os _)) ?_
 intro W base args ds gs before n Q _ _ R _;have m:∀(j:Nat) t v,TF.params[j]?=some t->args[j]?=some v->Value.okWide Qf W .any base t v:=n;have D:=Q;obtain⟨p,q,F,Y,rfl,ae,af⟩:=Q;have S:DataW.TrodAll enc Qf W 0 (λ_=>true) true TF.params.toList args.toList ds p:=F;rw[XO] at S m;obtain⟨v0,v1,d0,d1,p0,p1,rfl,rfl,rfl,h0,h1⟩:=trodAll_two S;obtain⟨rfl,rfl⟩:=trodVars_none Y;obtain⟨rows,rl,rfl,rn,_,U⟩:=lM (k:=.u64) (e:=cv) (e2:=gM) (by kernel_rfl) (by kernel_rfl) (by kernel_rfl) (by kernel_rfl) (by kernel_rfl) (m 0 cW v0 rfl rfl) h0;obtain⟨left,ll,rfl,ln,_,la⟩:=lM (k:=.u64) (e:=cv) (e2:=gM) (by kernel_rfl) (by kernel_rfl) (by kernel_rfl) (by kernel_rfl) (by kernel_rfl) (m 1 cW v1 rfl rfl) h1;have u:∀l∈rl,cO l:=by
  intro l G x y;obtain⟨i,hi,e⟩:=V7 G;subst e;obtain⟨_,_,_,_,_,_,q⟩:=U i hi;have:=q x y;simp only[Y6,Qz,decide_eq_true_eq] at this;have h1:Q0.min=0:=rfl;have h2:Q0.max=18446744073709551615:=rfl;omega
 have I:∀l∈ll,cO l:=by
  intro l G x y;obtain⟨i,hi,e⟩:=V7 G;subst e;obtain⟨_,_,_,_,_,_,q⟩:=la i hi;have:=q x y;simp only[Y6,Qz,decide_eq_true_eq] at this;have h1:Q0.min=0:=rfl;have h2:Q0.max=18446744073709551615:=rfl;omega
 have o:=xK (rows:=rows) (left:=left) (rl:=rl) (ll:=ll) (H:=W.heap) (K:=λb H'=>b=true/\Ext W.heap H') (Co R) (BC R) ⟨rn,λi hi=>by obtain⟨ad,J,L,M,N,_⟩:=U i hi;exact⟨ad,J,L,M,N⟩⟩ ⟨ln,λi hi=>by obtain⟨ad,J,L,M,N,_⟩:=la i hi;exact⟨ad,J,L,M,N⟩⟩ u I (λH' e=>⟨rfl,e⟩);refine(o W rfl).mono λe W' ⟨v,he,⟨x,y,hb,z⟩,P⟩=>?_;subst he;subst y;subst hb;exact⟨_,rfl,GY u7 (by decide+kernel) rfl (by kernel_rfl) rfl rfl rfl rfl D z P⟩
theorem u6:Rows.JoinAgreeSaid:=
 Zd 4 TF rfl rfl rfl rfl rfl rfl rfl ⟨rfl,rfl,rfl,rfl,rfl⟩ rfl rfl rfl rfl rfl (by kernel_rfl) V3 (by kernel_rfl)
  (of_decide_eq_true (by kernel_rfl)) (by unfold Func.isWrapper;first|(rw[if_pos (by decide+kernel)];kernel_rfl)|(rw[if_neg (by decide+kernel)];exact⟨rfl,rfl⟩))
  (λos started H enc _=>qS os started H enc)
theorem joinAgree_holds:Rows.JoinAgreeCardSaid:=
 Claim7.holds_tied_plain_at .later [] [.data,.data,.data,.data] true _ false
  u6 (λ_ h=>by cases h) (by kernel_rfl) (λ_ h=>by cases h) joinAgree_row_tie rfl ⟨rfl,rfl⟩ (by kernel_rfl) rfl
  (λf fn p n=>by
   obtain rfl:f=4:=Qq ((show Qf.funcNamed "fathom/fathomlaw11.JoinAgree"=some 4 by kernel_rfl).symm.trans p) |>.symm;obtain rfl:fn=TF:=(Qq (V3.symm.trans n)).symm;exact⟨by kernel_rfl,λj t o=>by
    rw[XO] at o;have hm:t∈[cW]:=by simpa using Array.mem_of_getElem? o
    have m:([cW].all λu=>!Qf.wantsStandIn u)=true:=by kernel_rfl
    exact(show Qf.wantsStandIn t=false by simpa using List.all_eq_true.1 m t hm)⟩)
  (by kernel_rfl)
#print axioms joinAgree_holds
end Go.Proofs.YtkehfflpbpdokaaGreatDoor
