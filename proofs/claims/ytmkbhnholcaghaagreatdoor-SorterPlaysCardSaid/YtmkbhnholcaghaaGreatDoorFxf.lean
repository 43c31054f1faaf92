/-
 Ground, sixth text: code, loops, whole functions.
-/
import Derived.Test.YtmkbhnholcaghaaGreatDoorFxe
open Bool renaming and_eq_true->Oj,not_eq_true'->PC,or_eq_false_iff->PW
open Go.Code renaming wpIn_mono->Pp
open Go.Deferred renaming ofValue->Rg
open Go.Exit renaming inBlock->V7
open Go.Fence renaming wide->T3
open Go.Frame renaming atR->WH
open Go.Instr renaming sureAddr->Qm,getLoop->Ua,yield->Vh,enterLoop->VB,endRound->VO,endLoop->VX
open Go.LoopState renaming busy->VN
open Go.Operand renaming const->Zi
open Go.Result renaming andThen_ok->OH
open Go.Sem renaming run_bind->OF,run_pure->Pc,run->PJ
open Go.StepsIn renaming trans->Zh
open Go.stepG renaming exec->Wx
open List renaming mem_append->Oe,mem_cons->Oq,mem_filter->OK,foldl_cons->Q8,any_append->Q9,zip_cons_cons->TR,mapM_cons->Vi
open Nat renaming le_refl->Ob,eq_of_beq_eq_true->Om,beq->OC,blt->PV,beq_refl->WI
open Option.some renaming inj->OE
namespace Go.Proofs.YtmkbhnholcaghaaGreatDoor
def aw (α:Type)(x0:α)(H:aa)(body:(α->aa->Prop)->α->aa->Prop):Prop:=
 ∃(γ:Type) (I:γ->α->aa->Prop) (m:γ->Nat),(∃g,I g x0 H)/\∀g x H',I g x H'->body (λb a=>∃g',I g' b a/\m g'<m g) x H'
def cut (α:Type)(A:(α->aa->Prop)->Prop)(B:α->aa->Prop):Prop:=∃J:α->aa->Prop,A J/\∀x H,J x H->B x H
abbrev Bc:=List (Nat×List (Nat×eO))
def yc:Bc->Nat->Option (List (Nat×eO))
 |[],_=>none
 |p::r,k=>bif OC p.1 k then some p.2 else yc r k
def lead:Code->Option Nat
 |.region id _ _=>some id
 |.seq a b=>(match lead a with|some k=>some k|none=>lead b)
 |.cond _ x y=>(match lead x with|some k=>some k|none=>lead y)
 |.block _ c=>lead c
 |.loop c=>lead c
 |.scope c=>lead c
 |_=>none
def writes:Code->List Nat
 |.region _ ops _=>zK ops.toList
 |.seq a b=>writes a++writes b
 |.cond _ x y=>writes x++writes y
 |.block _ c=>writes c
 |.loop c=>writes c
 |.scope c=>writes c
 |_=>[]
def tM (W:List Nat)(t:Nat):Bool:=W.any (OC t)
def lT (W:List Nat)(e:bJ):Bool:=!(tM W e.s)&&(match e.g with|some p=>!(tM W p.1)|none=>true)
def qQ (sl:List (Nat×eO)):List eO:=sl.map (·.2)
def fK:List Nat->List Value->List bJ
 |s::r,v::vs=>⟨s,v,none⟩::fK r vs
 |_,_=>[]
def AS (E:List bJ):List Nat->Option (List Value)
 |[]=>some []
 |s::r=>(match find E s with
   |some ⟨_,v,none⟩=>(match AS E r with|some vs=>some (v::vs)|none=>none)
   |_=>none)
def sM (E:List bJ)(sl:List (Nat×eO)):Option (dg.α (qQ sl)):=match AS E (sl.map (·.1)) with|some vs=>dg.dec (qQ sl) vs|none=>none
def iN {α:Type}(o:Option α)(K:α->Prop):Prop:=match o with|some x=>K x|none=>False
def LH (A:Bc)(b:Code):Option (List (Nat×eO)):=match lead b with|some k=>yc A (100000+k)|none=>none
def tX (P:Program)(N:Nat)(A:Bc):Code->List bJ->aa->(List bJ->aa->Prop)->(Nat->List bJ->aa->Prop)->(List bJ->aa->Prop)->Prop
 |.skip,E,H,d,_,_=>d E H
 |.label _,E,H,d,_,_=>d E H
 |.region id ops draw,E,H,d,_,_=>(match (bif draw then yc A (300000+id) else none) with
   |some (_::_::x::ex)=>Kz (ex.map (·.1)) P N ops E H d
   |some (f::c::_)=>La f.1 c.1 P N ops E H d
   |_=>Mm P N ops draw E H d)
 |.seq a b,E,H,d,e,g=>
   (match LH A b with
   |none=>tX P N A a E H (λh H'=>tX P N A b h H' d e g) e g
   |some sl=>cut (dg.α (qQ sl)) (λJ=>tX P N A a E H (λh H'=>iN (sM h sl) λx=>J x H') e g)
     λx H'=>tX P N A b (fK (sl.map (·.1)) (dg.enc (qQ sl) x)++E.filter (lT (writes a))) H' d e g)
 |.cond c x y,E,H,d,e,g=>
   (match Da E [] c with
   |some (.bool b)=>br b (tX P N A x E H d e g) (tX P N A y E H d e g)
   |_=>False)
 |.block id c,E,H,d,e,g=>tX P N A c E H d (λi h H'=>bif OC i id then d h H' else e i h H') g
 |.loop c,E,H,_,e,g=>
   (match (match lead c with|some k=>yc A k|none=>none) with
   |none=>False
   |some sl=>iN (sM E sl) λx0=>aw (dg.α (qQ sl)) x0 H λnext x H'=>
     tX P N A c (fK (sl.map (·.1)) (dg.enc (qQ sl) x)++E.filter (lT (writes c))) H' (λh j=>iN (sM h sl) λl=>next l j) e g)
 |.scope c,E,H,d,e,g=>tX P N A c E H d e g
 |.exit id,E,H,_,e,_=>e id E H
 |.ret,E,H,_,_,g=>g E H
 |_,_,_,_,_,_=>False
def uT (P:Program):List ResultVar->List bJ->aa->(List Value->Prop)->Prop
 |[],_,_,K=>K []
 |.tmp t::r,E,H,K=>(match Da E [] (.tmp t) with|some v=>uT P r E H (λvs=>K (v::vs))|none=>False)
 |.cell a t::r,E,H,K=>(bif tB E [] (.load t (.tmp a)) then qY P (.load t (.tmp a)) t (GR E []) none H (λv=>uT P r E H (λvs=>K (v::vs))) else False)
def oneOf:List Value->Value
 |[v]=>v
 |vs=>.tuple ⟨vs⟩
def Jp (P:Program)(res:Array ResultVar)(E:List bJ)(H:aa)(R:Value->aa->Prop):Prop:=uT P res.toList E H λvs=>R (oneOf vs) H
def CC:Nat->List Value->List bJ
 |_,[]=>[]
 |k,v::r=>⟨k,v,none⟩::CC (k+1) r
def cN:Code->Bool
 |.rangeFunc ..=>true
 |.seq a b=>cN a||cN b
 |.cond _ x y=>cN x||cN y
 |.block _ c=>cN c
 |_=>false
abbrev Rec:=LoopState->Option Code->Loop
def nK (l:Nat)(rec:Rec)(H:aa)(fin:aa->Prop)(b:Nat->aa->Prop)(a:aa->Prop):Prop:=
 ∃s p,H[l]?=some (.loop (rec s p))/\(s==VN)=false/\
   (match p with
   |none=>fin (H.setIfInBounds l (.loop (rec .exhausted none)))
   |some c=>(match c with
     |.exit id=>b id (H.setIfInBounds l (.loop (rec .exhausted (some (.exit id)))))
     |.ret=>a (H.setIfInBounds l (.loop (rec .exhausted (some .ret))))
     |_=>False))
def oO (P:Program)(c:Value)(H:aa)(body:Nat->Rec->List Value->aa->(Bool->aa->Prop)->Prop)(fin:Nat->aa->Prop)(b:Nat->Nat->aa->Prop)(a:Nat->aa->Prop):Prop:=
 ∃g cap,c=.func (.func g) #[] cap/\cP P g=true/\∀rec:Rec,
   (∀vs H' K,H'[H.size+1]?=some (.loop (rec .ready none))->body (H.size+1) rec vs H' K->bZ P (H.size+1) vs.toArray H' K)->
   Spec P g (#[.func (.yield (H.size+1)) #[] #[]]++cap) ((H.push (.deferred (some []))).push (.loop (rec .ready none)))
    λ_ d=>nK (H.size+1) rec d (fin H.size) (λid=>b id H.size) (a H.size)
def nP:List Nat->Bool
 |[]=>true
 |x::r=>!(tM r x)&&nP r
def Lv:List Nat->List Nat->Bool
 |[],[]=>true
 |x::r,y::t=>OC x y&&Lv r t
 |_,_=>false
def vN (P:Program)(N:Nat)(A:Bc)(E:List bJ)(sl:List (Nat×eO))(assign body:Code)(l:Nat)(rec:Rec)(vs:List Value)(H:aa)(K:Bool->aa->Prop):Prop:=
 iN (dg.dec (qQ sl) vs) λx=>
  tX P N A assign (fK (sl.map (·.1)) (dg.enc (qQ sl) x)++E.filter (lT (sl.map (·.1)))) H
   (λb H1=>H1[l]?=some (.loop (rec .ready none))/\tX P N A body b (H1.setIfInBounds l (.loop (rec .busy none)))
    (λ_ a=>a[l]?=some (.loop (rec .busy none))/\K true (a.setIfInBounds l (.loop (rec .ready none))))
    (λid _ a=>a[l]?=some (.loop (rec .busy none))/\K false (a.setIfInBounds l (.loop (rec .done (some (.exit id))))))
    (λ_ a=>a[l]?=some (.loop (rec .busy none))/\K false (a.setIfInBounds l (.loop (rec .done (some .ret))))))
   (λ_ _ _=>False) (λ_ _=>False)
def EC (P:Program)(N:Nat)(A:Bc):Code->List Nat->List bJ->aa->(List Nat->List bJ->aa->Prop)->(Nat->List Nat->List bJ->aa->Prop)->(List Nat->List bJ->aa->Prop)->Prop
 |.seq a b,D,E,H,d,e,g=>
   bif cN a||cN b then EC P N A a D E H (λh j H'=>EC P N A b h j H' d e g) e g
   else tX P N A (.seq a b) E H (d D) (λi=>e i D) (g D)
 |.cond c x y,D,E,H,d,e,g=>
   bif cN x||cN y then
    (match Da E [] c with
    |some (.bool b)=>br b (EC P N A x D E H d e g) (EC P N A y D E H d e g)
    |_=>False)
   else tX P N A (.cond c x y) E H (d D) (λi=>e i D) (g D)
 |.block id c,D,E,H,d,e,g=>
   bif cN c then EC P N A c D E H d (λi h j H'=>bif OC i id then d h j H' else e i h j H') g
   else tX P N A (.block id c) E H (d D) (λi=>e i D) (g D)
 |.rangeFunc f ps assign body,D,E,H,d,e,g=>
   (match Da E [] f,yc A (200000+(lead body).getD 0) with
   |some k,some sl=>bif Lv ps.toList (sl.map (·.1))&&(nP ps.toList&&ps.toList.all (λp=>PV p N)) then
     oO P k H (vN P N A E sl assign body) (λr H'=>d (r::D) E H') (λid r H'=>e id (r::D) E H') (λr H'=>g (r::D) E H') else False
   |_,_=>False)
 |c,D,E,H,d,e,g=>tX P N A c E H (d D) (λi=>e i D) (g D)
def Aw:List Nat->aa->(aa->Prop)->Prop
 |[],H,K=>K H
 |r::D,H,K=>H[r]?=some (.deferred (some []))/\Aw D (H.setIfInBounds r (.deferred none)) K
def zw (P:Program)(res:Array ResultVar)(D:List Nat)(E:List bJ)(H:aa)(R:Value->aa->Prop):Prop:=Aw D H λH'=>Jp P res E H' R
def Mj (P:Program)(f:FuncId)(A:Bc)(args:List Value)(H:aa)(R:Value->aa->Prop):Prop:=
 match P.funcs[f]? with
 |some fn=>(match fn.body with
   |some c=>(bif Nat.ble args.length fn.ntmps then EC P fn.ntmps A c [] (CC 0 args) H (λD E H'=>zw P fn.results D E H' R) (λ_ _ _ _=>False) (λD E H'=>zw P fn.results D E H' R) else False)
   |none=>False)
 |none=>False
def LF (c:eO)(P:Program)(f:FuncId)(A:Bc)(args:List Value)(H:aa)(R:c.α->aa->Prop):Prop:=
 Mj P f A args H λv H'=>iN (c.dec v) λx=>R x H'
theorem gF {α:Type}{o:Option α}{K:α->Prop}(h:iN o K):∃x,o=some x/\K x:=by
 cases o with
 |none=>exact h.elim
 |some x=>exact⟨x,rfl,h⟩
section
variable {P:Program}{N:Nat}{D:List Deferred}{rn:Option Nat}
theorem dC (W:List Nat)(t:Nat):tM W t=W.contains t:=by
 unfold tM;rw[List.contains_eq_any_beq];congr 1;funext x;cases h:OC t x with
 |true=>have:=Om h;subst this;simp
 |false=>
   have:t≠x:=λe=>by subst e;simp at h
   simpa using this
theorem Holds.keep {E:List bJ}{a f:Act}{W:List Nat}(hH:Holds N D E a)(hs:f.tmps.size=N)(hd:f.defers=D)(i:gT W a f):Holds N D (E.filter (lT W)) f:=by
 refine⟨hs,hd,λe he=>?_⟩;obtain⟨h1,d⟩:=OK.1 he;have c:=hH.all e h1;unfold lT at d;simp only[Oj,PC,dC] at d;have g:=i e.s d.1;unfold ft at c ⊢;cases j:e.g with
 |none=>rw[j] at c;exact g.trans c
 |some p=>
   rw[j] at c d;obtain⟨s,b⟩:=p;have e2:=i s (by have:=d.2;simpa using this);refine⟨λh=>g.trans (c.1 (e2.symm.trans h)),λh=>g.trans (c.2 λq=>h (e2.trans q))⟩
theorem Holds.append {E b:List bJ}{a:Act}(h:Holds N D E a)(k:Holds N D b a):Holds N D (E++b) a:=
 ⟨h.size,h.defers,λe he=>(Oe.1 he).elim (h.all e) (k.all e)⟩
theorem rH {E:List bJ}{a:Act}(hH:Holds N D E a):∀{l:List Nat} {vs:List Value},AS E l=some vs->Holds N D (fK l vs) a
 |[],vs,h=>⟨hH.size,hH.defers,by cases vs<;>simp[fK]⟩
 |s::r,vs,h=>by
   unfold AS at h;split at h
   ·rename_i s' v d;split at h
    ·rename_i b f;have e:v::b=vs:=OE h;subst e;have g:=rH hH f;obtain⟨h1,c⟩:=fL d;refine⟨hH.size,hH.defers,λe he=>?_⟩;simp only[fK] at he;rcases Oq.1 he with he|he
     ·subst he;have:=hH.all _ h1;simp only at c;subst c;exact this
     ·exact g.all e he
    ·cases h
   ·cases h
theorem lE {E:List bJ}{a:Act}{sl:List (Nat×eO)}{x:dg.α (qQ sl)}(hH:Holds N D E a)(h:sM E sl=some x):Holds N D (fK (sl.map (·.1)) (dg.enc (qQ sl) x)) a:=by
 unfold sM at h;split at h
 ·rename_i vs b;have:=dg.ok _ _ _ h;rw[<-this];exact rH hH b
 ·cases h
theorem exists_least {p:Nat->Prop}:∀n,p n->∃k,p k/\∀j,p j->k<=j:=by
 intro n
 induction n using Nat.strongRecOn with
 |_ n a=>
   intro b;by_cases h:∃j,j<n/\p j
   ·obtain⟨j,h1,c⟩:=h;exact a j h1 c
   ·exact⟨n,b,λj d=>by
     rcases Nat.lt_or_ge j n with h1|h1
     ·exact absurd ⟨j,h1,d⟩ h
     ·exact h1⟩
open Classical in
noncomputable def least (p:Nat->Prop):Nat:=if h:∃k,p k/\∀j,p j->k<=j then h.choose else 0
theorem sP {p:Nat->Prop}{n:Nat}(h:p n):p (least p)/\∀j,p j->least p<=j:=by
 have h1:=exists_least n h;unfold least;rw[dif_pos h1];exact h1.choose_spec
def qG (a:List bJ->aa->Prop)(b:Nat->List bJ->aa->Prop)(c:List bJ->aa->Prop):Exit->List bJ->aa->Prop
 |.normal,E,H=>a E H
 |.exit id,E,H=>b id E H
 |.ret,E,H=>c E H
 |_,_,_=>False
def post (N:Nat)(D:List Deferred)(W:List Nat)(a:Act)(w:World)(d:List bJ->aa->Prop)(f:Nat->List bJ->aa->Prop)(g:List bJ->aa->Prop)(e:Exit)(b:Act)(w':World):Prop:=
 ∃c,Holds N D c b/\gT W a b/\Alike w w'/\qG d f g e c w'.heap
theorem zg {F:Fence}{n:Nat}{Q:Exit->Act->World->Prop}{a:Act}{w:World}{c:Code}(h:c.wpIn F n P (λe a w=>match e with|.goto _=>False|e=>Q e a w) a w):(Code.scope c).wpIn F n P Q a w:=by
 intro b k cs j m o;have g:(lone (b.atR a (.code (.scope c)::k)) cs w).fenced P F:=fenced_calm m o rfl;have s1:step P (lone (b.atR a (.code (.scope c)::k)) cs w)=.next (lone (b.atR a (.code c::.inScope c::k)) cs w):=step_lone_go (by simp[stepG,Wx,WH])
 have s2:∀a w,step P (lone (b.atR a (.inScope c::k)) cs w)=.next (lone (b.atR a k) cs w):=λa w=>step_lone_go (by simp[stepG,Wx,WH])
 obtain⟨e,a₁,w₁,i,d⟩:=h b (.inScope c::k) cs j m o;cases e with
 |normal=>exact⟨.normal,a₁,w₁,i,.head g s1 (Zh d (.one (fenced_calm m o rfl) (s2 _ _)))⟩
 |exit f=>
   have q:exitTo f (.inScope c::k)=exitTo f k:=by simp[exitTo]
   exact⟨.exit f,a₁,w₁,i,λr hk=>.head g s1 (d.1 r (by rw[q];exact hk)),
    λp hk=>let ⟨k₁,h1,s⟩:=d.2 p (by rw[q];exact hk);⟨k₁,h1,.head g s1 s⟩⟩
 |goto l=>exact i.elim
 |ret=>exact⟨_,a₁,w₁,i,.of_steps (.one g s1) d⟩
 |panic ch=>exact⟨_,a₁,w₁,i,.of_steps (.one g s1) d⟩
 |outgrown=>exact⟨_,a₁,w₁,i,.of_steps (.one g s1) d⟩
theorem c6 (o:lQ P)(hm:P.follows .mixedOrders=true)(A:Bc):∀(c:Code) (E:List bJ) (a:Act) (w:World) (r:List bJ->aa->Prop) (s:Nat->List bJ->aa->Prop) (u:List bJ->aa->Prop),
  Holds N D E a->tX P N A c E w.heap r s u->c.wpIn (FW rn) 0 P (post N D (writes c) a w r s u) a w
 |.skip,E,a,w,r,s,u,hH,h=>wpIn_skip ⟨E,hH,.refl _ _,.refl _,h⟩
 |.label _,E,a,w,r,s,u,hH,h=>wpIn_label ⟨E,hH,.refl _ _,.refl _,h⟩
 |.exit id,E,a,w,r,s,u,hH,h=>wpIn_exit ⟨E,hH,.refl _ _,.refl _,h⟩
 |.ret,E,a,w,r,s,u,hH,h=>wpIn_ret ⟨E,hH,.refl _ _,.refl _,h⟩
 |.region id ops draw,E,a,w,r,s,u,hH,h=>by
   simp only[tX] at h;split at h
   ·rename_i _ _ _ ex hl;cases draw with
    |false=>cases hl
    |true=>exact AJ o hm hH (λk q w' h1 j l d=>⟨k,h1,j,l,d⟩) h
   ·rename_i f c _ _ hl;cases draw with
    |false=>cases hl
    |true=>exact zq o hm hH (λk q w' h1 j l d=>⟨k,h1,j,l,d⟩) h
   ·exact Cc o hm hH (λk q w' h1 j l d=>⟨k,h1,j,l,d⟩) h
 |.cond c x y,E,a,w,r,s,u,hH,h=>by
   simp only[tX] at h;split at h
   ·rename_i b R;have ec:=gH hH (by simp) R;refine wpIn_cond ec ?_;cases b with
    |true=>
      exact Pp (λe q w' ⟨k,h1,j,l,d⟩=>⟨k,h1,j.mono (λt z=>by
       simp only[writes,<-dC,tM,Q9,PW] at z ⊢;exact z.1),l,d⟩) (c6 o hm A x E a w r s u hH h)
    |false=>
      exact Pp (λe q w' ⟨k,h1,j,l,d⟩=>⟨k,h1,j.mono (λt z=>by
       simp only[writes,<-dC,tM,Q9,PW] at z ⊢;exact z.2),l,d⟩) (c6 o hm A y E a w r s u hH h)
   ·exact h.elim
 |.block id c,E,a,w,r,s,u,hH,h=>by
   refine wpIn_block (Pp (λe q w' B=>?_) (c6 o hm A c E a w _ _ _ hH h));obtain⟨k,h1,j,l,d⟩:=B;cases e<;>simp only[qG] at d<;>try exact d.elim
   case normal=>exact⟨k,h1,j,l,d⟩
   case exit i=>
    simp only[V7];by_cases hi:i=id
    ·subst hi;rw[if_pos rfl];have S:OC i i=true:=WI i;rw[S] at d;exact⟨k,h1,j,l,d⟩
    ·rw[if_neg hi];have S:OC i id=false:=by
      cases R:OC i id with
      |false=>rfl
      |true=>exact absurd (Om R) hi
     rw[S] at d;exact⟨k,h1,j,l,d⟩
   case ret=>exact⟨k,h1,j,l,d⟩
 |.seq x y,E,a,w,r,s,u,hH,h=>by
   have H:∀t,(writes (.seq x y)).contains t=false->(writes x).contains t=false:=λt z=>by
    simp only[writes,<-dC,tM,Q9,PW] at z ⊢;exact z.1
   have wy:∀t,(writes (.seq x y)).contains t=false->(writes y).contains t=false:=λt z=>by
    simp only[writes,<-dC,tM,Q9,PW] at z ⊢;exact z.2
   simp only[tX] at h;split at h
   ·refine wpIn_seq (Pp (λe q w' B=>?_) (c6 o hm A x E a w _ _ _ hH h));obtain⟨k,h1,j,l,d⟩:=B;cases e<;>simp only[qG] at d<;>try exact d.elim
    case normal=>
     exact Pp (λe T U ⟨F,K,L,M,O⟩=>⟨F,K,(j.mono H).trans (L.mono wy),l.trans M,O⟩) (c6 o hm A y k q w' r s u h1 d)
    case exit i=>exact⟨k,h1,j.mono H,l,d⟩
    case ret=>exact⟨k,h1,j.mono H,l,d⟩
   ·rename_i sl hsl;obtain⟨J,hA,hB⟩:=h;refine wpIn_seq (Pp (λe q w' B=>?_) (c6 o hm A x E a w _ _ _ hH hA));obtain⟨k,h1,j,l,d⟩:=B;cases e<;>simp only[qG] at d<;>try exact d.elim
    case normal=>
     obtain⟨v,hv,hJ⟩:=gF d;have V:=(lE h1 hv).append (hH.keep h1.size h1.defers j);exact Pp (λe T U ⟨F,K,L,M,O⟩=>⟨F,K,(j.mono H).trans (L.mono wy),l.trans M,O⟩) (c6 o hm A y _ q w' r s u V (hB _ _ hJ))
    case exit i=>exact⟨k,h1,j.mono H,l,d⟩
    case ret=>exact⟨k,h1,j.mono H,l,d⟩
 |.loop c,E,a,w,r,s,u,hH,h=>by
   simp only[tX] at h;split at h
   ·exact h.elim
   ·rename_i sl hsl;obtain⟨x0,W,γ,I,m,⟨g0,X⟩,C⟩:=gF h
    let Inv:γ->Act->World->Prop:=λg q w'=>∃x,Holds N D (fK (sl.map (·.1)) (dg.enc (qQ sl) x)++E.filter (lT (writes c))) q/\gT (writes c) a q/\Alike w w'/\I g x w'.heap
    let p:Act->World->Nat->Prop:=λq w' n=>∃g,m g=n/\Inv g q w'
    refine wpIn_loop (λq w'=>∃g,Inv g q w') (λq w'=>least (p q w')) ?_ ?_
    ·exact⟨g0,x0,(lE hH W).append (hH.keep hH.size hH.defers (.refl _ _)),.refl _ _,.refl _,X⟩
    ·intro a1 w1 ⟨g,hg⟩;obtain⟨⟨g1,an,x1,K,L,M,O⟩,af⟩:=sP (p:=p a1 w1) (n:=m g) ⟨g,rfl,hg⟩;refine Pp (λe q w' B=>?_) (c6 o hm A c _ a1 w1 _ _ _ K (C g1 x1 _ O));obtain⟨k,h1,j,l,d⟩:=B;have Q:gT (writes c) a q:=L.trans j;have G:Alike w w':=M.trans l;cases e<;>simp only[qG] at d<;>try exact d.elim
     case normal=>
      obtain⟨x',Y,g',Z,a6⟩:=gF d;have hinv:Inv g' q w':=⟨x',(lE h1 Y).append (hH.keep h1.size h1.defers Q),Q,G,Z⟩;refine⟨⟨g',hinv⟩,?_⟩;have:=(sP (p:=p q w') (n:=m g') ⟨g',rfl,hinv⟩).2 (m g') ⟨g',rfl,hinv⟩;omega
     case exit i=>exact⟨k,h1,Q,G,d⟩
     case ret=>exact⟨k,h1,Q,G,d⟩
 |.rangeFunc _ _ _ _,_,_,_,_,_,_,_,h=>h.elim
 |.scope c,E,a,w,r,s,u,hH,h=>by
   refine zg (Pp (λe q w' B=>?_) (c6 o hm A c E a w r s u hH h));obtain⟨k,h1,j,l,d⟩:=B;cases e<;>simp only[qG] at d<;>try exact d.elim
   all_goals exact⟨k,h1,j,l,d⟩
 |.goto _,_,_,_,_,_,_,_,h=>h.elim
 |.refuse _,_,_,_,_,_,_,_,h=>h.elim
theorem lZ {E:List bJ}{a:Act}{w:World}(hH:Holds N D E a):∀{l:List ResultVar} {K:List Value->Prop},uT P l E w.heap K->
  ∃vs,(l.mapM λr=>(match r with
    |.tmp t=>pure (a.tmps.getD t undef)
    |.cell ad t=>do loadVar t (<-asAddr (a.tmps.getD ad undef)):Sem Value)).run P w=.ok vs w/\K vs
 |[],K,h=>⟨[],rfl,h⟩
 |.tmp t::r,K,h=>by
   simp only[uT] at h;split at h
   ·rename_i v i;obtain⟨vs,h1,d⟩:=lZ hH h;have e:a.tmps.getD t undef=v:=gH (x:=.tmp t) hH (by simp) i;refine⟨v::vs,?_,d⟩;rw[Vi];simp only[OF,Pc,OH,e];rw[h1];rfl
   ·exact h.elim
 |.cell ad t::r,K,h=>by
   simp only[uT] at h;cases f:tB E [] (.load t (.tmp ad)) with
   |false=>rw[f] at h;exact h.elim
   |true=>
     rw[f] at h;simp only[cond_true] at h;obtain⟨v,h1,d⟩:=ju (o:=⟨none,.load t (.tmp ad),t,"",#[],none⟩) h;obtain⟨vs,j,k⟩:=lZ hH d;have c:=h1 w rfl;rw[<-qf (o:=⟨none,.load t (.tmp ad),t,"",#[],none⟩) hH (by simp) f (by intro cs b e;cases e)] at c;simp only[execOp,Instr.loadAt,OF] at c;refine⟨v::vs,?_,k⟩;rw[Vi];have e2:(do loadVar t (<-asAddr (a.tmps.getD ad undef)):Sem Value).run P w=.ok v w:=by
      have m:a.eval (.tmp ad)=a.tmps.getD ad undef:=rfl;rw[m] at c;generalize a.tmps.getD ad undef=q at*;cases q with
      |pointer p=>
        cases p with
        |none=>simp[Qm] at c
        |some ad=>
          simp only[Qm,Pc,OH] at c;simp only[asAddr,OF,Pc,OH];cases g:(loadVar t ad).run P w with
          |ok u n=>rw[g] at c;simp at c;rw[c.1,c.2]
          |halt x n=>rw[g] at c;simp at c
      |_=>simp[Qm] at c
     simp only[OF] at e2 ⊢;rw[e2];simp only[OH,j,Pc]
theorem yG {fn:Func}{E:List bJ}{a:Act}{w:World}{R:Value->aa->Prop}(hH:Holds N D E a)(h:Jp P fn.results E w.heap R):
  ∃v,(results fn a.tmps).run P w=.ok v w/\R v w.heap:=by
 obtain⟨vs,h1,b⟩:=lZ hH h;refine⟨oneOf vs,?_,b⟩;unfold results;rw[OF,Array.mapM_eq_mapM_toList,Sem.run_map];have e:∀{g:ResultVar->Sem Value},(fn.results.toList.mapM g).run P w=.ok vs w->
   ((((fn.results.toList.mapM g).run P w).andThen λa w'=>Result.ok a.toArray w').andThen λvs w'=>(pure (if h:vs.size=1 then vs[0] else .tuple vs):Sem Value).run P w')=.ok (oneOf vs) w:=by
  intro g c;rw[c];simp only[OH,Pc];congr 1;cases vs with
  |nil=>rfl
  |cons v r=>
    cases r with
    |nil=>rfl
    |cons v2 r=>simp[oneOf]
 exact e h1
def oL (r:Nat):Deferred:={target:=.collected r,args:=#[]}
theorem uX {fn:Func}{tmps:Array Value}{R:Ending->World->Prop}{w0:World}{K:aa->Prop}(b:∀w,Alike w0 w->K w.heap->LeavesIn T3 0 P fn tmps R [] .returning w):
  ∀(D:List Nat) (w:World),Alike w0 w->Aw D w.heap K->LeavesInM T3 0 P fn tmps R (D.map oL) .returning w
 |[],w,a,h=>b w a h
 |r::D,w,a,h=>by
   obtain⟨h1,c⟩:=h;refine⟨by simp,.inl ⟨r,{w with heap:=w.heap.setIfInBounds r (.deferred none)},rfl,?_,uX b D _ (a.trans (.of_le rfl (Ob _))) c⟩⟩;simp[Instr.takeDeferred,getObj,setObj,PJ,h1]
theorem sL {W:List Nat}{t:Nat}:tM W t=true↔t∈W:=by
 rw[dC];simp
theorem uI:∀(ps:List Nat) (vs:List Value) (a:Array Value),((ps.zip vs).foldl (λt (p,v)=>t.setIfInBounds p v) a).size=a.size
 |[],_,_=>rfl
 |_::_,[],_=>rfl
 |p::ps,v::vs,a=>by simp only[TR,Q8];rw[uI ps vs];simp
theorem j4:∀(ps:List Nat) (vs:List Value) (a:Array Value) (t:Nat),t∉ps->((ps.zip vs).foldl (λt (p,v)=>t.setIfInBounds p v) a)[t]?=a[t]?
 |[],_,_,_,_=>rfl
 |_::_,[],_,_,_=>rfl
 |p::ps,v::vs,a,t,h=>by
   simp only[Oq,not_or] at h;simp only[TR,Q8];rw[j4 ps vs _ t h.2,Array.getElem?_setIfInBounds_ne (Ne.symm h.1)]
theorem rj:∀(ps:List Nat) (vs:List Value) (b:Array Value),nP ps=true->(∀p∈ps,p<b.size)->∀e∈fK ps vs,e.g=none/\((ps.zip vs).foldl (λt (p,v)=>t.setIfInBounds p v) b)[e.s]?=some e.v
 |[],vs,_,_,_,e,he=>by cases vs<;>simp[fK] at he
 |_::_,[],_,_,_,e,he=>by simp[fK] at he
 |p::ps,v::vs,b,a,d,e,he=>by
   simp only[nP,Oj,PC] at a;simp only[fK] at he;simp only[TR,Q8];rcases Oq.1 he with he|he
   ·subst he;refine⟨rfl,?_⟩;have c:p∉ps:=λh=>by rw[sL.2 h] at a;cases a.1
    rw[j4 ps vs _ p c];simp[d p List.mem_cons_self]
   ·exact rj ps vs _ a.2 (λq f=>by simpa using d q (List.mem_cons_of_mem _ f)) e he
theorem xQ {E:List bJ}{a:Act}(hH:Holds N D E a){ps:List Nat}{vs:List Value}(k:nP ps=true)(l:∀p∈ps,p<N):
  Holds N [] (fK ps vs++E.filter (lT ps)) {tmps:=(ps.zip vs).foldl (λt (p,v)=>t.setIfInBounds p v) a.tmps,defers:=[]}:=by
 refine⟨(uI _ _ _).trans hH.size,rfl,λe he=>?_⟩;rcases Oe.1 he with he|he
 ·obtain⟨h1,d⟩:=rj ps vs a.tmps k (λp f=>by rw[hH.size];exact l p f) e he;unfold ft;rw[h1];exact d
 ·obtain⟨h1,d⟩:=OK.1 he;have c:=hH.all e h1;unfold lT at d;simp only[Oj,PC] at d;have g:((ps.zip vs).foldl (λt (p,v)=>t.setIfInBounds p v) a.tmps)[e.s]?=a.tmps[e.s]?:=j4 _ _ _ _ (λh=>by rw[sL.2 h] at d;cases d.1);unfold ft at c ⊢;cases j:e.g with
  |none=>rw[j] at c;exact g.trans c
  |some p=>
    rw[j] at c d;obtain⟨s,b⟩:=p;have e2:((ps.zip vs).foldl (λt (p,v)=>t.setIfInBounds p v) a.tmps)[s]?=a.tmps[s]?:=j4 _ _ _ _ (λh=>by
     have i:=d.2;simp only[PC] at i;rw[sL.2 h] at i;cases i)
    exact⟨λh=>g.trans (c.1 (e2.symm.trans h)),λh=>g.trans (c.2 λq=>h (e2.trans q))⟩
theorem D0:∀{a b:List Nat},Lv a b=true->a=b
 |[],[],_=>rfl
 |x::r,y::t,h=>by
   simp only[Lv,Oj] at h;rw[Om h.1,D0 h.2]
def vC (a:List Nat->List bJ->aa->Prop)(b:Nat->List Nat->List bJ->aa->Prop)(c:List Nat->List bJ->aa->Prop):Exit->List Nat->List bJ->aa->Prop
 |.normal,D,E,H=>a D E H
 |.exit id,D,E,H=>b id D E H
 |.ret,D,E,H=>c D E H
 |_,_,_,_=>False
def vd (N:Nat)(w:World)(c:List Nat->List bJ->aa->Prop)(d:Nat->List Nat->List bJ->aa->Prop)(f:List Nat->List bJ->aa->Prop)(e:Exit)(g:Act)(w':World):Prop:=
 ∃a b,Holds N (a.map oL) b g/\Alike w w'/\vC c d f e a b w'.heap
theorem cY (b:lQ P)(hm:P.follows .mixedOrders=true){A:Bc}{c:Code}{D:List Nat}{E:List bJ}{a:Act}{w:World}{d:List Nat->List bJ->aa->Prop}{f:Nat->List Nat->List bJ->aa->Prop}{g:List Nat->List bJ->aa->Prop}
  (hH:Holds N (D.map oL) E a) (h:tX P N A c E w.heap (d D) (λi=>f i D) (g D)):c.wpIn (FW none) 0 P (vd N w d f g) a w:=
 Pp (λe m w' ⟨k,h1,_,l,j⟩=>⟨D,k,h1,l,by cases e<;>first|exact j|exact j.elim⟩) (c6 b hm A c E a w _ _ _ hH h)
theorem tT (B:lQ P)(hm:P.follows .mixedOrders=true){A:Bc}{f:Operand}{ps:Array Tmp}{assign body:Code}{D:List Nat}{E:List bJ}{a:Act}{w:World}{fv:Value}{sl:List (Nat×eO)}
  {Kn:List Nat->List bJ->aa->Prop} {Kx:Nat->List Nat->List bJ->aa->Prop} {Kr:List Nat->List bJ->aa->Prop}
  (hH:Holds N (D.map oL) E a) (hf:Da E [] f=some fv) (C:ps.toList=sl.map (·.1)) (Y:nP ps.toList=true) (Z:∀p∈ps.toList,p<N)
  (h:oO P fv w.heap (vN P N A E sl assign body) (λr H'=>Kn (r::D) E H') (λid r H'=>Kx id (r::D) E H') (λr H'=>Kr (r::D) E H')):
  (Code.rangeFunc f ps assign body).wpIn (FW none) 0 P (vd N w Kn Kx Kr) a w:=by
 obtain⟨g,cap,rfl,k,h⟩:=h;have af:a.eval f=.func (.func g) #[] cap:=gH hH (by simp) hf;refine wpIn_rangeFunc (λfn _=>?_);obtain⟨rec,i⟩:∃rec:Rec,rec=λst pe=>{state:=st,pending:=pe,fn,tmps:=a.tmps,params:=ps,assign,body,defers:=w.heap.size}:=⟨_,rfl⟩;have m:∀s p,(rec s p).state=s:=λs p=>by rw[i]
 have F:∀s p,(rec s p).pending=p:=λs p=>by rw[i]
 have Q:∀s p s' p',({rec s p with state:=s',pending:=p'}:Loop)=rec s' p':=λs p s' p'=>by rw[i]
 have G:∀s p s',({rec s p with state:=s'}:Loop)=rec s' p:=λs p s'=>by rw[i]
 let H:World:={w with heap:=(w.heap.push (.deferred (some []))).push (.loop (rec .ready none))}
 have a8:(w.heap.push (Obj.deferred (some []))).size=w.heap.size+1:=by simp
 refine⟨w.heap.size+1,[oL w.heap.size],H,{target:=.fn (.func g) cap,args:=#[.func (.yield (w.heap.size+1)) #[] #[]]},H,g,#[.func (.yield (w.heap.size+1)) #[] #[]]++cap,H,?_,?_,λ_ _=>trivial,?_,(λhh=>by cases hh),?_⟩
 ·show (VB fn a.tmps ps assign body none).run P w=_;subst i;simp[VB,newObj,OF,PJ,oL,H];rfl
 ·show (Rg (a.eval f) (#[Zi (.func (.yield (w.heap.size+1)) #[] #[])].map a.eval)).run P H=_;rw[af];simp[Rg];rfl
 ·unfold cP at k;split at k
  ·rename_i an R;obtain⟨b,hb⟩:=Option.isSome_iff_exists.1 k;have h1:an.name≠"runtime.NumGoroutine":=by simpa using B _ _ R
   simp[invoke,callFunc,R,h1,hb]
  ·cases k
 ·-- the call
  have o:∀vs H' K,H'[w.heap.size+1]?=some (.loop (rec .ready none))->vN P N A E sl assign body (w.heap.size+1) rec vs H' K->bZ P (w.heap.size+1) vs.toArray H' K:=by
   intro vs H' K hl hr W hW;subst hW;obtain⟨x,hx,hr⟩:=gF hr;have I:=dg.ok _ _ _ hx;have hlen:vs.length=ps.size:=by
    have e1:∀(l:List eO) (y:dg.α l),(dg.enc l y).length=l.length:=by
     intro l
     induction l with
     |nil=>intro y;rfl
     |cons c r ih=>
       intro y;cases r with
       |nil=>rfl
       |cons d r=>simp only[dg.enc,List.length_cons];rw[ih];rfl
    rw[I,e1];have:=congrArg List.length C;simp only[Array.length_toList,List.length_map] at this;rw[this];simp[qQ]
   have S:(Vh (w.heap.size+1) vs.toArray).run P W=.ok (.round (w.heap.size+1) fn ((ps.zip vs.toArray).foldl (λtmps (t,a)=>tmps.setIfInBounds t a) a.tmps) assign body) W:=by
    have e2:(rec .ready none).params=ps/\(rec .ready none).fn=fn/\(rec .ready none).tmps=a.tmps/\(rec .ready none).assign=assign/\(rec .ready none).body=body:=by rw[i];exact⟨rfl,rfl,rfl,rfl,rfl⟩
    simp[Vh,Ua,getObj,PJ,hl,e2,hlen]
   rw[S];simp only[pd];have J:(ps.zip vs.toArray).foldl (λtmps (t,a)=>tmps.setIfInBounds t a) a.tmps=(ps.toList.zip vs).foldl (λt (p,v)=>t.setIfInBounds p v) a.tmps:=by
    rw[<-Array.foldl_toList];simp
   rw[J];have T:=xQ hH (vs:=vs) Y Z;rw[C,I] at T;rw[C,I];refine roundIn_of_wpIn trivial (Pp (λe a1 w1 hp=>?_) (c6 (rn:=some (w.heap.size+1)) B hm A assign _ _ W _ _ _ T hr));obtain⟨E1,k1,k2,k3,k4⟩:=hp;cases e<;>simp only[qG] at k4<;>try exact k4.elim
   obtain⟨k5,k6⟩:=k4
   let V:World:={w1 with heap:=w1.heap.setIfInBounds (w.heap.size+1) (.loop (rec .busy none))}
   refine⟨V,?_,Pp (λe a2 O hp=>?_) (c6 (rn:=some (w.heap.size+1)) B hm A body E1 a1 V _ _ _ k1 k6)⟩
   ·simp[Instr.beginRound,Ua,getObj,setObj,PJ,k5,G,m,V]
   ·obtain⟨E2,q1,q2,q3,z⟩:=hp;have L:Alike W O:=(k3.trans (.of_le rfl (Ob _)):Alike W V).trans q3;have fin:∀(j:Option Code) (s:LoopState),s=(if j.isNone then .ready else .done)->O.heap[w.heap.size+1]?=some (.loop (rec .busy none))->K j.isNone (O.heap.setIfInBounds (w.heap.size+1) (.loop (rec s j)))->
      ∃v w',(VO (w.heap.size+1) j).run P O=.ok v w'/\∃u,Ending.returned v=.returned u/\(∃b,u=.bool b/\K b w'.heap/\Alike W w'):=by
     intro j s hs a6 hk;refine⟨.bool j.isNone,{O with heap:=O.heap.setIfInBounds (w.heap.size+1) (.loop (rec s j))},?_,_,rfl,_,rfl,hk,L.trans (.of_le rfl (Ob _))⟩;subst hs;simp[VO,Ua,getObj,setObj,PJ,a6,Q]
    cases e<;>simp only[qG] at z<;>try exact z.elim
    case normal=>exact fin none .ready rfl z.1 z.2
    case exit id=>exact fin (some (.exit id)) .done rfl z.1 z.2
    case ret=>exact fin (some .ret) .done rfl z.1 z.2
  have q:=h rec o H rfl;refine callsIn_wide.2 (q.mono λe X ⟨v,he,hk,L⟩=>?_);subst he;obtain⟨s,p,hl,hb,hk⟩:=hk;have M:Holds N ((w.heap.size::D).map oL) E {a with defers:=[oL w.heap.size]++a.defers}:=
   ⟨hH.size,by rw[hH.defers];rfl,λe he=>hH.all e he⟩
  have n:Alike w X:=(.of_le rfl (Ob _):Alike w H).trans L;have U:(VX (w.heap.size+1)).run P X=.ok p {X with heap:=X.heap.setIfInBounds (w.heap.size+1) (.loop (rec .exhausted p))}:=by
   have a7:s≠VN:=by intro e;subst e;cases hb
   simp[VX,Ua,getObj,setObj,PJ,hl,F,m,a7];subst i;rfl
  refine⟨p,_,U,?_⟩;cases p with
  |none=>exact⟨w.heap.size::D,E,M,n.trans (.of_le rfl (Ob _)),hk⟩
  |some c=>
    cases c<;>simp only at hk<;>try exact hk.elim
    case exit id=>exact wpIn_exit ⟨w.heap.size::D,E,M,n.trans (.of_le rfl (Ob _)),hk⟩
    case ret=>exact wpIn_ret ⟨w.heap.size::D,E,M,n.trans (.of_le rfl (Ob _)),hk⟩
theorem vd.then {w a:World}{b:List Nat->List bJ->aa->Prop}{c:Nat->List Nat->List bJ->aa->Prop}{d:List Nat->List bJ->aa->Prop}(h:Alike w a){e:Exit}{f:Act}{w':World}(g:vd N a b c d e f w'):vd N w b c d e f w':=by
 obtain⟨i,j,h1,k,l⟩:=g;exact⟨i,j,h1,h.trans k,l⟩
theorem iz (d:lQ P)(hm:P.follows .mixedOrders=true)(A:Bc):∀(c:Code) (D:List Nat) (E:List bJ) (a:Act) (w:World) (j:List Nat->List bJ->aa->Prop) (k:Nat->List Nat->List bJ->aa->Prop) (l:List Nat->List bJ->aa->Prop),
  Holds N (D.map oL) E a->EC P N A c D E w.heap j k l->c.wpIn (FW none) 0 P (vd N w j k l) a w
 |.seq x y,D,E,a,w,j,k,l,hH,h=>by
   simp only[EC] at h;cases g:(cN x||cN y) with
   |false=>rw[g] at h;exact cY d hm hH h
   |true=>
     rw[g] at h;simp only[cond_true] at h;refine wpIn_seq (Pp (λe t w' r=>?_) (iz d hm A x D E a w _ _ _ hH h));obtain⟨n,o,h1,q,m⟩:=r;cases e<;>simp only[vC] at m<;>try exact m.elim
     case normal=>exact Pp (λe u v r=>r.then q) (iz d hm A y n o t w' j k l h1 m)
     case exit i=>exact⟨n,o,h1,q,m⟩
     case ret=>exact⟨n,o,h1,q,m⟩
 |.cond c x y,D,E,a,w,j,k,l,hH,h=>by
   simp only[EC] at h;cases g:(cN x||cN y) with
   |false=>rw[g] at h;exact cY d hm hH h
   |true=>
     rw[g] at h;simp only[cond_true] at h;split at h
     ·rename_i b g;have z:=gH hH (by simp) g;refine wpIn_cond z ?_;cases b with
      |true=>exact iz d hm A x D E a w j k l hH h
      |false=>exact iz d hm A y D E a w j k l hH h
     ·exact h.elim
 |.block id c,D,E,a,w,j,k,l,hH,h=>by
   simp only[EC] at h;cases g:cN c with
   |false=>rw[g] at h;exact cY d hm hH h
   |true=>
     rw[g] at h;simp only[cond_true] at h;refine wpIn_block (Pp (λe t w' r=>?_) (iz d hm A c D E a w _ _ _ hH h));obtain⟨n,o,h1,q,m⟩:=r;cases e<;>simp only[vC] at m<;>try exact m.elim
     case normal=>exact⟨n,o,h1,q,m⟩
     case exit i=>
      simp only[V7];by_cases hi:i=id
      ·subst hi;rw[if_pos rfl];have s:OC i i=true:=WI i;rw[s] at m;exact⟨n,o,h1,q,m⟩
      ·rw[if_neg hi];have s:OC i id=false:=by
        cases g:OC i id with
        |false=>rfl
        |true=>exact absurd (Om g) hi
       rw[s] at m;exact⟨n,o,h1,q,m⟩
     case ret=>exact⟨n,o,h1,q,m⟩
 |.rangeFunc f ps assign body,D,E,a,w,j,k,l,hH,h=>by
   simp only[EC] at h;split at h
   ·rename_i C sl B hsl;cases g:(Lv ps.toList (sl.map (·.1))&&(nP ps.toList&&ps.toList.all (λp=>PV p N))) with
    |false=>rw[g] at h;exact h.elim
    |true=>
      rw[g] at h;simp only[cond_true] at h;simp only[Oj,List.all_eq_true] at g;exact tT d hm hH B (D0 g.1) g.2.1 (λp r=>Nat.lt_of_succ_le (by simpa[PV] using g.2.2 p r)) h
   ·exact h.elim
 |.skip,D,E,a,w,j,k,l,hH,h=>cY d hm hH h
 |.label _,D,E,a,w,j,k,l,hH,h=>cY d hm hH h
 |.exit id,D,E,a,w,j,k,l,hH,h=>cY d hm hH h
 |.ret,D,E,a,w,j,k,l,hH,h=>cY d hm hH h
 |.region id ops draw,D,E,a,w,j,k,l,hH,h=>cY d hm hH h
 |.loop c,D,E,a,w,j,k,l,hH,h=>cY d hm hH h
 |.scope c,D,E,a,w,j,k,l,hH,h=>cY d hm hH h
 |.goto _,D,E,a,w,j,k,l,hH,h=>cY d hm hH h
 |.refuse _,D,E,a,w,j,k,l,hH,h=>cY d hm hH h
theorem zj (g:lQ P)(hm:P.follows .mixedOrders=true){f:FuncId}{A:Bc}{args:List Value}{H:aa}{R:Value->aa->Prop}(h:Mj P f A args H R):Spec P f args.toArray H R:=by
 intro w hw;subst hw;unfold Mj at h;split at h
 ·rename_i fn p;split at h
  ·rename_i c q;cases i:Nat.ble args.length fn.ntmps with
   |false=>rw[i] at h;exact h.elim
   |true=>
     rw[i] at h;simp only[cond_true] at h;have hle:args.length<=fn.ntmps:=Nat.le_of_ble_eq_true i;refine callsIn_wide.1 (callsIn_of_wp_marks (F:=FW none) p q trivial (Pp (λe n w' s=>?_) (iz (N:=fn.ntmps) g hm A c [] (CC 0 args) _ w _ _ _ ⟨?_,rfl,?_⟩ h)))
     ·obtain⟨o,t,h1,u,a⟩:=s;have fin:zw P fn.results o t w'.heap R->LeavesInM (FW none) 0 P fn n.tmps (λe b=>∃v,e=.returned v/\R v b.heap/\Alike w b) n.defers .returning w':=by
       intro x;rw[h1.defers];refine uX (w0:=w') (λb y hk=>?_) o w' (.refl _) x;obtain⟨v,z,r2⟩:=yG (fn:=fn) (w:=b) h1 hk;exact⟨v,z,v,rfl,r2,u.trans y⟩
      cases e<;>simp only[vC] at a<;>try exact a.elim
      case normal=>exact fin a
      case ret=>exact fin a
     ·simp;omega
     ·have key:∀(l:List Value) (k:Nat),(∀j v,l[j]?=some v->(args++List.replicate (fn.ntmps - args.length) undef)[k+j]?=some v)->
        ∀e∈CC k l,ft {tmps:=args.toArray++Array.replicate (fn.ntmps - args.toArray.size) undef,defers:=[]} e:=by
       intro l
       induction l with
       |nil=>intro k _ e he;simp[CC] at he
       |cons v r B=>
         intro k hk e he;simp only[CC] at he;rcases Oq.1 he with he|he
         ·subst he;have:=hk 0 v rfl;simp only[ft];rw[<-Array.getElem?_toList];simpa using this
         ·exact B (k+1) (λj v d=>by
           have:=hk (j+1) v (by simpa using d)
           rwa [show k+(j+1)=k+1+j by omega] at this) e he
      exact key args 0 (λj v d=>by
       have m:=(List.getElem?_eq_some_iff.1 d).1;rw[Nat.zero_add,List.getElem?_append_left m];exact d)
  ·exact h.elim
 ·exact h.elim
theorem yb (a:lQ P)(hm:P.follows .mixedOrders=true){c:eO}{f:FuncId}{A:Bc}{args:List Value}{H:aa}{R:c.α->aa->Prop}(h:LF c P f A args H R):ai c P f args.toArray H R:=
 (zj a hm h).mono λv H' h1=>by
  obtain⟨x,b,d⟩:=gF h1;exact⟨x,c.ok _ _ b,d⟩
end
end Go.Proofs.YtmkbhnholcaghaaGreatDoor
