/-
 Ground, sixth text: code, loops, whole functions.
-/
import Derived.Test.YtkehfflpbpdokaaGreatDoorFxe
open Bool renaming and_eq_true->Qz,not_eq_true'->RR,or_eq_false_iff->Tf
open Go.Code renaming wpIn_mono->Rw
open Go.Deferred renaming ofValue->TI
open Go.Exit renaming inBlock->YN
open Go.Fence renaming wide->VA
open Go.Frame renaming atR->Zg
open Go.Instr renaming sureAddr->SF,getLoop->VD,yield->XP,enterLoop->Yq,endRound->Yy,endLoop->YH
open Go.LoopState renaming busy->Yx
open Go.Result renaming andThen_ok->QX
open Go.Sem renaming run_bind->QU,run_pure->Ro,run->Sg
open Go.stepG renaming exec->Zc
open List renaming mem_append->Qj,mem_cons->Qs,mem_filter->QL,foldl_cons->TB,any_append->TV,zip_cons_cons->Wl,mapM_cons->XQ
open Nat renaming le_refl->Qm,eq_of_beq_eq_true->QH,beq->QQ,blt->R3,beq_refl->Zh
open Option.some renaming inj->Qq
namespace Go.Proofs.YtkehfflpbpdokaaGreatDoor
def aF (α:Type)(x0:α)(H:aa)(body:(α->aa->Prop)->α->aa->Prop):Prop:=
 ∃(γ:Type) (I:γ->α->aa->Prop) (m:γ->Nat),(∃g,I g x0 H)/\∀g x H',I g x H'->body (λx' a=>∃g',I g' x' a/\m g'<m g) x H'
def cut (α:Type)(A:(α->aa->Prop)->Prop)(B:α->aa->Prop):Prop:=∃J:α->aa->Prop,A J/\∀x H,J x H->B x H
abbrev CL:=List (Nat×List (Nat×gz))
def zY:CL->Nat->Option (List (Nat×gz))
 |[],_=>none
 |p::r,k=>bif QQ p.1 k then some p.2 else zY r k
def lead:Code->Option Nat
 |.region id _ _=>some id
 |.seq a b=>(match lead a with|some k=>some k|none=>lead b)
 |.cond _ x y=>(match lead x with|some k=>some k|none=>lead y)
 |.block _ c=>lead c
 |.loop c=>lead c
 |.scope c=>lead c
 |_=>none
def writes:Code->List Nat
 |.region _ ops _=>Ck ops.toList
 |.seq a b=>writes a++writes b
 |.cond _ x y=>writes x++writes y
 |.block _ c=>writes c
 |.loop c=>writes c
 |.scope c=>writes c
 |_=>[]
def vr (W:List Nat)(t:Nat):Bool:=W.any (QQ t)
def lX (W:List Nat)(e:bV):Bool:=!(vr W e.s)&&(match e.g with|some p=>!(vr W p.1)|none=>true)
def rX (sl:List (Nat×gz)):List gz:=sl.map (·.2)
def gH:List Nat->List Value->List bV
 |s::r,v::vs=>⟨s,v,none⟩::gH r vs
 |_,_=>[]
def CP (E:List bV):List Nat->Option (List Value)
 |[]=>some []
 |s::r=>(match find E s with
   |some ⟨_,v,none⟩=>(match CP E r with|some vs=>some (v::vs)|none=>none)
   |_=>none)
def tG (E:List bV)(sl:List (Nat×gz)):Option (dD.α (rX sl)):=match CP E (sl.map (·.1)) with|some vs=>dD.dec (rX sl) vs|none=>none
def jz {α:Type}(o:Option α)(K:α->Prop):Prop:=match o with|some x=>K x|none=>False
def Nx (A:CL)(b:Code):Option (List (Nat×gz)):=match lead b with|some k=>zY A (100000+k)|none=>none
def vi (P:Program)(N:Nat)(A:CL):Code->List bV->aa->(List bV->aa->Prop)->(Nat->List bV->aa->Prop)->(List bV->aa->Prop)->Prop
 |.skip,E,H,d,_,_=>d E H
 |.label _,E,H,d,_,_=>d E H
 |.region id ops draw,E,H,d,_,_=>(match (bif draw then zY A (300000+id) else none) with
   |some (_::_::x::ex)=>Na (ex.map (·.1)) P N ops E H d
   |some (f::c::_)=>Nl f.1 c.1 P N ops E H d
   |_=>OV P N ops draw E H d)
 |.seq a b,E,H,d,e,g=>
   (match Nx A b with
   |none=>vi P N A a E H (λE' H'=>vi P N A b E' H' d e g) e g
   |some sl=>cut (dD.α (rX sl)) (λJ=>vi P N A a E H (λE' H'=>jz (tG E' sl) λx=>J x H') e g)
     λx H'=>vi P N A b (gH (sl.map (·.1)) (dD.enc (rX sl) x)++E.filter (lX (writes a))) H' d e g)
 |.cond c x y,E,H,d,e,g=>
   (match Eb E [] c with
   |some (.bool b)=>br b (vi P N A x E H d e g) (vi P N A y E H d e g)
   |_=>False)
 |.block id c,E,H,d,e,g=>vi P N A c E H d (λi E' H'=>bif QQ i id then d E' H' else e i E' H') g
 |.loop c,E,H,_,e,g=>
   (match (match lead c with|some k=>zY A k|none=>none) with
   |none=>False
   |some sl=>jz (tG E sl) λx0=>aF (dD.α (rX sl)) x0 H λnext x H'=>
     vi P N A c (gH (sl.map (·.1)) (dD.enc (rX sl) x)++E.filter (lX (writes c))) H' (λE' h=>jz (tG E' sl) λx'=>next x' h) e g)
 |.scope c,E,H,d,e,g=>vi P N A c E H d e g
 |.exit id,E,H,_,e,_=>e id E H
 |.ret,E,H,_,_,g=>g E H
 |_,_,_,_,_,_=>False
def wk (P:Program):List ResultVar->List bV->aa->(List Value->Prop)->Prop
 |[],_,_,K=>K []
 |.tmp t::r,E,H,K=>(match Eb E [] (.tmp t) with|some v=>wk P r E H (λvs=>K (v::vs))|none=>False)
 |.cell a t::r,E,H,K=>(bif sU E [] (.load t (.tmp a)) then sy P (.load t (.tmp a)) t (IL E []) none H (λv=>wk P r E H (λvs=>K (v::vs))) else False)
def oneOf:List Value->Value
 |[v]=>v
 |vs=>.tuple ⟨vs⟩
def K8 (P:Program)(res:Array ResultVar)(E:List bV)(H:aa)(R:Value->aa->Prop):Prop:=wk P res.toList E H λvs=>R (oneOf vs) H
def Ed:Nat->List Value->List bV
 |_,[]=>[]
 |k,v::r=>⟨k,v,none⟩::Ed (k+1) r
def di:Code->Bool
 |.rangeFunc ..=>true
 |.seq a b=>di a||di b
 |.cond _ x y=>di x||di y
 |.block _ c=>di c
 |_=>false
abbrev Rec:=LoopState->Option Code->Loop
def oz (l:Nat)(rec:Rec)(H:aa)(fin:aa->Prop)(b:Nat->aa->Prop)(a:aa->Prop):Prop:=
 ∃s p,H[l]?=some (.loop (rec s p))/\(s==Yx)=false/\
   (match p with
   |none=>fin (H.setIfInBounds l (.loop (rec .exhausted none)))
   |some c=>(match c with
     |.exit id=>b id (H.setIfInBounds l (.loop (rec .exhausted (some (.exit id)))))
     |.ret=>a (H.setIfInBounds l (.loop (rec .exhausted (some .ret))))
     |_=>False))
def pZ (P:Program)(c:Value)(H:aa)(body:Nat->Rec->List Value->aa->(Bool->aa->Prop)->Prop)(fin:Nat->aa->Prop)(b:Nat->Nat->aa->Prop)(a:Nat->aa->Prop):Prop:=
 ∃g cap,c=.func (.func g) #[] cap/\cI P g=true/\∀rec:Rec,
   (∀vs H' K,H'[H.size+1]?=some (.loop (rec .ready none))->body (H.size+1) rec vs H' K->cM P (H.size+1) vs.toArray H' K)->
   Spec P g (#[.func (.yield (H.size+1)) #[] #[]]++cap) ((H.push (.deferred (some []))).push (.loop (rec .ready none)))
    λ_ d=>oz (H.size+1) rec d (fin H.size) (λid=>b id H.size) (a H.size)
def oe:List Nat->Bool
 |[]=>true
 |x::r=>!(vr r x)&&oe r
def ND:List Nat->List Nat->Bool
 |[],[]=>true
 |x::r,y::t=>QQ x y&&ND r t
 |_,_=>false
def xZ (P:Program)(N:Nat)(A:CL)(E:List bV)(sl:List (Nat×gz))(assign body:Code)(l:Nat)(rec:Rec)(vs:List Value)(H:aa)(K:Bool->aa->Prop):Prop:=
 jz (dD.dec (rX sl) vs) λx=>
  vi P N A assign (gH (sl.map (·.1)) (dD.enc (rX sl) x)++E.filter (lX (sl.map (·.1)))) H
   (λb H1=>H1[l]?=some (.loop (rec .ready none))/\vi P N A body b (H1.setIfInBounds l (.loop (rec .busy none)))
    (λ_ a=>a[l]?=some (.loop (rec .busy none))/\K true (a.setIfInBounds l (.loop (rec .ready none))))
    (λid _ a=>a[l]?=some (.loop (rec .busy none))/\K false (a.setIfInBounds l (.loop (rec .done (some (.exit id))))))
    (λ_ a=>a[l]?=some (.loop (rec .busy none))/\K false (a.setIfInBounds l (.loop (rec .done (some .ret))))))
   (λ_ _ _=>False) (λ_ _=>False)
def GI (P:Program)(N:Nat)(A:CL):Code->List Nat->List bV->aa->(List Nat->List bV->aa->Prop)->(Nat->List Nat->List bV->aa->Prop)->(List Nat->List bV->aa->Prop)->Prop
 |.seq a b,D,E,H,d,e,g=>
   bif di a||di b then GI P N A a D E H (λh E' H'=>GI P N A b h E' H' d e g) e g
   else vi P N A (.seq a b) E H (d D) (λi=>e i D) (g D)
 |.cond c x y,D,E,H,d,e,g=>
   bif di x||di y then
    (match Eb E [] c with
    |some (.bool b)=>br b (GI P N A x D E H d e g) (GI P N A y D E H d e g)
    |_=>False)
   else vi P N A (.cond c x y) E H (d D) (λi=>e i D) (g D)
 |.block id c,D,E,H,d,e,g=>
   bif di c then GI P N A c D E H d (λi h E' H'=>bif QQ i id then d h E' H' else e i h E' H') g
   else vi P N A (.block id c) E H (d D) (λi=>e i D) (g D)
 |.rangeFunc f ps assign body,D,E,H,d,e,g=>
   (match Eb E [] f,zY A (200000+(lead body).getD 0) with
   |some j,some sl=>bif ND ps.toList (sl.map (·.1))&&(oe ps.toList&&ps.toList.all (λp=>R3 p N)) then
     pZ P j H (xZ P N A E sl assign body) (λr H'=>d (r::D) E H') (λid r H'=>e id (r::D) E H') (λr H'=>g (r::D) E H') else False
   |_,_=>False)
 |c,D,E,H,d,e,g=>vi P N A c E H (d D) (λi=>e i D) (g D)
def BQ:List Nat->aa->(aa->Prop)->Prop
 |[],H,K=>K H
 |r::D,H,K=>H[r]?=some (.deferred (some []))/\BQ D (H.setIfInBounds r (.deferred none)) K
def AS (P:Program)(res:Array ResultVar)(D:List Nat)(E:List bV)(H:aa)(R:Value->aa->Prop):Prop:=BQ D H λH'=>K8 P res E H' R
def OK (P:Program)(f:FuncId)(A:CL)(args:List Value)(H:aa)(R:Value->aa->Prop):Prop:=
 match P.funcs[f]? with
 |some fn=>(match fn.body with
   |some c=>(bif Nat.ble args.length fn.ntmps then GI P fn.ntmps A c [] (Ed 0 args) H (λD E H'=>AS P fn.results D E H' R) (λ_ _ _ _=>False) (λD E H'=>AS P fn.results D E H' R) else False)
   |none=>False)
 |none=>False
def N2 (c:gz)(P:Program)(f:FuncId)(A:CL)(args:List Value)(H:aa)(R:c.α->aa->Prop):Prop:=
 OK P f A args H λv H'=>jz (c.dec v) λx=>R x H'
theorem iH {α:Type}{o:Option α}{K:α->Prop}(h:jz o K):∃x,o=some x/\K x:=by
 cases o with
 |none=>exact h.elim
 |some x=>exact⟨x,rfl,h⟩
section
variable {P:Program}{N:Nat}{D:List Deferred}{rn:Option Nat}
theorem eJ (W:List Nat)(t:Nat):vr W t=W.contains t:=by
 unfold vr;rw[List.contains_eq_any_beq];congr 1;funext x;cases h:QQ t x with
 |true=>have:=QH h;subst this;simp
 |false=>
   have:t≠x:=λe=>by subst e;simp at h
   simpa using this
theorem Holds.aE {E:List bV}{a f:Act}{W:List Nat}(hH:Holds N D E a)(hs:f.tmps.size=N)(hd:f.defers=D)(i:iN W a f):Holds N D (E.filter (lX W)) f:=by
 refine⟨hs,hd,λe he=>?_⟩;obtain⟨h1,d⟩:=QL.1 he;have c:=hH.all e h1;unfold lX at d;simp only[Qz,RR,eJ] at d;have g:=i e.s d.1;unfold gi at c ⊢;cases j:e.g with
 |none=>rw[j] at c;exact g.trans c
 |some p=>
   rw[j] at c d;obtain⟨s,b⟩:=p;have e2:=i s (by have:=d.2;simpa using this);refine⟨λh=>g.trans (c.1 (e2.symm.trans h)),λh=>g.trans (c.2 λq=>h (e2.trans q))⟩
theorem Holds.append {E E':List bV}{a:Act}(h:Holds N D E a)(k:Holds N D E' a):Holds N D (E++E') a:=
 ⟨h.size,h.defers,λe he=>(Qj.1 he).elim (h.all e) (k.all e)⟩
theorem uy {E:List bV}{a:Act}(hH:Holds N D E a):∀{l:List Nat} {vs:List Value},CP E l=some vs->Holds N D (gH l vs) a
 |[],vs,h=>⟨hH.size,hH.defers,by cases vs<;>simp[gH]⟩
 |s::r,vs,h=>by
   unfold CP at h;split at h
   ·rename_i g v d;split at h
    ·rename_i b hr;have e:v::b=vs:=Qq h;subst e;have f:=uy hH hr;obtain⟨h1,c⟩:=gK d;refine⟨hH.size,hH.defers,λe he=>?_⟩;simp only[gH] at he;rcases Qs.1 he with he|he
     ·subst he;have:=hH.all _ h1;simp only at c;subst c;exact this
     ·exact f.all e he
    ·cases h
   ·cases h
theorem ng {E:List bV}{a:Act}{sl:List (Nat×gz)}{x:dD.α (rX sl)}(hH:Holds N D E a)(h:tG E sl=some x):Holds N D (gH (sl.map (·.1)) (dD.enc (rX sl) x)) a:=by
 unfold tG at h;split at h
 ·rename_i vs b;have:=dD.ok _ _ _ h;rw[<-this];exact uy hH b
 ·cases h
theorem exists_least {p:Nat->Prop}:∀n,p n->∃k,p k/\∀j,p j->k<=j:=by
 intro n
 induction n using Nat.strongRecOn with
 |_ n a=>
   intro b;by_cases h:∃j,j<n/\p j
   ·obtain⟨j,h1,c⟩:=h;exact a j h1 c
   ·exact⟨n,b,λj d=>by
     rcases Nat.lt_or_ge j n with h1|h1
     ·exact absurd ⟨j,h1,d⟩ h
     ·exact h1⟩
open Classical in
noncomputable def least (p:Nat->Prop):Nat:=if h:∃k,p k/\∀j,p j->k<=j then h.choose else 0
theorem tE {p:Nat->Prop}{n:Nat}(h:p n):p (least p)/\∀j,p j->least p<=j:=by
 have h1:=exists_least n h;unfold least;rw[dif_pos h1];exact h1.choose_spec
def rv (a:List bV->aa->Prop)(b:Nat->List bV->aa->Prop)(c:List bV->aa->Prop):Exit->List bV->aa->Prop
 |.normal,E,H=>a E H
 |.exit id,E,H=>b id E H
 |.ret,E,H=>c E H
 |_,_,_=>False
def post (N:Nat)(D:List Deferred)(W:List Nat)(a:Act)(w:World)(c:List bV->aa->Prop)(d:Nat->List bV->aa->Prop)(f:List bV->aa->Prop)(e:Exit)(b:Act)(w':World):Prop:=
 ∃E',Holds N D E' b/\iN W a b/\Alike w w'/\rv c d f e E' w'.heap
theorem A8 {F:Fence}{n:Nat}{Q:Exit->Act->World->Prop}{a:Act}{w:World}{c:Code}(h:c.wpIn F n P (λe a w=>match e with|.goto _=>False|e=>Q e a w) a w):(Code.scope c).wpIn F n P Q a w:=by
 intro b k cs j m hr;have g:(lone (b.atR a (.code (.scope c)::k)) cs w).fenced P F:=fenced_calm m hr rfl;have s1:step P (lone (b.atR a (.code (.scope c)::k)) cs w)=.next (lone (b.atR a (.code c::.inScope c::k)) cs w):=step_lone_go (by simp[stepG,Zc,Zg])
 have s2:∀a w,step P (lone (b.atR a (.inScope c::k)) cs w)=.next (lone (b.atR a k) cs w):=λa w=>step_lone_go (by simp[stepG,Zc,Zg])
 obtain⟨e,a₁,w₁,i,d⟩:=h b (.inScope c::k) cs j m hr;cases e with
 |normal=>exact⟨.normal,a₁,w₁,i,.head g s1 (StepsIn.trans d (.one (fenced_calm m hr rfl) (s2 _ _)))⟩
 |exit f=>
   have p:exitTo f (.inScope c::k)=exitTo f k:=by simp[exitTo]
   exact⟨.exit f,a₁,w₁,i,λq hk=>.head g s1 (d.1 q (by rw[p];exact hk)),
    λo hk=>let ⟨k₁,h1,r⟩:=d.2 o (by rw[p];exact hk);⟨k₁,h1,.head g s1 r⟩⟩
 |goto l=>exact i.elim
 |ret=>exact⟨_,a₁,w₁,i,.of_steps (.one g s1) d⟩
 |panic ch=>exact⟨_,a₁,w₁,i,.of_steps (.one g s1) d⟩
 |outgrown=>exact⟨_,a₁,w₁,i,.of_steps (.one g s1) d⟩
theorem dq (l:mL P)(hm:P.follows .mixedOrders=true)(A:CL):∀(c:Code) (E:List bV) (a:Act) (w:World) (q:List bV->aa->Prop) (r:Nat->List bV->aa->Prop) (s:List bV->aa->Prop),
  Holds N D E a->vi P N A c E w.heap q r s->c.wpIn (FW rn) 0 P (post N D (writes c) a w q r s) a w
 |.skip,E,a,w,q,r,s,hH,h=>wpIn_skip ⟨E,hH,.refl _ _,.refl _,h⟩
 |.label _,E,a,w,q,r,s,hH,h=>wpIn_label ⟨E,hH,.refl _ _,.refl _,h⟩
 |.exit id,E,a,w,q,r,s,hH,h=>wpIn_exit ⟨E,hH,.refl _ _,.refl _,h⟩
 |.ret,E,a,w,q,r,s,hH,h=>wpIn_ret ⟨E,hH,.refl _ _,.refl _,h⟩
 |.region id ops draw,E,a,w,q,r,s,hH,h=>by
   simp only[vi] at h;split at h
   ·rename_i _ _ _ ex Q;cases draw with
    |false=>cases Q
    |true=>exact Cj l hm hH (λE' o w' h1 j k d=>⟨E',h1,j,k,d⟩) h
   ·rename_i f c _ _ Q;cases draw with
    |false=>cases Q
    |true=>exact BZ l hm hH (λE' o w' h1 j k d=>⟨E',h1,j,k,d⟩) h
   ·exact Du l hm hH (λE' o w' h1 j k d=>⟨E',h1,j,k,d⟩) h
 |.cond c x y,E,a,w,q,r,s,hH,h=>by
   simp only[vi] at h;split at h
   ·rename_i b R;have ec:=iA hH (by simp) R;refine wpIn_cond ec ?_;cases b with
    |true=>
      exact Rw (λe o w' ⟨E',h1,j,k,d⟩=>⟨E',h1,j.mono (λt u=>by
       simp only[writes,<-eJ,vr,TV,Tf] at u ⊢;exact u.1),k,d⟩) (dq l hm A x E a w q r s hH h)
    |false=>
      exact Rw (λe o w' ⟨E',h1,j,k,d⟩=>⟨E',h1,j.mono (λt u=>by
       simp only[writes,<-eJ,vr,TV,Tf] at u ⊢;exact u.2),k,d⟩) (dq l hm A y E a w q r s hH h)
   ·exact h.elim
 |.block id c,E,a,w,q,r,s,hH,h=>by
   refine wpIn_block (Rw (λe o w' z=>?_) (dq l hm A c E a w _ _ _ hH h));obtain⟨E',h1,j,k,d⟩:=z;cases e<;>simp only[rv] at d<;>try exact d.elim
   case normal=>exact⟨E',h1,j,k,d⟩
   case exit i=>
    simp only[YN];by_cases hi:i=id
    ·subst hi;rw[if_pos rfl];have S:QQ i i=true:=Zh i;rw[S] at d;exact⟨E',h1,j,k,d⟩
    ·rw[if_neg hi];have S:QQ i id=false:=by
      cases R:QQ i id with
      |false=>rfl
      |true=>exact absurd (QH R) hi
     rw[S] at d;exact⟨E',h1,j,k,d⟩
   case ret=>exact⟨E',h1,j,k,d⟩
 |.seq x y,E,a,w,q,r,s,hH,h=>by
   have G:∀t,(writes (.seq x y)).contains t=false->(writes x).contains t=false:=λt u=>by
    simp only[writes,<-eJ,vr,TV,Tf] at u ⊢;exact u.1
   have wy:∀t,(writes (.seq x y)).contains t=false->(writes y).contains t=false:=λt u=>by
    simp only[writes,<-eJ,vr,TV,Tf] at u ⊢;exact u.2
   simp only[vi] at h;split at h
   ·refine wpIn_seq (Rw (λe o w' z=>?_) (dq l hm A x E a w _ _ _ hH h));obtain⟨E',h1,j,k,d⟩:=z;cases e<;>simp only[rv] at d<;>try exact d.elim
    case normal=>
     exact Rw (λe T U ⟨C,H,K,L,M⟩=>⟨C,H,(j.mono G).trans (K.mono wy),k.trans L,M⟩) (dq l hm A y E' o w' q r s h1 d)
    case exit i=>exact⟨E',h1,j.mono G,k,d⟩
    case ret=>exact⟨E',h1,j.mono G,k,d⟩
   ·rename_i sl V;obtain⟨J,hA,hB⟩:=h;refine wpIn_seq (Rw (λe o w' z=>?_) (dq l hm A x E a w _ _ _ hH hA));obtain⟨E',h1,j,k,d⟩:=z;cases e<;>simp only[rv] at d<;>try exact d.elim
    case normal=>
     obtain⟨v,hv,hJ⟩:=iH d;have W:=(ng h1 hv).append (hH.aE h1.size h1.defers j);exact Rw (λe T U ⟨C,H,K,L,M⟩=>⟨C,H,(j.mono G).trans (K.mono wy),k.trans L,M⟩) (dq l hm A y _ o w' q r s W (hB _ _ hJ))
    case exit i=>exact⟨E',h1,j.mono G,k,d⟩
    case ret=>exact⟨E',h1,j.mono G,k,d⟩
 |.loop c,E,a,w,q,r,s,hH,h=>by
   simp only[vi] at h;split at h
   ·exact h.elim
   ·rename_i sl V;obtain⟨x0,X,γ,I,m,⟨g0,Y⟩,B⟩:=iH h
    let Inv:γ->Act->World->Prop:=λg o w'=>∃x,Holds N D (gH (sl.map (·.1)) (dD.enc (rX sl) x)++E.filter (lX (writes c))) o/\iN (writes c) a o/\Alike w w'/\I g x w'.heap
    let p:Act->World->Nat->Prop:=λo w' n=>∃g,m g=n/\Inv g o w'
    refine wpIn_loop (λo w'=>∃g,Inv g o w') (λo w'=>least (p o w')) ?_ ?_
    ·exact⟨g0,x0,(ng hH X).append (hH.aE hH.size hH.defers (.refl _ _)),.refl _ _,.refl _,Y⟩
    ·intro a1 w1 ⟨g,hg⟩;obtain⟨⟨g1,a6,x1,H,K,L,M⟩,af⟩:=tE (p:=p a1 w1) (n:=m g) ⟨g,rfl,hg⟩;refine Rw (λe o w' z=>?_) (dq l hm A c _ a1 w1 _ _ _ H (B g1 x1 _ M));obtain⟨E',h1,j,k,d⟩:=z;have O:iN (writes c) a o:=K.trans j;have F:Alike w w':=L.trans k;cases e<;>simp only[rv] at d<;>try exact d.elim
     case normal=>
      obtain⟨x',Z,g',ae,a7⟩:=iH d;have hinv:Inv g' o w':=⟨x',(ng h1 Z).append (hH.aE h1.size h1.defers O),O,F,ae⟩;refine⟨⟨g',hinv⟩,?_⟩;have:=(tE (p:=p o w') (n:=m g') ⟨g',rfl,hinv⟩).2 (m g') ⟨g',rfl,hinv⟩;omega
     case exit i=>exact⟨E',h1,O,F,d⟩
     case ret=>exact⟨E',h1,O,F,d⟩
 |.rangeFunc _ _ _ _,_,_,_,_,_,_,_,h=>h.elim
 |.scope c,E,a,w,q,r,s,hH,h=>by
   refine A8 (Rw (λe o w' z=>?_) (dq l hm A c E a w q r s hH h));obtain⟨E',h1,j,k,d⟩:=z;cases e<;>simp only[rv] at d<;>try exact d.elim
   all_goals exact⟨E',h1,j,k,d⟩
 |.goto _,_,_,_,_,_,_,_,h=>h.elim
 |.refuse _,_,_,_,_,_,_,_,h=>h.elim
theorem mK {E:List bV}{a:Act}{w:World}(hH:Holds N D E a):∀{l:List ResultVar} {K:List Value->Prop},wk P l E w.heap K->
  ∃vs,(l.mapM λr=>(match r with
    |.tmp t=>pure (a.tmps.getD t undef)
    |.cell ad t=>do loadVar t (<-asAddr (a.tmps.getD ad undef)):Sem Value)).run P w=.ok vs w/\K vs
 |[],K,h=>⟨[],rfl,h⟩
 |.tmp t::r,K,h=>by
   simp only[wk] at h;split at h
   ·rename_i v g;obtain⟨vs,h1,d⟩:=mK hH h;have e:a.tmps.getD t undef=v:=iA (x:=.tmp t) hH (by simp) g;refine⟨v::vs,?_,d⟩;rw[XQ];simp only[QU,Ro,QX,e];rw[h1];rfl
   ·exact h.elim
 |.cell ad t::r,K,h=>by
   simp only[wk] at h;cases f:sU E [] (.load t (.tmp ad)) with
   |false=>rw[f] at h;exact h.elim
   |true=>
     rw[f] at h;simp only[cond_true] at h;obtain⟨v,h1,d⟩:=j4 (o:=⟨none,.load t (.tmp ad),t,"",#[],none⟩) h;obtain⟨vs,i,j⟩:=mK hH d;have c:=h1 w rfl;rw[<-qC (o:=⟨none,.load t (.tmp ad),t,"",#[],none⟩) hH (by simp) f (by intro cs b e;cases e)] at c;simp only[execOp,Instr.loadAt,QU] at c;refine⟨v::vs,?_,j⟩;rw[XQ];have e2:(do loadVar t (<-asAddr (a.tmps.getD ad undef)):Sem Value).run P w=.ok v w:=by
      have k:a.eval (.tmp ad)=a.tmps.getD ad undef:=rfl;rw[k] at c;generalize a.tmps.getD ad undef=q at*;cases q with
      |pointer p=>
        cases p with
        |none=>simp[SF] at c
        |some ad=>
          simp only[SF,Ro,QX] at c;simp only[asAddr,QU,Ro,QX];cases hr:(loadVar t ad).run P w with
          |ok u m=>rw[hr] at c;simp at c;rw[c.1,c.2]
          |halt x m=>rw[hr] at c;simp at c
      |_=>simp[SF] at c
     simp only[QU] at e2 ⊢;rw[e2];simp only[QX,i,Ro]
theorem zh {fn:Func}{E:List bV}{a:Act}{w:World}{R:Value->aa->Prop}(hH:Holds N D E a)(h:K8 P fn.results E w.heap R):
  ∃v,(results fn a.tmps).run P w=.ok v w/\R v w.heap:=by
 obtain⟨vs,h1,b⟩:=mK hH h;refine⟨oneOf vs,?_,b⟩;unfold results;rw[QU,Array.mapM_eq_mapM_toList,Sem.run_map];have e:∀{g:ResultVar->Sem Value},(fn.results.toList.mapM g).run P w=.ok vs w->
   ((((fn.results.toList.mapM g).run P w).andThen λa w'=>Result.ok a.toArray w').andThen λvs w'=>(pure (if h:vs.size=1 then vs[0] else .tuple vs):Sem Value).run P w')=.ok (oneOf vs) w:=by
  intro g c;rw[c];simp only[QX,Ro];congr 1;cases vs with
  |nil=>rfl
  |cons v r=>
    cases r with
    |nil=>rfl
    |cons v2 r=>simp[oneOf]
 exact e h1
def pJ (r:Nat):Deferred:={target:=.collected r,args:=#[]}
theorem wJ {fn:Func}{tmps:Array Value}{R:Ending->World->Prop}{w0:World}{K:aa->Prop}(b:∀w,Alike w0 w->K w.heap->LeavesIn VA 0 P fn tmps R [] .returning w):
  ∀(D:List Nat) (w:World),Alike w0 w->BQ D w.heap K->LeavesInM VA 0 P fn tmps R (D.map pJ) .returning w
 |[],w,a,h=>b w a h
 |r::D,w,a,h=>by
   obtain⟨h1,c⟩:=h;refine⟨by simp,.inl ⟨r,{w with heap:=w.heap.setIfInBounds r (.deferred none)},rfl,?_,wJ b D _ (a.trans (.of_le rfl (Qm _))) c⟩⟩;simp[Instr.takeDeferred,getObj,setObj,Sg,h1]
theorem uO {W:List Nat}{t:Nat}:vr W t=true↔t∈W:=by
 rw[eJ];simp
theorem wP:∀(ps:List Nat) (vs:List Value) (a:Array Value),((ps.zip vs).foldl (λt (p,v)=>t.setIfInBounds p v) a).size=a.size
 |[],_,_=>rfl
 |_::_,[],_=>rfl
 |p::ps,v::vs,a=>by simp only[Wl,TB];rw[wP ps vs];simp
theorem kS:∀(ps:List Nat) (vs:List Value) (a:Array Value) (t:Nat),t∉ps->((ps.zip vs).foldl (λt (p,v)=>t.setIfInBounds p v) a)[t]?=a[t]?
 |[],_,_,_,_=>rfl
 |_::_,[],_,_,_=>rfl
 |p::ps,v::vs,a,t,h=>by
   simp only[Qs,not_or] at h;simp only[Wl,TB];rw[kS ps vs _ t h.2,Array.getElem?_setIfInBounds_ne (Ne.symm h.1)]
theorem uz:∀(ps:List Nat) (vs:List Value) (b:Array Value),oe ps=true->(∀p∈ps,p<b.size)->∀e∈gH ps vs,e.g=none/\((ps.zip vs).foldl (λt (p,v)=>t.setIfInBounds p v) b)[e.s]?=some e.v
 |[],vs,_,_,_,e,he=>by cases vs<;>simp[gH] at he
 |_::_,[],_,_,_,e,he=>by simp[gH] at he
 |p::ps,v::vs,b,a,d,e,he=>by
   simp only[oe,Qz,RR] at a;simp only[gH] at he;simp only[Wl,TB];rcases Qs.1 he with he|he
   ·subst he;refine⟨rfl,?_⟩;have c:p∉ps:=λh=>by rw[uO.2 h] at a;cases a.1
    rw[kS ps vs _ p c];simp[d p List.mem_cons_self]
   ·exact uz ps vs _ a.2 (λq f=>by simpa using d q (List.mem_cons_of_mem _ f)) e he
theorem y7 {E:List bV}{a:Act}(hH:Holds N D E a){ps:List Nat}{vs:List Value}(k:oe ps=true)(l:∀p∈ps,p<N):
  Holds N [] (gH ps vs++E.filter (lX ps)) {tmps:=(ps.zip vs).foldl (λt (p,v)=>t.setIfInBounds p v) a.tmps,defers:=[]}:=by
 refine⟨(wP _ _ _).trans hH.size,rfl,λe he=>?_⟩;rcases Qj.1 he with he|he
 ·obtain⟨h1,d⟩:=uz ps vs a.tmps k (λp f=>by rw[hH.size];exact l p f) e he;unfold gi;rw[h1];exact d
 ·obtain⟨h1,d⟩:=QL.1 he;have c:=hH.all e h1;unfold lX at d;simp only[Qz,RR] at d;have g:((ps.zip vs).foldl (λt (p,v)=>t.setIfInBounds p v) a.tmps)[e.s]?=a.tmps[e.s]?:=kS _ _ _ _ (λh=>by rw[uO.2 h] at d;cases d.1);unfold gi at c ⊢;cases j:e.g with
  |none=>rw[j] at c;exact g.trans c
  |some p=>
    rw[j] at c d;obtain⟨s,b⟩:=p;have e2:((ps.zip vs).foldl (λt (p,v)=>t.setIfInBounds p v) a.tmps)[s]?=a.tmps[s]?:=kS _ _ _ _ (λh=>by
     have i:=d.2;simp only[RR] at i;rw[uO.2 h] at i;cases i)
    exact⟨λh=>g.trans (c.1 (e2.symm.trans h)),λh=>g.trans (c.2 λq=>h (e2.trans q))⟩
theorem Ie:∀{a b:List Nat},ND a b=true->a=b
 |[],[],_=>rfl
 |x::r,y::t,h=>by
   simp only[ND,Qz] at h;rw[QH h.1,Ie h.2]
def ye (a:List Nat->List bV->aa->Prop)(b:Nat->List Nat->List bV->aa->Prop)(c:List Nat->List bV->aa->Prop):Exit->List Nat->List bV->aa->Prop
 |.normal,D,E,H=>a D E H
 |.exit id,D,E,H=>b id D E H
 |.ret,D,E,H=>c D E H
 |_,_,_,_=>False
def vQ (N:Nat)(w:World)(b:List Nat->List bV->aa->Prop)(c:Nat->List Nat->List bV->aa->Prop)(d:List Nat->List bV->aa->Prop)(e:Exit)(f:Act)(w':World):Prop:=
 ∃a E',Holds N (a.map pJ) E' f/\Alike w w'/\ye b c d e a E' w'.heap
theorem dr (b:mL P)(hm:P.follows .mixedOrders=true){A:CL}{c:Code}{D:List Nat}{E:List bV}{a:Act}{w:World}{d:List Nat->List bV->aa->Prop}{f:Nat->List Nat->List bV->aa->Prop}{g:List Nat->List bV->aa->Prop}
  (hH:Holds N (D.map pJ) E a) (h:vi P N A c E w.heap (d D) (λi=>f i D) (g D)):c.wpIn (FW none) 0 P (vQ N w d f g) a w:=
 Rw (λe l w' ⟨E',h1,_,k,j⟩=>⟨D,E',h1,k,by cases e<;>first|exact j|exact j.elim⟩) (dq b hm A c E a w _ _ _ hH h)
theorem vj (B:mL P)(hm:P.follows .mixedOrders=true){A:CL}{f:Operand}{ps:Array Tmp}{assign body:Code}{D:List Nat}{E:List bV}{a:Act}{w:World}{fv:Value}{sl:List (Nat×gz)}
  {Kn:List Nat->List bV->aa->Prop} {Kx:Nat->List Nat->List bV->aa->Prop} {Kr:List Nat->List bV->aa->Prop}
  (hH:Holds N (D.map pJ) E a) (hf:Eb E [] f=some fv) (C:ps.toList=sl.map (·.1)) (Y:oe ps.toList=true) (Z:∀p∈ps.toList,p<N)
  (h:pZ P fv w.heap (xZ P N A E sl assign body) (λr H'=>Kn (r::D) E H') (λid r H'=>Kx id (r::D) E H') (λr H'=>Kr (r::D) E H')):
  (Code.rangeFunc f ps assign body).wpIn (FW none) 0 P (vQ N w Kn Kx Kr) a w:=by
 obtain⟨g,cap,rfl,k,h⟩:=h;have ae:a.eval f=.func (.func g) #[] cap:=iA hH (by simp) hf;refine wpIn_rangeFunc (λfn _=>?_);obtain⟨rec,i⟩:∃rec:Rec,rec=λst pe=>{state:=st,pending:=pe,fn,tmps:=a.tmps,params:=ps,assign,body,defers:=w.heap.size}:=⟨_,rfl⟩;have m:∀s p,(rec s p).state=s:=λs p=>by rw[i]
 have F:∀s p,(rec s p).pending=p:=λs p=>by rw[i]
 have Q:∀s p G p',({rec s p with state:=G,pending:=p'}:Loop)=rec G p':=λs p G p'=>by rw[i]
 have H:∀s p G,({rec s p with state:=G}:Loop)=rec G p:=λs p G=>by rw[i]
 let W1:World:={w with heap:=(w.heap.push (.deferred (some []))).push (.loop (rec .ready none))}
 have a8:(w.heap.push (Obj.deferred (some []))).size=w.heap.size+1:=by simp
 refine⟨w.heap.size+1,[pJ w.heap.size],W1,{target:=.fn (.func g) cap,args:=#[.func (.yield (w.heap.size+1)) #[] #[]]},W1,g,#[.func (.yield (w.heap.size+1)) #[] #[]]++cap,W1,?_,?_,λ_ _=>trivial,?_,(λhh=>by cases hh),?_⟩
 ·show (Yq fn a.tmps ps assign body none).run P w=_;subst i;simp[Yq,newObj,QU,Sg,pJ,W1];rfl
 ·show (TI (a.eval f) (#[Operand.const (.func (.yield (w.heap.size+1)) #[] #[])].map a.eval)).run P W1=_;rw[ae];simp[TI];rfl
 ·unfold cI at k;split at k
  ·rename_i af R;obtain⟨b,hb⟩:=Option.isSome_iff_exists.1 k;have h1:af.name≠"runtime.NumGoroutine":=by simpa using B _ _ R
   simp[invoke,callFunc,R,h1,hb]
  ·cases k
 ·-- the call
  have o:∀vs H' K,H'[w.heap.size+1]?=some (.loop (rec .ready none))->xZ P N A E sl assign body (w.heap.size+1) rec vs H' K->cM P (w.heap.size+1) vs.toArray H' K:=by
   intro vs H' K hl hr W hW;subst hW;obtain⟨x,hx,hr⟩:=iH hr;have I:=dD.ok _ _ _ hx;have hlen:vs.length=ps.size:=by
    have e1:∀(l:List gz) (y:dD.α l),(dD.enc l y).length=l.length:=by
     intro l
     induction l with
     |nil=>intro y;rfl
     |cons c r ih=>
       intro y;cases r with
       |nil=>rfl
       |cons d r=>simp only[dD.enc,List.length_cons];rw[ih];rfl
    rw[I,e1];have:=congrArg List.length C;simp only[Array.length_toList,List.length_map] at this;rw[this];simp[rX]
   have S:(XP (w.heap.size+1) vs.toArray).run P W=.ok (.round (w.heap.size+1) fn ((ps.zip vs.toArray).foldl (λtmps (t,a)=>tmps.setIfInBounds t a) a.tmps) assign body) W:=by
    have e2:(rec .ready none).params=ps/\(rec .ready none).fn=fn/\(rec .ready none).tmps=a.tmps/\(rec .ready none).assign=assign/\(rec .ready none).body=body:=by rw[i];exact⟨rfl,rfl,rfl,rfl,rfl⟩
    simp[XP,VD,getObj,Sg,hl,e2,hlen]
   rw[S];simp only[p9];have J:(ps.zip vs.toArray).foldl (λtmps (t,a)=>tmps.setIfInBounds t a) a.tmps=(ps.toList.zip vs).foldl (λt (p,v)=>t.setIfInBounds p v) a.tmps:=by
    rw[<-Array.foldl_toList];simp
   rw[J];have T:=y7 hH (vs:=vs) Y Z;rw[C,I] at T;rw[C,I];refine roundIn_of_wpIn trivial (Rw (λe a1 w1 hp=>?_) (dq (rn:=some (w.heap.size+1)) B hm A assign _ _ W _ _ _ T hr));obtain⟨E1,k1,k2,k3,k4⟩:=hp;cases e<;>simp only[rv] at k4<;>try exact k4.elim
   obtain⟨k5,k6⟩:=k4
   let V:World:={w1 with heap:=w1.heap.setIfInBounds (w.heap.size+1) (.loop (rec .busy none))}
   refine⟨V,?_,Rw (λe a2 O hp=>?_) (dq (rn:=some (w.heap.size+1)) B hm A body E1 a1 V _ _ _ k1 k6)⟩
   ·simp[Instr.beginRound,VD,getObj,setObj,Sg,k5,H,m,V]
   ·obtain⟨E2,q1,q2,q3,z⟩:=hp;have L:Alike W O:=(k3.trans (.of_le rfl (Qm _)):Alike W V).trans q3;have fin:∀(j:Option Code) (s:LoopState),s=(if j.isNone then .ready else .done)->O.heap[w.heap.size+1]?=some (.loop (rec .busy none))->K j.isNone (O.heap.setIfInBounds (w.heap.size+1) (.loop (rec s j)))->
      ∃v w',(Yy (w.heap.size+1) j).run P O=.ok v w'/\∃u,Ending.returned v=.returned u/\(∃b,u=.bool b/\K b w'.heap/\Alike W w'):=by
     intro j s hs a6 hk;refine⟨.bool j.isNone,{O with heap:=O.heap.setIfInBounds (w.heap.size+1) (.loop (rec s j))},?_,_,rfl,_,rfl,hk,L.trans (.of_le rfl (Qm _))⟩;subst hs;simp[Yy,VD,getObj,setObj,Sg,a6,Q]
    cases e<;>simp only[rv] at z<;>try exact z.elim
    case normal=>exact fin none .ready rfl z.1 z.2
    case exit id=>exact fin (some (.exit id)) .done rfl z.1 z.2
    case ret=>exact fin (some .ret) .done rfl z.1 z.2
  have q:=h rec o W1 rfl;refine callsIn_wide.2 (q.mono λe X ⟨v,he,hk,L⟩=>?_);subst he;obtain⟨s,p,hl,hb,hk⟩:=hk;have M:Holds N ((w.heap.size::D).map pJ) E {a with defers:=[pJ w.heap.size]++a.defers}:=
   ⟨hH.size,by rw[hH.defers];rfl,λe he=>hH.all e he⟩
  have n:Alike w X:=(.of_le rfl (Qm _):Alike w W1).trans L;have U:(YH (w.heap.size+1)).run P X=.ok p {X with heap:=X.heap.setIfInBounds (w.heap.size+1) (.loop (rec .exhausted p))}:=by
   have a7:s≠Yx:=by intro e;subst e;cases hb
   simp[YH,VD,getObj,setObj,Sg,hl,F,m,a7];subst i;rfl
  refine⟨p,_,U,?_⟩;cases p with
  |none=>exact⟨w.heap.size::D,E,M,n.trans (.of_le rfl (Qm _)),hk⟩
  |some c=>
    cases c<;>simp only at hk<;>try exact hk.elim
    case exit id=>exact wpIn_exit ⟨w.heap.size::D,E,M,n.trans (.of_le rfl (Qm _)),hk⟩
    case ret=>exact wpIn_ret ⟨w.heap.size::D,E,M,n.trans (.of_le rfl (Qm _)),hk⟩
theorem vQ.then {w a:World}{b:List Nat->List bV->aa->Prop}{c:Nat->List Nat->List bV->aa->Prop}{d:List Nat->List bV->aa->Prop}(h:Alike w a){e:Exit}{f:Act}{w':World}(g:vQ N a b c d e f w'):vQ N w b c d e f w':=by
 obtain⟨i,E',h1,j,k⟩:=g;exact⟨i,E',h1,h.trans j,k⟩
theorem jl (d:mL P)(hm:P.follows .mixedOrders=true)(A:CL):∀(c:Code) (D:List Nat) (E:List bV) (a:Act) (w:World) (j:List Nat->List bV->aa->Prop) (k:Nat->List Nat->List bV->aa->Prop) (l:List Nat->List bV->aa->Prop),
  Holds N (D.map pJ) E a->GI P N A c D E w.heap j k l->c.wpIn (FW none) 0 P (vQ N w j k l) a w
 |.seq x y,D,E,a,w,j,k,l,hH,h=>by
   simp only[GI] at h;cases g:(di x||di y) with
   |false=>rw[g] at h;exact dr d hm hH h
   |true=>
     rw[g] at h;simp only[cond_true] at h;refine wpIn_seq (Rw (λe s w' q=>?_) (jl d hm A x D E a w _ _ _ hH h));obtain⟨n,E',h1,o,m⟩:=q;cases e<;>simp only[ye] at m<;>try exact m.elim
     case normal=>exact Rw (λe t u q=>q.then o) (jl d hm A y n E' s w' j k l h1 m)
     case exit i=>exact⟨n,E',h1,o,m⟩
     case ret=>exact⟨n,E',h1,o,m⟩
 |.cond c x y,D,E,a,w,j,k,l,hH,h=>by
   simp only[GI] at h;cases g:(di x||di y) with
   |false=>rw[g] at h;exact dr d hm hH h
   |true=>
     rw[g] at h;simp only[cond_true] at h;split at h
     ·rename_i b g;have v:=iA hH (by simp) g;refine wpIn_cond v ?_;cases b with
      |true=>exact jl d hm A x D E a w j k l hH h
      |false=>exact jl d hm A y D E a w j k l hH h
     ·exact h.elim
 |.block id c,D,E,a,w,j,k,l,hH,h=>by
   simp only[GI] at h;cases g:di c with
   |false=>rw[g] at h;exact dr d hm hH h
   |true=>
     rw[g] at h;simp only[cond_true] at h;refine wpIn_block (Rw (λe s w' q=>?_) (jl d hm A c D E a w _ _ _ hH h));obtain⟨n,E',h1,o,m⟩:=q;cases e<;>simp only[ye] at m<;>try exact m.elim
     case normal=>exact⟨n,E',h1,o,m⟩
     case exit i=>
      simp only[YN];by_cases hi:i=id
      ·subst hi;rw[if_pos rfl];have r:QQ i i=true:=Zh i;rw[r] at m;exact⟨n,E',h1,o,m⟩
      ·rw[if_neg hi];have r:QQ i id=false:=by
        cases g:QQ i id with
        |false=>rfl
        |true=>exact absurd (QH g) hi
       rw[r] at m;exact⟨n,E',h1,o,m⟩
     case ret=>exact⟨n,E',h1,o,m⟩
 |.rangeFunc f ps assign body,D,E,a,w,j,k,l,hH,h=>by
   simp only[GI] at h;split at h
   ·rename_i C sl z B;cases g:(ND ps.toList (sl.map (·.1))&&(oe ps.toList&&ps.toList.all (λp=>R3 p N))) with
    |false=>rw[g] at h;exact h.elim
    |true=>
      rw[g] at h;simp only[cond_true] at h;simp only[Qz,List.all_eq_true] at g;exact vj d hm hH z (Ie g.1) g.2.1 (λp q=>Nat.lt_of_succ_le (by simpa[R3] using g.2.2 p q)) h
   ·exact h.elim
 |.skip,D,E,a,w,j,k,l,hH,h=>dr d hm hH h
 |.label _,D,E,a,w,j,k,l,hH,h=>dr d hm hH h
 |.exit id,D,E,a,w,j,k,l,hH,h=>dr d hm hH h
 |.ret,D,E,a,w,j,k,l,hH,h=>dr d hm hH h
 |.region id ops draw,D,E,a,w,j,k,l,hH,h=>dr d hm hH h
 |.loop c,D,E,a,w,j,k,l,hH,h=>dr d hm hH h
 |.scope c,D,E,a,w,j,k,l,hH,h=>dr d hm hH h
 |.goto _,D,E,a,w,j,k,l,hH,h=>dr d hm hH h
 |.refuse _,D,E,a,w,j,k,l,hH,h=>dr d hm hH h
theorem Cr (g:mL P)(hm:P.follows .mixedOrders=true){f:FuncId}{A:CL}{args:List Value}{H:aa}{R:Value->aa->Prop}(h:OK P f A args H R):Spec P f args.toArray H R:=by
 intro w hw;subst hw;unfold OK at h;split at h
 ·rename_i fn p;split at h
  ·rename_i c q;cases i:Nat.ble args.length fn.ntmps with
   |false=>rw[i] at h;exact h.elim
   |true=>
     rw[i] at h;simp only[cond_true] at h;have hle:args.length<=fn.ntmps:=Nat.le_of_ble_eq_true i;refine callsIn_wide.1 (callsIn_of_wp_marks (F:=FW none) p q trivial (Rw (λe n w' s=>?_) (jl (N:=fn.ntmps) g hm A c [] (Ed 0 args) _ w _ _ _ ⟨?_,rfl,?_⟩ h)))
     ·obtain⟨o,E',h1,t,a⟩:=s;have fin:AS P fn.results o E' w'.heap R->LeavesInM (FW none) 0 P fn n.tmps (λe b=>∃v,e=.returned v/\R v b.heap/\Alike w b) n.defers .returning w':=by
       intro u;rw[h1.defers];refine wJ (w0:=w') (λb x hk=>?_) o w' (.refl _) u;obtain⟨v,y,r2⟩:=zh (fn:=fn) (w:=b) h1 hk;exact⟨v,y,v,rfl,r2,t.trans x⟩
      cases e<;>simp only[ye] at a<;>try exact a.elim
      case normal=>exact fin a
      case ret=>exact fin a
     ·simp;omega
     ·have key:∀(l:List Value) (k:Nat),(∀j v,l[j]?=some v->(args++List.replicate (fn.ntmps - args.length) undef)[k+j]?=some v)->
        ∀e∈Ed k l,gi {tmps:=args.toArray++Array.replicate (fn.ntmps - args.toArray.size) undef,defers:=[]} e:=by
       intro l
       induction l with
       |nil=>intro k _ e he;simp[Ed] at he
       |cons v r z=>
         intro k hk e he;simp only[Ed] at he;rcases Qs.1 he with he|he
         ·subst he;have:=hk 0 v rfl;simp only[gi];rw[<-Array.getElem?_toList];simpa using this
         ·exact z (k+1) (λj v d=>by
           have:=hk (j+1) v (by simpa using d)
           rwa [show k+(j+1)=k+1+j by omega] at this) e he
      exact key args 0 (λj v d=>by
       have m:=(List.getElem?_eq_some_iff.1 d).1;rw[Nat.zero_add,List.getElem?_append_left m];exact d)
  ·exact h.elim
 ·exact h.elim
theorem Au (a:mL P)(hm:P.follows .mixedOrders=true){c:gz}{f:FuncId}{A:CL}{args:List Value}{H:aa}{R:c.α->aa->Prop}(h:N2 c P f A args H R):an c P f args.toArray H R:=
 (Cr a hm h).mono λv H' h1=>by
  obtain⟨x,b,hr⟩:=iH h1;exact⟨x,c.ok _ _ b,hr⟩
end
end Go.Proofs.YtkehfflpbpdokaaGreatDoor
