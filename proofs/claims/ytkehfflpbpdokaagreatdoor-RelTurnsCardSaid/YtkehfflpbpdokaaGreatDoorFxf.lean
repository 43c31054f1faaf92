/-
 Ground, sixth text: code, loops, whole functions.
-/
import Derived.Test.YtkehfflpbpdokaaGreatDoorFxe
open Bool renaming and_eq_true->KD,not_eq_true'->LY,or_eq_false_iff->Nj
open Go.Code renaming wpIn_mono->Lt
open Go.Deferred renaming ofValue->Nn
open Go.Exit renaming inBlock->Sj
open Go.Fence renaming wide->O4
open Go.Frame renaming atR->SU
open Go.Instr renaming sureAddr->Mt,getLoop->O6,yield->Rh,enterLoop->RR,endRound->R0,endLoop->Sc
open Go.LoopState renaming busy->RZ
open Go.Operand renaming const->UJ
open Go.Result renaming andThen_ok->KZ
open Go.Sem renaming run_bind->KW,run_pure->Lm,run->Md
open Go.StepsIn renaming trans->UI
open Go.stepG renaming exec->SO
open List renaming mem_append->Kk,mem_cons->Ku,mem_filter->KP,foldl_cons->Nh,any_append->N2,zip_cons_cons->PO,mapM_cons->Rj
open Nat renaming le_refl->Kl,eq_of_beq_eq_true->KR,beq->K3,blt->L5,beq_refl->SV
open Option.some renaming inj->Kq
namespace Go.Proofs.YtkehfflpbpdokaaGreatDoor
def aI (α:Type)(x0:α)(H:aa)(body:(α->aa->Prop)->α->aa->Prop):Prop:=
 ∃(γ:Type) (I:γ->α->aa->Prop) (m:γ->Nat),(∃g,I g x0 H)/\∀g x H',I g x H'->body (λx' H''=>∃g',I g' x' H''/\m g'<m g) x H'
def cut (α:Type)(A:(α->aa->Prop)->Prop)(B:α->aa->Prop):Prop:=∃J:α->aa->Prop,A J/\∀x H,J x H->B x H
abbrev yh:=List (Nat×List (Nat×eJ))
def wq:yh->Nat->Option (List (Nat×eJ))
 |[],_=>none
 |p::r,k=>bif K3 p.1 k then some p.2 else wq r k
def lead:Code->Option Nat
 |.region id _ _=>some id
 |.seq a b=>(match lead a with|some k=>some k|none=>lead b)
 |.cond _ x y=>(match lead x with|some k=>some k|none=>lead y)
 |.block _ c=>lead c
 |.loop c=>lead c
 |.scope c=>lead c
 |_=>none
def writes:Code->List Nat
 |.region _ ops _=>Cp ops.toList
 |.seq a b=>writes a++writes b
 |.cond _ x y=>writes x++writes y
 |.block _ c=>writes c
 |.loop c=>writes c
 |.scope c=>writes c
 |_=>[]
def ry (W:List Nat)(t:Nat):Bool:=W.any (K3 t)
def jP (W:List Nat)(e:bK):Bool:=!(ry W e.s)&&(match e.g with|some p=>!(ry W p.1)|none=>true)
def ow (sl:List (Nat×eJ)):List eJ:=sl.map (·.2)
def eM:List Nat->List Value->List bK
 |s::r,v::vs=>⟨s,v,none⟩::eM r vs
 |_,_=>[]
def yH (E:List bK):List Nat->Option (List Value)
 |[]=>some []
 |s::r=>(match find E s with
   |some ⟨_,v,none⟩=>(match yH E r with|some vs=>some (v::vs)|none=>none)
   |_=>none)
def qv (E:List bK)(sl:List (Nat×eJ)):Option (cQ.α (ow sl)):=match yH E (sl.map (·.1)) with|some vs=>cQ.dec (ow sl) vs|none=>none
def gM {α:Type}(o:Option α)(K:α->Prop):Prop:=match o with|some x=>K x|none=>False
def Is (A:yh)(b:Code):Option (List (Nat×eJ)):=match lead b with|some k=>wq A (100000+k)|none=>none
def rq (P:Program)(N:Nat)(A:yh):Code->List bK->aa->(List bK->aa->Prop)->(Nat->List bK->aa->Prop)->(List bK->aa->Prop)->Prop
 |.skip,E,H,Kn,_,_=>Kn E H
 |.label _,E,H,Kn,_,_=>Kn E H
 |.region id ops draw,E,H,Kn,_,_=>(match (bif draw then wq A (300000+id) else none) with
   |some (f::c::_)=>GJ f.1 c.1 P N ops E H Kn
   |_=>IQ P N ops draw E H Kn)
 |.seq a b,E,H,Kn,Kx,Kr=>
   (match Is A b with
   |none=>rq P N A a E H (λE' H'=>rq P N A b E' H' Kn Kx Kr) Kx Kr
   |some sl=>cut (cQ.α (ow sl)) (λJ=>rq P N A a E H (λE' H'=>gM (qv E' sl) λx=>J x H') Kx Kr)
     λx H'=>rq P N A b (eM (sl.map (·.1)) (cQ.enc (ow sl) x)++E.filter (jP (writes a))) H' Kn Kx Kr)
 |.cond c x y,E,H,Kn,Kx,Kr=>
   (match As E [] c with
   |some (.bool b)=>br b (rq P N A x E H Kn Kx Kr) (rq P N A y E H Kn Kx Kr)
   |_=>False)
 |.block id c,E,H,Kn,Kx,Kr=>rq P N A c E H Kn (λi E' H'=>bif K3 i id then Kn E' H' else Kx i E' H') Kr
 |.loop c,E,H,_,Kx,Kr=>
   (match (match lead c with|some k=>wq A k|none=>none) with
   |none=>False
   |some sl=>gM (qv E sl) λx0=>aI (cQ.α (ow sl)) x0 H λnext x H'=>
     rq P N A c (eM (sl.map (·.1)) (cQ.enc (ow sl) x)++E.filter (jP (writes c))) H' (λE' H''=>gM (qv E' sl) λx'=>next x' H'') Kx Kr)
 |.scope c,E,H,Kn,Kx,Kr=>rq P N A c E H Kn Kx Kr
 |.exit id,E,H,_,Kx,_=>Kx id E H
 |.ret,E,H,_,_,Kr=>Kr E H
 |_,_,_,_,_,_=>False
def rS (P:Program):List ResultVar->List bK->aa->(List Value->Prop)->Prop
 |[],_,_,K=>K []
 |.tmp t::r,E,H,K=>(match As E [] (.tmp t) with|some v=>rS P r E H (λvs=>K (v::vs))|none=>False)
 |.cell a t::r,E,H,K=>(bif ph E [] (.load t (.tmp a)) then oL P (.load t (.tmp a)) t (Dd E []) none H (λv=>rS P r E H (λvs=>K (v::vs))) else False)
def oneOf:List Value->Value
 |[v]=>v
 |vs=>.tuple ⟨vs⟩
def Fg (P:Program)(res:Array ResultVar)(E:List bK)(H:aa)(R:Value->aa->Prop):Prop:=rS P res.toList E H λvs=>R (oneOf vs) H
def zm:Nat->List Value->List bK
 |_,[]=>[]
 |k,v::r=>⟨k,v,none⟩::zm (k+1) r
def ct:Code->Bool
 |.rangeFunc ..=>true
 |.seq a b=>ct a||ct b
 |.cond _ x y=>ct x||ct y
 |.block _ c=>ct c
 |_=>false
abbrev Rec:=LoopState->Option Code->Loop
def lq (l:Nat)(rec:Rec)(H:aa)(fin:aa->Prop)(fex:Nat->aa->Prop)(fret:aa->Prop):Prop:=
 ∃s p,H[l]?=some (.loop (rec s p))/\(s==RZ)=false/\
   (match p with
   |none=>fin (H.setIfInBounds l (.loop (rec .exhausted none)))
   |some c=>(match c with
     |.exit id=>fex id (H.setIfInBounds l (.loop (rec .exhausted (some (.exit id)))))
     |.ret=>fret (H.setIfInBounds l (.loop (rec .exhausted (some .ret))))
     |_=>False))
def l7 (P:Program)(fv:Value)(H:aa)(body:Nat->Rec->List Value->aa->(Bool->aa->Prop)->Prop)(fin:Nat->aa->Prop)(fex:Nat->Nat->aa->Prop)(fret:Nat->aa->Prop):Prop:=
 ∃g cap,fv=.func (.func g) #[] cap/\dg P g=true/\∀rec:Rec,
   (∀vs H' K,H'[H.size+1]?=some (.loop (rec .ready none))->body (H.size+1) rec vs H' K->ck P (H.size+1) vs.toArray H' K)->
   Spec P g (#[.func (.yield (H.size+1)) #[] #[]]++cap) ((H.push (.deferred (some []))).push (.loop (rec .ready none)))
    λ_ H3=>lq (H.size+1) rec H3 (fin H.size) (λid=>fex id H.size) (fret H.size)
def kU:List Nat->Bool
 |[]=>true
 |x::r=>!(ry r x)&&kU r
def HO:List Nat->List Nat->Bool
 |[],[]=>true
 |x::r,y::t=>K3 x y&&HO r t
 |_,_=>false
def th (P:Program)(N:Nat)(A:yh)(E:List bK)(sl:List (Nat×eJ))(assign body:Code)(l:Nat)(rec:Rec)(vs:List Value)(H:aa)(K:Bool->aa->Prop):Prop:=
 gM (cQ.dec (ow sl) vs) λx=>
  rq P N A assign (eM (sl.map (·.1)) (cQ.enc (ow sl) x)++E.filter (jP (sl.map (·.1)))) H
   (λE1 H1=>H1[l]?=some (.loop (rec .ready none))/\rq P N A body E1 (H1.setIfInBounds l (.loop (rec .busy none)))
    (λ_ H3=>H3[l]?=some (.loop (rec .busy none))/\K true (H3.setIfInBounds l (.loop (rec .ready none))))
    (λid _ H3=>H3[l]?=some (.loop (rec .busy none))/\K false (H3.setIfInBounds l (.loop (rec .done (some (.exit id))))))
    (λ_ H3=>H3[l]?=some (.loop (rec .busy none))/\K false (H3.setIfInBounds l (.loop (rec .done (some .ret))))))
   (λ_ _ _=>False) (λ_ _=>False)
def Bm (P:Program)(N:Nat)(A:yh):Code->List Nat->List bK->aa->(List Nat->List bK->aa->Prop)->(Nat->List Nat->List bK->aa->Prop)->(List Nat->List bK->aa->Prop)->Prop
 |.seq a b,D,E,H,Kn,Kx,Kr=>
   bif ct a||ct b then Bm P N A a D E H (λD' E' H'=>Bm P N A b D' E' H' Kn Kx Kr) Kx Kr
   else rq P N A (.seq a b) E H (Kn D) (λi=>Kx i D) (Kr D)
 |.cond c x y,D,E,H,Kn,Kx,Kr=>
   bif ct x||ct y then
    (match As E [] c with
    |some (.bool b)=>br b (Bm P N A x D E H Kn Kx Kr) (Bm P N A y D E H Kn Kx Kr)
    |_=>False)
   else rq P N A (.cond c x y) E H (Kn D) (λi=>Kx i D) (Kr D)
 |.block id c,D,E,H,Kn,Kx,Kr=>
   bif ct c then Bm P N A c D E H Kn (λi D' E' H'=>bif K3 i id then Kn D' E' H' else Kx i D' E' H') Kr
   else rq P N A (.block id c) E H (Kn D) (λi=>Kx i D) (Kr D)
 |.rangeFunc f ps assign body,D,E,H,Kn,Kx,Kr=>
   (match As E [] f,wq A (200000+(lead body).getD 0) with
   |some fv,some sl=>bif HO ps.toList (sl.map (·.1))&&(kU ps.toList&&ps.toList.all (λp=>L5 p N)) then
     l7 P fv H (th P N A E sl assign body) (λr H'=>Kn (r::D) E H') (λid r H'=>Kx id (r::D) E H') (λr H'=>Kr (r::D) E H') else False
   |_,_=>False)
 |c,D,E,H,Kn,Kx,Kr=>rq P N A c E H (Kn D) (λi=>Kx i D) (Kr D)
def xr:List Nat->aa->(aa->Prop)->Prop
 |[],H,K=>K H
 |r::D,H,K=>H[r]?=some (.deferred (some []))/\xr D (H.setIfInBounds r (.deferred none)) K
def wK (P:Program)(res:Array ResultVar)(D:List Nat)(E:List bK)(H:aa)(R:Value->aa->Prop):Prop:=xr D H λH'=>Fg P res E H' R
def I9 (P:Program)(f:FuncId)(A:yh)(args:List Value)(H:aa)(R:Value->aa->Prop):Prop:=
 match P.funcs[f]? with
 |some fn=>(match fn.body with
   |some c=>(bif Nat.ble args.length fn.ntmps then Bm P fn.ntmps A c [] (zm 0 args) H (λD E H'=>wK P fn.results D E H' R) (λ_ _ _ _=>False) (λD E H'=>wK P fn.results D E H' R) else False)
   |none=>False)
 |none=>False
def It (c:eJ)(P:Program)(f:FuncId)(A:yh)(args:List Value)(H:aa)(R:c.α->aa->Prop):Prop:=
 I9 P f A args H λv H'=>gM (c.dec v) λx=>R x H'
theorem fO {α:Type}{o:Option α}{K:α->Prop}(h:gM o K):∃x,o=some x/\K x:=by
 cases o with
 |none=>exact h.elim
 |some x=>exact⟨x,rfl,h⟩
section
variable {P:Program}{N:Nat}{D:List Deferred}{rn:Option Nat}
theorem di (W:List Nat)(t:Nat):ry W t=W.contains t:=by
 unfold ry
 rw[List.contains_eq_any_beq]
 congr 1
 funext x
 cases h:K3 t x with
 |true=>have:=KR h;subst this;simp
 |false=>
   have:t≠x:=λe=>by subst e;simp at h
   simpa using this
theorem Holds.aA {E:List bK}{a a':Act}{W:List Nat}(hH:Holds N D E a)(hs:a'.tmps.size=N)(hd:a'.defers=D)(hS:gU W a a'):Holds N D (E.filter (jP W)) a':=by
 refine⟨hs,hd,λe he=>?_⟩
 obtain⟨h1,h2⟩:=KP.1 he
 have hok:=hH.all e h1
 unfold jP at h2
 simp only[KD,LY,di] at h2
 have e1:=hS e.s h2.1
 unfold dY at hok ⊢
 cases hg:e.g with
 |none=>rw[hg] at hok;exact e1.trans hok
 |some p=>
   rw[hg] at hok h2
   obtain⟨s,b⟩:=p
   have e2:=hS s (by have:=h2.2;simpa using this)
   refine⟨λh=>e1.trans (hok.1 (e2.symm.trans h)),λh=>e1.trans (hok.2 λq=>h (e2.trans q))⟩
theorem Holds.append {E E':List bK}{a:Act}(h:Holds N D E a)(k:Holds N D E' a):Holds N D (E++E') a:=
 ⟨h.size,h.defers,λe he=>(Kk.1 he).elim (h.all e) (k.all e)⟩
theorem qf {E:List bK}{a:Act}(hH:Holds N D E a):∀{l:List Nat} {vs:List Value},yH E l=some vs->Holds N D (eM l vs) a
 |[],vs,h=>⟨hH.size,hH.defers,by cases vs<;>simp[eM]⟩
 |s::r,vs,h=>by
   unfold yH at h
   split at h
   ·rename_i s' v hf
    split at h
    ·rename_i vs' hr
     have e:v::vs'=vs:=Kq h
     subst e
     have ih:=qf hH hr
     obtain⟨h1,h2⟩:=eK hf
     refine⟨hH.size,hH.defers,λe he=>?_⟩
     simp only[eM] at he
     rcases Ku.1 he with he|he
     ·subst he
      have:=hH.all _ h1
      simp only at h2
      subst h2
      exact this
     ·exact ih.all e he
    ·cases h
   ·cases h
theorem j8 {E:List bK}{a:Act}{sl:List (Nat×eJ)}{x:cQ.α (ow sl)}(hH:Holds N D E a)(h:qv E sl=some x):Holds N D (eM (sl.map (·.1)) (cQ.enc (ow sl) x)) a:=by
 unfold qv at h
 split at h
 ·rename_i vs hv
  have:=cQ.ok _ _ _ h
  rw[<-this]
  exact qf hH hv
 ·cases h
theorem exists_least {p:Nat->Prop}:∀n,p n->∃k,p k/\∀j,p j->k<=j:=by
 intro n
 induction n using Nat.strongRecOn with
 |_ n ih=>
   intro hn
   by_cases h:∃j,j<n/\p j
   ·obtain⟨j,h1,h2⟩:=h;exact ih j h1 h2
   ·exact⟨n,hn,λj hj=>by
     rcases Nat.lt_or_ge j n with h1|h1
     ·exact absurd ⟨j,h1,hj⟩ h
     ·exact h1⟩
open Classical in
noncomputable def least (p:Nat->Prop):Nat:=if h:∃k,p k/\∀j,p j->k<=j then h.choose else 0
theorem pj {p:Nat->Prop}{n:Nat}(h:p n):p (least p)/\∀j,p j->least p<=j:=by
 have h1:=exists_least n h
 unfold least
 rw[dif_pos h1]
 exact h1.choose_spec
def nY (Kn:List bK->aa->Prop)(Kx:Nat->List bK->aa->Prop)(Kr:List bK->aa->Prop):Exit->List bK->aa->Prop
 |.normal,E,H=>Kn E H
 |.exit id,E,H=>Kx id E H
 |.ret,E,H=>Kr E H
 |_,_,_=>False
def post (N:Nat)(D:List Deferred)(W:List Nat)(a:Act)(w:World)(Kn:List bK->aa->Prop)(Kx:Nat->List bK->aa->Prop)(Kr:List bK->aa->Prop)(e:Exit)(a':Act)(w':World):Prop:=
 ∃E',Holds N D E' a'/\gU W a a'/\Alike w w'/\nY Kn Kx Kr e E' w'.heap
theorem x9 {F:Fence}{n:Nat}{Q:Exit->Act->World->Prop}{a:Act}{w:World}{c:Code}(h:c.wpIn F n P (λe a w=>match e with|.goto _=>False|e=>Q e a w) a w):(Code.scope c).wpIn F n P Q a w:=by
 intro b k cs hro hb hr
 have h0:(lone (b.atR a (.code (.scope c)::k)) cs w).fenced P F:=fenced_calm hb hr rfl
 have s1:step P (lone (b.atR a (.code (.scope c)::k)) cs w)=.next (lone (b.atR a (.code c::.inScope c::k)) cs w):=step_lone_go (by simp[stepG,SO,SU])
 have s2:∀a w,step P (lone (b.atR a (.inScope c::k)) cs w)=.next (lone (b.atR a k) cs w):=λa w=>step_lone_go (by simp[stepG,SO,SU])
 obtain⟨e,a₁,w₁,hq,harr⟩:=h b (.inScope c::k) cs hro hb hr
 cases e with
 |normal=>exact⟨.normal,a₁,w₁,hq,.head h0 s1 (UI harr (.one (fenced_calm hb hr rfl) (s2 _ _)))⟩
 |exit id'=>
   have hx:exitTo id' (.inScope c::k)=exitTo id' k:=by simp[exitTo]
   exact⟨.exit id',a₁,w₁,hq,λk' hk=>.head h0 s1 (harr.1 k' (by rw[hx];exact hk)),
    λhr' hk=>let ⟨k₁,h1,h2⟩:=harr.2 hr' (by rw[hx];exact hk);⟨k₁,h1,.head h0 s1 h2⟩⟩
 |goto l=>exact hq.elim
 |ret=>exact⟨_,a₁,w₁,hq,.of_steps (.one h0 s1) harr⟩
 |panic ch=>exact⟨_,a₁,w₁,hq,.of_steps (.one h0 s1) harr⟩
 |outgrown=>exact⟨_,a₁,w₁,hq,.of_steps (.one h0 s1) harr⟩
theorem cE (hNG:lD P)(hm:P.follows .mixedOrders=true)(A:yh):∀(c:Code) (E:List bK) (a:Act) (w:World) (Kn:List bK->aa->Prop) (Kx:Nat->List bK->aa->Prop) (Kr:List bK->aa->Prop),
  Holds N D E a->rq P N A c E w.heap Kn Kx Kr->c.wpIn (FW rn) 0 P (post N D (writes c) a w Kn Kx Kr) a w
 |.skip,E,a,w,Kn,Kx,Kr,hH,h=>wpIn_skip ⟨E,hH,.refl _ _,.refl _,h⟩
 |.label _,E,a,w,Kn,Kx,Kr,hH,h=>wpIn_label ⟨E,hH,.refl _ _,.refl _,h⟩
 |.exit id,E,a,w,Kn,Kx,Kr,hH,h=>wpIn_exit ⟨E,hH,.refl _ _,.refl _,h⟩
 |.ret,E,a,w,Kn,Kx,Kr,hH,h=>wpIn_ret ⟨E,hH,.refl _ _,.refl _,h⟩
 |.region id ops draw,E,a,w,Kn,Kx,Kr,hH,h=>by
   simp only[rq] at h
   split at h
   ·rename_i f c _ hl
    cases draw with
    |false=>cases hl
    |true=>exact xO hNG hm hH (λE' a' w' h1 h2 h3 h4=>⟨E',h1,h2,h3,h4⟩) h
   ·exact Ai hNG hm hH (λE' a' w' h1 h2 h3 h4=>⟨E',h1,h2,h3,h4⟩) h
 |.cond c x y,E,a,w,Kn,Kx,Kr,hH,h=>by
   simp only[rq] at h
   split at h
   ·rename_i b hb
    have ec:=fR hH (by simp) hb
    refine wpIn_cond ec ?_
    cases b with
    |true=>
      exact Lt (λe a' w' ⟨E',h1,h2,h3,h4⟩=>⟨E',h1,h2.mono (λt ht=>by
       simp only[writes,<-di,ry,N2,Nj] at ht ⊢;exact ht.1),h3,h4⟩) (cE hNG hm A x E a w Kn Kx Kr hH h)
    |false=>
      exact Lt (λe a' w' ⟨E',h1,h2,h3,h4⟩=>⟨E',h1,h2.mono (λt ht=>by
       simp only[writes,<-di,ry,N2,Nj] at ht ⊢;exact ht.2),h3,h4⟩) (cE hNG hm A y E a w Kn Kx Kr hH h)
   ·exact h.elim
 |.block id c,E,a,w,Kn,Kx,Kr,hH,h=>by
   refine wpIn_block (Lt (λe a' w' hp=>?_) (cE hNG hm A c E a w _ _ _ hH h))
   obtain⟨E',h1,h2,h3,h4⟩:=hp
   cases e<;>simp only[nY] at h4<;>try exact h4.elim
   case normal=>exact⟨E',h1,h2,h3,h4⟩
   case exit i=>
    simp only[Sj]
    by_cases hi:i=id
    ·subst hi
     rw[if_pos rfl]
     have e0:K3 i i=true:=SV i
     rw[e0] at h4
     exact⟨E',h1,h2,h3,h4⟩
    ·rw[if_neg hi]
     have e0:K3 i id=false:=by
      cases hb:K3 i id with
      |false=>rfl
      |true=>exact absurd (KR hb) hi
     rw[e0] at h4
     exact⟨E',h1,h2,h3,h4⟩
   case ret=>exact⟨E',h1,h2,h3,h4⟩
 |.seq x y,E,a,w,Kn,Kx,Kr,hH,h=>by
   have wx:∀t,(writes (.seq x y)).contains t=false->(writes x).contains t=false:=λt ht=>by
    simp only[writes,<-di,ry,N2,Nj] at ht ⊢;exact ht.1
   have wy:∀t,(writes (.seq x y)).contains t=false->(writes y).contains t=false:=λt ht=>by
    simp only[writes,<-di,ry,N2,Nj] at ht ⊢;exact ht.2
   simp only[rq] at h
   split at h
   ·refine wpIn_seq (Lt (λe a' w' hp=>?_) (cE hNG hm A x E a w _ _ _ hH h))
    obtain⟨E',h1,h2,h3,h4⟩:=hp
    cases e<;>simp only[nY] at h4<;>try exact h4.elim
    case normal=>
     exact Lt (λe a'' w'' ⟨E'',k1,k2,k3,k4⟩=>⟨E'',k1,(h2.mono wx).trans (k2.mono wy),h3.trans k3,k4⟩) (cE hNG hm A y E' a' w' Kn Kx Kr h1 h4)
    case exit i=>exact⟨E',h1,h2.mono wx,h3,h4⟩
    case ret=>exact⟨E',h1,h2.mono wx,h3,h4⟩
   ·rename_i sl hsl
    obtain⟨J,hA,hB⟩:=h
    refine wpIn_seq (Lt (λe a' w' hp=>?_) (cE hNG hm A x E a w _ _ _ hH hA))
    obtain⟨E',h1,h2,h3,h4⟩:=hp
    cases e<;>simp only[nY] at h4<;>try exact h4.elim
    case normal=>
     obtain⟨v,hv,hJ⟩:=fO h4
     have hH':=(j8 h1 hv).append (hH.aA h1.size h1.defers h2)
     exact Lt (λe a'' w'' ⟨E'',k1,k2,k3,k4⟩=>⟨E'',k1,(h2.mono wx).trans (k2.mono wy),h3.trans k3,k4⟩) (cE hNG hm A y _ a' w' Kn Kx Kr hH' (hB _ _ hJ))
    case exit i=>exact⟨E',h1,h2.mono wx,h3,h4⟩
    case ret=>exact⟨E',h1,h2.mono wx,h3,h4⟩
 |.loop c,E,a,w,Kn,Kx,Kr,hH,h=>by
   simp only[rq] at h
   split at h
   ·exact h.elim
   ·rename_i sl hsl
    obtain⟨x0,hx0,γ,I,m,⟨g0,hI0⟩,hround⟩:=fO h
    let Inv:γ->Act->World->Prop:=λg a' w'=>∃x,Holds N D (eM (sl.map (·.1)) (cQ.enc (ow sl) x)++E.filter (jP (writes c))) a'/\gU (writes c) a a'/\Alike w w'/\I g x w'.heap
    let p:Act->World->Nat->Prop:=λa' w' n=>∃g,m g=n/\Inv g a' w'
    refine wpIn_loop (λa' w'=>∃g,Inv g a' w') (λa' w'=>least (p a' w')) ?_ ?_
    ·exact⟨g0,x0,(j8 hH hx0).append (hH.aA hH.size hH.defers (.refl _ _)),.refl _ _,.refl _,hI0⟩
    ·intro a1 w1 ⟨g,hg⟩
     obtain⟨⟨g1,hm1,x1,k1,k2,k3,k4⟩,hmin⟩:=pj (p:=p a1 w1) (n:=m g) ⟨g,rfl,hg⟩
     refine Lt (λe a' w' hp=>?_) (cE hNG hm A c _ a1 w1 _ _ _ k1 (hround g1 x1 _ k4))
     obtain⟨E',h1,h2,h3,h4⟩:=hp
     have hS:gU (writes c) a a':=k2.trans h2
     have hAl:Alike w w':=k3.trans h3
     cases e<;>simp only[nY] at h4<;>try exact h4.elim
     case normal=>
      obtain⟨x',hx',g',hI',hlt⟩:=fO h4
      have hinv:Inv g' a' w':=⟨x',(j8 h1 hx').append (hH.aA h1.size h1.defers hS),hS,hAl,hI'⟩
      refine⟨⟨g',hinv⟩,?_⟩
      have:=(pj (p:=p a' w') (n:=m g') ⟨g',rfl,hinv⟩).2 (m g') ⟨g',rfl,hinv⟩
      omega
     case exit i=>exact⟨E',h1,hS,hAl,h4⟩
     case ret=>exact⟨E',h1,hS,hAl,h4⟩
 |.rangeFunc _ _ _ _,_,_,_,_,_,_,_,h=>h.elim
 |.scope c,E,a,w,Kn,Kx,Kr,hH,h=>by
   refine x9 (Lt (λe a' w' hp=>?_) (cE hNG hm A c E a w Kn Kx Kr hH h))
   obtain⟨E',h1,h2,h3,h4⟩:=hp
   cases e<;>simp only[nY] at h4<;>try exact h4.elim
   all_goals exact⟨E',h1,h2,h3,h4⟩
 |.goto _,_,_,_,_,_,_,_,h=>h.elim
 |.refuse _,_,_,_,_,_,_,_,h=>h.elim
theorem j7 {E:List bK}{a:Act}{w:World}(hH:Holds N D E a):∀{l:List ResultVar} {K:List Value->Prop},rS P l E w.heap K->
  ∃vs,(l.mapM λr=>(match r with
    |.tmp t=>pure (a.tmps.getD t undef)
    |.cell ad t=>do loadVar t (<-asAddr (a.tmps.getD ad undef)):Sem Value)).run P w=.ok vs w/\K vs
 |[],K,h=>⟨[],rfl,h⟩
 |.tmp t::r,K,h=>by
   simp only[rS] at h
   split at h
   ·rename_i v hv
    obtain⟨vs,h1,h2⟩:=j7 hH h
    have e:a.tmps.getD t undef=v:=fR (x:=.tmp t) hH (by simp) hv
    refine⟨v::vs,?_,h2⟩
    rw[Rj]
    simp only[KW,Lm,KZ,e]
    rw[h1];rfl
   ·exact h.elim
 |.cell ad t::r,K,h=>by
   simp only[rS] at h
   cases hb:ph E [] (.load t (.tmp ad)) with
   |false=>rw[hb] at h;exact h.elim
   |true=>
     rw[hb] at h
     simp only[cond_true] at h
     obtain⟨v,h1,h2⟩:=iv (o:=⟨none,.load t (.tmp ad),t,"",#[],none⟩) h
     obtain⟨vs,h3,h4⟩:=j7 hH h2
     have e1:=h1 w rfl
     rw[<-nz (o:=⟨none,.load t (.tmp ad),t,"",#[],none⟩) hH (by simp) hb (by intro cs b e;cases e)] at e1
     simp only[execOp,Instr.loadAt,KW] at e1
     refine⟨v::vs,?_,h4⟩
     rw[Rj]
     have e2:(do loadVar t (<-asAddr (a.tmps.getD ad undef)):Sem Value).run P w=.ok v w:=by
      have e3:a.eval (.tmp ad)=a.tmps.getD ad undef:=rfl
      rw[e3] at e1
      generalize a.tmps.getD ad undef=q at*
      cases q with
      |pointer p=>
        cases p with
        |none=>simp[Mt] at e1
        |some ad=>
          simp only[Mt,Lm,KZ] at e1
          simp only[asAddr,KW,Lm,KZ]
          cases hr:(loadVar t ad).run P w with
          |ok u w2=>rw[hr] at e1;simp at e1;rw[e1.1,e1.2]
          |halt x w2=>rw[hr] at e1;simp at e1
      |_=>simp[Mt] at e1
     simp only[KW] at e2 ⊢
     rw[e2]
     simp only[KZ,h3,Lm]
theorem uP {fn:Func}{E:List bK}{a:Act}{w:World}{R:Value->aa->Prop}(hH:Holds N D E a)(h:Fg P fn.results E w.heap R):
  ∃v,(results fn a.tmps).run P w=.ok v w/\R v w.heap:=by
 obtain⟨vs,h1,h2⟩:=j7 hH h
 refine⟨oneOf vs,?_,h2⟩
 unfold results
 rw[KW,Array.mapM_eq_mapM_toList,Sem.run_map]
 have e:∀{g:ResultVar->Sem Value},(fn.results.toList.mapM g).run P w=.ok vs w->
   ((((fn.results.toList.mapM g).run P w).andThen λa w'=>Result.ok a.toArray w').andThen λvs w'=>(pure (if h:vs.size=1 then vs[0] else .tuple vs):Sem Value).run P w')=.ok (oneOf vs) w:=by
  intro g hg
  rw[hg]
  simp only[KZ,Lm]
  congr 1
  cases vs with
  |nil=>rfl
  |cons v r=>
    cases r with
    |nil=>rfl
    |cons v2 r=>simp[oneOf]
 exact e h1
def lQ (r:Nat):Deferred:={target:=.collected r,args:=#[]}
theorem rV {fn:Func}{tmps:Array Value}{R:Ending->World->Prop}{w0:World}{K:aa->Prop}(hK:∀w,Alike w0 w->K w.heap->LeavesIn O4 0 P fn tmps R [] .returning w):
  ∀(D:List Nat) (w:World),Alike w0 w->xr D w.heap K->LeavesInM O4 0 P fn tmps R (D.map lQ) .returning w
 |[],w,ha,h=>hK w ha h
 |r::D,w,ha,h=>by
   obtain⟨h1,h2⟩:=h
   refine⟨by simp,.inl ⟨r,{w with heap:=w.heap.setIfInBounds r (.deferred none)},rfl,?_,rV hK D _ (ha.trans (.of_le rfl (Kl _))) h2⟩⟩
   simp[Instr.takeDeferred,getObj,setObj,Md,h1]
theorem pN {W:List Nat}{t:Nat}:ry W t=true↔t∈W:=by
 rw[di];simp
theorem ta:∀(ps:List Nat) (vs:List Value) (tm:Array Value),((ps.zip vs).foldl (λt (p,v)=>t.setIfInBounds p v) tm).size=tm.size
 |[],_,_=>rfl
 |_::_,[],_=>rfl
 |p::ps,v::vs,tm=>by simp only[PO,Nh];rw[ta ps vs];simp
theorem jb:∀(ps:List Nat) (vs:List Value) (tm:Array Value) (t:Nat),t∉ps->((ps.zip vs).foldl (λt (p,v)=>t.setIfInBounds p v) tm)[t]?=tm[t]?
 |[],_,_,_,_=>rfl
 |_::_,[],_,_,_=>rfl
 |p::ps,v::vs,tm,t,h=>by
   simp only[Ku,not_or] at h
   simp only[PO,Nh]
   rw[jb ps vs _ t h.2,Array.getElem?_setIfInBounds_ne (Ne.symm h.1)]
theorem qj:∀(ps:List Nat) (vs:List Value) (tm:Array Value),kU ps=true->(∀p∈ps,p<tm.size)->∀e∈eM ps vs,e.g=none/\((ps.zip vs).foldl (λt (p,v)=>t.setIfInBounds p v) tm)[e.s]?=some e.v
 |[],vs,_,_,_,e,he=>by cases vs<;>simp[eM] at he
 |_::_,[],_,_,_,e,he=>by simp[eM] at he
 |p::ps,v::vs,tm,hn,hp,e,he=>by
   simp only[kU,KD,LY] at hn
   simp only[eM] at he
   simp only[PO,Nh]
   rcases Ku.1 he with he|he
   ·subst he
    refine⟨rfl,?_⟩
    have hnm:p∉ps:=λh=>by rw[pN.2 h] at hn;cases hn.1
    rw[jb ps vs _ p hnm]
    simp[hp p List.mem_cons_self]
   ·exact qj ps vs _ hn.2 (λq hq=>by simpa using hp q (List.mem_cons_of_mem _ hq)) e he
theorem vX {E:List bK}{a:Act}(hH:Holds N D E a){ps:List Nat}{vs:List Value}(hn:kU ps=true)(hp:∀p∈ps,p<N):
  Holds N [] (eM ps vs++E.filter (jP ps)) {tmps:=(ps.zip vs).foldl (λt (p,v)=>t.setIfInBounds p v) a.tmps,defers:=[]}:=by
 refine⟨(ta _ _ _).trans hH.size,rfl,λe he=>?_⟩
 rcases Kk.1 he with he|he
 ·obtain⟨h1,h2⟩:=qj ps vs a.tmps hn (λp hp'=>by rw[hH.size];exact hp p hp') e he
  unfold dY
  rw[h1]
  exact h2
 ·obtain⟨h1,h2⟩:=KP.1 he
  have hok:=hH.all e h1
  unfold jP at h2
  simp only[KD,LY] at h2
  have e1:((ps.zip vs).foldl (λt (p,v)=>t.setIfInBounds p v) a.tmps)[e.s]?=a.tmps[e.s]?:=jb _ _ _ _ (λh=>by rw[pN.2 h] at h2;cases h2.1)
  unfold dY at hok ⊢
  cases hg:e.g with
  |none=>rw[hg] at hok;exact e1.trans hok
  |some p=>
    rw[hg] at hok h2
    obtain⟨s,b⟩:=p
    have e2:((ps.zip vs).foldl (λt (p,v)=>t.setIfInBounds p v) a.tmps)[s]?=a.tmps[s]?:=jb _ _ _ _ (λh=>by
     have h3:=h2.2
     simp only[LY] at h3
     rw[pN.2 h] at h3;cases h3)
    exact⟨λh=>e1.trans (hok.1 (e2.symm.trans h)),λh=>e1.trans (hok.2 λq=>h (e2.trans q))⟩
theorem CR:∀{a b:List Nat},HO a b=true->a=b
 |[],[],_=>rfl
 |x::r,y::t,h=>by
   simp only[HO,KD] at h
   rw[KR h.1,CR h.2]
def uC (Kn:List Nat->List bK->aa->Prop)(Kx:Nat->List Nat->List bK->aa->Prop)(Kr:List Nat->List bK->aa->Prop):Exit->List Nat->List bK->aa->Prop
 |.normal,D,E,H=>Kn D E H
 |.exit id,D,E,H=>Kx id D E H
 |.ret,D,E,H=>Kr D E H
 |_,_,_,_=>False
def sK (N:Nat)(w:World)(Kn:List Nat->List bK->aa->Prop)(Kx:Nat->List Nat->List bK->aa->Prop)(Kr:List Nat->List bK->aa->Prop)(e:Exit)(a':Act)(w':World):Prop:=
 ∃D' E',Holds N (D'.map lQ) E' a'/\Alike w w'/\uC Kn Kx Kr e D' E' w'.heap
theorem cC (hNG:lD P)(hm:P.follows .mixedOrders=true){A:yh}{c:Code}{D:List Nat}{E:List bK}{a:Act}{w:World}{Kn:List Nat->List bK->aa->Prop}{Kx:Nat->List Nat->List bK->aa->Prop}{Kr:List Nat->List bK->aa->Prop}
  (hH:Holds N (D.map lQ) E a) (h:rq P N A c E w.heap (Kn D) (λi=>Kx i D) (Kr D)):c.wpIn (FW none) 0 P (sK N w Kn Kx Kr) a w:=
 Lt (λe a' w' ⟨E',h1,_,h3,h4⟩=>⟨D,E',h1,h3,by cases e<;>first|exact h4|exact h4.elim⟩) (cE hNG hm A c E a w _ _ _ hH h)
theorem rh (hNG:lD P)(hm:P.follows .mixedOrders=true){A:yh}{f:Operand}{ps:Array Tmp}{assign body:Code}{D:List Nat}{E:List bK}{a:Act}{w:World}{fv:Value}{sl:List (Nat×eJ)}
  {Kn:List Nat->List bK->aa->Prop} {Kx:Nat->List Nat->List bK->aa->Prop} {Kr:List Nat->List bK->aa->Prop}
  (hH:Holds N (D.map lQ) E a) (hf:As E [] f=some fv) (hps:ps.toList=sl.map (·.1)) (hnd:kU ps.toList=true) (hlt:∀p∈ps.toList,p<N)
  (h:l7 P fv w.heap (th P N A E sl assign body) (λr H'=>Kn (r::D) E H') (λid r H'=>Kx id (r::D) E H') (λr H'=>Kr (r::D) E H')):
  (Code.rangeFunc f ps assign body).wpIn (FW none) 0 P (sK N w Kn Kx Kr) a w:=by
 obtain⟨g,cap,rfl,hcall,h⟩:=h
 have hev:a.eval f=.func (.func g) #[] cap:=fR hH (by simp) hf
 refine wpIn_rangeFunc (λfn _=>?_)
 obtain⟨rec,hrec⟩:∃rec:Rec,rec=λst pe=>{state:=st,pending:=pe,fn,tmps:=a.tmps,params:=ps,assign,body,defers:=w.heap.size}:=⟨_,rfl⟩
 have hstate:∀s p,(rec s p).state=s:=λs p=>by rw[hrec]
 have hpend:∀s p,(rec s p).pending=p:=λs p=>by rw[hrec]
 have hset:∀s p s' p',({rec s p with state:=s',pending:=p'}:Loop)=rec s' p':=λs p s' p'=>by rw[hrec]
 have hset2:∀s p s',({rec s p with state:=s'}:Loop)=rec s' p:=λs p s'=>by rw[hrec]
 let W1:World:={w with heap:=(w.heap.push (.deferred (some []))).push (.loop (rec .ready none))}
 have hsz:(w.heap.push (Obj.deferred (some []))).size=w.heap.size+1:=by simp
 refine⟨w.heap.size+1,[lQ w.heap.size],W1,{target:=.fn (.func g) cap,args:=#[.func (.yield (w.heap.size+1)) #[] #[]]},W1,g,#[.func (.yield (w.heap.size+1)) #[] #[]]++cap,W1,?_,?_,λ_ _=>trivial,?_,(λhh=>by cases hh),?_⟩
 ·show (RR fn a.tmps ps assign body none).run P w=_
  subst hrec
  simp[RR,newObj,KW,Md,lQ,W1]
  rfl
 ·show (Nn (a.eval f) (#[UJ (.func (.yield (w.heap.size+1)) #[] #[])].map a.eval)).run P W1=_
  rw[hev];simp[Nn];rfl
 ·unfold dg at hcall
  split at hcall
  ·rename_i fn' hfn
   obtain⟨b,hb⟩:=Option.isSome_iff_exists.1 hcall
   have h1:fn'.name≠"runtime.NumGoroutine":=by simpa using hNG _ _ hfn
   simp[invoke,callFunc,hfn,h1,hb]
  ·cases hcall
 ·-- the call
  have hround:∀vs H' K,H'[w.heap.size+1]?=some (.loop (rec .ready none))->th P N A E sl assign body (w.heap.size+1) rec vs H' K->ck P (w.heap.size+1) vs.toArray H' K:=by
   intro vs H' K hl hr W hW
   subst hW
   obtain⟨x,hx,hr⟩:=fO hr
   have evs:=cQ.ok _ _ _ hx
   have hlen:vs.length=ps.size:=by
    have e1:∀(l:List eJ) (y:cQ.α l),(cQ.enc l y).length=l.length:=by
     intro l
     induction l with
     |nil=>intro y;rfl
     |cons c r ih=>
       intro y
       cases r with
       |nil=>rfl
       |cons d r=>simp only[cQ.enc,List.length_cons];rw[ih];rfl
    rw[evs,e1]
    have:=congrArg List.length hps
    simp only[Array.length_toList,List.length_map] at this
    rw[this];simp[ow]
   have hrun:(Rh (w.heap.size+1) vs.toArray).run P W=.ok (.round (w.heap.size+1) fn ((ps.zip vs.toArray).foldl (λtmps (t,a)=>tmps.setIfInBounds t a) a.tmps) assign body) W:=by
    have e2:(rec .ready none).params=ps/\(rec .ready none).fn=fn/\(rec .ready none).tmps=a.tmps/\(rec .ready none).assign=assign/\(rec .ready none).body=body:=by rw[hrec];exact⟨rfl,rfl,rfl,rfl,rfl⟩
    simp[Rh,O6,getObj,Md,hl,e2,hlen]
   rw[hrun]
   simp only[mO]
   have hfold:(ps.zip vs.toArray).foldl (λtmps (t,a)=>tmps.setIfInBounds t a) a.tmps=(ps.toList.zip vs).foldl (λt (p,v)=>t.setIfInBounds p v) a.tmps:=by
    rw[<-Array.foldl_toList]
    simp
   rw[hfold]
   have hH1:=vX hH (vs:=vs) hnd hlt
   rw[hps,evs] at hH1
   rw[hps,evs]
   refine roundIn_of_wpIn trivial (Lt (λe a1 w1 hp=>?_) (cE (rn:=some (w.heap.size+1)) hNG hm A assign _ _ W _ _ _ hH1 hr))
   obtain⟨E1,k1,k2,k3,k4⟩:=hp
   cases e<;>simp only[nY] at k4<;>try exact k4.elim
   obtain⟨k5,k6⟩:=k4
   let W2:World:={w1 with heap:=w1.heap.setIfInBounds (w.heap.size+1) (.loop (rec .busy none))}
   refine⟨W2,?_,Lt (λe a2 w2 hp=>?_) (cE (rn:=some (w.heap.size+1)) hNG hm A body E1 a1 W2 _ _ _ k1 k6)⟩
   ·simp[Instr.beginRound,O6,getObj,setObj,Md,k5,hset2,hstate,W2]
   ·obtain⟨E2,q1,q2,q3,q4⟩:=hp
    have hal:Alike W w2:=(k3.trans (.of_le rfl (Kl _)):Alike W W2).trans q3
    have fin:∀(j:Option Code) (s:LoopState),s=(if j.isNone then .ready else .done)->w2.heap[w.heap.size+1]?=some (.loop (rec .busy none))->K j.isNone (w2.heap.setIfInBounds (w.heap.size+1) (.loop (rec s j)))->
      ∃v w',(R0 (w.heap.size+1) j).run P w2=.ok v w'/\∃u,Ending.returned v=.returned u/\(∃b,u=.bool b/\K b w'.heap/\Alike W w'):=by
     intro j s hs hl2 hk
     refine⟨.bool j.isNone,{w2 with heap:=w2.heap.setIfInBounds (w.heap.size+1) (.loop (rec s j))},?_,_,rfl,_,rfl,hk,hal.trans (.of_le rfl (Kl _))⟩
     subst hs
     simp[R0,O6,getObj,setObj,Md,hl2,hset]
    cases e<;>simp only[nY] at q4<;>try exact q4.elim
    case normal=>exact fin none .ready rfl q4.1 q4.2
    case exit id=>exact fin (some (.exit id)) .done rfl q4.1 q4.2
    case ret=>exact fin (some .ret) .done rfl q4.1 q4.2
  have hcalls:=h rec hround W1 rfl
  refine callsIn_wide.2 (hcalls.mono λe w3 ⟨v,he,hk,hal⟩=>?_)
  subst he
  obtain⟨s,p,hl,hb,hk⟩:=hk
  have hH':Holds N ((w.heap.size::D).map lQ) E {a with defers:=[lQ w.heap.size]++a.defers}:=
   ⟨hH.size,by rw[hH.defers];rfl,λe he=>hH.all e he⟩
  have hal':Alike w w3:=(.of_le rfl (Kl _):Alike w W1).trans hal
  have hend:(Sc (w.heap.size+1)).run P w3=.ok p {w3 with heap:=w3.heap.setIfInBounds (w.heap.size+1) (.loop (rec .exhausted p))}:=by
   have hne:s≠RZ:=by intro e;subst e;cases hb
   simp[Sc,O6,getObj,setObj,Md,hl,hpend,hstate,hne]
   subst hrec;rfl
  refine⟨p,_,hend,?_⟩
  cases p with
  |none=>exact⟨w.heap.size::D,E,hH',hal'.trans (.of_le rfl (Kl _)),hk⟩
  |some c=>
    cases c<;>simp only at hk<;>try exact hk.elim
    case exit id=>exact wpIn_exit ⟨w.heap.size::D,E,hH',hal'.trans (.of_le rfl (Kl _)),hk⟩
    case ret=>exact wpIn_ret ⟨w.heap.size::D,E,hH',hal'.trans (.of_le rfl (Kl _)),hk⟩
theorem sK.then {w w1:World}{Kn:List Nat->List bK->aa->Prop}{Kx:Nat->List Nat->List bK->aa->Prop}{Kr:List Nat->List bK->aa->Prop}(h:Alike w w1){e:Exit}{a':Act}{w':World}(hp:sK N w1 Kn Kx Kr e a' w'):sK N w Kn Kx Kr e a' w':=by
 obtain⟨D',E',h1,h2,h3⟩:=hp
 exact⟨D',E',h1,h.trans h2,h3⟩
theorem gE (hNG:lD P)(hm:P.follows .mixedOrders=true)(A:yh):∀(c:Code) (D:List Nat) (E:List bK) (a:Act) (w:World) (Kn:List Nat->List bK->aa->Prop) (Kx:Nat->List Nat->List bK->aa->Prop) (Kr:List Nat->List bK->aa->Prop),
  Holds N (D.map lQ) E a->Bm P N A c D E w.heap Kn Kx Kr->c.wpIn (FW none) 0 P (sK N w Kn Kx Kr) a w
 |.seq x y,D,E,a,w,Kn,Kx,Kr,hH,h=>by
   simp only[Bm] at h
   cases hb:(ct x||ct y) with
   |false=>rw[hb] at h;exact cC hNG hm hH h
   |true=>
     rw[hb] at h
     simp only[cond_true] at h
     refine wpIn_seq (Lt (λe a' w' hp=>?_) (gE hNG hm A x D E a w _ _ _ hH h))
     obtain⟨D',E',h1,h3,h4⟩:=hp
     cases e<;>simp only[uC] at h4<;>try exact h4.elim
     case normal=>exact Lt (λe a'' w'' hp=>hp.then h3) (gE hNG hm A y D' E' a' w' Kn Kx Kr h1 h4)
     case exit i=>exact⟨D',E',h1,h3,h4⟩
     case ret=>exact⟨D',E',h1,h3,h4⟩
 |.cond c x y,D,E,a,w,Kn,Kx,Kr,hH,h=>by
   simp only[Bm] at h
   cases hb:(ct x||ct y) with
   |false=>rw[hb] at h;exact cC hNG hm hH h
   |true=>
     rw[hb] at h
     simp only[cond_true] at h
     split at h
     ·rename_i b hb
      have ec:=fR hH (by simp) hb
      refine wpIn_cond ec ?_
      cases b with
      |true=>exact gE hNG hm A x D E a w Kn Kx Kr hH h
      |false=>exact gE hNG hm A y D E a w Kn Kx Kr hH h
     ·exact h.elim
 |.block id c,D,E,a,w,Kn,Kx,Kr,hH,h=>by
   simp only[Bm] at h
   cases hb:ct c with
   |false=>rw[hb] at h;exact cC hNG hm hH h
   |true=>
     rw[hb] at h
     simp only[cond_true] at h
     refine wpIn_block (Lt (λe a' w' hp=>?_) (gE hNG hm A c D E a w _ _ _ hH h))
     obtain⟨D',E',h1,h3,h4⟩:=hp
     cases e<;>simp only[uC] at h4<;>try exact h4.elim
     case normal=>exact⟨D',E',h1,h3,h4⟩
     case exit i=>
      simp only[Sj]
      by_cases hi:i=id
      ·subst hi
       rw[if_pos rfl]
       have e0:K3 i i=true:=SV i
       rw[e0] at h4
       exact⟨D',E',h1,h3,h4⟩
      ·rw[if_neg hi]
       have e0:K3 i id=false:=by
        cases hb:K3 i id with
        |false=>rfl
        |true=>exact absurd (KR hb) hi
       rw[e0] at h4
       exact⟨D',E',h1,h3,h4⟩
     case ret=>exact⟨D',E',h1,h3,h4⟩
 |.rangeFunc f ps assign body,D,E,a,w,Kn,Kx,Kr,hH,h=>by
   simp only[Bm] at h
   split at h
   ·rename_i fv sl hf hsl
    cases hb:(HO ps.toList (sl.map (·.1))&&(kU ps.toList&&ps.toList.all (λp=>L5 p N))) with
    |false=>rw[hb] at h;exact h.elim
    |true=>
      rw[hb] at h
      simp only[cond_true] at h
      simp only[KD,List.all_eq_true] at hb
      exact rh hNG hm hH hf (CR hb.1) hb.2.1 (λp hp=>Nat.lt_of_succ_le (by simpa[L5] using hb.2.2 p hp)) h
   ·exact h.elim
 |.skip,D,E,a,w,Kn,Kx,Kr,hH,h=>cC hNG hm hH h
 |.label _,D,E,a,w,Kn,Kx,Kr,hH,h=>cC hNG hm hH h
 |.exit id,D,E,a,w,Kn,Kx,Kr,hH,h=>cC hNG hm hH h
 |.ret,D,E,a,w,Kn,Kx,Kr,hH,h=>cC hNG hm hH h
 |.region id ops draw,D,E,a,w,Kn,Kx,Kr,hH,h=>cC hNG hm hH h
 |.loop c,D,E,a,w,Kn,Kx,Kr,hH,h=>cC hNG hm hH h
 |.scope c,D,E,a,w,Kn,Kx,Kr,hH,h=>cC hNG hm hH h
 |.goto _,D,E,a,w,Kn,Kx,Kr,hH,h=>cC hNG hm hH h
 |.refuse _,D,E,a,w,Kn,Kx,Kr,hH,h=>cC hNG hm hH h
theorem yc (hNG:lD P)(hm:P.follows .mixedOrders=true){f:FuncId}{A:yh}{args:List Value}{H:aa}{R:Value->aa->Prop}(h:I9 P f A args H R):Spec P f args.toArray H R:=by
 intro w hw
 subst hw
 unfold I9 at h
 split at h
 ·rename_i fn hf
  split at h
  ·rename_i c hc
   cases hb:Nat.ble args.length fn.ntmps with
   |false=>rw[hb] at h;exact h.elim
   |true=>
     rw[hb] at h
     simp only[cond_true] at h
     have hle:args.length<=fn.ntmps:=Nat.le_of_ble_eq_true hb
     refine callsIn_wide.1 (callsIn_of_wp_marks (F:=FW none) hf hc trivial (Lt (λe a' w' hp=>?_) (gE (N:=fn.ntmps) hNG hm A c [] (zm 0 args) _ w _ _ _ ⟨?_,rfl,?_⟩ h)))
     ·obtain⟨D',E',h1,h3,h4⟩:=hp
      have fin:wK P fn.results D' E' w'.heap R->LeavesInM (FW none) 0 P fn a'.tmps (λe w2=>∃v,e=.returned v/\R v w2.heap/\Alike w w2) a'.defers .returning w':=by
       intro h5
       rw[h1.defers]
       refine rV (w0:=w') (λw2 ha hk=>?_) D' w' (.refl _) h5
       obtain⟨v,r1,r2⟩:=uP (fn:=fn) (w:=w2) h1 hk
       exact⟨v,r1,v,rfl,r2,h3.trans ha⟩
      cases e<;>simp only[uC] at h4<;>try exact h4.elim
      case normal=>exact fin h4
      case ret=>exact fin h4
     ·simp;omega
     ·have key:∀(l:List Value) (k:Nat),(∀j v,l[j]?=some v->(args++List.replicate (fn.ntmps - args.length) undef)[k+j]?=some v)->
        ∀e∈zm k l,dY {tmps:=args.toArray++Array.replicate (fn.ntmps - args.toArray.size) undef,defers:=[]} e:=by
       intro l
       induction l with
       |nil=>intro k _ e he;simp[zm] at he
       |cons v r ih=>
         intro k hk e he
         simp only[zm] at he
         rcases Ku.1 he with he|he
         ·subst he
          have:=hk 0 v rfl
          simp only[dY]
          rw[<-Array.getElem?_toList]
          simpa using this
         ·exact ih (k+1) (λj v hj=>by
           have:=hk (j+1) v (by simpa using hj)
           rwa [show k+(j+1)=k+1+j by omega] at this) e he
      exact key args 0 (λj v hj=>by
       have hlt:=(List.getElem?_eq_some_iff.1 hj).1
       rw[Nat.zero_add,List.getElem?_append_left hlt];exact hj)
  ·exact h.elim
 ·exact h.elim
theorem uY (hNG:lD P)(hm:P.follows .mixedOrders=true){c:eJ}{f:FuncId}{A:yh}{args:List Value}{H:aa}{R:c.α->aa->Prop}(h:It c P f A args H R):aj c P f args.toArray H R:=
 (yc hNG hm h).mono λv H' h1=>by
  obtain⟨x,hx,hr⟩:=fO h1
  exact⟨x,c.ok _ _ hx,hr⟩
end
end Go.Proofs.YtkehfflpbpdokaaGreatDoor
