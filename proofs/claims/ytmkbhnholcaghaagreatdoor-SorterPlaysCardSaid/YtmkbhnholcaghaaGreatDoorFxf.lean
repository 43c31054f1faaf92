/-
 Ground, sixth text: code, loops, whole functions.
-/
import Derived.Test.YtmkbhnholcaghaaGreatDoorFxe
open Bool renaming and_eq_true->Ob,not_eq_true'->Pu,or_eq_false_iff->PN
open Go.Code renaming wpIn_mono->Pe
open Go.Deferred renaming ofValue->Q6
open Go.Exit renaming inBlock->VZ
open Go.Fence renaming wide->TV
open Go.Frame renaming atR->Wy
open Go.Instr renaming sureAddr->Qd,getLoop->TZ,yield->U9,enterLoop->Vt,endRound->VG,endLoop->VP
open Go.LoopState renaming busy->VF
open Go.Operand renaming const->Za
open Go.Result renaming andThen_ok->Oz
open Go.Sem renaming run_bind->Ox,run_pure->O4,run->PA
open Go.StepsIn renaming trans->Y9
open Go.stepG renaming exec->Wo
open List renaming mem_append->N6,mem_cons->Of,mem_filter->OC,foldl_cons->Q0,any_append->Q1,zip_cons_cons->TJ,mapM_cons->Va
open Nat renaming le_refl->N3,eq_of_beq_eq_true->Od,beq->Ou,blt->PM,beq_refl->Wz
open Option.some renaming inj->Ow
namespace Go.Proofs.YtmkbhnholcaghaaGreatDoor
def aw (α:Type)(x0:α)(H:aa)(body:(α->aa->Prop)->α->aa->Prop):Prop:=
 ∃(γ:Type) (I:γ->α->aa->Prop) (m:γ->Nat),(∃g,I g x0 H)/\∀g x H',I g x H'->body (λb a=>∃g',I g' b a/\m g'<m g) x H'
def cut (α:Type)(A:(α->aa->Prop)->Prop)(B:α->aa->Prop):Prop:=∃J:α->aa->Prop,A J/\∀x H,J x H->B x H
abbrev AX:=List (Nat×List (Nat×eN))
def x6:AX->Nat->Option (List (Nat×eN))
 |[],_=>none
 |p::r,k=>bif Ou p.1 k then some p.2 else x6 r k
def lead:Code->Option Nat
 |.region id _ _=>some id
 |.seq a b=>(match lead a with|some k=>some k|none=>lead b)
 |.cond _ x y=>(match lead x with|some k=>some k|none=>lead y)
 |.block _ c=>lead c
 |.loop c=>lead c
 |.scope c=>lead c
 |_=>none
def writes:Code->List Nat
 |.region _ ops _=>zy ops.toList
 |.seq a b=>writes a++writes b
 |.cond _ x y=>writes x++writes y
 |.block _ c=>writes c
 |.loop c=>writes c
 |.scope c=>writes c
 |_=>[]
def tK (W:List Nat)(t:Nat):Bool:=W.any (Ou t)
def lR (W:List Nat)(e:bJ):Bool:=!(tK W e.s)&&(match e.g with|some p=>!(tK W p.1)|none=>true)
def qO (sl:List (Nat×eN)):List eN:=sl.map (·.2)
def fJ:List Nat->List Value->List bJ
 |s::r,v::vs=>⟨s,v,none⟩::fJ r vs
 |_,_=>[]
def AM (E:List bJ):List Nat->Option (List Value)
 |[]=>some []
 |s::r=>(match find E s with
   |some ⟨_,v,none⟩=>(match AM E r with|some vs=>some (v::vs)|none=>none)
   |_=>none)
def sK (E:List bJ)(sl:List (Nat×eN)):Option (de.α (qO sl)):=match AM E (sl.map (·.1)) with|some vs=>de.dec (qO sl) vs|none=>none
def iL {α:Type}(o:Option α)(K:α->Prop):Prop:=match o with|some x=>K x|none=>False
def Lz (A:AX)(b:Code):Option (List (Nat×eN)):=match lead b with|some k=>x6 A (100000+k)|none=>none
def tV (P:Program)(N:Nat)(A:AX):Code->List bJ->aa->(List bJ->aa->Prop)->(Nat->List bJ->aa->Prop)->(List bJ->aa->Prop)->Prop
 |.skip,E,H,d,_,_=>d E H
 |.label _,E,H,d,_,_=>d E H
 |.region id ops draw,E,H,d,_,_=>(match (bif draw then x6 A (300000+id) else none) with
   |some (_::_::x::ex)=>Ks (ex.map (·.1)) P N ops E H d
   |some (f::c::_)=>K5 f.1 c.1 P N ops E H d
   |_=>Mf P N ops draw E H d)
 |.seq a b,E,H,d,e,g=>
   (match Lz A b with
   |none=>tV P N A a E H (λh H'=>tV P N A b h H' d e g) e g
   |some sl=>cut (de.α (qO sl)) (λJ=>tV P N A a E H (λh H'=>iL (sK h sl) λx=>J x H') e g)
     λx H'=>tV P N A b (fJ (sl.map (·.1)) (de.enc (qO sl) x)++E.filter (lR (writes a))) H' d e g)
 |.cond c x y,E,H,d,e,g=>
   (match C6 E [] c with
   |some (.bool b)=>br b (tV P N A x E H d e g) (tV P N A y E H d e g)
   |_=>False)
 |.block id c,E,H,d,e,g=>tV P N A c E H d (λi h H'=>bif Ou i id then d h H' else e i h H') g
 |.loop c,E,H,_,e,g=>
   (match (match lead c with|some k=>x6 A k|none=>none) with
   |none=>False
   |some sl=>iL (sK E sl) λx0=>aw (de.α (qO sl)) x0 H λnext x H'=>
     tV P N A c (fJ (sl.map (·.1)) (de.enc (qO sl) x)++E.filter (lR (writes c))) H' (λh j=>iL (sK h sl) λl=>next l j) e g)
 |.scope c,E,H,d,e,g=>tV P N A c E H d e g
 |.exit id,E,H,_,e,_=>e id E H
 |.ret,E,H,_,_,g=>g E H
 |_,_,_,_,_,_=>False
def uR (P:Program):List ResultVar->List bJ->aa->(List Value->Prop)->Prop
 |[],_,_,K=>K []
 |.tmp t::r,E,H,K=>(match C6 E [] (.tmp t) with|some v=>uR P r E H (λvs=>K (v::vs))|none=>False)
 |.cell a t::r,E,H,K=>(bif tw E [] (.load t (.tmp a)) then qX P (.load t (.tmp a)) t (GO E []) none H (λv=>uR P r E H (λvs=>K (v::vs))) else False)
def oneOf:List Value->Value
 |[v]=>v
 |vs=>.tuple ⟨vs⟩
def Je (P:Program)(res:Array ResultVar)(E:List bJ)(H:aa)(R:Value->aa->Prop):Prop:=uR P res.toList E H λvs=>R (oneOf vs) H
def Cz:Nat->List Value->List bJ
 |_,[]=>[]
 |k,v::r=>⟨k,v,none⟩::Cz (k+1) r
def cM:Code->Bool
 |.rangeFunc ..=>true
 |.seq a b=>cM a||cM b
 |.cond _ x y=>cM x||cM y
 |.block _ c=>cM c
 |_=>false
abbrev Rec:=LoopState->Option Code->Loop
def nI (l:Nat)(rec:Rec)(H:aa)(fin:aa->Prop)(b:Nat->aa->Prop)(a:aa->Prop):Prop:=
 ∃s p,H[l]?=some (.loop (rec s p))/\(s==VF)=false/\
   (match p with
   |none=>fin (H.setIfInBounds l (.loop (rec .exhausted none)))
   |some c=>(match c with
     |.exit id=>b id (H.setIfInBounds l (.loop (rec .exhausted (some (.exit id)))))
     |.ret=>a (H.setIfInBounds l (.loop (rec .exhausted (some .ret))))
     |_=>False))
def oM (P:Program)(c:Value)(H:aa)(body:Nat->Rec->List Value->aa->(Bool->aa->Prop)->Prop)(fin:Nat->aa->Prop)(b:Nat->Nat->aa->Prop)(a:Nat->aa->Prop):Prop:=
 ∃g cap,c=.func (.func g) #[] cap/\cO P g=true/\∀rec:Rec,
   (∀vs H' K,H'[H.size+1]?=some (.loop (rec .ready none))->body (H.size+1) rec vs H' K->bZ P (H.size+1) vs.toArray H' K)->
   Spec P g (#[.func (.yield (H.size+1)) #[] #[]]++cap) ((H.push (.deferred (some []))).push (.loop (rec .ready none)))
    λ_ d=>nI (H.size+1) rec d (fin H.size) (λid=>b id H.size) (a H.size)
def nN:List Nat->Bool
 |[]=>true
 |x::r=>!(tK r x)&&nN r
def Lo:List Nat->List Nat->Bool
 |[],[]=>true
 |x::r,y::t=>Ou x y&&Lo r t
 |_,_=>false
def vK (P:Program)(N:Nat)(A:AX)(E:List bJ)(sl:List (Nat×eN))(assign body:Code)(l:Nat)(rec:Rec)(vs:List Value)(H:aa)(K:Bool->aa->Prop):Prop:=
 iL (de.dec (qO sl) vs) λx=>
  tV P N A assign (fJ (sl.map (·.1)) (de.enc (qO sl) x)++E.filter (lR (sl.map (·.1)))) H
   (λb H1=>H1[l]?=some (.loop (rec .ready none))/\tV P N A body b (H1.setIfInBounds l (.loop (rec .busy none)))
    (λ_ a=>a[l]?=some (.loop (rec .busy none))/\K true (a.setIfInBounds l (.loop (rec .ready none))))
    (λid _ a=>a[l]?=some (.loop (rec .busy none))/\K false (a.setIfInBounds l (.loop (rec .done (some (.exit id))))))
    (λ_ a=>a[l]?=some (.loop (rec .busy none))/\K false (a.setIfInBounds l (.loop (rec .done (some .ret))))))
   (λ_ _ _=>False) (λ_ _=>False)
def Ew (P:Program)(N:Nat)(A:AX):Code->List Nat->List bJ->aa->(List Nat->List bJ->aa->Prop)->(Nat->List Nat->List bJ->aa->Prop)->(List Nat->List bJ->aa->Prop)->Prop
 |.seq a b,D,E,H,d,e,g=>
   bif cM a||cM b then Ew P N A a D E H (λh j H'=>Ew P N A b h j H' d e g) e g
   else tV P N A (.seq a b) E H (d D) (λi=>e i D) (g D)
 |.cond c x y,D,E,H,d,e,g=>
   bif cM x||cM y then
    (match C6 E [] c with
    |some (.bool b)=>br b (Ew P N A x D E H d e g) (Ew P N A y D E H d e g)
    |_=>False)
   else tV P N A (.cond c x y) E H (d D) (λi=>e i D) (g D)
 |.block id c,D,E,H,d,e,g=>
   bif cM c then Ew P N A c D E H d (λi h j H'=>bif Ou i id then d h j H' else e i h j H') g
   else tV P N A (.block id c) E H (d D) (λi=>e i D) (g D)
 |.rangeFunc f ps assign body,D,E,H,d,e,g=>
   (match C6 E [] f,x6 A (200000+(lead body).getD 0) with
   |some k,some sl=>bif Lo ps.toList (sl.map (·.1))&&(nN ps.toList&&ps.toList.all (λp=>PM p N)) then
     oM P k H (vK P N A E sl assign body) (λr H'=>d (r::D) E H') (λid r H'=>e id (r::D) E H') (λr H'=>g (r::D) E H') else False
   |_,_=>False)
 |c,D,E,H,d,e,g=>tV P N A c E H (d D) (λi=>e i D) (g D)
def Ar:List Nat->aa->(aa->Prop)->Prop
 |[],H,K=>K H
 |r::D,H,K=>H[r]?=some (.deferred (some []))/\Ar D (H.setIfInBounds r (.deferred none)) K
def zu (P:Program)(res:Array ResultVar)(D:List Nat)(E:List bJ)(H:aa)(R:Value->aa->Prop):Prop:=Ar D H λH'=>Je P res E H' R
def Mc (P:Program)(f:FuncId)(A:AX)(args:List Value)(H:aa)(R:Value->aa->Prop):Prop:=
 match P.funcs[f]? with
 |some fn=>(match fn.body with
   |some c=>(bif Nat.ble args.length fn.ntmps then Ew P fn.ntmps A c [] (Cz 0 args) H (λD E H'=>zu P fn.results D E H' R) (λ_ _ _ _=>False) (λD E H'=>zu P fn.results D E H' R) else False)
   |none=>False)
 |none=>False
def Lx (c:eN)(P:Program)(f:FuncId)(A:AX)(args:List Value)(H:aa)(R:c.α->aa->Prop):Prop:=
 Mc P f A args H λv H'=>iL (c.dec v) λx=>R x H'
theorem gv {α:Type}{o:Option α}{K:α->Prop}(h:iL o K):∃x,o=some x/\K x:=by
 cases o with
 |none=>exact h.elim
 |some x=>exact⟨x,rfl,h⟩
section
variable {P:Program}{N:Nat}{D:List Deferred}{rn:Option Nat}
theorem dz (W:List Nat)(t:Nat):tK W t=W.contains t:=by
 unfold tK;rw[List.contains_eq_any_beq];congr 1;funext x;cases h:Ou t x with
 |true=>have:=Od h;subst this;simp
 |false=>
   have:t≠x:=λe=>by subst e;simp at h
   simpa using this
theorem Holds.keep {E:List bJ}{a f:Act}{W:List Nat}(hH:Holds N D E a)(hs:f.tmps.size=N)(hd:f.defers=D)(i:gS W a f):Holds N D (E.filter (lR W)) f:=by
 refine⟨hs,hd,λe he=>?_⟩;obtain⟨h1,d⟩:=OC.1 he;have c:=hH.all e h1;unfold lR at d;simp only[Ob,Pu,dz] at d;have g:=i e.s d.1;unfold fq at c ⊢;cases j:e.g with
 |none=>rw[j] at c;exact g.trans c
 |some p=>
   rw[j] at c d;obtain⟨s,b⟩:=p;have e2:=i s (by have:=d.2;simpa using this);refine⟨λh=>g.trans (c.1 (e2.symm.trans h)),λh=>g.trans (c.2 λq=>h (e2.trans q))⟩
theorem Holds.append {E b:List bJ}{a:Act}(h:Holds N D E a)(k:Holds N D b a):Holds N D (E++b) a:=
 ⟨h.size,h.defers,λe he=>(N6.1 he).elim (h.all e) (k.all e)⟩
theorem rF {E:List bJ}{a:Act}(hH:Holds N D E a):∀{l:List Nat} {vs:List Value},AM E l=some vs->Holds N D (fJ l vs) a
 |[],vs,h=>⟨hH.size,hH.defers,by cases vs<;>simp[fJ]⟩
 |s::r,vs,h=>by
   unfold AM at h;split at h
   ·rename_i s' v d;split at h
    ·rename_i b f;have e:v::b=vs:=Ow h;subst e;have g:=rF hH f;obtain⟨h1,c⟩:=fK d;refine⟨hH.size,hH.defers,λe he=>?_⟩;simp only[fJ] at he;rcases Of.1 he with he|he
     ·subst he;have:=hH.all _ h1;simp only at c;subst c;exact this
     ·exact g.all e he
    ·cases h
   ·cases h
theorem lC {E:List bJ}{a:Act}{sl:List (Nat×eN)}{x:de.α (qO sl)}(hH:Holds N D E a)(h:sK E sl=some x):Holds N D (fJ (sl.map (·.1)) (de.enc (qO sl) x)) a:=by
 unfold sK at h;split at h
 ·rename_i vs b;have:=de.ok _ _ _ h;rw[<-this];exact rF hH b
 ·cases h
theorem exists_least {p:Nat->Prop}:∀n,p n->∃k,p k/\∀j,p j->k<=j:=by
 intro n
 induction n using Nat.strongRecOn with
 |_ n a=>
   intro b;by_cases h:∃j,j<n/\p j
   ·obtain⟨j,h1,c⟩:=h;exact a j h1 c
   ·exact⟨n,b,λj d=>by
     rcases Nat.lt_or_ge j n with h1|h1
     ·exact absurd ⟨j,h1,d⟩ h
     ·exact h1⟩
open Classical in
noncomputable def least (p:Nat->Prop):Nat:=if h:∃k,p k/\∀j,p j->k<=j then h.choose else 0
theorem sM {p:Nat->Prop}{n:Nat}(h:p n):p (least p)/\∀j,p j->least p<=j:=by
 have h1:=exists_least n h;unfold least;rw[dif_pos h1];exact h1.choose_spec
def qD (a:List bJ->aa->Prop)(b:Nat->List bJ->aa->Prop)(c:List bJ->aa->Prop):Exit->List bJ->aa->Prop
 |.normal,E,H=>a E H
 |.exit id,E,H=>b id E H
 |.ret,E,H=>c E H
 |_,_,_=>False
def post (N:Nat)(D:List Deferred)(W:List Nat)(a:Act)(w:World)(d:List bJ->aa->Prop)(f:Nat->List bJ->aa->Prop)(g:List bJ->aa->Prop)(e:Exit)(b:Act)(w':World):Prop:=
 ∃c,Holds N D c b/\gS W a b/\Alike w w'/\qD d f g e c w'.heap
theorem y7 {F:Fence}{n:Nat}{Q:Exit->Act->World->Prop}{a:Act}{w:World}{c:Code}(h:c.wpIn F n P (λe a w=>match e with|.goto _=>False|e=>Q e a w) a w):(Code.scope c).wpIn F n P Q a w:=by
 intro b k cs j m o;have g:(lone (b.atR a (.code (.scope c)::k)) cs w).fenced P F:=fenced_calm m o rfl;have s1:step P (lone (b.atR a (.code (.scope c)::k)) cs w)=.next (lone (b.atR a (.code c::.inScope c::k)) cs w):=step_lone_go (by simp[stepG,Wo,Wy])
 have s2:∀a w,step P (lone (b.atR a (.inScope c::k)) cs w)=.next (lone (b.atR a k) cs w):=λa w=>step_lone_go (by simp[stepG,Wo,Wy])
 obtain⟨e,a₁,w₁,i,d⟩:=h b (.inScope c::k) cs j m o;cases e with
 |normal=>exact⟨.normal,a₁,w₁,i,.head g s1 (Y9 d (.one (fenced_calm m o rfl) (s2 _ _)))⟩
 |exit f=>
   have q:exitTo f (.inScope c::k)=exitTo f k:=by simp[exitTo]
   exact⟨.exit f,a₁,w₁,i,λr hk=>.head g s1 (d.1 r (by rw[q];exact hk)),
    λp hk=>let ⟨k₁,h1,s⟩:=d.2 p (by rw[q];exact hk);⟨k₁,h1,.head g s1 s⟩⟩
 |goto l=>exact i.elim
 |ret=>exact⟨_,a₁,w₁,i,.of_steps (.one g s1) d⟩
 |panic ch=>exact⟨_,a₁,w₁,i,.of_steps (.one g s1) d⟩
 |outgrown=>exact⟨_,a₁,w₁,i,.of_steps (.one g s1) d⟩
theorem cY (o:lO P)(hm:P.follows .mixedOrders=true)(A:AX):∀(c:Code) (E:List bJ) (a:Act) (w:World) (r:List bJ->aa->Prop) (s:Nat->List bJ->aa->Prop) (u:List bJ->aa->Prop),
  Holds N D E a->tV P N A c E w.heap r s u->c.wpIn (FW rn) 0 P (post N D (writes c) a w r s u) a w
 |.skip,E,a,w,r,s,u,hH,h=>wpIn_skip ⟨E,hH,.refl _ _,.refl _,h⟩
 |.label _,E,a,w,r,s,u,hH,h=>wpIn_label ⟨E,hH,.refl _ _,.refl _,h⟩
 |.exit id,E,a,w,r,s,u,hH,h=>wpIn_exit ⟨E,hH,.refl _ _,.refl _,h⟩
 |.ret,E,a,w,r,s,u,hH,h=>wpIn_ret ⟨E,hH,.refl _ _,.refl _,h⟩
 |.region id ops draw,E,a,w,r,s,u,hH,h=>by
   simp only[tV] at h;split at h
   ·rename_i _ _ _ ex hl;cases draw with
    |false=>cases hl
    |true=>exact AF o hm hH (λk q w' h1 j l d=>⟨k,h1,j,l,d⟩) h
   ·rename_i f c _ _ hl;cases draw with
    |false=>cases hl
    |true=>exact zn o hm hH (λk q w' h1 j l d=>⟨k,h1,j,l,d⟩) h
   ·exact BZ o hm hH (λk q w' h1 j l d=>⟨k,h1,j,l,d⟩) h
 |.cond c x y,E,a,w,r,s,u,hH,h=>by
   simp only[tV] at h;split at h
   ·rename_i b R;have ec:=gF hH (by simp) R;refine wpIn_cond ec ?_;cases b with
    |true=>
      exact Pe (λe q w' ⟨k,h1,j,l,d⟩=>⟨k,h1,j.mono (λt z=>by
       simp only[writes,<-dz,tK,Q1,PN] at z ⊢;exact z.1),l,d⟩) (cY o hm A x E a w r s u hH h)
    |false=>
      exact Pe (λe q w' ⟨k,h1,j,l,d⟩=>⟨k,h1,j.mono (λt z=>by
       simp only[writes,<-dz,tK,Q1,PN] at z ⊢;exact z.2),l,d⟩) (cY o hm A y E a w r s u hH h)
   ·exact h.elim
 |.block id c,E,a,w,r,s,u,hH,h=>by
   refine wpIn_block (Pe (λe q w' B=>?_) (cY o hm A c E a w _ _ _ hH h));obtain⟨k,h1,j,l,d⟩:=B;cases e<;>simp only[qD] at d<;>try exact d.elim
   case normal=>exact⟨k,h1,j,l,d⟩
   case exit i=>
    simp only[VZ];by_cases hi:i=id
    ·subst hi;rw[if_pos rfl];have S:Ou i i=true:=Wz i;rw[S] at d;exact⟨k,h1,j,l,d⟩
    ·rw[if_neg hi];have S:Ou i id=false:=by
      cases R:Ou i id with
      |false=>rfl
      |true=>exact absurd (Od R) hi
     rw[S] at d;exact⟨k,h1,j,l,d⟩
   case ret=>exact⟨k,h1,j,l,d⟩
 |.seq x y,E,a,w,r,s,u,hH,h=>by
   have H:∀t,(writes (.seq x y)).contains t=false->(writes x).contains t=false:=λt z=>by
    simp only[writes,<-dz,tK,Q1,PN] at z ⊢;exact z.1
   have wy:∀t,(writes (.seq x y)).contains t=false->(writes y).contains t=false:=λt z=>by
    simp only[writes,<-dz,tK,Q1,PN] at z ⊢;exact z.2
   simp only[tV] at h;split at h
   ·refine wpIn_seq (Pe (λe q w' B=>?_) (cY o hm A x E a w _ _ _ hH h));obtain⟨k,h1,j,l,d⟩:=B;cases e<;>simp only[qD] at d<;>try exact d.elim
    case normal=>
     exact Pe (λe T U ⟨F,K,L,M,O⟩=>⟨F,K,(j.mono H).trans (L.mono wy),l.trans M,O⟩) (cY o hm A y k q w' r s u h1 d)
    case exit i=>exact⟨k,h1,j.mono H,l,d⟩
    case ret=>exact⟨k,h1,j.mono H,l,d⟩
   ·rename_i sl hsl;obtain⟨J,hA,hB⟩:=h;refine wpIn_seq (Pe (λe q w' B=>?_) (cY o hm A x E a w _ _ _ hH hA));obtain⟨k,h1,j,l,d⟩:=B;cases e<;>simp only[qD] at d<;>try exact d.elim
    case normal=>
     obtain⟨v,hv,hJ⟩:=gv d;have V:=(lC h1 hv).append (hH.keep h1.size h1.defers j);exact Pe (λe T U ⟨F,K,L,M,O⟩=>⟨F,K,(j.mono H).trans (L.mono wy),l.trans M,O⟩) (cY o hm A y _ q w' r s u V (hB _ _ hJ))
    case exit i=>exact⟨k,h1,j.mono H,l,d⟩
    case ret=>exact⟨k,h1,j.mono H,l,d⟩
 |.loop c,E,a,w,r,s,u,hH,h=>by
   simp only[tV] at h;split at h
   ·exact h.elim
   ·rename_i sl hsl;obtain⟨x0,W,γ,I,m,⟨g0,X⟩,C⟩:=gv h
    let Inv:γ->Act->World->Prop:=λg q w'=>∃x,Holds N D (fJ (sl.map (·.1)) (de.enc (qO sl) x)++E.filter (lR (writes c))) q/\gS (writes c) a q/\Alike w w'/\I g x w'.heap
    let p:Act->World->Nat->Prop:=λq w' n=>∃g,m g=n/\Inv g q w'
    refine wpIn_loop (λq w'=>∃g,Inv g q w') (λq w'=>least (p q w')) ?_ ?_
    ·exact⟨g0,x0,(lC hH W).append (hH.keep hH.size hH.defers (.refl _ _)),.refl _ _,.refl _,X⟩
    ·intro a1 w1 ⟨g,hg⟩;obtain⟨⟨g1,an,x1,K,L,M,O⟩,af⟩:=sM (p:=p a1 w1) (n:=m g) ⟨g,rfl,hg⟩;refine Pe (λe q w' B=>?_) (cY o hm A c _ a1 w1 _ _ _ K (C g1 x1 _ O));obtain⟨k,h1,j,l,d⟩:=B;have Q:gS (writes c) a q:=L.trans j;have G:Alike w w':=M.trans l;cases e<;>simp only[qD] at d<;>try exact d.elim
     case normal=>
      obtain⟨x',Y,g',Z,a6⟩:=gv d;have hinv:Inv g' q w':=⟨x',(lC h1 Y).append (hH.keep h1.size h1.defers Q),Q,G,Z⟩;refine⟨⟨g',hinv⟩,?_⟩;have:=(sM (p:=p q w') (n:=m g') ⟨g',rfl,hinv⟩).2 (m g') ⟨g',rfl,hinv⟩;omega
     case exit i=>exact⟨k,h1,Q,G,d⟩
     case ret=>exact⟨k,h1,Q,G,d⟩
 |.rangeFunc _ _ _ _,_,_,_,_,_,_,_,h=>h.elim
 |.scope c,E,a,w,r,s,u,hH,h=>by
   refine y7 (Pe (λe q w' B=>?_) (cY o hm A c E a w r s u hH h));obtain⟨k,h1,j,l,d⟩:=B;cases e<;>simp only[qD] at d<;>try exact d.elim
   all_goals exact⟨k,h1,j,l,d⟩
 |.goto _,_,_,_,_,_,_,_,h=>h.elim
 |.refuse _,_,_,_,_,_,_,_,h=>h.elim
theorem lX {E:List bJ}{a:Act}{w:World}(hH:Holds N D E a):∀{l:List ResultVar} {K:List Value->Prop},uR P l E w.heap K->
  ∃vs,(l.mapM λr=>(match r with
    |.tmp t=>pure (a.tmps.getD t undef)
    |.cell ad t=>do loadVar t (<-asAddr (a.tmps.getD ad undef)):Sem Value)).run P w=.ok vs w/\K vs
 |[],K,h=>⟨[],rfl,h⟩
 |.tmp t::r,K,h=>by
   simp only[uR] at h;split at h
   ·rename_i v i;obtain⟨vs,h1,d⟩:=lX hH h;have e:a.tmps.getD t undef=v:=gF (x:=.tmp t) hH (by simp) i;refine⟨v::vs,?_,d⟩;rw[Va];simp only[Ox,O4,Oz,e];rw[h1];rfl
   ·exact h.elim
 |.cell ad t::r,K,h=>by
   simp only[uR] at h;cases f:tw E [] (.load t (.tmp ad)) with
   |false=>rw[f] at h;exact h.elim
   |true=>
     rw[f] at h;simp only[cond_true] at h;obtain⟨v,h1,d⟩:=jr (o:=⟨none,.load t (.tmp ad),t,"",#[],none⟩) h;obtain⟨vs,j,k⟩:=lX hH d;have c:=h1 w rfl;rw[<-qd (o:=⟨none,.load t (.tmp ad),t,"",#[],none⟩) hH (by simp) f (by intro cs b e;cases e)] at c;simp only[execOp,Instr.loadAt,Ox] at c;refine⟨v::vs,?_,k⟩;rw[Va];have e2:(do loadVar t (<-asAddr (a.tmps.getD ad undef)):Sem Value).run P w=.ok v w:=by
      have m:a.eval (.tmp ad)=a.tmps.getD ad undef:=rfl;rw[m] at c;generalize a.tmps.getD ad undef=q at*;cases q with
      |pointer p=>
        cases p with
        |none=>simp[Qd] at c
        |some ad=>
          simp only[Qd,O4,Oz] at c;simp only[asAddr,Ox,O4,Oz];cases g:(loadVar t ad).run P w with
          |ok u n=>rw[g] at c;simp at c;rw[c.1,c.2]
          |halt x n=>rw[g] at c;simp at c
      |_=>simp[Qd] at c
     simp only[Ox] at e2 ⊢;rw[e2];simp only[Oz,j,O4]
theorem yC {fn:Func}{E:List bJ}{a:Act}{w:World}{R:Value->aa->Prop}(hH:Holds N D E a)(h:Je P fn.results E w.heap R):
  ∃v,(results fn a.tmps).run P w=.ok v w/\R v w.heap:=by
 obtain⟨vs,h1,b⟩:=lX hH h;refine⟨oneOf vs,?_,b⟩;unfold results;rw[Ox,Array.mapM_eq_mapM_toList,Sem.run_map];have e:∀{g:ResultVar->Sem Value},(fn.results.toList.mapM g).run P w=.ok vs w->
   ((((fn.results.toList.mapM g).run P w).andThen λa w'=>Result.ok a.toArray w').andThen λvs w'=>(pure (if h:vs.size=1 then vs[0] else .tuple vs):Sem Value).run P w')=.ok (oneOf vs) w:=by
  intro g c;rw[c];simp only[Oz,O4];congr 1;cases vs with
  |nil=>rfl
  |cons v r=>
    cases r with
    |nil=>rfl
    |cons v2 r=>simp[oneOf]
 exact e h1
def oJ (r:Nat):Deferred:={target:=.collected r,args:=#[]}
theorem uV {fn:Func}{tmps:Array Value}{R:Ending->World->Prop}{w0:World}{K:aa->Prop}(b:∀w,Alike w0 w->K w.heap->LeavesIn TV 0 P fn tmps R [] .returning w):
  ∀(D:List Nat) (w:World),Alike w0 w->Ar D w.heap K->LeavesInM TV 0 P fn tmps R (D.map oJ) .returning w
 |[],w,a,h=>b w a h
 |r::D,w,a,h=>by
   obtain⟨h1,c⟩:=h;refine⟨by simp,.inl ⟨r,{w with heap:=w.heap.setIfInBounds r (.deferred none)},rfl,?_,uV b D _ (a.trans (.of_le rfl (N3 _))) c⟩⟩;simp[Instr.takeDeferred,getObj,setObj,PA,h1]
theorem sH {W:List Nat}{t:Nat}:tK W t=true↔t∈W:=by
 rw[dz];simp
theorem uG:∀(ps:List Nat) (vs:List Value) (a:Array Value),((ps.zip vs).foldl (λt (p,v)=>t.setIfInBounds p v) a).size=a.size
 |[],_,_=>rfl
 |_::_,[],_=>rfl
 |p::ps,v::vs,a=>by simp only[TJ,Q0];rw[uG ps vs];simp
theorem jZ:∀(ps:List Nat) (vs:List Value) (a:Array Value) (t:Nat),t∉ps->((ps.zip vs).foldl (λt (p,v)=>t.setIfInBounds p v) a)[t]?=a[t]?
 |[],_,_,_,_=>rfl
 |_::_,[],_,_,_=>rfl
 |p::ps,v::vs,a,t,h=>by
   simp only[Of,not_or] at h;simp only[TJ,Q0];rw[jZ ps vs _ t h.2,Array.getElem?_setIfInBounds_ne (Ne.symm h.1)]
theorem rh:∀(ps:List Nat) (vs:List Value) (b:Array Value),nN ps=true->(∀p∈ps,p<b.size)->∀e∈fJ ps vs,e.g=none/\((ps.zip vs).foldl (λt (p,v)=>t.setIfInBounds p v) b)[e.s]?=some e.v
 |[],vs,_,_,_,e,he=>by cases vs<;>simp[fJ] at he
 |_::_,[],_,_,_,e,he=>by simp[fJ] at he
 |p::ps,v::vs,b,a,d,e,he=>by
   simp only[nN,Ob,Pu] at a;simp only[fJ] at he;simp only[TJ,Q0];rcases Of.1 he with he|he
   ·subst he;refine⟨rfl,?_⟩;have c:p∉ps:=λh=>by rw[sH.2 h] at a;cases a.1
    rw[jZ ps vs _ p c];simp[d p List.mem_cons_self]
   ·exact rh ps vs _ a.2 (λq f=>by simpa using d q (List.mem_cons_of_mem _ f)) e he
theorem xM {E:List bJ}{a:Act}(hH:Holds N D E a){ps:List Nat}{vs:List Value}(k:nN ps=true)(l:∀p∈ps,p<N):
  Holds N [] (fJ ps vs++E.filter (lR ps)) {tmps:=(ps.zip vs).foldl (λt (p,v)=>t.setIfInBounds p v) a.tmps,defers:=[]}:=by
 refine⟨(uG _ _ _).trans hH.size,rfl,λe he=>?_⟩;rcases N6.1 he with he|he
 ·obtain⟨h1,d⟩:=rh ps vs a.tmps k (λp f=>by rw[hH.size];exact l p f) e he;unfold fq;rw[h1];exact d
 ·obtain⟨h1,d⟩:=OC.1 he;have c:=hH.all e h1;unfold lR at d;simp only[Ob,Pu] at d;have g:((ps.zip vs).foldl (λt (p,v)=>t.setIfInBounds p v) a.tmps)[e.s]?=a.tmps[e.s]?:=jZ _ _ _ _ (λh=>by rw[sH.2 h] at d;cases d.1);unfold fq at c ⊢;cases j:e.g with
  |none=>rw[j] at c;exact g.trans c
  |some p=>
    rw[j] at c d;obtain⟨s,b⟩:=p;have e2:((ps.zip vs).foldl (λt (p,v)=>t.setIfInBounds p v) a.tmps)[s]?=a.tmps[s]?:=jZ _ _ _ _ (λh=>by
     have i:=d.2;simp only[Pu] at i;rw[sH.2 h] at i;cases i)
    exact⟨λh=>g.trans (c.1 (e2.symm.trans h)),λh=>g.trans (c.2 λq=>h (e2.trans q))⟩
theorem DV:∀{a b:List Nat},Lo a b=true->a=b
 |[],[],_=>rfl
 |x::r,y::t,h=>by
   simp only[Lo,Ob] at h;rw[Od h.1,DV h.2]
def vu (a:List Nat->List bJ->aa->Prop)(b:Nat->List Nat->List bJ->aa->Prop)(c:List Nat->List bJ->aa->Prop):Exit->List Nat->List bJ->aa->Prop
 |.normal,D,E,H=>a D E H
 |.exit id,D,E,H=>b id D E H
 |.ret,D,E,H=>c D E H
 |_,_,_,_=>False
def u7 (N:Nat)(w:World)(c:List Nat->List bJ->aa->Prop)(d:Nat->List Nat->List bJ->aa->Prop)(f:List Nat->List bJ->aa->Prop)(e:Exit)(g:Act)(w':World):Prop:=
 ∃a b,Holds N (a.map oJ) b g/\Alike w w'/\vu c d f e a b w'.heap
theorem cU (b:lO P)(hm:P.follows .mixedOrders=true){A:AX}{c:Code}{D:List Nat}{E:List bJ}{a:Act}{w:World}{d:List Nat->List bJ->aa->Prop}{f:Nat->List Nat->List bJ->aa->Prop}{g:List Nat->List bJ->aa->Prop}
  (hH:Holds N (D.map oJ) E a) (h:tV P N A c E w.heap (d D) (λi=>f i D) (g D)):c.wpIn (FW none) 0 P (u7 N w d f g) a w:=
 Pe (λe m w' ⟨k,h1,_,l,j⟩=>⟨D,k,h1,l,by cases e<;>first|exact j|exact j.elim⟩) (cY b hm A c E a w _ _ _ hH h)
theorem tR (B:lO P)(hm:P.follows .mixedOrders=true){A:AX}{f:Operand}{ps:Array Tmp}{assign body:Code}{D:List Nat}{E:List bJ}{a:Act}{w:World}{fv:Value}{sl:List (Nat×eN)}
  {Kn:List Nat->List bJ->aa->Prop} {Kx:Nat->List Nat->List bJ->aa->Prop} {Kr:List Nat->List bJ->aa->Prop}
  (hH:Holds N (D.map oJ) E a) (hf:C6 E [] f=some fv) (C:ps.toList=sl.map (·.1)) (Y:nN ps.toList=true) (Z:∀p∈ps.toList,p<N)
  (h:oM P fv w.heap (vK P N A E sl assign body) (λr H'=>Kn (r::D) E H') (λid r H'=>Kx id (r::D) E H') (λr H'=>Kr (r::D) E H')):
  (Code.rangeFunc f ps assign body).wpIn (FW none) 0 P (u7 N w Kn Kx Kr) a w:=by
 obtain⟨g,cap,rfl,k,h⟩:=h;have af:a.eval f=.func (.func g) #[] cap:=gF hH (by simp) hf;refine wpIn_rangeFunc (λfn _=>?_);obtain⟨rec,i⟩:∃rec:Rec,rec=λst pe=>{state:=st,pending:=pe,fn,tmps:=a.tmps,params:=ps,assign,body,defers:=w.heap.size}:=⟨_,rfl⟩;have m:∀s p,(rec s p).state=s:=λs p=>by rw[i]
 have F:∀s p,(rec s p).pending=p:=λs p=>by rw[i]
 have Q:∀s p s' p',({rec s p with state:=s',pending:=p'}:Loop)=rec s' p':=λs p s' p'=>by rw[i]
 have G:∀s p s',({rec s p with state:=s'}:Loop)=rec s' p:=λs p s'=>by rw[i]
 let H:World:={w with heap:=(w.heap.push (.deferred (some []))).push (.loop (rec .ready none))}
 have a8:(w.heap.push (Obj.deferred (some []))).size=w.heap.size+1:=by simp
 refine⟨w.heap.size+1,[oJ w.heap.size],H,{target:=.fn (.func g) cap,args:=#[.func (.yield (w.heap.size+1)) #[] #[]]},H,g,#[.func (.yield (w.heap.size+1)) #[] #[]]++cap,H,?_,?_,λ_ _=>trivial,?_,(λhh=>by cases hh),?_⟩
 ·show (Vt fn a.tmps ps assign body none).run P w=_;subst i;simp[Vt,newObj,Ox,PA,oJ,H];rfl
 ·show (Q6 (a.eval f) (#[Za (.func (.yield (w.heap.size+1)) #[] #[])].map a.eval)).run P H=_;rw[af];simp[Q6];rfl
 ·unfold cO at k;split at k
  ·rename_i an R;obtain⟨b,hb⟩:=Option.isSome_iff_exists.1 k;have h1:an.name≠"runtime.NumGoroutine":=by simpa using B _ _ R
   simp[invoke,callFunc,R,h1,hb]
  ·cases k
 ·-- the call
  have o:∀vs H' K,H'[w.heap.size+1]?=some (.loop (rec .ready none))->vK P N A E sl assign body (w.heap.size+1) rec vs H' K->bZ P (w.heap.size+1) vs.toArray H' K:=by
   intro vs H' K hl hr W hW;subst hW;obtain⟨x,hx,hr⟩:=gv hr;have I:=de.ok _ _ _ hx;have hlen:vs.length=ps.size:=by
    have e1:∀(l:List eN) (y:de.α l),(de.enc l y).length=l.length:=by
     intro l
     induction l with
     |nil=>intro y;rfl
     |cons c r ih=>
       intro y;cases r with
       |nil=>rfl
       |cons d r=>simp only[de.enc,List.length_cons];rw[ih];rfl
    rw[I,e1];have:=congrArg List.length C;simp only[Array.length_toList,List.length_map] at this;rw[this];simp[qO]
   have S:(U9 (w.heap.size+1) vs.toArray).run P W=.ok (.round (w.heap.size+1) fn ((ps.zip vs.toArray).foldl (λtmps (t,a)=>tmps.setIfInBounds t a) a.tmps) assign body) W:=by
    have e2:(rec .ready none).params=ps/\(rec .ready none).fn=fn/\(rec .ready none).tmps=a.tmps/\(rec .ready none).assign=assign/\(rec .ready none).body=body:=by rw[i];exact⟨rfl,rfl,rfl,rfl,rfl⟩
    simp[U9,TZ,getObj,PA,hl,e2,hlen]
   rw[S];simp only[pa];have J:(ps.zip vs.toArray).foldl (λtmps (t,a)=>tmps.setIfInBounds t a) a.tmps=(ps.toList.zip vs).foldl (λt (p,v)=>t.setIfInBounds p v) a.tmps:=by
    rw[<-Array.foldl_toList];simp
   rw[J];have T:=xM hH (vs:=vs) Y Z;rw[C,I] at T;rw[C,I];refine roundIn_of_wpIn trivial (Pe (λe a1 w1 hp=>?_) (cY (rn:=some (w.heap.size+1)) B hm A assign _ _ W _ _ _ T hr));obtain⟨E1,k1,k2,k3,k4⟩:=hp;cases e<;>simp only[qD] at k4<;>try exact k4.elim
   obtain⟨k5,k6⟩:=k4
   let V:World:={w1 with heap:=w1.heap.setIfInBounds (w.heap.size+1) (.loop (rec .busy none))}
   refine⟨V,?_,Pe (λe a2 O hp=>?_) (cY (rn:=some (w.heap.size+1)) B hm A body E1 a1 V _ _ _ k1 k6)⟩
   ·simp[Instr.beginRound,TZ,getObj,setObj,PA,k5,G,m,V]
   ·obtain⟨E2,q1,q2,q3,z⟩:=hp;have L:Alike W O:=(k3.trans (.of_le rfl (N3 _)):Alike W V).trans q3;have fin:∀(j:Option Code) (s:LoopState),s=(if j.isNone then .ready else .done)->O.heap[w.heap.size+1]?=some (.loop (rec .busy none))->K j.isNone (O.heap.setIfInBounds (w.heap.size+1) (.loop (rec s j)))->
      ∃v w',(VG (w.heap.size+1) j).run P O=.ok v w'/\∃u,Ending.returned v=.returned u/\(∃b,u=.bool b/\K b w'.heap/\Alike W w'):=by
     intro j s hs a6 hk;refine⟨.bool j.isNone,{O with heap:=O.heap.setIfInBounds (w.heap.size+1) (.loop (rec s j))},?_,_,rfl,_,rfl,hk,L.trans (.of_le rfl (N3 _))⟩;subst hs;simp[VG,TZ,getObj,setObj,PA,a6,Q]
    cases e<;>simp only[qD] at z<;>try exact z.elim
    case normal=>exact fin none .ready rfl z.1 z.2
    case exit id=>exact fin (some (.exit id)) .done rfl z.1 z.2
    case ret=>exact fin (some .ret) .done rfl z.1 z.2
  have q:=h rec o H rfl;refine callsIn_wide.2 (q.mono λe X ⟨v,he,hk,L⟩=>?_);subst he;obtain⟨s,p,hl,hb,hk⟩:=hk;have M:Holds N ((w.heap.size::D).map oJ) E {a with defers:=[oJ w.heap.size]++a.defers}:=
   ⟨hH.size,by rw[hH.defers];rfl,λe he=>hH.all e he⟩
  have n:Alike w X:=(.of_le rfl (N3 _):Alike w H).trans L;have U:(VP (w.heap.size+1)).run P X=.ok p {X with heap:=X.heap.setIfInBounds (w.heap.size+1) (.loop (rec .exhausted p))}:=by
   have a7:s≠VF:=by intro e;subst e;cases hb
   simp[VP,TZ,getObj,setObj,PA,hl,F,m,a7];subst i;rfl
  refine⟨p,_,U,?_⟩;cases p with
  |none=>exact⟨w.heap.size::D,E,M,n.trans (.of_le rfl (N3 _)),hk⟩
  |some c=>
    cases c<;>simp only at hk<;>try exact hk.elim
    case exit id=>exact wpIn_exit ⟨w.heap.size::D,E,M,n.trans (.of_le rfl (N3 _)),hk⟩
    case ret=>exact wpIn_ret ⟨w.heap.size::D,E,M,n.trans (.of_le rfl (N3 _)),hk⟩
theorem u7.then {w a:World}{b:List Nat->List bJ->aa->Prop}{c:Nat->List Nat->List bJ->aa->Prop}{d:List Nat->List bJ->aa->Prop}(h:Alike w a){e:Exit}{f:Act}{w':World}(g:u7 N a b c d e f w'):u7 N w b c d e f w':=by
 obtain⟨i,j,h1,k,l⟩:=g;exact⟨i,j,h1,h.trans k,l⟩
theorem iw (d:lO P)(hm:P.follows .mixedOrders=true)(A:AX):∀(c:Code) (D:List Nat) (E:List bJ) (a:Act) (w:World) (j:List Nat->List bJ->aa->Prop) (k:Nat->List Nat->List bJ->aa->Prop) (l:List Nat->List bJ->aa->Prop),
  Holds N (D.map oJ) E a->Ew P N A c D E w.heap j k l->c.wpIn (FW none) 0 P (u7 N w j k l) a w
 |.seq x y,D,E,a,w,j,k,l,hH,h=>by
   simp only[Ew] at h;cases g:(cM x||cM y) with
   |false=>rw[g] at h;exact cU d hm hH h
   |true=>
     rw[g] at h;simp only[cond_true] at h;refine wpIn_seq (Pe (λe t w' r=>?_) (iw d hm A x D E a w _ _ _ hH h));obtain⟨n,o,h1,q,m⟩:=r;cases e<;>simp only[vu] at m<;>try exact m.elim
     case normal=>exact Pe (λe u v r=>r.then q) (iw d hm A y n o t w' j k l h1 m)
     case exit i=>exact⟨n,o,h1,q,m⟩
     case ret=>exact⟨n,o,h1,q,m⟩
 |.cond c x y,D,E,a,w,j,k,l,hH,h=>by
   simp only[Ew] at h;cases g:(cM x||cM y) with
   |false=>rw[g] at h;exact cU d hm hH h
   |true=>
     rw[g] at h;simp only[cond_true] at h;split at h
     ·rename_i b g;have z:=gF hH (by simp) g;refine wpIn_cond z ?_;cases b with
      |true=>exact iw d hm A x D E a w j k l hH h
      |false=>exact iw d hm A y D E a w j k l hH h
     ·exact h.elim
 |.block id c,D,E,a,w,j,k,l,hH,h=>by
   simp only[Ew] at h;cases g:cM c with
   |false=>rw[g] at h;exact cU d hm hH h
   |true=>
     rw[g] at h;simp only[cond_true] at h;refine wpIn_block (Pe (λe t w' r=>?_) (iw d hm A c D E a w _ _ _ hH h));obtain⟨n,o,h1,q,m⟩:=r;cases e<;>simp only[vu] at m<;>try exact m.elim
     case normal=>exact⟨n,o,h1,q,m⟩
     case exit i=>
      simp only[VZ];by_cases hi:i=id
      ·subst hi;rw[if_pos rfl];have s:Ou i i=true:=Wz i;rw[s] at m;exact⟨n,o,h1,q,m⟩
      ·rw[if_neg hi];have s:Ou i id=false:=by
        cases g:Ou i id with
        |false=>rfl
        |true=>exact absurd (Od g) hi
       rw[s] at m;exact⟨n,o,h1,q,m⟩
     case ret=>exact⟨n,o,h1,q,m⟩
 |.rangeFunc f ps assign body,D,E,a,w,j,k,l,hH,h=>by
   simp only[Ew] at h;split at h
   ·rename_i C sl B hsl;cases g:(Lo ps.toList (sl.map (·.1))&&(nN ps.toList&&ps.toList.all (λp=>PM p N))) with
    |false=>rw[g] at h;exact h.elim
    |true=>
      rw[g] at h;simp only[cond_true] at h;simp only[Ob,List.all_eq_true] at g;exact tR d hm hH B (DV g.1) g.2.1 (λp r=>Nat.lt_of_succ_le (by simpa[PM] using g.2.2 p r)) h
   ·exact h.elim
 |.skip,D,E,a,w,j,k,l,hH,h=>cU d hm hH h
 |.label _,D,E,a,w,j,k,l,hH,h=>cU d hm hH h
 |.exit id,D,E,a,w,j,k,l,hH,h=>cU d hm hH h
 |.ret,D,E,a,w,j,k,l,hH,h=>cU d hm hH h
 |.region id ops draw,D,E,a,w,j,k,l,hH,h=>cU d hm hH h
 |.loop c,D,E,a,w,j,k,l,hH,h=>cU d hm hH h
 |.scope c,D,E,a,w,j,k,l,hH,h=>cU d hm hH h
 |.goto _,D,E,a,w,j,k,l,hH,h=>cU d hm hH h
 |.refuse _,D,E,a,w,j,k,l,hH,h=>cU d hm hH h
theorem y9 (g:lO P)(hm:P.follows .mixedOrders=true){f:FuncId}{A:AX}{args:List Value}{H:aa}{R:Value->aa->Prop}(h:Mc P f A args H R):Spec P f args.toArray H R:=by
 intro w hw;subst hw;unfold Mc at h;split at h
 ·rename_i fn p;split at h
  ·rename_i c q;cases i:Nat.ble args.length fn.ntmps with
   |false=>rw[i] at h;exact h.elim
   |true=>
     rw[i] at h;simp only[cond_true] at h;have hle:args.length<=fn.ntmps:=Nat.le_of_ble_eq_true i;refine callsIn_wide.1 (callsIn_of_wp_marks (F:=FW none) p q trivial (Pe (λe n w' s=>?_) (iw (N:=fn.ntmps) g hm A c [] (Cz 0 args) _ w _ _ _ ⟨?_,rfl,?_⟩ h)))
     ·obtain⟨o,t,h1,u,a⟩:=s;have fin:zu P fn.results o t w'.heap R->LeavesInM (FW none) 0 P fn n.tmps (λe b=>∃v,e=.returned v/\R v b.heap/\Alike w b) n.defers .returning w':=by
       intro x;rw[h1.defers];refine uV (w0:=w') (λb y hk=>?_) o w' (.refl _) x;obtain⟨v,z,r2⟩:=yC (fn:=fn) (w:=b) h1 hk;exact⟨v,z,v,rfl,r2,u.trans y⟩
      cases e<;>simp only[vu] at a<;>try exact a.elim
      case normal=>exact fin a
      case ret=>exact fin a
     ·simp;omega
     ·have key:∀(l:List Value) (k:Nat),(∀j v,l[j]?=some v->(args++List.replicate (fn.ntmps - args.length) undef)[k+j]?=some v)->
        ∀e∈Cz k l,fq {tmps:=args.toArray++Array.replicate (fn.ntmps - args.toArray.size) undef,defers:=[]} e:=by
       intro l
       induction l with
       |nil=>intro k _ e he;simp[Cz] at he
       |cons v r B=>
         intro k hk e he;simp only[Cz] at he;rcases Of.1 he with he|he
         ·subst he;have:=hk 0 v rfl;simp only[fq];rw[<-Array.getElem?_toList];simpa using this
         ·exact B (k+1) (λj v d=>by
           have:=hk (j+1) v (by simpa using d)
           rwa [show k+(j+1)=k+1+j by omega] at this) e he
      exact key args 0 (λj v d=>by
       have m:=(List.getElem?_eq_some_iff.1 d).1;rw[Nat.zero_add,List.getElem?_append_left m];exact d)
  ·exact h.elim
 ·exact h.elim
theorem xZ (a:lO P)(hm:P.follows .mixedOrders=true){c:eN}{f:FuncId}{A:AX}{args:List Value}{H:aa}{R:c.α->aa->Prop}(h:Lx c P f A args H R):ai c P f args.toArray H R:=
 (y9 a hm h).mono λv H' h1=>by
  obtain⟨x,b,d⟩:=gv h1;exact⟨x,c.ok _ _ b,d⟩
end
end Go.Proofs.YtmkbhnholcaghaaGreatDoor
