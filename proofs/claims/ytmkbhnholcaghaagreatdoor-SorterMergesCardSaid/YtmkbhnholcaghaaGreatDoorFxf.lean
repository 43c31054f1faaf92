/-
 Ground, sixth text: code, loops, whole functions.
-/
import Derived.Test.YtmkbhnholcaghaaGreatDoorFxe
open Bool renaming and_eq_true->OB,not_eq_true'->PS,or_eq_false_iff->PZ
open Go.Code renaming wpIn_mono->PD
open Go.Deferred renaming ofValue->Ru
open Go.Exit renaming inBlock->Wl
open Go.Fence renaming wide->Uk
open Go.Frame renaming atR->WV
open Go.Instr renaming sureAddr->QB,getLoop->Uo,yield->Vx,enterLoop->VP,endRound->V2,endLoop->Wb
open Go.LoopState renaming busy->V1
open Go.Operand renaming const->Zv
open Go.Result renaming andThen_ok->OV
open Go.Sem renaming run_bind->OT,run_pure->Pt,run->PY
open Go.StepsIn renaming trans->Zu
open Go.stepG renaming exec->WL
open List renaming mem_append->Ox,mem_cons->OG,mem_filter->OY,foldl_cons->Ro,any_append->Rp,zip_cons_cons->T9,mapM_cons->Vy
open Nat renaming le_refl->Ot,eq_of_beq_eq_true->OD,beq->OQ,blt->Qc,beq_refl->WW
open Option.some renaming inj->OS
namespace Go.Proofs.YtmkbhnholcaghaaGreatDoor
def ax (α:Type)(x0:α)(H:aa)(body:(α->aa->Prop)->α->aa->Prop):Prop:=
 ∃(γ:Type) (I:γ->α->aa->Prop) (m:γ->Nat),(∃g,I g x0 H)/\∀g x H',I g x H'->body (λx' a=>∃g',I g' x' a/\m g'<m g) x H'
def cut (α:Type)(A:(α->aa->Prop)->Prop)(B:α->aa->Prop):Prop:=∃J:α->aa->Prop,A J/\∀x H,J x H->B x H
abbrev Bq:=List (Nat×List (Nat×eM))
def yo:Bq->Nat->Option (List (Nat×eM))
 |[],_=>none
 |p::r,k=>bif OQ p.1 k then some p.2 else yo r k
def lead:Code->Option Nat
 |.region id _ _=>some id
 |.seq a b=>(match lead a with|some k=>some k|none=>lead b)
 |.cond _ x y=>(match lead x with|some k=>some k|none=>lead y)
 |.block _ c=>lead c
 |.loop c=>lead c
 |.scope c=>lead c
 |_=>none
def writes:Code->List Nat
 |.region _ ops _=>zV ops.toList
 |.seq a b=>writes a++writes b
 |.cond _ x y=>writes x++writes y
 |.block _ c=>writes c
 |.loop c=>writes c
 |.scope c=>writes c
 |_=>[]
def tW (W:List Nat)(t:Nat):Bool:=W.any (OQ t)
def l8 (W:List Nat)(e:bK):Bool:=!(tW W e.s)&&(match e.g with|some p=>!(tW W p.1)|none=>true)
def qY (sl:List (Nat×eM)):List eM:=sl.map (·.2)
def fO:List Nat->List Value->List bK
 |s::r,v::vs=>⟨s,v,none⟩::fO r vs
 |_,_=>[]
def Bf (E:List bK):List Nat->Option (List Value)
 |[]=>some []
 |s::r=>(match find E s with
   |some ⟨_,v,none⟩=>(match Bf E r with|some vs=>some (v::vs)|none=>none)
   |_=>none)
def sY (E:List bK)(sl:List (Nat×eM)):Option (dh.α (qY sl)):=match Bf E (sl.map (·.1)) with|some vs=>dh.dec (qY sl) vs|none=>none
def iR {α:Type}(o:Option α)(K:α->Prop):Prop:=match o with|some x=>K x|none=>False
def LQ (A:Bq)(b:Code):Option (List (Nat×eM)):=match lead b with|some k=>yo A (100000+k)|none=>none
def ui (P:Program)(N:Nat)(A:Bq):Code->List bK->aa->(List bK->aa->Prop)->(Nat->List bK->aa->Prop)->(List bK->aa->Prop)->Prop
 |.skip,E,H,d,_,_=>d E H
 |.label _,E,H,d,_,_=>d E H
 |.region id ops draw,E,H,d,_,_=>(match (bif draw then yo A (300000+id) else none) with
   |some (_::_::x::ex)=>KE (ex.map (·.1)) P N ops E H d
   |some (f::c::_)=>Li f.1 c.1 P N ops E H d
   |_=>Mv P N ops draw E H d)
 |.seq a b,E,H,d,e,g=>
   (match LQ A b with
   |none=>ui P N A a E H (λh H'=>ui P N A b h H' d e g) e g
   |some sl=>cut (dh.α (qY sl)) (λJ=>ui P N A a E H (λh H'=>iR (sY h sl) λx=>J x H') e g)
     λx H'=>ui P N A b (fO (sl.map (·.1)) (dh.enc (qY sl) x)++E.filter (l8 (writes a))) H' d e g)
 |.cond c x y,E,H,d,e,g=>
   (match Dr E [] c with
   |some (.bool b)=>br b (ui P N A x E H d e g) (ui P N A y E H d e g)
   |_=>False)
 |.block id c,E,H,d,e,g=>ui P N A c E H d (λi h H'=>bif OQ i id then d h H' else e i h H') g
 |.loop c,E,H,_,e,g=>
   (match (match lead c with|some k=>yo A k|none=>none) with
   |none=>False
   |some sl=>iR (sY E sl) λx0=>ax (dh.α (qY sl)) x0 H λnext x H'=>
     ui P N A c (fO (sl.map (·.1)) (dh.enc (qY sl) x)++E.filter (l8 (writes c))) H' (λh j=>iR (sY h sl) λx'=>next x' j) e g)
 |.scope c,E,H,d,e,g=>ui P N A c E H d e g
 |.exit id,E,H,_,e,_=>e id E H
 |.ret,E,H,_,_,g=>g E H
 |_,_,_,_,_,_=>False
def u6 (P:Program):List ResultVar->List bK->aa->(List Value->Prop)->Prop
 |[],_,_,K=>K []
 |.tmp t::r,E,H,K=>(match Dr E [] (.tmp t) with|some v=>u6 P r E H (λvs=>K (v::vs))|none=>False)
 |.cell a t::r,E,H,K=>(bif tK E [] (.load t (.tmp a)) then rm P (.load t (.tmp a)) t (GZ E []) none H (λv=>u6 P r E H (λvs=>K (v::vs))) else False)
def oneOf:List Value->Value
 |[v]=>v
 |vs=>.tuple ⟨vs⟩
def Jt (P:Program)(res:Array ResultVar)(E:List bK)(H:aa)(R:Value->aa->Prop):Prop:=u6 P res.toList E H λvs=>R (oneOf vs) H
def CS:Nat->List Value->List bK
 |_,[]=>[]
 |k,v::r=>⟨k,v,none⟩::CS (k+1) r
def cP:Code->Bool
 |.rangeFunc ..=>true
 |.seq a b=>cP a||cP b
 |.cond _ x y=>cP x||cP y
 |.block _ c=>cP c
 |_=>false
abbrev Rec:=LoopState->Option Code->Loop
def nR (l:Nat)(rec:Rec)(H:aa)(fin:aa->Prop)(b:Nat->aa->Prop)(a:aa->Prop):Prop:=
 ∃s p,H[l]?=some (.loop (rec s p))/\(s==V1)=false/\
   (match p with
   |none=>fin (H.setIfInBounds l (.loop (rec .exhausted none)))
   |some c=>(match c with
     |.exit id=>b id (H.setIfInBounds l (.loop (rec .exhausted (some (.exit id)))))
     |.ret=>a (H.setIfInBounds l (.loop (rec .exhausted (some .ret))))
     |_=>False))
def oV (P:Program)(c:Value)(H:aa)(body:Nat->Rec->List Value->aa->(Bool->aa->Prop)->Prop)(fin:Nat->aa->Prop)(b:Nat->Nat->aa->Prop)(a:Nat->aa->Prop):Prop:=
 ∃g cap,c=.func (.func g) #[] cap/\cS P g=true/\∀rec:Rec,
   (∀vs H' K,H'[H.size+1]?=some (.loop (rec .ready none))->body (H.size+1) rec vs H' K->b8 P (H.size+1) vs.toArray H' K)->
   Spec P g (#[.func (.yield (H.size+1)) #[] #[]]++cap) ((H.push (.deferred (some []))).push (.loop (rec .ready none)))
    λ_ d=>nR (H.size+1) rec d (fin H.size) (λid=>b id H.size) (a H.size)
def nV:List Nat->Bool
 |[]=>true
 |x::r=>!(tW r x)&&nV r
def LF:List Nat->List Nat->Bool
 |[],[]=>true
 |x::r,y::t=>OQ x y&&LF r t
 |_,_=>false
def vV (P:Program)(N:Nat)(A:Bq)(E:List bK)(sl:List (Nat×eM))(assign body:Code)(l:Nat)(rec:Rec)(vs:List Value)(H:aa)(K:Bool->aa->Prop):Prop:=
 iR (dh.dec (qY sl) vs) λx=>
  ui P N A assign (fO (sl.map (·.1)) (dh.enc (qY sl) x)++E.filter (l8 (sl.map (·.1)))) H
   (λb H1=>H1[l]?=some (.loop (rec .ready none))/\ui P N A body b (H1.setIfInBounds l (.loop (rec .busy none)))
    (λ_ a=>a[l]?=some (.loop (rec .busy none))/\K true (a.setIfInBounds l (.loop (rec .ready none))))
    (λid _ a=>a[l]?=some (.loop (rec .busy none))/\K false (a.setIfInBounds l (.loop (rec .done (some (.exit id))))))
    (λ_ a=>a[l]?=some (.loop (rec .busy none))/\K false (a.setIfInBounds l (.loop (rec .done (some .ret))))))
   (λ_ _ _=>False) (λ_ _=>False)
def ES (P:Program)(N:Nat)(A:Bq):Code->List Nat->List bK->aa->(List Nat->List bK->aa->Prop)->(Nat->List Nat->List bK->aa->Prop)->(List Nat->List bK->aa->Prop)->Prop
 |.seq a b,D,E,H,d,e,g=>
   bif cP a||cP b then ES P N A a D E H (λh j H'=>ES P N A b h j H' d e g) e g
   else ui P N A (.seq a b) E H (d D) (λi=>e i D) (g D)
 |.cond c x y,D,E,H,d,e,g=>
   bif cP x||cP y then
    (match Dr E [] c with
    |some (.bool b)=>br b (ES P N A x D E H d e g) (ES P N A y D E H d e g)
    |_=>False)
   else ui P N A (.cond c x y) E H (d D) (λi=>e i D) (g D)
 |.block id c,D,E,H,d,e,g=>
   bif cP c then ES P N A c D E H d (λi h j H'=>bif OQ i id then d h j H' else e i h j H') g
   else ui P N A (.block id c) E H (d D) (λi=>e i D) (g D)
 |.rangeFunc f ps assign body,D,E,H,d,e,g=>
   (match Dr E [] f,yo A (200000+(lead body).getD 0) with
   |some k,some sl=>bif LF ps.toList (sl.map (·.1))&&(nV ps.toList&&ps.toList.all (λp=>Qc p N)) then
     oV P k H (vV P N A E sl assign body) (λr H'=>d (r::D) E H') (λid r H'=>e id (r::D) E H') (λr H'=>g (r::D) E H') else False
   |_,_=>False)
 |c,D,E,H,d,e,g=>ui P N A c E H (d D) (λi=>e i D) (g D)
def AJ:List Nat->aa->(aa->Prop)->Prop
 |[],H,K=>K H
 |r::D,H,K=>H[r]?=some (.deferred (some []))/\AJ D (H.setIfInBounds r (.deferred none)) K
def zP (P:Program)(res:Array ResultVar)(D:List Nat)(E:List bK)(H:aa)(R:Value->aa->Prop):Prop:=AJ D H λH'=>Jt P res E H' R
def Ms (P:Program)(f:FuncId)(A:Bq)(args:List Value)(H:aa)(R:Value->aa->Prop):Prop:=
 match P.funcs[f]? with
 |some fn=>(match fn.body with
   |some c=>(bif Nat.ble args.length fn.ntmps then ES P fn.ntmps A c [] (CS 0 args) H (λD E H'=>zP P fn.results D E H' R) (λ_ _ _ _=>False) (λD E H'=>zP P fn.results D E H' R) else False)
   |none=>False)
 |none=>False
def LO (c:eM)(P:Program)(f:FuncId)(A:Bq)(args:List Value)(H:aa)(R:c.α->aa->Prop):Prop:=
 Ms P f A args H λv H'=>iR (c.dec v) λx=>R x H'
theorem gJ {α:Type}{o:Option α}{K:α->Prop}(h:iR o K):∃x,o=some x/\K x:=by
 cases o with
 |none=>exact h.elim
 |some x=>exact⟨x,rfl,h⟩
section
variable {P:Program}{N:Nat}{D:List Deferred}{rn:Option Nat}
theorem dF (W:List Nat)(t:Nat):tW W t=W.contains t:=by
 unfold tW;rw[List.contains_eq_any_beq];congr 1;funext x;cases h:OQ t x with
 |true=>have:=OD h;subst this;simp
 |false=>
   have:t≠x:=λe=>by subst e;simp at h
   simpa using this
theorem Holds.keep {E:List bK}{a f:Act}{W:List Nat}(hH:Holds N D E a)(hs:f.tmps.size=N)(hd:f.defers=D)(i:gV W a f):Holds N D (E.filter (l8 W)) f:=by
 refine⟨hs,hd,λe he=>?_⟩;obtain⟨h1,d⟩:=OY.1 he;have c:=hH.all e h1;unfold l8 at d;simp only[OB,PS,dF] at d;have g:=i e.s d.1;unfold fw at c ⊢;cases j:e.g with
 |none=>rw[j] at c;exact g.trans c
 |some p=>
   rw[j] at c d;obtain⟨s,b⟩:=p;have e2:=i s (by have:=d.2;simpa using this);refine⟨λh=>g.trans (c.1 (e2.symm.trans h)),λh=>g.trans (c.2 λq=>h (e2.trans q))⟩
theorem Holds.append {E b:List bK}{a:Act}(h:Holds N D E a)(k:Holds N D b a):Holds N D (E++b) a:=
 ⟨h.size,h.defers,λe he=>(Ox.1 he).elim (h.all e) (k.all e)⟩
theorem rS {E:List bK}{a:Act}(hH:Holds N D E a):∀{l:List Nat} {vs:List Value},Bf E l=some vs->Holds N D (fO l vs) a
 |[],vs,h=>⟨hH.size,hH.defers,by cases vs<;>simp[fO]⟩
 |s::r,vs,h=>by
   unfold Bf at h;split at h
   ·rename_i s' v d;split at h
    ·rename_i b f;have e:v::b=vs:=OS h;subst e;have g:=rS hH f;obtain⟨h1,c⟩:=fP d;refine⟨hH.size,hH.defers,λe he=>?_⟩;simp only[fO] at he;rcases OG.1 he with he|he
     ·subst he;have:=hH.all _ h1;simp only at c;subst c;exact this
     ·exact g.all e he
    ·cases h
   ·cases h
theorem lJ {E:List bK}{a:Act}{sl:List (Nat×eM)}{x:dh.α (qY sl)}(hH:Holds N D E a)(h:sY E sl=some x):Holds N D (fO (sl.map (·.1)) (dh.enc (qY sl) x)) a:=by
 unfold sY at h;split at h
 ·rename_i vs b;have:=dh.ok _ _ _ h;rw[<-this];exact rS hH b
 ·cases h
theorem exists_least {p:Nat->Prop}:∀n,p n->∃k,p k/\∀j,p j->k<=j:=by
 intro n
 induction n using Nat.strongRecOn with
 |_ n a=>
   intro b;by_cases h:∃j,j<n/\p j
   ·obtain⟨j,h1,c⟩:=h;exact a j h1 c
   ·exact⟨n,b,λj d=>by
     rcases Nat.lt_or_ge j n with h1|h1
     ·exact absurd ⟨j,h1,d⟩ h
     ·exact h1⟩
open Classical in
noncomputable def least (p:Nat->Prop):Nat:=if h:∃k,p k/\∀j,p j->k<=j then h.choose else 0
theorem ta {p:Nat->Prop}{n:Nat}(h:p n):p (least p)/\∀j,p j->least p<=j:=by
 have h1:=exists_least n h;unfold least;rw[dif_pos h1];exact h1.choose_spec
def qP (a:List bK->aa->Prop)(b:Nat->List bK->aa->Prop)(c:List bK->aa->Prop):Exit->List bK->aa->Prop
 |.normal,E,H=>a E H
 |.exit id,E,H=>b id E H
 |.ret,E,H=>c E H
 |_,_,_=>False
def post (N:Nat)(D:List Deferred)(W:List Nat)(a:Act)(w:World)(d:List bK->aa->Prop)(f:Nat->List bK->aa->Prop)(g:List bK->aa->Prop)(e:Exit)(b:Act)(w':World):Prop:=
 ∃c,Holds N D c b/\gV W a b/\Alike w w'/\qP d f g e c w'.heap
theorem zr {F:Fence}{n:Nat}{Q:Exit->Act->World->Prop}{a:Act}{w:World}{c:Code}(h:c.wpIn F n P (λe a w=>match e with|.goto _=>False|e=>Q e a w) a w):(Code.scope c).wpIn F n P Q a w:=by
 intro b k cs j m o;have g:(lone (b.atR a (.code (.scope c)::k)) cs w).fenced P F:=fenced_calm m o rfl;have s1:step P (lone (b.atR a (.code (.scope c)::k)) cs w)=.next (lone (b.atR a (.code c::.inScope c::k)) cs w):=step_lone_go (by simp[stepG,WL,WV])
 have s2:∀a w,step P (lone (b.atR a (.inScope c::k)) cs w)=.next (lone (b.atR a k) cs w):=λa w=>step_lone_go (by simp[stepG,WL,WV])
 obtain⟨e,a₁,w₁,i,d⟩:=h b (.inScope c::k) cs j m o;cases e with
 |normal=>exact⟨.normal,a₁,w₁,i,.head g s1 (Zu d (.one (fenced_calm m o rfl) (s2 _ _)))⟩
 |exit f=>
   have q:exitTo f (.inScope c::k)=exitTo f k:=by simp[exitTo]
   exact⟨.exit f,a₁,w₁,i,λr hk=>.head g s1 (d.1 r (by rw[q];exact hk)),
    λp hk=>let ⟨k₁,h1,s⟩:=d.2 p (by rw[q];exact hk);⟨k₁,h1,.head g s1 s⟩⟩
 |goto l=>exact i.elim
 |ret=>exact⟨_,a₁,w₁,i,.of_steps (.one g s1) d⟩
 |panic ch=>exact⟨_,a₁,w₁,i,.of_steps (.one g s1) d⟩
 |outgrown=>exact⟨_,a₁,w₁,i,.of_steps (.one g s1) d⟩
theorem c7 (o:lX P)(hm:P.follows .mixedOrders=true)(A:Bq):∀(c:Code) (E:List bK) (a:Act) (w:World) (r:List bK->aa->Prop) (s:Nat->List bK->aa->Prop) (u:List bK->aa->Prop),
  Holds N D E a->ui P N A c E w.heap r s u->c.wpIn (FW rn) 0 P (post N D (writes c) a w r s u) a w
 |.skip,E,a,w,r,s,u,hH,h=>wpIn_skip ⟨E,hH,.refl _ _,.refl _,h⟩
 |.label _,E,a,w,r,s,u,hH,h=>wpIn_label ⟨E,hH,.refl _ _,.refl _,h⟩
 |.exit id,E,a,w,r,s,u,hH,h=>wpIn_exit ⟨E,hH,.refl _ _,.refl _,h⟩
 |.ret,E,a,w,r,s,u,hH,h=>wpIn_ret ⟨E,hH,.refl _ _,.refl _,h⟩
 |.region id ops draw,E,a,w,r,s,u,hH,h=>by
   simp only[ui] at h;split at h
   ·rename_i _ _ _ ex hl;cases draw with
    |false=>cases hl
    |true=>exact AW o hm hH (λk q w' h1 j l d=>⟨k,h1,j,l,d⟩) h
   ·rename_i f c _ _ hl;cases draw with
    |false=>cases hl
    |true=>exact zK o hm hH (λk q w' h1 j l d=>⟨k,h1,j,l,d⟩) h
   ·exact Cq o hm hH (λk q w' h1 j l d=>⟨k,h1,j,l,d⟩) h
 |.cond c x y,E,a,w,r,s,u,hH,h=>by
   simp only[ui] at h;split at h
   ·rename_i b R;have ec:=gK hH (by simp) R;refine wpIn_cond ec ?_;cases b with
    |true=>
      exact PD (λe q w' ⟨k,h1,j,l,d⟩=>⟨k,h1,j.mono (λt z=>by
       simp only[writes,<-dF,tW,Rp,PZ] at z ⊢;exact z.1),l,d⟩) (c7 o hm A x E a w r s u hH h)
    |false=>
      exact PD (λe q w' ⟨k,h1,j,l,d⟩=>⟨k,h1,j.mono (λt z=>by
       simp only[writes,<-dF,tW,Rp,PZ] at z ⊢;exact z.2),l,d⟩) (c7 o hm A y E a w r s u hH h)
   ·exact h.elim
 |.block id c,E,a,w,r,s,u,hH,h=>by
   refine wpIn_block (PD (λe q w' B=>?_) (c7 o hm A c E a w _ _ _ hH h));obtain⟨k,h1,j,l,d⟩:=B;cases e<;>simp only[qP] at d<;>try exact d.elim
   case normal=>exact⟨k,h1,j,l,d⟩
   case exit i=>
    simp only[Wl];by_cases hi:i=id
    ·subst hi;rw[if_pos rfl];have S:OQ i i=true:=WW i;rw[S] at d;exact⟨k,h1,j,l,d⟩
    ·rw[if_neg hi];have S:OQ i id=false:=by
      cases R:OQ i id with
      |false=>rfl
      |true=>exact absurd (OD R) hi
     rw[S] at d;exact⟨k,h1,j,l,d⟩
   case ret=>exact⟨k,h1,j,l,d⟩
 |.seq x y,E,a,w,r,s,u,hH,h=>by
   have H:∀t,(writes (.seq x y)).contains t=false->(writes x).contains t=false:=λt z=>by
    simp only[writes,<-dF,tW,Rp,PZ] at z ⊢;exact z.1
   have wy:∀t,(writes (.seq x y)).contains t=false->(writes y).contains t=false:=λt z=>by
    simp only[writes,<-dF,tW,Rp,PZ] at z ⊢;exact z.2
   simp only[ui] at h;split at h
   ·refine wpIn_seq (PD (λe q w' B=>?_) (c7 o hm A x E a w _ _ _ hH h));obtain⟨k,h1,j,l,d⟩:=B;cases e<;>simp only[qP] at d<;>try exact d.elim
    case normal=>
     exact PD (λe T U ⟨F,K,L,M,O⟩=>⟨F,K,(j.mono H).trans (L.mono wy),l.trans M,O⟩) (c7 o hm A y k q w' r s u h1 d)
    case exit i=>exact⟨k,h1,j.mono H,l,d⟩
    case ret=>exact⟨k,h1,j.mono H,l,d⟩
   ·rename_i sl hsl;obtain⟨J,hA,hB⟩:=h;refine wpIn_seq (PD (λe q w' B=>?_) (c7 o hm A x E a w _ _ _ hH hA));obtain⟨k,h1,j,l,d⟩:=B;cases e<;>simp only[qP] at d<;>try exact d.elim
    case normal=>
     obtain⟨v,hv,hJ⟩:=gJ d;have V:=(lJ h1 hv).append (hH.keep h1.size h1.defers j);exact PD (λe T U ⟨F,K,L,M,O⟩=>⟨F,K,(j.mono H).trans (L.mono wy),l.trans M,O⟩) (c7 o hm A y _ q w' r s u V (hB _ _ hJ))
    case exit i=>exact⟨k,h1,j.mono H,l,d⟩
    case ret=>exact⟨k,h1,j.mono H,l,d⟩
 |.loop c,E,a,w,r,s,u,hH,h=>by
   simp only[ui] at h;split at h
   ·exact h.elim
   ·rename_i sl hsl;obtain⟨x0,W,γ,I,m,⟨g0,X⟩,C⟩:=gJ h
    let Inv:γ->Act->World->Prop:=λg q w'=>∃x,Holds N D (fO (sl.map (·.1)) (dh.enc (qY sl) x)++E.filter (l8 (writes c))) q/\gV (writes c) a q/\Alike w w'/\I g x w'.heap
    let p:Act->World->Nat->Prop:=λq w' n=>∃g,m g=n/\Inv g q w'
    refine wpIn_loop (λq w'=>∃g,Inv g q w') (λq w'=>least (p q w')) ?_ ?_
    ·exact⟨g0,x0,(lJ hH W).append (hH.keep hH.size hH.defers (.refl _ _)),.refl _ _,.refl _,X⟩
    ·intro a1 w1 ⟨g,hg⟩;obtain⟨⟨g1,an,x1,K,L,M,O⟩,af⟩:=ta (p:=p a1 w1) (n:=m g) ⟨g,rfl,hg⟩;refine PD (λe q w' B=>?_) (c7 o hm A c _ a1 w1 _ _ _ K (C g1 x1 _ O));obtain⟨k,h1,j,l,d⟩:=B;have Q:gV (writes c) a q:=L.trans j;have G:Alike w w':=M.trans l;cases e<;>simp only[qP] at d<;>try exact d.elim
     case normal=>
      obtain⟨x',Y,g',Z,a6⟩:=gJ d;have hinv:Inv g' q w':=⟨x',(lJ h1 Y).append (hH.keep h1.size h1.defers Q),Q,G,Z⟩;refine⟨⟨g',hinv⟩,?_⟩;have:=(ta (p:=p q w') (n:=m g') ⟨g',rfl,hinv⟩).2 (m g') ⟨g',rfl,hinv⟩;omega
     case exit i=>exact⟨k,h1,Q,G,d⟩
     case ret=>exact⟨k,h1,Q,G,d⟩
 |.rangeFunc _ _ _ _,_,_,_,_,_,_,_,h=>h.elim
 |.scope c,E,a,w,r,s,u,hH,h=>by
   refine zr (PD (λe q w' B=>?_) (c7 o hm A c E a w r s u hH h));obtain⟨k,h1,j,l,d⟩:=B;cases e<;>simp only[qP] at d<;>try exact d.elim
   all_goals exact⟨k,h1,j,l,d⟩
 |.goto _,_,_,_,_,_,_,_,h=>h.elim
 |.refuse _,_,_,_,_,_,_,_,h=>h.elim
theorem mu {E:List bK}{a:Act}{w:World}(hH:Holds N D E a):∀{l:List ResultVar} {K:List Value->Prop},u6 P l E w.heap K->
  ∃vs,(l.mapM λr=>(match r with
    |.tmp t=>pure (a.tmps.getD t undef)
    |.cell ad t=>do loadVar t (<-asAddr (a.tmps.getD ad undef)):Sem Value)).run P w=.ok vs w/\K vs
 |[],K,h=>⟨[],rfl,h⟩
 |.tmp t::r,K,h=>by
   simp only[u6] at h;split at h
   ·rename_i v i;obtain⟨vs,h1,d⟩:=mu hH h;have e:a.tmps.getD t undef=v:=gK (x:=.tmp t) hH (by simp) i;refine⟨v::vs,?_,d⟩;rw[Vy];simp only[OT,Pt,OV,e];rw[h1];rfl
   ·exact h.elim
 |.cell ad t::r,K,h=>by
   simp only[u6] at h;cases f:tK E [] (.load t (.tmp ad)) with
   |false=>rw[f] at h;exact h.elim
   |true=>
     rw[f] at h;simp only[cond_true] at h;obtain⟨v,h1,d⟩:=jy (o:=⟨none,.load t (.tmp ad),t,"",#[],none⟩) h;obtain⟨vs,j,k⟩:=mu hH d;have c:=h1 w rfl;rw[<-qq (o:=⟨none,.load t (.tmp ad),t,"",#[],none⟩) hH (by simp) f (by intro cs b e;cases e)] at c;simp only[execOp,Instr.loadAt,OT] at c;refine⟨v::vs,?_,k⟩;rw[Vy];have e2:(do loadVar t (<-asAddr (a.tmps.getD ad undef)):Sem Value).run P w=.ok v w:=by
      have m:a.eval (.tmp ad)=a.tmps.getD ad undef:=rfl;rw[m] at c;generalize a.tmps.getD ad undef=q at*;cases q with
      |pointer p=>
        cases p with
        |none=>simp[QB] at c
        |some ad=>
          simp only[QB,Pt,OV] at c;simp only[asAddr,OT,Pt,OV];cases g:(loadVar t ad).run P w with
          |ok u n=>rw[g] at c;simp at c;rw[c.1,c.2]
          |halt x n=>rw[g] at c;simp at c
      |_=>simp[QB] at c
     simp only[OT] at e2 ⊢;rw[e2];simp only[OV,j,Pt]
theorem yR {fn:Func}{E:List bK}{a:Act}{w:World}{R:Value->aa->Prop}(hH:Holds N D E a)(h:Jt P fn.results E w.heap R):
  ∃v,(results fn a.tmps).run P w=.ok v w/\R v w.heap:=by
 obtain⟨vs,h1,b⟩:=mu hH h;refine⟨oneOf vs,?_,b⟩;unfold results;rw[OT,Array.mapM_eq_mapM_toList,Sem.run_map];have e:∀{g:ResultVar->Sem Value},(fn.results.toList.mapM g).run P w=.ok vs w->
   ((((fn.results.toList.mapM g).run P w).andThen λa w'=>Result.ok a.toArray w').andThen λvs w'=>(pure (if h:vs.size=1 then vs[0] else .tuple vs):Sem Value).run P w')=.ok (oneOf vs) w:=by
  intro g c;rw[c];simp only[OV,Pt];congr 1;cases vs with
  |nil=>rfl
  |cons v r=>
    cases r with
    |nil=>rfl
    |cons v2 r=>simp[oneOf]
 exact e h1
def oR (r:Nat):Deferred:={target:=.collected r,args:=#[]}
theorem ve {fn:Func}{tmps:Array Value}{R:Ending->World->Prop}{w0:World}{K:aa->Prop}(b:∀w,Alike w0 w->K w.heap->LeavesIn Uk 0 P fn tmps R [] .returning w):
  ∀(D:List Nat) (w:World),Alike w0 w->AJ D w.heap K->LeavesInM Uk 0 P fn tmps R (D.map oR) .returning w
 |[],w,a,h=>b w a h
 |r::D,w,a,h=>by
   obtain⟨h1,c⟩:=h;refine⟨by simp,.inl ⟨r,{w with heap:=w.heap.setIfInBounds r (.deferred none)},rfl,?_,ve b D _ (a.trans (.of_le rfl (Ot _))) c⟩⟩;simp[Instr.takeDeferred,getObj,setObj,PY,h1]
theorem sX {W:List Nat}{t:Nat}:tW W t=true↔t∈W:=by
 rw[dF];simp
theorem uS:∀(ps:List Nat) (vs:List Value) (a:Array Value),((ps.zip vs).foldl (λt (p,v)=>t.setIfInBounds p v) a).size=a.size
 |[],_,_=>rfl
 |_::_,[],_=>rfl
 |p::ps,v::vs,a=>by simp only[T9,Ro];rw[uS ps vs];simp
theorem kf:∀(ps:List Nat) (vs:List Value) (a:Array Value) (t:Nat),t∉ps->((ps.zip vs).foldl (λt (p,v)=>t.setIfInBounds p v) a)[t]?=a[t]?
 |[],_,_,_,_=>rfl
 |_::_,[],_,_,_=>rfl
 |p::ps,v::vs,a,t,h=>by
   simp only[OG,not_or] at h;simp only[T9,Ro];rw[kf ps vs _ t h.2,Array.getElem?_setIfInBounds_ne (Ne.symm h.1)]
theorem rH:∀(ps:List Nat) (vs:List Value) (b:Array Value),nV ps=true->(∀p∈ps,p<b.size)->∀e∈fO ps vs,e.g=none/\((ps.zip vs).foldl (λt (p,v)=>t.setIfInBounds p v) b)[e.s]?=some e.v
 |[],vs,_,_,_,e,he=>by cases vs<;>simp[fO] at he
 |_::_,[],_,_,_,e,he=>by simp[fO] at he
 |p::ps,v::vs,b,a,d,e,he=>by
   simp only[nV,OB,PS] at a;simp only[fO] at he;simp only[T9,Ro];rcases OG.1 he with he|he
   ·subst he;refine⟨rfl,?_⟩;have c:p∉ps:=λh=>by rw[sX.2 h] at a;cases a.1
    rw[kf ps vs _ p c];simp[d p List.mem_cons_self]
   ·exact rH ps vs _ a.2 (λq f=>by simpa using d q (List.mem_cons_of_mem _ f)) e he
theorem xZ {E:List bK}{a:Act}(hH:Holds N D E a){ps:List Nat}{vs:List Value}(k:nV ps=true)(l:∀p∈ps,p<N):
  Holds N [] (fO ps vs++E.filter (l8 ps)) {tmps:=(ps.zip vs).foldl (λt (p,v)=>t.setIfInBounds p v) a.tmps,defers:=[]}:=by
 refine⟨(uS _ _ _).trans hH.size,rfl,λe he=>?_⟩;rcases Ox.1 he with he|he
 ·obtain⟨h1,d⟩:=rH ps vs a.tmps k (λp f=>by rw[hH.size];exact l p f) e he;unfold fw;rw[h1];exact d
 ·obtain⟨h1,d⟩:=OY.1 he;have c:=hH.all e h1;unfold l8 at d;simp only[OB,PS] at d;have g:((ps.zip vs).foldl (λt (p,v)=>t.setIfInBounds p v) a.tmps)[e.s]?=a.tmps[e.s]?:=kf _ _ _ _ (λh=>by rw[sX.2 h] at d;cases d.1);unfold fw at c ⊢;cases j:e.g with
  |none=>rw[j] at c;exact g.trans c
  |some p=>
    rw[j] at c d;obtain⟨s,b⟩:=p;have e2:((ps.zip vs).foldl (λt (p,v)=>t.setIfInBounds p v) a.tmps)[s]?=a.tmps[s]?:=kf _ _ _ _ (λh=>by
     have i:=d.2;simp only[PS] at i;rw[sX.2 h] at i;cases i)
    exact⟨λh=>g.trans (c.1 (e2.symm.trans h)),λh=>g.trans (c.2 λq=>h (e2.trans q))⟩
theorem Ej:∀{a b:List Nat},LF a b=true->a=b
 |[],[],_=>rfl
 |x::r,y::t,h=>by
   simp only[LF,OB] at h;rw[OD h.1,Ej h.2]
def vK (a:List Nat->List bK->aa->Prop)(b:Nat->List Nat->List bK->aa->Prop)(c:List Nat->List bK->aa->Prop):Exit->List Nat->List bK->aa->Prop
 |.normal,D,E,H=>a D E H
 |.exit id,D,E,H=>b id D E H
 |.ret,D,E,H=>c D E H
 |_,_,_,_=>False
def vm (N:Nat)(w:World)(c:List Nat->List bK->aa->Prop)(d:Nat->List Nat->List bK->aa->Prop)(f:List Nat->List bK->aa->Prop)(e:Exit)(g:Act)(w':World):Prop:=
 ∃a b,Holds N (a.map oR) b g/\Alike w w'/\vK c d f e a b w'.heap
theorem cZ (b:lX P)(hm:P.follows .mixedOrders=true){A:Bq}{c:Code}{D:List Nat}{E:List bK}{a:Act}{w:World}{d:List Nat->List bK->aa->Prop}{f:Nat->List Nat->List bK->aa->Prop}{g:List Nat->List bK->aa->Prop}
  (hH:Holds N (D.map oR) E a) (h:ui P N A c E w.heap (d D) (λi=>f i D) (g D)):c.wpIn (FW none) 0 P (vm N w d f g) a w:=
 PD (λe m w' ⟨k,h1,_,l,j⟩=>⟨D,k,h1,l,by cases e<;>first|exact j|exact j.elim⟩) (c7 b hm A c E a w _ _ _ hH h)
theorem ue (B:lX P)(hm:P.follows .mixedOrders=true){A:Bq}{f:Operand}{ps:Array Tmp}{assign body:Code}{D:List Nat}{E:List bK}{a:Act}{w:World}{fv:Value}{sl:List (Nat×eM)}
  {Kn:List Nat->List bK->aa->Prop} {Kx:Nat->List Nat->List bK->aa->Prop} {Kr:List Nat->List bK->aa->Prop}
  (hH:Holds N (D.map oR) E a) (hf:Dr E [] f=some fv) (C:ps.toList=sl.map (·.1)) (Y:nV ps.toList=true) (Z:∀p∈ps.toList,p<N)
  (h:oV P fv w.heap (vV P N A E sl assign body) (λr H'=>Kn (r::D) E H') (λid r H'=>Kx id (r::D) E H') (λr H'=>Kr (r::D) E H')):
  (Code.rangeFunc f ps assign body).wpIn (FW none) 0 P (vm N w Kn Kx Kr) a w:=by
 obtain⟨g,cap,rfl,k,h⟩:=h;have af:a.eval f=.func (.func g) #[] cap:=gK hH (by simp) hf;refine wpIn_rangeFunc (λfn _=>?_);obtain⟨rec,i⟩:∃rec:Rec,rec=λst pe=>{state:=st,pending:=pe,fn,tmps:=a.tmps,params:=ps,assign,body,defers:=w.heap.size}:=⟨_,rfl⟩;have m:∀s p,(rec s p).state=s:=λs p=>by rw[i]
 have F:∀s p,(rec s p).pending=p:=λs p=>by rw[i]
 have Q:∀s p s' p',({rec s p with state:=s',pending:=p'}:Loop)=rec s' p':=λs p s' p'=>by rw[i]
 have G:∀s p s',({rec s p with state:=s'}:Loop)=rec s' p:=λs p s'=>by rw[i]
 let H:World:={w with heap:=(w.heap.push (.deferred (some []))).push (.loop (rec .ready none))}
 have a8:(w.heap.push (Obj.deferred (some []))).size=w.heap.size+1:=by simp
 refine⟨w.heap.size+1,[oR w.heap.size],H,{target:=.fn (.func g) cap,args:=#[.func (.yield (w.heap.size+1)) #[] #[]]},H,g,#[.func (.yield (w.heap.size+1)) #[] #[]]++cap,H,?_,?_,λ_ _=>trivial,?_,(λhh=>by cases hh),?_⟩
 ·show (VP fn a.tmps ps assign body none).run P w=_;subst i;simp[VP,newObj,OT,PY,oR,H];rfl
 ·show (Ru (a.eval f) (#[Zv (.func (.yield (w.heap.size+1)) #[] #[])].map a.eval)).run P H=_;rw[af];simp[Ru];rfl
 ·unfold cS at k;split at k
  ·rename_i an R;obtain⟨b,hb⟩:=Option.isSome_iff_exists.1 k;have h1:an.name≠"runtime.NumGoroutine":=by simpa using B _ _ R
   simp[invoke,callFunc,R,h1,hb]
  ·cases k
 ·-- the call
  have o:∀vs H' K,H'[w.heap.size+1]?=some (.loop (rec .ready none))->vV P N A E sl assign body (w.heap.size+1) rec vs H' K->b8 P (w.heap.size+1) vs.toArray H' K:=by
   intro vs H' K hl hr W hW;subst hW;obtain⟨x,hx,hr⟩:=gJ hr;have I:=dh.ok _ _ _ hx;have hlen:vs.length=ps.size:=by
    have e1:∀(l:List eM) (y:dh.α l),(dh.enc l y).length=l.length:=by
     intro l
     induction l with
     |nil=>intro y;rfl
     |cons c r ih=>
       intro y;cases r with
       |nil=>rfl
       |cons d r=>simp only[dh.enc,List.length_cons];rw[ih];rfl
    rw[I,e1];have:=congrArg List.length C;simp only[Array.length_toList,List.length_map] at this;rw[this];simp[qY]
   have S:(Vx (w.heap.size+1) vs.toArray).run P W=.ok (.round (w.heap.size+1) fn ((ps.zip vs.toArray).foldl (λtmps (t,a)=>tmps.setIfInBounds t a) a.tmps) assign body) W:=by
    have e2:(rec .ready none).params=ps/\(rec .ready none).fn=fn/\(rec .ready none).tmps=a.tmps/\(rec .ready none).assign=assign/\(rec .ready none).body=body:=by rw[i];exact⟨rfl,rfl,rfl,rfl,rfl⟩
    simp[Vx,Uo,getObj,PY,hl,e2,hlen]
   rw[S];simp only[pt];have J:(ps.zip vs.toArray).foldl (λtmps (t,a)=>tmps.setIfInBounds t a) a.tmps=(ps.toList.zip vs).foldl (λt (p,v)=>t.setIfInBounds p v) a.tmps:=by
    rw[<-Array.foldl_toList];simp
   rw[J];have T:=xZ hH (vs:=vs) Y Z;rw[C,I] at T;rw[C,I];refine roundIn_of_wpIn trivial (PD (λe a1 w1 hp=>?_) (c7 (rn:=some (w.heap.size+1)) B hm A assign _ _ W _ _ _ T hr));obtain⟨E1,k1,k2,k3,k4⟩:=hp;cases e<;>simp only[qP] at k4<;>try exact k4.elim
   obtain⟨k5,k6⟩:=k4
   let V:World:={w1 with heap:=w1.heap.setIfInBounds (w.heap.size+1) (.loop (rec .busy none))}
   refine⟨V,?_,PD (λe a2 O hp=>?_) (c7 (rn:=some (w.heap.size+1)) B hm A body E1 a1 V _ _ _ k1 k6)⟩
   ·simp[Instr.beginRound,Uo,getObj,setObj,PY,k5,G,m,V]
   ·obtain⟨E2,q1,q2,q3,z⟩:=hp;have L:Alike W O:=(k3.trans (.of_le rfl (Ot _)):Alike W V).trans q3;have fin:∀(j:Option Code) (s:LoopState),s=(if j.isNone then .ready else .done)->O.heap[w.heap.size+1]?=some (.loop (rec .busy none))->K j.isNone (O.heap.setIfInBounds (w.heap.size+1) (.loop (rec s j)))->
      ∃v w',(V2 (w.heap.size+1) j).run P O=.ok v w'/\∃u,Ending.returned v=.returned u/\(∃b,u=.bool b/\K b w'.heap/\Alike W w'):=by
     intro j s hs a6 hk;refine⟨.bool j.isNone,{O with heap:=O.heap.setIfInBounds (w.heap.size+1) (.loop (rec s j))},?_,_,rfl,_,rfl,hk,L.trans (.of_le rfl (Ot _))⟩;subst hs;simp[V2,Uo,getObj,setObj,PY,a6,Q]
    cases e<;>simp only[qP] at z<;>try exact z.elim
    case normal=>exact fin none .ready rfl z.1 z.2
    case exit id=>exact fin (some (.exit id)) .done rfl z.1 z.2
    case ret=>exact fin (some .ret) .done rfl z.1 z.2
  have q:=h rec o H rfl;refine callsIn_wide.2 (q.mono λe X ⟨v,he,hk,L⟩=>?_);subst he;obtain⟨s,p,hl,hb,hk⟩:=hk;have M:Holds N ((w.heap.size::D).map oR) E {a with defers:=[oR w.heap.size]++a.defers}:=
   ⟨hH.size,by rw[hH.defers];rfl,λe he=>hH.all e he⟩
  have n:Alike w X:=(.of_le rfl (Ot _):Alike w H).trans L;have U:(Wb (w.heap.size+1)).run P X=.ok p {X with heap:=X.heap.setIfInBounds (w.heap.size+1) (.loop (rec .exhausted p))}:=by
   have a7:s≠V1:=by intro e;subst e;cases hb
   simp[Wb,Uo,getObj,setObj,PY,hl,F,m,a7];subst i;rfl
  refine⟨p,_,U,?_⟩;cases p with
  |none=>exact⟨w.heap.size::D,E,M,n.trans (.of_le rfl (Ot _)),hk⟩
  |some c=>
    cases c<;>simp only at hk<;>try exact hk.elim
    case exit id=>exact wpIn_exit ⟨w.heap.size::D,E,M,n.trans (.of_le rfl (Ot _)),hk⟩
    case ret=>exact wpIn_ret ⟨w.heap.size::D,E,M,n.trans (.of_le rfl (Ot _)),hk⟩
theorem vm.then {w a:World}{b:List Nat->List bK->aa->Prop}{c:Nat->List Nat->List bK->aa->Prop}{d:List Nat->List bK->aa->Prop}(h:Alike w a){e:Exit}{f:Act}{w':World}(g:vm N a b c d e f w'):vm N w b c d e f w':=by
 obtain⟨i,j,h1,k,l⟩:=g;exact⟨i,j,h1,h.trans k,l⟩
theorem iB (d:lX P)(hm:P.follows .mixedOrders=true)(A:Bq):∀(c:Code) (D:List Nat) (E:List bK) (a:Act) (w:World) (j:List Nat->List bK->aa->Prop) (k:Nat->List Nat->List bK->aa->Prop) (l:List Nat->List bK->aa->Prop),
  Holds N (D.map oR) E a->ES P N A c D E w.heap j k l->c.wpIn (FW none) 0 P (vm N w j k l) a w
 |.seq x y,D,E,a,w,j,k,l,hH,h=>by
   simp only[ES] at h;cases g:(cP x||cP y) with
   |false=>rw[g] at h;exact cZ d hm hH h
   |true=>
     rw[g] at h;simp only[cond_true] at h;refine wpIn_seq (PD (λe t w' r=>?_) (iB d hm A x D E a w _ _ _ hH h));obtain⟨n,o,h1,q,m⟩:=r;cases e<;>simp only[vK] at m<;>try exact m.elim
     case normal=>exact PD (λe u v r=>r.then q) (iB d hm A y n o t w' j k l h1 m)
     case exit i=>exact⟨n,o,h1,q,m⟩
     case ret=>exact⟨n,o,h1,q,m⟩
 |.cond c x y,D,E,a,w,j,k,l,hH,h=>by
   simp only[ES] at h;cases g:(cP x||cP y) with
   |false=>rw[g] at h;exact cZ d hm hH h
   |true=>
     rw[g] at h;simp only[cond_true] at h;split at h
     ·rename_i b g;have z:=gK hH (by simp) g;refine wpIn_cond z ?_;cases b with
      |true=>exact iB d hm A x D E a w j k l hH h
      |false=>exact iB d hm A y D E a w j k l hH h
     ·exact h.elim
 |.block id c,D,E,a,w,j,k,l,hH,h=>by
   simp only[ES] at h;cases g:cP c with
   |false=>rw[g] at h;exact cZ d hm hH h
   |true=>
     rw[g] at h;simp only[cond_true] at h;refine wpIn_block (PD (λe t w' r=>?_) (iB d hm A c D E a w _ _ _ hH h));obtain⟨n,o,h1,q,m⟩:=r;cases e<;>simp only[vK] at m<;>try exact m.elim
     case normal=>exact⟨n,o,h1,q,m⟩
     case exit i=>
      simp only[Wl];by_cases hi:i=id
      ·subst hi;rw[if_pos rfl];have s:OQ i i=true:=WW i;rw[s] at m;exact⟨n,o,h1,q,m⟩
      ·rw[if_neg hi];have s:OQ i id=false:=by
        cases g:OQ i id with
        |false=>rfl
        |true=>exact absurd (OD g) hi
       rw[s] at m;exact⟨n,o,h1,q,m⟩
     case ret=>exact⟨n,o,h1,q,m⟩
 |.rangeFunc f ps assign body,D,E,a,w,j,k,l,hH,h=>by
   simp only[ES] at h;split at h
   ·rename_i C sl B hsl;cases g:(LF ps.toList (sl.map (·.1))&&(nV ps.toList&&ps.toList.all (λp=>Qc p N))) with
    |false=>rw[g] at h;exact h.elim
    |true=>
      rw[g] at h;simp only[cond_true] at h;simp only[OB,List.all_eq_true] at g;exact ue d hm hH B (Ej g.1) g.2.1 (λp r=>Nat.lt_of_succ_le (by simpa[Qc] using g.2.2 p r)) h
   ·exact h.elim
 |.skip,D,E,a,w,j,k,l,hH,h=>cZ d hm hH h
 |.label _,D,E,a,w,j,k,l,hH,h=>cZ d hm hH h
 |.exit id,D,E,a,w,j,k,l,hH,h=>cZ d hm hH h
 |.ret,D,E,a,w,j,k,l,hH,h=>cZ d hm hH h
 |.region id ops draw,D,E,a,w,j,k,l,hH,h=>cZ d hm hH h
 |.loop c,D,E,a,w,j,k,l,hH,h=>cZ d hm hH h
 |.scope c,D,E,a,w,j,k,l,hH,h=>cZ d hm hH h
 |.goto _,D,E,a,w,j,k,l,hH,h=>cZ d hm hH h
 |.refuse _,D,E,a,w,j,k,l,hH,h=>cZ d hm hH h
theorem zu (g:lX P)(hm:P.follows .mixedOrders=true){f:FuncId}{A:Bq}{args:List Value}{H:aa}{R:Value->aa->Prop}(h:Ms P f A args H R):Spec P f args.toArray H R:=by
 intro w hw;subst hw;unfold Ms at h;split at h
 ·rename_i fn p;split at h
  ·rename_i c q;cases i:Nat.ble args.length fn.ntmps with
   |false=>rw[i] at h;exact h.elim
   |true=>
     rw[i] at h;simp only[cond_true] at h;have hle:args.length<=fn.ntmps:=Nat.le_of_ble_eq_true i;refine callsIn_wide.1 (callsIn_of_wp_marks (F:=FW none) p q trivial (PD (λe n w' s=>?_) (iB (N:=fn.ntmps) g hm A c [] (CS 0 args) _ w _ _ _ ⟨?_,rfl,?_⟩ h)))
     ·obtain⟨o,t,h1,u,a⟩:=s;have fin:zP P fn.results o t w'.heap R->LeavesInM (FW none) 0 P fn n.tmps (λe b=>∃v,e=.returned v/\R v b.heap/\Alike w b) n.defers .returning w':=by
       intro x;rw[h1.defers];refine ve (w0:=w') (λb y hk=>?_) o w' (.refl _) x;obtain⟨v,z,r2⟩:=yR (fn:=fn) (w:=b) h1 hk;exact⟨v,z,v,rfl,r2,u.trans y⟩
      cases e<;>simp only[vK] at a<;>try exact a.elim
      case normal=>exact fin a
      case ret=>exact fin a
     ·simp;omega
     ·have key:∀(l:List Value) (k:Nat),(∀j v,l[j]?=some v->(args++List.replicate (fn.ntmps - args.length) undef)[k+j]?=some v)->
        ∀e∈CS k l,fw {tmps:=args.toArray++Array.replicate (fn.ntmps - args.toArray.size) undef,defers:=[]} e:=by
       intro l
       induction l with
       |nil=>intro k _ e he;simp[CS] at he
       |cons v r B=>
         intro k hk e he;simp only[CS] at he;rcases OG.1 he with he|he
         ·subst he;have:=hk 0 v rfl;simp only[fw];rw[<-Array.getElem?_toList];simpa using this
         ·exact B (k+1) (λj v d=>by
           have:=hk (j+1) v (by simpa using d)
           rwa [show k+(j+1)=k+1+j by omega] at this) e he
      exact key args 0 (λj v d=>by
       have m:=(List.getElem?_eq_some_iff.1 d).1;rw[Nat.zero_add,List.getElem?_append_left m];exact d)
  ·exact h.elim
 ·exact h.elim
theorem yn (a:lX P)(hm:P.follows .mixedOrders=true){c:eM}{f:FuncId}{A:Bq}{args:List Value}{H:aa}{R:c.α->aa->Prop}(h:LO c P f A args H R):ai c P f args.toArray H R:=
 (zu a hm h).mono λv H' h1=>by
  obtain⟨x,b,d⟩:=gJ h1;exact⟨x,c.ok _ _ b,d⟩
end
end Go.Proofs.YtmkbhnholcaghaaGreatDoor
