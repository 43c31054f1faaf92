/-
 Ground, sixth text: code, loops, whole functions.
-/
import Derived.Test.YtacfhncgbgijhaaGreatFxe
namespace Go.Proofs.YtacfhncgbgijhaaGreat
def aC (α:Type) (x0:α) (H:aa) (body:(α→aa→Prop)→α→aa→Prop):Prop:=
 ∃(γ:Type) (I:γ→α→aa→Prop) (m:γ→Nat),(∃g,I g x0 H)∧∀g x H',I g x H'→body (fun x' H''=>∃g',I g' x' H''∧m g'<m g) x H'
def cut (α:Type) (A:(α→aa→Prop)→Prop) (B:α→aa→Prop):Prop:=∃J:α→aa→Prop,A J∧∀x H,J x H→B x H
abbrev AW:=List (Nat×List (Nat×fe))
def w9:AW→Nat→Option (List (Nat×fe))
 |[],_=>none
 |p::r,k=>bif Nat.beq p.1 k then some p.2 else w9 r k
def lead:Code→Option Nat
 |.region id _ _=>some id
 |.seq a b=>(match lead a with|some k=>some k|none=>lead b)
 |.cond _ x y=>(match lead x with|some k=>some k|none=>lead y)
 |.block _ c=>lead c
 |.loop c=>lead c
 |.scope c=>lead c
 |_=>none
def writes:Code→List Nat
 |.region _ ops _=>Eu ops.toList
 |.seq a b=>writes a++writes b
 |.cond _ x y=>writes x++writes y
 |.block _ c=>writes c
 |.loop c=>writes c
 |.scope c=>writes c
 |_=>[]
def tU (W:List Nat) (t:Nat):Bool:=W.any (Nat.beq t)
def kQ (W:List Nat) (e:bY):Bool:=!(tU W e.s)&&(match e.g with|some p=>!(tU W p.1)|none=>true)
def qq (sl:List (Nat×fe)):List fe:=sl.map (·.2)
def fO:List Nat→List Value→List bY
 |s::r,v::vs=>⟨s,v,none⟩::fO r vs
 |_,_=>[]
def AX (E:List bY):List Nat→Option (List Value)
 |[]=>some []
 |s::r=>(match find E s with
   |some ⟨_,v,none⟩=>(match AX E r with|some vs=>some (v::vs)|none=>none)
   |_=>none)
def sV (E:List bY) (sl:List (Nat×fe)):Option (de.α (qq sl)):=match AX E (sl.map (·.1)) with|some vs=>de.dec (qq sl) vs|none=>none
def iP {α:Type} (o:Option α) (K:α→Prop):Prop:=match o with|some x=>K x|none=>False
def Ka (A:AW) (b:Code):Option (List (Nat×fe)):=match lead b with|some k=>w9 A (100000+k)|none=>none
def tP (P:Program) (N:Nat) (A:AW):Code→List bY→aa→(List bY→aa→Prop)→(Nat→List bY→aa→Prop)→(List bY→aa→Prop)→Prop
 |.skip,E,H,Kn,_,_=>Kn E H
 |.label _,E,H,Kn,_,_=>Kn E H
 |.region id ops draw,E,H,Kn,_,_=>(match (bif draw then w9 A (300000+id) else none) with
   |some (f::c::_)=>JD f.1 c.1 P N ops E H Kn
   |_=>KO P N ops draw E H Kn)
 |.seq a b,E,H,Kn,Kx,Kr=>
   (match Ka A b with
   |none=>tP P N A a E H (fun E' H'=>tP P N A b E' H' Kn Kx Kr) Kx Kr
   |some sl=>cut (de.α (qq sl)) (fun J=>tP P N A a E H (fun E' H'=>iP (sV E' sl) fun x=>J x H') Kx Kr)
     fun x H'=>tP P N A b (fO (sl.map (·.1)) (de.enc (qq sl) x)++E.filter (kQ (writes a))) H' Kn Kx Kr)
 |.cond c x y,E,H,Kn,Kx,Kr=>
   (match Bz E [] c with
   |some (.bool b)=>br b (tP P N A x E H Kn Kx Kr) (tP P N A y E H Kn Kx Kr)
   |_=>False)
 |.block id c,E,H,Kn,Kx,Kr=>tP P N A c E H Kn (fun i E' H'=>bif Nat.beq i id then Kn E' H' else Kx i E' H') Kr
 |.loop c,E,H,_,Kx,Kr=>
   (match (match lead c with|some k=>w9 A k|none=>none) with
   |none=>False
   |some sl=>iP (sV E sl) fun x0=>aC (de.α (qq sl)) x0 H fun next x H'=>
     tP P N A c (fO (sl.map (·.1)) (de.enc (qq sl) x)++E.filter (kQ (writes c))) H' (fun E' H''=>iP (sV E' sl) fun x'=>next x' H'') Kx Kr)
 |.scope c,E,H,Kn,Kx,Kr=>tP P N A c E H Kn Kx Kr
 |.exit id,E,H,_,Kx,_=>Kx id E H
 |.ret,E,H,_,_,Kr=>Kr E H
 |_,_,_,_,_,_=>False
def uF (P:Program):List ResultVar→List bY→aa→(List Value→Prop)→Prop
 |[],_,_,K=>K []
 |.tmp t::r,E,H,K=>(match Bz E [] (.tmp t) with|some v=>uF P r E H (fun vs=>K (v::vs))|none=>False)
 |.cell a t::r,E,H,K=>(bif sF E [] (.load t (.tmp a)) then qD P (.load t (.tmp a)) t (Ft E []) none H (fun v=>uF P r E H (fun vs=>K (v::vs))) else False)
def oneOf:List Value→Value
 |[v]=>v
 |vs=>.tuple ⟨vs⟩
def Is (P:Program) (res:Array ResultVar) (E:List bY) (H:aa) (R:Value→aa→Prop):Prop:=uF P res.toList E H fun vs=>R (oneOf vs) H
def BI:Nat→List Value→List bY
 |_,[]=>[]
 |k,v::r=>⟨k,v,none⟩::BI (k+1) r
def cN:Code→Bool
 |.rangeFunc ..=>true
 |.seq a b=>cN a||cN b
 |.cond _ x y=>cN x||cN y
 |.block _ c=>cN c
 |_=>false
abbrev Rec:=LoopState→Option Code→Loop
def lR (l:Nat) (rec:Rec) (H:aa) (fin:aa→Prop) (fex:Nat→aa→Prop) (fret:aa→Prop):Prop:=
 ∃s p,H[l]?=some (.loop (rec s p))∧(s==LoopState.busy)=false∧
   (match p with
   |none=>fin (H.setIfInBounds l (.loop (rec .exhausted none)))
   |some c=>(match c with
     |.exit id=>fex id (H.setIfInBounds l (.loop (rec .exhausted (some (.exit id)))))
     |.ret=>fret (H.setIfInBounds l (.loop (rec .exhausted (some .ret))))
     |_=>False))
def nZ (P:Program) (fv:Value) (H:aa) (body:Nat→Rec→List Value→aa→(Bool→aa→Prop)→Prop) (fin:Nat→aa→Prop) (fex:Nat→Nat→aa→Prop) (fret:Nat→aa→Prop):Prop:=
 ∃g cap,fv=.func (.func g) #[] cap∧bQ P g=true∧∀rec:Rec,
   (∀vs H' K,H'[H.size+1]?=some (.loop (rec .ready none))→body (H.size+1) rec vs H' K→b8 P (H.size+1) vs.toArray H' K)→
   Spec P g (#[.func (.yield (H.size+1)) #[] #[]]++cap) ((H.push (.deferred (some []))).push (.loop (rec .ready none)))
    fun _ H3=>lR (H.size+1) rec H3 (fin H.size) (fun id=>fex id H.size) (fret H.size)
def mJ:List Nat→Bool
 |[]=>true
 |x::r=>!(tU r x)&&mJ r
def Kd:List Nat→List Nat→Bool
 |[],[]=>true
 |x::r,y::t=>Nat.beq x y&&Kd r t
 |_,_=>false
def wi (P:Program) (N:Nat) (A:AW) (E:List bY) (sl:List (Nat×fe)) (assign body:Code) (l:Nat) (rec:Rec) (vs:List Value) (H:aa) (K:Bool→aa→Prop):Prop:=
 iP (de.dec (qq sl) vs) fun x=>
  tP P N A assign (fO (sl.map (·.1)) (de.enc (qq sl) x)++E.filter (kQ (sl.map (·.1)))) H
   (fun E1 H1=>H1[l]?=some (.loop (rec .ready none))∧tP P N A body E1 (H1.setIfInBounds l (.loop (rec .busy none)))
    (fun _ H3=>H3[l]?=some (.loop (rec .busy none))∧K true (H3.setIfInBounds l (.loop (rec .ready none))))
    (fun id _ H3=>H3[l]?=some (.loop (rec .busy none))∧K false (H3.setIfInBounds l (.loop (rec .done (some (.exit id))))))
    (fun _ H3=>H3[l]?=some (.loop (rec .busy none))∧K false (H3.setIfInBounds l (.loop (rec .done (some .ret))))))
   (fun _ _ _=>False) (fun _ _=>False)
def DM (P:Program) (N:Nat) (A:AW):Code→List Nat→List bY→aa→(List Nat→List bY→aa→Prop)→(Nat→List Nat→List bY→aa→Prop)→(List Nat→List bY→aa→Prop)→Prop
 |.seq a b,D,E,H,Kn,Kx,Kr=>
   bif cN a||cN b then DM P N A a D E H (fun D' E' H'=>DM P N A b D' E' H' Kn Kx Kr) Kx Kr
   else tP P N A (.seq a b) E H (Kn D) (fun i=>Kx i D) (Kr D)
 |.cond c x y,D,E,H,Kn,Kx,Kr=>
   bif cN x||cN y then
    (match Bz E [] c with
    |some (.bool b)=>br b (DM P N A x D E H Kn Kx Kr) (DM P N A y D E H Kn Kx Kr)
    |_=>False)
   else tP P N A (.cond c x y) E H (Kn D) (fun i=>Kx i D) (Kr D)
 |.block id c,D,E,H,Kn,Kx,Kr=>
   bif cN c then DM P N A c D E H Kn (fun i D' E' H'=>bif Nat.beq i id then Kn D' E' H' else Kx i D' E' H') Kr
   else tP P N A (.block id c) E H (Kn D) (fun i=>Kx i D) (Kr D)
 |.rangeFunc f ps assign body,D,E,H,Kn,Kx,Kr=>
   (match Bz E [] f,w9 A (200000+(lead body).getD 0) with
   |some fv,some sl=>bif Kd ps.toList (sl.map (·.1))&&(mJ ps.toList&&ps.toList.all (fun p=>Nat.blt p N)) then
     nZ P fv H (wi P N A E sl assign body) (fun r H'=>Kn (r::D) E H') (fun id r H'=>Kx id (r::D) E H') (fun r H'=>Kr (r::D) E H') else False
   |_,_=>False)
 |c,D,E,H,Kn,Kx,Kr=>tP P N A c E H (Kn D) (fun i=>Kx i D) (Kr D)
def yC:List Nat→aa→(aa→Prop)→Prop
 |[],H,K=>K H
 |r::D,H,K=>H[r]?=some (.deferred (some []))∧yC D (H.setIfInBounds r (.deferred none)) K
def yY (P:Program) (res:Array ResultVar) (D:List Nat) (E:List bY) (H:aa) (R:Value→aa→Prop):Prop:=yC D H fun H'=>Is P res E H' R
def KH (P:Program) (f:FuncId) (A:AW) (args:List Value) (H:aa) (R:Value→aa→Prop):Prop:=
 match P.funcs[f]? with
 |some fn=>(match fn.body with
   |some c=>(bif Nat.ble args.length fn.ntmps then DM P fn.ntmps A c [] (BI 0 args) H (fun D E H'=>yY P fn.results D E H' R) (fun _ _ _ _=>False) (fun D E H'=>yY P fn.results D E H' R) else False)
   |none=>False)
 |none=>False
def JQ (c:fe) (P:Program) (f:FuncId) (A:AW) (args:List Value) (H:aa) (R:c.α→aa→Prop):Prop:=
 KH P f A args H fun v H'=>iP (c.dec v) fun x=>R x H'
theorem gX {α:Type} {o:Option α} {K:α→Prop} (h:iP o K):∃x,o=some x∧K x:=by
 cases o with
 |none=>exact h.elim
 |some x=>exact⟨x,rfl,h⟩
section
variable {P:Program} {N:Nat} {D:List Deferred} {rn:Option Nat}
theorem dI (W:List Nat) (t:Nat):tU W t=W.contains t:=by
 unfold tU
 rw[List.contains_eq_any_beq]
 congr 1
 funext x
 cases h:Nat.beq t x with
 |true=>have:=Nat.eq_of_beq_eq_true h;subst this;simp
 |false=>
   have:t≠x:=fun e=>by subst e;simp at h
   simpa using this
theorem Holds.aq {E:List bY} {a a':Act} {W:List Nat} (hH:Holds N D E a) (hs:a'.tmps.size=N) (hd:a'.defers=D) (hS:je W a a'):Holds N D (E.filter (kQ W)) a':=by
 refine⟨hs,hd,fun e he=>?_⟩
 obtain⟨h1,h2⟩:=List.mem_filter.1 he
 have hok:=hH.all e h1
 unfold kQ at h2
 simp only[Bool.and_eq_true,Bool.not_eq_true',dI] at h2
 have e1:=hS e.s h2.1
 unfold fq at hok ⊢
 cases hg:e.g with
 |none=>rw[hg] at hok;exact e1.trans hok
 |some p=>
   rw[hg] at hok h2
   obtain⟨s,b⟩:=p
   have e2:=hS s (by have:=h2.2;simpa using this)
   refine⟨fun h=>e1.trans (hok.1 (e2.symm.trans h)),fun h=>e1.trans (hok.2 fun q=>h (e2.trans q))⟩
theorem Holds.append {E E':List bY} {a:Act} (h:Holds N D E a) (k:Holds N D E' a):Holds N D (E++E') a:=
 ⟨h.size,h.defers,fun e he=>(List.mem_append.1 he).elim (h.all e) (k.all e)⟩
theorem rH {E:List bY} {a:Act} (hH:Holds N D E a):∀{l:List Nat} {vs:List Value},AX E l=some vs→Holds N D (fO l vs) a
 |[],vs,h=>⟨hH.size,hH.defers,by cases vs<;>simp[fO]⟩
 |s::r,vs,h=>by
   unfold AX at h
   split at h
   ·rename_i s' v hf
    split at h
    ·rename_i vs' hr
     have e:v::vs'=vs:=Option.some.inj h
     subst e
     have ih:=rH hH hr
     obtain⟨h1,h2⟩:=fJ hf
     refine⟨hH.size,hH.defers,fun e he=>?_⟩
     simp only[fO] at he
     rcases List.mem_cons.1 he with he|he
     ·subst he
      have:=hH.all _ h1
      simp only at h2
      subst h2
      exact this
     ·exact ih.all e he
    ·cases h
   ·cases h
theorem kG {E:List bY} {a:Act} {sl:List (Nat×fe)} {x:de.α (qq sl)} (hH:Holds N D E a) (h:sV E sl=some x):Holds N D (fO (sl.map (·.1)) (de.enc (qq sl) x)) a:=by
 unfold sV at h
 split at h
 ·rename_i vs hv
  have:=de.ok _ _ _ h
  rw[←this]
  exact rH hH hv
 ·cases h
theorem exists_least {p:Nat→Prop}:∀n,p n→∃k,p k∧∀j,p j→k≤j:=by
 intro n
 induction n using Nat.strongRecOn with
 |_ n ih=>
   intro hn
   by_cases h:∃j,j<n∧p j
   ·obtain⟨j,h1,h2⟩:=h;exact ih j h1 h2
   ·exact⟨n,hn,fun j hj=>by
     rcases Nat.lt_or_ge j n with h1|h1
     ·exact absurd ⟨j,h1,hj⟩ h
     ·exact h1⟩
open Classical in
noncomputable def least (p:Nat→Prop):Nat:=if h:∃k,p k∧∀j,p j→k≤j then h.choose else 0
theorem rN {p:Nat→Prop} {n:Nat} (h:p n):p (least p)∧∀j,p j→least p≤j:=by
 have h1:=exists_least n h
 unfold least
 rw[dif_pos h1]
 exact h1.choose_spec
def pK (Kn:List bY→aa→Prop) (Kx:Nat→List bY→aa→Prop) (Kr:List bY→aa→Prop):Exit→List bY→aa→Prop
 |.normal,E,H=>Kn E H
 |.exit id,E,H=>Kx id E H
 |.ret,E,H=>Kr E H
 |_,_,_=>False
def post (N:Nat) (D:List Deferred) (W:List Nat) (a:Act) (w:World) (Kn:List bY→aa→Prop) (Kx:Nat→List bY→aa→Prop) (Kr:List bY→aa→Prop) (e:Exit) (a':Act) (w':World):Prop:=
 ∃E',Holds N D E' a'∧je W a a'∧Alike w w'∧pK Kn Kx Kr e E' w'.heap
theorem zn {F:Fence} {n:Nat} {Q:Exit→Act→World→Prop} {a:Act} {w:World} {c:Code} (h:c.wpIn F n P (fun e a w=>match e with|.goto _=>False|e=>Q e a w) a w):(Code.scope c).wpIn F n P Q a w:=by
 intro b k cs hro hb hr
 have h0:(lone (b.atR a (.code (.scope c)::k)) cs w).fenced P F:=fenced_calm hb hr rfl
 have s1:step P (lone (b.atR a (.code (.scope c)::k)) cs w)=.next (lone (b.atR a (.code c::.inScope c::k)) cs w):=step_lone_go (by simp[stepG,stepG.exec,Frame.atR])
 have s2:∀a w,step P (lone (b.atR a (.inScope c::k)) cs w)=.next (lone (b.atR a k) cs w):=fun a w=>step_lone_go (by simp[stepG,stepG.exec,Frame.atR])
 obtain⟨e,a₁,w₁,hq,harr⟩:=h b (.inScope c::k) cs hro hb hr
 cases e with
 |normal=>exact⟨.normal,a₁,w₁,hq,.head h0 s1 (StepsIn.trans harr (.one (fenced_calm hb hr rfl) (s2 _ _)))⟩
 |exit id'=>
   have hx:exitTo id' (.inScope c::k)=exitTo id' k:=by simp[exitTo]
   exact⟨.exit id',a₁,w₁,hq,fun k' hk=>.head h0 s1 (harr.1 k' (by rw[hx];exact hk)),
    fun hr' hk=>let ⟨k₁,h1,h2⟩:=harr.2 hr' (by rw[hx];exact hk);⟨k₁,h1,.head h0 s1 h2⟩⟩
 |goto l=>exact hq.elim
 |ret=>exact⟨_,a₁,w₁,hq,.of_steps (.one h0 s1) harr⟩
 |panic ch=>exact⟨_,a₁,w₁,hq,.of_steps (.one h0 s1) harr⟩
 |outgrown=>exact⟨_,a₁,w₁,hq,.of_steps (.one h0 s1) harr⟩
theorem cS (hNG:lZ P) (hm:P.follows .mixedOrders=true) (A:AW):∀(c:Code) (E:List bY) (a:Act) (w:World) (Kn:List bY→aa→Prop) (Kx:Nat→List bY→aa→Prop) (Kr:List bY→aa→Prop),
  Holds N D E a→tP P N A c E w.heap Kn Kx Kr→c.wpIn (FW rn) 0 P (post N D (writes c) a w Kn Kx Kr) a w
 |.skip,E,a,w,Kn,Kx,Kr,hH,h=>wpIn_skip ⟨E,hH,.refl _ _,.refl _,h⟩
 |.label _,E,a,w,Kn,Kx,Kr,hH,h=>wpIn_label ⟨E,hH,.refl _ _,.refl _,h⟩
 |.exit id,E,a,w,Kn,Kx,Kr,hH,h=>wpIn_exit ⟨E,hH,.refl _ _,.refl _,h⟩
 |.ret,E,a,w,Kn,Kx,Kr,hH,h=>wpIn_ret ⟨E,hH,.refl _ _,.refl _,h⟩
 |.region id ops draw,E,a,w,Kn,Kx,Kr,hH,h=>by
   simp only[tP] at h
   split at h
   ·rename_i f c _ hl
    cases draw with
    |false=>cases hl
    |true=>exact zm hNG hm hH (fun E' a' w' h1 h2 h3 h4=>⟨E',h1,h2,h3,h4⟩) h
   ·exact BC hNG hm hH (fun E' a' w' h1 h2 h3 h4=>⟨E',h1,h2,h3,h4⟩) h
 |.cond c x y,E,a,w,Kn,Kx,Kr,hH,h=>by
   simp only[tP] at h
   split at h
   ·rename_i b hb
    have ec:=gN hH (by simp) hb
    refine wpIn_cond ec ?_
    cases b with
    |true=>
      exact Code.wpIn_mono (fun e a' w' ⟨E',h1,h2,h3,h4⟩=>⟨E',h1,h2.mono (fun t ht=>by
       simp only[writes,←dI,tU,List.any_append,Bool.or_eq_false_iff] at ht ⊢;exact ht.1),h3,h4⟩) (cS hNG hm A x E a w Kn Kx Kr hH h)
    |false=>
      exact Code.wpIn_mono (fun e a' w' ⟨E',h1,h2,h3,h4⟩=>⟨E',h1,h2.mono (fun t ht=>by
       simp only[writes,←dI,tU,List.any_append,Bool.or_eq_false_iff] at ht ⊢;exact ht.2),h3,h4⟩) (cS hNG hm A y E a w Kn Kx Kr hH h)
   ·exact h.elim
 |.block id c,E,a,w,Kn,Kx,Kr,hH,h=>by
   refine wpIn_block (Code.wpIn_mono (fun e a' w' hp=>?_) (cS hNG hm A c E a w _ _ _ hH h))
   obtain⟨E',h1,h2,h3,h4⟩:=hp
   cases e<;>simp only[pK] at h4<;>try exact h4.elim
   case normal=>exact⟨E',h1,h2,h3,h4⟩
   case exit i=>
    simp only[Exit.inBlock]
    by_cases hi:i=id
    ·subst hi
     rw[if_pos rfl]
     have e0:Nat.beq i i=true:=Nat.beq_refl i
     rw[e0] at h4
     exact⟨E',h1,h2,h3,h4⟩
    ·rw[if_neg hi]
     have e0:Nat.beq i id=false:=by
      cases hb:Nat.beq i id with
      |false=>rfl
      |true=>exact absurd (Nat.eq_of_beq_eq_true hb) hi
     rw[e0] at h4
     exact⟨E',h1,h2,h3,h4⟩
   case ret=>exact⟨E',h1,h2,h3,h4⟩
 |.seq x y,E,a,w,Kn,Kx,Kr,hH,h=>by
   have wx:∀t,(writes (.seq x y)).contains t=false→(writes x).contains t=false:=fun t ht=>by
    simp only[writes,←dI,tU,List.any_append,Bool.or_eq_false_iff] at ht ⊢;exact ht.1
   have wy:∀t,(writes (.seq x y)).contains t=false→(writes y).contains t=false:=fun t ht=>by
    simp only[writes,←dI,tU,List.any_append,Bool.or_eq_false_iff] at ht ⊢;exact ht.2
   simp only[tP] at h
   split at h
   ·refine wpIn_seq (Code.wpIn_mono (fun e a' w' hp=>?_) (cS hNG hm A x E a w _ _ _ hH h))
    obtain⟨E',h1,h2,h3,h4⟩:=hp
    cases e<;>simp only[pK] at h4<;>try exact h4.elim
    case normal=>
     exact Code.wpIn_mono (fun e a'' w'' ⟨E'',k1,k2,k3,k4⟩=>⟨E'',k1,(h2.mono wx).trans (k2.mono wy),h3.trans k3,k4⟩) (cS hNG hm A y E' a' w' Kn Kx Kr h1 h4)
    case exit i=>exact⟨E',h1,h2.mono wx,h3,h4⟩
    case ret=>exact⟨E',h1,h2.mono wx,h3,h4⟩
   ·rename_i sl hsl
    obtain⟨J,hA,hB⟩:=h
    refine wpIn_seq (Code.wpIn_mono (fun e a' w' hp=>?_) (cS hNG hm A x E a w _ _ _ hH hA))
    obtain⟨E',h1,h2,h3,h4⟩:=hp
    cases e<;>simp only[pK] at h4<;>try exact h4.elim
    case normal=>
     obtain⟨v,hv,hJ⟩:=gX h4
     have hH':=(kG h1 hv).append (hH.aq h1.size h1.defers h2)
     exact Code.wpIn_mono (fun e a'' w'' ⟨E'',k1,k2,k3,k4⟩=>⟨E'',k1,(h2.mono wx).trans (k2.mono wy),h3.trans k3,k4⟩) (cS hNG hm A y _ a' w' Kn Kx Kr hH' (hB _ _ hJ))
    case exit i=>exact⟨E',h1,h2.mono wx,h3,h4⟩
    case ret=>exact⟨E',h1,h2.mono wx,h3,h4⟩
 |.loop c,E,a,w,Kn,Kx,Kr,hH,h=>by
   simp only[tP] at h
   split at h
   ·exact h.elim
   ·rename_i sl hsl
    obtain⟨x0,hx0,γ,I,m,⟨g0,hI0⟩,hround⟩:=gX h
    let Inv:γ→Act→World→Prop:=fun g a' w'=>∃x,Holds N D (fO (sl.map (·.1)) (de.enc (qq sl) x)++E.filter (kQ (writes c))) a'∧je (writes c) a a'∧Alike w w'∧I g x w'.heap
    let p:Act→World→Nat→Prop:=fun a' w' n=>∃g,m g=n∧Inv g a' w'
    refine wpIn_loop (fun a' w'=>∃g,Inv g a' w') (fun a' w'=>least (p a' w')) ?_ ?_
    ·exact⟨g0,x0,(kG hH hx0).append (hH.aq hH.size hH.defers (.refl _ _)),.refl _ _,.refl _,hI0⟩
    ·intro a1 w1 ⟨g,hg⟩
     obtain⟨⟨g1,hm1,x1,k1,k2,k3,k4⟩,hmin⟩:=rN (p:=p a1 w1) (n:=m g) ⟨g,rfl,hg⟩
     refine Code.wpIn_mono (fun e a' w' hp=>?_) (cS hNG hm A c _ a1 w1 _ _ _ k1 (hround g1 x1 _ k4))
     obtain⟨E',h1,h2,h3,h4⟩:=hp
     have hS:je (writes c) a a':=k2.trans h2
     have hAl:Alike w w':=k3.trans h3
     cases e<;>simp only[pK] at h4<;>try exact h4.elim
     case normal=>
      obtain⟨x',hx',g',hI',hlt⟩:=gX h4
      have hinv:Inv g' a' w':=⟨x',(kG h1 hx').append (hH.aq h1.size h1.defers hS),hS,hAl,hI'⟩
      refine⟨⟨g',hinv⟩,?_⟩
      have:=(rN (p:=p a' w') (n:=m g') ⟨g',rfl,hinv⟩).2 (m g') ⟨g',rfl,hinv⟩
      omega
     case exit i=>exact⟨E',h1,hS,hAl,h4⟩
     case ret=>exact⟨E',h1,hS,hAl,h4⟩
 |.rangeFunc _ _ _ _,_,_,_,_,_,_,_,h=>h.elim
 |.scope c,E,a,w,Kn,Kx,Kr,hH,h=>by
   refine zn (Code.wpIn_mono (fun e a' w' hp=>?_) (cS hNG hm A c E a w Kn Kx Kr hH h))
   obtain⟨E',h1,h2,h3,h4⟩:=hp
   cases e<;>simp only[pK] at h4<;>try exact h4.elim
   all_goals exact⟨E',h1,h2,h3,h4⟩
 |.goto _,_,_,_,_,_,_,_,h=>h.elim
 |.refuse _,_,_,_,_,_,_,_,h=>h.elim
theorem kO {E:List bY} {a:Act} {w:World} (hH:Holds N D E a):∀{l:List ResultVar} {K:List Value→Prop},uF P l E w.heap K→
  ∃vs,(l.mapM fun r=>(match r with
    |.tmp t=>pure (a.tmps.getD t undef)
    |.cell ad t=>do loadVar t (←asAddr (a.tmps.getD ad undef)):Sem Value)).run P w=.ok vs w∧K vs
 |[],K,h=>⟨[],rfl,h⟩
 |.tmp t::r,K,h=>by
   simp only[uF] at h
   split at h
   ·rename_i v hv
    obtain⟨vs,h1,h2⟩:=kO hH h
    have e:a.tmps.getD t undef=v:=gN (x:=.tmp t) hH (by simp) hv
    refine⟨v::vs,?_,h2⟩
    rw[List.mapM_cons]
    simp only[Sem.run_bind,Sem.run_pure,Result.andThen_ok,e]
    rw[h1];rfl
   ·exact h.elim
 |.cell ad t::r,K,h=>by
   simp only[uF] at h
   cases hb:sF E [] (.load t (.tmp ad)) with
   |false=>rw[hb] at h;exact h.elim
   |true=>
     rw[hb] at h
     simp only[cond_true] at h
     obtain⟨v,h1,h2⟩:=jy (o:=⟨none,.load t (.tmp ad),t,"",#[],none⟩) h
     obtain⟨vs,h3,h4⟩:=kO hH h2
     have e1:=h1 w rfl
     rw[←oF (o:=⟨none,.load t (.tmp ad),t,"",#[],none⟩) hH (by simp) hb (by intro cs b e;cases e)] at e1
     simp only[execOp,Instr.loadAt,Sem.run_bind] at e1
     refine⟨v::vs,?_,h4⟩
     rw[List.mapM_cons]
     have e2:(do loadVar t (←asAddr (a.tmps.getD ad undef)):Sem Value).run P w=.ok v w:=by
      have e3:a.eval (.tmp ad)=a.tmps.getD ad undef:=rfl
      rw[e3] at e1
      generalize a.tmps.getD ad undef=q at*
      cases q with
      |pointer p=>
        cases p with
        |none=>simp[Instr.sureAddr] at e1
        |some ad=>
          simp only[Instr.sureAddr,Sem.run_pure,Result.andThen_ok] at e1
          simp only[asAddr,Sem.run_bind,Sem.run_pure,Result.andThen_ok]
          cases hr:(loadVar t ad).run P w with
          |ok u w2=>rw[hr] at e1;simp at e1;rw[e1.1,e1.2]
          |halt x w2=>rw[hr] at e1;simp at e1
      |_=>simp[Instr.sureAddr] at e1
     simp only[Sem.run_bind] at e2 ⊢
     rw[e2]
     simp only[Result.andThen_ok,h3,Sem.run_pure]
theorem wG {fn:Func} {E:List bY} {a:Act} {w:World} {R:Value→aa→Prop} (hH:Holds N D E a) (h:Is P fn.results E w.heap R):
  ∃v,(results fn a.tmps).run P w=.ok v w∧R v w.heap:=by
 obtain⟨vs,h1,h2⟩:=kO hH h
 refine⟨oneOf vs,?_,h2⟩
 unfold results
 rw[Sem.run_bind,Array.mapM_eq_mapM_toList,Sem.run_map]
 have e:∀{g:ResultVar→Sem Value},(fn.results.toList.mapM g).run P w=.ok vs w→
   ((((fn.results.toList.mapM g).run P w).andThen fun a w'=>Result.ok a.toArray w').andThen fun vs w'=>(pure (if h:vs.size=1 then vs[0] else .tuple vs):Sem Value).run P w')=.ok (oneOf vs) w:=by
  intro g hg
  rw[hg]
  simp only[Result.andThen_ok,Sem.run_pure]
  congr 1
  cases vs with
  |nil=>rfl
  |cons v r=>
    cases r with
    |nil=>rfl
    |cons v2 r=>simp[oneOf]
 exact e h1
def mR (r:Nat):Deferred:={target:=.collected r,args:=#[]}
theorem uo {fn:Func} {tmps:Array Value} {R:Ending→World→Prop} {w0:World} {K:aa→Prop} (hK:∀w,Alike w0 w→K w.heap→LeavesIn Fence.wide 0 P fn tmps R [] .returning w):
  ∀(D:List Nat) (w:World),Alike w0 w→yC D w.heap K→LeavesInM Fence.wide 0 P fn tmps R (D.map mR) .returning w
 |[],w,ha,h=>hK w ha h
 |r::D,w,ha,h=>by
   obtain⟨h1,h2⟩:=h
   refine⟨by simp,.inl ⟨r,{w with heap:=w.heap.setIfInBounds r (.deferred none)},rfl,?_,uo hK D _ (ha.trans (.of_le rfl (Nat.le_refl _))) h2⟩⟩
   simp[Instr.takeDeferred,getObj,setObj,Sem.run,h1]
theorem qO {W:List Nat} {t:Nat}:tU W t=true↔t∈W:=by
 rw[dI];simp
theorem uW:∀(ps:List Nat) (vs:List Value) (tm:Array Value),((ps.zip vs).foldl (fun t (p,v)=>t.setIfInBounds p v) tm).size=tm.size
 |[],_,_=>rfl
 |_::_,[],_=>rfl
 |p::ps,v::vs,tm=>by simp only[List.zip_cons_cons,List.foldl_cons];rw[uW ps vs];simp
theorem j9:∀(ps:List Nat) (vs:List Value) (tm:Array Value) (t:Nat),t∉ps→((ps.zip vs).foldl (fun t (p,v)=>t.setIfInBounds p v) tm)[t]?=tm[t]?
 |[],_,_,_,_=>rfl
 |_::_,[],_,_,_=>rfl
 |p::ps,v::vs,tm,t,h=>by
   simp only[List.mem_cons,not_or] at h
   simp only[List.zip_cons_cons,List.foldl_cons]
   rw[j9 ps vs _ t h.2,Array.getElem?_setIfInBounds_ne (Ne.symm h.1)]
theorem su:∀(ps:List Nat) (vs:List Value) (tm:Array Value),mJ ps=true→(∀p∈ps,p<tm.size)→∀e∈fO ps vs,e.g=none∧((ps.zip vs).foldl (fun t (p,v)=>t.setIfInBounds p v) tm)[e.s]?=some e.v
 |[],vs,_,_,_,e,he=>by cases vs<;>simp[fO] at he
 |_::_,[],_,_,_,e,he=>by simp[fO] at he
 |p::ps,v::vs,tm,hn,hp,e,he=>by
   simp only[mJ,Bool.and_eq_true,Bool.not_eq_true'] at hn
   simp only[fO] at he
   simp only[List.zip_cons_cons,List.foldl_cons]
   rcases List.mem_cons.1 he with he|he
   ·subst he
    refine⟨rfl,?_⟩
    have hnm:p∉ps:=fun h=>by rw[qO.2 h] at hn;cases hn.1
    rw[j9 ps vs _ p hnm]
    simp[hp p List.mem_cons_self]
   ·exact su ps vs _ hn.2 (fun q hq=>by simpa using hp q (List.mem_cons_of_mem _ hq)) e he
theorem xf {E:List bY} {a:Act} (hH:Holds N D E a) {ps:List Nat} {vs:List Value} (hn:mJ ps=true) (hp:∀p∈ps,p<N):
  Holds N [] (fO ps vs++E.filter (kQ ps)) {tmps:=(ps.zip vs).foldl (fun t (p,v)=>t.setIfInBounds p v) a.tmps,defers:=[]}:=by
 refine⟨(uW _ _ _).trans hH.size,rfl,fun e he=>?_⟩
 rcases List.mem_append.1 he with he|he
 ·obtain⟨h1,h2⟩:=su ps vs a.tmps hn (fun p hp'=>by rw[hH.size];exact hp p hp') e he
  unfold fq
  rw[h1]
  exact h2
 ·obtain⟨h1,h2⟩:=List.mem_filter.1 he
  have hok:=hH.all e h1
  unfold kQ at h2
  simp only[Bool.and_eq_true,Bool.not_eq_true'] at h2
  have e1:((ps.zip vs).foldl (fun t (p,v)=>t.setIfInBounds p v) a.tmps)[e.s]?=a.tmps[e.s]?:=j9 _ _ _ _ (fun h=>by rw[qO.2 h] at h2;cases h2.1)
  unfold fq at hok ⊢
  cases hg:e.g with
  |none=>rw[hg] at hok;exact e1.trans hok
  |some p=>
    rw[hg] at hok h2
    obtain⟨s,b⟩:=p
    have e2:((ps.zip vs).foldl (fun t (p,v)=>t.setIfInBounds p v) a.tmps)[s]?=a.tmps[s]?:=j9 _ _ _ _ (fun h=>by
     have h3:=h2.2
     simp only[Bool.not_eq_true'] at h3
     rw[qO.2 h] at h3;cases h3)
    exact⟨fun h=>e1.trans (hok.1 (e2.symm.trans h)),fun h=>e1.trans (hok.2 fun q=>h (e2.trans q))⟩
theorem DW:∀{a b:List Nat},Kd a b=true→a=b
 |[],[],_=>rfl
 |x::r,y::t,h=>by
   simp only[Kd,Bool.and_eq_true] at h
   rw[Nat.eq_of_beq_eq_true h.1,DW h.2]
def wh (Kn:List Nat→List bY→aa→Prop) (Kx:Nat→List Nat→List bY→aa→Prop) (Kr:List Nat→List bY→aa→Prop):Exit→List Nat→List bY→aa→Prop
 |.normal,D,E,H=>Kn D E H
 |.exit id,D,E,H=>Kx id D E H
 |.ret,D,E,H=>Kr D E H
 |_,_,_,_=>False
def uu (N:Nat) (w:World) (Kn:List Nat→List bY→aa→Prop) (Kx:Nat→List Nat→List bY→aa→Prop) (Kr:List Nat→List bY→aa→Prop) (e:Exit) (a':Act) (w':World):Prop:=
 ∃D' E',Holds N (D'.map mR) E' a'∧Alike w w'∧wh Kn Kx Kr e D' E' w'.heap
theorem cV (hNG:lZ P) (hm:P.follows .mixedOrders=true) {A:AW} {c:Code} {D:List Nat} {E:List bY} {a:Act} {w:World} {Kn:List Nat→List bY→aa→Prop} {Kx:Nat→List Nat→List bY→aa→Prop} {Kr:List Nat→List bY→aa→Prop}
  (hH:Holds N (D.map mR) E a) (h:tP P N A c E w.heap (Kn D) (fun i=>Kx i D) (Kr D)):c.wpIn (FW none) 0 P (uu N w Kn Kx Kr) a w:=
 Code.wpIn_mono (fun e a' w' ⟨E',h1,_,h3,h4⟩=>⟨D,E',h1,h3,by cases e<;>first|exact h4|exact h4.elim⟩) (cS hNG hm A c E a w _ _ _ hH h)
theorem tH (hNG:lZ P) (hm:P.follows .mixedOrders=true) {A:AW} {f:Operand} {ps:Array Tmp} {assign body:Code} {D:List Nat} {E:List bY} {a:Act} {w:World} {fv:Value} {sl:List (Nat×fe)}
  {Kn:List Nat→List bY→aa→Prop} {Kx:Nat→List Nat→List bY→aa→Prop} {Kr:List Nat→List bY→aa→Prop}
  (hH:Holds N (D.map mR) E a) (hf:Bz E [] f=some fv) (hps:ps.toList=sl.map (·.1)) (hnd:mJ ps.toList=true) (hlt:∀p∈ps.toList,p<N)
  (h:nZ P fv w.heap (wi P N A E sl assign body) (fun r H'=>Kn (r::D) E H') (fun id r H'=>Kx id (r::D) E H') (fun r H'=>Kr (r::D) E H')):
  (Code.rangeFunc f ps assign body).wpIn (FW none) 0 P (uu N w Kn Kx Kr) a w:=by
 obtain⟨g,cap,rfl,hcall,h⟩:=h
 have hev:a.eval f=.func (.func g) #[] cap:=gN hH (by simp) hf
 refine wpIn_rangeFunc (fun fn _=>?_)
 obtain⟨rec,hrec⟩:∃rec:Rec,rec=fun st pe=>{state:=st,pending:=pe,fn,tmps:=a.tmps,params:=ps,assign,body,defers:=w.heap.size}:=⟨_,rfl⟩
 have hstate:∀s p,(rec s p).state=s:=fun s p=>by rw[hrec]
 have hpend:∀s p,(rec s p).pending=p:=fun s p=>by rw[hrec]
 have hset:∀s p s' p',({rec s p with state:=s',pending:=p'}:Loop)=rec s' p':=fun s p s' p'=>by rw[hrec]
 have hset2:∀s p s',({rec s p with state:=s'}:Loop)=rec s' p:=fun s p s'=>by rw[hrec]
 let W1:World:={w with heap:=(w.heap.push (.deferred (some []))).push (.loop (rec .ready none))}
 have hsz:(w.heap.push (Obj.deferred (some []))).size=w.heap.size+1:=by simp
 refine⟨w.heap.size+1,[mR w.heap.size],W1,{target:=.fn (.func g) cap,args:=#[.func (.yield (w.heap.size+1)) #[] #[]]},W1,g,#[.func (.yield (w.heap.size+1)) #[] #[]]++cap,W1,?_,?_,fun _ _=>trivial,?_,(fun hh=>by cases hh),?_⟩
 ·show (Instr.enterLoop fn a.tmps ps assign body none).run P w=_
  subst hrec
  simp[Instr.enterLoop,newObj,Sem.run_bind,Sem.run,mR,W1]
  rfl
 ·show (Deferred.ofValue (a.eval f) (#[Operand.const (.func (.yield (w.heap.size+1)) #[] #[])].map a.eval)).run P W1=_
  rw[hev];simp[Deferred.ofValue];rfl
 ·unfold bQ at hcall
  split at hcall
  ·rename_i fn' hfn
   obtain⟨b,hb⟩:=Option.isSome_iff_exists.1 hcall
   have h1:fn'.name≠"runtime.NumGoroutine":=by simpa using hNG _ _ hfn
   simp[invoke,callFunc,hfn,h1,hb]
  ·cases hcall
 ·-- the call
  have hround:∀vs H' K,H'[w.heap.size+1]?=some (.loop (rec .ready none))→wi P N A E sl assign body (w.heap.size+1) rec vs H' K→b8 P (w.heap.size+1) vs.toArray H' K:=by
   intro vs H' K hl hr W hW
   subst hW
   obtain⟨x,hx,hr⟩:=gX hr
   have evs:=de.ok _ _ _ hx
   have hlen:vs.length=ps.size:=by
    have e1:∀(l:List fe) (y:de.α l),(de.enc l y).length=l.length:=by
     intro l
     induction l with
     |nil=>intro y;rfl
     |cons c r ih=>
       intro y
       cases r with
       |nil=>rfl
       |cons d r=>simp only[de.enc,List.length_cons];rw[ih];rfl
    rw[evs,e1]
    have:=congrArg List.length hps
    simp only[Array.length_toList,List.length_map] at this
    rw[this];simp[qq]
   have hrun:(Instr.yield (w.heap.size+1) vs.toArray).run P W=.ok (.round (w.heap.size+1) fn ((ps.zip vs.toArray).foldl (fun tmps (t,a)=>tmps.setIfInBounds t a) a.tmps) assign body) W:=by
    have e2:(rec .ready none).params=ps∧(rec .ready none).fn=fn∧(rec .ready none).tmps=a.tmps∧(rec .ready none).assign=assign∧(rec .ready none).body=body:=by rw[hrec];exact⟨rfl,rfl,rfl,rfl,rfl⟩
    simp[Instr.yield,Instr.getLoop,getObj,Sem.run,hl,e2,hlen]
   rw[hrun]
   simp only[og]
   have hfold:(ps.zip vs.toArray).foldl (fun tmps (t,a)=>tmps.setIfInBounds t a) a.tmps=(ps.toList.zip vs).foldl (fun t (p,v)=>t.setIfInBounds p v) a.tmps:=by
    rw[←Array.foldl_toList]
    simp
   rw[hfold]
   have hH1:=xf hH (vs:=vs) hnd hlt
   rw[hps,evs] at hH1
   rw[hps,evs]
   refine roundIn_of_wpIn trivial (Code.wpIn_mono (fun e a1 w1 hp=>?_) (cS (rn:=some (w.heap.size+1)) hNG hm A assign _ _ W _ _ _ hH1 hr))
   obtain⟨E1,k1,k2,k3,k4⟩:=hp
   cases e<;>simp only[pK] at k4<;>try exact k4.elim
   obtain⟨k5,k6⟩:=k4
   let W2:World:={w1 with heap:=w1.heap.setIfInBounds (w.heap.size+1) (.loop (rec .busy none))}
   refine⟨W2,?_,Code.wpIn_mono (fun e a2 w2 hp=>?_) (cS (rn:=some (w.heap.size+1)) hNG hm A body E1 a1 W2 _ _ _ k1 k6)⟩
   ·simp[Instr.beginRound,Instr.getLoop,getObj,setObj,Sem.run,k5,hset2,hstate,W2]
   ·obtain⟨E2,q1,q2,q3,q4⟩:=hp
    have hal:Alike W w2:=(k3.trans (.of_le rfl (Nat.le_refl _)):Alike W W2).trans q3
    have fin:∀(j:Option Code) (s:LoopState),s=(if j.isNone then .ready else .done)→w2.heap[w.heap.size+1]?=some (.loop (rec .busy none))→K j.isNone (w2.heap.setIfInBounds (w.heap.size+1) (.loop (rec s j)))→
      ∃v w',(Instr.endRound (w.heap.size+1) j).run P w2=.ok v w'∧∃u,Ending.returned v=.returned u∧(∃b,u=.bool b∧K b w'.heap∧Alike W w'):=by
     intro j s hs hl2 hk
     refine⟨.bool j.isNone,{w2 with heap:=w2.heap.setIfInBounds (w.heap.size+1) (.loop (rec s j))},?_,_,rfl,_,rfl,hk,hal.trans (.of_le rfl (Nat.le_refl _))⟩
     subst hs
     simp[Instr.endRound,Instr.getLoop,getObj,setObj,Sem.run,hl2,hset]
    cases e<;>simp only[pK] at q4<;>try exact q4.elim
    case normal=>exact fin none .ready rfl q4.1 q4.2
    case exit id=>exact fin (some (.exit id)) .done rfl q4.1 q4.2
    case ret=>exact fin (some .ret) .done rfl q4.1 q4.2
  have hcalls:=h rec hround W1 rfl
  refine callsIn_wide.2 (hcalls.mono fun e w3 ⟨v,he,hk,hal⟩=>?_)
  subst he
  obtain⟨s,p,hl,hb,hk⟩:=hk
  have hH':Holds N ((w.heap.size::D).map mR) E {a with defers:=[mR w.heap.size]++a.defers}:=
   ⟨hH.size,by rw[hH.defers];rfl,fun e he=>hH.all e he⟩
  have hal':Alike w w3:=(.of_le rfl (Nat.le_refl _):Alike w W1).trans hal
  have hend:(Instr.endLoop (w.heap.size+1)).run P w3=.ok p {w3 with heap:=w3.heap.setIfInBounds (w.heap.size+1) (.loop (rec .exhausted p))}:=by
   have hne:s≠LoopState.busy:=by intro e;subst e;cases hb
   simp[Instr.endLoop,Instr.getLoop,getObj,setObj,Sem.run,hl,hpend,hstate,hne]
   subst hrec;rfl
  refine⟨p,_,hend,?_⟩
  cases p with
  |none=>exact⟨w.heap.size::D,E,hH',hal'.trans (.of_le rfl (Nat.le_refl _)),hk⟩
  |some c=>
    cases c<;>simp only at hk<;>try exact hk.elim
    case exit id=>exact wpIn_exit ⟨w.heap.size::D,E,hH',hal'.trans (.of_le rfl (Nat.le_refl _)),hk⟩
    case ret=>exact wpIn_ret ⟨w.heap.size::D,E,hH',hal'.trans (.of_le rfl (Nat.le_refl _)),hk⟩
theorem uu.then {w w1:World} {Kn:List Nat→List bY→aa→Prop} {Kx:Nat→List Nat→List bY→aa→Prop} {Kr:List Nat→List bY→aa→Prop} (h:Alike w w1) {e:Exit} {a':Act} {w':World} (hp:uu N w1 Kn Kx Kr e a' w'):uu N w Kn Kx Kr e a' w':=by
 obtain⟨D',E',h1,h2,h3⟩:=hp
 exact⟨D',E',h1,h.trans h2,h3⟩
theorem iD (hNG:lZ P) (hm:P.follows .mixedOrders=true) (A:AW):∀(c:Code) (D:List Nat) (E:List bY) (a:Act) (w:World) (Kn:List Nat→List bY→aa→Prop) (Kx:Nat→List Nat→List bY→aa→Prop) (Kr:List Nat→List bY→aa→Prop),
  Holds N (D.map mR) E a→DM P N A c D E w.heap Kn Kx Kr→c.wpIn (FW none) 0 P (uu N w Kn Kx Kr) a w
 |.seq x y,D,E,a,w,Kn,Kx,Kr,hH,h=>by
   simp only[DM] at h
   cases hb:(cN x||cN y) with
   |false=>rw[hb] at h;exact cV hNG hm hH h
   |true=>
     rw[hb] at h
     simp only[cond_true] at h
     refine wpIn_seq (Code.wpIn_mono (fun e a' w' hp=>?_) (iD hNG hm A x D E a w _ _ _ hH h))
     obtain⟨D',E',h1,h3,h4⟩:=hp
     cases e<;>simp only[wh] at h4<;>try exact h4.elim
     case normal=>exact Code.wpIn_mono (fun e a'' w'' hp=>hp.then h3) (iD hNG hm A y D' E' a' w' Kn Kx Kr h1 h4)
     case exit i=>exact⟨D',E',h1,h3,h4⟩
     case ret=>exact⟨D',E',h1,h3,h4⟩
 |.cond c x y,D,E,a,w,Kn,Kx,Kr,hH,h=>by
   simp only[DM] at h
   cases hb:(cN x||cN y) with
   |false=>rw[hb] at h;exact cV hNG hm hH h
   |true=>
     rw[hb] at h
     simp only[cond_true] at h
     split at h
     ·rename_i b hb
      have ec:=gN hH (by simp) hb
      refine wpIn_cond ec ?_
      cases b with
      |true=>exact iD hNG hm A x D E a w Kn Kx Kr hH h
      |false=>exact iD hNG hm A y D E a w Kn Kx Kr hH h
     ·exact h.elim
 |.block id c,D,E,a,w,Kn,Kx,Kr,hH,h=>by
   simp only[DM] at h
   cases hb:cN c with
   |false=>rw[hb] at h;exact cV hNG hm hH h
   |true=>
     rw[hb] at h
     simp only[cond_true] at h
     refine wpIn_block (Code.wpIn_mono (fun e a' w' hp=>?_) (iD hNG hm A c D E a w _ _ _ hH h))
     obtain⟨D',E',h1,h3,h4⟩:=hp
     cases e<;>simp only[wh] at h4<;>try exact h4.elim
     case normal=>exact⟨D',E',h1,h3,h4⟩
     case exit i=>
      simp only[Exit.inBlock]
      by_cases hi:i=id
      ·subst hi
       rw[if_pos rfl]
       have e0:Nat.beq i i=true:=Nat.beq_refl i
       rw[e0] at h4
       exact⟨D',E',h1,h3,h4⟩
      ·rw[if_neg hi]
       have e0:Nat.beq i id=false:=by
        cases hb:Nat.beq i id with
        |false=>rfl
        |true=>exact absurd (Nat.eq_of_beq_eq_true hb) hi
       rw[e0] at h4
       exact⟨D',E',h1,h3,h4⟩
     case ret=>exact⟨D',E',h1,h3,h4⟩
 |.rangeFunc f ps assign body,D,E,a,w,Kn,Kx,Kr,hH,h=>by
   simp only[DM] at h
   split at h
   ·rename_i fv sl hf hsl
    cases hb:(Kd ps.toList (sl.map (·.1))&&(mJ ps.toList&&ps.toList.all (fun p=>Nat.blt p N))) with
    |false=>rw[hb] at h;exact h.elim
    |true=>
      rw[hb] at h
      simp only[cond_true] at h
      simp only[Bool.and_eq_true,List.all_eq_true] at hb
      exact tH hNG hm hH hf (DW hb.1) hb.2.1 (fun p hp=>Nat.lt_of_succ_le (by simpa[Nat.blt] using hb.2.2 p hp)) h
   ·exact h.elim
 |.skip,D,E,a,w,Kn,Kx,Kr,hH,h=>cV hNG hm hH h
 |.label _,D,E,a,w,Kn,Kx,Kr,hH,h=>cV hNG hm hH h
 |.exit id,D,E,a,w,Kn,Kx,Kr,hH,h=>cV hNG hm hH h
 |.ret,D,E,a,w,Kn,Kx,Kr,hH,h=>cV hNG hm hH h
 |.region id ops draw,D,E,a,w,Kn,Kx,Kr,hH,h=>cV hNG hm hH h
 |.loop c,D,E,a,w,Kn,Kx,Kr,hH,h=>cV hNG hm hH h
 |.scope c,D,E,a,w,Kn,Kx,Kr,hH,h=>cV hNG hm hH h
 |.goto _,D,E,a,w,Kn,Kx,Kr,hH,h=>cV hNG hm hH h
 |.refuse _,D,E,a,w,Kn,Kx,Kr,hH,h=>cV hNG hm hH h
theorem yT (hNG:lZ P) (hm:P.follows .mixedOrders=true) {f:FuncId} {A:AW} {args:List Value} {H:aa} {R:Value→aa→Prop} (h:KH P f A args H R):Spec P f args.toArray H R:=by
 intro w hw
 subst hw
 unfold KH at h
 split at h
 ·rename_i fn hf
  split at h
  ·rename_i c hc
   cases hb:Nat.ble args.length fn.ntmps with
   |false=>rw[hb] at h;exact h.elim
   |true=>
     rw[hb] at h
     simp only[cond_true] at h
     have hle:args.length≤fn.ntmps:=Nat.le_of_ble_eq_true hb
     refine callsIn_wide.1 (callsIn_of_wp_marks (F:=FW none) hf hc trivial (Code.wpIn_mono (fun e a' w' hp=>?_) (iD (N:=fn.ntmps) hNG hm A c [] (BI 0 args) _ w _ _ _ ⟨?_,rfl,?_⟩ h)))
     ·obtain⟨D',E',h1,h3,h4⟩:=hp
      have fin:yY P fn.results D' E' w'.heap R→LeavesInM (FW none) 0 P fn a'.tmps (fun e w2=>∃v,e=.returned v∧R v w2.heap∧Alike w w2) a'.defers .returning w':=by
       intro h5
       rw[h1.defers]
       refine uo (w0:=w') (fun w2 ha hk=>?_) D' w' (.refl _) h5
       obtain⟨v,r1,r2⟩:=wG (fn:=fn) (w:=w2) h1 hk
       exact⟨v,r1,v,rfl,r2,h3.trans ha⟩
      cases e<;>simp only[wh] at h4<;>try exact h4.elim
      case normal=>exact fin h4
      case ret=>exact fin h4
     ·simp;omega
     ·have key:∀(l:List Value) (k:Nat),(∀j v,l[j]?=some v→(args++List.replicate (fn.ntmps - args.length) undef)[k+j]?=some v)→
        ∀e∈BI k l,fq {tmps:=args.toArray++Array.replicate (fn.ntmps - args.toArray.size) undef,defers:=[]} e:=by
       intro l
       induction l with
       |nil=>intro k _ e he;simp[BI] at he
       |cons v r ih=>
         intro k hk e he
         simp only[BI] at he
         rcases List.mem_cons.1 he with he|he
         ·subst he
          have:=hk 0 v rfl
          simp only[fq]
          rw[←Array.getElem?_toList]
          simpa using this
         ·exact ih (k+1) (fun j v hj=>by
           have:=hk (j+1) v (by simpa using hj)
           rwa [show k+(j+1)=k+1+j by omega] at this) e he
      exact key args 0 (fun j v hj=>by
       have hlt:=(List.getElem?_eq_some_iff.1 hj).1
       rw[Nat.zero_add,List.getElem?_append_left hlt];exact hj)
  ·exact h.elim
 ·exact h.elim
theorem wu (hNG:lZ P) (hm:P.follows .mixedOrders=true) {c:fe} {f:FuncId} {A:AW} {args:List Value} {H:aa} {R:c.α→aa→Prop} (h:JQ c P f A args H R):ah c P f args.toArray H R:=
 (yT hNG hm h).mono fun v H' h1=>by
  obtain⟨x,hx,hr⟩:=gX h1
  exact⟨x,c.ok _ _ hx,hr⟩
end
end Go.Proofs.YtacfhncgbgijhaaGreat
