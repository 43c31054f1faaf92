/-
 Ground, sixth text: code, loops, whole functions.
-/
import Derived.Test.YtdpdmbceakdlmaaGreatDoorFxe
namespace Go.Proofs.YtdpdmbceakdlmaaGreatDoor
def aC (α:Type) (x0:α) (H:Heap) (body:(α→Heap→Prop)→α→Heap→Prop):Prop:=
 ∃(γ:Type) (I:γ→α→Heap→Prop) (m:γ→Nat),(∃g,I g x0 H)∧∀g x H',I g x H'→body (fun x' H''=>∃g',I g' x' H''∧m g'<m g) x H'
def cut (α:Type) (A:(α→Heap→Prop)→Prop) (B:α→Heap→Prop):Prop:=∃J:α→Heap→Prop,A J∧∀x H,J x H→B x H
abbrev wh:=List (Nat×List (Nat×dN))
def uf:wh→Nat→Option (List (Nat×dN))
 |[],_=>none
 |p::r,k=>bif Nat.beq p.1 k then some p.2 else uf r k
def lead:Code→Option Nat
 |.region id _ _=>some id
 |.seq a b=>(match lead a with|some k=>some k|none=>lead b)
 |.cond _ x y=>(match lead x with|some k=>some k|none=>lead y)
 |.block _ c=>lead c
 |.loop c=>lead c
 |.scope c=>lead c
 |_=>none
def writes:Code→List Nat
 |.region _ ops _=>Aj ops.toList
 |.seq a b=>writes a++writes b
 |.cond _ x y=>writes x++writes y
 |.block _ c=>writes c
 |.loop c=>writes c
 |.scope c=>writes c
 |_=>[]
def qa (W:List Nat) (t:Nat):Bool:=W.any (Nat.beq t)
def jU (W:List Nat) (e:bK):Bool:=!(qa W e.s)&&(match e.g with|some p=>!(qa W p.1)|none=>true)
def nS (sl:List (Nat×dN)):List dN:=sl.map (·.2)
def eJ:List Nat→List Value→List bK
 |s::r,v::vs=>⟨s,v,none⟩::eJ r vs
 |_,_=>[]
def we (E:List bK):List Nat→Option (List Value)
 |[]=>some []
 |s::r=>(match find E s with
   |some ⟨_,v,none⟩=>(match we E r with|some vs=>some (v::vs)|none=>none)
   |_=>none)
def oY (E:List bK) (sl:List (Nat×dN)):Option (cM.α (nS sl)):=match we E (sl.map (·.1)) with|some vs=>cM.dec (nS sl) vs|none=>none
def gm {α:Type} (o:Option α) (K:α→Prop):Prop:=match o with|some x=>K x|none=>False
def Gk (A:wh) (b:Code):Option (List (Nat×dN)):=match lead b with|some k=>uf A (100000+k)|none=>none
def qf (P:Program) (N:Nat) (A:wh):Code→List bK→Heap→(List bK→Heap→Prop)→(Nat→List bK→Heap→Prop)→(List bK→Heap→Prop)→Prop
 |.skip,E,H,Kn,_,_=>Kn E H
 |.label _,E,H,Kn,_,_=>Kn E H
 |.region id ops draw,E,H,Kn,_,_=>(match (bif draw then uf A (300000+id) else none) with
   |some (f::c::_)=>Fo f.1 c.1 P N ops E H Kn
   |_=>Gx P N ops draw E H Kn)
 |.seq a b,E,H,Kn,Kx,Kr=>
   (match Gk A b with
   |none=>qf P N A a E H (fun E' H'=>qf P N A b E' H' Kn Kx Kr) Kx Kr
   |some sl=>cut (cM.α (nS sl)) (fun J=>qf P N A a E H (fun E' H'=>gm (oY E' sl) fun x=>J x H') Kx Kr)
     fun x H'=>qf P N A b (eJ (sl.map (·.1)) (cM.enc (nS sl) x)++E.filter (jU (writes a))) H' Kn Kx Kr)
 |.cond c x y,E,H,Kn,Kx,Kr=>
   (match yk E [] c with
   |some (.bool b)=>br b (qf P N A x E H Kn Kx Kr) (qf P N A y E H Kn Kx Kr)
   |_=>False)
 |.block id c,E,H,Kn,Kx,Kr=>qf P N A c E H Kn (fun i E' H'=>bif Nat.beq i id then Kn E' H' else Kx i E' H') Kr
 |.loop c,E,H,_,Kx,Kr=>
   (match (match lead c with|some k=>uf A k|none=>none) with
   |none=>False
   |some sl=>gm (oY E sl) fun x0=>aC (cM.α (nS sl)) x0 H fun next x H'=>
     qf P N A c (eJ (sl.map (·.1)) (cM.enc (nS sl) x)++E.filter (jU (writes c))) H' (fun E' H''=>gm (oY E' sl) fun x'=>next x' H'') Kx Kr)
 |.scope c,E,H,Kn,Kx,Kr=>qf P N A c E H Kn Kx Kr
 |.exit id,E,H,_,Kx,_=>Kx id E H
 |.ret,E,H,_,_,Kr=>Kr E H
 |_,_,_,_,_,_=>False
def qE (P:Program):List ResultVar→List bK→Heap→(List Value→Prop)→Prop
 |[],_,_,K=>K []
 |.tmp t::r,E,H,K=>(match yk E [] (.tmp t) with|some v=>qE P r E H (fun vs=>K (v::vs))|none=>False)
 |.cell a t::r,E,H,K=>(bif oX E [] (.load t (.tmp a)) then oc P (.load t (.tmp a)) t (BE E []) none H (fun v=>qE P r E H (fun vs=>K (v::vs))) else False)
def oneOf:List Value→Value
 |[v]=>v
 |vs=>.tuple ⟨vs⟩
def DM (P:Program) (res:Array ResultVar) (E:List bK) (H:Heap) (R:Value→Heap→Prop):Prop:=qE P res.toList E H fun vs=>R (oneOf vs) H
def xN:Nat→List Value→List bK
 |_,[]=>[]
 |k,v::r=>⟨k,v,none⟩::xN (k+1) r
def cd:Code→Bool
 |.rangeFunc ..=>true
 |.seq a b=>cd a||cd b
 |.cond _ x y=>cd x||cd y
 |.block _ c=>cd c
 |_=>false
abbrev Rec:=LoopState→Option Code→Loop
def lf (l:Nat) (rec:Rec) (H:Heap) (fin:Heap→Prop) (fex:Nat→Heap→Prop) (fret:Heap→Prop):Prop:=
 ∃s p,H[l]?=some (.loop (rec s p))∧(s==LoopState.busy)=false∧
   (match p with
   |none=>fin (H.setIfInBounds l (.loop (rec .exhausted none)))
   |some c=>(match c with
     |.exit id=>fex id (H.setIfInBounds l (.loop (rec .exhausted (some (.exit id)))))
     |.ret=>fret (H.setIfInBounds l (.loop (rec .exhausted (some .ret))))
     |_=>False))
def lv (P:Program) (fv:Value) (H:Heap) (body:Nat→Rec→List Value→Heap→(Bool→Heap→Prop)→Prop) (fin:Nat→Heap→Prop) (fex:Nat→Nat→Heap→Prop) (fret:Nat→Heap→Prop):Prop:=
 ∃g cap,fv=.func (.func g) #[] cap∧c7 P g=true∧∀rec:Rec,
   (∀vs H' K,H'[H.size+1]?=some (.loop (rec .ready none))→body (H.size+1) rec vs H' K→bU P (H.size+1) vs.toArray H' K)→
   Spec P g (#[.func (.yield (H.size+1)) #[] #[]]++cap) ((H.push (.deferred (some []))).push (.loop (rec .ready none)))
    fun _ H3=>lf (H.size+1) rec H3 (fin H.size) (fun id=>fex id H.size) (fret H.size)
def kC:List Nat→Bool
 |[]=>true
 |x::r=>!(qa r x)&&kC r
def FL:List Nat→List Nat→Bool
 |[],[]=>true
 |x::r,y::t=>Nat.beq x y&&FL r t
 |_,_=>false
def rL (P:Program) (N:Nat) (A:wh) (E:List bK) (sl:List (Nat×dN)) (assign body:Code) (l:Nat) (rec:Rec) (vs:List Value) (H:Heap) (K:Bool→Heap→Prop):Prop:=
 gm (cM.dec (nS sl) vs) fun x=>
  qf P N A assign (eJ (sl.map (·.1)) (cM.enc (nS sl) x)++E.filter (jU (sl.map (·.1)))) H
   (fun E1 H1=>H1[l]?=some (.loop (rec .ready none))∧qf P N A body E1 (H1.setIfInBounds l (.loop (rec .busy none)))
    (fun _ H3=>H3[l]?=some (.loop (rec .busy none))∧K true (H3.setIfInBounds l (.loop (rec .ready none))))
    (fun id _ H3=>H3[l]?=some (.loop (rec .busy none))∧K false (H3.setIfInBounds l (.loop (rec .done (some (.exit id))))))
    (fun _ H3=>H3[l]?=some (.loop (rec .busy none))∧K false (H3.setIfInBounds l (.loop (rec .done (some .ret))))))
   (fun _ _ _=>False) (fun _ _=>False)
def zT (P:Program) (N:Nat) (A:wh):Code→List Nat→List bK→Heap→(List Nat→List bK→Heap→Prop)→(Nat→List Nat→List bK→Heap→Prop)→(List Nat→List bK→Heap→Prop)→Prop
 |.seq a b,D,E,H,Kn,Kx,Kr=>
   bif cd a||cd b then zT P N A a D E H (fun D' E' H'=>zT P N A b D' E' H' Kn Kx Kr) Kx Kr
   else qf P N A (.seq a b) E H (Kn D) (fun i=>Kx i D) (Kr D)
 |.cond c x y,D,E,H,Kn,Kx,Kr=>
   bif cd x||cd y then
    (match yk E [] c with
    |some (.bool b)=>br b (zT P N A x D E H Kn Kx Kr) (zT P N A y D E H Kn Kx Kr)
    |_=>False)
   else qf P N A (.cond c x y) E H (Kn D) (fun i=>Kx i D) (Kr D)
 |.block id c,D,E,H,Kn,Kx,Kr=>
   bif cd c then zT P N A c D E H Kn (fun i D' E' H'=>bif Nat.beq i id then Kn D' E' H' else Kx i D' E' H') Kr
   else qf P N A (.block id c) E H (Kn D) (fun i=>Kx i D) (Kr D)
 |.rangeFunc f ps assign body,D,E,H,Kn,Kx,Kr=>
   (match yk E [] f,uf A (200000+(lead body).getD 0) with
   |some fv,some sl=>bif FL ps.toList (sl.map (·.1))&&(kC ps.toList&&ps.toList.all (fun p=>Nat.blt p N)) then
     lv P fv H (rL P N A E sl assign body) (fun r H'=>Kn (r::D) E H') (fun id r H'=>Kx id (r::D) E H') (fun r H'=>Kr (r::D) E H') else False
   |_,_=>False)
 |c,D,E,H,Kn,Kx,Kr=>qf P N A c E H (Kn D) (fun i=>Kx i D) (Kr D)
def wa:List Nat→Heap→(Heap→Prop)→Prop
 |[],H,K=>K H
 |r::D,H,K=>H[r]?=some (.deferred (some []))∧wa D (H.setIfInBounds r (.deferred none)) K
def vC (P:Program) (res:Array ResultVar) (D:List Nat) (E:List bK) (H:Heap) (R:Value→Heap→Prop):Prop:=wa D H fun H'=>DM P res E H' R
def GD (P:Program) (f:FuncId) (A:wh) (args:List Value) (H:Heap) (R:Value→Heap→Prop):Prop:=
 match P.funcs[f]? with
 |some fn=>(match fn.body with
   |some c=>(bif Nat.ble args.length fn.ntmps then zT P fn.ntmps A c [] (xN 0 args) H (fun D E H'=>vC P fn.results D E H' R) (fun _ _ _ _=>False) (fun D E H'=>vC P fn.results D E H' R) else False)
   |none=>False)
 |none=>False
def F8 (c:dN) (P:Program) (f:FuncId) (A:wh) (args:List Value) (H:Heap) (R:c.α→Heap→Prop):Prop:=
 GD P f A args H fun v H'=>gm (c.dec v) fun x=>R x H'
theorem fC {α:Type} {o:Option α} {K:α→Prop} (h:gm o K):∃x,o=some x∧K x:=by
 cases o with
 |none=>exact h.elim
 |some x=>exact⟨x,rfl,h⟩
section
variable {P:Program} {N:Nat} {D:List Deferred} {rn:Option Nat}
theorem de (W:List Nat) (t:Nat):qa W t=W.contains t:=by
 unfold qa
 rw[List.contains_eq_any_beq]
 congr 1
 funext x
 cases h:Nat.beq t x with
 |true=>have:=Nat.eq_of_beq_eq_true h;subst this;simp
 |false=>
   have:t≠x:=fun e=>by subst e;simp at h
   simpa using this
theorem Holds.keep {E:List bK} {a a':Act} {W:List Nat} (hH:Holds N D E a) (hs:a'.tmps.size=N) (hd:a'.defers=D) (hS:gF W a a'):Holds N D (E.filter (jU W)) a':=by
 refine⟨hs,hd,fun e he=>?_⟩
 obtain⟨h1,h2⟩:=List.mem_filter.1 he
 have hok:=hH.all e h1
 unfold jU at h2
 simp only[Bool.and_eq_true,Bool.not_eq_true',de] at h2
 have e1:=hS e.s h2.1
 unfold dV at hok ⊢
 cases hg:e.g with
 |none=>rw[hg] at hok;exact e1.trans hok
 |some p=>
   rw[hg] at hok h2
   obtain⟨s,b⟩:=p
   have e2:=hS s (by have:=h2.2;simpa using this)
   refine⟨fun h=>e1.trans (hok.1 (e2.symm.trans h)),fun h=>e1.trans (hok.2 fun q=>h (e2.trans q))⟩
theorem Holds.append {E E':List bK} {a:Act} (h:Holds N D E a) (k:Holds N D E' a):Holds N D (E++E') a:=
 ⟨h.size,h.defers,fun e he=>(List.mem_append.1 he).elim (h.all e) (k.all e)⟩
theorem oO {E:List bK} {a:Act} (hH:Holds N D E a):∀{l:List Nat} {vs:List Value},we E l=some vs→Holds N D (eJ l vs) a
 |[],vs,h=>⟨hH.size,hH.defers,by cases vs<;>simp[eJ]⟩
 |s::r,vs,h=>by
   unfold we at h
   split at h
   ·rename_i s' v hf
    split at h
    ·rename_i vs' hr
     have e:v::vs'=vs:=Option.some.inj h
     subst e
     have ih:=oO hH hr
     obtain⟨h1,h2⟩:=eL hf
     refine⟨hH.size,hH.defers,fun e he=>?_⟩
     simp only[eJ] at he
     rcases List.mem_cons.1 he with he|he
     ·subst he
      have:=hH.all _ h1
      simp only at h2
      subst h2
      exact this
     ·exact ih.all e he
    ·cases h
   ·cases h
theorem jq {E:List bK} {a:Act} {sl:List (Nat×dN)} {x:cM.α (nS sl)} (hH:Holds N D E a) (h:oY E sl=some x):Holds N D (eJ (sl.map (·.1)) (cM.enc (nS sl) x)) a:=by
 unfold oY at h
 split at h
 ·rename_i vs hv
  have:=cM.ok _ _ _ h
  rw[←this]
  exact oO hH hv
 ·cases h
theorem exists_least {p:Nat→Prop}:∀n,p n→∃k,p k∧∀j,p j→k≤j:=by
 intro n
 induction n using Nat.strongRecOn with
 |_ n ih=>
   intro hn
   by_cases h:∃j,j<n∧p j
   ·obtain⟨j,h1,h2⟩:=h;exact ih j h1 h2
   ·exact⟨n,hn,fun j hj=>by
     rcases Nat.lt_or_ge j n with h1|h1
     ·exact absurd ⟨j,h1,hj⟩ h
     ·exact h1⟩
open Classical in
noncomputable def least (p:Nat→Prop):Nat:=if h:∃k,p k∧∀j,p j→k≤j then h.choose else 0
theorem pG {p:Nat→Prop} {n:Nat} (h:p n):p (least p)∧∀j,p j→least p≤j:=by
 have h1:=exists_least n h
 unfold least
 rw[dif_pos h1]
 exact h1.choose_spec
def nk (Kn:List bK→Heap→Prop) (Kx:Nat→List bK→Heap→Prop) (Kr:List bK→Heap→Prop):Exit→List bK→Heap→Prop
 |.normal,E,H=>Kn E H
 |.exit id,E,H=>Kx id E H
 |.ret,E,H=>Kr E H
 |_,_,_=>False
def post (N:Nat) (D:List Deferred) (W:List Nat) (a:Act) (w:World) (Kn:List bK→Heap→Prop) (Kx:Nat→List bK→Heap→Prop) (Kr:List bK→Heap→Prop) (e:Exit) (a':Act) (w':World):Prop:=
 ∃E',Holds N D E' a'∧gF W a a'∧Alike w w'∧nk Kn Kx Kr e E' w'.heap
theorem vg {F:Fence} {n:Nat} {Q:Exit→Act→World→Prop} {a:Act} {w:World} {c:Code} (h:c.wpIn F n P (fun e a w=>match e with|.goto _=>False|e=>Q e a w) a w):(Code.scope c).wpIn F n P Q a w:=by
 intro b k cs hro hb hr
 have h0:(lone (b.atR a (.code (.scope c)::k)) cs w).fenced P F:=fenced_calm hb hr rfl
 have s1:step P (lone (b.atR a (.code (.scope c)::k)) cs w)=.next (lone (b.atR a (.code c::.inScope c::k)) cs w):=step_lone_go (by simp[stepG,stepG.exec,Frame.atR])
 have s2:∀a w,step P (lone (b.atR a (.inScope c::k)) cs w)=.next (lone (b.atR a k) cs w):=fun a w=>step_lone_go (by simp[stepG,stepG.exec,Frame.atR])
 obtain⟨e,a₁,w₁,hq,harr⟩:=h b (.inScope c::k) cs hro hb hr
 cases e with
 |normal=>exact⟨.normal,a₁,w₁,hq,.head h0 s1 (StepsIn.trans harr (.one (fenced_calm hb hr rfl) (s2 _ _)))⟩
 |exit id'=>
   have hx:exitTo id' (.inScope c::k)=exitTo id' k:=by simp[exitTo]
   exact⟨.exit id',a₁,w₁,hq,fun k' hk=>.head h0 s1 (harr.1 k' (by rw[hx];exact hk)),
    fun hr' hk=>let ⟨k₁,h1,h2⟩:=harr.2 hr' (by rw[hx];exact hk);⟨k₁,h1,.head h0 s1 h2⟩⟩
 |goto l=>exact hq.elim
 |ret=>exact⟨_,a₁,w₁,hq,.of_steps (.one h0 s1) harr⟩
 |panic ch=>exact⟨_,a₁,w₁,hq,.of_steps (.one h0 s1) harr⟩
 |outgrown=>exact⟨_,a₁,w₁,hq,.of_steps (.one h0 s1) harr⟩
theorem cD (hNG:kB P) (hm:P.follows .mixedOrders=true) (A:wh):∀(c:Code) (E:List bK) (a:Act) (w:World) (Kn:List bK→Heap→Prop) (Kx:Nat→List bK→Heap→Prop) (Kr:List bK→Heap→Prop),
  Holds N D E a→qf P N A c E w.heap Kn Kx Kr→c.wpIn (FW rn) 0 P (post N D (writes c) a w Kn Kx Kr) a w
 |.skip,E,a,w,Kn,Kx,Kr,hH,h=>wpIn_skip ⟨E,hH,.refl _ _,.refl _,h⟩
 |.label _,E,a,w,Kn,Kx,Kr,hH,h=>wpIn_label ⟨E,hH,.refl _ _,.refl _,h⟩
 |.exit id,E,a,w,Kn,Kx,Kr,hH,h=>wpIn_exit ⟨E,hH,.refl _ _,.refl _,h⟩
 |.ret,E,a,w,Kn,Kx,Kr,hH,h=>wpIn_ret ⟨E,hH,.refl _ _,.refl _,h⟩
 |.region id ops draw,E,a,w,Kn,Kx,Kr,hH,h=>by
   simp only[qf] at h
   split at h
   ·rename_i f c _ hl
    cases draw with
    |false=>cases hl
    |true=>exact ve hNG hm hH (fun E' a' w' h1 h2 h3 h4=>⟨E',h1,h2,h3,h4⟩) h
   ·exact xG hNG hm hH (fun E' a' w' h1 h2 h3 h4=>⟨E',h1,h2,h3,h4⟩) h
 |.cond c x y,E,a,w,Kn,Kx,Kr,hH,h=>by
   simp only[qf] at h
   split at h
   ·rename_i b hb
    have ec:=fD hH (by simp) hb
    refine wpIn_cond ec ?_
    cases b with
    |true=>
      exact Code.wpIn_mono (fun e a' w' ⟨E',h1,h2,h3,h4⟩=>⟨E',h1,h2.mono (fun t ht=>by
       simp only[writes,←de,qa,List.any_append,Bool.or_eq_false_iff] at ht ⊢;exact ht.1),h3,h4⟩) (cD hNG hm A x E a w Kn Kx Kr hH h)
    |false=>
      exact Code.wpIn_mono (fun e a' w' ⟨E',h1,h2,h3,h4⟩=>⟨E',h1,h2.mono (fun t ht=>by
       simp only[writes,←de,qa,List.any_append,Bool.or_eq_false_iff] at ht ⊢;exact ht.2),h3,h4⟩) (cD hNG hm A y E a w Kn Kx Kr hH h)
   ·exact h.elim
 |.block id c,E,a,w,Kn,Kx,Kr,hH,h=>by
   refine wpIn_block (Code.wpIn_mono (fun e a' w' hp=>?_) (cD hNG hm A c E a w _ _ _ hH h))
   obtain⟨E',h1,h2,h3,h4⟩:=hp
   cases e<;>simp only[nk] at h4<;>try exact h4.elim
   case normal=>exact⟨E',h1,h2,h3,h4⟩
   case exit i=>
    simp only[Exit.inBlock]
    by_cases hi:i=id
    ·subst hi
     rw[if_pos rfl]
     have e0:Nat.beq i i=true:=Nat.beq_refl i
     rw[e0] at h4
     exact⟨E',h1,h2,h3,h4⟩
    ·rw[if_neg hi]
     have e0:Nat.beq i id=false:=by
      cases hb:Nat.beq i id with
      |false=>rfl
      |true=>exact absurd (Nat.eq_of_beq_eq_true hb) hi
     rw[e0] at h4
     exact⟨E',h1,h2,h3,h4⟩
   case ret=>exact⟨E',h1,h2,h3,h4⟩
 |.seq x y,E,a,w,Kn,Kx,Kr,hH,h=>by
   have wx:∀t,(writes (.seq x y)).contains t=false→(writes x).contains t=false:=fun t ht=>by
    simp only[writes,←de,qa,List.any_append,Bool.or_eq_false_iff] at ht ⊢;exact ht.1
   have wy:∀t,(writes (.seq x y)).contains t=false→(writes y).contains t=false:=fun t ht=>by
    simp only[writes,←de,qa,List.any_append,Bool.or_eq_false_iff] at ht ⊢;exact ht.2
   simp only[qf] at h
   split at h
   ·refine wpIn_seq (Code.wpIn_mono (fun e a' w' hp=>?_) (cD hNG hm A x E a w _ _ _ hH h))
    obtain⟨E',h1,h2,h3,h4⟩:=hp
    cases e<;>simp only[nk] at h4<;>try exact h4.elim
    case normal=>
     exact Code.wpIn_mono (fun e a'' w'' ⟨E'',k1,k2,k3,k4⟩=>⟨E'',k1,(h2.mono wx).trans (k2.mono wy),h3.trans k3,k4⟩) (cD hNG hm A y E' a' w' Kn Kx Kr h1 h4)
    case exit i=>exact⟨E',h1,h2.mono wx,h3,h4⟩
    case ret=>exact⟨E',h1,h2.mono wx,h3,h4⟩
   ·rename_i sl hsl
    obtain⟨J,hA,hB⟩:=h
    refine wpIn_seq (Code.wpIn_mono (fun e a' w' hp=>?_) (cD hNG hm A x E a w _ _ _ hH hA))
    obtain⟨E',h1,h2,h3,h4⟩:=hp
    cases e<;>simp only[nk] at h4<;>try exact h4.elim
    case normal=>
     obtain⟨v,hv,hJ⟩:=fC h4
     have hH':=(jq h1 hv).append (hH.keep h1.size h1.defers h2)
     exact Code.wpIn_mono (fun e a'' w'' ⟨E'',k1,k2,k3,k4⟩=>⟨E'',k1,(h2.mono wx).trans (k2.mono wy),h3.trans k3,k4⟩) (cD hNG hm A y _ a' w' Kn Kx Kr hH' (hB _ _ hJ))
    case exit i=>exact⟨E',h1,h2.mono wx,h3,h4⟩
    case ret=>exact⟨E',h1,h2.mono wx,h3,h4⟩
 |.loop c,E,a,w,Kn,Kx,Kr,hH,h=>by
   simp only[qf] at h
   split at h
   ·exact h.elim
   ·rename_i sl hsl
    obtain⟨x0,hx0,γ,I,m,⟨g0,hI0⟩,hround⟩:=fC h
    let Inv:γ→Act→World→Prop:=fun g a' w'=>∃x,Holds N D (eJ (sl.map (·.1)) (cM.enc (nS sl) x)++E.filter (jU (writes c))) a'∧gF (writes c) a a'∧Alike w w'∧I g x w'.heap
    let p:Act→World→Nat→Prop:=fun a' w' n=>∃g,m g=n∧Inv g a' w'
    refine wpIn_loop (fun a' w'=>∃g,Inv g a' w') (fun a' w'=>least (p a' w')) ?_ ?_
    ·exact⟨g0,x0,(jq hH hx0).append (hH.keep hH.size hH.defers (.refl _ _)),.refl _ _,.refl _,hI0⟩
    ·intro a1 w1 ⟨g,hg⟩
     obtain⟨⟨g1,hm1,x1,k1,k2,k3,k4⟩,hmin⟩:=pG (p:=p a1 w1) (n:=m g) ⟨g,rfl,hg⟩
     refine Code.wpIn_mono (fun e a' w' hp=>?_) (cD hNG hm A c _ a1 w1 _ _ _ k1 (hround g1 x1 _ k4))
     obtain⟨E',h1,h2,h3,h4⟩:=hp
     have hS:gF (writes c) a a':=k2.trans h2
     have hAl:Alike w w':=k3.trans h3
     cases e<;>simp only[nk] at h4<;>try exact h4.elim
     case normal=>
      obtain⟨x',hx',g',hI',hlt⟩:=fC h4
      have hinv:Inv g' a' w':=⟨x',(jq h1 hx').append (hH.keep h1.size h1.defers hS),hS,hAl,hI'⟩
      refine⟨⟨g',hinv⟩,?_⟩
      have:=(pG (p:=p a' w') (n:=m g') ⟨g',rfl,hinv⟩).2 (m g') ⟨g',rfl,hinv⟩
      omega
     case exit i=>exact⟨E',h1,hS,hAl,h4⟩
     case ret=>exact⟨E',h1,hS,hAl,h4⟩
 |.rangeFunc _ _ _ _,_,_,_,_,_,_,_,h=>h.elim
 |.scope c,E,a,w,Kn,Kx,Kr,hH,h=>by
   refine vg (Code.wpIn_mono (fun e a' w' hp=>?_) (cD hNG hm A c E a w Kn Kx Kr hH h))
   obtain⟨E',h1,h2,h3,h4⟩:=hp
   cases e<;>simp only[nk] at h4<;>try exact h4.elim
   all_goals exact⟨E',h1,h2,h3,h4⟩
 |.goto _,_,_,_,_,_,_,_,h=>h.elim
 |.refuse _,_,_,_,_,_,_,_,h=>h.elim
theorem jM {E:List bK} {a:Act} {w:World} (hH:Holds N D E a):∀{l:List ResultVar} {K:List Value→Prop},qE P l E w.heap K→
  ∃vs,(l.mapM fun r=>(match r with
    |.tmp t=>pure (a.tmps.getD t undef)
    |.cell ad t=>do loadVar t (←asAddr (a.tmps.getD ad undef)):Sem Value)).run P w=.ok vs w∧K vs
 |[],K,h=>⟨[],rfl,h⟩
 |.tmp t::r,K,h=>by
   simp only[qE] at h
   split at h
   ·rename_i v hv
    obtain⟨vs,h1,h2⟩:=jM hH h
    have e:a.tmps.getD t undef=v:=fD (x:=.tmp t) hH (by simp) hv
    refine⟨v::vs,?_,h2⟩
    rw[List.mapM_cons]
    simp only[Sem.run_bind,Sem.run_pure,Result.andThen_ok,e]
    rw[h1];rfl
   ·exact h.elim
 |.cell ad t::r,K,h=>by
   simp only[qE] at h
   cases hb:oX E [] (.load t (.tmp ad)) with
   |false=>rw[hb] at h;exact h.elim
   |true=>
     rw[hb] at h
     simp only[cond_true] at h
     obtain⟨v,h1,h2⟩:=gX (o:=⟨none,.load t (.tmp ad),t,"",#[],none⟩) h
     obtain⟨vs,h3,h4⟩:=jM hH h2
     have e1:=h1 w rfl
     rw[←mE (o:=⟨none,.load t (.tmp ad),t,"",#[],none⟩) hH (by simp) hb (by intro cs b e;cases e)] at e1
     simp only[execOp,Instr.loadAt,Sem.run_bind] at e1
     refine⟨v::vs,?_,h4⟩
     rw[List.mapM_cons]
     have e2:(do loadVar t (←asAddr (a.tmps.getD ad undef)):Sem Value).run P w=.ok v w:=by
      have e3:a.eval (.tmp ad)=a.tmps.getD ad undef:=rfl
      rw[e3] at e1
      generalize a.tmps.getD ad undef=q at*
      cases q with
      |pointer p=>
        cases p with
        |none=>simp[Instr.sureAddr] at e1
        |some ad=>
          simp only[Instr.sureAddr,Sem.run_pure,Result.andThen_ok] at e1
          simp only[asAddr,Sem.run_bind,Sem.run_pure,Result.andThen_ok]
          cases hr:(loadVar t ad).run P w with
          |ok u w2=>rw[hr] at e1;simp at e1;rw[e1.1,e1.2]
          |halt x w2=>rw[hr] at e1;simp at e1
      |_=>simp[Instr.sureAddr] at e1
     simp only[Sem.run_bind] at e2 ⊢
     rw[e2]
     simp only[Result.andThen_ok,h3,Sem.run_pure]
theorem th {fn:Func} {E:List bK} {a:Act} {w:World} {R:Value→Heap→Prop} (hH:Holds N D E a) (h:DM P fn.results E w.heap R):
  ∃v,(results fn a.tmps).run P w=.ok v w∧R v w.heap:=by
 obtain⟨vs,h1,h2⟩:=jM hH h
 refine⟨oneOf vs,?_,h2⟩
 unfold results
 rw[Sem.run_bind,Array.mapM_eq_mapM_toList,Sem.run_map]
 have e:∀{g:ResultVar→Sem Value},(fn.results.toList.mapM g).run P w=.ok vs w→
   ((((fn.results.toList.mapM g).run P w).andThen fun a w'=>Result.ok a.toArray w').andThen fun vs w'=>(pure (if h:vs.size=1 then vs[0] else .tuple vs):Sem Value).run P w')=.ok (oneOf vs) w:=by
  intro g hg
  rw[hg]
  simp only[Result.andThen_ok,Sem.run_pure]
  congr 1
  cases vs with
  |nil=>rfl
  |cons v r=>
    cases r with
    |nil=>rfl
    |cons v2 r=>simp[oneOf]
 exact e h1
def lD (r:Nat):Deferred:={target:=.collected r,args:=#[]}
theorem rj {fn:Func} {tmps:Array Value} {R:Ending→World→Prop} {w0:World} {K:Heap→Prop} (hK:∀w,Alike w0 w→K w.heap→LeavesIn Fence.wide 0 P fn tmps R [] .returning w):
  ∀(D:List Nat) (w:World),Alike w0 w→wa D w.heap K→LeavesInM Fence.wide 0 P fn tmps R (D.map lD) .returning w
 |[],w,ha,h=>hK w ha h
 |r::D,w,ha,h=>by
   obtain⟨h1,h2⟩:=h
   refine⟨by simp,.inl ⟨r,{w with heap:=w.heap.setIfInBounds r (.deferred none)},rfl,?_,rj hK D _ (ha.trans (.of_le rfl (Nat.le_refl _))) h2⟩⟩
   simp[Instr.takeDeferred,getObj,setObj,Sem.run,h1]
theorem oG {W:List Nat} {t:Nat}:qa W t=true↔t∈W:=by
 rw[de];simp
theorem qs:∀(ps:List Nat) (vs:List Value) (tm:Array Value),((ps.zip vs).foldl (fun t (p,v)=>t.setIfInBounds p v) tm).size=tm.size
 |[],_,_=>rfl
 |_::_,[],_=>rfl
 |p::ps,v::vs,tm=>by simp only[List.zip_cons_cons,List.foldl_cons];rw[qs ps vs];simp
theorem iN:∀(ps:List Nat) (vs:List Value) (tm:Array Value) (t:Nat),t∉ps→((ps.zip vs).foldl (fun t (p,v)=>t.setIfInBounds p v) tm)[t]?=tm[t]?
 |[],_,_,_,_=>rfl
 |_::_,[],_,_,_=>rfl
 |p::ps,v::vs,tm,t,h=>by
   simp only[List.mem_cons,not_or] at h
   simp only[List.zip_cons_cons,List.foldl_cons]
   rw[iN ps vs _ t h.2,Array.getElem?_setIfInBounds_ne (Ne.symm h.1)]
theorem oH:∀(ps:List Nat) (vs:List Value) (tm:Array Value),kC ps=true→(∀p∈ps,p<tm.size)→∀e∈eJ ps vs,e.g=none∧((ps.zip vs).foldl (fun t (p,v)=>t.setIfInBounds p v) tm)[e.s]?=some e.v
 |[],vs,_,_,_,e,he=>by cases vs<;>simp[eJ] at he
 |_::_,[],_,_,_,e,he=>by simp[eJ] at he
 |p::ps,v::vs,tm,hn,hp,e,he=>by
   simp only[kC,Bool.and_eq_true,Bool.not_eq_true'] at hn
   simp only[eJ] at he
   simp only[List.zip_cons_cons,List.foldl_cons]
   rcases List.mem_cons.1 he with he|he
   ·subst he
    refine⟨rfl,?_⟩
    have hnm:p∉ps:=fun h=>by rw[oG.2 h] at hn;cases hn.1
    rw[iN ps vs _ p hnm]
    simp[hp p List.mem_cons_self]
   ·exact oH ps vs _ hn.2 (fun q hq=>by simpa using hp q (List.mem_cons_of_mem _ hq)) e he
theorem tL {E:List bK} {a:Act} (hH:Holds N D E a) {ps:List Nat} {vs:List Value} (hn:kC ps=true) (hp:∀p∈ps,p<N):
  Holds N [] (eJ ps vs++E.filter (jU ps)) {tmps:=(ps.zip vs).foldl (fun t (p,v)=>t.setIfInBounds p v) a.tmps,defers:=[]}:=by
 refine⟨(qs _ _ _).trans hH.size,rfl,fun e he=>?_⟩
 rcases List.mem_append.1 he with he|he
 ·obtain⟨h1,h2⟩:=oH ps vs a.tmps hn (fun p hp'=>by rw[hH.size];exact hp p hp') e he
  unfold dV
  rw[h1]
  exact h2
 ·obtain⟨h1,h2⟩:=List.mem_filter.1 he
  have hok:=hH.all e h1
  unfold jU at h2
  simp only[Bool.and_eq_true,Bool.not_eq_true'] at h2
  have e1:((ps.zip vs).foldl (fun t (p,v)=>t.setIfInBounds p v) a.tmps)[e.s]?=a.tmps[e.s]?:=iN _ _ _ _ (fun h=>by rw[oG.2 h] at h2;cases h2.1)
  unfold dV at hok ⊢
  cases hg:e.g with
  |none=>rw[hg] at hok;exact e1.trans hok
  |some p=>
    rw[hg] at hok h2
    obtain⟨s,b⟩:=p
    have e2:((ps.zip vs).foldl (fun t (p,v)=>t.setIfInBounds p v) a.tmps)[s]?=a.tmps[s]?:=iN _ _ _ _ (fun h=>by
     have h3:=h2.2
     simp only[Bool.not_eq_true'] at h3
     rw[oG.2 h] at h3;cases h3)
    exact⟨fun h=>e1.trans (hok.1 (e2.symm.trans h)),fun h=>e1.trans (hok.2 fun q=>h (e2.trans q))⟩
theorem zv:∀{a b:List Nat},FL a b=true→a=b
 |[],[],_=>rfl
 |x::r,y::t,h=>by
   simp only[FL,Bool.and_eq_true] at h
   rw[Nat.eq_of_beq_eq_true h.1,zv h.2]
def rH (Kn:List Nat→List bK→Heap→Prop) (Kx:Nat→List Nat→List bK→Heap→Prop) (Kr:List Nat→List bK→Heap→Prop):Exit→List Nat→List bK→Heap→Prop
 |.normal,D,E,H=>Kn D E H
 |.exit id,D,E,H=>Kx id D E H
 |.ret,D,E,H=>Kr D E H
 |_,_,_,_=>False
def ql (N:Nat) (w:World) (Kn:List Nat→List bK→Heap→Prop) (Kx:Nat→List Nat→List bK→Heap→Prop) (Kr:List Nat→List bK→Heap→Prop) (e:Exit) (a':Act) (w':World):Prop:=
 ∃D' E',Holds N (D'.map lD) E' a'∧Alike w w'∧rH Kn Kx Kr e D' E' w'.heap
theorem cC (hNG:kB P) (hm:P.follows .mixedOrders=true) {A:wh} {c:Code} {D:List Nat} {E:List bK} {a:Act} {w:World} {Kn:List Nat→List bK→Heap→Prop} {Kx:Nat→List Nat→List bK→Heap→Prop} {Kr:List Nat→List bK→Heap→Prop}
  (hH:Holds N (D.map lD) E a) (h:qf P N A c E w.heap (Kn D) (fun i=>Kx i D) (Kr D)):c.wpIn (FW none) 0 P (ql N w Kn Kx Kr) a w:=
 Code.wpIn_mono (fun e a' w' ⟨E',h1,_,h3,h4⟩=>⟨D,E',h1,h3,by cases e<;>first|exact h4|exact h4.elim⟩) (cD hNG hm A c E a w _ _ _ hH h)
theorem pR (hNG:kB P) (hm:P.follows .mixedOrders=true) {A:wh} {f:Operand} {ps:Array Tmp} {assign body:Code} {D:List Nat} {E:List bK} {a:Act} {w:World} {fv:Value} {sl:List (Nat×dN)}
  {Kn:List Nat→List bK→Heap→Prop} {Kx:Nat→List Nat→List bK→Heap→Prop} {Kr:List Nat→List bK→Heap→Prop}
  (hH:Holds N (D.map lD) E a) (hf:yk E [] f=some fv) (hps:ps.toList=sl.map (·.1)) (hnd:kC ps.toList=true) (hlt:∀p∈ps.toList,p<N)
  (h:lv P fv w.heap (rL P N A E sl assign body) (fun r H'=>Kn (r::D) E H') (fun id r H'=>Kx id (r::D) E H') (fun r H'=>Kr (r::D) E H')):
  (Code.rangeFunc f ps assign body).wpIn (FW none) 0 P (ql N w Kn Kx Kr) a w:=by
 obtain⟨g,cap,rfl,hcall,h⟩:=h
 have hev:a.eval f=.func (.func g) #[] cap:=fD hH (by simp) hf
 refine wpIn_rangeFunc (fun fn _=>?_)
 obtain⟨rec,hrec⟩:∃rec:Rec,rec=fun st pe=>{state:=st,pending:=pe,fn,tmps:=a.tmps,params:=ps,assign,body,defers:=w.heap.size}:=⟨_,rfl⟩
 have hstate:∀s p,(rec s p).state=s:=fun s p=>by rw[hrec]
 have hpend:∀s p,(rec s p).pending=p:=fun s p=>by rw[hrec]
 have hset:∀s p s' p',({rec s p with state:=s',pending:=p'}:Loop)=rec s' p':=fun s p s' p'=>by rw[hrec]
 have hset2:∀s p s',({rec s p with state:=s'}:Loop)=rec s' p:=fun s p s'=>by rw[hrec]
 let W1:World:={w with heap:=(w.heap.push (.deferred (some []))).push (.loop (rec .ready none))}
 have hsz:(w.heap.push (Obj.deferred (some []))).size=w.heap.size+1:=by simp
 refine⟨w.heap.size+1,[lD w.heap.size],W1,{target:=.fn (.func g) cap,args:=#[.func (.yield (w.heap.size+1)) #[] #[]]},W1,g,#[.func (.yield (w.heap.size+1)) #[] #[]]++cap,W1,?_,?_,fun _ _=>trivial,?_,(fun hh=>by cases hh),?_⟩
 ·show (Instr.enterLoop fn a.tmps ps assign body none).run P w=_
  subst hrec
  simp[Instr.enterLoop,newObj,Sem.run_bind,Sem.run,lD,W1]
  rfl
 ·show (Deferred.ofValue (a.eval f) (#[Operand.const (.func (.yield (w.heap.size+1)) #[] #[])].map a.eval)).run P W1=_
  rw[hev];simp[Deferred.ofValue];rfl
 ·unfold c7 at hcall
  split at hcall
  ·rename_i fn' hfn
   obtain⟨b,hb⟩:=Option.isSome_iff_exists.1 hcall
   have h1:fn'.name≠"runtime.NumGoroutine":=by simpa using hNG _ _ hfn
   simp[invoke,callFunc,hfn,h1,hb]
  ·cases hcall
 ·-- the call
  have hround:∀vs H' K,H'[w.heap.size+1]?=some (.loop (rec .ready none))→rL P N A E sl assign body (w.heap.size+1) rec vs H' K→bU P (w.heap.size+1) vs.toArray H' K:=by
   intro vs H' K hl hr W hW
   subst hW
   obtain⟨x,hx,hr⟩:=fC hr
   have evs:=cM.ok _ _ _ hx
   have hlen:vs.length=ps.size:=by
    have e1:∀(l:List dN) (y:cM.α l),(cM.enc l y).length=l.length:=by
     intro l
     induction l with
     |nil=>intro y;rfl
     |cons c r ih=>
       intro y
       cases r with
       |nil=>rfl
       |cons d r=>simp only[cM.enc,List.length_cons];rw[ih];rfl
    rw[evs,e1]
    have:=congrArg List.length hps
    simp only[Array.length_toList,List.length_map] at this
    rw[this];simp[nS]
   have hrun:(Instr.yield (w.heap.size+1) vs.toArray).run P W=.ok (.round (w.heap.size+1) fn ((ps.zip vs.toArray).foldl (fun tmps (t,a)=>tmps.setIfInBounds t a) a.tmps) assign body) W:=by
    have e2:(rec .ready none).params=ps∧(rec .ready none).fn=fn∧(rec .ready none).tmps=a.tmps∧(rec .ready none).assign=assign∧(rec .ready none).body=body:=by rw[hrec];exact⟨rfl,rfl,rfl,rfl,rfl⟩
    simp[Instr.yield,Instr.getLoop,getObj,Sem.run,hl,e2,hlen]
   rw[hrun]
   simp only[mq]
   have hfold:(ps.zip vs.toArray).foldl (fun tmps (t,a)=>tmps.setIfInBounds t a) a.tmps=(ps.toList.zip vs).foldl (fun t (p,v)=>t.setIfInBounds p v) a.tmps:=by
    rw[←Array.foldl_toList]
    simp
   rw[hfold]
   have hH1:=tL hH (vs:=vs) hnd hlt
   rw[hps,evs] at hH1
   rw[hps,evs]
   refine roundIn_of_wpIn trivial (Code.wpIn_mono (fun e a1 w1 hp=>?_) (cD (rn:=some (w.heap.size+1)) hNG hm A assign _ _ W _ _ _ hH1 hr))
   obtain⟨E1,k1,k2,k3,k4⟩:=hp
   cases e<;>simp only[nk] at k4<;>try exact k4.elim
   obtain⟨k5,k6⟩:=k4
   let W2:World:={w1 with heap:=w1.heap.setIfInBounds (w.heap.size+1) (.loop (rec .busy none))}
   refine⟨W2,?_,Code.wpIn_mono (fun e a2 w2 hp=>?_) (cD (rn:=some (w.heap.size+1)) hNG hm A body E1 a1 W2 _ _ _ k1 k6)⟩
   ·simp[Instr.beginRound,Instr.getLoop,getObj,setObj,Sem.run,k5,hset2,hstate,W2]
   ·obtain⟨E2,q1,q2,q3,q4⟩:=hp
    have hal:Alike W w2:=(k3.trans (.of_le rfl (Nat.le_refl _)):Alike W W2).trans q3
    have fin:∀(j:Option Code) (s:LoopState),s=(if j.isNone then .ready else .done)→w2.heap[w.heap.size+1]?=some (.loop (rec .busy none))→K j.isNone (w2.heap.setIfInBounds (w.heap.size+1) (.loop (rec s j)))→
      ∃v w',(Instr.endRound (w.heap.size+1) j).run P w2=.ok v w'∧∃u,Ending.returned v=.returned u∧(∃b,u=.bool b∧K b w'.heap∧Alike W w'):=by
     intro j s hs hl2 hk
     refine⟨.bool j.isNone,{w2 with heap:=w2.heap.setIfInBounds (w.heap.size+1) (.loop (rec s j))},?_,_,rfl,_,rfl,hk,hal.trans (.of_le rfl (Nat.le_refl _))⟩
     subst hs
     simp[Instr.endRound,Instr.getLoop,getObj,setObj,Sem.run,hl2,hset]
    cases e<;>simp only[nk] at q4<;>try exact q4.elim
    case normal=>exact fin none .ready rfl q4.1 q4.2
    case exit id=>exact fin (some (.exit id)) .done rfl q4.1 q4.2
    case ret=>exact fin (some .ret) .done rfl q4.1 q4.2
  have hcalls:=h rec hround W1 rfl
  refine callsIn_wide.2 (hcalls.mono fun e w3 ⟨v,he,hk,hal⟩=>?_)
  subst he
  obtain⟨s,p,hl,hb,hk⟩:=hk
  have hH':Holds N ((w.heap.size::D).map lD) E {a with defers:=[lD w.heap.size]++a.defers}:=
   ⟨hH.size,by rw[hH.defers];rfl,fun e he=>hH.all e he⟩
  have hal':Alike w w3:=(.of_le rfl (Nat.le_refl _):Alike w W1).trans hal
  have hend:(Instr.endLoop (w.heap.size+1)).run P w3=.ok p {w3 with heap:=w3.heap.setIfInBounds (w.heap.size+1) (.loop (rec .exhausted p))}:=by
   have hne:s≠LoopState.busy:=by intro e;subst e;cases hb
   simp[Instr.endLoop,Instr.getLoop,getObj,setObj,Sem.run,hl,hpend,hstate,hne]
   subst hrec;rfl
  refine⟨p,_,hend,?_⟩
  cases p with
  |none=>exact⟨w.heap.size::D,E,hH',hal'.trans (.of_le rfl (Nat.le_refl _)),hk⟩
  |some c=>
    cases c<;>simp only at hk<;>try exact hk.elim
    case exit id=>exact wpIn_exit ⟨w.heap.size::D,E,hH',hal'.trans (.of_le rfl (Nat.le_refl _)),hk⟩
    case ret=>exact wpIn_ret ⟨w.heap.size::D,E,hH',hal'.trans (.of_le rfl (Nat.le_refl _)),hk⟩
theorem ql.then {w w1:World} {Kn:List Nat→List bK→Heap→Prop} {Kx:Nat→List Nat→List bK→Heap→Prop} {Kr:List Nat→List bK→Heap→Prop} (h:Alike w w1) {e:Exit} {a':Act} {w':World} (hp:ql N w1 Kn Kx Kr e a' w'):ql N w Kn Kx Kr e a' w':=by
 obtain⟨D',E',h1,h2,h3⟩:=hp
 exact⟨D',E',h1,h.trans h2,h3⟩
theorem gh (hNG:kB P) (hm:P.follows .mixedOrders=true) (A:wh):∀(c:Code) (D:List Nat) (E:List bK) (a:Act) (w:World) (Kn:List Nat→List bK→Heap→Prop) (Kx:Nat→List Nat→List bK→Heap→Prop) (Kr:List Nat→List bK→Heap→Prop),
  Holds N (D.map lD) E a→zT P N A c D E w.heap Kn Kx Kr→c.wpIn (FW none) 0 P (ql N w Kn Kx Kr) a w
 |.seq x y,D,E,a,w,Kn,Kx,Kr,hH,h=>by
   simp only[zT] at h
   cases hb:(cd x||cd y) with
   |false=>rw[hb] at h;exact cC hNG hm hH h
   |true=>
     rw[hb] at h
     simp only[cond_true] at h
     refine wpIn_seq (Code.wpIn_mono (fun e a' w' hp=>?_) (gh hNG hm A x D E a w _ _ _ hH h))
     obtain⟨D',E',h1,h3,h4⟩:=hp
     cases e<;>simp only[rH] at h4<;>try exact h4.elim
     case normal=>exact Code.wpIn_mono (fun e a'' w'' hp=>hp.then h3) (gh hNG hm A y D' E' a' w' Kn Kx Kr h1 h4)
     case exit i=>exact⟨D',E',h1,h3,h4⟩
     case ret=>exact⟨D',E',h1,h3,h4⟩
 |.cond c x y,D,E,a,w,Kn,Kx,Kr,hH,h=>by
   simp only[zT] at h
   cases hb:(cd x||cd y) with
   |false=>rw[hb] at h;exact cC hNG hm hH h
   |true=>
     rw[hb] at h
     simp only[cond_true] at h
     split at h
     ·rename_i b hb
      have ec:=fD hH (by simp) hb
      refine wpIn_cond ec ?_
      cases b with
      |true=>exact gh hNG hm A x D E a w Kn Kx Kr hH h
      |false=>exact gh hNG hm A y D E a w Kn Kx Kr hH h
     ·exact h.elim
 |.block id c,D,E,a,w,Kn,Kx,Kr,hH,h=>by
   simp only[zT] at h
   cases hb:cd c with
   |false=>rw[hb] at h;exact cC hNG hm hH h
   |true=>
     rw[hb] at h
     simp only[cond_true] at h
     refine wpIn_block (Code.wpIn_mono (fun e a' w' hp=>?_) (gh hNG hm A c D E a w _ _ _ hH h))
     obtain⟨D',E',h1,h3,h4⟩:=hp
     cases e<;>simp only[rH] at h4<;>try exact h4.elim
     case normal=>exact⟨D',E',h1,h3,h4⟩
     case exit i=>
      simp only[Exit.inBlock]
      by_cases hi:i=id
      ·subst hi
       rw[if_pos rfl]
       have e0:Nat.beq i i=true:=Nat.beq_refl i
       rw[e0] at h4
       exact⟨D',E',h1,h3,h4⟩
      ·rw[if_neg hi]
       have e0:Nat.beq i id=false:=by
        cases hb:Nat.beq i id with
        |false=>rfl
        |true=>exact absurd (Nat.eq_of_beq_eq_true hb) hi
       rw[e0] at h4
       exact⟨D',E',h1,h3,h4⟩
     case ret=>exact⟨D',E',h1,h3,h4⟩
 |.rangeFunc f ps assign body,D,E,a,w,Kn,Kx,Kr,hH,h=>by
   simp only[zT] at h
   split at h
   ·rename_i fv sl hf hsl
    cases hb:(FL ps.toList (sl.map (·.1))&&(kC ps.toList&&ps.toList.all (fun p=>Nat.blt p N))) with
    |false=>rw[hb] at h;exact h.elim
    |true=>
      rw[hb] at h
      simp only[cond_true] at h
      simp only[Bool.and_eq_true,List.all_eq_true] at hb
      exact pR hNG hm hH hf (zv hb.1) hb.2.1 (fun p hp=>Nat.lt_of_succ_le (by simpa[Nat.blt] using hb.2.2 p hp)) h
   ·exact h.elim
 |.skip,D,E,a,w,Kn,Kx,Kr,hH,h=>cC hNG hm hH h
 |.label _,D,E,a,w,Kn,Kx,Kr,hH,h=>cC hNG hm hH h
 |.exit id,D,E,a,w,Kn,Kx,Kr,hH,h=>cC hNG hm hH h
 |.ret,D,E,a,w,Kn,Kx,Kr,hH,h=>cC hNG hm hH h
 |.region id ops draw,D,E,a,w,Kn,Kx,Kr,hH,h=>cC hNG hm hH h
 |.loop c,D,E,a,w,Kn,Kx,Kr,hH,h=>cC hNG hm hH h
 |.scope c,D,E,a,w,Kn,Kx,Kr,hH,h=>cC hNG hm hH h
 |.goto _,D,E,a,w,Kn,Kx,Kr,hH,h=>cC hNG hm hH h
 |.refuse _,D,E,a,w,Kn,Kx,Kr,hH,h=>cC hNG hm hH h
theorem vK (hNG:kB P) (hm:P.follows .mixedOrders=true) {f:FuncId} {A:wh} {args:List Value} {H:Heap} {R:Value→Heap→Prop} (h:GD P f A args H R):Spec P f args.toArray H R:=by
 intro w hw
 subst hw
 unfold GD at h
 split at h
 ·rename_i fn hf
  split at h
  ·rename_i c hc
   cases hb:Nat.ble args.length fn.ntmps with
   |false=>rw[hb] at h;exact h.elim
   |true=>
     rw[hb] at h
     simp only[cond_true] at h
     have hle:args.length≤fn.ntmps:=Nat.le_of_ble_eq_true hb
     refine callsIn_wide.1 (callsIn_of_wp_marks (F:=FW none) hf hc trivial (Code.wpIn_mono (fun e a' w' hp=>?_) (gh (N:=fn.ntmps) hNG hm A c [] (xN 0 args) _ w _ _ _ ⟨?_,rfl,?_⟩ h)))
     ·obtain⟨D',E',h1,h3,h4⟩:=hp
      have fin:vC P fn.results D' E' w'.heap R→LeavesInM (FW none) 0 P fn a'.tmps (fun e w2=>∃v,e=.returned v∧R v w2.heap∧Alike w w2) a'.defers .returning w':=by
       intro h5
       rw[h1.defers]
       refine rj (w0:=w') (fun w2 ha hk=>?_) D' w' (.refl _) h5
       obtain⟨v,r1,r2⟩:=th (fn:=fn) (w:=w2) h1 hk
       exact⟨v,r1,v,rfl,r2,h3.trans ha⟩
      cases e<;>simp only[rH] at h4<;>try exact h4.elim
      case normal=>exact fin h4
      case ret=>exact fin h4
     ·simp;omega
     ·have key:∀(l:List Value) (k:Nat),(∀j v,l[j]?=some v→(args++List.replicate (fn.ntmps - args.length) undef)[k+j]?=some v)→
        ∀e∈xN k l,dV {tmps:=args.toArray++Array.replicate (fn.ntmps - args.toArray.size) undef,defers:=[]} e:=by
       intro l
       induction l with
       |nil=>intro k _ e he;simp[xN] at he
       |cons v r ih=>
         intro k hk e he
         simp only[xN] at he
         rcases List.mem_cons.1 he with he|he
         ·subst he
          have:=hk 0 v rfl
          simp only[dV]
          rw[←Array.getElem?_toList]
          simpa using this
         ·exact ih (k+1) (fun j v hj=>by
           have:=hk (j+1) v (by simpa using hj)
           rwa [show k+(j+1)=k+1+j by omega] at this) e he
      exact key args 0 (fun j v hj=>by
       have hlt:=(List.getElem?_eq_some_iff.1 hj).1
       rw[Nat.zero_add,List.getElem?_append_left hlt];exact hj)
  ·exact h.elim
 ·exact h.elim
theorem ud (hNG:kB P) (hm:P.follows .mixedOrders=true) {c:dN} {f:FuncId} {A:wh} {args:List Value} {H:Heap} {R:c.α→Heap→Prop} (h:F8 c P f A args H R):ah c P f args.toArray H R:=
 (vK hNG hm h).mono fun v H' h1=>by
  obtain⟨x,hx,hr⟩:=fC h1
  exact⟨x,c.ok _ _ hx,hr⟩
end
end Go.Proofs.YtdpdmbceakdlmaaGreatDoor
