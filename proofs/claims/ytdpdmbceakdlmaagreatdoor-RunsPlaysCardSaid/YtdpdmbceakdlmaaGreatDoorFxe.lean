/-
 Ground, fifth text: what the walk of a whole function asks ('vcF'), and that it is enough ('spec_of_vc').
-/
import Derived.Test.YtdpdmbceakdlmaaGreatDoorFxd
import Derived.Test.YtdpdmbceakdlmaaGreatDoorFxu
namespace Go.Proofs.YtdpdmbceakdlmaaGreatDoor
structure bK where
 s:Nat
 v:Value
 g:Option (Nat×Bool)
def find:List bK→Nat→Option bK
 |[],_=>none
 |e::r,t=>bif Nat.beq e.s t then some e else find r t
def Ew (a b:Nat×Bool):Bool:=Nat.beq a.1 b.1&&(a.2==b.2)
def GG (gs:List (Nat×Bool)):Option (Nat×Bool)→Bool
 |none=>true
 |some p=>gs.any (Ew p)
def yk (E:List bK) (gs:List (Nat×Bool)):Operand→Option Value
 |.tmp t=>(match find E t with|some e=>(bif GG gs e.g then some e.v else none)|none=>none)
 |.const v=>some v
 |.global g=>some (.pointer (some ⟨g,0,none⟩))
 |.func f=>some (.func (.func f) #[] #[])
def BE (E:List bK) (gs:List (Nat×Bool)) (x:Operand):Value:=(yk E gs x).getD undef
def oX (E:List bK) (gs:List (Nat×Bool)) (op:Op):Bool:=op.operands.toList.all fun x=>(yk E gs x).isSome
def dV (a:Act) (e:bK):Prop:=
 match e.g with
 |none=>a.tmps[e.s]?=some e.v
 |some (s,b)=>(a.tmps[s]?=some (.bool b)→a.tmps[e.s]?=some e.v)∧(a.tmps[s]?≠some (.bool b)→a.tmps[e.s]?=some undef)
structure Holds (N:Nat) (D:List Deferred) (E:List bK) (a:Act):Prop where
 size:a.tmps.size=N
 defers:a.defers=D
 all:∀e∈E,dV a e
def Eb (d:Nat) (e:bK):Bool:=!(Nat.beq e.s d)&&(match e.g with|some (s,_)=>!(Nat.beq s d)|none=>true)
def Aa (d:Nat) (g:Option (Nat×Bool)):Bool:=match g with|some p=>!(Nat.beq p.1 d)|none=>true
def pV (N:Nat) (E:List bK) (dst:Option Nat) (v:Value) (g:Option (Nat×Bool)) (K:List bK→Prop):Prop:=
 match dst with
 |none=>K E
 |some d=>bif Nat.blt d N&&Aa d g then K (⟨d,v,g⟩::E.filter (Eb d)) else False
def nL (s:Nat) (b:Bool):List bK→List bK
 |[]=>[]
 |e::r=>bif Nat.beq e.s s then ⟨s,.bool b,none⟩::nL s b r else (match e.g with
   |none=>e::nL s b r
   |some p=>bif Ew p (s,b) then ⟨e.s,e.v,none⟩::nL s b r else bif Nat.beq p.1 s then nL s b r else e::nL s b r)
def gF (W:List Nat) (a a':Act):Prop:=∀t,W.contains t=false→a'.tmps[t]?=a.tmps[t]?
theorem gF.refl (W:List Nat) (a:Act):gF W a a:=fun _ _=>rfl
theorem gF.trans {W:List Nat} {a b c:Act} (h:gF W a b) (k:gF W b c):gF W a c:=fun t ht=>(k t ht).trans (h t ht)
theorem gF.mono {W W':List Nat} {a b:Act} (h:gF W a b) (hs:∀t,W'.contains t=false→W.contains t=false):gF W' a b:=fun t ht=>h t (hs t ht)
theorem gF.put {W:List Nat} {a:Act} {dst:Option Nat} {v:Value} (h:∀d,dst=some d→W.contains d=true):gF W a (a.put dst v):=by
 intro t ht
 cases dst with
 |none=>rfl
 |some d=>
   have hne:d≠t:=by intro e;subst e;rw[h d rfl] at ht;cases ht
   simp[Act.put,Array.getElem?_setIfInBounds_ne hne]
theorem eL:∀{E:List bK} {t:Nat} {e:bK},find E t=some e→e∈E∧e.s=t
 |[],_,_,h=>by cases h
 |x::r,t,e,h=>by
   unfold find at h
   cases hb:Nat.beq x.s t with
   |true=>rw[hb] at h;have e1:x=e:=Option.some.inj h;subst e1;exact⟨List.mem_cons_self,Nat.eq_of_beq_eq_true hb⟩
   |false=>rw[hb] at h;have:=eL (E:=r) h;exact⟨List.mem_cons_of_mem _ this.1,this.2⟩
theorem mg {a b:Nat×Bool} (h:Ew a b=true):a=b:=by
 unfold Ew at h
 simp only[Bool.and_eq_true,beq_iff_eq] at h
 exact Prod.ext (Nat.eq_of_beq_eq_true h.1) h.2
section
variable {P:Program} {N:Nat} {D:List Deferred} {L:List Nat}
theorem fD {E:List bK} {gs:List (Nat×Bool)} {a:Act} {x:Operand} {v:Value} (hH:Holds N D E a) (hg:∀p∈gs,a.tmps[p.1]?=some (.bool p.2)) (h:yk E gs x=some v):a.eval x=v:=by
 cases x with
 |tmp t=>
   simp only[yk] at h
   split at h
   ·rename_i e he
    obtain⟨h1,h2⟩:=eL he
    cases hb:GG gs e.g with
    |false=>rw[hb] at h;cases h
    |true=>
      rw[hb] at h
      have hv:e.v=v:=Option.some.inj h
      have hok:=hH.all e h1
      have:a.tmps[e.s]?=some e.v:=by
       unfold dV at hok
       cases hge:e.g with
       |none=>rw[hge] at hok;exact hok
       |some p=>
         rw[hge] at hok hb
         obtain⟨q,hq,heq⟩:=List.any_eq_true.1 hb
         have:=mg heq
         subst this
         exact hok.1 (hg _ hq)
      rw[h2] at this
      simp only[Act.eval,Array.getD_eq_getD_getElem?,this,hv,Option.getD_some]
   ·cases h
 |const u=>exact Option.some.inj h
 |global g=>exact Option.some.inj h
 |func f=>exact Option.some.inj h
theorem mE {E:List bK} {gs:List (Nat×Bool)} {a:Act} {o:Oper} (hH:Holds N D E a) (hg:∀p∈gs,a.tmps[p.1]?=some (.bool p.2)) (h:oX E gs o.op=true)
  (hs:∀cs b,o.op≠.select cs b):execOp a.eval o=execOp (BE E gs) o:=by
 refine execOp_congr o hs fun x hx=>?_
 have:=List.all_eq_true.1 h x (by simpa using hx)
 obtain⟨v,hv⟩:=Option.isSome_iff_exists.1 this
 rw[fD hH hg hv]
 unfold BE
 rw[hv];rfl
theorem xE {E:List bK} {gs:List (Nat×Bool)} (v:Value):BE E gs (.const v)=v:=rfl
theorem ss {a:Act} {d:Nat} {v:Value} (h:d<a.tmps.size):(a.put (some d) v).tmps[d]?=some v:=by
 simp[Act.put,h]
theorem kz {a:Act} {d t:Nat} {v:Value} (h:d≠t):(a.put (some d) v).tmps[t]?=a.tmps[t]?:=by
 simp[Act.put,Array.getElem?_setIfInBounds_ne h]
theorem Bh {a:Act} {dst:Option Nat} {v:Value}:(a.put dst v).tmps.size=a.tmps.size:=by
 cases dst<;>simp[Act.put]
theorem put_defers {a:Act} {dst:Option Nat} {v:Value}:(a.put dst v).defers=a.defers:=by
 cases dst<;>simp[Act.put]
theorem dM {E:List bK} {dst:Option Nat} {v:Value} {g:Option (Nat×Bool)} {K:List bK→Prop} {a:Act} (hH:Holds N D E a) (h:pV N E dst v g K)
  {u:Value} (hu:∀s b,g=some (s,b)→a.tmps[s]?=some (.bool b)→u=v) (hu0:g=none→u=v) (hu2:∀s b,g=some (s,b)→a.tmps[s]?≠some (.bool b)→u=undef:=by intro _ _ e;cases e):∃E',Holds N D E' (a.put dst u)∧K E':=by
 unfold pV at h
 cases dst with
 |none=>exact⟨E,hH,h⟩
 |some d=>
   simp only at h
   cases hb:(Nat.blt d N&&Aa d g) with
   |false=>rw[hb] at h;exact h.elim
   |true=>
     rw[hb] at h
     simp only[Bool.and_eq_true] at hb
     have hd:d<a.tmps.size:=by rw[hH.size];exact Nat.le_of_ble_eq_true hb.1
     refine⟨_,⟨Bh.trans hH.size,put_defers.trans hH.defers,?_⟩,h⟩
     intro e he
     rcases List.mem_cons.1 he with he|he
     ·subst he
      unfold dV
      cases g with
      |none=>exact(ss hd).trans (by rw[hu0 rfl])
      |some p=>
        obtain⟨s,b⟩:=p
        have hsd:s≠d:=by
         intro e;subst e
         have:=hb.2
         simp[Aa] at this
        refine⟨fun hs=>?_,fun hs=>?_⟩
        ·rw[kz (Ne.symm hsd)] at hs
         exact(ss hd).trans (by rw[hu s b rfl hs])
        ·rw[kz (Ne.symm hsd)] at hs
         exact(ss hd).trans (by rw[hu2 s b rfl hs])
     ·obtain⟨h1,h2⟩:=List.mem_filter.1 he
      have hok:=hH.all e h1
      unfold Eb at h2
      simp only[Bool.and_eq_true,Bool.not_eq_true'] at h2
      have hne:d≠e.s:=by
       intro e1
       have:=h2.1
       rw[←e1] at this
       simp at this
      unfold dV at hok ⊢
      cases hg:e.g with
      |none=>rw[hg] at hok;exact(kz hne).trans hok
      |some p=>
        obtain⟨s,b⟩:=p
        rw[hg] at hok h2
        have hne2:d≠s:=by
         intro e1
         have:=h2.2
         rw[←e1] at this
         simp at this
        refine⟨fun hs=>?_,fun hs=>?_⟩
        ·rw[kz hne2] at hs
         exact(kz hne).trans (hok.1 hs)
        ·rw[kz hne2] at hs
         exact(kz hne).trans (hok.2 hs)
theorem oy {s:Nat} {b:Bool} {a:Act} (hs:a.tmps[s]?=some (.bool b)):∀{E:List bK},(∀e∈E,dV a e)→∀e∈nL s b E,dV a e
 |[],_,e,he=>by simp[nL] at he
 |x::r,h,e,he=>by
   have hr:=oy hs (E:=r) (fun e he=>h e (List.mem_cons_of_mem _ he))
   have hx:=h x List.mem_cons_self
   unfold nL at he
   cases hb:Nat.beq x.s s with
   |true=>
     rw[hb] at he
     rcases List.mem_cons.1 he with he|he
     ·subst he;exact hs
     ·exact hr e he
   |false=>
     rw[hb] at he
     simp only[cond_false] at he
     unfold dV at hx
     cases hg:x.g with
     |none=>
       rw[hg] at he hx
       rcases List.mem_cons.1 he with he|he
       ·subst he;unfold dV;rw[hg];exact hx
       ·exact hr e he
     |some p=>
       rw[hg] at he hx
       simp only at he
       cases hb2:Ew p (s,b) with
       |true=>
         rw[hb2] at he
         have:=mg hb2
         subst this
         rcases List.mem_cons.1 he with he|he
         ·subst he;exact hx.1 hs
         ·exact hr e he
       |false=>
         rw[hb2] at he
         simp only[cond_false] at he
         cases hb3:Nat.beq p.1 s with
         |true=>rw[hb3] at he;exact hr e he
         |false=>
           rw[hb3] at he
           rcases List.mem_cons.1 he with he|he
           ·subst he;unfold dV;rw[hg];exact hx
           ·exact hr e he
theorem Holds.nL {E:List bK} {a:Act} {s:Nat} {b:Bool} (hH:Holds N D E a) (hs:a.tmps[s]?=some (.bool b)):Holds N D (nL s b E) a:=
 ⟨hH.size,hH.defers,oy hs hH.all⟩
def jT (s:Nat) (b:Bool) (E:List bK):List bK:=nL s b E++[⟨s,.bool b,some (s,b)⟩]
theorem Holds.jT {E:List bK} {a:Act} {s:Nat} {b:Bool} (hH:Holds N D E a) (hs:a.tmps[s]?=some (.bool b)):Holds N D (jT s b E) a:=
 ⟨hH.size,hH.defers,fun e he=>by
  rcases List.mem_append.1 he with h|h
  ·exact(hH.nL hs).all e h
  ·rw[List.mem_singleton.1 h];exact⟨fun h=>h,fun h=>absurd hs h⟩⟩
def lq (s:Nat) (b:Bool):List bK→List bK
 |[]=>[]
 |e::r=>bif Nat.beq e.s s then ⟨s,.bool b,none⟩::lq s b r else (match e.g with
   |none=>e::lq s b r
   |some p=>bif Ew p (s,b) then ⟨e.s,e.v,none⟩::lq s b r else bif Nat.beq p.1 s then ⟨e.s,undef,none⟩::lq s b r else e::lq s b r)
theorem nv {s:Nat} {b:Bool} {a:Act} (hs:a.tmps[s]?=some (.bool b)):∀{E:List bK},(∀e∈E,dV a e)→∀e∈lq s b E,dV a e
 |[],_,e,he=>by simp[lq] at he
 |x::r,h,e,he=>by
   have hr:=nv hs (E:=r) (fun e he=>h e (List.mem_cons_of_mem _ he))
   have hx:=h x List.mem_cons_self
   unfold lq at he
   cases hb:Nat.beq x.s s with
   |true=>
     rw[hb] at he
     rcases List.mem_cons.1 he with he|he
     ·subst he;exact hs
     ·exact hr e he
   |false=>
     rw[hb] at he
     simp only[cond_false] at he
     unfold dV at hx
     cases hg:x.g with
     |none=>
       rw[hg] at he hx
       rcases List.mem_cons.1 he with he|he
       ·subst he;unfold dV;rw[hg];exact hx
       ·exact hr e he
     |some p=>
       rw[hg] at he hx
       simp only at he
       cases hb2:Ew p (s,b) with
       |true=>
         rw[hb2] at he
         have:=mg hb2
         subst this
         rcases List.mem_cons.1 he with he|he
         ·subst he
          exact hx.1 hs
         ·exact hr e he
       |false=>
         rw[hb2] at he
         simp only[cond_false] at he
         cases hb3:Nat.beq p.1 s with
         |true=>
           rw[hb3] at he
           have e3:=Nat.eq_of_beq_eq_true hb3
           obtain⟨p1,p2⟩:=p
           simp only at e3 hx
           subst e3
           rcases List.mem_cons.1 he with he|he
           ·subst he
            refine hx.2 fun q=>?_
            rw[hs] at q
            have q2:b=p2:=by injection q with q;injection q
            subst q2
            unfold Ew at hb2
            simp at hb2
           ·exact hr e he
         |false=>
           rw[hb3] at he
           rcases List.mem_cons.1 he with he|he
           ·subst he;unfold dV;rw[hg];exact hx
           ·exact hr e he
def se (s:Nat) (b:Bool) (E:List bK):List bK:=lq s b E++[⟨s,.bool b,some (s,b)⟩]
theorem Holds.se {E:List bK} {a:Act} {s:Nat} {b:Bool} (hH:Holds N D E a) (hs:a.tmps[s]?=some (.bool b)):Holds N D (se s b E) a:=
 ⟨hH.size,hH.defers,fun e he=>by
  rcases List.mem_append.1 he with h|h
  ·exact nv hs hH.all e h
  ·rw[List.mem_singleton.1 h];exact⟨fun h=>h,fun h=>absurd hs h⟩⟩
def isLit (E:List bK) (s:Nat):Bool:=E.any fun e=>Nat.beq e.s s&&(match e.g with|some p=>Nat.beq p.1 s|none=>false)
def sq (gs:List (Nat×Bool)) (c:Operand) (b:Bool):List (Nat×Bool):=match c with|.tmp t=>(t,b)::gs|_=>gs
def GQ (M:Option (Heap→Prop)) (H:Heap) (A:Prop):Prop:=match M with|none=>A|some G=>G H∧A
def lj:Op→Bool
 |.select ..=>true
 |_=>false
def jV (P:Program) (E:List bK) (gs:List (Nat×Bool)) (o:Oper):Option Value:=
 match o.op with
 |.pick c a b=>(match yk E gs c,yk E (sq gs c true) a,yk E (sq gs c false) b with
   |some (.bool t),some va,some vb=>some (nF t a b va vb)
   |_,_,_=>none)
 |op=>bif wN P op&&(oX E gs op&&!(lj op)) then evalOp P o (BE E gs) else none
def uG (P:Program) (L:List Nat) (E:List bK) (gs:List (Nat×Bool)) (o:Oper) (M:Option (Heap→Prop)) (H:Heap) (K:Value→Heap→Prop):Prop:=
 match jV P E gs o with
 |some v=>K v H
 |none=>bif oX E gs o.op&&!(lj o.op) then
   (match gO P o.op with
    |0=>sF P o.op (BE E gs) fun v=>K v H
    |1=>oc P o.op o.type (BE E gs) (bif FQ L o then none else M) H fun v=>K v H
    |_=>vW P o.op o.type (BE E gs) H fun v H'=>GQ M H' (K v H'))
   else False
theorem iK {E:List bK} {gs:List (Nat×Bool)} {o:Oper} {a:Act} {v:Value} (hH:Holds N D E a) (hg:∀p∈gs,a.tmps[p.1]?=some (.bool p.2))
  (h:jV P E gs o=some v) (w':World):(execOp a.eval o).run P w'=.ok (.value v) w':=by
 unfold jV at h
 split at h
 ·rename_i c x y hop
  split at h
  ·rename_i t va vb hc hx hy
   have hv:nF t x y va vb=v:=Option.some.inj h
   subst hv
   have ec:=fD hH hg hc
   have key:nF t x y va vb=if t then a.eval x else a.eval y:=by
    have hct:∀b,t=b→∀p∈sq gs c b,a.tmps[p.1]?=some (.bool p.2):=by
     intro b hb p hp
     cases c with
     |tmp s=>
       simp only[sq] at hp
       rcases List.mem_cons.1 hp with hp|hp
       ·subst hp
        simp only[yk] at hc
        split at hc
        ·rename_i e he
         obtain⟨h1,h2⟩:=eL he
         cases hb2:GG gs e.g with
         |false=>rw[hb2] at hc;cases hc
         |true=>
           rw[hb2] at hc
           have hv:e.v=.bool t:=Option.some.inj hc
           have hok:=hH.all e h1
           have:a.tmps[e.s]?=some e.v:=by
            unfold dV at hok
            cases hge:e.g with
            |none=>rw[hge] at hok;exact hok
            |some p=>
              rw[hge] at hok hb2
              obtain⟨q,hq,heq⟩:=List.any_eq_true.1 hb2
              have:=mg heq
              subst this
              exact hok.1 (hg _ hq)
           rw[h2,hv,hb] at this
           exact this
        ·cases hc
       ·exact hg p hp
     |_=>exact hg p hp
    -- the constant's own case
    have cx:∀v,x=.const v→va=v:=fun v e=>by subst e;exact(Option.some.inj hx).symm
    have cy:∀v,y=.const v→vb=v:=fun v e=>by subst e;exact(Option.some.inj hy).symm
    have e0:nF t x y va vb=if t then va else vb:=by
     unfold nF
     split
     ·rename_i p q
      split
      ·have:=cy _ rfl
       have e2:q=false:=by simpa using this
       subst e2;cases t<;>simp
      ·split
       ·have:=cx _ rfl
        have e2:p=true:=by simpa using this
        subst e2;cases t<;>simp
       ·cases t<;>simp
     ·cases t<;>simp
    rw[e0]
    cases t with
    |true=>simp only[if_true];rw[fD hH (hct true rfl) hx]
    |false=>simp only[Bool.false_eq_true,if_false];rw[fD hH (hct false rfl) hy]
   simp only[execOp,hop,ec,asBool,Sem.run_bind,Sem.run_pure,Result.andThen_ok,key]
  ·cases h
 ·cases hb:(wN P o.op&&(oX E gs o.op&&!(lj o.op))) with
  |false=>rw[hb] at h;cases h
  |true=>
    rw[hb] at h
    simp only[Bool.and_eq_true,Bool.not_eq_true'] at hb
    have hs:∀cs b,o.op≠.select cs b:=fun cs b e=>by rw[e] at hb;cases hb.2.2
    rw[mE hH hg hb.2.1 hs]
    exact vR h w'
theorem iS {c:Nat} {M:Option (Heap→Prop)} {r:World→Result Next} {v:Value} {R:Value→World→Prop} {w:World} (hG:im M w.heap) (hv:∀w',r w'=.ok (.value v) w') (hr:R v w):eN P M c r R w:=by
 match c with
 |0=>exact⟨v,hv,hr⟩
 |1=>exact⟨v,fun w' _=>hv w',hr⟩
 |_+2=>show mq P (r w) _;rw[hv w];exact⟨hG,hr⟩
theorem pd {L:List Nat} {o:Oper} {c:Nat} (h:gO P o.op=c) (hc:c≠1):db P L o=c:=by
 unfold db
 have:Nat.beq (gO P o.op) 1=false:=by
  cases hb:Nat.beq (gO P o.op) 1 with
  |false=>rfl
  |true=>exact absurd (h.symm.trans (Nat.eq_of_beq_eq_true hb)) hc
 rw[this];exact h
theorem yD {L:List Nat} {o:Oper} (h:gO P o.op=1) (hl:FQ L o=true):db P L o=2:=by
 unfold db;rw[h,hl];rfl
theorem vo {L:List Nat} {o:Oper} (h:gO P o.op=1) (hl:FQ L o=false):db P L o=1:=by
 unfold db;rw[h,hl];rfl
theorem uv (hNG:kB P) {E:List bK} {gs:List (Nat×Bool)} {o:Oper} {M:Option (Heap→Prop)} {a:Act} {w:World} {K:Value→Heap→Prop} {R:Value→World→Prop}
  (hH:Holds N D E a) (hg:∀p∈gs,a.tmps[p.1]?=some (.bool p.2)) (hG:im M w.heap) (hK:∀v w',Alike w w'→im M w'.heap→K v w'.heap→R v w')
  (h:uG P L E gs o M w.heap K):eN P M (db P L o) (fun w=>(execOp a.eval o).run P w) R w:=by
 unfold uG at h
 split at h
 ·rename_i v hv
  exact iS hG (iK hH hg hv) (hK v w (.refl w) hG h)
 ·cases hb:(oX E gs o.op&&!(lj o.op)) with
  |false=>rw[hb] at h;exact h.elim
  |true=>
    rw[hb] at h
    simp only[Bool.and_eq_true,Bool.not_eq_true'] at hb
    have hs:∀cs b,o.op≠.select cs b:=fun cs b e=>by rw[e] at hb;cases hb.2
    have he:=mE hH hg hb.1 hs
    simp only[cond_true] at h
    rw[he]
    split at h
    ·rename_i hc
     rw[pd hc (by decide)]
     obtain⟨v,h1,h2⟩:=pX (o:=o) (xE) h
     exact⟨v,h1,hK v w (.refl w) hG h2⟩
    ·rename_i hc
     cases hl:FQ L o with
     |true=>
       rw[hl] at h
       simp only[cond_true] at h
       obtain⟨v,h1,h2⟩:=gX (o:=o) h
       rw[yD hc hl]
       have h3:=h1 w rfl
       show mq P ((execOp (BE E gs) o).run P w) _
       rw[h3]
       exact⟨hG,hK v w (.refl w) hG h2⟩
     |false=>
       rw[hl] at h
       simp only[cond_false] at h
       obtain⟨v,h1,h2⟩:=gX (o:=o) h
       rw[vo hc hl]
       exact⟨v,fun w' hw'=>h1 w' hw',hK v w (.refl w) hG h2⟩
    ·rename_i c n0 n1
     have h3:mq P ((execOp (BE E gs) o).run P w) (fun v w'=>im M w'.heap∧R v w'):=by
      refine sv hNG (M:=M) (K:=fun v H'=>GQ M H' (K v H')) ?_ h
      intro v w' ha hk
      cases M with
      |none=>exact⟨trivial,hK v w' ha trivial hk⟩
      |some G=>exact⟨hk.1,hK v w' ha hk.1 hk.2⟩
     have n1':gO P o.op≠1:=fun e=>n1 e
     have n0':gO P o.op≠0:=fun e=>n0 e
     have n1'':db P L o=gO P o.op:=pd rfl n1'
     rw[n1'']
     generalize gO P o.op=c at*
     match c with
     |0=>exact absurd rfl n0'
     |1=>exact absurd rfl n1'
     |_+2=>exact h3
def sk (ops:Array Oper) (j:Nat):Option Nat:=match ops[j]? with|some o=>o.dst|none=>none
theorem nt {ops:Array Oper} {o:Oper} {a:Act} {j s:Nat} {want:Bool} (hg:o.guard=some (j,want)) (hs:sk ops j=some s):
  (Region.wanted o (yielded ops a.tmps)=true↔a.tmps[s]?=some (.bool want)):=by
 have hb:(ops[j]?).bind (·.dst)=some s:=by
  unfold sk at hs
  split at hs
  ·rename_i o' ho;rw[ho];exact hs
  ·cases hs
 simp only[Region.wanted,hg,yielded,hb,Option.bind_some]
 constructor
 ·intro h
  split at h
  ·rename_i b hb2;rw[hb2];simpa using h
  ·simp at h
 ·intro h;rw[h];simp
def gJ (P:Program) (N:Nat) (L:List Nat) (M:Option (Heap→Prop)) (o:Oper) (E:List bK) (H:Heap) (s:Nat) (want b:Bool) (K:List bK→Heap→Prop):Prop:=
 bif b==want then uG P L (jT s b E) [] o M H fun v H'=>pV N (jT s b E) o.dst v none fun E'=>K E' H'
 else pV N (jT s b E) o.dst undef none fun E'=>K E' H
def v8 (E:List bK) (s:Nat):Bool:=match find E s with|some ⟨_,.tuple _,none⟩=>true|_=>false
def wA (ops:Array Oper) (o:Oper):Bool:=match o.op with
 |.extract (.tmp t) _=>ops.toList.any fun p=>(match p.op with|.entry _=>(match p.dst with|some d=>Nat.beq d t|none=>false)|_=>false)
 |_=>false
def GA (P:Program) (N:Nat) (L:List Nat) (ops:Array Oper) (M:Option (Heap→Prop)) (o:Oper) (E:List bK) (H:Heap) (K:List bK→Heap→Prop):Prop:=
 match o.guard with
 |none=>bif wA ops o then (match jV P E [] o with
   |some v=>Cy (iM P o.type) v fun y=>pV N E o.dst ((iM P o.type).enc y) none fun E'=>K E' H
   |none=>False)
   else uG P L E [] o M H fun v H'=>pV N E o.dst v none fun E'=>K E' H'
 |some (j,want)=>(match sk ops j with
   |none=>False
   |some s=>bif v8 E s then pV N E o.dst undef none fun E'=>K E' H else bif isLit E s then (match find E s with
     |some ⟨_,.bool b,none⟩=>br b (gJ P N L M o E H s want true K) (gJ P N L M o E H s want false K)
     |_=>False) else (match jV P E [(s,want)] o with
     |some v=>pV N E o.dst v (some (s,want)) fun E'=>K E' H
     |none=>(match find E s with
       |some ⟨_,.bool b,none⟩=>br b (gJ P N L M o E H s want true K) (gJ P N L M o E H s want false K)
       |some ⟨_,.bool b,some (s2,w2)⟩=>(match find E s2 with
         |some ⟨_,.bool b2,none⟩=>
           br (b2==w2) (br b (gJ P N L M o (jT s2 w2 E) H s want true K) (gJ P N L M o (jT s2 w2 E) H s want false K)) (pV N (se s2 (!w2) E) o.dst undef none fun E'=>K E' H)
         |_=>False)
       |_=>False)))
theorem xe (hNG:kB P) {ops:Array Oper} {M:Option (Heap→Prop)} {o:Oper} {E:List bK} {a:Act} {w:World} {K:List bK→Heap→Prop} {K':Act→World→Prop}
  (hH:Holds N D E a) (hG:im M w.heap)
  (hK:∀E' u w',Holds N D E' (a.put o.dst u)→Alike w w'→im M w'.heap→K E' w'.heap→K' (a.put o.dst u) w')
  (h:GA P N L ops M o E w.heap K):ej P M L ops o K' a w:=by
 have plain:∀{E:List bK},Holds N D E a→uG P L E [] o M w.heap (fun v H'=>pV N E o.dst v none fun E'=>K E' H')→
   eN P M (db P L o) (fun w=>(execOp a.eval o).run P w) (fun v w'=>K' (a.put o.dst v) w') w:=by
  intro E hH h
  refine uv hNG hH (by simp) hG (fun v w' ha hg hk=>?_) h
  obtain⟨E',h1,h2⟩:=dM hH hk (u:=v) (fun _ _ _ _=>rfl) (fun _=>rfl)
  exact hK E' v w' h1 ha hg h2
 have known:∀{E:List bK} {s:Nat} {want b:Bool} {j:Nat},o.guard=some (j,want)→sk ops j=some s→Holds N D E a→a.tmps[s]?=some (.bool b)→gJ P N L M o E w.heap s want b K→ej P M L ops o K' a w:=by
  intro E s want b j hg hs hH hv h
  have hw:=nt (a:=a) hg hs
  unfold gJ at h
  unfold ej
  by_cases e:b=want
  ·subst e
   simp only[beq_self_eq_true,cond_true] at h
   rw[if_pos (hw.2 hv)]
   exact plain (hH.jT hv) h
  ·have hne:(b==want)=false:=by simpa using e
   rw[hne] at h
   simp only[cond_false] at h
   rw[if_neg (fun hh=>by
    have:=hw.1 hh
    rw[hv] at this
    simp at this
    exact e this)]
   obtain⟨E',h1,h2⟩:=dM (hH.jT hv) h (u:=undef) (fun _ _ _ _=>rfl) (fun _=>rfl)
   exact hK E' undef w h1 (.refl w) hG h2
 unfold GA at h
 split at h
 ·rename_i hg
  unfold ej
  rw[if_pos (by simp[Region.wanted,hg])]
  cases hoe:wA ops o with
  |false=>rw[hoe] at h;exact plain hH h
  |true=>
    rw[hoe] at h
    simp only[cond_true] at h
    split at h
    ·rename_i v hv
     obtain⟨y,rfl,hy⟩:=h
     obtain⟨E',h1,h2⟩:=dM hH hy (u:=(iM P o.type).enc y) (fun _ _ _ _=>rfl) (fun _=>rfl)
     exact iS hG (iK hH (by simp) hv) (hK E' _ w h1 (.refl w) hG h2)
    ·exact h.elim
 ·rename_i j want hg
  split at h
  ·exact h.elim
  ·rename_i s hs
   have hw:=nt (a:=a) hg hs
   cases hnb:v8 E s with
   |true=>
     rw[hnb] at h
     simp only[cond_true] at h
     have hv:∃vs,a.tmps[s]?=some (.tuple vs):=by
      unfold v8 at hnb
      split at hnb
      ·rename_i s' vs hf
       obtain⟨h1,h2⟩:=eL hf
       have:=hH.all _ h1
       simp only at h2
       subst h2
       exact⟨vs,this⟩
      ·cases hnb
     obtain⟨vs,hv⟩:=hv
     unfold ej
     rw[if_neg (fun hh=>by have:=hw.1 hh;rw[hv] at this;simp at this)]
     obtain⟨E',h1,h2⟩:=dM hH h (u:=undef) (fun _ _ _ _=>rfl) (fun _=>rfl)
     exact hK E' undef w h1 (.refl w) hG h2
   |false=>
   rw[hnb] at h
   simp only[cond_false] at h
   cases hil:isLit E s with
   |true=>
     rw[hil] at h
     simp only[cond_true] at h
     split at h
     ·rename_i s' b hf
      obtain⟨h1,h2⟩:=eL hf
      have hv:a.tmps[s]?=some (.bool b):=by have:=hH.all _ h1;simp only at h2;subst h2;exact this
      cases b with
      |true=>exact known hg hs hH hv h
      |false=>exact known hg hs hH hv h
     ·exact h.elim
   |false=>
   rw[hil] at h
   simp only[cond_false] at h
   split at h
   ·rename_i v hv
    unfold ej
    split
    ·rename_i hwant
     have hsl:=hw.1 hwant
     obtain⟨E',h1,h2⟩:=dM hH h (u:=v) (fun _ _ _ _=>rfl) (fun _=>rfl) (hu2:=fun s' b' e hh=>by obtain⟨rfl,rfl⟩:=(Prod.mk.inj (Option.some.inj e));exact absurd hsl hh)
     exact iS hG (iK hH (by intro p hp;rw[List.mem_singleton.1 hp];exact hsl) hv) (hK E' v w h1 (.refl w) hG h2)
    ·rename_i hwant
     obtain⟨E',h1,h2⟩:=dM hH h (u:=undef) (fun s' b' e hh=>by obtain⟨rfl,rfl⟩:=(Prod.mk.inj (Option.some.inj e));exact absurd (hw.2 hh) hwant) (fun e=>by cases e) (hu2:=fun _ _ _ _=>rfl)
     exact hK E' undef w h1 (.refl w) hG h2
   ·split at h
    ·rename_i s' b hf
     obtain⟨h1,h2⟩:=eL hf
     have hv:a.tmps[s]?=some (.bool b):=by have:=hH.all _ h1;simp only at h2;subst h2;exact this
     cases b with
     |true=>exact known hg hs hH hv h
     |false=>exact known hg hs hH hv h
    ·rename_i s' b s2 w2 hf
     split at h
     ·rename_i s3 b2 hf2
      obtain⟨h1,h2⟩:=eL hf
      obtain⟨h3,h4⟩:=eL hf2
      have hv2:a.tmps[s2]?=some (.bool b2):=by have:=hH.all _ h3;simp only at h4;subst h4;exact this
      obtain⟨h5,h6⟩:=Bb.1 h
      by_cases e:b2=w2
      ·subst e
       have h7:=h5 (by simp)
       have hv:a.tmps[s]?=some (.bool b):=by
        have:=hH.all _ h1
        simp only at h2
        subst h2
        exact this.1 hv2
       cases b with
       |true=>exact known hg hs (hH.jT hv2) hv h7
       |false=>exact known hg hs (hH.jT hv2) hv h7
      ·have h7:=h6 (by simpa using e)
       have e2:b2=!w2:=by cases b2<;>cases w2<;>simp_all
       have hu:a.tmps[s]?=some undef:=by
        have:=hH.all _ h1
        simp only at h2
        subst h2
        exact this.2 (by rw[hv2];intro q;injection q with q;injection q with q;exact e q)
       have hnw:¬Region.wanted o (yielded ops a.tmps)=true:=fun hh=>by
        have:=hw.1 hh
        rw[hu] at this
        unfold undef at this
        cases this
       unfold ej
       rw[if_neg hnw]
       obtain⟨E',k1,k2⟩:=dM (hH.se (by rw[hv2,e2])) h7 (u:=undef) (fun _ _ _ _=>rfl) (fun _=>rfl)
       exact hK E' undef w k1 (.refl w) hG k2
     ·exact h.elim
    ·exact h.elim
def gU (P:Program) (N:Nat) (L:List Nat) (ops:Array Oper) (M:Option (Heap→Prop)):List Oper→List bK→Heap→(List bK→Heap→Prop)→Prop
 |[],E,H,K=>K E H
 |o::l,E,H,K=>GA P N L ops M o E H fun E' H'=>gU P N L ops M l E' H' K
def Aj (l:List Oper):List Nat:=l.filterMap (·.dst)
theorem cH (hNG:kB P) {ops:Array Oper} {M:Option (Heap→Prop)} {K:List bK→Heap→Prop} {K':Act→World→Prop} {W:List Nat} {a0:Act} {w0:World}
  (hK:∀E' a' w',Holds N D E' a'→gF W a0 a'→Alike w0 w'→im M w'.heap→K E' w'.heap→K' a' w'):
  ∀(l:List Oper),(∀o∈l,∀d,o.dst=some d→W.contains d=true)→∀(E:List bK) (a:Act) (w:World),Holds N D E a→gF W a0 a→Alike w0 w→im M w.heap→gU P N L ops M l E w.heap K→ff P M L ops K' l a w
 |[],_,E,a,w,hH,hS,hA,hG,h=>hK E a w hH hS hA hG h
 |o::l,hW,_,_,_,hH,hS,hA,hG,h=>
   xe hNG hH hG (fun E' _ w' h1 ha hg h2=>cH hNG hK l (fun o' ho'=>hW o' (List.mem_cons_of_mem _ ho')) E' _ w' h1
    (hS.trans (gF.put (hW o List.mem_cons_self))) (hA.trans ha) hg h2) h
def Gx (P:Program) (N:Nat) (ops:Array Oper) (draw:Bool) (E:List bK) (H:Heap) (K:List bK→Heap→Prop):Prop:=
 bif draw then (bif df P [] 0 ops then gU P N [] ops none ops.toList E H K
  else let L:=oP P ops
   let k:=sg P L ops
   bif df P L k ops then (bif Nat.beq k 0 then gU P N L ops none ops.toList E H K else ∃G:Heap→Prop,G H∧gU P N L ops (some G) (ops.toList.take k) E H fun E' H'=>gU P N L ops none (ops.toList.drop k) E' H' K) else False)
 else gU P N [] ops none ops.toList E H K
theorem xG (hNG:kB P) (hm:P.follows .mixedOrders=true) {rn:Option Nat} {id:Nat} {ops:Array Oper} {draw:Bool} {E:List bK} {a:Act} {w:World} {K:List bK→Heap→Prop} {Q:Exit→Act→World→Prop}
  (hH:Holds N D E a) (hK:∀E' a' w',Holds N D E' a'→gF (Aj ops.toList) a a'→Alike w w'→K E' w'.heap→Q .normal a' w')
  (h:Gx P N ops draw E w.heap K):(Code.region id ops draw).wpIn (FW rn) 0 P Q a w:=by
 have hW:∀o∈ops.toList,∀d,o.dst=some d→(Aj ops.toList).contains d=true:=by
  intro o ho d hd
  rw[List.contains_iff_mem]
  exact List.mem_filterMap.2 ⟨o,ho,hd⟩
 unfold Gx at h
 cases draw with
 |false=>
   exact pS (cH (M:=none) hNG (fun E' a' w' k1 k2 k3 _ k4=>hK E' a' w' k1 k2 k3 k4) ops.toList hW E a w hH (.refl _ _) (.refl _) trivial h)
 |true=>
   simp only[cond_true] at h
   have hd:Alike w {w with drawn:=w.drawn+1}:=.of_le rfl (Nat.le_succ _)
   cases h1:df P [] 0 ops with
   |true=>
     rw[h1] at h
     refine gq (M:=none) (k:=0) hm (fun i hi=>by omega) h1 trivial ?_
     show ff P none [] ops _ (ops.toList.take 0) _ _
     rw[List.take_zero,List.drop_zero]
     exact cH (M:=none) hNG (fun E' a' w' k1 k2 k3 _ k4=>hK E' a' w' k1 k2 k3 k4) ops.toList hW E a _ hH (.refl _ _) hd trivial h
   |false=>
     rw[h1] at h
     simp only[cond_false] at h
     cases h2:df P (oP P ops) (sg P (oP P ops) ops) ops with
     |true=>
       rw[h2] at h
       simp only[cond_true] at h
       cases hk0:Nat.beq (sg P (oP P ops) ops) 0 with
       |true=>
         rw[hk0] at h
         have e0:=Nat.eq_of_beq_eq_true hk0
         rw[e0] at h2
         refine gq (M:=none) (k:=0) hm (fun i hi=>by omega) h2 trivial ?_
         show ff P none (oP P ops) ops _ (ops.toList.take 0) _ _
         rw[List.take_zero,List.drop_zero]
         exact cH (M:=none) hNG (fun E' a' w' k1 k2 k3 _ k4=>hK E' a' w' k1 k2 k3 k4) ops.toList hW E a _ hH (.refl _ _) hd trivial h
       |false=>
       rw[hk0] at h
       obtain⟨G,h3,h4⟩:=h
       refine gq (M:=some G) hm (fun _ _=>rfl) h2 h3 (cH hNG (fun E' a' w' k1 k2 k3 _ k4=>?_) (ops.toList.take _) (fun o ho=>hW o (List.mem_of_mem_take ho)) E a _ hH (.refl _ _) hd h3 h4)
       exact cH (M:=none) hNG (fun E' a' w' k1 k2 k3 _ k4=>hK E' a' w' k1 k2 k3 k4) (ops.toList.drop _) (fun o ho=>hW o (List.mem_of_mem_drop ho)) E' a' w' k1 k2 k3 trivial k4
     |false=>
       rw[h2] at h
       simp only[cond_false] at h
def mz (ops:Array Oper) (l:List Nat):List Oper:=l.flatMap fun i=>(ops.toList.drop i).take 1
def FC (P:Program) (N:Nat) (L:List Nat) (ops:Array Oper) (M:Option (Heap→Prop)) (f c:Nat):List Nat→List bK→Heap→(List bK→Heap→Prop)→Prop
 |[],E,H,K=>gU P N L ops M (mz ops [f]) E H K
 |i::l,E,H,K=>bif Nat.ble c i then gU P N L ops M (mz ops (f::i::l)) E H K else
   bif fQ P L ops f c i then gU P N L ops M (mz ops (f::i::l)) E H K∧gU P N L ops M (mz ops [i]) E H (fun E' H'=>FC P N L ops M f c l E' H' K)
   else gU P N L ops M (mz ops [i]) E H fun E' H'=>FC P N L ops M f c l E' H' K
def Fo (f c:Nat) (P:Program) (N:Nat) (ops:Array Oper) (E:List bK) (H:Heap) (K:List bK→Heap→Prop):Prop:=
 let L:=oP P ops
 bif pv P L ops f c (eZ ops.toList []) then ∃G:Heap→Prop,G H∧FC P N L ops (some G) f c (ir ops.size f) E H K else False
theorem lO {M:Option (Heap→Prop)} {L:List Nat} {ops:Array Oper} {K:Act→World→Prop}:∀(l:List Nat),(∀i∈l,i<ops.size)→dO P M ops.size L ops K l=ff P M L ops K (mz ops l)
 |[],_=>rfl
 |i::l,h=>by
   have hi:=h i List.mem_cons_self
   have ih:=lO (M:=M) (L:=L) (K:=K) l fun k hk=>h k (List.mem_cons_of_mem _ hk)
   have e:(ops.toList.drop i).take 1=[ops[i]]:=by
    rw[List.drop_eq_getElem_cons (by simpa using hi)];simp
   have e2:mz ops (i::l)=ops[i]::mz ops l:=by
    unfold mz;rw[List.flatMap_cons,e];rfl
   have mi:mu M ops.size i=M:=by unfold mu;rw[eT.2 hi];rfl
   rw[e2]
   funext a w
   simp only[dO,ff,bT,Array.getElem?_eq_getElem hi,mi,ih]
theorem xD (hNG:kB P) {L:List Nat} {ops:Array Oper} {M:Option (Heap→Prop)} {f c:Nat} {K:List bK→Heap→Prop} {K':Act→World→Prop} {W:List Nat} {a0:Act} {w0:World}
  (hK:∀E' a' w',Holds N D E' a'→gF W a0 a'→Alike w0 w'→im M w'.heap→K E' w'.heap→K' a' w') (hf:f<ops.size) (hW:∀o∈ops.toList,∀d,o.dst=some d→W.contains d=true):
  ∀(l:List Nat),(∀i∈l,i<ops.size)→∀(E:List bK) (a:Act) (w:World),Holds N D E a→gF W a0 a→Alike w0 w→im M w.heap→FC P N L ops M f c l E w.heap K→ia P M L ops f c K' l a w:=by
 have hWi:∀l:List Nat,∀o∈mz ops l,∀d,o.dst=some d→W.contains d=true:=fun l o ho=>by
  unfold mz at ho
  obtain⟨i,_,hi⟩:=List.mem_flatMap.1 ho
  exact hW o (List.mem_of_mem_drop (List.mem_of_mem_take hi))
 intro l
 induction l with
 |nil=>
   intro _ E a w hH hS hA hG h
   unfold ia
   rw[lO [f] fun i hi=>by rw[List.mem_singleton] at hi;subst hi;exact hf]
   exact cH hNG hK _ (hWi _) E a w hH hS hA hG h
 |cons i l ih=>
   intro hl E a w hH hS hA hG h
   have hi:=hl i List.mem_cons_self
   have ih':=ih fun k hk=>hl k (List.mem_cons_of_mem _ hk)
   have full:gU P N L ops M (mz ops (f::i::l)) E w.heap K→dO P M ops.size L ops K' (f::i::l) a w:=fun hx=>by
    rw[lO (f::i::l) fun k hk=>by
     rcases List.mem_cons.1 hk with q|q
     ·subst q;exact hf
     ·exact hl k q]
    exact cH hNG hK _ (hWi _) E a w hH hS hA hG hx
   have one:gU P N L ops M (mz ops [i]) E w.heap (fun E' H'=>FC P N L ops M f c l E' H' K)→bT P M ops.size L ops i (ia P M L ops f c K' l) a w:=fun hx=>by
    have:=cH (K':=ia P M L ops f c K' l) hNG (fun E' a' w' h1 h2 h3 h4 h5=>ih' E' a' w' h1 h2 h3 h4 h5) _ (hWi [i]) E a w hH hS hA hG hx
    rw[←lO [i] fun k hk=>by rw[List.mem_singleton] at hk;subst hk;exact hi] at this
    exact this
   unfold FC at h
   unfold ia
   cases hb:Nat.ble c i with
   |true=>rw[hb] at h;exact full h
   |false=>
     rw[hb] at h
     cases hs:fQ P L ops f c i with
     |true=>rw[hs] at h;exact⟨full h.1,one h.2⟩
     |false=>rw[hs] at h;exact one h
theorem ve (hNG:kB P) (hm:P.follows .mixedOrders=true) {f c:Nat} {rn:Option Nat} {id:Nat} {ops:Array Oper} {E:List bK} {a:Act} {w:World} {K:List bK→Heap→Prop} {Q:Exit→Act→World→Prop}
  (hH:Holds N D E a) (hK:∀E' a' w',Holds N D E' a'→gF (Aj ops.toList) a a'→Alike w w'→K E' w'.heap→Q .normal a' w')
  (h:Fo f c P N ops E w.heap K):(Code.region id ops true).wpIn (FW rn) 0 P Q a w:=by
 have hW:∀o∈ops.toList,∀d,o.dst=some d→(Aj ops.toList).contains d=true:=by
  intro o ho d hd
  rw[List.contains_iff_mem]
  exact List.mem_filterMap.2 ⟨o,ho,hd⟩
 have hd:Alike w {w with drawn:=w.drawn+1}:=.of_le rfl (Nat.le_succ _)
 unfold Fo at h
 simp only at h
 cases h2:pv P (oP P ops) ops f c (eZ ops.toList []) with
 |false=>rw[h2] at h;exact h.elim
 |true=>
   rw[h2] at h
   obtain⟨G,h3,h4⟩:=h
   have hF:=nJ h2
   exact nQ (M:=some G) hm rfl h2 h3 (xD hNG (fun E' a' w' k1 k2 k3 _ k4=>hK E' a' w' k1 k2 k3 k4) (Nat.lt_trans hF.fc hF.cn) hW _ (fun i hi=>List.mem_range.1 (List.mem_filter.1 hi).1) E a _ hH (.refl _ _) hd h3 h4)
end
end Go.Proofs.YtdpdmbceakdlmaaGreatDoor
